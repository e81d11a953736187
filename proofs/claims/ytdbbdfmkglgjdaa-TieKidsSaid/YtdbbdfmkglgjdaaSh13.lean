/- Closed functions that the evaluator finds true, told of in the callers' stead. -/
import Derived.Test.YtdbbdfmkglgjdaaSh12
import Derived.Test.YtdbbdfmkglgjdaaAb17
set_option linter.unusedVariables false
set_option linter.unusedSimpArgs false
namespace Go.Ab
open Go.RowKit
theorem Sim.below {B : Nat} {ρ : Rho} {w w' : World} {H : AHeap} (h : Sim B ρ w H) (hb : Below w.heap.size w w') : Sim B ρ w' H :=
  ⟨fun r L hr => ⟨(h.dom r L hr).1, Nat.lt_of_lt_of_le (h.dom r L hr).2 hb.size⟩, fun r L o hr ho => (h.obj r L o hr ho).same (hb.block _ (h.dom r L hr).2), h.inj⟩
theorem SpecOk.closed {P : Program} {E0 E : Env} (hE : EnvOk P E0) (hst : Strips E0 E) {f n : Nat} (hf : E0.spec f = none) (h : tellsTrue (acall E n f [] AHeap.empty) = true) : SpecOk P f gTrue := by
  intro B ρ w H args xs v H' hB hs hx hg
  obtain ⟨rfl, rfl, rfl⟩ := gTrue_inv hg
  have hxs : xs = [] := by simpa [concL] using hx.symm
  subst hxs
  unfold tellsTrue at h
  split at h
  · rename_i H1 hH
    obtain ⟨m, hm⟩ := callV_iff.1 (strips_call hst (callV_iff.2 ⟨n, hH⟩))
    obtain ⟨h1, h2⟩ := (sound hE m).1 f [] _ _ _ hf hm
    refine Or.inl ⟨h1, (h2 w.heap.size (fun _ => none) w [] (Nat.le_refl _) sim_empty concL_nil).mono fun e w' ⟨ρ', x, he, hx, _, _, hb, _⟩ => ?_⟩
    simp [conc] at hx
    subst hx
    exact ⟨ρ, _, he, by simp [conc], Rho.ext_refl _ _, hs.below hb, ⟨hb.os, hb.tape, hb.output, hb.size, fun k hk => hb.block k (Nat.lt_of_lt_of_le hk hB)⟩, Nat.le_refl _⟩
  · cases h
end Go.Ab
