/- Slices as lists: what is read through them; and arguments that came in. -/
import Derived.Test.YtdbbdfmkglgjdaaSh9
import Derived.ChangeSlices
import Derived.SliceStrings
set_option linter.unusedVariables false
set_option linter.unusedSimpArgs false
set_option linter.unusedSectionVars false
namespace Go.Ab
open Go.RowKit

def elp (z : Nat) (v : AV) (i : Int) : AV := match v with
  | .sl r o _ _ => .ptr r (o + i.toNat * z)
  | _ => undefA
section
variable {α : Type} {z : Nat} {dec : List AV → Option α} {H : AHeap} {v : AV} {l : List α}
end
section
variable {k : IntKind} {H : AHeap} {v : AV} {l : List Int}
end

def Laid (W : World) (vs : List Value) (avs : List AV) (H : AHeap) : Prop := ∃ ρ, Sim W.heap.size ρ W H ∧ concL ρ avs = some vs
theorem laid_nil (W : World) : Laid W [] [] AHeap.empty := ⟨fun _ => none, sim_empty, rfl⟩
theorem Laid.plain {W : World} {vs : List Value} {avs : List AV} {H : AHeap} (h : Laid W vs avs H) {v : Value} {av : AV} (hv : ∀ ρ, conc ρ av = some v) : Laid W (vs ++ [v]) (avs ++ [av]) H := by
  obtain ⟨ρ, hs, hc⟩ := h
  exact ⟨ρ, hs, concL_append hc (concL_mk (hv ρ) rfl)⟩
theorem Laid.sl {W : World} {vs : List Value} {avs : List AV} {H : AHeap} (h : Laid W vs avs H) {blk off len cap z : Nat} {cs : List AV} (hb : blk < W.heap.size) (hl : len ≤ cap)
    (hcs : ∀ i v, cs[i]? = some v → ∃ x, (∀ ρ, conc ρ v = some x) ∧ W.cell? ⟨blk, off + i, none⟩ = some x) :
    Laid W (vs ++ [.slice (some ⟨blk, off, none⟩) len cap]) (avs ++ [.sl H.size 0 len (.ex cap)]) (H.push (some (.cells .ro z cs))) := by
  obtain ⟨ρ, hs, hc⟩ := h
  have hf := hs.fresh
  have hle : ρ.le (ρ.add H.size (Loc.at blk off cap)) := fun r L hr => by
    have := (hs.dom r L hr).1
    simp only [Rho.add]; rw [if_neg (by omega)]; exact hr
  refine ⟨ρ.add H.size (Loc.at blk off cap), ⟨fun r L hr => ?_, fun r L o hr ho => ?_, ?_⟩, concL_append (concL_mono hle _ _ hc) (concL_mk ?_ rfl)⟩
  · simp only [Rho.add] at hr
    split at hr
    · obtain rfl := Option.some.inj hr
      rename_i e
      exact ⟨by rw [AHeap.size_push]; omega, hb⟩
    · exact ⟨by rw [AHeap.size_push]; have := (hs.dom r L hr).1; omega, (hs.dom r L hr).2⟩
  · simp only [Rho.add] at hr
    rw [AHeap.get_push] at ho
    split at hr
    · rename_i e
      rw [if_pos e] at ho
      obtain rfl := Option.some.inj hr
      obtain rfl := Option.some.inj ho
      refine ⟨hb, fun i v hv => ?_⟩
      obtain ⟨x, h1, h2⟩ := hcs i v hv
      exact ⟨x, h1 _, h2⟩
    · rename_i e
      rw [if_neg e] at ho
      exact (hs.obj r L o hr ho).mono hle
  · intro r r' L L' o o' hne hr hr' ho ho' hw hw'
    simp only [Rho.add] at hr hr'
    rw [AHeap.get_push] at ho ho'
    split at hr
    · rename_i e
      rw [if_pos e] at ho
      obtain rfl := Option.some.inj ho
      cases hw
    · rename_i e
      rw [if_neg e] at ho
      split at hr'
      · rename_i e'
        rw [if_pos e'] at ho'
        obtain rfl := Option.some.inj ho'
        cases hw'
      · rename_i e'
        rw [if_neg e'] at ho'
        exact hs.inj r r' L L' o o' hne hr hr' ho ho' hw hw'
  · simp only [conc, Rho.add, if_pos, Loc.at]
    rw [if_pos hl]
    simp
theorem open_calls {P : Program} {E0 E : Env} (hE : EnvOk P E0) (hst : Strips E0 E) {f : Nat} (hf : E0.spec f = none) {W : World} {vs : List Value} {avs : List AV} {H : AHeap} (hl : Laid W vs avs H)
    (h : EndsV (callV E f avs H) fun v _ => v = .bool true) : Calls P f vs.toArray W fun e W' => e = .returned (.bool true) ∧ Below W.heap.size W W' := by
  obtain ⟨v, H1, hc, rfl⟩ := h
  obtain ⟨n, hn⟩ := callV_iff.1 (strips_call hst hc)
  obtain ⟨ρ, hs, hx⟩ := hl
  refine (((sound hE n).1 f avs H _ _ hf hn).2 W.heap.size ρ W vs (Nat.le_refl _) hs hx).mono fun e W' ⟨ρ', x, he, hx, _, _, hb, _⟩ => ?_
  simp [conc] at hx
  subst hx
  exact ⟨he, hb⟩
section
variable {P : Program} {w : World} {r : Reach} {base : Nat}
def capOk : AV → Bool
  | .sl _ _ n (.ex c) => decide (n ≤ c)
  | _ => true
end
end Go.Ab
