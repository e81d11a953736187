/- Closed laws: a law without arguments that the evaluator finds true returns true, and leaves all that was there as it was. -/
import Derived.Test.YtmogepinpdibdaaAb14
import Derived.KernelRfl
set_option linter.unusedVariables false
set_option linter.unusedSimpArgs false
set_option linter.unusedSectionVars false
namespace Go.Ab
open Go.RowKit

theorem concL_nil {ρ : Rho} : concL ρ [] = some [] := by simp [concL]

theorem sim_empty {B : Nat} {w : World} : Sim B (fun _ => none) w AHeap.empty :=
  ⟨fun r L h => by simp at h, fun r L o h => by simp at h, fun r r' L L' o o' _ h => by simp at h⟩

theorem closed_calls {P : Program} {E : Env} (hE : EnvOk P E) {f n : Nat} (hf : E.spec f = none) (h : tellsTrue (acall E n f [] AHeap.empty) = true) (W : World) :
    Calls P f #[] W fun e W' => e = .returned (.bool true) ∧ Below W.heap.size W W' := by
  unfold tellsTrue at h
  split at h
  · rename_i H hH
    have := ((sound hE n).1 f [] _ _ _ hf hH).2 W.heap.size (fun _ => none) W [] (Nat.le_refl _) sim_empty concL_nil
    refine this.mono fun e W' ⟨ρ', x, he, hx, _, _, hb, _⟩ => ?_
    simp [conc] at hx
    subst hx
    exact ⟨he, hb⟩
  · cases h

end Go.Ab
