/- Closed laws: a law without arguments that the evaluator finds true returns true, and leaves all that was there as it was. -/
import Derived.Test.YtccgolmdhikdoaaAb14
import Derived.KernelRfl
set_option linter.unusedVariables false
set_option linter.unusedSimpArgs false
set_option linter.unusedSectionVars false
namespace Go.Ab
open Go.RowKit
theorem concL_nil {ρ : Rho} : concL ρ [] = some [] := by simp [concL]
theorem sim_empty {B : Nat} {w : World} : Sim B (fun _ => none) w AHeap.empty :=
  ⟨fun r L h => by simp at h, fun r L o h => by simp at h, fun r r' L L' o o' _ h => by simp at h⟩
end Go.Ab
