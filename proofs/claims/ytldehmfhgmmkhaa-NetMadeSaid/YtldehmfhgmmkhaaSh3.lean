/- The evaluator with what follows handed on. -/
import Derived.Test.YtldehmfhgmmkhaaSh2
set_option linter.unusedVariables false
set_option linter.unusedSimpArgs false
set_option linter.unusedSectionVars false
namespace Go.Ab
theorem bnS_bind {β γ : Type} (o : Option (AV × AHeap)) (k : AV → AHeap → Option β) (g : β → Option γ) : (bnS o k).bind g = bnS o fun v H => (k v H).bind g := by
  cases o with
  | none => rfl
  | some x => rfl
def cndS {β : Type} (v : AV) (a b : Unit → Option β) : Option β := match v with
  | .bool true => a ()
  | .bool false => b ()
  | _ => none
end Go.Ab
