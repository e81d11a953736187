/- The evaluator with what follows handed on. -/
import Derived.Test.YtdbbdfmkglgjdaaSh2
set_option linter.unusedVariables false
set_option linter.unusedSimpArgs false
set_option linter.unusedSectionVars false
namespace Go.Ab
def cndS {β : Type} (v : AV) (a b : Unit → Option β) : Option β := match v with
  | .bool true => a ()
  | .bool false => b ()
  | _ => none
end Go.Ab
