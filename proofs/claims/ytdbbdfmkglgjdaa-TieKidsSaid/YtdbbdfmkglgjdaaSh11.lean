/- Structs and arrays that came in as arguments. -/
import Derived.Test.YtdbbdfmkglgjdaaSh10
set_option linter.unusedVariables false
set_option linter.unusedSimpArgs false
set_option linter.unusedSectionVars false
namespace Go.Ab
section
variable {P : Program} {w : World} {r : Reach} {base : Nat}
end
end Go.Ab
