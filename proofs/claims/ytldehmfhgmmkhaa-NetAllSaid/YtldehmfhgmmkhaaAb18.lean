/- slices.overlaps, an entry of the model's: at slices in two blocks of the call's own it says no. -/
import Derived.Test.YtldehmfhgmmkhaaAb17
import Derived.Lib.Overlaps
set_option linter.unusedVariables false
set_option linter.unusedSimpArgs false
set_option linter.unusedSectionVars false
namespace Go.Ab
open Go.RowKit
end Go.Ab
