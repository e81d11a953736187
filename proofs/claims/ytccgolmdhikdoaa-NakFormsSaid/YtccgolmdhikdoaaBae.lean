/- Equations: what the pieces of the digested functions come to. Printed by mkeq.py of this repo. -/
import Derived.Test.YtccgolmdhikdoaaBad
namespace Go.Proofs.Ytccgolmdhikdoaa.Ba
open Go.Ab
set_option maxRecDepth 100000
set_option linter.unusedVariables false
set_option linter.unusedSimpArgs false
end Go.Proofs.Ytccgolmdhikdoaa.Ba
