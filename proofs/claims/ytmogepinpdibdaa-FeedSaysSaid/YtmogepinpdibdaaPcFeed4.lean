/- What the document's functions for feed come to: the same. -/
import Derived.Test.YtmogepinpdibdaaPcFeed3
set_option linter.unusedVariables false
set_option linter.unusedSimpArgs false
namespace Go.Proofs.Ytmogepinpdibdaa.Pf
open Go.Ab Go.Feed
set_option maxRecDepth 100000
section
variable {Q : AHeap}
def putT (l : List It) (p : Nat) (x : It) (i : Nat) : List It := if i ≤ p then l.take i else l.take p ++ [x] ++ (l.drop p).take (i - p)
end
end Go.Proofs.Ytmogepinpdibdaa.Pf
