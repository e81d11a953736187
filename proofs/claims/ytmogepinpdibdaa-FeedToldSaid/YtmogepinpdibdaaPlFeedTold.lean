/- The law FeedTold. -/
import Derived.Test.YtmogepinpdibdaaPvF
import Derived.Test.YtmogepinpdibdaaPdFeedTold
set_option linter.unusedVariables false
set_option linter.unusedSimpArgs false
namespace Go.Proofs.Ytmogepinpdibdaa.Pf
open Go.Ab
set_option maxRecDepth 100000
theorem law_FeedTold {H : AHeap} (v : AV) (L : List (List Int)) (hL : Els 3 trip H v L) (hl : L.length ≤ maxLen) (rL : ∀ a ∈ L, a.length = 3 ∧ ∀ i ∈ a, IntKind.u8.min ≤ i ∧ i ≤ IntKind.u8.max) :
    EndsV (callV (env S1) 6 [v] H) fun v _ => v = .bool true := by
  refine law_ends pe1 (by decide) (told_true (L := L) rL _) (RL.cons hL.rv RL.nil')
end Go.Proofs.Ytmogepinpdibdaa.Pf
