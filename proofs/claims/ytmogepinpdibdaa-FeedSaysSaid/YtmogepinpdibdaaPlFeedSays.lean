/- The law FeedSays. -/
import Derived.Test.YtmogepinpdibdaaPlFeedS
import Derived.Test.YtmogepinpdibdaaPvF
import Derived.Test.YtmogepinpdibdaaPdFeedSays
set_option linter.unusedVariables false
set_option linter.unusedSimpArgs false
namespace Go.Proofs.Ytmogepinpdibdaa.Pf
open Go.Ab
set_option maxRecDepth 100000
theorem law_FeedSays {H : AHeap} (v : AV) (L : List (List UInt8)) (hL : Els 1 AV.str H v L) (hl : L.length ≤ maxLen) (rL : ∀ s ∈ L, s.length ≤ maxLen) :
    EndsV (callV (env S1) 4 [v] H) fun v _ => v = .bool true := by
  refine law_ends pe1 (by decide) ⟨_, says_true (L := L)⟩ (RL.cons hL.rv RL.nil')
end Go.Proofs.Ytmogepinpdibdaa.Pf
