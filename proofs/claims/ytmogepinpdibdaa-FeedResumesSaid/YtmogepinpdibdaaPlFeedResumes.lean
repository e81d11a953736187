/- The law FeedResumes. -/
import Derived.Test.YtmogepinpdibdaaPlFeedS
import Derived.Test.YtmogepinpdibdaaPdFeedR
set_option linter.unusedVariables false
set_option linter.unusedSimpArgs false
namespace Go.Proofs.Ytmogepinpdibdaa.Pf
open Go.Ab
set_option maxRecDepth 100000
theorem law_FeedResumes {H : AHeap} (v : AV) (A : List Int) (hA : rdI .u8 H v = some A) (hl : A.length ≤ maxLen) (rA : ∀ n ∈ A, IntKind.u8.min ≤ n ∧ n ≤ IntKind.u8.max) (hc : capOk v = true)
    (w : AV) (B : List Int) (hB : rdI .u8 H w = some B) (hlB : B.length ≤ maxLen) (rB : ∀ n ∈ B, IntKind.u8.min ≤ n ∧ n ≤ IntKind.u8.max) (hcB : capOk w = true)
    (m : Int) (hm : IntKind.u8.min ≤ m ∧ m ≤ IntKind.u8.max) :
    EndsV (callV (env S1) 11 [v, w, .int .u8 m] H) fun v _ => v = .bool true := by
  refine law_ends pe1 (by decide) ⟨_, resumes_true (A := A) (B := B) rA rB hm⟩ (RL.cons (RV.ints hA hc) (RL.cons (RV.ints hB hcB) (RL.cons RV.int RL.nil')))
end Go.Proofs.Ytmogepinpdibdaa.Pf
