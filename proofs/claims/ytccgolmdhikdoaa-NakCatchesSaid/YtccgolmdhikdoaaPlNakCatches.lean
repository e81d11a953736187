/- The law NakCatches. -/
import Derived.Test.YtccgolmdhikdoaaPcFeed2
import Derived.Test.YtccgolmdhikdoaaPdNakCatches
set_option linter.unusedVariables false
set_option linter.unusedSimpArgs false
namespace Go.Proofs.Ytccgolmdhikdoaa.Pn
open Go.Ab
set_option maxRecDepth 100000
theorem law_NakCatches {H : AHeap} (v : AV) (A : List Int) (hA : rdI .u8 H v = some A) (hl : A.length ≤ maxLen) (rA : ∀ n ∈ A, IntKind.u8.min ≤ n ∧ n ≤ IntKind.u8.max) (hc : capOk v = true)
    (w : AV) (B : List Int) (hB : rdI .u8 H w = some B) (hlB : B.length ≤ maxLen) (rB : ∀ n ∈ B, IntKind.u8.min ≤ n ∧ n ≤ IntKind.u8.max) (hcB : capOk w = true) :
    EndsV (callV (env S1) 7 [v, w] H) fun v _ => v = .bool true := by
  refine law_ends pe1 (by decide) (catches_true (L := A) (M := B) rA rB) (RL.cons (RV.ints hA hc) (RL.cons (RV.ints hB hcB) RL.nil'))
end Go.Proofs.Ytccgolmdhikdoaa.Pn
