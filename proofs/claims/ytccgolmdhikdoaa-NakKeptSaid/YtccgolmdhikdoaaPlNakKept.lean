/- The law NakKept. -/
import Derived.Test.YtccgolmdhikdoaaPcFeed2
import Derived.Test.YtccgolmdhikdoaaPdNakKept
set_option linter.unusedVariables false
set_option linter.unusedSimpArgs false
namespace Go.Proofs.Ytccgolmdhikdoaa.Pn
open Go.Ab
set_option maxRecDepth 100000
theorem law_NakKept {H : AHeap} (v : AV) (A : List Int) (hA : rdI .u8 H v = some A) (hl : A.length ≤ maxLen) (rA : ∀ n ∈ A, IntKind.u8.min ≤ n ∧ n ≤ IntKind.u8.max) (hc : capOk v = true)
    (n : Int) (hn : IntKind.u8.min ≤ n ∧ n ≤ IntKind.u8.max) :
    EndsV (callV (env S1) 4 [v, .int .u8 n] H) fun v _ => v = .bool true := by
  refine law_ends pe1 (by decide) (kept_true (L := A) rA hn) (RL.cons (RV.ints hA hc) (RL.cons RV.int RL.nil'))
end Go.Proofs.Ytccgolmdhikdoaa.Pn
