/- The law WinOrder. -/
import Derived.Test.YtcledejamnnbmaaPmWin
import Derived.Test.YtcledejamnnbmaaPdWinOrder
set_option linter.unusedVariables false
set_option linter.unusedSimpArgs false
namespace Go.Proofs.Ytcledejamnnbmaa.Ps
open Go.Ab
set_option maxRecDepth 100000
theorem law_WinOrder {H : AHeap} (v : AV) (A : List Int) (hA : rdI .u8 H v = some A) (hl : A.length ≤ maxLen) (rA : ∀ n ∈ A, IntKind.u8.min ≤ n ∧ n ≤ IntKind.u8.max) (hc : capOk v = true) :
    EndsV (callV (env S1) 6 [v] H) fun v _ => v = .bool true := by
  refine law_ends pe1 (by decide) (order_true (A := A) rA _) (RL.cons (RV.ints hA hc) RL.nil')
end Go.Proofs.Ytcledejamnnbmaa.Ps
