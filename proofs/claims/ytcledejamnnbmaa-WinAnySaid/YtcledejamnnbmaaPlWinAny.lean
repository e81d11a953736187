/- The law WinAny. -/
import Derived.Test.YtcledejamnnbmaaPlSpanS
import Derived.Test.YtcledejamnnbmaaPdWinAny
set_option linter.unusedVariables false
set_option linter.unusedSimpArgs false
namespace Go.Proofs.Ytcledejamnnbmaa.Ps
open Go.Ab
set_option maxRecDepth 100000
theorem law_WinAny {H : AHeap} (v : AV) (A : List Int) (hA : rdI .u8 H v = some A) (hl : A.length ≤ maxLen) (rA : ∀ n ∈ A, IntKind.u8.min ≤ n ∧ n ≤ IntKind.u8.max) (hc : capOk v = true)
    (n : Int) (hn : IntKind.u8.min ≤ n ∧ n ≤ IntKind.u8.max) (m : Int) (hm : IntKind.u8.min ≤ m ∧ m ≤ IntKind.u8.max) :
    EndsV (callV (env S1) 7 [v, .int .u8 n, .int .u8 m] H) fun v _ => v = .bool true := by
  refine law_ends pe1 (by decide) ⟨_, any_true (A := A) rA hn hm⟩ (RL.cons (RV.ints hA hc) (RL.cons RV.int (RL.cons RV.int RL.nil')))
end Go.Proofs.Ytcledejamnnbmaa.Ps
