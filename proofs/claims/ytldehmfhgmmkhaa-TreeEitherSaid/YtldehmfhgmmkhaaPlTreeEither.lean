/- The law TreeEither. -/
import Derived.Test.YtldehmfhgmmkhaaPpTreeEither
set_option linter.unusedVariables false
set_option linter.unusedSimpArgs false
namespace Go.Proofs.Ytldehmfhgmmkhaa.Pt
open Go.Ab
set_option maxRecDepth 100000

theorem begun_runs : tellsTrue ((frun (env []) 100000).1 40 [] AHeap.empty) = true := by kernel_rfl
def S1 : Specs := [(40, gTrue)]
theorem ok_S1 : SpecsOk S1 := ok_cons (closedOk begun_runs) ok_nil
theorem pe1 : PEnvOk (env S1) (penv P1) := by
  refine penvOk (by decide) fun q hq => ?_
  simp only [P1, List.mem_cons, List.not_mem_nil, or_false] at hq
  rcases hq with rfl | rfl
  · exact yes_ok (by decide) rfl
  · exact clone_slices_Clone_int_intx rfl
theorem law_TreeEither {H : AHeap} (v : AV) (A : List Int) (hA : rdI .u8 H v = some A) (hl : A.length ≤ maxLen) (rA : ∀ n ∈ A, IntKind.u8.min ≤ n ∧ n ≤ IntKind.u8.max) (hc : capOk v = true) :
    EndsV (callV (env S1) 11 [v] H) fun v _ => v = .bool true := by
  refine law_ends pe1 (by decide) ⟨_, either_true plainE (A := A) rA⟩ (RL.cons (RV.ints hA hc) RL.nil')
end Go.Proofs.Ytldehmfhgmmkhaa.Pt
