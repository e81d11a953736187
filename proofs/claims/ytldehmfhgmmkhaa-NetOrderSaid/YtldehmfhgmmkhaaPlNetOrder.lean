/- The law NetOrder. -/
import Derived.Test.YtldehmfhgmmkhaaPdNetOrder
import Derived.Test.YtldehmfhgmmkhaaWcIe0
set_option linter.unusedVariables false
set_option linter.unusedSimpArgs false
namespace Go.Proofs.Ytldehmfhgmmkhaa.Pn
open Go.Ab
set_option maxRecDepth 100000
def S0 : Specs := [(60, gDelG 3 32 [.int .i64 0, .str [], .bool false])]
theorem ok_S0 : SpecsOk S0 := ok_cons Be.WcIe0.ok_gDel ok_nil
theorem begun_runs : tellsTrue ((frun (env S0) 100000).1 28 [] AHeap.empty) = true := by kernel_rfl
theorem begun_ok : SpecOk Try.prog 28 gTrue := SpecOk.closedP (envOk ok_S0) rfl (tells_F (fok S0) begun_runs)
def S1 : Specs := [(28, gTrue), (60, gDelG 3 32 [.int .i64 0, .str [], .bool false])]
theorem ok_S1 : SpecsOk S1 := ok_cons begun_ok ok_S0
theorem pe1 : PEnvOk (env S1) (penv P1) := by
  refine penvOk (by decide) fun q hq => ?_
  simp only [P1, List.mem_cons, List.not_mem_nil, or_false] at hq
  rcases hq with rfl | rfl | rfl
  · exact yes_ok (by decide) rfl
  · exact clone_slices_Clone_api_Gram_api_Gram rfl
  · exact del_okP (by decide) rfl rfl rfl
theorem law_NetOrder {H : AHeap} (v : AV) (A : List Int) (hA : rdI .u8 H v = some A) (hl : A.length ≤ maxLen) (rA : ∀ n ∈ A, IntKind.u8.min ≤ n ∧ n ≤ IntKind.u8.max) (hc : capOk v = true)
    (w : AV) (B : List Int) (hB : rdI .u8 H w = some B) (hlB : B.length ≤ maxLen) (rB : ∀ n ∈ B, IntKind.u8.min ≤ n ∧ n ≤ IntKind.u8.max) (hcB : capOk w = true) :
    EndsV (callV (env S1) 10 [v, w] H) fun v _ => v = .bool true := by
  refine law_ends pe1 (by decide) ⟨_, order_true (A := A) (B := B) rA rB⟩ (RL.cons (RV.ints hA hc) (RL.cons (RV.ints hB hcB) RL.nil'))
end Go.Proofs.Ytldehmfhgmmkhaa.Pn
