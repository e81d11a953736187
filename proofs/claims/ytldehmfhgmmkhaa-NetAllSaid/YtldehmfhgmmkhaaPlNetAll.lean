/- The law NetAll. -/
import Derived.Test.YtldehmfhgmmkhaaPdNetAll
import Derived.Test.YtldehmfhgmmkhaaWcIe0
set_option linter.unusedVariables false
set_option linter.unusedSimpArgs false
namespace Go.Proofs.Ytldehmfhgmmkhaa.Pn
open Go.Ab
set_option maxRecDepth 100000
def S0 : Specs := [(60, gDelG 3 32 [.int .i64 0, .str [], .bool false])]
theorem ok_S0 : SpecsOk S0 := ok_cons Be.WcIe0.ok_gDel ok_nil
theorem begun_runs : tellsTrue ((frun (env S0) 100000).1 28 [] AHeap.empty) = true := by kernel_rfl
theorem begun_ok : SpecOk Try.prog 28 gTrue := SpecOk.closedP (envOk ok_S0) rfl (tells_F (fok S0) begun_runs)
def S1 : Specs := [(28, gTrue), (60, gDelG 3 32 [.int .i64 0, .str [], .bool false])]
theorem ok_S1 : SpecsOk S1 := ok_cons begun_ok ok_S0
theorem pe1 : PEnvOk (env S1) (penv P1) := by
  refine penvOk (by decide) fun q hq => ?_
  simp only [P1, List.mem_cons, List.not_mem_nil, or_false] at hq
  rcases hq with rfl | rfl | rfl
  · exact yes_ok (by decide) rfl
  · exact clone_slices_Clone_api_Gram_api_Gram rfl
  · exact del_okP (by decide) rfl rfl rfl
theorem law_NetAll {H : AHeap} (v : AV) (L : List (List Int)) (hL : Els 4 quad H v L) (hl : L.length ≤ maxLen) (rL : ∀ a ∈ L, a.length = 4 ∧ ∀ i ∈ a, IntKind.u8.min ≤ i ∧ i ≤ IntKind.u8.max)
    (w : Int) (hw : IntKind.i64.min ≤ w ∧ w ≤ IntKind.i64.max) (n : Int) (hn : IntKind.i64.min ≤ n ∧ n ≤ IntKind.i64.max) (s : List UInt8) (q : Bool) :
    EndsV (callV (env S1) 7 [v, .int .i64 w, .agg [.int .i64 n, .str s, .bool q]] H) fun v _ => v = .bool true := by
  refine law_ends pe1 (by decide) ⟨_, all_true (L := L) rL ⟨n, s, q⟩ hw.2⟩ (RL.cons hL.rv (RL.cons RV.int (RL.cons (RV.agg (RL.cons RV.int (RL.cons (RV.flat rfl) (RL.cons (RV.flat rfl) RL.nil')))) RL.nil')))
end Go.Proofs.Ytldehmfhgmmkhaa.Pn
