/- The law KidsHeard. -/
import Derived.Test.YtccgolmdhikdoaaPvF
import Derived.Test.YtccgolmdhikdoaaWcIi1
import Derived.Test.YtccgolmdhikdoaaPdKidsHeard
set_option linter.unusedVariables false
set_option linter.unusedSimpArgs false
namespace Go.Proofs.Ytccgolmdhikdoaa.Pk
open Go.Ab
set_option maxRecDepth 100000
def S0 : Specs := [(77, exactOr 3 (gInsG 3 24))]
theorem ok_S0 : SpecsOk S0 := ok_cons Bi.WcIi1.ok_gIns ok_nil
theorem begun6_runs : tellsTrue ((frun (env S0) 100000).1 47 [] AHeap.empty) = true := by kernel_rfl
theorem begun6_ok : SpecOk Try.prog 47 gTrue := SpecOk.closedP (envOk ok_S0) rfl (tells_F (fok S0) begun6_runs)
def S1 : Specs := [(47, gTrue), (77, exactOr 3 (gInsG 3 24))]
theorem ok_S1 : SpecsOk S1 := ok_cons begun6_ok ok_S0
theorem pe1 : PEnvOk (env S1) (penv P1) := by
  refine penvOk (by decide) fun q hq => ?_
  simp only [P1, List.mem_cons, List.not_mem_nil, or_false] at hq
  rcases hq with rfl | rfl | rfl
  · exact yes_ok (by decide) rfl
  · exact clone_slices_Clone_api_Kid_api_Kid rfl
  · exact ins_okP (by decide) rfl
theorem law_KidsHeard {H : AHeap} (v : AV) (L : List (List Int)) (hL : Els 3 trip H v L) (hl : L.length ≤ maxLen) (rL : ∀ a ∈ L, a.length = 3 ∧ ∀ i ∈ a, IntKind.u8.min ≤ i ∧ i ≤ IntKind.u8.max)
    (n : Int) (hn : IntKind.u8.min ≤ n ∧ n ≤ IntKind.u8.max) :
    EndsV (callV (env S1) 12 [v, .int .u8 n] H) fun v _ => v = .bool true := by
  refine law_ends pe1 (by decide) (heard_true (L := L) rL hn _) (RL.cons hL.rv (RL.cons RV.int RL.nil'))
end Go.Proofs.Ytccgolmdhikdoaa.Pk
