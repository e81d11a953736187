/- What the Feed laws lean on: the natives' rules. -/
import Derived.Test.YtmogepinpdibdaaPcFeed
import Derived.Test.YtmogepinpdibdaaWcIi0
set_option linter.unusedVariables false
set_option linter.unusedSimpArgs false
namespace Go.Proofs.Ytmogepinpdibdaa.Pf
open Go.Ab
set_option maxRecDepth 100000
def S0 : Specs := [(68, exactOr 2 (gInsG 2 24))]
theorem ok_S0 : SpecsOk S0 := ok_cons Bi.WcIi0.ok_gIns ok_nil
theorem begun_runs : tellsTrue ((frun (env S0) 100000).1 13 [] AHeap.empty) = true := by kernel_rfl
theorem begun_ok : SpecOk Try.prog 13 gTrue := SpecOk.closedP (envOk ok_S0) rfl (tells_F (fok S0) begun_runs)
def S1 : Specs := [(13, gTrue), (68, exactOr 2 (gInsG 2 24))]
theorem ok_S1 : SpecsOk S1 := ok_cons begun_ok ok_S0
theorem pe1 : PEnvOk (env S1) (penv P1) := by
  refine penvOk (by decide) fun q hq => ?_
  simp only [P1, List.mem_cons, List.not_mem_nil, or_false] at hq
  rcases hq with rfl | rfl | rfl | rfl
  · exact yes_ok (by decide) rfl
  · exact clone_slices_Clone_api_Event_api_Event rfl
  · exact clone_slices_Clone_api_Item_api_Item rfl
  · exact ins_okP (by decide) rfl
end Go.Proofs.Ytmogepinpdibdaa.Pf
