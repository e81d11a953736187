/- The law FeedForms, a closed one that reaches slices.Insert: the evaluator tells true. -/
import Derived.Test.YtmogepinpdibdaaBfe
import Derived.Test.YtmogepinpdibdaaWcIf0
namespace Go.Proofs.Ytmogepinpdibdaa.Bf
open Go.Ab
set_option maxRecDepth 1000000

def SF : Specs := [(68, WcIf0.gIns)]
theorem ok_SF : SpecsOk SF := (ok_cons WcIf0.ok_gIns ok_nil)
theorem SF_slices_Insert_api_Item_api_Item (args : List AV) (H : AHeap) : callV (env SF) 68 args H = WcIf0.gIns args H := callV_spec rfl args H
theorem quick_FeedForms : tellsTrue ((frun (env SF) 100000).1 8 [] AHeap.empty) = true := by kernel_rfl
theorem law_FeedForms : EndsV (callV (env SF) 8 [] AHeap.empty) fun v _ => v = .bool true := by
  have h : tellsTrue (acall (env SF) 100000 8 [] AHeap.empty) = true := tells_F (fok SF) quick_FeedForms
  unfold tellsTrue at h
  split at h
  · rename_i H1 hH
    exact ⟨_, _, callV_iff.2 ⟨_, hH⟩, rfl⟩
  · cases h
end Go.Proofs.Ytmogepinpdibdaa.Bf
