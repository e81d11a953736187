/- The law SpanForms, a closed one that reaches slices.Insert: the evaluator tells true. -/
import Derived.Test.YtcledejamnnbmaaWcInsSpan
namespace Go.Proofs.Ytcledejamnnbmaa.Bf
open Go.Ab
set_option maxRecDepth 1000000

def SF : Specs := [(28, WcInsSpan.gIns)]
theorem ok_SF : SpecsOk SF := (ok_cons WcInsSpan.ok_gIns ok_nil)
theorem SF_slices_Insert_api_Span_api_Span (args : List AV) (H : AHeap) : callV (env SF) 28 args H = WcInsSpan.gIns args H := callV_spec rfl args H
theorem quick_SpanForms : tellsTrue ((frun (env SF) 100000).1 5 [] AHeap.empty) = true := by kernel_rfl
theorem law_SpanForms : EndsV (callV (env SF) 5 [] AHeap.empty) fun v _ => v = .bool true := by
  have h : tellsTrue (acall (env SF) 100000 5 [] AHeap.empty) = true := tells_F (fok SF) quick_SpanForms
  unfold tellsTrue at h
  split at h
  · rename_i H1 hH
    exact ⟨_, _, callV_iff.2 ⟨_, hH⟩, rfl⟩
  · cases h
end Go.Proofs.Ytcledejamnnbmaa.Bf
