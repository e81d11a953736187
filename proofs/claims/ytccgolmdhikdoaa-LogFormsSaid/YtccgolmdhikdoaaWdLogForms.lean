/- The law LogForms, a closed one that reaches slices.Insert: the evaluator tells true. -/
import Derived.Test.YtccgolmdhikdoaaBje
import Derived.Test.YtccgolmdhikdoaaWcIj0
namespace Go.Proofs.Ytccgolmdhikdoaa.Bj
open Go.Ab
set_option maxRecDepth 1000000

def SF : Specs := [(93, WcIj0.gIns)]
theorem ok_SF : SpecsOk SF := (ok_cons WcIj0.ok_gIns ok_nil)
theorem SF_slices_Insert_api_Span_api_Span (args : List AV) (H : AHeap) : callV (env SF) 93 args H = WcIj0.gIns args H := callV_spec rfl args H
theorem quick_LogForms : tellsTrue ((frun (env SF) 100000).1 10 [] AHeap.empty) = true := by kernel_rfl
theorem law_LogForms : EndsV (callV (env SF) 10 [] AHeap.empty) fun v _ => v = .bool true := by
  have h : tellsTrue (acall (env SF) 100000 10 [] AHeap.empty) = true := tells_F (fok SF) quick_LogForms
  unfold tellsTrue at h
  split at h
  · rename_i H1 hH
    exact ⟨_, _, callV_iff.2 ⟨_, hH⟩, rfl⟩
  · cases h
end Go.Proofs.Ytccgolmdhikdoaa.Bj
