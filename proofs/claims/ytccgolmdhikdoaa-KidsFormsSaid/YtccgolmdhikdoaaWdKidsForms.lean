/- The law KidsForms, a closed one that reaches slices.Insert: the evaluator tells true. -/
import Derived.Test.YtccgolmdhikdoaaBke
import Derived.Test.YtccgolmdhikdoaaWcIk0
namespace Go.Proofs.Ytccgolmdhikdoaa.Bk
open Go.Ab
set_option maxRecDepth 1000000

def SF : Specs := [(77, WcIk0.gIns)]
theorem ok_SF : SpecsOk SF := (ok_cons WcIk0.ok_gIns ok_nil)
theorem SF_slices_Insert_api_Kid_api_Kid (args : List AV) (H : AHeap) : callV (env SF) 77 args H = WcIk0.gIns args H := callV_spec rfl args H
theorem quick_KidsForms : tellsTrue ((frun (env SF) 100000).1 13 [] AHeap.empty) = true := by kernel_rfl
theorem law_KidsForms : EndsV (callV (env SF) 13 [] AHeap.empty) fun v _ => v = .bool true := by
  have h : tellsTrue (acall (env SF) 100000 13 [] AHeap.empty) = true := tells_F (fok SF) quick_KidsForms
  unfold tellsTrue at h
  split at h
  · rename_i H1 hH
    exact ⟨_, _, callV_iff.2 ⟨_, hH⟩, rfl⟩
  · cases h
end Go.Proofs.Ytccgolmdhikdoaa.Bk
