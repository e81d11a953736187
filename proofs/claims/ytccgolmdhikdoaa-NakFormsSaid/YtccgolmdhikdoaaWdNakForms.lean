/- The law NakForms, a closed one that reaches slices.Insert: the evaluator tells true. -/
import Derived.Test.YtccgolmdhikdoaaBae
namespace Go.Proofs.Ytccgolmdhikdoaa.Ba
open Go.Ab
set_option maxRecDepth 1000000

def SF : Specs := []
theorem ok_SF : SpecsOk SF := ok_nil
theorem quick_NakForms : tellsTrue ((frun (env SF) 100000).1 6 [] AHeap.empty) = true := by kernel_rfl
theorem law_NakForms : EndsV (callV (env SF) 6 [] AHeap.empty) fun v _ => v = .bool true := by
  have h : tellsTrue (acall (env SF) 100000 6 [] AHeap.empty) = true := tells_F (fok SF) quick_NakForms
  unfold tellsTrue at h
  split at h
  · rename_i H1 hH
    exact ⟨_, _, callV_iff.2 ⟨_, hH⟩, rfl⟩
  · cases h
end Go.Proofs.Ytccgolmdhikdoaa.Ba
