/- Equations: what the pieces of the digested functions come to. Printed by mkeq.py of this repo. -/
import Derived.Test.YtldehmfhgmmkhaaBed
namespace Go.Proofs.Ytldehmfhgmmkhaa.Be
open Go.Ab
set_option maxRecDepth 100000
set_option linter.unusedVariables false
set_option linter.unusedSimpArgs false
theorem p_slices_Delete_api_Gram_api_Gram {β : Type} (call : CallF) (lp : LoopF) (v0 v1 v2 : AV) (H : AHeap) (k : AExit → Tau → AHeap → Option β) : evalK call lp c_slices_Delete_api_Gram_api_Gram [v0, v1, v2, undefA, undefA, undefA, undefA, undefA, undefA, undefA, undefA, undefA, undefA, undefA, undefA, undefA, undefA, undefA, undefA, undefA, undefA, undefA, undefA, undefA, undefA, undefA, undefA, undefA, undefA, undefA, undefA, undefA, undefA] H k =
  bnP (lenA v0) fun w12_1 => 
  bnP (slcP H 3 v0 (some v1) (some v2) (some w12_1)) fun w13_2 => 
  bnP (binA .eql v1 v2) fun w16_3 => 
  cndS w16_3 (fun _ => k .ret [v0, v1, v2, undefA, undefA, undefA, v0, undefA, v0, v1, v2, v0, w12_1, w13_2, v1, v2, w16_3, v0, undefA, undefA, undefA, undefA, undefA, undefA, undefA, undefA, undefA, undefA, undefA, undefA, undefA, undefA, undefA] H)
  (fun _ => bnP (lenA v0) fun w19_4 => 
  bnP (slcP H 3 v0 none (some v1) none) fun w22_7 => 
  bnP (slcP H 3 v0 (some v2) none none) fun w25_10 => 
  bnS (appS H 3 32 [.int .i64 0, .str [], .bool false] w22_7 w25_10) fun w26_11 H1 => 
  bnP (lenA w26_11) fun w29_13 => 
  bnP (slcP H1 3 w26_11 (some w29_13) (some w19_4) none) fun w31_14 => 
  bnS (clrA H1 3 [.int .i64 0, .str [], .bool false] w31_14) fun _ H2 => 
  k .ret [w26_11, v1, v2, undefA, undefA, undefA, w26_11, w19_4, v0, v1, v2, v0, w12_1, w13_2, v1, v2, w16_3, undefA, v0, w19_4, v0, v1, w22_7, v0, v2, w25_10, w26_11, w26_11, w26_11, w29_13, w19_4, w31_14, w26_11] H2) := by kernel_rfl
theorem f_slices_Delete_api_Gram_api_Gram {s : Specs} (hs : s.lookup 60 = none) (v0 v1 v2 : AV) (H : AHeap) : callV (env s) 60 [v0, v1, v2] H = evalK (callV (env s)) (loopV (env s)) c_slices_Delete_api_Gram_api_Gram [v0, v1, v2, undefA, undefA, undefA, undefA, undefA, undefA, undefA, undefA, undefA, undefA, undefA, undefA, undefA, undefA, undefA, undefA, undefA, undefA, undefA, undefA, undefA, undefA, undefA, undefA, undefA, undefA, undefA, undefA, undefA, undefA] H (retK [.tmp 6]) := callV_fn (fn := af_slices_Delete_api_Gram_api_Gram) hs rfl [v0, v1, v2] H
end Go.Proofs.Ytldehmfhgmmkhaa.Be
