/- Equations: what the pieces of the digested functions come to. Printed by mkeq.py of this repo. -/
import Derived.Test.YtdbbdfmkglgjdaaBid
namespace Go.Proofs.Ytdbbdfmkglgjdaa.Bi
open Go.Ab
set_option maxRecDepth 100000
set_option linter.unusedVariables false
set_option linter.unusedSimpArgs false
theorem p_slices_Insert_api_Kid_api_Kid {β : Type} (call : CallF) (lp : LoopF) (v0 v1 v2 : AV) (H : AHeap) (k : AExit → Tau → AHeap → Option β) : evalK call lp c_slices_Insert_api_Kid_api_Kid [v0, v1, v2, undefA, undefA, undefA, undefA, undefA, undefA, undefA, undefA, undefA, undefA, undefA, undefA, undefA, undefA, undefA, undefA, undefA, undefA, undefA, undefA, undefA, undefA, undefA, undefA, undefA, undefA, undefA, undefA, undefA, undefA, undefA, undefA, undefA, undefA, undefA, undefA, undefA, undefA, undefA, undefA, undefA, undefA, undefA, undefA, undefA, undefA, undefA, undefA, undefA, undefA, undefA, undefA, undefA, undefA, undefA, undefA, undefA, undefA, undefA, undefA, undefA, undefA, undefA, undefA, undefA, undefA, undefA, undefA, undefA, undefA, undefA, undefA, undefA, undefA, undefA, undefA, undefA, undefA, undefA, undefA, undefA, undefA, undefA, undefA, undefA, undefA, undefA, undefA, undefA, undefA, undefA, undefA] H k =
  bnP (slcP H 3 v0 (some v1) none none) fun w12_1 => 
  bnP (lenA v2) fun w14_2 => 
  bnP (binA .eql w14_2 (.int .i64 0)) fun w16_3 => 
  cndS w16_3 (fun _ => k .ret [v0, v1, v2, undefA, undefA, undefA, v0, w14_2, undefA, undefA, v0, v1, w12_1, v2, w14_2, w14_2, w16_3, v0, undefA, undefA, undefA, undefA, undefA, undefA, undefA, undefA, undefA, undefA, undefA, undefA, undefA, undefA, undefA, undefA, undefA, undefA, undefA, undefA, undefA, undefA, undefA, undefA, undefA, undefA, undefA, undefA, undefA, undefA, undefA, undefA, undefA, undefA, undefA, undefA, undefA, undefA, undefA, undefA, undefA, undefA, undefA, undefA, undefA, undefA, undefA, undefA, undefA, undefA, undefA, undefA, undefA, undefA, undefA, undefA, undefA, undefA, undefA, undefA, undefA, undefA, undefA, undefA, undefA, undefA, undefA, undefA, undefA, undefA, undefA, undefA, undefA, undefA, undefA, undefA, undefA] H)
  (fun _ => bnP (lenA v0) fun w19_4 => 
  bnP (binA .eql v1 w19_4) fun w22_5 => 
  cndS w22_5 (fun _ => bnS (appS H 3 24 [.int .i64 0, .int .i64 0, .int .i64 0] v0 v2) fun w25_6 H1 => 
  k .ret [v0, v1, v2, undefA, undefA, undefA, w25_6, w14_2, w19_4, undefA, v0, v1, w12_1, v2, w14_2, w14_2, w16_3, undefA, v0, w19_4, v1, w19_4, w22_5, v0, v2, w25_6, undefA, undefA, undefA, undefA, undefA, undefA, undefA, undefA, undefA, undefA, undefA, undefA, undefA, undefA, undefA, undefA, undefA, undefA, undefA, undefA, undefA, undefA, undefA, undefA, undefA, undefA, undefA, undefA, undefA, undefA, undefA, undefA, undefA, undefA, undefA, undefA, undefA, undefA, undefA, undefA, undefA, undefA, undefA, undefA, undefA, undefA, undefA, undefA, undefA, undefA, undefA, undefA, undefA, undefA, undefA, undefA, undefA, undefA, undefA, undefA, undefA, undefA, undefA, undefA, undefA, undefA, undefA, undefA, undefA] H1)
  (fun _ => bnP (binA .add w19_4 w14_2) fun w28_7 => 
  bnP (capA v0) fun w30_8 => 
  bnP (binA .gtr w28_7 w30_8) fun w31_9 => 
  cndS w31_9 (fun _ => bnP (slcP H 3 v0 none (some v1) none) fun w34_10 => 
  bnP (binA .add w19_4 w14_2) fun w37_11 => 
  bnP (binA .sub w37_11 v1) fun w39_12 => 
  bnS (apzA H 3 24 [.int .i64 0, .int .i64 0, .int .i64 0] w34_10 w39_12) fun w40_13 H2 => 
  bnP (slcP H2 3 w40_13 (some v1) none none) fun w43_14 => 
  bnS (cpyA H2 3 w43_14 v2) fun w45_15 H3 => 
  bnP (binA .add v1 w14_2) fun w49_19 => 
  bnP (slcP H3 3 w40_13 (some w49_19) none none) fun w50_20 => 
  bnP (slcP H3 3 v0 (some v1) none none) fun w53_23 => 
  bnS (cpyA H3 3 w50_20 w53_23) fun w54_24 H4 => 
  k .ret [v0, v1, v2, undefA, undefA, undefA, w40_13, w14_2, w19_4, w40_13, v0, v1, w12_1, v2, w14_2, w14_2, w16_3, undefA, v0, w19_4, v1, w19_4, w22_5, undefA, undefA, undefA, w19_4, w14_2, w28_7, v0, w30_8, w31_9, v0, v1, w34_10, w19_4, w14_2, w37_11, v1, w39_12, w40_13, w40_13, v1, w43_14, v2, w45_15, w40_13, v1, w14_2, w49_19, w50_20, v0, v1, w53_23, w54_24, w40_13, undefA, undefA, undefA, undefA, undefA, undefA, undefA, undefA, undefA, undefA, undefA, undefA, undefA, undefA, undefA, undefA, undefA, undefA, undefA, undefA, undefA, undefA, undefA, undefA, undefA, undefA, undefA, undefA, undefA, undefA, undefA, undefA, undefA, undefA, undefA, undefA, undefA, undefA, undefA] H4)
  (fun _ => bnP (binA .add w19_4 w14_2) fun w59_25 => 
  bnP (slcP H 3 v0 none (some w59_25) none) fun w60_26 => 
  bnP (binA .add v1 w14_2) fun w65_27 => 
  bnP (slcP H 3 w60_26 (some w65_27) none none) fun w66_28 => 
  bnS (call 89 [v2, w66_28] H) fun w67_29 H5 => 
  bnP (unA .not w67_29) fun w68_30 => 
  cndS w68_30 (fun _ => bnP (binA .add v1 w14_2) fun w72_34 => 
  bnP (slcP H5 3 w60_26 (some w72_34) none none) fun w73_35 => 
  bnP (slcP H5 3 w60_26 (some v1) none none) fun w76_38 => 
  bnS (cpyA H5 3 w73_35 w76_38) fun w77_39 H6 => 
  bnP (slcP H6 3 w60_26 (some v1) none none) fun w80_40 => 
  bnS (cpyA H6 3 w80_40 v2) fun w82_41 H7 => 
  k .ret [w60_26, v1, v2, undefA, undefA, undefA, w60_26, w14_2, w19_4, undefA, v0, v1, w12_1, v2, w14_2, w14_2, w16_3, undefA, v0, w19_4, v1, w19_4, w22_5, undefA, undefA, undefA, w19_4, w14_2, w28_7, v0, w30_8, w31_9, undefA, undefA, undefA, undefA, undefA, undefA, undefA, undefA, undefA, undefA, undefA, undefA, undefA, undefA, undefA, undefA, undefA, undefA, undefA, undefA, undefA, undefA, undefA, undefA, v0, w19_4, w14_2, w59_25, w60_26, v2, w60_26, v1, w14_2, w65_27, w66_28, w67_29, w68_30, w60_26, v1, w14_2, w72_34, w73_35, w60_26, v1, w76_38, w77_39, w60_26, v1, w80_40, v2, w82_41, w60_26, undefA, undefA, undefA, undefA, undefA, undefA, undefA, undefA, undefA, undefA, undefA] H7)
  (fun _ => bnP (slcP H5 3 w60_26 (some w19_4) none none) fun w86_42 => 
  bnS (cpyA H5 3 w86_42 v2) fun w88_43 H8 => 
  bnP (slcP H8 3 w60_26 (some v1) none none) fun w91_44 => 
  bnS (call 90 [w91_44, w14_2] H8) fun w93_45 H9 => 
  k .ret [w60_26, v1, v2, undefA, undefA, undefA, w60_26, w14_2, w19_4, undefA, v0, v1, w12_1, v2, w14_2, w14_2, w16_3, undefA, v0, w19_4, v1, w19_4, w22_5, undefA, undefA, undefA, w19_4, w14_2, w28_7, v0, w30_8, w31_9, undefA, undefA, undefA, undefA, undefA, undefA, undefA, undefA, undefA, undefA, undefA, undefA, undefA, undefA, undefA, undefA, undefA, undefA, undefA, undefA, undefA, undefA, undefA, undefA, v0, w19_4, w14_2, w59_25, w60_26, v2, w60_26, v1, w14_2, w65_27, w66_28, w67_29, w68_30, undefA, undefA, undefA, undefA, undefA, undefA, undefA, undefA, undefA, undefA, undefA, undefA, undefA, undefA, undefA, w60_26, w19_4, w86_42, v2, w88_43, w60_26, v1, w91_44, w14_2, w93_45, w60_26] H9)))) := by kernel_rfl
theorem f_slices_Insert_api_Kid_api_Kid {s : Specs} (hs : s.lookup 85 = none) (v0 v1 v2 : AV) (H : AHeap) : callV (env s) 85 [v0, v1, v2] H = evalK (callV (env s)) (loopV (env s)) c_slices_Insert_api_Kid_api_Kid [v0, v1, v2, undefA, undefA, undefA, undefA, undefA, undefA, undefA, undefA, undefA, undefA, undefA, undefA, undefA, undefA, undefA, undefA, undefA, undefA, undefA, undefA, undefA, undefA, undefA, undefA, undefA, undefA, undefA, undefA, undefA, undefA, undefA, undefA, undefA, undefA, undefA, undefA, undefA, undefA, undefA, undefA, undefA, undefA, undefA, undefA, undefA, undefA, undefA, undefA, undefA, undefA, undefA, undefA, undefA, undefA, undefA, undefA, undefA, undefA, undefA, undefA, undefA, undefA, undefA, undefA, undefA, undefA, undefA, undefA, undefA, undefA, undefA, undefA, undefA, undefA, undefA, undefA, undefA, undefA, undefA, undefA, undefA, undefA, undefA, undefA, undefA, undefA, undefA, undefA, undefA, undefA, undefA, undefA] H (retK [.tmp 6]) := callV_fn (fn := af_slices_Insert_api_Kid_api_Kid) hs rfl [v0, v1, v2] H
end Go.Proofs.Ytdbbdfmkglgjdaa.Bi
