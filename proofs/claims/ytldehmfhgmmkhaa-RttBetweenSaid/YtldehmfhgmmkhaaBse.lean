/- Equations: what the pieces of the digested functions come to. Printed by mkeq.py of this repo. -/
import Derived.Test.YtldehmfhgmmkhaaBsd
namespace Go.Proofs.Ytldehmfhgmmkhaa.Bs
open Go.Ab
set_option maxRecDepth 100000
set_option linter.unusedVariables false
set_option linter.unusedSimpArgs false
/-! 4: pleach/pleachlaw5.RttBetween -/
theorem p_pleachlaw5_RttBetween_0 {β : Type} (call : CallF) (lp : LoopF) (v0 v1 v2 v6 v7 v8 v9 v10 v12 v13 v14 v15 v16 v17 v18 v19 v20 v21 v27 v33 v34 : AV) (H : AHeap) (k : AExit → Tau → AHeap → Option β) : evalK call lp c_pleachlaw5_RttBetween_0 [v0, v1, v2, undefA, undefA, undefA, v6, v7, v8, v9, v10, undefA, v12, v13, v14, v15, v16, v17, v18, v19, v20, v21, undefA, undefA, undefA, undefA, undefA, v27, undefA, undefA, undefA, undefA, undefA, v33, v34, undefA, undefA, undefA, undefA, undefA, undefA, undefA, undefA, undefA, undefA, undefA, undefA, undefA, undefA, undefA, undefA, undefA, undefA, undefA, undefA, undefA, undefA, undefA, undefA, undefA, undefA, undefA, undefA, undefA, undefA, undefA, undefA, undefA, undefA, undefA, undefA, undefA, undefA, undefA, undefA, undefA, undefA, undefA, undefA, undefA, undefA, undefA, undefA, undefA, undefA, undefA, undefA, undefA, undefA, undefA, undefA, undefA, undefA, undefA, undefA, undefA, undefA] H k =
  bnP (binA .rem v2 (.int .u8 60)) fun w30_1 => 
  bnP (cviA .i64 w30_1) fun w31_2 => 
  bnP (binA .lss v10 w31_2) fun w32_3 => 
  cndS w32_3 (fun _ => bnS (call 22 [v9, v8] H) fun w37_4 H1 => 
  bnP (mniA [v9, v8]) fun w41_5 => 
  bnP (binA .lss w37_4 w41_5) fun w42_6 => 
  bnP (gdP (wnt w42_6 false) (some w37_4)) fun w44_7 => 
  bnP (gdP (wnt w42_6 false) (some v9)) fun w45_8 => 
  bnP (gdP (wnt w42_6 false) (some v8)) fun w46_9 => 
  bnP (gdP (wnt w42_6 false) (mxiA [w45_8, w46_9])) fun w47_10 => 
  bnP (gdP (wnt w42_6 false) (binA .gtr w44_7 w47_10)) fun w48_11 => 
  bnP (pickA w42_6 (.bool true) w48_11) fun w49_12 => 
  bnP (gdP (wnt w49_12 false) (some v9)) fun w51_13 => 
  bnP (gdP (wnt w49_12 false) (some v8)) fun w52_14 => 
  bnP (gdP (wnt w49_12 false) (binA .gtr w51_13 w52_14)) fun w53_15 => 
  bnP (gdP (wnt w49_12 false) (some w53_15)) fun w54_16 => 
  bnP (gdP (wnt w54_16 true) (some w37_4)) fun w55_17 => 
  bnP (gdP (wnt w54_16 true) (some v9)) fun w56_18 => 
  bnP (gdP (wnt w54_16 true) (binA .eql w55_17 w56_18)) fun w57_19 => 
  bnP (gdP (wnt w49_12 false) (pickA w54_16 w57_19 (.bool false))) fun w58_20 => 
  bnP (pickA w49_12 (.bool true) w58_20) fun w59_21 => 
  bnP (gdP (wnt w59_21 false) (some v9)) fun w61_22 => 
  bnP (gdP (wnt w59_21 false) (binA .eql w61_22 (.int .i64 0))) fun w62_23 => 
  bnP (pickA w59_21 (.bool true) w62_23) fun w63_24 => 
  cndS w63_24 (fun _ => bnP (binA .eql v9 (.int .i64 0)) fun w65_25 => 
  bnP (gdP (wnt w65_25 true) (some w37_4)) fun w67_26 => 
  bnP (gdP (wnt w65_25 true) (some v8)) fun w68_27 => 
  bnP (gdP (wnt w65_25 true) (binA .eql w67_26 w68_27)) fun w69_28 => 
  bnP (pickA w65_25 w69_28 (.bool false)) fun w70_29 => 
  k .ret [undefA, undefA, undefA, undefA, undefA, undefA, w70_29, undefA, undefA, undefA, undefA, undefA, undefA, undefA, undefA, undefA, undefA, undefA, undefA, undefA, undefA, undefA, undefA, undefA, undefA, undefA, undefA, undefA, undefA, undefA, undefA, undefA, undefA, undefA, undefA, undefA, undefA, undefA, undefA, undefA, undefA, undefA, undefA, undefA, undefA, undefA, undefA, undefA, undefA, undefA, undefA, undefA, undefA, undefA, undefA, undefA, undefA, undefA, undefA, undefA, undefA, undefA, undefA, undefA, undefA, undefA, undefA, undefA, undefA, undefA, undefA, undefA, undefA, undefA, undefA, undefA, undefA, undefA, undefA, undefA, undefA, undefA, undefA, undefA, undefA, undefA, undefA, undefA, undefA, undefA, undefA, undefA, undefA, undefA, undefA, undefA, undefA] H1)
  (fun _ => bnP (binA .add v10 (.int .i64 1)) fun w34_30 => 
  k .normal [undefA, undefA, v2, undefA, undefA, undefA, undefA, v7, v8, w37_4, w34_30, undefA, undefA, undefA, undefA, undefA, undefA, undefA, undefA, undefA, undefA, undefA, undefA, undefA, undefA, undefA, undefA, undefA, undefA, undefA, undefA, undefA, undefA, v10, w34_30, undefA, undefA, undefA, undefA, undefA, undefA, undefA, undefA, undefA, undefA, undefA, undefA, undefA, undefA, undefA, undefA, undefA, undefA, undefA, undefA, undefA, undefA, undefA, undefA, undefA, undefA, undefA, undefA, undefA, undefA, undefA, undefA, undefA, undefA, undefA, undefA, undefA, undefA, undefA, undefA, undefA, undefA, undefA, undefA, undefA, undefA, undefA, undefA, undefA, undefA, undefA, undefA, undefA, undefA, undefA, undefA, undefA, undefA, undefA, undefA, undefA, undefA] H1))
  (fun _ => k (.exit 0) [undefA, undefA, undefA, undefA, undefA, undefA, undefA, v7, v8, undefA, undefA, undefA, undefA, undefA, undefA, undefA, undefA, undefA, undefA, undefA, undefA, undefA, undefA, undefA, undefA, undefA, undefA, undefA, undefA, undefA, undefA, undefA, undefA, undefA, undefA, undefA, undefA, undefA, undefA, undefA, undefA, undefA, undefA, undefA, undefA, undefA, undefA, undefA, undefA, undefA, undefA, undefA, undefA, undefA, undefA, undefA, undefA, undefA, undefA, undefA, undefA, undefA, undefA, undefA, undefA, undefA, undefA, undefA, undefA, undefA, undefA, undefA, undefA, undefA, undefA, undefA, undefA, undefA, undefA, undefA, undefA, undefA, undefA, undefA, undefA, undefA, undefA, undefA, undefA, undefA, undefA, undefA, undefA, undefA, undefA, undefA, undefA] H) := by kernel_rfl
noncomputable def L_pleachlaw5_RttBetween_0 (s : Specs) (v2 v7 v8 v9 v10 : AV) (H : AHeap) : Option (AExit × Tau × AHeap) := loopV (env s) c_pleachlaw5_RttBetween_0 [undefA, undefA, v2, undefA, undefA, undefA, undefA, v7, v8, v9, v10, undefA, undefA, undefA, undefA, undefA, undefA, undefA, undefA, undefA, undefA, undefA, undefA, undefA, undefA, undefA, undefA, undefA, undefA, undefA, undefA, undefA, undefA, undefA, undefA, undefA, undefA, undefA, undefA, undefA, undefA, undefA, undefA, undefA, undefA, undefA, undefA, undefA, undefA, undefA, undefA, undefA, undefA, undefA, undefA, undefA, undefA, undefA, undefA, undefA, undefA, undefA, undefA, undefA, undefA, undefA, undefA, undefA, undefA, undefA, undefA, undefA, undefA, undefA, undefA, undefA, undefA, undefA, undefA, undefA, undefA, undefA, undefA, undefA, undefA, undefA, undefA, undefA, undefA, undefA, undefA, undefA, undefA, undefA, undefA, undefA, undefA] H
theorem L_pleachlaw5_RttBetween_0_fold (s : Specs) (v0 v1 v2 v6 v7 v8 v9 v10 v12 v13 v14 v15 v16 v17 v18 v19 v20 v21 v27 v33 v34 : AV) (H : AHeap) : evalV (env s) (.loop c_pleachlaw5_RttBetween_0) [v0, v1, v2, undefA, undefA, undefA, v6, v7, v8, v9, v10, undefA, v12, v13, v14, v15, v16, v17, v18, v19, v20, v21, undefA, undefA, undefA, undefA, undefA, v27, undefA, undefA, undefA, undefA, undefA, v33, v34, undefA, undefA, undefA, undefA, undefA, undefA, undefA, undefA, undefA, undefA, undefA, undefA, undefA, undefA, undefA, undefA, undefA, undefA, undefA, undefA, undefA, undefA, undefA, undefA, undefA, undefA, undefA, undefA, undefA, undefA, undefA, undefA, undefA, undefA, undefA, undefA, undefA, undefA, undefA, undefA, undefA, undefA, undefA, undefA, undefA, undefA, undefA, undefA, undefA, undefA, undefA, undefA, undefA, undefA, undefA, undefA, undefA, undefA, undefA, undefA, undefA, undefA] H = L_pleachlaw5_RttBetween_0 s v2 v7 v8 v9 v10 H := by
  show loopV (env s) c_pleachlaw5_RttBetween_0 [v0, v1, v2, undefA, undefA, undefA, v6, v7, v8, v9, v10, undefA, v12, v13, v14, v15, v16, v17, v18, v19, v20, v21, undefA, undefA, undefA, undefA, undefA, v27, undefA, undefA, undefA, undefA, undefA, v33, v34, undefA, undefA, undefA, undefA, undefA, undefA, undefA, undefA, undefA, undefA, undefA, undefA, undefA, undefA, undefA, undefA, undefA, undefA, undefA, undefA, undefA, undefA, undefA, undefA, undefA, undefA, undefA, undefA, undefA, undefA, undefA, undefA, undefA, undefA, undefA, undefA, undefA, undefA, undefA, undefA, undefA, undefA, undefA, undefA, undefA, undefA, undefA, undefA, undefA, undefA, undefA, undefA, undefA, undefA, undefA, undefA, undefA, undefA, undefA, undefA, undefA, undefA] H = loopV (env s) c_pleachlaw5_RttBetween_0 [undefA, undefA, v2, undefA, undefA, undefA, undefA, v7, v8, v9, v10, undefA, undefA, undefA, undefA, undefA, undefA, undefA, undefA, undefA, undefA, undefA, undefA, undefA, undefA, undefA, undefA, undefA, undefA, undefA, undefA, undefA, undefA, undefA, undefA, undefA, undefA, undefA, undefA, undefA, undefA, undefA, undefA, undefA, undefA, undefA, undefA, undefA, undefA, undefA, undefA, undefA, undefA, undefA, undefA, undefA, undefA, undefA, undefA, undefA, undefA, undefA, undefA, undefA, undefA, undefA, undefA, undefA, undefA, undefA, undefA, undefA, undefA, undefA, undefA, undefA, undefA, undefA, undefA, undefA, undefA, undefA, undefA, undefA, undefA, undefA, undefA, undefA, undefA, undefA, undefA, undefA, undefA, undefA, undefA, undefA, undefA] H
  rw [loopV_body, p_pleachlaw5_RttBetween_0, loopV_body, p_pleachlaw5_RttBetween_0]
abbrev X_pleachlaw5_RttBetween_0_ret (v6 : AV) : Tau := [undefA, undefA, undefA, undefA, undefA, undefA, v6, undefA, undefA, undefA, undefA, undefA, undefA, undefA, undefA, undefA, undefA, undefA, undefA, undefA, undefA, undefA, undefA, undefA, undefA, undefA, undefA, undefA, undefA, undefA, undefA, undefA, undefA, undefA, undefA, undefA, undefA, undefA, undefA, undefA, undefA, undefA, undefA, undefA, undefA, undefA, undefA, undefA, undefA, undefA, undefA, undefA, undefA, undefA, undefA, undefA, undefA, undefA, undefA, undefA, undefA, undefA, undefA, undefA, undefA, undefA, undefA, undefA, undefA, undefA, undefA, undefA, undefA, undefA, undefA, undefA, undefA, undefA, undefA, undefA, undefA, undefA, undefA, undefA, undefA, undefA, undefA, undefA, undefA, undefA, undefA, undefA, undefA, undefA, undefA, undefA, undefA]
abbrev X_pleachlaw5_RttBetween_0_x0 (v7 v8 : AV) : Tau := [undefA, undefA, undefA, undefA, undefA, undefA, undefA, v7, v8, undefA, undefA, undefA, undefA, undefA, undefA, undefA, undefA, undefA, undefA, undefA, undefA, undefA, undefA, undefA, undefA, undefA, undefA, undefA, undefA, undefA, undefA, undefA, undefA, undefA, undefA, undefA, undefA, undefA, undefA, undefA, undefA, undefA, undefA, undefA, undefA, undefA, undefA, undefA, undefA, undefA, undefA, undefA, undefA, undefA, undefA, undefA, undefA, undefA, undefA, undefA, undefA, undefA, undefA, undefA, undefA, undefA, undefA, undefA, undefA, undefA, undefA, undefA, undefA, undefA, undefA, undefA, undefA, undefA, undefA, undefA, undefA, undefA, undefA, undefA, undefA, undefA, undefA, undefA, undefA, undefA, undefA, undefA, undefA, undefA, undefA, undefA, undefA]
theorem L_pleachlaw5_RttBetween_0_eq (s : Specs) (v2 v7 v8 v9 v10 : AV) (H : AHeap) : L_pleachlaw5_RttBetween_0 s v2 v7 v8 v9 v10 H = evalK (callV (env s)) (loopV (env s)) c_pleachlaw5_RttBetween_0 [undefA, undefA, v2, undefA, undefA, undefA, undefA, v7, v8, v9, v10, undefA, undefA, undefA, undefA, undefA, undefA, undefA, undefA, undefA, undefA, undefA, undefA, undefA, undefA, undefA, undefA, undefA, undefA, undefA, undefA, undefA, undefA, undefA, undefA, undefA, undefA, undefA, undefA, undefA, undefA, undefA, undefA, undefA, undefA, undefA, undefA, undefA, undefA, undefA, undefA, undefA, undefA, undefA, undefA, undefA, undefA, undefA, undefA, undefA, undefA, undefA, undefA, undefA, undefA, undefA, undefA, undefA, undefA, undefA, undefA, undefA, undefA, undefA, undefA, undefA, undefA, undefA, undefA, undefA, undefA, undefA, undefA, undefA, undefA, undefA, undefA, undefA, undefA, undefA, undefA, undefA, undefA, undefA, undefA, undefA, undefA] H (goOn (fun τ H => loopV (env s) c_pleachlaw5_RttBetween_0 τ H) ret3) := loopV_body
theorem p_pleachlaw5_RttBetween_1 {β : Type} (call : CallF) (lp : LoopF) (v7 v8 : AV) (H : AHeap) (k : AExit → Tau → AHeap → Option β) : evalK call lp c_pleachlaw5_RttBetween_1 [undefA, undefA, undefA, undefA, undefA, undefA, undefA, v7, v8, undefA, undefA, undefA, undefA, undefA, undefA, undefA, undefA, undefA, undefA, undefA, undefA, undefA, undefA, undefA, undefA, undefA, undefA, undefA, undefA, undefA, undefA, undefA, undefA, undefA, undefA, undefA, undefA, undefA, undefA, undefA, undefA, undefA, undefA, undefA, undefA, undefA, undefA, undefA, undefA, undefA, undefA, undefA, undefA, undefA, undefA, undefA, undefA, undefA, undefA, undefA, undefA, undefA, undefA, undefA, undefA, undefA, undefA, undefA, undefA, undefA, undefA, undefA, undefA, undefA, undefA, undefA, undefA, undefA, undefA, undefA, undefA, undefA, undefA, undefA, undefA, undefA, undefA, undefA, undefA, undefA, undefA, undefA, undefA, undefA, undefA, undefA, undefA] H k =
  bnS (call 22 [(.int .i64 (-5)), v8] H) fun w73_1 H1 => 
  bnP (binA .eql w73_1 v8) fun w75_2 => 
  bnP (gdP (wnt w75_2 true) (some v8)) fun w77_3 => 
  bnS (gdS (wnt w75_2 true) (call 22 [(.int .i64 5000), w77_3] H1) H1) fun w78_4 H2 => 
  bnP (gdP (wnt w75_2 true) (some v8)) fun w79_5 => 
  bnS (gdS (wnt w75_2 true) (call 22 [(.int .i64 1000), w79_5] H2) H2) fun w80_6 H3 => 
  bnP (gdP (wnt w75_2 true) (binA .eql w78_4 w80_6)) fun w81_7 => 
  bnP (pickA w75_2 w81_7 (.bool false)) fun w82_8 => 
  bnP (gdP (wnt w82_8 true) (some v7)) fun w84_9 => 
  bnS (gdS (wnt w82_8 true) (call 22 [w84_9, (.int .i64 5000)] H3) H3) fun w85_10 H4 => 
  bnP (gdP (wnt w82_8 true) (some v7)) fun w86_11 => 
  bnS (gdS (wnt w82_8 true) (call 22 [w86_11, (.int .i64 1000)] H4) H4) fun w87_12 H5 => 
  bnP (gdP (wnt w82_8 true) (binA .eql w85_10 w87_12)) fun w88_13 => 
  bnP (pickA w82_8 w88_13 (.bool false)) fun w89_14 => 
  bnP (gdP (wnt w89_14 true) (some v7)) fun w91_15 => 
  bnS (gdS (wnt w89_14 true) (call 22 [w91_15, (.int .i64 (-5))] H5) H5) fun w92_16 H6 => 
  bnP (gdP (wnt w89_14 true) (some v7)) fun w93_17 => 
  bnS (gdS (wnt w89_14 true) (call 22 [w93_17, (.int .i64 0)] H6) H6) fun w94_18 H7 => 
  bnP (gdP (wnt w89_14 true) (binA .eql w92_16 w94_18)) fun w95_19 => 
  bnP (pickA w89_14 w95_19 (.bool false)) fun w96_20 => 
  k .ret [undefA, undefA, undefA, undefA, undefA, undefA, w96_20, v7, v8, undefA, undefA, undefA, undefA, undefA, undefA, undefA, undefA, undefA, undefA, undefA, undefA, undefA, undefA, undefA, undefA, undefA, undefA, undefA, undefA, undefA, undefA, undefA, undefA, undefA, undefA, undefA, undefA, undefA, undefA, undefA, undefA, undefA, undefA, undefA, undefA, undefA, undefA, undefA, undefA, undefA, undefA, undefA, undefA, undefA, undefA, undefA, undefA, undefA, undefA, undefA, undefA, undefA, undefA, undefA, undefA, undefA, undefA, undefA, undefA, undefA, undefA, undefA, v8, w73_1, v8, w75_2, w75_2, w77_3, w78_4, w79_5, w80_6, w81_7, w82_8, w82_8, w84_9, w85_10, w86_11, w87_12, w88_13, w89_14, w89_14, w91_15, w92_16, w93_17, w94_18, w95_19, w96_20] H7 := by kernel_rfl
theorem p_pleachlaw5_RttBetween {β : Type} (call : CallF) (lp : LoopF) (v0 v1 v2 : AV) (H : AHeap) (k : AExit → Tau → AHeap → Option β) : evalK call lp c_pleachlaw5_RttBetween [v0, v1, v2, undefA, undefA, undefA, undefA, undefA, undefA, undefA, undefA, undefA, undefA, undefA, undefA, undefA, undefA, undefA, undefA, undefA, undefA, undefA, undefA, undefA, undefA, undefA, undefA, undefA, undefA, undefA, undefA, undefA, undefA, undefA, undefA, undefA, undefA, undefA, undefA, undefA, undefA, undefA, undefA, undefA, undefA, undefA, undefA, undefA, undefA, undefA, undefA, undefA, undefA, undefA, undefA, undefA, undefA, undefA, undefA, undefA, undefA, undefA, undefA, undefA, undefA, undefA, undefA, undefA, undefA, undefA, undefA, undefA, undefA, undefA, undefA, undefA, undefA, undefA, undefA, undefA, undefA, undefA, undefA, undefA, undefA, undefA, undefA, undefA, undefA, undefA, undefA, undefA, undefA, undefA, undefA, undefA, undefA] H k =
  bnS (call 17 [] H) fun w12_1 H1 => 
  bnP (unA .not w12_1) fun w13_2 => 
  cndS w13_2 (fun _ => k .ret [v0, v1, v2, undefA, undefA, undefA, (.bool false), undefA, undefA, undefA, undefA, undefA, w12_1, w13_2, undefA, undefA, undefA, undefA, undefA, undefA, undefA, undefA, undefA, undefA, undefA, undefA, undefA, undefA, undefA, undefA, undefA, undefA, undefA, undefA, undefA, undefA, undefA, undefA, undefA, undefA, undefA, undefA, undefA, undefA, undefA, undefA, undefA, undefA, undefA, undefA, undefA, undefA, undefA, undefA, undefA, undefA, undefA, undefA, undefA, undefA, undefA, undefA, undefA, undefA, undefA, undefA, undefA, undefA, undefA, undefA, undefA, undefA, undefA, undefA, undefA, undefA, undefA, undefA, undefA, undefA, undefA, undefA, undefA, undefA, undefA, undefA, undefA, undefA, undefA, undefA, undefA, undefA, undefA, undefA, undefA, undefA, undefA] H1)
  (fun _ => bnP (cviA .i64 v0) fun w15_3 => 
  bnP (binA .rem w15_3 (.int .i64 1001)) fun w16_4 => 
  bnP (cviA .i64 v1) fun w18_5 => 
  bnP (binA .rem w18_5 (.int .i64 1001)) fun w19_6 => 
  bnP (binA .eql w16_4 (.int .i64 0)) fun w21_7 => 
  cndS w21_7 (fun _ => bnS (call 22 [w16_4, w19_6] H1) fun w24_8 H2 => 
  bnP (binA .eql w24_8 w19_6) fun w26_9 => 
  k .ret [v0, v1, v2, undefA, undefA, undefA, w26_9, w16_4, w19_6, undefA, undefA, undefA, w12_1, w13_2, v0, w15_3, w16_4, v1, w18_5, w19_6, w16_4, w21_7, w16_4, w19_6, w24_8, w19_6, w26_9, undefA, undefA, undefA, undefA, undefA, undefA, undefA, undefA, undefA, undefA, undefA, undefA, undefA, undefA, undefA, undefA, undefA, undefA, undefA, undefA, undefA, undefA, undefA, undefA, undefA, undefA, undefA, undefA, undefA, undefA, undefA, undefA, undefA, undefA, undefA, undefA, undefA, undefA, undefA, undefA, undefA, undefA, undefA, undefA, undefA, undefA, undefA, undefA, undefA, undefA, undefA, undefA, undefA, undefA, undefA, undefA, undefA, undefA, undefA, undefA, undefA, undefA, undefA, undefA, undefA, undefA, undefA, undefA, undefA, undefA] H2)
  (fun _ => bnE (lp c_pleachlaw5_RttBetween_0 [v0, v1, v2, undefA, undefA, undefA, (.bool false), w16_4, w19_6, w16_4, (.int .i64 0), undefA, w12_1, w13_2, v0, w15_3, w16_4, v1, w18_5, w19_6, w16_4, w21_7, undefA, undefA, undefA, undefA, undefA, w16_4, undefA, undefA, undefA, undefA, undefA, undefA, undefA, undefA, undefA, undefA, undefA, undefA, undefA, undefA, undefA, undefA, undefA, undefA, undefA, undefA, undefA, undefA, undefA, undefA, undefA, undefA, undefA, undefA, undefA, undefA, undefA, undefA, undefA, undefA, undefA, undefA, undefA, undefA, undefA, undefA, undefA, undefA, undefA, undefA, undefA, undefA, undefA, undefA, undefA, undefA, undefA, undefA, undefA, undefA, undefA, undefA, undefA, undefA, undefA, undefA, undefA, undefA, undefA, undefA, undefA, undefA, undefA, undefA, undefA] H1) (outK 0 (goOn (fun τ H => evalK call lp c_pleachlaw5_RttBetween_1 τ H k) k)))) := by kernel_rfl
theorem f_pleachlaw5_RttBetween {s : Specs} (hs : s.lookup 4 = none) (v0 v1 v2 : AV) (H : AHeap) : callV (env s) 4 [v0, v1, v2] H = evalK (callV (env s)) (loopV (env s)) c_pleachlaw5_RttBetween [v0, v1, v2, undefA, undefA, undefA, undefA, undefA, undefA, undefA, undefA, undefA, undefA, undefA, undefA, undefA, undefA, undefA, undefA, undefA, undefA, undefA, undefA, undefA, undefA, undefA, undefA, undefA, undefA, undefA, undefA, undefA, undefA, undefA, undefA, undefA, undefA, undefA, undefA, undefA, undefA, undefA, undefA, undefA, undefA, undefA, undefA, undefA, undefA, undefA, undefA, undefA, undefA, undefA, undefA, undefA, undefA, undefA, undefA, undefA, undefA, undefA, undefA, undefA, undefA, undefA, undefA, undefA, undefA, undefA, undefA, undefA, undefA, undefA, undefA, undefA, undefA, undefA, undefA, undefA, undefA, undefA, undefA, undefA, undefA, undefA, undefA, undefA, undefA, undefA, undefA, undefA, undefA, undefA, undefA, undefA, undefA] H (retK [.tmp 6]) := callV_fn (fn := af_pleachlaw5_RttBetween) hs rfl [v0, v1, v2] H
/-! 17: pleach/pleachlaw5.begun -/
theorem p_pleachlaw5_begun {β : Type} (call : CallF) (lp : LoopF) (H : AHeap) (k : AExit → Tau → AHeap → Option β) : evalK call lp c_pleachlaw5_begun [undefA, undefA, undefA, undefA, undefA, undefA, undefA, undefA, undefA, undefA, undefA, undefA, undefA, undefA, undefA, undefA, undefA, undefA, undefA, undefA, undefA, undefA, undefA, undefA, undefA, undefA, undefA, undefA, undefA, undefA, undefA, undefA, undefA, undefA, undefA, undefA, undefA, undefA] H k =
  bnS (call 27 [] H) fun w2_1 H1 => 
  bnS (call 25 [w2_1, (.int .i64 1), (.int .i64 2), (.int .i64 80)] H1) fun w3_2 H2 => 
  bnS (call 27 [] H2) fun w4_3 H3 => 
  bnS (call 20 [w4_3] H3) fun w5_4 H4 => 
  bnS (gdS (wnt w5_4 true) (call 20 [.nils] H4) H4) fun w7_5 H5 => 
  bnP (gdP (wnt w5_4 true) (unA .not w7_5)) fun w8_6 => 
  bnP (pickA w5_4 w8_6 (.bool false)) fun w9_7 => 
  bnS (gdS (wnt w9_7 true) (call 22 [(.int .i64 80), (.int .i64 0)] H5) H5) fun w11_8 H6 => 
  bnP (gdP (wnt w9_7 true) (binA .eql w11_8 (.int .i64 70))) fun w12_9 => 
  bnP (pickA w9_7 w12_9 (.bool false)) fun w13_10 => 
  bnS (gdS (wnt w13_10 true) (call 22 [(.int .i64 0), (.int .i64 9)] H6) H6) fun w15_11 H7 => 
  bnP (gdP (wnt w13_10 true) (binA .eql w15_11 (.int .i64 9))) fun w16_12 => 
  bnP (pickA w13_10 w16_12 (.bool false)) fun w17_13 => 
  bnP (gdP (wnt w17_13 true) (some w3_2)) fun w19_14 => 
  bnP (gdP (wnt w17_13 true) (lenA w19_14)) fun w20_15 => 
  bnP (gdP (wnt w17_13 true) (binA .eql w20_15 (.int .i64 8))) fun w21_16 => 
  bnP (pickA w17_13 w21_16 (.bool false)) fun w22_17 => 
  bnP (gdP (wnt w22_17 true) (some w3_2)) fun w24_18 => 
  bnP (gdP (wnt w22_17 true) (iadA 1 w24_18 (.int .i64 1))) fun w25_19 => 
  bnP (gdP (wnt w22_17 true) (ldA H7 w25_19)) fun w26_20 => 
  bnP (gdP (wnt w22_17 true) (lenA w26_20)) fun w27_21 => 
  bnP (gdP (wnt w22_17 true) (binA .eql w27_21 (.int .i64 8))) fun w28_22 => 
  bnP (pickA w22_17 w28_22 (.bool false)) fun w29_23 => 
  bnP (gdP (wnt w29_23 true) (some w3_2)) fun w31_24 => 
  bnP (gdP (wnt w29_23 true) (iadA 1 w31_24 (.int .i64 1))) fun w32_25 => 
  bnP (gdP (wnt w29_23 true) (ldA H7 w32_25)) fun w33_26 => 
  bnP (gdP (wnt w29_23 true) (iadA 1 w33_26 (.int .i64 0))) fun w34_27 => 
  bnP (gdP (wnt w29_23 true) (ldA H7 w34_27)) fun w35_28 => 
  bnP (gdP (wnt w29_23 true) (binA .eql w35_28 (.int .i64 80))) fun w36_29 => 
  bnP (pickA w29_23 w36_29 (.bool false)) fun w37_30 => 
  k .ret [w37_30, w3_2, w2_1, w3_2, w4_3, w5_4, w5_4, w7_5, w8_6, w9_7, w9_7, w11_8, w12_9, w13_10, w13_10, w15_11, w16_12, w17_13, w17_13, w19_14, w20_15, w21_16, w22_17, w22_17, w24_18, w25_19, w26_20, w27_21, w28_22, w29_23, w29_23, w31_24, w32_25, w33_26, w34_27, w35_28, w36_29, w37_30] H7 := by kernel_rfl
theorem f_pleachlaw5_begun {s : Specs} (hs : s.lookup 17 = none) (H : AHeap) : callV (env s) 17 [] H = evalK (callV (env s)) (loopV (env s)) c_pleachlaw5_begun [undefA, undefA, undefA, undefA, undefA, undefA, undefA, undefA, undefA, undefA, undefA, undefA, undefA, undefA, undefA, undefA, undefA, undefA, undefA, undefA, undefA, undefA, undefA, undefA, undefA, undefA, undefA, undefA, undefA, undefA, undefA, undefA, undefA, undefA, undefA, undefA, undefA, undefA] H (retK [.tmp 0]) := callV_fn (fn := af_pleachlaw5_begun) hs rfl [] H
/-! 20: pleach/rtt.May -/
theorem p_rtt_May {β : Type} (call : CallF) (lp : LoopF) (v0 : AV) (H : AHeap) (k : AExit → Tau → AHeap → Option β) : evalK call lp c_rtt_May [v0, undefA, undefA, undefA, undefA, undefA] H k =
  bnS (newcA H (v0).cells) fun w1_1 H1 => 
  bnP (ldA H1 w1_1) fun w3_2 => 
  bnS (call 51 [w3_2, (.fn 52 [] [w1_1])] H1) fun w5_3 H2 => 
  k .ret [v0, w1_1, w5_3, w3_2, (.fn 52 [] [w1_1]), w5_3] H2 := by kernel_rfl
theorem f_rtt_May {s : Specs} (hs : s.lookup 20 = none) (v0 : AV) (H : AHeap) : callV (env s) 20 [v0] H = evalK (callV (env s)) (loopV (env s)) c_rtt_May [v0, undefA, undefA, undefA, undefA, undefA] H (retK [.tmp 2]) := callV_fn (fn := af_rtt_May) hs rfl [v0] H
/-! 22: pleach/rtt.Smooth -/
theorem p_rtt_Smooth {β : Type} (call : CallF) (lp : LoopF) (v0 v1 : AV) (H : AHeap) (k : AExit → Tau → AHeap → Option β) : evalK call lp c_rtt_Smooth [v0, v1, undefA, undefA, undefA, undefA, undefA, undefA, undefA, undefA, undefA, undefA, undefA, undefA, undefA, undefA, undefA] H k =
  bnS (call 53 [v0] H) fun w6_1 H1 => 
  bnS (call 53 [v1] H1) fun w8_2 H2 => 
  bnP (binA .eql w6_1 (.int .i64 0)) fun w10_3 => 
  cndS w10_3 (fun _ => k .ret [w6_1, w8_2, undefA, undefA, w8_2, v0, w6_1, v1, w8_2, w6_1, w10_3, w8_2, undefA, undefA, undefA, undefA, undefA] H2)
  (fun _ => bnP (binA .mul (.int .i64 7) w6_1) fun w13_4 => 
  bnP (binA .add w13_4 w8_2) fun w15_5 => 
  bnP (binA .shr w15_5 (.int .u64 3)) fun w16_6 => 
  k .ret [w6_1, w8_2, undefA, undefA, w16_6, v0, w6_1, v1, w8_2, w6_1, w10_3, undefA, w6_1, w13_4, w8_2, w15_5, w16_6] H2) := by kernel_rfl
theorem f_rtt_Smooth {s : Specs} (hs : s.lookup 22 = none) (v0 v1 : AV) (H : AHeap) : callV (env s) 22 [v0, v1] H = evalK (callV (env s)) (loopV (env s)) c_rtt_Smooth [v0, v1, undefA, undefA, undefA, undefA, undefA, undefA, undefA, undefA, undefA, undefA, undefA, undefA, undefA, undefA, undefA] H (retK [.tmp 4]) := callV_fn (fn := af_rtt_Smooth) hs rfl [v0, v1] H
/-! 25: pleach/rtt.Learn -/
theorem p_rtt_Learn_0 {β : Type} (call : CallF) (lp : LoopF) (v0 v1 v2 v3 v8 v9 v13 v14 v15 v16 v17 v27 : AV) (H : AHeap) (k : AExit → Tau → AHeap → Option β) : evalK call lp c_rtt_Learn_0 [v0, v1, v2, v3, undefA, undefA, undefA, undefA, v8, v9, undefA, undefA, undefA, v13, v14, v15, v16, v17, undefA, undefA, undefA, undefA, undefA, undefA, undefA, undefA, undefA, v27, undefA, undefA, undefA, undefA, undefA, undefA, undefA, undefA, undefA, undefA, undefA, undefA, undefA, undefA, undefA, undefA, undefA, undefA, undefA, undefA, undefA, undefA, undefA, undefA, undefA, undefA, undefA, undefA, undefA, undefA, undefA, undefA, undefA, undefA, undefA, undefA, undefA, undefA, undefA, undefA, undefA, undefA, undefA, undefA, undefA, undefA, undefA, undefA, undefA, undefA, undefA, undefA, undefA, undefA, undefA] H k =
  bnP (binA .lss v17 v16) fun w18_1 => 
  cndS w18_1 (fun _ => bnP (iadA 1 v15 v17) fun w20_2 => 
  bnP (ldA H w20_2) fun w21_3 => 
  bnS (call 57 [w21_3] H) fun w25_4 H1 => 
  bnP (iadA 1 v9 v17) fun w26_5 => 
  bnS (stA H1 1 w26_5 w25_4) fun _ H2 => 
  bnP (binA .add v17 (.int .i64 1)) fun w27_6 => 
  k .normal [v0, v1, v2, v3, undefA, undefA, undefA, undefA, undefA, v9, undefA, undefA, undefA, undefA, undefA, v15, v16, w27_6, undefA, undefA, undefA, undefA, undefA, undefA, undefA, undefA, undefA, w27_6, undefA, undefA, undefA, undefA, undefA, undefA, undefA, undefA, undefA, undefA, undefA, undefA, undefA, undefA, undefA, undefA, undefA, undefA, undefA, undefA, undefA, undefA, undefA, undefA, undefA, undefA, undefA, undefA, undefA, undefA, undefA, undefA, undefA, undefA, undefA, undefA, undefA, undefA, undefA, undefA, undefA, undefA, undefA, undefA, undefA, undefA, undefA, undefA, undefA, undefA, undefA, undefA, undefA, undefA, undefA] H2)
  (fun _ => k (.exit 0) [v0, v1, v2, v3, undefA, undefA, undefA, undefA, undefA, v9, undefA, undefA, undefA, undefA, undefA, undefA, undefA, undefA, undefA, undefA, undefA, undefA, undefA, undefA, undefA, undefA, undefA, undefA, undefA, undefA, undefA, undefA, undefA, undefA, undefA, undefA, undefA, undefA, undefA, undefA, undefA, undefA, undefA, undefA, undefA, undefA, undefA, undefA, undefA, undefA, undefA, undefA, undefA, undefA, undefA, undefA, undefA, undefA, undefA, undefA, undefA, undefA, undefA, undefA, undefA, undefA, undefA, undefA, undefA, undefA, undefA, undefA, undefA, undefA, undefA, undefA, undefA, undefA, undefA, undefA, undefA, undefA, undefA] H) := by kernel_rfl
noncomputable def L_rtt_Learn_0 (s : Specs) (v0 v1 v2 v3 v9 v15 v16 v17 : AV) (H : AHeap) : Option (AExit × Tau × AHeap) := loopV (env s) c_rtt_Learn_0 [v0, v1, v2, v3, undefA, undefA, undefA, undefA, undefA, v9, undefA, undefA, undefA, undefA, undefA, v15, v16, v17, undefA, undefA, undefA, undefA, undefA, undefA, undefA, undefA, undefA, undefA, undefA, undefA, undefA, undefA, undefA, undefA, undefA, undefA, undefA, undefA, undefA, undefA, undefA, undefA, undefA, undefA, undefA, undefA, undefA, undefA, undefA, undefA, undefA, undefA, undefA, undefA, undefA, undefA, undefA, undefA, undefA, undefA, undefA, undefA, undefA, undefA, undefA, undefA, undefA, undefA, undefA, undefA, undefA, undefA, undefA, undefA, undefA, undefA, undefA, undefA, undefA, undefA, undefA, undefA, undefA] H
theorem L_rtt_Learn_0_fold (s : Specs) (v0 v1 v2 v3 v8 v9 v13 v14 v15 v16 v17 v27 : AV) (H : AHeap) : evalV (env s) (.loop c_rtt_Learn_0) [v0, v1, v2, v3, undefA, undefA, undefA, undefA, v8, v9, undefA, undefA, undefA, v13, v14, v15, v16, v17, undefA, undefA, undefA, undefA, undefA, undefA, undefA, undefA, undefA, v27, undefA, undefA, undefA, undefA, undefA, undefA, undefA, undefA, undefA, undefA, undefA, undefA, undefA, undefA, undefA, undefA, undefA, undefA, undefA, undefA, undefA, undefA, undefA, undefA, undefA, undefA, undefA, undefA, undefA, undefA, undefA, undefA, undefA, undefA, undefA, undefA, undefA, undefA, undefA, undefA, undefA, undefA, undefA, undefA, undefA, undefA, undefA, undefA, undefA, undefA, undefA, undefA, undefA, undefA, undefA] H = L_rtt_Learn_0 s v0 v1 v2 v3 v9 v15 v16 v17 H := by
  show loopV (env s) c_rtt_Learn_0 [v0, v1, v2, v3, undefA, undefA, undefA, undefA, v8, v9, undefA, undefA, undefA, v13, v14, v15, v16, v17, undefA, undefA, undefA, undefA, undefA, undefA, undefA, undefA, undefA, v27, undefA, undefA, undefA, undefA, undefA, undefA, undefA, undefA, undefA, undefA, undefA, undefA, undefA, undefA, undefA, undefA, undefA, undefA, undefA, undefA, undefA, undefA, undefA, undefA, undefA, undefA, undefA, undefA, undefA, undefA, undefA, undefA, undefA, undefA, undefA, undefA, undefA, undefA, undefA, undefA, undefA, undefA, undefA, undefA, undefA, undefA, undefA, undefA, undefA, undefA, undefA, undefA, undefA, undefA, undefA] H = loopV (env s) c_rtt_Learn_0 [v0, v1, v2, v3, undefA, undefA, undefA, undefA, undefA, v9, undefA, undefA, undefA, undefA, undefA, v15, v16, v17, undefA, undefA, undefA, undefA, undefA, undefA, undefA, undefA, undefA, undefA, undefA, undefA, undefA, undefA, undefA, undefA, undefA, undefA, undefA, undefA, undefA, undefA, undefA, undefA, undefA, undefA, undefA, undefA, undefA, undefA, undefA, undefA, undefA, undefA, undefA, undefA, undefA, undefA, undefA, undefA, undefA, undefA, undefA, undefA, undefA, undefA, undefA, undefA, undefA, undefA, undefA, undefA, undefA, undefA, undefA, undefA, undefA, undefA, undefA, undefA, undefA, undefA, undefA, undefA, undefA] H
  rw [loopV_body, p_rtt_Learn_0, loopV_body, p_rtt_Learn_0]
abbrev X_rtt_Learn_0_x0 (v0 v1 v2 v3 v9 : AV) : Tau := [v0, v1, v2, v3, undefA, undefA, undefA, undefA, undefA, v9, undefA, undefA, undefA, undefA, undefA, undefA, undefA, undefA, undefA, undefA, undefA, undefA, undefA, undefA, undefA, undefA, undefA, undefA, undefA, undefA, undefA, undefA, undefA, undefA, undefA, undefA, undefA, undefA, undefA, undefA, undefA, undefA, undefA, undefA, undefA, undefA, undefA, undefA, undefA, undefA, undefA, undefA, undefA, undefA, undefA, undefA, undefA, undefA, undefA, undefA, undefA, undefA, undefA, undefA, undefA, undefA, undefA, undefA, undefA, undefA, undefA, undefA, undefA, undefA, undefA, undefA, undefA, undefA, undefA, undefA, undefA, undefA, undefA]
theorem L_rtt_Learn_0_eq (s : Specs) (v0 v1 v2 v3 v9 v15 v16 v17 : AV) (H : AHeap) : L_rtt_Learn_0 s v0 v1 v2 v3 v9 v15 v16 v17 H = evalK (callV (env s)) (loopV (env s)) c_rtt_Learn_0 [v0, v1, v2, v3, undefA, undefA, undefA, undefA, undefA, v9, undefA, undefA, undefA, undefA, undefA, v15, v16, v17, undefA, undefA, undefA, undefA, undefA, undefA, undefA, undefA, undefA, undefA, undefA, undefA, undefA, undefA, undefA, undefA, undefA, undefA, undefA, undefA, undefA, undefA, undefA, undefA, undefA, undefA, undefA, undefA, undefA, undefA, undefA, undefA, undefA, undefA, undefA, undefA, undefA, undefA, undefA, undefA, undefA, undefA, undefA, undefA, undefA, undefA, undefA, undefA, undefA, undefA, undefA, undefA, undefA, undefA, undefA, undefA, undefA, undefA, undefA, undefA, undefA, undefA, undefA, undefA, undefA] H (goOn (fun τ H => loopV (env s) c_rtt_Learn_0 τ H) ret3) := loopV_body
theorem p_rtt_Learn_1 {β : Type} (call : CallF) (lp : LoopF) (v0 v1 v2 v3 v9 : AV) (H : AHeap) (k : AExit → Tau → AHeap → Option β) : evalK call lp c_rtt_Learn_1 [v0, v1, v2, v3, undefA, undefA, undefA, undefA, undefA, v9, undefA, undefA, undefA, undefA, undefA, undefA, undefA, undefA, undefA, undefA, undefA, undefA, undefA, undefA, undefA, undefA, undefA, undefA, undefA, undefA, undefA, undefA, undefA, undefA, undefA, undefA, undefA, undefA, undefA, undefA, undefA, undefA, undefA, undefA, undefA, undefA, undefA, undefA, undefA, undefA, undefA, undefA, undefA, undefA, undefA, undefA, undefA, undefA, undefA, undefA, undefA, undefA, undefA, undefA, undefA, undefA, undefA, undefA, undefA, undefA, undefA, undefA, undefA, undefA, undefA, undefA, undefA, undefA, undefA, undefA, undefA, undefA, undefA] H k =
  bnP (binA .eql v1 v2) fun w30_1 => 
  bnP (gdP (wnt w30_1 false) (some v1)) fun w32_2 => 
  bnP (gdP (wnt w30_1 false) (binA .lss w32_2 (.int .i64 1))) fun w33_3 => 
  bnP (pickA w30_1 (.bool true) w33_3) fun w34_4 => 
  bnP (gdP (wnt w34_4 false) (some v1)) fun w36_5 => 
  bnP (gdP (wnt w34_4 false) (binA .gtr w36_5 (.int .i64 8))) fun w37_6 => 
  bnP (pickA w34_4 (.bool true) w37_6) fun w38_7 => 
  bnP (gdP (wnt w38_7 false) (some v2)) fun w40_8 => 
  bnP (gdP (wnt w38_7 false) (binA .lss w40_8 (.int .i64 1))) fun w41_9 => 
  bnP (pickA w38_7 (.bool true) w41_9) fun w42_10 => 
  bnP (gdP (wnt w42_10 false) (some v2)) fun w44_11 => 
  bnP (gdP (wnt w42_10 false) (binA .gtr w44_11 (.int .i64 8))) fun w45_12 => 
  bnP (pickA w42_10 (.bool true) w45_12) fun w46_13 => 
  bnP (gdP (wnt w46_13 false) (some v0)) fun w48_14 => 
  bnS (gdS (wnt w46_13 false) (call 20 [w48_14] H) H) fun w49_15 H1 => 
  bnP (gdP (wnt w46_13 false) (unA .not w49_15)) fun w50_16 => 
  bnP (pickA w46_13 (.bool true) w50_16) fun w51_17 => 
  cndS w51_17 (fun _ => k .ret [v0, v1, v2, v3, undefA, undefA, undefA, undefA, v9, v9, undefA, undefA, undefA, undefA, undefA, undefA, undefA, undefA, undefA, undefA, undefA, undefA, undefA, undefA, undefA, undefA, undefA, undefA, v1, v2, w30_1, w30_1, w32_2, w33_3, w34_4, w34_4, w36_5, w37_6, w38_7, w38_7, w40_8, w41_9, w42_10, w42_10, w44_11, w45_12, w46_13, w46_13, w48_14, w49_15, w50_16, w51_17, v9, undefA, undefA, undefA, undefA, undefA, undefA, undefA, undefA, undefA, undefA, undefA, undefA, undefA, undefA, undefA, undefA, undefA, undefA, undefA, undefA, undefA, undefA, undefA, undefA, undefA, undefA, undefA, undefA, undefA, undefA] H1)
  (fun _ => bnP (binA .sub v1 (.int .i64 1)) fun w55_18 => 
  bnP (iadA 1 v0 w55_18) fun w56_19 => 
  bnP (ldA H1 w56_19) fun w57_20 => 
  bnP (binA .sub v2 (.int .i64 1)) fun w59_21 => 
  bnP (iadA 1 w57_20 w59_21) fun w60_22 => 
  bnP (ldA H1 w60_22) fun w61_23 => 
  bnS (call 22 [w61_23, v3] H1) fun w63_24 H2 => 
  bnP (binA .sub v1 (.int .i64 1)) fun w66_27 => 
  bnP (iadA 1 v9 w66_27) fun w67_28 => 
  bnP (ldA H2 w67_28) fun w68_29 => 
  bnP (binA .sub v2 (.int .i64 1)) fun w70_31 => 
  bnP (binA .sub v2 (.int .i64 1)) fun w73_34 => 
  bnP (iadA 1 v9 w73_34) fun w74_35 => 
  bnP (ldA H2 w74_35) fun w75_36 => 
  bnP (binA .sub v1 (.int .i64 1)) fun w77_38 => 
  bnP (iadA 1 w68_29 w70_31) fun w80_41 => 
  bnS (stA H2 1 w80_41 w63_24) fun _ H3 => 
  bnP (iadA 1 w75_36 w77_38) fun w81_42 => 
  bnS (stA H3 1 w81_42 w63_24) fun _ H4 => 
  k .ret [v0, v1, v2, v3, undefA, undefA, undefA, undefA, v9, v9, undefA, undefA, w63_24, undefA, undefA, undefA, undefA, undefA, undefA, undefA, undefA, undefA, undefA, undefA, undefA, undefA, undefA, undefA, v1, v2, w30_1, w30_1, w32_2, w33_3, w34_4, w34_4, w36_5, w37_6, w38_7, w38_7, w40_8, w41_9, w42_10, w42_10, w44_11, w45_12, w46_13, w46_13, w48_14, w49_15, w50_16, w51_17, undefA, v0, v1, w55_18, w56_19, w57_20, v2, w59_21, w60_22, w61_23, v3, w63_24, v9, v1, w66_27, w67_28, w68_29, v2, w70_31, v9, v2, w73_34, w74_35, w75_36, v1, w77_38, w63_24, w63_24, w80_41, w81_42, v9] H4) := by kernel_rfl
theorem p_rtt_Learn {β : Type} (call : CallF) (lp : LoopF) (v0 v1 v2 v3 : AV) (H : AHeap) (k : AExit → Tau → AHeap → Option β) : evalK call lp c_rtt_Learn [v0, v1, v2, v3, undefA, undefA, undefA, undefA, undefA, undefA, undefA, undefA, undefA, undefA, undefA, undefA, undefA, undefA, undefA, undefA, undefA, undefA, undefA, undefA, undefA, undefA, undefA, undefA, undefA, undefA, undefA, undefA, undefA, undefA, undefA, undefA, undefA, undefA, undefA, undefA, undefA, undefA, undefA, undefA, undefA, undefA, undefA, undefA, undefA, undefA, undefA, undefA, undefA, undefA, undefA, undefA, undefA, undefA, undefA, undefA, undefA, undefA, undefA, undefA, undefA, undefA, undefA, undefA, undefA, undefA, undefA, undefA, undefA, undefA, undefA, undefA, undefA, undefA, undefA, undefA, undefA, undefA, undefA] H k =
  bnS (call 56 [v0] H) fun w14_1 H1 => 
  bnP (lenA v0) fun w16_2 => 
  bnE (lp c_rtt_Learn_0 [v0, v1, v2, v3, undefA, undefA, undefA, undefA, .nils, w14_1, undefA, undefA, undefA, v0, w14_1, v0, w16_2, (.int .i64 0), undefA, undefA, undefA, undefA, undefA, undefA, undefA, undefA, undefA, undefA, undefA, undefA, undefA, undefA, undefA, undefA, undefA, undefA, undefA, undefA, undefA, undefA, undefA, undefA, undefA, undefA, undefA, undefA, undefA, undefA, undefA, undefA, undefA, undefA, undefA, undefA, undefA, undefA, undefA, undefA, undefA, undefA, undefA, undefA, undefA, undefA, undefA, undefA, undefA, undefA, undefA, undefA, undefA, undefA, undefA, undefA, undefA, undefA, undefA, undefA, undefA, undefA, undefA, undefA, undefA] H1) (outK 0 (goOn (fun τ H => evalK call lp c_rtt_Learn_1 τ H k) k)) := by kernel_rfl
theorem f_rtt_Learn {s : Specs} (hs : s.lookup 25 = none) (v0 v1 v2 v3 : AV) (H : AHeap) : callV (env s) 25 [v0, v1, v2, v3] H = evalK (callV (env s)) (loopV (env s)) c_rtt_Learn [v0, v1, v2, v3, undefA, undefA, undefA, undefA, undefA, undefA, undefA, undefA, undefA, undefA, undefA, undefA, undefA, undefA, undefA, undefA, undefA, undefA, undefA, undefA, undefA, undefA, undefA, undefA, undefA, undefA, undefA, undefA, undefA, undefA, undefA, undefA, undefA, undefA, undefA, undefA, undefA, undefA, undefA, undefA, undefA, undefA, undefA, undefA, undefA, undefA, undefA, undefA, undefA, undefA, undefA, undefA, undefA, undefA, undefA, undefA, undefA, undefA, undefA, undefA, undefA, undefA, undefA, undefA, undefA, undefA, undefA, undefA, undefA, undefA, undefA, undefA, undefA, undefA, undefA, undefA, undefA, undefA, undefA] H (retK [.tmp 8]) := callV_fn (fn := af_rtt_Learn) hs rfl [v0, v1, v2, v3] H
/-! 27: pleach/pleachlaw5.zeros -/
theorem p_pleachlaw5_zeros_0 {β : Type} (call : CallF) (lp : LoopF) (v0 v1 v2 v5 v6 : AV) (H : AHeap) (k : AExit → Tau → AHeap → Option β) : evalK call lp c_pleachlaw5_zeros_0 [v0, v1, v2, undefA, undefA, v5, v6, undefA, undefA, undefA, undefA, undefA] H k =
  bnP (binA .lss v2 (.int .i64 8)) fun w4_1 => 
  cndS w4_1 (fun _ => bnS (mksA H 1 8 [.int .i64 0] (.int .i64 8) (.int .i64 8)) fun w8_2 H1 => 
  bnS (bslA H1 1 [.nils] 1 [(0, 1, w8_2)]) fun w9_3 H2 => 
  bnS (appS H2 1 24 [.nils] v1 w9_3) fun w10_4 H3 => 
  bnP (binA .add v2 (.int .i64 1)) fun w6_5 => 
  k .normal [undefA, w10_4, w6_5, undefA, undefA, v2, w6_5, undefA, undefA, undefA, undefA, undefA] H3)
  (fun _ => k (.exit 0) [undefA, v1, undefA, undefA, undefA, undefA, undefA, undefA, undefA, undefA, undefA, undefA] H) := by kernel_rfl
noncomputable def L_pleachlaw5_zeros_0 (s : Specs) (v1 v2 : AV) (H : AHeap) : Option (AExit × Tau × AHeap) := loopV (env s) c_pleachlaw5_zeros_0 [undefA, v1, v2, undefA, undefA, undefA, undefA, undefA, undefA, undefA, undefA, undefA] H
theorem L_pleachlaw5_zeros_0_fold (s : Specs) (v0 v1 v2 v5 v6 : AV) (H : AHeap) : evalV (env s) (.loop c_pleachlaw5_zeros_0) [v0, v1, v2, undefA, undefA, v5, v6, undefA, undefA, undefA, undefA, undefA] H = L_pleachlaw5_zeros_0 s v1 v2 H := by
  show loopV (env s) c_pleachlaw5_zeros_0 [v0, v1, v2, undefA, undefA, v5, v6, undefA, undefA, undefA, undefA, undefA] H = loopV (env s) c_pleachlaw5_zeros_0 [undefA, v1, v2, undefA, undefA, undefA, undefA, undefA, undefA, undefA, undefA, undefA] H
  rw [loopV_body, p_pleachlaw5_zeros_0, loopV_body, p_pleachlaw5_zeros_0]
abbrev X_pleachlaw5_zeros_0_x0 (v1 : AV) : Tau := [undefA, v1, undefA, undefA, undefA, undefA, undefA, undefA, undefA, undefA, undefA, undefA]
theorem L_pleachlaw5_zeros_0_eq (s : Specs) (v1 v2 : AV) (H : AHeap) : L_pleachlaw5_zeros_0 s v1 v2 H = evalK (callV (env s)) (loopV (env s)) c_pleachlaw5_zeros_0 [undefA, v1, v2, undefA, undefA, undefA, undefA, undefA, undefA, undefA, undefA, undefA] H (goOn (fun τ H => loopV (env s) c_pleachlaw5_zeros_0 τ H) ret3) := loopV_body
theorem p_pleachlaw5_zeros_1 {β : Type} (call : CallF) (lp : LoopF) (v1 : AV) (H : AHeap) (k : AExit → Tau → AHeap → Option β) : evalK call lp c_pleachlaw5_zeros_1 [undefA, v1, undefA, undefA, undefA, undefA, undefA, undefA, undefA, undefA, undefA, undefA] H k =
  k .ret [v1, v1, undefA, undefA, undefA, undefA, undefA, undefA, undefA, undefA, undefA, v1] H := by kernel_rfl
theorem p_pleachlaw5_zeros {β : Type} (call : CallF) (lp : LoopF) (H : AHeap) (k : AExit → Tau → AHeap → Option β) : evalK call lp c_pleachlaw5_zeros [undefA, undefA, undefA, undefA, undefA, undefA, undefA, undefA, undefA, undefA, undefA, undefA] H k =
  bnE (lp c_pleachlaw5_zeros_0 [.nils, .nils, (.int .i64 0), undefA, undefA, undefA, undefA, undefA, undefA, undefA, undefA, undefA] H) (outK 0 (goOn (fun τ H => evalK call lp c_pleachlaw5_zeros_1 τ H k) k)) := by kernel_rfl
theorem f_pleachlaw5_zeros {s : Specs} (hs : s.lookup 27 = none) (H : AHeap) : callV (env s) 27 [] H = evalK (callV (env s)) (loopV (env s)) c_pleachlaw5_zeros [undefA, undefA, undefA, undefA, undefA, undefA, undefA, undefA, undefA, undefA, undefA, undefA] H (retK [.tmp 0]) := callV_fn (fn := af_pleachlaw5_zeros) hs rfl [] H
/-! 51: pleach/rtt.all -/
theorem p_rtt_all_0 {β : Type} (call : CallF) (lp : LoopF) (v0 v1 v5 v6 v11 v12 v13 v14 v15 v16 v17 v18 v19 v20 v21 v22 v23 v39 : AV) (H : AHeap) (k : AExit → Tau → AHeap → Option β) : evalK call lp c_rtt_all_0 [v0, v1, undefA, undefA, undefA, v5, v6, undefA, undefA, undefA, undefA, v11, v12, v13, v14, v15, v16, v17, v18, v19, v20, v21, v22, v23, undefA, undefA, undefA, undefA, undefA, undefA, undefA, undefA, undefA, undefA, undefA, undefA, undefA, undefA, undefA, v39, undefA] H k =
  bnP (binA .lss v23 v22) fun w24_1 => 
  cndS w24_1 (fun _ => bnP (iadA 1 v0 v23) fun w28_2 => 
  bnP (ldA H w28_2) fun w29_3 => 
  bnP (lenA w29_3) fun w30_4 => 
  bnP (binA .neq w30_4 (.int .i64 8)) fun w31_5 => 
  bnP (gdP (wnt w31_5 false) (some v1)) fun w33_6 => 
  bnP (gdP (wnt w31_5 false) (some v5)) fun w34_7 => 
  bnP (gdP (wnt w31_5 false) (some v23)) fun w35_8 => 
  bnS (gdS (wnt w31_5 false) (callA call w33_6 [w34_7, w35_8] H) H) fun w36_9 H1 => 
  bnP (gdP (wnt w31_5 false) (unA .not w36_9)) fun w37_10 => 
  bnP (pickA w31_5 (.bool true) w37_10) fun w38_11 => 
  cndS w38_11 (fun _ => k .ret [undefA, undefA, undefA, undefA, (.bool false), undefA, undefA, undefA, undefA, undefA, undefA, undefA, undefA, undefA, undefA, undefA, undefA, undefA, undefA, undefA, undefA, undefA, undefA, undefA, undefA, undefA, undefA, undefA, undefA, undefA, undefA, undefA, undefA, undefA, undefA, undefA, undefA, undefA, undefA, undefA, undefA] H1)
  (fun _ => bnP (binA .add v23 (.int .i64 1)) fun w39_12 => 
  k .normal [v0, v1, undefA, undefA, undefA, v5, undefA, undefA, undefA, undefA, undefA, v11, v12, v13, undefA, undefA, undefA, undefA, undefA, undefA, undefA, undefA, v22, w39_12, undefA, undefA, undefA, undefA, undefA, undefA, undefA, undefA, undefA, undefA, undefA, undefA, undefA, undefA, undefA, w39_12, undefA] H1))
  (fun _ => k (.exit 2) [v0, v1, undefA, undefA, undefA, undefA, undefA, undefA, undefA, undefA, undefA, v11, v12, v13, undefA, undefA, undefA, undefA, undefA, undefA, undefA, undefA, undefA, undefA, undefA, undefA, undefA, undefA, undefA, undefA, undefA, undefA, undefA, undefA, undefA, undefA, undefA, undefA, undefA, undefA, undefA] H) := by kernel_rfl
noncomputable def L_rtt_all_0 (s : Specs) (v0 v1 v5 v11 v12 v13 v22 v23 : AV) (H : AHeap) : Option (AExit × Tau × AHeap) := loopV (env s) c_rtt_all_0 [v0, v1, undefA, undefA, undefA, v5, undefA, undefA, undefA, undefA, undefA, v11, v12, v13, undefA, undefA, undefA, undefA, undefA, undefA, undefA, undefA, v22, v23, undefA, undefA, undefA, undefA, undefA, undefA, undefA, undefA, undefA, undefA, undefA, undefA, undefA, undefA, undefA, undefA, undefA] H
theorem L_rtt_all_0_fold (s : Specs) (v0 v1 v5 v6 v11 v12 v13 v14 v15 v16 v17 v18 v19 v20 v21 v22 v23 v39 : AV) (H : AHeap) : evalV (env s) (.loop c_rtt_all_0) [v0, v1, undefA, undefA, undefA, v5, v6, undefA, undefA, undefA, undefA, v11, v12, v13, v14, v15, v16, v17, v18, v19, v20, v21, v22, v23, undefA, undefA, undefA, undefA, undefA, undefA, undefA, undefA, undefA, undefA, undefA, undefA, undefA, undefA, undefA, v39, undefA] H = L_rtt_all_0 s v0 v1 v5 v11 v12 v13 v22 v23 H := by
  show loopV (env s) c_rtt_all_0 [v0, v1, undefA, undefA, undefA, v5, v6, undefA, undefA, undefA, undefA, v11, v12, v13, v14, v15, v16, v17, v18, v19, v20, v21, v22, v23, undefA, undefA, undefA, undefA, undefA, undefA, undefA, undefA, undefA, undefA, undefA, undefA, undefA, undefA, undefA, v39, undefA] H = loopV (env s) c_rtt_all_0 [v0, v1, undefA, undefA, undefA, v5, undefA, undefA, undefA, undefA, undefA, v11, v12, v13, undefA, undefA, undefA, undefA, undefA, undefA, undefA, undefA, v22, v23, undefA, undefA, undefA, undefA, undefA, undefA, undefA, undefA, undefA, undefA, undefA, undefA, undefA, undefA, undefA, undefA, undefA] H
  rw [loopV_body, p_rtt_all_0, loopV_body, p_rtt_all_0]
abbrev X_rtt_all_0_ret (v4 : AV) : Tau := [undefA, undefA, undefA, undefA, v4, undefA, undefA, undefA, undefA, undefA, undefA, undefA, undefA, undefA, undefA, undefA, undefA, undefA, undefA, undefA, undefA, undefA, undefA, undefA, undefA, undefA, undefA, undefA, undefA, undefA, undefA, undefA, undefA, undefA, undefA, undefA, undefA, undefA, undefA, undefA, undefA]
abbrev X_rtt_all_0_x2 (v0 v1 v11 v12 v13 : AV) : Tau := [v0, v1, undefA, undefA, undefA, undefA, undefA, undefA, undefA, undefA, undefA, v11, v12, v13, undefA, undefA, undefA, undefA, undefA, undefA, undefA, undefA, undefA, undefA, undefA, undefA, undefA, undefA, undefA, undefA, undefA, undefA, undefA, undefA, undefA, undefA, undefA, undefA, undefA, undefA, undefA]
theorem L_rtt_all_0_eq (s : Specs) (v0 v1 v5 v11 v12 v13 v22 v23 : AV) (H : AHeap) : L_rtt_all_0 s v0 v1 v5 v11 v12 v13 v22 v23 H = evalK (callV (env s)) (loopV (env s)) c_rtt_all_0 [v0, v1, undefA, undefA, undefA, v5, undefA, undefA, undefA, undefA, undefA, v11, v12, v13, undefA, undefA, undefA, undefA, undefA, undefA, undefA, undefA, v22, v23, undefA, undefA, undefA, undefA, undefA, undefA, undefA, undefA, undefA, undefA, undefA, undefA, undefA, undefA, undefA, undefA, undefA] H (goOn (fun τ H => loopV (env s) c_rtt_all_0 τ H) ret3) := loopV_body
theorem p_rtt_all_1 {β : Type} (call : CallF) (lp : LoopF) (v0 v1 v11 v12 v13 : AV) (H : AHeap) (k : AExit → Tau → AHeap → Option β) : evalK call lp c_rtt_all_1 [v0, v1, undefA, undefA, undefA, undefA, undefA, undefA, undefA, undefA, undefA, v11, v12, v13, undefA, undefA, undefA, undefA, undefA, undefA, undefA, undefA, undefA, undefA, undefA, undefA, undefA, undefA, undefA, undefA, undefA, undefA, undefA, undefA, undefA, undefA, undefA, undefA, undefA, undefA, undefA] H k =
  bnP (binA .add v13 (.int .i64 1)) fun w40_1 => 
  k .normal [v0, v1, undefA, undefA, undefA, undefA, undefA, undefA, undefA, undefA, undefA, v11, v12, w40_1, undefA, undefA, undefA, undefA, undefA, undefA, undefA, undefA, undefA, undefA, undefA, undefA, undefA, undefA, undefA, undefA, undefA, undefA, undefA, undefA, undefA, undefA, undefA, undefA, undefA, undefA, w40_1] H := by kernel_rfl
theorem p_rtt_all_2 {β : Type} (call : CallF) (lp : LoopF) (v0 v1 v4 v8 v9 v10 v11 v12 v13 v40 : AV) (H : AHeap) (k : AExit → Tau → AHeap → Option β) : evalK call lp c_rtt_all_2 [v0, v1, undefA, undefA, v4, undefA, undefA, undefA, v8, v9, v10, v11, v12, v13, undefA, undefA, undefA, undefA, undefA, undefA, undefA, undefA, undefA, undefA, undefA, undefA, undefA, undefA, undefA, undefA, undefA, undefA, undefA, undefA, undefA, undefA, undefA, undefA, undefA, undefA, v40] H k =
  bnP (binA .lss v13 v12) fun w14_1 => 
  cndS w14_1 (fun _ => bnP (iadA 1 v11 v13) fun w16_2 => 
  bnP (ldA H w16_2) fun w17_3 => 
  bnP (lenA w17_3) fun w19_4 => 
  bnP (binA .neq w19_4 (.int .i64 8)) fun w20_5 => 
  cndS w20_5 (fun _ => k .ret [undefA, undefA, undefA, undefA, (.bool false), undefA, undefA, undefA, undefA, undefA, undefA, undefA, undefA, undefA, undefA, undefA, undefA, undefA, undefA, undefA, undefA, undefA, undefA, undefA, undefA, undefA, undefA, undefA, undefA, undefA, undefA, undefA, undefA, undefA, undefA, undefA, undefA, undefA, undefA, undefA, undefA] H)
  (fun _ => bnP (lenA w17_3) fun w22_6 => 
  bnE (lp c_rtt_all_0 [v0, v1, undefA, undefA, undefA, v13, w17_3, undefA, undefA, undefA, undefA, v11, v12, v13, w14_1, v13, w16_2, w17_3, w17_3, w19_4, w20_5, w17_3, w22_6, (.int .i64 0), undefA, undefA, undefA, undefA, undefA, undefA, undefA, undefA, undefA, undefA, undefA, undefA, undefA, undefA, undefA, undefA, undefA] H) (outK 2 (outK 1 (goOn (fun τ H => evalK call lp c_rtt_all_1 τ H k) k)))))
  (fun _ => k (.exit 0) [undefA, undefA, undefA, undefA, undefA, undefA, undefA, undefA, undefA, undefA, undefA, undefA, undefA, undefA, undefA, undefA, undefA, undefA, undefA, undefA, undefA, undefA, undefA, undefA, undefA, undefA, undefA, undefA, undefA, undefA, undefA, undefA, undefA, undefA, undefA, undefA, undefA, undefA, undefA, undefA, undefA] H) := by kernel_rfl
noncomputable def L_rtt_all_2 (s : Specs) (v0 v1 v11 v12 v13 : AV) (H : AHeap) : Option (AExit × Tau × AHeap) := loopV (env s) c_rtt_all_2 [v0, v1, undefA, undefA, undefA, undefA, undefA, undefA, undefA, undefA, undefA, v11, v12, v13, undefA, undefA, undefA, undefA, undefA, undefA, undefA, undefA, undefA, undefA, undefA, undefA, undefA, undefA, undefA, undefA, undefA, undefA, undefA, undefA, undefA, undefA, undefA, undefA, undefA, undefA, undefA] H
theorem L_rtt_all_2_fold (s : Specs) (v0 v1 v4 v8 v9 v10 v11 v12 v13 v40 : AV) (H : AHeap) : evalV (env s) (.loop c_rtt_all_2) [v0, v1, undefA, undefA, v4, undefA, undefA, undefA, v8, v9, v10, v11, v12, v13, undefA, undefA, undefA, undefA, undefA, undefA, undefA, undefA, undefA, undefA, undefA, undefA, undefA, undefA, undefA, undefA, undefA, undefA, undefA, undefA, undefA, undefA, undefA, undefA, undefA, undefA, v40] H = L_rtt_all_2 s v0 v1 v11 v12 v13 H := by
  show loopV (env s) c_rtt_all_2 [v0, v1, undefA, undefA, v4, undefA, undefA, undefA, v8, v9, v10, v11, v12, v13, undefA, undefA, undefA, undefA, undefA, undefA, undefA, undefA, undefA, undefA, undefA, undefA, undefA, undefA, undefA, undefA, undefA, undefA, undefA, undefA, undefA, undefA, undefA, undefA, undefA, undefA, v40] H = loopV (env s) c_rtt_all_2 [v0, v1, undefA, undefA, undefA, undefA, undefA, undefA, undefA, undefA, undefA, v11, v12, v13, undefA, undefA, undefA, undefA, undefA, undefA, undefA, undefA, undefA, undefA, undefA, undefA, undefA, undefA, undefA, undefA, undefA, undefA, undefA, undefA, undefA, undefA, undefA, undefA, undefA, undefA, undefA] H
  rw [loopV_body, p_rtt_all_2, loopV_body, p_rtt_all_2]
abbrev X_rtt_all_2_ret (v4 : AV) : Tau := [undefA, undefA, undefA, undefA, v4, undefA, undefA, undefA, undefA, undefA, undefA, undefA, undefA, undefA, undefA, undefA, undefA, undefA, undefA, undefA, undefA, undefA, undefA, undefA, undefA, undefA, undefA, undefA, undefA, undefA, undefA, undefA, undefA, undefA, undefA, undefA, undefA, undefA, undefA, undefA, undefA]
abbrev X_rtt_all_2_x0 : Tau := [undefA, undefA, undefA, undefA, undefA, undefA, undefA, undefA, undefA, undefA, undefA, undefA, undefA, undefA, undefA, undefA, undefA, undefA, undefA, undefA, undefA, undefA, undefA, undefA, undefA, undefA, undefA, undefA, undefA, undefA, undefA, undefA, undefA, undefA, undefA, undefA, undefA, undefA, undefA, undefA, undefA]
theorem L_rtt_all_2_eq (s : Specs) (v0 v1 v11 v12 v13 : AV) (H : AHeap) : L_rtt_all_2 s v0 v1 v11 v12 v13 H = evalK (callV (env s)) (loopV (env s)) c_rtt_all_2 [v0, v1, undefA, undefA, undefA, undefA, undefA, undefA, undefA, undefA, undefA, v11, v12, v13, undefA, undefA, undefA, undefA, undefA, undefA, undefA, undefA, undefA, undefA, undefA, undefA, undefA, undefA, undefA, undefA, undefA, undefA, undefA, undefA, undefA, undefA, undefA, undefA, undefA, undefA, undefA] H (goOn (fun τ H => loopV (env s) c_rtt_all_2 τ H) ret3) := loopV_body
theorem p_rtt_all_3 {β : Type} (call : CallF) (lp : LoopF) (H : AHeap) (k : AExit → Tau → AHeap → Option β) : evalK call lp c_rtt_all_3 [undefA, undefA, undefA, undefA, undefA, undefA, undefA, undefA, undefA, undefA, undefA, undefA, undefA, undefA, undefA, undefA, undefA, undefA, undefA, undefA, undefA, undefA, undefA, undefA, undefA, undefA, undefA, undefA, undefA, undefA, undefA, undefA, undefA, undefA, undefA, undefA, undefA, undefA, undefA, undefA, undefA] H k =
  k .ret [undefA, undefA, undefA, undefA, (.bool true), undefA, undefA, undefA, undefA, undefA, undefA, undefA, undefA, undefA, undefA, undefA, undefA, undefA, undefA, undefA, undefA, undefA, undefA, undefA, undefA, undefA, undefA, undefA, undefA, undefA, undefA, undefA, undefA, undefA, undefA, undefA, undefA, undefA, undefA, undefA, undefA] H := by kernel_rfl
theorem p_rtt_all {β : Type} (call : CallF) (lp : LoopF) (v0 v1 : AV) (H : AHeap) (k : AExit → Tau → AHeap → Option β) : evalK call lp c_rtt_all [v0, v1, undefA, undefA, undefA, undefA, undefA, undefA, undefA, undefA, undefA, undefA, undefA, undefA, undefA, undefA, undefA, undefA, undefA, undefA, undefA, undefA, undefA, undefA, undefA, undefA, undefA, undefA, undefA, undefA, undefA, undefA, undefA, undefA, undefA, undefA, undefA, undefA, undefA, undefA, undefA] H k =
  bnP (lenA v0) fun w9_1 => 
  bnP (binA .neq w9_1 (.int .i64 8)) fun w10_2 => 
  cndS w10_2 (fun _ => k .ret [v0, v1, undefA, undefA, (.bool false), undefA, undefA, undefA, v0, w9_1, w10_2, undefA, undefA, undefA, undefA, undefA, undefA, undefA, undefA, undefA, undefA, undefA, undefA, undefA, undefA, undefA, undefA, undefA, undefA, undefA, undefA, undefA, undefA, undefA, undefA, undefA, undefA, undefA, undefA, undefA, undefA] H)
  (fun _ => bnP (lenA v0) fun w12_3 => 
  bnE (lp c_rtt_all_2 [v0, v1, undefA, undefA, (.bool false), undefA, undefA, undefA, v0, w9_1, w10_2, v0, w12_3, (.int .i64 0), undefA, undefA, undefA, undefA, undefA, undefA, undefA, undefA, undefA, undefA, undefA, undefA, undefA, undefA, undefA, undefA, undefA, undefA, undefA, undefA, undefA, undefA, undefA, undefA, undefA, undefA, undefA] H) (outK 0 (goOn (fun τ H => evalK call lp c_rtt_all_3 τ H k) k))) := by kernel_rfl
theorem f_rtt_all {s : Specs} (hs : s.lookup 51 = none) (v0 v1 : AV) (H : AHeap) : callV (env s) 51 [v0, v1] H = evalK (callV (env s)) (loopV (env s)) c_rtt_all [v0, v1, undefA, undefA, undefA, undefA, undefA, undefA, undefA, undefA, undefA, undefA, undefA, undefA, undefA, undefA, undefA, undefA, undefA, undefA, undefA, undefA, undefA, undefA, undefA, undefA, undefA, undefA, undefA, undefA, undefA, undefA, undefA, undefA, undefA, undefA, undefA, undefA, undefA, undefA, undefA] H (retK [.tmp 4]) := callV_fn (fn := af_rtt_all) hs rfl [v0, v1] H
/-! 52: pleach/rtt.May$1 -/
theorem p_rtt_May_1 {β : Type} (call : CallF) (lp : LoopF) (v0 v1 v2 : AV) (H : AHeap) (k : AExit → Tau → AHeap → Option β) : evalK call lp c_rtt_May_1 [v0, v1, v2, undefA, undefA, undefA, undefA, undefA, undefA, undefA, undefA, undefA, undefA, undefA, undefA, undefA, undefA, undefA, undefA, undefA, undefA, undefA, undefA, undefA, undefA, undefA, undefA, undefA, undefA, undefA, undefA, undefA, undefA, undefA, undefA, undefA, undefA, undefA, undefA, undefA, undefA, undefA, undefA, undefA, undefA, undefA, undefA, undefA, undefA, undefA, undefA, undefA, undefA, undefA, undefA, undefA] H k =
  bnP (ldA H v2) fun w6_1 => 
  bnP (iadA 1 w6_1 v0) fun w8_3 => 
  bnP (ldA H w8_3) fun w9_4 => 
  bnP (iadA 1 w9_4 v1) fun w11_6 => 
  bnP (ldA H w11_6) fun w12_7 => 
  bnP (binA .geq w12_7 (.int .i64 0)) fun w13_8 => 
  bnP (gdP (wnt w13_8 true) (ldA H v2)) fun w15_10 => 
  bnP (gdP (wnt w13_8 true) (some v0)) fun w16_11 => 
  bnP (gdP (wnt w13_8 true) (iadA 1 w15_10 w16_11)) fun w17_12 => 
  bnP (gdP (wnt w13_8 true) (ldA H w17_12)) fun w18_13 => 
  bnP (gdP (wnt w13_8 true) (some v1)) fun w19_14 => 
  bnP (gdP (wnt w13_8 true) (iadA 1 w18_13 w19_14)) fun w20_15 => 
  bnP (gdP (wnt w13_8 true) (ldA H w20_15)) fun w21_16 => 
  bnP (gdP (wnt w13_8 true) (binA .leq w21_16 (.int .i64 1000))) fun w22_17 => 
  bnP (pickA w13_8 w22_17 (.bool false)) fun w23_18 => 
  bnP (gdP (wnt w23_18 true) (ldA H v2)) fun w25_20 => 
  bnP (gdP (wnt w23_18 true) (some v0)) fun w26_21 => 
  bnP (gdP (wnt w23_18 true) (iadA 1 w25_20 w26_21)) fun w27_22 => 
  bnP (gdP (wnt w23_18 true) (ldA H w27_22)) fun w28_23 => 
  bnP (gdP (wnt w23_18 true) (some v1)) fun w29_24 => 
  bnP (gdP (wnt w23_18 true) (iadA 1 w28_23 w29_24)) fun w30_25 => 
  bnP (gdP (wnt w23_18 true) (ldA H w30_25)) fun w31_26 => 
  bnP (gdP (wnt w23_18 true) (ldA H v2)) fun w32_27 => 
  bnP (gdP (wnt w23_18 true) (some v1)) fun w33_28 => 
  bnP (gdP (wnt w23_18 true) (iadA 1 w32_27 w33_28)) fun w34_29 => 
  bnP (gdP (wnt w23_18 true) (ldA H w34_29)) fun w35_30 => 
  bnP (gdP (wnt w23_18 true) (some v0)) fun w36_31 => 
  bnP (gdP (wnt w23_18 true) (iadA 1 w35_30 w36_31)) fun w37_32 => 
  bnP (gdP (wnt w23_18 true) (ldA H w37_32)) fun w38_33 => 
  bnP (gdP (wnt w23_18 true) (binA .eql w31_26 w38_33)) fun w39_34 => 
  bnP (pickA w23_18 w39_34 (.bool false)) fun w40_35 => 
  bnP (gdP (wnt w40_35 true) (some v0)) fun w42_37 => 
  bnP (gdP (wnt w40_35 true) (some v1)) fun w43_38 => 
  bnP (gdP (wnt w40_35 true) (binA .neq w42_37 w43_38)) fun w44_39 => 
  bnP (gdP (wnt w40_35 true) (some w44_39)) fun w45_40 => 
  bnP (gdP (wnt w45_40 false) (ldA H v2)) fun w46_41 => 
  bnP (gdP (wnt w45_40 false) (some v0)) fun w47_42 => 
  bnP (gdP (wnt w45_40 false) (iadA 1 w46_41 w47_42)) fun w48_43 => 
  bnP (gdP (wnt w45_40 false) (ldA H w48_43)) fun w49_44 => 
  bnP (gdP (wnt w45_40 false) (some v1)) fun w50_45 => 
  bnP (gdP (wnt w45_40 false) (iadA 1 w49_44 w50_45)) fun w51_46 => 
  bnP (gdP (wnt w45_40 false) (ldA H w51_46)) fun w52_47 => 
  bnP (gdP (wnt w45_40 false) (binA .eql w52_47 (.int .i64 0))) fun w53_48 => 
  bnP (gdP (wnt w40_35 true) (pickA w45_40 (.bool true) w53_48)) fun w54_49 => 
  bnP (pickA w40_35 w54_49 (.bool false)) fun w55_50 => 
  k .ret [v0, v1, v2, undefA, undefA, w55_50, w6_1, v0, w8_3, w9_4, v1, w11_6, w12_7, w13_8, w13_8, w15_10, w16_11, w17_12, w18_13, w19_14, w20_15, w21_16, w22_17, w23_18, w23_18, w25_20, w26_21, w27_22, w28_23, w29_24, w30_25, w31_26, w32_27, w33_28, w34_29, w35_30, w36_31, w37_32, w38_33, w39_34, w40_35, w40_35, w42_37, w43_38, w44_39, w45_40, w46_41, w47_42, w48_43, w49_44, w50_45, w51_46, w52_47, w53_48, w54_49, w55_50] H := by kernel_rfl
theorem f_rtt_May_1 {s : Specs} (hs : s.lookup 52 = none) (v0 v1 v2 : AV) (H : AHeap) : callV (env s) 52 [v0, v1, v2] H = evalK (callV (env s)) (loopV (env s)) c_rtt_May_1 [v0, v1, v2, undefA, undefA, undefA, undefA, undefA, undefA, undefA, undefA, undefA, undefA, undefA, undefA, undefA, undefA, undefA, undefA, undefA, undefA, undefA, undefA, undefA, undefA, undefA, undefA, undefA, undefA, undefA, undefA, undefA, undefA, undefA, undefA, undefA, undefA, undefA, undefA, undefA, undefA, undefA, undefA, undefA, undefA, undefA, undefA, undefA, undefA, undefA, undefA, undefA, undefA, undefA, undefA, undefA] H (retK [.tmp 5]) := callV_fn (fn := af_rtt_May_1) hs rfl [v0, v1, v2] H
/-! 53: pleach/rtt.near -/
theorem p_rtt_near {β : Type} (call : CallF) (lp : LoopF) (v0 : AV) (H : AHeap) (k : AExit → Tau → AHeap → Option β) : evalK call lp c_rtt_near [v0, undefA, undefA, undefA, undefA, undefA] H k =
  bnP (mniA [v0, (.int .i64 1000)]) fun w4_1 => 
  bnP (mxiA [w4_1, (.int .i64 0)]) fun w5_2 => 
  k .ret [v0, undefA, w5_2, v0, w4_1, w5_2] H := by kernel_rfl
theorem f_rtt_near {s : Specs} (hs : s.lookup 53 = none) (v0 : AV) (H : AHeap) : callV (env s) 53 [v0] H = evalK (callV (env s)) (loopV (env s)) c_rtt_near [v0, undefA, undefA, undefA, undefA, undefA] H (retK [.tmp 2]) := callV_fn (fn := af_rtt_near) hs rfl [v0] H
/-! 56: slices.Clone[[][]int,[]int] -/
theorem p_slices_Clone_int_int {β : Type} (call : CallF) (lp : LoopF) (v0 : AV) (H : AHeap) (k : AExit → Tau → AHeap → Option β) : evalK call lp c_slices_Clone_int_int [v0, undefA, undefA, undefA, undefA, undefA, undefA, undefA] H k =
  bnP (eqnA false 0 v0) fun w4_1 => 
  cndS w4_1 (fun _ => k .ret [v0, undefA, .nils, v0, w4_1, undefA, undefA, undefA] H)
  (fun _ => bnS (bslA H 1 [.nils] 0 []) fun w5_2 H1 => 
  bnS (appS H1 1 24 [.nils] w5_2 v0) fun w7_3 H2 => 
  k .ret [v0, undefA, w7_3, v0, w4_1, w5_2, v0, w7_3] H2) := by kernel_rfl
theorem f_slices_Clone_int_int {s : Specs} (hs : s.lookup 56 = none) (v0 : AV) (H : AHeap) : callV (env s) 56 [v0] H = evalK (callV (env s)) (loopV (env s)) c_slices_Clone_int_int [v0, undefA, undefA, undefA, undefA, undefA, undefA, undefA] H (retK [.tmp 2]) := callV_fn (fn := af_slices_Clone_int_int) hs rfl [v0] H
/-! 57: slices.Clone[[]int,int] -/
theorem p_slices_Clone_int_intx {β : Type} (call : CallF) (lp : LoopF) (v0 : AV) (H : AHeap) (k : AExit → Tau → AHeap → Option β) : evalK call lp c_slices_Clone_int_intx [v0, undefA, undefA, undefA, undefA, undefA, undefA, undefA] H k =
  bnP (eqnA false 0 v0) fun w4_1 => 
  cndS w4_1 (fun _ => k .ret [v0, undefA, .nils, v0, w4_1, undefA, undefA, undefA] H)
  (fun _ => bnS (bslA H 1 [.int .i64 0] 0 []) fun w5_2 H1 => 
  bnS (appS H1 1 8 [.int .i64 0] w5_2 v0) fun w7_3 H2 => 
  k .ret [v0, undefA, w7_3, v0, w4_1, w5_2, v0, w7_3] H2) := by kernel_rfl
theorem f_slices_Clone_int_intx {s : Specs} (hs : s.lookup 57 = none) (v0 : AV) (H : AHeap) : callV (env s) 57 [v0] H = evalK (callV (env s)) (loopV (env s)) c_slices_Clone_int_intx [v0, undefA, undefA, undefA, undefA, undefA, undefA, undefA] H (retK [.tmp 2]) := callV_fn (fn := af_slices_Clone_int_intx) hs rfl [v0] H
end Go.Proofs.Ytldehmfhgmmkhaa.Bs
