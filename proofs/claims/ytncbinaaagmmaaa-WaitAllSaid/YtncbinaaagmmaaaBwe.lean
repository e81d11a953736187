/- Equations: what the pieces of the digested functions come to. Printed by mkeq.py of this repo. -/
import Derived.Test.YtncbinaaagmmaaaBwd
namespace Go.Proofs.Ytncbinaaagmmaaa.Bw
open Go.Ab
set_option maxRecDepth 100000
set_option linter.unusedVariables false
set_option linter.unusedSimpArgs false
/-! 3: pleach/pleachlaw4.WaitAll -/
theorem p_pleachlaw4_WaitAll_0 {β : Type} (call : CallF) (lp : LoopF) (v2 v7 v8 v9 v10 v54 v55 v56 v57 v60 v61 v62 v63 v64 v65 v66 v67 v68 v69 v70 v71 v72 v73 v74 v75 v76 v77 v78 v79 v80 v81 v82 v83 v84 v85 v86 v87 v88 : AV) (H : AHeap) (k : AExit → Tau → AHeap → Option β) : evalK call lp c_pleachlaw4_WaitAll_0 [undefA, undefA, v2, undefA, undefA, undefA, undefA, v7, v8, v9, v10, undefA, undefA, undefA, undefA, undefA, undefA, undefA, undefA, undefA, undefA, undefA, undefA, undefA, undefA, undefA, undefA, undefA, undefA, undefA, undefA, undefA, undefA, undefA, undefA, undefA, undefA, undefA, undefA, undefA, undefA, undefA, undefA, undefA, undefA, undefA, undefA, undefA, undefA, undefA, undefA, undefA, undefA, undefA, v54, v55, v56, v57, undefA, undefA, v60, v61, v62, v63, v64, v65, v66, v67, v68, v69, v70, v71, v72, v73, v74, v75, v76, v77, v78, v79, v80, v81, v82, v83, v84, v85, v86, v87, v88, undefA, undefA, undefA] H k =
  bnP (binA .add v10 (.int .i64 1)) fun w59_1 => 
  k .normal [undefA, undefA, v2, undefA, undefA, undefA, undefA, v7, v8, v9, w59_1, undefA, undefA, undefA, undefA, undefA, undefA, undefA, undefA, undefA, undefA, undefA, undefA, undefA, undefA, undefA, undefA, undefA, undefA, undefA, undefA, undefA, undefA, undefA, undefA, undefA, undefA, undefA, undefA, undefA, undefA, undefA, undefA, undefA, undefA, undefA, undefA, undefA, undefA, undefA, undefA, undefA, undefA, undefA, undefA, undefA, undefA, undefA, v10, w59_1, undefA, undefA, undefA, undefA, undefA, undefA, undefA, undefA, undefA, undefA, undefA, undefA, undefA, undefA, undefA, undefA, undefA, undefA, undefA, undefA, undefA, undefA, undefA, undefA, undefA, undefA, undefA, undefA, undefA, undefA, undefA, undefA] H := by kernel_rfl
theorem p_pleachlaw4_WaitAll_1 {β : Type} (call : CallF) (lp : LoopF) (v0 v1 v2 v3 v6 v7 v8 v9 v10 v11 v12 v13 v14 v15 v16 v17 v18 v19 v20 v21 v22 v23 v24 v25 v26 v27 v28 v29 v30 v31 v32 v33 v34 v35 v36 v37 v38 v39 v40 v41 v42 v43 v44 v45 v46 v47 v48 v49 v50 v51 v52 v53 v58 v59 : AV) (H : AHeap) (k : AExit → Tau → AHeap → Option β) : evalK call lp c_pleachlaw4_WaitAll_1 [v0, v1, v2, v3, undefA, undefA, v6, v7, v8, v9, v10, v11, v12, v13, v14, v15, v16, v17, v18, v19, v20, v21, v22, v23, v24, v25, v26, v27, v28, v29, v30, v31, v32, v33, v34, v35, v36, v37, v38, v39, v40, v41, v42, v43, v44, v45, v46, v47, v48, v49, v50, v51, v52, v53, undefA, undefA, undefA, undefA, v58, v59, undefA, undefA, undefA, undefA, undefA, undefA, undefA, undefA, undefA, undefA, undefA, undefA, undefA, undefA, undefA, undefA, undefA, undefA, undefA, undefA, undefA, undefA, undefA, undefA, undefA, undefA, undefA, undefA, undefA, undefA, undefA, undefA] H k =
  bnP (lenA v2) fun w56_1 => 
  bnP (binA .lss v10 w56_1) fun w57_2 => 
  cndS w57_2 (fun _ => bnE (bnE (bnP (iadA 1 v2 v10) fun w63_3 => 
  bnP (ldA H w63_3) fun w64_4 => 
  bnP (binA .rem w64_4 (.int .u8 9)) fun w65_5 => 
  bnP (cviA .i64 w65_5) fun w66_6 => 
  bnP (binA .add v7 w66_6) fun w67_7 => 
  bnP (ldnA H 2 v8) fun w68_8 => 
  bnP (ldnA H 2 v9) fun w69_9 => 
  bnP (eqsA true (.st [(0, 1, .i), (1, 1, .i)]) w68_8 w69_9) fun w70_10 => 
  bnP (gdP (wnt w70_10 false) (ldnA H 2 v8)) fun w72_12 => 
  bnP (gdP (wnt w70_10 false) (some w67_7)) fun w73_13 => 
  bnP (gdP (wnt w70_10 false) (ldnA H 2 v9)) fun w75_14 => 
  bnP (gdP (wnt w70_10 false) (some w67_7)) fun w76_15 => 
  bnS (gdS (wnt w70_10 false) (call 19 [w72_12, w73_13] H) H) fun w74_16 H1 => pinB (!(wnt w70_10 false) || (ckP H H1 (.q (fun H' => ldnA H' 2 v8) w68_8) && (ckP H H1 (.q (fun H' => ldnA H' 2 v9) w69_9) && (ckP H H1 (if wnt w70_10 false then .q (fun H' => ldnA H' 2 v9) w75_14 else .none) && true)))) <| 
  bnS (gdS (wnt w70_10 false) (call 20 [w75_14, w76_15] H1) H1) fun w77_17 H2 => pinB (!(wnt w70_10 false) || (ckP H1 H2 (.q (fun H' => ldnA H' 2 v8) w68_8) && (ckP H1 H2 (.q (fun H' => ldnA H' 2 v9) w69_9) && (ckP H1 H2 (if wnt w70_10 false then .q (fun H' => ldnA H' 2 v8) w72_12 else .none) && true)))) <| 
  bnP (gdP (wnt w70_10 false) (eqsA true .b w74_16 w77_17)) fun w78_18 => 
  bnP (pickA w70_10 (.bool true) w78_18) fun w79_19 => 
  cndS w79_19 (fun _ => some (.ret, [undefA, undefA, undefA, undefA, undefA, undefA, (.bool false), undefA, undefA, undefA, undefA, undefA, undefA, undefA, undefA, undefA, undefA, undefA, undefA, undefA, undefA, undefA, undefA, undefA, undefA, undefA, undefA, undefA, undefA, undefA, undefA, undefA, undefA, undefA, undefA, undefA, undefA, undefA, undefA, undefA, undefA, undefA, undefA, undefA, undefA, undefA, undefA, undefA, undefA, undefA, undefA, undefA, undefA, undefA, undefA, undefA, undefA, undefA, undefA, undefA, undefA, undefA, undefA, undefA, undefA, undefA, undefA, undefA, undefA, undefA, undefA, undefA, undefA, undefA, undefA, undefA, undefA, undefA, undefA, undefA, undefA, undefA, undefA, undefA, undefA, undefA, undefA, undefA, undefA, undefA, undefA, undefA], H2))
  (fun _ => bnP (ldnA H2 2 v9) fun w80_20 => 
  bnS (call 20 [w80_20, w67_7] H2) fun w82_21 H3 => 
  cndS w82_21 (fun _ => bnP (ldnA H3 2 v8) fun w83_22 => 
  bnP (ldnA H3 2 v9) fun w86_24 => 
  bnS (call 21 [w83_22, w67_7] H3) fun w85_26 H4 => pinB (ckP H3 H4 (.q (fun H' => ldnA H' 2 v9) w86_24) && true) <| 
  bnS (call 22 [w86_24, w67_7] H4) fun w88_27 H5 => pinB (ckP H4 H5 (.q (fun H' => ldnA H' 2 v8) w83_22) && true) <| 
  bnS (stA H5 2 v8 w85_26) fun _ H6 => pinB (ckP H5 H6 (.q (fun H' => ldnA H' 2 v9) w86_24) && true) <| 
  bnS (stA H6 2 v9 w88_27) fun _ H7 => 
  some (.normal, [undefA, undefA, v2, undefA, undefA, undefA, undefA, w67_7, v8, v9, v10, undefA, undefA, undefA, undefA, undefA, undefA, undefA, undefA, undefA, undefA, undefA, undefA, undefA, undefA, undefA, undefA, undefA, undefA, undefA, undefA, undefA, undefA, undefA, undefA, undefA, undefA, undefA, undefA, undefA, undefA, undefA, undefA, undefA, undefA, undefA, undefA, undefA, undefA, undefA, undefA, undefA, undefA, undefA, v10, v2, w56_1, w57_2, undefA, undefA, v7, v2, v10, w63_3, w64_4, w65_5, w66_6, w67_7, w68_8, w69_9, w70_10, w70_10, w72_12, w73_13, w74_16, w75_14, w76_15, w77_17, w78_18, w79_19, w80_20, w67_7, w82_21, w83_22, w67_7, w85_26, w86_24, w67_7, w88_27, undefA, undefA, undefA], H7))
  (fun _ => some (.normal, [undefA, undefA, v2, undefA, undefA, undefA, undefA, w67_7, v8, v9, v10, undefA, undefA, undefA, undefA, undefA, undefA, undefA, undefA, undefA, undefA, undefA, undefA, undefA, undefA, undefA, undefA, undefA, undefA, undefA, undefA, undefA, undefA, undefA, undefA, undefA, undefA, undefA, undefA, undefA, undefA, undefA, undefA, undefA, undefA, undefA, undefA, undefA, undefA, undefA, undefA, undefA, undefA, undefA, v10, v2, w56_1, w57_2, undefA, undefA, v7, v2, v10, w63_3, w64_4, w65_5, w66_6, w67_7, w68_8, w69_9, w70_10, w70_10, w72_12, w73_13, w74_16, w75_14, w76_15, w77_17, w78_18, w79_19, w80_20, w67_7, w82_21, undefA, undefA, undefA, undefA, undefA, undefA, undefA, undefA, undefA], H3))))
  (outK 1 ret3))
  (goOn (fun τ H => evalK call lp c_pleachlaw4_WaitAll_0 τ H k) k))
  (fun _ => k (.exit 0) [undefA, undefA, undefA, undefA, undefA, undefA, undefA, undefA, v8, v9, undefA, undefA, undefA, undefA, undefA, undefA, undefA, undefA, undefA, undefA, undefA, undefA, undefA, undefA, undefA, undefA, undefA, undefA, undefA, undefA, undefA, undefA, undefA, undefA, undefA, undefA, undefA, undefA, undefA, undefA, undefA, undefA, undefA, undefA, undefA, undefA, undefA, undefA, undefA, undefA, undefA, undefA, undefA, undefA, undefA, undefA, undefA, undefA, undefA, undefA, undefA, undefA, undefA, undefA, undefA, undefA, undefA, undefA, undefA, undefA, undefA, undefA, undefA, undefA, undefA, undefA, undefA, undefA, undefA, undefA, undefA, undefA, undefA, undefA, undefA, undefA, undefA, undefA, undefA, undefA, undefA, undefA] H) := by kernel_rfl
noncomputable def L_pleachlaw4_WaitAll_1 (s : Specs) (v2 v7 v8 v9 v10 : AV) (H : AHeap) : Option (AExit × Tau × AHeap) := loopV (env s) c_pleachlaw4_WaitAll_1 [undefA, undefA, v2, undefA, undefA, undefA, undefA, v7, v8, v9, v10, undefA, undefA, undefA, undefA, undefA, undefA, undefA, undefA, undefA, undefA, undefA, undefA, undefA, undefA, undefA, undefA, undefA, undefA, undefA, undefA, undefA, undefA, undefA, undefA, undefA, undefA, undefA, undefA, undefA, undefA, undefA, undefA, undefA, undefA, undefA, undefA, undefA, undefA, undefA, undefA, undefA, undefA, undefA, undefA, undefA, undefA, undefA, undefA, undefA, undefA, undefA, undefA, undefA, undefA, undefA, undefA, undefA, undefA, undefA, undefA, undefA, undefA, undefA, undefA, undefA, undefA, undefA, undefA, undefA, undefA, undefA, undefA, undefA, undefA, undefA, undefA, undefA, undefA, undefA, undefA, undefA] H
theorem L_pleachlaw4_WaitAll_1_fold (s : Specs) (v0 v1 v2 v3 v6 v7 v8 v9 v10 v11 v12 v13 v14 v15 v16 v17 v18 v19 v20 v21 v22 v23 v24 v25 v26 v27 v28 v29 v30 v31 v32 v33 v34 v35 v36 v37 v38 v39 v40 v41 v42 v43 v44 v45 v46 v47 v48 v49 v50 v51 v52 v53 v58 v59 : AV) (H : AHeap) : evalV (env s) (.loop c_pleachlaw4_WaitAll_1) [v0, v1, v2, v3, undefA, undefA, v6, v7, v8, v9, v10, v11, v12, v13, v14, v15, v16, v17, v18, v19, v20, v21, v22, v23, v24, v25, v26, v27, v28, v29, v30, v31, v32, v33, v34, v35, v36, v37, v38, v39, v40, v41, v42, v43, v44, v45, v46, v47, v48, v49, v50, v51, v52, v53, undefA, undefA, undefA, undefA, v58, v59, undefA, undefA, undefA, undefA, undefA, undefA, undefA, undefA, undefA, undefA, undefA, undefA, undefA, undefA, undefA, undefA, undefA, undefA, undefA, undefA, undefA, undefA, undefA, undefA, undefA, undefA, undefA, undefA, undefA, undefA, undefA, undefA] H = L_pleachlaw4_WaitAll_1 s v2 v7 v8 v9 v10 H := by
  show loopV (env s) c_pleachlaw4_WaitAll_1 [v0, v1, v2, v3, undefA, undefA, v6, v7, v8, v9, v10, v11, v12, v13, v14, v15, v16, v17, v18, v19, v20, v21, v22, v23, v24, v25, v26, v27, v28, v29, v30, v31, v32, v33, v34, v35, v36, v37, v38, v39, v40, v41, v42, v43, v44, v45, v46, v47, v48, v49, v50, v51, v52, v53, undefA, undefA, undefA, undefA, v58, v59, undefA, undefA, undefA, undefA, undefA, undefA, undefA, undefA, undefA, undefA, undefA, undefA, undefA, undefA, undefA, undefA, undefA, undefA, undefA, undefA, undefA, undefA, undefA, undefA, undefA, undefA, undefA, undefA, undefA, undefA, undefA, undefA] H = loopV (env s) c_pleachlaw4_WaitAll_1 [undefA, undefA, v2, undefA, undefA, undefA, undefA, v7, v8, v9, v10, undefA, undefA, undefA, undefA, undefA, undefA, undefA, undefA, undefA, undefA, undefA, undefA, undefA, undefA, undefA, undefA, undefA, undefA, undefA, undefA, undefA, undefA, undefA, undefA, undefA, undefA, undefA, undefA, undefA, undefA, undefA, undefA, undefA, undefA, undefA, undefA, undefA, undefA, undefA, undefA, undefA, undefA, undefA, undefA, undefA, undefA, undefA, undefA, undefA, undefA, undefA, undefA, undefA, undefA, undefA, undefA, undefA, undefA, undefA, undefA, undefA, undefA, undefA, undefA, undefA, undefA, undefA, undefA, undefA, undefA, undefA, undefA, undefA, undefA, undefA, undefA, undefA, undefA, undefA, undefA, undefA] H
  rw [loopV_body, p_pleachlaw4_WaitAll_1, loopV_body, p_pleachlaw4_WaitAll_1]
abbrev X_pleachlaw4_WaitAll_1_ret (v6 : AV) : Tau := [undefA, undefA, undefA, undefA, undefA, undefA, v6, undefA, undefA, undefA, undefA, undefA, undefA, undefA, undefA, undefA, undefA, undefA, undefA, undefA, undefA, undefA, undefA, undefA, undefA, undefA, undefA, undefA, undefA, undefA, undefA, undefA, undefA, undefA, undefA, undefA, undefA, undefA, undefA, undefA, undefA, undefA, undefA, undefA, undefA, undefA, undefA, undefA, undefA, undefA, undefA, undefA, undefA, undefA, undefA, undefA, undefA, undefA, undefA, undefA, undefA, undefA, undefA, undefA, undefA, undefA, undefA, undefA, undefA, undefA, undefA, undefA, undefA, undefA, undefA, undefA, undefA, undefA, undefA, undefA, undefA, undefA, undefA, undefA, undefA, undefA, undefA, undefA, undefA, undefA, undefA, undefA]
abbrev X_pleachlaw4_WaitAll_1_x0 (v8 v9 : AV) : Tau := [undefA, undefA, undefA, undefA, undefA, undefA, undefA, undefA, v8, v9, undefA, undefA, undefA, undefA, undefA, undefA, undefA, undefA, undefA, undefA, undefA, undefA, undefA, undefA, undefA, undefA, undefA, undefA, undefA, undefA, undefA, undefA, undefA, undefA, undefA, undefA, undefA, undefA, undefA, undefA, undefA, undefA, undefA, undefA, undefA, undefA, undefA, undefA, undefA, undefA, undefA, undefA, undefA, undefA, undefA, undefA, undefA, undefA, undefA, undefA, undefA, undefA, undefA, undefA, undefA, undefA, undefA, undefA, undefA, undefA, undefA, undefA, undefA, undefA, undefA, undefA, undefA, undefA, undefA, undefA, undefA, undefA, undefA, undefA, undefA, undefA, undefA, undefA, undefA, undefA, undefA, undefA]
theorem L_pleachlaw4_WaitAll_1_eq (s : Specs) (v2 v7 v8 v9 v10 : AV) (H : AHeap) : L_pleachlaw4_WaitAll_1 s v2 v7 v8 v9 v10 H = evalK (callV (env s)) (loopV (env s)) c_pleachlaw4_WaitAll_1 [undefA, undefA, v2, undefA, undefA, undefA, undefA, v7, v8, v9, v10, undefA, undefA, undefA, undefA, undefA, undefA, undefA, undefA, undefA, undefA, undefA, undefA, undefA, undefA, undefA, undefA, undefA, undefA, undefA, undefA, undefA, undefA, undefA, undefA, undefA, undefA, undefA, undefA, undefA, undefA, undefA, undefA, undefA, undefA, undefA, undefA, undefA, undefA, undefA, undefA, undefA, undefA, undefA, undefA, undefA, undefA, undefA, undefA, undefA, undefA, undefA, undefA, undefA, undefA, undefA, undefA, undefA, undefA, undefA, undefA, undefA, undefA, undefA, undefA, undefA, undefA, undefA, undefA, undefA, undefA, undefA, undefA, undefA, undefA, undefA, undefA, undefA, undefA, undefA, undefA, undefA] H (goOn (fun τ H => loopV (env s) c_pleachlaw4_WaitAll_1 τ H) ret3) := loopV_body
theorem p_pleachlaw4_WaitAll_2 {β : Type} (call : CallF) (lp : LoopF) (v8 v9 : AV) (H : AHeap) (k : AExit → Tau → AHeap → Option β) : evalK call lp c_pleachlaw4_WaitAll_2 [undefA, undefA, undefA, undefA, undefA, undefA, undefA, undefA, v8, v9, undefA, undefA, undefA, undefA, undefA, undefA, undefA, undefA, undefA, undefA, undefA, undefA, undefA, undefA, undefA, undefA, undefA, undefA, undefA, undefA, undefA, undefA, undefA, undefA, undefA, undefA, undefA, undefA, undefA, undefA, undefA, undefA, undefA, undefA, undefA, undefA, undefA, undefA, undefA, undefA, undefA, undefA, undefA, undefA, undefA, undefA, undefA, undefA, undefA, undefA, undefA, undefA, undefA, undefA, undefA, undefA, undefA, undefA, undefA, undefA, undefA, undefA, undefA, undefA, undefA, undefA, undefA, undefA, undefA, undefA, undefA, undefA, undefA, undefA, undefA, undefA, undefA, undefA, undefA, undefA, undefA, undefA] H k =
  bnP (ldnA H 2 v8) fun w89_1 => 
  bnP (ldnA H 2 v9) fun w90_2 => 
  bnP (eqsA false (.st [(0, 1, .i), (1, 1, .i)]) w89_1 w90_2) fun w91_3 => 
  k .ret [undefA, undefA, undefA, undefA, undefA, undefA, w91_3, undefA, v8, v9, undefA, undefA, undefA, undefA, undefA, undefA, undefA, undefA, undefA, undefA, undefA, undefA, undefA, undefA, undefA, undefA, undefA, undefA, undefA, undefA, undefA, undefA, undefA, undefA, undefA, undefA, undefA, undefA, undefA, undefA, undefA, undefA, undefA, undefA, undefA, undefA, undefA, undefA, undefA, undefA, undefA, undefA, undefA, undefA, undefA, undefA, undefA, undefA, undefA, undefA, undefA, undefA, undefA, undefA, undefA, undefA, undefA, undefA, undefA, undefA, undefA, undefA, undefA, undefA, undefA, undefA, undefA, undefA, undefA, undefA, undefA, undefA, undefA, undefA, undefA, undefA, undefA, undefA, undefA, w89_1, w90_2, w91_3] H := by kernel_rfl
theorem p_pleachlaw4_WaitAll {β : Type} (call : CallF) (lp : LoopF) (v0 v1 v2 : AV) (H : AHeap) (k : AExit → Tau → AHeap → Option β) : evalK call lp c_pleachlaw4_WaitAll [v0, v1, v2, undefA, undefA, undefA, undefA, undefA, undefA, undefA, undefA, undefA, undefA, undefA, undefA, undefA, undefA, undefA, undefA, undefA, undefA, undefA, undefA, undefA, undefA, undefA, undefA, undefA, undefA, undefA, undefA, undefA, undefA, undefA, undefA, undefA, undefA, undefA, undefA, undefA, undefA, undefA, undefA, undefA, undefA, undefA, undefA, undefA, undefA, undefA, undefA, undefA, undefA, undefA, undefA, undefA, undefA, undefA, undefA, undefA, undefA, undefA, undefA, undefA, undefA, undefA, undefA, undefA, undefA, undefA, undefA, undefA, undefA, undefA, undefA, undefA, undefA, undefA, undefA, undefA, undefA, undefA, undefA, undefA, undefA, undefA, undefA, undefA, undefA, undefA, undefA, undefA] H k =
  bnS (newcA H (v0).cells) fun w3_1 H1 => 
  bnS (call 18 [] H1) fun w11_2 H2 => 
  bnP (unA .not w11_2) fun w12_3 => 
  cndS w12_3 (fun _ => k .ret [v0, v1, v2, w3_1, undefA, undefA, (.bool false), undefA, undefA, undefA, undefA, w11_2, w12_3, undefA, undefA, undefA, undefA, undefA, undefA, undefA, undefA, undefA, undefA, undefA, undefA, undefA, undefA, undefA, undefA, undefA, undefA, undefA, undefA, undefA, undefA, undefA, undefA, undefA, undefA, undefA, undefA, undefA, undefA, undefA, undefA, undefA, undefA, undefA, undefA, undefA, undefA, undefA, undefA, undefA, undefA, undefA, undefA, undefA, undefA, undefA, undefA, undefA, undefA, undefA, undefA, undefA, undefA, undefA, undefA, undefA, undefA, undefA, undefA, undefA, undefA, undefA, undefA, undefA, undefA, undefA, undefA, undefA, undefA, undefA, undefA, undefA, undefA, undefA, undefA, undefA, undefA, undefA] H2)
  (fun _ => bnP (lenA v2) fun w14_4 => 
  bnP (binA .gtr w14_4 (.int .i64 10)) fun w15_5 => 
  bnP (gdP (wnt w15_5 false) (fadA 0 w3_1)) fun w17_6 => 
  bnP (gdP (wnt w15_5 false) (ldA H2 w17_6)) fun w18_7 => 
  bnP (gdP (wnt w15_5 false) (binA .gtr w18_7 (.int .i64 1000))) fun w19_8 => 
  bnP (pickA w15_5 (.bool true) w19_8) fun w20_9 => 
  bnP (gdP (wnt w20_9 false) (fadA 0 w3_1)) fun w22_10 => 
  bnP (gdP (wnt w20_9 false) (ldA H2 w22_10)) fun w23_11 => 
  bnP (gdP (wnt w20_9 false) (binA .lss w23_11 (.int .i64 0))) fun w24_12 => 
  bnP (pickA w20_9 (.bool true) w24_12) fun w25_13 => 
  cndS w25_13 (fun _ => k .ret [v0, v1, v2, w3_1, undefA, undefA, (.bool true), undefA, undefA, undefA, undefA, w11_2, w12_3, v2, w14_4, w15_5, w15_5, w17_6, w18_7, w19_8, w20_9, w20_9, w22_10, w23_11, w24_12, w25_13, undefA, undefA, undefA, undefA, undefA, undefA, undefA, undefA, undefA, undefA, undefA, undefA, undefA, undefA, undefA, undefA, undefA, undefA, undefA, undefA, undefA, undefA, undefA, undefA, undefA, undefA, undefA, undefA, undefA, undefA, undefA, undefA, undefA, undefA, undefA, undefA, undefA, undefA, undefA, undefA, undefA, undefA, undefA, undefA, undefA, undefA, undefA, undefA, undefA, undefA, undefA, undefA, undefA, undefA, undefA, undefA, undefA, undefA, undefA, undefA, undefA, undefA, undefA, undefA, undefA, undefA] H2)
  (fun _ => bnP (cviA .i64 v1) fun w27_14 => 
  bnP (ldnA H2 2 w3_1) fun w28_15 => 
  bnP (ldnA H2 2 w3_1) fun w31_17 => 
  bnS (call 19 [w28_15, w27_14] H2) fun w30_19 H3 => pinB (ckP H2 H3 (.q (fun H' => ldnA H' 2 w3_1) w31_17) && true) <| 
  bnS (call 20 [w31_17, w27_14] H3) fun w33_20 H4 => pinB (ckP H3 H4 (.q (fun H' => ldnA H' 2 w3_1) w28_15) && true) <| 
  bnP (eqsA true .b w30_19 w33_20) fun w34_21 => 
  bnP (gdP (wnt w34_21 false) (ldnA H4 2 w3_1)) fun w36_23 => 
  bnP (gdP (wnt w34_21 false) (some w27_14)) fun w37_24 => 
  bnP (gdP (wnt w34_21 false) (ldnA H4 2 w3_1)) fun w39_25 => 
  bnP (gdP (wnt w34_21 false) (some w27_14)) fun w40_26 => 
  bnS (gdS (wnt w34_21 false) (call 21 [w36_23, w37_24] H4) H4) fun w38_27 H5 => pinB (!(wnt w34_21 false) || (ckP H4 H5 (.q (fun H' => ldnA H' 2 w3_1) w28_15) && (ckP H4 H5 (.q (fun H' => ldnA H' 2 w3_1) w31_17) && (ckP H4 H5 (if wnt w34_21 false then .q (fun H' => ldnA H' 2 w3_1) w39_25 else .none) && true)))) <| 
  bnS (gdS (wnt w34_21 false) (call 22 [w39_25, w40_26] H5) H5) fun w41_28 H6 => pinB (!(wnt w34_21 false) || (ckP H5 H6 (.q (fun H' => ldnA H' 2 w3_1) w28_15) && (ckP H5 H6 (.q (fun H' => ldnA H' 2 w3_1) w31_17) && (ckP H5 H6 (if wnt w34_21 false then .q (fun H' => ldnA H' 2 w3_1) w36_23 else .none) && true)))) <| 
  bnP (gdP (wnt w34_21 false) (eqsA true (.st [(0, 1, .i), (1, 1, .i)]) w38_27 w41_28)) fun w42_29 => 
  bnP (pickA w34_21 (.bool true) w42_29) fun w43_30 => 
  bnP (gdP (wnt w43_30 false) (ldnA H6 2 w3_1)) fun w45_32 => 
  bnP (gdP (wnt w43_30 false) (fadA 0 w3_1)) fun w47_33 => 
  bnP (gdP (wnt w43_30 false) (ldA H6 w47_33)) fun w48_34 => 
  bnP (gdP (wnt w43_30 false) (binA .geq w48_34 (.int .i64 3))) fun w49_35 => 
  bnS (gdS (wnt w43_30 false) (call 23 [w45_32] H6) H6) fun w46_36 H7 => pinB (!(wnt w43_30 false) || (ckP H6 H7 (.q (fun H' => ldnA H' 2 w3_1) w28_15) && (ckP H6 H7 (.q (fun H' => ldnA H' 2 w3_1) w31_17) && (ckP H6 H7 (if wnt w34_21 false then .q (fun H' => ldnA H' 2 w3_1) w36_23 else .none) && (ckP H6 H7 (if wnt w34_21 false then .q (fun H' => ldnA H' 2 w3_1) w39_25 else .none) && (ckP H6 H7 (if wnt w43_30 false then .q (fun H' => ldA H' w47_33) w48_34 else .none) && true)))))) <| 
  bnP (gdP (wnt w43_30 false) (eqsA true .b w46_36 w49_35)) fun w50_37 => 
  bnP (pickA w43_30 (.bool true) w50_37) fun w51_38 => 
  cndS w51_38 (fun _ => k .ret [v0, v1, v2, w3_1, undefA, undefA, (.bool false), w27_14, undefA, undefA, undefA, w11_2, w12_3, v2, w14_4, w15_5, w15_5, w17_6, w18_7, w19_8, w20_9, w20_9, w22_10, w23_11, w24_12, w25_13, v1, w27_14, w28_15, w27_14, w30_19, w31_17, w27_14, w33_20, w34_21, w34_21, w36_23, w37_24, w38_27, w39_25, w40_26, w41_28, w42_29, w43_30, w43_30, w45_32, w46_36, w47_33, w48_34, w49_35, w50_37, w51_38, undefA, undefA, undefA, undefA, undefA, undefA, undefA, undefA, undefA, undefA, undefA, undefA, undefA, undefA, undefA, undefA, undefA, undefA, undefA, undefA, undefA, undefA, undefA, undefA, undefA, undefA, undefA, undefA, undefA, undefA, undefA, undefA, undefA, undefA, undefA, undefA, undefA, undefA, undefA, undefA] H7)
  (fun _ => bnS (call 24 [] H7) fun w52_39 H8 => 
  bnP ((fillA [.int .i64 0, .int .i64 0] []).map AV.agg) fun w53_40 => 
  bnS (newcA H8 [.int .i64 0, .int .i64 0]) fun w8_41 H9 => 
  bnS (newcA H9 [.int .i64 0, .int .i64 0]) fun w9_42 H10 => 
  bnS (stA H10 2 w8_41 w52_39) fun _ H11 => 
  bnS (stA H11 2 w9_42 w53_40) fun _ H12 => 
  bnE (lp c_pleachlaw4_WaitAll_1 [v0, v1, v2, w3_1, undefA, undefA, (.bool false), w27_14, w8_41, w9_42, (.int .i64 0), w11_2, w12_3, v2, w14_4, w15_5, w15_5, w17_6, w18_7, w19_8, w20_9, w20_9, w22_10, w23_11, w24_12, w25_13, v1, w27_14, w28_15, w27_14, w30_19, w31_17, w27_14, w33_20, w34_21, w34_21, w36_23, w37_24, w38_27, w39_25, w40_26, w41_28, w42_29, w43_30, w43_30, w45_32, w46_36, w47_33, w48_34, w49_35, w50_37, w51_38, w52_39, w53_40, undefA, undefA, undefA, undefA, undefA, undefA, undefA, undefA, undefA, undefA, undefA, undefA, undefA, undefA, undefA, undefA, undefA, undefA, undefA, undefA, undefA, undefA, undefA, undefA, undefA, undefA, undefA, undefA, undefA, undefA, undefA, undefA, undefA, undefA, undefA, undefA, undefA, undefA] H12) (outK 0 (goOn (fun τ H => evalK call lp c_pleachlaw4_WaitAll_2 τ H k) k))))) := by kernel_rfl
theorem f_pleachlaw4_WaitAll {s : Specs} (hs : s.lookup 3 = none) (v0 v1 v2 : AV) (H : AHeap) : callV (env s) 3 [v0, v1, v2] H = evalK (callV (env s)) (loopV (env s)) c_pleachlaw4_WaitAll [v0, v1, v2, undefA, undefA, undefA, undefA, undefA, undefA, undefA, undefA, undefA, undefA, undefA, undefA, undefA, undefA, undefA, undefA, undefA, undefA, undefA, undefA, undefA, undefA, undefA, undefA, undefA, undefA, undefA, undefA, undefA, undefA, undefA, undefA, undefA, undefA, undefA, undefA, undefA, undefA, undefA, undefA, undefA, undefA, undefA, undefA, undefA, undefA, undefA, undefA, undefA, undefA, undefA, undefA, undefA, undefA, undefA, undefA, undefA, undefA, undefA, undefA, undefA, undefA, undefA, undefA, undefA, undefA, undefA, undefA, undefA, undefA, undefA, undefA, undefA, undefA, undefA, undefA, undefA, undefA, undefA, undefA, undefA, undefA, undefA, undefA, undefA, undefA, undefA, undefA, undefA] H (retK [.tmp 6]) := callV_fn (fn := af_pleachlaw4_WaitAll) hs rfl [v0, v1, v2] H
/-! 18: pleach/pleachlaw4.begun -/
theorem p_pleachlaw4_begun {β : Type} (call : CallF) (lp : LoopF) (H : AHeap) (k : AExit → Tau → AHeap → Option β) : evalK call lp c_pleachlaw4_begun [undefA, undefA, undefA, undefA, undefA, undefA, undefA, undefA, undefA, undefA, undefA, undefA, undefA, undefA, undefA, undefA, undefA, undefA, undefA, undefA, undefA, undefA, undefA, undefA, undefA, undefA, undefA, undefA, undefA, undefA, undefA, undefA, undefA, undefA] H k =
  bnS (call 24 [] H) fun w2_1 H1 => 
  bnS (call 21 [w2_1, (.int .i64 5)] H1) fun w3_2 H2 => 
  bnS (newcA H2 [.int .i64 0, .int .i64 0]) fun w1_3 H3 => 
  bnS (stA H3 2 w1_3 w3_2) fun _ H4 => 
  bnS (call 24 [] H4) fun w4_4 H5 => 
  bnP ((fillA [.int .i64 0, .int .i64 0] []).map AV.agg) fun w5_5 => 
  bnP (eqsA false (.st [(0, 1, .i), (1, 1, .i)]) w4_4 w5_5) fun w6_6 => 
  bnS (gdS (wnt w6_6 true) (call 24 [] H5) H5) fun w8_7 H6 => 
  bnS (gdS (wnt w6_6 true) (call 19 [w8_7, (.int .i64 0)] H6) H6) fun w9_8 H7 => 
  bnP (pickA w6_6 w9_8 (.bool false)) fun w10_9 => 
  bnP (gdP (wnt w10_9 true) (ldnA H7 2 w1_3)) fun w12_10 => 
  bnP (gdP (wnt w10_9 true) ((fillA [.int .i64 0, .int .i64 0] [(0, 1, (.int .i64 1)), (1, 1, (.int .i64 7))]).map AV.agg)) fun w13_11 => 
  bnP (gdP (wnt w10_9 true) (eqsA false (.st [(0, 1, .i), (1, 1, .i)]) w12_10 w13_11)) fun w14_12 => 
  bnP (pickA w10_9 w14_12 (.bool false)) fun w15_13 => 
  bnP (gdP (wnt w15_13 true) (ldnA H7 2 w1_3)) fun w17_14 => 
  bnS (gdS (wnt w15_13 true) (call 19 [w17_14, (.int .i64 6)] H7) H7) fun w18_15 H8 => 
  bnP (gdP (wnt w15_13 true) (unA .not w18_15)) fun w19_16 => 
  bnP (pickA w15_13 w19_16 (.bool false)) fun w20_17 => 
  bnP (gdP (wnt w20_17 true) (ldnA H8 2 w1_3)) fun w22_18 => 
  bnS (gdS (wnt w20_17 true) (call 19 [w22_18, (.int .i64 7)] H8) H8) fun w23_19 H9 => 
  bnP (pickA w20_17 w23_19 (.bool false)) fun w24_20 => 
  bnP (gdP (wnt w24_20 true) (ldnA H9 2 w1_3)) fun w26_21 => 
  bnS (gdS (wnt w24_20 true) (call 23 [w26_21] H9) H9) fun w27_22 H10 => 
  bnP (gdP (wnt w24_20 true) (unA .not w27_22)) fun w28_23 => 
  bnP (pickA w24_20 w28_23 (.bool false)) fun w29_24 => 
  bnP (gdP (wnt w29_24 true) ((fillA [.int .i64 0, .int .i64 0] [(0, 1, (.int .i64 3))]).map AV.agg)) fun w31_25 => 
  bnS (gdS (wnt w29_24 true) (call 23 [w31_25] H10) H10) fun w32_26 H11 => 
  bnP (pickA w29_24 w32_26 (.bool false)) fun w33_27 => 
  k .ret [w33_27, w1_3, w2_1, w3_2, w4_4, w5_5, w6_6, w6_6, w8_7, w9_8, w10_9, w10_9, w12_10, w13_11, w14_12, w15_13, w15_13, w17_14, w18_15, w19_16, w20_17, w20_17, w22_18, w23_19, w24_20, w24_20, w26_21, w27_22, w28_23, w29_24, w29_24, w31_25, w32_26, w33_27] H11 := by kernel_rfl
theorem f_pleachlaw4_begun {s : Specs} (hs : s.lookup 18 = none) (H : AHeap) : callV (env s) 18 [] H = evalK (callV (env s)) (loopV (env s)) c_pleachlaw4_begun [undefA, undefA, undefA, undefA, undefA, undefA, undefA, undefA, undefA, undefA, undefA, undefA, undefA, undefA, undefA, undefA, undefA, undefA, undefA, undefA, undefA, undefA, undefA, undefA, undefA, undefA, undefA, undefA, undefA, undefA, undefA, undefA, undefA, undefA] H (retK [.tmp 0]) := callV_fn (fn := af_pleachlaw4_begun) hs rfl [] H
/-! 19: pleach/wait.Now -/
theorem p_wait_Now {β : Type} (call : CallF) (lp : LoopF) (v0 v1 : AV) (H : AHeap) (k : AExit → Tau → AHeap → Option β) : evalK call lp c_wait_Now [v0, v1, undefA, undefA, undefA, undefA, undefA, undefA, undefA, undefA, undefA, undefA, undefA, undefA] H k =
  bnS (newcA H (v0).cells) fun w2_1 H1 => 
  bnP (fadA 0 w2_1) fun w5_2 => 
  bnP (ldA H1 w5_2) fun w6_3 => 
  bnP (binA .eql w6_3 (.int .i64 0)) fun w7_4 => 
  bnP (gdP (wnt w7_4 false) (some v1)) fun w9_5 => 
  bnP (gdP (wnt w7_4 false) (fadA 1 w2_1)) fun w10_6 => 
  bnP (gdP (wnt w7_4 false) (ldA H1 w10_6)) fun w11_7 => 
  bnP (gdP (wnt w7_4 false) (binA .geq w9_5 w11_7)) fun w12_8 => 
  bnP (pickA w7_4 (.bool true) w12_8) fun w13_9 => 
  k .ret [v0, v1, w2_1, undefA, w13_9, w5_2, w6_3, w7_4, w7_4, w9_5, w10_6, w11_7, w12_8, w13_9] H1 := by kernel_rfl
theorem f_wait_Now {s : Specs} (hs : s.lookup 19 = none) (v0 v1 : AV) (H : AHeap) : callV (env s) 19 [v0, v1] H = evalK (callV (env s)) (loopV (env s)) c_wait_Now [v0, v1, undefA, undefA, undefA, undefA, undefA, undefA, undefA, undefA, undefA, undefA, undefA, undefA] H (retK [.tmp 4]) := callV_fn (fn := af_wait_Now) hs rfl [v0, v1] H
/-! 20: pleach/pleachref1.Now -/
theorem p_pleachref1_Now {β : Type} (call : CallF) (lp : LoopF) (v0 v1 : AV) (H : AHeap) (k : AExit → Tau → AHeap → Option β) : evalK call lp c_pleachref1_Now [v0, v1, undefA, undefA, undefA, undefA, undefA, undefA, undefA, undefA, undefA, undefA, undefA, undefA] H k =
  bnS (newcA H (v0).cells) fun w2_1 H1 => 
  bnP (fadA 0 w2_1) fun w5_2 => 
  bnP (ldA H1 w5_2) fun w6_3 => 
  bnP (binA .eql w6_3 (.int .i64 0)) fun w7_4 => 
  bnP (gdP (wnt w7_4 false) (some v1)) fun w9_5 => 
  bnP (gdP (wnt w7_4 false) (fadA 1 w2_1)) fun w10_6 => 
  bnP (gdP (wnt w7_4 false) (ldA H1 w10_6)) fun w11_7 => 
  bnP (gdP (wnt w7_4 false) (binA .geq w9_5 w11_7)) fun w12_8 => 
  bnP (pickA w7_4 (.bool true) w12_8) fun w13_9 => 
  k .ret [v0, v1, w2_1, undefA, w13_9, w5_2, w6_3, w7_4, w7_4, w9_5, w10_6, w11_7, w12_8, w13_9] H1 := by kernel_rfl
theorem f_pleachref1_Now {s : Specs} (hs : s.lookup 20 = none) (v0 v1 : AV) (H : AHeap) : callV (env s) 20 [v0, v1] H = evalK (callV (env s)) (loopV (env s)) c_pleachref1_Now [v0, v1, undefA, undefA, undefA, undefA, undefA, undefA, undefA, undefA, undefA, undefA, undefA, undefA] H (retK [.tmp 4]) := callV_fn (fn := af_pleachref1_Now) hs rfl [v0, v1] H
/-! 21: pleach/wait.Tried -/
theorem p_wait_Tried {β : Type} (call : CallF) (lp : LoopF) (v0 v1 : AV) (H : AHeap) (k : AExit → Tau → AHeap → Option β) : evalK call lp c_wait_Tried [v0, v1, undefA, undefA, undefA, undefA, undefA, undefA, undefA, undefA, undefA, undefA, undefA, undefA, undefA, undefA] H k =
  bnS (newcA H (v0).cells) fun w2_1 H1 => 
  bnS (newcA H1 [.int .i64 0, .int .i64 0]) fun w4_2 H2 => 
  bnP (fadA 0 w2_1) fun w5_3 => 
  bnP (ldA H2 w5_3) fun w6_4 => 
  bnP (binA .add w6_4 (.int .i64 1)) fun w7_5 => 
  bnP (fadA 0 w2_1) fun w9_7 => 
  bnP (ldA H2 w9_7) fun w10_8 => 
  bnP (mniA [w10_8, (.int .i64 3)]) fun w11_9 => 
  bnP (mxiA [w11_9, (.int .i64 0)]) fun w12_10 => 
  bnP (binA .shl (.int .i64 2) w12_10) fun w13_11 => 
  bnP (binA .add v1 w13_11) fun w14_12 => 
  bnP ((fillA [.int .i64 0, .int .i64 0] [(0, 1, w7_5), (1, 1, w14_12)]).map AV.agg) fun w15_13 => 
  bnS (stA H2 2 w4_2 w15_13) fun _ H3 => 
  k .ret [v0, v1, w2_1, undefA, w4_2, w5_3, w6_4, w7_5, v1, w9_7, w10_8, w11_9, w12_10, w13_11, w14_12, w15_13] H3 := by kernel_rfl
theorem f_wait_Tried {s : Specs} (hs : s.lookup 21 = none) (v0 v1 : AV) (H : AHeap) : callV (env s) 21 [v0, v1] H = evalK (callV (env s)) (loopV (env s)) c_wait_Tried [v0, v1, undefA, undefA, undefA, undefA, undefA, undefA, undefA, undefA, undefA, undefA, undefA, undefA, undefA, undefA] H (retK [.cell 4 (some 2)]) := callV_fn (fn := af_wait_Tried) hs rfl [v0, v1] H
/-! 22: pleach/pleachref1.Tried -/
theorem p_pleachref1_Tried_0 {β : Type} (call : CallF) (lp : LoopF) (v0 v1 v2 v4 v5 v6 v15 v16 : AV) (H : AHeap) (k : AExit → Tau → AHeap → Option β) : evalK call lp c_pleachref1_Tried_0 [v0, v1, v2, undefA, v4, v5, v6, undefA, undefA, undefA, undefA, undefA, undefA, undefA, undefA, v15, v16, undefA, undefA, undefA, undefA, undefA, undefA, undefA, undefA, undefA] H k =
  bnP (fadA 0 v2) fun w8_1 => 
  bnP (ldA H w8_1) fun w9_2 => 
  bnP (binA .lss v6 w9_2) fun w10_3 => 
  bnP (gdP (wnt w10_3 true) (some v6)) fun w12_4 => 
  bnP (gdP (wnt w10_3 true) (binA .lss w12_4 (.int .i64 3))) fun w13_5 => 
  bnP (pickA w10_3 w13_5 (.bool false)) fun w14_6 => 
  cndS w14_6 (fun _ => bnP (binA .mul v5 (.int .i64 2)) fun w18_7 => 
  bnP (binA .add v6 (.int .i64 1)) fun w16_8 => 
  k .normal [undefA, v1, v2, undefA, v4, w18_7, w16_8, undefA, undefA, undefA, undefA, undefA, undefA, undefA, undefA, v6, w16_8, undefA, undefA, undefA, undefA, undefA, undefA, undefA, undefA, undefA] H)
  (fun _ => k (.exit 0) [undefA, v1, v2, undefA, v4, v5, undefA, undefA, undefA, undefA, undefA, undefA, undefA, undefA, undefA, undefA, undefA, undefA, undefA, undefA, undefA, undefA, undefA, undefA, undefA, undefA] H) := by kernel_rfl
noncomputable def L_pleachref1_Tried_0 (s : Specs) (v1 v2 v4 v5 v6 : AV) (H : AHeap) : Option (AExit × Tau × AHeap) := loopV (env s) c_pleachref1_Tried_0 [undefA, v1, v2, undefA, v4, v5, v6, undefA, undefA, undefA, undefA, undefA, undefA, undefA, undefA, undefA, undefA, undefA, undefA, undefA, undefA, undefA, undefA, undefA, undefA, undefA] H
theorem L_pleachref1_Tried_0_fold (s : Specs) (v0 v1 v2 v4 v5 v6 v15 v16 : AV) (H : AHeap) : evalV (env s) (.loop c_pleachref1_Tried_0) [v0, v1, v2, undefA, v4, v5, v6, undefA, undefA, undefA, undefA, undefA, undefA, undefA, undefA, v15, v16, undefA, undefA, undefA, undefA, undefA, undefA, undefA, undefA, undefA] H = L_pleachref1_Tried_0 s v1 v2 v4 v5 v6 H := by
  show loopV (env s) c_pleachref1_Tried_0 [v0, v1, v2, undefA, v4, v5, v6, undefA, undefA, undefA, undefA, undefA, undefA, undefA, undefA, v15, v16, undefA, undefA, undefA, undefA, undefA, undefA, undefA, undefA, undefA] H = loopV (env s) c_pleachref1_Tried_0 [undefA, v1, v2, undefA, v4, v5, v6, undefA, undefA, undefA, undefA, undefA, undefA, undefA, undefA, undefA, undefA, undefA, undefA, undefA, undefA, undefA, undefA, undefA, undefA, undefA] H
  rw [loopV_body, p_pleachref1_Tried_0, loopV_body, p_pleachref1_Tried_0]
abbrev X_pleachref1_Tried_0_x0 (v1 v2 v4 v5 : AV) : Tau := [undefA, v1, v2, undefA, v4, v5, undefA, undefA, undefA, undefA, undefA, undefA, undefA, undefA, undefA, undefA, undefA, undefA, undefA, undefA, undefA, undefA, undefA, undefA, undefA, undefA]
theorem L_pleachref1_Tried_0_eq (s : Specs) (v1 v2 v4 v5 v6 : AV) (H : AHeap) : L_pleachref1_Tried_0 s v1 v2 v4 v5 v6 H = evalK (callV (env s)) (loopV (env s)) c_pleachref1_Tried_0 [undefA, v1, v2, undefA, v4, v5, v6, undefA, undefA, undefA, undefA, undefA, undefA, undefA, undefA, undefA, undefA, undefA, undefA, undefA, undefA, undefA, undefA, undefA, undefA, undefA] H (goOn (fun τ H => loopV (env s) c_pleachref1_Tried_0 τ H) ret3) := loopV_body
theorem p_pleachref1_Tried_1 {β : Type} (call : CallF) (lp : LoopF) (v1 v2 v4 v5 : AV) (H : AHeap) (k : AExit → Tau → AHeap → Option β) : evalK call lp c_pleachref1_Tried_1 [undefA, v1, v2, undefA, v4, v5, undefA, undefA, undefA, undefA, undefA, undefA, undefA, undefA, undefA, undefA, undefA, undefA, undefA, undefA, undefA, undefA, undefA, undefA, undefA, undefA] H k =
  bnP (fadA 0 v2) fun w19_1 => 
  bnP (ldA H w19_1) fun w20_2 => 
  bnP (binA .add w20_2 (.int .i64 1)) fun w21_3 => 
  bnP (binA .add v1 v5) fun w24_4 => 
  bnP ((fillA [.int .i64 0, .int .i64 0] [(0, 1, w21_3), (1, 1, w24_4)]).map AV.agg) fun w25_5 => 
  bnS (stA H 2 v4 w25_5) fun _ H1 => 
  k .ret [undefA, v1, v2, undefA, v4, v5, undefA, undefA, undefA, undefA, undefA, undefA, undefA, undefA, undefA, undefA, undefA, undefA, undefA, w19_1, w20_2, w21_3, v1, v5, w24_4, w25_5] H1 := by kernel_rfl
theorem p_pleachref1_Tried {β : Type} (call : CallF) (lp : LoopF) (v0 v1 : AV) (H : AHeap) (k : AExit → Tau → AHeap → Option β) : evalK call lp c_pleachref1_Tried [v0, v1, undefA, undefA, undefA, undefA, undefA, undefA, undefA, undefA, undefA, undefA, undefA, undefA, undefA, undefA, undefA, undefA, undefA, undefA, undefA, undefA, undefA, undefA, undefA, undefA] H k =
  bnS (newcA H (v0).cells) fun w2_1 H1 => 
  bnS (newcA H1 [.int .i64 0, .int .i64 0]) fun w4_2 H2 => 
  bnE (lp c_pleachref1_Tried_0 [v0, v1, w2_1, undefA, w4_2, (.int .i64 2), (.int .i64 0), undefA, undefA, undefA, undefA, undefA, undefA, undefA, undefA, undefA, undefA, undefA, undefA, undefA, undefA, undefA, undefA, undefA, undefA, undefA] H2) (outK 0 (goOn (fun τ H => evalK call lp c_pleachref1_Tried_1 τ H k) k)) := by kernel_rfl
theorem f_pleachref1_Tried {s : Specs} (hs : s.lookup 22 = none) (v0 v1 : AV) (H : AHeap) : callV (env s) 22 [v0, v1] H = evalK (callV (env s)) (loopV (env s)) c_pleachref1_Tried [v0, v1, undefA, undefA, undefA, undefA, undefA, undefA, undefA, undefA, undefA, undefA, undefA, undefA, undefA, undefA, undefA, undefA, undefA, undefA, undefA, undefA, undefA, undefA, undefA, undefA] H (retK [.cell 4 (some 2)]) := callV_fn (fn := af_pleachref1_Tried) hs rfl [v0, v1] H
/-! 23: pleach/wait.Tired -/
theorem p_wait_Tired {β : Type} (call : CallF) (lp : LoopF) (v0 : AV) (H : AHeap) (k : AExit → Tau → AHeap → Option β) : evalK call lp c_wait_Tired [v0, undefA, undefA, undefA, undefA, undefA] H k =
  bnS (newcA H (v0).cells) fun w1_1 H1 => 
  bnP (fadA 0 w1_1) fun w3_2 => 
  bnP (ldA H1 w3_2) fun w4_3 => 
  bnP (binA .geq w4_3 (.int .i64 3)) fun w5_4 => 
  k .ret [v0, w1_1, w5_4, w3_2, w4_3, w5_4] H1 := by kernel_rfl
theorem f_wait_Tired {s : Specs} (hs : s.lookup 23 = none) (v0 : AV) (H : AHeap) : callV (env s) 23 [v0] H = evalK (callV (env s)) (loopV (env s)) c_wait_Tired [v0, undefA, undefA, undefA, undefA, undefA] H (retK [.tmp 2]) := callV_fn (fn := af_wait_Tired) hs rfl [v0] H
/-! 24: pleach/wait.Start -/
theorem p_wait_Start {β : Type} (call : CallF) (lp : LoopF) (H : AHeap) (k : AExit → Tau → AHeap → Option β) : evalK call lp c_wait_Start [undefA, undefA] H k =
  bnS (newcA H [.int .i64 0, .int .i64 0]) fun w0_1 H1 => 
  bnP ((fillA [.int .i64 0, .int .i64 0] []).map AV.agg) fun w1_2 => 
  bnS (stA H1 2 w0_1 w1_2) fun _ H2 => 
  k .ret [w0_1, w1_2] H2 := by kernel_rfl
theorem f_wait_Start {s : Specs} (hs : s.lookup 24 = none) (H : AHeap) : callV (env s) 24 [] H = evalK (callV (env s)) (loopV (env s)) c_wait_Start [undefA, undefA] H (retK [.cell 0 (some 2)]) := callV_fn (fn := af_wait_Start) hs rfl [] H
end Go.Proofs.Ytncbinaaagmmaaa.Bw
