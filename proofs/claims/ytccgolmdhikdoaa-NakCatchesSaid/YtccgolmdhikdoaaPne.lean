/- Equations by values. Printed by mkpv.py of this repo. -/
import Derived.Test.YtccgolmdhikdoaaPnd
import Derived.Test.YtccgolmdhikdoaaPvE
namespace Go.Proofs.Ytccgolmdhikdoaa.Pn
open Go.Ab
set_option maxRecDepth 100000
set_option linter.unusedVariables false
set_option linter.unusedSimpArgs false
set_option linter.defProp false
theorem p_pleachlaw17_NakCatches_0 {β : Type} (call : CallF) (lp : PLoopF) (t7 t8 t11 t12 t13 t14 s5_0 s5_1 s5_2 s5_3 s5_4 s5_5 s5_6 s6_0 s6_1 s6_2 s6_3 s6_4 s6_5 s6_6 : AV) (Q : AHeap) (k : PK β) : evalPK call lp c_pleachlaw17_NakCatches_0 [(5, .lp 5 0), (6, .lp 6 0), (7, .v t7), (8, .v t8), (11, .v t11), (12, .v t12), (13, .v t13), (14, .v t14)] [(5, .cells [s5_0, s5_1, s5_2, s5_3, s5_4, s5_5, s5_6]), (6, .cells [s6_0, s6_1, s6_2, s6_3, s6_4, s6_5, s6_6])] Q k = (
  bnP (lenQ t12) fun w88_1 => 
  bnP (binA .lss t14 w88_1) fun w89_2 => 
  cndS w89_2 (fun _ => bnP (elQ 2 t12 t14) fun e3 => 
  bnC 2 (cut (AV.cells e3) 0 2) fun c96_4 c96_5 => 
  bnS (call 34 [.agg [s5_0, s5_1, s5_2, s5_3, s5_4, s5_5, s5_6], .agg [c96_4, c96_5]] Q) fun w97_6 Q7 => 
  bnC 7 (stC 7 (frz w97_6)) fun s8 s9 s10 s11 s12 s13 s14 => 
  bnP (binA .add t14 (.int .i64 1)) fun w91_15 => 
  k .normal [(5, .lp 5 0), (6, .lp 6 0), (7, .v t7), (8, .v t8), (11, .v t11), (12, .v t12), (13, .v t13), (14, .v w91_15)] [(5, .cells [s8, s9, s10, s11, s12, s13, s14]), (6, .cells [s6_0, s6_1, s6_2, s6_3, s6_4, s6_5, s6_6])] Q7)
  (fun _ => k (.exit 2) [(5, .lp 5 0), (6, .lp 6 0), (7, .v t7), (8, .v t8), (11, .v t11), (13, .v t13)] [(5, .cells [s5_0, s5_1, s5_2, s5_3, s5_4, s5_5, s5_6]), (6, .cells [s6_0, s6_1, s6_2, s6_3, s6_4, s6_5, s6_6])] Q)) := by kernel_rfl
noncomputable def L_pleachlaw17_NakCatches_0 (s : PSpecs) (t7 t8 t11 t12 t13 t14 s5_0 s5_1 s5_2 s5_3 s5_4 s5_5 s5_6 s6_0 s6_1 s6_2 s6_3 s6_4 s6_5 s6_6 : AV) (Q : AHeap) : Option PEnd := loopP (penv s) c_pleachlaw17_NakCatches_0 [(5, .lp 5 0), (6, .lp 6 0), (7, .v t7), (8, .v t8), (11, .v t11), (12, .v t12), (13, .v t13), (14, .v t14)] [(5, .cells [s5_0, s5_1, s5_2, s5_3, s5_4, s5_5, s5_6]), (6, .cells [s6_0, s6_1, s6_2, s6_3, s6_4, s6_5, s6_6])] Q
theorem L_pleachlaw17_NakCatches_0_fold (s : PSpecs) (t7 t8 t11 t12 t13 t14 s5_0 s5_1 s5_2 s5_3 s5_4 s5_5 s5_6 s6_0 s6_1 s6_2 s6_3 s6_4 s6_5 s6_6 : AV) (Q : AHeap) : loopP (penv s) c_pleachlaw17_NakCatches_0 [(5, .lp 5 0), (6, .lp 6 0), (7, .v t7), (8, .v t8), (11, .v t11), (12, .v t12), (13, .v t13), (14, .v t14)] [(5, .cells [s5_0, s5_1, s5_2, s5_3, s5_4, s5_5, s5_6]), (6, .cells [s6_0, s6_1, s6_2, s6_3, s6_4, s6_5, s6_6])] Q = L_pleachlaw17_NakCatches_0 s t7 t8 t11 t12 t13 t14 s5_0 s5_1 s5_2 s5_3 s5_4 s5_5 s5_6 s6_0 s6_1 s6_2 s6_3 s6_4 s6_5 s6_6 Q := rfl
theorem L_pleachlaw17_NakCatches_0_eq (s : PSpecs) (t7 t8 t11 t12 t13 t14 s5_0 s5_1 s5_2 s5_3 s5_4 s5_5 s5_6 s6_0 s6_1 s6_2 s6_3 s6_4 s6_5 s6_6 : AV) (Q : AHeap) : L_pleachlaw17_NakCatches_0 s t7 t8 t11 t12 t13 t14 s5_0 s5_1 s5_2 s5_3 s5_4 s5_5 s5_6 s6_0 s6_1 s6_2 s6_3 s6_4 s6_5 s6_6 Q = evalPK (callP (penv s)) (loopP (penv s)) c_pleachlaw17_NakCatches_0 [(5, .lp 5 0), (6, .lp 6 0), (7, .v t7), (8, .v t8), (11, .v t11), (12, .v t12), (13, .v t13), (14, .v t14)] [(5, .cells [s5_0, s5_1, s5_2, s5_3, s5_4, s5_5, s5_6]), (6, .cells [s6_0, s6_1, s6_2, s6_3, s6_4, s6_5, s6_6])] Q (goX (fun τ ω Q => loopP (penv s) c_pleachlaw17_NakCatches_0 τ ω Q) ret4) := loopP_body
abbrev X_pleachlaw17_NakCatches_0_x2 (t7 t8 t11 t13 s5_0 s5_1 s5_2 s5_3 s5_4 s5_5 s5_6 s6_0 s6_1 s6_2 s6_3 s6_4 s6_5 s6_6 : AV) (Q : AHeap) : Option PEnd := some (.exit 2, [(5, .lp 5 0), (6, .lp 6 0), (7, .v t7), (8, .v t8), (11, .v t11), (13, .v t13)], [(5, .cells [s5_0, s5_1, s5_2, s5_3, s5_4, s5_5, s5_6]), (6, .cells [s6_0, s6_1, s6_2, s6_3, s6_4, s6_5, s6_6])], Q)
theorem p_pleachlaw17_NakCatches_1 {β : Type} (call : CallF) (lp : PLoopF) (t7 t8 t11 t13 t15 s5_0 s5_1 s5_2 s5_3 s5_4 s5_5 s5_6 s6_0 s6_1 s6_2 s6_3 s6_4 s6_5 s6_6 : AV) (Q : AHeap) (k : PK β) : evalPK call lp c_pleachlaw17_NakCatches_1 [(5, .lp 5 0), (6, .lp 6 0), (7, .v t7), (8, .v t8), (11, .v t11), (13, .v t13), (15, .v t15)] [(5, .cells [s5_0, s5_1, s5_2, s5_3, s5_4, s5_5, s5_6]), (6, .cells [s6_0, s6_1, s6_2, s6_3, s6_4, s6_5, s6_6])] Q k = (
  bnP (lenQ t13) fun w100_1 => 
  bnP (binA .lss t15 w100_1) fun w101_2 => 
  cndS w101_2 (fun _ => bnP (elQ 2 t13 t15) fun e3 => 
  bnP ((AV.cells e3)[0]?) fun w109_4 => 
  bnP (elQ 2 t13 t15) fun e5 => 
  bnP ((AV.cells e5)[1]?) fun w114_6 => 
  bnS (call 35 [.agg [s5_0, s5_1, s5_2, s5_3, s5_4, s5_5, s5_6], w109_4, w114_6] Q) fun w115_7 Q8 => 
  bnC 7 (stC 7 (frz w115_7)) fun s9 s10 s11 s12 s13 s14 s15 => 
  bnP (binA .add t15 (.int .i64 1)) fun w103_16 => 
  k .normal [(5, .lp 5 0), (6, .lp 6 0), (7, .v t7), (8, .v t8), (11, .v t11), (13, .v t13), (15, .v w103_16)] [(5, .cells [s9, s10, s11, s12, s13, s14, s15]), (6, .cells [s6_0, s6_1, s6_2, s6_3, s6_4, s6_5, s6_6])] Q8)
  (fun _ => k (.exit 4) [(5, .lp 5 0), (6, .lp 6 0), (7, .v t7), (8, .v t8), (11, .v t11)] [(5, .cells [s5_0, s5_1, s5_2, s5_3, s5_4, s5_5, s5_6]), (6, .cells [s6_0, s6_1, s6_2, s6_3, s6_4, s6_5, s6_6])] Q)) := by kernel_rfl
noncomputable def L_pleachlaw17_NakCatches_1 (s : PSpecs) (t7 t8 t11 t13 t15 s5_0 s5_1 s5_2 s5_3 s5_4 s5_5 s5_6 s6_0 s6_1 s6_2 s6_3 s6_4 s6_5 s6_6 : AV) (Q : AHeap) : Option PEnd := loopP (penv s) c_pleachlaw17_NakCatches_1 [(5, .lp 5 0), (6, .lp 6 0), (7, .v t7), (8, .v t8), (11, .v t11), (13, .v t13), (15, .v t15)] [(5, .cells [s5_0, s5_1, s5_2, s5_3, s5_4, s5_5, s5_6]), (6, .cells [s6_0, s6_1, s6_2, s6_3, s6_4, s6_5, s6_6])] Q
theorem L_pleachlaw17_NakCatches_1_fold (s : PSpecs) (t7 t8 t11 t13 t15 s5_0 s5_1 s5_2 s5_3 s5_4 s5_5 s5_6 s6_0 s6_1 s6_2 s6_3 s6_4 s6_5 s6_6 : AV) (Q : AHeap) : loopP (penv s) c_pleachlaw17_NakCatches_1 [(5, .lp 5 0), (6, .lp 6 0), (7, .v t7), (8, .v t8), (11, .v t11), (13, .v t13), (15, .v t15)] [(5, .cells [s5_0, s5_1, s5_2, s5_3, s5_4, s5_5, s5_6]), (6, .cells [s6_0, s6_1, s6_2, s6_3, s6_4, s6_5, s6_6])] Q = L_pleachlaw17_NakCatches_1 s t7 t8 t11 t13 t15 s5_0 s5_1 s5_2 s5_3 s5_4 s5_5 s5_6 s6_0 s6_1 s6_2 s6_3 s6_4 s6_5 s6_6 Q := rfl
theorem L_pleachlaw17_NakCatches_1_eq (s : PSpecs) (t7 t8 t11 t13 t15 s5_0 s5_1 s5_2 s5_3 s5_4 s5_5 s5_6 s6_0 s6_1 s6_2 s6_3 s6_4 s6_5 s6_6 : AV) (Q : AHeap) : L_pleachlaw17_NakCatches_1 s t7 t8 t11 t13 t15 s5_0 s5_1 s5_2 s5_3 s5_4 s5_5 s5_6 s6_0 s6_1 s6_2 s6_3 s6_4 s6_5 s6_6 Q = evalPK (callP (penv s)) (loopP (penv s)) c_pleachlaw17_NakCatches_1 [(5, .lp 5 0), (6, .lp 6 0), (7, .v t7), (8, .v t8), (11, .v t11), (13, .v t13), (15, .v t15)] [(5, .cells [s5_0, s5_1, s5_2, s5_3, s5_4, s5_5, s5_6]), (6, .cells [s6_0, s6_1, s6_2, s6_3, s6_4, s6_5, s6_6])] Q (goX (fun τ ω Q => loopP (penv s) c_pleachlaw17_NakCatches_1 τ ω Q) ret4) := loopP_body
abbrev X_pleachlaw17_NakCatches_1_x4 (t7 t8 t11 s5_0 s5_1 s5_2 s5_3 s5_4 s5_5 s5_6 s6_0 s6_1 s6_2 s6_3 s6_4 s6_5 s6_6 : AV) (Q : AHeap) : Option PEnd := some (.exit 4, [(5, .lp 5 0), (6, .lp 6 0), (7, .v t7), (8, .v t8), (11, .v t11)], [(5, .cells [s5_0, s5_1, s5_2, s5_3, s5_4, s5_5, s5_6]), (6, .cells [s6_0, s6_1, s6_2, s6_3, s6_4, s6_5, s6_6])], Q)
theorem p_pleachlaw17_NakCatches_2 {β : Type} (call : CallF) (lp : PLoopF) (t7 t8 t11 s5_0 s5_1 s5_2 s5_3 s5_4 s5_5 s5_6 s6_0 s6_1 s6_2 s6_3 s6_4 s6_5 s6_6 : AV) (Q : AHeap) (k : PK β) : evalPK call lp c_pleachlaw17_NakCatches_2 [(5, .lp 5 0), (6, .lp 6 0), (7, .v t7), (8, .v t8), (11, .v t11)] [(5, .cells [s5_0, s5_1, s5_2, s5_3, s5_4, s5_5, s5_6]), (6, .cells [s6_0, s6_1, s6_2, s6_3, s6_4, s6_5, s6_6])] Q k = (
  bnP (binA .leq s5_0 t11) fun w119_1 => 
  cndS w119_1 (fun _ => k .ret [(4, .v (.bool false))] [] Q)
  (fun _ => k .normal [(5, .lp 5 0), (6, .lp 6 0), (7, .v t7), (8, .v t8)] [(5, .cells [s5_0, s5_1, s5_2, s5_3, s5_4, s5_5, s5_6]), (6, .cells [s6_0, s6_1, s6_2, s6_3, s6_4, s6_5, s6_6])] Q)) := by kernel_rfl
theorem p_pleachlaw17_NakCatches_3 {β : Type} (call : CallF) (lp : PLoopF) (t7 t8 t11 t13 s5_0 s5_1 s5_2 s5_3 s5_4 s5_5 s5_6 s6_0 s6_1 s6_2 s6_3 s6_4 s6_5 s6_6 : AV) (Q : AHeap) (k : PK β) : evalPK call lp c_pleachlaw17_NakCatches_3 [(5, .lp 5 0), (6, .lp 6 0), (7, .v t7), (8, .v t8), (11, .v t11), (13, .v t13)] [(5, .cells [s5_0, s5_1, s5_2, s5_3, s5_4, s5_5, s5_6]), (6, .cells [s6_0, s6_1, s6_2, s6_3, s6_4, s6_5, s6_6])] Q k = (
  bnX (lp c_pleachlaw17_NakCatches_1 [(5, .lp 5 0), (6, .lp 6 0), (7, .v t7), (8, .v t8), (11, .v t11), (13, .v t13), (15, .v (.int .i64 0))] [(5, .cells [s5_0, s5_1, s5_2, s5_3, s5_4, s5_5, s5_6]), (6, .cells [s6_0, s6_1, s6_2, s6_3, s6_4, s6_5, s6_6])] Q) (outX 4 (goC (evalPK call lp c_pleachlaw17_NakCatches_2) k))) := by kernel_rfl
theorem p_pleachlaw17_NakCatches_4 {β : Type} (call : CallF) (lp : PLoopF) (t7 t8 s5_0 s5_1 s5_2 s5_3 s5_4 s5_5 s5_6 s6_0 s6_1 s6_2 s6_3 s6_4 s6_5 s6_6 : AV) (Q : AHeap) (k : PK β) : evalPK call lp c_pleachlaw17_NakCatches_4 [(5, .lp 5 0), (6, .lp 6 0), (7, .v t7), (8, .v t8)] [(5, .cells [s5_0, s5_1, s5_2, s5_3, s5_4, s5_5, s5_6]), (6, .cells [s6_0, s6_1, s6_2, s6_3, s6_4, s6_5, s6_6])] Q k = (
  bnP (binA .add t8 (.int .i64 1)) fun w60_1 => 
  k .normal [(5, .lp 5 0), (6, .lp 6 0), (7, .v t7), (8, .v w60_1)] [(5, .cells [s5_0, s5_1, s5_2, s5_3, s5_4, s5_5, s5_6]), (6, .cells [s6_0, s6_1, s6_2, s6_3, s6_4, s6_5, s6_6])] Q) := by kernel_rfl
theorem p_pleachlaw17_NakCatches_5 {β : Type} (call : CallF) (lp : PLoopF) (t7 t8 s5_0 s5_1 s5_2 s5_3 s5_4 s5_5 s5_6 s6_0 s6_1 s6_2 s6_3 s6_4 s6_5 s6_6 : AV) (Q : AHeap) (k : PK β) : evalPK call lp c_pleachlaw17_NakCatches_5 [(5, .lp 5 0), (6, .lp 6 0), (7, .v t7), (8, .v t8)] [(5, .cells [s5_0, s5_1, s5_2, s5_3, s5_4, s5_5, s5_6]), (6, .cells [s6_0, s6_1, s6_2, s6_3, s6_4, s6_5, s6_6])] Q k = (
  bnP (binA .lss t8 (.int .i64 40)) fun w51_1 => 
  bnP (gdQ w51_1 true (some s5_0)) fun w54_2 => 
  bnP (gdQ w51_1 true (some s6_0)) fun w56_3 => 
  bnP (gdQ w51_1 true (binA .lss w54_2 w56_3)) fun w57_4 => 
  bnP (pickA w51_1 w57_4 (.bool false)) fun w58_5 => 
  cndS w58_5 (fun _ => bnS (call 17 [.agg [s5_0, s5_1, s5_2, s5_3, s5_4, s5_5, s5_6]] Q) fun w63_6 Q7 => 
  bnP (extA (frz w63_6) 0) fun w64_8 => 
  bnP (extA (frz w63_6) 1) fun w65_9 => 
  bnC 2 (stC 2 w64_8) fun s10 s11 => 
  bnP (unA .not w65_9) fun w67_12 => 
  bnP (gdQ w67_12 false (some s10)) fun w70_13 => 
  bnP (gdQ w67_12 false (some s5_0)) fun w72_14 => 
  bnP (gdQ w67_12 false (binA .neq w70_13 w72_14)) fun w73_15 => 
  bnP (pickA w67_12 (.bool true) w73_15) fun w74_16 => 
  cndS w74_16 (fun _ => k .ret [(4, .v (.bool false))] [] Q7)
  (fun _ => bnS (call 19 [.agg [s6_0, s6_1, s6_2, s6_3, s6_4, s6_5, s6_6], s10, s11] Q7) fun w83_17 Q18 => 
  bnP (extA (frz w83_17) 0) fun w84_19 => 
  bnP (extA (frz w83_17) 1) fun w85_20 => 
  bnX (lp c_pleachlaw17_NakCatches_0 [(5, .lp 5 0), (6, .lp 6 0), (7, .v t7), (8, .v t8), (11, .v s5_0), (12, .v w84_19), (13, .v w85_20), (14, .v (.int .i64 0))] [(5, .cells [s5_0, s5_1, s5_2, s5_3, s5_4, s5_5, s5_6]), (6, .cells [s6_0, s6_1, s6_2, s6_3, s6_4, s6_5, s6_6])] Q18) (outX 2 (goC (evalPK call lp c_pleachlaw17_NakCatches_3) (outX 1 (goC (evalPK call lp c_pleachlaw17_NakCatches_4) k))))))
  (fun _ => k (.exit 0) [(5, .lp 5 0), (6, .lp 6 0), (7, .v t7)] [(5, .cells [s5_0, s5_1, s5_2, s5_3, s5_4, s5_5, s5_6]), (6, .cells [s6_0, s6_1, s6_2, s6_3, s6_4, s6_5, s6_6])] Q)) := by kernel_rfl
noncomputable def L_pleachlaw17_NakCatches_5 (s : PSpecs) (t7 t8 s5_0 s5_1 s5_2 s5_3 s5_4 s5_5 s5_6 s6_0 s6_1 s6_2 s6_3 s6_4 s6_5 s6_6 : AV) (Q : AHeap) : Option PEnd := loopP (penv s) c_pleachlaw17_NakCatches_5 [(5, .lp 5 0), (6, .lp 6 0), (7, .v t7), (8, .v t8)] [(5, .cells [s5_0, s5_1, s5_2, s5_3, s5_4, s5_5, s5_6]), (6, .cells [s6_0, s6_1, s6_2, s6_3, s6_4, s6_5, s6_6])] Q
theorem L_pleachlaw17_NakCatches_5_fold (s : PSpecs) (t7 t8 s5_0 s5_1 s5_2 s5_3 s5_4 s5_5 s5_6 s6_0 s6_1 s6_2 s6_3 s6_4 s6_5 s6_6 : AV) (Q : AHeap) : loopP (penv s) c_pleachlaw17_NakCatches_5 [(5, .lp 5 0), (6, .lp 6 0), (7, .v t7), (8, .v t8)] [(5, .cells [s5_0, s5_1, s5_2, s5_3, s5_4, s5_5, s5_6]), (6, .cells [s6_0, s6_1, s6_2, s6_3, s6_4, s6_5, s6_6])] Q = L_pleachlaw17_NakCatches_5 s t7 t8 s5_0 s5_1 s5_2 s5_3 s5_4 s5_5 s5_6 s6_0 s6_1 s6_2 s6_3 s6_4 s6_5 s6_6 Q := rfl
theorem L_pleachlaw17_NakCatches_5_eq (s : PSpecs) (t7 t8 s5_0 s5_1 s5_2 s5_3 s5_4 s5_5 s5_6 s6_0 s6_1 s6_2 s6_3 s6_4 s6_5 s6_6 : AV) (Q : AHeap) : L_pleachlaw17_NakCatches_5 s t7 t8 s5_0 s5_1 s5_2 s5_3 s5_4 s5_5 s5_6 s6_0 s6_1 s6_2 s6_3 s6_4 s6_5 s6_6 Q = evalPK (callP (penv s)) (loopP (penv s)) c_pleachlaw17_NakCatches_5 [(5, .lp 5 0), (6, .lp 6 0), (7, .v t7), (8, .v t8)] [(5, .cells [s5_0, s5_1, s5_2, s5_3, s5_4, s5_5, s5_6]), (6, .cells [s6_0, s6_1, s6_2, s6_3, s6_4, s6_5, s6_6])] Q (goX (fun τ ω Q => loopP (penv s) c_pleachlaw17_NakCatches_5 τ ω Q) ret4) := loopP_body
abbrev X_pleachlaw17_NakCatches_5_x0 (t7 s5_0 s5_1 s5_2 s5_3 s5_4 s5_5 s5_6 s6_0 s6_1 s6_2 s6_3 s6_4 s6_5 s6_6 : AV) (Q : AHeap) : Option PEnd := some (.exit 0, [(5, .lp 5 0), (6, .lp 6 0), (7, .v t7)], [(5, .cells [s5_0, s5_1, s5_2, s5_3, s5_4, s5_5, s5_6]), (6, .cells [s6_0, s6_1, s6_2, s6_3, s6_4, s6_5, s6_6])], Q)
theorem p_pleachlaw17_NakCatches_6 {β : Type} (call : CallF) (lp : PLoopF) (t16 t18 s5_0 s5_1 s5_2 s5_3 s5_4 s5_5 s5_6 s6_0 s6_1 s6_2 s6_3 s6_4 s6_5 s6_6 s17_0 s17_1 s17_2 s17_3 s17_4 : AV) (Q : AHeap) (k : PK β) : evalPK call lp c_pleachlaw17_NakCatches_6 [(5, .lp 5 0), (6, .lp 6 0), (16, .v t16), (17, .lp 17 0), (18, .v t18)] [(5, .cells [s5_0, s5_1, s5_2, s5_3, s5_4, s5_5, s5_6]), (6, .cells [s6_0, s6_1, s6_2, s6_3, s6_4, s6_5, s6_6]), (17, .cells [s17_0, s17_1, s17_2, s17_3, s17_4])] Q k = (
  bnP (binA .leq t18 s17_2) fun w138_1 => 
  cndS w138_1 (fun _ => bnS (call 29 [s6_2, t18] Q) fun w145_2 Q3 => 
  bnP (extA (frz w145_2) 0) fun w146_4 => 
  bnP (extA (frz w145_2) 1) fun w147_5 => 
  bnP (binA .eql s17_0 (.int .i64 1)) fun w151_6 => 
  bnP (eqsA true .b w147_5 w151_6) fun w152_7 => 
  bnP (gdQ w152_7 false (some w147_5)) fun w154_8 => 
  bnP (gdQ w152_7 false (some w154_8)) fun w155_9 => 
  bnP (gdQ w155_9 true (some w146_4)) fun w156_10 => 
  bnP (gdQ w155_9 true (some s17_3)) fun w158_11 => 
  bnP (gdQ w155_9 true (binA .neq w156_10 w158_11)) fun w159_12 => 
  bnP (gdQ w152_7 false (pickA w155_9 w159_12 (.bool false))) fun w160_13 => 
  bnP (pickA w152_7 (.bool true) w160_13) fun w161_14 => 
  cndS w161_14 (fun _ => k .ret [(4, .v (.bool false))] [] Q3)
  (fun _ => bnP (binA .add t18 (.int .i64 1)) fun w140_15 => 
  k .normal [(5, .lp 5 0), (6, .lp 6 0), (16, .v t16), (17, .lp 17 0), (18, .v w140_15)] [(5, .cells [s5_0, s5_1, s5_2, s5_3, s5_4, s5_5, s5_6]), (6, .cells [s6_0, s6_1, s6_2, s6_3, s6_4, s6_5, s6_6]), (17, .cells [s17_0, s17_1, s17_2, s17_3, s17_4])] Q3))
  (fun _ => k (.exit 8) [(5, .lp 5 0), (6, .lp 6 0), (16, .v t16)] [(5, .cells [s5_0, s5_1, s5_2, s5_3, s5_4, s5_5, s5_6]), (6, .cells [s6_0, s6_1, s6_2, s6_3, s6_4, s6_5, s6_6])] Q)) := by kernel_rfl
noncomputable def L_pleachlaw17_NakCatches_6 (s : PSpecs) (t16 t18 s5_0 s5_1 s5_2 s5_3 s5_4 s5_5 s5_6 s6_0 s6_1 s6_2 s6_3 s6_4 s6_5 s6_6 s17_0 s17_1 s17_2 s17_3 s17_4 : AV) (Q : AHeap) : Option PEnd := loopP (penv s) c_pleachlaw17_NakCatches_6 [(5, .lp 5 0), (6, .lp 6 0), (16, .v t16), (17, .lp 17 0), (18, .v t18)] [(5, .cells [s5_0, s5_1, s5_2, s5_3, s5_4, s5_5, s5_6]), (6, .cells [s6_0, s6_1, s6_2, s6_3, s6_4, s6_5, s6_6]), (17, .cells [s17_0, s17_1, s17_2, s17_3, s17_4])] Q
theorem L_pleachlaw17_NakCatches_6_fold (s : PSpecs) (t16 t18 s5_0 s5_1 s5_2 s5_3 s5_4 s5_5 s5_6 s6_0 s6_1 s6_2 s6_3 s6_4 s6_5 s6_6 s17_0 s17_1 s17_2 s17_3 s17_4 : AV) (Q : AHeap) : loopP (penv s) c_pleachlaw17_NakCatches_6 [(5, .lp 5 0), (6, .lp 6 0), (16, .v t16), (17, .lp 17 0), (18, .v t18)] [(5, .cells [s5_0, s5_1, s5_2, s5_3, s5_4, s5_5, s5_6]), (6, .cells [s6_0, s6_1, s6_2, s6_3, s6_4, s6_5, s6_6]), (17, .cells [s17_0, s17_1, s17_2, s17_3, s17_4])] Q = L_pleachlaw17_NakCatches_6 s t16 t18 s5_0 s5_1 s5_2 s5_3 s5_4 s5_5 s5_6 s6_0 s6_1 s6_2 s6_3 s6_4 s6_5 s6_6 s17_0 s17_1 s17_2 s17_3 s17_4 Q := rfl
theorem L_pleachlaw17_NakCatches_6_eq (s : PSpecs) (t16 t18 s5_0 s5_1 s5_2 s5_3 s5_4 s5_5 s5_6 s6_0 s6_1 s6_2 s6_3 s6_4 s6_5 s6_6 s17_0 s17_1 s17_2 s17_3 s17_4 : AV) (Q : AHeap) : L_pleachlaw17_NakCatches_6 s t16 t18 s5_0 s5_1 s5_2 s5_3 s5_4 s5_5 s5_6 s6_0 s6_1 s6_2 s6_3 s6_4 s6_5 s6_6 s17_0 s17_1 s17_2 s17_3 s17_4 Q = evalPK (callP (penv s)) (loopP (penv s)) c_pleachlaw17_NakCatches_6 [(5, .lp 5 0), (6, .lp 6 0), (16, .v t16), (17, .lp 17 0), (18, .v t18)] [(5, .cells [s5_0, s5_1, s5_2, s5_3, s5_4, s5_5, s5_6]), (6, .cells [s6_0, s6_1, s6_2, s6_3, s6_4, s6_5, s6_6]), (17, .cells [s17_0, s17_1, s17_2, s17_3, s17_4])] Q (goX (fun τ ω Q => loopP (penv s) c_pleachlaw17_NakCatches_6 τ ω Q) ret4) := loopP_body
abbrev X_pleachlaw17_NakCatches_6_x8 (t16 s5_0 s5_1 s5_2 s5_3 s5_4 s5_5 s5_6 s6_0 s6_1 s6_2 s6_3 s6_4 s6_5 s6_6 : AV) (Q : AHeap) : Option PEnd := some (.exit 8, [(5, .lp 5 0), (6, .lp 6 0), (16, .v t16)], [(5, .cells [s5_0, s5_1, s5_2, s5_3, s5_4, s5_5, s5_6]), (6, .cells [s6_0, s6_1, s6_2, s6_3, s6_4, s6_5, s6_6])], Q)
theorem p_pleachlaw17_NakCatches_7 {β : Type} (call : CallF) (lp : PLoopF) (t16 s5_0 s5_1 s5_2 s5_3 s5_4 s5_5 s5_6 s6_0 s6_1 s6_2 s6_3 s6_4 s6_5 s6_6 : AV) (Q : AHeap) (k : PK β) : evalPK call lp c_pleachlaw17_NakCatches_7 [(5, .lp 5 0), (6, .lp 6 0), (16, .v t16)] [(5, .cells [s5_0, s5_1, s5_2, s5_3, s5_4, s5_5, s5_6]), (6, .cells [s6_0, s6_1, s6_2, s6_3, s6_4, s6_5, s6_6])] Q k = (
  bnP (binA .add t16 (.int .i64 1)) fun w127_1 => 
  k .normal [(5, .lp 5 0), (6, .lp 6 0), (16, .v w127_1)] [(5, .cells [s5_0, s5_1, s5_2, s5_3, s5_4, s5_5, s5_6]), (6, .cells [s6_0, s6_1, s6_2, s6_3, s6_4, s6_5, s6_6])] Q) := by kernel_rfl
theorem p_pleachlaw17_NakCatches_8 {β : Type} (call : CallF) (lp : PLoopF) (t16 s5_0 s5_1 s5_2 s5_3 s5_4 s5_5 s5_6 s6_0 s6_1 s6_2 s6_3 s6_4 s6_5 s6_6 : AV) (Q : AHeap) (k : PK β) : evalPK call lp c_pleachlaw17_NakCatches_8 [(5, .lp 5 0), (6, .lp 6 0), (16, .v t16)] [(5, .cells [s5_0, s5_1, s5_2, s5_3, s5_4, s5_5, s5_6]), (6, .cells [s6_0, s6_1, s6_2, s6_3, s6_4, s6_5, s6_6])] Q k = (
  bnP (lenQ s5_4) fun w124_1 => 
  bnP (binA .lss t16 w124_1) fun w125_2 => 
  cndS w125_2 (fun _ => bnP (elQ 5 s5_4 t16) fun e3 => 
  bnC 5 (cut (AV.cells e3) 0 5) fun c132_4 c132_5 c132_6 c132_7 c132_8 => 
  bnC 5 (stC 5 (.agg [c132_4, c132_5, c132_6, c132_7, c132_8])) fun s9 s10 s11 s12 s13 => 
  bnX (lp c_pleachlaw17_NakCatches_6 [(5, .lp 5 0), (6, .lp 6 0), (16, .v t16), (17, .lp 17 0), (18, .v s10)] [(5, .cells [s5_0, s5_1, s5_2, s5_3, s5_4, s5_5, s5_6]), (6, .cells [s6_0, s6_1, s6_2, s6_3, s6_4, s6_5, s6_6]), (17, .cells [s9, s10, s11, s12, s13])] Q) (outX 8 (finC [] [] [5, 6, 16] [(5, 5), (6, 6)] (outX 7 (goC (evalPK call lp c_pleachlaw17_NakCatches_7) k)))))
  (fun _ => k (.exit 6) [(5, .lp 5 0), (6, .lp 6 0)] [(5, .cells [s5_0, s5_1, s5_2, s5_3, s5_4, s5_5, s5_6]), (6, .cells [s6_0, s6_1, s6_2, s6_3, s6_4, s6_5, s6_6])] Q)) := by kernel_rfl
noncomputable def L_pleachlaw17_NakCatches_8 (s : PSpecs) (t16 s5_0 s5_1 s5_2 s5_3 s5_4 s5_5 s5_6 s6_0 s6_1 s6_2 s6_3 s6_4 s6_5 s6_6 : AV) (Q : AHeap) : Option PEnd := loopP (penv s) c_pleachlaw17_NakCatches_8 [(5, .lp 5 0), (6, .lp 6 0), (16, .v t16)] [(5, .cells [s5_0, s5_1, s5_2, s5_3, s5_4, s5_5, s5_6]), (6, .cells [s6_0, s6_1, s6_2, s6_3, s6_4, s6_5, s6_6])] Q
theorem L_pleachlaw17_NakCatches_8_fold (s : PSpecs) (t16 s5_0 s5_1 s5_2 s5_3 s5_4 s5_5 s5_6 s6_0 s6_1 s6_2 s6_3 s6_4 s6_5 s6_6 : AV) (Q : AHeap) : loopP (penv s) c_pleachlaw17_NakCatches_8 [(5, .lp 5 0), (6, .lp 6 0), (16, .v t16)] [(5, .cells [s5_0, s5_1, s5_2, s5_3, s5_4, s5_5, s5_6]), (6, .cells [s6_0, s6_1, s6_2, s6_3, s6_4, s6_5, s6_6])] Q = L_pleachlaw17_NakCatches_8 s t16 s5_0 s5_1 s5_2 s5_3 s5_4 s5_5 s5_6 s6_0 s6_1 s6_2 s6_3 s6_4 s6_5 s6_6 Q := rfl
theorem L_pleachlaw17_NakCatches_8_eq (s : PSpecs) (t16 s5_0 s5_1 s5_2 s5_3 s5_4 s5_5 s5_6 s6_0 s6_1 s6_2 s6_3 s6_4 s6_5 s6_6 : AV) (Q : AHeap) : L_pleachlaw17_NakCatches_8 s t16 s5_0 s5_1 s5_2 s5_3 s5_4 s5_5 s5_6 s6_0 s6_1 s6_2 s6_3 s6_4 s6_5 s6_6 Q = evalPK (callP (penv s)) (loopP (penv s)) c_pleachlaw17_NakCatches_8 [(5, .lp 5 0), (6, .lp 6 0), (16, .v t16)] [(5, .cells [s5_0, s5_1, s5_2, s5_3, s5_4, s5_5, s5_6]), (6, .cells [s6_0, s6_1, s6_2, s6_3, s6_4, s6_5, s6_6])] Q (goX (fun τ ω Q => loopP (penv s) c_pleachlaw17_NakCatches_8 τ ω Q) ret4) := loopP_body
abbrev X_pleachlaw17_NakCatches_8_x6 (s5_0 s5_1 s5_2 s5_3 s5_4 s5_5 s5_6 s6_0 s6_1 s6_2 s6_3 s6_4 s6_5 s6_6 : AV) (Q : AHeap) : Option PEnd := some (.exit 6, [(5, .lp 5 0), (6, .lp 6 0)], [(5, .cells [s5_0, s5_1, s5_2, s5_3, s5_4, s5_5, s5_6]), (6, .cells [s6_0, s6_1, s6_2, s6_3, s6_4, s6_5, s6_6])], Q)
theorem p_pleachlaw17_NakCatches_9 {β : Type} (call : CallF) (lp : PLoopF) (s5_0 s5_1 s5_2 s5_3 s5_4 s5_5 s5_6 s6_0 s6_1 s6_2 s6_3 s6_4 s6_5 s6_6 : AV) (Q : AHeap) (k : PK β) : evalPK call lp c_pleachlaw17_NakCatches_9 [(5, .lp 5 0), (6, .lp 6 0)] [(5, .cells [s5_0, s5_1, s5_2, s5_3, s5_4, s5_5, s5_6]), (6, .cells [s6_0, s6_1, s6_2, s6_3, s6_4, s6_5, s6_6])] Q k = (
  bnP (binA .geq s5_0 s6_0) fun w166_1 => 
  k .ret [(4, .v w166_1), (166, .v w166_1), (165, .v s6_0), (164, .lp 6 0), (163, .v s5_0), (162, .lp 5 0), (5, .lp 5 0), (6, .lp 6 0)] [(5, .cells [s5_0, s5_1, s5_2, s5_3, s5_4, s5_5, s5_6]), (6, .cells [s6_0, s6_1, s6_2, s6_3, s6_4, s6_5, s6_6])] Q) := by kernel_rfl
theorem p_pleachlaw17_NakCatches_10 {β : Type} (call : CallF) (lp : PLoopF) (t7 s5_0 s5_1 s5_2 s5_3 s5_4 s5_5 s5_6 s6_0 s6_1 s6_2 s6_3 s6_4 s6_5 s6_6 : AV) (Q : AHeap) (k : PK β) : evalPK call lp c_pleachlaw17_NakCatches_10 [(5, .lp 5 0), (6, .lp 6 0), (7, .v t7)] [(5, .cells [s5_0, s5_1, s5_2, s5_3, s5_4, s5_5, s5_6]), (6, .cells [s6_0, s6_1, s6_2, s6_3, s6_4, s6_5, s6_6])] Q k = (
  bnX (lp c_pleachlaw17_NakCatches_8 [(5, .lp 5 0), (6, .lp 6 0), (16, .v t7)] [(5, .cells [s5_0, s5_1, s5_2, s5_3, s5_4, s5_5, s5_6]), (6, .cells [s6_0, s6_1, s6_2, s6_3, s6_4, s6_5, s6_6])] Q) (outX 6 (goC (evalPK call lp c_pleachlaw17_NakCatches_9) k))) := by kernel_rfl
theorem g_pleachlaw17_NakCatches {call : CallF} {lp : PLoopF} (v0 v1 : AV) (Q : AHeap) : evalPK call lp c_pleachlaw17_NakCatches [(0, .v v0), (1, .v v1)] [] Q (retPK [.tmp 4] [.n]) = (
  bnS (call 14 [] Q) fun w21_1 Q2 => 
  bnP (unA .not (frz w21_1)) fun w22_3 => 
  cndS w22_3 (fun _ => some (.bool false, Q2))
  (fun _ => bnP (lenQ v0) fun w24_4 => 
  bnP (binA .gtr w24_4 (.int .i64 60)) fun w25_5 => 
  bnP (gdQ w25_5 false (some v1)) fun w27_6 => 
  bnP (gdQ w25_5 false (lenQ w27_6)) fun w28_7 => 
  bnP (gdQ w25_5 false (binA .gtr w28_7 (.int .i64 60))) fun w29_8 => 
  bnP (pickA w25_5 (.bool true) w29_8) fun w30_9 => 
  cndS w30_9 (fun _ => some (.bool true, Q2))
  (fun _ => bnS (call 15 [v0] Q2) fun w32_10 Q11 => 
  bnS (call 16 [(frz w32_10), .int .i64 15] Q11) fun w33_12 Q13 => 
  bnS (call 15 [v1] Q13) fun w35_14 Q15 => 
  bnS (call 16 [(frz w35_14), .int .i64 15] Q15) fun w36_16 Q17 => 
  bnC 7 (stC 7 (frz w33_12)) fun s18 s19 s20 s21 s22 s23 s24 => 
  bnC 7 (stC 7 (frz w36_16)) fun s25 s26 s27 s28 s29 s30 s31 => 
  bnP (mxiA [s18, s25]) fun w41_32 => 
  bnP (binA .sub w41_32 (.int .i64 1)) fun w42_33 => 
  bnC 1 (stC 1 w42_33) fun s34 => 
  bnP (lenQ s22) fun w49_35 => 
  bnX (lp c_pleachlaw17_NakCatches_5 [(5, .lp 5 0), (6, .lp 6 0), (7, .v w49_35), (8, .v (.int .i64 0))] [(5, .cells [s18, s34, s20, .nils, s22, .int .i64 0, .int .i64 0]), (6, .cells [s25, s26, s27, s28, s29, s30, s31])] Q17) (outX 0 (goC (evalPK call lp c_pleachlaw17_NakCatches_10) (retPK [.tmp 4] [.n])))))) := by kernel_rfl
def f_pleachlaw17_NakCatches {s : PSpecs} (hs : s.lookup 7 = none) (v0 v1 : AV) (Q : AHeap) := (callP_fn (E := penv s) (f := 7) (fn := pf_pleachlaw17_NakCatches) hs rfl [v0, v1] Q rfl).trans (g_pleachlaw17_NakCatches (call := callP (penv s)) (lp := loopP (penv s)) v0 v1 Q)
theorem g_pleachmade_Made {call : CallF} {lp : PLoopF} (v0 : AV) (Q : AHeap) : evalPK call lp c_pleachmade_Made [(0, .v v0)] [] Q (retPK [.tmp 2] [.n]) = (
  bnC 2 (fillP [.nils, .int .i64 0] [(0, 1, v0)]) fun c4_1 c4_2 => 
  bnS (newcA Q (AV.cells (.agg [c4_1, c4_2]))) fun w5_4 Q3 => 
  bnP (rcv false .n w5_4) fun r5 => some (r5, Q3)) := by kernel_rfl
def f_pleachmade_Made {s : PSpecs} (hs : s.lookup 15 = none) (v0 : AV) (Q : AHeap) := (callP_fn (E := penv s) (f := 15) (fn := pf_pleachmade_Made) hs rfl [v0] Q rfl).trans (g_pleachmade_Made (call := callP (penv s)) (lp := loopP (penv s)) v0 Q)
theorem p_pleachmade_Picks_Feed_0 {β : Type} (call : CallF) (lp : PLoopF) (t0 t1 t6 t7 s4_0 s4_1 s4_2 s4_3 s4_4 s4_5 s4_6 s5_0 s5_1 s5_2 s5_3 s5_4 s5_5 s5_6 : AV) (Q : AHeap) (k : PK β) : evalPK call lp c_pleachmade_Picks_Feed_0 [(0, .v t0), (1, .v t1), (4, .lp 4 0), (5, .lp 5 0), (6, .v t6), (7, .v t7)] [(4, .cells [s4_0, s4_1, s4_2, s4_3, s4_4, s4_5, s4_6]), (5, .cells [s5_0, s5_1, s5_2, s5_3, s5_4, s5_5, s5_6])] Q k = (
  bnP (binA .add t7 (.int .i64 1)) fun w23_1 => 
  k .normal [(0, .v t0), (1, .v t1), (4, .lp 4 0), (5, .lp 5 0), (6, .v t6), (7, .v w23_1)] [(4, .cells [s4_0, s4_1, s4_2, s4_3, s4_4, s4_5, s4_6]), (5, .cells [s5_0, s5_1, s5_2, s5_3, s5_4, s5_5, s5_6])] Q) := by kernel_rfl
theorem p_pleachmade_Picks_Feed_1 {β : Type} (call : CallF) (lp : PLoopF) (t0 t1 t6 t7 s4_0 s4_1 s4_2 s4_3 s4_4 s4_5 s4_6 s5_0 s5_1 s5_2 s5_3 s5_4 s5_5 s5_6 : AV) (Q : AHeap) (k : PK β) : evalPK call lp c_pleachmade_Picks_Feed_1 [(0, .v t0), (1, .v t1), (4, .lp 4 0), (5, .lp 5 0), (6, .v t6), (7, .v t7)] [(4, .cells [s4_0, s4_1, s4_2, s4_3, s4_4, s4_5, s4_6]), (5, .cells [s5_0, s5_1, s5_2, s5_3, s5_4, s5_5, s5_6])] Q k = (
  bnP (binA .lss t7 t1) fun w16_1 => 
  bnP (gdQ w16_1 true (some t0)) fun w18_2 => 
  bnS (gdH w16_1 true (call 57 [w18_2] Q) Q) fun w19_3 Q4 => 
  bnP (gdQ w16_1 true (unA .not (frz w19_3))) fun w20_5 => 
  bnP (pickA w16_1 w20_5 (.bool false)) fun w21_6 => 
  cndS w21_6 (fun _ => bnX (bnX (bnS (call 56 [t0, .int .i64 6] Q4) fun w25_7 Q8 => 
  bnX (bnP (binA .eql (frz w25_7) (.int .i64 0)) fun w39_9 => 
  cndS w39_9 (fun _ => bnP (binA .sub s5_0 (.int .i64 1)) fun w42_10 => 
  bnS (call 56 [t0, .int .i64 3] Q8) fun w44_11 Q12 => 
  bnP (binA .add w42_10 (frz w44_11)) fun w45_13 => 
  bnP (mxiA [.int .i64 1, w45_13]) fun w46_14 => 
  bnS (call 56 [t0, .int .i64 4] Q12) fun w51_15 Q16 => 
  bnP (binA .add w46_14 (frz w51_15)) fun w52_17 => 
  bnS (call 35 [.agg [s5_0, s5_1, s5_2, s5_3, s5_4, s5_5, s5_6], w46_14, w52_17] Q16) fun w53_18 Q19 => 
  bnC 7 (stC 7 (frz w53_18)) fun s20 s21 s22 s23 s24 s25 s26 => 
  some (.normal, [(0, .v t0), (1, .v t1), (4, .lp 4 0), (5, .lp 5 0), (6, .v t6), (7, .v t7)], [(4, .cells [s4_0, s4_1, s4_2, s4_3, s4_4, s4_5, s4_6]), (5, .cells [s20, s21, s22, s23, s24, s25, s26])], Q19))
  (fun _ => bnP (binA .eql (frz w25_7) (.int .i64 1)) fun w55_27 => 
  cndS w55_27 (fun _ => bnS (call 56 [t0, .int .i64 5] Q8) fun w60_28 Q29 => 
  bnP (binA .add s5_0 (frz w60_28)) fun w61_30 => 
  bnS (call 58 [.agg [s5_0, s5_1, s5_2, s5_3, s5_4, s5_5, s5_6], w61_30] Q29) fun w62_31 Q32 => 
  bnC 7 (stC 7 (frz w62_31)) fun s33 s34 s35 s36 s37 s38 s39 => 
  some (.normal, [(0, .v t0), (1, .v t1), (4, .lp 4 0), (5, .lp 5 0), (6, .v t6), (7, .v t7)], [(4, .cells [s4_0, s4_1, s4_2, s4_3, s4_4, s4_5, s4_6]), (5, .cells [s33, s34, s35, s36, s37, s38, s39])], Q32))
  (fun _ => bnP (binA .eql (frz w25_7) (.int .i64 2)) fun w64_40 => 
  cndS w64_40 (fun _ => bnP (binA .add t6 (.int .i64 1)) fun w66_41 => 
  bnS (call 56 [t0, .int .i64 6] Q8) fun w68_42 Q43 => 
  bnP (binA .add w66_41 (frz w68_42)) fun w69_44 => 
  bnS (call 59 [.agg [s5_0, s5_1, s5_2, s5_3, s5_4, s5_5, s5_6], w69_44] Q43) fun w73_45 Q46 => 
  bnP (extA (frz w73_45) 0) fun w74_47 => 
  bnP (extA (frz w73_45) 1) fun w75_48 => 
  bnP (extA (frz w73_45) 2) fun w76_49 => 
  bnC 7 (stC 7 w74_47) fun s50 s51 s52 s53 s54 s55 s56 => 
  some (.normal, [(0, .v t0), (1, .v t1), (4, .lp 4 0), (5, .lp 5 0), (6, .v w69_44), (7, .v t7)], [(4, .cells [s4_0, s4_1, s4_2, s4_3, s4_4, s4_5, s4_6]), (5, .cells [s50, s51, s52, s53, s54, s55, s56])], Q46))
  (fun _ => bnP (binA .sub s5_0 (.int .i64 1)) fun w29_57 => 
  bnS (call 56 [t0, .int .i64 5] Q8) fun w31_58 Q59 => 
  bnP (binA .add w29_57 (frz w31_58)) fun w32_60 => 
  bnP (mxiA [.int .i64 1, w32_60]) fun w33_61 => 
  bnS (call 60 [t0] Q59) fun w35_62 Q63 => 
  bnC 2 (fillP [.int .i64 0, .str []] [(0, 1, w33_61), (1, 1, (frz w35_62))]) fun c36_64 c36_65 => 
  bnS (call 34 [.agg [s5_0, s5_1, s5_2, s5_3, s5_4, s5_5, s5_6], .agg [c36_64, c36_65]] Q63) fun w37_66 Q67 => 
  bnC 7 (stC 7 (frz w37_66)) fun s68 s69 s70 s71 s72 s73 s74 => 
  some (.normal, [(0, .v t0), (1, .v t1), (4, .lp 4 0), (5, .lp 5 0), (6, .v t6), (7, .v t7)], [(4, .cells [s4_0, s4_1, s4_2, s4_3, s4_4, s4_5, s4_6]), (5, .cells [s68, s69, s70, s71, s72, s73, s74])], Q67)))))
  (outX 2 (finC [] [] [0, 1, 4, 5, 6, 7] [(4, 4), (5, 5)] ret4)))
  (outX 1 ret4))
  (goC (evalPK call lp c_pleachmade_Picks_Feed_0) k))
  (fun _ => k (.exit 0) [(4, .lp 4 0), (5, .lp 5 0)] [(4, .cells [s4_0, s4_1, s4_2, s4_3, s4_4, s4_5, s4_6]), (5, .cells [s5_0, s5_1, s5_2, s5_3, s5_4, s5_5, s5_6])] Q4)) := by kernel_rfl
noncomputable def L_pleachmade_Picks_Feed_1 (s : PSpecs) (t0 t1 t6 t7 s4_0 s4_1 s4_2 s4_3 s4_4 s4_5 s4_6 s5_0 s5_1 s5_2 s5_3 s5_4 s5_5 s5_6 : AV) (Q : AHeap) : Option PEnd := loopP (penv s) c_pleachmade_Picks_Feed_1 [(0, .v t0), (1, .v t1), (4, .lp 4 0), (5, .lp 5 0), (6, .v t6), (7, .v t7)] [(4, .cells [s4_0, s4_1, s4_2, s4_3, s4_4, s4_5, s4_6]), (5, .cells [s5_0, s5_1, s5_2, s5_3, s5_4, s5_5, s5_6])] Q
theorem L_pleachmade_Picks_Feed_1_fold (s : PSpecs) (t0 t1 t6 t7 s4_0 s4_1 s4_2 s4_3 s4_4 s4_5 s4_6 s5_0 s5_1 s5_2 s5_3 s5_4 s5_5 s5_6 : AV) (Q : AHeap) : loopP (penv s) c_pleachmade_Picks_Feed_1 [(0, .v t0), (1, .v t1), (4, .lp 4 0), (5, .lp 5 0), (6, .v t6), (7, .v t7)] [(4, .cells [s4_0, s4_1, s4_2, s4_3, s4_4, s4_5, s4_6]), (5, .cells [s5_0, s5_1, s5_2, s5_3, s5_4, s5_5, s5_6])] Q = L_pleachmade_Picks_Feed_1 s t0 t1 t6 t7 s4_0 s4_1 s4_2 s4_3 s4_4 s4_5 s4_6 s5_0 s5_1 s5_2 s5_3 s5_4 s5_5 s5_6 Q := rfl
theorem L_pleachmade_Picks_Feed_1_eq (s : PSpecs) (t0 t1 t6 t7 s4_0 s4_1 s4_2 s4_3 s4_4 s4_5 s4_6 s5_0 s5_1 s5_2 s5_3 s5_4 s5_5 s5_6 : AV) (Q : AHeap) : L_pleachmade_Picks_Feed_1 s t0 t1 t6 t7 s4_0 s4_1 s4_2 s4_3 s4_4 s4_5 s4_6 s5_0 s5_1 s5_2 s5_3 s5_4 s5_5 s5_6 Q = evalPK (callP (penv s)) (loopP (penv s)) c_pleachmade_Picks_Feed_1 [(0, .v t0), (1, .v t1), (4, .lp 4 0), (5, .lp 5 0), (6, .v t6), (7, .v t7)] [(4, .cells [s4_0, s4_1, s4_2, s4_3, s4_4, s4_5, s4_6]), (5, .cells [s5_0, s5_1, s5_2, s5_3, s5_4, s5_5, s5_6])] Q (goX (fun τ ω Q => loopP (penv s) c_pleachmade_Picks_Feed_1 τ ω Q) ret4) := loopP_body
abbrev X_pleachmade_Picks_Feed_1_x0 (s4_0 s4_1 s4_2 s4_3 s4_4 s4_5 s4_6 s5_0 s5_1 s5_2 s5_3 s5_4 s5_5 s5_6 : AV) (Q : AHeap) : Option PEnd := some (.exit 0, [(4, .lp 4 0), (5, .lp 5 0)], [(4, .cells [s4_0, s4_1, s4_2, s4_3, s4_4, s4_5, s4_6]), (5, .cells [s5_0, s5_1, s5_2, s5_3, s5_4, s5_5, s5_6])], Q)
theorem p_pleachmade_Picks_Feed_2 {β : Type} (call : CallF) (lp : PLoopF) (s4_0 s4_1 s4_2 s4_3 s4_4 s4_5 s4_6 s5_0 s5_1 s5_2 s5_3 s5_4 s5_5 s5_6 : AV) (Q : AHeap) (k : PK β) : evalPK call lp c_pleachmade_Picks_Feed_2 [(4, .lp 4 0), (5, .lp 5 0)] [(4, .cells [s4_0, s4_1, s4_2, s4_3, s4_4, s4_5, s4_6]), (5, .cells [s5_0, s5_1, s5_2, s5_3, s5_4, s5_5, s5_6])] Q k = (
  bnC 7 (stC 7 (.agg [s5_0, s5_1, s5_2, s5_3, s5_4, s5_5, s5_6])) fun s1 s2 s3 s4 s5 s6 s7 => 
  k .ret [(77, .v (.agg [s5_0, s5_1, s5_2, s5_3, s5_4, s5_5, s5_6])), (4, .lp 4 0), (5, .lp 5 0)] [(4, .cells [s1, s2, s3, s4, s5, s6, s7]), (5, .cells [s5_0, s5_1, s5_2, s5_3, s5_4, s5_5, s5_6])] Q) := by kernel_rfl
theorem g_pleachmade_Picks_Feed {call : CallF} {lp : PLoopF} (v0 v1 : AV) (Q : AHeap) : evalPK call lp c_pleachmade_Picks_Feed [(0, .v v0), (1, .v v1)] [] Q (retPK [.cell 4 (some 7)] [.n]) = (
  bnS (call 56 [v0, .int .i64 5] Q) fun w11_1 Q2 => 
  bnP (binA .add (.int .i64 1) (frz w11_1)) fun w12_3 => 
  bnS (call 55 [.agg [.int .i64 0, .int .i64 0, .nils, .nils, .nils, .int .i64 0, .int .i64 0], w12_3] Q2) fun w13_4 Q5 => 
  bnC 7 (stC 7 (frz w13_4)) fun s6 s7 s8 s9 s10 s11 s12 => 
  bnX (lp c_pleachmade_Picks_Feed_1 [(0, .v v0), (1, .v v1), (4, .lp 4 0), (5, .lp 5 0), (6, .v (.int .i64 0)), (7, .v (.int .i64 0))] [(4, .cells [.int .i64 0, .int .i64 0, .nils, .nils, .nils, .int .i64 0, .int .i64 0]), (5, .cells [s6, s7, s8, s9, s10, s11, s12])] Q5) (outX 0 (goC (evalPK call lp c_pleachmade_Picks_Feed_2) (retPK [.cell 4 (some 7)] [.n])))) := by kernel_rfl
def f_pleachmade_Picks_Feed {s : PSpecs} (hs : s.lookup 16 = none) (v0 v1 : AV) (Q : AHeap) := (callP_fn (E := penv s) (f := 16) (fn := pf_pleachmade_Picks_Feed) hs rfl [v0, v1] Q rfl).trans (g_pleachmade_Picks_Feed (call := callP (penv s)) (lp := loopP (penv s)) v0 v1 Q)
theorem p_nak_Wants_0 {β : Type} (call : CallF) (lp : PLoopF) (s1_0 s1_1 s1_2 s1_3 s1_4 s1_5 s1_6 s2_0 s2_1 s4_0 s4_1 : AV) (Q : AHeap) (k : PK β) : evalPK call lp c_nak_Wants_0 [(1, .lp 1 0), (2, .lp 2 0), (4, .lp 4 0)] [(1, .cells [s1_0, s1_1, s1_2, s1_3, s1_4, s1_5, s1_6]), (2, .cells [s2_0, s2_1]), (4, .cells [s4_0, s4_1])] Q k = (
  bnP (binA .eql s1_0 (.int .i64 0)) fun w21_1 => 
  bnP (gdQ w21_1 false (some s4_1)) fun w24_2 => 
  bnP (gdQ w21_1 false (some s4_0)) fun w26_3 => 
  bnP (gdQ w21_1 false (binA .lss w24_2 w26_3)) fun w27_4 => 
  bnP (pickA w21_1 (.bool true) w27_4) fun w28_5 => 
  cndS w28_5 (fun _ => k .ret [(3, .v (.bool false)), (29, .v (.agg [.int .i64 0, .int .i64 0])), (28, .v w28_5), (27, .v w27_4), (26, .v w26_3), (25, .gd 22 false (.lp 4 0)), (24, .v w24_2), (23, .gd 22 false (.lp 4 1)), (22, .v w21_1), (21, .v w21_1), (20, .v s1_0), (19, .lp 1 0), (1, .lp 1 0), (2, .lp 2 0), (4, .lp 4 0)] [(2, .cells [.int .i64 0, .int .i64 0]), (1, .cells [s1_0, s1_1, s1_2, s1_3, s1_4, s1_5, s1_6]), (4, .cells [s4_0, s4_1])] Q)
  (fun _ => bnC 2 (stC 2 (.agg [s4_0, s4_1])) fun s6 s7 => 
  k .ret [(3, .v (.bool true)), (30, .v (.agg [s4_0, s4_1])), (28, .v w28_5), (27, .v w27_4), (26, .v w26_3), (25, .gd 22 false (.lp 4 0)), (24, .v w24_2), (23, .gd 22 false (.lp 4 1)), (22, .v w21_1), (21, .v w21_1), (20, .v s1_0), (19, .lp 1 0), (1, .lp 1 0), (2, .lp 2 0), (4, .lp 4 0)] [(2, .cells [s6, s7]), (1, .cells [s1_0, s1_1, s1_2, s1_3, s1_4, s1_5, s1_6]), (4, .cells [s4_0, s4_1])] Q)) := by kernel_rfl
theorem g_nak_Wants {call : CallF} {lp : PLoopF} (v0_0 v0_1 v0_2 v0_3 v0_4 v0_5 v0_6 : AV) (Q : AHeap) : evalPK call lp c_nak_Wants [(0, .v (.agg [v0_0, v0_1, v0_2, v0_3, v0_4, v0_5, v0_6]))] [] Q (retPK [.cell 2 (some 2), .tmp 3] [.n, .n]) = (
  bnC 7 (stC 7 (.agg [v0_0, v0_1, v0_2, v0_3, v0_4, v0_5, v0_6])) fun s1 s2 s3 s4 s5 s6 s7 => 
  bnC 2 (fillP [.int .i64 0, .int .i64 0] [(0, 1, s1), (1, 1, s2)]) fun c9_8 c9_9 => 
  bnC 2 (stC 2 (.agg [c9_8, c9_9])) fun s10 s11 => 
  bnX (bnP (lenQ s4) fun w12_12 => 
  bnP (binA .gtr w12_12 (.int .i64 0)) fun w13_13 => 
  cndS w13_13 (fun _ => bnS (call 61 [s4] Q) fun w16_14 Q15 => 
  bnP (binA .sub (frz w16_14) (.int .i64 1)) fun w17_16 => 
  bnC 1 (stC 1 w17_16) fun s17 => 
  some (.normal, [(1, .lp 1 0), (2, .lp 2 0), (4, .lp 4 0)], [(1, .cells [s1, s2, s3, s4, s5, s6, s7]), (2, .cells [.int .i64 0, .int .i64 0]), (4, .cells [s10, s17])], Q15))
  (fun _ => some (.normal, [(1, .lp 1 0), (2, .lp 2 0), (4, .lp 4 0)], [(1, .cells [s1, s2, s3, s4, s5, s6, s7]), (2, .cells [.int .i64 0, .int .i64 0]), (4, .cells [s10, s11])], Q)))
  (goC (evalPK call lp c_nak_Wants_0) (retPK [.cell 2 (some 2), .tmp 3] [.n, .n]))) := by kernel_rfl
def f_nak_Wants {s : PSpecs} (hs : s.lookup 17 = none) (v0_0 v0_1 v0_2 v0_3 v0_4 v0_5 v0_6 : AV) (Q : AHeap) := (callP_fn (E := penv s) (f := 17) (fn := pf_nak_Wants) hs rfl [.agg [v0_0, v0_1, v0_2, v0_3, v0_4, v0_5, v0_6]] Q rfl).trans (g_nak_Wants (call := callP (penv s)) (lp := loopP (penv s)) v0_0 v0_1 v0_2 v0_3 v0_4 v0_5 v0_6 Q)
theorem p_pleachref13_Wants_0 {β : Type} (call : CallF) (lp : PLoopF) (t4 s1_0 s1_1 s1_2 s1_3 s1_4 s1_5 s1_6 s2_0 s2_1 : AV) (Q : AHeap) (k : PK β) : evalPK call lp c_pleachref13_Wants_0 [(1, .lp 1 0), (2, .lp 2 0), (4, .v t4)] [(1, .cells [s1_0, s1_1, s1_2, s1_3, s1_4, s1_5, s1_6]), (2, .cells [s2_0, s2_1])] Q k = (
  bnP (binA .eql s1_0 (.int .i64 0)) fun w17_1 => 
  bnP (gdQ w17_1 false (some t4)) fun w19_2 => 
  bnP (gdQ w17_1 false (some s1_0)) fun w21_3 => 
  bnP (gdQ w17_1 false (binA .lss w19_2 w21_3)) fun w22_4 => 
  bnP (pickA w17_1 (.bool true) w22_4) fun w23_5 => 
  cndS w23_5 (fun _ => k .ret [(3, .v (.bool false)), (24, .v (.agg [.int .i64 0, .int .i64 0])), (23, .v w23_5), (22, .v w22_4), (21, .v w21_3), (20, .gd 18 false (.lp 1 0)), (19, .v w19_2), (18, .v w17_1), (17, .v w17_1), (16, .v s1_0), (15, .lp 1 0), (1, .lp 1 0), (2, .lp 2 0), (4, .v t4)] [(2, .cells [.int .i64 0, .int .i64 0]), (1, .cells [s1_0, s1_1, s1_2, s1_3, s1_4, s1_5, s1_6])] Q)
  (fun _ => bnC 2 (fillP [.int .i64 0, .int .i64 0] [(0, 1, s1_0), (1, 1, t4)]) fun c28_6 c28_7 => 
  bnC 2 (stC 2 (.agg [c28_6, c28_7])) fun s8 s9 => 
  k .ret [(3, .v (.bool true)), (28, .v (.agg [c28_6, c28_7])), (27, .v t4), (26, .v s1_0), (25, .lp 1 0), (23, .v w23_5), (22, .v w22_4), (21, .v w21_3), (20, .gd 18 false (.lp 1 0)), (19, .v w19_2), (18, .v w17_1), (17, .v w17_1), (16, .v s1_0), (15, .lp 1 0), (1, .lp 1 0), (2, .lp 2 0), (4, .v t4)] [(2, .cells [s8, s9]), (1, .cells [s1_0, s1_1, s1_2, s1_3, s1_4, s1_5, s1_6])] Q)) := by kernel_rfl
theorem g_pleachref13_Wants {call : CallF} {lp : PLoopF} (v0_0 v0_1 v0_2 v0_3 v0_4 v0_5 v0_6 : AV) (Q : AHeap) : evalPK call lp c_pleachref13_Wants [(0, .v (.agg [v0_0, v0_1, v0_2, v0_3, v0_4, v0_5, v0_6]))] [] Q (retPK [.cell 2 (some 2), .tmp 3] [.n, .n]) = (
  bnC 7 (stC 7 (.agg [v0_0, v0_1, v0_2, v0_3, v0_4, v0_5, v0_6])) fun s1 s2 s3 s4 s5 s6 s7 => 
  bnX (bnP (lenQ s4) fun w9_8 => 
  bnP (binA .gtr w9_8 (.int .i64 0)) fun w10_9 => 
  cndS w10_9 (fun _ => bnS (call 62 [s4] Q) fun w13_10 Q11 => 
  bnP (binA .sub (frz w13_10) (.int .i64 1)) fun w14_12 => 
  some (.normal, [(1, .lp 1 0), (2, .lp 2 0), (4, .v w14_12)], [(1, .cells [s1, s2, s3, s4, s5, s6, s7]), (2, .cells [.int .i64 0, .int .i64 0])], Q11))
  (fun _ => some (.normal, [(1, .lp 1 0), (2, .lp 2 0), (4, .v s2)], [(1, .cells [s1, s2, s3, s4, s5, s6, s7]), (2, .cells [.int .i64 0, .int .i64 0])], Q)))
  (goC (evalPK call lp c_pleachref13_Wants_0) (retPK [.cell 2 (some 2), .tmp 3] [.n, .n]))) := by kernel_rfl
def f_pleachref13_Wants {s : PSpecs} (hs : s.lookup 18 = none) (v0_0 v0_1 v0_2 v0_3 v0_4 v0_5 v0_6 : AV) (Q : AHeap) := (callP_fn (E := penv s) (f := 18) (fn := pf_pleachref13_Wants) hs rfl [.agg [v0_0, v0_1, v0_2, v0_3, v0_4, v0_5, v0_6]] Q rfl).trans (g_pleachref13_Wants (call := callP (penv s)) (lp := loopP (penv s)) v0_0 v0_1 v0_2 v0_3 v0_4 v0_5 v0_6 Q)
theorem p_nak_Serves_0 {β : Type} (call : CallF) (lp : PLoopF) (t1 t2 t8 t10 s3_0 s3_1 s3_2 s3_3 s3_4 s3_5 s3_6 : AV) (l6 l7 : List AV) (Q : AHeap) (k : PK β) : evalPK call lp c_nak_Serves_0 [(1, .v t1), (2, .v t2), (3, .lp 3 0), (6, .ls 6), (7, .ls 7), (8, .v t8), (10, .v t10)] [(3, .cells [s3_0, s3_1, s3_2, s3_3, s3_4, s3_5, s3_6]), (6, .own 2 l6), (7, .own 2 l7)] Q k = (
  bnP (gdQ t10 false (some t8)) fun w48_1 => 
  bnP (gdQ t10 false (binA .lss w48_1 (.int .i64 1))) fun w49_2 => 
  bnP (pickA t10 (.bool true) w49_2) fun w50_3 => 
  bnP (gdQ w50_3 false (some t8)) fun w52_4 => 
  bnP (gdQ w50_3 false (binA .gtr w52_4 (.int .i64 1000000))) fun w53_5 => 
  bnP (pickA w50_3 (.bool true) w53_5) fun w54_6 => 
  cndS w54_6 (fun _ => k (.exit 1) [(1, .v t1), (2, .v t2), (3, .lp 3 0), (6, .ls 6), (7, .ls 7), (8, .v t8)] [(3, .cells [s3_0, s3_1, s3_2, s3_3, s3_4, s3_5, s3_6]), (6, .own 2 l6), (7, .own 2 l7)] Q)
  (fun _ => bnP (binA .gtr (.int .i64 ((l7 : List AV).length : Nat)) (.int .i64 0)) fun w58_7 => 
  bnP (gdQ w58_7 true (some (.int .i64 ((l7 : List AV).length : Nat)))) fun w61_8 => 
  bnP (gdQ w58_7 true (binA .sub w61_8 (.int .i64 1))) fun w62_9 => 
  bnN (gdN w58_7 true (idxN (l7 : List AV).length w62_9)) fun i10 => 
  bnP (gdQ w58_7 true (elC l7 i10 1)) fun w65_11 => 
  bnP (gdQ w58_7 true (some t8)) fun w66_12 => 
  bnP (gdQ w58_7 true (binA .sub w66_12 (.int .i64 1))) fun w67_13 => 
  bnP (gdQ w58_7 true (binA .eql w65_11 w67_13)) fun w68_14 => 
  bnP (pickA w58_7 w68_14 (.bool false)) fun w69_15 => 
  cndS w69_15 (fun _ => bnP (binA .sub (.int .i64 ((l7 : List AV).length : Nat)) (.int .i64 1)) fun w72_16 => 
  bnN (idxN (l7 : List AV).length w72_16) fun i17 => 
  bnC 1 (stC 1 t8) fun s18 => 
  bnP ((l7)[i17]?) fun e19 => bnP (setE e19 1 [s18]) fun e20 => 
  k .normal [(1, .v t1), (2, .v t2), (3, .lp 3 0), (6, .ls 6), (7, .ls 7), (8, .v t8)] [(3, .cells [s3_0, s3_1, s3_2, s3_3, s3_4, s3_5, s3_6]), (6, .own 2 l6), (7, .own 2 ((l7).set i17 e20))] Q)
  (fun _ => bnC 2 (fillP [.int .i64 0, .int .i64 0] [(0, 1, t8), (1, 1, t8)]) fun c79_21 c79_22 => 
  pinB (elOk 2 (.agg [c79_21, c79_22])) <| 
  pinB (room 16 ((l7 : List AV).length + (([.agg [c79_21, c79_22]] : List AV) : List AV).length)) <| 
  k .normal [(1, .v t1), (2, .v t2), (3, .lp 3 0), (6, .ls 6), (7, .ls 7), (8, .v t8)] [(3, .cells [s3_0, s3_1, s3_2, s3_3, s3_4, s3_5, s3_6]), (6, .own 2 l6), (7, .own 2 (l7 ++ ([.agg [c79_21, c79_22]] : List AV)))] Q))) := by kernel_rfl
theorem p_nak_Serves_1 {β : Type} (call : CallF) (lp : PLoopF) (t1 t2 t8 s3_0 s3_1 s3_2 s3_3 s3_4 s3_5 s3_6 : AV) (l6 l7 : List AV) (Q : AHeap) (k : PK β) : evalPK call lp c_nak_Serves_1 [(1, .v t1), (2, .v t2), (3, .lp 3 0), (6, .ls 6), (7, .ls 7), (8, .v t8)] [(3, .cells [s3_0, s3_1, s3_2, s3_3, s3_4, s3_5, s3_6]), (6, .own 2 l6), (7, .own 2 l7)] Q k = (
  bnP (binA .add t8 (.int .i64 1)) fun w31_1 => 
  k .normal [(1, .v t1), (2, .v t2), (3, .lp 3 0), (6, .ls 6), (7, .ls 7), (8, .v w31_1)] [(3, .cells [s3_0, s3_1, s3_2, s3_3, s3_4, s3_5, s3_6]), (6, .own 2 l6), (7, .own 2 l7)] Q) := by kernel_rfl
theorem p_nak_Serves_2 {β : Type} (call : CallF) (lp : PLoopF) (t1 t2 t8 s3_0 s3_1 s3_2 s3_3 s3_4 s3_5 s3_6 : AV) (l6 l7 : List AV) (Q : AHeap) (k : PK β) : evalPK call lp c_nak_Serves_2 [(1, .v t1), (2, .v t2), (3, .lp 3 0), (6, .ls 6), (7, .ls 7), (8, .v t8)] [(3, .cells [s3_0, s3_1, s3_2, s3_3, s3_4, s3_5, s3_6]), (6, .own 2 l6), (7, .own 2 l7)] Q k = (
  bnP (binA .leq t8 t2) fun w23_1 => 
  bnP (gdQ w23_1 true (some t8)) fun w25_2 => 
  bnP (gdQ w23_1 true (some t1)) fun w26_3 => 
  bnP (gdQ w23_1 true (binA .sub w25_2 w26_3)) fun w27_4 => 
  bnP (gdQ w23_1 true (binA .lss w27_4 (.int .i64 8))) fun w28_5 => 
  bnP (pickA w23_1 w28_5 (.bool false)) fun w29_6 => 
  cndS w29_6 (fun _ => bnX (bnX (bnS (call 63 [s3_2, t8] Q) fun w36_7 Q8 => 
  bnP (extA (frz w36_7) 0) fun w37_9 => 
  bnP (extA (frz w36_7) 1) fun w38_10 => 
  bnX (cndS w38_10 (fun _ => bnC 2 (fillP [.int .i64 0, .str []] [(0, 1, t8), (1, 1, w37_9)]) fun c43_11 c43_12 => 
  pinB (elOk 2 (.agg [c43_11, c43_12])) <| 
  pinB (room 24 ((l6 : List AV).length + (([.agg [c43_11, c43_12]] : List AV) : List AV).length)) <| 
  some (.normal, [(1, .v t1), (2, .v t2), (3, .lp 3 0), (6, .ls 6), (7, .ls 7), (8, .v t8), (10, .v w38_10)], [(3, .cells [s3_0, s3_1, s3_2, s3_3, s3_4, s3_5, s3_6]), (6, .own 2 (l6 ++ ([.agg [c43_11, c43_12]] : List AV))), (7, .own 2 l7)], Q8))
  (fun _ => some (.normal, [(1, .v t1), (2, .v t2), (3, .lp 3 0), (6, .ls 6), (7, .ls 7), (8, .v t8), (10, .v w38_10)], [(3, .cells [s3_0, s3_1, s3_2, s3_3, s3_4, s3_5, s3_6]), (6, .own 2 l6), (7, .own 2 l7)], Q8)))
  (goC (evalPK call lp c_nak_Serves_0) ret4))
  (outX 1 ret4))
  (goC (evalPK call lp c_nak_Serves_1) k))
  (fun _ => k (.exit 0) [(6, .ls 6), (7, .ls 7)] [(6, .own 2 l6), (7, .own 2 l7)] Q)) := by kernel_rfl
noncomputable def L_nak_Serves_2 (s : PSpecs) (t1 t2 t8 s3_0 s3_1 s3_2 s3_3 s3_4 s3_5 s3_6 : AV) (l6 l7 : List AV) (Q : AHeap) : Option PEnd := loopP (penv s) c_nak_Serves_2 [(1, .v t1), (2, .v t2), (3, .lp 3 0), (6, .ls 6), (7, .ls 7), (8, .v t8)] [(3, .cells [s3_0, s3_1, s3_2, s3_3, s3_4, s3_5, s3_6]), (6, .own 2 l6), (7, .own 2 l7)] Q
theorem L_nak_Serves_2_fold (s : PSpecs) (t1 t2 t8 s3_0 s3_1 s3_2 s3_3 s3_4 s3_5 s3_6 : AV) (l6 l7 : List AV) (Q : AHeap) : loopP (penv s) c_nak_Serves_2 [(1, .v t1), (2, .v t2), (3, .lp 3 0), (6, .ls 6), (7, .ls 7), (8, .v t8)] [(3, .cells [s3_0, s3_1, s3_2, s3_3, s3_4, s3_5, s3_6]), (6, .own 2 l6), (7, .own 2 l7)] Q = L_nak_Serves_2 s t1 t2 t8 s3_0 s3_1 s3_2 s3_3 s3_4 s3_5 s3_6 l6 l7 Q := rfl
theorem L_nak_Serves_2_eq (s : PSpecs) (t1 t2 t8 s3_0 s3_1 s3_2 s3_3 s3_4 s3_5 s3_6 : AV) (l6 l7 : List AV) (Q : AHeap) : L_nak_Serves_2 s t1 t2 t8 s3_0 s3_1 s3_2 s3_3 s3_4 s3_5 s3_6 l6 l7 Q = evalPK (callP (penv s)) (loopP (penv s)) c_nak_Serves_2 [(1, .v t1), (2, .v t2), (3, .lp 3 0), (6, .ls 6), (7, .ls 7), (8, .v t8)] [(3, .cells [s3_0, s3_1, s3_2, s3_3, s3_4, s3_5, s3_6]), (6, .own 2 l6), (7, .own 2 l7)] Q (goX (fun τ ω Q => loopP (penv s) c_nak_Serves_2 τ ω Q) ret4) := loopP_body
abbrev X_nak_Serves_2_x0 (l6 l7 : List AV) (Q : AHeap) : Option PEnd := some (.exit 0, [(6, .ls 6), (7, .ls 7)], [(6, .own 2 l6), (7, .own 2 l7)], Q)
theorem p_nak_Serves_3 {β : Type} (call : CallF) (lp : PLoopF) (l6 l7 : List AV) (Q : AHeap) (k : PK β) : evalPK call lp c_nak_Serves_3 [(6, .ls 6), (7, .ls 7)] [(6, .own 2 l6), (7, .own 2 l7)] Q k = (
  k .ret [(7, .ls 7), (6, .ls 6), (83, .ls 7), (82, .ls 6), (6, .ls 6), (7, .ls 7)] [(6, .own 2 l6), (7, .own 2 l7)] Q) := by kernel_rfl
theorem g_nak_Serves {call : CallF} {lp : PLoopF} (v0_0 v0_1 v0_2 v0_3 v0_4 v0_5 v0_6 v1 v2 : AV) (Q : AHeap) : evalPK call lp c_nak_Serves [(0, .v (.agg [v0_0, v0_1, v0_2, v0_3, v0_4, v0_5, v0_6])), (1, .v v1), (2, .v v2)] [] Q (retPK [.tmp 6, .tmp 7] [.f 2, .f 2]) = (
  bnC 7 (stC 7 (.agg [v0_0, v0_1, v0_2, v0_3, v0_4, v0_5, v0_6])) fun s1 s2 s3 s4 s5 s6 s7 => 
  bnP (binA .lss s1 (.int .i64 1)) fun w14_8 => 
  cndS w14_8 (fun _ => some (.tup [.fz 2 [], .fz 2 []], Q))
  (fun _ => bnP (binA .sub s1 (.int .i64 1)) fun w18_9 => 
  bnP (mniA [v2, w18_9]) fun w19_10 => 
  bnX (lp c_nak_Serves_2 [(1, .v v1), (2, .v w19_10), (3, .lp 3 0), (6, .ls 6), (7, .ls 7), (8, .v v1)] [(3, .cells [s1, s2, s3, s4, s5, s6, s7]), (6, .own 2 ([] : List AV)), (7, .own 2 ([] : List AV))] Q) (outX 0 (goC (evalPK call lp c_nak_Serves_3) (retPK [.tmp 6, .tmp 7] [.f 2, .f 2]))))) := by kernel_rfl
def f_nak_Serves {s : PSpecs} (hs : s.lookup 19 = none) (v0_0 v0_1 v0_2 v0_3 v0_4 v0_5 v0_6 v1 v2 : AV) (Q : AHeap) := (callP_fn (E := penv s) (f := 19) (fn := pf_nak_Serves) hs rfl [.agg [v0_0, v0_1, v0_2, v0_3, v0_4, v0_5, v0_6], v1, v2] Q rfl).trans (g_nak_Serves (call := callP (penv s)) (lp := loopP (penv s)) v0_0 v0_1 v0_2 v0_3 v0_4 v0_5 v0_6 v1 v2 Q)
theorem p_pleachref13_Skips_0 {β : Type} (call : CallF) (lp : PLoopF) (t1 t2 s3_0 s3_1 s3_2 s3_3 s3_4 s3_5 s3_6 s6_0 s6_1 s6_2 s6_3 s6_4 s6_5 s6_6 : AV) (l8 : List AV) (Q : AHeap) (k : PK β) : evalPK call lp c_pleachref13_Skips_0 [(1, .v t1), (2, .v t2), (3, .lp 3 0), (6, .lp 6 0), (8, .ls 8)] [(3, .cells [s3_0, s3_1, s3_2, s3_3, s3_4, s3_5, s3_6]), (6, .cells [s6_0, s6_1, s6_2, s6_3, s6_4, s6_5, s6_6]), (8, .own 2 l8)] Q k = (
  bnP (binA .leq s3_0 t1) fun w65_1 => 
  cndS w65_1 (fun _ => bnS (call 27 [.agg [s3_0, s3_1, s3_2, s3_3, s3_4, s3_5, s3_6]] Q) fun w68_2 Q3 => 
  bnP (extA (frz w68_2) 0) fun w69_4 => 
  bnP (extA (frz w68_2) 1) fun w70_5 => 
  bnC 7 (stC 7 w69_4) fun s6 s7 s8 s9 s10 s11 s12 => 
  k .normal [(1, .v t1), (2, .v t2), (3, .lp 3 0), (6, .lp 6 0), (8, .ls 8)] [(3, .cells [s6, s7, s8, s9, s10, s11, s12]), (6, .cells [s6_0, s6_1, s6_2, s6_3, s6_4, s6_5, s6_6]), (8, .own 2 l8)] Q3)
  (fun _ => k .normal [(1, .v t1), (2, .v t2), (3, .lp 3 0), (6, .lp 6 0), (8, .ls 8)] [(3, .cells [s3_0, s3_1, s3_2, s3_3, s3_4, s3_5, s3_6]), (6, .cells [s6_0, s6_1, s6_2, s6_3, s6_4, s6_5, s6_6]), (8, .own 2 l8)] Q)) := by kernel_rfl
theorem p_pleachref13_Skips_1 {β : Type} (call : CallF) (lp : PLoopF) (t1 t2 t9 s3_0 s3_1 s3_2 s3_3 s3_4 s3_5 s3_6 s6_0 s6_1 s6_2 s6_3 s6_4 s6_5 s6_6 : AV) (l8 : List AV) (Q : AHeap) (k : PK β) : evalPK call lp c_pleachref13_Skips_1 [(1, .v t1), (2, .v t2), (3, .lp 3 0), (6, .lp 6 0), (8, .ls 8), (9, .v t9)] [(3, .cells [s3_0, s3_1, s3_2, s3_3, s3_4, s3_5, s3_6]), (6, .cells [s6_0, s6_1, s6_2, s6_3, s6_4, s6_5, s6_6]), (8, .own 2 l8)] Q k = (
  bnX (bnP (binA .geq t9 s3_0) fun w43_1 => 
  cndS w43_1 (fun _ => bnS (call 45 [s3_4, s3_0, t9, t2] Q) fun w50_2 Q3 => 
  bnC 1 (stC 1 (frz w50_2)) fun s4 => 
  bnC 2 (fillP [.int .i64 0, .int .i64 0] [(0, 1, s3_0), (1, 1, t9)]) fun c56_5 c56_6 => 
  pinB (elOk 2 (.agg [c56_5, c56_6])) <| 
  pinB (room 16 ((l8 : List AV).length + (([.agg [c56_5, c56_6]] : List AV) : List AV).length)) <| 
  bnP (binA .add t9 (.int .i64 1)) fun w60_7 => 
  bnC 1 (stC 1 w60_7) fun s8 => 
  some (.normal, [(1, .v t1), (2, .v t2), (3, .lp 3 0), (6, .lp 6 0), (8, .ls 8)], [(3, .cells [s8, s3_1, s3_2, s3_3, s4, s3_5, s3_6]), (6, .cells [s6_0, s6_1, s6_2, s6_3, s6_4, s6_5, s6_6]), (8, .own 2 (l8 ++ ([.agg [c56_5, c56_6]] : List AV)))], Q3))
  (fun _ => some (.normal, [(1, .v t1), (2, .v t2), (3, .lp 3 0), (6, .lp 6 0), (8, .ls 8)], [(3, .cells [s3_0, s3_1, s3_2, s3_3, s3_4, s3_5, s3_6]), (6, .cells [s6_0, s6_1, s6_2, s6_3, s6_4, s6_5, s6_6]), (8, .own 2 l8)], Q)))
  (goC (evalPK call lp c_pleachref13_Skips_0) k)) := by kernel_rfl
theorem p_pleachref13_Skips_2 {β : Type} (call : CallF) (lp : PLoopF) (t1 t2 s3_0 s3_1 s3_2 s3_3 s3_4 s3_5 s3_6 s6_0 s6_1 s6_2 s6_3 s6_4 s6_5 s6_6 : AV) (l8 : List AV) (Q : AHeap) (k : PK β) : evalPK call lp c_pleachref13_Skips_2 [(1, .v t1), (2, .v t2), (3, .lp 3 0), (6, .lp 6 0), (8, .ls 8)] [(3, .cells [s3_0, s3_1, s3_2, s3_3, s3_4, s3_5, s3_6]), (6, .cells [s6_0, s6_1, s6_2, s6_3, s6_4, s6_5, s6_6]), (8, .own 2 l8)] Q k = (
  bnP (binA .leq s3_0 t1) fun w21_1 => 
  cndS w21_1 (fun _ => bnX (bnX (bnP (lenQ s3_3) fun w27_2 => 
  bnP (binA .gtr w27_2 (.int .i64 0)) fun w28_3 => 
  bnP (gdQ w28_3 true (some s3_3)) fun w31_4 => 
  bnS (gdH w28_3 true (call 62 [w31_4] Q) Q) fun w32_5 Q6 => 
  bnP (gdQ w28_3 true (some t1)) fun w33_7 => 
  bnP (gdQ w28_3 true (binA .leq (frz w32_5) w33_7)) fun w34_8 => 
  bnP (pickA w28_3 w34_8 (.bool false)) fun w35_9 => 
  cndS w35_9 (fun _ => bnS (call 62 [s3_3] Q6) fun w38_10 Q11 => 
  bnP (binA .sub (frz w38_10) (.int .i64 1)) fun w39_12 => 
  some (.normal, [(1, .v t1), (2, .v t2), (3, .lp 3 0), (6, .lp 6 0), (8, .ls 8), (9, .v w39_12)], [(3, .cells [s3_0, s3_1, s3_2, s3_3, s3_4, .int .i64 0, .int .i64 0]), (6, .cells [s6_0, s6_1, s6_2, s6_3, s6_4, s6_5, s6_6]), (8, .own 2 l8)], Q11))
  (fun _ => some (.normal, [(1, .v t1), (2, .v t2), (3, .lp 3 0), (6, .lp 6 0), (8, .ls 8), (9, .v t1)], [(3, .cells [s3_0, s3_1, s3_2, s3_3, s3_4, .int .i64 0, .int .i64 0]), (6, .cells [s6_0, s6_1, s6_2, s6_3, s6_4, s6_5, s6_6]), (8, .own 2 l8)], Q6)))
  (goC (evalPK call lp c_pleachref13_Skips_1) ret4))
  (outX 1 (finC [] [] [1, 2, 3, 6, 8] [(3, 3), (6, 6), (8, 8)] k)))
  (fun _ => k (.exit 0) [(3, .lp 3 0), (6, .lp 6 0), (8, .ls 8)] [(3, .cells [s3_0, s3_1, s3_2, s3_3, s3_4, s3_5, s3_6]), (6, .cells [s6_0, s6_1, s6_2, s6_3, s6_4, s6_5, s6_6]), (8, .own 2 l8)] Q)) := by kernel_rfl
noncomputable def L_pleachref13_Skips_2 (s : PSpecs) (t1 t2 s3_0 s3_1 s3_2 s3_3 s3_4 s3_5 s3_6 s6_0 s6_1 s6_2 s6_3 s6_4 s6_5 s6_6 : AV) (l8 : List AV) (Q : AHeap) : Option PEnd := loopP (penv s) c_pleachref13_Skips_2 [(1, .v t1), (2, .v t2), (3, .lp 3 0), (6, .lp 6 0), (8, .ls 8)] [(3, .cells [s3_0, s3_1, s3_2, s3_3, s3_4, s3_5, s3_6]), (6, .cells [s6_0, s6_1, s6_2, s6_3, s6_4, s6_5, s6_6]), (8, .own 2 l8)] Q
theorem L_pleachref13_Skips_2_fold (s : PSpecs) (t1 t2 s3_0 s3_1 s3_2 s3_3 s3_4 s3_5 s3_6 s6_0 s6_1 s6_2 s6_3 s6_4 s6_5 s6_6 : AV) (l8 : List AV) (Q : AHeap) : loopP (penv s) c_pleachref13_Skips_2 [(1, .v t1), (2, .v t2), (3, .lp 3 0), (6, .lp 6 0), (8, .ls 8)] [(3, .cells [s3_0, s3_1, s3_2, s3_3, s3_4, s3_5, s3_6]), (6, .cells [s6_0, s6_1, s6_2, s6_3, s6_4, s6_5, s6_6]), (8, .own 2 l8)] Q = L_pleachref13_Skips_2 s t1 t2 s3_0 s3_1 s3_2 s3_3 s3_4 s3_5 s3_6 s6_0 s6_1 s6_2 s6_3 s6_4 s6_5 s6_6 l8 Q := rfl
theorem L_pleachref13_Skips_2_eq (s : PSpecs) (t1 t2 s3_0 s3_1 s3_2 s3_3 s3_4 s3_5 s3_6 s6_0 s6_1 s6_2 s6_3 s6_4 s6_5 s6_6 : AV) (l8 : List AV) (Q : AHeap) : L_pleachref13_Skips_2 s t1 t2 s3_0 s3_1 s3_2 s3_3 s3_4 s3_5 s3_6 s6_0 s6_1 s6_2 s6_3 s6_4 s6_5 s6_6 l8 Q = evalPK (callP (penv s)) (loopP (penv s)) c_pleachref13_Skips_2 [(1, .v t1), (2, .v t2), (3, .lp 3 0), (6, .lp 6 0), (8, .ls 8)] [(3, .cells [s3_0, s3_1, s3_2, s3_3, s3_4, s3_5, s3_6]), (6, .cells [s6_0, s6_1, s6_2, s6_3, s6_4, s6_5, s6_6]), (8, .own 2 l8)] Q (goX (fun τ ω Q => loopP (penv s) c_pleachref13_Skips_2 τ ω Q) ret4) := loopP_body
abbrev X_pleachref13_Skips_2_x0 (s3_0 s3_1 s3_2 s3_3 s3_4 s3_5 s3_6 s6_0 s6_1 s6_2 s6_3 s6_4 s6_5 s6_6 : AV) (l8 : List AV) (Q : AHeap) : Option PEnd := some (.exit 0, [(3, .lp 3 0), (6, .lp 6 0), (8, .ls 8)], [(3, .cells [s3_0, s3_1, s3_2, s3_3, s3_4, s3_5, s3_6]), (6, .cells [s6_0, s6_1, s6_2, s6_3, s6_4, s6_5, s6_6]), (8, .own 2 l8)], Q)
theorem p_pleachref13_Skips_3 {β : Type} (call : CallF) (lp : PLoopF) (s3_0 s3_1 s3_2 s3_3 s3_4 s3_5 s3_6 s6_0 s6_1 s6_2 s6_3 s6_4 s6_5 s6_6 : AV) (l8 : List AV) (Q : AHeap) (k : PK β) : evalPK call lp c_pleachref13_Skips_3 [(3, .lp 3 0), (6, .lp 6 0), (8, .ls 8)] [(3, .cells [s3_0, s3_1, s3_2, s3_3, s3_4, s3_5, s3_6]), (6, .cells [s6_0, s6_1, s6_2, s6_3, s6_4, s6_5, s6_6]), (8, .own 2 l8)] Q k = (
  bnC 7 (stC 7 (.agg [s3_0, s3_1, s3_2, s3_3, s3_4, s3_5, s3_6])) fun s1 s2 s3 s4 s5 s6 s7 => 
  k .ret [(7, .ls 8), (72, .ls 8), (71, .v (.agg [s3_0, s3_1, s3_2, s3_3, s3_4, s3_5, s3_6])), (3, .lp 3 0), (6, .lp 6 0), (8, .ls 8)] [(6, .cells [s1, s2, s3, s4, s5, s6, s7]), (3, .cells [s3_0, s3_1, s3_2, s3_3, s3_4, s3_5, s3_6]), (8, .own 2 l8)] Q) := by kernel_rfl
theorem g_pleachref13_Skips {call : CallF} {lp : PLoopF} (v0_0 v0_1 v0_2 v0_3 v0_4 v0_5 v0_6 v1 v2 : AV) (Q : AHeap) : evalPK call lp c_pleachref13_Skips [(0, .v (.agg [v0_0, v0_1, v0_2, v0_3, v0_4, v0_5, v0_6])), (1, .v v1), (2, .v v2)] [] Q (retPK [.cell 6 (some 7), .tmp 7] [.n, .f 2]) = (
  bnC 7 (stC 7 (.agg [v0_0, v0_1, v0_2, v0_3, v0_4, v0_5, v0_6])) fun s1 s2 s3 s4 s5 s6 s7 => 
  bnP (binA .lss s1 (.int .i64 1)) fun w12_8 => 
  bnP (gdQ w12_8 false (some v1)) fun w14_9 => 
  bnP (gdQ w12_8 false (binA .gtr w14_9 (.int .i64 1000000))) fun w15_10 => 
  bnP (pickA w12_8 (.bool true) w15_10) fun w16_11 => 
  cndS w16_11 (fun _ => bnC 7 (stC 7 (.agg [s1, s2, s3, s4, s5, s6, s7])) fun s12 s13 s14 s15 s16 s17 s18 => 
  some (.tup [.agg [s12, s13, s14, s15, s16, s17, s18], .fz 2 []], Q))
  (fun _ => bnX (lp c_pleachref13_Skips_2 [(1, .v v1), (2, .v v2), (3, .lp 3 0), (6, .lp 6 0), (8, .ls 8)] [(3, .cells [s1, s2, s3, s4, s5, s6, s7]), (6, .cells [.int .i64 0, .int .i64 0, .nils, .nils, .nils, .int .i64 0, .int .i64 0]), (8, .own 2 ([] : List AV))] Q) (outX 0 (goC (evalPK call lp c_pleachref13_Skips_3) (retPK [.cell 6 (some 7), .tmp 7] [.n, .f 2]))))) := by kernel_rfl
def f_pleachref13_Skips {s : PSpecs} (hs : s.lookup 24 = none) (v0_0 v0_1 v0_2 v0_3 v0_4 v0_5 v0_6 v1 v2 : AV) (Q : AHeap) := (callP_fn (E := penv s) (f := 24) (fn := pf_pleachref13_Skips) hs rfl [.agg [v0_0, v0_1, v0_2, v0_3, v0_4, v0_5, v0_6], v1, v2] Q rfl).trans (g_pleachref13_Skips (call := callP (penv s)) (lp := loopP (penv s)) v0_0 v0_1 v0_2 v0_3 v0_4 v0_5 v0_6 v1 v2 Q)
theorem p_pleachref13_Goes_0 {β : Type} (call : CallF) (lp : PLoopF) (s1_0 s1_1 s1_2 s1_3 s1_4 s1_5 s1_6 s2_0 s2_1 s2_2 s2_3 s2_4 s2_5 s2_6 : AV) (l4 : List AV) (Q : AHeap) (k : PK β) : evalPK call lp c_pleachref13_Goes_0 [(1, .lp 1 0), (2, .lp 2 0), (4, .ls 4)] [(1, .cells [s1_0, s1_1, s1_2, s1_3, s1_4, s1_5, s1_6]), (2, .cells [s2_0, s2_1, s2_2, s2_3, s2_4, s2_5, s2_6]), (4, .own 2 l4)] Q k = (
  bnS (call 68 [s1_3, s1_0] Q) fun w13_1 Q2 => 
  bnP (extA (frz w13_1) 0) fun w14_3 => 
  bnP (extA (frz w13_1) 1) fun w15_4 => 
  bnP (extA (frz w13_1) 2) fun w16_5 => 
  bnC 2 (stC 2 w15_4) fun s6 s7 => 
  bnP (unA .not w16_5) fun w18_8 => 
  cndS w18_8 (fun _ => bnC 7 (stC 7 (.agg [s1_0, s1_1, s1_2, s1_3, s1_4, s1_5, s1_6])) fun s9 s10 s11 s12 s13 s14 s15 => 
  k .ret [(2, .lp 2 0), (3, .ls 3)] [(2, .cells [s9, s10, s11, s12, s13, s14, s15]), (3, .own 2 l4)] Q2)
  (fun _ => bnS (call 43 [s1_4, s6, s7] Q2) fun w28_16 Q17 => 
  bnS (call 69 [s1_2, .agg [s6, s7]] Q17) fun w32_18 Q19 => 
  bnC 1 (stC 1 w14_3) fun s20 => 
  bnC 1 (stC 1 (frz w28_16)) fun s21 => 
  bnC 1 (stC 1 (frz w32_18)) fun s22 => 
  bnP (binA .add s1_0 (.int .i64 1)) fun w38_23 => 
  bnC 1 (stC 1 w38_23) fun s24 => 
  pinB (elOk 2 (.agg [s6, s7])) <| 
  pinB (room 24 ((l4 : List AV).length + (([.agg [s6, s7]] : List AV) : List AV).length)) <| 
  k .normal [(1, .lp 1 0), (2, .lp 2 0), (4, .ls 4)] [(1, .cells [s24, s1_1, s22, s20, s21, .int .i64 0, .int .i64 0]), (2, .cells [s2_0, s2_1, s2_2, s2_3, s2_4, s2_5, s2_6]), (4, .own 2 (l4 ++ ([.agg [s6, s7]] : List AV)))] Q19)) := by kernel_rfl
noncomputable def L_pleachref13_Goes_0 (s : PSpecs) (s1_0 s1_1 s1_2 s1_3 s1_4 s1_5 s1_6 s2_0 s2_1 s2_2 s2_3 s2_4 s2_5 s2_6 : AV) (l4 : List AV) (Q : AHeap) : Option PEnd := loopP (penv s) c_pleachref13_Goes_0 [(1, .lp 1 0), (2, .lp 2 0), (4, .ls 4)] [(1, .cells [s1_0, s1_1, s1_2, s1_3, s1_4, s1_5, s1_6]), (2, .cells [s2_0, s2_1, s2_2, s2_3, s2_4, s2_5, s2_6]), (4, .own 2 l4)] Q
theorem L_pleachref13_Goes_0_fold (s : PSpecs) (s1_0 s1_1 s1_2 s1_3 s1_4 s1_5 s1_6 s2_0 s2_1 s2_2 s2_3 s2_4 s2_5 s2_6 : AV) (l4 : List AV) (Q : AHeap) : loopP (penv s) c_pleachref13_Goes_0 [(1, .lp 1 0), (2, .lp 2 0), (4, .ls 4)] [(1, .cells [s1_0, s1_1, s1_2, s1_3, s1_4, s1_5, s1_6]), (2, .cells [s2_0, s2_1, s2_2, s2_3, s2_4, s2_5, s2_6]), (4, .own 2 l4)] Q = L_pleachref13_Goes_0 s s1_0 s1_1 s1_2 s1_3 s1_4 s1_5 s1_6 s2_0 s2_1 s2_2 s2_3 s2_4 s2_5 s2_6 l4 Q := rfl
theorem L_pleachref13_Goes_0_eq (s : PSpecs) (s1_0 s1_1 s1_2 s1_3 s1_4 s1_5 s1_6 s2_0 s2_1 s2_2 s2_3 s2_4 s2_5 s2_6 : AV) (l4 : List AV) (Q : AHeap) : L_pleachref13_Goes_0 s s1_0 s1_1 s1_2 s1_3 s1_4 s1_5 s1_6 s2_0 s2_1 s2_2 s2_3 s2_4 s2_5 s2_6 l4 Q = evalPK (callP (penv s)) (loopP (penv s)) c_pleachref13_Goes_0 [(1, .lp 1 0), (2, .lp 2 0), (4, .ls 4)] [(1, .cells [s1_0, s1_1, s1_2, s1_3, s1_4, s1_5, s1_6]), (2, .cells [s2_0, s2_1, s2_2, s2_3, s2_4, s2_5, s2_6]), (4, .own 2 l4)] Q (goX (fun τ ω Q => loopP (penv s) c_pleachref13_Goes_0 τ ω Q) ret4) := loopP_body
abbrev X_pleachref13_Goes_0_ret (s2_0 s2_1 s2_2 s2_3 s2_4 s2_5 s2_6 : AV) (l3 : List AV) (Q : AHeap) : Option PEnd := some (.ret, [(2, .lp 2 0), (3, .ls 3)], [(2, .cells [s2_0, s2_1, s2_2, s2_3, s2_4, s2_5, s2_6]), (3, .own 2 l3)], Q)
theorem g_pleachref13_Goes {call : CallF} {lp : PLoopF} (v0_0 v0_1 v0_2 v0_3 v0_4 v0_5 v0_6 : AV) (Q : AHeap) : evalPK call lp c_pleachref13_Goes [(0, .v (.agg [v0_0, v0_1, v0_2, v0_3, v0_4, v0_5, v0_6]))] [] Q (retPK [.cell 2 (some 7), .tmp 3] [.n, .f 2]) = (
  bnC 7 (stC 7 (.agg [v0_0, v0_1, v0_2, v0_3, v0_4, v0_5, v0_6])) fun s1 s2 s3 s4 s5 s6 s7 => 
  bnX (lp c_pleachref13_Goes_0 [(1, .lp 1 0), (2, .lp 2 0), (4, .ls 4)] [(1, .cells [s1, s2, s3, s4, s5, s6, s7]), (2, .cells [.int .i64 0, .int .i64 0, .nils, .nils, .nils, .int .i64 0, .int .i64 0]), (4, .own 2 ([] : List AV))] Q) (outX 0 (retPK [.cell 2 (some 7), .tmp 3] [.n, .f 2]))) := by kernel_rfl
def f_pleachref13_Goes {s : PSpecs} (hs : s.lookup 27 = none) (v0_0 v0_1 v0_2 v0_3 v0_4 v0_5 v0_6 : AV) (Q : AHeap) := (callP_fn (E := penv s) (f := 27) (fn := pf_pleachref13_Goes) hs rfl [.agg [v0_0, v0_1, v0_2, v0_3, v0_4, v0_5, v0_6]] Q rfl).trans (g_pleachref13_Goes (call := callP (penv s)) (lp := loopP (penv s)) v0_0 v0_1 v0_2 v0_3 v0_4 v0_5 v0_6 Q)
theorem p_pleachref13_Get_0 {β : Type} (call : CallF) (lp : PLoopF) (t0 t1 t6 : AV) (Q : AHeap) (k : PK β) : evalPK call lp c_pleachref13_Get_0 [(0, .v t0), (1, .v t1), (6, .v t6)] [] Q k = (
  bnP (lenQ t0) fun w9_1 => 
  bnP (binA .lss t6 w9_1) fun w10_2 => 
  cndS w10_2 (fun _ => bnP (elQ 2 t0 t6) fun e3 => 
  bnP ((AV.cells e3)[0]?) fun w17_4 => 
  bnP (binA .eql w17_4 t1) fun w19_5 => 
  cndS w19_5 (fun _ => bnP (elQ 2 t0 t6) fun e6 => 
  bnP ((AV.cells e6)[1]?) fun w24_7 => 
  k .ret [(4, .v w24_7), (5, .v (.bool true))] [] Q)
  (fun _ => bnP (binA .add t6 (.int .i64 1)) fun w12_8 => 
  k .normal [(0, .v t0), (1, .v t1), (6, .v w12_8)] [] Q))
  (fun _ => k (.exit 0) [] [] Q)) := by kernel_rfl
noncomputable def L_pleachref13_Get_0 (s : PSpecs) (t0 t1 t6 : AV) (Q : AHeap) : Option PEnd := loopP (penv s) c_pleachref13_Get_0 [(0, .v t0), (1, .v t1), (6, .v t6)] [] Q
theorem L_pleachref13_Get_0_fold (s : PSpecs) (t0 t1 t6 : AV) (Q : AHeap) : loopP (penv s) c_pleachref13_Get_0 [(0, .v t0), (1, .v t1), (6, .v t6)] [] Q = L_pleachref13_Get_0 s t0 t1 t6 Q := rfl
theorem L_pleachref13_Get_0_eq (s : PSpecs) (t0 t1 t6 : AV) (Q : AHeap) : L_pleachref13_Get_0 s t0 t1 t6 Q = evalPK (callP (penv s)) (loopP (penv s)) c_pleachref13_Get_0 [(0, .v t0), (1, .v t1), (6, .v t6)] [] Q (goX (fun τ ω Q => loopP (penv s) c_pleachref13_Get_0 τ ω Q) ret4) := loopP_body
abbrev X_pleachref13_Get_0_x0 (Q : AHeap) : Option PEnd := some (.exit 0, [], [], Q)
abbrev X_pleachref13_Get_0_ret (t4 t5 : AV) (Q : AHeap) : Option PEnd := some (.ret, [(4, .v t4), (5, .v t5)], [], Q)
theorem p_pleachref13_Get_1 {β : Type} (call : CallF) (lp : PLoopF) (Q : AHeap) (k : PK β) : evalPK call lp c_pleachref13_Get_1 [] [] Q k = (
  k .ret [(5, .v (.bool false)), (4, .v (.str []))] [] Q) := by kernel_rfl
theorem g_pleachref13_Get {call : CallF} {lp : PLoopF} (v0 v1 : AV) (Q : AHeap) : evalPK call lp c_pleachref13_Get [(0, .v v0), (1, .v v1)] [] Q (retPK [.tmp 4, .tmp 5] [.n, .n]) = (
  bnX (lp c_pleachref13_Get_0 [(0, .v v0), (1, .v v1), (6, .v (.int .i64 0))] [] Q) (outX 0 (goC (evalPK call lp c_pleachref13_Get_1) (retPK [.tmp 4, .tmp 5] [.n, .n])))) := by kernel_rfl
def f_pleachref13_Get {s : PSpecs} (hs : s.lookup 29 = none) (v0 v1 : AV) (Q : AHeap) := (callP_fn (E := penv s) (f := 29) (fn := pf_pleachref13_Get) hs rfl [v0, v1] Q rfl).trans (g_pleachref13_Get (call := callP (penv s)) (lp := loopP (penv s)) v0 v1 Q)
theorem g_pleachref13_Comes {call : CallF} {lp : PLoopF} (v0_0 v0_1 v0_2 v0_3 v0_4 v0_5 v0_6 v1_0 v1_1 : AV) (Q : AHeap) : evalPK call lp c_pleachref13_Comes [(0, .v (.agg [v0_0, v0_1, v0_2, v0_3, v0_4, v0_5, v0_6])), (1, .v (.agg [v1_0, v1_1]))] [] Q (retPK [.cell 4 (some 7)] [.n]) = (
  bnC 7 (stC 7 (.agg [v0_0, v0_1, v0_2, v0_3, v0_4, v0_5, v0_6])) fun s1 s2 s3 s4 s5 s6 s7 => 
  bnC 2 (stC 2 (.agg [v1_0, v1_1])) fun s8 s9 => 
  bnP (binA .eql s1 (.int .i64 0)) fun w7_10 => 
  bnP (gdQ w7_10 false (some s8)) fun w10_11 => 
  bnP (gdQ w7_10 false (binA .lss w10_11 (.int .i64 1))) fun w11_12 => 
  bnP (pickA w7_10 (.bool true) w11_12) fun w12_13 => 
  bnP (gdQ w12_13 false (some s8)) fun w15_14 => 
  bnP (gdQ w12_13 false (binA .gtr w15_14 (.int .i64 1000000))) fun w16_15 => 
  bnP (pickA w12_13 (.bool true) w16_15) fun w17_16 => 
  bnP (gdQ w17_16 false (some s9)) fun w20_17 => 
  bnP (gdQ w17_16 false (lensA w20_17)) fun w21_18 => 
  bnP (gdQ w17_16 false (binA .gtr w21_18 (.int .i64 12))) fun w22_19 => 
  bnP (pickA w17_16 (.bool true) w22_19) fun w23_20 => 
  cndS w23_20 (fun _ => bnC 7 (stC 7 (.agg [s1, s2, s3, s4, s5, s6, s7])) fun s21 s22 s23 s24 s25 s26 s27 => 
  some (.agg [s21, s22, s23, s24, s25, s26, s27], Q))
  (fun _ => bnS (call 58 [.agg [s1, s2, s3, s4, s5, s6, s7], s8] Q) fun w28_28 Q29 => 
  bnC 7 (stC 7 (frz w28_28)) fun s30 s31 s32 s33 s34 s35 s36 => 
  bnS (call 71 [s33, s30, .agg [s8, s9]] Q29) fun w35_37 Q38 => 
  bnP (extA (frz w35_37) 0) fun w36_39 => 
  bnP (extA (frz w35_37) 1) fun w37_40 => 
  bnC 1 (stC 1 w36_39) fun s41 => 
  bnS (call 27 [.agg [s30, s31, s32, s41, s34, s35, s36]] Q38) fun w41_42 Q43 => 
  bnP (extA (frz w41_42) 0) fun w42_44 => 
  bnP (extA (frz w41_42) 1) fun w43_45 => 
  bnC 7 (stC 7 w42_44) fun s46 s47 s48 s49 s50 s51 s52 => 
  bnC 7 (stC 7 (.agg [s46, s47, s48, s49, s50, s51, s52])) fun s53 s54 s55 s56 s57 s58 s59 => 
  some (.agg [s53, s54, s55, s56, s57, s58, s59], Q43))) := by kernel_rfl
def f_pleachref13_Comes {s : PSpecs} (hs : s.lookup 34 = none) (v0_0 v0_1 v0_2 v0_3 v0_4 v0_5 v0_6 v1_0 v1_1 : AV) (Q : AHeap) := (callP_fn (E := penv s) (f := 34) (fn := pf_pleachref13_Comes) hs rfl [.agg [v0_0, v0_1, v0_2, v0_3, v0_4, v0_5, v0_6], .agg [v1_0, v1_1]] Q rfl).trans (g_pleachref13_Comes (call := callP (penv s)) (lp := loopP (penv s)) v0_0 v0_1 v0_2 v0_3 v0_4 v0_5 v0_6 v1_0 v1_1 Q)
theorem g_pleachref13_Notes {call : CallF} {lp : PLoopF} (v0_0 v0_1 v0_2 v0_3 v0_4 v0_5 v0_6 v1 v2 : AV) (Q : AHeap) : evalPK call lp c_pleachref13_Notes [(0, .v (.agg [v0_0, v0_1, v0_2, v0_3, v0_4, v0_5, v0_6])), (1, .v v1), (2, .v v2)] [] Q (retPK [.cell 6 (some 7)] [.n]) = (
  bnC 7 (stC 7 (.agg [v0_0, v0_1, v0_2, v0_3, v0_4, v0_5, v0_6])) fun s1 s2 s3 s4 s5 s6 s7 => 
  bnP (binA .eql s1 (.int .i64 0)) fun w9_8 => 
  bnP (gdQ w9_8 false (some v1)) fun w11_9 => 
  bnP (gdQ w9_8 false (some v2)) fun w12_10 => 
  bnP (gdQ w9_8 false ((fillP [.int .i64 0, .int .i64 0] [(0, 1, w11_9), (1, 1, w12_10)]).map AV.agg)) fun w13_11 => 
  bnS (gdH w9_8 false (call 70 [w13_11] Q) Q) fun w14_12 Q13 => 
  bnP (gdQ w9_8 false (unA .not (frz w14_12))) fun w15_14 => 
  bnP (pickA w9_8 (.bool true) w15_14) fun w16_15 => 
  cndS w16_15 (fun _ => bnC 7 (stC 7 (.agg [s1, s2, s3, s4, s5, s6, s7])) fun s16 s17 s18 s19 s20 s21 s22 => 
  some (.agg [s16, s17, s18, s19, s20, s21, s22], Q13))
  (fun _ => bnS (call 58 [.agg [s1, s2, s3, s4, s5, s6, s7], v2] Q13) fun w20_23 Q24 => 
  bnC 7 (stC 7 (frz w20_23)) fun s25 s26 s27 s28 s29 s30 s31 => 
  bnP (binA .lss s25 v1) fun w24_32 => 
  bnP (gdQ w24_32 false (some s25)) fun w27_33 => 
  bnP (gdQ w24_32 false (some v2)) fun w28_34 => 
  bnP (gdQ w24_32 false (binA .gtr w27_33 w28_34)) fun w29_35 => 
  bnP (pickA w24_32 (.bool true) w29_35) fun w30_36 => 
  cndS w30_36 (fun _ => bnC 7 (stC 7 (.agg [s25, s26, s27, s28, s29, s30, s31])) fun s37 s38 s39 s40 s41 s42 s43 => 
  some (.agg [s37, s38, s39, s40, s41, s42, s43], Q24))
  (fun _ => bnS (call 24 [.agg [s25, s26, s27, s28, s29, s30, s31], v2, .int .i64 1] Q24) fun w35_44 Q45 => 
  bnP (extA (frz w35_44) 0) fun w36_46 => 
  bnP (extA (frz w35_44) 1) fun w37_47 => 
  bnC 7 (stC 7 w36_46) fun s48 s49 s50 s51 s52 s53 s54 => 
  bnS (call 27 [.agg [s48, s49, s50, s51, s52, s53, s54]] Q45) fun w40_55 Q56 => 
  bnP (extA (frz w40_55) 0) fun w41_57 => 
  bnP (extA (frz w40_55) 1) fun w42_58 => 
  bnC 7 (stC 7 w41_57) fun s59 s60 s61 s62 s63 s64 s65 => 
  bnC 7 (stC 7 (.agg [s59, s60, s61, s62, s63, s64, s65])) fun s66 s67 s68 s69 s70 s71 s72 => 
  some (.agg [s66, s67, s68, s69, s70, s71, s72], Q56)))) := by kernel_rfl
def f_pleachref13_Notes {s : PSpecs} (hs : s.lookup 35 = none) (v0_0 v0_1 v0_2 v0_3 v0_4 v0_5 v0_6 v1 v2 : AV) (Q : AHeap) := (callP_fn (E := penv s) (f := 35) (fn := pf_pleachref13_Notes) hs rfl [.agg [v0_0, v0_1, v0_2, v0_3, v0_4, v0_5, v0_6], v1, v2] Q rfl).trans (g_pleachref13_Notes (call := callP (penv s)) (lp := loopP (penv s)) v0_0 v0_1 v0_2 v0_3 v0_4 v0_5 v0_6 v1 v2 Q)
theorem g_pleachref13_Tell {call : CallF} {lp : PLoopF} (v0 v1 v2 : AV) (Q : AHeap) : evalPK call lp c_pleachref13_Tell [(0, .v v0), (1, .v v1), (2, .v v2)] [] Q (retPK [.tmp 6] [.o 5]) = (
  bnL (srcT [] 5 (.v v0)) fun l1 => 
  pinB (room 48 ((([] : List AV) : List AV).length + (l1 : List AV).length)) <| 
  bnC 5 (fillP [.int .i64 0, .int .i64 0, .int .i64 0, .str [], .int .i64 0] [(0, 1, .int .i64 1), (1, 1, v1), (2, 1, v1), (3, 1, v2)]) fun c13_2 c13_3 c13_4 c13_5 c13_6 => 
  pinB (elOk 5 (.agg [c13_2, c13_3, c13_4, c13_5, c13_6])) <| 
  pinB (room 48 (((([] : List AV) ++ l1) : List AV).length + (([.agg [c13_2, c13_3, c13_4, c13_5, c13_6]] : List AV) : List AV).length)) <| 
  some (.ow 5 ((([] : List AV) ++ l1) ++ ([.agg [c13_2, c13_3, c13_4, c13_5, c13_6]] : List AV)), Q)) := by kernel_rfl
def f_pleachref13_Tell {s : PSpecs} (hs : s.lookup 43 = none) (v0 v1 v2 : AV) (Q : AHeap) := (callP_fn (E := penv s) (f := 43) (fn := pf_pleachref13_Tell) hs rfl [v0, v1, v2] Q rfl).trans (g_pleachref13_Tell (call := callP (penv s)) (lp := loopP (penv s)) v0 v1 v2 Q)
theorem g_pleachref13_Skip {call : CallF} {lp : PLoopF} (v0 v1 v2 v3 : AV) (Q : AHeap) : evalPK call lp c_pleachref13_Skip [(0, .v v0), (1, .v v1), (2, .v v2), (3, .v v3)] [] Q (retPK [.tmp 8] [.o 5]) = (
  bnL (srcT [] 5 (.v v0)) fun l1 => 
  pinB (room 48 ((([] : List AV) : List AV).length + (l1 : List AV).length)) <| 
  bnC 5 (fillP [.int .i64 0, .int .i64 0, .int .i64 0, .str [], .int .i64 0] [(0, 1, .int .i64 2), (1, 1, v1), (2, 1, v2), (4, 1, v3)]) fun c15_2 c15_3 c15_4 c15_5 c15_6 => 
  pinB (elOk 5 (.agg [c15_2, c15_3, c15_4, c15_5, c15_6])) <| 
  pinB (room 48 (((([] : List AV) ++ l1) : List AV).length + (([.agg [c15_2, c15_3, c15_4, c15_5, c15_6]] : List AV) : List AV).length)) <| 
  some (.ow 5 ((([] : List AV) ++ l1) ++ ([.agg [c15_2, c15_3, c15_4, c15_5, c15_6]] : List AV)), Q)) := by kernel_rfl
def f_pleachref13_Skip {s : PSpecs} (hs : s.lookup 45 = none) (v0 v1 v2 v3 : AV) (Q : AHeap) := (callP_fn (E := penv s) (f := 45) (fn := pf_pleachref13_Skip) hs rfl [v0, v1, v2, v3] Q rfl).trans (g_pleachref13_Skip (call := callP (penv s)) (lp := loopP (penv s)) v0 v1 v2 v3 Q)
theorem p_pleachref13_Begin_0 {β : Type} (call : CallF) (lp : PLoopF) (s2_0 s2_1 s2_2 s2_3 s2_4 s2_5 s2_6 s4_0 s4_1 s4_2 s4_3 s4_4 s4_5 s4_6 : AV) (Q : AHeap) (k : PK β) : evalPK call lp c_pleachref13_Begin_0 [(2, .lp 2 0), (4, .lp 4 0)] [(2, .cells [s2_0, s2_1, s2_2, s2_3, s2_4, s2_5, s2_6]), (4, .cells [s4_0, s4_1, s4_2, s4_3, s4_4, s4_5, s4_6])] Q k = (
  bnC 7 (stC 7 (.agg [s2_0, s2_1, s2_2, s2_3, s2_4, s2_5, s2_6])) fun s1 s2 s3 s4 s5 s6 s7 => 
  k .ret [(20, .v (.agg [s2_0, s2_1, s2_2, s2_3, s2_4, s2_5, s2_6])), (2, .lp 2 0), (4, .lp 4 0)] [(4, .cells [s1, s2, s3, s4, s5, s6, s7]), (2, .cells [s2_0, s2_1, s2_2, s2_3, s2_4, s2_5, s2_6])] Q) := by kernel_rfl
theorem g_pleachref13_Begin {call : CallF} {lp : PLoopF} (v0_0 v0_1 v0_2 v0_3 v0_4 v0_5 v0_6 v1 : AV) (Q : AHeap) : evalPK call lp c_pleachref13_Begin [(0, .v (.agg [v0_0, v0_1, v0_2, v0_3, v0_4, v0_5, v0_6])), (1, .v v1)] [] Q (retPK [.cell 4 (some 7)] [.n]) = (
  bnC 7 (stC 7 (.agg [v0_0, v0_1, v0_2, v0_3, v0_4, v0_5, v0_6])) fun s1 s2 s3 s4 s5 s6 s7 => 
  bnP (binA .gtr s1 (.int .i64 0)) fun w7_8 => 
  cndS w7_8 (fun _ => bnP (binA .sub v1 (.int .i64 1)) fun w10_9 => 
  bnS (call 58 [.agg [s1, s2, s3, s4, s5, s6, s7], w10_9] Q) fun w11_10 Q11 => 
  bnC 7 (stC 7 (frz w11_10)) fun s12 s13 s14 s15 s16 s17 s18 => 
  some (.agg [s12, s13, s14, s15, s16, s17, s18], Q11))
  (fun _ => bnX (bnP (binA .geq v1 (.int .i64 1)) fun w13_19 => 
  bnP (gdQ w13_19 true (some v1)) fun w15_20 => 
  bnP (gdQ w13_19 true (binA .leq w15_20 (.int .i64 1000000))) fun w16_21 => 
  bnP (pickA w13_19 w16_21 (.bool false)) fun w17_22 => 
  cndS w17_22 (fun _ => bnC 1 (stC 1 v1) fun s23 => 
  some (.normal, [(2, .lp 2 0), (4, .lp 4 0)], [(2, .cells [s23, s2, s3, s4, s5, s6, s7]), (4, .cells [.int .i64 0, .int .i64 0, .nils, .nils, .nils, .int .i64 0, .int .i64 0])], Q))
  (fun _ => some (.normal, [(2, .lp 2 0), (4, .lp 4 0)], [(2, .cells [s1, s2, s3, s4, s5, s6, s7]), (4, .cells [.int .i64 0, .int .i64 0, .nils, .nils, .nils, .int .i64 0, .int .i64 0])], Q)))
  (goC (evalPK call lp c_pleachref13_Begin_0) (retPK [.cell 4 (some 7)] [.n])))) := by kernel_rfl
def f_pleachref13_Begin {s : PSpecs} (hs : s.lookup 55 = none) (v0_0 v0_1 v0_2 v0_3 v0_4 v0_5 v0_6 v1 : AV) (Q : AHeap) := (callP_fn (E := penv s) (f := 55) (fn := pf_pleachref13_Begin) hs rfl [.agg [v0_0, v0_1, v0_2, v0_3, v0_4, v0_5, v0_6], v1] Q rfl).trans (g_pleachref13_Begin (call := callP (penv s)) (lp := loopP (penv s)) v0_0 v0_1 v0_2 v0_3 v0_4 v0_5 v0_6 v1 Q)
theorem g_pleachmade_Picks_Num {call : CallF} {lp : PLoopF} (v0 v1 : AV) (Q : AHeap) : evalPK call lp c_pleachmade_Picks_Num [(0, .v v0), (1, .v v1)] [] Q (retPK [.tmp 4] [.n]) = (
  bnP (nckQ v0) fun w6_1 => 
  bnP (fadQ 1 w6_1) fun w7_2 => 
  bnP (ldQ Q w7_2) fun w8_3 => 
  bnP (nckQ v0) fun w10_4 => 
  bnP (fadQ 0 w10_4) fun w11_5 => 
  bnP (ldQ Q w11_5) fun w12_6 => 
  bnP (lenQ w12_6) fun w13_7 => 
  bnP (binA .geq w8_3 w13_7) fun w14_8 => 
  bnP (gdQ w14_8 false (some v1)) fun w16_9 => 
  bnP (gdQ w14_8 false (binA .lss w16_9 (.int .i64 1))) fun w17_10 => 
  bnP (pickA w14_8 (.bool true) w17_10) fun w18_11 => 
  cndS w18_11 (fun _ => some (.int .i64 0, Q))
  (fun _ => bnP (nckQ v0) fun w20_12 => 
  bnP (fadQ 1 w20_12) fun w21_13 => 
  bnP (ldQ Q w21_13) fun w22_14 => 
  bnP (binA .add w22_14 (.int .i64 1)) fun w23_15 => 
  bnP (nckQ v0) fun w24_16 => 
  bnP (fadQ 1 w24_16) fun w25_17 => 
  bnS (stA Q 1 w25_17 w23_15) fun _ Q18 => 
  bnP (nckQ v0) fun w27_19 => 
  bnP (fadQ 0 w27_19) fun w28_20 => 
  bnP (ldQ Q18 w28_20) fun w29_21 => 
  bnP (nckQ v0) fun w31_22 => 
  bnP (fadQ 1 w31_22) fun w32_23 => 
  bnP (ldQ Q18 w32_23) fun w33_24 => 
  bnP (binA .sub w33_24 (.int .i64 1)) fun w34_25 => 
  bnP (elQ 1 w29_21 w34_25) fun e26 => 
  bnP ((AV.cells e26)[0]?) fun w36_27 => 
  bnP (cviA .i64 w36_27) fun w37_28 => 
  bnP (binA .rem w37_28 v1) fun w39_29 => 
  bnP (rcv false .n w39_29) fun r30 => some (r30, Q18))) := by kernel_rfl
def f_pleachmade_Picks_Num {s : PSpecs} (hs : s.lookup 56 = none) (v0 v1 : AV) (Q : AHeap) := (callP_fn (E := penv s) (f := 56) (fn := pf_pleachmade_Picks_Num) hs rfl [v0, v1] Q rfl).trans (g_pleachmade_Picks_Num (call := callP (penv s)) (lp := loopP (penv s)) v0 v1 Q)
theorem g_pleachmade_Picks_Over {call : CallF} {lp : PLoopF} (v0 : AV) (Q : AHeap) : evalPK call lp c_pleachmade_Picks_Over [(0, .v v0)] [] Q (retPK [.tmp 2] [.n]) = (
  bnP (nckQ v0) fun w4_1 => 
  bnP (fadQ 1 w4_1) fun w5_2 => 
  bnP (ldQ Q w5_2) fun w6_3 => 
  bnP (nckQ v0) fun w8_4 => 
  bnP (fadQ 0 w8_4) fun w9_5 => 
  bnP (ldQ Q w9_5) fun w10_6 => 
  bnP (lenQ w10_6) fun w11_7 => 
  bnP (binA .geq w6_3 w11_7) fun w12_8 => 
  bnP (rcv false .n w12_8) fun r9 => some (r9, Q)) := by kernel_rfl
def f_pleachmade_Picks_Over {s : PSpecs} (hs : s.lookup 57 = none) (v0 : AV) (Q : AHeap) := (callP_fn (E := penv s) (f := 57) (fn := pf_pleachmade_Picks_Over) hs rfl [v0] Q rfl).trans (g_pleachmade_Picks_Over (call := callP (penv s)) (lp := loopP (penv s)) v0 Q)
theorem p_pleachref13_Knows_0 {β : Type} (call : CallF) (lp : PLoopF) (s2_0 s2_1 s2_2 s2_3 s2_4 s2_5 s2_6 s4_0 s4_1 s4_2 s4_3 s4_4 s4_5 s4_6 : AV) (Q : AHeap) (k : PK β) : evalPK call lp c_pleachref13_Knows_0 [(2, .lp 2 0), (4, .lp 4 0)] [(2, .cells [s2_0, s2_1, s2_2, s2_3, s2_4, s2_5, s2_6]), (4, .cells [s4_0, s4_1, s4_2, s4_3, s4_4, s4_5, s4_6])] Q k = (
  bnC 7 (stC 7 (.agg [s2_0, s2_1, s2_2, s2_3, s2_4, s2_5, s2_6])) fun s1 s2 s3 s4 s5 s6 s7 => 
  k .ret [(17, .v (.agg [s2_0, s2_1, s2_2, s2_3, s2_4, s2_5, s2_6])), (2, .lp 2 0), (4, .lp 4 0)] [(4, .cells [s1, s2, s3, s4, s5, s6, s7]), (2, .cells [s2_0, s2_1, s2_2, s2_3, s2_4, s2_5, s2_6])] Q) := by kernel_rfl
theorem g_pleachref13_Knows {call : CallF} {lp : PLoopF} (v0_0 v0_1 v0_2 v0_3 v0_4 v0_5 v0_6 v1 : AV) (Q : AHeap) : evalPK call lp c_pleachref13_Knows [(0, .v (.agg [v0_0, v0_1, v0_2, v0_3, v0_4, v0_5, v0_6])), (1, .v v1)] [] Q (retPK [.cell 4 (some 7)] [.n]) = (
  bnC 7 (stC 7 (.agg [v0_0, v0_1, v0_2, v0_3, v0_4, v0_5, v0_6])) fun s1 s2 s3 s4 s5 s6 s7 => 
  bnX (bnP (binA .gtr s1 (.int .i64 0)) fun w7_8 => 
  bnP (gdQ w7_8 true (some v1)) fun w9_9 => 
  bnP (gdQ w7_8 true (binA .leq w9_9 (.int .i64 1000000))) fun w10_10 => 
  bnP (pickA w7_8 w10_10 (.bool false)) fun w11_11 => 
  cndS w11_11 (fun _ => bnP (mxiA [s2, v1]) fun w15_12 => 
  bnC 1 (stC 1 w15_12) fun s13 => 
  some (.normal, [(2, .lp 2 0), (4, .lp 4 0)], [(2, .cells [s1, s13, s3, s4, s5, s6, s7]), (4, .cells [.int .i64 0, .int .i64 0, .nils, .nils, .nils, .int .i64 0, .int .i64 0])], Q))
  (fun _ => some (.normal, [(2, .lp 2 0), (4, .lp 4 0)], [(2, .cells [s1, s2, s3, s4, s5, s6, s7]), (4, .cells [.int .i64 0, .int .i64 0, .nils, .nils, .nils, .int .i64 0, .int .i64 0])], Q)))
  (goC (evalPK call lp c_pleachref13_Knows_0) (retPK [.cell 4 (some 7)] [.n]))) := by kernel_rfl
def f_pleachref13_Knows {s : PSpecs} (hs : s.lookup 58 = none) (v0_0 v0_1 v0_2 v0_3 v0_4 v0_5 v0_6 v1 : AV) (Q : AHeap) := (callP_fn (E := penv s) (f := 58) (fn := pf_pleachref13_Knows) hs rfl [.agg [v0_0, v0_1, v0_2, v0_3, v0_4, v0_5, v0_6], v1] Q rfl).trans (g_pleachref13_Knows (call := callP (penv s)) (lp := loopP (penv s)) v0_0 v0_1 v0_2 v0_3 v0_4 v0_5 v0_6 v1 Q)
theorem g_pleachref13_Tick {call : CallF} {lp : PLoopF} (v0_0 v0_1 v0_2 v0_3 v0_4 v0_5 v0_6 v1 : AV) (Q : AHeap) : evalPK call lp c_pleachref13_Tick [(0, .v (.agg [v0_0, v0_1, v0_2, v0_3, v0_4, v0_5, v0_6])), (1, .v v1)] [] Q (retPK [.cell 4 (some 7), .cell 5 (some 2), .tmp 6] [.n, .n, .n]) = (
  bnC 7 (stC 7 (.agg [v0_0, v0_1, v0_2, v0_3, v0_4, v0_5, v0_6])) fun s1 s2 s3 s4 s5 s6 s7 => 
  bnS (call 18 [.agg [s1, s2, s3, s4, s5, s6, s7]] Q) fun w11_8 Q9 => 
  bnP (extA (frz w11_8) 0) fun w12_10 => 
  bnP (extA (frz w11_8) 1) fun w13_11 => 
  bnC 2 (stC 2 w12_10) fun s12 s13 => 
  bnP (unA .not w13_11) fun w15_14 => 
  bnP (gdQ w15_14 false (some (.agg [s6, s7]))) fun w18_15 => 
  bnP (gdQ w15_14 false (some v1)) fun w19_16 => 
  bnS (gdH w15_14 false (call 81 [w18_15, w19_16] Q9) Q9) fun w20_17 Q18 => 
  bnP (gdQ w15_14 false (unA .not (frz w20_17))) fun w21_19 => 
  bnP (pickA w15_14 (.bool true) w21_19) fun w22_20 => 
  cndS w22_20 (fun _ => bnC 7 (stC 7 (.agg [s1, s2, s3, s4, s5, s6, s7])) fun s21 s22 s23 s24 s25 s26 s27 => 
  some (.tup [.agg [s21, s22, s23, s24, s25, s26, s27], .agg [.int .i64 0, .int .i64 0], .bool false], Q18))
  (fun _ => bnP (binA .geq s6 (.int .i64 3)) fun w28_28 => 
  cndS w28_28 (fun _ => bnS (call 24 [.agg [s1, s2, s3, s4, s5, s6, s7], s13, .int .i64 2] Q18) fun w33_29 Q30 => 
  bnP (extA (frz w33_29) 0) fun w34_31 => 
  bnP (extA (frz w33_29) 1) fun w35_32 => 
  bnC 7 (stC 7 w34_31) fun s33 s34 s35 s36 s37 s38 s39 => 
  bnS (call 27 [.agg [s33, s34, s35, s36, s37, s38, s39]] Q30) fun w38_40 Q41 => 
  bnP (extA (frz w38_40) 0) fun w39_42 => 
  bnP (extA (frz w38_40) 1) fun w40_43 => 
  bnC 7 (stC 7 w39_42) fun s44 s45 s46 s47 s48 s49 s50 => 
  bnC 7 (stC 7 (.agg [s44, s45, s46, s47, s48, s49, s50])) fun s51 s52 s53 s54 s55 s56 s57 => 
  some (.tup [.agg [s51, s52, s53, s54, s55, s56, s57], .agg [.int .i64 0, .int .i64 0], .bool false], Q41))
  (fun _ => bnS (call 82 [.agg [s6, s7], v1] Q18) fun w46_58 Q59 => 
  bnC 2 (stC 2 (frz w46_58)) fun s60 s61 => 
  bnC 7 (stC 7 (.agg [s1, s2, s3, s4, s5, s60, s61])) fun s62 s63 s64 s65 s66 s67 s68 => 
  bnC 2 (stC 2 (.agg [s12, s13])) fun s69 s70 => 
  some (.tup [.agg [s62, s63, s64, s65, s66, s67, s68], .agg [s69, s70], .bool true], Q59)))) := by kernel_rfl
def f_pleachref13_Tick {s : PSpecs} (hs : s.lookup 59 = none) (v0_0 v0_1 v0_2 v0_3 v0_4 v0_5 v0_6 v1 : AV) (Q : AHeap) := (callP_fn (E := penv s) (f := 59) (fn := pf_pleachref13_Tick) hs rfl [.agg [v0_0, v0_1, v0_2, v0_3, v0_4, v0_5, v0_6], v1] Q rfl).trans (g_pleachref13_Tick (call := callP (penv s)) (lp := loopP (penv s)) v0_0 v0_1 v0_2 v0_3 v0_4 v0_5 v0_6 v1 Q)
theorem g_pleachmade_Picks_Text {call : CallF} {lp : PLoopF} (v0 : AV) (Q : AHeap) : evalPK call lp c_pleachmade_Picks_Text [(0, .v v0)] [] Q (retPK [.tmp 2] [.n]) = (
  bnS (call 56 [v0, .int .i64 5] Q) fun w5_1 Q2 => 
  bnP (elQ 1 (.fz 1 [.str [], .str [97], .str [98, 99], .str [104, 101, 108, 108, 111], .str [116, 119, 101, 108, 118, 101, 32, 98, 121, 116, 101, 115]]) (frz w5_1)) fun e3 => 
  bnP ((AV.cells e3)[0]?) fun w7_4 => 
  bnP (rcv false .n w7_4) fun r5 => some (r5, Q2)) := by kernel_rfl
def f_pleachmade_Picks_Text {s : PSpecs} (hs : s.lookup 60 = none) (v0 : AV) (Q : AHeap) := (callP_fn (E := penv s) (f := 60) (fn := pf_pleachmade_Picks_Text) hs rfl [v0] Q rfl).trans (g_pleachmade_Picks_Text (call := callP (penv s)) (lp := loopP (penv s)) v0 Q)
theorem g_win_First {call : CallF} {lp : PLoopF} (v0 : AV) (Q : AHeap) : evalPK call lp c_win_First [(0, .v v0)] [] Q (retPK [.tmp 2] [.n]) = (
  bnP (lenQ v0) fun w4_1 => 
  bnP (binA .eql w4_1 (.int .i64 0)) fun w5_2 => 
  cndS w5_2 (fun _ => some (.int .i64 0, Q))
  (fun _ => bnP (elQ 2 v0 (.int .i64 0)) fun e3 => 
  bnP ((AV.cells e3)[0]?) fun w9_4 => 
  bnP (rcv false .n w9_4) fun r5 => some (r5, Q))) := by kernel_rfl
def f_win_First {s : PSpecs} (hs : s.lookup 61 = none) (v0 : AV) (Q : AHeap) := (callP_fn (E := penv s) (f := 61) (fn := pf_win_First) hs rfl [v0] Q rfl).trans (g_win_First (call := callP (penv s)) (lp := loopP (penv s)) v0 Q)
theorem g_pleachref13_First {call : CallF} {lp : PLoopF} (v0 : AV) (Q : AHeap) : evalPK call lp c_pleachref13_First [(0, .v v0)] [] Q (retPK [.tmp 2] [.n]) = (
  bnP (lenQ v0) fun w4_1 => 
  bnP (binA .eql w4_1 (.int .i64 0)) fun w5_2 => 
  cndS w5_2 (fun _ => some (.int .i64 0, Q))
  (fun _ => bnP (elQ 2 v0 (.int .i64 0)) fun e3 => 
  bnP ((AV.cells e3)[0]?) fun w9_4 => 
  bnP (rcv false .n w9_4) fun r5 => some (r5, Q))) := by kernel_rfl
def f_pleachref13_First {s : PSpecs} (hs : s.lookup 62 = none) (v0 : AV) (Q : AHeap) := (callP_fn (E := penv s) (f := 62) (fn := pf_pleachref13_First) hs rfl [v0] Q rfl).trans (g_pleachref13_First (call := callP (penv s)) (lp := loopP (penv s)) v0 Q)
theorem g_ring_Get {call : CallF} {lp : PLoopF} (v0 v1 : AV) (Q : AHeap) : evalPK call lp c_ring_Get [(0, .v v0), (1, .v v1)] [] Q (retPK [.tmp 4, .tmp 5] [.n, .n]) = (
  bnS (call 83 [v0, v1, .fn 84 [] []] Q) fun w11_1 Q2 => 
  bnP (extA (frz w11_1) 0) fun w12_3 => 
  bnP (extA (frz w11_1) 1) fun w13_4 => 
  bnP (unA .not w13_4) fun w15_5 => 
  cndS w15_5 (fun _ => some (.tup [.str [], .bool false], Q2))
  (fun _ => bnP (elQ 2 v0 w12_3) fun e6 => 
  bnP ((AV.cells e6)[1]?) fun w20_7 => 
  bnP (rcv false .n w20_7) fun r8 => some (.tup [frz r8, .bool true], Q2))) := by kernel_rfl
def f_ring_Get {s : PSpecs} (hs : s.lookup 63 = none) (v0 v1 : AV) (Q : AHeap) := (callP_fn (E := penv s) (f := 63) (fn := pf_ring_Get) hs rfl [v0, v1] Q rfl).trans (g_ring_Get (call := callP (penv s)) (lp := loopP (penv s)) v0 v1 Q)
theorem g_pleachref13_TakeWin {call : CallF} {lp : PLoopF} (v0 v1 : AV) (Q : AHeap) : evalPK call lp c_pleachref13_TakeWin [(0, .v v0), (1, .v v1)] [] Q (retPK [.tmp 4, .cell 5 (some 2), .tmp 6] [.f 2, .n, .n]) = (
  bnP (lenQ v0) fun w8_1 => 
  bnP (binA .eql w8_1 (.int .i64 0)) fun w9_2 => 
  bnP (gdQ w9_2 false (some v0)) fun w11_3 => 
  bnP (gdQ w9_2 false (elQ 2 w11_3 (.int .i64 0))) fun e4 => 
  bnP (gdQ w9_2 false ((AV.cells e4)[0]?)) fun w14_5 => 
  bnP (gdQ w9_2 false (some v1)) fun w15_6 => 
  bnP (gdQ w9_2 false (binA .neq w14_5 w15_6)) fun w16_7 => 
  bnP (pickA w9_2 (.bool true) w16_7) fun w17_8 => 
  cndS w17_8 (fun _ => bnP (rcv false (.f 2) v0) fun r9 => some (.tup [frz r9, .agg [.int .i64 0, .str []], .bool false], Q))
  (fun _ => bnP (slcQ 2 v0 (some (.int .i64 1)) none) fun w22_10 => 
  bnP (elQ 2 v0 (.int .i64 0)) fun e11 => 
  bnC 2 (cut (AV.cells e11) 0 2) fun c26_12 c26_13 => 
  bnL (srcT [] 2 (.v w22_10)) fun l14 => 
  pinB (room 24 ((([] : List AV) : List AV).length + (l14 : List AV).length)) <| 
  bnC 2 (stC 2 (.agg [c26_12, c26_13])) fun s15 s16 => 
  some (.tup [.fz 2 (([] : List AV) ++ l14), .agg [s15, s16], .bool true], Q))) := by kernel_rfl
def f_pleachref13_TakeWin {s : PSpecs} (hs : s.lookup 68 = none) (v0 v1 : AV) (Q : AHeap) := (callP_fn (E := penv s) (f := 68) (fn := pf_pleachref13_TakeWin) hs rfl [v0, v1] Q rfl).trans (g_pleachref13_TakeWin (call := callP (penv s)) (lp := loopP (penv s)) v0 v1 Q)
theorem p_pleachref13_AddRing_0 {β : Type} (call : CallF) (lp : PLoopF) (t5 : AV) (Q : AHeap) (k : PK β) : evalPK call lp c_pleachref13_AddRing_0 [(5, .v t5)] [] Q k = (
  k .ret [(4, .v t5), (34, .v t5), (5, .v t5)] [] Q) := by kernel_rfl
theorem g_pleachref13_AddRing {call : CallF} {lp : PLoopF} (v0 v1_0 v1_1 : AV) (Q : AHeap) : evalPK call lp c_pleachref13_AddRing [(0, .v v0), (1, .v (.agg [v1_0, v1_1]))] [] Q (retPK [.tmp 4] [.f 2]) = (
  bnC 2 (stC 2 (.agg [v1_0, v1_1])) fun s1 s2 => 
  bnL (srcT [] 2 (.v v0)) fun l3 => 
  pinB (room 24 ((([] : List AV) : List AV).length + (l3 : List AV).length)) <| 
  bnP (lenQ v0) fun w10_4 => 
  bnP (binA .gtr w10_4 (.int .i64 0)) fun w11_5 => 
  bnP (gdQ w11_5 true (some v0)) fun w13_6 => 
  bnP (gdQ w11_5 true (some v0)) fun w14_7 => 
  bnP (gdQ w11_5 true (lenQ w14_7)) fun w15_8 => 
  bnP (gdQ w11_5 true (binA .sub w15_8 (.int .i64 1))) fun w16_9 => 
  bnP (gdQ w11_5 true (elQ 2 w13_6 w16_9)) fun e10 => 
  bnP (gdQ w11_5 true ((AV.cells e10)[0]?)) fun w19_11 => 
  bnP (gdQ w11_5 true (some s1)) fun w21_12 => 
  bnP (gdQ w11_5 true (binA .geq w19_11 w21_12)) fun w22_13 => 
  bnP (pickA w11_5 w22_13 (.bool false)) fun w23_14 => 
  cndS w23_14 (fun _ => some (.fz 2 (([] : List AV) ++ l3), Q))
  (fun _ => pinB (elOk 2 (.agg [s1, s2])) <| 
  pinB (room 24 (((([] : List AV) ++ l3) : List AV).length + (([.agg [s1, s2]] : List AV) : List AV).length)) <| 
  bnX (bnP (binA .gtr (.int .i64 ((((([] : List AV) ++ l3) ++ ([.agg [s1, s2]] : List AV)) : List AV).length : Nat)) (.int .i64 6)) fun w31_15 => 
  cndS w31_15 (fun _ => bnP (slcQ 2 (.fz 2 ((([] : List AV) ++ l3) ++ ([.agg [s1, s2]] : List AV))) (some (.int .i64 1)) none) fun w33_16 => 
  some (.normal, [(5, .v w33_16)], [], Q))
  (fun _ => some (.normal, [(5, .v (.fz 2 ((([] : List AV) ++ l3) ++ ([.agg [s1, s2]] : List AV))))], [], Q)))
  (goC (evalPK call lp c_pleachref13_AddRing_0) (retPK [.tmp 4] [.f 2])))) := by kernel_rfl
def f_pleachref13_AddRing {s : PSpecs} (hs : s.lookup 69 = none) (v0 v1_0 v1_1 : AV) (Q : AHeap) := (callP_fn (E := penv s) (f := 69) (fn := pf_pleachref13_AddRing) hs rfl [v0, .agg [v1_0, v1_1]] Q rfl).trans (g_pleachref13_AddRing (call := callP (penv s)) (lp := loopP (penv s)) v0 v1_0 v1_1 Q)
theorem g_pleachref1_MaySpan {call : CallF} {lp : PLoopF} (v0_0 v0_1 : AV) (Q : AHeap) : evalPK call lp c_pleachref1_MaySpan [(0, .v (.agg [v0_0, v0_1]))] [] Q (retPK [.tmp 2] [.n]) = (
  bnC 2 (stC 2 (.agg [v0_0, v0_1])) fun s1 s2 => 
  bnP (binA .geq s1 (.int .i64 1)) fun w5_3 => 
  bnP (gdQ w5_3 true (some s1)) fun w8_4 => 
  bnP (gdQ w5_3 true (some s2)) fun w10_5 => 
  bnP (gdQ w5_3 true (binA .leq w8_4 w10_5)) fun w11_6 => 
  bnP (pickA w5_3 w11_6 (.bool false)) fun w12_7 => 
  bnP (gdQ w12_7 true (some s2)) fun w15_8 => 
  bnP (gdQ w12_7 true (binA .leq w15_8 (.int .i64 1000000))) fun w16_9 => 
  bnP (pickA w12_7 w16_9 (.bool false)) fun w17_10 => 
  bnP (rcv false .n w17_10) fun r11 => some (r11, Q)) := by kernel_rfl
def f_pleachref1_MaySpan {s : PSpecs} (hs : s.lookup 70 = none) (v0_0 v0_1 : AV) (Q : AHeap) := (callP_fn (E := penv s) (f := 70) (fn := pf_pleachref1_MaySpan) hs rfl [.agg [v0_0, v0_1]] Q rfl).trans (g_pleachref1_MaySpan (call := callP (penv s)) (lp := loopP (penv s)) v0_0 v0_1 Q)
theorem p_pleachref13_PutWin_0 {β : Type} (call : CallF) (lp : PLoopF) (t0 t11 t12 s5_0 s5_1 : AV) (l10 : List AV) (Q : AHeap) (k : PK β) : evalPK call lp c_pleachref13_PutWin_0 [(0, .v t0), (5, .lp 5 0), (10, .ls 10), (11, .v t11), (12, .v t12)] [(5, .cells [s5_0, s5_1]), (10, .own 2 l10)] Q k = (
  bnP (elQ 2 t0 t12) fun e1 => 
  bnC 2 (cut (AV.cells e1) 0 2) fun c61_2 c61_3 => 
  pinB (elOk 2 (.agg [c61_2, c61_3])) <| 
  pinB (room 24 ((l10 : List AV).length + (([.agg [c61_2, c61_3]] : List AV) : List AV).length)) <| 
  k .normal [(0, .v t0), (5, .lp 5 0), (10, .ls 10), (11, .v t11), (12, .v t12)] [(5, .cells [s5_0, s5_1]), (10, .own 2 (l10 ++ ([.agg [c61_2, c61_3]] : List AV)))] Q) := by kernel_rfl
theorem p_pleachref13_PutWin_1 {β : Type} (call : CallF) (lp : PLoopF) (t0 t11 t12 s5_0 s5_1 : AV) (l10 : List AV) (Q : AHeap) (k : PK β) : evalPK call lp c_pleachref13_PutWin_1 [(0, .v t0), (5, .lp 5 0), (10, .ls 10), (11, .v t11), (12, .v t12)] [(5, .cells [s5_0, s5_1]), (10, .own 2 l10)] Q k = (
  bnP (binA .add t12 (.int .i64 1)) fun w40_1 => 
  k .normal [(0, .v t0), (5, .lp 5 0), (10, .ls 10), (11, .v t11), (12, .v w40_1)] [(5, .cells [s5_0, s5_1]), (10, .own 2 l10)] Q) := by kernel_rfl
theorem p_pleachref13_PutWin_2 {β : Type} (call : CallF) (lp : PLoopF) (t0 t11 t12 s5_0 s5_1 : AV) (l10 : List AV) (Q : AHeap) (k : PK β) : evalPK call lp c_pleachref13_PutWin_2 [(0, .v t0), (5, .lp 5 0), (10, .ls 10), (11, .v t11), (12, .v t12)] [(5, .cells [s5_0, s5_1]), (10, .own 2 l10)] Q k = (
  bnP (lenQ t0) fun w37_1 => 
  bnP (binA .lss t12 w37_1) fun w38_2 => 
  cndS w38_2 (fun _ => bnX (bnX (bnX (bnP (unA .not t11) fun w42_3 => 
  bnP (gdQ w42_3 true (some t0)) fun w44_4 => 
  bnP (gdQ w42_3 true (some t12)) fun w45_5 => 
  bnP (gdQ w42_3 true (elQ 2 w44_4 w45_5)) fun e6 => 
  bnP (gdQ w42_3 true ((AV.cells e6)[0]?)) fun w48_7 => 
  bnP (gdQ w42_3 true (some s5_0)) fun w50_8 => 
  bnP (gdQ w42_3 true (binA .gtr w48_7 w50_8)) fun w51_9 => 
  bnP (pickA w42_3 w51_9 (.bool false)) fun w52_10 => 
  cndS w52_10 (fun _ => pinB (elOk 2 (.agg [s5_0, s5_1])) <| 
  pinB (room 24 ((l10 : List AV).length + (([.agg [s5_0, s5_1]] : List AV) : List AV).length)) <| 
  some (.normal, [(0, .v t0), (5, .lp 5 0), (10, .ls 10), (11, .v (.bool true)), (12, .v t12)], [(5, .cells [s5_0, s5_1]), (10, .own 2 (l10 ++ ([.agg [s5_0, s5_1]] : List AV)))], Q))
  (fun _ => some (.normal, [(0, .v t0), (5, .lp 5 0), (10, .ls 10), (11, .v t11), (12, .v t12)], [(5, .cells [s5_0, s5_1]), (10, .own 2 l10)], Q)))
  (goC (evalPK call lp c_pleachref13_PutWin_0) ret4))
  (outX 1 ret4))
  (goC (evalPK call lp c_pleachref13_PutWin_1) k))
  (fun _ => k (.exit 0) [(5, .lp 5 0), (10, .ls 10), (11, .v t11)] [(5, .cells [s5_0, s5_1]), (10, .own 2 l10)] Q)) := by kernel_rfl
noncomputable def L_pleachref13_PutWin_2 (s : PSpecs) (t0 t11 t12 s5_0 s5_1 : AV) (l10 : List AV) (Q : AHeap) : Option PEnd := loopP (penv s) c_pleachref13_PutWin_2 [(0, .v t0), (5, .lp 5 0), (10, .ls 10), (11, .v t11), (12, .v t12)] [(5, .cells [s5_0, s5_1]), (10, .own 2 l10)] Q
theorem L_pleachref13_PutWin_2_fold (s : PSpecs) (t0 t11 t12 s5_0 s5_1 : AV) (l10 : List AV) (Q : AHeap) : loopP (penv s) c_pleachref13_PutWin_2 [(0, .v t0), (5, .lp 5 0), (10, .ls 10), (11, .v t11), (12, .v t12)] [(5, .cells [s5_0, s5_1]), (10, .own 2 l10)] Q = L_pleachref13_PutWin_2 s t0 t11 t12 s5_0 s5_1 l10 Q := rfl
theorem L_pleachref13_PutWin_2_eq (s : PSpecs) (t0 t11 t12 s5_0 s5_1 : AV) (l10 : List AV) (Q : AHeap) : L_pleachref13_PutWin_2 s t0 t11 t12 s5_0 s5_1 l10 Q = evalPK (callP (penv s)) (loopP (penv s)) c_pleachref13_PutWin_2 [(0, .v t0), (5, .lp 5 0), (10, .ls 10), (11, .v t11), (12, .v t12)] [(5, .cells [s5_0, s5_1]), (10, .own 2 l10)] Q (goX (fun τ ω Q => loopP (penv s) c_pleachref13_PutWin_2 τ ω Q) ret4) := loopP_body
abbrev X_pleachref13_PutWin_2_x0 (t11 s5_0 s5_1 : AV) (l10 : List AV) (Q : AHeap) : Option PEnd := some (.exit 0, [(5, .lp 5 0), (10, .ls 10), (11, .v t11)], [(5, .cells [s5_0, s5_1]), (10, .own 2 l10)], Q)
theorem p_pleachref13_PutWin_3 {β : Type} (call : CallF) (lp : PLoopF) (l10 : List AV) (Q : AHeap) (k : PK β) : evalPK call lp c_pleachref13_PutWin_3 [(10, .ls 10)] [(10, .own 2 l10)] Q k = (
  k .ret [(7, .v (.bool true)), (6, .ls 10), (70, .ls 10), (10, .ls 10)] [(10, .own 2 l10)] Q) := by kernel_rfl
theorem p_pleachref13_PutWin_4 {β : Type} (call : CallF) (lp : PLoopF) (t11 s5_0 s5_1 : AV) (l10 : List AV) (Q : AHeap) (k : PK β) : evalPK call lp c_pleachref13_PutWin_4 [(5, .lp 5 0), (10, .ls 10), (11, .v t11)] [(5, .cells [s5_0, s5_1]), (10, .own 2 l10)] Q k = (
  bnX (bnP (unA .not t11) fun w65_1 => 
  cndS w65_1 (fun _ => pinB (elOk 2 (.agg [s5_0, s5_1])) <| 
  pinB (room 24 ((l10 : List AV).length + (([.agg [s5_0, s5_1]] : List AV) : List AV).length)) <| 
  some (.normal, [(10, .ls 10)], [(10, .own 2 (l10 ++ ([.agg [s5_0, s5_1]] : List AV)))], Q))
  (fun _ => some (.normal, [(10, .ls 10)], [(10, .own 2 l10)], Q)))
  (goC (evalPK call lp c_pleachref13_PutWin_3) k)) := by kernel_rfl
theorem g_pleachref13_PutWin {call : CallF} {lp : PLoopF} (v0 v1 v2_0 v2_1 : AV) (Q : AHeap) : evalPK call lp c_pleachref13_PutWin [(0, .v v0), (1, .v v1), (2, .v (.agg [v2_0, v2_1]))] [] Q (retPK [.tmp 6, .tmp 7] [.f 2, .n]) = (
  bnC 2 (stC 2 (.agg [v2_0, v2_1])) fun s1 s2 => 
  bnS (call 29 [v0, s1] Q) fun w17_3 Q4 => 
  bnP (extA (frz w17_3) 0) fun w18_5 => 
  bnP (extA (frz w17_3) 1) fun w19_6 => 
  bnP (binA .lss s1 v1) fun w23_7 => 
  bnP (gdQ w23_7 false (some s1)) fun w26_8 => 
  bnP (gdQ w23_7 false (some v1)) fun w27_9 => 
  bnP (gdQ w23_7 false (binA .sub w26_8 w27_9)) fun w28_10 => 
  bnP (gdQ w23_7 false (binA .geq w28_10 (.int .i64 8))) fun w29_11 => 
  bnP (pickA w23_7 (.bool true) w29_11) fun w30_12 => 
  bnP (gdQ w30_12 false (some w19_6)) fun w32_13 => 
  bnP (pickA w30_12 (.bool true) w32_13) fun w33_14 => 
  cndS w33_14 (fun _ => bnP (rcv false (.f 2) v0) fun r15 => some (.tup [frz r15, .bool false], Q4))
  (fun _ => bnX (lp c_pleachref13_PutWin_2 [(0, .v v0), (5, .lp 5 0), (10, .ls 10), (11, .v (.bool false)), (12, .v (.int .i64 0))] [(5, .cells [s1, s2]), (10, .own 2 ([] : List AV))] Q4) (outX 0 (goC (evalPK call lp c_pleachref13_PutWin_4) (retPK [.tmp 6, .tmp 7] [.f 2, .n]))))) := by kernel_rfl
def f_pleachref13_PutWin {s : PSpecs} (hs : s.lookup 71 = none) (v0 v1 v2_0 v2_1 : AV) (Q : AHeap) := (callP_fn (E := penv s) (f := 71) (fn := pf_pleachref13_PutWin) hs rfl [v0, v1, .agg [v2_0, v2_1]] Q rfl).trans (g_pleachref13_PutWin (call := callP (penv s)) (lp := loopP (penv s)) v0 v1 v2_0 v2_1 Q)
theorem g_pleachref1_Now {call : CallF} {lp : PLoopF} (v0_0 v0_1 v1 : AV) (Q : AHeap) : evalPK call lp c_pleachref1_Now [(0, .v (.agg [v0_0, v0_1])), (1, .v v1)] [] Q (retPK [.tmp 4] [.n]) = (
  bnC 2 (stC 2 (.agg [v0_0, v0_1])) fun s1 s2 => 
  bnP (binA .eql s1 (.int .i64 0)) fun w7_3 => 
  bnP (gdQ w7_3 false (some v1)) fun w9_4 => 
  bnP (gdQ w7_3 false (some s2)) fun w11_5 => 
  bnP (gdQ w7_3 false (binA .geq w9_4 w11_5)) fun w12_6 => 
  bnP (pickA w7_3 (.bool true) w12_6) fun w13_7 => 
  bnP (rcv false .n w13_7) fun r8 => some (r8, Q)) := by kernel_rfl
def f_pleachref1_Now {s : PSpecs} (hs : s.lookup 81 = none) (v0_0 v0_1 v1 : AV) (Q : AHeap) := (callP_fn (E := penv s) (f := 81) (fn := pf_pleachref1_Now) hs rfl [.agg [v0_0, v0_1], v1] Q rfl).trans (g_pleachref1_Now (call := callP (penv s)) (lp := loopP (penv s)) v0_0 v0_1 v1 Q)
theorem p_pleachref1_Tried_0 {β : Type} (call : CallF) (lp : PLoopF) (t1 t5 t6 s2_0 s2_1 s4_0 s4_1 : AV) (Q : AHeap) (k : PK β) : evalPK call lp c_pleachref1_Tried_0 [(1, .v t1), (2, .lp 2 0), (4, .lp 4 0), (5, .v t5), (6, .v t6)] [(2, .cells [s2_0, s2_1]), (4, .cells [s4_0, s4_1])] Q k = (
  bnP (binA .lss t6 s2_0) fun w10_1 => 
  bnP (gdQ w10_1 true (some t6)) fun w12_2 => 
  bnP (gdQ w10_1 true (binA .lss w12_2 (.int .i64 3))) fun w13_3 => 
  bnP (pickA w10_1 w13_3 (.bool false)) fun w14_4 => 
  cndS w14_4 (fun _ => bnP (binA .mul t5 (.int .i64 2)) fun w18_5 => 
  bnP (binA .add t6 (.int .i64 1)) fun w16_6 => 
  k .normal [(1, .v t1), (2, .lp 2 0), (4, .lp 4 0), (5, .v w18_5), (6, .v w16_6)] [(2, .cells [s2_0, s2_1]), (4, .cells [s4_0, s4_1])] Q)
  (fun _ => k (.exit 0) [(1, .v t1), (2, .lp 2 0), (4, .lp 4 0), (5, .v t5)] [(2, .cells [s2_0, s2_1]), (4, .cells [s4_0, s4_1])] Q)) := by kernel_rfl
noncomputable def L_pleachref1_Tried_0 (s : PSpecs) (t1 t5 t6 s2_0 s2_1 s4_0 s4_1 : AV) (Q : AHeap) : Option PEnd := loopP (penv s) c_pleachref1_Tried_0 [(1, .v t1), (2, .lp 2 0), (4, .lp 4 0), (5, .v t5), (6, .v t6)] [(2, .cells [s2_0, s2_1]), (4, .cells [s4_0, s4_1])] Q
theorem L_pleachref1_Tried_0_fold (s : PSpecs) (t1 t5 t6 s2_0 s2_1 s4_0 s4_1 : AV) (Q : AHeap) : loopP (penv s) c_pleachref1_Tried_0 [(1, .v t1), (2, .lp 2 0), (4, .lp 4 0), (5, .v t5), (6, .v t6)] [(2, .cells [s2_0, s2_1]), (4, .cells [s4_0, s4_1])] Q = L_pleachref1_Tried_0 s t1 t5 t6 s2_0 s2_1 s4_0 s4_1 Q := rfl
theorem L_pleachref1_Tried_0_eq (s : PSpecs) (t1 t5 t6 s2_0 s2_1 s4_0 s4_1 : AV) (Q : AHeap) : L_pleachref1_Tried_0 s t1 t5 t6 s2_0 s2_1 s4_0 s4_1 Q = evalPK (callP (penv s)) (loopP (penv s)) c_pleachref1_Tried_0 [(1, .v t1), (2, .lp 2 0), (4, .lp 4 0), (5, .v t5), (6, .v t6)] [(2, .cells [s2_0, s2_1]), (4, .cells [s4_0, s4_1])] Q (goX (fun τ ω Q => loopP (penv s) c_pleachref1_Tried_0 τ ω Q) ret4) := loopP_body
abbrev X_pleachref1_Tried_0_x0 (t1 t5 s2_0 s2_1 s4_0 s4_1 : AV) (Q : AHeap) : Option PEnd := some (.exit 0, [(1, .v t1), (2, .lp 2 0), (4, .lp 4 0), (5, .v t5)], [(2, .cells [s2_0, s2_1]), (4, .cells [s4_0, s4_1])], Q)
theorem p_pleachref1_Tried_1 {β : Type} (call : CallF) (lp : PLoopF) (t1 t5 s2_0 s2_1 s4_0 s4_1 : AV) (Q : AHeap) (k : PK β) : evalPK call lp c_pleachref1_Tried_1 [(1, .v t1), (2, .lp 2 0), (4, .lp 4 0), (5, .v t5)] [(2, .cells [s2_0, s2_1]), (4, .cells [s4_0, s4_1])] Q k = (
  bnP (binA .add s2_0 (.int .i64 1)) fun w21_1 => 
  bnP (binA .add t1 t5) fun w24_2 => 
  bnC 2 (fillP [.int .i64 0, .int .i64 0] [(0, 1, w21_1), (1, 1, w24_2)]) fun c25_3 c25_4 => 
  bnC 2 (stC 2 (.agg [c25_3, c25_4])) fun s5 s6 => 
  k .ret [(25, .v (.agg [c25_3, c25_4])), (24, .v w24_2), (23, .v t5), (22, .v t1), (21, .v w21_1), (20, .v s2_0), (19, .lp 2 0), (1, .v t1), (2, .lp 2 0), (4, .lp 4 0), (5, .v t5)] [(4, .cells [s5, s6]), (2, .cells [s2_0, s2_1])] Q) := by kernel_rfl
theorem g_pleachref1_Tried {call : CallF} {lp : PLoopF} (v0_0 v0_1 v1 : AV) (Q : AHeap) : evalPK call lp c_pleachref1_Tried [(0, .v (.agg [v0_0, v0_1])), (1, .v v1)] [] Q (retPK [.cell 4 (some 2)] [.n]) = (
  bnC 2 (stC 2 (.agg [v0_0, v0_1])) fun s1 s2 => 
  bnX (lp c_pleachref1_Tried_0 [(1, .v v1), (2, .lp 2 0), (4, .lp 4 0), (5, .v (.int .i64 2)), (6, .v (.int .i64 0))] [(2, .cells [s1, s2]), (4, .cells [.int .i64 0, .int .i64 0])] Q) (outX 0 (goC (evalPK call lp c_pleachref1_Tried_1) (retPK [.cell 4 (some 2)] [.n])))) := by kernel_rfl
def f_pleachref1_Tried {s : PSpecs} (hs : s.lookup 82 = none) (v0_0 v0_1 v1 : AV) (Q : AHeap) := (callP_fn (E := penv s) (f := 82) (fn := pf_pleachref1_Tried) hs rfl [.agg [v0_0, v0_1], v1] Q rfl).trans (g_pleachref1_Tried (call := callP (penv s)) (lp := loopP (penv s)) v0_0 v0_1 v1 Q)
theorem p_slices_BinarySearchFunc_api_Item_api_Item_int_0 {β : Type} (call : CallF) (lp : PLoopF) (t0 t1 t2 t8 t9 t10 : AV) (Q : AHeap) (k : PK β) : evalPK call lp c_slices_BinarySearchFunc_api_Item_api_Item_int_0 [(0, .v t0), (1, .v t1), (2, .v t2), (8, .v t8), (9, .v t9), (10, .v t10)] [] Q k = (
  bnP (binA .lss t9 t10) fun w17_1 => 
  cndS w17_1 (fun _ => bnX (bnP (binA .add t9 t10) fun w20_2 => 
  bnP (cviA .u64 w20_2) fun w21_3 => 
  bnP (binA .shr w21_3 (.int .u64 1)) fun w22_4 => 
  bnP (cviA .i64 w22_4) fun w23_5 => 
  bnP (elQ 2 t0 w23_5) fun e6 => 
  bnC 2 (cut (AV.cells e6) 0 2) fun c28_7 c28_8 => 
  bnF t2 fun f11 f11f f11c => 
  bnS (lowF call f11 (f11f ++ [.agg [c28_7, c28_8], t1] ++ f11c) Q) fun w30_9 Q10 => 
  bnP (binA .lss (frz w30_9) (.int .i64 0)) fun w31_12 => 
  cndS w31_12 (fun _ => bnP (binA .add w23_5 (.int .i64 1)) fun w33_13 => 
  some (.normal, [(0, .v t0), (1, .v t1), (2, .v t2), (8, .v t8), (9, .v w33_13), (10, .v t10)], [], Q10))
  (fun _ => some (.normal, [(0, .v t0), (1, .v t1), (2, .v t2), (8, .v t8), (9, .v t9), (10, .v w23_5)], [], Q10)))
  (outX 1 (finC [] [] [0, 1, 2, 8, 9, 10] [] k)))
  (fun _ => k (.exit 0) [(0, .v t0), (1, .v t1), (2, .v t2), (8, .v t8), (9, .v t9)] [] Q)) := by kernel_rfl
noncomputable def L_slices_BinarySearchFunc_api_Item_api_Item_int_0 (s : PSpecs) (t0 t1 t2 t8 t9 t10 : AV) (Q : AHeap) : Option PEnd := loopP (penv s) c_slices_BinarySearchFunc_api_Item_api_Item_int_0 [(0, .v t0), (1, .v t1), (2, .v t2), (8, .v t8), (9, .v t9), (10, .v t10)] [] Q
theorem L_slices_BinarySearchFunc_api_Item_api_Item_int_0_fold (s : PSpecs) (t0 t1 t2 t8 t9 t10 : AV) (Q : AHeap) : loopP (penv s) c_slices_BinarySearchFunc_api_Item_api_Item_int_0 [(0, .v t0), (1, .v t1), (2, .v t2), (8, .v t8), (9, .v t9), (10, .v t10)] [] Q = L_slices_BinarySearchFunc_api_Item_api_Item_int_0 s t0 t1 t2 t8 t9 t10 Q := rfl
theorem L_slices_BinarySearchFunc_api_Item_api_Item_int_0_eq (s : PSpecs) (t0 t1 t2 t8 t9 t10 : AV) (Q : AHeap) : L_slices_BinarySearchFunc_api_Item_api_Item_int_0 s t0 t1 t2 t8 t9 t10 Q = evalPK (callP (penv s)) (loopP (penv s)) c_slices_BinarySearchFunc_api_Item_api_Item_int_0 [(0, .v t0), (1, .v t1), (2, .v t2), (8, .v t8), (9, .v t9), (10, .v t10)] [] Q (goX (fun τ ω Q => loopP (penv s) c_slices_BinarySearchFunc_api_Item_api_Item_int_0 τ ω Q) ret4) := loopP_body
abbrev X_slices_BinarySearchFunc_api_Item_api_Item_int_0_x0 (t0 t1 t2 t8 t9 : AV) (Q : AHeap) : Option PEnd := some (.exit 0, [(0, .v t0), (1, .v t1), (2, .v t2), (8, .v t8), (9, .v t9)], [], Q)
theorem p_slices_BinarySearchFunc_api_Item_api_Item_int_1 {β : Type} (call : CallF) (lp : PLoopF) (t0 t1 t2 t8 t9 : AV) (Q : AHeap) (k : PK β) : evalPK call lp c_slices_BinarySearchFunc_api_Item_api_Item_int_1 [(0, .v t0), (1, .v t1), (2, .v t2), (8, .v t8), (9, .v t9)] [] Q k = (
  bnP (binA .lss t9 t8) fun w38_1 => 
  bnP (gdQ w38_1 true (some t2)) fun w40_2 => 
  bnP (gdQ w38_1 true (some t0)) fun w41_3 => 
  bnP (gdQ w38_1 true (some t9)) fun w42_4 => 
  bnP (gdQ w38_1 true (elQ 2 w41_3 w42_4)) fun e5 => 
  bnP (gdQ w38_1 true ((cut (AV.cells e5) 0 2).map AV.agg)) fun w44_6 => 
  bnP (gdQ w38_1 true (some t1)) fun w45_7 => 
  bnS (gdH w38_1 true (bnF w40_2 fun f10 f10f f10c => lowF call f10 (f10f ++ [w44_6, w45_7] ++ f10c) Q) Q) fun w46_8 Q9 => 
  bnP (gdQ w38_1 true (binA .eql (frz w46_8) (.int .i64 0))) fun w47_11 => 
  bnP (pickA w38_1 w47_11 (.bool false)) fun w48_12 => 
  k .ret [(7, .v w48_12), (6, .v t9), (48, .v w48_12), (47, .v w47_11), (46, .v (frz w46_8)), (45, .v w45_7), (44, .v w44_6), (43, .gd 39 true (.fp e5 0)), (42, .v w42_4), (41, .v w41_3), (40, .v w40_2), (39, .v w38_1), (38, .v w38_1), (37, .v t8), (36, .v t9), (35, .v t9), (0, .v t0), (1, .v t1), (2, .v t2), (8, .v t8), (9, .v t9)] [] Q9) := by kernel_rfl
theorem g_slices_BinarySearchFunc_api_Item_api_Item_int {call : CallF} {lp : PLoopF} (v0 v1 v2 : AV) (Q : AHeap) : evalPK call lp c_slices_BinarySearchFunc_api_Item_api_Item_int [(0, .v v0), (1, .v v1), (2, .v v2)] [] Q (retPK [.tmp 6, .tmp 7] [.n, .n]) = (
  bnP (lenQ v0) fun w13_1 => 
  bnX (lp c_slices_BinarySearchFunc_api_Item_api_Item_int_0 [(0, .v v0), (1, .v v1), (2, .v v2), (8, .v w13_1), (9, .v (.int .i64 0)), (10, .v w13_1)] [] Q) (outX 0 (goC (evalPK call lp c_slices_BinarySearchFunc_api_Item_api_Item_int_1) (retPK [.tmp 6, .tmp 7] [.n, .n])))) := by kernel_rfl
def f_slices_BinarySearchFunc_api_Item_api_Item_int {s : PSpecs} (hs : s.lookup 83 = none) (v0 v1 v2 : AV) (Q : AHeap) := (callP_fn (E := penv s) (f := 83) (fn := pf_slices_BinarySearchFunc_api_Item_api_Item_int) hs rfl [v0, v1, v2] Q rfl).trans (g_slices_BinarySearchFunc_api_Item_api_Item_int (call := callP (penv s)) (lp := loopP (penv s)) v0 v1 v2 Q)
theorem g_ring_Get_1 {call : CallF} {lp : PLoopF} (v0_0 v0_1 v1 : AV) (Q : AHeap) : evalPK call lp c_ring_Get_1 [(0, .v (.agg [v0_0, v0_1])), (1, .v v1)] [] Q (retPK [.tmp 4] [.n]) = (
  bnC 2 (stC 2 (.agg [v0_0, v0_1])) fun s1 s2 => 
  bnS (call 85 [s1, v1] Q) fun w8_3 Q4 => 
  bnP (rcv false .n (frz w8_3)) fun r5 => some (r5, Q4)) := by kernel_rfl
def f_ring_Get_1 {s : PSpecs} (hs : s.lookup 84 = none) (v0_0 v0_1 v1 : AV) (Q : AHeap) := (callP_fn (E := penv s) (f := 84) (fn := pf_ring_Get_1) hs rfl [.agg [v0_0, v0_1], v1] Q rfl).trans (g_ring_Get_1 (call := callP (penv s)) (lp := loopP (penv s)) v0_0 v0_1 v1 Q)
theorem g_cmp_Compare_int {call : CallF} {lp : PLoopF} (v0 v1 : AV) (Q : AHeap) : evalPK call lp c_cmp_Compare_int [(0, .v v0), (1, .v v1)] [] Q (retPK [.tmp 4] [.n]) = (
  bnS (call 99 [v0] Q) fun w8_1 Q2 => 
  bnS (call 99 [v1] Q2) fun w10_3 Q4 => 
  cndS (frz w8_1) (fun _ => cndS (frz w10_3) (fun _ => some (.int .i64 0, Q4))
  (fun _ => some (.int .i64 (-1), Q4)))
  (fun _ => cndS (frz w10_3) (fun _ => some (.int .i64 1, Q4))
  (fun _ => bnP (binA .lss v0 v1) fun w16_5 => 
  cndS w16_5 (fun _ => some (.int .i64 (-1), Q4))
  (fun _ => bnP (binA .gtr v0 v1) fun w19_6 => 
  cndS w19_6 (fun _ => some (.int .i64 1, Q4))
  (fun _ => some (.int .i64 0, Q4)))))) := by kernel_rfl
def f_cmp_Compare_int {s : PSpecs} (hs : s.lookup 85 = none) (v0 v1 : AV) (Q : AHeap) := (callP_fn (E := penv s) (f := 85) (fn := pf_cmp_Compare_int) hs rfl [v0, v1] Q rfl).trans (g_cmp_Compare_int (call := callP (penv s)) (lp := loopP (penv s)) v0 v1 Q)
theorem g_cmp_isNaN_int {call : CallF} {lp : PLoopF} (v0 : AV) (Q : AHeap) : evalPK call lp c_cmp_isNaN_int [(0, .v v0)] [] Q (retPK [.tmp 2] [.n]) = (
  bnP (binA .neq v0 v0) fun w5_1 => 
  bnP (rcv false .n w5_1) fun r2 => some (r2, Q)) := by kernel_rfl
def f_cmp_isNaN_int {s : PSpecs} (hs : s.lookup 99 = none) (v0 : AV) (Q : AHeap) := (callP_fn (E := penv s) (f := 99) (fn := pf_cmp_isNaN_int) hs rfl [v0] Q rfl).trans (g_cmp_isNaN_int (call := callP (penv s)) (lp := loopP (penv s)) v0 Q)
end Go.Proofs.Ytccgolmdhikdoaa.Pn
