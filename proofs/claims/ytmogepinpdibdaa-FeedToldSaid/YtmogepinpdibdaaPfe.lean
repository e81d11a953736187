/- Equations by values. Printed by mkpv.py of this repo. -/
import Derived.Test.YtmogepinpdibdaaPfd
import Derived.Test.YtmogepinpdibdaaPvE
namespace Go.Proofs.Ytmogepinpdibdaa.Pf
open Go.Ab
set_option maxRecDepth 100000
set_option linter.unusedVariables false
set_option linter.unusedSimpArgs false
set_option linter.defProp false
theorem p_pleachlaw18_FeedTold_0 {β : Type} (call : CallF) (lp : PLoopF) (t0 t4 t5 t6 t7 t8 t10 t14 s3_0 s3_1 s3_2 s3_3 s3_4 s3_5 s3_6 s11_0 s11_1 s11_2 s11_3 s11_4 s11_5 s11_6 : AV) (Q : AHeap) (k : PK β) : evalPK call lp c_pleachlaw18_FeedTold_0 [(0, .v t0), (3, .lp 3 0), (4, .v t4), (5, .v t5), (6, .v t6), (7, .v t7), (8, .v t8), (10, .v t10), (11, .lp 11 0), (14, .v t14)] [(3, .cells [s3_0, s3_1, s3_2, s3_3, s3_4, s3_5, s3_6]), (11, .cells [s11_0, s11_1, s11_2, s11_3, s11_4, s11_5, s11_6])] Q k = (
  bnP (elQ 3 t0 t7) fun e1 => 
  bnN (idxN 3 (.int .i64 2)) fun i2 => 
  bnP ((AV.cells e1)[(0 + i2 * 1)]?) fun w92_3 => 
  bnP (binA .rem w92_3 (.int .u8 6)) fun w93_4 => 
  bnP (cviA .i64 w93_4) fun w94_5 => 
  bnP (binA .add t8 w94_5) fun w95_6 => 
  bnP (binA .lss t14 w95_6) fun w96_7 => 
  cndS w96_7 (fun _ => bnS (mupA Q .i t5 t14 (.bool true)) fun _ Q8 => 
  bnP (binA .add t14 (.int .i64 1)) fun w98_9 => 
  k .normal [(0, .v t0), (3, .lp 3 0), (4, .v t4), (5, .v t5), (6, .v t6), (7, .v t7), (8, .v t8), (10, .v t10), (11, .lp 11 0), (14, .v w98_9)] [(3, .cells [s3_0, s3_1, s3_2, s3_3, s3_4, s3_5, s3_6]), (11, .cells [s11_0, s11_1, s11_2, s11_3, s11_4, s11_5, s11_6])] Q8)
  (fun _ => k (.exit 3) [(0, .v t0), (3, .lp 3 0), (4, .v t4), (5, .v t5), (6, .v t6), (7, .v t7), (10, .v t10), (11, .lp 11 0)] [(3, .cells [s3_0, s3_1, s3_2, s3_3, s3_4, s3_5, s3_6]), (11, .cells [s11_0, s11_1, s11_2, s11_3, s11_4, s11_5, s11_6])] Q)) := by kernel_rfl
noncomputable def L_pleachlaw18_FeedTold_0 (s : PSpecs) (t0 t4 t5 t6 t7 t8 t10 t14 s3_0 s3_1 s3_2 s3_3 s3_4 s3_5 s3_6 s11_0 s11_1 s11_2 s11_3 s11_4 s11_5 s11_6 : AV) (Q : AHeap) : Option PEnd := loopP (penv s) c_pleachlaw18_FeedTold_0 [(0, .v t0), (3, .lp 3 0), (4, .v t4), (5, .v t5), (6, .v t6), (7, .v t7), (8, .v t8), (10, .v t10), (11, .lp 11 0), (14, .v t14)] [(3, .cells [s3_0, s3_1, s3_2, s3_3, s3_4, s3_5, s3_6]), (11, .cells [s11_0, s11_1, s11_2, s11_3, s11_4, s11_5, s11_6])] Q
theorem L_pleachlaw18_FeedTold_0_fold (s : PSpecs) (t0 t4 t5 t6 t7 t8 t10 t14 s3_0 s3_1 s3_2 s3_3 s3_4 s3_5 s3_6 s11_0 s11_1 s11_2 s11_3 s11_4 s11_5 s11_6 : AV) (Q : AHeap) : loopP (penv s) c_pleachlaw18_FeedTold_0 [(0, .v t0), (3, .lp 3 0), (4, .v t4), (5, .v t5), (6, .v t6), (7, .v t7), (8, .v t8), (10, .v t10), (11, .lp 11 0), (14, .v t14)] [(3, .cells [s3_0, s3_1, s3_2, s3_3, s3_4, s3_5, s3_6]), (11, .cells [s11_0, s11_1, s11_2, s11_3, s11_4, s11_5, s11_6])] Q = L_pleachlaw18_FeedTold_0 s t0 t4 t5 t6 t7 t8 t10 t14 s3_0 s3_1 s3_2 s3_3 s3_4 s3_5 s3_6 s11_0 s11_1 s11_2 s11_3 s11_4 s11_5 s11_6 Q := rfl
theorem L_pleachlaw18_FeedTold_0_eq (s : PSpecs) (t0 t4 t5 t6 t7 t8 t10 t14 s3_0 s3_1 s3_2 s3_3 s3_4 s3_5 s3_6 s11_0 s11_1 s11_2 s11_3 s11_4 s11_5 s11_6 : AV) (Q : AHeap) : L_pleachlaw18_FeedTold_0 s t0 t4 t5 t6 t7 t8 t10 t14 s3_0 s3_1 s3_2 s3_3 s3_4 s3_5 s3_6 s11_0 s11_1 s11_2 s11_3 s11_4 s11_5 s11_6 Q = evalPK (callP (penv s)) (loopP (penv s)) c_pleachlaw18_FeedTold_0 [(0, .v t0), (3, .lp 3 0), (4, .v t4), (5, .v t5), (6, .v t6), (7, .v t7), (8, .v t8), (10, .v t10), (11, .lp 11 0), (14, .v t14)] [(3, .cells [s3_0, s3_1, s3_2, s3_3, s3_4, s3_5, s3_6]), (11, .cells [s11_0, s11_1, s11_2, s11_3, s11_4, s11_5, s11_6])] Q (goX (fun τ ω Q => loopP (penv s) c_pleachlaw18_FeedTold_0 τ ω Q) ret4) := loopP_body
abbrev X_pleachlaw18_FeedTold_0_x3 (t0 t4 t5 t6 t7 t10 s3_0 s3_1 s3_2 s3_3 s3_4 s3_5 s3_6 s11_0 s11_1 s11_2 s11_3 s11_4 s11_5 s11_6 : AV) (Q : AHeap) : Option PEnd := some (.exit 3, [(0, .v t0), (3, .lp 3 0), (4, .v t4), (5, .v t5), (6, .v t6), (7, .v t7), (10, .v t10), (11, .lp 11 0)], [(3, .cells [s3_0, s3_1, s3_2, s3_3, s3_4, s3_5, s3_6]), (11, .cells [s11_0, s11_1, s11_2, s11_3, s11_4, s11_5, s11_6])], Q)
theorem p_pleachlaw18_FeedTold_1 {β : Type} (call : CallF) (lp : PLoopF) (t0 t4 t5 t6 t7 t8 t9 t10 s3_0 s3_1 s3_2 s3_3 s3_4 s3_5 s3_6 s11_0 s11_1 s11_2 s11_3 s11_4 s11_5 s11_6 : AV) (Q : AHeap) (k : PK β) : evalPK call lp c_pleachlaw18_FeedTold_1 [(0, .v t0), (3, .lp 3 0), (4, .v t4), (5, .v t5), (6, .v t6), (7, .v t7), (8, .v t8), (9, .v t9), (10, .v t10), (11, .lp 11 0)] [(3, .cells [s3_0, s3_1, s3_2, s3_3, s3_4, s3_5, s3_6]), (11, .cells [s11_0, s11_1, s11_2, s11_3, s11_4, s11_5, s11_6])] Q k = (
  bnP (mlkA Q .i .nilm false t4 t8) fun w114_1 => 
  bnS (mupA Q .s w114_1 t9 (.bool true)) fun _ Q2 => 
  k .normal [(0, .v t0), (3, .lp 3 0), (4, .v t4), (5, .v t5), (6, .v t6), (7, .v t7), (10, .v t10), (11, .lp 11 0)] [(3, .cells [s3_0, s3_1, s3_2, s3_3, s3_4, s3_5, s3_6]), (11, .cells [s11_0, s11_1, s11_2, s11_3, s11_4, s11_5, s11_6])] Q2) := by kernel_rfl
theorem p_pleachlaw18_FeedTold_2 {β : Type} (call : CallF) (lp : PLoopF) (t0 t4 t5 t6 t7 t8 t9 t10 t101 s3_0 s3_1 s3_2 s3_3 s3_4 s3_5 s3_6 s11_0 s11_1 s11_2 s11_3 s11_4 s11_5 s11_6 : AV) (Q : AHeap) (k : PK β) : evalPK call lp c_pleachlaw18_FeedTold_2 [(0, .v t0), (3, .lp 3 0), (4, .v t4), (5, .v t5), (6, .v t6), (7, .v t7), (8, .v t8), (9, .v t9), (10, .v t10), (11, .lp 11 0), (101, .v t101)] [(3, .cells [s3_0, s3_1, s3_2, s3_3, s3_4, s3_5, s3_6]), (11, .cells [s11_0, s11_1, s11_2, s11_3, s11_4, s11_5, s11_6])] Q k = (
  cndS t101 (fun _ => bnX (bnP (mlkA Q .i .nilm false t4 t8) fun w107_1 => 
  bnP (eqnQ false 4 w107_1) fun w108_2 => 
  cndS w108_2 (fun _ => bnS (mupA (Q.push (some (.mapo []))) .i t4 t8 (.mp Q.size)) fun _ Q3 => 
  some (.normal, [(0, .v t0), (3, .lp 3 0), (4, .v t4), (5, .v t5), (6, .v t6), (7, .v t7), (8, .v t8), (9, .v t9), (10, .v t10), (11, .lp 11 0)], [(3, .cells [s3_0, s3_1, s3_2, s3_3, s3_4, s3_5, s3_6]), (11, .cells [s11_0, s11_1, s11_2, s11_3, s11_4, s11_5, s11_6])], Q3))
  (fun _ => some (.normal, [(0, .v t0), (3, .lp 3 0), (4, .v t4), (5, .v t5), (6, .v t6), (7, .v t7), (8, .v t8), (9, .v t9), (10, .v t10), (11, .lp 11 0)], [(3, .cells [s3_0, s3_1, s3_2, s3_3, s3_4, s3_5, s3_6]), (11, .cells [s11_0, s11_1, s11_2, s11_3, s11_4, s11_5, s11_6])], Q)))
  (goC (evalPK call lp c_pleachlaw18_FeedTold_1) (finC [] [] [0, 3, 4, 5, 6, 7, 10, 11] [(3, 3), (11, 11)] k)))
  (fun _ => k .normal [(0, .v t0), (3, .lp 3 0), (4, .v t4), (5, .v t5), (6, .v t6), (7, .v t7), (10, .v t10), (11, .lp 11 0)] [(3, .cells [s3_0, s3_1, s3_2, s3_3, s3_4, s3_5, s3_6]), (11, .cells [s11_0, s11_1, s11_2, s11_3, s11_4, s11_5, s11_6])] Q)) := by kernel_rfl
theorem p_pleachlaw18_FeedTold_3 {β : Type} (call : CallF) (lp : PLoopF) (t0 t4 t5 t6 t7 t10 t15 t17 s3_0 s3_1 s3_2 s3_3 s3_4 s3_5 s3_6 s11_0 s11_1 s11_2 s11_3 s11_4 s11_5 s11_6 s16_0 s16_1 s16_2 s16_3 s16_4 : AV) (Q : AHeap) (k : PK β) : evalPK call lp c_pleachlaw18_FeedTold_3 [(0, .v t0), (3, .lp 3 0), (4, .v t4), (5, .v t5), (6, .v t6), (7, .v t7), (10, .v t10), (11, .lp 11 0), (15, .v t15), (16, .lp 16 0), (17, .v t17)] [(3, .cells [s3_0, s3_1, s3_2, s3_3, s3_4, s3_5, s3_6]), (11, .cells [s11_0, s11_1, s11_2, s11_3, s11_4, s11_5, s11_6]), (16, .cells [s16_0, s16_1, s16_2, s16_3, s16_4])] Q k = (
  bnP (binA .leq t17 s16_2) fun w188_1 => 
  bnP (gdQ w188_1 true (some s16_0)) fun w191_2 => 
  bnP (gdQ w188_1 true (binA .eql w191_2 (.int .i64 2))) fun w192_3 => 
  bnP (pickA w188_1 w192_3 (.bool false)) fun w193_4 => 
  bnP (gdQ w193_4 true (some s16_4)) fun w196_5 => 
  bnP (gdQ w193_4 true (binA .eql w196_5 (.int .i64 1))) fun w197_6 => 
  bnP (pickA w193_4 w197_6 (.bool false)) fun w198_7 => 
  cndS w198_7 (fun _ => bnP (mlkA Q .i (.bool false) false t5 t17) fun w203_8 => 
  bnP (unA .not w203_8) fun w204_9 => 
  cndS w204_9 (fun _ => k .ret [(2, .v (.bool false))] [] Q)
  (fun _ => bnP (binA .add t17 (.int .i64 1)) fun w200_10 => 
  k .normal [(0, .v t0), (3, .lp 3 0), (4, .v t4), (5, .v t5), (6, .v t6), (7, .v t7), (10, .v t10), (11, .lp 11 0), (15, .v t15), (16, .lp 16 0), (17, .v w200_10)] [(3, .cells [s3_0, s3_1, s3_2, s3_3, s3_4, s3_5, s3_6]), (11, .cells [s11_0, s11_1, s11_2, s11_3, s11_4, s11_5, s11_6]), (16, .cells [s16_0, s16_1, s16_2, s16_3, s16_4])] Q))
  (fun _ => k (.exit 7) [(0, .v t0), (3, .lp 3 0), (4, .v t4), (5, .v t5), (6, .v t6), (7, .v t7), (10, .v t10), (11, .lp 11 0), (15, .v t15)] [(3, .cells [s3_0, s3_1, s3_2, s3_3, s3_4, s3_5, s3_6]), (11, .cells [s11_0, s11_1, s11_2, s11_3, s11_4, s11_5, s11_6])] Q)) := by kernel_rfl
noncomputable def L_pleachlaw18_FeedTold_3 (s : PSpecs) (t0 t4 t5 t6 t7 t10 t15 t17 s3_0 s3_1 s3_2 s3_3 s3_4 s3_5 s3_6 s11_0 s11_1 s11_2 s11_3 s11_4 s11_5 s11_6 s16_0 s16_1 s16_2 s16_3 s16_4 : AV) (Q : AHeap) : Option PEnd := loopP (penv s) c_pleachlaw18_FeedTold_3 [(0, .v t0), (3, .lp 3 0), (4, .v t4), (5, .v t5), (6, .v t6), (7, .v t7), (10, .v t10), (11, .lp 11 0), (15, .v t15), (16, .lp 16 0), (17, .v t17)] [(3, .cells [s3_0, s3_1, s3_2, s3_3, s3_4, s3_5, s3_6]), (11, .cells [s11_0, s11_1, s11_2, s11_3, s11_4, s11_5, s11_6]), (16, .cells [s16_0, s16_1, s16_2, s16_3, s16_4])] Q
theorem L_pleachlaw18_FeedTold_3_fold (s : PSpecs) (t0 t4 t5 t6 t7 t10 t15 t17 s3_0 s3_1 s3_2 s3_3 s3_4 s3_5 s3_6 s11_0 s11_1 s11_2 s11_3 s11_4 s11_5 s11_6 s16_0 s16_1 s16_2 s16_3 s16_4 : AV) (Q : AHeap) : loopP (penv s) c_pleachlaw18_FeedTold_3 [(0, .v t0), (3, .lp 3 0), (4, .v t4), (5, .v t5), (6, .v t6), (7, .v t7), (10, .v t10), (11, .lp 11 0), (15, .v t15), (16, .lp 16 0), (17, .v t17)] [(3, .cells [s3_0, s3_1, s3_2, s3_3, s3_4, s3_5, s3_6]), (11, .cells [s11_0, s11_1, s11_2, s11_3, s11_4, s11_5, s11_6]), (16, .cells [s16_0, s16_1, s16_2, s16_3, s16_4])] Q = L_pleachlaw18_FeedTold_3 s t0 t4 t5 t6 t7 t10 t15 t17 s3_0 s3_1 s3_2 s3_3 s3_4 s3_5 s3_6 s11_0 s11_1 s11_2 s11_3 s11_4 s11_5 s11_6 s16_0 s16_1 s16_2 s16_3 s16_4 Q := rfl
theorem L_pleachlaw18_FeedTold_3_eq (s : PSpecs) (t0 t4 t5 t6 t7 t10 t15 t17 s3_0 s3_1 s3_2 s3_3 s3_4 s3_5 s3_6 s11_0 s11_1 s11_2 s11_3 s11_4 s11_5 s11_6 s16_0 s16_1 s16_2 s16_3 s16_4 : AV) (Q : AHeap) : L_pleachlaw18_FeedTold_3 s t0 t4 t5 t6 t7 t10 t15 t17 s3_0 s3_1 s3_2 s3_3 s3_4 s3_5 s3_6 s11_0 s11_1 s11_2 s11_3 s11_4 s11_5 s11_6 s16_0 s16_1 s16_2 s16_3 s16_4 Q = evalPK (callP (penv s)) (loopP (penv s)) c_pleachlaw18_FeedTold_3 [(0, .v t0), (3, .lp 3 0), (4, .v t4), (5, .v t5), (6, .v t6), (7, .v t7), (10, .v t10), (11, .lp 11 0), (15, .v t15), (16, .lp 16 0), (17, .v t17)] [(3, .cells [s3_0, s3_1, s3_2, s3_3, s3_4, s3_5, s3_6]), (11, .cells [s11_0, s11_1, s11_2, s11_3, s11_4, s11_5, s11_6]), (16, .cells [s16_0, s16_1, s16_2, s16_3, s16_4])] Q (goX (fun τ ω Q => loopP (penv s) c_pleachlaw18_FeedTold_3 τ ω Q) ret4) := loopP_body
abbrev X_pleachlaw18_FeedTold_3_x7 (t0 t4 t5 t6 t7 t10 t15 s3_0 s3_1 s3_2 s3_3 s3_4 s3_5 s3_6 s11_0 s11_1 s11_2 s11_3 s11_4 s11_5 s11_6 : AV) (Q : AHeap) : Option PEnd := some (.exit 7, [(0, .v t0), (3, .lp 3 0), (4, .v t4), (5, .v t5), (6, .v t6), (7, .v t7), (10, .v t10), (11, .lp 11 0), (15, .v t15)], [(3, .cells [s3_0, s3_1, s3_2, s3_3, s3_4, s3_5, s3_6]), (11, .cells [s11_0, s11_1, s11_2, s11_3, s11_4, s11_5, s11_6])], Q)
theorem p_pleachlaw18_FeedTold_4 {β : Type} (call : CallF) (lp : PLoopF) (t0 t4 t5 t6 t7 t10 t15 s3_0 s3_1 s3_2 s3_3 s3_4 s3_5 s3_6 s11_0 s11_1 s11_2 s11_3 s11_4 s11_5 s11_6 : AV) (Q : AHeap) (k : PK β) : evalPK call lp c_pleachlaw18_FeedTold_4 [(0, .v t0), (3, .lp 3 0), (4, .v t4), (5, .v t5), (6, .v t6), (7, .v t7), (10, .v t10), (11, .lp 11 0), (15, .v t15)] [(3, .cells [s3_0, s3_1, s3_2, s3_3, s3_4, s3_5, s3_6]), (11, .cells [s11_0, s11_1, s11_2, s11_3, s11_4, s11_5, s11_6])] Q k = (
  bnP (binA .add t15 (.int .i64 1)) fun w132_1 => 
  k .normal [(0, .v t0), (3, .lp 3 0), (4, .v t4), (5, .v t5), (6, .v t6), (7, .v t7), (10, .v t10), (11, .lp 11 0), (15, .v w132_1)] [(3, .cells [s3_0, s3_1, s3_2, s3_3, s3_4, s3_5, s3_6]), (11, .cells [s11_0, s11_1, s11_2, s11_3, s11_4, s11_5, s11_6])] Q) := by kernel_rfl
theorem p_pleachlaw18_FeedTold_5 {β : Type} (call : CallF) (lp : PLoopF) (t0 t4 t5 t6 t7 t10 t15 s3_0 s3_1 s3_2 s3_3 s3_4 s3_5 s3_6 s11_0 s11_1 s11_2 s11_3 s11_4 s11_5 s11_6 : AV) (Q : AHeap) (k : PK β) : evalPK call lp c_pleachlaw18_FeedTold_5 [(0, .v t0), (3, .lp 3 0), (4, .v t4), (5, .v t5), (6, .v t6), (7, .v t7), (10, .v t10), (11, .lp 11 0), (15, .v t15)] [(3, .cells [s3_0, s3_1, s3_2, s3_3, s3_4, s3_5, s3_6]), (11, .cells [s11_0, s11_1, s11_2, s11_3, s11_4, s11_5, s11_6])] Q k = (
  bnP (lenQ s11_4) fun w129_1 => 
  bnP (binA .lss t15 w129_1) fun w130_2 => 
  cndS w130_2 (fun _ => bnP (elQ 5 s11_4 t15) fun e3 => 
  bnC 5 (cut (AV.cells e3) 0 5) fun c137_4 c137_5 c137_6 c137_7 c137_8 => 
  bnC 5 (stC 5 (.agg [c137_4, c137_5, c137_6, c137_7, c137_8])) fun s9 s10 s11 s12 s13 => 
  bnP (binA .eql s9 (.int .i64 1)) fun w140_14 => 
  bnP (gdQ w140_14 true (some t4)) fun w142_15 => 
  bnP (gdQ w140_14 true (some s10)) fun w144_16 => 
  bnP (gdQ w140_14 true (mlkA Q .i .nilm false w142_15 w144_16)) fun w145_17 => 
  bnP (gdQ w140_14 true (some s12)) fun w147_18 => 
  bnP (gdQ w140_14 true (mlkA Q .s (.bool false) false w145_17 w147_18)) fun w148_19 => 
  bnP (gdQ w140_14 true (unA .not w148_19)) fun w149_20 => 
  bnP (pickA w140_14 w149_20 (.bool false)) fun w150_21 => 
  bnP (gdQ w150_21 false (some s9)) fun w153_22 => 
  bnP (gdQ w150_21 false (binA .eql w153_22 (.int .i64 2))) fun w154_23 => 
  bnP (gdQ w150_21 false (some w154_23)) fun w155_24 => 
  bnP (gdQ w155_24 true (some s13)) fun w157_25 => 
  bnP (gdQ w155_24 true (binA .eql w157_25 (.int .i64 2))) fun w158_26 => 
  bnP (gdQ w150_21 false (pickA w155_24 w158_26 (.bool false))) fun w159_27 => 
  bnP (gdQ w150_21 false (some w159_27)) fun w160_28 => 
  bnP (gdQ w160_28 true (some t10)) fun w161_29 => 
  bnP (gdQ w160_28 true (binA .lss w161_29 (.int .i64 3))) fun w162_30 => 
  bnP (gdQ w160_28 true (some w162_30)) fun w163_31 => 
  bnP (gdQ w163_31 false (some t0)) fun w164_32 => 
  bnP (gdQ w163_31 false (some t7)) fun w165_33 => 
  bnP (gdQ w163_31 false (elQ 3 w164_32 w165_33)) fun e34 => 
  bnN (gdN w163_31 false (idxN 3 (.int .i64 0))) fun i35 => 
  bnP (gdQ w163_31 false ((AV.cells e34)[(0 + i35 * 1)]?)) fun w168_36 => 
  bnP (gdQ w163_31 false (binA .rem w168_36 (.int .u8 8))) fun w169_37 => 
  bnP (gdQ w163_31 false (binA .neq w169_37 (.int .u8 3))) fun w170_38 => 
  bnP (gdQ w163_31 false (some w170_38)) fun w171_39 => 
  bnP (gdQ w171_39 true (some t0)) fun w172_40 => 
  bnP (gdQ w171_39 true (some t7)) fun w173_41 => 
  bnP (gdQ w171_39 true (elQ 3 w172_40 w173_41)) fun e42 => 
  bnN (gdN w171_39 true (idxN 3 (.int .i64 0))) fun i43 => 
  bnP (gdQ w171_39 true ((AV.cells e42)[(0 + i43 * 1)]?)) fun w176_44 => 
  bnP (gdQ w171_39 true (binA .rem w176_44 (.int .u8 8))) fun w177_45 => 
  bnP (gdQ w171_39 true (binA .neq w177_45 (.int .u8 4))) fun w178_46 => 
  bnP (gdQ w163_31 false (pickA w171_39 w178_46 (.bool false))) fun w179_47 => 
  bnP (gdQ w160_28 true (pickA w163_31 (.bool true) w179_47)) fun w180_48 => 
  bnP (gdQ w150_21 false (pickA w160_28 w180_48 (.bool false))) fun w181_49 => 
  bnP (pickA w150_21 (.bool true) w181_49) fun w182_50 => 
  cndS w182_50 (fun _ => k .ret [(2, .v (.bool false))] [] Q)
  (fun _ => bnX (lp c_pleachlaw18_FeedTold_3 [(0, .v t0), (3, .lp 3 0), (4, .v t4), (5, .v t5), (6, .v t6), (7, .v t7), (10, .v t10), (11, .lp 11 0), (15, .v t15), (16, .lp 16 0), (17, .v s10)] [(3, .cells [s3_0, s3_1, s3_2, s3_3, s3_4, s3_5, s3_6]), (11, .cells [s11_0, s11_1, s11_2, s11_3, s11_4, s11_5, s11_6]), (16, .cells [s9, s10, s11, s12, s13])] Q) (outX 7 (finC [] [] [0, 3, 4, 5, 6, 7, 10, 11, 15] [(3, 3), (11, 11)] (outX 6 (goC (evalPK call lp c_pleachlaw18_FeedTold_4) k))))))
  (fun _ => k (.exit 5) [(0, .v t0), (3, .lp 3 0), (4, .v t4), (5, .v t5), (6, .v t6), (7, .v t7), (11, .lp 11 0)] [(3, .cells [s3_0, s3_1, s3_2, s3_3, s3_4, s3_5, s3_6]), (11, .cells [s11_0, s11_1, s11_2, s11_3, s11_4, s11_5, s11_6])] Q)) := by kernel_rfl
noncomputable def L_pleachlaw18_FeedTold_5 (s : PSpecs) (t0 t4 t5 t6 t7 t10 t15 s3_0 s3_1 s3_2 s3_3 s3_4 s3_5 s3_6 s11_0 s11_1 s11_2 s11_3 s11_4 s11_5 s11_6 : AV) (Q : AHeap) : Option PEnd := loopP (penv s) c_pleachlaw18_FeedTold_5 [(0, .v t0), (3, .lp 3 0), (4, .v t4), (5, .v t5), (6, .v t6), (7, .v t7), (10, .v t10), (11, .lp 11 0), (15, .v t15)] [(3, .cells [s3_0, s3_1, s3_2, s3_3, s3_4, s3_5, s3_6]), (11, .cells [s11_0, s11_1, s11_2, s11_3, s11_4, s11_5, s11_6])] Q
theorem L_pleachlaw18_FeedTold_5_fold (s : PSpecs) (t0 t4 t5 t6 t7 t10 t15 s3_0 s3_1 s3_2 s3_3 s3_4 s3_5 s3_6 s11_0 s11_1 s11_2 s11_3 s11_4 s11_5 s11_6 : AV) (Q : AHeap) : loopP (penv s) c_pleachlaw18_FeedTold_5 [(0, .v t0), (3, .lp 3 0), (4, .v t4), (5, .v t5), (6, .v t6), (7, .v t7), (10, .v t10), (11, .lp 11 0), (15, .v t15)] [(3, .cells [s3_0, s3_1, s3_2, s3_3, s3_4, s3_5, s3_6]), (11, .cells [s11_0, s11_1, s11_2, s11_3, s11_4, s11_5, s11_6])] Q = L_pleachlaw18_FeedTold_5 s t0 t4 t5 t6 t7 t10 t15 s3_0 s3_1 s3_2 s3_3 s3_4 s3_5 s3_6 s11_0 s11_1 s11_2 s11_3 s11_4 s11_5 s11_6 Q := rfl
theorem L_pleachlaw18_FeedTold_5_eq (s : PSpecs) (t0 t4 t5 t6 t7 t10 t15 s3_0 s3_1 s3_2 s3_3 s3_4 s3_5 s3_6 s11_0 s11_1 s11_2 s11_3 s11_4 s11_5 s11_6 : AV) (Q : AHeap) : L_pleachlaw18_FeedTold_5 s t0 t4 t5 t6 t7 t10 t15 s3_0 s3_1 s3_2 s3_3 s3_4 s3_5 s3_6 s11_0 s11_1 s11_2 s11_3 s11_4 s11_5 s11_6 Q = evalPK (callP (penv s)) (loopP (penv s)) c_pleachlaw18_FeedTold_5 [(0, .v t0), (3, .lp 3 0), (4, .v t4), (5, .v t5), (6, .v t6), (7, .v t7), (10, .v t10), (11, .lp 11 0), (15, .v t15)] [(3, .cells [s3_0, s3_1, s3_2, s3_3, s3_4, s3_5, s3_6]), (11, .cells [s11_0, s11_1, s11_2, s11_3, s11_4, s11_5, s11_6])] Q (goX (fun τ ω Q => loopP (penv s) c_pleachlaw18_FeedTold_5 τ ω Q) ret4) := loopP_body
abbrev X_pleachlaw18_FeedTold_5_x5 (t0 t4 t5 t6 t7 s3_0 s3_1 s3_2 s3_3 s3_4 s3_5 s3_6 s11_0 s11_1 s11_2 s11_3 s11_4 s11_5 s11_6 : AV) (Q : AHeap) : Option PEnd := some (.exit 5, [(0, .v t0), (3, .lp 3 0), (4, .v t4), (5, .v t5), (6, .v t6), (7, .v t7), (11, .lp 11 0)], [(3, .cells [s3_0, s3_1, s3_2, s3_3, s3_4, s3_5, s3_6]), (11, .cells [s11_0, s11_1, s11_2, s11_3, s11_4, s11_5, s11_6])], Q)
theorem p_pleachlaw18_FeedTold_6 {β : Type} (call : CallF) (lp : PLoopF) (t0 t4 t5 t6 t7 s3_0 s3_1 s3_2 s3_3 s3_4 s3_5 s3_6 s11_0 s11_1 s11_2 s11_3 s11_4 s11_5 s11_6 : AV) (Q : AHeap) (k : PK β) : evalPK call lp c_pleachlaw18_FeedTold_6 [(0, .v t0), (3, .lp 3 0), (4, .v t4), (5, .v t5), (6, .v t6), (7, .v t7), (11, .lp 11 0)] [(3, .cells [s3_0, s3_1, s3_2, s3_3, s3_4, s3_5, s3_6]), (11, .cells [s11_0, s11_1, s11_2, s11_3, s11_4, s11_5, s11_6])] Q k = (
  bnC 7 (stC 7 (.agg [s11_0, s11_1, s11_2, s11_3, s11_4, s11_5, s11_6])) fun s1 s2 s3 s4 s5 s6 s7 => 
  k .normal [(0, .v t0), (3, .lp 3 0), (4, .v t4), (5, .v t5), (6, .v t6), (7, .v t7)] [(3, .cells [s1, s2, s3, s4, s5, s6, s7])] Q) := by kernel_rfl
theorem p_pleachlaw18_FeedTold_7 {β : Type} (call : CallF) (lp : PLoopF) (t0 t4 t5 t6 t7 t10 s3_0 s3_1 s3_2 s3_3 s3_4 s3_5 s3_6 s11_0 s11_1 s11_2 s11_3 s11_4 s11_5 s11_6 : AV) (Q : AHeap) (k : PK β) : evalPK call lp c_pleachlaw18_FeedTold_7 [(0, .v t0), (3, .lp 3 0), (4, .v t4), (5, .v t5), (6, .v t6), (7, .v t7), (10, .v t10), (11, .lp 11 0)] [(3, .cells [s3_0, s3_1, s3_2, s3_3, s3_4, s3_5, s3_6]), (11, .cells [s11_0, s11_1, s11_2, s11_3, s11_4, s11_5, s11_6])] Q k = (
  bnP (lenQ s11_4) fun w118_1 => 
  bnP (lenQ s3_4) fun w121_2 => 
  bnP (binA .lss w118_1 w121_2) fun w122_3 => 
  cndS w122_3 (fun _ => k .ret [(2, .v (.bool false))] [] Q)
  (fun _ => bnP (lenQ s3_4) fun w125_4 => 
  bnX (lp c_pleachlaw18_FeedTold_5 [(0, .v t0), (3, .lp 3 0), (4, .v t4), (5, .v t5), (6, .v t6), (7, .v t7), (10, .v t10), (11, .lp 11 0), (15, .v w125_4)] [(3, .cells [s3_0, s3_1, s3_2, s3_3, s3_4, s3_5, s3_6]), (11, .cells [s11_0, s11_1, s11_2, s11_3, s11_4, s11_5, s11_6])] Q) (outX 5 (goC (evalPK call lp c_pleachlaw18_FeedTold_6) k)))) := by kernel_rfl
theorem p_pleachlaw18_FeedTold_8 {β : Type} (call : CallF) (lp : PLoopF) (t0 t4 t5 t6 t7 s3_0 s3_1 s3_2 s3_3 s3_4 s3_5 s3_6 : AV) (Q : AHeap) (k : PK β) : evalPK call lp c_pleachlaw18_FeedTold_8 [(0, .v t0), (3, .lp 3 0), (4, .v t4), (5, .v t5), (6, .v t6), (7, .v t7)] [(3, .cells [s3_0, s3_1, s3_2, s3_3, s3_4, s3_5, s3_6])] Q k = (
  bnP (binA .add t7 (.int .i64 1)) fun w31_1 => 
  k .normal [(0, .v t0), (3, .lp 3 0), (4, .v t4), (5, .v t5), (6, .v t6), (7, .v w31_1)] [(3, .cells [s3_0, s3_1, s3_2, s3_3, s3_4, s3_5, s3_6])] Q) := by kernel_rfl
theorem p_pleachlaw18_FeedTold_9 {β : Type} (call : CallF) (lp : PLoopF) (t0 t4 t5 t6 t7 s3_0 s3_1 s3_2 s3_3 s3_4 s3_5 s3_6 : AV) (Q : AHeap) (k : PK β) : evalPK call lp c_pleachlaw18_FeedTold_9 [(0, .v t0), (3, .lp 3 0), (4, .v t4), (5, .v t5), (6, .v t6), (7, .v t7)] [(3, .cells [s3_0, s3_1, s3_2, s3_3, s3_4, s3_5, s3_6])] Q k = (
  bnP (lenQ t0) fun w28_1 => 
  bnP (binA .lss t7 w28_1) fun w29_2 => 
  cndS w29_2 (fun _ => bnX (bnX (bnP (elQ 3 t0 t7) fun e3 => 
  bnN (idxN 3 (.int .i64 2)) fun i4 => 
  bnP ((AV.cells e3)[(0 + i4 * 1)]?) fun w37_5 => 
  bnP (binA .rem w37_5 (.int .u8 4)) fun w38_6 => 
  bnP (cviA .i64 w38_6) fun w39_7 => 
  bnP (binA .add t6 w39_7) fun w40_8 => 
  bnP (binA .sub s3_0 (.int .i64 2)) fun w43_9 => 
  bnP (elQ 3 t0 t7) fun e10 => 
  bnN (idxN 3 (.int .i64 1)) fun i11 => 
  bnP ((AV.cells e10)[(0 + i11 * 1)]?) fun w48_12 => 
  bnP (binA .rem w48_12 (.int .u8 12)) fun w49_13 => 
  bnP (cviA .i64 w49_13) fun w50_14 => 
  bnP (binA .add w43_9 w50_14) fun w51_15 => 
  bnP (mxiA [.int .i64 1, w51_15]) fun w52_16 => 
  bnP (elQ 3 t0 t7) fun e17 => 
  bnN (idxN 3 (.int .i64 2)) fun i18 => 
  bnP ((AV.cells e17)[(0 + i18 * 1)]?) fun w58_19 => 
  bnP (binA .rem w58_19 (.int .u8 5)) fun w59_20 => 
  bnP (elQ 1 (.fz 1 [.str [], .str [97], .str [98, 99], .str [104, 101, 108, 108, 111], .str [116, 104, 105, 114, 116, 101, 101, 110, 32, 98, 121, 116, 101]]) w59_20) fun e21 => 
  bnP ((AV.cells e21)[0]?) fun w61_22 => 
  bnP (elQ 3 t0 t7) fun e23 => 
  bnC 3 (cut (AV.cells e23) 0 3) fun c71_24 c71_25 c71_26 => 
  bnS (call 14 [.agg [s3_0, s3_1, s3_2, s3_3, s3_4, s3_5, s3_6], .agg [s3_0, s3_1, s3_2, s3_3, s3_4, s3_5, s3_6], .agg [c71_24, c71_25, c71_26], w40_8] Q) fun w73_27 Q28 => 
  bnP (extA (frz w73_27) 0) fun w74_29 => 
  bnP (extA (frz w73_27) 1) fun w75_30 => 
  bnP (extA (frz w73_27) 2) fun w76_31 => 
  bnC 7 (stC 7 w74_29) fun s32 s33 s34 s35 s36 s37 s38 => 
  bnC 7 (stC 7 w75_30) fun s39 s40 s41 s42 s43 s44 s45 => 
  bnX (bnP (elQ 3 t0 t7) fun e46 => 
  bnN (idxN 3 (.int .i64 0)) fun i47 => 
  bnP ((AV.cells e46)[(0 + i47 * 1)]?) fun w81_48 => 
  bnP (binA .rem w81_48 (.int .u8 8)) fun w82_49 => 
  bnX (bnP (binA .eql w82_49 (.int .u8 1)) fun w84_50 => 
  cndS w84_50 (fun _ => bnX (lp c_pleachlaw18_FeedTold_0 [(0, .v t0), (3, .lp 3 0), (4, .v t4), (5, .v t5), (6, .v w40_8), (7, .v t7), (8, .v w52_16), (10, .v s3_5), (11, .lp 11 0), (14, .v w52_16)] [(3, .cells [s3_0, s3_1, s3_2, s3_3, s3_4, s3_5, s3_6]), (11, .cells [s32, s33, s34, s35, s36, s37, s38])] Q28) (outX 3 (finC [] [] [0, 3, 4, 5, 6, 7, 10, 11] [(3, 3), (11, 11)] (finC [] [] [0, 3, 4, 5, 6, 7, 10, 11] [(3, 3), (11, 11)] ret4))))
  (fun _ => bnX (bnP (binA .eql w82_49 (.int .u8 5)) fun w102_51 => 
  cndS w102_51 (fun _ => some (.normal, [(0, .v t0), (3, .lp 3 0), (4, .v t4), (5, .v t5), (6, .v w40_8), (7, .v t7), (8, .v w52_16), (9, .v w61_22), (10, .v s3_5), (11, .lp 11 0), (101, .v w102_51)], [(3, .cells [s3_0, s3_1, s3_2, s3_3, s3_4, s3_5, s3_6]), (11, .cells [s32, s33, s34, s35, s36, s37, s38])], Q28))
  (fun _ => bnP (binA .eql w82_49 (.int .u8 6)) fun w103_52 => 
  cndS w103_52 (fun _ => some (.normal, [(0, .v t0), (3, .lp 3 0), (4, .v t4), (5, .v t5), (6, .v w40_8), (7, .v t7), (8, .v w52_16), (9, .v w61_22), (10, .v s3_5), (11, .lp 11 0), (101, .v w103_52)], [(3, .cells [s3_0, s3_1, s3_2, s3_3, s3_4, s3_5, s3_6]), (11, .cells [s32, s33, s34, s35, s36, s37, s38])], Q28))
  (fun _ => bnP (binA .eql w82_49 (.int .u8 7)) fun w104_53 => 
  some (.normal, [(0, .v t0), (3, .lp 3 0), (4, .v t4), (5, .v t5), (6, .v w40_8), (7, .v t7), (8, .v w52_16), (9, .v w61_22), (10, .v s3_5), (11, .lp 11 0), (101, .v w104_53)], [(3, .cells [s3_0, s3_1, s3_2, s3_3, s3_4, s3_5, s3_6]), (11, .cells [s32, s33, s34, s35, s36, s37, s38])], Q28))))
  (goC (evalPK call lp c_pleachlaw18_FeedTold_2) (finC [] [] [0, 3, 4, 5, 6, 7, 10, 11] [(3, 3), (11, 11)] ret4))))
  (outX 2 ret4))
  (goC (evalPK call lp c_pleachlaw18_FeedTold_7) ret4))
  (outX 1 ret4))
  (goC (evalPK call lp c_pleachlaw18_FeedTold_8) k))
  (fun _ => k (.exit 0) [] [] Q)) := by kernel_rfl
noncomputable def L_pleachlaw18_FeedTold_9 (s : PSpecs) (t0 t4 t5 t6 t7 s3_0 s3_1 s3_2 s3_3 s3_4 s3_5 s3_6 : AV) (Q : AHeap) : Option PEnd := loopP (penv s) c_pleachlaw18_FeedTold_9 [(0, .v t0), (3, .lp 3 0), (4, .v t4), (5, .v t5), (6, .v t6), (7, .v t7)] [(3, .cells [s3_0, s3_1, s3_2, s3_3, s3_4, s3_5, s3_6])] Q
theorem L_pleachlaw18_FeedTold_9_fold (s : PSpecs) (t0 t4 t5 t6 t7 s3_0 s3_1 s3_2 s3_3 s3_4 s3_5 s3_6 : AV) (Q : AHeap) : loopP (penv s) c_pleachlaw18_FeedTold_9 [(0, .v t0), (3, .lp 3 0), (4, .v t4), (5, .v t5), (6, .v t6), (7, .v t7)] [(3, .cells [s3_0, s3_1, s3_2, s3_3, s3_4, s3_5, s3_6])] Q = L_pleachlaw18_FeedTold_9 s t0 t4 t5 t6 t7 s3_0 s3_1 s3_2 s3_3 s3_4 s3_5 s3_6 Q := rfl
theorem L_pleachlaw18_FeedTold_9_eq (s : PSpecs) (t0 t4 t5 t6 t7 s3_0 s3_1 s3_2 s3_3 s3_4 s3_5 s3_6 : AV) (Q : AHeap) : L_pleachlaw18_FeedTold_9 s t0 t4 t5 t6 t7 s3_0 s3_1 s3_2 s3_3 s3_4 s3_5 s3_6 Q = evalPK (callP (penv s)) (loopP (penv s)) c_pleachlaw18_FeedTold_9 [(0, .v t0), (3, .lp 3 0), (4, .v t4), (5, .v t5), (6, .v t6), (7, .v t7)] [(3, .cells [s3_0, s3_1, s3_2, s3_3, s3_4, s3_5, s3_6])] Q (goX (fun τ ω Q => loopP (penv s) c_pleachlaw18_FeedTold_9 τ ω Q) ret4) := loopP_body
abbrev X_pleachlaw18_FeedTold_9_x0 (Q : AHeap) : Option PEnd := some (.exit 0, [], [], Q)
theorem p_pleachlaw18_FeedTold_10 {β : Type} (call : CallF) (lp : PLoopF) (Q : AHeap) (k : PK β) : evalPK call lp c_pleachlaw18_FeedTold_10 [] [] Q k = (
  k .ret [(2, .v (.bool true))] [] Q) := by kernel_rfl
theorem g_pleachlaw18_FeedTold {call : CallF} {lp : PLoopF} (v0 : AV) (Q : AHeap) : evalPK call lp c_pleachlaw18_FeedTold [(0, .v v0)] [] Q (retPK [.tmp 2] [.n]) = (
  bnS (call 13 [] Q) fun w18_1 Q2 => 
  bnP (unA .not (frz w18_1)) fun w19_3 => 
  cndS w19_3 (fun _ => some (.bool false, Q2))
  (fun _ => bnP (lenQ v0) fun w21_4 => 
  bnP (binA .gtr w21_4 (.int .i64 80)) fun w22_5 => 
  cndS w22_5 (fun _ => some (.bool true, Q2))
  (fun _ => bnX (lp c_pleachlaw18_FeedTold_9 [(0, .v v0), (3, .lp 3 0), (4, .v (.mp Q2.size)), (5, .v (.mp (Q2.push (some (.mapo []))).size)), (6, .v (.int .i64 0)), (7, .v (.int .i64 0))] [(3, .cells [.int .i64 0, .int .i64 0, .nils, .nils, .nils, .int .i64 0, .int .i64 0])] ((Q2.push (some (.mapo []))).push (some (.mapo [])))) (outX 0 (goC (evalPK call lp c_pleachlaw18_FeedTold_10) (retPK [.tmp 2] [.n])))))) := by kernel_rfl
def f_pleachlaw18_FeedTold {s : PSpecs} (hs : s.lookup 6 = none) (v0 : AV) (Q : AHeap) := (callP_fn (E := penv s) (f := 6) (fn := pf_pleachlaw18_FeedTold) hs rfl [v0] Q rfl).trans (g_pleachlaw18_FeedTold (call := callP (penv s)) (lp := loopP (penv s)) v0 Q)
theorem p_pleachlaw18_deed_0 {β : Type} (call : CallF) (lp : PLoopF) (t3 t11 t12 t74 s4_0 s4_1 s4_2 s4_3 s4_4 s4_5 s4_6 s5_0 s5_1 s5_2 s5_3 s5_4 s5_5 s5_6 s8_0 s8_1 s8_2 s8_3 s8_4 s8_5 s8_6 s9_0 s9_1 s9_2 s9_3 s9_4 s9_5 s9_6 : AV) (Q : AHeap) (k : PK β) : evalPK call lp c_pleachlaw18_deed_0 [(3, .v t3), (4, .lp 4 0), (5, .lp 5 0), (8, .lp 8 0), (9, .lp 9 0), (11, .v t11), (12, .v t12), (74, .v t74)] [(4, .cells [s4_0, s4_1, s4_2, s4_3, s4_4, s4_5, s4_6]), (5, .cells [s5_0, s5_1, s5_2, s5_3, s5_4, s5_5, s5_6]), (8, .cells [s8_0, s8_1, s8_2, s8_3, s8_4, s8_5, s8_6]), (9, .cells [s9_0, s9_1, s9_2, s9_3, s9_4, s9_5, s9_6])] Q k = (
  cndS t74 (fun _ => bnS (call 32 [.agg [s4_0, s4_1, s4_2, s4_3, s4_4, s4_5, s4_6], t3] Q) fun w80_1 Q2 => 
  bnP (extA (frz w80_1) 0) fun w81_3 => 
  bnP (extA (frz w80_1) 1) fun w82_4 => 
  bnP (extA (frz w80_1) 2) fun w83_5 => 
  bnC 7 (stC 7 w81_3) fun s6 s7 s8 s9 s10 s11 s12 => 
  bnC 2 (stC 2 w82_4) fun s13 s14 => 
  bnS (call 34 [.agg [s5_0, s5_1, s5_2, s5_3, s5_4, s5_5, s5_6], t3] Q2) fun w87_15 Q16 => 
  bnP (extA (frz w87_15) 0) fun w88_17 => 
  bnP (extA (frz w87_15) 1) fun w89_18 => 
  bnP (extA (frz w87_15) 2) fun w90_19 => 
  bnC 7 (stC 7 w88_17) fun s20 s21 s22 s23 s24 s25 s26 => 
  bnC 2 (stC 2 w89_18) fun s27 s28 => 
  bnP (eqsA false (.st [(0, 1, .i), (1, 1, .i)]) (.agg [s13, s14]) (.agg [s27, s28])) fun w95_29 => 
  bnP (gdQ w95_29 true (some w83_5)) fun w97_30 => 
  bnP (gdQ w95_29 true (some w90_19)) fun w98_31 => 
  bnP (gdQ w95_29 true (eqsA false .b w97_30 w98_31)) fun w99_32 => 
  bnP (pickA w95_29 w99_32 (.bool false)) fun w100_33 => 
  bnC 7 (stC 7 (.agg [s6, s7, s8, s9, s10, s11, s12])) fun s34 s35 s36 s37 s38 s39 s40 => 
  bnC 7 (stC 7 (.agg [s20, s21, s22, s23, s24, s25, s26])) fun s41 s42 s43 s44 s45 s46 s47 => 
  k .ret [(8, .lp 8 0), (9, .lp 9 0), (10, .v w100_33)] [(8, .cells [s34, s35, s36, s37, s38, s39, s40]), (9, .cells [s41, s42, s43, s44, s45, s46, s47])] Q16)
  (fun _ => k .normal [(3, .v t3), (4, .lp 4 0), (5, .lp 5 0), (8, .lp 8 0), (9, .lp 9 0), (11, .v t11), (12, .v t12), (74, .v t74)] [(4, .cells [s4_0, s4_1, s4_2, s4_3, s4_4, s4_5, s4_6]), (5, .cells [s5_0, s5_1, s5_2, s5_3, s5_4, s5_5, s5_6]), (8, .cells [s8_0, s8_1, s8_2, s8_3, s8_4, s8_5, s8_6]), (9, .cells [s9_0, s9_1, s9_2, s9_3, s9_4, s9_5, s9_6])] Q)) := by kernel_rfl
theorem p_pleachlaw18_deed_1 {β : Type} (call : CallF) (lp : PLoopF) (t11 t12 s4_0 s4_1 s4_2 s4_3 s4_4 s4_5 s4_6 s5_0 s5_1 s5_2 s5_3 s5_4 s5_5 s5_6 s8_0 s8_1 s8_2 s8_3 s8_4 s8_5 s8_6 s9_0 s9_1 s9_2 s9_3 s9_4 s9_5 s9_6 : AV) (Q : AHeap) (k : PK β) : evalPK call lp c_pleachlaw18_deed_1 [(4, .lp 4 0), (5, .lp 5 0), (8, .lp 8 0), (9, .lp 9 0), (11, .v t11), (12, .v t12)] [(4, .cells [s4_0, s4_1, s4_2, s4_3, s4_4, s4_5, s4_6]), (5, .cells [s5_0, s5_1, s5_2, s5_3, s5_4, s5_5, s5_6]), (8, .cells [s8_0, s8_1, s8_2, s8_3, s8_4, s8_5, s8_6]), (9, .cells [s9_0, s9_1, s9_2, s9_3, s9_4, s9_5, s9_6])] Q k = (
  bnC 2 (fillP [.int .i64 0, .str []] [(0, 1, t11), (1, 1, t12)]) fun c103_1 c103_2 => 
  bnC 2 (stC 2 (.agg [c103_1, c103_2])) fun s3 s4 => 
  bnS (call 24 [.agg [s4_0, s4_1, s4_2, s4_3, s4_4, s4_5, s4_6], .agg [s3, s4]] Q) fun w106_5 Q6 => 
  bnS (call 25 [.agg [s5_0, s5_1, s5_2, s5_3, s5_4, s5_5, s5_6], .agg [s3, s4]] Q6) fun w109_7 Q8 => 
  bnC 7 (stC 7 (frz w106_5)) fun s9 s10 s11 s12 s13 s14 s15 => 
  bnC 7 (stC 7 (frz w109_7)) fun s16 s17 s18 s19 s20 s21 s22 => 
  k .ret [(10, .v (.bool true)), (109, .v (frz w109_7)), (106, .v (frz w106_5)), (108, .v (.agg [s3, s4])), (107, .v (.agg [s5_0, s5_1, s5_2, s5_3, s5_4, s5_5, s5_6])), (105, .v (.agg [s3, s4])), (104, .v (.agg [s4_0, s4_1, s4_2, s4_3, s4_4, s4_5, s4_6])), (21, .lp 21 0), (103, .v (.agg [c103_1, c103_2])), (102, .v t12), (101, .v t11), (4, .lp 4 0), (5, .lp 5 0), (8, .lp 8 0), (9, .lp 9 0), (11, .v t11), (12, .v t12)] [(9, .cells [s16, s17, s18, s19, s20, s21, s22]), (8, .cells [s9, s10, s11, s12, s13, s14, s15]), (21, .cells [s3, s4]), (4, .cells [s4_0, s4_1, s4_2, s4_3, s4_4, s4_5, s4_6]), (5, .cells [s5_0, s5_1, s5_2, s5_3, s5_4, s5_5, s5_6])] Q8) := by kernel_rfl
theorem g_pleachlaw18_deed {call : CallF} {lp : PLoopF} (v0_0 v0_1 v0_2 v0_3 v0_4 v0_5 v0_6 v1_0 v1_1 v1_2 v1_3 v1_4 v1_5 v1_6 v2_0 v2_1 v2_2 v3 : AV) (Q : AHeap) : evalPK call lp c_pleachlaw18_deed [(0, .v (.agg [v0_0, v0_1, v0_2, v0_3, v0_4, v0_5, v0_6])), (1, .v (.agg [v1_0, v1_1, v1_2, v1_3, v1_4, v1_5, v1_6])), (2, .v (.agg [v2_0, v2_1, v2_2])), (3, .v v3)] [] Q (retPK [.cell 8 (some 7), .cell 9 (some 7), .tmp 10] [.n, .n, .n]) = (
  bnC 7 (stC 7 (.agg [v0_0, v0_1, v0_2, v0_3, v0_4, v0_5, v0_6])) fun s1 s2 s3 s4 s5 s6 s7 => 
  bnC 7 (stC 7 (.agg [v1_0, v1_1, v1_2, v1_3, v1_4, v1_5, v1_6])) fun s8 s9 s10 s11 s12 s13 s14 => 
  bnC 3 (stC 3 (.agg [v2_0, v2_1, v2_2])) fun s15 s16 s17 => 
  bnP (binA .sub s8 (.int .i64 2)) fun w24_18 => 
  bnN (idxN 3 (.int .i64 1)) fun i19 => 
  bnP (([s15, s16, s17] : List AV)[(0 + i19 * 1)]?) fun w26_20 => 
  bnP (binA .rem w26_20 (.int .u8 12)) fun w27_21 => 
  bnP (cviA .i64 w27_21) fun w28_22 => 
  bnP (binA .add w24_18 w28_22) fun w29_23 => 
  bnP (mxiA [.int .i64 1, w29_23]) fun w30_24 => 
  bnN (idxN 3 (.int .i64 2)) fun i25 => 
  bnP (([s15, s16, s17] : List AV)[(0 + i25 * 1)]?) fun w33_26 => 
  bnP (binA .rem w33_26 (.int .u8 5)) fun w34_27 => 
  bnP (elQ 1 (.fz 1 [.str [], .str [97], .str [98, 99], .str [104, 101, 108, 108, 111], .str [116, 104, 105, 114, 116, 101, 101, 110, 32, 98, 121, 116, 101]]) w34_27) fun e28 => 
  bnP ((AV.cells e28)[0]?) fun w36_29 => 
  bnX (bnN (idxN 3 (.int .i64 0)) fun i30 => 
  bnP (([s15, s16, s17] : List AV)[(0 + i30 * 1)]?) fun w38_31 => 
  bnP (binA .rem w38_31 (.int .u8 8)) fun w39_32 => 
  bnX (bnP (binA .eql w39_32 (.int .u8 0)) fun w41_33 => 
  cndS w41_33 (fun _ => bnS (call 18 [.agg [s1, s2, s3, s4, s5, s6, s7], w30_24] Q) fun w44_34 Q35 => 
  bnS (call 19 [.agg [s8, s9, s10, s11, s12, s13, s14], w30_24] Q35) fun w47_36 Q37 => 
  bnC 7 (stC 7 (frz w44_34)) fun s38 s39 s40 s41 s42 s43 s44 => 
  bnC 7 (stC 7 (frz w47_36)) fun s45 s46 s47 s48 s49 s50 s51 => 
  some (.ret, [(8, .lp 8 0), (9, .lp 9 0), (10, .v (.bool true))], [(8, .cells [s38, s39, s40, s41, s42, s43, s44]), (9, .cells [s45, s46, s47, s48, s49, s50, s51])], Q37))
  (fun _ => bnP (binA .eql w39_32 (.int .u8 1)) fun w49_52 => 
  cndS w49_52 (fun _ => bnN (idxN 3 (.int .i64 2)) fun i53 => 
  bnP (([s15, s16, s17] : List AV)[(0 + i53 * 1)]?) fun w53_54 => 
  bnP (binA .rem w53_54 (.int .u8 6)) fun w54_55 => 
  bnP (cviA .i64 w54_55) fun w55_56 => 
  bnP (binA .add w30_24 w55_56) fun w56_57 => 
  bnP (binA .sub w56_57 (.int .i64 1)) fun w57_58 => 
  bnS (call 20 [.agg [s1, s2, s3, s4, s5, s6, s7], w30_24, w57_58] Q) fun w61_59 Q60 => 
  bnS (call 21 [.agg [s8, s9, s10, s11, s12, s13, s14], w30_24, w57_58] Q60) fun w65_61 Q62 => 
  bnC 7 (stC 7 (frz w61_59)) fun s63 s64 s65 s66 s67 s68 s69 => 
  bnC 7 (stC 7 (frz w65_61)) fun s70 s71 s72 s73 s74 s75 s76 => 
  some (.ret, [(8, .lp 8 0), (9, .lp 9 0), (10, .v (.bool true))], [(8, .cells [s63, s64, s65, s66, s67, s68, s69]), (9, .cells [s70, s71, s72, s73, s74, s75, s76])], Q62))
  (fun _ => bnP (binA .eql w39_32 (.int .u8 2)) fun w67_77 => 
  cndS w67_77 (fun _ => bnS (call 22 [.agg [s1, s2, s3, s4, s5, s6, s7], w30_24] Q) fun w70_78 Q79 => 
  bnS (call 23 [.agg [s8, s9, s10, s11, s12, s13, s14], w30_24] Q79) fun w73_80 Q81 => 
  bnC 7 (stC 7 (frz w70_78)) fun s82 s83 s84 s85 s86 s87 s88 => 
  bnC 7 (stC 7 (frz w73_80)) fun s89 s90 s91 s92 s93 s94 s95 => 
  some (.ret, [(8, .lp 8 0), (9, .lp 9 0), (10, .v (.bool true))], [(8, .cells [s82, s83, s84, s85, s86, s87, s88]), (9, .cells [s89, s90, s91, s92, s93, s94, s95])], Q81))
  (fun _ => bnX (bnP (binA .eql w39_32 (.int .u8 3)) fun w75_96 => 
  cndS w75_96 (fun _ => some (.normal, [(3, .v v3), (4, .lp 4 0), (5, .lp 5 0), (8, .lp 8 0), (9, .lp 9 0), (11, .v w30_24), (12, .v w36_29), (74, .v w75_96)], [(4, .cells [s1, s2, s3, s4, s5, s6, s7]), (5, .cells [s8, s9, s10, s11, s12, s13, s14]), (8, .cells [.int .i64 0, .int .i64 0, .nils, .nils, .nils, .int .i64 0, .int .i64 0]), (9, .cells [.int .i64 0, .int .i64 0, .nils, .nils, .nils, .int .i64 0, .int .i64 0])], Q))
  (fun _ => bnP (binA .eql w39_32 (.int .u8 4)) fun w76_97 => 
  some (.normal, [(3, .v v3), (4, .lp 4 0), (5, .lp 5 0), (8, .lp 8 0), (9, .lp 9 0), (11, .v w30_24), (12, .v w36_29), (74, .v w76_97)], [(4, .cells [s1, s2, s3, s4, s5, s6, s7]), (5, .cells [s8, s9, s10, s11, s12, s13, s14]), (8, .cells [.int .i64 0, .int .i64 0, .nils, .nils, .nils, .int .i64 0, .int .i64 0]), (9, .cells [.int .i64 0, .int .i64 0, .nils, .nils, .nils, .int .i64 0, .int .i64 0])], Q)))
  (goC (evalPK call lp c_pleachlaw18_deed_0) (finC [] [] [4, 5, 8, 9, 11, 12] [(4, 4), (5, 5), (8, 8), (9, 9)] ret4))))))
  (outX 0 ret4))
  (goC (evalPK call lp c_pleachlaw18_deed_1) (retPK [.cell 8 (some 7), .cell 9 (some 7), .tmp 10] [.n, .n, .n]))) := by kernel_rfl
def f_pleachlaw18_deed {s : PSpecs} (hs : s.lookup 14 = none) (v0_0 v0_1 v0_2 v0_3 v0_4 v0_5 v0_6 v1_0 v1_1 v1_2 v1_3 v1_4 v1_5 v1_6 v2_0 v2_1 v2_2 v3 : AV) (Q : AHeap) := (callP_fn (E := penv s) (f := 14) (fn := pf_pleachlaw18_deed) hs rfl [.agg [v0_0, v0_1, v0_2, v0_3, v0_4, v0_5, v0_6], .agg [v1_0, v1_1, v1_2, v1_3, v1_4, v1_5, v1_6], .agg [v2_0, v2_1, v2_2], v3] Q rfl).trans (g_pleachlaw18_deed (call := callP (penv s)) (lp := loopP (penv s)) v0_0 v0_1 v0_2 v0_3 v0_4 v0_5 v0_6 v1_0 v1_1 v1_2 v1_3 v1_4 v1_5 v1_6 v2_0 v2_1 v2_2 v3 Q)
theorem p_feed_Begin_0 {β : Type} (call : CallF) (lp : PLoopF) (s2_0 s2_1 s2_2 s2_3 s2_4 s2_5 s2_6 s4_0 s4_1 s4_2 s4_3 s4_4 s4_5 s4_6 : AV) (Q : AHeap) (k : PK β) : evalPK call lp c_feed_Begin_0 [(2, .lp 2 0), (4, .lp 4 0)] [(2, .cells [s2_0, s2_1, s2_2, s2_3, s2_4, s2_5, s2_6]), (4, .cells [s4_0, s4_1, s4_2, s4_3, s4_4, s4_5, s4_6])] Q k = (
  bnC 7 (stC 7 (.agg [s2_0, s2_1, s2_2, s2_3, s2_4, s2_5, s2_6])) fun s1 s2 s3 s4 s5 s6 s7 => 
  k .ret [(22, .v (.agg [s2_0, s2_1, s2_2, s2_3, s2_4, s2_5, s2_6])), (2, .lp 2 0), (4, .lp 4 0)] [(4, .cells [s1, s2, s3, s4, s5, s6, s7]), (2, .cells [s2_0, s2_1, s2_2, s2_3, s2_4, s2_5, s2_6])] Q) := by kernel_rfl
theorem g_feed_Begin {call : CallF} {lp : PLoopF} (v0_0 v0_1 v0_2 v0_3 v0_4 v0_5 v0_6 v1 : AV) (Q : AHeap) : evalPK call lp c_feed_Begin [(0, .v (.agg [v0_0, v0_1, v0_2, v0_3, v0_4, v0_5, v0_6])), (1, .v v1)] [] Q (retPK [.cell 4 (some 7)] [.n]) = (
  bnC 7 (stC 7 (.agg [v0_0, v0_1, v0_2, v0_3, v0_4, v0_5, v0_6])) fun s1 s2 s3 s4 s5 s6 s7 => 
  bnP (binA .gtr s1 (.int .i64 0)) fun w7_8 => 
  cndS w7_8 (fun _ => bnP (binA .sub v1 (.int .i64 1)) fun w10_9 => 
  bnS (call 22 [.agg [s1, s2, s3, s4, s5, s6, s7], w10_9] Q) fun w11_10 Q11 => 
  bnC 7 (stC 7 (frz w11_10)) fun s12 s13 s14 s15 s16 s17 s18 => 
  some (.agg [s12, s13, s14, s15, s16, s17, s18], Q11))
  (fun _ => bnS (call 37 [.agg [s1, s2, s3, s4, s5, s6, s7]] Q) fun w13_19 Q20 => 
  bnC 7 (stC 7 (frz w13_19)) fun s21 s22 s23 s24 s25 s26 s27 => 
  bnX (bnP (binA .geq v1 (.int .i64 1)) fun w15_28 => 
  bnP (gdQ w15_28 true (some v1)) fun w17_29 => 
  bnP (gdQ w15_28 true (binA .leq w17_29 (.int .i64 1000000))) fun w18_30 => 
  bnP (pickA w15_28 w18_30 (.bool false)) fun w19_31 => 
  cndS w19_31 (fun _ => bnC 1 (stC 1 v1) fun s32 => 
  some (.normal, [(2, .lp 2 0), (4, .lp 4 0)], [(2, .cells [s32, s22, s23, s24, s25, s26, s27]), (4, .cells [.int .i64 0, .int .i64 0, .nils, .nils, .nils, .int .i64 0, .int .i64 0])], Q20))
  (fun _ => some (.normal, [(2, .lp 2 0), (4, .lp 4 0)], [(2, .cells [s21, s22, s23, s24, s25, s26, s27]), (4, .cells [.int .i64 0, .int .i64 0, .nils, .nils, .nils, .int .i64 0, .int .i64 0])], Q20)))
  (goC (evalPK call lp c_feed_Begin_0) (retPK [.cell 4 (some 7)] [.n])))) := by kernel_rfl
def f_feed_Begin {s : PSpecs} (hs : s.lookup 18 = none) (v0_0 v0_1 v0_2 v0_3 v0_4 v0_5 v0_6 v1 : AV) (Q : AHeap) := (callP_fn (E := penv s) (f := 18) (fn := pf_feed_Begin) hs rfl [.agg [v0_0, v0_1, v0_2, v0_3, v0_4, v0_5, v0_6], v1] Q rfl).trans (g_feed_Begin (call := callP (penv s)) (lp := loopP (penv s)) v0_0 v0_1 v0_2 v0_3 v0_4 v0_5 v0_6 v1 Q)
theorem p_pleachref13_Begin_0 {β : Type} (call : CallF) (lp : PLoopF) (s2_0 s2_1 s2_2 s2_3 s2_4 s2_5 s2_6 s4_0 s4_1 s4_2 s4_3 s4_4 s4_5 s4_6 : AV) (Q : AHeap) (k : PK β) : evalPK call lp c_pleachref13_Begin_0 [(2, .lp 2 0), (4, .lp 4 0)] [(2, .cells [s2_0, s2_1, s2_2, s2_3, s2_4, s2_5, s2_6]), (4, .cells [s4_0, s4_1, s4_2, s4_3, s4_4, s4_5, s4_6])] Q k = (
  bnC 7 (stC 7 (.agg [s2_0, s2_1, s2_2, s2_3, s2_4, s2_5, s2_6])) fun s1 s2 s3 s4 s5 s6 s7 => 
  k .ret [(20, .v (.agg [s2_0, s2_1, s2_2, s2_3, s2_4, s2_5, s2_6])), (2, .lp 2 0), (4, .lp 4 0)] [(4, .cells [s1, s2, s3, s4, s5, s6, s7]), (2, .cells [s2_0, s2_1, s2_2, s2_3, s2_4, s2_5, s2_6])] Q) := by kernel_rfl
theorem g_pleachref13_Begin {call : CallF} {lp : PLoopF} (v0_0 v0_1 v0_2 v0_3 v0_4 v0_5 v0_6 v1 : AV) (Q : AHeap) : evalPK call lp c_pleachref13_Begin [(0, .v (.agg [v0_0, v0_1, v0_2, v0_3, v0_4, v0_5, v0_6])), (1, .v v1)] [] Q (retPK [.cell 4 (some 7)] [.n]) = (
  bnC 7 (stC 7 (.agg [v0_0, v0_1, v0_2, v0_3, v0_4, v0_5, v0_6])) fun s1 s2 s3 s4 s5 s6 s7 => 
  bnP (binA .gtr s1 (.int .i64 0)) fun w7_8 => 
  cndS w7_8 (fun _ => bnP (binA .sub v1 (.int .i64 1)) fun w10_9 => 
  bnS (call 23 [.agg [s1, s2, s3, s4, s5, s6, s7], w10_9] Q) fun w11_10 Q11 => 
  bnC 7 (stC 7 (frz w11_10)) fun s12 s13 s14 s15 s16 s17 s18 => 
  some (.agg [s12, s13, s14, s15, s16, s17, s18], Q11))
  (fun _ => bnX (bnP (binA .geq v1 (.int .i64 1)) fun w13_19 => 
  bnP (gdQ w13_19 true (some v1)) fun w15_20 => 
  bnP (gdQ w13_19 true (binA .leq w15_20 (.int .i64 1000000))) fun w16_21 => 
  bnP (pickA w13_19 w16_21 (.bool false)) fun w17_22 => 
  cndS w17_22 (fun _ => bnC 1 (stC 1 v1) fun s23 => 
  some (.normal, [(2, .lp 2 0), (4, .lp 4 0)], [(2, .cells [s23, s2, s3, s4, s5, s6, s7]), (4, .cells [.int .i64 0, .int .i64 0, .nils, .nils, .nils, .int .i64 0, .int .i64 0])], Q))
  (fun _ => some (.normal, [(2, .lp 2 0), (4, .lp 4 0)], [(2, .cells [s1, s2, s3, s4, s5, s6, s7]), (4, .cells [.int .i64 0, .int .i64 0, .nils, .nils, .nils, .int .i64 0, .int .i64 0])], Q)))
  (goC (evalPK call lp c_pleachref13_Begin_0) (retPK [.cell 4 (some 7)] [.n])))) := by kernel_rfl
def f_pleachref13_Begin {s : PSpecs} (hs : s.lookup 19 = none) (v0_0 v0_1 v0_2 v0_3 v0_4 v0_5 v0_6 v1 : AV) (Q : AHeap) := (callP_fn (E := penv s) (f := 19) (fn := pf_pleachref13_Begin) hs rfl [.agg [v0_0, v0_1, v0_2, v0_3, v0_4, v0_5, v0_6], v1] Q rfl).trans (g_pleachref13_Begin (call := callP (penv s)) (lp := loopP (penv s)) v0_0 v0_1 v0_2 v0_3 v0_4 v0_5 v0_6 v1 Q)
theorem g_feed_Notes {call : CallF} {lp : PLoopF} (v0_0 v0_1 v0_2 v0_3 v0_4 v0_5 v0_6 v1 v2 : AV) (Q : AHeap) : evalPK call lp c_feed_Notes [(0, .v (.agg [v0_0, v0_1, v0_2, v0_3, v0_4, v0_5, v0_6])), (1, .v v1), (2, .v v2)] [] Q (retPK [.cell 6 (some 7)] [.n]) = (
  bnC 7 (stC 7 (.agg [v0_0, v0_1, v0_2, v0_3, v0_4, v0_5, v0_6])) fun s1 s2 s3 s4 s5 s6 s7 => 
  bnP (binA .eql s1 (.int .i64 0)) fun w9_8 => 
  bnP (gdQ w9_8 false (some v1)) fun w11_9 => 
  bnP (gdQ w9_8 false (binA .lss w11_9 (.int .i64 1))) fun w12_10 => 
  bnP (pickA w9_8 (.bool true) w12_10) fun w13_11 => 
  bnP (gdQ w13_11 false (some v1)) fun w15_12 => 
  bnP (gdQ w13_11 false (some v2)) fun w16_13 => 
  bnP (gdQ w13_11 false (binA .gtr w15_12 w16_13)) fun w17_14 => 
  bnP (pickA w13_11 (.bool true) w17_14) fun w18_15 => 
  bnP (gdQ w18_15 false (some v2)) fun w20_16 => 
  bnP (gdQ w18_15 false (binA .gtr w20_16 (.int .i64 1000000))) fun w21_17 => 
  bnP (pickA w18_15 (.bool true) w21_17) fun w22_18 => 
  cndS w22_18 (fun _ => bnS (call 37 [.agg [s1, s2, s3, s4, s5, s6, s7]] Q) fun w24_19 Q20 => 
  bnC 7 (stC 7 (frz w24_19)) fun s21 s22 s23 s24 s25 s26 s27 => 
  some (.agg [s21, s22, s23, s24, s25, s26, s27], Q20))
  (fun _ => bnP (binA .lss s1 v1) fun w28_28 => 
  bnP (gdQ w28_28 false (some s1)) fun w31_29 => 
  bnP (gdQ w28_28 false (some v2)) fun w32_30 => 
  bnP (gdQ w28_28 false (binA .gtr w31_29 w32_30)) fun w33_31 => 
  bnP (pickA w28_28 (.bool true) w33_31) fun w34_32 => 
  cndS w34_32 (fun _ => bnS (call 22 [.agg [s1, s2, s3, s4, s5, s6, s7], v2] Q) fun w37_33 Q34 => 
  bnC 7 (stC 7 (frz w37_33)) fun s35 s36 s37 s38 s39 s40 s41 => 
  some (.agg [s35, s36, s37, s38, s39, s40, s41], Q34))
  (fun _ => bnS (call 38 [.agg [s1, s2, s3, s4, s5, s6, s7], v2, .int .i64 1] Q) fun w41_42 Q43 => 
  bnP (extA (frz w41_42) 0) fun w42_44 => 
  bnP (extA (frz w41_42) 1) fun w43_45 => 
  bnC 7 (stC 7 w42_44) fun s46 s47 s48 s49 s50 s51 s52 => 
  bnP (mxiA [s47, v2]) fun w47_53 => 
  bnC 1 (stC 1 w47_53) fun s54 => 
  bnS (call 39 [.agg [s46, s54, s48, s49, s50, s51, s52]] Q43) fun w51_55 Q56 => 
  bnP (extA (frz w51_55) 0) fun w52_57 => 
  bnP (extA (frz w51_55) 1) fun w53_58 => 
  bnC 7 (stC 7 w52_57) fun s59 s60 s61 s62 s63 s64 s65 => 
  bnC 7 (stC 7 (.agg [s59, s60, s61, s62, s63, s64, s65])) fun s66 s67 s68 s69 s70 s71 s72 => 
  some (.agg [s66, s67, s68, s69, s70, s71, s72], Q56)))) := by kernel_rfl
def f_feed_Notes {s : PSpecs} (hs : s.lookup 20 = none) (v0_0 v0_1 v0_2 v0_3 v0_4 v0_5 v0_6 v1 v2 : AV) (Q : AHeap) := (callP_fn (E := penv s) (f := 20) (fn := pf_feed_Notes) hs rfl [.agg [v0_0, v0_1, v0_2, v0_3, v0_4, v0_5, v0_6], v1, v2] Q rfl).trans (g_feed_Notes (call := callP (penv s)) (lp := loopP (penv s)) v0_0 v0_1 v0_2 v0_3 v0_4 v0_5 v0_6 v1 v2 Q)
theorem g_pleachref13_Notes {call : CallF} {lp : PLoopF} (v0_0 v0_1 v0_2 v0_3 v0_4 v0_5 v0_6 v1 v2 : AV) (Q : AHeap) : evalPK call lp c_pleachref13_Notes [(0, .v (.agg [v0_0, v0_1, v0_2, v0_3, v0_4, v0_5, v0_6])), (1, .v v1), (2, .v v2)] [] Q (retPK [.cell 6 (some 7)] [.n]) = (
  bnC 7 (stC 7 (.agg [v0_0, v0_1, v0_2, v0_3, v0_4, v0_5, v0_6])) fun s1 s2 s3 s4 s5 s6 s7 => 
  bnP (binA .eql s1 (.int .i64 0)) fun w9_8 => 
  bnP (gdQ w9_8 false (some v1)) fun w11_9 => 
  bnP (gdQ w9_8 false (some v2)) fun w12_10 => 
  bnP (gdQ w9_8 false ((fillP [.int .i64 0, .int .i64 0] [(0, 1, w11_9), (1, 1, w12_10)]).map AV.agg)) fun w13_11 => 
  bnS (gdH w9_8 false (call 40 [w13_11] Q) Q) fun w14_12 Q13 => 
  bnP (gdQ w9_8 false (unA .not (frz w14_12))) fun w15_14 => 
  bnP (pickA w9_8 (.bool true) w15_14) fun w16_15 => 
  cndS w16_15 (fun _ => bnC 7 (stC 7 (.agg [s1, s2, s3, s4, s5, s6, s7])) fun s16 s17 s18 s19 s20 s21 s22 => 
  some (.agg [s16, s17, s18, s19, s20, s21, s22], Q13))
  (fun _ => bnS (call 23 [.agg [s1, s2, s3, s4, s5, s6, s7], v2] Q13) fun w20_23 Q24 => 
  bnC 7 (stC 7 (frz w20_23)) fun s25 s26 s27 s28 s29 s30 s31 => 
  bnP (binA .lss s25 v1) fun w24_32 => 
  bnP (gdQ w24_32 false (some s25)) fun w27_33 => 
  bnP (gdQ w24_32 false (some v2)) fun w28_34 => 
  bnP (gdQ w24_32 false (binA .gtr w27_33 w28_34)) fun w29_35 => 
  bnP (pickA w24_32 (.bool true) w29_35) fun w30_36 => 
  cndS w30_36 (fun _ => bnC 7 (stC 7 (.agg [s25, s26, s27, s28, s29, s30, s31])) fun s37 s38 s39 s40 s41 s42 s43 => 
  some (.agg [s37, s38, s39, s40, s41, s42, s43], Q24))
  (fun _ => bnS (call 41 [.agg [s25, s26, s27, s28, s29, s30, s31], v2, .int .i64 1] Q24) fun w35_44 Q45 => 
  bnP (extA (frz w35_44) 0) fun w36_46 => 
  bnP (extA (frz w35_44) 1) fun w37_47 => 
  bnC 7 (stC 7 w36_46) fun s48 s49 s50 s51 s52 s53 s54 => 
  bnS (call 42 [.agg [s48, s49, s50, s51, s52, s53, s54]] Q45) fun w40_55 Q56 => 
  bnP (extA (frz w40_55) 0) fun w41_57 => 
  bnP (extA (frz w40_55) 1) fun w42_58 => 
  bnC 7 (stC 7 w41_57) fun s59 s60 s61 s62 s63 s64 s65 => 
  bnC 7 (stC 7 (.agg [s59, s60, s61, s62, s63, s64, s65])) fun s66 s67 s68 s69 s70 s71 s72 => 
  some (.agg [s66, s67, s68, s69, s70, s71, s72], Q56)))) := by kernel_rfl
def f_pleachref13_Notes {s : PSpecs} (hs : s.lookup 21 = none) (v0_0 v0_1 v0_2 v0_3 v0_4 v0_5 v0_6 v1 v2 : AV) (Q : AHeap) := (callP_fn (E := penv s) (f := 21) (fn := pf_pleachref13_Notes) hs rfl [.agg [v0_0, v0_1, v0_2, v0_3, v0_4, v0_5, v0_6], v1, v2] Q rfl).trans (g_pleachref13_Notes (call := callP (penv s)) (lp := loopP (penv s)) v0_0 v0_1 v0_2 v0_3 v0_4 v0_5 v0_6 v1 v2 Q)
theorem p_feed_Knows_0 {β : Type} (call : CallF) (lp : PLoopF) (s2_0 s2_1 s2_2 s2_3 s2_4 s2_5 s2_6 s4_0 s4_1 s4_2 s4_3 s4_4 s4_5 s4_6 : AV) (Q : AHeap) (k : PK β) : evalPK call lp c_feed_Knows_0 [(2, .lp 2 0), (4, .lp 4 0)] [(2, .cells [s2_0, s2_1, s2_2, s2_3, s2_4, s2_5, s2_6]), (4, .cells [s4_0, s4_1, s4_2, s4_3, s4_4, s4_5, s4_6])] Q k = (
  bnC 7 (stC 7 (.agg [s2_0, s2_1, s2_2, s2_3, s2_4, s2_5, s2_6])) fun s1 s2 s3 s4 s5 s6 s7 => 
  k .ret [(19, .v (.agg [s2_0, s2_1, s2_2, s2_3, s2_4, s2_5, s2_6])), (2, .lp 2 0), (4, .lp 4 0)] [(4, .cells [s1, s2, s3, s4, s5, s6, s7]), (2, .cells [s2_0, s2_1, s2_2, s2_3, s2_4, s2_5, s2_6])] Q) := by kernel_rfl
theorem g_feed_Knows {call : CallF} {lp : PLoopF} (v0_0 v0_1 v0_2 v0_3 v0_4 v0_5 v0_6 v1 : AV) (Q : AHeap) : evalPK call lp c_feed_Knows [(0, .v (.agg [v0_0, v0_1, v0_2, v0_3, v0_4, v0_5, v0_6])), (1, .v v1)] [] Q (retPK [.cell 4 (some 7)] [.n]) = (
  bnC 7 (stC 7 (.agg [v0_0, v0_1, v0_2, v0_3, v0_4, v0_5, v0_6])) fun s1 s2 s3 s4 s5 s6 s7 => 
  bnS (call 37 [.agg [s1, s2, s3, s4, s5, s6, s7]] Q) fun w6_8 Q9 => 
  bnC 7 (stC 7 (frz w6_8)) fun s10 s11 s12 s13 s14 s15 s16 => 
  bnX (bnP (binA .gtr s10 (.int .i64 0)) fun w9_17 => 
  bnP (gdQ w9_17 true (some v1)) fun w11_18 => 
  bnP (gdQ w9_17 true (binA .leq w11_18 (.int .i64 1000000))) fun w12_19 => 
  bnP (pickA w9_17 w12_19 (.bool false)) fun w13_20 => 
  cndS w13_20 (fun _ => bnP (mxiA [s11, v1]) fun w17_21 => 
  bnC 1 (stC 1 w17_21) fun s22 => 
  some (.normal, [(2, .lp 2 0), (4, .lp 4 0)], [(2, .cells [s10, s22, s12, s13, s14, s15, s16]), (4, .cells [.int .i64 0, .int .i64 0, .nils, .nils, .nils, .int .i64 0, .int .i64 0])], Q9))
  (fun _ => some (.normal, [(2, .lp 2 0), (4, .lp 4 0)], [(2, .cells [s10, s11, s12, s13, s14, s15, s16]), (4, .cells [.int .i64 0, .int .i64 0, .nils, .nils, .nils, .int .i64 0, .int .i64 0])], Q9)))
  (goC (evalPK call lp c_feed_Knows_0) (retPK [.cell 4 (some 7)] [.n]))) := by kernel_rfl
def f_feed_Knows {s : PSpecs} (hs : s.lookup 22 = none) (v0_0 v0_1 v0_2 v0_3 v0_4 v0_5 v0_6 v1 : AV) (Q : AHeap) := (callP_fn (E := penv s) (f := 22) (fn := pf_feed_Knows) hs rfl [.agg [v0_0, v0_1, v0_2, v0_3, v0_4, v0_5, v0_6], v1] Q rfl).trans (g_feed_Knows (call := callP (penv s)) (lp := loopP (penv s)) v0_0 v0_1 v0_2 v0_3 v0_4 v0_5 v0_6 v1 Q)
theorem p_pleachref13_Knows_0 {β : Type} (call : CallF) (lp : PLoopF) (s2_0 s2_1 s2_2 s2_3 s2_4 s2_5 s2_6 s4_0 s4_1 s4_2 s4_3 s4_4 s4_5 s4_6 : AV) (Q : AHeap) (k : PK β) : evalPK call lp c_pleachref13_Knows_0 [(2, .lp 2 0), (4, .lp 4 0)] [(2, .cells [s2_0, s2_1, s2_2, s2_3, s2_4, s2_5, s2_6]), (4, .cells [s4_0, s4_1, s4_2, s4_3, s4_4, s4_5, s4_6])] Q k = (
  bnC 7 (stC 7 (.agg [s2_0, s2_1, s2_2, s2_3, s2_4, s2_5, s2_6])) fun s1 s2 s3 s4 s5 s6 s7 => 
  k .ret [(17, .v (.agg [s2_0, s2_1, s2_2, s2_3, s2_4, s2_5, s2_6])), (2, .lp 2 0), (4, .lp 4 0)] [(4, .cells [s1, s2, s3, s4, s5, s6, s7]), (2, .cells [s2_0, s2_1, s2_2, s2_3, s2_4, s2_5, s2_6])] Q) := by kernel_rfl
theorem g_pleachref13_Knows {call : CallF} {lp : PLoopF} (v0_0 v0_1 v0_2 v0_3 v0_4 v0_5 v0_6 v1 : AV) (Q : AHeap) : evalPK call lp c_pleachref13_Knows [(0, .v (.agg [v0_0, v0_1, v0_2, v0_3, v0_4, v0_5, v0_6])), (1, .v v1)] [] Q (retPK [.cell 4 (some 7)] [.n]) = (
  bnC 7 (stC 7 (.agg [v0_0, v0_1, v0_2, v0_3, v0_4, v0_5, v0_6])) fun s1 s2 s3 s4 s5 s6 s7 => 
  bnX (bnP (binA .gtr s1 (.int .i64 0)) fun w7_8 => 
  bnP (gdQ w7_8 true (some v1)) fun w9_9 => 
  bnP (gdQ w7_8 true (binA .leq w9_9 (.int .i64 1000000))) fun w10_10 => 
  bnP (pickA w7_8 w10_10 (.bool false)) fun w11_11 => 
  cndS w11_11 (fun _ => bnP (mxiA [s2, v1]) fun w15_12 => 
  bnC 1 (stC 1 w15_12) fun s13 => 
  some (.normal, [(2, .lp 2 0), (4, .lp 4 0)], [(2, .cells [s1, s13, s3, s4, s5, s6, s7]), (4, .cells [.int .i64 0, .int .i64 0, .nils, .nils, .nils, .int .i64 0, .int .i64 0])], Q))
  (fun _ => some (.normal, [(2, .lp 2 0), (4, .lp 4 0)], [(2, .cells [s1, s2, s3, s4, s5, s6, s7]), (4, .cells [.int .i64 0, .int .i64 0, .nils, .nils, .nils, .int .i64 0, .int .i64 0])], Q)))
  (goC (evalPK call lp c_pleachref13_Knows_0) (retPK [.cell 4 (some 7)] [.n]))) := by kernel_rfl
def f_pleachref13_Knows {s : PSpecs} (hs : s.lookup 23 = none) (v0_0 v0_1 v0_2 v0_3 v0_4 v0_5 v0_6 v1 : AV) (Q : AHeap) := (callP_fn (E := penv s) (f := 23) (fn := pf_pleachref13_Knows) hs rfl [.agg [v0_0, v0_1, v0_2, v0_3, v0_4, v0_5, v0_6], v1] Q rfl).trans (g_pleachref13_Knows (call := callP (penv s)) (lp := loopP (penv s)) v0_0 v0_1 v0_2 v0_3 v0_4 v0_5 v0_6 v1 Q)
theorem g_feed_Comes {call : CallF} {lp : PLoopF} (v0_0 v0_1 v0_2 v0_3 v0_4 v0_5 v0_6 v1_0 v1_1 : AV) (Q : AHeap) : evalPK call lp c_feed_Comes [(0, .v (.agg [v0_0, v0_1, v0_2, v0_3, v0_4, v0_5, v0_6])), (1, .v (.agg [v1_0, v1_1]))] [] Q (retPK [.cell 4 (some 7)] [.n]) = (
  bnC 7 (stC 7 (.agg [v0_0, v0_1, v0_2, v0_3, v0_4, v0_5, v0_6])) fun s1 s2 s3 s4 s5 s6 s7 => 
  bnC 2 (stC 2 (.agg [v1_0, v1_1])) fun s8 s9 => 
  bnP (binA .eql s1 (.int .i64 0)) fun w7_10 => 
  bnP (gdQ w7_10 false (some s8)) fun w10_11 => 
  bnP (gdQ w7_10 false (binA .lss w10_11 (.int .i64 1))) fun w11_12 => 
  bnP (pickA w7_10 (.bool true) w11_12) fun w12_13 => 
  bnP (gdQ w12_13 false (some s8)) fun w15_14 => 
  bnP (gdQ w12_13 false (binA .gtr w15_14 (.int .i64 1000000))) fun w16_15 => 
  bnP (pickA w12_13 (.bool true) w16_15) fun w17_16 => 
  bnP (gdQ w17_16 false (some s9)) fun w20_17 => 
  bnP (gdQ w17_16 false (lensA w20_17)) fun w21_18 => 
  bnP (gdQ w17_16 false (binA .gtr w21_18 (.int .i64 12))) fun w22_19 => 
  bnP (pickA w17_16 (.bool true) w22_19) fun w23_20 => 
  cndS w23_20 (fun _ => bnS (call 37 [.agg [s1, s2, s3, s4, s5, s6, s7]] Q) fun w25_21 Q22 => 
  bnC 7 (stC 7 (frz w25_21)) fun s23 s24 s25 s26 s27 s28 s29 => 
  some (.agg [s23, s24, s25, s26, s27, s28, s29], Q22))
  (fun _ => bnS (call 22 [.agg [s1, s2, s3, s4, s5, s6, s7], s8] Q) fun w29_30 Q31 => 
  bnC 7 (stC 7 (frz w29_30)) fun s32 s33 s34 s35 s36 s37 s38 => 
  bnS (call 43 [s35, s32, .agg [s8, s9]] Q31) fun w36_39 Q40 => 
  bnP (extA (frz w36_39) 0) fun w37_41 => 
  bnP (extA (frz w36_39) 1) fun w38_42 => 
  bnC 1 (stC 1 w37_41) fun s43 => 
  bnS (call 39 [.agg [s32, s33, s34, s43, s36, s37, s38]] Q40) fun w42_44 Q45 => 
  bnP (extA (frz w42_44) 0) fun w43_46 => 
  bnP (extA (frz w42_44) 1) fun w44_47 => 
  bnC 7 (stC 7 w43_46) fun s48 s49 s50 s51 s52 s53 s54 => 
  bnC 7 (stC 7 (.agg [s48, s49, s50, s51, s52, s53, s54])) fun s55 s56 s57 s58 s59 s60 s61 => 
  some (.agg [s55, s56, s57, s58, s59, s60, s61], Q45))) := by kernel_rfl
def f_feed_Comes {s : PSpecs} (hs : s.lookup 24 = none) (v0_0 v0_1 v0_2 v0_3 v0_4 v0_5 v0_6 v1_0 v1_1 : AV) (Q : AHeap) := (callP_fn (E := penv s) (f := 24) (fn := pf_feed_Comes) hs rfl [.agg [v0_0, v0_1, v0_2, v0_3, v0_4, v0_5, v0_6], .agg [v1_0, v1_1]] Q rfl).trans (g_feed_Comes (call := callP (penv s)) (lp := loopP (penv s)) v0_0 v0_1 v0_2 v0_3 v0_4 v0_5 v0_6 v1_0 v1_1 Q)
theorem g_pleachref13_Comes {call : CallF} {lp : PLoopF} (v0_0 v0_1 v0_2 v0_3 v0_4 v0_5 v0_6 v1_0 v1_1 : AV) (Q : AHeap) : evalPK call lp c_pleachref13_Comes [(0, .v (.agg [v0_0, v0_1, v0_2, v0_3, v0_4, v0_5, v0_6])), (1, .v (.agg [v1_0, v1_1]))] [] Q (retPK [.cell 4 (some 7)] [.n]) = (
  bnC 7 (stC 7 (.agg [v0_0, v0_1, v0_2, v0_3, v0_4, v0_5, v0_6])) fun s1 s2 s3 s4 s5 s6 s7 => 
  bnC 2 (stC 2 (.agg [v1_0, v1_1])) fun s8 s9 => 
  bnP (binA .eql s1 (.int .i64 0)) fun w7_10 => 
  bnP (gdQ w7_10 false (some s8)) fun w10_11 => 
  bnP (gdQ w7_10 false (binA .lss w10_11 (.int .i64 1))) fun w11_12 => 
  bnP (pickA w7_10 (.bool true) w11_12) fun w12_13 => 
  bnP (gdQ w12_13 false (some s8)) fun w15_14 => 
  bnP (gdQ w12_13 false (binA .gtr w15_14 (.int .i64 1000000))) fun w16_15 => 
  bnP (pickA w12_13 (.bool true) w16_15) fun w17_16 => 
  bnP (gdQ w17_16 false (some s9)) fun w20_17 => 
  bnP (gdQ w17_16 false (lensA w20_17)) fun w21_18 => 
  bnP (gdQ w17_16 false (binA .gtr w21_18 (.int .i64 12))) fun w22_19 => 
  bnP (pickA w17_16 (.bool true) w22_19) fun w23_20 => 
  cndS w23_20 (fun _ => bnC 7 (stC 7 (.agg [s1, s2, s3, s4, s5, s6, s7])) fun s21 s22 s23 s24 s25 s26 s27 => 
  some (.agg [s21, s22, s23, s24, s25, s26, s27], Q))
  (fun _ => bnS (call 23 [.agg [s1, s2, s3, s4, s5, s6, s7], s8] Q) fun w28_28 Q29 => 
  bnC 7 (stC 7 (frz w28_28)) fun s30 s31 s32 s33 s34 s35 s36 => 
  bnS (call 44 [s33, s30, .agg [s8, s9]] Q29) fun w35_37 Q38 => 
  bnP (extA (frz w35_37) 0) fun w36_39 => 
  bnP (extA (frz w35_37) 1) fun w37_40 => 
  bnC 1 (stC 1 w36_39) fun s41 => 
  bnS (call 42 [.agg [s30, s31, s32, s41, s34, s35, s36]] Q38) fun w41_42 Q43 => 
  bnP (extA (frz w41_42) 0) fun w42_44 => 
  bnP (extA (frz w41_42) 1) fun w43_45 => 
  bnC 7 (stC 7 w42_44) fun s46 s47 s48 s49 s50 s51 s52 => 
  bnC 7 (stC 7 (.agg [s46, s47, s48, s49, s50, s51, s52])) fun s53 s54 s55 s56 s57 s58 s59 => 
  some (.agg [s53, s54, s55, s56, s57, s58, s59], Q43))) := by kernel_rfl
def f_pleachref13_Comes {s : PSpecs} (hs : s.lookup 25 = none) (v0_0 v0_1 v0_2 v0_3 v0_4 v0_5 v0_6 v1_0 v1_1 : AV) (Q : AHeap) := (callP_fn (E := penv s) (f := 25) (fn := pf_pleachref13_Comes) hs rfl [.agg [v0_0, v0_1, v0_2, v0_3, v0_4, v0_5, v0_6], .agg [v1_0, v1_1]] Q rfl).trans (g_pleachref13_Comes (call := callP (penv s)) (lp := loopP (penv s)) v0_0 v0_1 v0_2 v0_3 v0_4 v0_5 v0_6 v1_0 v1_1 Q)
theorem g_feed_Tick {call : CallF} {lp : PLoopF} (v0_0 v0_1 v0_2 v0_3 v0_4 v0_5 v0_6 v1 : AV) (Q : AHeap) : evalPK call lp c_feed_Tick [(0, .v (.agg [v0_0, v0_1, v0_2, v0_3, v0_4, v0_5, v0_6])), (1, .v v1)] [] Q (retPK [.cell 4 (some 7), .cell 5 (some 2), .tmp 6] [.n, .n, .n]) = (
  bnC 7 (stC 7 (.agg [v0_0, v0_1, v0_2, v0_3, v0_4, v0_5, v0_6])) fun s1 s2 s3 s4 s5 s6 s7 => 
  bnS (call 49 [.agg [s1, s2, s3, s4, s5, s6, s7]] Q) fun w11_8 Q9 => 
  bnP (extA (frz w11_8) 0) fun w12_10 => 
  bnP (extA (frz w11_8) 1) fun w13_11 => 
  bnC 2 (stC 2 w12_10) fun s12 s13 => 
  bnP (unA .not w13_11) fun w16_14 => 
  bnP (gdQ w16_14 false (some (.agg [s6, s7]))) fun w19_15 => 
  bnP (gdQ w16_14 false (some v1)) fun w20_16 => 
  bnS (gdH w16_14 false (call 50 [w19_15, w20_16] Q9) Q9) fun w21_17 Q18 => 
  bnP (gdQ w16_14 false (unA .not (frz w21_17))) fun w22_19 => 
  bnP (pickA w16_14 (.bool true) w22_19) fun w23_20 => 
  cndS w23_20 (fun _ => bnS (call 37 [.agg [s1, s2, s3, s4, s5, s6, s7]] Q18) fun w25_21 Q22 => 
  bnC 7 (stC 7 (frz w25_21)) fun s23 s24 s25 s26 s27 s28 s29 => 
  some (.tup [.agg [s23, s24, s25, s26, s27, s28, s29], .agg [.int .i64 0, .int .i64 0], .bool false], Q22))
  (fun _ => bnS (call 51 [.agg [s6, s7]] Q18) fun w30_30 Q31 => 
  cndS (frz w30_30) (fun _ => bnS (call 38 [.agg [s1, s2, s3, s4, s5, s6, s7], s13, .int .i64 2] Q31) fun w35_32 Q33 => 
  bnP (extA (frz w35_32) 0) fun w36_34 => 
  bnP (extA (frz w35_32) 1) fun w37_35 => 
  bnC 7 (stC 7 w36_34) fun s36 s37 s38 s39 s40 s41 s42 => 
  bnS (call 39 [.agg [s36, s37, s38, s39, s40, s41, s42]] Q33) fun w40_43 Q44 => 
  bnP (extA (frz w40_43) 0) fun w41_45 => 
  bnP (extA (frz w40_43) 1) fun w42_46 => 
  bnC 7 (stC 7 w41_45) fun s47 s48 s49 s50 s51 s52 s53 => 
  bnC 7 (stC 7 (.agg [s47, s48, s49, s50, s51, s52, s53])) fun s54 s55 s56 s57 s58 s59 s60 => 
  some (.tup [.agg [s54, s55, s56, s57, s58, s59, s60], .agg [.int .i64 0, .int .i64 0], .bool false], Q44))
  (fun _ => bnS (call 37 [.agg [s1, s2, s3, s4, s5, s6, s7]] Q31) fun w46_61 Q62 => 
  bnC 7 (stC 7 (frz w46_61)) fun s63 s64 s65 s66 s67 s68 s69 => 
  bnS (call 52 [.agg [s68, s69], v1] Q62) fun w50_70 Q71 => 
  bnC 2 (stC 2 (frz w50_70)) fun s72 s73 => 
  bnC 7 (stC 7 (.agg [s63, s64, s65, s66, s67, s72, s73])) fun s74 s75 s76 s77 s78 s79 s80 => 
  bnC 2 (stC 2 (.agg [s12, s13])) fun s81 s82 => 
  some (.tup [.agg [s74, s75, s76, s77, s78, s79, s80], .agg [s81, s82], .bool true], Q71)))) := by kernel_rfl
def f_feed_Tick {s : PSpecs} (hs : s.lookup 32 = none) (v0_0 v0_1 v0_2 v0_3 v0_4 v0_5 v0_6 v1 : AV) (Q : AHeap) := (callP_fn (E := penv s) (f := 32) (fn := pf_feed_Tick) hs rfl [.agg [v0_0, v0_1, v0_2, v0_3, v0_4, v0_5, v0_6], v1] Q rfl).trans (g_feed_Tick (call := callP (penv s)) (lp := loopP (penv s)) v0_0 v0_1 v0_2 v0_3 v0_4 v0_5 v0_6 v1 Q)
theorem p_pleachref13_Get_0 {β : Type} (call : CallF) (lp : PLoopF) (t0 t1 t6 : AV) (Q : AHeap) (k : PK β) : evalPK call lp c_pleachref13_Get_0 [(0, .v t0), (1, .v t1), (6, .v t6)] [] Q k = (
  bnP (lenQ t0) fun w9_1 => 
  bnP (binA .lss t6 w9_1) fun w10_2 => 
  cndS w10_2 (fun _ => bnP (elQ 2 t0 t6) fun e3 => 
  bnP ((AV.cells e3)[0]?) fun w17_4 => 
  bnP (binA .eql w17_4 t1) fun w19_5 => 
  cndS w19_5 (fun _ => bnP (elQ 2 t0 t6) fun e6 => 
  bnP ((AV.cells e6)[1]?) fun w24_7 => 
  k .ret [(4, .v w24_7), (5, .v (.bool true))] [] Q)
  (fun _ => bnP (binA .add t6 (.int .i64 1)) fun w12_8 => 
  k .normal [(0, .v t0), (1, .v t1), (6, .v w12_8)] [] Q))
  (fun _ => k (.exit 0) [] [] Q)) := by kernel_rfl
noncomputable def L_pleachref13_Get_0 (s : PSpecs) (t0 t1 t6 : AV) (Q : AHeap) : Option PEnd := loopP (penv s) c_pleachref13_Get_0 [(0, .v t0), (1, .v t1), (6, .v t6)] [] Q
theorem L_pleachref13_Get_0_fold (s : PSpecs) (t0 t1 t6 : AV) (Q : AHeap) : loopP (penv s) c_pleachref13_Get_0 [(0, .v t0), (1, .v t1), (6, .v t6)] [] Q = L_pleachref13_Get_0 s t0 t1 t6 Q := rfl
theorem L_pleachref13_Get_0_eq (s : PSpecs) (t0 t1 t6 : AV) (Q : AHeap) : L_pleachref13_Get_0 s t0 t1 t6 Q = evalPK (callP (penv s)) (loopP (penv s)) c_pleachref13_Get_0 [(0, .v t0), (1, .v t1), (6, .v t6)] [] Q (goX (fun τ ω Q => loopP (penv s) c_pleachref13_Get_0 τ ω Q) ret4) := loopP_body
abbrev X_pleachref13_Get_0_x0 (Q : AHeap) : Option PEnd := some (.exit 0, [], [], Q)
abbrev X_pleachref13_Get_0_ret (t4 t5 : AV) (Q : AHeap) : Option PEnd := some (.ret, [(4, .v t4), (5, .v t5)], [], Q)
theorem p_pleachref13_Get_1 {β : Type} (call : CallF) (lp : PLoopF) (Q : AHeap) (k : PK β) : evalPK call lp c_pleachref13_Get_1 [] [] Q k = (
  k .ret [(5, .v (.bool false)), (4, .v (.str []))] [] Q) := by kernel_rfl
theorem g_pleachref13_Get {call : CallF} {lp : PLoopF} (v0 v1 : AV) (Q : AHeap) : evalPK call lp c_pleachref13_Get [(0, .v v0), (1, .v v1)] [] Q (retPK [.tmp 4, .tmp 5] [.n, .n]) = (
  bnX (lp c_pleachref13_Get_0 [(0, .v v0), (1, .v v1), (6, .v (.int .i64 0))] [] Q) (outX 0 (goC (evalPK call lp c_pleachref13_Get_1) (retPK [.tmp 4, .tmp 5] [.n, .n])))) := by kernel_rfl
def f_pleachref13_Get {s : PSpecs} (hs : s.lookup 33 = none) (v0 v1 : AV) (Q : AHeap) := (callP_fn (E := penv s) (f := 33) (fn := pf_pleachref13_Get) hs rfl [v0, v1] Q rfl).trans (g_pleachref13_Get (call := callP (penv s)) (lp := loopP (penv s)) v0 v1 Q)
theorem g_pleachref13_Tick {call : CallF} {lp : PLoopF} (v0_0 v0_1 v0_2 v0_3 v0_4 v0_5 v0_6 v1 : AV) (Q : AHeap) : evalPK call lp c_pleachref13_Tick [(0, .v (.agg [v0_0, v0_1, v0_2, v0_3, v0_4, v0_5, v0_6])), (1, .v v1)] [] Q (retPK [.cell 4 (some 7), .cell 5 (some 2), .tmp 6] [.n, .n, .n]) = (
  bnC 7 (stC 7 (.agg [v0_0, v0_1, v0_2, v0_3, v0_4, v0_5, v0_6])) fun s1 s2 s3 s4 s5 s6 s7 => 
  bnS (call 53 [.agg [s1, s2, s3, s4, s5, s6, s7]] Q) fun w11_8 Q9 => 
  bnP (extA (frz w11_8) 0) fun w12_10 => 
  bnP (extA (frz w11_8) 1) fun w13_11 => 
  bnC 2 (stC 2 w12_10) fun s12 s13 => 
  bnP (unA .not w13_11) fun w15_14 => 
  bnP (gdQ w15_14 false (some (.agg [s6, s7]))) fun w18_15 => 
  bnP (gdQ w15_14 false (some v1)) fun w19_16 => 
  bnS (gdH w15_14 false (call 54 [w18_15, w19_16] Q9) Q9) fun w20_17 Q18 => 
  bnP (gdQ w15_14 false (unA .not (frz w20_17))) fun w21_19 => 
  bnP (pickA w15_14 (.bool true) w21_19) fun w22_20 => 
  cndS w22_20 (fun _ => bnC 7 (stC 7 (.agg [s1, s2, s3, s4, s5, s6, s7])) fun s21 s22 s23 s24 s25 s26 s27 => 
  some (.tup [.agg [s21, s22, s23, s24, s25, s26, s27], .agg [.int .i64 0, .int .i64 0], .bool false], Q18))
  (fun _ => bnP (binA .geq s6 (.int .i64 3)) fun w28_28 => 
  cndS w28_28 (fun _ => bnS (call 41 [.agg [s1, s2, s3, s4, s5, s6, s7], s13, .int .i64 2] Q18) fun w33_29 Q30 => 
  bnP (extA (frz w33_29) 0) fun w34_31 => 
  bnP (extA (frz w33_29) 1) fun w35_32 => 
  bnC 7 (stC 7 w34_31) fun s33 s34 s35 s36 s37 s38 s39 => 
  bnS (call 42 [.agg [s33, s34, s35, s36, s37, s38, s39]] Q30) fun w38_40 Q41 => 
  bnP (extA (frz w38_40) 0) fun w39_42 => 
  bnP (extA (frz w38_40) 1) fun w40_43 => 
  bnC 7 (stC 7 w39_42) fun s44 s45 s46 s47 s48 s49 s50 => 
  bnC 7 (stC 7 (.agg [s44, s45, s46, s47, s48, s49, s50])) fun s51 s52 s53 s54 s55 s56 s57 => 
  some (.tup [.agg [s51, s52, s53, s54, s55, s56, s57], .agg [.int .i64 0, .int .i64 0], .bool false], Q41))
  (fun _ => bnS (call 55 [.agg [s6, s7], v1] Q18) fun w46_58 Q59 => 
  bnC 2 (stC 2 (frz w46_58)) fun s60 s61 => 
  bnC 7 (stC 7 (.agg [s1, s2, s3, s4, s5, s60, s61])) fun s62 s63 s64 s65 s66 s67 s68 => 
  bnC 2 (stC 2 (.agg [s12, s13])) fun s69 s70 => 
  some (.tup [.agg [s62, s63, s64, s65, s66, s67, s68], .agg [s69, s70], .bool true], Q59)))) := by kernel_rfl
def f_pleachref13_Tick {s : PSpecs} (hs : s.lookup 34 = none) (v0_0 v0_1 v0_2 v0_3 v0_4 v0_5 v0_6 v1 : AV) (Q : AHeap) := (callP_fn (E := penv s) (f := 34) (fn := pf_pleachref13_Tick) hs rfl [.agg [v0_0, v0_1, v0_2, v0_3, v0_4, v0_5, v0_6], v1] Q rfl).trans (g_pleachref13_Tick (call := callP (penv s)) (lp := loopP (penv s)) v0_0 v0_1 v0_2 v0_3 v0_4 v0_5 v0_6 v1 Q)
theorem g_feed_twin {call : CallF} {lp : PLoopF} (v0_0 v0_1 v0_2 v0_3 v0_4 v0_5 v0_6 : AV) (Q : AHeap) : evalPK call lp c_feed_twin [(0, .v (.agg [v0_0, v0_1, v0_2, v0_3, v0_4, v0_5, v0_6]))] [] Q (retPK [.cell 2 (some 7)] [.n]) = (
  bnC 7 (stC 7 (.agg [v0_0, v0_1, v0_2, v0_3, v0_4, v0_5, v0_6])) fun s1 s2 s3 s4 s5 s6 s7 => 
  bnS (call 56 [s3] Q) fun w5_8 Q9 => 
  bnS (call 56 [s4] Q9) fun w8_10 Q11 => 
  bnS (call 36 [s5] Q11) fun w11_12 Q13 => 
  bnC 1 (stC 1 (frz w5_8)) fun s14 => 
  bnC 1 (stC 1 (frz w8_10)) fun s15 => 
  bnC 1 (stC 1 (frz w11_12)) fun s16 => 
  bnC 7 (stC 7 (.agg [s1, s2, s14, s15, s16, s6, s7])) fun s17 s18 s19 s20 s21 s22 s23 => 
  some (.agg [s17, s18, s19, s20, s21, s22, s23], Q13)) := by kernel_rfl
def f_feed_twin {s : PSpecs} (hs : s.lookup 37 = none) (v0_0 v0_1 v0_2 v0_3 v0_4 v0_5 v0_6 : AV) (Q : AHeap) := (callP_fn (E := penv s) (f := 37) (fn := pf_feed_twin) hs rfl [.agg [v0_0, v0_1, v0_2, v0_3, v0_4, v0_5, v0_6]] Q rfl).trans (g_feed_twin (call := callP (penv s)) (lp := loopP (penv s)) v0_0 v0_1 v0_2 v0_3 v0_4 v0_5 v0_6 Q)
theorem p_nak_Skips_0 {β : Type} (call : CallF) (lp : PLoopF) (t1 t2 t9 t11 s3_0 s3_1 s3_2 s3_3 s3_4 s3_5 s3_6 s6_0 s6_1 s6_2 s6_3 s6_4 s6_5 s6_6 : AV) (l8 : List AV) (Q : AHeap) (k : PK β) : evalPK call lp c_nak_Skips_0 [(1, .v t1), (2, .v t2), (3, .lp 3 0), (6, .lp 6 0), (8, .ls 8), (9, .v t9), (11, .v t11)] [(3, .cells [s3_0, s3_1, s3_2, s3_3, s3_4, s3_5, s3_6]), (6, .cells [s6_0, s6_1, s6_2, s6_3, s6_4, s6_5, s6_6]), (8, .own 2 l8)] Q k = (
  bnP (unA .not t11) fun w59_1 => 
  cndS w59_1 (fun _ => k (.exit 0) [(3, .lp 3 0), (6, .lp 6 0), (8, .ls 8), (9, .v t9)] [(3, .cells [s3_0, s3_1, s3_2, s3_3, s3_4, s3_5, s3_6]), (6, .cells [s6_0, s6_1, s6_2, s6_3, s6_4, s6_5, s6_6]), (8, .own 2 l8)] Q)
  (fun _ => bnS (call 60 [.agg [s3_0, s3_1, s3_2, s3_3, s3_4, s3_5, s3_6]] Q) fun w62_2 Q3 => 
  bnP (extA (frz w62_2) 0) fun w63_4 => 
  bnP (extA (frz w62_2) 1) fun w64_5 => 
  bnC 7 (stC 7 w63_4) fun s6 s7 s8 s9 s10 s11 s12 => 
  bnC 7 (stC 7 (.agg [s6, s7, s8, s9, s10, s11, s12])) fun s13 s14 s15 s16 s17 s18 s19 => 
  bnP (lenQ w64_5) fun w67_20 => 
  bnP (binA .eql w67_20 (.int .i64 0)) fun w68_21 => 
  cndS w68_21 (fun _ => k (.exit 0) [(3, .lp 3 0), (6, .lp 6 0), (8, .ls 8), (9, .v t9)] [(3, .cells [s13, s14, s15, s16, s17, s18, s19]), (6, .cells [s6_0, s6_1, s6_2, s6_3, s6_4, s6_5, s6_6]), (8, .own 2 l8)] Q3)
  (fun _ => k .normal [(1, .v t1), (2, .v t2), (3, .lp 3 0), (6, .lp 6 0), (8, .ls 8), (9, .v t9)] [(3, .cells [s13, s14, s15, s16, s17, s18, s19]), (6, .cells [s6_0, s6_1, s6_2, s6_3, s6_4, s6_5, s6_6]), (8, .own 2 l8)] Q3))) := by kernel_rfl
theorem p_nak_Skips_1 {β : Type} (call : CallF) (lp : PLoopF) (t1 t2 t9 s3_0 s3_1 s3_2 s3_3 s3_4 s3_5 s3_6 s6_0 s6_1 s6_2 s6_3 s6_4 s6_5 s6_6 : AV) (l8 : List AV) (Q : AHeap) (k : PK β) : evalPK call lp c_nak_Skips_1 [(1, .v t1), (2, .v t2), (3, .lp 3 0), (6, .lp 6 0), (8, .ls 8), (9, .v t9)] [(3, .cells [s3_0, s3_1, s3_2, s3_3, s3_4, s3_5, s3_6]), (6, .cells [s6_0, s6_1, s6_2, s6_3, s6_4, s6_5, s6_6]), (8, .own 2 l8)] Q k = (
  bnP (binA .leq s3_0 t1) fun w29_1 => 
  cndS w29_1 (fun _ => bnX (bnS (call 58 [.agg [s3_0, s3_1, s3_2, s3_3, s3_4, s3_5, s3_6], t1] Q) fun w33_2 Q3 => 
  bnP (extA (frz w33_2) 0) fun w34_4 => 
  bnP (extA (frz w33_2) 1) fun w35_5 => 
  bnX (bnP (binA .geq w34_4 s3_0) fun w39_6 => 
  cndS w39_6 (fun _ => bnS (call 59 [s3_4, s3_0, w34_4, t2] Q3) fun w46_7 Q8 => 
  bnC 1 (stC 1 (frz w46_7)) fun s9 => 
  bnC 2 (fillP [.int .i64 0, .int .i64 0] [(0, 1, s3_0), (1, 1, w34_4)]) fun c52_10 c52_11 => 
  pinB (elOk 2 (.agg [c52_10, c52_11])) <| 
  pinB (room 16 ((l8 : List AV).length + (([.agg [c52_10, c52_11]] : List AV) : List AV).length)) <| 
  bnP (binA .add w34_4 (.int .i64 1)) fun w56_12 => 
  bnC 1 (stC 1 w56_12) fun s13 => 
  some (.normal, [(1, .v t1), (2, .v t2), (3, .lp 3 0), (6, .lp 6 0), (8, .ls 8), (9, .v t9), (11, .v w35_5)], [(3, .cells [s13, s3_1, s3_2, s3_3, s9, s3_5, s3_6]), (6, .cells [s6_0, s6_1, s6_2, s6_3, s6_4, s6_5, s6_6]), (8, .own 2 (l8 ++ ([.agg [c52_10, c52_11]] : List AV)))], Q8))
  (fun _ => some (.normal, [(1, .v t1), (2, .v t2), (3, .lp 3 0), (6, .lp 6 0), (8, .ls 8), (9, .v t9), (11, .v w35_5)], [(3, .cells [s3_0, s3_1, s3_2, s3_3, s3_4, s3_5, s3_6]), (6, .cells [s6_0, s6_1, s6_2, s6_3, s6_4, s6_5, s6_6]), (8, .own 2 l8)], Q3)))
  (goC (evalPK call lp c_nak_Skips_0) ret4))
  (outX 1 (finC [] [] [1, 2, 3, 6, 8, 9] [(3, 3), (6, 6), (8, 8)] k)))
  (fun _ => k (.exit 0) [(3, .lp 3 0), (6, .lp 6 0), (8, .ls 8), (9, .v t9)] [(3, .cells [s3_0, s3_1, s3_2, s3_3, s3_4, s3_5, s3_6]), (6, .cells [s6_0, s6_1, s6_2, s6_3, s6_4, s6_5, s6_6]), (8, .own 2 l8)] Q)) := by kernel_rfl
noncomputable def L_nak_Skips_1 (s : PSpecs) (t1 t2 t9 s3_0 s3_1 s3_2 s3_3 s3_4 s3_5 s3_6 s6_0 s6_1 s6_2 s6_3 s6_4 s6_5 s6_6 : AV) (l8 : List AV) (Q : AHeap) : Option PEnd := loopP (penv s) c_nak_Skips_1 [(1, .v t1), (2, .v t2), (3, .lp 3 0), (6, .lp 6 0), (8, .ls 8), (9, .v t9)] [(3, .cells [s3_0, s3_1, s3_2, s3_3, s3_4, s3_5, s3_6]), (6, .cells [s6_0, s6_1, s6_2, s6_3, s6_4, s6_5, s6_6]), (8, .own 2 l8)] Q
theorem L_nak_Skips_1_fold (s : PSpecs) (t1 t2 t9 s3_0 s3_1 s3_2 s3_3 s3_4 s3_5 s3_6 s6_0 s6_1 s6_2 s6_3 s6_4 s6_5 s6_6 : AV) (l8 : List AV) (Q : AHeap) : loopP (penv s) c_nak_Skips_1 [(1, .v t1), (2, .v t2), (3, .lp 3 0), (6, .lp 6 0), (8, .ls 8), (9, .v t9)] [(3, .cells [s3_0, s3_1, s3_2, s3_3, s3_4, s3_5, s3_6]), (6, .cells [s6_0, s6_1, s6_2, s6_3, s6_4, s6_5, s6_6]), (8, .own 2 l8)] Q = L_nak_Skips_1 s t1 t2 t9 s3_0 s3_1 s3_2 s3_3 s3_4 s3_5 s3_6 s6_0 s6_1 s6_2 s6_3 s6_4 s6_5 s6_6 l8 Q := rfl
theorem L_nak_Skips_1_eq (s : PSpecs) (t1 t2 t9 s3_0 s3_1 s3_2 s3_3 s3_4 s3_5 s3_6 s6_0 s6_1 s6_2 s6_3 s6_4 s6_5 s6_6 : AV) (l8 : List AV) (Q : AHeap) : L_nak_Skips_1 s t1 t2 t9 s3_0 s3_1 s3_2 s3_3 s3_4 s3_5 s3_6 s6_0 s6_1 s6_2 s6_3 s6_4 s6_5 s6_6 l8 Q = evalPK (callP (penv s)) (loopP (penv s)) c_nak_Skips_1 [(1, .v t1), (2, .v t2), (3, .lp 3 0), (6, .lp 6 0), (8, .ls 8), (9, .v t9)] [(3, .cells [s3_0, s3_1, s3_2, s3_3, s3_4, s3_5, s3_6]), (6, .cells [s6_0, s6_1, s6_2, s6_3, s6_4, s6_5, s6_6]), (8, .own 2 l8)] Q (goX (fun τ ω Q => loopP (penv s) c_nak_Skips_1 τ ω Q) ret4) := loopP_body
abbrev X_nak_Skips_1_x0 (t9 s3_0 s3_1 s3_2 s3_3 s3_4 s3_5 s3_6 s6_0 s6_1 s6_2 s6_3 s6_4 s6_5 s6_6 : AV) (l8 : List AV) (Q : AHeap) : Option PEnd := some (.exit 0, [(3, .lp 3 0), (6, .lp 6 0), (8, .ls 8), (9, .v t9)], [(3, .cells [s3_0, s3_1, s3_2, s3_3, s3_4, s3_5, s3_6]), (6, .cells [s6_0, s6_1, s6_2, s6_3, s6_4, s6_5, s6_6]), (8, .own 2 l8)], Q)
theorem p_nak_Skips_2 {β : Type} (call : CallF) (lp : PLoopF) (s3_0 s3_1 s3_2 s3_3 s3_4 s3_5 s3_6 s6_0 s6_1 s6_2 s6_3 s6_4 s6_5 s6_6 : AV) (l8 : List AV) (Q : AHeap) (k : PK β) : evalPK call lp c_nak_Skips_2 [(3, .lp 3 0), (6, .lp 6 0), (8, .ls 8)] [(3, .cells [s3_0, s3_1, s3_2, s3_3, s3_4, s3_5, s3_6]), (6, .cells [s6_0, s6_1, s6_2, s6_3, s6_4, s6_5, s6_6]), (8, .own 2 l8)] Q k = (
  bnC 7 (stC 7 (.agg [s3_0, s3_1, s3_2, s3_3, s3_4, s3_5, s3_6])) fun s1 s2 s3 s4 s5 s6 s7 => 
  k .ret [(7, .ls 8), (76, .ls 8), (75, .v (.agg [s3_0, s3_1, s3_2, s3_3, s3_4, s3_5, s3_6])), (3, .lp 3 0), (6, .lp 6 0), (8, .ls 8)] [(6, .cells [s1, s2, s3, s4, s5, s6, s7]), (3, .cells [s3_0, s3_1, s3_2, s3_3, s3_4, s3_5, s3_6]), (8, .own 2 l8)] Q) := by kernel_rfl
theorem p_nak_Skips_3 {β : Type} (call : CallF) (lp : PLoopF) (t9 s3_0 s3_1 s3_2 s3_3 s3_4 s3_5 s3_6 s6_0 s6_1 s6_2 s6_3 s6_4 s6_5 s6_6 : AV) (l8 : List AV) (Q : AHeap) (k : PK β) : evalPK call lp c_nak_Skips_3 [(3, .lp 3 0), (6, .lp 6 0), (8, .ls 8), (9, .v t9)] [(3, .cells [s3_0, s3_1, s3_2, s3_3, s3_4, s3_5, s3_6]), (6, .cells [s6_0, s6_1, s6_2, s6_3, s6_4, s6_5, s6_6]), (8, .own 2 l8)] Q k = (
  bnX (bnP (binA .neq s3_0 t9) fun w72_1 => 
  cndS w72_1 (fun _ => bnS (call 61 [] Q) fun w73_2 Q3 => 
  bnC 2 (stC 2 (frz w73_2)) fun s4 s5 => 
  some (.normal, [(3, .lp 3 0), (6, .lp 6 0), (8, .ls 8)], [(3, .cells [s3_0, s3_1, s3_2, s3_3, s3_4, s4, s5]), (6, .cells [s6_0, s6_1, s6_2, s6_3, s6_4, s6_5, s6_6]), (8, .own 2 l8)], Q3))
  (fun _ => some (.normal, [(3, .lp 3 0), (6, .lp 6 0), (8, .ls 8)], [(3, .cells [s3_0, s3_1, s3_2, s3_3, s3_4, s3_5, s3_6]), (6, .cells [s6_0, s6_1, s6_2, s6_3, s6_4, s6_5, s6_6]), (8, .own 2 l8)], Q)))
  (goC (evalPK call lp c_nak_Skips_2) k)) := by kernel_rfl
theorem g_nak_Skips {call : CallF} {lp : PLoopF} (v0_0 v0_1 v0_2 v0_3 v0_4 v0_5 v0_6 v1 v2 : AV) (Q : AHeap) : evalPK call lp c_nak_Skips [(0, .v (.agg [v0_0, v0_1, v0_2, v0_3, v0_4, v0_5, v0_6])), (1, .v v1), (2, .v v2)] [] Q (retPK [.cell 6 (some 7), .tmp 7] [.n, .f 2]) = (
  bnC 7 (stC 7 (.agg [v0_0, v0_1, v0_2, v0_3, v0_4, v0_5, v0_6])) fun s1 s2 s3 s4 s5 s6 s7 => 
  bnS (call 57 [.agg [s1, s2, s3, s4, s5, s6, s7]] Q) fun w15_8 Q9 => 
  bnC 7 (stC 7 (frz w15_8)) fun s10 s11 s12 s13 s14 s15 s16 => 
  bnP (binA .lss s10 (.int .i64 1)) fun w18_17 => 
  bnP (gdQ w18_17 false (some v1)) fun w20_18 => 
  bnP (gdQ w18_17 false (binA .gtr w20_18 (.int .i64 1000000))) fun w21_19 => 
  bnP (pickA w18_17 (.bool true) w21_19) fun w22_20 => 
  cndS w22_20 (fun _ => bnC 7 (stC 7 (.agg [s10, s11, s12, s13, s14, s15, s16])) fun s21 s22 s23 s24 s25 s26 s27 => 
  some (.tup [.agg [s21, s22, s23, s24, s25, s26, s27], .fz 2 []], Q9))
  (fun _ => bnX (lp c_nak_Skips_1 [(1, .v v1), (2, .v v2), (3, .lp 3 0), (6, .lp 6 0), (8, .ls 8), (9, .v s10)] [(3, .cells [s10, s11, s12, s13, s14, s15, s16]), (6, .cells [.int .i64 0, .int .i64 0, .nils, .nils, .nils, .int .i64 0, .int .i64 0]), (8, .own 2 ([] : List AV))] Q9) (outX 0 (goC (evalPK call lp c_nak_Skips_3) (retPK [.cell 6 (some 7), .tmp 7] [.n, .f 2]))))) := by kernel_rfl
def f_nak_Skips {s : PSpecs} (hs : s.lookup 38 = none) (v0_0 v0_1 v0_2 v0_3 v0_4 v0_5 v0_6 v1 v2 : AV) (Q : AHeap) := (callP_fn (E := penv s) (f := 38) (fn := pf_nak_Skips) hs rfl [.agg [v0_0, v0_1, v0_2, v0_3, v0_4, v0_5, v0_6], v1, v2] Q rfl).trans (g_nak_Skips (call := callP (penv s)) (lp := loopP (penv s)) v0_0 v0_1 v0_2 v0_3 v0_4 v0_5 v0_6 v1 v2 Q)
theorem g_nak_Goes {call : CallF} {lp : PLoopF} (v0_0 v0_1 v0_2 v0_3 v0_4 v0_5 v0_6 : AV) (Q : AHeap) : evalPK call lp c_nak_Goes [(0, .v (.agg [v0_0, v0_1, v0_2, v0_3, v0_4, v0_5, v0_6]))] [] Q (retPK [.cell 2 (some 7), .tmp 3] [.n, .f 2]) = (
  bnC 7 (stC 7 (.agg [v0_0, v0_1, v0_2, v0_3, v0_4, v0_5, v0_6])) fun s1 s2 s3 s4 s5 s6 s7 => 
  bnS (call 57 [.agg [s1, s2, s3, s4, s5, s6, s7]] Q) fun w5_8 Q9 => 
  bnS (call 60 [(frz w5_8)] Q9) fun w6_10 Q11 => 
  bnP (extA (frz w6_10) 0) fun w7_12 => 
  bnP (extA (frz w6_10) 1) fun w8_13 => 
  bnC 7 (stC 7 w7_12) fun s14 s15 s16 s17 s18 s19 s20 => 
  bnP (rcv false (.f 2) w8_13) fun r21 => some (.tup [.agg [s14, s15, s16, s17, s18, s19, s20], frz r21], Q11)) := by kernel_rfl
def f_nak_Goes {s : PSpecs} (hs : s.lookup 39 = none) (v0_0 v0_1 v0_2 v0_3 v0_4 v0_5 v0_6 : AV) (Q : AHeap) := (callP_fn (E := penv s) (f := 39) (fn := pf_nak_Goes) hs rfl [.agg [v0_0, v0_1, v0_2, v0_3, v0_4, v0_5, v0_6]] Q rfl).trans (g_nak_Goes (call := callP (penv s)) (lp := loopP (penv s)) v0_0 v0_1 v0_2 v0_3 v0_4 v0_5 v0_6 Q)
theorem g_pleachref1_MaySpan {call : CallF} {lp : PLoopF} (v0_0 v0_1 : AV) (Q : AHeap) : evalPK call lp c_pleachref1_MaySpan [(0, .v (.agg [v0_0, v0_1]))] [] Q (retPK [.tmp 2] [.n]) = (
  bnC 2 (stC 2 (.agg [v0_0, v0_1])) fun s1 s2 => 
  bnP (binA .geq s1 (.int .i64 1)) fun w5_3 => 
  bnP (gdQ w5_3 true (some s1)) fun w8_4 => 
  bnP (gdQ w5_3 true (some s2)) fun w10_5 => 
  bnP (gdQ w5_3 true (binA .leq w8_4 w10_5)) fun w11_6 => 
  bnP (pickA w5_3 w11_6 (.bool false)) fun w12_7 => 
  bnP (gdQ w12_7 true (some s2)) fun w15_8 => 
  bnP (gdQ w12_7 true (binA .leq w15_8 (.int .i64 1000000))) fun w16_9 => 
  bnP (pickA w12_7 w16_9 (.bool false)) fun w17_10 => 
  bnP (rcv false .n w17_10) fun r11 => some (r11, Q)) := by kernel_rfl
def f_pleachref1_MaySpan {s : PSpecs} (hs : s.lookup 40 = none) (v0_0 v0_1 : AV) (Q : AHeap) := (callP_fn (E := penv s) (f := 40) (fn := pf_pleachref1_MaySpan) hs rfl [.agg [v0_0, v0_1]] Q rfl).trans (g_pleachref1_MaySpan (call := callP (penv s)) (lp := loopP (penv s)) v0_0 v0_1 Q)
theorem p_pleachref13_Skips_0 {β : Type} (call : CallF) (lp : PLoopF) (t1 t2 s3_0 s3_1 s3_2 s3_3 s3_4 s3_5 s3_6 s6_0 s6_1 s6_2 s6_3 s6_4 s6_5 s6_6 : AV) (l8 : List AV) (Q : AHeap) (k : PK β) : evalPK call lp c_pleachref13_Skips_0 [(1, .v t1), (2, .v t2), (3, .lp 3 0), (6, .lp 6 0), (8, .ls 8)] [(3, .cells [s3_0, s3_1, s3_2, s3_3, s3_4, s3_5, s3_6]), (6, .cells [s6_0, s6_1, s6_2, s6_3, s6_4, s6_5, s6_6]), (8, .own 2 l8)] Q k = (
  bnP (binA .leq s3_0 t1) fun w65_1 => 
  cndS w65_1 (fun _ => bnS (call 42 [.agg [s3_0, s3_1, s3_2, s3_3, s3_4, s3_5, s3_6]] Q) fun w68_2 Q3 => 
  bnP (extA (frz w68_2) 0) fun w69_4 => 
  bnP (extA (frz w68_2) 1) fun w70_5 => 
  bnC 7 (stC 7 w69_4) fun s6 s7 s8 s9 s10 s11 s12 => 
  k .normal [(1, .v t1), (2, .v t2), (3, .lp 3 0), (6, .lp 6 0), (8, .ls 8)] [(3, .cells [s6, s7, s8, s9, s10, s11, s12]), (6, .cells [s6_0, s6_1, s6_2, s6_3, s6_4, s6_5, s6_6]), (8, .own 2 l8)] Q3)
  (fun _ => k .normal [(1, .v t1), (2, .v t2), (3, .lp 3 0), (6, .lp 6 0), (8, .ls 8)] [(3, .cells [s3_0, s3_1, s3_2, s3_3, s3_4, s3_5, s3_6]), (6, .cells [s6_0, s6_1, s6_2, s6_3, s6_4, s6_5, s6_6]), (8, .own 2 l8)] Q)) := by kernel_rfl
theorem p_pleachref13_Skips_1 {β : Type} (call : CallF) (lp : PLoopF) (t1 t2 t9 s3_0 s3_1 s3_2 s3_3 s3_4 s3_5 s3_6 s6_0 s6_1 s6_2 s6_3 s6_4 s6_5 s6_6 : AV) (l8 : List AV) (Q : AHeap) (k : PK β) : evalPK call lp c_pleachref13_Skips_1 [(1, .v t1), (2, .v t2), (3, .lp 3 0), (6, .lp 6 0), (8, .ls 8), (9, .v t9)] [(3, .cells [s3_0, s3_1, s3_2, s3_3, s3_4, s3_5, s3_6]), (6, .cells [s6_0, s6_1, s6_2, s6_3, s6_4, s6_5, s6_6]), (8, .own 2 l8)] Q k = (
  bnX (bnP (binA .geq t9 s3_0) fun w43_1 => 
  cndS w43_1 (fun _ => bnS (call 63 [s3_4, s3_0, t9, t2] Q) fun w50_2 Q3 => 
  bnC 1 (stC 1 (frz w50_2)) fun s4 => 
  bnC 2 (fillP [.int .i64 0, .int .i64 0] [(0, 1, s3_0), (1, 1, t9)]) fun c56_5 c56_6 => 
  pinB (elOk 2 (.agg [c56_5, c56_6])) <| 
  pinB (room 16 ((l8 : List AV).length + (([.agg [c56_5, c56_6]] : List AV) : List AV).length)) <| 
  bnP (binA .add t9 (.int .i64 1)) fun w60_7 => 
  bnC 1 (stC 1 w60_7) fun s8 => 
  some (.normal, [(1, .v t1), (2, .v t2), (3, .lp 3 0), (6, .lp 6 0), (8, .ls 8)], [(3, .cells [s8, s3_1, s3_2, s3_3, s4, s3_5, s3_6]), (6, .cells [s6_0, s6_1, s6_2, s6_3, s6_4, s6_5, s6_6]), (8, .own 2 (l8 ++ ([.agg [c56_5, c56_6]] : List AV)))], Q3))
  (fun _ => some (.normal, [(1, .v t1), (2, .v t2), (3, .lp 3 0), (6, .lp 6 0), (8, .ls 8)], [(3, .cells [s3_0, s3_1, s3_2, s3_3, s3_4, s3_5, s3_6]), (6, .cells [s6_0, s6_1, s6_2, s6_3, s6_4, s6_5, s6_6]), (8, .own 2 l8)], Q)))
  (goC (evalPK call lp c_pleachref13_Skips_0) k)) := by kernel_rfl
theorem p_pleachref13_Skips_2 {β : Type} (call : CallF) (lp : PLoopF) (t1 t2 s3_0 s3_1 s3_2 s3_3 s3_4 s3_5 s3_6 s6_0 s6_1 s6_2 s6_3 s6_4 s6_5 s6_6 : AV) (l8 : List AV) (Q : AHeap) (k : PK β) : evalPK call lp c_pleachref13_Skips_2 [(1, .v t1), (2, .v t2), (3, .lp 3 0), (6, .lp 6 0), (8, .ls 8)] [(3, .cells [s3_0, s3_1, s3_2, s3_3, s3_4, s3_5, s3_6]), (6, .cells [s6_0, s6_1, s6_2, s6_3, s6_4, s6_5, s6_6]), (8, .own 2 l8)] Q k = (
  bnP (binA .leq s3_0 t1) fun w21_1 => 
  cndS w21_1 (fun _ => bnX (bnX (bnP (lenQ s3_3) fun w27_2 => 
  bnP (binA .gtr w27_2 (.int .i64 0)) fun w28_3 => 
  bnP (gdQ w28_3 true (some s3_3)) fun w31_4 => 
  bnS (gdH w28_3 true (call 62 [w31_4] Q) Q) fun w32_5 Q6 => 
  bnP (gdQ w28_3 true (some t1)) fun w33_7 => 
  bnP (gdQ w28_3 true (binA .leq (frz w32_5) w33_7)) fun w34_8 => 
  bnP (pickA w28_3 w34_8 (.bool false)) fun w35_9 => 
  cndS w35_9 (fun _ => bnS (call 62 [s3_3] Q6) fun w38_10 Q11 => 
  bnP (binA .sub (frz w38_10) (.int .i64 1)) fun w39_12 => 
  some (.normal, [(1, .v t1), (2, .v t2), (3, .lp 3 0), (6, .lp 6 0), (8, .ls 8), (9, .v w39_12)], [(3, .cells [s3_0, s3_1, s3_2, s3_3, s3_4, .int .i64 0, .int .i64 0]), (6, .cells [s6_0, s6_1, s6_2, s6_3, s6_4, s6_5, s6_6]), (8, .own 2 l8)], Q11))
  (fun _ => some (.normal, [(1, .v t1), (2, .v t2), (3, .lp 3 0), (6, .lp 6 0), (8, .ls 8), (9, .v t1)], [(3, .cells [s3_0, s3_1, s3_2, s3_3, s3_4, .int .i64 0, .int .i64 0]), (6, .cells [s6_0, s6_1, s6_2, s6_3, s6_4, s6_5, s6_6]), (8, .own 2 l8)], Q6)))
  (goC (evalPK call lp c_pleachref13_Skips_1) ret4))
  (outX 1 (finC [] [] [1, 2, 3, 6, 8] [(3, 3), (6, 6), (8, 8)] k)))
  (fun _ => k (.exit 0) [(3, .lp 3 0), (6, .lp 6 0), (8, .ls 8)] [(3, .cells [s3_0, s3_1, s3_2, s3_3, s3_4, s3_5, s3_6]), (6, .cells [s6_0, s6_1, s6_2, s6_3, s6_4, s6_5, s6_6]), (8, .own 2 l8)] Q)) := by kernel_rfl
noncomputable def L_pleachref13_Skips_2 (s : PSpecs) (t1 t2 s3_0 s3_1 s3_2 s3_3 s3_4 s3_5 s3_6 s6_0 s6_1 s6_2 s6_3 s6_4 s6_5 s6_6 : AV) (l8 : List AV) (Q : AHeap) : Option PEnd := loopP (penv s) c_pleachref13_Skips_2 [(1, .v t1), (2, .v t2), (3, .lp 3 0), (6, .lp 6 0), (8, .ls 8)] [(3, .cells [s3_0, s3_1, s3_2, s3_3, s3_4, s3_5, s3_6]), (6, .cells [s6_0, s6_1, s6_2, s6_3, s6_4, s6_5, s6_6]), (8, .own 2 l8)] Q
theorem L_pleachref13_Skips_2_fold (s : PSpecs) (t1 t2 s3_0 s3_1 s3_2 s3_3 s3_4 s3_5 s3_6 s6_0 s6_1 s6_2 s6_3 s6_4 s6_5 s6_6 : AV) (l8 : List AV) (Q : AHeap) : loopP (penv s) c_pleachref13_Skips_2 [(1, .v t1), (2, .v t2), (3, .lp 3 0), (6, .lp 6 0), (8, .ls 8)] [(3, .cells [s3_0, s3_1, s3_2, s3_3, s3_4, s3_5, s3_6]), (6, .cells [s6_0, s6_1, s6_2, s6_3, s6_4, s6_5, s6_6]), (8, .own 2 l8)] Q = L_pleachref13_Skips_2 s t1 t2 s3_0 s3_1 s3_2 s3_3 s3_4 s3_5 s3_6 s6_0 s6_1 s6_2 s6_3 s6_4 s6_5 s6_6 l8 Q := rfl
theorem L_pleachref13_Skips_2_eq (s : PSpecs) (t1 t2 s3_0 s3_1 s3_2 s3_3 s3_4 s3_5 s3_6 s6_0 s6_1 s6_2 s6_3 s6_4 s6_5 s6_6 : AV) (l8 : List AV) (Q : AHeap) : L_pleachref13_Skips_2 s t1 t2 s3_0 s3_1 s3_2 s3_3 s3_4 s3_5 s3_6 s6_0 s6_1 s6_2 s6_3 s6_4 s6_5 s6_6 l8 Q = evalPK (callP (penv s)) (loopP (penv s)) c_pleachref13_Skips_2 [(1, .v t1), (2, .v t2), (3, .lp 3 0), (6, .lp 6 0), (8, .ls 8)] [(3, .cells [s3_0, s3_1, s3_2, s3_3, s3_4, s3_5, s3_6]), (6, .cells [s6_0, s6_1, s6_2, s6_3, s6_4, s6_5, s6_6]), (8, .own 2 l8)] Q (goX (fun τ ω Q => loopP (penv s) c_pleachref13_Skips_2 τ ω Q) ret4) := loopP_body
abbrev X_pleachref13_Skips_2_x0 (s3_0 s3_1 s3_2 s3_3 s3_4 s3_5 s3_6 s6_0 s6_1 s6_2 s6_3 s6_4 s6_5 s6_6 : AV) (l8 : List AV) (Q : AHeap) : Option PEnd := some (.exit 0, [(3, .lp 3 0), (6, .lp 6 0), (8, .ls 8)], [(3, .cells [s3_0, s3_1, s3_2, s3_3, s3_4, s3_5, s3_6]), (6, .cells [s6_0, s6_1, s6_2, s6_3, s6_4, s6_5, s6_6]), (8, .own 2 l8)], Q)
theorem p_pleachref13_Skips_3 {β : Type} (call : CallF) (lp : PLoopF) (s3_0 s3_1 s3_2 s3_3 s3_4 s3_5 s3_6 s6_0 s6_1 s6_2 s6_3 s6_4 s6_5 s6_6 : AV) (l8 : List AV) (Q : AHeap) (k : PK β) : evalPK call lp c_pleachref13_Skips_3 [(3, .lp 3 0), (6, .lp 6 0), (8, .ls 8)] [(3, .cells [s3_0, s3_1, s3_2, s3_3, s3_4, s3_5, s3_6]), (6, .cells [s6_0, s6_1, s6_2, s6_3, s6_4, s6_5, s6_6]), (8, .own 2 l8)] Q k = (
  bnC 7 (stC 7 (.agg [s3_0, s3_1, s3_2, s3_3, s3_4, s3_5, s3_6])) fun s1 s2 s3 s4 s5 s6 s7 => 
  k .ret [(7, .ls 8), (72, .ls 8), (71, .v (.agg [s3_0, s3_1, s3_2, s3_3, s3_4, s3_5, s3_6])), (3, .lp 3 0), (6, .lp 6 0), (8, .ls 8)] [(6, .cells [s1, s2, s3, s4, s5, s6, s7]), (3, .cells [s3_0, s3_1, s3_2, s3_3, s3_4, s3_5, s3_6]), (8, .own 2 l8)] Q) := by kernel_rfl
theorem g_pleachref13_Skips {call : CallF} {lp : PLoopF} (v0_0 v0_1 v0_2 v0_3 v0_4 v0_5 v0_6 v1 v2 : AV) (Q : AHeap) : evalPK call lp c_pleachref13_Skips [(0, .v (.agg [v0_0, v0_1, v0_2, v0_3, v0_4, v0_5, v0_6])), (1, .v v1), (2, .v v2)] [] Q (retPK [.cell 6 (some 7), .tmp 7] [.n, .f 2]) = (
  bnC 7 (stC 7 (.agg [v0_0, v0_1, v0_2, v0_3, v0_4, v0_5, v0_6])) fun s1 s2 s3 s4 s5 s6 s7 => 
  bnP (binA .lss s1 (.int .i64 1)) fun w12_8 => 
  bnP (gdQ w12_8 false (some v1)) fun w14_9 => 
  bnP (gdQ w12_8 false (binA .gtr w14_9 (.int .i64 1000000))) fun w15_10 => 
  bnP (pickA w12_8 (.bool true) w15_10) fun w16_11 => 
  cndS w16_11 (fun _ => bnC 7 (stC 7 (.agg [s1, s2, s3, s4, s5, s6, s7])) fun s12 s13 s14 s15 s16 s17 s18 => 
  some (.tup [.agg [s12, s13, s14, s15, s16, s17, s18], .fz 2 []], Q))
  (fun _ => bnX (lp c_pleachref13_Skips_2 [(1, .v v1), (2, .v v2), (3, .lp 3 0), (6, .lp 6 0), (8, .ls 8)] [(3, .cells [s1, s2, s3, s4, s5, s6, s7]), (6, .cells [.int .i64 0, .int .i64 0, .nils, .nils, .nils, .int .i64 0, .int .i64 0]), (8, .own 2 ([] : List AV))] Q) (outX 0 (goC (evalPK call lp c_pleachref13_Skips_3) (retPK [.cell 6 (some 7), .tmp 7] [.n, .f 2]))))) := by kernel_rfl
def f_pleachref13_Skips {s : PSpecs} (hs : s.lookup 41 = none) (v0_0 v0_1 v0_2 v0_3 v0_4 v0_5 v0_6 v1 v2 : AV) (Q : AHeap) := (callP_fn (E := penv s) (f := 41) (fn := pf_pleachref13_Skips) hs rfl [.agg [v0_0, v0_1, v0_2, v0_3, v0_4, v0_5, v0_6], v1, v2] Q rfl).trans (g_pleachref13_Skips (call := callP (penv s)) (lp := loopP (penv s)) v0_0 v0_1 v0_2 v0_3 v0_4 v0_5 v0_6 v1 v2 Q)
theorem p_pleachref13_Goes_0 {β : Type} (call : CallF) (lp : PLoopF) (s1_0 s1_1 s1_2 s1_3 s1_4 s1_5 s1_6 s2_0 s2_1 s2_2 s2_3 s2_4 s2_5 s2_6 : AV) (l4 : List AV) (Q : AHeap) (k : PK β) : evalPK call lp c_pleachref13_Goes_0 [(1, .lp 1 0), (2, .lp 2 0), (4, .ls 4)] [(1, .cells [s1_0, s1_1, s1_2, s1_3, s1_4, s1_5, s1_6]), (2, .cells [s2_0, s2_1, s2_2, s2_3, s2_4, s2_5, s2_6]), (4, .own 2 l4)] Q k = (
  bnS (call 64 [s1_3, s1_0] Q) fun w13_1 Q2 => 
  bnP (extA (frz w13_1) 0) fun w14_3 => 
  bnP (extA (frz w13_1) 1) fun w15_4 => 
  bnP (extA (frz w13_1) 2) fun w16_5 => 
  bnC 2 (stC 2 w15_4) fun s6 s7 => 
  bnP (unA .not w16_5) fun w18_8 => 
  cndS w18_8 (fun _ => bnC 7 (stC 7 (.agg [s1_0, s1_1, s1_2, s1_3, s1_4, s1_5, s1_6])) fun s9 s10 s11 s12 s13 s14 s15 => 
  k .ret [(2, .lp 2 0), (3, .ls 3)] [(2, .cells [s9, s10, s11, s12, s13, s14, s15]), (3, .own 2 l4)] Q2)
  (fun _ => bnS (call 47 [s1_4, s6, s7] Q2) fun w28_16 Q17 => 
  bnS (call 48 [s1_2, .agg [s6, s7]] Q17) fun w32_18 Q19 => 
  bnC 1 (stC 1 w14_3) fun s20 => 
  bnC 1 (stC 1 (frz w28_16)) fun s21 => 
  bnC 1 (stC 1 (frz w32_18)) fun s22 => 
  bnP (binA .add s1_0 (.int .i64 1)) fun w38_23 => 
  bnC 1 (stC 1 w38_23) fun s24 => 
  pinB (elOk 2 (.agg [s6, s7])) <| 
  pinB (room 24 ((l4 : List AV).length + (([.agg [s6, s7]] : List AV) : List AV).length)) <| 
  k .normal [(1, .lp 1 0), (2, .lp 2 0), (4, .ls 4)] [(1, .cells [s24, s1_1, s22, s20, s21, .int .i64 0, .int .i64 0]), (2, .cells [s2_0, s2_1, s2_2, s2_3, s2_4, s2_5, s2_6]), (4, .own 2 (l4 ++ ([.agg [s6, s7]] : List AV)))] Q19)) := by kernel_rfl
noncomputable def L_pleachref13_Goes_0 (s : PSpecs) (s1_0 s1_1 s1_2 s1_3 s1_4 s1_5 s1_6 s2_0 s2_1 s2_2 s2_3 s2_4 s2_5 s2_6 : AV) (l4 : List AV) (Q : AHeap) : Option PEnd := loopP (penv s) c_pleachref13_Goes_0 [(1, .lp 1 0), (2, .lp 2 0), (4, .ls 4)] [(1, .cells [s1_0, s1_1, s1_2, s1_3, s1_4, s1_5, s1_6]), (2, .cells [s2_0, s2_1, s2_2, s2_3, s2_4, s2_5, s2_6]), (4, .own 2 l4)] Q
theorem L_pleachref13_Goes_0_fold (s : PSpecs) (s1_0 s1_1 s1_2 s1_3 s1_4 s1_5 s1_6 s2_0 s2_1 s2_2 s2_3 s2_4 s2_5 s2_6 : AV) (l4 : List AV) (Q : AHeap) : loopP (penv s) c_pleachref13_Goes_0 [(1, .lp 1 0), (2, .lp 2 0), (4, .ls 4)] [(1, .cells [s1_0, s1_1, s1_2, s1_3, s1_4, s1_5, s1_6]), (2, .cells [s2_0, s2_1, s2_2, s2_3, s2_4, s2_5, s2_6]), (4, .own 2 l4)] Q = L_pleachref13_Goes_0 s s1_0 s1_1 s1_2 s1_3 s1_4 s1_5 s1_6 s2_0 s2_1 s2_2 s2_3 s2_4 s2_5 s2_6 l4 Q := rfl
theorem L_pleachref13_Goes_0_eq (s : PSpecs) (s1_0 s1_1 s1_2 s1_3 s1_4 s1_5 s1_6 s2_0 s2_1 s2_2 s2_3 s2_4 s2_5 s2_6 : AV) (l4 : List AV) (Q : AHeap) : L_pleachref13_Goes_0 s s1_0 s1_1 s1_2 s1_3 s1_4 s1_5 s1_6 s2_0 s2_1 s2_2 s2_3 s2_4 s2_5 s2_6 l4 Q = evalPK (callP (penv s)) (loopP (penv s)) c_pleachref13_Goes_0 [(1, .lp 1 0), (2, .lp 2 0), (4, .ls 4)] [(1, .cells [s1_0, s1_1, s1_2, s1_3, s1_4, s1_5, s1_6]), (2, .cells [s2_0, s2_1, s2_2, s2_3, s2_4, s2_5, s2_6]), (4, .own 2 l4)] Q (goX (fun τ ω Q => loopP (penv s) c_pleachref13_Goes_0 τ ω Q) ret4) := loopP_body
abbrev X_pleachref13_Goes_0_ret (s2_0 s2_1 s2_2 s2_3 s2_4 s2_5 s2_6 : AV) (l3 : List AV) (Q : AHeap) : Option PEnd := some (.ret, [(2, .lp 2 0), (3, .ls 3)], [(2, .cells [s2_0, s2_1, s2_2, s2_3, s2_4, s2_5, s2_6]), (3, .own 2 l3)], Q)
theorem g_pleachref13_Goes {call : CallF} {lp : PLoopF} (v0_0 v0_1 v0_2 v0_3 v0_4 v0_5 v0_6 : AV) (Q : AHeap) : evalPK call lp c_pleachref13_Goes [(0, .v (.agg [v0_0, v0_1, v0_2, v0_3, v0_4, v0_5, v0_6]))] [] Q (retPK [.cell 2 (some 7), .tmp 3] [.n, .f 2]) = (
  bnC 7 (stC 7 (.agg [v0_0, v0_1, v0_2, v0_3, v0_4, v0_5, v0_6])) fun s1 s2 s3 s4 s5 s6 s7 => 
  bnX (lp c_pleachref13_Goes_0 [(1, .lp 1 0), (2, .lp 2 0), (4, .ls 4)] [(1, .cells [s1, s2, s3, s4, s5, s6, s7]), (2, .cells [.int .i64 0, .int .i64 0, .nils, .nils, .nils, .int .i64 0, .int .i64 0]), (4, .own 2 ([] : List AV))] Q) (outX 0 (retPK [.cell 2 (some 7), .tmp 3] [.n, .f 2]))) := by kernel_rfl
def f_pleachref13_Goes {s : PSpecs} (hs : s.lookup 42 = none) (v0_0 v0_1 v0_2 v0_3 v0_4 v0_5 v0_6 : AV) (Q : AHeap) := (callP_fn (E := penv s) (f := 42) (fn := pf_pleachref13_Goes) hs rfl [.agg [v0_0, v0_1, v0_2, v0_3, v0_4, v0_5, v0_6]] Q rfl).trans (g_pleachref13_Goes (call := callP (penv s)) (lp := loopP (penv s)) v0_0 v0_1 v0_2 v0_3 v0_4 v0_5 v0_6 Q)
theorem g_win_Put {call : CallF} {lp : PLoopF} (v0 v1 v2_0 v2_1 : AV) (Q : AHeap) : evalPK call lp c_win_Put [(0, .v v0), (1, .v v1), (2, .v (.agg [v2_0, v2_1]))] [] Q (retPK [.tmp 6, .tmp 7] [.f 2, .n]) = (
  bnC 2 (stC 2 (.agg [v2_0, v2_1])) fun s1 s2 => 
  bnS (call 56 [v0] Q) fun w12_3 Q4 => bnL (owZ 2 w12_3) fun l5 => 
  bnS (call 65 [v0, s1, .fn 66 [] []] Q4) fun w17_6 Q7 => 
  bnP (extA (frz w17_6) 0) fun w18_8 => 
  bnP (extA (frz w17_6) 1) fun w19_9 => 
  bnP (gdQ w19_9 false (some s1)) fun w23_10 => 
  bnP (gdQ w19_9 false (some v1)) fun w24_11 => 
  bnP (gdQ w19_9 false (binA .lss w23_10 w24_11)) fun w25_12 => 
  bnP (pickA w19_9 (.bool true) w25_12) fun w26_13 => 
  bnP (gdQ w26_13 false (some s1)) fun w29_14 => 
  bnP (gdQ w26_13 false (some v1)) fun w30_15 => 
  bnP (gdQ w26_13 false (binA .sub w29_14 w30_15)) fun w31_16 => 
  bnP (gdQ w26_13 false (binA .geq w31_16 (.int .i64 8))) fun w32_17 => 
  bnP (pickA w26_13 (.bool true) w32_17) fun w33_18 => 
  cndS w33_18 (fun _ => some (.tup [.fz 2 l5, .bool false], Q7))
  (fun _ => pinB (elOk 2 (.agg [s1, s2])) <| 
  bnS (call 1000068 [.ow 2 l5, w18_8, .lt 2 [.agg [s1, s2]]] Q7) fun w39_19 Q20 => bnL (owZ 2 w39_19) fun l21 => 
  some (.tup [.fz 2 l21, .bool true], Q20))) := by kernel_rfl
def f_win_Put {s : PSpecs} (hs : s.lookup 43 = none) (v0 v1 v2_0 v2_1 : AV) (Q : AHeap) := (callP_fn (E := penv s) (f := 43) (fn := pf_win_Put) hs rfl [v0, v1, .agg [v2_0, v2_1]] Q rfl).trans (g_win_Put (call := callP (penv s)) (lp := loopP (penv s)) v0 v1 v2_0 v2_1 Q)
theorem p_pleachref13_PutWin_0 {β : Type} (call : CallF) (lp : PLoopF) (t0 t11 t12 s5_0 s5_1 : AV) (l10 : List AV) (Q : AHeap) (k : PK β) : evalPK call lp c_pleachref13_PutWin_0 [(0, .v t0), (5, .lp 5 0), (10, .ls 10), (11, .v t11), (12, .v t12)] [(5, .cells [s5_0, s5_1]), (10, .own 2 l10)] Q k = (
  bnP (elQ 2 t0 t12) fun e1 => 
  bnC 2 (cut (AV.cells e1) 0 2) fun c61_2 c61_3 => 
  pinB (elOk 2 (.agg [c61_2, c61_3])) <| 
  pinB (room 24 ((l10 : List AV).length + (([.agg [c61_2, c61_3]] : List AV) : List AV).length)) <| 
  k .normal [(0, .v t0), (5, .lp 5 0), (10, .ls 10), (11, .v t11), (12, .v t12)] [(5, .cells [s5_0, s5_1]), (10, .own 2 (l10 ++ ([.agg [c61_2, c61_3]] : List AV)))] Q) := by kernel_rfl
theorem p_pleachref13_PutWin_1 {β : Type} (call : CallF) (lp : PLoopF) (t0 t11 t12 s5_0 s5_1 : AV) (l10 : List AV) (Q : AHeap) (k : PK β) : evalPK call lp c_pleachref13_PutWin_1 [(0, .v t0), (5, .lp 5 0), (10, .ls 10), (11, .v t11), (12, .v t12)] [(5, .cells [s5_0, s5_1]), (10, .own 2 l10)] Q k = (
  bnP (binA .add t12 (.int .i64 1)) fun w40_1 => 
  k .normal [(0, .v t0), (5, .lp 5 0), (10, .ls 10), (11, .v t11), (12, .v w40_1)] [(5, .cells [s5_0, s5_1]), (10, .own 2 l10)] Q) := by kernel_rfl
theorem p_pleachref13_PutWin_2 {β : Type} (call : CallF) (lp : PLoopF) (t0 t11 t12 s5_0 s5_1 : AV) (l10 : List AV) (Q : AHeap) (k : PK β) : evalPK call lp c_pleachref13_PutWin_2 [(0, .v t0), (5, .lp 5 0), (10, .ls 10), (11, .v t11), (12, .v t12)] [(5, .cells [s5_0, s5_1]), (10, .own 2 l10)] Q k = (
  bnP (lenQ t0) fun w37_1 => 
  bnP (binA .lss t12 w37_1) fun w38_2 => 
  cndS w38_2 (fun _ => bnX (bnX (bnX (bnP (unA .not t11) fun w42_3 => 
  bnP (gdQ w42_3 true (some t0)) fun w44_4 => 
  bnP (gdQ w42_3 true (some t12)) fun w45_5 => 
  bnP (gdQ w42_3 true (elQ 2 w44_4 w45_5)) fun e6 => 
  bnP (gdQ w42_3 true ((AV.cells e6)[0]?)) fun w48_7 => 
  bnP (gdQ w42_3 true (some s5_0)) fun w50_8 => 
  bnP (gdQ w42_3 true (binA .gtr w48_7 w50_8)) fun w51_9 => 
  bnP (pickA w42_3 w51_9 (.bool false)) fun w52_10 => 
  cndS w52_10 (fun _ => pinB (elOk 2 (.agg [s5_0, s5_1])) <| 
  pinB (room 24 ((l10 : List AV).length + (([.agg [s5_0, s5_1]] : List AV) : List AV).length)) <| 
  some (.normal, [(0, .v t0), (5, .lp 5 0), (10, .ls 10), (11, .v (.bool true)), (12, .v t12)], [(5, .cells [s5_0, s5_1]), (10, .own 2 (l10 ++ ([.agg [s5_0, s5_1]] : List AV)))], Q))
  (fun _ => some (.normal, [(0, .v t0), (5, .lp 5 0), (10, .ls 10), (11, .v t11), (12, .v t12)], [(5, .cells [s5_0, s5_1]), (10, .own 2 l10)], Q)))
  (goC (evalPK call lp c_pleachref13_PutWin_0) ret4))
  (outX 1 ret4))
  (goC (evalPK call lp c_pleachref13_PutWin_1) k))
  (fun _ => k (.exit 0) [(5, .lp 5 0), (10, .ls 10), (11, .v t11)] [(5, .cells [s5_0, s5_1]), (10, .own 2 l10)] Q)) := by kernel_rfl
noncomputable def L_pleachref13_PutWin_2 (s : PSpecs) (t0 t11 t12 s5_0 s5_1 : AV) (l10 : List AV) (Q : AHeap) : Option PEnd := loopP (penv s) c_pleachref13_PutWin_2 [(0, .v t0), (5, .lp 5 0), (10, .ls 10), (11, .v t11), (12, .v t12)] [(5, .cells [s5_0, s5_1]), (10, .own 2 l10)] Q
theorem L_pleachref13_PutWin_2_fold (s : PSpecs) (t0 t11 t12 s5_0 s5_1 : AV) (l10 : List AV) (Q : AHeap) : loopP (penv s) c_pleachref13_PutWin_2 [(0, .v t0), (5, .lp 5 0), (10, .ls 10), (11, .v t11), (12, .v t12)] [(5, .cells [s5_0, s5_1]), (10, .own 2 l10)] Q = L_pleachref13_PutWin_2 s t0 t11 t12 s5_0 s5_1 l10 Q := rfl
theorem L_pleachref13_PutWin_2_eq (s : PSpecs) (t0 t11 t12 s5_0 s5_1 : AV) (l10 : List AV) (Q : AHeap) : L_pleachref13_PutWin_2 s t0 t11 t12 s5_0 s5_1 l10 Q = evalPK (callP (penv s)) (loopP (penv s)) c_pleachref13_PutWin_2 [(0, .v t0), (5, .lp 5 0), (10, .ls 10), (11, .v t11), (12, .v t12)] [(5, .cells [s5_0, s5_1]), (10, .own 2 l10)] Q (goX (fun τ ω Q => loopP (penv s) c_pleachref13_PutWin_2 τ ω Q) ret4) := loopP_body
abbrev X_pleachref13_PutWin_2_x0 (t11 s5_0 s5_1 : AV) (l10 : List AV) (Q : AHeap) : Option PEnd := some (.exit 0, [(5, .lp 5 0), (10, .ls 10), (11, .v t11)], [(5, .cells [s5_0, s5_1]), (10, .own 2 l10)], Q)
theorem p_pleachref13_PutWin_3 {β : Type} (call : CallF) (lp : PLoopF) (l10 : List AV) (Q : AHeap) (k : PK β) : evalPK call lp c_pleachref13_PutWin_3 [(10, .ls 10)] [(10, .own 2 l10)] Q k = (
  k .ret [(7, .v (.bool true)), (6, .ls 10), (70, .ls 10), (10, .ls 10)] [(10, .own 2 l10)] Q) := by kernel_rfl
theorem p_pleachref13_PutWin_4 {β : Type} (call : CallF) (lp : PLoopF) (t11 s5_0 s5_1 : AV) (l10 : List AV) (Q : AHeap) (k : PK β) : evalPK call lp c_pleachref13_PutWin_4 [(5, .lp 5 0), (10, .ls 10), (11, .v t11)] [(5, .cells [s5_0, s5_1]), (10, .own 2 l10)] Q k = (
  bnX (bnP (unA .not t11) fun w65_1 => 
  cndS w65_1 (fun _ => pinB (elOk 2 (.agg [s5_0, s5_1])) <| 
  pinB (room 24 ((l10 : List AV).length + (([.agg [s5_0, s5_1]] : List AV) : List AV).length)) <| 
  some (.normal, [(10, .ls 10)], [(10, .own 2 (l10 ++ ([.agg [s5_0, s5_1]] : List AV)))], Q))
  (fun _ => some (.normal, [(10, .ls 10)], [(10, .own 2 l10)], Q)))
  (goC (evalPK call lp c_pleachref13_PutWin_3) k)) := by kernel_rfl
theorem g_pleachref13_PutWin {call : CallF} {lp : PLoopF} (v0 v1 v2_0 v2_1 : AV) (Q : AHeap) : evalPK call lp c_pleachref13_PutWin [(0, .v v0), (1, .v v1), (2, .v (.agg [v2_0, v2_1]))] [] Q (retPK [.tmp 6, .tmp 7] [.f 2, .n]) = (
  bnC 2 (stC 2 (.agg [v2_0, v2_1])) fun s1 s2 => 
  bnS (call 33 [v0, s1] Q) fun w17_3 Q4 => 
  bnP (extA (frz w17_3) 0) fun w18_5 => 
  bnP (extA (frz w17_3) 1) fun w19_6 => 
  bnP (binA .lss s1 v1) fun w23_7 => 
  bnP (gdQ w23_7 false (some s1)) fun w26_8 => 
  bnP (gdQ w23_7 false (some v1)) fun w27_9 => 
  bnP (gdQ w23_7 false (binA .sub w26_8 w27_9)) fun w28_10 => 
  bnP (gdQ w23_7 false (binA .geq w28_10 (.int .i64 8))) fun w29_11 => 
  bnP (pickA w23_7 (.bool true) w29_11) fun w30_12 => 
  bnP (gdQ w30_12 false (some w19_6)) fun w32_13 => 
  bnP (pickA w30_12 (.bool true) w32_13) fun w33_14 => 
  cndS w33_14 (fun _ => bnP (rcv false (.f 2) v0) fun r15 => some (.tup [frz r15, .bool false], Q4))
  (fun _ => bnX (lp c_pleachref13_PutWin_2 [(0, .v v0), (5, .lp 5 0), (10, .ls 10), (11, .v (.bool false)), (12, .v (.int .i64 0))] [(5, .cells [s1, s2]), (10, .own 2 ([] : List AV))] Q4) (outX 0 (goC (evalPK call lp c_pleachref13_PutWin_4) (retPK [.tmp 6, .tmp 7] [.f 2, .n]))))) := by kernel_rfl
def f_pleachref13_PutWin {s : PSpecs} (hs : s.lookup 44 = none) (v0 v1 v2_0 v2_1 : AV) (Q : AHeap) := (callP_fn (E := penv s) (f := 44) (fn := pf_pleachref13_PutWin) hs rfl [v0, v1, .agg [v2_0, v2_1]] Q rfl).trans (g_pleachref13_PutWin (call := callP (penv s)) (lp := loopP (penv s)) v0 v1 v2_0 v2_1 Q)
theorem g_log_Tell {call : CallF} {lp : PLoopF} (v0 v1 v2 : AV) (Q : AHeap) : evalPK call lp c_log_Tell [(0, .v v0), (1, .v v1), (2, .v v2)] [] Q (retPK [.tmp 6] [.o 5]) = (
  bnS (call 36 [v0] Q) fun w8_1 Q2 => bnL (owZ 5 w8_1) fun l3 => 
  bnC 5 (fillP [.int .i64 0, .int .i64 0, .int .i64 0, .str [], .int .i64 0] [(0, 1, .int .i64 1), (1, 1, v1), (2, 1, v1), (3, 1, v2)]) fun c12_4 c12_5 c12_6 c12_7 c12_8 => 
  pinB (elOk 5 (.agg [c12_4, c12_5, c12_6, c12_7, c12_8])) <| 
  pinB (room 48 ((l3 : List AV).length + (([.agg [c12_4, c12_5, c12_6, c12_7, c12_8]] : List AV) : List AV).length)) <| 
  some (.ow 5 (l3 ++ ([.agg [c12_4, c12_5, c12_6, c12_7, c12_8]] : List AV)), Q2)) := by kernel_rfl
def f_log_Tell {s : PSpecs} (hs : s.lookup 45 = none) (v0 v1 v2 : AV) (Q : AHeap) := (callP_fn (E := penv s) (f := 45) (fn := pf_log_Tell) hs rfl [v0, v1, v2] Q rfl).trans (g_log_Tell (call := callP (penv s)) (lp := loopP (penv s)) v0 v1 v2 Q)
theorem g_ring_Add {call : CallF} {lp : PLoopF} (v0 v1_0 v1_1 : AV) (Q : AHeap) : evalPK call lp c_ring_Add [(0, .v v0), (1, .v (.agg [v1_0, v1_1]))] [] Q (retPK [.tmp 4] [.o 2]) = (
  bnC 2 (stC 2 (.agg [v1_0, v1_1])) fun s1 s2 => 
  bnS (call 56 [v0] Q) fun w7_3 Q4 => bnL (owZ 2 w7_3) fun l5 => 
  bnP (lenQ v0) fun w9_6 => 
  bnP (binA .gtr w9_6 (.int .i64 0)) fun w10_7 => 
  bnP (gdQ w10_7 true (some s1)) fun w13_8 => 
  bnP (gdQ w10_7 true (some v0)) fun w14_9 => 
  bnP (gdQ w10_7 true (some v0)) fun w15_10 => 
  bnP (gdQ w10_7 true (lenQ w15_10)) fun w16_11 => 
  bnP (gdQ w10_7 true (binA .sub w16_11 (.int .i64 1))) fun w17_12 => 
  bnP (gdQ w10_7 true (elQ 2 w14_9 w17_12)) fun e13 => 
  bnP (gdQ w10_7 true ((AV.cells e13)[0]?)) fun w20_14 => 
  bnP (gdQ w10_7 true (binA .leq w13_8 w20_14)) fun w21_15 => 
  bnP (pickA w10_7 w21_15 (.bool false)) fun w22_16 => 
  cndS w22_16 (fun _ => some (.ow 2 l5, Q4))
  (fun _ => pinB (elOk 2 (.agg [s1, s2])) <| 
  pinB (room 24 ((l5 : List AV).length + (([.agg [s1, s2]] : List AV) : List AV).length)) <| 
  bnP (binA .sub (.int .i64 (((l5 ++ ([.agg [s1, s2]] : List AV)) : List AV).length : Nat)) (.int .i64 6)) fun w31_17 => 
  bnP (mxiA [w31_17, .int .i64 0]) fun w32_18 => 
  bnP (slcQ 2 (.fz 2 (l5 ++ ([.agg [s1, s2]] : List AV))) (some w32_18) none) fun w33_19 => 
  bnS (call 56 [w33_19] Q4) fun w34_20 Q21 => bnL (owZ 2 w34_20) fun l22 => 
  some (.ow 2 l22, Q21))) := by kernel_rfl
def f_ring_Add {s : PSpecs} (hs : s.lookup 46 = none) (v0 v1_0 v1_1 : AV) (Q : AHeap) := (callP_fn (E := penv s) (f := 46) (fn := pf_ring_Add) hs rfl [v0, .agg [v1_0, v1_1]] Q rfl).trans (g_ring_Add (call := callP (penv s)) (lp := loopP (penv s)) v0 v1_0 v1_1 Q)
theorem g_pleachref13_Tell {call : CallF} {lp : PLoopF} (v0 v1 v2 : AV) (Q : AHeap) : evalPK call lp c_pleachref13_Tell [(0, .v v0), (1, .v v1), (2, .v v2)] [] Q (retPK [.tmp 6] [.o 5]) = (
  bnL (srcT [] 5 (.v v0)) fun l1 => 
  pinB (room 48 ((([] : List AV) : List AV).length + (l1 : List AV).length)) <| 
  bnC 5 (fillP [.int .i64 0, .int .i64 0, .int .i64 0, .str [], .int .i64 0] [(0, 1, .int .i64 1), (1, 1, v1), (2, 1, v1), (3, 1, v2)]) fun c13_2 c13_3 c13_4 c13_5 c13_6 => 
  pinB (elOk 5 (.agg [c13_2, c13_3, c13_4, c13_5, c13_6])) <| 
  pinB (room 48 (((([] : List AV) ++ l1) : List AV).length + (([.agg [c13_2, c13_3, c13_4, c13_5, c13_6]] : List AV) : List AV).length)) <| 
  some (.ow 5 ((([] : List AV) ++ l1) ++ ([.agg [c13_2, c13_3, c13_4, c13_5, c13_6]] : List AV)), Q)) := by kernel_rfl
def f_pleachref13_Tell {s : PSpecs} (hs : s.lookup 47 = none) (v0 v1 v2 : AV) (Q : AHeap) := (callP_fn (E := penv s) (f := 47) (fn := pf_pleachref13_Tell) hs rfl [v0, v1, v2] Q rfl).trans (g_pleachref13_Tell (call := callP (penv s)) (lp := loopP (penv s)) v0 v1 v2 Q)
theorem p_pleachref13_AddRing_0 {β : Type} (call : CallF) (lp : PLoopF) (t5 : AV) (Q : AHeap) (k : PK β) : evalPK call lp c_pleachref13_AddRing_0 [(5, .v t5)] [] Q k = (
  k .ret [(4, .v t5), (34, .v t5), (5, .v t5)] [] Q) := by kernel_rfl
theorem g_pleachref13_AddRing {call : CallF} {lp : PLoopF} (v0 v1_0 v1_1 : AV) (Q : AHeap) : evalPK call lp c_pleachref13_AddRing [(0, .v v0), (1, .v (.agg [v1_0, v1_1]))] [] Q (retPK [.tmp 4] [.f 2]) = (
  bnC 2 (stC 2 (.agg [v1_0, v1_1])) fun s1 s2 => 
  bnL (srcT [] 2 (.v v0)) fun l3 => 
  pinB (room 24 ((([] : List AV) : List AV).length + (l3 : List AV).length)) <| 
  bnP (lenQ v0) fun w10_4 => 
  bnP (binA .gtr w10_4 (.int .i64 0)) fun w11_5 => 
  bnP (gdQ w11_5 true (some v0)) fun w13_6 => 
  bnP (gdQ w11_5 true (some v0)) fun w14_7 => 
  bnP (gdQ w11_5 true (lenQ w14_7)) fun w15_8 => 
  bnP (gdQ w11_5 true (binA .sub w15_8 (.int .i64 1))) fun w16_9 => 
  bnP (gdQ w11_5 true (elQ 2 w13_6 w16_9)) fun e10 => 
  bnP (gdQ w11_5 true ((AV.cells e10)[0]?)) fun w19_11 => 
  bnP (gdQ w11_5 true (some s1)) fun w21_12 => 
  bnP (gdQ w11_5 true (binA .geq w19_11 w21_12)) fun w22_13 => 
  bnP (pickA w11_5 w22_13 (.bool false)) fun w23_14 => 
  cndS w23_14 (fun _ => some (.fz 2 (([] : List AV) ++ l3), Q))
  (fun _ => pinB (elOk 2 (.agg [s1, s2])) <| 
  pinB (room 24 (((([] : List AV) ++ l3) : List AV).length + (([.agg [s1, s2]] : List AV) : List AV).length)) <| 
  bnX (bnP (binA .gtr (.int .i64 ((((([] : List AV) ++ l3) ++ ([.agg [s1, s2]] : List AV)) : List AV).length : Nat)) (.int .i64 6)) fun w31_15 => 
  cndS w31_15 (fun _ => bnP (slcQ 2 (.fz 2 ((([] : List AV) ++ l3) ++ ([.agg [s1, s2]] : List AV))) (some (.int .i64 1)) none) fun w33_16 => 
  some (.normal, [(5, .v w33_16)], [], Q))
  (fun _ => some (.normal, [(5, .v (.fz 2 ((([] : List AV) ++ l3) ++ ([.agg [s1, s2]] : List AV))))], [], Q)))
  (goC (evalPK call lp c_pleachref13_AddRing_0) (retPK [.tmp 4] [.f 2])))) := by kernel_rfl
def f_pleachref13_AddRing {s : PSpecs} (hs : s.lookup 48 = none) (v0 v1_0 v1_1 : AV) (Q : AHeap) := (callP_fn (E := penv s) (f := 48) (fn := pf_pleachref13_AddRing) hs rfl [v0, .agg [v1_0, v1_1]] Q rfl).trans (g_pleachref13_AddRing (call := callP (penv s)) (lp := loopP (penv s)) v0 v1_0 v1_1 Q)
theorem p_nak_Wants_0 {β : Type} (call : CallF) (lp : PLoopF) (s1_0 s1_1 s1_2 s1_3 s1_4 s1_5 s1_6 s2_0 s2_1 s4_0 s4_1 : AV) (Q : AHeap) (k : PK β) : evalPK call lp c_nak_Wants_0 [(1, .lp 1 0), (2, .lp 2 0), (4, .lp 4 0)] [(1, .cells [s1_0, s1_1, s1_2, s1_3, s1_4, s1_5, s1_6]), (2, .cells [s2_0, s2_1]), (4, .cells [s4_0, s4_1])] Q k = (
  bnP (binA .eql s1_0 (.int .i64 0)) fun w21_1 => 
  bnP (gdQ w21_1 false (some s4_1)) fun w24_2 => 
  bnP (gdQ w21_1 false (some s4_0)) fun w26_3 => 
  bnP (gdQ w21_1 false (binA .lss w24_2 w26_3)) fun w27_4 => 
  bnP (pickA w21_1 (.bool true) w27_4) fun w28_5 => 
  cndS w28_5 (fun _ => k .ret [(3, .v (.bool false)), (29, .v (.agg [.int .i64 0, .int .i64 0])), (28, .v w28_5), (27, .v w27_4), (26, .v w26_3), (25, .gd 22 false (.lp 4 0)), (24, .v w24_2), (23, .gd 22 false (.lp 4 1)), (22, .v w21_1), (21, .v w21_1), (20, .v s1_0), (19, .lp 1 0), (1, .lp 1 0), (2, .lp 2 0), (4, .lp 4 0)] [(2, .cells [.int .i64 0, .int .i64 0]), (1, .cells [s1_0, s1_1, s1_2, s1_3, s1_4, s1_5, s1_6]), (4, .cells [s4_0, s4_1])] Q)
  (fun _ => bnC 2 (stC 2 (.agg [s4_0, s4_1])) fun s6 s7 => 
  k .ret [(3, .v (.bool true)), (30, .v (.agg [s4_0, s4_1])), (28, .v w28_5), (27, .v w27_4), (26, .v w26_3), (25, .gd 22 false (.lp 4 0)), (24, .v w24_2), (23, .gd 22 false (.lp 4 1)), (22, .v w21_1), (21, .v w21_1), (20, .v s1_0), (19, .lp 1 0), (1, .lp 1 0), (2, .lp 2 0), (4, .lp 4 0)] [(2, .cells [s6, s7]), (1, .cells [s1_0, s1_1, s1_2, s1_3, s1_4, s1_5, s1_6]), (4, .cells [s4_0, s4_1])] Q)) := by kernel_rfl
theorem g_nak_Wants {call : CallF} {lp : PLoopF} (v0_0 v0_1 v0_2 v0_3 v0_4 v0_5 v0_6 : AV) (Q : AHeap) : evalPK call lp c_nak_Wants [(0, .v (.agg [v0_0, v0_1, v0_2, v0_3, v0_4, v0_5, v0_6]))] [] Q (retPK [.cell 2 (some 2), .tmp 3] [.n, .n]) = (
  bnC 7 (stC 7 (.agg [v0_0, v0_1, v0_2, v0_3, v0_4, v0_5, v0_6])) fun s1 s2 s3 s4 s5 s6 s7 => 
  bnC 2 (fillP [.int .i64 0, .int .i64 0] [(0, 1, s1), (1, 1, s2)]) fun c9_8 c9_9 => 
  bnC 2 (stC 2 (.agg [c9_8, c9_9])) fun s10 s11 => 
  bnX (bnP (lenQ s4) fun w12_12 => 
  bnP (binA .gtr w12_12 (.int .i64 0)) fun w13_13 => 
  cndS w13_13 (fun _ => bnS (call 69 [s4] Q) fun w16_14 Q15 => 
  bnP (binA .sub (frz w16_14) (.int .i64 1)) fun w17_16 => 
  bnC 1 (stC 1 w17_16) fun s17 => 
  some (.normal, [(1, .lp 1 0), (2, .lp 2 0), (4, .lp 4 0)], [(1, .cells [s1, s2, s3, s4, s5, s6, s7]), (2, .cells [.int .i64 0, .int .i64 0]), (4, .cells [s10, s17])], Q15))
  (fun _ => some (.normal, [(1, .lp 1 0), (2, .lp 2 0), (4, .lp 4 0)], [(1, .cells [s1, s2, s3, s4, s5, s6, s7]), (2, .cells [.int .i64 0, .int .i64 0]), (4, .cells [s10, s11])], Q)))
  (goC (evalPK call lp c_nak_Wants_0) (retPK [.cell 2 (some 2), .tmp 3] [.n, .n]))) := by kernel_rfl
def f_nak_Wants {s : PSpecs} (hs : s.lookup 49 = none) (v0_0 v0_1 v0_2 v0_3 v0_4 v0_5 v0_6 : AV) (Q : AHeap) := (callP_fn (E := penv s) (f := 49) (fn := pf_nak_Wants) hs rfl [.agg [v0_0, v0_1, v0_2, v0_3, v0_4, v0_5, v0_6]] Q rfl).trans (g_nak_Wants (call := callP (penv s)) (lp := loopP (penv s)) v0_0 v0_1 v0_2 v0_3 v0_4 v0_5 v0_6 Q)
theorem g_wait_Now {call : CallF} {lp : PLoopF} (v0_0 v0_1 v1 : AV) (Q : AHeap) : evalPK call lp c_wait_Now [(0, .v (.agg [v0_0, v0_1])), (1, .v v1)] [] Q (retPK [.tmp 4] [.n]) = (
  bnC 2 (stC 2 (.agg [v0_0, v0_1])) fun s1 s2 => 
  bnP (binA .eql s1 (.int .i64 0)) fun w7_3 => 
  bnP (gdQ w7_3 false (some v1)) fun w9_4 => 
  bnP (gdQ w7_3 false (some s2)) fun w11_5 => 
  bnP (gdQ w7_3 false (binA .geq w9_4 w11_5)) fun w12_6 => 
  bnP (pickA w7_3 (.bool true) w12_6) fun w13_7 => 
  bnP (rcv false .n w13_7) fun r8 => some (r8, Q)) := by kernel_rfl
def f_wait_Now {s : PSpecs} (hs : s.lookup 50 = none) (v0_0 v0_1 v1 : AV) (Q : AHeap) := (callP_fn (E := penv s) (f := 50) (fn := pf_wait_Now) hs rfl [.agg [v0_0, v0_1], v1] Q rfl).trans (g_wait_Now (call := callP (penv s)) (lp := loopP (penv s)) v0_0 v0_1 v1 Q)
theorem g_wait_Tired {call : CallF} {lp : PLoopF} (v0_0 v0_1 : AV) (Q : AHeap) : evalPK call lp c_wait_Tired [(0, .v (.agg [v0_0, v0_1]))] [] Q (retPK [.tmp 2] [.n]) = (
  bnC 2 (stC 2 (.agg [v0_0, v0_1])) fun s1 s2 => 
  bnP (binA .geq s1 (.int .i64 3)) fun w5_3 => 
  bnP (rcv false .n w5_3) fun r4 => some (r4, Q)) := by kernel_rfl
def f_wait_Tired {s : PSpecs} (hs : s.lookup 51 = none) (v0_0 v0_1 : AV) (Q : AHeap) := (callP_fn (E := penv s) (f := 51) (fn := pf_wait_Tired) hs rfl [.agg [v0_0, v0_1]] Q rfl).trans (g_wait_Tired (call := callP (penv s)) (lp := loopP (penv s)) v0_0 v0_1 Q)
theorem g_wait_Tried {call : CallF} {lp : PLoopF} (v0_0 v0_1 v1 : AV) (Q : AHeap) : evalPK call lp c_wait_Tried [(0, .v (.agg [v0_0, v0_1])), (1, .v v1)] [] Q (retPK [.cell 4 (some 2)] [.n]) = (
  bnC 2 (stC 2 (.agg [v0_0, v0_1])) fun s1 s2 => 
  bnP (binA .add s1 (.int .i64 1)) fun w7_3 => 
  bnP (mniA [s1, .int .i64 3]) fun w11_4 => 
  bnP (mxiA [w11_4, .int .i64 0]) fun w12_5 => 
  bnP (binA .shl (.int .i64 2) w12_5) fun w13_6 => 
  bnP (binA .add v1 w13_6) fun w14_7 => 
  bnC 2 (fillP [.int .i64 0, .int .i64 0] [(0, 1, w7_3), (1, 1, w14_7)]) fun c15_8 c15_9 => 
  bnC 2 (stC 2 (.agg [c15_8, c15_9])) fun s10 s11 => 
  some (.agg [s10, s11], Q)) := by kernel_rfl
def f_wait_Tried {s : PSpecs} (hs : s.lookup 52 = none) (v0_0 v0_1 v1 : AV) (Q : AHeap) := (callP_fn (E := penv s) (f := 52) (fn := pf_wait_Tried) hs rfl [.agg [v0_0, v0_1], v1] Q rfl).trans (g_wait_Tried (call := callP (penv s)) (lp := loopP (penv s)) v0_0 v0_1 v1 Q)
theorem p_pleachref13_Wants_0 {β : Type} (call : CallF) (lp : PLoopF) (t4 s1_0 s1_1 s1_2 s1_3 s1_4 s1_5 s1_6 s2_0 s2_1 : AV) (Q : AHeap) (k : PK β) : evalPK call lp c_pleachref13_Wants_0 [(1, .lp 1 0), (2, .lp 2 0), (4, .v t4)] [(1, .cells [s1_0, s1_1, s1_2, s1_3, s1_4, s1_5, s1_6]), (2, .cells [s2_0, s2_1])] Q k = (
  bnP (binA .eql s1_0 (.int .i64 0)) fun w17_1 => 
  bnP (gdQ w17_1 false (some t4)) fun w19_2 => 
  bnP (gdQ w17_1 false (some s1_0)) fun w21_3 => 
  bnP (gdQ w17_1 false (binA .lss w19_2 w21_3)) fun w22_4 => 
  bnP (pickA w17_1 (.bool true) w22_4) fun w23_5 => 
  cndS w23_5 (fun _ => k .ret [(3, .v (.bool false)), (24, .v (.agg [.int .i64 0, .int .i64 0])), (23, .v w23_5), (22, .v w22_4), (21, .v w21_3), (20, .gd 18 false (.lp 1 0)), (19, .v w19_2), (18, .v w17_1), (17, .v w17_1), (16, .v s1_0), (15, .lp 1 0), (1, .lp 1 0), (2, .lp 2 0), (4, .v t4)] [(2, .cells [.int .i64 0, .int .i64 0]), (1, .cells [s1_0, s1_1, s1_2, s1_3, s1_4, s1_5, s1_6])] Q)
  (fun _ => bnC 2 (fillP [.int .i64 0, .int .i64 0] [(0, 1, s1_0), (1, 1, t4)]) fun c28_6 c28_7 => 
  bnC 2 (stC 2 (.agg [c28_6, c28_7])) fun s8 s9 => 
  k .ret [(3, .v (.bool true)), (28, .v (.agg [c28_6, c28_7])), (27, .v t4), (26, .v s1_0), (25, .lp 1 0), (23, .v w23_5), (22, .v w22_4), (21, .v w21_3), (20, .gd 18 false (.lp 1 0)), (19, .v w19_2), (18, .v w17_1), (17, .v w17_1), (16, .v s1_0), (15, .lp 1 0), (1, .lp 1 0), (2, .lp 2 0), (4, .v t4)] [(2, .cells [s8, s9]), (1, .cells [s1_0, s1_1, s1_2, s1_3, s1_4, s1_5, s1_6])] Q)) := by kernel_rfl
theorem g_pleachref13_Wants {call : CallF} {lp : PLoopF} (v0_0 v0_1 v0_2 v0_3 v0_4 v0_5 v0_6 : AV) (Q : AHeap) : evalPK call lp c_pleachref13_Wants [(0, .v (.agg [v0_0, v0_1, v0_2, v0_3, v0_4, v0_5, v0_6]))] [] Q (retPK [.cell 2 (some 2), .tmp 3] [.n, .n]) = (
  bnC 7 (stC 7 (.agg [v0_0, v0_1, v0_2, v0_3, v0_4, v0_5, v0_6])) fun s1 s2 s3 s4 s5 s6 s7 => 
  bnX (bnP (lenQ s4) fun w9_8 => 
  bnP (binA .gtr w9_8 (.int .i64 0)) fun w10_9 => 
  cndS w10_9 (fun _ => bnS (call 62 [s4] Q) fun w13_10 Q11 => 
  bnP (binA .sub (frz w13_10) (.int .i64 1)) fun w14_12 => 
  some (.normal, [(1, .lp 1 0), (2, .lp 2 0), (4, .v w14_12)], [(1, .cells [s1, s2, s3, s4, s5, s6, s7]), (2, .cells [.int .i64 0, .int .i64 0])], Q11))
  (fun _ => some (.normal, [(1, .lp 1 0), (2, .lp 2 0), (4, .v s2)], [(1, .cells [s1, s2, s3, s4, s5, s6, s7]), (2, .cells [.int .i64 0, .int .i64 0])], Q)))
  (goC (evalPK call lp c_pleachref13_Wants_0) (retPK [.cell 2 (some 2), .tmp 3] [.n, .n]))) := by kernel_rfl
def f_pleachref13_Wants {s : PSpecs} (hs : s.lookup 53 = none) (v0_0 v0_1 v0_2 v0_3 v0_4 v0_5 v0_6 : AV) (Q : AHeap) := (callP_fn (E := penv s) (f := 53) (fn := pf_pleachref13_Wants) hs rfl [.agg [v0_0, v0_1, v0_2, v0_3, v0_4, v0_5, v0_6]] Q rfl).trans (g_pleachref13_Wants (call := callP (penv s)) (lp := loopP (penv s)) v0_0 v0_1 v0_2 v0_3 v0_4 v0_5 v0_6 Q)
theorem g_pleachref1_Now {call : CallF} {lp : PLoopF} (v0_0 v0_1 v1 : AV) (Q : AHeap) : evalPK call lp c_pleachref1_Now [(0, .v (.agg [v0_0, v0_1])), (1, .v v1)] [] Q (retPK [.tmp 4] [.n]) = (
  bnC 2 (stC 2 (.agg [v0_0, v0_1])) fun s1 s2 => 
  bnP (binA .eql s1 (.int .i64 0)) fun w7_3 => 
  bnP (gdQ w7_3 false (some v1)) fun w9_4 => 
  bnP (gdQ w7_3 false (some s2)) fun w11_5 => 
  bnP (gdQ w7_3 false (binA .geq w9_4 w11_5)) fun w12_6 => 
  bnP (pickA w7_3 (.bool true) w12_6) fun w13_7 => 
  bnP (rcv false .n w13_7) fun r8 => some (r8, Q)) := by kernel_rfl
def f_pleachref1_Now {s : PSpecs} (hs : s.lookup 54 = none) (v0_0 v0_1 v1 : AV) (Q : AHeap) := (callP_fn (E := penv s) (f := 54) (fn := pf_pleachref1_Now) hs rfl [.agg [v0_0, v0_1], v1] Q rfl).trans (g_pleachref1_Now (call := callP (penv s)) (lp := loopP (penv s)) v0_0 v0_1 v1 Q)
theorem p_pleachref1_Tried_0 {β : Type} (call : CallF) (lp : PLoopF) (t1 t5 t6 s2_0 s2_1 s4_0 s4_1 : AV) (Q : AHeap) (k : PK β) : evalPK call lp c_pleachref1_Tried_0 [(1, .v t1), (2, .lp 2 0), (4, .lp 4 0), (5, .v t5), (6, .v t6)] [(2, .cells [s2_0, s2_1]), (4, .cells [s4_0, s4_1])] Q k = (
  bnP (binA .lss t6 s2_0) fun w10_1 => 
  bnP (gdQ w10_1 true (some t6)) fun w12_2 => 
  bnP (gdQ w10_1 true (binA .lss w12_2 (.int .i64 3))) fun w13_3 => 
  bnP (pickA w10_1 w13_3 (.bool false)) fun w14_4 => 
  cndS w14_4 (fun _ => bnP (binA .mul t5 (.int .i64 2)) fun w18_5 => 
  bnP (binA .add t6 (.int .i64 1)) fun w16_6 => 
  k .normal [(1, .v t1), (2, .lp 2 0), (4, .lp 4 0), (5, .v w18_5), (6, .v w16_6)] [(2, .cells [s2_0, s2_1]), (4, .cells [s4_0, s4_1])] Q)
  (fun _ => k (.exit 0) [(1, .v t1), (2, .lp 2 0), (4, .lp 4 0), (5, .v t5)] [(2, .cells [s2_0, s2_1]), (4, .cells [s4_0, s4_1])] Q)) := by kernel_rfl
noncomputable def L_pleachref1_Tried_0 (s : PSpecs) (t1 t5 t6 s2_0 s2_1 s4_0 s4_1 : AV) (Q : AHeap) : Option PEnd := loopP (penv s) c_pleachref1_Tried_0 [(1, .v t1), (2, .lp 2 0), (4, .lp 4 0), (5, .v t5), (6, .v t6)] [(2, .cells [s2_0, s2_1]), (4, .cells [s4_0, s4_1])] Q
theorem L_pleachref1_Tried_0_fold (s : PSpecs) (t1 t5 t6 s2_0 s2_1 s4_0 s4_1 : AV) (Q : AHeap) : loopP (penv s) c_pleachref1_Tried_0 [(1, .v t1), (2, .lp 2 0), (4, .lp 4 0), (5, .v t5), (6, .v t6)] [(2, .cells [s2_0, s2_1]), (4, .cells [s4_0, s4_1])] Q = L_pleachref1_Tried_0 s t1 t5 t6 s2_0 s2_1 s4_0 s4_1 Q := rfl
theorem L_pleachref1_Tried_0_eq (s : PSpecs) (t1 t5 t6 s2_0 s2_1 s4_0 s4_1 : AV) (Q : AHeap) : L_pleachref1_Tried_0 s t1 t5 t6 s2_0 s2_1 s4_0 s4_1 Q = evalPK (callP (penv s)) (loopP (penv s)) c_pleachref1_Tried_0 [(1, .v t1), (2, .lp 2 0), (4, .lp 4 0), (5, .v t5), (6, .v t6)] [(2, .cells [s2_0, s2_1]), (4, .cells [s4_0, s4_1])] Q (goX (fun τ ω Q => loopP (penv s) c_pleachref1_Tried_0 τ ω Q) ret4) := loopP_body
abbrev X_pleachref1_Tried_0_x0 (t1 t5 s2_0 s2_1 s4_0 s4_1 : AV) (Q : AHeap) : Option PEnd := some (.exit 0, [(1, .v t1), (2, .lp 2 0), (4, .lp 4 0), (5, .v t5)], [(2, .cells [s2_0, s2_1]), (4, .cells [s4_0, s4_1])], Q)
theorem p_pleachref1_Tried_1 {β : Type} (call : CallF) (lp : PLoopF) (t1 t5 s2_0 s2_1 s4_0 s4_1 : AV) (Q : AHeap) (k : PK β) : evalPK call lp c_pleachref1_Tried_1 [(1, .v t1), (2, .lp 2 0), (4, .lp 4 0), (5, .v t5)] [(2, .cells [s2_0, s2_1]), (4, .cells [s4_0, s4_1])] Q k = (
  bnP (binA .add s2_0 (.int .i64 1)) fun w21_1 => 
  bnP (binA .add t1 t5) fun w24_2 => 
  bnC 2 (fillP [.int .i64 0, .int .i64 0] [(0, 1, w21_1), (1, 1, w24_2)]) fun c25_3 c25_4 => 
  bnC 2 (stC 2 (.agg [c25_3, c25_4])) fun s5 s6 => 
  k .ret [(25, .v (.agg [c25_3, c25_4])), (24, .v w24_2), (23, .v t5), (22, .v t1), (21, .v w21_1), (20, .v s2_0), (19, .lp 2 0), (1, .v t1), (2, .lp 2 0), (4, .lp 4 0), (5, .v t5)] [(4, .cells [s5, s6]), (2, .cells [s2_0, s2_1])] Q) := by kernel_rfl
theorem g_pleachref1_Tried {call : CallF} {lp : PLoopF} (v0_0 v0_1 v1 : AV) (Q : AHeap) : evalPK call lp c_pleachref1_Tried [(0, .v (.agg [v0_0, v0_1])), (1, .v v1)] [] Q (retPK [.cell 4 (some 2)] [.n]) = (
  bnC 2 (stC 2 (.agg [v0_0, v0_1])) fun s1 s2 => 
  bnX (lp c_pleachref1_Tried_0 [(1, .v v1), (2, .lp 2 0), (4, .lp 4 0), (5, .v (.int .i64 2)), (6, .v (.int .i64 0))] [(2, .cells [s1, s2]), (4, .cells [.int .i64 0, .int .i64 0])] Q) (outX 0 (goC (evalPK call lp c_pleachref1_Tried_1) (retPK [.cell 4 (some 2)] [.n])))) := by kernel_rfl
def f_pleachref1_Tried {s : PSpecs} (hs : s.lookup 55 = none) (v0_0 v0_1 v1 : AV) (Q : AHeap) := (callP_fn (E := penv s) (f := 55) (fn := pf_pleachref1_Tried) hs rfl [.agg [v0_0, v0_1], v1] Q rfl).trans (g_pleachref1_Tried (call := callP (penv s)) (lp := loopP (penv s)) v0_0 v0_1 v1 Q)
theorem g_nak_twin {call : CallF} {lp : PLoopF} (v0_0 v0_1 v0_2 v0_3 v0_4 v0_5 v0_6 : AV) (Q : AHeap) : evalPK call lp c_nak_twin [(0, .v (.agg [v0_0, v0_1, v0_2, v0_3, v0_4, v0_5, v0_6]))] [] Q (retPK [.cell 2 (some 7)] [.n]) = (
  bnC 7 (stC 7 (.agg [v0_0, v0_1, v0_2, v0_3, v0_4, v0_5, v0_6])) fun s1 s2 s3 s4 s5 s6 s7 => 
  bnS (call 56 [s3] Q) fun w5_8 Q9 => 
  bnS (call 56 [s4] Q9) fun w8_10 Q11 => 
  bnS (call 36 [s5] Q11) fun w11_12 Q13 => 
  bnC 1 (stC 1 (frz w5_8)) fun s14 => 
  bnC 1 (stC 1 (frz w8_10)) fun s15 => 
  bnC 1 (stC 1 (frz w11_12)) fun s16 => 
  bnC 7 (stC 7 (.agg [s1, s2, s14, s15, s16, s6, s7])) fun s17 s18 s19 s20 s21 s22 s23 => 
  some (.agg [s17, s18, s19, s20, s21, s22, s23], Q13)) := by kernel_rfl
def f_nak_twin {s : PSpecs} (hs : s.lookup 57 = none) (v0_0 v0_1 v0_2 v0_3 v0_4 v0_5 v0_6 : AV) (Q : AHeap) := (callP_fn (E := penv s) (f := 57) (fn := pf_nak_twin) hs rfl [.agg [v0_0, v0_1, v0_2, v0_3, v0_4, v0_5, v0_6]] Q rfl).trans (g_nak_twin (call := callP (penv s)) (lp := loopP (penv s)) v0_0 v0_1 v0_2 v0_3 v0_4 v0_5 v0_6 Q)
theorem g_nak_ahead {call : CallF} {lp : PLoopF} (v0_0 v0_1 v0_2 v0_3 v0_4 v0_5 v0_6 v1 : AV) (Q : AHeap) : evalPK call lp c_nak_ahead [(0, .v (.agg [v0_0, v0_1, v0_2, v0_3, v0_4, v0_5, v0_6])), (1, .v v1)] [] Q (retPK [.tmp 4, .tmp 5] [.n, .n]) = (
  bnC 7 (stC 7 (.agg [v0_0, v0_1, v0_2, v0_3, v0_4, v0_5, v0_6])) fun s1 s2 s3 s4 s5 s6 s7 => 
  bnS (call 70 [s4, .fn 71 [] [.cp [s1, s2, s3, s4, s5, s6, s7] 0]] Q) fun w10_8 Q9 => 
  bnP (binA .lss (frz w10_8) (.int .i64 0)) fun w12_10 => 
  bnP (gdQ w12_10 false (fadQ 3 (.cp [s1, s2, s3, s4, s5, s6, s7] 0))) fun w14_11 => 
  bnP (gdQ w12_10 false (ldQ Q9 w14_11)) fun w15_12 => 
  bnP (gdQ w12_10 false (some (frz w10_8))) fun w16_13 => 
  bnP (gdQ w12_10 false (elQ 2 w15_12 w16_13)) fun e14 => 
  bnP (gdQ w12_10 false ((AV.cells e14)[0]?)) fun w19_15 => 
  bnP (gdQ w12_10 false (some v1)) fun w20_16 => 
  bnP (gdQ w12_10 false (binA .gtr w19_15 w20_16)) fun w21_17 => 
  bnP (pickA w12_10 (.bool true) w21_17) fun w22_18 => 
  cndS w22_18 (fun _ => bnP (rcv false .n v1) fun r19 => some (.tup [frz r19, .bool false], Q9))
  (fun _ => bnP (fadQ 3 (.cp [s1, s2, s3, s4, s5, s6, s7] 0)) fun w24_20 => 
  bnP (ldQ Q9 w24_20) fun w25_21 => 
  bnP (elQ 2 w25_21 (frz w10_8)) fun e22 => 
  bnP ((AV.cells e22)[0]?) fun w29_23 => 
  bnP (binA .sub w29_23 (.int .i64 1)) fun w30_24 => 
  bnP (rcv false .n w30_24) fun r25 => some (.tup [frz r25, .bool true], Q9))) := by kernel_rfl
def f_nak_ahead {s : PSpecs} (hs : s.lookup 58 = none) (v0_0 v0_1 v0_2 v0_3 v0_4 v0_5 v0_6 v1 : AV) (Q : AHeap) := (callP_fn (E := penv s) (f := 58) (fn := pf_nak_ahead) hs rfl [.agg [v0_0, v0_1, v0_2, v0_3, v0_4, v0_5, v0_6], v1] Q rfl).trans (g_nak_ahead (call := callP (penv s)) (lp := loopP (penv s)) v0_0 v0_1 v0_2 v0_3 v0_4 v0_5 v0_6 v1 Q)
theorem g_log_Skip {call : CallF} {lp : PLoopF} (v0 v1 v2 v3 : AV) (Q : AHeap) : evalPK call lp c_log_Skip [(0, .v v0), (1, .v v1), (2, .v v2), (3, .v v3)] [] Q (retPK [.tmp 8] [.o 5]) = (
  bnS (call 36 [v0] Q) fun w10_1 Q2 => bnL (owZ 5 w10_1) fun l3 => 
  bnC 5 (fillP [.int .i64 0, .int .i64 0, .int .i64 0, .str [], .int .i64 0] [(0, 1, .int .i64 2), (1, 1, v1), (2, 1, v2), (4, 1, v3)]) fun c14_4 c14_5 c14_6 c14_7 c14_8 => 
  pinB (elOk 5 (.agg [c14_4, c14_5, c14_6, c14_7, c14_8])) <| 
  pinB (room 48 ((l3 : List AV).length + (([.agg [c14_4, c14_5, c14_6, c14_7, c14_8]] : List AV) : List AV).length)) <| 
  some (.ow 5 (l3 ++ ([.agg [c14_4, c14_5, c14_6, c14_7, c14_8]] : List AV)), Q2)) := by kernel_rfl
def f_log_Skip {s : PSpecs} (hs : s.lookup 59 = none) (v0 v1 v2 v3 : AV) (Q : AHeap) := (callP_fn (E := penv s) (f := 59) (fn := pf_log_Skip) hs rfl [v0, v1, v2, v3] Q rfl).trans (g_log_Skip (call := callP (penv s)) (lp := loopP (penv s)) v0 v1 v2 v3 Q)
theorem p_nak_tells_0 {β : Type} (call : CallF) (lp : PLoopF) (s1_0 s1_1 s1_2 s1_3 s1_4 s1_5 s1_6 s2_0 s2_1 s2_2 s2_3 s2_4 s2_5 s2_6 : AV) (l4 : List AV) (Q : AHeap) (k : PK β) : evalPK call lp c_nak_tells_0 [(1, .lp 1 0), (2, .lp 2 0), (4, .ls 4)] [(1, .cells [s1_0, s1_1, s1_2, s1_3, s1_4, s1_5, s1_6]), (2, .cells [s2_0, s2_1, s2_2, s2_3, s2_4, s2_5, s2_6]), (4, .own 2 l4)] Q k = (
  bnS (call 72 [s1_3, s1_0] Q) fun w13_1 Q2 => 
  bnP (extA (frz w13_1) 0) fun w14_3 => 
  bnP (extA (frz w13_1) 1) fun w15_4 => 
  bnP (extA (frz w13_1) 2) fun w16_5 => 
  bnC 2 (stC 2 w15_4) fun s6 s7 => 
  bnP (unA .not w16_5) fun w18_8 => 
  cndS w18_8 (fun _ => k (.exit 0) [(1, .lp 1 0), (2, .lp 2 0), (4, .ls 4)] [(1, .cells [s1_0, s1_1, s1_2, s1_3, s1_4, s1_5, s1_6]), (2, .cells [s2_0, s2_1, s2_2, s2_3, s2_4, s2_5, s2_6]), (4, .own 2 l4)] Q2)
  (fun _ => bnS (call 45 [s1_4, s6, s7] Q2) fun w26_9 Q10 => 
  bnS (call 46 [s1_2, .agg [s6, s7]] Q10) fun w30_11 Q12 => 
  bnC 1 (stC 1 w14_3) fun s13 => 
  bnC 1 (stC 1 (frz w26_9)) fun s14 => 
  bnC 1 (stC 1 (frz w30_11)) fun s15 => 
  bnP (binA .add s1_0 (.int .i64 1)) fun w36_16 => 
  bnC 1 (stC 1 w36_16) fun s17 => 
  pinB (elOk 2 (.agg [s6, s7])) <| 
  pinB (room 24 ((l4 : List AV).length + (([.agg [s6, s7]] : List AV) : List AV).length)) <| 
  k .normal [(1, .lp 1 0), (2, .lp 2 0), (4, .ls 4)] [(1, .cells [s17, s1_1, s15, s13, s14, s1_5, s1_6]), (2, .cells [s2_0, s2_1, s2_2, s2_3, s2_4, s2_5, s2_6]), (4, .own 2 (l4 ++ ([.agg [s6, s7]] : List AV)))] Q12)) := by kernel_rfl
noncomputable def L_nak_tells_0 (s : PSpecs) (s1_0 s1_1 s1_2 s1_3 s1_4 s1_5 s1_6 s2_0 s2_1 s2_2 s2_3 s2_4 s2_5 s2_6 : AV) (l4 : List AV) (Q : AHeap) : Option PEnd := loopP (penv s) c_nak_tells_0 [(1, .lp 1 0), (2, .lp 2 0), (4, .ls 4)] [(1, .cells [s1_0, s1_1, s1_2, s1_3, s1_4, s1_5, s1_6]), (2, .cells [s2_0, s2_1, s2_2, s2_3, s2_4, s2_5, s2_6]), (4, .own 2 l4)] Q
theorem L_nak_tells_0_fold (s : PSpecs) (s1_0 s1_1 s1_2 s1_3 s1_4 s1_5 s1_6 s2_0 s2_1 s2_2 s2_3 s2_4 s2_5 s2_6 : AV) (l4 : List AV) (Q : AHeap) : loopP (penv s) c_nak_tells_0 [(1, .lp 1 0), (2, .lp 2 0), (4, .ls 4)] [(1, .cells [s1_0, s1_1, s1_2, s1_3, s1_4, s1_5, s1_6]), (2, .cells [s2_0, s2_1, s2_2, s2_3, s2_4, s2_5, s2_6]), (4, .own 2 l4)] Q = L_nak_tells_0 s s1_0 s1_1 s1_2 s1_3 s1_4 s1_5 s1_6 s2_0 s2_1 s2_2 s2_3 s2_4 s2_5 s2_6 l4 Q := rfl
theorem L_nak_tells_0_eq (s : PSpecs) (s1_0 s1_1 s1_2 s1_3 s1_4 s1_5 s1_6 s2_0 s2_1 s2_2 s2_3 s2_4 s2_5 s2_6 : AV) (l4 : List AV) (Q : AHeap) : L_nak_tells_0 s s1_0 s1_1 s1_2 s1_3 s1_4 s1_5 s1_6 s2_0 s2_1 s2_2 s2_3 s2_4 s2_5 s2_6 l4 Q = evalPK (callP (penv s)) (loopP (penv s)) c_nak_tells_0 [(1, .lp 1 0), (2, .lp 2 0), (4, .ls 4)] [(1, .cells [s1_0, s1_1, s1_2, s1_3, s1_4, s1_5, s1_6]), (2, .cells [s2_0, s2_1, s2_2, s2_3, s2_4, s2_5, s2_6]), (4, .own 2 l4)] Q (goX (fun τ ω Q => loopP (penv s) c_nak_tells_0 τ ω Q) ret4) := loopP_body
abbrev X_nak_tells_0_x0 (s1_0 s1_1 s1_2 s1_3 s1_4 s1_5 s1_6 s2_0 s2_1 s2_2 s2_3 s2_4 s2_5 s2_6 : AV) (l4 : List AV) (Q : AHeap) : Option PEnd := some (.exit 0, [(1, .lp 1 0), (2, .lp 2 0), (4, .ls 4)], [(1, .cells [s1_0, s1_1, s1_2, s1_3, s1_4, s1_5, s1_6]), (2, .cells [s2_0, s2_1, s2_2, s2_3, s2_4, s2_5, s2_6]), (4, .own 2 l4)], Q)
theorem p_nak_tells_1 {β : Type} (call : CallF) (lp : PLoopF) (s1_0 s1_1 s1_2 s1_3 s1_4 s1_5 s1_6 s2_0 s2_1 s2_2 s2_3 s2_4 s2_5 s2_6 : AV) (l4 : List AV) (Q : AHeap) (k : PK β) : evalPK call lp c_nak_tells_1 [(1, .lp 1 0), (2, .lp 2 0), (4, .ls 4)] [(1, .cells [s1_0, s1_1, s1_2, s1_3, s1_4, s1_5, s1_6]), (2, .cells [s2_0, s2_1, s2_2, s2_3, s2_4, s2_5, s2_6]), (4, .own 2 l4)] Q k = (
  bnC 7 (stC 7 (.agg [s1_0, s1_1, s1_2, s1_3, s1_4, s1_5, s1_6])) fun s1 s2 s3 s4 s5 s6 s7 => 
  k .ret [(3, .ls 4), (48, .ls 4), (47, .v (.agg [s1_0, s1_1, s1_2, s1_3, s1_4, s1_5, s1_6])), (1, .lp 1 0), (2, .lp 2 0), (4, .ls 4)] [(2, .cells [s1, s2, s3, s4, s5, s6, s7]), (1, .cells [s1_0, s1_1, s1_2, s1_3, s1_4, s1_5, s1_6]), (4, .own 2 l4)] Q) := by kernel_rfl
theorem p_nak_tells_2 {β : Type} (call : CallF) (lp : PLoopF) (s1_0 s1_1 s1_2 s1_3 s1_4 s1_5 s1_6 s2_0 s2_1 s2_2 s2_3 s2_4 s2_5 s2_6 : AV) (l4 : List AV) (Q : AHeap) (k : PK β) : evalPK call lp c_nak_tells_2 [(1, .lp 1 0), (2, .lp 2 0), (4, .ls 4)] [(1, .cells [s1_0, s1_1, s1_2, s1_3, s1_4, s1_5, s1_6]), (2, .cells [s2_0, s2_1, s2_2, s2_3, s2_4, s2_5, s2_6]), (4, .own 2 l4)] Q k = (
  bnX (bnP (binA .gtr (.int .i64 ((l4 : List AV).length : Nat)) (.int .i64 0)) fun w44_1 => 
  cndS w44_1 (fun _ => bnS (call 61 [] Q) fun w45_2 Q3 => 
  bnC 2 (stC 2 (frz w45_2)) fun s4 s5 => 
  some (.normal, [(1, .lp 1 0), (2, .lp 2 0), (4, .ls 4)], [(1, .cells [s1_0, s1_1, s1_2, s1_3, s1_4, s4, s5]), (2, .cells [s2_0, s2_1, s2_2, s2_3, s2_4, s2_5, s2_6]), (4, .own 2 l4)], Q3))
  (fun _ => some (.normal, [(1, .lp 1 0), (2, .lp 2 0), (4, .ls 4)], [(1, .cells [s1_0, s1_1, s1_2, s1_3, s1_4, s1_5, s1_6]), (2, .cells [s2_0, s2_1, s2_2, s2_3, s2_4, s2_5, s2_6]), (4, .own 2 l4)], Q)))
  (goC (evalPK call lp c_nak_tells_1) k)) := by kernel_rfl
theorem g_nak_tells {call : CallF} {lp : PLoopF} (v0_0 v0_1 v0_2 v0_3 v0_4 v0_5 v0_6 : AV) (Q : AHeap) : evalPK call lp c_nak_tells [(0, .v (.agg [v0_0, v0_1, v0_2, v0_3, v0_4, v0_5, v0_6]))] [] Q (retPK [.cell 2 (some 7), .tmp 3] [.n, .f 2]) = (
  bnC 7 (stC 7 (.agg [v0_0, v0_1, v0_2, v0_3, v0_4, v0_5, v0_6])) fun s1 s2 s3 s4 s5 s6 s7 => 
  bnX (lp c_nak_tells_0 [(1, .lp 1 0), (2, .lp 2 0), (4, .ls 4)] [(1, .cells [s1, s2, s3, s4, s5, s6, s7]), (2, .cells [.int .i64 0, .int .i64 0, .nils, .nils, .nils, .int .i64 0, .int .i64 0]), (4, .own 2 ([] : List AV))] Q) (outX 0 (goC (evalPK call lp c_nak_tells_2) (retPK [.cell 2 (some 7), .tmp 3] [.n, .f 2])))) := by kernel_rfl
def f_nak_tells {s : PSpecs} (hs : s.lookup 60 = none) (v0_0 v0_1 v0_2 v0_3 v0_4 v0_5 v0_6 : AV) (Q : AHeap) := (callP_fn (E := penv s) (f := 60) (fn := pf_nak_tells) hs rfl [.agg [v0_0, v0_1, v0_2, v0_3, v0_4, v0_5, v0_6]] Q rfl).trans (g_nak_tells (call := callP (penv s)) (lp := loopP (penv s)) v0_0 v0_1 v0_2 v0_3 v0_4 v0_5 v0_6 Q)
theorem g_wait_Start {call : CallF} {lp : PLoopF} (Q : AHeap) : evalPK call lp c_wait_Start [] [] Q (retPK [.cell 0 (some 2)] [.n]) = (
  some (.agg [.int .i64 0, .int .i64 0], Q)) := by kernel_rfl
def f_wait_Start {s : PSpecs} (hs : s.lookup 61 = none) (Q : AHeap) := (callP_fn (E := penv s) (f := 61) (fn := pf_wait_Start) hs rfl [] Q rfl).trans (g_wait_Start (call := callP (penv s)) (lp := loopP (penv s)) Q)
theorem g_pleachref13_First {call : CallF} {lp : PLoopF} (v0 : AV) (Q : AHeap) : evalPK call lp c_pleachref13_First [(0, .v v0)] [] Q (retPK [.tmp 2] [.n]) = (
  bnP (lenQ v0) fun w4_1 => 
  bnP (binA .eql w4_1 (.int .i64 0)) fun w5_2 => 
  cndS w5_2 (fun _ => some (.int .i64 0, Q))
  (fun _ => bnP (elQ 2 v0 (.int .i64 0)) fun e3 => 
  bnP ((AV.cells e3)[0]?) fun w9_4 => 
  bnP (rcv false .n w9_4) fun r5 => some (r5, Q))) := by kernel_rfl
def f_pleachref13_First {s : PSpecs} (hs : s.lookup 62 = none) (v0 : AV) (Q : AHeap) := (callP_fn (E := penv s) (f := 62) (fn := pf_pleachref13_First) hs rfl [v0] Q rfl).trans (g_pleachref13_First (call := callP (penv s)) (lp := loopP (penv s)) v0 Q)
theorem g_pleachref13_Skip {call : CallF} {lp : PLoopF} (v0 v1 v2 v3 : AV) (Q : AHeap) : evalPK call lp c_pleachref13_Skip [(0, .v v0), (1, .v v1), (2, .v v2), (3, .v v3)] [] Q (retPK [.tmp 8] [.o 5]) = (
  bnL (srcT [] 5 (.v v0)) fun l1 => 
  pinB (room 48 ((([] : List AV) : List AV).length + (l1 : List AV).length)) <| 
  bnC 5 (fillP [.int .i64 0, .int .i64 0, .int .i64 0, .str [], .int .i64 0] [(0, 1, .int .i64 2), (1, 1, v1), (2, 1, v2), (4, 1, v3)]) fun c15_2 c15_3 c15_4 c15_5 c15_6 => 
  pinB (elOk 5 (.agg [c15_2, c15_3, c15_4, c15_5, c15_6])) <| 
  pinB (room 48 (((([] : List AV) ++ l1) : List AV).length + (([.agg [c15_2, c15_3, c15_4, c15_5, c15_6]] : List AV) : List AV).length)) <| 
  some (.ow 5 ((([] : List AV) ++ l1) ++ ([.agg [c15_2, c15_3, c15_4, c15_5, c15_6]] : List AV)), Q)) := by kernel_rfl
def f_pleachref13_Skip {s : PSpecs} (hs : s.lookup 63 = none) (v0 v1 v2 v3 : AV) (Q : AHeap) := (callP_fn (E := penv s) (f := 63) (fn := pf_pleachref13_Skip) hs rfl [v0, v1, v2, v3] Q rfl).trans (g_pleachref13_Skip (call := callP (penv s)) (lp := loopP (penv s)) v0 v1 v2 v3 Q)
theorem g_pleachref13_TakeWin {call : CallF} {lp : PLoopF} (v0 v1 : AV) (Q : AHeap) : evalPK call lp c_pleachref13_TakeWin [(0, .v v0), (1, .v v1)] [] Q (retPK [.tmp 4, .cell 5 (some 2), .tmp 6] [.f 2, .n, .n]) = (
  bnP (lenQ v0) fun w8_1 => 
  bnP (binA .eql w8_1 (.int .i64 0)) fun w9_2 => 
  bnP (gdQ w9_2 false (some v0)) fun w11_3 => 
  bnP (gdQ w9_2 false (elQ 2 w11_3 (.int .i64 0))) fun e4 => 
  bnP (gdQ w9_2 false ((AV.cells e4)[0]?)) fun w14_5 => 
  bnP (gdQ w9_2 false (some v1)) fun w15_6 => 
  bnP (gdQ w9_2 false (binA .neq w14_5 w15_6)) fun w16_7 => 
  bnP (pickA w9_2 (.bool true) w16_7) fun w17_8 => 
  cndS w17_8 (fun _ => bnP (rcv false (.f 2) v0) fun r9 => some (.tup [frz r9, .agg [.int .i64 0, .str []], .bool false], Q))
  (fun _ => bnP (slcQ 2 v0 (some (.int .i64 1)) none) fun w22_10 => 
  bnP (elQ 2 v0 (.int .i64 0)) fun e11 => 
  bnC 2 (cut (AV.cells e11) 0 2) fun c26_12 c26_13 => 
  bnL (srcT [] 2 (.v w22_10)) fun l14 => 
  pinB (room 24 ((([] : List AV) : List AV).length + (l14 : List AV).length)) <| 
  bnC 2 (stC 2 (.agg [c26_12, c26_13])) fun s15 s16 => 
  some (.tup [.fz 2 (([] : List AV) ++ l14), .agg [s15, s16], .bool true], Q))) := by kernel_rfl
def f_pleachref13_TakeWin {s : PSpecs} (hs : s.lookup 64 = none) (v0 v1 : AV) (Q : AHeap) := (callP_fn (E := penv s) (f := 64) (fn := pf_pleachref13_TakeWin) hs rfl [v0, v1] Q rfl).trans (g_pleachref13_TakeWin (call := callP (penv s)) (lp := loopP (penv s)) v0 v1 Q)
theorem p_slices_BinarySearchFunc_api_Item_api_Item_int_0 {β : Type} (call : CallF) (lp : PLoopF) (t0 t1 t2 t8 t9 t10 : AV) (Q : AHeap) (k : PK β) : evalPK call lp c_slices_BinarySearchFunc_api_Item_api_Item_int_0 [(0, .v t0), (1, .v t1), (2, .v t2), (8, .v t8), (9, .v t9), (10, .v t10)] [] Q k = (
  bnP (binA .lss t9 t10) fun w17_1 => 
  cndS w17_1 (fun _ => bnX (bnP (binA .add t9 t10) fun w20_2 => 
  bnP (cviA .u64 w20_2) fun w21_3 => 
  bnP (binA .shr w21_3 (.int .u64 1)) fun w22_4 => 
  bnP (cviA .i64 w22_4) fun w23_5 => 
  bnP (elQ 2 t0 w23_5) fun e6 => 
  bnC 2 (cut (AV.cells e6) 0 2) fun c28_7 c28_8 => 
  bnF t2 fun f11 f11f f11c => 
  bnS (lowF call f11 (f11f ++ [.agg [c28_7, c28_8], t1] ++ f11c) Q) fun w30_9 Q10 => 
  bnP (binA .lss (frz w30_9) (.int .i64 0)) fun w31_12 => 
  cndS w31_12 (fun _ => bnP (binA .add w23_5 (.int .i64 1)) fun w33_13 => 
  some (.normal, [(0, .v t0), (1, .v t1), (2, .v t2), (8, .v t8), (9, .v w33_13), (10, .v t10)], [], Q10))
  (fun _ => some (.normal, [(0, .v t0), (1, .v t1), (2, .v t2), (8, .v t8), (9, .v t9), (10, .v w23_5)], [], Q10)))
  (outX 1 (finC [] [] [0, 1, 2, 8, 9, 10] [] k)))
  (fun _ => k (.exit 0) [(0, .v t0), (1, .v t1), (2, .v t2), (8, .v t8), (9, .v t9)] [] Q)) := by kernel_rfl
noncomputable def L_slices_BinarySearchFunc_api_Item_api_Item_int_0 (s : PSpecs) (t0 t1 t2 t8 t9 t10 : AV) (Q : AHeap) : Option PEnd := loopP (penv s) c_slices_BinarySearchFunc_api_Item_api_Item_int_0 [(0, .v t0), (1, .v t1), (2, .v t2), (8, .v t8), (9, .v t9), (10, .v t10)] [] Q
theorem L_slices_BinarySearchFunc_api_Item_api_Item_int_0_fold (s : PSpecs) (t0 t1 t2 t8 t9 t10 : AV) (Q : AHeap) : loopP (penv s) c_slices_BinarySearchFunc_api_Item_api_Item_int_0 [(0, .v t0), (1, .v t1), (2, .v t2), (8, .v t8), (9, .v t9), (10, .v t10)] [] Q = L_slices_BinarySearchFunc_api_Item_api_Item_int_0 s t0 t1 t2 t8 t9 t10 Q := rfl
theorem L_slices_BinarySearchFunc_api_Item_api_Item_int_0_eq (s : PSpecs) (t0 t1 t2 t8 t9 t10 : AV) (Q : AHeap) : L_slices_BinarySearchFunc_api_Item_api_Item_int_0 s t0 t1 t2 t8 t9 t10 Q = evalPK (callP (penv s)) (loopP (penv s)) c_slices_BinarySearchFunc_api_Item_api_Item_int_0 [(0, .v t0), (1, .v t1), (2, .v t2), (8, .v t8), (9, .v t9), (10, .v t10)] [] Q (goX (fun τ ω Q => loopP (penv s) c_slices_BinarySearchFunc_api_Item_api_Item_int_0 τ ω Q) ret4) := loopP_body
abbrev X_slices_BinarySearchFunc_api_Item_api_Item_int_0_x0 (t0 t1 t2 t8 t9 : AV) (Q : AHeap) : Option PEnd := some (.exit 0, [(0, .v t0), (1, .v t1), (2, .v t2), (8, .v t8), (9, .v t9)], [], Q)
theorem p_slices_BinarySearchFunc_api_Item_api_Item_int_1 {β : Type} (call : CallF) (lp : PLoopF) (t0 t1 t2 t8 t9 : AV) (Q : AHeap) (k : PK β) : evalPK call lp c_slices_BinarySearchFunc_api_Item_api_Item_int_1 [(0, .v t0), (1, .v t1), (2, .v t2), (8, .v t8), (9, .v t9)] [] Q k = (
  bnP (binA .lss t9 t8) fun w38_1 => 
  bnP (gdQ w38_1 true (some t2)) fun w40_2 => 
  bnP (gdQ w38_1 true (some t0)) fun w41_3 => 
  bnP (gdQ w38_1 true (some t9)) fun w42_4 => 
  bnP (gdQ w38_1 true (elQ 2 w41_3 w42_4)) fun e5 => 
  bnP (gdQ w38_1 true ((cut (AV.cells e5) 0 2).map AV.agg)) fun w44_6 => 
  bnP (gdQ w38_1 true (some t1)) fun w45_7 => 
  bnS (gdH w38_1 true (bnF w40_2 fun f10 f10f f10c => lowF call f10 (f10f ++ [w44_6, w45_7] ++ f10c) Q) Q) fun w46_8 Q9 => 
  bnP (gdQ w38_1 true (binA .eql (frz w46_8) (.int .i64 0))) fun w47_11 => 
  bnP (pickA w38_1 w47_11 (.bool false)) fun w48_12 => 
  k .ret [(7, .v w48_12), (6, .v t9), (48, .v w48_12), (47, .v w47_11), (46, .v (frz w46_8)), (45, .v w45_7), (44, .v w44_6), (43, .gd 39 true (.fp e5 0)), (42, .v w42_4), (41, .v w41_3), (40, .v w40_2), (39, .v w38_1), (38, .v w38_1), (37, .v t8), (36, .v t9), (35, .v t9), (0, .v t0), (1, .v t1), (2, .v t2), (8, .v t8), (9, .v t9)] [] Q9) := by kernel_rfl
theorem g_slices_BinarySearchFunc_api_Item_api_Item_int {call : CallF} {lp : PLoopF} (v0 v1 v2 : AV) (Q : AHeap) : evalPK call lp c_slices_BinarySearchFunc_api_Item_api_Item_int [(0, .v v0), (1, .v v1), (2, .v v2)] [] Q (retPK [.tmp 6, .tmp 7] [.n, .n]) = (
  bnP (lenQ v0) fun w13_1 => 
  bnX (lp c_slices_BinarySearchFunc_api_Item_api_Item_int_0 [(0, .v v0), (1, .v v1), (2, .v v2), (8, .v w13_1), (9, .v (.int .i64 0)), (10, .v w13_1)] [] Q) (outX 0 (goC (evalPK call lp c_slices_BinarySearchFunc_api_Item_api_Item_int_1) (retPK [.tmp 6, .tmp 7] [.n, .n])))) := by kernel_rfl
def f_slices_BinarySearchFunc_api_Item_api_Item_int {s : PSpecs} (hs : s.lookup 65 = none) (v0 v1 v2 : AV) (Q : AHeap) := (callP_fn (E := penv s) (f := 65) (fn := pf_slices_BinarySearchFunc_api_Item_api_Item_int) hs rfl [v0, v1, v2] Q rfl).trans (g_slices_BinarySearchFunc_api_Item_api_Item_int (call := callP (penv s)) (lp := loopP (penv s)) v0 v1 v2 Q)
theorem g_win_Put_1 {call : CallF} {lp : PLoopF} (v0_0 v0_1 v1 : AV) (Q : AHeap) : evalPK call lp c_win_Put_1 [(0, .v (.agg [v0_0, v0_1])), (1, .v v1)] [] Q (retPK [.tmp 4] [.n]) = (
  bnC 2 (stC 2 (.agg [v0_0, v0_1])) fun s1 s2 => 
  bnS (call 67 [s1, v1] Q) fun w8_3 Q4 => 
  bnP (rcv false .n (frz w8_3)) fun r5 => some (r5, Q4)) := by kernel_rfl
def f_win_Put_1 {s : PSpecs} (hs : s.lookup 66 = none) (v0_0 v0_1 v1 : AV) (Q : AHeap) := (callP_fn (E := penv s) (f := 66) (fn := pf_win_Put_1) hs rfl [.agg [v0_0, v0_1], v1] Q rfl).trans (g_win_Put_1 (call := callP (penv s)) (lp := loopP (penv s)) v0_0 v0_1 v1 Q)
theorem g_cmp_Compare_int {call : CallF} {lp : PLoopF} (v0 v1 : AV) (Q : AHeap) : evalPK call lp c_cmp_Compare_int [(0, .v v0), (1, .v v1)] [] Q (retPK [.tmp 4] [.n]) = (
  bnS (call 73 [v0] Q) fun w8_1 Q2 => 
  bnS (call 73 [v1] Q2) fun w10_3 Q4 => 
  cndS (frz w8_1) (fun _ => cndS (frz w10_3) (fun _ => some (.int .i64 0, Q4))
  (fun _ => some (.int .i64 (-1), Q4)))
  (fun _ => cndS (frz w10_3) (fun _ => some (.int .i64 1, Q4))
  (fun _ => bnP (binA .lss v0 v1) fun w16_5 => 
  cndS w16_5 (fun _ => some (.int .i64 (-1), Q4))
  (fun _ => bnP (binA .gtr v0 v1) fun w19_6 => 
  cndS w19_6 (fun _ => some (.int .i64 1, Q4))
  (fun _ => some (.int .i64 0, Q4)))))) := by kernel_rfl
def f_cmp_Compare_int {s : PSpecs} (hs : s.lookup 67 = none) (v0 v1 : AV) (Q : AHeap) := (callP_fn (E := penv s) (f := 67) (fn := pf_cmp_Compare_int) hs rfl [v0, v1] Q rfl).trans (g_cmp_Compare_int (call := callP (penv s)) (lp := loopP (penv s)) v0 v1 Q)
theorem g_win_First {call : CallF} {lp : PLoopF} (v0 : AV) (Q : AHeap) : evalPK call lp c_win_First [(0, .v v0)] [] Q (retPK [.tmp 2] [.n]) = (
  bnP (lenQ v0) fun w4_1 => 
  bnP (binA .eql w4_1 (.int .i64 0)) fun w5_2 => 
  cndS w5_2 (fun _ => some (.int .i64 0, Q))
  (fun _ => bnP (elQ 2 v0 (.int .i64 0)) fun e3 => 
  bnP ((AV.cells e3)[0]?) fun w9_4 => 
  bnP (rcv false .n w9_4) fun r5 => some (r5, Q))) := by kernel_rfl
def f_win_First {s : PSpecs} (hs : s.lookup 69 = none) (v0 : AV) (Q : AHeap) := (callP_fn (E := penv s) (f := 69) (fn := pf_win_First) hs rfl [v0] Q rfl).trans (g_win_First (call := callP (penv s)) (lp := loopP (penv s)) v0 Q)
theorem p_slices_IndexFunc_api_Item_api_Item_0 {β : Type} (call : CallF) (lp : PLoopF) (t0 t1 t7 t8 : AV) (Q : AHeap) (k : PK β) : evalPK call lp c_slices_IndexFunc_api_Item_api_Item_0 [(0, .v t0), (1, .v t1), (7, .v t7), (8, .v t8)] [] Q k = (
  bnP (binA .lss t8 t7) fun w9_1 => 
  cndS w9_1 (fun _ => bnP (elQ 2 t0 t8) fun e2 => 
  bnC 2 (cut (AV.cells e2) 0 2) fun c15_3 c15_4 => 
  bnF t1 fun f7 f7f f7c => 
  bnS (lowF call f7 (f7f ++ [.agg [c15_3, c15_4]] ++ f7c) Q) fun w16_5 Q6 => 
  cndS (frz w16_5) (fun _ => k .ret [(4, .v t8)] [] Q6)
  (fun _ => bnP (binA .add t8 (.int .i64 1)) fun w18_8 => 
  k .normal [(0, .v t0), (1, .v t1), (7, .v t7), (8, .v w18_8)] [] Q6))
  (fun _ => k (.exit 0) [] [] Q)) := by kernel_rfl
noncomputable def L_slices_IndexFunc_api_Item_api_Item_0 (s : PSpecs) (t0 t1 t7 t8 : AV) (Q : AHeap) : Option PEnd := loopP (penv s) c_slices_IndexFunc_api_Item_api_Item_0 [(0, .v t0), (1, .v t1), (7, .v t7), (8, .v t8)] [] Q
theorem L_slices_IndexFunc_api_Item_api_Item_0_fold (s : PSpecs) (t0 t1 t7 t8 : AV) (Q : AHeap) : loopP (penv s) c_slices_IndexFunc_api_Item_api_Item_0 [(0, .v t0), (1, .v t1), (7, .v t7), (8, .v t8)] [] Q = L_slices_IndexFunc_api_Item_api_Item_0 s t0 t1 t7 t8 Q := rfl
theorem L_slices_IndexFunc_api_Item_api_Item_0_eq (s : PSpecs) (t0 t1 t7 t8 : AV) (Q : AHeap) : L_slices_IndexFunc_api_Item_api_Item_0 s t0 t1 t7 t8 Q = evalPK (callP (penv s)) (loopP (penv s)) c_slices_IndexFunc_api_Item_api_Item_0 [(0, .v t0), (1, .v t1), (7, .v t7), (8, .v t8)] [] Q (goX (fun τ ω Q => loopP (penv s) c_slices_IndexFunc_api_Item_api_Item_0 τ ω Q) ret4) := loopP_body
abbrev X_slices_IndexFunc_api_Item_api_Item_0_x0 (Q : AHeap) : Option PEnd := some (.exit 0, [], [], Q)
abbrev X_slices_IndexFunc_api_Item_api_Item_0_ret (t4 : AV) (Q : AHeap) : Option PEnd := some (.ret, [(4, .v t4)], [], Q)
theorem p_slices_IndexFunc_api_Item_api_Item_1 {β : Type} (call : CallF) (lp : PLoopF) (Q : AHeap) (k : PK β) : evalPK call lp c_slices_IndexFunc_api_Item_api_Item_1 [] [] Q k = (
  k .ret [(4, .v (.int .i64 (-1)))] [] Q) := by kernel_rfl
theorem g_slices_IndexFunc_api_Item_api_Item {call : CallF} {lp : PLoopF} (v0 v1 : AV) (Q : AHeap) : evalPK call lp c_slices_IndexFunc_api_Item_api_Item [(0, .v v0), (1, .v v1)] [] Q (retPK [.tmp 4] [.n]) = (
  bnP (lenQ v0) fun w7_1 => 
  bnX (lp c_slices_IndexFunc_api_Item_api_Item_0 [(0, .v v0), (1, .v v1), (7, .v w7_1), (8, .v (.int .i64 0))] [] Q) (outX 0 (goC (evalPK call lp c_slices_IndexFunc_api_Item_api_Item_1) (retPK [.tmp 4] [.n])))) := by kernel_rfl
def f_slices_IndexFunc_api_Item_api_Item {s : PSpecs} (hs : s.lookup 70 = none) (v0 v1 : AV) (Q : AHeap) := (callP_fn (E := penv s) (f := 70) (fn := pf_slices_IndexFunc_api_Item_api_Item) hs rfl [v0, v1] Q rfl).trans (g_slices_IndexFunc_api_Item_api_Item (call := callP (penv s)) (lp := loopP (penv s)) v0 v1 Q)
theorem g_nak_ahead_1 {call : CallF} {lp : PLoopF} (v0_0 v0_1 v1 : AV) (Q : AHeap) : evalPK call lp c_nak_ahead_1 [(0, .v (.agg [v0_0, v0_1])), (1, .v v1)] [] Q (retPK [.tmp 3] [.n]) = (
  bnC 2 (stC 2 (.agg [v0_0, v0_1])) fun s1 s2 => 
  bnP (fadQ 0 v1) fun w6_3 => 
  bnP (ldQ Q w6_3) fun w7_4 => 
  bnP (binA .geq s1 w7_4) fun w8_5 => 
  bnP (rcv false .n w8_5) fun r6 => some (r6, Q)) := by kernel_rfl
def f_nak_ahead_1 {s : PSpecs} (hs : s.lookup 71 = none) (v0_0 v0_1 v1 : AV) (Q : AHeap) := (callP_fn (E := penv s) (f := 71) (fn := pf_nak_ahead_1) hs rfl [.agg [v0_0, v0_1], v1] Q rfl).trans (g_nak_ahead_1 (call := callP (penv s)) (lp := loopP (penv s)) v0_0 v0_1 v1 Q)
theorem g_win_Take {call : CallF} {lp : PLoopF} (v0 v1 : AV) (Q : AHeap) : evalPK call lp c_win_Take [(0, .v v0), (1, .v v1)] [] Q (retPK [.tmp 4, .cell 5 (some 2), .tmp 6] [.f 2, .n, .n]) = (
  bnS (call 56 [v0] Q) fun w8_1 Q2 => 
  bnS (call 69 [v0] Q2) fun w10_3 Q4 => 
  bnP (binA .neq (frz w10_3) v1) fun w12_5 => 
  bnP (gdQ w12_5 false (some v0)) fun w14_6 => 
  bnP (gdQ w12_5 false (lenQ w14_6)) fun w15_7 => 
  bnP (gdQ w12_5 false (binA .eql w15_7 (.int .i64 0))) fun w16_8 => 
  bnP (pickA w12_5 (.bool true) w16_8) fun w17_9 => 
  cndS w17_9 (fun _ => bnP (rcv false (.f 2) (frz w8_1)) fun r10 => some (.tup [frz r10, .agg [.int .i64 0, .str []], .bool false], Q4))
  (fun _ => bnP (slcQ 2 (frz w8_1) (some (.int .i64 1)) none) fun w21_11 => 
  bnP (elQ 2 v0 (.int .i64 0)) fun e12 => 
  bnC 2 (cut (AV.cells e12) 0 2) fun c24_13 c24_14 => 
  bnC 2 (stC 2 (.agg [c24_13, c24_14])) fun s15 s16 => 
  bnP (rcv false (.f 2) w21_11) fun r17 => some (.tup [frz r17, .agg [s15, s16], .bool true], Q4))) := by kernel_rfl
def f_win_Take {s : PSpecs} (hs : s.lookup 72 = none) (v0 v1 : AV) (Q : AHeap) := (callP_fn (E := penv s) (f := 72) (fn := pf_win_Take) hs rfl [v0, v1] Q rfl).trans (g_win_Take (call := callP (penv s)) (lp := loopP (penv s)) v0 v1 Q)
theorem g_cmp_isNaN_int {call : CallF} {lp : PLoopF} (v0 : AV) (Q : AHeap) : evalPK call lp c_cmp_isNaN_int [(0, .v v0)] [] Q (retPK [.tmp 2] [.n]) = (
  bnP (binA .neq v0 v0) fun w5_1 => 
  bnP (rcv false .n w5_1) fun r2 => some (r2, Q)) := by kernel_rfl
def f_cmp_isNaN_int {s : PSpecs} (hs : s.lookup 73 = none) (v0 : AV) (Q : AHeap) := (callP_fn (E := penv s) (f := 73) (fn := pf_cmp_isNaN_int) hs rfl [v0] Q rfl).trans (g_cmp_isNaN_int (call := callP (penv s)) (lp := loopP (penv s)) v0 Q)
end Go.Proofs.Ytmogepinpdibdaa.Pf
