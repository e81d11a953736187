/- Equations by values. Printed by mkpv.py of this repo. -/
import Derived.Test.YtcledejamnnbmaaPsd
import Derived.Test.YtcledejamnnbmaaPvE
namespace Go.Proofs.Ytcledejamnnbmaa.Ps
open Go.Ab
set_option maxRecDepth 100000
set_option linter.unusedVariables false
set_option linter.unusedSimpArgs false
set_option linter.defProp false
theorem p_pleachlaw3_SpanSet_0 {β : Type} (call : CallF) (lp : PLoopF) (t0 t1 t2 t3 t9 t10 t12 t14 t15 : AV) (cs11 : List AV) (Q : AHeap) (k : PK β) : evalPK call lp c_pleachlaw3_SpanSet_0 [(0, .v t0), (1, .v t1), (2, .v t2), (3, .v t3), (9, .v t9), (10, .v t10), (11, .lp 11 0), (12, .v t12), (14, .v t14), (15, .v t15)] [(11, .cells cs11)] Q k = (
  bnP (binA .leq t15 t14) fun w58_1 => 
  cndS w58_1 (fun _ => bnN (idxN 60 t15) fun i2 => 
  pinB (Nat.ble ((0 + i2 * 1) + 1) (cs11 : List AV).length) <| 
  bnP (binA .add t15 (.int .i64 1)) fun w60_3 => 
  k .normal [(0, .v t0), (1, .v t1), (2, .v t2), (3, .v t3), (9, .v t9), (10, .v t10), (11, .lp 11 0), (12, .v t12), (14, .v t14), (15, .v w60_3)] [(11, .cells (splice cs11 (0 + i2 * 1) [.bool true]))] Q)
  (fun _ => k (.exit 2) [(0, .v t0), (1, .v t1), (2, .v t2), (3, .v t3), (9, .v t9), (10, .v t10), (11, .lp 11 0), (12, .v t12)] [(11, .cells cs11)] Q)) := by kernel_rfl
noncomputable def L_pleachlaw3_SpanSet_0 (s : PSpecs) (t0 t1 t2 t3 t9 t10 t12 t14 t15 : AV) (cs11 : List AV) (Q : AHeap) : Option PEnd := loopP (penv s) c_pleachlaw3_SpanSet_0 [(0, .v t0), (1, .v t1), (2, .v t2), (3, .v t3), (9, .v t9), (10, .v t10), (11, .lp 11 0), (12, .v t12), (14, .v t14), (15, .v t15)] [(11, .cells cs11)] Q
theorem L_pleachlaw3_SpanSet_0_fold (s : PSpecs) (t0 t1 t2 t3 t9 t10 t12 t14 t15 : AV) (cs11 : List AV) (Q : AHeap) : loopP (penv s) c_pleachlaw3_SpanSet_0 [(0, .v t0), (1, .v t1), (2, .v t2), (3, .v t3), (9, .v t9), (10, .v t10), (11, .lp 11 0), (12, .v t12), (14, .v t14), (15, .v t15)] [(11, .cells cs11)] Q = L_pleachlaw3_SpanSet_0 s t0 t1 t2 t3 t9 t10 t12 t14 t15 cs11 Q := rfl
theorem L_pleachlaw3_SpanSet_0_eq (s : PSpecs) (t0 t1 t2 t3 t9 t10 t12 t14 t15 : AV) (cs11 : List AV) (Q : AHeap) : L_pleachlaw3_SpanSet_0 s t0 t1 t2 t3 t9 t10 t12 t14 t15 cs11 Q = evalPK (callP (penv s)) (loopP (penv s)) c_pleachlaw3_SpanSet_0 [(0, .v t0), (1, .v t1), (2, .v t2), (3, .v t3), (9, .v t9), (10, .v t10), (11, .lp 11 0), (12, .v t12), (14, .v t14), (15, .v t15)] [(11, .cells cs11)] Q (goX (fun τ ω Q => loopP (penv s) c_pleachlaw3_SpanSet_0 τ ω Q) ret4) := loopP_body
abbrev X_pleachlaw3_SpanSet_0_x2 (t0 t1 t2 t3 t9 t10 t12 : AV) (cs11 : List AV) (Q : AHeap) : Option PEnd := some (.exit 2, [(0, .v t0), (1, .v t1), (2, .v t2), (3, .v t3), (9, .v t9), (10, .v t10), (11, .lp 11 0), (12, .v t12)], [(11, .cells cs11)], Q)
theorem p_pleachlaw3_SpanSet_1 {β : Type} (call : CallF) (lp : PLoopF) (t0 t1 t2 t3 t9 t10 t12 : AV) (cs11 : List AV) (Q : AHeap) (k : PK β) : evalPK call lp c_pleachlaw3_SpanSet_1 [(0, .v t0), (1, .v t1), (2, .v t2), (3, .v t3), (9, .v t9), (10, .v t10), (11, .lp 11 0), (12, .v t12)] [(11, .cells cs11)] Q k = (
  bnP (cviA .i64 t1) fun w66_1 => 
  bnP (binA .add t12 w66_1) fun w67_2 => 
  bnP (lenQ t0) fun w69_3 => 
  bnP (binA .rem w67_2 w69_3) fun w70_4 => 
  bnP (elQ 2 t0 w70_4) fun e5 => 
  bnC 2 (cut (AV.cells e5) 0 2) fun c72_6 c72_7 => 
  bnC 2 (stC 2 (.agg [c72_6, c72_7])) fun s8 s9 => 
  bnN (idxN 2 (.int .i64 0)) fun i10 => 
  bnP (([s8, s9] : List AV)[(0 + i10 * 1)]?) fun w74_11 => 
  bnP (binA .rem w74_11 (.int .u8 40)) fun w75_12 => 
  bnP (cviA .i64 w75_12) fun w76_13 => 
  bnP (binA .add (.int .i64 1) w76_13) fun w77_14 => 
  bnN (idxN 2 (.int .i64 1)) fun i15 => 
  bnP (([s8, s9] : List AV)[(0 + i15 * 1)]?) fun w82_16 => 
  bnP (binA .rem w82_16 (.int .u8 6)) fun w83_17 => 
  bnP (cviA .i64 w83_17) fun w84_18 => 
  bnP (binA .add w77_14 w84_18) fun w85_19 => 
  bnC 2 (fillP [.int .i64 0, .int .i64 0] [(0, 1, w77_14), (1, 1, w85_19)]) fun c86_20 c86_21 => 
  bnS (call 11 [t10, .agg [c86_20, c86_21]] Q) fun w87_22 Q23 => 
  k .normal [(0, .v t0), (1, .v t1), (2, .v t2), (3, .v t3), (9, .v t9), (10, .v (frz w87_22)), (11, .lp 11 0), (12, .v t12)] [(11, .cells cs11)] Q23) := by kernel_rfl
theorem p_pleachlaw3_SpanSet_2 {β : Type} (call : CallF) (lp : PLoopF) (t0 t1 t2 t3 t9 t10 t12 : AV) (cs11 : List AV) (Q : AHeap) (k : PK β) : evalPK call lp c_pleachlaw3_SpanSet_2 [(0, .v t0), (1, .v t1), (2, .v t2), (3, .v t3), (9, .v t9), (10, .v t10), (11, .lp 11 0), (12, .v t12)] [(11, .cells cs11)] Q k = (
  bnP (binA .add t12 (.int .i64 1)) fun w32_1 => 
  k .normal [(0, .v t0), (1, .v t1), (2, .v t2), (3, .v t3), (9, .v t9), (10, .v t10), (11, .lp 11 0), (12, .v w32_1)] [(11, .cells cs11)] Q) := by kernel_rfl
theorem p_pleachlaw3_SpanSet_3 {β : Type} (call : CallF) (lp : PLoopF) (t0 t1 t2 t3 t9 t10 t12 : AV) (cs11 : List AV) (Q : AHeap) (k : PK β) : evalPK call lp c_pleachlaw3_SpanSet_3 [(0, .v t0), (1, .v t1), (2, .v t2), (3, .v t3), (9, .v t9), (10, .v t10), (11, .lp 11 0), (12, .v t12)] [(11, .cells cs11)] Q k = (
  bnP (lenQ t0) fun w29_1 => 
  bnP (binA .lss t12 w29_1) fun w30_2 => 
  cndS w30_2 (fun _ => bnP (elQ 2 t0 t12) fun e3 => 
  bnN (idxN 2 (.int .i64 0)) fun i4 => 
  bnP ((AV.cells e3)[(0 + i4 * 1)]?) fun w37_5 => 
  bnP (binA .rem w37_5 (.int .u8 40)) fun w38_6 => 
  bnP (cviA .i64 w38_6) fun w39_7 => 
  bnP (binA .add (.int .i64 1) w39_7) fun w40_8 => 
  bnP (elQ 2 t0 t12) fun e9 => 
  bnN (idxN 2 (.int .i64 1)) fun i10 => 
  bnP ((AV.cells e9)[(0 + i10 * 1)]?) fun w46_11 => 
  bnP (binA .rem w46_11 (.int .u8 6)) fun w47_12 => 
  bnP (cviA .i64 w47_12) fun w48_13 => 
  bnP (binA .add w40_8 w48_13) fun w49_14 => 
  bnC 2 (fillP [.int .i64 0, .int .i64 0] [(0, 1, w40_8), (1, 1, w49_14)]) fun c53_15 c53_16 => 
  bnS (call 11 [t9, .agg [c53_15, c53_16]] Q) fun w54_17 Q18 => 
  bnX (lp c_pleachlaw3_SpanSet_0 [(0, .v t0), (1, .v t1), (2, .v t2), (3, .v t3), (9, .v (frz w54_17)), (10, .v t10), (11, .lp 11 0), (12, .v t12), (14, .v w49_14), (15, .v w40_8)] [(11, .cells cs11)] Q18) (outX 2 (goC (evalPK call lp c_pleachlaw3_SpanSet_1) (outX 1 (goC (evalPK call lp c_pleachlaw3_SpanSet_2) k)))))
  (fun _ => k (.exit 0) [(2, .v t2), (3, .v t3), (9, .v t9), (10, .v t10), (11, .lp 11 0)] [(11, .cells cs11)] Q)) := by kernel_rfl
noncomputable def L_pleachlaw3_SpanSet_3 (s : PSpecs) (t0 t1 t2 t3 t9 t10 t12 : AV) (cs11 : List AV) (Q : AHeap) : Option PEnd := loopP (penv s) c_pleachlaw3_SpanSet_3 [(0, .v t0), (1, .v t1), (2, .v t2), (3, .v t3), (9, .v t9), (10, .v t10), (11, .lp 11 0), (12, .v t12)] [(11, .cells cs11)] Q
theorem L_pleachlaw3_SpanSet_3_fold (s : PSpecs) (t0 t1 t2 t3 t9 t10 t12 : AV) (cs11 : List AV) (Q : AHeap) : loopP (penv s) c_pleachlaw3_SpanSet_3 [(0, .v t0), (1, .v t1), (2, .v t2), (3, .v t3), (9, .v t9), (10, .v t10), (11, .lp 11 0), (12, .v t12)] [(11, .cells cs11)] Q = L_pleachlaw3_SpanSet_3 s t0 t1 t2 t3 t9 t10 t12 cs11 Q := rfl
theorem L_pleachlaw3_SpanSet_3_eq (s : PSpecs) (t0 t1 t2 t3 t9 t10 t12 : AV) (cs11 : List AV) (Q : AHeap) : L_pleachlaw3_SpanSet_3 s t0 t1 t2 t3 t9 t10 t12 cs11 Q = evalPK (callP (penv s)) (loopP (penv s)) c_pleachlaw3_SpanSet_3 [(0, .v t0), (1, .v t1), (2, .v t2), (3, .v t3), (9, .v t9), (10, .v t10), (11, .lp 11 0), (12, .v t12)] [(11, .cells cs11)] Q (goX (fun τ ω Q => loopP (penv s) c_pleachlaw3_SpanSet_3 τ ω Q) ret4) := loopP_body
abbrev X_pleachlaw3_SpanSet_3_x0 (t2 t3 t9 t10 : AV) (cs11 : List AV) (Q : AHeap) : Option PEnd := some (.exit 0, [(2, .v t2), (3, .v t3), (9, .v t9), (10, .v t10), (11, .lp 11 0)], [(11, .cells cs11)], Q)
theorem p_pleachlaw3_SpanSet_4 {β : Type} (call : CallF) (lp : PLoopF) (t2 t3 t9 t10 t17 t18 : AV) (cs11 : List AV) (Q : AHeap) (k : PK β) : evalPK call lp c_pleachlaw3_SpanSet_4 [(2, .v t2), (3, .v t3), (9, .v t9), (10, .v t10), (11, .lp 11 0), (17, .v t17), (18, .v t18)] [(11, .cells cs11)] Q k = (
  bnN (idxN 60 t18) fun i1 => 
  bnP ((cs11)[(0 + i1 * 1)]?) fun w102_2 => 
  bnS (call 16 [t9, t18] Q) fun w99_3 Q4 => 
  bnP (eqsA true .b (frz w99_3) w102_2) fun w103_5 => 
  cndS w103_5 (fun _ => k .ret [(8, .v (.bool false))] [] Q4)
  (fun _ => k .normal [(2, .v t2), (3, .v t3), (9, .v t9), (10, .v t10), (11, .lp 11 0), (17, .v t17), (18, .v t18)] [(11, .cells cs11)] Q4)) := by kernel_rfl
theorem p_pleachlaw3_SpanSet_5 {β : Type} (call : CallF) (lp : PLoopF) (t2 t3 t9 t10 t17 t18 : AV) (cs11 : List AV) (Q : AHeap) (k : PK β) : evalPK call lp c_pleachlaw3_SpanSet_5 [(2, .v t2), (3, .v t3), (9, .v t9), (10, .v t10), (11, .lp 11 0), (17, .v t17), (18, .v t18)] [(11, .cells cs11)] Q k = (
  bnP (binA .add t18 (.int .i64 1)) fun w91_1 => 
  k .normal [(2, .v t2), (3, .v t3), (9, .v t9), (10, .v t10), (11, .lp 11 0), (17, .v t17), (18, .v w91_1)] [(11, .cells cs11)] Q) := by kernel_rfl
theorem p_pleachlaw3_SpanSet_6 {β : Type} (call : CallF) (lp : PLoopF) (t2 t3 t9 t10 t17 t18 : AV) (cs11 : List AV) (Q : AHeap) (k : PK β) : evalPK call lp c_pleachlaw3_SpanSet_6 [(2, .v t2), (3, .v t3), (9, .v t9), (10, .v t10), (11, .lp 11 0), (17, .v t17), (18, .v t18)] [(11, .cells cs11)] Q k = (
  bnP (binA .lss t18 (.int .i64 60)) fun w89_1 => 
  cndS w89_1 (fun _ => bnX (bnX (bnX (bnN (idxN 60 t18) fun i2 => 
  bnP ((cs11)[(0 + i2 * 1)]?) fun w94_3 => 
  cndS w94_3 (fun _ => bnP (binA .add t17 (.int .i64 1)) fun w96_4 => 
  some (.normal, [(2, .v t2), (3, .v t3), (9, .v t9), (10, .v t10), (11, .lp 11 0), (17, .v w96_4), (18, .v t18)], [(11, .cells cs11)], Q))
  (fun _ => some (.normal, [(2, .v t2), (3, .v t3), (9, .v t9), (10, .v t10), (11, .lp 11 0), (17, .v t17), (18, .v t18)], [(11, .cells cs11)], Q)))
  (goC (evalPK call lp c_pleachlaw3_SpanSet_4) ret4))
  (outX 5 ret4))
  (goC (evalPK call lp c_pleachlaw3_SpanSet_5) k))
  (fun _ => k (.exit 4) [(2, .v t2), (3, .v t3), (9, .v t9), (10, .v t10), (11, .lp 11 0), (17, .v t17)] [(11, .cells cs11)] Q)) := by kernel_rfl
noncomputable def L_pleachlaw3_SpanSet_6 (s : PSpecs) (t2 t3 t9 t10 t17 t18 : AV) (cs11 : List AV) (Q : AHeap) : Option PEnd := loopP (penv s) c_pleachlaw3_SpanSet_6 [(2, .v t2), (3, .v t3), (9, .v t9), (10, .v t10), (11, .lp 11 0), (17, .v t17), (18, .v t18)] [(11, .cells cs11)] Q
theorem L_pleachlaw3_SpanSet_6_fold (s : PSpecs) (t2 t3 t9 t10 t17 t18 : AV) (cs11 : List AV) (Q : AHeap) : loopP (penv s) c_pleachlaw3_SpanSet_6 [(2, .v t2), (3, .v t3), (9, .v t9), (10, .v t10), (11, .lp 11 0), (17, .v t17), (18, .v t18)] [(11, .cells cs11)] Q = L_pleachlaw3_SpanSet_6 s t2 t3 t9 t10 t17 t18 cs11 Q := rfl
theorem L_pleachlaw3_SpanSet_6_eq (s : PSpecs) (t2 t3 t9 t10 t17 t18 : AV) (cs11 : List AV) (Q : AHeap) : L_pleachlaw3_SpanSet_6 s t2 t3 t9 t10 t17 t18 cs11 Q = evalPK (callP (penv s)) (loopP (penv s)) c_pleachlaw3_SpanSet_6 [(2, .v t2), (3, .v t3), (9, .v t9), (10, .v t10), (11, .lp 11 0), (17, .v t17), (18, .v t18)] [(11, .cells cs11)] Q (goX (fun τ ω Q => loopP (penv s) c_pleachlaw3_SpanSet_6 τ ω Q) ret4) := loopP_body
abbrev X_pleachlaw3_SpanSet_6_x4 (t2 t3 t9 t10 t17 : AV) (cs11 : List AV) (Q : AHeap) : Option PEnd := some (.exit 4, [(2, .v t2), (3, .v t3), (9, .v t9), (10, .v t10), (11, .lp 11 0), (17, .v t17)], [(11, .cells cs11)], Q)
theorem p_pleachlaw3_SpanSet_7 {β : Type} (call : CallF) (lp : PLoopF) (t9 t10 t17 t20 t21 s19_0 s19_1 : AV) (cs11 : List AV) (Q : AHeap) (k : PK β) : evalPK call lp c_pleachlaw3_SpanSet_7 [(9, .v t9), (10, .v t10), (11, .lp 11 0), (17, .v t17), (19, .lp 19 0), (20, .v t20), (21, .v t21)] [(11, .cells cs11), (19, .cells [s19_0, s19_1])] Q k = (
  bnP (binA .lss t21 (.int .i64 60)) fun w121_1 => 
  cndS w121_1 (fun _ => bnN (idxN 60 t21) fun i2 => 
  bnP ((cs11)[(0 + i2 * 1)]?) fun w129_3 => 
  bnP (unA .not w129_3) fun w130_4 => 
  bnS (call 16 [t20, t21] Q) fun w126_5 Q6 => 
  bnP (gdQ w130_4 true (some t21)) fun w132_7 => 
  bnP (gdQ w130_4 true (some s19_0)) fun w134_8 => 
  bnP (gdQ w130_4 true (binA .geq w132_7 w134_8)) fun w135_9 => 
  bnP (pickA w130_4 w135_9 (.bool false)) fun w136_10 => 
  bnP (gdQ w136_10 true (some t21)) fun w138_11 => 
  bnP (gdQ w136_10 true (some s19_1)) fun w140_12 => 
  bnP (gdQ w136_10 true (binA .leq w138_11 w140_12)) fun w141_13 => 
  bnP (pickA w136_10 w141_13 (.bool false)) fun w142_14 => 
  bnP (eqsA true .b (frz w126_5) w142_14) fun w143_15 => 
  cndS w143_15 (fun _ => k .ret [(8, .v (.bool false))] [] Q6)
  (fun _ => bnP (binA .add t21 (.int .i64 1)) fun w123_16 => 
  k .normal [(9, .v t9), (10, .v t10), (11, .lp 11 0), (17, .v t17), (19, .lp 19 0), (20, .v t20), (21, .v w123_16)] [(11, .cells cs11), (19, .cells [s19_0, s19_1])] Q6))
  (fun _ => k (.exit 6) [(9, .v t9), (10, .v t10), (17, .v t17), (20, .v t20)] [] Q)) := by kernel_rfl
noncomputable def L_pleachlaw3_SpanSet_7 (s : PSpecs) (t9 t10 t17 t20 t21 s19_0 s19_1 : AV) (cs11 : List AV) (Q : AHeap) : Option PEnd := loopP (penv s) c_pleachlaw3_SpanSet_7 [(9, .v t9), (10, .v t10), (11, .lp 11 0), (17, .v t17), (19, .lp 19 0), (20, .v t20), (21, .v t21)] [(11, .cells cs11), (19, .cells [s19_0, s19_1])] Q
theorem L_pleachlaw3_SpanSet_7_fold (s : PSpecs) (t9 t10 t17 t20 t21 s19_0 s19_1 : AV) (cs11 : List AV) (Q : AHeap) : loopP (penv s) c_pleachlaw3_SpanSet_7 [(9, .v t9), (10, .v t10), (11, .lp 11 0), (17, .v t17), (19, .lp 19 0), (20, .v t20), (21, .v t21)] [(11, .cells cs11), (19, .cells [s19_0, s19_1])] Q = L_pleachlaw3_SpanSet_7 s t9 t10 t17 t20 t21 s19_0 s19_1 cs11 Q := rfl
theorem L_pleachlaw3_SpanSet_7_eq (s : PSpecs) (t9 t10 t17 t20 t21 s19_0 s19_1 : AV) (cs11 : List AV) (Q : AHeap) : L_pleachlaw3_SpanSet_7 s t9 t10 t17 t20 t21 s19_0 s19_1 cs11 Q = evalPK (callP (penv s)) (loopP (penv s)) c_pleachlaw3_SpanSet_7 [(9, .v t9), (10, .v t10), (11, .lp 11 0), (17, .v t17), (19, .lp 19 0), (20, .v t20), (21, .v t21)] [(11, .cells cs11), (19, .cells [s19_0, s19_1])] Q (goX (fun τ ω Q => loopP (penv s) c_pleachlaw3_SpanSet_7 τ ω Q) ret4) := loopP_body
abbrev X_pleachlaw3_SpanSet_7_x6 (t9 t10 t17 t20 : AV) (Q : AHeap) : Option PEnd := some (.exit 6, [(9, .v t9), (10, .v t10), (17, .v t17), (20, .v t20)], [], Q)
theorem p_pleachlaw3_SpanSet_8 {β : Type} (call : CallF) (lp : PLoopF) (t9 t10 t17 t20 : AV) (Q : AHeap) (k : PK β) : evalPK call lp c_pleachlaw3_SpanSet_8 [(9, .v t9), (10, .v t10), (17, .v t17), (20, .v t20)] [] Q k = (
  bnS (call 10 [t9, t10] Q) fun w146_1 Q2 => 
  bnP (gdQ (frz w146_1) true (some t9)) fun w148_3 => 
  bnS (gdH (frz w146_1) true (call 19 [w148_3] Q2) Q2) fun w149_4 Q5 => 
  bnP (pickA (frz w146_1) (frz w149_4) (.bool false)) fun w150_6 => 
  bnP (gdQ w150_6 true (some t20)) fun w152_7 => 
  bnS (gdH w150_6 true (call 19 [w152_7] Q5) Q5) fun w153_8 Q9 => 
  bnP (pickA w150_6 (frz w153_8) (.bool false)) fun w154_10 => 
  bnP (gdQ w154_10 true (some t9)) fun w156_11 => 
  bnS (gdH w154_10 true (call 18 [w156_11] Q9) Q9) fun w157_12 Q13 => 
  bnP (gdQ w154_10 true (some t17)) fun w158_14 => 
  bnP (gdQ w154_10 true (binA .eql (frz w157_12) w158_14)) fun w159_15 => 
  bnP (pickA w154_10 w159_15 (.bool false)) fun w160_16 => 
  k .ret [(8, .v w160_16), (160, .v w160_16), (159, .v w159_15), (158, .v w158_14), (157, .v (frz w157_12)), (156, .v w156_11), (155, .v w154_10), (154, .v w154_10), (153, .v (frz w153_8)), (152, .v w152_7), (151, .v w150_6), (150, .v w150_6), (149, .v (frz w149_4)), (148, .v w148_3), (147, .v (frz w146_1)), (146, .v (frz w146_1)), (145, .v t10), (144, .v t9), (9, .v t9), (10, .v t10), (17, .v t17), (20, .v t20)] [] Q13) := by kernel_rfl
theorem p_pleachlaw3_SpanSet_9 {β : Type} (call : CallF) (lp : PLoopF) (t2 t3 t9 t10 t17 : AV) (cs11 : List AV) (Q : AHeap) (k : PK β) : evalPK call lp c_pleachlaw3_SpanSet_9 [(2, .v t2), (3, .v t3), (9, .v t9), (10, .v t10), (11, .lp 11 0), (17, .v t17)] [(11, .cells cs11)] Q k = (
  bnP (binA .rem t2 (.int .u8 40)) fun w105_1 => 
  bnP (cviA .i64 w105_1) fun w106_2 => 
  bnP (binA .add (.int .i64 1) w106_2) fun w107_3 => 
  bnP (binA .rem t2 (.int .u8 40)) fun w109_4 => 
  bnP (cviA .i64 w109_4) fun w110_5 => 
  bnP (binA .add (.int .i64 1) w110_5) fun w111_6 => 
  bnP (binA .rem t3 (.int .u8 15)) fun w113_7 => 
  bnP (cviA .i64 w113_7) fun w114_8 => 
  bnP (binA .add w111_6 w114_8) fun w115_9 => 
  bnC 2 (fillP [.int .i64 0, .int .i64 0] [(0, 1, w107_3), (1, 1, w115_9)]) fun c116_10 c116_11 => 
  bnC 2 (stC 2 (.agg [c116_10, c116_11])) fun s12 s13 => 
  bnS (call 14 [t9, .agg [s12, s13]] Q) fun w119_14 Q15 => 
  bnX (lp c_pleachlaw3_SpanSet_7 [(9, .v t9), (10, .v t10), (11, .lp 11 0), (17, .v t17), (19, .lp 19 0), (20, .v (frz w119_14)), (21, .v (.int .i64 1))] [(11, .cells cs11), (19, .cells [s12, s13])] Q15) (outX 6 (goC (evalPK call lp c_pleachlaw3_SpanSet_8) k))) := by kernel_rfl
theorem p_pleachlaw3_SpanSet_10 {β : Type} (call : CallF) (lp : PLoopF) (t2 t3 t9 t10 : AV) (cs11 : List AV) (Q : AHeap) (k : PK β) : evalPK call lp c_pleachlaw3_SpanSet_10 [(2, .v t2), (3, .v t3), (9, .v t9), (10, .v t10), (11, .lp 11 0)] [(11, .cells cs11)] Q k = (
  bnX (lp c_pleachlaw3_SpanSet_6 [(2, .v t2), (3, .v t3), (9, .v t9), (10, .v t10), (11, .lp 11 0), (17, .v (.int .i64 0)), (18, .v (.int .i64 0))] [(11, .cells cs11)] Q) (outX 4 (goC (evalPK call lp c_pleachlaw3_SpanSet_9) k))) := by kernel_rfl
theorem g_pleachlaw3_SpanSet {call : CallF} {lp : PLoopF} (v0 v1 v2 v3 : AV) (Q : AHeap) : evalPK call lp c_pleachlaw3_SpanSet [(0, .v v0), (1, .v v1), (2, .v v2), (3, .v v3)] [] Q (retPK [.tmp 8] [.n]) = (
  bnS (call 8 [] Q) fun w22_1 Q2 => 
  bnP (unA .not (frz w22_1)) fun w23_3 => 
  cndS w23_3 (fun _ => some (.bool false, Q2))
  (fun _ => bnP (lenQ v0) fun w25_4 => 
  bnP (binA .gtr w25_4 (.int .i64 15)) fun w26_5 => 
  cndS w26_5 (fun _ => some (.bool true, Q2))
  (fun _ => bnX (lp c_pleachlaw3_SpanSet_3 [(0, .v v0), (1, .v v1), (2, .v v2), (3, .v v3), (9, .v .nils), (10, .v .nils), (11, .lp 11 0), (12, .v (.int .i64 0))] [(11, .cells [.bool false, .bool false, .bool false, .bool false, .bool false, .bool false, .bool false, .bool false, .bool false, .bool false, .bool false, .bool false, .bool false, .bool false, .bool false, .bool false, .bool false, .bool false, .bool false, .bool false, .bool false, .bool false, .bool false, .bool false, .bool false, .bool false, .bool false, .bool false, .bool false, .bool false, .bool false, .bool false, .bool false, .bool false, .bool false, .bool false, .bool false, .bool false, .bool false, .bool false, .bool false, .bool false, .bool false, .bool false, .bool false, .bool false, .bool false, .bool false, .bool false, .bool false, .bool false, .bool false, .bool false, .bool false, .bool false, .bool false, .bool false, .bool false, .bool false, .bool false])] Q2) (outX 0 (goC (evalPK call lp c_pleachlaw3_SpanSet_10) (retPK [.tmp 8] [.n])))))) := by kernel_rfl
def f_pleachlaw3_SpanSet {s : PSpecs} (hs : s.lookup 4 = none) (v0 v1 v2 v3 : AV) (Q : AHeap) := (callP_fn (E := penv s) (f := 4) (fn := pf_pleachlaw3_SpanSet) hs rfl [v0, v1, v2, v3] Q rfl).trans (g_pleachlaw3_SpanSet (call := callP (penv s)) (lp := loopP (penv s)) v0 v1 v2 v3 Q)
theorem p_pleachref1_SameSpans_0 {β : Type} (call : CallF) (lp : PLoopF) (t0 t1 t5 : AV) (Q : AHeap) (k : PK β) : evalPK call lp c_pleachref1_SameSpans_0 [(0, .v t0), (1, .v t1), (5, .v t5)] [] Q k = (
  bnP (lenQ t0) fun w13_1 => 
  bnP (binA .lss t5 w13_1) fun w14_2 => 
  cndS w14_2 (fun _ => bnP (elQ 2 t0 t5) fun e3 => 
  bnC 2 (cut (AV.cells e3) 0 2) fun c20_4 c20_5 => 
  bnP (elQ 2 t1 t5) fun e6 => 
  bnC 2 (cut (AV.cells e6) 0 2) fun c24_7 c24_8 => 
  bnP (eqsA true (.st [(0, 1, .i), (1, 1, .i)]) (.agg [c20_4, c20_5]) (.agg [c24_7, c24_8])) fun w25_9 => 
  cndS w25_9 (fun _ => k .ret [(4, .v (.bool false))] [] Q)
  (fun _ => bnP (binA .add t5 (.int .i64 1)) fun w16_10 => 
  k .normal [(0, .v t0), (1, .v t1), (5, .v w16_10)] [] Q))
  (fun _ => k (.exit 0) [] [] Q)) := by kernel_rfl
noncomputable def L_pleachref1_SameSpans_0 (s : PSpecs) (t0 t1 t5 : AV) (Q : AHeap) : Option PEnd := loopP (penv s) c_pleachref1_SameSpans_0 [(0, .v t0), (1, .v t1), (5, .v t5)] [] Q
theorem L_pleachref1_SameSpans_0_fold (s : PSpecs) (t0 t1 t5 : AV) (Q : AHeap) : loopP (penv s) c_pleachref1_SameSpans_0 [(0, .v t0), (1, .v t1), (5, .v t5)] [] Q = L_pleachref1_SameSpans_0 s t0 t1 t5 Q := rfl
theorem L_pleachref1_SameSpans_0_eq (s : PSpecs) (t0 t1 t5 : AV) (Q : AHeap) : L_pleachref1_SameSpans_0 s t0 t1 t5 Q = evalPK (callP (penv s)) (loopP (penv s)) c_pleachref1_SameSpans_0 [(0, .v t0), (1, .v t1), (5, .v t5)] [] Q (goX (fun τ ω Q => loopP (penv s) c_pleachref1_SameSpans_0 τ ω Q) ret4) := loopP_body
abbrev X_pleachref1_SameSpans_0_x0 (Q : AHeap) : Option PEnd := some (.exit 0, [], [], Q)
abbrev X_pleachref1_SameSpans_0_ret (t4 : AV) (Q : AHeap) : Option PEnd := some (.ret, [(4, .v t4)], [], Q)
theorem p_pleachref1_SameSpans_1 {β : Type} (call : CallF) (lp : PLoopF) (Q : AHeap) (k : PK β) : evalPK call lp c_pleachref1_SameSpans_1 [] [] Q k = (
  k .ret [(4, .v (.bool true))] [] Q) := by kernel_rfl
theorem g_pleachref1_SameSpans {call : CallF} {lp : PLoopF} (v0 v1 : AV) (Q : AHeap) : evalPK call lp c_pleachref1_SameSpans [(0, .v v0), (1, .v v1)] [] Q (retPK [.tmp 4] [.n]) = (
  bnP (lenQ v0) fun w7_1 => 
  bnP (lenQ v1) fun w9_2 => 
  bnP (binA .neq w7_1 w9_2) fun w10_3 => 
  cndS w10_3 (fun _ => some (.bool false, Q))
  (fun _ => bnX (lp c_pleachref1_SameSpans_0 [(0, .v v0), (1, .v v1), (5, .v (.int .i64 0))] [] Q) (outX 0 (goC (evalPK call lp c_pleachref1_SameSpans_1) (retPK [.tmp 4] [.n]))))) := by kernel_rfl
def f_pleachref1_SameSpans {s : PSpecs} (hs : s.lookup 10 = none) (v0 v1 : AV) (Q : AHeap) := (callP_fn (E := penv s) (f := 10) (fn := pf_pleachref1_SameSpans) hs rfl [v0, v1] Q rfl).trans (g_pleachref1_SameSpans (call := callP (penv s)) (lp := loopP (penv s)) v0 v1 Q)
theorem p_span_Add_0 {β : Type} (call : CallF) (lp : PLoopF) (t13 t14 t15 s3_0 s3_1 : AV) (l4 : List AV) (Q : AHeap) (k : PK β) : evalPK call lp c_span_Add_0 [(3, .lp 3 0), (4, .ls 4), (13, .v t13), (14, .v t14), (15, .v t15)] [(3, .cells [s3_0, s3_1]), (4, .own 2 l4)] Q k = (
  bnP (binA .add t15 (.int .i64 1)) fun w49_1 => 
  k .normal [(3, .lp 3 0), (4, .ls 4), (13, .v t13), (14, .v t14), (15, .v w49_1)] [(3, .cells [s3_0, s3_1]), (4, .own 2 l4)] Q) := by kernel_rfl
theorem p_span_Add_1 {β : Type} (call : CallF) (lp : PLoopF) (t13 t14 t15 s3_0 s3_1 : AV) (l4 : List AV) (Q : AHeap) (k : PK β) : evalPK call lp c_span_Add_1 [(3, .lp 3 0), (4, .ls 4), (13, .v t13), (14, .v t14), (15, .v t15)] [(3, .cells [s3_0, s3_1]), (4, .own 2 l4)] Q k = (
  bnP (binA .lss t15 t14) fun w16_1 => 
  cndS w16_1 (fun _ => bnX (bnX (bnP (elQ 2 t13 t15) fun e2 => 
  bnC 2 (cut (AV.cells e2) 0 2) fun c18_3 c18_4 => 
  bnC 2 (stC 2 (.agg [c18_3, c18_4])) fun s5 s6 => 
  bnP (binA .sub s3_0 (.int .i64 1)) fun w23_7 => 
  bnP (binA .lss s6 w23_7) fun w24_8 => 
  bnP (gdQ w24_8 false (some s5)) fun w27_9 => 
  bnP (gdQ w24_8 false (some s3_1)) fun w29_10 => 
  bnP (gdQ w24_8 false (binA .add w29_10 (.int .i64 1))) fun w30_11 => 
  bnP (gdQ w24_8 false (binA .gtr w27_9 w30_11)) fun w31_12 => 
  bnP (pickA w24_8 (.bool true) w31_12) fun w32_13 => 
  cndS w32_13 (fun _ => pinB (elOk 2 (.agg [s5, s6])) <| 
  pinB (room 16 ((l4 : List AV).length + (([.agg [s5, s6]] : List AV) : List AV).length)) <| 
  some (.normal, [(3, .lp 3 0), (4, .ls 4), (13, .v t13), (14, .v t14), (15, .v t15)], [(3, .cells [s3_0, s3_1]), (4, .own 2 (l4 ++ ([.agg [s5, s6]] : List AV)))], Q))
  (fun _ => bnP (mniA [s3_0, s5]) fun w41_14 => 
  bnP (mxiA [s3_1, s6]) fun w46_15 => 
  bnC 1 (stC 1 w41_14) fun s16 => 
  bnC 1 (stC 1 w46_15) fun s17 => 
  some (.normal, [(3, .lp 3 0), (4, .ls 4), (13, .v t13), (14, .v t14), (15, .v t15)], [(3, .cells [s16, s17]), (4, .own 2 l4)], Q)))
  (outX 1 ret4))
  (goC (evalPK call lp c_span_Add_0) k))
  (fun _ => k (.exit 0) [(3, .lp 3 0), (4, .ls 4)] [(3, .cells [s3_0, s3_1]), (4, .own 2 l4)] Q)) := by kernel_rfl
noncomputable def L_span_Add_1 (s : PSpecs) (t13 t14 t15 s3_0 s3_1 : AV) (l4 : List AV) (Q : AHeap) : Option PEnd := loopP (penv s) c_span_Add_1 [(3, .lp 3 0), (4, .ls 4), (13, .v t13), (14, .v t14), (15, .v t15)] [(3, .cells [s3_0, s3_1]), (4, .own 2 l4)] Q
theorem L_span_Add_1_fold (s : PSpecs) (t13 t14 t15 s3_0 s3_1 : AV) (l4 : List AV) (Q : AHeap) : loopP (penv s) c_span_Add_1 [(3, .lp 3 0), (4, .ls 4), (13, .v t13), (14, .v t14), (15, .v t15)] [(3, .cells [s3_0, s3_1]), (4, .own 2 l4)] Q = L_span_Add_1 s t13 t14 t15 s3_0 s3_1 l4 Q := rfl
theorem L_span_Add_1_eq (s : PSpecs) (t13 t14 t15 s3_0 s3_1 : AV) (l4 : List AV) (Q : AHeap) : L_span_Add_1 s t13 t14 t15 s3_0 s3_1 l4 Q = evalPK (callP (penv s)) (loopP (penv s)) c_span_Add_1 [(3, .lp 3 0), (4, .ls 4), (13, .v t13), (14, .v t14), (15, .v t15)] [(3, .cells [s3_0, s3_1]), (4, .own 2 l4)] Q (goX (fun τ ω Q => loopP (penv s) c_span_Add_1 τ ω Q) ret4) := loopP_body
abbrev X_span_Add_1_x0 (s3_0 s3_1 : AV) (l4 : List AV) (Q : AHeap) : Option PEnd := some (.exit 0, [(3, .lp 3 0), (4, .ls 4)], [(3, .cells [s3_0, s3_1]), (4, .own 2 l4)], Q)
theorem p_span_Add_2 {β : Type} (call : CallF) (lp : PLoopF) (t7 s3_0 s3_1 : AV) (l4 : List AV) (Q : AHeap) (k : PK β) : evalPK call lp c_span_Add_2 [(3, .lp 3 0), (4, .ls 4), (7, .v t7)] [(3, .cells [s3_0, s3_1]), (4, .own 2 l4)] Q k = (
  bnP (binA .lss t7 (.int .i64 ((l4 : List AV).length : Nat))) fun w53_1 => 
  bnP (gdQ w53_1 true (some t7)) fun w56_2 => 
  bnN (gdN w53_1 true (idxN (l4 : List AV).length w56_2)) fun i3 => 
  bnP (gdQ w53_1 true (elC l4 i3 0)) fun w59_4 => 
  bnP (gdQ w53_1 true (some s3_0)) fun w61_5 => 
  bnP (gdQ w53_1 true (binA .lss w59_4 w61_5)) fun w62_6 => 
  bnP (pickA w53_1 w62_6 (.bool false)) fun w63_7 => 
  cndS w63_7 (fun _ => bnP (binA .add t7 (.int .i64 1)) fun w65_8 => 
  k .normal [(3, .lp 3 0), (4, .ls 4), (7, .v w65_8)] [(3, .cells [s3_0, s3_1]), (4, .own 2 l4)] Q)
  (fun _ => k (.exit 2) [(3, .lp 3 0), (4, .ls 4), (7, .v t7)] [(3, .cells [s3_0, s3_1]), (4, .own 2 l4)] Q)) := by kernel_rfl
noncomputable def L_span_Add_2 (s : PSpecs) (t7 s3_0 s3_1 : AV) (l4 : List AV) (Q : AHeap) : Option PEnd := loopP (penv s) c_span_Add_2 [(3, .lp 3 0), (4, .ls 4), (7, .v t7)] [(3, .cells [s3_0, s3_1]), (4, .own 2 l4)] Q
theorem L_span_Add_2_fold (s : PSpecs) (t7 s3_0 s3_1 : AV) (l4 : List AV) (Q : AHeap) : loopP (penv s) c_span_Add_2 [(3, .lp 3 0), (4, .ls 4), (7, .v t7)] [(3, .cells [s3_0, s3_1]), (4, .own 2 l4)] Q = L_span_Add_2 s t7 s3_0 s3_1 l4 Q := rfl
theorem L_span_Add_2_eq (s : PSpecs) (t7 s3_0 s3_1 : AV) (l4 : List AV) (Q : AHeap) : L_span_Add_2 s t7 s3_0 s3_1 l4 Q = evalPK (callP (penv s)) (loopP (penv s)) c_span_Add_2 [(3, .lp 3 0), (4, .ls 4), (7, .v t7)] [(3, .cells [s3_0, s3_1]), (4, .own 2 l4)] Q (goX (fun τ ω Q => loopP (penv s) c_span_Add_2 τ ω Q) ret4) := loopP_body
abbrev X_span_Add_2_x2 (t7 s3_0 s3_1 : AV) (l4 : List AV) (Q : AHeap) : Option PEnd := some (.exit 2, [(3, .lp 3 0), (4, .ls 4), (7, .v t7)], [(3, .cells [s3_0, s3_1]), (4, .own 2 l4)], Q)
theorem p_span_Add_3 {β : Type} (call : CallF) (lp : PLoopF) (t7 s3_0 s3_1 : AV) (l4 : List AV) (Q : AHeap) (k : PK β) : evalPK call lp c_span_Add_3 [(3, .lp 3 0), (4, .ls 4), (7, .v t7)] [(3, .cells [s3_0, s3_1]), (4, .own 2 l4)] Q k = (
  pinB (elOk 2 (.agg [s3_0, s3_1])) <| 
  bnS (call 1000028 [.ow 2 l4, t7, .lt 2 [.agg [s3_0, s3_1]]] Q) fun w70_1 Q2 => bnL (owZ 2 w70_1) fun l3 => 
  k .ret [(4, .ls 4), (70, .ls 4), (69, .v (.lt 2 [.agg [s3_0, s3_1]])), (68, .v (.agg [s3_0, s3_1])), (67, .v t7), (66, .v undefA), (3, .lp 3 0), (4, .v undefA), (7, .v t7)] [(4, .own 2 l3), (3, .cells [s3_0, s3_1])] Q2) := by kernel_rfl
theorem p_span_Add_4 {β : Type} (call : CallF) (lp : PLoopF) (s3_0 s3_1 : AV) (l4 : List AV) (Q : AHeap) (k : PK β) : evalPK call lp c_span_Add_4 [(3, .lp 3 0), (4, .ls 4)] [(3, .cells [s3_0, s3_1]), (4, .own 2 l4)] Q k = (
  bnX (lp c_span_Add_2 [(3, .lp 3 0), (4, .ls 4), (7, .v (.int .i64 0))] [(3, .cells [s3_0, s3_1]), (4, .own 2 l4)] Q) (outX 2 (goC (evalPK call lp c_span_Add_3) k))) := by kernel_rfl
theorem g_span_Add {call : CallF} {lp : PLoopF} (v0 v1_0 v1_1 : AV) (Q : AHeap) : evalPK call lp c_span_Add [(0, .v v0), (1, .v (.agg [v1_0, v1_1]))] [] Q (retPK [.tmp 4] [.o 2]) = (
  bnC 2 (stC 2 (.agg [v1_0, v1_1])) fun s1 s2 => 
  bnS (call 26 [.agg [s1, s2]] Q) fun w9_3 Q4 => 
  bnP (unA .not (frz w9_3)) fun w10_5 => 
  cndS w10_5 (fun _ => bnS (call 27 [v0] Q4) fun w12_6 Q7 => bnL (owZ 2 w12_6) fun l8 => 
  some (.ow 2 l8, Q7))
  (fun _ => bnP (lenQ v0) fun w14_9 => 
  bnX (lp c_span_Add_1 [(3, .lp 3 0), (4, .ls 4), (13, .v v0), (14, .v w14_9), (15, .v (.int .i64 0))] [(3, .cells [s1, s2]), (4, .own 2 ([] : List AV))] Q4) (outX 0 (goC (evalPK call lp c_span_Add_4) (retPK [.tmp 4] [.o 2]))))) := by kernel_rfl
def f_span_Add {s : PSpecs} (hs : s.lookup 11 = none) (v0 v1_0 v1_1 : AV) (Q : AHeap) := (callP_fn (E := penv s) (f := 11) (fn := pf_span_Add) hs rfl [v0, .agg [v1_0, v1_1]] Q rfl).trans (g_span_Add (call := callP (penv s)) (lp := loopP (penv s)) v0 v1_0 v1_1 Q)
theorem p_span_Lacks_0 {β : Type} (call : CallF) (lp : PLoopF) (t5 t10 t11 t12 s3_0 s3_1 s7_0 s7_1 : AV) (l4 : List AV) (Q : AHeap) (k : PK β) : evalPK call lp c_span_Lacks_0 [(3, .lp 3 0), (4, .ls 4), (5, .v t5), (7, .lp 7 0), (10, .v t10), (11, .v t11), (12, .v t12)] [(3, .cells [s3_0, s3_1]), (4, .own 2 l4), (7, .cells [s7_0, s7_1])] Q k = (
  bnP (binA .add s7_1 (.int .i64 1)) fun w40_1 => 
  bnP (mxiA [t5, w40_1]) fun w41_2 => 
  k .normal [(3, .lp 3 0), (4, .ls 4), (5, .v w41_2), (10, .v t10), (11, .v t11), (12, .v t12)] [(3, .cells [s3_0, s3_1]), (4, .own 2 l4)] Q) := by kernel_rfl
theorem p_span_Lacks_1 {β : Type} (call : CallF) (lp : PLoopF) (t5 t10 t11 t12 s3_0 s3_1 : AV) (l4 : List AV) (Q : AHeap) (k : PK β) : evalPK call lp c_span_Lacks_1 [(3, .lp 3 0), (4, .ls 4), (5, .v t5), (10, .v t10), (11, .v t11), (12, .v t12)] [(3, .cells [s3_0, s3_1]), (4, .own 2 l4)] Q k = (
  bnP (binA .add t12 (.int .i64 1)) fun w42_1 => 
  k .normal [(3, .lp 3 0), (4, .ls 4), (5, .v t5), (10, .v t10), (11, .v t11), (12, .v w42_1)] [(3, .cells [s3_0, s3_1]), (4, .own 2 l4)] Q) := by kernel_rfl
theorem p_span_Lacks_2 {β : Type} (call : CallF) (lp : PLoopF) (t5 t10 t11 t12 s3_0 s3_1 : AV) (l4 : List AV) (Q : AHeap) (k : PK β) : evalPK call lp c_span_Lacks_2 [(3, .lp 3 0), (4, .ls 4), (5, .v t5), (10, .v t10), (11, .v t11), (12, .v t12)] [(3, .cells [s3_0, s3_1]), (4, .own 2 l4)] Q k = (
  bnP (binA .lss t12 t11) fun w13_1 => 
  cndS w13_1 (fun _ => bnX (bnX (bnP (elQ 2 t10 t12) fun e2 => 
  bnC 2 (cut (AV.cells e2) 0 2) fun c15_3 c15_4 => 
  bnC 2 (stC 2 (.agg [c15_3, c15_4])) fun s5 s6 => 
  bnX (bnP (binA .gtr s5 t5) fun w19_7 => 
  bnP (gdQ w19_7 true (some t5)) fun w21_8 => 
  bnP (gdQ w19_7 true (some s3_1)) fun w23_9 => 
  bnP (gdQ w19_7 true (binA .leq w21_8 w23_9)) fun w24_10 => 
  bnP (pickA w19_7 w24_10 (.bool false)) fun w25_11 => 
  cndS w25_11 (fun _ => bnP (binA .sub s5 (.int .i64 1)) fun w30_12 => 
  bnP (mniA [w30_12, s3_1]) fun w33_13 => 
  bnC 2 (fillP [.int .i64 0, .int .i64 0] [(0, 1, t5), (1, 1, w33_13)]) fun c34_14 c34_15 => 
  pinB (elOk 2 (.agg [c34_14, c34_15])) <| 
  pinB (room 16 ((l4 : List AV).length + (([.agg [c34_14, c34_15]] : List AV) : List AV).length)) <| 
  some (.normal, [(3, .lp 3 0), (4, .ls 4), (5, .v t5), (7, .lp 7 0), (10, .v t10), (11, .v t11), (12, .v t12)], [(3, .cells [s3_0, s3_1]), (4, .own 2 (l4 ++ ([.agg [c34_14, c34_15]] : List AV))), (7, .cells [s5, s6])], Q))
  (fun _ => some (.normal, [(3, .lp 3 0), (4, .ls 4), (5, .v t5), (7, .lp 7 0), (10, .v t10), (11, .v t11), (12, .v t12)], [(3, .cells [s3_0, s3_1]), (4, .own 2 l4), (7, .cells [s5, s6])], Q)))
  (goC (evalPK call lp c_span_Lacks_0) ret4))
  (outX 1 ret4))
  (goC (evalPK call lp c_span_Lacks_1) k))
  (fun _ => k (.exit 0) [(3, .lp 3 0), (4, .ls 4), (5, .v t5)] [(3, .cells [s3_0, s3_1]), (4, .own 2 l4)] Q)) := by kernel_rfl
noncomputable def L_span_Lacks_2 (s : PSpecs) (t5 t10 t11 t12 s3_0 s3_1 : AV) (l4 : List AV) (Q : AHeap) : Option PEnd := loopP (penv s) c_span_Lacks_2 [(3, .lp 3 0), (4, .ls 4), (5, .v t5), (10, .v t10), (11, .v t11), (12, .v t12)] [(3, .cells [s3_0, s3_1]), (4, .own 2 l4)] Q
theorem L_span_Lacks_2_fold (s : PSpecs) (t5 t10 t11 t12 s3_0 s3_1 : AV) (l4 : List AV) (Q : AHeap) : loopP (penv s) c_span_Lacks_2 [(3, .lp 3 0), (4, .ls 4), (5, .v t5), (10, .v t10), (11, .v t11), (12, .v t12)] [(3, .cells [s3_0, s3_1]), (4, .own 2 l4)] Q = L_span_Lacks_2 s t5 t10 t11 t12 s3_0 s3_1 l4 Q := rfl
theorem L_span_Lacks_2_eq (s : PSpecs) (t5 t10 t11 t12 s3_0 s3_1 : AV) (l4 : List AV) (Q : AHeap) : L_span_Lacks_2 s t5 t10 t11 t12 s3_0 s3_1 l4 Q = evalPK (callP (penv s)) (loopP (penv s)) c_span_Lacks_2 [(3, .lp 3 0), (4, .ls 4), (5, .v t5), (10, .v t10), (11, .v t11), (12, .v t12)] [(3, .cells [s3_0, s3_1]), (4, .own 2 l4)] Q (goX (fun τ ω Q => loopP (penv s) c_span_Lacks_2 τ ω Q) ret4) := loopP_body
abbrev X_span_Lacks_2_x0 (t5 s3_0 s3_1 : AV) (l4 : List AV) (Q : AHeap) : Option PEnd := some (.exit 0, [(3, .lp 3 0), (4, .ls 4), (5, .v t5)], [(3, .cells [s3_0, s3_1]), (4, .own 2 l4)], Q)
theorem p_span_Lacks_3 {β : Type} (call : CallF) (lp : PLoopF) (l4 : List AV) (Q : AHeap) (k : PK β) : evalPK call lp c_span_Lacks_3 [(4, .ls 4)] [(4, .own 2 l4)] Q k = (
  k .ret [(4, .ls 4), (54, .ls 4), (4, .ls 4)] [(4, .own 2 l4)] Q) := by kernel_rfl
theorem p_span_Lacks_4 {β : Type} (call : CallF) (lp : PLoopF) (t5 s3_0 s3_1 : AV) (l4 : List AV) (Q : AHeap) (k : PK β) : evalPK call lp c_span_Lacks_4 [(3, .lp 3 0), (4, .ls 4), (5, .v t5)] [(3, .cells [s3_0, s3_1]), (4, .own 2 l4)] Q k = (
  bnX (bnP (binA .leq t5 s3_1) fun w46_1 => 
  cndS w46_1 (fun _ => bnC 2 (fillP [.int .i64 0, .int .i64 0] [(0, 1, t5), (1, 1, s3_1)]) fun c51_2 c51_3 => 
  pinB (elOk 2 (.agg [c51_2, c51_3])) <| 
  pinB (room 16 ((l4 : List AV).length + (([.agg [c51_2, c51_3]] : List AV) : List AV).length)) <| 
  some (.normal, [(4, .ls 4)], [(4, .own 2 (l4 ++ ([.agg [c51_2, c51_3]] : List AV)))], Q))
  (fun _ => some (.normal, [(4, .ls 4)], [(4, .own 2 l4)], Q)))
  (goC (evalPK call lp c_span_Lacks_3) k)) := by kernel_rfl
theorem g_span_Lacks {call : CallF} {lp : PLoopF} (v0 v1_0 v1_1 : AV) (Q : AHeap) : evalPK call lp c_span_Lacks [(0, .v v0), (1, .v (.agg [v1_0, v1_1]))] [] Q (retPK [.tmp 4] [.o 2]) = (
  bnC 2 (stC 2 (.agg [v1_0, v1_1])) fun s1 s2 => 
  bnP (lenQ v0) fun w11_3 => 
  bnX (lp c_span_Lacks_2 [(3, .lp 3 0), (4, .ls 4), (5, .v s1), (10, .v v0), (11, .v w11_3), (12, .v (.int .i64 0))] [(3, .cells [s1, s2]), (4, .own 2 ([] : List AV))] Q) (outX 0 (goC (evalPK call lp c_span_Lacks_4) (retPK [.tmp 4] [.o 2])))) := by kernel_rfl
def f_span_Lacks {s : PSpecs} (hs : s.lookup 14 = none) (v0 v1_0 v1_1 : AV) (Q : AHeap) := (callP_fn (E := penv s) (f := 14) (fn := pf_span_Lacks) hs rfl [v0, .agg [v1_0, v1_1]] Q rfl).trans (g_span_Lacks (call := callP (penv s)) (lp := loopP (penv s)) v0 v1_0 v1_1 Q)
theorem g_span_Has {call : CallF} {lp : PLoopF} (v0 v1 : AV) (Q : AHeap) : evalPK call lp c_span_Has [(0, .v v0), (1, .v v1)] [] Q (retPK [.tmp 4] [.n]) = (
  bnC 1 (stC 1 v1) fun s1 => 
  bnS (call 29 [v0, .fn 30 [] [.cp [s1] 0]] Q) fun w7_2 Q3 => 
  bnP (rcv false .n (frz w7_2)) fun r4 => some (r4, Q3)) := by kernel_rfl
def f_span_Has {s : PSpecs} (hs : s.lookup 16 = none) (v0 v1 : AV) (Q : AHeap) := (callP_fn (E := penv s) (f := 16) (fn := pf_span_Has) hs rfl [v0, v1] Q rfl).trans (g_span_Has (call := callP (penv s)) (lp := loopP (penv s)) v0 v1 Q)
theorem p_span_Count_0 {β : Type} (call : CallF) (lp : PLoopF) (t2 t5 t6 t7 : AV) (Q : AHeap) (k : PK β) : evalPK call lp c_span_Count_0 [(2, .v t2), (5, .v t5), (6, .v t6), (7, .v t7)] [] Q k = (
  bnP (binA .lss t7 t6) fun w8_1 => 
  cndS w8_1 (fun _ => bnP (elQ 2 t5 t7) fun e2 => 
  bnC 2 (cut (AV.cells e2) 0 2) fun c10_3 c10_4 => 
  bnC 2 (stC 2 (.agg [c10_3, c10_4])) fun s5 s6 => 
  bnP (binA .sub s6 s5) fun w16_7 => 
  bnP (binA .add w16_7 (.int .i64 1)) fun w17_8 => 
  bnP (binA .add t2 w17_8) fun w18_9 => 
  bnP (binA .add t7 (.int .i64 1)) fun w19_10 => 
  k .normal [(2, .v w18_9), (5, .v t5), (6, .v t6), (7, .v w19_10)] [] Q)
  (fun _ => k (.exit 0) [(2, .v t2)] [] Q)) := by kernel_rfl
noncomputable def L_span_Count_0 (s : PSpecs) (t2 t5 t6 t7 : AV) (Q : AHeap) : Option PEnd := loopP (penv s) c_span_Count_0 [(2, .v t2), (5, .v t5), (6, .v t6), (7, .v t7)] [] Q
theorem L_span_Count_0_fold (s : PSpecs) (t2 t5 t6 t7 : AV) (Q : AHeap) : loopP (penv s) c_span_Count_0 [(2, .v t2), (5, .v t5), (6, .v t6), (7, .v t7)] [] Q = L_span_Count_0 s t2 t5 t6 t7 Q := rfl
theorem L_span_Count_0_eq (s : PSpecs) (t2 t5 t6 t7 : AV) (Q : AHeap) : L_span_Count_0 s t2 t5 t6 t7 Q = evalPK (callP (penv s)) (loopP (penv s)) c_span_Count_0 [(2, .v t2), (5, .v t5), (6, .v t6), (7, .v t7)] [] Q (goX (fun τ ω Q => loopP (penv s) c_span_Count_0 τ ω Q) ret4) := loopP_body
abbrev X_span_Count_0_x0 (t2 : AV) (Q : AHeap) : Option PEnd := some (.exit 0, [(2, .v t2)], [], Q)
theorem p_span_Count_1 {β : Type} (call : CallF) (lp : PLoopF) (t2 : AV) (Q : AHeap) (k : PK β) : evalPK call lp c_span_Count_1 [(2, .v t2)] [] Q k = (
  k .ret [(2, .v t2), (20, .v t2), (2, .v t2)] [] Q) := by kernel_rfl
theorem g_span_Count {call : CallF} {lp : PLoopF} (v0 : AV) (Q : AHeap) : evalPK call lp c_span_Count [(0, .v v0)] [] Q (retPK [.tmp 2] [.n]) = (
  bnP (lenQ v0) fun w6_1 => 
  bnX (lp c_span_Count_0 [(2, .v (.int .i64 0)), (5, .v v0), (6, .v w6_1), (7, .v (.int .i64 0))] [] Q) (outX 0 (goC (evalPK call lp c_span_Count_1) (retPK [.tmp 2] [.n])))) := by kernel_rfl
def f_span_Count {s : PSpecs} (hs : s.lookup 18 = none) (v0 : AV) (Q : AHeap) := (callP_fn (E := penv s) (f := 18) (fn := pf_span_Count) hs rfl [v0] Q rfl).trans (g_span_Count (call := callP (penv s)) (lp := loopP (penv s)) v0 Q)
theorem p_span_May_0 {β : Type} (call : CallF) (lp : PLoopF) (t3 t6 t7 t8 : AV) (Q : AHeap) (k : PK β) : evalPK call lp c_span_May_0 [(3, .v t3), (6, .v t6), (7, .v t7), (8, .v t8)] [] Q k = (
  bnP (binA .lss t8 t7) fun w9_1 => 
  cndS w9_1 (fun _ => bnP (elQ 2 t6 t8) fun e2 => 
  bnC 2 (cut (AV.cells e2) 0 2) fun c11_3 c11_4 => 
  bnC 2 (stC 2 (.agg [c11_3, c11_4])) fun s5 s6 => 
  bnS (call 26 [.agg [s5, s6]] Q) fun w13_7 Q8 => 
  bnP (unA .not (frz w13_7)) fun w14_9 => 
  bnP (gdQ w14_9 false (some s5)) fun w17_10 => 
  bnP (gdQ w14_9 false (some t3)) fun w18_11 => 
  bnP (gdQ w14_9 false (binA .add w18_11 (.int .i64 2))) fun w19_12 => 
  bnP (gdQ w14_9 false (binA .lss w17_10 w19_12)) fun w20_13 => 
  bnP (pickA w14_9 (.bool true) w20_13) fun w21_14 => 
  cndS w21_14 (fun _ => k .ret [(2, .v (.bool false))] [] Q8)
  (fun _ => bnP (binA .add t8 (.int .i64 1)) fun w24_15 => 
  k .normal [(3, .v s6), (6, .v t6), (7, .v t7), (8, .v w24_15)] [] Q8))
  (fun _ => k (.exit 0) [] [] Q)) := by kernel_rfl
noncomputable def L_span_May_0 (s : PSpecs) (t3 t6 t7 t8 : AV) (Q : AHeap) : Option PEnd := loopP (penv s) c_span_May_0 [(3, .v t3), (6, .v t6), (7, .v t7), (8, .v t8)] [] Q
theorem L_span_May_0_fold (s : PSpecs) (t3 t6 t7 t8 : AV) (Q : AHeap) : loopP (penv s) c_span_May_0 [(3, .v t3), (6, .v t6), (7, .v t7), (8, .v t8)] [] Q = L_span_May_0 s t3 t6 t7 t8 Q := rfl
theorem L_span_May_0_eq (s : PSpecs) (t3 t6 t7 t8 : AV) (Q : AHeap) : L_span_May_0 s t3 t6 t7 t8 Q = evalPK (callP (penv s)) (loopP (penv s)) c_span_May_0 [(3, .v t3), (6, .v t6), (7, .v t7), (8, .v t8)] [] Q (goX (fun τ ω Q => loopP (penv s) c_span_May_0 τ ω Q) ret4) := loopP_body
abbrev X_span_May_0_x0 (Q : AHeap) : Option PEnd := some (.exit 0, [], [], Q)
abbrev X_span_May_0_ret (t2 : AV) (Q : AHeap) : Option PEnd := some (.ret, [(2, .v t2)], [], Q)
theorem p_span_May_1 {β : Type} (call : CallF) (lp : PLoopF) (Q : AHeap) (k : PK β) : evalPK call lp c_span_May_1 [] [] Q k = (
  k .ret [(2, .v (.bool true))] [] Q) := by kernel_rfl
theorem g_span_May {call : CallF} {lp : PLoopF} (v0 : AV) (Q : AHeap) : evalPK call lp c_span_May [(0, .v v0)] [] Q (retPK [.tmp 2] [.n]) = (
  bnP (lenQ v0) fun w7_1 => 
  bnX (lp c_span_May_0 [(3, .v (.int .i64 (-1))), (6, .v v0), (7, .v w7_1), (8, .v (.int .i64 0))] [] Q) (outX 0 (goC (evalPK call lp c_span_May_1) (retPK [.tmp 2] [.n])))) := by kernel_rfl
def f_span_May {s : PSpecs} (hs : s.lookup 19 = none) (v0 : AV) (Q : AHeap) := (callP_fn (E := penv s) (f := 19) (fn := pf_span_May) hs rfl [v0] Q rfl).trans (g_span_May (call := callP (penv s)) (lp := loopP (penv s)) v0 Q)
theorem g_span_one {call : CallF} {lp : PLoopF} (v0_0 v0_1 : AV) (Q : AHeap) : evalPK call lp c_span_one [(0, .v (.agg [v0_0, v0_1]))] [] Q (retPK [.tmp 2] [.n]) = (
  bnC 2 (stC 2 (.agg [v0_0, v0_1])) fun s1 s2 => 
  bnP (binA .geq s1 (.int .i64 1)) fun w5_3 => 
  bnP (gdQ w5_3 true (some s1)) fun w8_4 => 
  bnP (gdQ w5_3 true (some s2)) fun w10_5 => 
  bnP (gdQ w5_3 true (binA .leq w8_4 w10_5)) fun w11_6 => 
  bnP (pickA w5_3 w11_6 (.bool false)) fun w12_7 => 
  bnP (gdQ w12_7 true (some s2)) fun w15_8 => 
  bnP (gdQ w12_7 true (binA .leq w15_8 (.int .i64 1000000))) fun w16_9 => 
  bnP (pickA w12_7 w16_9 (.bool false)) fun w17_10 => 
  bnP (rcv false .n w17_10) fun r11 => some (r11, Q)) := by kernel_rfl
def f_span_one {s : PSpecs} (hs : s.lookup 26 = none) (v0_0 v0_1 : AV) (Q : AHeap) := (callP_fn (E := penv s) (f := 26) (fn := pf_span_one) hs rfl [.agg [v0_0, v0_1]] Q rfl).trans (g_span_one (call := callP (penv s)) (lp := loopP (penv s)) v0_0 v0_1 Q)
theorem g_slices_ContainsFunc_api_Span_api_Span {call : CallF} {lp : PLoopF} (v0 v1 : AV) (Q : AHeap) : evalPK call lp c_slices_ContainsFunc_api_Span_api_Span [(0, .v v0), (1, .v v1)] [] Q (retPK [.tmp 4] [.n]) = (
  bnS (call 38 [v0, v1] Q) fun w7_1 Q2 => 
  bnP (binA .geq (frz w7_1) (.int .i64 0)) fun w8_3 => 
  bnP (rcv false .n w8_3) fun r4 => some (r4, Q2)) := by kernel_rfl
def f_slices_ContainsFunc_api_Span_api_Span {s : PSpecs} (hs : s.lookup 29 = none) (v0 v1 : AV) (Q : AHeap) := (callP_fn (E := penv s) (f := 29) (fn := pf_slices_ContainsFunc_api_Span_api_Span) hs rfl [v0, v1] Q rfl).trans (g_slices_ContainsFunc_api_Span_api_Span (call := callP (penv s)) (lp := loopP (penv s)) v0 v1 Q)
theorem g_span_Has_1 {call : CallF} {lp : PLoopF} (v0_0 v0_1 v1 : AV) (Q : AHeap) : evalPK call lp c_span_Has_1 [(0, .v (.agg [v0_0, v0_1])), (1, .v v1)] [] Q (retPK [.tmp 3] [.n]) = (
  bnC 2 (stC 2 (.agg [v0_0, v0_1])) fun s1 s2 => 
  bnP (ldQ Q v1) fun w6_3 => 
  bnP (binA .leq s1 w6_3) fun w7_4 => 
  bnP (gdQ w7_4 true (ldQ Q v1)) fun w9_5 => 
  bnP (gdQ w7_4 true (some s2)) fun w11_6 => 
  bnP (gdQ w7_4 true (binA .leq w9_5 w11_6)) fun w12_7 => 
  bnP (pickA w7_4 w12_7 (.bool false)) fun w13_8 => 
  bnP (rcv false .n w13_8) fun r9 => some (r9, Q)) := by kernel_rfl
def f_span_Has_1 {s : PSpecs} (hs : s.lookup 30 = none) (v0_0 v0_1 v1 : AV) (Q : AHeap) := (callP_fn (E := penv s) (f := 30) (fn := pf_span_Has_1) hs rfl [.agg [v0_0, v0_1], v1] Q rfl).trans (g_span_Has_1 (call := callP (penv s)) (lp := loopP (penv s)) v0_0 v0_1 v1 Q)
theorem p_slices_IndexFunc_api_Span_api_Span_0 {β : Type} (call : CallF) (lp : PLoopF) (t0 t1 t7 t8 : AV) (Q : AHeap) (k : PK β) : evalPK call lp c_slices_IndexFunc_api_Span_api_Span_0 [(0, .v t0), (1, .v t1), (7, .v t7), (8, .v t8)] [] Q k = (
  bnP (binA .lss t8 t7) fun w9_1 => 
  cndS w9_1 (fun _ => bnP (elQ 2 t0 t8) fun e2 => 
  bnC 2 (cut (AV.cells e2) 0 2) fun c15_3 c15_4 => 
  bnF t1 fun f7 f7f f7c => 
  bnS (lowF call f7 (f7f ++ [.agg [c15_3, c15_4]] ++ f7c) Q) fun w16_5 Q6 => 
  cndS (frz w16_5) (fun _ => k .ret [(4, .v t8)] [] Q6)
  (fun _ => bnP (binA .add t8 (.int .i64 1)) fun w18_8 => 
  k .normal [(0, .v t0), (1, .v t1), (7, .v t7), (8, .v w18_8)] [] Q6))
  (fun _ => k (.exit 0) [] [] Q)) := by kernel_rfl
noncomputable def L_slices_IndexFunc_api_Span_api_Span_0 (s : PSpecs) (t0 t1 t7 t8 : AV) (Q : AHeap) : Option PEnd := loopP (penv s) c_slices_IndexFunc_api_Span_api_Span_0 [(0, .v t0), (1, .v t1), (7, .v t7), (8, .v t8)] [] Q
theorem L_slices_IndexFunc_api_Span_api_Span_0_fold (s : PSpecs) (t0 t1 t7 t8 : AV) (Q : AHeap) : loopP (penv s) c_slices_IndexFunc_api_Span_api_Span_0 [(0, .v t0), (1, .v t1), (7, .v t7), (8, .v t8)] [] Q = L_slices_IndexFunc_api_Span_api_Span_0 s t0 t1 t7 t8 Q := rfl
theorem L_slices_IndexFunc_api_Span_api_Span_0_eq (s : PSpecs) (t0 t1 t7 t8 : AV) (Q : AHeap) : L_slices_IndexFunc_api_Span_api_Span_0 s t0 t1 t7 t8 Q = evalPK (callP (penv s)) (loopP (penv s)) c_slices_IndexFunc_api_Span_api_Span_0 [(0, .v t0), (1, .v t1), (7, .v t7), (8, .v t8)] [] Q (goX (fun τ ω Q => loopP (penv s) c_slices_IndexFunc_api_Span_api_Span_0 τ ω Q) ret4) := loopP_body
abbrev X_slices_IndexFunc_api_Span_api_Span_0_x0 (Q : AHeap) : Option PEnd := some (.exit 0, [], [], Q)
abbrev X_slices_IndexFunc_api_Span_api_Span_0_ret (t4 : AV) (Q : AHeap) : Option PEnd := some (.ret, [(4, .v t4)], [], Q)
theorem p_slices_IndexFunc_api_Span_api_Span_1 {β : Type} (call : CallF) (lp : PLoopF) (Q : AHeap) (k : PK β) : evalPK call lp c_slices_IndexFunc_api_Span_api_Span_1 [] [] Q k = (
  k .ret [(4, .v (.int .i64 (-1)))] [] Q) := by kernel_rfl
theorem g_slices_IndexFunc_api_Span_api_Span {call : CallF} {lp : PLoopF} (v0 v1 : AV) (Q : AHeap) : evalPK call lp c_slices_IndexFunc_api_Span_api_Span [(0, .v v0), (1, .v v1)] [] Q (retPK [.tmp 4] [.n]) = (
  bnP (lenQ v0) fun w7_1 => 
  bnX (lp c_slices_IndexFunc_api_Span_api_Span_0 [(0, .v v0), (1, .v v1), (7, .v w7_1), (8, .v (.int .i64 0))] [] Q) (outX 0 (goC (evalPK call lp c_slices_IndexFunc_api_Span_api_Span_1) (retPK [.tmp 4] [.n])))) := by kernel_rfl
def f_slices_IndexFunc_api_Span_api_Span {s : PSpecs} (hs : s.lookup 38 = none) (v0 v1 : AV) (Q : AHeap) := (callP_fn (E := penv s) (f := 38) (fn := pf_slices_IndexFunc_api_Span_api_Span) hs rfl [v0, v1] Q rfl).trans (g_slices_IndexFunc_api_Span_api_Span (call := callP (penv s)) (lp := loopP (penv s)) v0 v1 Q)
end Go.Proofs.Ytcledejamnnbmaa.Ps
