/- Equations by values. Printed by mkpv.py of this repo. -/
import Derived.Test.YtcledejamnnbmaaPsd
import Derived.Test.YtcledejamnnbmaaPvE
namespace Go.Proofs.Ytcledejamnnbmaa.Ps
open Go.Ab
set_option maxRecDepth 100000
set_option linter.unusedVariables false
set_option linter.unusedSimpArgs false
set_option linter.defProp false
theorem p_pleachlaw3_SpanAll_0 {β : Type} (call : CallF) (lp : PLoopF) (t1 t3 t9 t10 t11 : AV) (Q : AHeap) (k : PK β) : evalPK call lp c_pleachlaw3_SpanAll_0 [(1, .v t1), (3, .v t3), (9, .v t9), (10, .v t10), (11, .v t11)] [] Q k = (
  bnP (binA .lss t11 (.int .i64 3)) fun w31_1 => 
  cndS w31_1 (fun _ => bnP (elQ 2 t10 t11) fun e2 => 
  bnC 2 (cut (AV.cells e2) 0 2) fun c38_3 c38_4 => 
  bnP (elQ 2 t10 t11) fun e5 => 
  bnC 2 (cut (AV.cells e5) 0 2) fun c44_6 c44_7 => 
  bnS (call 11 [t9, .agg [c38_3, c38_4]] Q) fun w39_8 Q9 => 
  bnS (call 12 [t9, .agg [c44_6, c44_7]] Q9) fun w45_10 Q11 => 
  bnS (call 10 [(frz w39_8), (frz w45_10)] Q11) fun w46_12 Q13 => 
  bnP (unA .not (frz w46_12)) fun w47_14 => 
  cndS w47_14 (fun _ => k .ret [(8, .v (.bool false))] [] Q13)
  (fun _ => bnP (elQ 2 t10 t11) fun e15 => 
  bnC 2 (cut (AV.cells e15) 0 2) fun c51_16 c51_17 => 
  bnS (call 13 [.agg [c51_16, c51_17]] Q13) fun w52_18 Q19 => 
  bnP (gdQ (frz w52_18) true (some t9)) fun w54_20 => 
  bnP (gdQ (frz w52_18) true (some t10)) fun w55_21 => 
  bnP (gdQ (frz w52_18) true (some t11)) fun w56_22 => 
  bnP (gdQ (frz w52_18) true (elQ 2 w55_21 w56_22)) fun e23 => 
  bnP (gdQ (frz w52_18) true ((cut (AV.cells e23) 0 2).map AV.agg)) fun w58_24 => 
  bnP (gdQ (frz w52_18) true (some t9)) fun w60_25 => 
  bnP (gdQ (frz w52_18) true (some t10)) fun w61_26 => 
  bnP (gdQ (frz w52_18) true (some t11)) fun w62_27 => 
  bnP (gdQ (frz w52_18) true (elQ 2 w61_26 w62_27)) fun e28 => 
  bnP (gdQ (frz w52_18) true ((cut (AV.cells e28) 0 2).map AV.agg)) fun w64_29 => 
  bnS (gdH (frz w52_18) true (call 14 [w54_20, w58_24] Q19) Q19) fun w59_30 Q31 => 
  bnS (gdH (frz w52_18) true (call 15 [w60_25, w64_29] Q31) Q31) fun w65_32 Q33 => 
  bnS (gdH (frz w52_18) true (call 10 [(frz w59_30), (frz w65_32)] Q33) Q33) fun w66_34 Q35 => 
  bnP (gdQ (frz w52_18) true (unA .not (frz w66_34))) fun w67_36 => 
  bnP (pickA (frz w52_18) w67_36 (.bool false)) fun w68_37 => 
  cndS w68_37 (fun _ => k .ret [(8, .v (.bool false))] [] Q35)
  (fun _ => bnP (binA .add t11 (.int .i64 1)) fun w33_38 => 
  k .normal [(1, .v t1), (3, .v t3), (9, .v t9), (10, .v t10), (11, .v w33_38)] [] Q35)))
  (fun _ => k (.exit 0) [(1, .v t1), (3, .v t3), (9, .v t9)] [] Q)) := by kernel_rfl
noncomputable def L_pleachlaw3_SpanAll_0 (s : PSpecs) (t1 t3 t9 t10 t11 : AV) (Q : AHeap) : Option PEnd := loopP (penv s) c_pleachlaw3_SpanAll_0 [(1, .v t1), (3, .v t3), (9, .v t9), (10, .v t10), (11, .v t11)] [] Q
theorem L_pleachlaw3_SpanAll_0_fold (s : PSpecs) (t1 t3 t9 t10 t11 : AV) (Q : AHeap) : loopP (penv s) c_pleachlaw3_SpanAll_0 [(1, .v t1), (3, .v t3), (9, .v t9), (10, .v t10), (11, .v t11)] [] Q = L_pleachlaw3_SpanAll_0 s t1 t3 t9 t10 t11 Q := rfl
theorem L_pleachlaw3_SpanAll_0_eq (s : PSpecs) (t1 t3 t9 t10 t11 : AV) (Q : AHeap) : L_pleachlaw3_SpanAll_0 s t1 t3 t9 t10 t11 Q = evalPK (callP (penv s)) (loopP (penv s)) c_pleachlaw3_SpanAll_0 [(1, .v t1), (3, .v t3), (9, .v t9), (10, .v t10), (11, .v t11)] [] Q (goX (fun τ ω Q => loopP (penv s) c_pleachlaw3_SpanAll_0 τ ω Q) ret4) := loopP_body
abbrev X_pleachlaw3_SpanAll_0_x0 (t1 t3 t9 : AV) (Q : AHeap) : Option PEnd := some (.exit 0, [(1, .v t1), (3, .v t3), (9, .v t9)], [], Q)
theorem p_pleachlaw3_SpanAll_1 {β : Type} (call : CallF) (lp : PLoopF) (t1 t3 t9 t12 t13 : AV) (Q : AHeap) (k : PK β) : evalPK call lp c_pleachlaw3_SpanAll_1 [(1, .v t1), (3, .v t3), (9, .v t9), (12, .v t12), (13, .v t13)] [] Q k = (
  bnP (lenQ t9) fun w71_1 => 
  bnP (binA .lss t13 w71_1) fun w72_2 => 
  cndS w72_2 (fun _ => bnP (elQ 2 t9 t13) fun e3 => 
  bnP ((AV.cells e3)[1]?) fun w80_4 => 
  bnP (binA .add t12 w80_4) fun w81_5 => 
  bnP (elQ 2 t9 t13) fun e6 => 
  bnP ((AV.cells e6)[0]?) fun w86_7 => 
  bnP (binA .sub w81_5 w86_7) fun w87_8 => 
  bnP (binA .add w87_8 (.int .i64 1)) fun w88_9 => 
  bnP (binA .add t13 (.int .i64 1)) fun w74_10 => 
  k .normal [(1, .v t1), (3, .v t3), (9, .v t9), (12, .v w88_9), (13, .v w74_10)] [] Q)
  (fun _ => k (.exit 2) [(1, .v t1), (3, .v t3), (9, .v t9), (12, .v t12)] [] Q)) := by kernel_rfl
noncomputable def L_pleachlaw3_SpanAll_1 (s : PSpecs) (t1 t3 t9 t12 t13 : AV) (Q : AHeap) : Option PEnd := loopP (penv s) c_pleachlaw3_SpanAll_1 [(1, .v t1), (3, .v t3), (9, .v t9), (12, .v t12), (13, .v t13)] [] Q
theorem L_pleachlaw3_SpanAll_1_fold (s : PSpecs) (t1 t3 t9 t12 t13 : AV) (Q : AHeap) : loopP (penv s) c_pleachlaw3_SpanAll_1 [(1, .v t1), (3, .v t3), (9, .v t9), (12, .v t12), (13, .v t13)] [] Q = L_pleachlaw3_SpanAll_1 s t1 t3 t9 t12 t13 Q := rfl
theorem L_pleachlaw3_SpanAll_1_eq (s : PSpecs) (t1 t3 t9 t12 t13 : AV) (Q : AHeap) : L_pleachlaw3_SpanAll_1 s t1 t3 t9 t12 t13 Q = evalPK (callP (penv s)) (loopP (penv s)) c_pleachlaw3_SpanAll_1 [(1, .v t1), (3, .v t3), (9, .v t9), (12, .v t12), (13, .v t13)] [] Q (goX (fun τ ω Q => loopP (penv s) c_pleachlaw3_SpanAll_1 τ ω Q) ret4) := loopP_body
abbrev X_pleachlaw3_SpanAll_1_x2 (t1 t3 t9 t12 : AV) (Q : AHeap) : Option PEnd := some (.exit 2, [(1, .v t1), (3, .v t3), (9, .v t9), (12, .v t12)], [], Q)
theorem p_pleachlaw3_SpanAll_2 {β : Type} (call : CallF) (lp : PLoopF) (t1 t3 t9 t12 : AV) (Q : AHeap) (k : PK β) : evalPK call lp c_pleachlaw3_SpanAll_2 [(1, .v t1), (3, .v t3), (9, .v t9), (12, .v t12)] [] Q k = (
  bnS (call 16 [t9, t3] Q) fun w91_1 Q2 => 
  bnS (call 17 [t9, t3] Q2) fun w94_3 Q4 => 
  bnP (eqsA false .b (frz w91_1) (frz w94_3)) fun w95_5 => 
  bnP (gdQ w95_5 true (some t9)) fun w97_6 => 
  bnS (gdH w95_5 true (call 18 [w97_6] Q4) Q4) fun w98_7 Q8 => 
  bnP (gdQ w95_5 true (some t12)) fun w99_9 => 
  bnP (gdQ w95_5 true (binA .eql (frz w98_7) w99_9)) fun w100_10 => 
  bnP (pickA w95_5 w100_10 (.bool false)) fun w101_11 => 
  bnP (gdQ w101_11 true (some t9)) fun w103_12 => 
  bnS (gdH w101_11 true (call 19 [w103_12] Q8) Q8) fun w104_13 Q14 => 
  bnP (pickA w101_11 (frz w104_13) (.bool false)) fun w105_15 => 
  bnP (gdQ w105_15 true (some t1)) fun w107_16 => 
  bnS (gdH w105_15 true (call 19 [w107_16] Q14) Q14) fun w108_17 Q18 => 
  bnP (gdQ w105_15 true (some t1)) fun w109_19 => 
  bnS (gdH w105_15 true (call 20 [w109_19] Q18) Q18) fun w110_20 Q21 => 
  bnP (gdQ w105_15 true (eqsA false .b (frz w108_17) (frz w110_20))) fun w111_22 => 
  bnP (pickA w105_15 w111_22 (.bool false)) fun w112_23 => 
  k .ret [(8, .v w112_23), (112, .v w112_23), (111, .v w111_22), (110, .v (frz w110_20)), (109, .v w109_19), (108, .v (frz w108_17)), (107, .v w107_16), (106, .v w105_15), (105, .v w105_15), (104, .v (frz w104_13)), (103, .v w103_12), (102, .v w101_11), (101, .v w101_11), (100, .v w100_10), (99, .v w99_9), (98, .v (frz w98_7)), (97, .v w97_6), (96, .v w95_5), (95, .v w95_5), (94, .v (frz w94_3)), (93, .v t3), (92, .v t9), (91, .v (frz w91_1)), (90, .v t3), (89, .v t9), (1, .v t1), (3, .v t3), (9, .v t9), (12, .v t12)] [] Q21) := by kernel_rfl
theorem p_pleachlaw3_SpanAll_3 {β : Type} (call : CallF) (lp : PLoopF) (t1 t3 t9 : AV) (Q : AHeap) (k : PK β) : evalPK call lp c_pleachlaw3_SpanAll_3 [(1, .v t1), (3, .v t3), (9, .v t9)] [] Q k = (
  bnX (lp c_pleachlaw3_SpanAll_1 [(1, .v t1), (3, .v t3), (9, .v t9), (12, .v (.int .i64 0)), (13, .v (.int .i64 0))] [] Q) (outX 2 (goC (evalPK call lp c_pleachlaw3_SpanAll_2) k))) := by kernel_rfl
theorem g_pleachlaw3_SpanAll {call : CallF} {lp : PLoopF} (v0 v1 v2_0 v2_1 v3 : AV) (Q : AHeap) : evalPK call lp c_pleachlaw3_SpanAll [(0, .v v0), (1, .v v1), (2, .v (.agg [v2_0, v2_1])), (3, .v v3)] [] Q (retPK [.tmp 8] [.n]) = (
  bnC 2 (stC 2 (.agg [v2_0, v2_1])) fun s1 s2 => 
  bnS (call 8 [] Q) fun w14_3 Q4 => 
  bnP (unA .not (frz w14_3)) fun w15_5 => 
  cndS w15_5 (fun _ => some (.bool false, Q4))
  (fun _ => bnP (lenQ v0) fun w17_6 => 
  bnP (binA .gtr w17_6 (.int .i64 8)) fun w18_7 => 
  bnP (gdQ w18_7 false (some v1)) fun w20_8 => 
  bnP (gdQ w18_7 false (lenQ w20_8)) fun w21_9 => 
  bnP (gdQ w18_7 false (binA .gtr w21_9 (.int .i64 8))) fun w22_10 => 
  bnP (pickA w18_7 (.bool true) w22_10) fun w23_11 => 
  cndS w23_11 (fun _ => some (.bool true, Q4))
  (fun _ => bnS (call 9 [v0] Q4) fun w25_12 Q13 => 
  pinB (elOk 2 (.agg [s1, s2])) <| 
  bnX (lp c_pleachlaw3_SpanAll_0 [(1, .v v1), (3, .v v3), (9, .v (frz w25_12)), (10, .v (.fz 2 [.agg [s1, s2], .agg [.int .i64 3, .int .i64 30], .agg [.int .i64 20, .int .i64 20]])), (11, .v (.int .i64 0))] [] Q13) (outX 0 (goC (evalPK call lp c_pleachlaw3_SpanAll_3) (retPK [.tmp 8] [.n])))))) := by kernel_rfl
def f_pleachlaw3_SpanAll {s : PSpecs} (hs : s.lookup 3 = none) (v0 v1 v2_0 v2_1 v3 : AV) (Q : AHeap) := (callP_fn (E := penv s) (f := 3) (fn := pf_pleachlaw3_SpanAll) hs rfl [v0, v1, .agg [v2_0, v2_1], v3] Q rfl).trans (g_pleachlaw3_SpanAll (call := callP (penv s)) (lp := loopP (penv s)) v0 v1 v2_0 v2_1 v3 Q)
theorem p_pleachlaw3_Spans_0 {β : Type} (call : CallF) (lp : PLoopF) (t0 t4 : AV) (l3 : List AV) (Q : AHeap) (k : PK β) : evalPK call lp c_pleachlaw3_Spans_0 [(0, .v t0), (3, .ls 3), (4, .v t4)] [(3, .own 2 l3)] Q k = (
  bnP (lenQ t0) fun w8_1 => 
  bnP (binA .lss t4 w8_1) fun w9_2 => 
  cndS w9_2 (fun _ => bnP (elQ 2 t0 t4) fun e3 => 
  bnN (idxN 2 (.int .i64 0)) fun i4 => 
  bnP ((AV.cells e3)[(0 + i4 * 1)]?) fun w16_5 => 
  bnP (binA .rem w16_5 (.int .u8 40)) fun w17_6 => 
  bnP (cviA .i64 w17_6) fun w18_7 => 
  bnP (binA .add (.int .i64 1) w18_7) fun w19_8 => 
  bnP (elQ 2 t0 t4) fun e9 => 
  bnN (idxN 2 (.int .i64 1)) fun i10 => 
  bnP ((AV.cells e9)[(0 + i10 * 1)]?) fun w27_11 => 
  bnP (binA .rem w27_11 (.int .u8 6)) fun w28_12 => 
  bnP (cviA .i64 w28_12) fun w29_13 => 
  bnP (binA .add w19_8 w29_13) fun w30_14 => 
  bnC 2 (fillP [.int .i64 0, .int .i64 0] [(0, 1, w19_8), (1, 1, w30_14)]) fun c31_15 c31_16 => 
  bnS (call 12 [(.fz 2 l3), .agg [c31_15, c31_16]] Q) fun w32_17 Q18 => bnL (owZ 2 w32_17) fun l19 => 
  bnP (binA .add t4 (.int .i64 1)) fun w11_20 => 
  k .normal [(0, .v t0), (3, .ls 3), (4, .v w11_20)] [(3, .own 2 l19)] Q18)
  (fun _ => k (.exit 0) [(3, .ls 3)] [(3, .own 2 l3)] Q)) := by kernel_rfl
noncomputable def L_pleachlaw3_Spans_0 (s : PSpecs) (t0 t4 : AV) (l3 : List AV) (Q : AHeap) : Option PEnd := loopP (penv s) c_pleachlaw3_Spans_0 [(0, .v t0), (3, .ls 3), (4, .v t4)] [(3, .own 2 l3)] Q
theorem L_pleachlaw3_Spans_0_fold (s : PSpecs) (t0 t4 : AV) (l3 : List AV) (Q : AHeap) : loopP (penv s) c_pleachlaw3_Spans_0 [(0, .v t0), (3, .ls 3), (4, .v t4)] [(3, .own 2 l3)] Q = L_pleachlaw3_Spans_0 s t0 t4 l3 Q := rfl
theorem L_pleachlaw3_Spans_0_eq (s : PSpecs) (t0 t4 : AV) (l3 : List AV) (Q : AHeap) : L_pleachlaw3_Spans_0 s t0 t4 l3 Q = evalPK (callP (penv s)) (loopP (penv s)) c_pleachlaw3_Spans_0 [(0, .v t0), (3, .ls 3), (4, .v t4)] [(3, .own 2 l3)] Q (goX (fun τ ω Q => loopP (penv s) c_pleachlaw3_Spans_0 τ ω Q) ret4) := loopP_body
abbrev X_pleachlaw3_Spans_0_x0 (l3 : List AV) (Q : AHeap) : Option PEnd := some (.exit 0, [(3, .ls 3)], [(3, .own 2 l3)], Q)
theorem p_pleachlaw3_Spans_1 {β : Type} (call : CallF) (lp : PLoopF) (l3 : List AV) (Q : AHeap) (k : PK β) : evalPK call lp c_pleachlaw3_Spans_1 [(3, .ls 3)] [(3, .own 2 l3)] Q k = (
  k .ret [(2, .ls 3), (33, .ls 3), (3, .ls 3)] [(3, .own 2 l3)] Q) := by kernel_rfl
theorem g_pleachlaw3_Spans {call : CallF} {lp : PLoopF} (v0 : AV) (Q : AHeap) : evalPK call lp c_pleachlaw3_Spans [(0, .v v0)] [] Q (retPK [.tmp 2] [.o 2]) = (
  bnX (lp c_pleachlaw3_Spans_0 [(0, .v v0), (3, .ls 3), (4, .v (.int .i64 0))] [(3, .own 2 ([] : List AV))] Q) (outX 0 (goC (evalPK call lp c_pleachlaw3_Spans_1) (retPK [.tmp 2] [.o 2])))) := by kernel_rfl
def f_pleachlaw3_Spans {s : PSpecs} (hs : s.lookup 9 = none) (v0 : AV) (Q : AHeap) := (callP_fn (E := penv s) (f := 9) (fn := pf_pleachlaw3_Spans) hs rfl [v0] Q rfl).trans (g_pleachlaw3_Spans (call := callP (penv s)) (lp := loopP (penv s)) v0 Q)
theorem p_pleachref1_SameSpans_0 {β : Type} (call : CallF) (lp : PLoopF) (t0 t1 t5 : AV) (Q : AHeap) (k : PK β) : evalPK call lp c_pleachref1_SameSpans_0 [(0, .v t0), (1, .v t1), (5, .v t5)] [] Q k = (
  bnP (lenQ t0) fun w13_1 => 
  bnP (binA .lss t5 w13_1) fun w14_2 => 
  cndS w14_2 (fun _ => bnP (elQ 2 t0 t5) fun e3 => 
  bnC 2 (cut (AV.cells e3) 0 2) fun c20_4 c20_5 => 
  bnP (elQ 2 t1 t5) fun e6 => 
  bnC 2 (cut (AV.cells e6) 0 2) fun c24_7 c24_8 => 
  bnP (eqsA true (.st [(0, 1, .i), (1, 1, .i)]) (.agg [c20_4, c20_5]) (.agg [c24_7, c24_8])) fun w25_9 => 
  cndS w25_9 (fun _ => k .ret [(4, .v (.bool false))] [] Q)
  (fun _ => bnP (binA .add t5 (.int .i64 1)) fun w16_10 => 
  k .normal [(0, .v t0), (1, .v t1), (5, .v w16_10)] [] Q))
  (fun _ => k (.exit 0) [] [] Q)) := by kernel_rfl
noncomputable def L_pleachref1_SameSpans_0 (s : PSpecs) (t0 t1 t5 : AV) (Q : AHeap) : Option PEnd := loopP (penv s) c_pleachref1_SameSpans_0 [(0, .v t0), (1, .v t1), (5, .v t5)] [] Q
theorem L_pleachref1_SameSpans_0_fold (s : PSpecs) (t0 t1 t5 : AV) (Q : AHeap) : loopP (penv s) c_pleachref1_SameSpans_0 [(0, .v t0), (1, .v t1), (5, .v t5)] [] Q = L_pleachref1_SameSpans_0 s t0 t1 t5 Q := rfl
theorem L_pleachref1_SameSpans_0_eq (s : PSpecs) (t0 t1 t5 : AV) (Q : AHeap) : L_pleachref1_SameSpans_0 s t0 t1 t5 Q = evalPK (callP (penv s)) (loopP (penv s)) c_pleachref1_SameSpans_0 [(0, .v t0), (1, .v t1), (5, .v t5)] [] Q (goX (fun τ ω Q => loopP (penv s) c_pleachref1_SameSpans_0 τ ω Q) ret4) := loopP_body
abbrev X_pleachref1_SameSpans_0_x0 (Q : AHeap) : Option PEnd := some (.exit 0, [], [], Q)
abbrev X_pleachref1_SameSpans_0_ret (t4 : AV) (Q : AHeap) : Option PEnd := some (.ret, [(4, .v t4)], [], Q)
theorem p_pleachref1_SameSpans_1 {β : Type} (call : CallF) (lp : PLoopF) (Q : AHeap) (k : PK β) : evalPK call lp c_pleachref1_SameSpans_1 [] [] Q k = (
  k .ret [(4, .v (.bool true))] [] Q) := by kernel_rfl
theorem g_pleachref1_SameSpans {call : CallF} {lp : PLoopF} (v0 v1 : AV) (Q : AHeap) : evalPK call lp c_pleachref1_SameSpans [(0, .v v0), (1, .v v1)] [] Q (retPK [.tmp 4] [.n]) = (
  bnP (lenQ v0) fun w7_1 => 
  bnP (lenQ v1) fun w9_2 => 
  bnP (binA .neq w7_1 w9_2) fun w10_3 => 
  cndS w10_3 (fun _ => some (.bool false, Q))
  (fun _ => bnX (lp c_pleachref1_SameSpans_0 [(0, .v v0), (1, .v v1), (5, .v (.int .i64 0))] [] Q) (outX 0 (goC (evalPK call lp c_pleachref1_SameSpans_1) (retPK [.tmp 4] [.n]))))) := by kernel_rfl
def f_pleachref1_SameSpans {s : PSpecs} (hs : s.lookup 10 = none) (v0 v1 : AV) (Q : AHeap) := (callP_fn (E := penv s) (f := 10) (fn := pf_pleachref1_SameSpans) hs rfl [v0, v1] Q rfl).trans (g_pleachref1_SameSpans (call := callP (penv s)) (lp := loopP (penv s)) v0 v1 Q)
theorem p_span_Add_0 {β : Type} (call : CallF) (lp : PLoopF) (t13 t14 t15 s3_0 s3_1 : AV) (l4 : List AV) (Q : AHeap) (k : PK β) : evalPK call lp c_span_Add_0 [(3, .lp 3 0), (4, .ls 4), (13, .v t13), (14, .v t14), (15, .v t15)] [(3, .cells [s3_0, s3_1]), (4, .own 2 l4)] Q k = (
  bnP (binA .add t15 (.int .i64 1)) fun w49_1 => 
  k .normal [(15, .v w49_1), (49, .v w49_1), (3, .lp 3 0), (4, .ls 4), (13, .v t13), (14, .v t14), (15, .v t15)] [(3, .cells [s3_0, s3_1]), (4, .own 2 l4)] Q) := by kernel_rfl
theorem p_span_Add_1 {β : Type} (call : CallF) (lp : PLoopF) (t13 t14 t15 s3_0 s3_1 : AV) (l4 : List AV) (Q : AHeap) (k : PK β) : evalPK call lp c_span_Add_1 [(3, .lp 3 0), (4, .ls 4), (13, .v t13), (14, .v t14), (15, .v t15)] [(3, .cells [s3_0, s3_1]), (4, .own 2 l4)] Q k = (
  bnP (binA .lss t15 t14) fun w16_1 => 
  cndS w16_1 (fun _ => bnX (bnX (bnP (elQ 2 t13 t15) fun e2 => 
  bnC 2 (cut (AV.cells e2) 0 2) fun c18_3 c18_4 => 
  bnC 2 (stC 2 (.agg [c18_3, c18_4])) fun s5 s6 => 
  bnP (binA .sub s3_0 (.int .i64 1)) fun w23_7 => 
  bnP (binA .lss s6 w23_7) fun w24_8 => 
  bnP (gdQ w24_8 false (some s5)) fun w27_9 => 
  bnP (gdQ w24_8 false (some s3_1)) fun w29_10 => 
  bnP (gdQ w24_8 false (binA .add w29_10 (.int .i64 1))) fun w30_11 => 
  bnP (gdQ w24_8 false (binA .gtr w27_9 w30_11)) fun w31_12 => 
  bnP (pickA w24_8 (.bool true) w31_12) fun w32_13 => 
  cndS w32_13 (fun _ => pinB (elOk 2 (.agg [s5, s6])) <| 
  pinB (room 16 ((l4 : List AV).length + (([.agg [s5, s6]] : List AV) : List AV).length)) <| 
  some (.normal, [(3, .lp 3 0), (4, .ls 4), (13, .v t13), (14, .v t14), (15, .v t15)], [(3, .cells [s3_0, s3_1]), (4, .own 2 (l4 ++ ([.agg [s5, s6]] : List AV)))], Q))
  (fun _ => bnP (mniA [s3_0, s5]) fun w41_14 => 
  bnP (mxiA [s3_1, s6]) fun w46_15 => 
  bnC 1 (stC 1 w41_14) fun s16 => 
  bnC 1 (stC 1 w46_15) fun s17 => 
  some (.normal, [(3, .lp 3 0), (4, .ls 4), (13, .v t13), (14, .v t14), (15, .v t15)], [(3, .cells [s16, s17]), (4, .own 2 l4)], Q)))
  (outX 1 ret4))
  (goC (evalPK call lp c_span_Add_0) (finC [] [] [3, 4, 13, 14, 15] [(3, 3), (4, 4)] k)))
  (fun _ => k (.exit 0) [(3, .lp 3 0), (4, .ls 4)] [(3, .cells [s3_0, s3_1]), (4, .own 2 l4)] Q)) := by kernel_rfl
noncomputable def L_span_Add_1 (s : PSpecs) (t13 t14 t15 s3_0 s3_1 : AV) (l4 : List AV) (Q : AHeap) : Option PEnd := loopP (penv s) c_span_Add_1 [(3, .lp 3 0), (4, .ls 4), (13, .v t13), (14, .v t14), (15, .v t15)] [(3, .cells [s3_0, s3_1]), (4, .own 2 l4)] Q
theorem L_span_Add_1_fold (s : PSpecs) (t13 t14 t15 s3_0 s3_1 : AV) (l4 : List AV) (Q : AHeap) : loopP (penv s) c_span_Add_1 [(3, .lp 3 0), (4, .ls 4), (13, .v t13), (14, .v t14), (15, .v t15)] [(3, .cells [s3_0, s3_1]), (4, .own 2 l4)] Q = L_span_Add_1 s t13 t14 t15 s3_0 s3_1 l4 Q := rfl
theorem L_span_Add_1_eq (s : PSpecs) (t13 t14 t15 s3_0 s3_1 : AV) (l4 : List AV) (Q : AHeap) : L_span_Add_1 s t13 t14 t15 s3_0 s3_1 l4 Q = evalPK (callP (penv s)) (loopP (penv s)) c_span_Add_1 [(3, .lp 3 0), (4, .ls 4), (13, .v t13), (14, .v t14), (15, .v t15)] [(3, .cells [s3_0, s3_1]), (4, .own 2 l4)] Q (goX (fun τ ω Q => loopP (penv s) c_span_Add_1 τ ω Q) ret4) := loopP_body
abbrev X_span_Add_1_x0 (s3_0 s3_1 : AV) (l4 : List AV) (Q : AHeap) : Option PEnd := some (.exit 0, [(3, .lp 3 0), (4, .ls 4)], [(3, .cells [s3_0, s3_1]), (4, .own 2 l4)], Q)
theorem p_span_Add_2 {β : Type} (call : CallF) (lp : PLoopF) (t7 s3_0 s3_1 : AV) (l4 : List AV) (Q : AHeap) (k : PK β) : evalPK call lp c_span_Add_2 [(3, .lp 3 0), (4, .ls 4), (7, .v t7)] [(3, .cells [s3_0, s3_1]), (4, .own 2 l4)] Q k = (
  bnP (binA .lss t7 (.int .i64 ((l4 : List AV).length : Nat))) fun w53_1 => 
  bnP (gdQ w53_1 true (some t7)) fun w56_2 => 
  bnN (gdN w53_1 true (idxN (l4 : List AV).length w56_2)) fun i3 => 
  bnP (gdQ w53_1 true (elC l4 i3 0)) fun w59_4 => 
  bnP (gdQ w53_1 true (some s3_0)) fun w61_5 => 
  bnP (gdQ w53_1 true (binA .lss w59_4 w61_5)) fun w62_6 => 
  bnP (pickA w53_1 w62_6 (.bool false)) fun w63_7 => 
  cndS w63_7 (fun _ => bnP (binA .add t7 (.int .i64 1)) fun w65_8 => 
  k .normal [(3, .lp 3 0), (4, .ls 4), (7, .v w65_8)] [(3, .cells [s3_0, s3_1]), (4, .own 2 l4)] Q)
  (fun _ => k (.exit 2) [(3, .lp 3 0), (4, .ls 4), (7, .v t7)] [(3, .cells [s3_0, s3_1]), (4, .own 2 l4)] Q)) := by kernel_rfl
noncomputable def L_span_Add_2 (s : PSpecs) (t7 s3_0 s3_1 : AV) (l4 : List AV) (Q : AHeap) : Option PEnd := loopP (penv s) c_span_Add_2 [(3, .lp 3 0), (4, .ls 4), (7, .v t7)] [(3, .cells [s3_0, s3_1]), (4, .own 2 l4)] Q
theorem L_span_Add_2_fold (s : PSpecs) (t7 s3_0 s3_1 : AV) (l4 : List AV) (Q : AHeap) : loopP (penv s) c_span_Add_2 [(3, .lp 3 0), (4, .ls 4), (7, .v t7)] [(3, .cells [s3_0, s3_1]), (4, .own 2 l4)] Q = L_span_Add_2 s t7 s3_0 s3_1 l4 Q := rfl
theorem L_span_Add_2_eq (s : PSpecs) (t7 s3_0 s3_1 : AV) (l4 : List AV) (Q : AHeap) : L_span_Add_2 s t7 s3_0 s3_1 l4 Q = evalPK (callP (penv s)) (loopP (penv s)) c_span_Add_2 [(3, .lp 3 0), (4, .ls 4), (7, .v t7)] [(3, .cells [s3_0, s3_1]), (4, .own 2 l4)] Q (goX (fun τ ω Q => loopP (penv s) c_span_Add_2 τ ω Q) ret4) := loopP_body
abbrev X_span_Add_2_x2 (t7 s3_0 s3_1 : AV) (l4 : List AV) (Q : AHeap) : Option PEnd := some (.exit 2, [(3, .lp 3 0), (4, .ls 4), (7, .v t7)], [(3, .cells [s3_0, s3_1]), (4, .own 2 l4)], Q)
theorem p_span_Add_3 {β : Type} (call : CallF) (lp : PLoopF) (t7 s3_0 s3_1 : AV) (l4 : List AV) (Q : AHeap) (k : PK β) : evalPK call lp c_span_Add_3 [(3, .lp 3 0), (4, .ls 4), (7, .v t7)] [(3, .cells [s3_0, s3_1]), (4, .own 2 l4)] Q k = (
  pinB (elOk 2 (.agg [s3_0, s3_1])) <| 
  bnS (call 1000028 [.ow 2 l4, t7, .lt 2 [.agg [s3_0, s3_1]]] Q) fun w70_1 Q2 => bnL (owZ 2 w70_1) fun l3 => 
  k .ret [(4, .ls 4), (70, .ls 4), (69, .v (.lt 2 [.agg [s3_0, s3_1]])), (68, .v (.agg [s3_0, s3_1])), (67, .v t7), (66, .v undefA), (3, .lp 3 0), (4, .v undefA), (7, .v t7)] [(4, .own 2 l3), (3, .cells [s3_0, s3_1])] Q2) := by kernel_rfl
theorem p_span_Add_4 {β : Type} (call : CallF) (lp : PLoopF) (s3_0 s3_1 : AV) (l4 : List AV) (Q : AHeap) (k : PK β) : evalPK call lp c_span_Add_4 [(3, .lp 3 0), (4, .ls 4)] [(3, .cells [s3_0, s3_1]), (4, .own 2 l4)] Q k = (
  bnX (lp c_span_Add_2 [(3, .lp 3 0), (4, .ls 4), (7, .v (.int .i64 0))] [(3, .cells [s3_0, s3_1]), (4, .own 2 l4)] Q) (outX 2 (goC (evalPK call lp c_span_Add_3) k))) := by kernel_rfl
theorem g_span_Add {call : CallF} {lp : PLoopF} (v0 v1_0 v1_1 : AV) (Q : AHeap) : evalPK call lp c_span_Add [(0, .v v0), (1, .v (.agg [v1_0, v1_1]))] [] Q (retPK [.tmp 4] [.o 2]) = (
  bnC 2 (stC 2 (.agg [v1_0, v1_1])) fun s1 s2 => 
  bnS (call 26 [.agg [s1, s2]] Q) fun w9_3 Q4 => 
  bnP (unA .not (frz w9_3)) fun w10_5 => 
  cndS w10_5 (fun _ => bnS (call 27 [v0] Q4) fun w12_6 Q7 => bnL (owZ 2 w12_6) fun l8 => 
  some (.ow 2 l8, Q7))
  (fun _ => bnP (lenQ v0) fun w14_9 => 
  bnX (lp c_span_Add_1 [(3, .lp 3 0), (4, .ls 4), (13, .v v0), (14, .v w14_9), (15, .v (.int .i64 0))] [(3, .cells [s1, s2]), (4, .own 2 ([] : List AV))] Q4) (outX 0 (goC (evalPK call lp c_span_Add_4) (retPK [.tmp 4] [.o 2]))))) := by kernel_rfl
def f_span_Add {s : PSpecs} (hs : s.lookup 11 = none) (v0 v1_0 v1_1 : AV) (Q : AHeap) := (callP_fn (E := penv s) (f := 11) (fn := pf_span_Add) hs rfl [v0, .agg [v1_0, v1_1]] Q rfl).trans (g_span_Add (call := callP (penv s)) (lp := loopP (penv s)) v0 v1_0 v1_1 Q)
theorem p_pleachref1_AddSpan_0 {β : Type} (call : CallF) (lp : PLoopF) (t0 t7 s3_0 s3_1 : AV) (l5 l6 : List AV) (Q : AHeap) (k : PK β) : evalPK call lp c_pleachref1_AddSpan_0 [(0, .v t0), (3, .lp 3 0), (5, .ls 5), (6, .ls 6), (7, .v t7)] [(3, .cells [s3_0, s3_1]), (5, .own 2 l5), (6, .own 2 l6)] Q k = (
  bnP (binA .add t7 (.int .i64 1)) fun w19_1 => 
  k .normal [(7, .v w19_1), (19, .v w19_1), (18, .v t7), (0, .v t0), (3, .lp 3 0), (5, .ls 5), (6, .ls 6), (7, .v t7)] [(3, .cells [s3_0, s3_1]), (5, .own 2 l5), (6, .own 2 l6)] Q) := by kernel_rfl
theorem p_pleachref1_AddSpan_1 {β : Type} (call : CallF) (lp : PLoopF) (t0 t7 s3_0 s3_1 : AV) (l5 l6 : List AV) (Q : AHeap) (k : PK β) : evalPK call lp c_pleachref1_AddSpan_1 [(0, .v t0), (3, .lp 3 0), (5, .ls 5), (6, .ls 6), (7, .v t7)] [(3, .cells [s3_0, s3_1]), (5, .own 2 l5), (6, .own 2 l6)] Q k = (
  bnP (lenQ t0) fun w16_1 => 
  bnP (binA .lss t7 w16_1) fun w17_2 => 
  cndS w17_2 (fun _ => bnX (bnX (bnX (bnP (elQ 2 t0 t7) fun e3 => 
  bnP ((AV.cells e3)[1]?) fun w42_4 => 
  bnP (binA .add w42_4 (.int .i64 1)) fun w43_5 => 
  bnP (binA .lss w43_5 s3_0) fun w46_6 => 
  cndS w46_6 (fun _ => bnP (elQ 2 t0 t7) fun e7 => 
  bnC 2 (cut (AV.cells e7) 0 2) fun c51_8 c51_9 => 
  pinB (elOk 2 (.agg [c51_8, c51_9])) <| 
  pinB (room 16 ((l5 : List AV).length + (([.agg [c51_8, c51_9]] : List AV) : List AV).length)) <| 
  some (.normal, [(0, .v t0), (3, .lp 3 0), (5, .ls 5), (6, .ls 6), (7, .v t7)], [(3, .cells [s3_0, s3_1]), (5, .own 2 (l5 ++ ([.agg [c51_8, c51_9]] : List AV))), (6, .own 2 l6)], Q))
  (fun _ => bnP (elQ 2 t0 t7) fun e10 => 
  bnP ((AV.cells e10)[0]?) fun w59_11 => 
  bnP (binA .add s3_1 (.int .i64 1)) fun w62_12 => 
  bnP (binA .gtr w59_11 w62_12) fun w63_13 => 
  cndS w63_13 (fun _ => bnP (elQ 2 t0 t7) fun e14 => 
  bnC 2 (cut (AV.cells e14) 0 2) fun c68_15 c68_16 => 
  pinB (elOk 2 (.agg [c68_15, c68_16])) <| 
  pinB (room 16 ((l6 : List AV).length + (([.agg [c68_15, c68_16]] : List AV) : List AV).length)) <| 
  some (.normal, [(0, .v t0), (3, .lp 3 0), (5, .ls 5), (6, .ls 6), (7, .v t7)], [(3, .cells [s3_0, s3_1]), (5, .own 2 l5), (6, .own 2 (l6 ++ ([.agg [c68_15, c68_16]] : List AV)))], Q))
  (fun _ => bnP (elQ 2 t0 t7) fun e17 => 
  bnP ((AV.cells e17)[0]?) fun w26_18 => 
  bnP (mniA [s3_0, w26_18]) fun w27_19 => 
  bnP (elQ 2 t0 t7) fun e20 => 
  bnP ((AV.cells e20)[1]?) fun w34_21 => 
  bnP (mxiA [s3_1, w34_21]) fun w35_22 => 
  bnC 2 (fillP [.int .i64 0, .int .i64 0] [(0, 1, w27_19), (1, 1, w35_22)]) fun c36_23 c36_24 => 
  bnC 2 (stC 2 (.agg [c36_23, c36_24])) fun s25 s26 => 
  some (.normal, [(0, .v t0), (3, .lp 3 0), (5, .ls 5), (6, .ls 6), (7, .v t7)], [(3, .cells [s25, s26]), (5, .own 2 l5), (6, .own 2 l6)], Q))))
  (outX 2 (finC [] [] [0, 3, 5, 6, 7] [(3, 3), (5, 5), (6, 6)] ret4)))
  (outX 1 ret4))
  (goC (evalPK call lp c_pleachref1_AddSpan_0) (finC [] [] [0, 3, 5, 6, 7] [(3, 3), (5, 5), (6, 6)] k)))
  (fun _ => k (.exit 0) [(3, .lp 3 0), (5, .ls 5), (6, .ls 6)] [(3, .cells [s3_0, s3_1]), (5, .own 2 l5), (6, .own 2 l6)] Q)) := by kernel_rfl
noncomputable def L_pleachref1_AddSpan_1 (s : PSpecs) (t0 t7 s3_0 s3_1 : AV) (l5 l6 : List AV) (Q : AHeap) : Option PEnd := loopP (penv s) c_pleachref1_AddSpan_1 [(0, .v t0), (3, .lp 3 0), (5, .ls 5), (6, .ls 6), (7, .v t7)] [(3, .cells [s3_0, s3_1]), (5, .own 2 l5), (6, .own 2 l6)] Q
theorem L_pleachref1_AddSpan_1_fold (s : PSpecs) (t0 t7 s3_0 s3_1 : AV) (l5 l6 : List AV) (Q : AHeap) : loopP (penv s) c_pleachref1_AddSpan_1 [(0, .v t0), (3, .lp 3 0), (5, .ls 5), (6, .ls 6), (7, .v t7)] [(3, .cells [s3_0, s3_1]), (5, .own 2 l5), (6, .own 2 l6)] Q = L_pleachref1_AddSpan_1 s t0 t7 s3_0 s3_1 l5 l6 Q := rfl
theorem L_pleachref1_AddSpan_1_eq (s : PSpecs) (t0 t7 s3_0 s3_1 : AV) (l5 l6 : List AV) (Q : AHeap) : L_pleachref1_AddSpan_1 s t0 t7 s3_0 s3_1 l5 l6 Q = evalPK (callP (penv s)) (loopP (penv s)) c_pleachref1_AddSpan_1 [(0, .v t0), (3, .lp 3 0), (5, .ls 5), (6, .ls 6), (7, .v t7)] [(3, .cells [s3_0, s3_1]), (5, .own 2 l5), (6, .own 2 l6)] Q (goX (fun τ ω Q => loopP (penv s) c_pleachref1_AddSpan_1 τ ω Q) ret4) := loopP_body
abbrev X_pleachref1_AddSpan_1_x0 (s3_0 s3_1 : AV) (l5 l6 : List AV) (Q : AHeap) : Option PEnd := some (.exit 0, [(3, .lp 3 0), (5, .ls 5), (6, .ls 6)], [(3, .cells [s3_0, s3_1]), (5, .own 2 l5), (6, .own 2 l6)], Q)
theorem p_pleachref1_AddSpan_2 {β : Type} (call : CallF) (lp : PLoopF) (s3_0 s3_1 : AV) (l5 l6 : List AV) (Q : AHeap) (k : PK β) : evalPK call lp c_pleachref1_AddSpan_2 [(3, .lp 3 0), (5, .ls 5), (6, .ls 6)] [(3, .cells [s3_0, s3_1]), (5, .own 2 l5), (6, .own 2 l6)] Q k = (
  pinB (elOk 2 (.agg [s3_0, s3_1])) <| 
  pinB (room 16 ((l5 : List AV).length + (([.agg [s3_0, s3_1]] : List AV) : List AV).length)) <| 
  pinB (room 16 (((l5 ++ ([.agg [s3_0, s3_1]] : List AV)) : List AV).length + (l6 : List AV).length)) <| 
  k .ret [(4, .ls 5), (76, .ls 5), (75, .ls 6), (74, .v undefA), (73, .v (.fz 2 [.agg [s3_0, s3_1]])), (72, .v (.agg [s3_0, s3_1])), (71, .v undefA), (3, .lp 3 0), (5, .v undefA), (6, .ls 6)] [(5, .own 2 ((l5 ++ ([.agg [s3_0, s3_1]] : List AV)) ++ l6)), (3, .cells [s3_0, s3_1]), (6, .own 2 l6)] Q) := by kernel_rfl
theorem g_pleachref1_AddSpan {call : CallF} {lp : PLoopF} (v0 v1_0 v1_1 : AV) (Q : AHeap) : evalPK call lp c_pleachref1_AddSpan [(0, .v v0), (1, .v (.agg [v1_0, v1_1]))] [] Q (retPK [.tmp 4] [.o 2]) = (
  bnC 2 (stC 2 (.agg [v1_0, v1_1])) fun s1 s2 => 
  bnS (call 13 [.agg [s1, s2]] Q) fun w9_3 Q4 => 
  bnP (unA .not (frz w9_3)) fun w10_5 => 
  cndS w10_5 (fun _ => bnL (srcT [] 2 (.v v0)) fun l6 => 
  pinB (room 16 ((([] : List AV) : List AV).length + (l6 : List AV).length)) <| 
  some (.ow 2 (([] : List AV) ++ l6), Q4))
  (fun _ => bnX (lp c_pleachref1_AddSpan_1 [(0, .v v0), (3, .lp 3 0), (5, .ls 5), (6, .ls 6), (7, .v (.int .i64 0))] [(3, .cells [s1, s2]), (5, .own 2 ([] : List AV)), (6, .own 2 ([] : List AV))] Q4) (outX 0 (goC (evalPK call lp c_pleachref1_AddSpan_2) (retPK [.tmp 4] [.o 2]))))) := by kernel_rfl
def f_pleachref1_AddSpan {s : PSpecs} (hs : s.lookup 12 = none) (v0 v1_0 v1_1 : AV) (Q : AHeap) := (callP_fn (E := penv s) (f := 12) (fn := pf_pleachref1_AddSpan) hs rfl [v0, .agg [v1_0, v1_1]] Q rfl).trans (g_pleachref1_AddSpan (call := callP (penv s)) (lp := loopP (penv s)) v0 v1_0 v1_1 Q)
theorem g_pleachref1_MaySpan {call : CallF} {lp : PLoopF} (v0_0 v0_1 : AV) (Q : AHeap) : evalPK call lp c_pleachref1_MaySpan [(0, .v (.agg [v0_0, v0_1]))] [] Q (retPK [.tmp 2] [.n]) = (
  bnC 2 (stC 2 (.agg [v0_0, v0_1])) fun s1 s2 => 
  bnP (binA .geq s1 (.int .i64 1)) fun w5_3 => 
  bnP (gdQ w5_3 true (some s1)) fun w8_4 => 
  bnP (gdQ w5_3 true (some s2)) fun w10_5 => 
  bnP (gdQ w5_3 true (binA .leq w8_4 w10_5)) fun w11_6 => 
  bnP (pickA w5_3 w11_6 (.bool false)) fun w12_7 => 
  bnP (gdQ w12_7 true (some s2)) fun w15_8 => 
  bnP (gdQ w12_7 true (binA .leq w15_8 (.int .i64 1000000))) fun w16_9 => 
  bnP (pickA w12_7 w16_9 (.bool false)) fun w17_10 => 
  bnP (rcv false .n w17_10) fun r11 => some (r11, Q)) := by kernel_rfl
def f_pleachref1_MaySpan {s : PSpecs} (hs : s.lookup 13 = none) (v0_0 v0_1 : AV) (Q : AHeap) := (callP_fn (E := penv s) (f := 13) (fn := pf_pleachref1_MaySpan) hs rfl [.agg [v0_0, v0_1]] Q rfl).trans (g_pleachref1_MaySpan (call := callP (penv s)) (lp := loopP (penv s)) v0_0 v0_1 Q)
theorem p_span_Lacks_0 {β : Type} (call : CallF) (lp : PLoopF) (t5 t10 t11 t12 s3_0 s3_1 s7_0 s7_1 : AV) (l4 : List AV) (Q : AHeap) (k : PK β) : evalPK call lp c_span_Lacks_0 [(3, .lp 3 0), (4, .ls 4), (5, .v t5), (7, .lp 7 0), (10, .v t10), (11, .v t11), (12, .v t12)] [(3, .cells [s3_0, s3_1]), (4, .own 2 l4), (7, .cells [s7_0, s7_1])] Q k = (
  bnP (binA .add s7_1 (.int .i64 1)) fun w40_1 => 
  bnP (mxiA [t5, w40_1]) fun w41_2 => 
  k .normal [(5, .v w41_2), (41, .v w41_2), (40, .v w40_1), (39, .v s7_1), (38, .lp 7 1), (37, .v t5), (3, .lp 3 0), (4, .ls 4), (5, .v t5), (7, .lp 7 0), (10, .v t10), (11, .v t11), (12, .v t12)] [(3, .cells [s3_0, s3_1]), (4, .own 2 l4), (7, .cells [s7_0, s7_1])] Q) := by kernel_rfl
theorem p_span_Lacks_1 {β : Type} (call : CallF) (lp : PLoopF) (t5 t10 t11 t12 s3_0 s3_1 : AV) (l4 : List AV) (Q : AHeap) (k : PK β) : evalPK call lp c_span_Lacks_1 [(3, .lp 3 0), (4, .ls 4), (5, .v t5), (10, .v t10), (11, .v t11), (12, .v t12)] [(3, .cells [s3_0, s3_1]), (4, .own 2 l4)] Q k = (
  bnP (binA .add t12 (.int .i64 1)) fun w42_1 => 
  k .normal [(12, .v w42_1), (42, .v w42_1), (3, .lp 3 0), (4, .ls 4), (5, .v t5), (10, .v t10), (11, .v t11), (12, .v t12)] [(3, .cells [s3_0, s3_1]), (4, .own 2 l4)] Q) := by kernel_rfl
theorem p_span_Lacks_2 {β : Type} (call : CallF) (lp : PLoopF) (t5 t10 t11 t12 s3_0 s3_1 : AV) (l4 : List AV) (Q : AHeap) (k : PK β) : evalPK call lp c_span_Lacks_2 [(3, .lp 3 0), (4, .ls 4), (5, .v t5), (10, .v t10), (11, .v t11), (12, .v t12)] [(3, .cells [s3_0, s3_1]), (4, .own 2 l4)] Q k = (
  bnP (binA .lss t12 t11) fun w13_1 => 
  cndS w13_1 (fun _ => bnX (bnX (bnP (elQ 2 t10 t12) fun e2 => 
  bnC 2 (cut (AV.cells e2) 0 2) fun c15_3 c15_4 => 
  bnC 2 (stC 2 (.agg [c15_3, c15_4])) fun s5 s6 => 
  bnX (bnP (binA .gtr s5 t5) fun w19_7 => 
  bnP (gdQ w19_7 true (some t5)) fun w21_8 => 
  bnP (gdQ w19_7 true (some s3_1)) fun w23_9 => 
  bnP (gdQ w19_7 true (binA .leq w21_8 w23_9)) fun w24_10 => 
  bnP (pickA w19_7 w24_10 (.bool false)) fun w25_11 => 
  cndS w25_11 (fun _ => bnP (binA .sub s5 (.int .i64 1)) fun w30_12 => 
  bnP (mniA [w30_12, s3_1]) fun w33_13 => 
  bnC 2 (fillP [.int .i64 0, .int .i64 0] [(0, 1, t5), (1, 1, w33_13)]) fun c34_14 c34_15 => 
  pinB (elOk 2 (.agg [c34_14, c34_15])) <| 
  pinB (room 16 ((l4 : List AV).length + (([.agg [c34_14, c34_15]] : List AV) : List AV).length)) <| 
  some (.normal, [(3, .lp 3 0), (4, .ls 4), (5, .v t5), (7, .lp 7 0), (10, .v t10), (11, .v t11), (12, .v t12)], [(3, .cells [s3_0, s3_1]), (4, .own 2 (l4 ++ ([.agg [c34_14, c34_15]] : List AV))), (7, .cells [s5, s6])], Q))
  (fun _ => some (.normal, [(3, .lp 3 0), (4, .ls 4), (5, .v t5), (7, .lp 7 0), (10, .v t10), (11, .v t11), (12, .v t12)], [(3, .cells [s3_0, s3_1]), (4, .own 2 l4), (7, .cells [s5, s6])], Q)))
  (goC (evalPK call lp c_span_Lacks_0) (finC [] [] [3, 4, 5, 10, 11, 12] [(3, 3), (4, 4)] ret4)))
  (outX 1 ret4))
  (goC (evalPK call lp c_span_Lacks_1) (finC [] [] [3, 4, 5, 10, 11, 12] [(3, 3), (4, 4)] k)))
  (fun _ => k (.exit 0) [(3, .lp 3 0), (4, .ls 4), (5, .v t5)] [(3, .cells [s3_0, s3_1]), (4, .own 2 l4)] Q)) := by kernel_rfl
noncomputable def L_span_Lacks_2 (s : PSpecs) (t5 t10 t11 t12 s3_0 s3_1 : AV) (l4 : List AV) (Q : AHeap) : Option PEnd := loopP (penv s) c_span_Lacks_2 [(3, .lp 3 0), (4, .ls 4), (5, .v t5), (10, .v t10), (11, .v t11), (12, .v t12)] [(3, .cells [s3_0, s3_1]), (4, .own 2 l4)] Q
theorem L_span_Lacks_2_fold (s : PSpecs) (t5 t10 t11 t12 s3_0 s3_1 : AV) (l4 : List AV) (Q : AHeap) : loopP (penv s) c_span_Lacks_2 [(3, .lp 3 0), (4, .ls 4), (5, .v t5), (10, .v t10), (11, .v t11), (12, .v t12)] [(3, .cells [s3_0, s3_1]), (4, .own 2 l4)] Q = L_span_Lacks_2 s t5 t10 t11 t12 s3_0 s3_1 l4 Q := rfl
theorem L_span_Lacks_2_eq (s : PSpecs) (t5 t10 t11 t12 s3_0 s3_1 : AV) (l4 : List AV) (Q : AHeap) : L_span_Lacks_2 s t5 t10 t11 t12 s3_0 s3_1 l4 Q = evalPK (callP (penv s)) (loopP (penv s)) c_span_Lacks_2 [(3, .lp 3 0), (4, .ls 4), (5, .v t5), (10, .v t10), (11, .v t11), (12, .v t12)] [(3, .cells [s3_0, s3_1]), (4, .own 2 l4)] Q (goX (fun τ ω Q => loopP (penv s) c_span_Lacks_2 τ ω Q) ret4) := loopP_body
abbrev X_span_Lacks_2_x0 (t5 s3_0 s3_1 : AV) (l4 : List AV) (Q : AHeap) : Option PEnd := some (.exit 0, [(3, .lp 3 0), (4, .ls 4), (5, .v t5)], [(3, .cells [s3_0, s3_1]), (4, .own 2 l4)], Q)
theorem p_span_Lacks_3 {β : Type} (call : CallF) (lp : PLoopF) (l4 : List AV) (Q : AHeap) (k : PK β) : evalPK call lp c_span_Lacks_3 [(4, .ls 4)] [(4, .own 2 l4)] Q k = (
  k .ret [(4, .ls 4), (54, .ls 4), (4, .ls 4)] [(4, .own 2 l4)] Q) := by kernel_rfl
theorem p_span_Lacks_4 {β : Type} (call : CallF) (lp : PLoopF) (t5 s3_0 s3_1 : AV) (l4 : List AV) (Q : AHeap) (k : PK β) : evalPK call lp c_span_Lacks_4 [(3, .lp 3 0), (4, .ls 4), (5, .v t5)] [(3, .cells [s3_0, s3_1]), (4, .own 2 l4)] Q k = (
  bnX (bnP (binA .leq t5 s3_1) fun w46_1 => 
  cndS w46_1 (fun _ => bnC 2 (fillP [.int .i64 0, .int .i64 0] [(0, 1, t5), (1, 1, s3_1)]) fun c51_2 c51_3 => 
  pinB (elOk 2 (.agg [c51_2, c51_3])) <| 
  pinB (room 16 ((l4 : List AV).length + (([.agg [c51_2, c51_3]] : List AV) : List AV).length)) <| 
  some (.normal, [(4, .ls 4)], [(4, .own 2 (l4 ++ ([.agg [c51_2, c51_3]] : List AV)))], Q))
  (fun _ => some (.normal, [(4, .ls 4)], [(4, .own 2 l4)], Q)))
  (goC (evalPK call lp c_span_Lacks_3) k)) := by kernel_rfl
theorem g_span_Lacks {call : CallF} {lp : PLoopF} (v0 v1_0 v1_1 : AV) (Q : AHeap) : evalPK call lp c_span_Lacks [(0, .v v0), (1, .v (.agg [v1_0, v1_1]))] [] Q (retPK [.tmp 4] [.o 2]) = (
  bnC 2 (stC 2 (.agg [v1_0, v1_1])) fun s1 s2 => 
  bnP (lenQ v0) fun w11_3 => 
  bnX (lp c_span_Lacks_2 [(3, .lp 3 0), (4, .ls 4), (5, .v s1), (10, .v v0), (11, .v w11_3), (12, .v (.int .i64 0))] [(3, .cells [s1, s2]), (4, .own 2 ([] : List AV))] Q) (outX 0 (goC (evalPK call lp c_span_Lacks_4) (retPK [.tmp 4] [.o 2])))) := by kernel_rfl
def f_span_Lacks {s : PSpecs} (hs : s.lookup 14 = none) (v0 v1_0 v1_1 : AV) (Q : AHeap) := (callP_fn (E := penv s) (f := 14) (fn := pf_span_Lacks) hs rfl [v0, .agg [v1_0, v1_1]] Q rfl).trans (g_span_Lacks (call := callP (penv s)) (lp := loopP (penv s)) v0 v1_0 v1_1 Q)
theorem p_pleachref1_Lacks_0 {β : Type} (call : CallF) (lp : PLoopF) (t0 t6 s3_0 s3_1 : AV) (l5 : List AV) (Q : AHeap) (k : PK β) : evalPK call lp c_pleachref1_Lacks_0 [(0, .v t0), (3, .lp 3 0), (5, .ls 5), (6, .v t6)] [(3, .cells [s3_0, s3_1]), (5, .own 2 l5)] Q k = (
  bnP (elQ 2 t0 t6) fun e1 => 
  bnP ((AV.cells e1)[1]?) fun w62_2 => 
  bnP (binA .add w62_2 (.int .i64 1)) fun w63_3 => 
  bnC 1 (stC 1 w63_3) fun s4 => 
  k .normal [(64, .lp 3 0), (63, .v w63_3), (62, .v w62_2), (61, .fp e1 1), (60, .fp e1 0), (59, .v t6), (58, .v t0), (0, .v t0), (3, .lp 3 0), (5, .ls 5), (6, .v t6)] [(3, .cells [s4, s3_1]), (5, .own 2 l5)] Q) := by kernel_rfl
theorem p_pleachref1_Lacks_1 {β : Type} (call : CallF) (lp : PLoopF) (t0 t6 s3_0 s3_1 : AV) (l5 : List AV) (Q : AHeap) (k : PK β) : evalPK call lp c_pleachref1_Lacks_1 [(0, .v t0), (3, .lp 3 0), (5, .ls 5), (6, .v t6)] [(3, .cells [s3_0, s3_1]), (5, .own 2 l5)] Q k = (
  bnP (binA .add t6 (.int .i64 1)) fun w19_1 => 
  k .normal [(6, .v w19_1), (19, .v w19_1), (18, .v t6), (0, .v t0), (3, .lp 3 0), (5, .ls 5), (6, .v t6)] [(3, .cells [s3_0, s3_1]), (5, .own 2 l5)] Q) := by kernel_rfl
theorem p_pleachref1_Lacks_2 {β : Type} (call : CallF) (lp : PLoopF) (t0 t6 s3_0 s3_1 : AV) (l5 : List AV) (Q : AHeap) (k : PK β) : evalPK call lp c_pleachref1_Lacks_2 [(0, .v t0), (3, .lp 3 0), (5, .ls 5), (6, .v t6)] [(3, .cells [s3_0, s3_1]), (5, .own 2 l5)] Q k = (
  bnP (lenQ t0) fun w9_1 => 
  bnP (binA .lss t6 w9_1) fun w10_2 => 
  bnP (gdQ w10_2 true (some s3_0)) fun w13_3 => 
  bnP (gdQ w10_2 true (some s3_1)) fun w15_4 => 
  bnP (gdQ w10_2 true (binA .leq w13_3 w15_4)) fun w16_5 => 
  bnP (pickA w10_2 w16_5 (.bool false)) fun w17_6 => 
  cndS w17_6 (fun _ => bnX (bnX (bnP (elQ 2 t0 t6) fun e7 => 
  bnP ((AV.cells e7)[1]?) fun w24_8 => 
  bnP (binA .lss w24_8 s3_0) fun w27_9 => 
  bnP (gdQ w27_9 false (some t0)) fun w29_10 => 
  bnP (gdQ w27_9 false (some t6)) fun w30_11 => 
  bnP (gdQ w27_9 false (elQ 2 w29_10 w30_11)) fun e12 => 
  bnP (gdQ w27_9 false ((AV.cells e12)[0]?)) fun w33_13 => 
  bnP (gdQ w27_9 false (some s3_1)) fun w35_14 => 
  bnP (gdQ w27_9 false (binA .gtr w33_13 w35_14)) fun w36_15 => 
  bnP (pickA w27_9 (.bool true) w36_15) fun w37_16 => 
  cndS w37_16 (fun _ => some (.exit 1, [(0, .v t0), (3, .lp 3 0), (5, .ls 5), (6, .v t6)], [(3, .cells [s3_0, s3_1]), (5, .own 2 l5)], Q))
  (fun _ => bnX (bnP (elQ 2 t0 t6) fun e17 => 
  bnP ((AV.cells e17)[0]?) fun w42_18 => 
  bnP (binA .gtr w42_18 s3_0) fun w45_19 => 
  cndS w45_19 (fun _ => bnP (elQ 2 t0 t6) fun e20 => 
  bnP ((AV.cells e20)[0]?) fun w53_21 => 
  bnP (binA .sub w53_21 (.int .i64 1)) fun w54_22 => 
  bnC 2 (fillP [.int .i64 0, .int .i64 0] [(0, 1, s3_0), (1, 1, w54_22)]) fun c55_23 c55_24 => 
  pinB (elOk 2 (.agg [c55_23, c55_24])) <| 
  pinB (room 16 ((l5 : List AV).length + (([.agg [c55_23, c55_24]] : List AV) : List AV).length)) <| 
  some (.normal, [(0, .v t0), (3, .lp 3 0), (5, .ls 5), (6, .v t6)], [(3, .cells [s3_0, s3_1]), (5, .own 2 (l5 ++ ([.agg [c55_23, c55_24]] : List AV)))], Q))
  (fun _ => some (.normal, [(0, .v t0), (3, .lp 3 0), (5, .ls 5), (6, .v t6)], [(3, .cells [s3_0, s3_1]), (5, .own 2 l5)], Q)))
  (goC (evalPK call lp c_pleachref1_Lacks_0) (finC [] [] [0, 3, 5, 6] [(3, 3), (5, 5)] ret4))))
  (outX 1 ret4))
  (goC (evalPK call lp c_pleachref1_Lacks_1) (finC [] [] [0, 3, 5, 6] [(3, 3), (5, 5)] k)))
  (fun _ => k (.exit 0) [(3, .lp 3 0), (5, .ls 5)] [(3, .cells [s3_0, s3_1]), (5, .own 2 l5)] Q)) := by kernel_rfl
noncomputable def L_pleachref1_Lacks_2 (s : PSpecs) (t0 t6 s3_0 s3_1 : AV) (l5 : List AV) (Q : AHeap) : Option PEnd := loopP (penv s) c_pleachref1_Lacks_2 [(0, .v t0), (3, .lp 3 0), (5, .ls 5), (6, .v t6)] [(3, .cells [s3_0, s3_1]), (5, .own 2 l5)] Q
theorem L_pleachref1_Lacks_2_fold (s : PSpecs) (t0 t6 s3_0 s3_1 : AV) (l5 : List AV) (Q : AHeap) : loopP (penv s) c_pleachref1_Lacks_2 [(0, .v t0), (3, .lp 3 0), (5, .ls 5), (6, .v t6)] [(3, .cells [s3_0, s3_1]), (5, .own 2 l5)] Q = L_pleachref1_Lacks_2 s t0 t6 s3_0 s3_1 l5 Q := rfl
theorem L_pleachref1_Lacks_2_eq (s : PSpecs) (t0 t6 s3_0 s3_1 : AV) (l5 : List AV) (Q : AHeap) : L_pleachref1_Lacks_2 s t0 t6 s3_0 s3_1 l5 Q = evalPK (callP (penv s)) (loopP (penv s)) c_pleachref1_Lacks_2 [(0, .v t0), (3, .lp 3 0), (5, .ls 5), (6, .v t6)] [(3, .cells [s3_0, s3_1]), (5, .own 2 l5)] Q (goX (fun τ ω Q => loopP (penv s) c_pleachref1_Lacks_2 τ ω Q) ret4) := loopP_body
abbrev X_pleachref1_Lacks_2_x0 (s3_0 s3_1 : AV) (l5 : List AV) (Q : AHeap) : Option PEnd := some (.exit 0, [(3, .lp 3 0), (5, .ls 5)], [(3, .cells [s3_0, s3_1]), (5, .own 2 l5)], Q)
theorem p_pleachref1_Lacks_3 {β : Type} (call : CallF) (lp : PLoopF) (l5 : List AV) (Q : AHeap) (k : PK β) : evalPK call lp c_pleachref1_Lacks_3 [(5, .ls 5)] [(5, .own 2 l5)] Q k = (
  k .ret [(4, .ls 5), (74, .ls 5), (5, .ls 5)] [(5, .own 2 l5)] Q) := by kernel_rfl
theorem p_pleachref1_Lacks_4 {β : Type} (call : CallF) (lp : PLoopF) (s3_0 s3_1 : AV) (l5 : List AV) (Q : AHeap) (k : PK β) : evalPK call lp c_pleachref1_Lacks_4 [(3, .lp 3 0), (5, .ls 5)] [(3, .cells [s3_0, s3_1]), (5, .own 2 l5)] Q k = (
  bnX (bnP (binA .leq s3_0 s3_1) fun w69_1 => 
  cndS w69_1 (fun _ => pinB (elOk 2 (.agg [s3_0, s3_1])) <| 
  pinB (room 16 ((l5 : List AV).length + (([.agg [s3_0, s3_1]] : List AV) : List AV).length)) <| 
  some (.normal, [(5, .ls 5)], [(5, .own 2 (l5 ++ ([.agg [s3_0, s3_1]] : List AV)))], Q))
  (fun _ => some (.normal, [(5, .ls 5)], [(5, .own 2 l5)], Q)))
  (goC (evalPK call lp c_pleachref1_Lacks_3) k)) := by kernel_rfl
theorem g_pleachref1_Lacks {call : CallF} {lp : PLoopF} (v0 v1_0 v1_1 : AV) (Q : AHeap) : evalPK call lp c_pleachref1_Lacks [(0, .v v0), (1, .v (.agg [v1_0, v1_1]))] [] Q (retPK [.tmp 4] [.o 2]) = (
  bnC 2 (stC 2 (.agg [v1_0, v1_1])) fun s1 s2 => 
  bnX (lp c_pleachref1_Lacks_2 [(0, .v v0), (3, .lp 3 0), (5, .ls 5), (6, .v (.int .i64 0))] [(3, .cells [s1, s2]), (5, .own 2 ([] : List AV))] Q) (outX 0 (goC (evalPK call lp c_pleachref1_Lacks_4) (retPK [.tmp 4] [.o 2])))) := by kernel_rfl
def f_pleachref1_Lacks {s : PSpecs} (hs : s.lookup 15 = none) (v0 v1_0 v1_1 : AV) (Q : AHeap) := (callP_fn (E := penv s) (f := 15) (fn := pf_pleachref1_Lacks) hs rfl [v0, .agg [v1_0, v1_1]] Q rfl).trans (g_pleachref1_Lacks (call := callP (penv s)) (lp := loopP (penv s)) v0 v1_0 v1_1 Q)
theorem g_span_Has {call : CallF} {lp : PLoopF} (v0 v1 : AV) (Q : AHeap) : evalPK call lp c_span_Has [(0, .v v0), (1, .v v1)] [] Q (retPK [.tmp 4] [.n]) = (
  bnC 1 (stC 1 v1) fun s1 => 
  bnS (call 29 [v0, .fn 30 [] [.cp [s1] 0]] Q) fun w7_2 Q3 => 
  bnP (rcv false .n (frz w7_2)) fun r4 => some (r4, Q3)) := by kernel_rfl
def f_span_Has {s : PSpecs} (hs : s.lookup 16 = none) (v0 v1 : AV) (Q : AHeap) := (callP_fn (E := penv s) (f := 16) (fn := pf_span_Has) hs rfl [v0, v1] Q rfl).trans (g_span_Has (call := callP (penv s)) (lp := loopP (penv s)) v0 v1 Q)
theorem p_pleachref1_HasSpan_0 {β : Type} (call : CallF) (lp : PLoopF) (t0 t1 t5 : AV) (Q : AHeap) (k : PK β) : evalPK call lp c_pleachref1_HasSpan_0 [(0, .v t0), (1, .v t1), (5, .v t5)] [] Q k = (
  bnP (lenQ t0) fun w8_1 => 
  bnP (binA .lss t5 w8_1) fun w9_2 => 
  cndS w9_2 (fun _ => bnP (elQ 2 t0 t5) fun e3 => 
  bnP ((AV.cells e3)[0]?) fun w17_4 => 
  bnP (binA .geq t1 w17_4) fun w18_5 => 
  bnP (gdQ w18_5 true (some t1)) fun w20_6 => 
  bnP (gdQ w18_5 true (some t0)) fun w21_7 => 
  bnP (gdQ w18_5 true (some t5)) fun w22_8 => 
  bnP (gdQ w18_5 true (elQ 2 w21_7 w22_8)) fun e9 => 
  bnP (gdQ w18_5 true ((AV.cells e9)[1]?)) fun w25_10 => 
  bnP (gdQ w18_5 true (binA .leq w20_6 w25_10)) fun w26_11 => 
  bnP (pickA w18_5 w26_11 (.bool false)) fun w27_12 => 
  cndS w27_12 (fun _ => k .ret [(4, .v (.bool true))] [] Q)
  (fun _ => bnP (binA .add t5 (.int .i64 1)) fun w11_13 => 
  k .normal [(0, .v t0), (1, .v t1), (5, .v w11_13)] [] Q))
  (fun _ => k (.exit 0) [] [] Q)) := by kernel_rfl
noncomputable def L_pleachref1_HasSpan_0 (s : PSpecs) (t0 t1 t5 : AV) (Q : AHeap) : Option PEnd := loopP (penv s) c_pleachref1_HasSpan_0 [(0, .v t0), (1, .v t1), (5, .v t5)] [] Q
theorem L_pleachref1_HasSpan_0_fold (s : PSpecs) (t0 t1 t5 : AV) (Q : AHeap) : loopP (penv s) c_pleachref1_HasSpan_0 [(0, .v t0), (1, .v t1), (5, .v t5)] [] Q = L_pleachref1_HasSpan_0 s t0 t1 t5 Q := rfl
theorem L_pleachref1_HasSpan_0_eq (s : PSpecs) (t0 t1 t5 : AV) (Q : AHeap) : L_pleachref1_HasSpan_0 s t0 t1 t5 Q = evalPK (callP (penv s)) (loopP (penv s)) c_pleachref1_HasSpan_0 [(0, .v t0), (1, .v t1), (5, .v t5)] [] Q (goX (fun τ ω Q => loopP (penv s) c_pleachref1_HasSpan_0 τ ω Q) ret4) := loopP_body
abbrev X_pleachref1_HasSpan_0_x0 (Q : AHeap) : Option PEnd := some (.exit 0, [], [], Q)
abbrev X_pleachref1_HasSpan_0_ret (t4 : AV) (Q : AHeap) : Option PEnd := some (.ret, [(4, .v t4)], [], Q)
theorem p_pleachref1_HasSpan_1 {β : Type} (call : CallF) (lp : PLoopF) (Q : AHeap) (k : PK β) : evalPK call lp c_pleachref1_HasSpan_1 [] [] Q k = (
  k .ret [(4, .v (.bool false))] [] Q) := by kernel_rfl
theorem g_pleachref1_HasSpan {call : CallF} {lp : PLoopF} (v0 v1 : AV) (Q : AHeap) : evalPK call lp c_pleachref1_HasSpan [(0, .v v0), (1, .v v1)] [] Q (retPK [.tmp 4] [.n]) = (
  bnX (lp c_pleachref1_HasSpan_0 [(0, .v v0), (1, .v v1), (5, .v (.int .i64 0))] [] Q) (outX 0 (goC (evalPK call lp c_pleachref1_HasSpan_1) (retPK [.tmp 4] [.n])))) := by kernel_rfl
def f_pleachref1_HasSpan {s : PSpecs} (hs : s.lookup 17 = none) (v0 v1 : AV) (Q : AHeap) := (callP_fn (E := penv s) (f := 17) (fn := pf_pleachref1_HasSpan) hs rfl [v0, v1] Q rfl).trans (g_pleachref1_HasSpan (call := callP (penv s)) (lp := loopP (penv s)) v0 v1 Q)
theorem p_span_Count_0 {β : Type} (call : CallF) (lp : PLoopF) (t2 t5 t6 t7 : AV) (Q : AHeap) (k : PK β) : evalPK call lp c_span_Count_0 [(2, .v t2), (5, .v t5), (6, .v t6), (7, .v t7)] [] Q k = (
  bnP (binA .lss t7 t6) fun w8_1 => 
  cndS w8_1 (fun _ => bnP (elQ 2 t5 t7) fun e2 => 
  bnC 2 (cut (AV.cells e2) 0 2) fun c10_3 c10_4 => 
  bnC 2 (stC 2 (.agg [c10_3, c10_4])) fun s5 s6 => 
  bnP (binA .sub s6 s5) fun w16_7 => 
  bnP (binA .add w16_7 (.int .i64 1)) fun w17_8 => 
  bnP (binA .add t2 w17_8) fun w18_9 => 
  bnP (binA .add t7 (.int .i64 1)) fun w19_10 => 
  k .normal [(2, .v w18_9), (5, .v t5), (6, .v t6), (7, .v w19_10)] [] Q)
  (fun _ => k (.exit 0) [(2, .v t2)] [] Q)) := by kernel_rfl
noncomputable def L_span_Count_0 (s : PSpecs) (t2 t5 t6 t7 : AV) (Q : AHeap) : Option PEnd := loopP (penv s) c_span_Count_0 [(2, .v t2), (5, .v t5), (6, .v t6), (7, .v t7)] [] Q
theorem L_span_Count_0_fold (s : PSpecs) (t2 t5 t6 t7 : AV) (Q : AHeap) : loopP (penv s) c_span_Count_0 [(2, .v t2), (5, .v t5), (6, .v t6), (7, .v t7)] [] Q = L_span_Count_0 s t2 t5 t6 t7 Q := rfl
theorem L_span_Count_0_eq (s : PSpecs) (t2 t5 t6 t7 : AV) (Q : AHeap) : L_span_Count_0 s t2 t5 t6 t7 Q = evalPK (callP (penv s)) (loopP (penv s)) c_span_Count_0 [(2, .v t2), (5, .v t5), (6, .v t6), (7, .v t7)] [] Q (goX (fun τ ω Q => loopP (penv s) c_span_Count_0 τ ω Q) ret4) := loopP_body
abbrev X_span_Count_0_x0 (t2 : AV) (Q : AHeap) : Option PEnd := some (.exit 0, [(2, .v t2)], [], Q)
theorem p_span_Count_1 {β : Type} (call : CallF) (lp : PLoopF) (t2 : AV) (Q : AHeap) (k : PK β) : evalPK call lp c_span_Count_1 [(2, .v t2)] [] Q k = (
  k .ret [(2, .v t2), (20, .v t2), (2, .v t2)] [] Q) := by kernel_rfl
theorem g_span_Count {call : CallF} {lp : PLoopF} (v0 : AV) (Q : AHeap) : evalPK call lp c_span_Count [(0, .v v0)] [] Q (retPK [.tmp 2] [.n]) = (
  bnP (lenQ v0) fun w6_1 => 
  bnX (lp c_span_Count_0 [(2, .v (.int .i64 0)), (5, .v v0), (6, .v w6_1), (7, .v (.int .i64 0))] [] Q) (outX 0 (goC (evalPK call lp c_span_Count_1) (retPK [.tmp 2] [.n])))) := by kernel_rfl
def f_span_Count {s : PSpecs} (hs : s.lookup 18 = none) (v0 : AV) (Q : AHeap) := (callP_fn (E := penv s) (f := 18) (fn := pf_span_Count) hs rfl [v0] Q rfl).trans (g_span_Count (call := callP (penv s)) (lp := loopP (penv s)) v0 Q)
theorem p_span_May_0 {β : Type} (call : CallF) (lp : PLoopF) (t3 t6 t7 t8 : AV) (Q : AHeap) (k : PK β) : evalPK call lp c_span_May_0 [(3, .v t3), (6, .v t6), (7, .v t7), (8, .v t8)] [] Q k = (
  bnP (binA .lss t8 t7) fun w9_1 => 
  cndS w9_1 (fun _ => bnP (elQ 2 t6 t8) fun e2 => 
  bnC 2 (cut (AV.cells e2) 0 2) fun c11_3 c11_4 => 
  bnC 2 (stC 2 (.agg [c11_3, c11_4])) fun s5 s6 => 
  bnS (call 26 [.agg [s5, s6]] Q) fun w13_7 Q8 => 
  bnP (unA .not (frz w13_7)) fun w14_9 => 
  bnP (gdQ w14_9 false (some s5)) fun w17_10 => 
  bnP (gdQ w14_9 false (some t3)) fun w18_11 => 
  bnP (gdQ w14_9 false (binA .add w18_11 (.int .i64 2))) fun w19_12 => 
  bnP (gdQ w14_9 false (binA .lss w17_10 w19_12)) fun w20_13 => 
  bnP (pickA w14_9 (.bool true) w20_13) fun w21_14 => 
  cndS w21_14 (fun _ => k .ret [(2, .v (.bool false))] [] Q8)
  (fun _ => bnP (binA .add t8 (.int .i64 1)) fun w24_15 => 
  k .normal [(3, .v s6), (6, .v t6), (7, .v t7), (8, .v w24_15)] [] Q8))
  (fun _ => k (.exit 0) [] [] Q)) := by kernel_rfl
noncomputable def L_span_May_0 (s : PSpecs) (t3 t6 t7 t8 : AV) (Q : AHeap) : Option PEnd := loopP (penv s) c_span_May_0 [(3, .v t3), (6, .v t6), (7, .v t7), (8, .v t8)] [] Q
theorem L_span_May_0_fold (s : PSpecs) (t3 t6 t7 t8 : AV) (Q : AHeap) : loopP (penv s) c_span_May_0 [(3, .v t3), (6, .v t6), (7, .v t7), (8, .v t8)] [] Q = L_span_May_0 s t3 t6 t7 t8 Q := rfl
theorem L_span_May_0_eq (s : PSpecs) (t3 t6 t7 t8 : AV) (Q : AHeap) : L_span_May_0 s t3 t6 t7 t8 Q = evalPK (callP (penv s)) (loopP (penv s)) c_span_May_0 [(3, .v t3), (6, .v t6), (7, .v t7), (8, .v t8)] [] Q (goX (fun τ ω Q => loopP (penv s) c_span_May_0 τ ω Q) ret4) := loopP_body
abbrev X_span_May_0_x0 (Q : AHeap) : Option PEnd := some (.exit 0, [], [], Q)
abbrev X_span_May_0_ret (t2 : AV) (Q : AHeap) : Option PEnd := some (.ret, [(2, .v t2)], [], Q)
theorem p_span_May_1 {β : Type} (call : CallF) (lp : PLoopF) (Q : AHeap) (k : PK β) : evalPK call lp c_span_May_1 [] [] Q k = (
  k .ret [(2, .v (.bool true))] [] Q) := by kernel_rfl
theorem g_span_May {call : CallF} {lp : PLoopF} (v0 : AV) (Q : AHeap) : evalPK call lp c_span_May [(0, .v v0)] [] Q (retPK [.tmp 2] [.n]) = (
  bnP (lenQ v0) fun w7_1 => 
  bnX (lp c_span_May_0 [(3, .v (.int .i64 (-1))), (6, .v v0), (7, .v w7_1), (8, .v (.int .i64 0))] [] Q) (outX 0 (goC (evalPK call lp c_span_May_1) (retPK [.tmp 2] [.n])))) := by kernel_rfl
def f_span_May {s : PSpecs} (hs : s.lookup 19 = none) (v0 : AV) (Q : AHeap) := (callP_fn (E := penv s) (f := 19) (fn := pf_span_May) hs rfl [v0] Q rfl).trans (g_span_May (call := callP (penv s)) (lp := loopP (penv s)) v0 Q)
theorem p_pleachref1_MaySpans_0 {β : Type} (call : CallF) (lp : PLoopF) (t0 t3 : AV) (Q : AHeap) (k : PK β) : evalPK call lp c_pleachref1_MaySpans_0 [(0, .v t0), (3, .v t3)] [] Q k = (
  bnP (lenQ t0) fun w6_1 => 
  bnP (binA .lss t3 w6_1) fun w7_2 => 
  cndS w7_2 (fun _ => bnP (elQ 2 t0 t3) fun e3 => 
  bnC 2 (cut (AV.cells e3) 0 2) fun c13_4 c13_5 => 
  bnS (call 13 [.agg [c13_4, c13_5]] Q) fun w14_6 Q7 => 
  bnP (unA .not (frz w14_6)) fun w15_8 => 
  bnP (gdQ w15_8 false (some t3)) fun w17_9 => 
  bnP (gdQ w15_8 false (binA .gtr w17_9 (.int .i64 0))) fun w18_10 => 
  bnP (gdQ w15_8 false (some w18_10)) fun w19_11 => 
  bnP (gdQ w19_11 true (some t0)) fun w20_12 => 
  bnP (gdQ w19_11 true (some t3)) fun w21_13 => 
  bnP (gdQ w19_11 true (elQ 2 w20_12 w21_13)) fun e14 => 
  bnP (gdQ w19_11 true ((AV.cells e14)[0]?)) fun w24_15 => 
  bnP (gdQ w19_11 true (some t0)) fun w25_16 => 
  bnP (gdQ w19_11 true (some t3)) fun w26_17 => 
  bnP (gdQ w19_11 true (binA .sub w26_17 (.int .i64 1))) fun w27_18 => 
  bnP (gdQ w19_11 true (elQ 2 w25_16 w27_18)) fun e19 => 
  bnP (gdQ w19_11 true ((AV.cells e19)[1]?)) fun w30_20 => 
  bnP (gdQ w19_11 true (binA .add w30_20 (.int .i64 1))) fun w31_21 => 
  bnP (gdQ w19_11 true (binA .leq w24_15 w31_21)) fun w32_22 => 
  bnP (gdQ w15_8 false (pickA w19_11 w32_22 (.bool false))) fun w33_23 => 
  bnP (pickA w15_8 (.bool true) w33_23) fun w34_24 => 
  cndS w34_24 (fun _ => k .ret [(2, .v (.bool false))] [] Q7)
  (fun _ => bnP (binA .add t3 (.int .i64 1)) fun w9_25 => 
  k .normal [(0, .v t0), (3, .v w9_25)] [] Q7))
  (fun _ => k (.exit 0) [] [] Q)) := by kernel_rfl
noncomputable def L_pleachref1_MaySpans_0 (s : PSpecs) (t0 t3 : AV) (Q : AHeap) : Option PEnd := loopP (penv s) c_pleachref1_MaySpans_0 [(0, .v t0), (3, .v t3)] [] Q
theorem L_pleachref1_MaySpans_0_fold (s : PSpecs) (t0 t3 : AV) (Q : AHeap) : loopP (penv s) c_pleachref1_MaySpans_0 [(0, .v t0), (3, .v t3)] [] Q = L_pleachref1_MaySpans_0 s t0 t3 Q := rfl
theorem L_pleachref1_MaySpans_0_eq (s : PSpecs) (t0 t3 : AV) (Q : AHeap) : L_pleachref1_MaySpans_0 s t0 t3 Q = evalPK (callP (penv s)) (loopP (penv s)) c_pleachref1_MaySpans_0 [(0, .v t0), (3, .v t3)] [] Q (goX (fun τ ω Q => loopP (penv s) c_pleachref1_MaySpans_0 τ ω Q) ret4) := loopP_body
abbrev X_pleachref1_MaySpans_0_x0 (Q : AHeap) : Option PEnd := some (.exit 0, [], [], Q)
abbrev X_pleachref1_MaySpans_0_ret (t2 : AV) (Q : AHeap) : Option PEnd := some (.ret, [(2, .v t2)], [], Q)
theorem p_pleachref1_MaySpans_1 {β : Type} (call : CallF) (lp : PLoopF) (Q : AHeap) (k : PK β) : evalPK call lp c_pleachref1_MaySpans_1 [] [] Q k = (
  k .ret [(2, .v (.bool true))] [] Q) := by kernel_rfl
theorem g_pleachref1_MaySpans {call : CallF} {lp : PLoopF} (v0 : AV) (Q : AHeap) : evalPK call lp c_pleachref1_MaySpans [(0, .v v0)] [] Q (retPK [.tmp 2] [.n]) = (
  bnX (lp c_pleachref1_MaySpans_0 [(0, .v v0), (3, .v (.int .i64 0))] [] Q) (outX 0 (goC (evalPK call lp c_pleachref1_MaySpans_1) (retPK [.tmp 2] [.n])))) := by kernel_rfl
def f_pleachref1_MaySpans {s : PSpecs} (hs : s.lookup 20 = none) (v0 : AV) (Q : AHeap) := (callP_fn (E := penv s) (f := 20) (fn := pf_pleachref1_MaySpans) hs rfl [v0] Q rfl).trans (g_pleachref1_MaySpans (call := callP (penv s)) (lp := loopP (penv s)) v0 Q)
theorem g_span_one {call : CallF} {lp : PLoopF} (v0_0 v0_1 : AV) (Q : AHeap) : evalPK call lp c_span_one [(0, .v (.agg [v0_0, v0_1]))] [] Q (retPK [.tmp 2] [.n]) = (
  bnC 2 (stC 2 (.agg [v0_0, v0_1])) fun s1 s2 => 
  bnP (binA .geq s1 (.int .i64 1)) fun w5_3 => 
  bnP (gdQ w5_3 true (some s1)) fun w8_4 => 
  bnP (gdQ w5_3 true (some s2)) fun w10_5 => 
  bnP (gdQ w5_3 true (binA .leq w8_4 w10_5)) fun w11_6 => 
  bnP (pickA w5_3 w11_6 (.bool false)) fun w12_7 => 
  bnP (gdQ w12_7 true (some s2)) fun w15_8 => 
  bnP (gdQ w12_7 true (binA .leq w15_8 (.int .i64 1000000))) fun w16_9 => 
  bnP (pickA w12_7 w16_9 (.bool false)) fun w17_10 => 
  bnP (rcv false .n w17_10) fun r11 => some (r11, Q)) := by kernel_rfl
def f_span_one {s : PSpecs} (hs : s.lookup 26 = none) (v0_0 v0_1 : AV) (Q : AHeap) := (callP_fn (E := penv s) (f := 26) (fn := pf_span_one) hs rfl [.agg [v0_0, v0_1]] Q rfl).trans (g_span_one (call := callP (penv s)) (lp := loopP (penv s)) v0_0 v0_1 Q)
theorem g_slices_ContainsFunc_api_Span_api_Span {call : CallF} {lp : PLoopF} (v0 v1 : AV) (Q : AHeap) : evalPK call lp c_slices_ContainsFunc_api_Span_api_Span [(0, .v v0), (1, .v v1)] [] Q (retPK [.tmp 4] [.n]) = (
  bnS (call 38 [v0, v1] Q) fun w7_1 Q2 => 
  bnP (binA .geq (frz w7_1) (.int .i64 0)) fun w8_3 => 
  bnP (rcv false .n w8_3) fun r4 => some (r4, Q2)) := by kernel_rfl
def f_slices_ContainsFunc_api_Span_api_Span {s : PSpecs} (hs : s.lookup 29 = none) (v0 v1 : AV) (Q : AHeap) := (callP_fn (E := penv s) (f := 29) (fn := pf_slices_ContainsFunc_api_Span_api_Span) hs rfl [v0, v1] Q rfl).trans (g_slices_ContainsFunc_api_Span_api_Span (call := callP (penv s)) (lp := loopP (penv s)) v0 v1 Q)
theorem g_span_Has_1 {call : CallF} {lp : PLoopF} (v0_0 v0_1 v1 : AV) (Q : AHeap) : evalPK call lp c_span_Has_1 [(0, .v (.agg [v0_0, v0_1])), (1, .v v1)] [] Q (retPK [.tmp 3] [.n]) = (
  bnC 2 (stC 2 (.agg [v0_0, v0_1])) fun s1 s2 => 
  bnP (ldQ Q v1) fun w6_3 => 
  bnP (binA .leq s1 w6_3) fun w7_4 => 
  bnP (gdQ w7_4 true (ldQ Q v1)) fun w9_5 => 
  bnP (gdQ w7_4 true (some s2)) fun w11_6 => 
  bnP (gdQ w7_4 true (binA .leq w9_5 w11_6)) fun w12_7 => 
  bnP (pickA w7_4 w12_7 (.bool false)) fun w13_8 => 
  bnP (rcv false .n w13_8) fun r9 => some (r9, Q)) := by kernel_rfl
def f_span_Has_1 {s : PSpecs} (hs : s.lookup 30 = none) (v0_0 v0_1 v1 : AV) (Q : AHeap) := (callP_fn (E := penv s) (f := 30) (fn := pf_span_Has_1) hs rfl [.agg [v0_0, v0_1], v1] Q rfl).trans (g_span_Has_1 (call := callP (penv s)) (lp := loopP (penv s)) v0_0 v0_1 v1 Q)
theorem p_slices_IndexFunc_api_Span_api_Span_0 {β : Type} (call : CallF) (lp : PLoopF) (t0 t1 t7 t8 : AV) (Q : AHeap) (k : PK β) : evalPK call lp c_slices_IndexFunc_api_Span_api_Span_0 [(0, .v t0), (1, .v t1), (7, .v t7), (8, .v t8)] [] Q k = (
  bnP (binA .lss t8 t7) fun w9_1 => 
  cndS w9_1 (fun _ => bnP (elQ 2 t0 t8) fun e2 => 
  bnC 2 (cut (AV.cells e2) 0 2) fun c15_3 c15_4 => 
  bnF t1 fun f7 f7f f7c => 
  bnS (lowF call f7 (f7f ++ [.agg [c15_3, c15_4]] ++ f7c) Q) fun w16_5 Q6 => 
  cndS (frz w16_5) (fun _ => k .ret [(4, .v t8)] [] Q6)
  (fun _ => bnP (binA .add t8 (.int .i64 1)) fun w18_8 => 
  k .normal [(0, .v t0), (1, .v t1), (7, .v t7), (8, .v w18_8)] [] Q6))
  (fun _ => k (.exit 0) [] [] Q)) := by kernel_rfl
noncomputable def L_slices_IndexFunc_api_Span_api_Span_0 (s : PSpecs) (t0 t1 t7 t8 : AV) (Q : AHeap) : Option PEnd := loopP (penv s) c_slices_IndexFunc_api_Span_api_Span_0 [(0, .v t0), (1, .v t1), (7, .v t7), (8, .v t8)] [] Q
theorem L_slices_IndexFunc_api_Span_api_Span_0_fold (s : PSpecs) (t0 t1 t7 t8 : AV) (Q : AHeap) : loopP (penv s) c_slices_IndexFunc_api_Span_api_Span_0 [(0, .v t0), (1, .v t1), (7, .v t7), (8, .v t8)] [] Q = L_slices_IndexFunc_api_Span_api_Span_0 s t0 t1 t7 t8 Q := rfl
theorem L_slices_IndexFunc_api_Span_api_Span_0_eq (s : PSpecs) (t0 t1 t7 t8 : AV) (Q : AHeap) : L_slices_IndexFunc_api_Span_api_Span_0 s t0 t1 t7 t8 Q = evalPK (callP (penv s)) (loopP (penv s)) c_slices_IndexFunc_api_Span_api_Span_0 [(0, .v t0), (1, .v t1), (7, .v t7), (8, .v t8)] [] Q (goX (fun τ ω Q => loopP (penv s) c_slices_IndexFunc_api_Span_api_Span_0 τ ω Q) ret4) := loopP_body
abbrev X_slices_IndexFunc_api_Span_api_Span_0_x0 (Q : AHeap) : Option PEnd := some (.exit 0, [], [], Q)
abbrev X_slices_IndexFunc_api_Span_api_Span_0_ret (t4 : AV) (Q : AHeap) : Option PEnd := some (.ret, [(4, .v t4)], [], Q)
theorem p_slices_IndexFunc_api_Span_api_Span_1 {β : Type} (call : CallF) (lp : PLoopF) (Q : AHeap) (k : PK β) : evalPK call lp c_slices_IndexFunc_api_Span_api_Span_1 [] [] Q k = (
  k .ret [(4, .v (.int .i64 (-1)))] [] Q) := by kernel_rfl
theorem g_slices_IndexFunc_api_Span_api_Span {call : CallF} {lp : PLoopF} (v0 v1 : AV) (Q : AHeap) : evalPK call lp c_slices_IndexFunc_api_Span_api_Span [(0, .v v0), (1, .v v1)] [] Q (retPK [.tmp 4] [.n]) = (
  bnP (lenQ v0) fun w7_1 => 
  bnX (lp c_slices_IndexFunc_api_Span_api_Span_0 [(0, .v v0), (1, .v v1), (7, .v w7_1), (8, .v (.int .i64 0))] [] Q) (outX 0 (goC (evalPK call lp c_slices_IndexFunc_api_Span_api_Span_1) (retPK [.tmp 4] [.n])))) := by kernel_rfl
def f_slices_IndexFunc_api_Span_api_Span {s : PSpecs} (hs : s.lookup 38 = none) (v0 v1 : AV) (Q : AHeap) := (callP_fn (E := penv s) (f := 38) (fn := pf_slices_IndexFunc_api_Span_api_Span) hs rfl [v0, v1] Q rfl).trans (g_slices_IndexFunc_api_Span_api_Span (call := callP (penv s)) (lp := loopP (penv s)) v0 v1 Q)
end Go.Proofs.Ytcledejamnnbmaa.Ps
