/- Equations by values. Printed by mkpv.py of this repo. -/
import Derived.Test.YtccgolmdhikdoaaPnd
import Derived.Test.YtccgolmdhikdoaaPvE
namespace Go.Proofs.Ytccgolmdhikdoaa.Pn
open Go.Ab
set_option maxRecDepth 100000
set_option linter.unusedVariables false
set_option linter.unusedSimpArgs false
set_option linter.defProp false
theorem p_pleachlaw16_LogWhole_0 {β : Type} (call : CallF) (lp : PLoopF) (t0 t2 t7 t8 t9 t10 t11 : AV) (Q : AHeap) (k : PK β) : evalPK call lp c_pleachlaw16_LogWhole_0 [(0, .v t0), (2, .v t2), (7, .v t7), (8, .v t8), (9, .v t9), (10, .v t10), (11, .v t11)] [] Q k = (
  bnS (call 38 [t8, t7] Q) fun w63_1 Q2 => 
  bnP (unA .not (frz w63_1)) fun w64_3 => 
  bnP (gdQ w64_3 false (some t8)) fun w66_4 => 
  bnP (gdQ w64_3 false (some t7)) fun w67_5 => 
  bnS (gdH w64_3 false (call 39 [w66_4, w67_5] Q2) Q2) fun w68_6 Q7 => 
  bnP (gdQ w64_3 false (some t9)) fun w69_8 => 
  bnP (gdQ w64_3 false (binA .neq (frz w68_6) w69_8)) fun w70_9 => 
  bnP (pickA w64_3 (.bool true) w70_9) fun w71_10 => 
  cndS w71_10 (fun _ => k .ret [(6, .v (.bool false))] [] Q7)
  (fun _ => k .normal [(0, .v t0), (2, .v t2), (7, .v t7), (8, .v t8), (9, .v t9), (10, .v t10), (11, .v t11)] [] Q7)) := by kernel_rfl
theorem p_pleachlaw16_LogWhole_1 {β : Type} (call : CallF) (lp : PLoopF) (t0 t2 t7 t8 t9 t10 t11 : AV) (Q : AHeap) (k : PK β) : evalPK call lp c_pleachlaw16_LogWhole_1 [(0, .v t0), (2, .v t2), (7, .v t7), (8, .v t8), (9, .v t9), (10, .v t10), (11, .v t11)] [] Q k = (
  bnP (binA .add t11 (.int .i64 1)) fun w31_1 => 
  k .normal [(0, .v t0), (2, .v t2), (7, .v t7), (8, .v t8), (9, .v t9), (10, .v t10), (11, .v w31_1)] [] Q) := by kernel_rfl
theorem p_pleachlaw16_LogWhole_2 {β : Type} (call : CallF) (lp : PLoopF) (t0 t2 t7 t8 t9 t10 t11 : AV) (Q : AHeap) (k : PK β) : evalPK call lp c_pleachlaw16_LogWhole_2 [(0, .v t0), (2, .v t2), (7, .v t7), (8, .v t8), (9, .v t9), (10, .v t10), (11, .v t11)] [] Q k = (
  bnP (lenQ t0) fun w28_1 => 
  bnP (binA .lss t11 w28_1) fun w29_2 => 
  cndS w29_2 (fun _ => bnX (bnX (bnX (bnP (elQ 2 t0 t11) fun e3 => 
  bnN (idxN 2 (.int .i64 0)) fun i4 => 
  bnP ((AV.cells e3)[(0 + i4 * 1)]?) fun w36_5 => 
  bnP (binA .rem w36_5 (.int .u8 3)) fun w37_6 => 
  bnP (binA .gtr w37_6 (.int .u8 0)) fun w38_7 => 
  cndS w38_7 (fun _ => bnS (call 42 [t8, t9, .str [116]] Q) fun w41_8 Q9 => 
  bnS (mupA Q9 .i t10 t9 (.bool true)) fun _ Q10 => 
  bnP (binA .add t9 (.int .i64 1)) fun w45_11 => 
  some (.normal, [(0, .v t0), (2, .v t2), (7, .v t7), (8, .v (frz w41_8)), (9, .v w45_11), (10, .v t10), (11, .v t11)], [], Q10))
  (fun _ => bnP (elQ 2 t0 t11) fun e12 => 
  bnN (idxN 2 (.int .i64 1)) fun i13 => 
  bnP ((AV.cells e12)[(0 + i13 * 1)]?) fun w51_14 => 
  bnP (binA .rem w51_14 (.int .u8 4)) fun w52_15 => 
  bnP (cviA .i64 w52_15) fun w53_16 => 
  bnP (binA .add t9 w53_16) fun w54_17 => 
  bnS (call 44 [t8, t9, w54_17, .int .i64 2] Q) fun w58_18 Q19 => 
  bnP (binA .add w54_17 (.int .i64 1)) fun w60_20 => 
  some (.normal, [(0, .v t0), (2, .v t2), (7, .v t7), (8, .v (frz w58_18)), (9, .v w60_20), (10, .v t10), (11, .v t11)], [], Q19)))
  (goC (evalPK call lp c_pleachlaw16_LogWhole_0) ret4))
  (outX 1 ret4))
  (goC (evalPK call lp c_pleachlaw16_LogWhole_1) k))
  (fun _ => k (.exit 0) [(2, .v t2), (7, .v t7), (8, .v t8), (9, .v t9), (10, .v t10)] [] Q)) := by kernel_rfl
noncomputable def L_pleachlaw16_LogWhole_2 (s : PSpecs) (t0 t2 t7 t8 t9 t10 t11 : AV) (Q : AHeap) : Option PEnd := loopP (penv s) c_pleachlaw16_LogWhole_2 [(0, .v t0), (2, .v t2), (7, .v t7), (8, .v t8), (9, .v t9), (10, .v t10), (11, .v t11)] [] Q
theorem L_pleachlaw16_LogWhole_2_fold (s : PSpecs) (t0 t2 t7 t8 t9 t10 t11 : AV) (Q : AHeap) : loopP (penv s) c_pleachlaw16_LogWhole_2 [(0, .v t0), (2, .v t2), (7, .v t7), (8, .v t8), (9, .v t9), (10, .v t10), (11, .v t11)] [] Q = L_pleachlaw16_LogWhole_2 s t0 t2 t7 t8 t9 t10 t11 Q := rfl
theorem L_pleachlaw16_LogWhole_2_eq (s : PSpecs) (t0 t2 t7 t8 t9 t10 t11 : AV) (Q : AHeap) : L_pleachlaw16_LogWhole_2 s t0 t2 t7 t8 t9 t10 t11 Q = evalPK (callP (penv s)) (loopP (penv s)) c_pleachlaw16_LogWhole_2 [(0, .v t0), (2, .v t2), (7, .v t7), (8, .v t8), (9, .v t9), (10, .v t10), (11, .v t11)] [] Q (goX (fun τ ω Q => loopP (penv s) c_pleachlaw16_LogWhole_2 τ ω Q) ret4) := loopP_body
abbrev X_pleachlaw16_LogWhole_2_x0 (t2 t7 t8 t9 t10 : AV) (Q : AHeap) : Option PEnd := some (.exit 0, [(2, .v t2), (7, .v t7), (8, .v t8), (9, .v t9), (10, .v t10)], [], Q)
theorem p_pleachlaw16_LogWhole_3 {β : Type} (call : CallF) (lp : PLoopF) (t2 t7 t8 t9 t10 t13 t14 : AV) (Q : AHeap) (k : PK β) : evalPK call lp c_pleachlaw16_LogWhole_3 [(2, .v t2), (7, .v t7), (8, .v t8), (9, .v t9), (10, .v t10), (13, .v t13), (14, .v t14)] [] Q k = (
  bnP (binA .lss t14 (.int .i64 80)) fun w75_1 => 
  cndS w75_1 (fun _ => bnS (call 30 [t13, t14] Q) fun w80_2 Q3 => 
  bnP (binA .geq t14 t7) fun w83_4 => 
  bnP (gdQ w83_4 true (some t14)) fun w85_5 => 
  bnP (gdQ w83_4 true (some t9)) fun w86_6 => 
  bnP (gdQ w83_4 true (binA .lss w85_5 w86_6)) fun w87_7 => 
  bnP (pickA w83_4 w87_7 (.bool false)) fun w88_8 => 
  bnP (gdQ w88_8 true (some t10)) fun w90_9 => 
  bnP (gdQ w88_8 true (some t14)) fun w91_10 => 
  bnP (gdQ w88_8 true (mlkA Q3 .i (.bool false) false w90_9 w91_10)) fun w92_11 => 
  bnP (gdQ w88_8 true (unA .not w92_11)) fun w93_12 => 
  bnP (pickA w88_8 w93_12 (.bool false)) fun w94_13 => 
  bnP (eqsA true .b (frz w80_2) w94_13) fun w95_14 => 
  cndS w95_14 (fun _ => k .ret [(6, .v (.bool false))] [] Q3)
  (fun _ => bnP (binA .add t14 (.int .i64 1)) fun w77_15 => 
  k .normal [(2, .v t2), (7, .v t7), (8, .v t8), (9, .v t9), (10, .v t10), (13, .v t13), (14, .v w77_15)] [] Q3))
  (fun _ => k (.exit 2) [(2, .v t2), (7, .v t7), (8, .v t8), (9, .v t9), (13, .v t13)] [] Q)) := by kernel_rfl
noncomputable def L_pleachlaw16_LogWhole_3 (s : PSpecs) (t2 t7 t8 t9 t10 t13 t14 : AV) (Q : AHeap) : Option PEnd := loopP (penv s) c_pleachlaw16_LogWhole_3 [(2, .v t2), (7, .v t7), (8, .v t8), (9, .v t9), (10, .v t10), (13, .v t13), (14, .v t14)] [] Q
theorem L_pleachlaw16_LogWhole_3_fold (s : PSpecs) (t2 t7 t8 t9 t10 t13 t14 : AV) (Q : AHeap) : loopP (penv s) c_pleachlaw16_LogWhole_3 [(2, .v t2), (7, .v t7), (8, .v t8), (9, .v t9), (10, .v t10), (13, .v t13), (14, .v t14)] [] Q = L_pleachlaw16_LogWhole_3 s t2 t7 t8 t9 t10 t13 t14 Q := rfl
theorem L_pleachlaw16_LogWhole_3_eq (s : PSpecs) (t2 t7 t8 t9 t10 t13 t14 : AV) (Q : AHeap) : L_pleachlaw16_LogWhole_3 s t2 t7 t8 t9 t10 t13 t14 Q = evalPK (callP (penv s)) (loopP (penv s)) c_pleachlaw16_LogWhole_3 [(2, .v t2), (7, .v t7), (8, .v t8), (9, .v t9), (10, .v t10), (13, .v t13), (14, .v t14)] [] Q (goX (fun τ ω Q => loopP (penv s) c_pleachlaw16_LogWhole_3 τ ω Q) ret4) := loopP_body
abbrev X_pleachlaw16_LogWhole_3_x2 (t2 t7 t8 t9 t13 : AV) (Q : AHeap) : Option PEnd := some (.exit 2, [(2, .v t2), (7, .v t7), (8, .v t8), (9, .v t9), (13, .v t13)], [], Q)
theorem p_pleachlaw16_LogWhole_4 {β : Type} (call : CallF) (lp : PLoopF) (t2 t7 t8 t9 t13 : AV) (Q : AHeap) (k : PK β) : evalPK call lp c_pleachlaw16_LogWhole_4 [(2, .v t2), (7, .v t7), (8, .v t8), (9, .v t9), (13, .v t13)] [] Q k = (
  bnS (call 33 [t13] Q) fun w97_1 Q2 => 
  bnP (gdQ (frz w97_1) true (some t8)) fun w99_3 => 
  bnP (gdQ (frz w97_1) true (some t9)) fun w100_4 => 
  bnP (gdQ (frz w97_1) true (binA .add w100_4 (.int .i64 1))) fun w101_5 => 
  bnP (gdQ (frz w97_1) true (some t2)) fun w102_6 => 
  bnP (gdQ (frz w97_1) true (binA .rem w102_6 (.int .u8 5))) fun w103_7 => 
  bnP (gdQ (frz w97_1) true (cviA .i64 w103_7)) fun w104_8 => 
  bnP (gdQ (frz w97_1) true (binA .add w101_5 w104_8)) fun w105_9 => 
  bnS (gdH (frz w97_1) true (call 42 [w99_3, w105_9, .str [116]] Q2) Q2) fun w106_10 Q11 => 
  bnP (gdQ (frz w97_1) true (some t7)) fun w107_12 => 
  bnS (gdH (frz w97_1) true (call 38 [(frz w106_10), w107_12] Q11) Q11) fun w108_13 Q14 => 
  bnP (gdQ (frz w97_1) true (unA .not (frz w108_13))) fun w109_15 => 
  bnP (pickA (frz w97_1) w109_15 (.bool false)) fun w110_16 => 
  bnP (gdQ w110_16 true (some t8)) fun w112_17 => 
  bnP (gdQ w110_16 true (some t7)) fun w113_18 => 
  bnP (gdQ w110_16 true (binA .add w113_18 (.int .i64 1))) fun w114_19 => 
  bnS (gdH w110_16 true (call 38 [w112_17, w114_19] Q14) Q14) fun w115_20 Q21 => 
  bnP (gdQ w110_16 true (unA .not (frz w115_20))) fun w116_22 => 
  bnP (gdQ w110_16 true (some t8)) fun w117_23 => 
  bnP (gdQ w110_16 true (lenQ w117_23)) fun w118_24 => 
  bnP (gdQ w110_16 true (binA .gtr w118_24 (.int .i64 0))) fun w119_25 => 
  bnP (gdQ w110_16 true (eqsA false .b w116_22 w119_25)) fun w120_26 => 
  bnP (pickA w110_16 w120_26 (.bool false)) fun w121_27 => 
  k .ret [(6, .v w121_27), (121, .v w121_27), (120, .v w120_26), (119, .v w119_25), (118, .v w118_24), (117, .v w117_23), (116, .v w116_22), (115, .v (frz w115_20)), (114, .v w114_19), (113, .v w113_18), (112, .v w112_17), (111, .v w110_16), (110, .v w110_16), (109, .v w109_15), (108, .v (frz w108_13)), (107, .v w107_12), (106, .v (frz w106_10)), (105, .v w105_9), (104, .v w104_8), (103, .v w103_7), (102, .v w102_6), (101, .v w101_5), (100, .v w100_4), (99, .v w99_3), (98, .v (frz w97_1)), (97, .v (frz w97_1)), (96, .v t13), (2, .v t2), (7, .v t7), (8, .v t8), (9, .v t9), (13, .v t13)] [] Q21) := by kernel_rfl
theorem p_pleachlaw16_LogWhole_5 {β : Type} (call : CallF) (lp : PLoopF) (t2 t7 t8 t9 t10 : AV) (Q : AHeap) (k : PK β) : evalPK call lp c_pleachlaw16_LogWhole_5 [(2, .v t2), (7, .v t7), (8, .v t8), (9, .v t9), (10, .v t10)] [] Q k = (
  bnS (call 40 [t8] Q) fun w73_1 Q2 => 
  bnX (lp c_pleachlaw16_LogWhole_3 [(2, .v t2), (7, .v t7), (8, .v t8), (9, .v t9), (10, .v t10), (13, .v (frz w73_1)), (14, .v (.int .i64 0))] [] Q2) (outX 2 (goC (evalPK call lp c_pleachlaw16_LogWhole_4) k))) := by kernel_rfl
theorem g_pleachlaw16_LogWhole {call : CallF} {lp : PLoopF} (v0 v1 v2 : AV) (Q : AHeap) : evalPK call lp c_pleachlaw16_LogWhole [(0, .v v0), (1, .v v1), (2, .v v2)] [] Q (retPK [.tmp 6] [.n]) = (
  bnS (call 36 [] Q) fun w15_1 Q2 => 
  bnP (unA .not (frz w15_1)) fun w16_3 => 
  cndS w16_3 (fun _ => some (.bool false, Q2))
  (fun _ => bnP (lenQ v0) fun w18_4 => 
  bnP (binA .gtr w18_4 (.int .i64 15)) fun w19_5 => 
  cndS w19_5 (fun _ => some (.bool true, Q2))
  (fun _ => bnP (binA .rem v1 (.int .u8 9)) fun w21_6 => 
  bnP (cviA .i64 w21_6) fun w22_7 => 
  bnP (binA .add (.int .i64 1) w22_7) fun w23_8 => 
  bnX (lp c_pleachlaw16_LogWhole_2 [(0, .v v0), (2, .v v2), (7, .v w23_8), (8, .v .nils), (9, .v w23_8), (10, .v (.mp Q2.size)), (11, .v (.int .i64 0))] [] (Q2.push (some (.mapo [])))) (outX 0 (goC (evalPK call lp c_pleachlaw16_LogWhole_5) (retPK [.tmp 6] [.n])))))) := by kernel_rfl
def f_pleachlaw16_LogWhole {s : PSpecs} (hs : s.lookup 9 = none) (v0 v1 v2 : AV) (Q : AHeap) := (callP_fn (E := penv s) (f := 9) (fn := pf_pleachlaw16_LogWhole) hs rfl [v0, v1, v2] Q rfl).trans (g_pleachlaw16_LogWhole (call := callP (penv s)) (lp := loopP (penv s)) v0 v1 v2 Q)
theorem p_pleachref1_HasSpan_0 {β : Type} (call : CallF) (lp : PLoopF) (t0 t1 t5 : AV) (Q : AHeap) (k : PK β) : evalPK call lp c_pleachref1_HasSpan_0 [(0, .v t0), (1, .v t1), (5, .v t5)] [] Q k = (
  bnP (lenQ t0) fun w8_1 => 
  bnP (binA .lss t5 w8_1) fun w9_2 => 
  cndS w9_2 (fun _ => bnP (elQ 2 t0 t5) fun e3 => 
  bnP ((AV.cells e3)[0]?) fun w17_4 => 
  bnP (binA .geq t1 w17_4) fun w18_5 => 
  bnP (gdQ w18_5 true (some t1)) fun w20_6 => 
  bnP (gdQ w18_5 true (some t0)) fun w21_7 => 
  bnP (gdQ w18_5 true (some t5)) fun w22_8 => 
  bnP (gdQ w18_5 true (elQ 2 w21_7 w22_8)) fun e9 => 
  bnP (gdQ w18_5 true ((AV.cells e9)[1]?)) fun w25_10 => 
  bnP (gdQ w18_5 true (binA .leq w20_6 w25_10)) fun w26_11 => 
  bnP (pickA w18_5 w26_11 (.bool false)) fun w27_12 => 
  cndS w27_12 (fun _ => k .ret [(4, .v (.bool true))] [] Q)
  (fun _ => bnP (binA .add t5 (.int .i64 1)) fun w11_13 => 
  k .normal [(0, .v t0), (1, .v t1), (5, .v w11_13)] [] Q))
  (fun _ => k (.exit 0) [] [] Q)) := by kernel_rfl
noncomputable def L_pleachref1_HasSpan_0 (s : PSpecs) (t0 t1 t5 : AV) (Q : AHeap) : Option PEnd := loopP (penv s) c_pleachref1_HasSpan_0 [(0, .v t0), (1, .v t1), (5, .v t5)] [] Q
theorem L_pleachref1_HasSpan_0_fold (s : PSpecs) (t0 t1 t5 : AV) (Q : AHeap) : loopP (penv s) c_pleachref1_HasSpan_0 [(0, .v t0), (1, .v t1), (5, .v t5)] [] Q = L_pleachref1_HasSpan_0 s t0 t1 t5 Q := rfl
theorem L_pleachref1_HasSpan_0_eq (s : PSpecs) (t0 t1 t5 : AV) (Q : AHeap) : L_pleachref1_HasSpan_0 s t0 t1 t5 Q = evalPK (callP (penv s)) (loopP (penv s)) c_pleachref1_HasSpan_0 [(0, .v t0), (1, .v t1), (5, .v t5)] [] Q (goX (fun τ ω Q => loopP (penv s) c_pleachref1_HasSpan_0 τ ω Q) ret4) := loopP_body
abbrev X_pleachref1_HasSpan_0_x0 (Q : AHeap) : Option PEnd := some (.exit 0, [], [], Q)
abbrev X_pleachref1_HasSpan_0_ret (t4 : AV) (Q : AHeap) : Option PEnd := some (.ret, [(4, .v t4)], [], Q)
theorem p_pleachref1_HasSpan_1 {β : Type} (call : CallF) (lp : PLoopF) (Q : AHeap) (k : PK β) : evalPK call lp c_pleachref1_HasSpan_1 [] [] Q k = (
  k .ret [(4, .v (.bool false))] [] Q) := by kernel_rfl
theorem g_pleachref1_HasSpan {call : CallF} {lp : PLoopF} (v0 v1 : AV) (Q : AHeap) : evalPK call lp c_pleachref1_HasSpan [(0, .v v0), (1, .v v1)] [] Q (retPK [.tmp 4] [.n]) = (
  bnX (lp c_pleachref1_HasSpan_0 [(0, .v v0), (1, .v v1), (5, .v (.int .i64 0))] [] Q) (outX 0 (goC (evalPK call lp c_pleachref1_HasSpan_1) (retPK [.tmp 4] [.n])))) := by kernel_rfl
def f_pleachref1_HasSpan {s : PSpecs} (hs : s.lookup 30 = none) (v0 v1 : AV) (Q : AHeap) := (callP_fn (E := penv s) (f := 30) (fn := pf_pleachref1_HasSpan) hs rfl [v0, v1] Q rfl).trans (g_pleachref1_HasSpan (call := callP (penv s)) (lp := loopP (penv s)) v0 v1 Q)
theorem p_pleachref1_MaySpans_0 {β : Type} (call : CallF) (lp : PLoopF) (t0 t3 : AV) (Q : AHeap) (k : PK β) : evalPK call lp c_pleachref1_MaySpans_0 [(0, .v t0), (3, .v t3)] [] Q k = (
  bnP (lenQ t0) fun w6_1 => 
  bnP (binA .lss t3 w6_1) fun w7_2 => 
  cndS w7_2 (fun _ => bnP (elQ 2 t0 t3) fun e3 => 
  bnC 2 (cut (AV.cells e3) 0 2) fun c13_4 c13_5 => 
  bnS (call 70 [.agg [c13_4, c13_5]] Q) fun w14_6 Q7 => 
  bnP (unA .not (frz w14_6)) fun w15_8 => 
  bnP (gdQ w15_8 false (some t3)) fun w17_9 => 
  bnP (gdQ w15_8 false (binA .gtr w17_9 (.int .i64 0))) fun w18_10 => 
  bnP (gdQ w15_8 false (some w18_10)) fun w19_11 => 
  bnP (gdQ w19_11 true (some t0)) fun w20_12 => 
  bnP (gdQ w19_11 true (some t3)) fun w21_13 => 
  bnP (gdQ w19_11 true (elQ 2 w20_12 w21_13)) fun e14 => 
  bnP (gdQ w19_11 true ((AV.cells e14)[0]?)) fun w24_15 => 
  bnP (gdQ w19_11 true (some t0)) fun w25_16 => 
  bnP (gdQ w19_11 true (some t3)) fun w26_17 => 
  bnP (gdQ w19_11 true (binA .sub w26_17 (.int .i64 1))) fun w27_18 => 
  bnP (gdQ w19_11 true (elQ 2 w25_16 w27_18)) fun e19 => 
  bnP (gdQ w19_11 true ((AV.cells e19)[1]?)) fun w30_20 => 
  bnP (gdQ w19_11 true (binA .add w30_20 (.int .i64 1))) fun w31_21 => 
  bnP (gdQ w19_11 true (binA .leq w24_15 w31_21)) fun w32_22 => 
  bnP (gdQ w15_8 false (pickA w19_11 w32_22 (.bool false))) fun w33_23 => 
  bnP (pickA w15_8 (.bool true) w33_23) fun w34_24 => 
  cndS w34_24 (fun _ => k .ret [(2, .v (.bool false))] [] Q7)
  (fun _ => bnP (binA .add t3 (.int .i64 1)) fun w9_25 => 
  k .normal [(0, .v t0), (3, .v w9_25)] [] Q7))
  (fun _ => k (.exit 0) [] [] Q)) := by kernel_rfl
noncomputable def L_pleachref1_MaySpans_0 (s : PSpecs) (t0 t3 : AV) (Q : AHeap) : Option PEnd := loopP (penv s) c_pleachref1_MaySpans_0 [(0, .v t0), (3, .v t3)] [] Q
theorem L_pleachref1_MaySpans_0_fold (s : PSpecs) (t0 t3 : AV) (Q : AHeap) : loopP (penv s) c_pleachref1_MaySpans_0 [(0, .v t0), (3, .v t3)] [] Q = L_pleachref1_MaySpans_0 s t0 t3 Q := rfl
theorem L_pleachref1_MaySpans_0_eq (s : PSpecs) (t0 t3 : AV) (Q : AHeap) : L_pleachref1_MaySpans_0 s t0 t3 Q = evalPK (callP (penv s)) (loopP (penv s)) c_pleachref1_MaySpans_0 [(0, .v t0), (3, .v t3)] [] Q (goX (fun τ ω Q => loopP (penv s) c_pleachref1_MaySpans_0 τ ω Q) ret4) := loopP_body
abbrev X_pleachref1_MaySpans_0_x0 (Q : AHeap) : Option PEnd := some (.exit 0, [], [], Q)
abbrev X_pleachref1_MaySpans_0_ret (t2 : AV) (Q : AHeap) : Option PEnd := some (.ret, [(2, .v t2)], [], Q)
theorem p_pleachref1_MaySpans_1 {β : Type} (call : CallF) (lp : PLoopF) (Q : AHeap) (k : PK β) : evalPK call lp c_pleachref1_MaySpans_1 [] [] Q k = (
  k .ret [(2, .v (.bool true))] [] Q) := by kernel_rfl
theorem g_pleachref1_MaySpans {call : CallF} {lp : PLoopF} (v0 : AV) (Q : AHeap) : evalPK call lp c_pleachref1_MaySpans [(0, .v v0)] [] Q (retPK [.tmp 2] [.n]) = (
  bnX (lp c_pleachref1_MaySpans_0 [(0, .v v0), (3, .v (.int .i64 0))] [] Q) (outX 0 (goC (evalPK call lp c_pleachref1_MaySpans_1) (retPK [.tmp 2] [.n])))) := by kernel_rfl
def f_pleachref1_MaySpans {s : PSpecs} (hs : s.lookup 33 = none) (v0 : AV) (Q : AHeap) := (callP_fn (E := penv s) (f := 33) (fn := pf_pleachref1_MaySpans) hs rfl [v0] Q rfl).trans (g_pleachref1_MaySpans (call := callP (penv s)) (lp := loopP (penv s)) v0 Q)
theorem p_log_May_0 {β : Type} (call : CallF) (lp : PLoopF) (t1 t10 t11 t12 : AV) (Q : AHeap) (k : PK β) : evalPK call lp c_log_May_0 [(1, .v t1), (10, .v t10), (11, .v t11), (12, .v t12)] [] Q k = (
  bnP (binA .lss t12 t11) fun w13_1 => 
  cndS w13_1 (fun _ => bnP (elQ 5 t10 t12) fun e2 => 
  bnC 5 (cut (AV.cells e2) 0 5) fun c15_3 c15_4 c15_5 c15_6 c15_7 => 
  bnC 5 (stC 5 (.agg [c15_3, c15_4, c15_5, c15_6, c15_7])) fun s8 s9 s10 s11 s12 => 
  bnS (call 72 [.agg [s8, s9, s10, s11, s12]] Q) fun w17_13 Q14 => 
  bnP (eqnQ false 1 (frz w17_13)) fun w19_15 => 
  bnP (gdQ w19_15 false (some s9)) fun w22_16 => 
  bnP (gdQ w19_15 false (some t1)) fun w23_17 => 
  bnP (gdQ w19_15 false (binA .neq w22_16 w23_17)) fun w24_18 => 
  bnP (pickA w19_15 (.bool true) w24_18) fun w25_19 => 
  bnP (gdQ w25_19 false (some (frz w17_13))) fun w27_20 => 
  bnP (gdQ w25_19 false (some (.agg [s8, s9, s10, s11, s12]))) fun w28_21 => 
  bnS (gdH w25_19 false (invA (lowF call) [(115, 122), (132, 123)] w27_20 [w28_21] Q14) Q14) fun w29_22 Q23 => 
  bnP (gdQ w25_19 false (unA .not (frz w29_22))) fun w30_24 => 
  bnP (pickA w25_19 (.bool true) w30_24) fun w31_25 => 
  bnP (gdQ w31_25 false (some s10)) fun w34_26 => 
  bnP (gdQ w31_25 false (binA .gtr w34_26 (.int .i64 1000000))) fun w35_27 => 
  bnP (pickA w31_25 (.bool true) w35_27) fun w36_28 => 
  cndS w36_28 (fun _ => k .ret [(4, .v (.bool false))] [] Q23)
  (fun _ => bnP (binA .add s10 (.int .i64 1)) fun w39_29 => 
  bnP (binA .add t12 (.int .i64 1)) fun w40_30 => 
  k .normal [(1, .v w39_29), (10, .v t10), (11, .v t11), (12, .v w40_30)] [] Q23))
  (fun _ => k (.exit 0) [] [] Q)) := by kernel_rfl
noncomputable def L_log_May_0 (s : PSpecs) (t1 t10 t11 t12 : AV) (Q : AHeap) : Option PEnd := loopP (penv s) c_log_May_0 [(1, .v t1), (10, .v t10), (11, .v t11), (12, .v t12)] [] Q
theorem L_log_May_0_fold (s : PSpecs) (t1 t10 t11 t12 : AV) (Q : AHeap) : loopP (penv s) c_log_May_0 [(1, .v t1), (10, .v t10), (11, .v t11), (12, .v t12)] [] Q = L_log_May_0 s t1 t10 t11 t12 Q := rfl
theorem L_log_May_0_eq (s : PSpecs) (t1 t10 t11 t12 : AV) (Q : AHeap) : L_log_May_0 s t1 t10 t11 t12 Q = evalPK (callP (penv s)) (loopP (penv s)) c_log_May_0 [(1, .v t1), (10, .v t10), (11, .v t11), (12, .v t12)] [] Q (goX (fun τ ω Q => loopP (penv s) c_log_May_0 τ ω Q) ret4) := loopP_body
abbrev X_log_May_0_x0 (Q : AHeap) : Option PEnd := some (.exit 0, [], [], Q)
abbrev X_log_May_0_ret (t4 : AV) (Q : AHeap) : Option PEnd := some (.ret, [(4, .v t4)], [], Q)
theorem p_log_May_1 {β : Type} (call : CallF) (lp : PLoopF) (Q : AHeap) (k : PK β) : evalPK call lp c_log_May_1 [] [] Q k = (
  k .ret [(4, .v (.bool true))] [] Q) := by kernel_rfl
theorem g_log_May {call : CallF} {lp : PLoopF} (v0 v1 : AV) (Q : AHeap) : evalPK call lp c_log_May [(0, .v v0), (1, .v v1)] [] Q (retPK [.tmp 4] [.n]) = (
  bnP (binA .lss v1 (.int .i64 1)) fun w9_1 => 
  cndS w9_1 (fun _ => some (.bool false, Q))
  (fun _ => bnP (lenQ v0) fun w11_2 => 
  bnX (lp c_log_May_0 [(1, .v v1), (10, .v v0), (11, .v w11_2), (12, .v (.int .i64 0))] [] Q) (outX 0 (goC (evalPK call lp c_log_May_1) (retPK [.tmp 4] [.n]))))) := by kernel_rfl
def f_log_May {s : PSpecs} (hs : s.lookup 38 = none) (v0 v1 : AV) (Q : AHeap) := (callP_fn (E := penv s) (f := 38) (fn := pf_log_May) hs rfl [v0, v1] Q rfl).trans (g_log_May (call := callP (penv s)) (lp := loopP (penv s)) v0 v1 Q)
theorem g_log_Next {call : CallF} {lp : PLoopF} (v0 v1 : AV) (Q : AHeap) : evalPK call lp c_log_Next [(0, .v v0), (1, .v v1)] [] Q (retPK [.tmp 4] [.n]) = (
  bnP (lenQ v0) fun w6_1 => 
  bnP (binA .eql w6_1 (.int .i64 0)) fun w7_2 => 
  cndS w7_2 (fun _ => bnP (rcv false .n v1) fun r3 => some (r3, Q))
  (fun _ => bnP (lenQ v0) fun w11_4 => 
  bnP (binA .sub w11_4 (.int .i64 1)) fun w12_5 => 
  bnP (elQ 5 v0 w12_5) fun e6 => 
  bnP ((AV.cells e6)[2]?) fun w15_7 => 
  bnP (binA .add w15_7 (.int .i64 1)) fun w16_8 => 
  bnP (rcv false .n w16_8) fun r9 => some (r9, Q))) := by kernel_rfl
def f_log_Next {s : PSpecs} (hs : s.lookup 39 = none) (v0 v1 : AV) (Q : AHeap) := (callP_fn (E := penv s) (f := 39) (fn := pf_log_Next) hs rfl [v0, v1] Q rfl).trans (g_log_Next (call := callP (penv s)) (lp := loopP (penv s)) v0 v1 Q)
theorem p_log_Gaps_0 {β : Type} (call : CallF) (lp : PLoopF) (t7 t8 t9 : AV) (l2 : List AV) (Q : AHeap) (k : PK β) : evalPK call lp c_log_Gaps_0 [(2, .ls 2), (7, .v t7), (8, .v t8), (9, .v t9)] [(2, .own 2 l2)] Q k = (
  bnP (binA .add t9 (.int .i64 1)) fun w27_1 => 
  k .normal [(2, .ls 2), (7, .v t7), (8, .v t8), (9, .v w27_1)] [(2, .own 2 l2)] Q) := by kernel_rfl
theorem p_log_Gaps_1 {β : Type} (call : CallF) (lp : PLoopF) (t7 t8 t9 : AV) (l2 : List AV) (Q : AHeap) (k : PK β) : evalPK call lp c_log_Gaps_1 [(2, .ls 2), (7, .v t7), (8, .v t8), (9, .v t9)] [(2, .own 2 l2)] Q k = (
  bnP (binA .lss t9 t8) fun w10_1 => 
  cndS w10_1 (fun _ => bnX (bnX (bnP (elQ 5 t7 t9) fun e2 => 
  bnC 5 (cut (AV.cells e2) 0 5) fun c12_3 c12_4 c12_5 c12_6 c12_7 => 
  bnC 5 (stC 5 (.agg [c12_3, c12_4, c12_5, c12_6, c12_7])) fun s8 s9 s10 s11 s12 => 
  bnS (call 72 [.agg [s8, s9, s10, s11, s12]] Q) fun w15_13 Q14 => 
  bnP (tasP 115 (.agg []) true (frz w15_13)) fun w16_15 => 
  bnP (extA w16_15 0) fun w17_16 => 
  bnP (extA w16_15 1) fun w18_17 => 
  bnC 0 (stC 0 w17_16) <| 
  cndS w18_17 (fun _ => bnC 2 (fillP [.int .i64 0, .int .i64 0] [(0, 1, s9), (1, 1, s10)]) fun c25_18 c25_19 => 
  bnS (call 73 [(.fz 2 l2), .agg [c25_18, c25_19]] Q14) fun w26_20 Q21 => bnL (owZ 2 w26_20) fun l22 => 
  some (.normal, [(2, .ls 2), (7, .v t7), (8, .v t8), (9, .v t9)], [(2, .own 2 l22)], Q21))
  (fun _ => some (.normal, [(2, .ls 2), (7, .v t7), (8, .v t8), (9, .v t9)], [(2, .own 2 l2)], Q14)))
  (outX 1 ret4))
  (goC (evalPK call lp c_log_Gaps_0) k))
  (fun _ => k (.exit 0) [(2, .ls 2)] [(2, .own 2 l2)] Q)) := by kernel_rfl
noncomputable def L_log_Gaps_1 (s : PSpecs) (t7 t8 t9 : AV) (l2 : List AV) (Q : AHeap) : Option PEnd := loopP (penv s) c_log_Gaps_1 [(2, .ls 2), (7, .v t7), (8, .v t8), (9, .v t9)] [(2, .own 2 l2)] Q
theorem L_log_Gaps_1_fold (s : PSpecs) (t7 t8 t9 : AV) (l2 : List AV) (Q : AHeap) : loopP (penv s) c_log_Gaps_1 [(2, .ls 2), (7, .v t7), (8, .v t8), (9, .v t9)] [(2, .own 2 l2)] Q = L_log_Gaps_1 s t7 t8 t9 l2 Q := rfl
theorem L_log_Gaps_1_eq (s : PSpecs) (t7 t8 t9 : AV) (l2 : List AV) (Q : AHeap) : L_log_Gaps_1 s t7 t8 t9 l2 Q = evalPK (callP (penv s)) (loopP (penv s)) c_log_Gaps_1 [(2, .ls 2), (7, .v t7), (8, .v t8), (9, .v t9)] [(2, .own 2 l2)] Q (goX (fun τ ω Q => loopP (penv s) c_log_Gaps_1 τ ω Q) ret4) := loopP_body
abbrev X_log_Gaps_1_x0 (l2 : List AV) (Q : AHeap) : Option PEnd := some (.exit 0, [(2, .ls 2)], [(2, .own 2 l2)], Q)
theorem p_log_Gaps_2 {β : Type} (call : CallF) (lp : PLoopF) (l2 : List AV) (Q : AHeap) (k : PK β) : evalPK call lp c_log_Gaps_2 [(2, .ls 2)] [(2, .own 2 l2)] Q k = (
  k .ret [(2, .ls 2), (28, .ls 2), (2, .ls 2)] [(2, .own 2 l2)] Q) := by kernel_rfl
theorem g_log_Gaps {call : CallF} {lp : PLoopF} (v0 : AV) (Q : AHeap) : evalPK call lp c_log_Gaps [(0, .v v0)] [] Q (retPK [.tmp 2] [.o 2]) = (
  bnP (lenQ v0) fun w8_1 => 
  bnX (lp c_log_Gaps_1 [(2, .ls 2), (7, .v v0), (8, .v w8_1), (9, .v (.int .i64 0))] [(2, .own 2 ([] : List AV))] Q) (outX 0 (goC (evalPK call lp c_log_Gaps_2) (retPK [.tmp 2] [.o 2])))) := by kernel_rfl
def f_log_Gaps {s : PSpecs} (hs : s.lookup 40 = none) (v0 : AV) (Q : AHeap) := (callP_fn (E := penv s) (f := 40) (fn := pf_log_Gaps) hs rfl [v0] Q rfl).trans (g_log_Gaps (call := callP (penv s)) (lp := loopP (penv s)) v0 Q)
theorem g_log_Tell {call : CallF} {lp : PLoopF} (v0 v1 v2 : AV) (Q : AHeap) : evalPK call lp c_log_Tell [(0, .v v0), (1, .v v1), (2, .v v2)] [] Q (retPK [.tmp 6] [.o 5]) = (
  bnS (call 74 [v0] Q) fun w8_1 Q2 => bnL (owZ 5 w8_1) fun l3 => 
  bnC 5 (fillP [.int .i64 0, .int .i64 0, .int .i64 0, .str [], .int .i64 0] [(0, 1, .int .i64 1), (1, 1, v1), (2, 1, v1), (3, 1, v2)]) fun c12_4 c12_5 c12_6 c12_7 c12_8 => 
  pinB (elOk 5 (.agg [c12_4, c12_5, c12_6, c12_7, c12_8])) <| 
  pinB (room 48 ((l3 : List AV).length + (([.agg [c12_4, c12_5, c12_6, c12_7, c12_8]] : List AV) : List AV).length)) <| 
  some (.ow 5 (l3 ++ ([.agg [c12_4, c12_5, c12_6, c12_7, c12_8]] : List AV)), Q2)) := by kernel_rfl
def f_log_Tell {s : PSpecs} (hs : s.lookup 42 = none) (v0 v1 v2 : AV) (Q : AHeap) := (callP_fn (E := penv s) (f := 42) (fn := pf_log_Tell) hs rfl [v0, v1, v2] Q rfl).trans (g_log_Tell (call := callP (penv s)) (lp := loopP (penv s)) v0 v1 v2 Q)
theorem g_log_Skip {call : CallF} {lp : PLoopF} (v0 v1 v2 v3 : AV) (Q : AHeap) : evalPK call lp c_log_Skip [(0, .v v0), (1, .v v1), (2, .v v2), (3, .v v3)] [] Q (retPK [.tmp 8] [.o 5]) = (
  bnS (call 74 [v0] Q) fun w10_1 Q2 => bnL (owZ 5 w10_1) fun l3 => 
  bnC 5 (fillP [.int .i64 0, .int .i64 0, .int .i64 0, .str [], .int .i64 0] [(0, 1, .int .i64 2), (1, 1, v1), (2, 1, v2), (4, 1, v3)]) fun c14_4 c14_5 c14_6 c14_7 c14_8 => 
  pinB (elOk 5 (.agg [c14_4, c14_5, c14_6, c14_7, c14_8])) <| 
  pinB (room 48 ((l3 : List AV).length + (([.agg [c14_4, c14_5, c14_6, c14_7, c14_8]] : List AV) : List AV).length)) <| 
  some (.ow 5 (l3 ++ ([.agg [c14_4, c14_5, c14_6, c14_7, c14_8]] : List AV)), Q2)) := by kernel_rfl
def f_log_Skip {s : PSpecs} (hs : s.lookup 44 = none) (v0 v1 v2 v3 : AV) (Q : AHeap) := (callP_fn (E := penv s) (f := 44) (fn := pf_log_Skip) hs rfl [v0, v1, v2, v3] Q rfl).trans (g_log_Skip (call := callP (penv s)) (lp := loopP (penv s)) v0 v1 v2 v3 Q)
theorem g_pleachref1_MaySpan {call : CallF} {lp : PLoopF} (v0_0 v0_1 : AV) (Q : AHeap) : evalPK call lp c_pleachref1_MaySpan [(0, .v (.agg [v0_0, v0_1]))] [] Q (retPK [.tmp 2] [.n]) = (
  bnC 2 (stC 2 (.agg [v0_0, v0_1])) fun s1 s2 => 
  bnP (binA .geq s1 (.int .i64 1)) fun w5_3 => 
  bnP (gdQ w5_3 true (some s1)) fun w8_4 => 
  bnP (gdQ w5_3 true (some s2)) fun w10_5 => 
  bnP (gdQ w5_3 true (binA .leq w8_4 w10_5)) fun w11_6 => 
  bnP (pickA w5_3 w11_6 (.bool false)) fun w12_7 => 
  bnP (gdQ w12_7 true (some s2)) fun w15_8 => 
  bnP (gdQ w12_7 true (binA .leq w15_8 (.int .i64 1000000))) fun w16_9 => 
  bnP (pickA w12_7 w16_9 (.bool false)) fun w17_10 => 
  bnP (rcv false .n w17_10) fun r11 => some (r11, Q)) := by kernel_rfl
def f_pleachref1_MaySpan {s : PSpecs} (hs : s.lookup 70 = none) (v0_0 v0_1 : AV) (Q : AHeap) := (callP_fn (E := penv s) (f := 70) (fn := pf_pleachref1_MaySpan) hs rfl [.agg [v0_0, v0_1]] Q rfl).trans (g_pleachref1_MaySpan (call := callP (penv s)) (lp := loopP (penv s)) v0_0 v0_1 Q)
theorem g_log_kind {call : CallF} {lp : PLoopF} (v0_0 v0_1 v0_2 v0_3 v0_4 : AV) (Q : AHeap) : evalPK call lp c_log_kind [(0, .v (.agg [v0_0, v0_1, v0_2, v0_3, v0_4]))] [] Q (retPK [.tmp 2] [.n]) = (
  bnC 5 (stC 5 (.agg [v0_0, v0_1, v0_2, v0_3, v0_4])) fun s1 s2 s3 s4 s5 => 
  bnP (binA .eql s1 (.int .i64 1)) fun w6_6 => 
  cndS w6_6 (fun _ => some (.ifc 132 (.agg []), Q))
  (fun _ => bnP (binA .eql s1 (.int .i64 2)) fun w10_7 => 
  cndS w10_7 (fun _ => some (.ifc 115 (.agg []), Q))
  (fun _ => some (.nilifc, Q)))) := by kernel_rfl
def f_log_kind {s : PSpecs} (hs : s.lookup 72 = none) (v0_0 v0_1 v0_2 v0_3 v0_4 : AV) (Q : AHeap) := (callP_fn (E := penv s) (f := 72) (fn := pf_log_kind) hs rfl [.agg [v0_0, v0_1, v0_2, v0_3, v0_4]] Q rfl).trans (g_log_kind (call := callP (penv s)) (lp := loopP (penv s)) v0_0 v0_1 v0_2 v0_3 v0_4 Q)
theorem p_span_Add_0 {β : Type} (call : CallF) (lp : PLoopF) (t13 t14 t15 s3_0 s3_1 : AV) (l4 : List AV) (Q : AHeap) (k : PK β) : evalPK call lp c_span_Add_0 [(3, .lp 3 0), (4, .ls 4), (13, .v t13), (14, .v t14), (15, .v t15)] [(3, .cells [s3_0, s3_1]), (4, .own 2 l4)] Q k = (
  bnP (binA .add t15 (.int .i64 1)) fun w49_1 => 
  k .normal [(3, .lp 3 0), (4, .ls 4), (13, .v t13), (14, .v t14), (15, .v w49_1)] [(3, .cells [s3_0, s3_1]), (4, .own 2 l4)] Q) := by kernel_rfl
theorem p_span_Add_1 {β : Type} (call : CallF) (lp : PLoopF) (t13 t14 t15 s3_0 s3_1 : AV) (l4 : List AV) (Q : AHeap) (k : PK β) : evalPK call lp c_span_Add_1 [(3, .lp 3 0), (4, .ls 4), (13, .v t13), (14, .v t14), (15, .v t15)] [(3, .cells [s3_0, s3_1]), (4, .own 2 l4)] Q k = (
  bnP (binA .lss t15 t14) fun w16_1 => 
  cndS w16_1 (fun _ => bnX (bnX (bnP (elQ 2 t13 t15) fun e2 => 
  bnC 2 (cut (AV.cells e2) 0 2) fun c18_3 c18_4 => 
  bnC 2 (stC 2 (.agg [c18_3, c18_4])) fun s5 s6 => 
  bnP (binA .sub s3_0 (.int .i64 1)) fun w23_7 => 
  bnP (binA .lss s6 w23_7) fun w24_8 => 
  bnP (gdQ w24_8 false (some s5)) fun w27_9 => 
  bnP (gdQ w24_8 false (some s3_1)) fun w29_10 => 
  bnP (gdQ w24_8 false (binA .add w29_10 (.int .i64 1))) fun w30_11 => 
  bnP (gdQ w24_8 false (binA .gtr w27_9 w30_11)) fun w31_12 => 
  bnP (pickA w24_8 (.bool true) w31_12) fun w32_13 => 
  cndS w32_13 (fun _ => pinB (elOk 2 (.agg [s5, s6])) <| 
  pinB (room 16 ((l4 : List AV).length + (([.agg [s5, s6]] : List AV) : List AV).length)) <| 
  some (.normal, [(3, .lp 3 0), (4, .ls 4), (13, .v t13), (14, .v t14), (15, .v t15)], [(3, .cells [s3_0, s3_1]), (4, .own 2 (l4 ++ ([.agg [s5, s6]] : List AV)))], Q))
  (fun _ => bnP (mniA [s3_0, s5]) fun w41_14 => 
  bnP (mxiA [s3_1, s6]) fun w46_15 => 
  bnC 1 (stC 1 w41_14) fun s16 => 
  bnC 1 (stC 1 w46_15) fun s17 => 
  some (.normal, [(3, .lp 3 0), (4, .ls 4), (13, .v t13), (14, .v t14), (15, .v t15)], [(3, .cells [s16, s17]), (4, .own 2 l4)], Q)))
  (outX 1 ret4))
  (goC (evalPK call lp c_span_Add_0) k))
  (fun _ => k (.exit 0) [(3, .lp 3 0), (4, .ls 4)] [(3, .cells [s3_0, s3_1]), (4, .own 2 l4)] Q)) := by kernel_rfl
noncomputable def L_span_Add_1 (s : PSpecs) (t13 t14 t15 s3_0 s3_1 : AV) (l4 : List AV) (Q : AHeap) : Option PEnd := loopP (penv s) c_span_Add_1 [(3, .lp 3 0), (4, .ls 4), (13, .v t13), (14, .v t14), (15, .v t15)] [(3, .cells [s3_0, s3_1]), (4, .own 2 l4)] Q
theorem L_span_Add_1_fold (s : PSpecs) (t13 t14 t15 s3_0 s3_1 : AV) (l4 : List AV) (Q : AHeap) : loopP (penv s) c_span_Add_1 [(3, .lp 3 0), (4, .ls 4), (13, .v t13), (14, .v t14), (15, .v t15)] [(3, .cells [s3_0, s3_1]), (4, .own 2 l4)] Q = L_span_Add_1 s t13 t14 t15 s3_0 s3_1 l4 Q := rfl
theorem L_span_Add_1_eq (s : PSpecs) (t13 t14 t15 s3_0 s3_1 : AV) (l4 : List AV) (Q : AHeap) : L_span_Add_1 s t13 t14 t15 s3_0 s3_1 l4 Q = evalPK (callP (penv s)) (loopP (penv s)) c_span_Add_1 [(3, .lp 3 0), (4, .ls 4), (13, .v t13), (14, .v t14), (15, .v t15)] [(3, .cells [s3_0, s3_1]), (4, .own 2 l4)] Q (goX (fun τ ω Q => loopP (penv s) c_span_Add_1 τ ω Q) ret4) := loopP_body
abbrev X_span_Add_1_x0 (s3_0 s3_1 : AV) (l4 : List AV) (Q : AHeap) : Option PEnd := some (.exit 0, [(3, .lp 3 0), (4, .ls 4)], [(3, .cells [s3_0, s3_1]), (4, .own 2 l4)], Q)
theorem p_span_Add_2 {β : Type} (call : CallF) (lp : PLoopF) (t7 s3_0 s3_1 : AV) (l4 : List AV) (Q : AHeap) (k : PK β) : evalPK call lp c_span_Add_2 [(3, .lp 3 0), (4, .ls 4), (7, .v t7)] [(3, .cells [s3_0, s3_1]), (4, .own 2 l4)] Q k = (
  bnP (binA .lss t7 (.int .i64 ((l4 : List AV).length : Nat))) fun w53_1 => 
  bnP (gdQ w53_1 true (some t7)) fun w56_2 => 
  bnN (gdN w53_1 true (idxN (l4 : List AV).length w56_2)) fun i3 => 
  bnP (gdQ w53_1 true (elC l4 i3 0)) fun w59_4 => 
  bnP (gdQ w53_1 true (some s3_0)) fun w61_5 => 
  bnP (gdQ w53_1 true (binA .lss w59_4 w61_5)) fun w62_6 => 
  bnP (pickA w53_1 w62_6 (.bool false)) fun w63_7 => 
  cndS w63_7 (fun _ => bnP (binA .add t7 (.int .i64 1)) fun w65_8 => 
  k .normal [(3, .lp 3 0), (4, .ls 4), (7, .v w65_8)] [(3, .cells [s3_0, s3_1]), (4, .own 2 l4)] Q)
  (fun _ => k (.exit 2) [(3, .lp 3 0), (4, .ls 4), (7, .v t7)] [(3, .cells [s3_0, s3_1]), (4, .own 2 l4)] Q)) := by kernel_rfl
noncomputable def L_span_Add_2 (s : PSpecs) (t7 s3_0 s3_1 : AV) (l4 : List AV) (Q : AHeap) : Option PEnd := loopP (penv s) c_span_Add_2 [(3, .lp 3 0), (4, .ls 4), (7, .v t7)] [(3, .cells [s3_0, s3_1]), (4, .own 2 l4)] Q
theorem L_span_Add_2_fold (s : PSpecs) (t7 s3_0 s3_1 : AV) (l4 : List AV) (Q : AHeap) : loopP (penv s) c_span_Add_2 [(3, .lp 3 0), (4, .ls 4), (7, .v t7)] [(3, .cells [s3_0, s3_1]), (4, .own 2 l4)] Q = L_span_Add_2 s t7 s3_0 s3_1 l4 Q := rfl
theorem L_span_Add_2_eq (s : PSpecs) (t7 s3_0 s3_1 : AV) (l4 : List AV) (Q : AHeap) : L_span_Add_2 s t7 s3_0 s3_1 l4 Q = evalPK (callP (penv s)) (loopP (penv s)) c_span_Add_2 [(3, .lp 3 0), (4, .ls 4), (7, .v t7)] [(3, .cells [s3_0, s3_1]), (4, .own 2 l4)] Q (goX (fun τ ω Q => loopP (penv s) c_span_Add_2 τ ω Q) ret4) := loopP_body
abbrev X_span_Add_2_x2 (t7 s3_0 s3_1 : AV) (l4 : List AV) (Q : AHeap) : Option PEnd := some (.exit 2, [(3, .lp 3 0), (4, .ls 4), (7, .v t7)], [(3, .cells [s3_0, s3_1]), (4, .own 2 l4)], Q)
theorem p_span_Add_3 {β : Type} (call : CallF) (lp : PLoopF) (t7 s3_0 s3_1 : AV) (l4 : List AV) (Q : AHeap) (k : PK β) : evalPK call lp c_span_Add_3 [(3, .lp 3 0), (4, .ls 4), (7, .v t7)] [(3, .cells [s3_0, s3_1]), (4, .own 2 l4)] Q k = (
  pinB (elOk 2 (.agg [s3_0, s3_1])) <| 
  bnS (call 1000093 [.ow 2 l4, t7, .lt 2 [.agg [s3_0, s3_1]]] Q) fun w70_1 Q2 => bnL (owZ 2 w70_1) fun l3 => 
  k .ret [(4, .ls 4), (70, .ls 4), (69, .v (.lt 2 [.agg [s3_0, s3_1]])), (68, .v (.agg [s3_0, s3_1])), (67, .v t7), (66, .v undefA), (3, .lp 3 0), (4, .v undefA), (7, .v t7)] [(4, .own 2 l3), (3, .cells [s3_0, s3_1])] Q2) := by kernel_rfl
theorem p_span_Add_4 {β : Type} (call : CallF) (lp : PLoopF) (s3_0 s3_1 : AV) (l4 : List AV) (Q : AHeap) (k : PK β) : evalPK call lp c_span_Add_4 [(3, .lp 3 0), (4, .ls 4)] [(3, .cells [s3_0, s3_1]), (4, .own 2 l4)] Q k = (
  bnX (lp c_span_Add_2 [(3, .lp 3 0), (4, .ls 4), (7, .v (.int .i64 0))] [(3, .cells [s3_0, s3_1]), (4, .own 2 l4)] Q) (outX 2 (goC (evalPK call lp c_span_Add_3) k))) := by kernel_rfl
theorem g_span_Add {call : CallF} {lp : PLoopF} (v0 v1_0 v1_1 : AV) (Q : AHeap) : evalPK call lp c_span_Add [(0, .v v0), (1, .v (.agg [v1_0, v1_1]))] [] Q (retPK [.tmp 4] [.o 2]) = (
  bnC 2 (stC 2 (.agg [v1_0, v1_1])) fun s1 s2 => 
  bnS (call 91 [.agg [s1, s2]] Q) fun w9_3 Q4 => 
  bnP (unA .not (frz w9_3)) fun w10_5 => 
  cndS w10_5 (fun _ => bnS (call 92 [v0] Q4) fun w12_6 Q7 => bnL (owZ 2 w12_6) fun l8 => 
  some (.ow 2 l8, Q7))
  (fun _ => bnP (lenQ v0) fun w14_9 => 
  bnX (lp c_span_Add_1 [(3, .lp 3 0), (4, .ls 4), (13, .v v0), (14, .v w14_9), (15, .v (.int .i64 0))] [(3, .cells [s1, s2]), (4, .own 2 ([] : List AV))] Q4) (outX 0 (goC (evalPK call lp c_span_Add_4) (retPK [.tmp 4] [.o 2]))))) := by kernel_rfl
def f_span_Add {s : PSpecs} (hs : s.lookup 73 = none) (v0 v1_0 v1_1 : AV) (Q : AHeap) := (callP_fn (E := penv s) (f := 73) (fn := pf_span_Add) hs rfl [v0, .agg [v1_0, v1_1]] Q rfl).trans (g_span_Add (call := callP (penv s)) (lp := loopP (penv s)) v0 v1_0 v1_1 Q)
theorem g_span_one {call : CallF} {lp : PLoopF} (v0_0 v0_1 : AV) (Q : AHeap) : evalPK call lp c_span_one [(0, .v (.agg [v0_0, v0_1]))] [] Q (retPK [.tmp 2] [.n]) = (
  bnC 2 (stC 2 (.agg [v0_0, v0_1])) fun s1 s2 => 
  bnP (binA .geq s1 (.int .i64 1)) fun w5_3 => 
  bnP (gdQ w5_3 true (some s1)) fun w8_4 => 
  bnP (gdQ w5_3 true (some s2)) fun w10_5 => 
  bnP (gdQ w5_3 true (binA .leq w8_4 w10_5)) fun w11_6 => 
  bnP (pickA w5_3 w11_6 (.bool false)) fun w12_7 => 
  bnP (gdQ w12_7 true (some s2)) fun w15_8 => 
  bnP (gdQ w12_7 true (binA .leq w15_8 (.int .i64 1000000))) fun w16_9 => 
  bnP (pickA w12_7 w16_9 (.bool false)) fun w17_10 => 
  bnP (rcv false .n w17_10) fun r11 => some (r11, Q)) := by kernel_rfl
def f_span_one {s : PSpecs} (hs : s.lookup 91 = none) (v0_0 v0_1 : AV) (Q : AHeap) := (callP_fn (E := penv s) (f := 91) (fn := pf_span_one) hs rfl [.agg [v0_0, v0_1]] Q rfl).trans (g_span_one (call := callP (penv s)) (lp := loopP (penv s)) v0_0 v0_1 Q)
theorem g_log_gap_fits {call : CallF} {lp : PLoopF} (v0 v1_0 v1_1 v1_2 v1_3 v1_4 : AV) (Q : AHeap) : evalPK call lp c_log_gap_fits [(0, .v v0), (1, .v (.agg [v1_0, v1_1, v1_2, v1_3, v1_4]))] [] Q (retPK [.tmp 4] [.n]) = (
  bnC 0 (stC 0 v0) <| 
  bnC 5 (stC 5 (.agg [v1_0, v1_1, v1_2, v1_3, v1_4])) fun s1 s2 s3 s4 s5 => 
  bnP (binA .geq s3 s2) fun w9_6 => 
  bnP (gdQ w9_6 true (some s4)) fun w12_7 => 
  bnP (gdQ w9_6 true (binA .eql w12_7 (.str []))) fun w13_8 => 
  bnP (pickA w9_6 w13_8 (.bool false)) fun w14_9 => 
  bnP (gdQ w14_9 true (some s5)) fun w17_10 => 
  bnP (gdQ w14_9 true (binA .eql w17_10 (.int .i64 1))) fun w18_11 => 
  bnP (gdQ w14_9 true (some w18_11)) fun w19_12 => 
  bnP (gdQ w19_12 false (some s5)) fun w21_13 => 
  bnP (gdQ w19_12 false (binA .eql w21_13 (.int .i64 2))) fun w22_14 => 
  bnP (gdQ w14_9 true (pickA w19_12 (.bool true) w22_14)) fun w23_15 => 
  bnP (pickA w14_9 w23_15 (.bool false)) fun w24_16 => 
  bnP (rcv false .n w24_16) fun r17 => some (r17, Q)) := by kernel_rfl
def f_log_gap_fits {s : PSpecs} (hs : s.lookup 122 = none) (v0 v1_0 v1_1 v1_2 v1_3 v1_4 : AV) (Q : AHeap) := (callP_fn (E := penv s) (f := 122) (fn := pf_log_gap_fits) hs rfl [v0, .agg [v1_0, v1_1, v1_2, v1_3, v1_4]] Q rfl).trans (g_log_gap_fits (call := callP (penv s)) (lp := loopP (penv s)) v0 v1_0 v1_1 v1_2 v1_3 v1_4 Q)
theorem g_log_told_fits {call : CallF} {lp : PLoopF} (v0 v1_0 v1_1 v1_2 v1_3 v1_4 : AV) (Q : AHeap) : evalPK call lp c_log_told_fits [(0, .v v0), (1, .v (.agg [v1_0, v1_1, v1_2, v1_3, v1_4]))] [] Q (retPK [.tmp 4] [.n]) = (
  bnC 0 (stC 0 v0) <| 
  bnC 5 (stC 5 (.agg [v1_0, v1_1, v1_2, v1_3, v1_4])) fun s1 s2 s3 s4 s5 => 
  bnP (binA .eql s3 s2) fun w9_6 => 
  bnP (gdQ w9_6 true (some s4)) fun w12_7 => 
  bnP (gdQ w9_6 true (lensA w12_7)) fun w13_8 => 
  bnP (gdQ w9_6 true (binA .leq w13_8 (.int .i64 12))) fun w14_9 => 
  bnP (pickA w9_6 w14_9 (.bool false)) fun w15_10 => 
  bnP (gdQ w15_10 true (some s5)) fun w18_11 => 
  bnP (gdQ w15_10 true (binA .eql w18_11 (.int .i64 0))) fun w19_12 => 
  bnP (pickA w15_10 w19_12 (.bool false)) fun w20_13 => 
  bnP (rcv false .n w20_13) fun r14 => some (r14, Q)) := by kernel_rfl
def f_log_told_fits {s : PSpecs} (hs : s.lookup 123 = none) (v0 v1_0 v1_1 v1_2 v1_3 v1_4 : AV) (Q : AHeap) := (callP_fn (E := penv s) (f := 123) (fn := pf_log_told_fits) hs rfl [v0, .agg [v1_0, v1_1, v1_2, v1_3, v1_4]] Q rfl).trans (g_log_told_fits (call := callP (penv s)) (lp := loopP (penv s)) v0 v1_0 v1_1 v1_2 v1_3 v1_4 Q)
end Go.Proofs.Ytccgolmdhikdoaa.Pn
