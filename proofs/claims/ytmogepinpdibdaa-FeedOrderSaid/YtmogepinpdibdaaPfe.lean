/- Equations by values. Printed by mkpv.py of this repo. -/
import Derived.Test.YtmogepinpdibdaaPfd
import Derived.Test.YtmogepinpdibdaaPvE
namespace Go.Proofs.Ytmogepinpdibdaa.Pf
open Go.Ab
set_option maxRecDepth 100000
set_option linter.unusedVariables false
set_option linter.unusedSimpArgs false
theorem p_pleachlaw18_FeedOrder_0 {β : Type} (call : CallF) (lp : PLoopF) (t0 t7 t8 t10 t11 s9_0 s9_1 s9_2 s9_3 s9_4 s9_5 s9_6 : AV) (Q : AHeap) (k : PK β) : evalPK call lp c_pleachlaw18_FeedOrder_0 [(0, .v t0), (7, .v t7), (8, .v t8), (9, .lp 9 0), (10, .v t10), (11, .v t11)] [(9, .cells [s9_0, s9_1, s9_2, s9_3, s9_4, s9_5, s9_6])] Q k = (
  bnP (lenQ t0) fun w37_1 => 
  bnP (binA .lss t11 w37_1) fun w38_2 => 
  cndS w38_2 (fun _ => bnP (elQ 1 t0 t11) fun e3 => 
  bnP ((AV.cells e3)[0]?) fun w46_4 => 
  bnP (binA .rem w46_4 (.int .u8 8)) fun w47_5 => 
  bnP (cviA .i64 w47_5) fun w48_6 => 
  bnP (binA .add t10 w48_6) fun w49_7 => 
  bnP (elQ 1 t0 t11) fun e8 => 
  bnP ((AV.cells e8)[0]?) fun w54_9 => 
  bnP (binA .rem w54_9 (.int .u8 8)) fun w55_10 => 
  bnP (cviA .i64 w55_10) fun w56_11 => 
  bnP (binA .add t10 w56_11) fun w57_12 => 
  bnS (call 31 [w57_12] Q) fun w58_13 Q14 => 
  bnC 2 (fillP [.int .i64 0, .str []] [(0, 1, w49_7), (1, 1, (frz w58_13))]) fun c59_15 c59_16 => 
  bnS (call 24 [.agg [s9_0, s9_1, s9_2, s9_3, s9_4, s9_5, s9_6], .agg [c59_15, c59_16]] Q14) fun w60_17 Q18 => 
  bnC 7 (stC 7 (frz w60_17)) fun s19 s20 s21 s22 s23 s24 s25 => 
  bnP (mxiA [s19, t7]) fun w64_26 => 
  bnP (binA .add t11 (.int .i64 1)) fun w40_27 => 
  k .normal [(0, .v t0), (7, .v t7), (8, .v t8), (9, .lp 9 0), (10, .v w64_26), (11, .v w40_27)] [(9, .cells [s19, s20, s21, s22, s23, s24, s25])] Q18)
  (fun _ => k (.exit 0) [(7, .v t7), (8, .v t8), (9, .lp 9 0)] [(9, .cells [s9_0, s9_1, s9_2, s9_3, s9_4, s9_5, s9_6])] Q)) := by kernel_rfl
noncomputable def L_pleachlaw18_FeedOrder_0 (s : PSpecs) (t0 t7 t8 t10 t11 s9_0 s9_1 s9_2 s9_3 s9_4 s9_5 s9_6 : AV) (Q : AHeap) : Option PEnd := loopP (penv s) c_pleachlaw18_FeedOrder_0 [(0, .v t0), (7, .v t7), (8, .v t8), (9, .lp 9 0), (10, .v t10), (11, .v t11)] [(9, .cells [s9_0, s9_1, s9_2, s9_3, s9_4, s9_5, s9_6])] Q
theorem L_pleachlaw18_FeedOrder_0_fold (s : PSpecs) (t0 t7 t8 t10 t11 s9_0 s9_1 s9_2 s9_3 s9_4 s9_5 s9_6 : AV) (Q : AHeap) : loopP (penv s) c_pleachlaw18_FeedOrder_0 [(0, .v t0), (7, .v t7), (8, .v t8), (9, .lp 9 0), (10, .v t10), (11, .v t11)] [(9, .cells [s9_0, s9_1, s9_2, s9_3, s9_4, s9_5, s9_6])] Q = L_pleachlaw18_FeedOrder_0 s t0 t7 t8 t10 t11 s9_0 s9_1 s9_2 s9_3 s9_4 s9_5 s9_6 Q := rfl
theorem L_pleachlaw18_FeedOrder_0_eq (s : PSpecs) (t0 t7 t8 t10 t11 s9_0 s9_1 s9_2 s9_3 s9_4 s9_5 s9_6 : AV) (Q : AHeap) : L_pleachlaw18_FeedOrder_0 s t0 t7 t8 t10 t11 s9_0 s9_1 s9_2 s9_3 s9_4 s9_5 s9_6 Q = evalPK (callP (penv s)) (loopP (penv s)) c_pleachlaw18_FeedOrder_0 [(0, .v t0), (7, .v t7), (8, .v t8), (9, .lp 9 0), (10, .v t10), (11, .v t11)] [(9, .cells [s9_0, s9_1, s9_2, s9_3, s9_4, s9_5, s9_6])] Q (goX (fun τ ω Q => loopP (penv s) c_pleachlaw18_FeedOrder_0 τ ω Q) ret4) := loopP_body
abbrev X_pleachlaw18_FeedOrder_0_x0 (t7 t8 s9_0 s9_1 s9_2 s9_3 s9_4 s9_5 s9_6 : AV) (Q : AHeap) : Option PEnd := some (.exit 0, [(7, .v t7), (8, .v t8), (9, .lp 9 0)], [(9, .cells [s9_0, s9_1, s9_2, s9_3, s9_4, s9_5, s9_6])], Q)
theorem p_pleachlaw18_FeedOrder_1 {β : Type} (call : CallF) (lp : PLoopF) (t7 t12 t13 s9_0 s9_1 s9_2 s9_3 s9_4 s9_5 s9_6 : AV) (Q : AHeap) (k : PK β) : evalPK call lp c_pleachlaw18_FeedOrder_1 [(7, .v t7), (9, .lp 9 0), (12, .v t12), (13, .v t13)] [(9, .cells [s9_0, s9_1, s9_2, s9_3, s9_4, s9_5, s9_6])] Q k = (
  bnP (binA .leq t13 t12) fun w75_1 => 
  cndS w75_1 (fun _ => bnS (call 31 [t13] Q) fun w81_2 Q3 => 
  bnC 2 (fillP [.int .i64 0, .str []] [(0, 1, t13), (1, 1, (frz w81_2))]) fun c82_4 c82_5 => 
  bnS (call 24 [.agg [s9_0, s9_1, s9_2, s9_3, s9_4, s9_5, s9_6], .agg [c82_4, c82_5]] Q3) fun w83_6 Q7 => 
  bnC 7 (stC 7 (frz w83_6)) fun s8 s9 s10 s11 s12 s13 s14 => 
  bnP (binA .add t13 (.int .i64 1)) fun w77_15 => 
  k .normal [(7, .v t7), (9, .lp 9 0), (12, .v t12), (13, .v w77_15)] [(9, .cells [s8, s9, s10, s11, s12, s13, s14])] Q7)
  (fun _ => k (.exit 2) [(7, .v t7), (9, .lp 9 0), (12, .v t12)] [(9, .cells [s9_0, s9_1, s9_2, s9_3, s9_4, s9_5, s9_6])] Q)) := by kernel_rfl
noncomputable def L_pleachlaw18_FeedOrder_1 (s : PSpecs) (t7 t12 t13 s9_0 s9_1 s9_2 s9_3 s9_4 s9_5 s9_6 : AV) (Q : AHeap) : Option PEnd := loopP (penv s) c_pleachlaw18_FeedOrder_1 [(7, .v t7), (9, .lp 9 0), (12, .v t12), (13, .v t13)] [(9, .cells [s9_0, s9_1, s9_2, s9_3, s9_4, s9_5, s9_6])] Q
theorem L_pleachlaw18_FeedOrder_1_fold (s : PSpecs) (t7 t12 t13 s9_0 s9_1 s9_2 s9_3 s9_4 s9_5 s9_6 : AV) (Q : AHeap) : loopP (penv s) c_pleachlaw18_FeedOrder_1 [(7, .v t7), (9, .lp 9 0), (12, .v t12), (13, .v t13)] [(9, .cells [s9_0, s9_1, s9_2, s9_3, s9_4, s9_5, s9_6])] Q = L_pleachlaw18_FeedOrder_1 s t7 t12 t13 s9_0 s9_1 s9_2 s9_3 s9_4 s9_5 s9_6 Q := rfl
theorem L_pleachlaw18_FeedOrder_1_eq (s : PSpecs) (t7 t12 t13 s9_0 s9_1 s9_2 s9_3 s9_4 s9_5 s9_6 : AV) (Q : AHeap) : L_pleachlaw18_FeedOrder_1 s t7 t12 t13 s9_0 s9_1 s9_2 s9_3 s9_4 s9_5 s9_6 Q = evalPK (callP (penv s)) (loopP (penv s)) c_pleachlaw18_FeedOrder_1 [(7, .v t7), (9, .lp 9 0), (12, .v t12), (13, .v t13)] [(9, .cells [s9_0, s9_1, s9_2, s9_3, s9_4, s9_5, s9_6])] Q (goX (fun τ ω Q => loopP (penv s) c_pleachlaw18_FeedOrder_1 τ ω Q) ret4) := loopP_body
abbrev X_pleachlaw18_FeedOrder_1_x2 (t7 t12 s9_0 s9_1 s9_2 s9_3 s9_4 s9_5 s9_6 : AV) (Q : AHeap) : Option PEnd := some (.exit 2, [(7, .v t7), (9, .lp 9 0), (12, .v t12)], [(9, .cells [s9_0, s9_1, s9_2, s9_3, s9_4, s9_5, s9_6])], Q)
theorem p_pleachlaw18_FeedOrder_2 {β : Type} (call : CallF) (lp : PLoopF) (t7 t14 s9_0 s9_1 s9_2 s9_3 s9_4 s9_5 s9_6 : AV) (Q : AHeap) (k : PK β) : evalPK call lp c_pleachlaw18_FeedOrder_2 [(7, .v t7), (9, .lp 9 0), (14, .v t14)] [(9, .cells [s9_0, s9_1, s9_2, s9_3, s9_4, s9_5, s9_6])] Q k = (
  bnP (lenQ s9_4) fun w108_1 => 
  bnP (binA .lss t14 w108_1) fun w109_2 => 
  cndS w109_2 (fun _ => bnP (elQ 5 s9_4 t14) fun e3 => 
  bnC 5 (cut (AV.cells e3) 0 5) fun c116_4 c116_5 c116_6 c116_7 c116_8 => 
  bnP (binA .add t7 t14) fun w119_9 => 
  bnP (binA .add t7 t14) fun w122_10 => 
  bnP (binA .add t7 t14) fun w125_11 => 
  bnS (call 31 [w125_11] Q) fun w126_12 Q13 => 
  bnC 5 (fillP [.int .i64 0, .int .i64 0, .int .i64 0, .str [], .int .i64 0] [(0, 1, .int .i64 1), (1, 1, w119_9), (2, 1, w122_10), (3, 1, (frz w126_12))]) fun c127_14 c127_15 c127_16 c127_17 c127_18 => 
  bnP (eqsA true (.st [(0, 1, .i), (1, 1, .i), (2, 1, .i), (3, 1, .s), (4, 1, .i)]) (.agg [c116_4, c116_5, c116_6, c116_7, c116_8]) (.agg [c127_14, c127_15, c127_16, c127_17, c127_18])) fun w128_19 => 
  cndS w128_19 (fun _ => k .ret [(6, .v (.bool false))] [] Q13)
  (fun _ => bnP (binA .add t14 (.int .i64 1)) fun w111_20 => 
  k .normal [(7, .v t7), (9, .lp 9 0), (14, .v w111_20)] [(9, .cells [s9_0, s9_1, s9_2, s9_3, s9_4, s9_5, s9_6])] Q13))
  (fun _ => k (.exit 4) [(9, .lp 9 0)] [(9, .cells [s9_0, s9_1, s9_2, s9_3, s9_4, s9_5, s9_6])] Q)) := by kernel_rfl
noncomputable def L_pleachlaw18_FeedOrder_2 (s : PSpecs) (t7 t14 s9_0 s9_1 s9_2 s9_3 s9_4 s9_5 s9_6 : AV) (Q : AHeap) : Option PEnd := loopP (penv s) c_pleachlaw18_FeedOrder_2 [(7, .v t7), (9, .lp 9 0), (14, .v t14)] [(9, .cells [s9_0, s9_1, s9_2, s9_3, s9_4, s9_5, s9_6])] Q
theorem L_pleachlaw18_FeedOrder_2_fold (s : PSpecs) (t7 t14 s9_0 s9_1 s9_2 s9_3 s9_4 s9_5 s9_6 : AV) (Q : AHeap) : loopP (penv s) c_pleachlaw18_FeedOrder_2 [(7, .v t7), (9, .lp 9 0), (14, .v t14)] [(9, .cells [s9_0, s9_1, s9_2, s9_3, s9_4, s9_5, s9_6])] Q = L_pleachlaw18_FeedOrder_2 s t7 t14 s9_0 s9_1 s9_2 s9_3 s9_4 s9_5 s9_6 Q := rfl
theorem L_pleachlaw18_FeedOrder_2_eq (s : PSpecs) (t7 t14 s9_0 s9_1 s9_2 s9_3 s9_4 s9_5 s9_6 : AV) (Q : AHeap) : L_pleachlaw18_FeedOrder_2 s t7 t14 s9_0 s9_1 s9_2 s9_3 s9_4 s9_5 s9_6 Q = evalPK (callP (penv s)) (loopP (penv s)) c_pleachlaw18_FeedOrder_2 [(7, .v t7), (9, .lp 9 0), (14, .v t14)] [(9, .cells [s9_0, s9_1, s9_2, s9_3, s9_4, s9_5, s9_6])] Q (goX (fun τ ω Q => loopP (penv s) c_pleachlaw18_FeedOrder_2 τ ω Q) ret4) := loopP_body
abbrev X_pleachlaw18_FeedOrder_2_x4 (s9_0 s9_1 s9_2 s9_3 s9_4 s9_5 s9_6 : AV) (Q : AHeap) : Option PEnd := some (.exit 4, [(9, .lp 9 0)], [(9, .cells [s9_0, s9_1, s9_2, s9_3, s9_4, s9_5, s9_6])], Q)
theorem p_pleachlaw18_FeedOrder_3 {β : Type} (call : CallF) (lp : PLoopF) (s9_0 s9_1 s9_2 s9_3 s9_4 s9_5 s9_6 : AV) (Q : AHeap) (k : PK β) : evalPK call lp c_pleachlaw18_FeedOrder_3 [(9, .lp 9 0)] [(9, .cells [s9_0, s9_1, s9_2, s9_3, s9_4, s9_5, s9_6])] Q k = (
  bnP (lenQ s9_2) fun w131_1 => 
  bnP (lenQ s9_4) fun w134_2 => 
  bnP (mniA [w134_2, .int .i64 6]) fun w135_3 => 
  bnP (binA .eql w131_1 w135_3) fun w136_4 => 
  k .ret [(6, .v w136_4), (136, .v w136_4), (135, .v w135_3), (134, .v w134_2), (133, .v s9_4), (132, .lp 9 4), (131, .v w131_1), (130, .v s9_2), (129, .lp 9 2), (9, .lp 9 0)] [(9, .cells [s9_0, s9_1, s9_2, s9_3, s9_4, s9_5, s9_6])] Q) := by kernel_rfl
theorem p_pleachlaw18_FeedOrder_4 {β : Type} (call : CallF) (lp : PLoopF) (t7 t12 s9_0 s9_1 s9_2 s9_3 s9_4 s9_5 s9_6 : AV) (Q : AHeap) (k : PK β) : evalPK call lp c_pleachlaw18_FeedOrder_4 [(7, .v t7), (9, .lp 9 0), (12, .v t12)] [(9, .cells [s9_0, s9_1, s9_2, s9_3, s9_4, s9_5, s9_6])] Q k = (
  bnP (binA .add t12 (.int .i64 1)) fun w87_1 => 
  bnP (binA .neq s9_0 w87_1) fun w88_2 => 
  bnP (gdQ w88_2 false (some s9_4)) fun w91_3 => 
  bnP (gdQ w88_2 false (lenQ w91_3)) fun w92_4 => 
  bnP (gdQ w88_2 false (some t12)) fun w93_5 => 
  bnP (gdQ w88_2 false (binA .add w93_5 (.int .i64 1))) fun w94_6 => 
  bnP (gdQ w88_2 false (some t7)) fun w95_7 => 
  bnP (gdQ w88_2 false (binA .sub w94_6 w95_7)) fun w96_8 => 
  bnP (gdQ w88_2 false (binA .neq w92_4 w96_8)) fun w97_9 => 
  bnP (pickA w88_2 (.bool true) w97_9) fun w98_10 => 
  bnP (gdQ w98_10 false (some s9_3)) fun w101_11 => 
  bnP (gdQ w98_10 false (lenQ w101_11)) fun w102_12 => 
  bnP (gdQ w98_10 false (binA .neq w102_12 (.int .i64 0))) fun w103_13 => 
  bnP (pickA w98_10 (.bool true) w103_13) fun w104_14 => 
  cndS w104_14 (fun _ => k .ret [(6, .v (.bool false)), (104, .v w104_14), (103, .v w103_13), (102, .v w102_12), (101, .v w101_11), (100, .gd 99 false (.lp 9 3)), (99, .v w98_10), (98, .v w98_10), (97, .v w97_9), (96, .v w96_8), (95, .v w95_7), (94, .v w94_6), (93, .v w93_5), (92, .v w92_4), (91, .v w91_3), (90, .gd 89 false (.lp 9 4)), (89, .v w88_2), (88, .v w88_2), (87, .v w87_1), (86, .v t12), (85, .v s9_0), (84, .lp 9 0), (7, .v t7), (9, .lp 9 0), (12, .v t12)] [(9, .cells [s9_0, s9_1, s9_2, s9_3, s9_4, s9_5, s9_6])] Q)
  (fun _ => bnX (lp c_pleachlaw18_FeedOrder_2 [(7, .v t7), (9, .lp 9 0), (14, .v (.int .i64 0))] [(9, .cells [s9_0, s9_1, s9_2, s9_3, s9_4, s9_5, s9_6])] Q) (outX 4 (goC (evalPK call lp c_pleachlaw18_FeedOrder_3) k)))) := by kernel_rfl
theorem p_pleachlaw18_FeedOrder_5 {β : Type} (call : CallF) (lp : PLoopF) (t7 t8 s9_0 s9_1 s9_2 s9_3 s9_4 s9_5 s9_6 : AV) (Q : AHeap) (k : PK β) : evalPK call lp c_pleachlaw18_FeedOrder_5 [(7, .v t7), (8, .v t8), (9, .lp 9 0)] [(9, .cells [s9_0, s9_1, s9_2, s9_3, s9_4, s9_5, s9_6])] Q k = (
  bnP (binA .add t7 t8) fun w69_1 => 
  bnP (binA .sub w69_1 (.int .i64 1)) fun w70_2 => 
  bnP (mxiA [s9_1, w70_2]) fun w71_3 => 
  bnX (lp c_pleachlaw18_FeedOrder_1 [(7, .v t7), (9, .lp 9 0), (12, .v w71_3), (13, .v t7)] [(9, .cells [s9_0, s9_1, s9_2, s9_3, s9_4, s9_5, s9_6])] Q) (outX 2 (goC (evalPK call lp c_pleachlaw18_FeedOrder_4) k))) := by kernel_rfl
theorem g_pleachlaw18_FeedOrder {call : CallF} {lp : PLoopF} (v0 v1 v2 : AV) (Q : AHeap) : evalPK call lp c_pleachlaw18_FeedOrder [(0, .v v0), (1, .v v1), (2, .v v2)] [] Q (retPK [.tmp 6] [.n]) = (
  bnS (call 13 [] Q) fun w15_1 Q2 => 
  bnP (unA .not (frz w15_1)) fun w16_3 => 
  cndS w16_3 (fun _ => some (.bool false, Q2))
  (fun _ => bnP (lenQ v0) fun w18_4 => 
  bnP (binA .gtr w18_4 (.int .i64 30)) fun w19_5 => 
  cndS w19_5 (fun _ => some (.bool true, Q2))
  (fun _ => bnP (binA .rem v2 (.int .u8 50)) fun w21_6 => 
  bnP (cviA .i64 w21_6) fun w22_7 => 
  bnP (binA .add (.int .i64 1) w22_7) fun w23_8 => 
  bnP (binA .rem v1 (.int .u8 20)) fun w25_9 => 
  bnP (cviA .i64 w25_9) fun w26_10 => 
  bnP (binA .add (.int .i64 1) w26_10) fun w27_11 => 
  bnS (call 18 [.agg [.int .i64 0, .int .i64 0, .nils, .nils, .nils, .int .i64 0, .int .i64 0], w23_8] Q2) fun w30_12 Q13 => 
  bnC 7 (stC 7 (frz w30_12)) fun s14 s15 s16 s17 s18 s19 s20 => 
  bnP (mxiA [s14, w23_8]) fun w34_21 => 
  bnX (lp c_pleachlaw18_FeedOrder_0 [(0, .v v0), (7, .v w23_8), (8, .v w27_11), (9, .lp 9 0), (10, .v w34_21), (11, .v (.int .i64 0))] [(9, .cells [s14, s15, s16, s17, s18, s19, s20])] Q13) (outX 0 (goC (evalPK call lp c_pleachlaw18_FeedOrder_5) (retPK [.tmp 6] [.n])))))) := by kernel_rfl
theorem f_pleachlaw18_FeedOrder {s : PSpecs} (hs : s.lookup 7 = none) (v0 v1 v2 : AV) (Q : AHeap) : callP (penv s) 7 [v0, v1, v2] Q = (
  bnS ((callP (penv s)) 13 [] Q) fun w15_1 Q2 => 
  bnP (unA .not (frz w15_1)) fun w16_3 => 
  cndS w16_3 (fun _ => some (.bool false, Q2))
  (fun _ => bnP (lenQ v0) fun w18_4 => 
  bnP (binA .gtr w18_4 (.int .i64 30)) fun w19_5 => 
  cndS w19_5 (fun _ => some (.bool true, Q2))
  (fun _ => bnP (binA .rem v2 (.int .u8 50)) fun w21_6 => 
  bnP (cviA .i64 w21_6) fun w22_7 => 
  bnP (binA .add (.int .i64 1) w22_7) fun w23_8 => 
  bnP (binA .rem v1 (.int .u8 20)) fun w25_9 => 
  bnP (cviA .i64 w25_9) fun w26_10 => 
  bnP (binA .add (.int .i64 1) w26_10) fun w27_11 => 
  bnS ((callP (penv s)) 18 [.agg [.int .i64 0, .int .i64 0, .nils, .nils, .nils, .int .i64 0, .int .i64 0], w23_8] Q2) fun w30_12 Q13 => 
  bnC 7 (stC 7 (frz w30_12)) fun s14 s15 s16 s17 s18 s19 s20 => 
  bnP (mxiA [s14, w23_8]) fun w34_21 => 
  bnX ((loopP (penv s)) c_pleachlaw18_FeedOrder_0 [(0, .v v0), (7, .v w23_8), (8, .v w27_11), (9, .lp 9 0), (10, .v w34_21), (11, .v (.int .i64 0))] [(9, .cells [s14, s15, s16, s17, s18, s19, s20])] Q13) (outX 0 (goC (evalPK (callP (penv s)) (loopP (penv s)) c_pleachlaw18_FeedOrder_5) (retPK [.tmp 6] [.n])))))) := (callP_fn (fn := pf_pleachlaw18_FeedOrder) hs rfl [v0, v1, v2] Q rfl).trans (g_pleachlaw18_FeedOrder v0 v1 v2 Q)
theorem p_feed_Begin_0 {β : Type} (call : CallF) (lp : PLoopF) (s2_0 s2_1 s2_2 s2_3 s2_4 s2_5 s2_6 s4_0 s4_1 s4_2 s4_3 s4_4 s4_5 s4_6 : AV) (Q : AHeap) (k : PK β) : evalPK call lp c_feed_Begin_0 [(2, .lp 2 0), (4, .lp 4 0)] [(2, .cells [s2_0, s2_1, s2_2, s2_3, s2_4, s2_5, s2_6]), (4, .cells [s4_0, s4_1, s4_2, s4_3, s4_4, s4_5, s4_6])] Q k = (
  bnC 7 (stC 7 (.agg [s2_0, s2_1, s2_2, s2_3, s2_4, s2_5, s2_6])) fun s1 s2 s3 s4 s5 s6 s7 => 
  k .ret [(22, .v (.agg [s2_0, s2_1, s2_2, s2_3, s2_4, s2_5, s2_6])), (2, .lp 2 0), (4, .lp 4 0)] [(4, .cells [s1, s2, s3, s4, s5, s6, s7]), (2, .cells [s2_0, s2_1, s2_2, s2_3, s2_4, s2_5, s2_6])] Q) := by kernel_rfl
theorem g_feed_Begin {call : CallF} {lp : PLoopF} (v0_0 v0_1 v0_2 v0_3 v0_4 v0_5 v0_6 v1 : AV) (Q : AHeap) : evalPK call lp c_feed_Begin [(0, .v (.agg [v0_0, v0_1, v0_2, v0_3, v0_4, v0_5, v0_6])), (1, .v v1)] [] Q (retPK [.cell 4 (some 7)] [.n]) = (
  bnC 7 (stC 7 (.agg [v0_0, v0_1, v0_2, v0_3, v0_4, v0_5, v0_6])) fun s1 s2 s3 s4 s5 s6 s7 => 
  bnP (binA .gtr s1 (.int .i64 0)) fun w7_8 => 
  cndS w7_8 (fun _ => bnP (binA .sub v1 (.int .i64 1)) fun w10_9 => 
  bnS (call 22 [.agg [s1, s2, s3, s4, s5, s6, s7], w10_9] Q) fun w11_10 Q11 => 
  bnC 7 (stC 7 (frz w11_10)) fun s12 s13 s14 s15 s16 s17 s18 => 
  some (.agg [s12, s13, s14, s15, s16, s17, s18], Q11))
  (fun _ => bnS (call 37 [.agg [s1, s2, s3, s4, s5, s6, s7]] Q) fun w13_19 Q20 => 
  bnC 7 (stC 7 (frz w13_19)) fun s21 s22 s23 s24 s25 s26 s27 => 
  bnX (bnP (binA .geq v1 (.int .i64 1)) fun w15_28 => 
  bnP (gdQ w15_28 true (some v1)) fun w17_29 => 
  bnP (gdQ w15_28 true (binA .leq w17_29 (.int .i64 1000000))) fun w18_30 => 
  bnP (pickA w15_28 w18_30 (.bool false)) fun w19_31 => 
  cndS w19_31 (fun _ => bnC 1 (stC 1 v1) fun s32 => 
  some (.normal, [(2, .lp 2 0), (4, .lp 4 0)], [(2, .cells [s32, s22, s23, s24, s25, s26, s27]), (4, .cells [.int .i64 0, .int .i64 0, .nils, .nils, .nils, .int .i64 0, .int .i64 0])], Q20))
  (fun _ => some (.normal, [(2, .lp 2 0), (4, .lp 4 0)], [(2, .cells [s21, s22, s23, s24, s25, s26, s27]), (4, .cells [.int .i64 0, .int .i64 0, .nils, .nils, .nils, .int .i64 0, .int .i64 0])], Q20)))
  (goC (evalPK call lp c_feed_Begin_0) (retPK [.cell 4 (some 7)] [.n])))) := by kernel_rfl
theorem f_feed_Begin {s : PSpecs} (hs : s.lookup 18 = none) (v0_0 v0_1 v0_2 v0_3 v0_4 v0_5 v0_6 v1 : AV) (Q : AHeap) : callP (penv s) 18 [.agg [v0_0, v0_1, v0_2, v0_3, v0_4, v0_5, v0_6], v1] Q = (
  bnC 7 (stC 7 (.agg [v0_0, v0_1, v0_2, v0_3, v0_4, v0_5, v0_6])) fun s1 s2 s3 s4 s5 s6 s7 => 
  bnP (binA .gtr s1 (.int .i64 0)) fun w7_8 => 
  cndS w7_8 (fun _ => bnP (binA .sub v1 (.int .i64 1)) fun w10_9 => 
  bnS ((callP (penv s)) 22 [.agg [s1, s2, s3, s4, s5, s6, s7], w10_9] Q) fun w11_10 Q11 => 
  bnC 7 (stC 7 (frz w11_10)) fun s12 s13 s14 s15 s16 s17 s18 => 
  some (.agg [s12, s13, s14, s15, s16, s17, s18], Q11))
  (fun _ => bnS ((callP (penv s)) 37 [.agg [s1, s2, s3, s4, s5, s6, s7]] Q) fun w13_19 Q20 => 
  bnC 7 (stC 7 (frz w13_19)) fun s21 s22 s23 s24 s25 s26 s27 => 
  bnX (bnP (binA .geq v1 (.int .i64 1)) fun w15_28 => 
  bnP (gdQ w15_28 true (some v1)) fun w17_29 => 
  bnP (gdQ w15_28 true (binA .leq w17_29 (.int .i64 1000000))) fun w18_30 => 
  bnP (pickA w15_28 w18_30 (.bool false)) fun w19_31 => 
  cndS w19_31 (fun _ => bnC 1 (stC 1 v1) fun s32 => 
  some (.normal, [(2, .lp 2 0), (4, .lp 4 0)], [(2, .cells [s32, s22, s23, s24, s25, s26, s27]), (4, .cells [.int .i64 0, .int .i64 0, .nils, .nils, .nils, .int .i64 0, .int .i64 0])], Q20))
  (fun _ => some (.normal, [(2, .lp 2 0), (4, .lp 4 0)], [(2, .cells [s21, s22, s23, s24, s25, s26, s27]), (4, .cells [.int .i64 0, .int .i64 0, .nils, .nils, .nils, .int .i64 0, .int .i64 0])], Q20)))
  (goC (evalPK (callP (penv s)) (loopP (penv s)) c_feed_Begin_0) (retPK [.cell 4 (some 7)] [.n])))) := (callP_fn (fn := pf_feed_Begin) hs rfl [.agg [v0_0, v0_1, v0_2, v0_3, v0_4, v0_5, v0_6], v1] Q rfl).trans (g_feed_Begin v0_0 v0_1 v0_2 v0_3 v0_4 v0_5 v0_6 v1 Q)
theorem p_feed_Knows_0 {β : Type} (call : CallF) (lp : PLoopF) (s2_0 s2_1 s2_2 s2_3 s2_4 s2_5 s2_6 s4_0 s4_1 s4_2 s4_3 s4_4 s4_5 s4_6 : AV) (Q : AHeap) (k : PK β) : evalPK call lp c_feed_Knows_0 [(2, .lp 2 0), (4, .lp 4 0)] [(2, .cells [s2_0, s2_1, s2_2, s2_3, s2_4, s2_5, s2_6]), (4, .cells [s4_0, s4_1, s4_2, s4_3, s4_4, s4_5, s4_6])] Q k = (
  bnC 7 (stC 7 (.agg [s2_0, s2_1, s2_2, s2_3, s2_4, s2_5, s2_6])) fun s1 s2 s3 s4 s5 s6 s7 => 
  k .ret [(19, .v (.agg [s2_0, s2_1, s2_2, s2_3, s2_4, s2_5, s2_6])), (2, .lp 2 0), (4, .lp 4 0)] [(4, .cells [s1, s2, s3, s4, s5, s6, s7]), (2, .cells [s2_0, s2_1, s2_2, s2_3, s2_4, s2_5, s2_6])] Q) := by kernel_rfl
theorem g_feed_Knows {call : CallF} {lp : PLoopF} (v0_0 v0_1 v0_2 v0_3 v0_4 v0_5 v0_6 v1 : AV) (Q : AHeap) : evalPK call lp c_feed_Knows [(0, .v (.agg [v0_0, v0_1, v0_2, v0_3, v0_4, v0_5, v0_6])), (1, .v v1)] [] Q (retPK [.cell 4 (some 7)] [.n]) = (
  bnC 7 (stC 7 (.agg [v0_0, v0_1, v0_2, v0_3, v0_4, v0_5, v0_6])) fun s1 s2 s3 s4 s5 s6 s7 => 
  bnS (call 37 [.agg [s1, s2, s3, s4, s5, s6, s7]] Q) fun w6_8 Q9 => 
  bnC 7 (stC 7 (frz w6_8)) fun s10 s11 s12 s13 s14 s15 s16 => 
  bnX (bnP (binA .gtr s10 (.int .i64 0)) fun w9_17 => 
  bnP (gdQ w9_17 true (some v1)) fun w11_18 => 
  bnP (gdQ w9_17 true (binA .leq w11_18 (.int .i64 1000000))) fun w12_19 => 
  bnP (pickA w9_17 w12_19 (.bool false)) fun w13_20 => 
  cndS w13_20 (fun _ => bnP (mxiA [s11, v1]) fun w17_21 => 
  bnC 1 (stC 1 w17_21) fun s22 => 
  some (.normal, [(2, .lp 2 0), (4, .lp 4 0)], [(2, .cells [s10, s22, s12, s13, s14, s15, s16]), (4, .cells [.int .i64 0, .int .i64 0, .nils, .nils, .nils, .int .i64 0, .int .i64 0])], Q9))
  (fun _ => some (.normal, [(2, .lp 2 0), (4, .lp 4 0)], [(2, .cells [s10, s11, s12, s13, s14, s15, s16]), (4, .cells [.int .i64 0, .int .i64 0, .nils, .nils, .nils, .int .i64 0, .int .i64 0])], Q9)))
  (goC (evalPK call lp c_feed_Knows_0) (retPK [.cell 4 (some 7)] [.n]))) := by kernel_rfl
theorem f_feed_Knows {s : PSpecs} (hs : s.lookup 22 = none) (v0_0 v0_1 v0_2 v0_3 v0_4 v0_5 v0_6 v1 : AV) (Q : AHeap) : callP (penv s) 22 [.agg [v0_0, v0_1, v0_2, v0_3, v0_4, v0_5, v0_6], v1] Q = (
  bnC 7 (stC 7 (.agg [v0_0, v0_1, v0_2, v0_3, v0_4, v0_5, v0_6])) fun s1 s2 s3 s4 s5 s6 s7 => 
  bnS ((callP (penv s)) 37 [.agg [s1, s2, s3, s4, s5, s6, s7]] Q) fun w6_8 Q9 => 
  bnC 7 (stC 7 (frz w6_8)) fun s10 s11 s12 s13 s14 s15 s16 => 
  bnX (bnP (binA .gtr s10 (.int .i64 0)) fun w9_17 => 
  bnP (gdQ w9_17 true (some v1)) fun w11_18 => 
  bnP (gdQ w9_17 true (binA .leq w11_18 (.int .i64 1000000))) fun w12_19 => 
  bnP (pickA w9_17 w12_19 (.bool false)) fun w13_20 => 
  cndS w13_20 (fun _ => bnP (mxiA [s11, v1]) fun w17_21 => 
  bnC 1 (stC 1 w17_21) fun s22 => 
  some (.normal, [(2, .lp 2 0), (4, .lp 4 0)], [(2, .cells [s10, s22, s12, s13, s14, s15, s16]), (4, .cells [.int .i64 0, .int .i64 0, .nils, .nils, .nils, .int .i64 0, .int .i64 0])], Q9))
  (fun _ => some (.normal, [(2, .lp 2 0), (4, .lp 4 0)], [(2, .cells [s10, s11, s12, s13, s14, s15, s16]), (4, .cells [.int .i64 0, .int .i64 0, .nils, .nils, .nils, .int .i64 0, .int .i64 0])], Q9)))
  (goC (evalPK (callP (penv s)) (loopP (penv s)) c_feed_Knows_0) (retPK [.cell 4 (some 7)] [.n]))) := (callP_fn (fn := pf_feed_Knows) hs rfl [.agg [v0_0, v0_1, v0_2, v0_3, v0_4, v0_5, v0_6], v1] Q rfl).trans (g_feed_Knows v0_0 v0_1 v0_2 v0_3 v0_4 v0_5 v0_6 v1 Q)
theorem g_feed_Comes {call : CallF} {lp : PLoopF} (v0_0 v0_1 v0_2 v0_3 v0_4 v0_5 v0_6 v1_0 v1_1 : AV) (Q : AHeap) : evalPK call lp c_feed_Comes [(0, .v (.agg [v0_0, v0_1, v0_2, v0_3, v0_4, v0_5, v0_6])), (1, .v (.agg [v1_0, v1_1]))] [] Q (retPK [.cell 4 (some 7)] [.n]) = (
  bnC 7 (stC 7 (.agg [v0_0, v0_1, v0_2, v0_3, v0_4, v0_5, v0_6])) fun s1 s2 s3 s4 s5 s6 s7 => 
  bnC 2 (stC 2 (.agg [v1_0, v1_1])) fun s8 s9 => 
  bnP (binA .eql s1 (.int .i64 0)) fun w7_10 => 
  bnP (gdQ w7_10 false (some s8)) fun w10_11 => 
  bnP (gdQ w7_10 false (binA .lss w10_11 (.int .i64 1))) fun w11_12 => 
  bnP (pickA w7_10 (.bool true) w11_12) fun w12_13 => 
  bnP (gdQ w12_13 false (some s8)) fun w15_14 => 
  bnP (gdQ w12_13 false (binA .gtr w15_14 (.int .i64 1000000))) fun w16_15 => 
  bnP (pickA w12_13 (.bool true) w16_15) fun w17_16 => 
  bnP (gdQ w17_16 false (some s9)) fun w20_17 => 
  bnP (gdQ w17_16 false (lensA w20_17)) fun w21_18 => 
  bnP (gdQ w17_16 false (binA .gtr w21_18 (.int .i64 12))) fun w22_19 => 
  bnP (pickA w17_16 (.bool true) w22_19) fun w23_20 => 
  cndS w23_20 (fun _ => bnS (call 37 [.agg [s1, s2, s3, s4, s5, s6, s7]] Q) fun w25_21 Q22 => 
  bnC 7 (stC 7 (frz w25_21)) fun s23 s24 s25 s26 s27 s28 s29 => 
  some (.agg [s23, s24, s25, s26, s27, s28, s29], Q22))
  (fun _ => bnS (call 22 [.agg [s1, s2, s3, s4, s5, s6, s7], s8] Q) fun w29_30 Q31 => 
  bnC 7 (stC 7 (frz w29_30)) fun s32 s33 s34 s35 s36 s37 s38 => 
  bnS (call 43 [s35, s32, .agg [s8, s9]] Q31) fun w36_39 Q40 => 
  bnP (extA (frz w36_39) 0) fun w37_41 => 
  bnP (extA (frz w36_39) 1) fun w38_42 => 
  bnC 1 (stC 1 w37_41) fun s43 => 
  bnS (call 39 [.agg [s32, s33, s34, s43, s36, s37, s38]] Q40) fun w42_44 Q45 => 
  bnP (extA (frz w42_44) 0) fun w43_46 => 
  bnP (extA (frz w42_44) 1) fun w44_47 => 
  bnC 7 (stC 7 w43_46) fun s48 s49 s50 s51 s52 s53 s54 => 
  bnC 7 (stC 7 (.agg [s48, s49, s50, s51, s52, s53, s54])) fun s55 s56 s57 s58 s59 s60 s61 => 
  some (.agg [s55, s56, s57, s58, s59, s60, s61], Q45))) := by kernel_rfl
theorem f_feed_Comes {s : PSpecs} (hs : s.lookup 24 = none) (v0_0 v0_1 v0_2 v0_3 v0_4 v0_5 v0_6 v1_0 v1_1 : AV) (Q : AHeap) : callP (penv s) 24 [.agg [v0_0, v0_1, v0_2, v0_3, v0_4, v0_5, v0_6], .agg [v1_0, v1_1]] Q = (
  bnC 7 (stC 7 (.agg [v0_0, v0_1, v0_2, v0_3, v0_4, v0_5, v0_6])) fun s1 s2 s3 s4 s5 s6 s7 => 
  bnC 2 (stC 2 (.agg [v1_0, v1_1])) fun s8 s9 => 
  bnP (binA .eql s1 (.int .i64 0)) fun w7_10 => 
  bnP (gdQ w7_10 false (some s8)) fun w10_11 => 
  bnP (gdQ w7_10 false (binA .lss w10_11 (.int .i64 1))) fun w11_12 => 
  bnP (pickA w7_10 (.bool true) w11_12) fun w12_13 => 
  bnP (gdQ w12_13 false (some s8)) fun w15_14 => 
  bnP (gdQ w12_13 false (binA .gtr w15_14 (.int .i64 1000000))) fun w16_15 => 
  bnP (pickA w12_13 (.bool true) w16_15) fun w17_16 => 
  bnP (gdQ w17_16 false (some s9)) fun w20_17 => 
  bnP (gdQ w17_16 false (lensA w20_17)) fun w21_18 => 
  bnP (gdQ w17_16 false (binA .gtr w21_18 (.int .i64 12))) fun w22_19 => 
  bnP (pickA w17_16 (.bool true) w22_19) fun w23_20 => 
  cndS w23_20 (fun _ => bnS ((callP (penv s)) 37 [.agg [s1, s2, s3, s4, s5, s6, s7]] Q) fun w25_21 Q22 => 
  bnC 7 (stC 7 (frz w25_21)) fun s23 s24 s25 s26 s27 s28 s29 => 
  some (.agg [s23, s24, s25, s26, s27, s28, s29], Q22))
  (fun _ => bnS ((callP (penv s)) 22 [.agg [s1, s2, s3, s4, s5, s6, s7], s8] Q) fun w29_30 Q31 => 
  bnC 7 (stC 7 (frz w29_30)) fun s32 s33 s34 s35 s36 s37 s38 => 
  bnS ((callP (penv s)) 43 [s35, s32, .agg [s8, s9]] Q31) fun w36_39 Q40 => 
  bnP (extA (frz w36_39) 0) fun w37_41 => 
  bnP (extA (frz w36_39) 1) fun w38_42 => 
  bnC 1 (stC 1 w37_41) fun s43 => 
  bnS ((callP (penv s)) 39 [.agg [s32, s33, s34, s43, s36, s37, s38]] Q40) fun w42_44 Q45 => 
  bnP (extA (frz w42_44) 0) fun w43_46 => 
  bnP (extA (frz w42_44) 1) fun w44_47 => 
  bnC 7 (stC 7 w43_46) fun s48 s49 s50 s51 s52 s53 s54 => 
  bnC 7 (stC 7 (.agg [s48, s49, s50, s51, s52, s53, s54])) fun s55 s56 s57 s58 s59 s60 s61 => 
  some (.agg [s55, s56, s57, s58, s59, s60, s61], Q45))) := (callP_fn (fn := pf_feed_Comes) hs rfl [.agg [v0_0, v0_1, v0_2, v0_3, v0_4, v0_5, v0_6], .agg [v1_0, v1_1]] Q rfl).trans (g_feed_Comes v0_0 v0_1 v0_2 v0_3 v0_4 v0_5 v0_6 v1_0 v1_1 Q)
theorem g_pleachlaw18_one {call : CallF} {lp : PLoopF} (v0 : AV) (Q : AHeap) : evalPK call lp c_pleachlaw18_one [(0, .v v0)] [] Q (retPK [.tmp 2] [.n]) = (
  bnP (binA .rem v0 (.int .i64 26)) fun w4_1 => 
  bnP (binA .add (.int .i64 97) w4_1) fun w5_2 => 
  bnP (cviA .u8 w5_2) fun w6_3 => 
  bnP (binA .quo v0 (.int .i64 26)) fun w8_4 => 
  bnP (binA .rem w8_4 (.int .i64 26)) fun w9_5 => 
  bnP (binA .add (.int .i64 97) w9_5) fun w10_6 => 
  bnP (cviA .u8 w10_6) fun w11_7 => 
  pinB (elOk 1 w6_3) <| 
  pinB (elOk 1 w11_7) <| 
  bnP (b2sQ (.fz 1 [w6_3, w11_7])) fun w13_8 => 
  bnP (rcv false .n w13_8) fun r9 => some (r9, Q)) := by kernel_rfl
theorem f_pleachlaw18_one {s : PSpecs} (hs : s.lookup 31 = none) (v0 : AV) (Q : AHeap) : callP (penv s) 31 [v0] Q = (
  bnP (binA .rem v0 (.int .i64 26)) fun w4_1 => 
  bnP (binA .add (.int .i64 97) w4_1) fun w5_2 => 
  bnP (cviA .u8 w5_2) fun w6_3 => 
  bnP (binA .quo v0 (.int .i64 26)) fun w8_4 => 
  bnP (binA .rem w8_4 (.int .i64 26)) fun w9_5 => 
  bnP (binA .add (.int .i64 97) w9_5) fun w10_6 => 
  bnP (cviA .u8 w10_6) fun w11_7 => 
  pinB (elOk 1 w6_3) <| 
  pinB (elOk 1 w11_7) <| 
  bnP (b2sQ (.fz 1 [w6_3, w11_7])) fun w13_8 => 
  bnP (rcv false .n w13_8) fun r9 => some (r9, Q)) := (callP_fn (fn := pf_pleachlaw18_one) hs rfl [v0] Q rfl).trans (g_pleachlaw18_one v0 Q)
theorem g_feed_twin {call : CallF} {lp : PLoopF} (v0_0 v0_1 v0_2 v0_3 v0_4 v0_5 v0_6 : AV) (Q : AHeap) : evalPK call lp c_feed_twin [(0, .v (.agg [v0_0, v0_1, v0_2, v0_3, v0_4, v0_5, v0_6]))] [] Q (retPK [.cell 2 (some 7)] [.n]) = (
  bnC 7 (stC 7 (.agg [v0_0, v0_1, v0_2, v0_3, v0_4, v0_5, v0_6])) fun s1 s2 s3 s4 s5 s6 s7 => 
  bnS (call 56 [s3] Q) fun w5_8 Q9 => 
  bnS (call 56 [s4] Q9) fun w8_10 Q11 => 
  bnS (call 36 [s5] Q11) fun w11_12 Q13 => 
  bnC 1 (stC 1 (frz w5_8)) fun s14 => 
  bnC 1 (stC 1 (frz w8_10)) fun s15 => 
  bnC 1 (stC 1 (frz w11_12)) fun s16 => 
  bnC 7 (stC 7 (.agg [s1, s2, s14, s15, s16, s6, s7])) fun s17 s18 s19 s20 s21 s22 s23 => 
  some (.agg [s17, s18, s19, s20, s21, s22, s23], Q13)) := by kernel_rfl
theorem f_feed_twin {s : PSpecs} (hs : s.lookup 37 = none) (v0_0 v0_1 v0_2 v0_3 v0_4 v0_5 v0_6 : AV) (Q : AHeap) : callP (penv s) 37 [.agg [v0_0, v0_1, v0_2, v0_3, v0_4, v0_5, v0_6]] Q = (
  bnC 7 (stC 7 (.agg [v0_0, v0_1, v0_2, v0_3, v0_4, v0_5, v0_6])) fun s1 s2 s3 s4 s5 s6 s7 => 
  bnS ((callP (penv s)) 56 [s3] Q) fun w5_8 Q9 => 
  bnS ((callP (penv s)) 56 [s4] Q9) fun w8_10 Q11 => 
  bnS ((callP (penv s)) 36 [s5] Q11) fun w11_12 Q13 => 
  bnC 1 (stC 1 (frz w5_8)) fun s14 => 
  bnC 1 (stC 1 (frz w8_10)) fun s15 => 
  bnC 1 (stC 1 (frz w11_12)) fun s16 => 
  bnC 7 (stC 7 (.agg [s1, s2, s14, s15, s16, s6, s7])) fun s17 s18 s19 s20 s21 s22 s23 => 
  some (.agg [s17, s18, s19, s20, s21, s22, s23], Q13)) := (callP_fn (fn := pf_feed_twin) hs rfl [.agg [v0_0, v0_1, v0_2, v0_3, v0_4, v0_5, v0_6]] Q rfl).trans (g_feed_twin v0_0 v0_1 v0_2 v0_3 v0_4 v0_5 v0_6 Q)
theorem g_nak_Goes {call : CallF} {lp : PLoopF} (v0_0 v0_1 v0_2 v0_3 v0_4 v0_5 v0_6 : AV) (Q : AHeap) : evalPK call lp c_nak_Goes [(0, .v (.agg [v0_0, v0_1, v0_2, v0_3, v0_4, v0_5, v0_6]))] [] Q (retPK [.cell 2 (some 7), .tmp 3] [.n, .f 2]) = (
  bnC 7 (stC 7 (.agg [v0_0, v0_1, v0_2, v0_3, v0_4, v0_5, v0_6])) fun s1 s2 s3 s4 s5 s6 s7 => 
  bnS (call 57 [.agg [s1, s2, s3, s4, s5, s6, s7]] Q) fun w5_8 Q9 => 
  bnS (call 60 [(frz w5_8)] Q9) fun w6_10 Q11 => 
  bnP (extA (frz w6_10) 0) fun w7_12 => 
  bnP (extA (frz w6_10) 1) fun w8_13 => 
  bnC 7 (stC 7 w7_12) fun s14 s15 s16 s17 s18 s19 s20 => 
  bnP (rcv false (.f 2) w8_13) fun r21 => some (.tup [.agg [s14, s15, s16, s17, s18, s19, s20], frz r21], Q11)) := by kernel_rfl
theorem f_nak_Goes {s : PSpecs} (hs : s.lookup 39 = none) (v0_0 v0_1 v0_2 v0_3 v0_4 v0_5 v0_6 : AV) (Q : AHeap) : callP (penv s) 39 [.agg [v0_0, v0_1, v0_2, v0_3, v0_4, v0_5, v0_6]] Q = (
  bnC 7 (stC 7 (.agg [v0_0, v0_1, v0_2, v0_3, v0_4, v0_5, v0_6])) fun s1 s2 s3 s4 s5 s6 s7 => 
  bnS ((callP (penv s)) 57 [.agg [s1, s2, s3, s4, s5, s6, s7]] Q) fun w5_8 Q9 => 
  bnS ((callP (penv s)) 60 [(frz w5_8)] Q9) fun w6_10 Q11 => 
  bnP (extA (frz w6_10) 0) fun w7_12 => 
  bnP (extA (frz w6_10) 1) fun w8_13 => 
  bnC 7 (stC 7 w7_12) fun s14 s15 s16 s17 s18 s19 s20 => 
  bnP (rcv false (.f 2) w8_13) fun r21 => some (.tup [.agg [s14, s15, s16, s17, s18, s19, s20], frz r21], Q11)) := (callP_fn (fn := pf_nak_Goes) hs rfl [.agg [v0_0, v0_1, v0_2, v0_3, v0_4, v0_5, v0_6]] Q rfl).trans (g_nak_Goes v0_0 v0_1 v0_2 v0_3 v0_4 v0_5 v0_6 Q)
theorem g_win_Put {call : CallF} {lp : PLoopF} (v0 v1 v2_0 v2_1 : AV) (Q : AHeap) : evalPK call lp c_win_Put [(0, .v v0), (1, .v v1), (2, .v (.agg [v2_0, v2_1]))] [] Q (retPK [.tmp 6, .tmp 7] [.f 2, .n]) = (
  bnC 2 (stC 2 (.agg [v2_0, v2_1])) fun s1 s2 => 
  bnS (call 56 [v0] Q) fun w12_3 Q4 => bnL (owZ 2 w12_3) fun l5 => 
  bnS (call 65 [v0, s1, .fn 66 [] []] Q4) fun w17_6 Q7 => 
  bnP (extA (frz w17_6) 0) fun w18_8 => 
  bnP (extA (frz w17_6) 1) fun w19_9 => 
  bnP (gdQ w19_9 false (some s1)) fun w23_10 => 
  bnP (gdQ w19_9 false (some v1)) fun w24_11 => 
  bnP (gdQ w19_9 false (binA .lss w23_10 w24_11)) fun w25_12 => 
  bnP (pickA w19_9 (.bool true) w25_12) fun w26_13 => 
  bnP (gdQ w26_13 false (some s1)) fun w29_14 => 
  bnP (gdQ w26_13 false (some v1)) fun w30_15 => 
  bnP (gdQ w26_13 false (binA .sub w29_14 w30_15)) fun w31_16 => 
  bnP (gdQ w26_13 false (binA .geq w31_16 (.int .i64 8))) fun w32_17 => 
  bnP (pickA w26_13 (.bool true) w32_17) fun w33_18 => 
  cndS w33_18 (fun _ => some (.tup [.fz 2 l5, .bool false], Q7))
  (fun _ => pinB (elOk 2 (.agg [s1, s2])) <| 
  bnS (call 1000068 [.ow 2 l5, w18_8, .lt 2 [.agg [s1, s2]]] Q7) fun w39_19 Q20 => bnL (owZ 2 w39_19) fun l21 => 
  some (.tup [.fz 2 l21, .bool true], Q20))) := by kernel_rfl
theorem f_win_Put {s : PSpecs} (hs : s.lookup 43 = none) (v0 v1 v2_0 v2_1 : AV) (Q : AHeap) : callP (penv s) 43 [v0, v1, .agg [v2_0, v2_1]] Q = (
  bnC 2 (stC 2 (.agg [v2_0, v2_1])) fun s1 s2 => 
  bnS ((callP (penv s)) 56 [v0] Q) fun w12_3 Q4 => bnL (owZ 2 w12_3) fun l5 => 
  bnS ((callP (penv s)) 65 [v0, s1, .fn 66 [] []] Q4) fun w17_6 Q7 => 
  bnP (extA (frz w17_6) 0) fun w18_8 => 
  bnP (extA (frz w17_6) 1) fun w19_9 => 
  bnP (gdQ w19_9 false (some s1)) fun w23_10 => 
  bnP (gdQ w19_9 false (some v1)) fun w24_11 => 
  bnP (gdQ w19_9 false (binA .lss w23_10 w24_11)) fun w25_12 => 
  bnP (pickA w19_9 (.bool true) w25_12) fun w26_13 => 
  bnP (gdQ w26_13 false (some s1)) fun w29_14 => 
  bnP (gdQ w26_13 false (some v1)) fun w30_15 => 
  bnP (gdQ w26_13 false (binA .sub w29_14 w30_15)) fun w31_16 => 
  bnP (gdQ w26_13 false (binA .geq w31_16 (.int .i64 8))) fun w32_17 => 
  bnP (pickA w26_13 (.bool true) w32_17) fun w33_18 => 
  cndS w33_18 (fun _ => some (.tup [.fz 2 l5, .bool false], Q7))
  (fun _ => pinB (elOk 2 (.agg [s1, s2])) <| 
  bnS ((callP (penv s)) 1000068 [.ow 2 l5, w18_8, .lt 2 [.agg [s1, s2]]] Q7) fun w39_19 Q20 => bnL (owZ 2 w39_19) fun l21 => 
  some (.tup [.fz 2 l21, .bool true], Q20))) := (callP_fn (fn := pf_win_Put) hs rfl [v0, v1, .agg [v2_0, v2_1]] Q rfl).trans (g_win_Put v0 v1 v2_0 v2_1 Q)
theorem g_log_Tell {call : CallF} {lp : PLoopF} (v0 v1 v2 : AV) (Q : AHeap) : evalPK call lp c_log_Tell [(0, .v v0), (1, .v v1), (2, .v v2)] [] Q (retPK [.tmp 6] [.o 5]) = (
  bnS (call 36 [v0] Q) fun w8_1 Q2 => bnL (owZ 5 w8_1) fun l3 => 
  bnC 5 (fillP [.int .i64 0, .int .i64 0, .int .i64 0, .str [], .int .i64 0] [(0, 1, .int .i64 1), (1, 1, v1), (2, 1, v1), (3, 1, v2)]) fun c12_4 c12_5 c12_6 c12_7 c12_8 => 
  pinB (elOk 5 (.agg [c12_4, c12_5, c12_6, c12_7, c12_8])) <| 
  pinB (room 48 ((l3 : List AV).length + (([.agg [c12_4, c12_5, c12_6, c12_7, c12_8]] : List AV) : List AV).length)) <| 
  some (.ow 5 (l3 ++ ([.agg [c12_4, c12_5, c12_6, c12_7, c12_8]] : List AV)), Q2)) := by kernel_rfl
theorem f_log_Tell {s : PSpecs} (hs : s.lookup 45 = none) (v0 v1 v2 : AV) (Q : AHeap) : callP (penv s) 45 [v0, v1, v2] Q = (
  bnS ((callP (penv s)) 36 [v0] Q) fun w8_1 Q2 => bnL (owZ 5 w8_1) fun l3 => 
  bnC 5 (fillP [.int .i64 0, .int .i64 0, .int .i64 0, .str [], .int .i64 0] [(0, 1, .int .i64 1), (1, 1, v1), (2, 1, v1), (3, 1, v2)]) fun c12_4 c12_5 c12_6 c12_7 c12_8 => 
  pinB (elOk 5 (.agg [c12_4, c12_5, c12_6, c12_7, c12_8])) <| 
  pinB (room 48 ((l3 : List AV).length + (([.agg [c12_4, c12_5, c12_6, c12_7, c12_8]] : List AV) : List AV).length)) <| 
  some (.ow 5 (l3 ++ ([.agg [c12_4, c12_5, c12_6, c12_7, c12_8]] : List AV)), Q2)) := (callP_fn (fn := pf_log_Tell) hs rfl [v0, v1, v2] Q rfl).trans (g_log_Tell v0 v1 v2 Q)
theorem g_ring_Add {call : CallF} {lp : PLoopF} (v0 v1_0 v1_1 : AV) (Q : AHeap) : evalPK call lp c_ring_Add [(0, .v v0), (1, .v (.agg [v1_0, v1_1]))] [] Q (retPK [.tmp 4] [.o 2]) = (
  bnC 2 (stC 2 (.agg [v1_0, v1_1])) fun s1 s2 => 
  bnS (call 56 [v0] Q) fun w7_3 Q4 => bnL (owZ 2 w7_3) fun l5 => 
  bnP (lenQ v0) fun w9_6 => 
  bnP (binA .gtr w9_6 (.int .i64 0)) fun w10_7 => 
  bnP (gdQ w10_7 true (some s1)) fun w13_8 => 
  bnP (gdQ w10_7 true (some v0)) fun w14_9 => 
  bnP (gdQ w10_7 true (some v0)) fun w15_10 => 
  bnP (gdQ w10_7 true (lenQ w15_10)) fun w16_11 => 
  bnP (gdQ w10_7 true (binA .sub w16_11 (.int .i64 1))) fun w17_12 => 
  bnP (gdQ w10_7 true (elQ 2 w14_9 w17_12)) fun e13 => 
  bnP (gdQ w10_7 true ((AV.cells e13)[0]?)) fun w20_14 => 
  bnP (gdQ w10_7 true (binA .leq w13_8 w20_14)) fun w21_15 => 
  bnP (pickA w10_7 w21_15 (.bool false)) fun w22_16 => 
  cndS w22_16 (fun _ => some (.ow 2 l5, Q4))
  (fun _ => pinB (elOk 2 (.agg [s1, s2])) <| 
  pinB (room 24 ((l5 : List AV).length + (([.agg [s1, s2]] : List AV) : List AV).length)) <| 
  bnP (binA .sub (.int .i64 (((l5 ++ ([.agg [s1, s2]] : List AV)) : List AV).length : Nat)) (.int .i64 6)) fun w31_17 => 
  bnP (mxiA [w31_17, .int .i64 0]) fun w32_18 => 
  bnP (slcQ 2 (.fz 2 (l5 ++ ([.agg [s1, s2]] : List AV))) (some w32_18) none) fun w33_19 => 
  bnS (call 56 [w33_19] Q4) fun w34_20 Q21 => bnL (owZ 2 w34_20) fun l22 => 
  some (.ow 2 l22, Q21))) := by kernel_rfl
theorem f_ring_Add {s : PSpecs} (hs : s.lookup 46 = none) (v0 v1_0 v1_1 : AV) (Q : AHeap) : callP (penv s) 46 [v0, .agg [v1_0, v1_1]] Q = (
  bnC 2 (stC 2 (.agg [v1_0, v1_1])) fun s1 s2 => 
  bnS ((callP (penv s)) 56 [v0] Q) fun w7_3 Q4 => bnL (owZ 2 w7_3) fun l5 => 
  bnP (lenQ v0) fun w9_6 => 
  bnP (binA .gtr w9_6 (.int .i64 0)) fun w10_7 => 
  bnP (gdQ w10_7 true (some s1)) fun w13_8 => 
  bnP (gdQ w10_7 true (some v0)) fun w14_9 => 
  bnP (gdQ w10_7 true (some v0)) fun w15_10 => 
  bnP (gdQ w10_7 true (lenQ w15_10)) fun w16_11 => 
  bnP (gdQ w10_7 true (binA .sub w16_11 (.int .i64 1))) fun w17_12 => 
  bnP (gdQ w10_7 true (elQ 2 w14_9 w17_12)) fun e13 => 
  bnP (gdQ w10_7 true ((AV.cells e13)[0]?)) fun w20_14 => 
  bnP (gdQ w10_7 true (binA .leq w13_8 w20_14)) fun w21_15 => 
  bnP (pickA w10_7 w21_15 (.bool false)) fun w22_16 => 
  cndS w22_16 (fun _ => some (.ow 2 l5, Q4))
  (fun _ => pinB (elOk 2 (.agg [s1, s2])) <| 
  pinB (room 24 ((l5 : List AV).length + (([.agg [s1, s2]] : List AV) : List AV).length)) <| 
  bnP (binA .sub (.int .i64 (((l5 ++ ([.agg [s1, s2]] : List AV)) : List AV).length : Nat)) (.int .i64 6)) fun w31_17 => 
  bnP (mxiA [w31_17, .int .i64 0]) fun w32_18 => 
  bnP (slcQ 2 (.fz 2 (l5 ++ ([.agg [s1, s2]] : List AV))) (some w32_18) none) fun w33_19 => 
  bnS ((callP (penv s)) 56 [w33_19] Q4) fun w34_20 Q21 => bnL (owZ 2 w34_20) fun l22 => 
  some (.ow 2 l22, Q21))) := (callP_fn (fn := pf_ring_Add) hs rfl [v0, .agg [v1_0, v1_1]] Q rfl).trans (g_ring_Add v0 v1_0 v1_1 Q)
theorem g_nak_twin {call : CallF} {lp : PLoopF} (v0_0 v0_1 v0_2 v0_3 v0_4 v0_5 v0_6 : AV) (Q : AHeap) : evalPK call lp c_nak_twin [(0, .v (.agg [v0_0, v0_1, v0_2, v0_3, v0_4, v0_5, v0_6]))] [] Q (retPK [.cell 2 (some 7)] [.n]) = (
  bnC 7 (stC 7 (.agg [v0_0, v0_1, v0_2, v0_3, v0_4, v0_5, v0_6])) fun s1 s2 s3 s4 s5 s6 s7 => 
  bnS (call 56 [s3] Q) fun w5_8 Q9 => 
  bnS (call 56 [s4] Q9) fun w8_10 Q11 => 
  bnS (call 36 [s5] Q11) fun w11_12 Q13 => 
  bnC 1 (stC 1 (frz w5_8)) fun s14 => 
  bnC 1 (stC 1 (frz w8_10)) fun s15 => 
  bnC 1 (stC 1 (frz w11_12)) fun s16 => 
  bnC 7 (stC 7 (.agg [s1, s2, s14, s15, s16, s6, s7])) fun s17 s18 s19 s20 s21 s22 s23 => 
  some (.agg [s17, s18, s19, s20, s21, s22, s23], Q13)) := by kernel_rfl
theorem f_nak_twin {s : PSpecs} (hs : s.lookup 57 = none) (v0_0 v0_1 v0_2 v0_3 v0_4 v0_5 v0_6 : AV) (Q : AHeap) : callP (penv s) 57 [.agg [v0_0, v0_1, v0_2, v0_3, v0_4, v0_5, v0_6]] Q = (
  bnC 7 (stC 7 (.agg [v0_0, v0_1, v0_2, v0_3, v0_4, v0_5, v0_6])) fun s1 s2 s3 s4 s5 s6 s7 => 
  bnS ((callP (penv s)) 56 [s3] Q) fun w5_8 Q9 => 
  bnS ((callP (penv s)) 56 [s4] Q9) fun w8_10 Q11 => 
  bnS ((callP (penv s)) 36 [s5] Q11) fun w11_12 Q13 => 
  bnC 1 (stC 1 (frz w5_8)) fun s14 => 
  bnC 1 (stC 1 (frz w8_10)) fun s15 => 
  bnC 1 (stC 1 (frz w11_12)) fun s16 => 
  bnC 7 (stC 7 (.agg [s1, s2, s14, s15, s16, s6, s7])) fun s17 s18 s19 s20 s21 s22 s23 => 
  some (.agg [s17, s18, s19, s20, s21, s22, s23], Q13)) := (callP_fn (fn := pf_nak_twin) hs rfl [.agg [v0_0, v0_1, v0_2, v0_3, v0_4, v0_5, v0_6]] Q rfl).trans (g_nak_twin v0_0 v0_1 v0_2 v0_3 v0_4 v0_5 v0_6 Q)
theorem p_nak_tells_0 {β : Type} (call : CallF) (lp : PLoopF) (s1_0 s1_1 s1_2 s1_3 s1_4 s1_5 s1_6 s2_0 s2_1 s2_2 s2_3 s2_4 s2_5 s2_6 : AV) (l4 : List AV) (Q : AHeap) (k : PK β) : evalPK call lp c_nak_tells_0 [(1, .lp 1 0), (2, .lp 2 0), (4, .ls 4)] [(1, .cells [s1_0, s1_1, s1_2, s1_3, s1_4, s1_5, s1_6]), (2, .cells [s2_0, s2_1, s2_2, s2_3, s2_4, s2_5, s2_6]), (4, .own 2 l4)] Q k = (
  bnS (call 72 [s1_3, s1_0] Q) fun w13_1 Q2 => 
  bnP (extA (frz w13_1) 0) fun w14_3 => 
  bnP (extA (frz w13_1) 1) fun w15_4 => 
  bnP (extA (frz w13_1) 2) fun w16_5 => 
  bnC 2 (stC 2 w15_4) fun s6 s7 => 
  bnP (unA .not w16_5) fun w18_8 => 
  cndS w18_8 (fun _ => k (.exit 0) [(1, .lp 1 0), (2, .lp 2 0), (4, .ls 4)] [(1, .cells [s1_0, s1_1, s1_2, s1_3, s1_4, s1_5, s1_6]), (2, .cells [s2_0, s2_1, s2_2, s2_3, s2_4, s2_5, s2_6]), (4, .own 2 l4)] Q2)
  (fun _ => bnS (call 45 [s1_4, s6, s7] Q2) fun w26_9 Q10 => 
  bnS (call 46 [s1_2, .agg [s6, s7]] Q10) fun w30_11 Q12 => 
  bnC 1 (stC 1 w14_3) fun s13 => 
  bnC 1 (stC 1 (frz w26_9)) fun s14 => 
  bnC 1 (stC 1 (frz w30_11)) fun s15 => 
  bnP (binA .add s1_0 (.int .i64 1)) fun w36_16 => 
  bnC 1 (stC 1 w36_16) fun s17 => 
  pinB (elOk 2 (.agg [s6, s7])) <| 
  pinB (room 24 ((l4 : List AV).length + (([.agg [s6, s7]] : List AV) : List AV).length)) <| 
  k .normal [(1, .lp 1 0), (2, .lp 2 0), (4, .ls 4)] [(1, .cells [s17, s1_1, s15, s13, s14, s1_5, s1_6]), (2, .cells [s2_0, s2_1, s2_2, s2_3, s2_4, s2_5, s2_6]), (4, .own 2 (l4 ++ ([.agg [s6, s7]] : List AV)))] Q12)) := by kernel_rfl
noncomputable def L_nak_tells_0 (s : PSpecs) (s1_0 s1_1 s1_2 s1_3 s1_4 s1_5 s1_6 s2_0 s2_1 s2_2 s2_3 s2_4 s2_5 s2_6 : AV) (l4 : List AV) (Q : AHeap) : Option PEnd := loopP (penv s) c_nak_tells_0 [(1, .lp 1 0), (2, .lp 2 0), (4, .ls 4)] [(1, .cells [s1_0, s1_1, s1_2, s1_3, s1_4, s1_5, s1_6]), (2, .cells [s2_0, s2_1, s2_2, s2_3, s2_4, s2_5, s2_6]), (4, .own 2 l4)] Q
theorem L_nak_tells_0_fold (s : PSpecs) (s1_0 s1_1 s1_2 s1_3 s1_4 s1_5 s1_6 s2_0 s2_1 s2_2 s2_3 s2_4 s2_5 s2_6 : AV) (l4 : List AV) (Q : AHeap) : loopP (penv s) c_nak_tells_0 [(1, .lp 1 0), (2, .lp 2 0), (4, .ls 4)] [(1, .cells [s1_0, s1_1, s1_2, s1_3, s1_4, s1_5, s1_6]), (2, .cells [s2_0, s2_1, s2_2, s2_3, s2_4, s2_5, s2_6]), (4, .own 2 l4)] Q = L_nak_tells_0 s s1_0 s1_1 s1_2 s1_3 s1_4 s1_5 s1_6 s2_0 s2_1 s2_2 s2_3 s2_4 s2_5 s2_6 l4 Q := rfl
theorem L_nak_tells_0_eq (s : PSpecs) (s1_0 s1_1 s1_2 s1_3 s1_4 s1_5 s1_6 s2_0 s2_1 s2_2 s2_3 s2_4 s2_5 s2_6 : AV) (l4 : List AV) (Q : AHeap) : L_nak_tells_0 s s1_0 s1_1 s1_2 s1_3 s1_4 s1_5 s1_6 s2_0 s2_1 s2_2 s2_3 s2_4 s2_5 s2_6 l4 Q = evalPK (callP (penv s)) (loopP (penv s)) c_nak_tells_0 [(1, .lp 1 0), (2, .lp 2 0), (4, .ls 4)] [(1, .cells [s1_0, s1_1, s1_2, s1_3, s1_4, s1_5, s1_6]), (2, .cells [s2_0, s2_1, s2_2, s2_3, s2_4, s2_5, s2_6]), (4, .own 2 l4)] Q (goX (fun τ ω Q => loopP (penv s) c_nak_tells_0 τ ω Q) ret4) := loopP_body
abbrev X_nak_tells_0_x0 (s1_0 s1_1 s1_2 s1_3 s1_4 s1_5 s1_6 s2_0 s2_1 s2_2 s2_3 s2_4 s2_5 s2_6 : AV) (l4 : List AV) (Q : AHeap) : Option PEnd := some (.exit 0, [(1, .lp 1 0), (2, .lp 2 0), (4, .ls 4)], [(1, .cells [s1_0, s1_1, s1_2, s1_3, s1_4, s1_5, s1_6]), (2, .cells [s2_0, s2_1, s2_2, s2_3, s2_4, s2_5, s2_6]), (4, .own 2 l4)], Q)
theorem p_nak_tells_1 {β : Type} (call : CallF) (lp : PLoopF) (s1_0 s1_1 s1_2 s1_3 s1_4 s1_5 s1_6 s2_0 s2_1 s2_2 s2_3 s2_4 s2_5 s2_6 : AV) (l4 : List AV) (Q : AHeap) (k : PK β) : evalPK call lp c_nak_tells_1 [(1, .lp 1 0), (2, .lp 2 0), (4, .ls 4)] [(1, .cells [s1_0, s1_1, s1_2, s1_3, s1_4, s1_5, s1_6]), (2, .cells [s2_0, s2_1, s2_2, s2_3, s2_4, s2_5, s2_6]), (4, .own 2 l4)] Q k = (
  bnC 7 (stC 7 (.agg [s1_0, s1_1, s1_2, s1_3, s1_4, s1_5, s1_6])) fun s1 s2 s3 s4 s5 s6 s7 => 
  k .ret [(3, .ls 4), (48, .ls 4), (47, .v (.agg [s1_0, s1_1, s1_2, s1_3, s1_4, s1_5, s1_6])), (1, .lp 1 0), (2, .lp 2 0), (4, .ls 4)] [(2, .cells [s1, s2, s3, s4, s5, s6, s7]), (1, .cells [s1_0, s1_1, s1_2, s1_3, s1_4, s1_5, s1_6]), (4, .own 2 l4)] Q) := by kernel_rfl
theorem p_nak_tells_2 {β : Type} (call : CallF) (lp : PLoopF) (s1_0 s1_1 s1_2 s1_3 s1_4 s1_5 s1_6 s2_0 s2_1 s2_2 s2_3 s2_4 s2_5 s2_6 : AV) (l4 : List AV) (Q : AHeap) (k : PK β) : evalPK call lp c_nak_tells_2 [(1, .lp 1 0), (2, .lp 2 0), (4, .ls 4)] [(1, .cells [s1_0, s1_1, s1_2, s1_3, s1_4, s1_5, s1_6]), (2, .cells [s2_0, s2_1, s2_2, s2_3, s2_4, s2_5, s2_6]), (4, .own 2 l4)] Q k = (
  bnX (bnP (binA .gtr (.int .i64 ((l4 : List AV).length : Nat)) (.int .i64 0)) fun w44_1 => 
  cndS w44_1 (fun _ => bnS (call 61 [] Q) fun w45_2 Q3 => 
  bnC 2 (stC 2 (frz w45_2)) fun s4 s5 => 
  some (.normal, [(1, .lp 1 0), (2, .lp 2 0), (4, .ls 4)], [(1, .cells [s1_0, s1_1, s1_2, s1_3, s1_4, s4, s5]), (2, .cells [s2_0, s2_1, s2_2, s2_3, s2_4, s2_5, s2_6]), (4, .own 2 l4)], Q3))
  (fun _ => some (.normal, [(1, .lp 1 0), (2, .lp 2 0), (4, .ls 4)], [(1, .cells [s1_0, s1_1, s1_2, s1_3, s1_4, s1_5, s1_6]), (2, .cells [s2_0, s2_1, s2_2, s2_3, s2_4, s2_5, s2_6]), (4, .own 2 l4)], Q)))
  (goC (evalPK call lp c_nak_tells_1) k)) := by kernel_rfl
theorem g_nak_tells {call : CallF} {lp : PLoopF} (v0_0 v0_1 v0_2 v0_3 v0_4 v0_5 v0_6 : AV) (Q : AHeap) : evalPK call lp c_nak_tells [(0, .v (.agg [v0_0, v0_1, v0_2, v0_3, v0_4, v0_5, v0_6]))] [] Q (retPK [.cell 2 (some 7), .tmp 3] [.n, .f 2]) = (
  bnC 7 (stC 7 (.agg [v0_0, v0_1, v0_2, v0_3, v0_4, v0_5, v0_6])) fun s1 s2 s3 s4 s5 s6 s7 => 
  bnX (lp c_nak_tells_0 [(1, .lp 1 0), (2, .lp 2 0), (4, .ls 4)] [(1, .cells [s1, s2, s3, s4, s5, s6, s7]), (2, .cells [.int .i64 0, .int .i64 0, .nils, .nils, .nils, .int .i64 0, .int .i64 0]), (4, .own 2 ([] : List AV))] Q) (outX 0 (goC (evalPK call lp c_nak_tells_2) (retPK [.cell 2 (some 7), .tmp 3] [.n, .f 2])))) := by kernel_rfl
theorem f_nak_tells {s : PSpecs} (hs : s.lookup 60 = none) (v0_0 v0_1 v0_2 v0_3 v0_4 v0_5 v0_6 : AV) (Q : AHeap) : callP (penv s) 60 [.agg [v0_0, v0_1, v0_2, v0_3, v0_4, v0_5, v0_6]] Q = (
  bnC 7 (stC 7 (.agg [v0_0, v0_1, v0_2, v0_3, v0_4, v0_5, v0_6])) fun s1 s2 s3 s4 s5 s6 s7 => 
  bnX ((loopP (penv s)) c_nak_tells_0 [(1, .lp 1 0), (2, .lp 2 0), (4, .ls 4)] [(1, .cells [s1, s2, s3, s4, s5, s6, s7]), (2, .cells [.int .i64 0, .int .i64 0, .nils, .nils, .nils, .int .i64 0, .int .i64 0]), (4, .own 2 ([] : List AV))] Q) (outX 0 (goC (evalPK (callP (penv s)) (loopP (penv s)) c_nak_tells_2) (retPK [.cell 2 (some 7), .tmp 3] [.n, .f 2])))) := (callP_fn (fn := pf_nak_tells) hs rfl [.agg [v0_0, v0_1, v0_2, v0_3, v0_4, v0_5, v0_6]] Q rfl).trans (g_nak_tells v0_0 v0_1 v0_2 v0_3 v0_4 v0_5 v0_6 Q)
theorem g_wait_Start {call : CallF} {lp : PLoopF} (Q : AHeap) : evalPK call lp c_wait_Start [] [] Q (retPK [.cell 0 (some 2)] [.n]) = (
  some (.agg [.int .i64 0, .int .i64 0], Q)) := by kernel_rfl
theorem f_wait_Start {s : PSpecs} (hs : s.lookup 61 = none) (Q : AHeap) : callP (penv s) 61 [] Q = (
  some (.agg [.int .i64 0, .int .i64 0], Q)) := (callP_fn (fn := pf_wait_Start) hs rfl [] Q rfl).trans (g_wait_Start Q)
theorem p_slices_BinarySearchFunc_api_Item_api_Item_int_0 {β : Type} (call : CallF) (lp : PLoopF) (t0 t1 t2 t8 t9 t10 : AV) (Q : AHeap) (k : PK β) : evalPK call lp c_slices_BinarySearchFunc_api_Item_api_Item_int_0 [(0, .v t0), (1, .v t1), (2, .v t2), (8, .v t8), (9, .v t9), (10, .v t10)] [] Q k = (
  bnP (binA .lss t9 t10) fun w17_1 => 
  cndS w17_1 (fun _ => bnX (bnP (binA .add t9 t10) fun w20_2 => 
  bnP (cviA .u64 w20_2) fun w21_3 => 
  bnP (binA .shr w21_3 (.int .u64 1)) fun w22_4 => 
  bnP (cviA .i64 w22_4) fun w23_5 => 
  bnP (elQ 2 t0 w23_5) fun e6 => 
  bnC 2 (cut (AV.cells e6) 0 2) fun c28_7 c28_8 => 
  bnF t2 fun f11 f11f f11c => 
  bnS (lowF call f11 (f11f ++ [.agg [c28_7, c28_8], t1] ++ f11c) Q) fun w30_9 Q10 => 
  bnP (binA .lss (frz w30_9) (.int .i64 0)) fun w31_12 => 
  cndS w31_12 (fun _ => bnP (binA .add w23_5 (.int .i64 1)) fun w33_13 => 
  some (.normal, [(0, .v t0), (1, .v t1), (2, .v t2), (8, .v t8), (9, .v w33_13), (10, .v t10)], [], Q10))
  (fun _ => some (.normal, [(0, .v t0), (1, .v t1), (2, .v t2), (8, .v t8), (9, .v t9), (10, .v w23_5)], [], Q10)))
  (outX 1 (finC [] [] [0, 1, 2, 8, 9, 10] [] k)))
  (fun _ => k (.exit 0) [(0, .v t0), (1, .v t1), (2, .v t2), (8, .v t8), (9, .v t9)] [] Q)) := by kernel_rfl
noncomputable def L_slices_BinarySearchFunc_api_Item_api_Item_int_0 (s : PSpecs) (t0 t1 t2 t8 t9 t10 : AV) (Q : AHeap) : Option PEnd := loopP (penv s) c_slices_BinarySearchFunc_api_Item_api_Item_int_0 [(0, .v t0), (1, .v t1), (2, .v t2), (8, .v t8), (9, .v t9), (10, .v t10)] [] Q
theorem L_slices_BinarySearchFunc_api_Item_api_Item_int_0_fold (s : PSpecs) (t0 t1 t2 t8 t9 t10 : AV) (Q : AHeap) : loopP (penv s) c_slices_BinarySearchFunc_api_Item_api_Item_int_0 [(0, .v t0), (1, .v t1), (2, .v t2), (8, .v t8), (9, .v t9), (10, .v t10)] [] Q = L_slices_BinarySearchFunc_api_Item_api_Item_int_0 s t0 t1 t2 t8 t9 t10 Q := rfl
theorem L_slices_BinarySearchFunc_api_Item_api_Item_int_0_eq (s : PSpecs) (t0 t1 t2 t8 t9 t10 : AV) (Q : AHeap) : L_slices_BinarySearchFunc_api_Item_api_Item_int_0 s t0 t1 t2 t8 t9 t10 Q = evalPK (callP (penv s)) (loopP (penv s)) c_slices_BinarySearchFunc_api_Item_api_Item_int_0 [(0, .v t0), (1, .v t1), (2, .v t2), (8, .v t8), (9, .v t9), (10, .v t10)] [] Q (goX (fun τ ω Q => loopP (penv s) c_slices_BinarySearchFunc_api_Item_api_Item_int_0 τ ω Q) ret4) := loopP_body
abbrev X_slices_BinarySearchFunc_api_Item_api_Item_int_0_x0 (t0 t1 t2 t8 t9 : AV) (Q : AHeap) : Option PEnd := some (.exit 0, [(0, .v t0), (1, .v t1), (2, .v t2), (8, .v t8), (9, .v t9)], [], Q)
theorem p_slices_BinarySearchFunc_api_Item_api_Item_int_1 {β : Type} (call : CallF) (lp : PLoopF) (t0 t1 t2 t8 t9 : AV) (Q : AHeap) (k : PK β) : evalPK call lp c_slices_BinarySearchFunc_api_Item_api_Item_int_1 [(0, .v t0), (1, .v t1), (2, .v t2), (8, .v t8), (9, .v t9)] [] Q k = (
  bnP (binA .lss t9 t8) fun w38_1 => 
  bnP (gdQ w38_1 true (some t2)) fun w40_2 => 
  bnP (gdQ w38_1 true (some t0)) fun w41_3 => 
  bnP (gdQ w38_1 true (some t9)) fun w42_4 => 
  bnP (gdQ w38_1 true (elQ 2 w41_3 w42_4)) fun e5 => 
  bnP (gdQ w38_1 true ((cut (AV.cells e5) 0 2).map AV.agg)) fun w44_6 => 
  bnP (gdQ w38_1 true (some t1)) fun w45_7 => 
  bnS (gdH w38_1 true (bnF w40_2 fun f10 f10f f10c => lowF call f10 (f10f ++ [w44_6, w45_7] ++ f10c) Q) Q) fun w46_8 Q9 => 
  bnP (gdQ w38_1 true (binA .eql (frz w46_8) (.int .i64 0))) fun w47_11 => 
  bnP (pickA w38_1 w47_11 (.bool false)) fun w48_12 => 
  k .ret [(7, .v w48_12), (6, .v t9), (48, .v w48_12), (47, .v w47_11), (46, .v (frz w46_8)), (45, .v w45_7), (44, .v w44_6), (43, .gd 39 true (.fp e5 0)), (42, .v w42_4), (41, .v w41_3), (40, .v w40_2), (39, .v w38_1), (38, .v w38_1), (37, .v t8), (36, .v t9), (35, .v t9), (0, .v t0), (1, .v t1), (2, .v t2), (8, .v t8), (9, .v t9)] [] Q9) := by kernel_rfl
theorem g_slices_BinarySearchFunc_api_Item_api_Item_int {call : CallF} {lp : PLoopF} (v0 v1 v2 : AV) (Q : AHeap) : evalPK call lp c_slices_BinarySearchFunc_api_Item_api_Item_int [(0, .v v0), (1, .v v1), (2, .v v2)] [] Q (retPK [.tmp 6, .tmp 7] [.n, .n]) = (
  bnP (lenQ v0) fun w13_1 => 
  bnX (lp c_slices_BinarySearchFunc_api_Item_api_Item_int_0 [(0, .v v0), (1, .v v1), (2, .v v2), (8, .v w13_1), (9, .v (.int .i64 0)), (10, .v w13_1)] [] Q) (outX 0 (goC (evalPK call lp c_slices_BinarySearchFunc_api_Item_api_Item_int_1) (retPK [.tmp 6, .tmp 7] [.n, .n])))) := by kernel_rfl
theorem f_slices_BinarySearchFunc_api_Item_api_Item_int {s : PSpecs} (hs : s.lookup 65 = none) (v0 v1 v2 : AV) (Q : AHeap) : callP (penv s) 65 [v0, v1, v2] Q = (
  bnP (lenQ v0) fun w13_1 => 
  bnX ((loopP (penv s)) c_slices_BinarySearchFunc_api_Item_api_Item_int_0 [(0, .v v0), (1, .v v1), (2, .v v2), (8, .v w13_1), (9, .v (.int .i64 0)), (10, .v w13_1)] [] Q) (outX 0 (goC (evalPK (callP (penv s)) (loopP (penv s)) c_slices_BinarySearchFunc_api_Item_api_Item_int_1) (retPK [.tmp 6, .tmp 7] [.n, .n])))) := (callP_fn (fn := pf_slices_BinarySearchFunc_api_Item_api_Item_int) hs rfl [v0, v1, v2] Q rfl).trans (g_slices_BinarySearchFunc_api_Item_api_Item_int v0 v1 v2 Q)
theorem g_win_Put_1 {call : CallF} {lp : PLoopF} (v0_0 v0_1 v1 : AV) (Q : AHeap) : evalPK call lp c_win_Put_1 [(0, .v (.agg [v0_0, v0_1])), (1, .v v1)] [] Q (retPK [.tmp 4] [.n]) = (
  bnC 2 (stC 2 (.agg [v0_0, v0_1])) fun s1 s2 => 
  bnS (call 67 [s1, v1] Q) fun w8_3 Q4 => 
  bnP (rcv false .n (frz w8_3)) fun r5 => some (r5, Q4)) := by kernel_rfl
theorem f_win_Put_1 {s : PSpecs} (hs : s.lookup 66 = none) (v0_0 v0_1 v1 : AV) (Q : AHeap) : callP (penv s) 66 [.agg [v0_0, v0_1], v1] Q = (
  bnC 2 (stC 2 (.agg [v0_0, v0_1])) fun s1 s2 => 
  bnS ((callP (penv s)) 67 [s1, v1] Q) fun w8_3 Q4 => 
  bnP (rcv false .n (frz w8_3)) fun r5 => some (r5, Q4)) := (callP_fn (fn := pf_win_Put_1) hs rfl [.agg [v0_0, v0_1], v1] Q rfl).trans (g_win_Put_1 v0_0 v0_1 v1 Q)
theorem g_cmp_Compare_int {call : CallF} {lp : PLoopF} (v0 v1 : AV) (Q : AHeap) : evalPK call lp c_cmp_Compare_int [(0, .v v0), (1, .v v1)] [] Q (retPK [.tmp 4] [.n]) = (
  bnS (call 73 [v0] Q) fun w8_1 Q2 => 
  bnS (call 73 [v1] Q2) fun w10_3 Q4 => 
  cndS (frz w8_1) (fun _ => cndS (frz w10_3) (fun _ => some (.int .i64 0, Q4))
  (fun _ => some (.int .i64 (-1), Q4)))
  (fun _ => cndS (frz w10_3) (fun _ => some (.int .i64 1, Q4))
  (fun _ => bnP (binA .lss v0 v1) fun w16_5 => 
  cndS w16_5 (fun _ => some (.int .i64 (-1), Q4))
  (fun _ => bnP (binA .gtr v0 v1) fun w19_6 => 
  cndS w19_6 (fun _ => some (.int .i64 1, Q4))
  (fun _ => some (.int .i64 0, Q4)))))) := by kernel_rfl
theorem f_cmp_Compare_int {s : PSpecs} (hs : s.lookup 67 = none) (v0 v1 : AV) (Q : AHeap) : callP (penv s) 67 [v0, v1] Q = (
  bnS ((callP (penv s)) 73 [v0] Q) fun w8_1 Q2 => 
  bnS ((callP (penv s)) 73 [v1] Q2) fun w10_3 Q4 => 
  cndS (frz w8_1) (fun _ => cndS (frz w10_3) (fun _ => some (.int .i64 0, Q4))
  (fun _ => some (.int .i64 (-1), Q4)))
  (fun _ => cndS (frz w10_3) (fun _ => some (.int .i64 1, Q4))
  (fun _ => bnP (binA .lss v0 v1) fun w16_5 => 
  cndS w16_5 (fun _ => some (.int .i64 (-1), Q4))
  (fun _ => bnP (binA .gtr v0 v1) fun w19_6 => 
  cndS w19_6 (fun _ => some (.int .i64 1, Q4))
  (fun _ => some (.int .i64 0, Q4)))))) := (callP_fn (fn := pf_cmp_Compare_int) hs rfl [v0, v1] Q rfl).trans (g_cmp_Compare_int v0 v1 Q)
theorem g_win_First {call : CallF} {lp : PLoopF} (v0 : AV) (Q : AHeap) : evalPK call lp c_win_First [(0, .v v0)] [] Q (retPK [.tmp 2] [.n]) = (
  bnP (lenQ v0) fun w4_1 => 
  bnP (binA .eql w4_1 (.int .i64 0)) fun w5_2 => 
  cndS w5_2 (fun _ => some (.int .i64 0, Q))
  (fun _ => bnP (elQ 2 v0 (.int .i64 0)) fun e3 => 
  bnP ((AV.cells e3)[0]?) fun w9_4 => 
  bnP (rcv false .n w9_4) fun r5 => some (r5, Q))) := by kernel_rfl
theorem f_win_First {s : PSpecs} (hs : s.lookup 69 = none) (v0 : AV) (Q : AHeap) : callP (penv s) 69 [v0] Q = (
  bnP (lenQ v0) fun w4_1 => 
  bnP (binA .eql w4_1 (.int .i64 0)) fun w5_2 => 
  cndS w5_2 (fun _ => some (.int .i64 0, Q))
  (fun _ => bnP (elQ 2 v0 (.int .i64 0)) fun e3 => 
  bnP ((AV.cells e3)[0]?) fun w9_4 => 
  bnP (rcv false .n w9_4) fun r5 => some (r5, Q))) := (callP_fn (fn := pf_win_First) hs rfl [v0] Q rfl).trans (g_win_First v0 Q)
theorem g_win_Take {call : CallF} {lp : PLoopF} (v0 v1 : AV) (Q : AHeap) : evalPK call lp c_win_Take [(0, .v v0), (1, .v v1)] [] Q (retPK [.tmp 4, .cell 5 (some 2), .tmp 6] [.f 2, .n, .n]) = (
  bnS (call 56 [v0] Q) fun w8_1 Q2 => 
  bnS (call 69 [v0] Q2) fun w10_3 Q4 => 
  bnP (binA .neq (frz w10_3) v1) fun w12_5 => 
  bnP (gdQ w12_5 false (some v0)) fun w14_6 => 
  bnP (gdQ w12_5 false (lenQ w14_6)) fun w15_7 => 
  bnP (gdQ w12_5 false (binA .eql w15_7 (.int .i64 0))) fun w16_8 => 
  bnP (pickA w12_5 (.bool true) w16_8) fun w17_9 => 
  cndS w17_9 (fun _ => bnP (rcv false (.f 2) (frz w8_1)) fun r10 => some (.tup [frz r10, .agg [.int .i64 0, .str []], .bool false], Q4))
  (fun _ => bnP (slcQ 2 (frz w8_1) (some (.int .i64 1)) none) fun w21_11 => 
  bnP (elQ 2 v0 (.int .i64 0)) fun e12 => 
  bnC 2 (cut (AV.cells e12) 0 2) fun c24_13 c24_14 => 
  bnC 2 (stC 2 (.agg [c24_13, c24_14])) fun s15 s16 => 
  bnP (rcv false (.f 2) w21_11) fun r17 => some (.tup [frz r17, .agg [s15, s16], .bool true], Q4))) := by kernel_rfl
theorem f_win_Take {s : PSpecs} (hs : s.lookup 72 = none) (v0 v1 : AV) (Q : AHeap) : callP (penv s) 72 [v0, v1] Q = (
  bnS ((callP (penv s)) 56 [v0] Q) fun w8_1 Q2 => 
  bnS ((callP (penv s)) 69 [v0] Q2) fun w10_3 Q4 => 
  bnP (binA .neq (frz w10_3) v1) fun w12_5 => 
  bnP (gdQ w12_5 false (some v0)) fun w14_6 => 
  bnP (gdQ w12_5 false (lenQ w14_6)) fun w15_7 => 
  bnP (gdQ w12_5 false (binA .eql w15_7 (.int .i64 0))) fun w16_8 => 
  bnP (pickA w12_5 (.bool true) w16_8) fun w17_9 => 
  cndS w17_9 (fun _ => bnP (rcv false (.f 2) (frz w8_1)) fun r10 => some (.tup [frz r10, .agg [.int .i64 0, .str []], .bool false], Q4))
  (fun _ => bnP (slcQ 2 (frz w8_1) (some (.int .i64 1)) none) fun w21_11 => 
  bnP (elQ 2 v0 (.int .i64 0)) fun e12 => 
  bnC 2 (cut (AV.cells e12) 0 2) fun c24_13 c24_14 => 
  bnC 2 (stC 2 (.agg [c24_13, c24_14])) fun s15 s16 => 
  bnP (rcv false (.f 2) w21_11) fun r17 => some (.tup [frz r17, .agg [s15, s16], .bool true], Q4))) := (callP_fn (fn := pf_win_Take) hs rfl [v0, v1] Q rfl).trans (g_win_Take v0 v1 Q)
theorem g_cmp_isNaN_int {call : CallF} {lp : PLoopF} (v0 : AV) (Q : AHeap) : evalPK call lp c_cmp_isNaN_int [(0, .v v0)] [] Q (retPK [.tmp 2] [.n]) = (
  bnP (binA .neq v0 v0) fun w5_1 => 
  bnP (rcv false .n w5_1) fun r2 => some (r2, Q)) := by kernel_rfl
theorem f_cmp_isNaN_int {s : PSpecs} (hs : s.lookup 73 = none) (v0 : AV) (Q : AHeap) : callP (penv s) 73 [v0] Q = (
  bnP (binA .neq v0 v0) fun w5_1 => 
  bnP (rcv false .n w5_1) fun r2 => some (r2, Q)) := (callP_fn (fn := pf_cmp_isNaN_int) hs rfl [v0] Q rfl).trans (g_cmp_isNaN_int v0 Q)
end Go.Proofs.Ytmogepinpdibdaa.Pf
