/- Equations by values. Printed by mkpv.py of this repo. -/
import Derived.Test.YtmogepinpdibdaaPfd
import Derived.Test.YtmogepinpdibdaaPvE
namespace Go.Proofs.Ytmogepinpdibdaa.Pf
open Go.Ab
set_option maxRecDepth 100000
set_option linter.unusedVariables false
set_option linter.unusedSimpArgs false
theorem p_pleachlaw18_FeedResumes_0 {β : Type} (call : CallF) (lp : PLoopF) (t0 t1 t2 t8 s7_0 s7_1 s7_2 s7_3 s7_4 s7_5 s7_6 : AV) (Q : AHeap) (k : PK β) : evalPK call lp c_pleachlaw18_FeedResumes_0 [(0, .v t0), (1, .v t1), (2, .v t2), (7, .lp 7 0), (8, .v t8)] [(7, .cells [s7_0, s7_1, s7_2, s7_3, s7_4, s7_5, s7_6])] Q k = (
  bnP (lenQ t0) fun w28_1 => 
  bnP (binA .lss t8 w28_1) fun w29_2 => 
  cndS w29_2 (fun _ => bnP (elQ 1 t0 t8) fun e3 => 
  bnP ((AV.cells e3)[0]?) fun w35_4 => 
  bnP (binA .rem w35_4 (.int .u8 12)) fun w36_5 => 
  bnP (cviA .i64 w36_5) fun w37_6 => 
  bnP (binA .add (.int .i64 1) w37_6) fun w38_7 => 
  bnS (call 31 [w38_7] Q) fun w42_8 Q9 => 
  bnC 2 (fillP [.int .i64 0, .str []] [(0, 1, w38_7), (1, 1, (frz w42_8))]) fun c43_10 c43_11 => 
  bnS (call 24 [.agg [s7_0, s7_1, s7_2, s7_3, s7_4, s7_5, s7_6], .agg [c43_10, c43_11]] Q9) fun w44_12 Q13 => 
  bnC 7 (stC 7 (frz w44_12)) fun s14 s15 s16 s17 s18 s19 s20 => 
  bnP (binA .add t8 (.int .i64 1)) fun w31_21 => 
  k .normal [(0, .v t0), (1, .v t1), (2, .v t2), (7, .lp 7 0), (8, .v w31_21)] [(7, .cells [s14, s15, s16, s17, s18, s19, s20])] Q13)
  (fun _ => k (.exit 0) [(1, .v t1), (2, .v t2), (7, .lp 7 0)] [(7, .cells [s7_0, s7_1, s7_2, s7_3, s7_4, s7_5, s7_6])] Q)) := by kernel_rfl
noncomputable def L_pleachlaw18_FeedResumes_0 (s : PSpecs) (t0 t1 t2 t8 s7_0 s7_1 s7_2 s7_3 s7_4 s7_5 s7_6 : AV) (Q : AHeap) : Option PEnd := loopP (penv s) c_pleachlaw18_FeedResumes_0 [(0, .v t0), (1, .v t1), (2, .v t2), (7, .lp 7 0), (8, .v t8)] [(7, .cells [s7_0, s7_1, s7_2, s7_3, s7_4, s7_5, s7_6])] Q
theorem L_pleachlaw18_FeedResumes_0_fold (s : PSpecs) (t0 t1 t2 t8 s7_0 s7_1 s7_2 s7_3 s7_4 s7_5 s7_6 : AV) (Q : AHeap) : loopP (penv s) c_pleachlaw18_FeedResumes_0 [(0, .v t0), (1, .v t1), (2, .v t2), (7, .lp 7 0), (8, .v t8)] [(7, .cells [s7_0, s7_1, s7_2, s7_3, s7_4, s7_5, s7_6])] Q = L_pleachlaw18_FeedResumes_0 s t0 t1 t2 t8 s7_0 s7_1 s7_2 s7_3 s7_4 s7_5 s7_6 Q := rfl
theorem L_pleachlaw18_FeedResumes_0_eq (s : PSpecs) (t0 t1 t2 t8 s7_0 s7_1 s7_2 s7_3 s7_4 s7_5 s7_6 : AV) (Q : AHeap) : L_pleachlaw18_FeedResumes_0 s t0 t1 t2 t8 s7_0 s7_1 s7_2 s7_3 s7_4 s7_5 s7_6 Q = evalPK (callP (penv s)) (loopP (penv s)) c_pleachlaw18_FeedResumes_0 [(0, .v t0), (1, .v t1), (2, .v t2), (7, .lp 7 0), (8, .v t8)] [(7, .cells [s7_0, s7_1, s7_2, s7_3, s7_4, s7_5, s7_6])] Q (goX (fun τ ω Q => loopP (penv s) c_pleachlaw18_FeedResumes_0 τ ω Q) ret4) := loopP_body
abbrev X_pleachlaw18_FeedResumes_0_x0 (t1 t2 s7_0 s7_1 s7_2 s7_3 s7_4 s7_5 s7_6 : AV) (Q : AHeap) : Option PEnd := some (.exit 0, [(1, .v t1), (2, .v t2), (7, .lp 7 0)], [(7, .cells [s7_0, s7_1, s7_2, s7_3, s7_4, s7_5, s7_6])], Q)
theorem p_pleachlaw18_FeedResumes_1 {β : Type} (call : CallF) (lp : PLoopF) (t1 t10 t11 s7_0 s7_1 s7_2 s7_3 s7_4 s7_5 s7_6 : AV) (Q : AHeap) (k : PK β) : evalPK call lp c_pleachlaw18_FeedResumes_1 [(1, .v t1), (7, .lp 7 0), (10, .v t10), (11, .v t11)] [(7, .cells [s7_0, s7_1, s7_2, s7_3, s7_4, s7_5, s7_6])] Q k = (
  bnP (lenQ t1) fun w61_1 => 
  bnP (binA .lss t11 w61_1) fun w62_2 => 
  cndS w62_2 (fun _ => bnP (elQ 1 t1 t11) fun e3 => 
  bnP ((AV.cells e3)[0]?) fun w68_4 => 
  bnP (binA .rem w68_4 (.int .u8 15)) fun w69_5 => 
  bnP (cviA .i64 w69_5) fun w70_6 => 
  bnP (binA .add (.int .i64 1) w70_6) fun w71_7 => 
  bnS (call 31 [w71_7] Q) fun w75_8 Q9 => 
  bnC 2 (fillP [.int .i64 0, .str []] [(0, 1, w71_7), (1, 1, (frz w75_8))]) fun c76_10 c76_11 => 
  bnS (call 24 [.agg [s7_0, s7_1, s7_2, s7_3, s7_4, s7_5, s7_6], .agg [c76_10, c76_11]] Q9) fun w77_12 Q13 => 
  bnC 7 (stC 7 (frz w77_12)) fun s14 s15 s16 s17 s18 s19 s20 => 
  bnP (binA .add t11 (.int .i64 1)) fun w64_21 => 
  k .normal [(1, .v t1), (7, .lp 7 0), (10, .v t10), (11, .v w64_21)] [(7, .cells [s14, s15, s16, s17, s18, s19, s20])] Q13)
  (fun _ => k (.exit 2) [(7, .lp 7 0), (10, .v t10)] [(7, .cells [s7_0, s7_1, s7_2, s7_3, s7_4, s7_5, s7_6])] Q)) := by kernel_rfl
noncomputable def L_pleachlaw18_FeedResumes_1 (s : PSpecs) (t1 t10 t11 s7_0 s7_1 s7_2 s7_3 s7_4 s7_5 s7_6 : AV) (Q : AHeap) : Option PEnd := loopP (penv s) c_pleachlaw18_FeedResumes_1 [(1, .v t1), (7, .lp 7 0), (10, .v t10), (11, .v t11)] [(7, .cells [s7_0, s7_1, s7_2, s7_3, s7_4, s7_5, s7_6])] Q
theorem L_pleachlaw18_FeedResumes_1_fold (s : PSpecs) (t1 t10 t11 s7_0 s7_1 s7_2 s7_3 s7_4 s7_5 s7_6 : AV) (Q : AHeap) : loopP (penv s) c_pleachlaw18_FeedResumes_1 [(1, .v t1), (7, .lp 7 0), (10, .v t10), (11, .v t11)] [(7, .cells [s7_0, s7_1, s7_2, s7_3, s7_4, s7_5, s7_6])] Q = L_pleachlaw18_FeedResumes_1 s t1 t10 t11 s7_0 s7_1 s7_2 s7_3 s7_4 s7_5 s7_6 Q := rfl
theorem L_pleachlaw18_FeedResumes_1_eq (s : PSpecs) (t1 t10 t11 s7_0 s7_1 s7_2 s7_3 s7_4 s7_5 s7_6 : AV) (Q : AHeap) : L_pleachlaw18_FeedResumes_1 s t1 t10 t11 s7_0 s7_1 s7_2 s7_3 s7_4 s7_5 s7_6 Q = evalPK (callP (penv s)) (loopP (penv s)) c_pleachlaw18_FeedResumes_1 [(1, .v t1), (7, .lp 7 0), (10, .v t10), (11, .v t11)] [(7, .cells [s7_0, s7_1, s7_2, s7_3, s7_4, s7_5, s7_6])] Q (goX (fun τ ω Q => loopP (penv s) c_pleachlaw18_FeedResumes_1 τ ω Q) ret4) := loopP_body
abbrev X_pleachlaw18_FeedResumes_1_x2 (t10 s7_0 s7_1 s7_2 s7_3 s7_4 s7_5 s7_6 : AV) (Q : AHeap) : Option PEnd := some (.exit 2, [(7, .lp 7 0), (10, .v t10)], [(7, .cells [s7_0, s7_1, s7_2, s7_3, s7_4, s7_5, s7_6])], Q)
theorem p_pleachlaw18_FeedResumes_2 {β : Type} (call : CallF) (lp : PLoopF) (t13 s7_0 s7_1 s7_2 s7_3 s7_4 s7_5 s7_6 : AV) (Q : AHeap) (k : PK β) : evalPK call lp c_pleachlaw18_FeedResumes_2 [(7, .lp 7 0), (13, .v t13)] [(7, .cells [s7_0, s7_1, s7_2, s7_3, s7_4, s7_5, s7_6])] Q k = (
  bnP (lenQ s7_4) fun w94_1 => 
  bnP (binA .lss t13 w94_1) fun w95_2 => 
  cndS w95_2 (fun _ => bnP (elQ 5 s7_4 t13) fun e3 => 
  bnP ((AV.cells e3)[0]?) fun w103_4 => 
  bnP (binA .neq w103_4 (.int .i64 1)) fun w104_5 => 
  bnP (gdQ w104_5 false (some s7_4)) fun w107_6 => 
  bnP (gdQ w104_5 false (some t13)) fun w108_7 => 
  bnP (gdQ w104_5 false (elQ 5 w107_6 w108_7)) fun e8 => 
  bnP (gdQ w104_5 false ((AV.cells e8)[1]?)) fun w111_9 => 
  bnP (gdQ w104_5 false (some t13)) fun w112_10 => 
  bnP (gdQ w104_5 false (binA .add w112_10 (.int .i64 1))) fun w113_11 => 
  bnP (gdQ w104_5 false (binA .neq w111_9 w113_11)) fun w114_12 => 
  bnP (pickA w104_5 (.bool true) w114_12) fun w115_13 => 
  bnP (gdQ w115_13 false (some s7_4)) fun w118_14 => 
  bnP (gdQ w115_13 false (some t13)) fun w119_15 => 
  bnP (gdQ w115_13 false (elQ 5 w118_14 w119_15)) fun e16 => 
  bnP (gdQ w115_13 false ((AV.cells e16)[3]?)) fun w122_17 => 
  bnP (gdQ w115_13 false (some t13)) fun w123_18 => 
  bnP (gdQ w115_13 false (binA .add w123_18 (.int .i64 1))) fun w124_19 => 
  bnS (gdH w115_13 false (call 31 [w124_19] Q) Q) fun w125_20 Q21 => 
  bnP (gdQ w115_13 false (binA .neq w122_17 (frz w125_20))) fun w126_22 => 
  bnP (pickA w115_13 (.bool true) w126_22) fun w127_23 => 
  cndS w127_23 (fun _ => k .ret [(6, .v (.bool false))] [] Q21)
  (fun _ => bnP (binA .add t13 (.int .i64 1)) fun w97_24 => 
  k .normal [(7, .lp 7 0), (13, .v w97_24)] [(7, .cells [s7_0, s7_1, s7_2, s7_3, s7_4, s7_5, s7_6])] Q21))
  (fun _ => k (.exit 4) [] [] Q)) := by kernel_rfl
noncomputable def L_pleachlaw18_FeedResumes_2 (s : PSpecs) (t13 s7_0 s7_1 s7_2 s7_3 s7_4 s7_5 s7_6 : AV) (Q : AHeap) : Option PEnd := loopP (penv s) c_pleachlaw18_FeedResumes_2 [(7, .lp 7 0), (13, .v t13)] [(7, .cells [s7_0, s7_1, s7_2, s7_3, s7_4, s7_5, s7_6])] Q
theorem L_pleachlaw18_FeedResumes_2_fold (s : PSpecs) (t13 s7_0 s7_1 s7_2 s7_3 s7_4 s7_5 s7_6 : AV) (Q : AHeap) : loopP (penv s) c_pleachlaw18_FeedResumes_2 [(7, .lp 7 0), (13, .v t13)] [(7, .cells [s7_0, s7_1, s7_2, s7_3, s7_4, s7_5, s7_6])] Q = L_pleachlaw18_FeedResumes_2 s t13 s7_0 s7_1 s7_2 s7_3 s7_4 s7_5 s7_6 Q := rfl
theorem L_pleachlaw18_FeedResumes_2_eq (s : PSpecs) (t13 s7_0 s7_1 s7_2 s7_3 s7_4 s7_5 s7_6 : AV) (Q : AHeap) : L_pleachlaw18_FeedResumes_2 s t13 s7_0 s7_1 s7_2 s7_3 s7_4 s7_5 s7_6 Q = evalPK (callP (penv s)) (loopP (penv s)) c_pleachlaw18_FeedResumes_2 [(7, .lp 7 0), (13, .v t13)] [(7, .cells [s7_0, s7_1, s7_2, s7_3, s7_4, s7_5, s7_6])] Q (goX (fun τ ω Q => loopP (penv s) c_pleachlaw18_FeedResumes_2 τ ω Q) ret4) := loopP_body
abbrev X_pleachlaw18_FeedResumes_2_x4 (Q : AHeap) : Option PEnd := some (.exit 4, [], [], Q)
theorem p_pleachlaw18_FeedResumes_3 {β : Type} (call : CallF) (lp : PLoopF) (Q : AHeap) (k : PK β) : evalPK call lp c_pleachlaw18_FeedResumes_3 [] [] Q k = (
  k .ret [(6, .v (.bool true))] [] Q) := by kernel_rfl
theorem p_pleachlaw18_FeedResumes_4 {β : Type} (call : CallF) (lp : PLoopF) (t10 s7_0 s7_1 s7_2 s7_3 s7_4 s7_5 s7_6 : AV) (Q : AHeap) (k : PK β) : evalPK call lp c_pleachlaw18_FeedResumes_4 [(7, .lp 7 0), (10, .v t10)] [(7, .cells [s7_0, s7_1, s7_2, s7_3, s7_4, s7_5, s7_6])] Q k = (
  bnP (binA .lss s7_0 t10) fun w81_1 => 
  bnP (gdQ w81_1 false (some s7_4)) fun w84_2 => 
  bnP (gdQ w81_1 false (lenQ w84_2)) fun w85_3 => 
  bnP (gdQ w81_1 false (some s7_0)) fun w87_4 => 
  bnP (gdQ w81_1 false (binA .sub w87_4 (.int .i64 1))) fun w88_5 => 
  bnP (gdQ w81_1 false (binA .neq w85_3 w88_5)) fun w89_6 => 
  bnP (pickA w81_1 (.bool true) w89_6) fun w90_7 => 
  cndS w90_7 (fun _ => k .ret [(6, .v (.bool false)), (90, .v w90_7), (89, .v w89_6), (88, .v w88_5), (87, .v w87_4), (86, .gd 82 false (.lp 7 0)), (85, .v w85_3), (84, .v w84_2), (83, .gd 82 false (.lp 7 4)), (82, .v w81_1), (81, .v w81_1), (80, .v t10), (79, .v s7_0), (78, .lp 7 0), (7, .lp 7 0), (10, .v t10)] [(7, .cells [s7_0, s7_1, s7_2, s7_3, s7_4, s7_5, s7_6])] Q)
  (fun _ => bnX (lp c_pleachlaw18_FeedResumes_2 [(7, .lp 7 0), (13, .v (.int .i64 0))] [(7, .cells [s7_0, s7_1, s7_2, s7_3, s7_4, s7_5, s7_6])] Q) (outX 4 (goC (evalPK call lp c_pleachlaw18_FeedResumes_3) k)))) := by kernel_rfl
theorem p_pleachlaw18_FeedResumes_5 {β : Type} (call : CallF) (lp : PLoopF) (t1 t2 s7_0 s7_1 s7_2 s7_3 s7_4 s7_5 s7_6 : AV) (Q : AHeap) (k : PK β) : evalPK call lp c_pleachlaw18_FeedResumes_5 [(1, .v t1), (2, .v t2), (7, .lp 7 0)] [(7, .cells [s7_0, s7_1, s7_2, s7_3, s7_4, s7_5, s7_6])] Q k = (
  bnP (binA .rem t2 (.int .u8 15)) fun w47_1 => 
  bnP (cviA .i64 w47_1) fun w48_2 => 
  bnP (binA .add (.int .i64 1) w48_2) fun w49_3 => 
  bnS (call 18 [.agg [s7_0, s7_1, s7_2, s7_3, s7_4, s7_5, s7_6], w49_3] Q) fun w50_4 Q5 => 
  bnC 7 (stC 7 (frz w50_4)) fun s6 s7 s8 s9 s10 s11 s12 => 
  bnP (binA .rem t2 (.int .u8 15)) fun w56_13 => 
  bnP (cviA .i64 w56_13) fun w57_14 => 
  bnP (binA .lss s7 w57_14) fun w58_15 => 
  cndS w58_15 (fun _ => k .ret [(6, .v (.bool false)), (58, .v w58_15), (57, .v w57_14), (56, .v w56_13), (55, .v t2), (54, .v s7), (53, .lp 7 1), (10, .v s6), (52, .v s6), (51, .lp 7 0), (50, .v (frz w50_4)), (49, .v w49_3), (48, .v w48_2), (47, .v w47_1), (46, .v t2), (45, .v (.agg [s7_0, s7_1, s7_2, s7_3, s7_4, s7_5, s7_6])), (1, .v t1), (2, .v t2), (7, .lp 7 0)] [(7, .cells [s6, s7, s8, s9, s10, s11, s12])] Q5)
  (fun _ => bnX (lp c_pleachlaw18_FeedResumes_1 [(1, .v t1), (7, .lp 7 0), (10, .v s6), (11, .v (.int .i64 0))] [(7, .cells [s6, s7, s8, s9, s10, s11, s12])] Q5) (outX 2 (goC (evalPK call lp c_pleachlaw18_FeedResumes_4) k)))) := by kernel_rfl
theorem g_pleachlaw18_FeedResumes {call : CallF} {lp : PLoopF} (v0 v1 v2 : AV) (Q : AHeap) : evalPK call lp c_pleachlaw18_FeedResumes [(0, .v v0), (1, .v v1), (2, .v v2)] [] Q (retPK [.tmp 6] [.n]) = (
  bnS (call 13 [] Q) fun w14_1 Q2 => 
  bnP (unA .not (frz w14_1)) fun w15_3 => 
  cndS w15_3 (fun _ => some (.bool false, Q2))
  (fun _ => bnP (lenQ v0) fun w17_4 => 
  bnP (binA .gtr w17_4 (.int .i64 20)) fun w18_5 => 
  bnP (gdQ w18_5 false (some v1)) fun w20_6 => 
  bnP (gdQ w18_5 false (lenQ w20_6)) fun w21_7 => 
  bnP (gdQ w18_5 false (binA .gtr w21_7 (.int .i64 20))) fun w22_8 => 
  bnP (pickA w18_5 (.bool true) w22_8) fun w23_9 => 
  cndS w23_9 (fun _ => some (.bool true, Q2))
  (fun _ => bnS (call 18 [.agg [.int .i64 0, .int .i64 0, .nils, .nils, .nils, .int .i64 0, .int .i64 0], .int .i64 1] Q2) fun w25_10 Q11 => 
  bnC 7 (stC 7 (frz w25_10)) fun s12 s13 s14 s15 s16 s17 s18 => 
  bnX (lp c_pleachlaw18_FeedResumes_0 [(0, .v v0), (1, .v v1), (2, .v v2), (7, .lp 7 0), (8, .v (.int .i64 0))] [(7, .cells [s12, s13, s14, s15, s16, s17, s18])] Q11) (outX 0 (goC (evalPK call lp c_pleachlaw18_FeedResumes_5) (retPK [.tmp 6] [.n])))))) := by kernel_rfl
theorem f_pleachlaw18_FeedResumes {s : PSpecs} (hs : s.lookup 11 = none) (v0 v1 v2 : AV) (Q : AHeap) : callP (penv s) 11 [v0, v1, v2] Q = (
  bnS ((callP (penv s)) 13 [] Q) fun w14_1 Q2 => 
  bnP (unA .not (frz w14_1)) fun w15_3 => 
  cndS w15_3 (fun _ => some (.bool false, Q2))
  (fun _ => bnP (lenQ v0) fun w17_4 => 
  bnP (binA .gtr w17_4 (.int .i64 20)) fun w18_5 => 
  bnP (gdQ w18_5 false (some v1)) fun w20_6 => 
  bnP (gdQ w18_5 false (lenQ w20_6)) fun w21_7 => 
  bnP (gdQ w18_5 false (binA .gtr w21_7 (.int .i64 20))) fun w22_8 => 
  bnP (pickA w18_5 (.bool true) w22_8) fun w23_9 => 
  cndS w23_9 (fun _ => some (.bool true, Q2))
  (fun _ => bnS ((callP (penv s)) 18 [.agg [.int .i64 0, .int .i64 0, .nils, .nils, .nils, .int .i64 0, .int .i64 0], .int .i64 1] Q2) fun w25_10 Q11 => 
  bnC 7 (stC 7 (frz w25_10)) fun s12 s13 s14 s15 s16 s17 s18 => 
  bnX ((loopP (penv s)) c_pleachlaw18_FeedResumes_0 [(0, .v v0), (1, .v v1), (2, .v v2), (7, .lp 7 0), (8, .v (.int .i64 0))] [(7, .cells [s12, s13, s14, s15, s16, s17, s18])] Q11) (outX 0 (goC (evalPK (callP (penv s)) (loopP (penv s)) c_pleachlaw18_FeedResumes_5) (retPK [.tmp 6] [.n])))))) := (callP_fn (fn := pf_pleachlaw18_FeedResumes) hs rfl [v0, v1, v2] Q rfl).trans (g_pleachlaw18_FeedResumes v0 v1 v2 Q)
theorem p_feed_Begin_0 {β : Type} (call : CallF) (lp : PLoopF) (s2_0 s2_1 s2_2 s2_3 s2_4 s2_5 s2_6 s4_0 s4_1 s4_2 s4_3 s4_4 s4_5 s4_6 : AV) (Q : AHeap) (k : PK β) : evalPK call lp c_feed_Begin_0 [(2, .lp 2 0), (4, .lp 4 0)] [(2, .cells [s2_0, s2_1, s2_2, s2_3, s2_4, s2_5, s2_6]), (4, .cells [s4_0, s4_1, s4_2, s4_3, s4_4, s4_5, s4_6])] Q k = (
  bnC 7 (stC 7 (.agg [s2_0, s2_1, s2_2, s2_3, s2_4, s2_5, s2_6])) fun s1 s2 s3 s4 s5 s6 s7 => 
  k .ret [(22, .v (.agg [s2_0, s2_1, s2_2, s2_3, s2_4, s2_5, s2_6])), (2, .lp 2 0), (4, .lp 4 0)] [(4, .cells [s1, s2, s3, s4, s5, s6, s7]), (2, .cells [s2_0, s2_1, s2_2, s2_3, s2_4, s2_5, s2_6])] Q) := by kernel_rfl
theorem g_feed_Begin {call : CallF} {lp : PLoopF} (v0_0 v0_1 v0_2 v0_3 v0_4 v0_5 v0_6 v1 : AV) (Q : AHeap) : evalPK call lp c_feed_Begin [(0, .v (.agg [v0_0, v0_1, v0_2, v0_3, v0_4, v0_5, v0_6])), (1, .v v1)] [] Q (retPK [.cell 4 (some 7)] [.n]) = (
  bnC 7 (stC 7 (.agg [v0_0, v0_1, v0_2, v0_3, v0_4, v0_5, v0_6])) fun s1 s2 s3 s4 s5 s6 s7 => 
  bnP (binA .gtr s1 (.int .i64 0)) fun w7_8 => 
  cndS w7_8 (fun _ => bnP (binA .sub v1 (.int .i64 1)) fun w10_9 => 
  bnS (call 22 [.agg [s1, s2, s3, s4, s5, s6, s7], w10_9] Q) fun w11_10 Q11 => 
  bnC 7 (stC 7 (frz w11_10)) fun s12 s13 s14 s15 s16 s17 s18 => 
  some (.agg [s12, s13, s14, s15, s16, s17, s18], Q11))
  (fun _ => bnS (call 37 [.agg [s1, s2, s3, s4, s5, s6, s7]] Q) fun w13_19 Q20 => 
  bnC 7 (stC 7 (frz w13_19)) fun s21 s22 s23 s24 s25 s26 s27 => 
  bnX (bnP (binA .geq v1 (.int .i64 1)) fun w15_28 => 
  bnP (gdQ w15_28 true (some v1)) fun w17_29 => 
  bnP (gdQ w15_28 true (binA .leq w17_29 (.int .i64 1000000))) fun w18_30 => 
  bnP (pickA w15_28 w18_30 (.bool false)) fun w19_31 => 
  cndS w19_31 (fun _ => bnC 1 (stC 1 v1) fun s32 => 
  some (.normal, [(2, .lp 2 0), (4, .lp 4 0)], [(2, .cells [s32, s22, s23, s24, s25, s26, s27]), (4, .cells [.int .i64 0, .int .i64 0, .nils, .nils, .nils, .int .i64 0, .int .i64 0])], Q20))
  (fun _ => some (.normal, [(2, .lp 2 0), (4, .lp 4 0)], [(2, .cells [s21, s22, s23, s24, s25, s26, s27]), (4, .cells [.int .i64 0, .int .i64 0, .nils, .nils, .nils, .int .i64 0, .int .i64 0])], Q20)))
  (goC (evalPK call lp c_feed_Begin_0) (retPK [.cell 4 (some 7)] [.n])))) := by kernel_rfl
theorem f_feed_Begin {s : PSpecs} (hs : s.lookup 18 = none) (v0_0 v0_1 v0_2 v0_3 v0_4 v0_5 v0_6 v1 : AV) (Q : AHeap) : callP (penv s) 18 [.agg [v0_0, v0_1, v0_2, v0_3, v0_4, v0_5, v0_6], v1] Q = (
  bnC 7 (stC 7 (.agg [v0_0, v0_1, v0_2, v0_3, v0_4, v0_5, v0_6])) fun s1 s2 s3 s4 s5 s6 s7 => 
  bnP (binA .gtr s1 (.int .i64 0)) fun w7_8 => 
  cndS w7_8 (fun _ => bnP (binA .sub v1 (.int .i64 1)) fun w10_9 => 
  bnS ((callP (penv s)) 22 [.agg [s1, s2, s3, s4, s5, s6, s7], w10_9] Q) fun w11_10 Q11 => 
  bnC 7 (stC 7 (frz w11_10)) fun s12 s13 s14 s15 s16 s17 s18 => 
  some (.agg [s12, s13, s14, s15, s16, s17, s18], Q11))
  (fun _ => bnS ((callP (penv s)) 37 [.agg [s1, s2, s3, s4, s5, s6, s7]] Q) fun w13_19 Q20 => 
  bnC 7 (stC 7 (frz w13_19)) fun s21 s22 s23 s24 s25 s26 s27 => 
  bnX (bnP (binA .geq v1 (.int .i64 1)) fun w15_28 => 
  bnP (gdQ w15_28 true (some v1)) fun w17_29 => 
  bnP (gdQ w15_28 true (binA .leq w17_29 (.int .i64 1000000))) fun w18_30 => 
  bnP (pickA w15_28 w18_30 (.bool false)) fun w19_31 => 
  cndS w19_31 (fun _ => bnC 1 (stC 1 v1) fun s32 => 
  some (.normal, [(2, .lp 2 0), (4, .lp 4 0)], [(2, .cells [s32, s22, s23, s24, s25, s26, s27]), (4, .cells [.int .i64 0, .int .i64 0, .nils, .nils, .nils, .int .i64 0, .int .i64 0])], Q20))
  (fun _ => some (.normal, [(2, .lp 2 0), (4, .lp 4 0)], [(2, .cells [s21, s22, s23, s24, s25, s26, s27]), (4, .cells [.int .i64 0, .int .i64 0, .nils, .nils, .nils, .int .i64 0, .int .i64 0])], Q20)))
  (goC (evalPK (callP (penv s)) (loopP (penv s)) c_feed_Begin_0) (retPK [.cell 4 (some 7)] [.n])))) := (callP_fn (fn := pf_feed_Begin) hs rfl [.agg [v0_0, v0_1, v0_2, v0_3, v0_4, v0_5, v0_6], v1] Q rfl).trans (g_feed_Begin v0_0 v0_1 v0_2 v0_3 v0_4 v0_5 v0_6 v1 Q)
theorem p_feed_Knows_0 {β : Type} (call : CallF) (lp : PLoopF) (s2_0 s2_1 s2_2 s2_3 s2_4 s2_5 s2_6 s4_0 s4_1 s4_2 s4_3 s4_4 s4_5 s4_6 : AV) (Q : AHeap) (k : PK β) : evalPK call lp c_feed_Knows_0 [(2, .lp 2 0), (4, .lp 4 0)] [(2, .cells [s2_0, s2_1, s2_2, s2_3, s2_4, s2_5, s2_6]), (4, .cells [s4_0, s4_1, s4_2, s4_3, s4_4, s4_5, s4_6])] Q k = (
  bnC 7 (stC 7 (.agg [s2_0, s2_1, s2_2, s2_3, s2_4, s2_5, s2_6])) fun s1 s2 s3 s4 s5 s6 s7 => 
  k .ret [(19, .v (.agg [s2_0, s2_1, s2_2, s2_3, s2_4, s2_5, s2_6])), (2, .lp 2 0), (4, .lp 4 0)] [(4, .cells [s1, s2, s3, s4, s5, s6, s7]), (2, .cells [s2_0, s2_1, s2_2, s2_3, s2_4, s2_5, s2_6])] Q) := by kernel_rfl
theorem g_feed_Knows {call : CallF} {lp : PLoopF} (v0_0 v0_1 v0_2 v0_3 v0_4 v0_5 v0_6 v1 : AV) (Q : AHeap) : evalPK call lp c_feed_Knows [(0, .v (.agg [v0_0, v0_1, v0_2, v0_3, v0_4, v0_5, v0_6])), (1, .v v1)] [] Q (retPK [.cell 4 (some 7)] [.n]) = (
  bnC 7 (stC 7 (.agg [v0_0, v0_1, v0_2, v0_3, v0_4, v0_5, v0_6])) fun s1 s2 s3 s4 s5 s6 s7 => 
  bnS (call 37 [.agg [s1, s2, s3, s4, s5, s6, s7]] Q) fun w6_8 Q9 => 
  bnC 7 (stC 7 (frz w6_8)) fun s10 s11 s12 s13 s14 s15 s16 => 
  bnX (bnP (binA .gtr s10 (.int .i64 0)) fun w9_17 => 
  bnP (gdQ w9_17 true (some v1)) fun w11_18 => 
  bnP (gdQ w9_17 true (binA .leq w11_18 (.int .i64 1000000))) fun w12_19 => 
  bnP (pickA w9_17 w12_19 (.bool false)) fun w13_20 => 
  cndS w13_20 (fun _ => bnP (mxiA [s11, v1]) fun w17_21 => 
  bnC 1 (stC 1 w17_21) fun s22 => 
  some (.normal, [(2, .lp 2 0), (4, .lp 4 0)], [(2, .cells [s10, s22, s12, s13, s14, s15, s16]), (4, .cells [.int .i64 0, .int .i64 0, .nils, .nils, .nils, .int .i64 0, .int .i64 0])], Q9))
  (fun _ => some (.normal, [(2, .lp 2 0), (4, .lp 4 0)], [(2, .cells [s10, s11, s12, s13, s14, s15, s16]), (4, .cells [.int .i64 0, .int .i64 0, .nils, .nils, .nils, .int .i64 0, .int .i64 0])], Q9)))
  (goC (evalPK call lp c_feed_Knows_0) (retPK [.cell 4 (some 7)] [.n]))) := by kernel_rfl
theorem f_feed_Knows {s : PSpecs} (hs : s.lookup 22 = none) (v0_0 v0_1 v0_2 v0_3 v0_4 v0_5 v0_6 v1 : AV) (Q : AHeap) : callP (penv s) 22 [.agg [v0_0, v0_1, v0_2, v0_3, v0_4, v0_5, v0_6], v1] Q = (
  bnC 7 (stC 7 (.agg [v0_0, v0_1, v0_2, v0_3, v0_4, v0_5, v0_6])) fun s1 s2 s3 s4 s5 s6 s7 => 
  bnS ((callP (penv s)) 37 [.agg [s1, s2, s3, s4, s5, s6, s7]] Q) fun w6_8 Q9 => 
  bnC 7 (stC 7 (frz w6_8)) fun s10 s11 s12 s13 s14 s15 s16 => 
  bnX (bnP (binA .gtr s10 (.int .i64 0)) fun w9_17 => 
  bnP (gdQ w9_17 true (some v1)) fun w11_18 => 
  bnP (gdQ w9_17 true (binA .leq w11_18 (.int .i64 1000000))) fun w12_19 => 
  bnP (pickA w9_17 w12_19 (.bool false)) fun w13_20 => 
  cndS w13_20 (fun _ => bnP (mxiA [s11, v1]) fun w17_21 => 
  bnC 1 (stC 1 w17_21) fun s22 => 
  some (.normal, [(2, .lp 2 0), (4, .lp 4 0)], [(2, .cells [s10, s22, s12, s13, s14, s15, s16]), (4, .cells [.int .i64 0, .int .i64 0, .nils, .nils, .nils, .int .i64 0, .int .i64 0])], Q9))
  (fun _ => some (.normal, [(2, .lp 2 0), (4, .lp 4 0)], [(2, .cells [s10, s11, s12, s13, s14, s15, s16]), (4, .cells [.int .i64 0, .int .i64 0, .nils, .nils, .nils, .int .i64 0, .int .i64 0])], Q9)))
  (goC (evalPK (callP (penv s)) (loopP (penv s)) c_feed_Knows_0) (retPK [.cell 4 (some 7)] [.n]))) := (callP_fn (fn := pf_feed_Knows) hs rfl [.agg [v0_0, v0_1, v0_2, v0_3, v0_4, v0_5, v0_6], v1] Q rfl).trans (g_feed_Knows v0_0 v0_1 v0_2 v0_3 v0_4 v0_5 v0_6 v1 Q)
theorem g_feed_Comes {call : CallF} {lp : PLoopF} (v0_0 v0_1 v0_2 v0_3 v0_4 v0_5 v0_6 v1_0 v1_1 : AV) (Q : AHeap) : evalPK call lp c_feed_Comes [(0, .v (.agg [v0_0, v0_1, v0_2, v0_3, v0_4, v0_5, v0_6])), (1, .v (.agg [v1_0, v1_1]))] [] Q (retPK [.cell 4 (some 7)] [.n]) = (
  bnC 7 (stC 7 (.agg [v0_0, v0_1, v0_2, v0_3, v0_4, v0_5, v0_6])) fun s1 s2 s3 s4 s5 s6 s7 => 
  bnC 2 (stC 2 (.agg [v1_0, v1_1])) fun s8 s9 => 
  bnP (binA .eql s1 (.int .i64 0)) fun w7_10 => 
  bnP (gdQ w7_10 false (some s8)) fun w10_11 => 
  bnP (gdQ w7_10 false (binA .lss w10_11 (.int .i64 1))) fun w11_12 => 
  bnP (pickA w7_10 (.bool true) w11_12) fun w12_13 => 
  bnP (gdQ w12_13 false (some s8)) fun w15_14 => 
  bnP (gdQ w12_13 false (binA .gtr w15_14 (.int .i64 1000000))) fun w16_15 => 
  bnP (pickA w12_13 (.bool true) w16_15) fun w17_16 => 
  bnP (gdQ w17_16 false (some s9)) fun w20_17 => 
  bnP (gdQ w17_16 false (lensA w20_17)) fun w21_18 => 
  bnP (gdQ w17_16 false (binA .gtr w21_18 (.int .i64 12))) fun w22_19 => 
  bnP (pickA w17_16 (.bool true) w22_19) fun w23_20 => 
  cndS w23_20 (fun _ => bnS (call 37 [.agg [s1, s2, s3, s4, s5, s6, s7]] Q) fun w25_21 Q22 => 
  bnC 7 (stC 7 (frz w25_21)) fun s23 s24 s25 s26 s27 s28 s29 => 
  some (.agg [s23, s24, s25, s26, s27, s28, s29], Q22))
  (fun _ => bnS (call 22 [.agg [s1, s2, s3, s4, s5, s6, s7], s8] Q) fun w29_30 Q31 => 
  bnC 7 (stC 7 (frz w29_30)) fun s32 s33 s34 s35 s36 s37 s38 => 
  bnS (call 43 [s35, s32, .agg [s8, s9]] Q31) fun w36_39 Q40 => 
  bnP (extA (frz w36_39) 0) fun w37_41 => 
  bnP (extA (frz w36_39) 1) fun w38_42 => 
  bnC 1 (stC 1 w37_41) fun s43 => 
  bnS (call 39 [.agg [s32, s33, s34, s43, s36, s37, s38]] Q40) fun w42_44 Q45 => 
  bnP (extA (frz w42_44) 0) fun w43_46 => 
  bnP (extA (frz w42_44) 1) fun w44_47 => 
  bnC 7 (stC 7 w43_46) fun s48 s49 s50 s51 s52 s53 s54 => 
  bnC 7 (stC 7 (.agg [s48, s49, s50, s51, s52, s53, s54])) fun s55 s56 s57 s58 s59 s60 s61 => 
  some (.agg [s55, s56, s57, s58, s59, s60, s61], Q45))) := by kernel_rfl
theorem f_feed_Comes {s : PSpecs} (hs : s.lookup 24 = none) (v0_0 v0_1 v0_2 v0_3 v0_4 v0_5 v0_6 v1_0 v1_1 : AV) (Q : AHeap) : callP (penv s) 24 [.agg [v0_0, v0_1, v0_2, v0_3, v0_4, v0_5, v0_6], .agg [v1_0, v1_1]] Q = (
  bnC 7 (stC 7 (.agg [v0_0, v0_1, v0_2, v0_3, v0_4, v0_5, v0_6])) fun s1 s2 s3 s4 s5 s6 s7 => 
  bnC 2 (stC 2 (.agg [v1_0, v1_1])) fun s8 s9 => 
  bnP (binA .eql s1 (.int .i64 0)) fun w7_10 => 
  bnP (gdQ w7_10 false (some s8)) fun w10_11 => 
  bnP (gdQ w7_10 false (binA .lss w10_11 (.int .i64 1))) fun w11_12 => 
  bnP (pickA w7_10 (.bool true) w11_12) fun w12_13 => 
  bnP (gdQ w12_13 false (some s8)) fun w15_14 => 
  bnP (gdQ w12_13 false (binA .gtr w15_14 (.int .i64 1000000))) fun w16_15 => 
  bnP (pickA w12_13 (.bool true) w16_15) fun w17_16 => 
  bnP (gdQ w17_16 false (some s9)) fun w20_17 => 
  bnP (gdQ w17_16 false (lensA w20_17)) fun w21_18 => 
  bnP (gdQ w17_16 false (binA .gtr w21_18 (.int .i64 12))) fun w22_19 => 
  bnP (pickA w17_16 (.bool true) w22_19) fun w23_20 => 
  cndS w23_20 (fun _ => bnS ((callP (penv s)) 37 [.agg [s1, s2, s3, s4, s5, s6, s7]] Q) fun w25_21 Q22 => 
  bnC 7 (stC 7 (frz w25_21)) fun s23 s24 s25 s26 s27 s28 s29 => 
  some (.agg [s23, s24, s25, s26, s27, s28, s29], Q22))
  (fun _ => bnS ((callP (penv s)) 22 [.agg [s1, s2, s3, s4, s5, s6, s7], s8] Q) fun w29_30 Q31 => 
  bnC 7 (stC 7 (frz w29_30)) fun s32 s33 s34 s35 s36 s37 s38 => 
  bnS ((callP (penv s)) 43 [s35, s32, .agg [s8, s9]] Q31) fun w36_39 Q40 => 
  bnP (extA (frz w36_39) 0) fun w37_41 => 
  bnP (extA (frz w36_39) 1) fun w38_42 => 
  bnC 1 (stC 1 w37_41) fun s43 => 
  bnS ((callP (penv s)) 39 [.agg [s32, s33, s34, s43, s36, s37, s38]] Q40) fun w42_44 Q45 => 
  bnP (extA (frz w42_44) 0) fun w43_46 => 
  bnP (extA (frz w42_44) 1) fun w44_47 => 
  bnC 7 (stC 7 w43_46) fun s48 s49 s50 s51 s52 s53 s54 => 
  bnC 7 (stC 7 (.agg [s48, s49, s50, s51, s52, s53, s54])) fun s55 s56 s57 s58 s59 s60 s61 => 
  some (.agg [s55, s56, s57, s58, s59, s60, s61], Q45))) := (callP_fn (fn := pf_feed_Comes) hs rfl [.agg [v0_0, v0_1, v0_2, v0_3, v0_4, v0_5, v0_6], .agg [v1_0, v1_1]] Q rfl).trans (g_feed_Comes v0_0 v0_1 v0_2 v0_3 v0_4 v0_5 v0_6 v1_0 v1_1 Q)
theorem g_pleachlaw18_one {call : CallF} {lp : PLoopF} (v0 : AV) (Q : AHeap) : evalPK call lp c_pleachlaw18_one [(0, .v v0)] [] Q (retPK [.tmp 2] [.n]) = (
  bnP (binA .rem v0 (.int .i64 26)) fun w4_1 => 
  bnP (binA .add (.int .i64 97) w4_1) fun w5_2 => 
  bnP (cviA .u8 w5_2) fun w6_3 => 
  bnP (binA .quo v0 (.int .i64 26)) fun w8_4 => 
  bnP (binA .rem w8_4 (.int .i64 26)) fun w9_5 => 
  bnP (binA .add (.int .i64 97) w9_5) fun w10_6 => 
  bnP (cviA .u8 w10_6) fun w11_7 => 
  pinB (elOk 1 w6_3) <| 
  pinB (elOk 1 w11_7) <| 
  bnP (b2sQ (.fz 1 [w6_3, w11_7])) fun w13_8 => 
  bnP (rcv false .n w13_8) fun r9 => some (r9, Q)) := by kernel_rfl
theorem f_pleachlaw18_one {s : PSpecs} (hs : s.lookup 31 = none) (v0 : AV) (Q : AHeap) : callP (penv s) 31 [v0] Q = (
  bnP (binA .rem v0 (.int .i64 26)) fun w4_1 => 
  bnP (binA .add (.int .i64 97) w4_1) fun w5_2 => 
  bnP (cviA .u8 w5_2) fun w6_3 => 
  bnP (binA .quo v0 (.int .i64 26)) fun w8_4 => 
  bnP (binA .rem w8_4 (.int .i64 26)) fun w9_5 => 
  bnP (binA .add (.int .i64 97) w9_5) fun w10_6 => 
  bnP (cviA .u8 w10_6) fun w11_7 => 
  pinB (elOk 1 w6_3) <| 
  pinB (elOk 1 w11_7) <| 
  bnP (b2sQ (.fz 1 [w6_3, w11_7])) fun w13_8 => 
  bnP (rcv false .n w13_8) fun r9 => some (r9, Q)) := (callP_fn (fn := pf_pleachlaw18_one) hs rfl [v0] Q rfl).trans (g_pleachlaw18_one v0 Q)
theorem g_feed_twin {call : CallF} {lp : PLoopF} (v0_0 v0_1 v0_2 v0_3 v0_4 v0_5 v0_6 : AV) (Q : AHeap) : evalPK call lp c_feed_twin [(0, .v (.agg [v0_0, v0_1, v0_2, v0_3, v0_4, v0_5, v0_6]))] [] Q (retPK [.cell 2 (some 7)] [.n]) = (
  bnC 7 (stC 7 (.agg [v0_0, v0_1, v0_2, v0_3, v0_4, v0_5, v0_6])) fun s1 s2 s3 s4 s5 s6 s7 => 
  bnS (call 56 [s3] Q) fun w5_8 Q9 => 
  bnS (call 56 [s4] Q9) fun w8_10 Q11 => 
  bnS (call 36 [s5] Q11) fun w11_12 Q13 => 
  bnC 1 (stC 1 (frz w5_8)) fun s14 => 
  bnC 1 (stC 1 (frz w8_10)) fun s15 => 
  bnC 1 (stC 1 (frz w11_12)) fun s16 => 
  bnC 7 (stC 7 (.agg [s1, s2, s14, s15, s16, s6, s7])) fun s17 s18 s19 s20 s21 s22 s23 => 
  some (.agg [s17, s18, s19, s20, s21, s22, s23], Q13)) := by kernel_rfl
theorem f_feed_twin {s : PSpecs} (hs : s.lookup 37 = none) (v0_0 v0_1 v0_2 v0_3 v0_4 v0_5 v0_6 : AV) (Q : AHeap) : callP (penv s) 37 [.agg [v0_0, v0_1, v0_2, v0_3, v0_4, v0_5, v0_6]] Q = (
  bnC 7 (stC 7 (.agg [v0_0, v0_1, v0_2, v0_3, v0_4, v0_5, v0_6])) fun s1 s2 s3 s4 s5 s6 s7 => 
  bnS ((callP (penv s)) 56 [s3] Q) fun w5_8 Q9 => 
  bnS ((callP (penv s)) 56 [s4] Q9) fun w8_10 Q11 => 
  bnS ((callP (penv s)) 36 [s5] Q11) fun w11_12 Q13 => 
  bnC 1 (stC 1 (frz w5_8)) fun s14 => 
  bnC 1 (stC 1 (frz w8_10)) fun s15 => 
  bnC 1 (stC 1 (frz w11_12)) fun s16 => 
  bnC 7 (stC 7 (.agg [s1, s2, s14, s15, s16, s6, s7])) fun s17 s18 s19 s20 s21 s22 s23 => 
  some (.agg [s17, s18, s19, s20, s21, s22, s23], Q13)) := (callP_fn (fn := pf_feed_twin) hs rfl [.agg [v0_0, v0_1, v0_2, v0_3, v0_4, v0_5, v0_6]] Q rfl).trans (g_feed_twin v0_0 v0_1 v0_2 v0_3 v0_4 v0_5 v0_6 Q)
theorem g_nak_Goes {call : CallF} {lp : PLoopF} (v0_0 v0_1 v0_2 v0_3 v0_4 v0_5 v0_6 : AV) (Q : AHeap) : evalPK call lp c_nak_Goes [(0, .v (.agg [v0_0, v0_1, v0_2, v0_3, v0_4, v0_5, v0_6]))] [] Q (retPK [.cell 2 (some 7), .tmp 3] [.n, .f 2]) = (
  bnC 7 (stC 7 (.agg [v0_0, v0_1, v0_2, v0_3, v0_4, v0_5, v0_6])) fun s1 s2 s3 s4 s5 s6 s7 => 
  bnS (call 57 [.agg [s1, s2, s3, s4, s5, s6, s7]] Q) fun w5_8 Q9 => 
  bnS (call 60 [(frz w5_8)] Q9) fun w6_10 Q11 => 
  bnP (extA (frz w6_10) 0) fun w7_12 => 
  bnP (extA (frz w6_10) 1) fun w8_13 => 
  bnC 7 (stC 7 w7_12) fun s14 s15 s16 s17 s18 s19 s20 => 
  bnP (rcv false (.f 2) w8_13) fun r21 => some (.tup [.agg [s14, s15, s16, s17, s18, s19, s20], frz r21], Q11)) := by kernel_rfl
theorem f_nak_Goes {s : PSpecs} (hs : s.lookup 39 = none) (v0_0 v0_1 v0_2 v0_3 v0_4 v0_5 v0_6 : AV) (Q : AHeap) : callP (penv s) 39 [.agg [v0_0, v0_1, v0_2, v0_3, v0_4, v0_5, v0_6]] Q = (
  bnC 7 (stC 7 (.agg [v0_0, v0_1, v0_2, v0_3, v0_4, v0_5, v0_6])) fun s1 s2 s3 s4 s5 s6 s7 => 
  bnS ((callP (penv s)) 57 [.agg [s1, s2, s3, s4, s5, s6, s7]] Q) fun w5_8 Q9 => 
  bnS ((callP (penv s)) 60 [(frz w5_8)] Q9) fun w6_10 Q11 => 
  bnP (extA (frz w6_10) 0) fun w7_12 => 
  bnP (extA (frz w6_10) 1) fun w8_13 => 
  bnC 7 (stC 7 w7_12) fun s14 s15 s16 s17 s18 s19 s20 => 
  bnP (rcv false (.f 2) w8_13) fun r21 => some (.tup [.agg [s14, s15, s16, s17, s18, s19, s20], frz r21], Q11)) := (callP_fn (fn := pf_nak_Goes) hs rfl [.agg [v0_0, v0_1, v0_2, v0_3, v0_4, v0_5, v0_6]] Q rfl).trans (g_nak_Goes v0_0 v0_1 v0_2 v0_3 v0_4 v0_5 v0_6 Q)
theorem g_win_Put {call : CallF} {lp : PLoopF} (v0 v1 v2_0 v2_1 : AV) (Q : AHeap) : evalPK call lp c_win_Put [(0, .v v0), (1, .v v1), (2, .v (.agg [v2_0, v2_1]))] [] Q (retPK [.tmp 6, .tmp 7] [.f 2, .n]) = (
  bnC 2 (stC 2 (.agg [v2_0, v2_1])) fun s1 s2 => 
  bnS (call 56 [v0] Q) fun w12_3 Q4 => bnL (owZ 2 w12_3) fun l5 => 
  bnS (call 65 [v0, s1, .fn 66 [] []] Q4) fun w17_6 Q7 => 
  bnP (extA (frz w17_6) 0) fun w18_8 => 
  bnP (extA (frz w17_6) 1) fun w19_9 => 
  bnP (gdQ w19_9 false (some s1)) fun w23_10 => 
  bnP (gdQ w19_9 false (some v1)) fun w24_11 => 
  bnP (gdQ w19_9 false (binA .lss w23_10 w24_11)) fun w25_12 => 
  bnP (pickA w19_9 (.bool true) w25_12) fun w26_13 => 
  bnP (gdQ w26_13 false (some s1)) fun w29_14 => 
  bnP (gdQ w26_13 false (some v1)) fun w30_15 => 
  bnP (gdQ w26_13 false (binA .sub w29_14 w30_15)) fun w31_16 => 
  bnP (gdQ w26_13 false (binA .geq w31_16 (.int .i64 8))) fun w32_17 => 
  bnP (pickA w26_13 (.bool true) w32_17) fun w33_18 => 
  cndS w33_18 (fun _ => some (.tup [.fz 2 l5, .bool false], Q7))
  (fun _ => pinB (elOk 2 (.agg [s1, s2])) <| 
  bnS (call 1000068 [.ow 2 l5, w18_8, .lt 2 [.agg [s1, s2]]] Q7) fun w39_19 Q20 => bnL (owZ 2 w39_19) fun l21 => 
  some (.tup [.fz 2 l21, .bool true], Q20))) := by kernel_rfl
theorem f_win_Put {s : PSpecs} (hs : s.lookup 43 = none) (v0 v1 v2_0 v2_1 : AV) (Q : AHeap) : callP (penv s) 43 [v0, v1, .agg [v2_0, v2_1]] Q = (
  bnC 2 (stC 2 (.agg [v2_0, v2_1])) fun s1 s2 => 
  bnS ((callP (penv s)) 56 [v0] Q) fun w12_3 Q4 => bnL (owZ 2 w12_3) fun l5 => 
  bnS ((callP (penv s)) 65 [v0, s1, .fn 66 [] []] Q4) fun w17_6 Q7 => 
  bnP (extA (frz w17_6) 0) fun w18_8 => 
  bnP (extA (frz w17_6) 1) fun w19_9 => 
  bnP (gdQ w19_9 false (some s1)) fun w23_10 => 
  bnP (gdQ w19_9 false (some v1)) fun w24_11 => 
  bnP (gdQ w19_9 false (binA .lss w23_10 w24_11)) fun w25_12 => 
  bnP (pickA w19_9 (.bool true) w25_12) fun w26_13 => 
  bnP (gdQ w26_13 false (some s1)) fun w29_14 => 
  bnP (gdQ w26_13 false (some v1)) fun w30_15 => 
  bnP (gdQ w26_13 false (binA .sub w29_14 w30_15)) fun w31_16 => 
  bnP (gdQ w26_13 false (binA .geq w31_16 (.int .i64 8))) fun w32_17 => 
  bnP (pickA w26_13 (.bool true) w32_17) fun w33_18 => 
  cndS w33_18 (fun _ => some (.tup [.fz 2 l5, .bool false], Q7))
  (fun _ => pinB (elOk 2 (.agg [s1, s2])) <| 
  bnS ((callP (penv s)) 1000068 [.ow 2 l5, w18_8, .lt 2 [.agg [s1, s2]]] Q7) fun w39_19 Q20 => bnL (owZ 2 w39_19) fun l21 => 
  some (.tup [.fz 2 l21, .bool true], Q20))) := (callP_fn (fn := pf_win_Put) hs rfl [v0, v1, .agg [v2_0, v2_1]] Q rfl).trans (g_win_Put v0 v1 v2_0 v2_1 Q)
theorem g_log_Tell {call : CallF} {lp : PLoopF} (v0 v1 v2 : AV) (Q : AHeap) : evalPK call lp c_log_Tell [(0, .v v0), (1, .v v1), (2, .v v2)] [] Q (retPK [.tmp 6] [.o 5]) = (
  bnS (call 36 [v0] Q) fun w8_1 Q2 => bnL (owZ 5 w8_1) fun l3 => 
  bnC 5 (fillP [.int .i64 0, .int .i64 0, .int .i64 0, .str [], .int .i64 0] [(0, 1, .int .i64 1), (1, 1, v1), (2, 1, v1), (3, 1, v2)]) fun c12_4 c12_5 c12_6 c12_7 c12_8 => 
  pinB (elOk 5 (.agg [c12_4, c12_5, c12_6, c12_7, c12_8])) <| 
  pinB (room 48 ((l3 : List AV).length + (([.agg [c12_4, c12_5, c12_6, c12_7, c12_8]] : List AV) : List AV).length)) <| 
  some (.ow 5 (l3 ++ ([.agg [c12_4, c12_5, c12_6, c12_7, c12_8]] : List AV)), Q2)) := by kernel_rfl
theorem f_log_Tell {s : PSpecs} (hs : s.lookup 45 = none) (v0 v1 v2 : AV) (Q : AHeap) : callP (penv s) 45 [v0, v1, v2] Q = (
  bnS ((callP (penv s)) 36 [v0] Q) fun w8_1 Q2 => bnL (owZ 5 w8_1) fun l3 => 
  bnC 5 (fillP [.int .i64 0, .int .i64 0, .int .i64 0, .str [], .int .i64 0] [(0, 1, .int .i64 1), (1, 1, v1), (2, 1, v1), (3, 1, v2)]) fun c12_4 c12_5 c12_6 c12_7 c12_8 => 
  pinB (elOk 5 (.agg [c12_4, c12_5, c12_6, c12_7, c12_8])) <| 
  pinB (room 48 ((l3 : List AV).length + (([.agg [c12_4, c12_5, c12_6, c12_7, c12_8]] : List AV) : List AV).length)) <| 
  some (.ow 5 (l3 ++ ([.agg [c12_4, c12_5, c12_6, c12_7, c12_8]] : List AV)), Q2)) := (callP_fn (fn := pf_log_Tell) hs rfl [v0, v1, v2] Q rfl).trans (g_log_Tell v0 v1 v2 Q)
theorem g_ring_Add {call : CallF} {lp : PLoopF} (v0 v1_0 v1_1 : AV) (Q : AHeap) : evalPK call lp c_ring_Add [(0, .v v0), (1, .v (.agg [v1_0, v1_1]))] [] Q (retPK [.tmp 4] [.o 2]) = (
  bnC 2 (stC 2 (.agg [v1_0, v1_1])) fun s1 s2 => 
  bnS (call 56 [v0] Q) fun w7_3 Q4 => bnL (owZ 2 w7_3) fun l5 => 
  bnP (lenQ v0) fun w9_6 => 
  bnP (binA .gtr w9_6 (.int .i64 0)) fun w10_7 => 
  bnP (gdQ w10_7 true (some s1)) fun w13_8 => 
  bnP (gdQ w10_7 true (some v0)) fun w14_9 => 
  bnP (gdQ w10_7 true (some v0)) fun w15_10 => 
  bnP (gdQ w10_7 true (lenQ w15_10)) fun w16_11 => 
  bnP (gdQ w10_7 true (binA .sub w16_11 (.int .i64 1))) fun w17_12 => 
  bnP (gdQ w10_7 true (elQ 2 w14_9 w17_12)) fun e13 => 
  bnP (gdQ w10_7 true ((AV.cells e13)[0]?)) fun w20_14 => 
  bnP (gdQ w10_7 true (binA .leq w13_8 w20_14)) fun w21_15 => 
  bnP (pickA w10_7 w21_15 (.bool false)) fun w22_16 => 
  cndS w22_16 (fun _ => some (.ow 2 l5, Q4))
  (fun _ => pinB (elOk 2 (.agg [s1, s2])) <| 
  pinB (room 24 ((l5 : List AV).length + (([.agg [s1, s2]] : List AV) : List AV).length)) <| 
  bnP (binA .sub (.int .i64 (((l5 ++ ([.agg [s1, s2]] : List AV)) : List AV).length : Nat)) (.int .i64 6)) fun w31_17 => 
  bnP (mxiA [w31_17, .int .i64 0]) fun w32_18 => 
  bnP (slcQ 2 (.fz 2 (l5 ++ ([.agg [s1, s2]] : List AV))) (some w32_18) none) fun w33_19 => 
  bnS (call 56 [w33_19] Q4) fun w34_20 Q21 => bnL (owZ 2 w34_20) fun l22 => 
  some (.ow 2 l22, Q21))) := by kernel_rfl
theorem f_ring_Add {s : PSpecs} (hs : s.lookup 46 = none) (v0 v1_0 v1_1 : AV) (Q : AHeap) : callP (penv s) 46 [v0, .agg [v1_0, v1_1]] Q = (
  bnC 2 (stC 2 (.agg [v1_0, v1_1])) fun s1 s2 => 
  bnS ((callP (penv s)) 56 [v0] Q) fun w7_3 Q4 => bnL (owZ 2 w7_3) fun l5 => 
  bnP (lenQ v0) fun w9_6 => 
  bnP (binA .gtr w9_6 (.int .i64 0)) fun w10_7 => 
  bnP (gdQ w10_7 true (some s1)) fun w13_8 => 
  bnP (gdQ w10_7 true (some v0)) fun w14_9 => 
  bnP (gdQ w10_7 true (some v0)) fun w15_10 => 
  bnP (gdQ w10_7 true (lenQ w15_10)) fun w16_11 => 
  bnP (gdQ w10_7 true (binA .sub w16_11 (.int .i64 1))) fun w17_12 => 
  bnP (gdQ w10_7 true (elQ 2 w14_9 w17_12)) fun e13 => 
  bnP (gdQ w10_7 true ((AV.cells e13)[0]?)) fun w20_14 => 
  bnP (gdQ w10_7 true (binA .leq w13_8 w20_14)) fun w21_15 => 
  bnP (pickA w10_7 w21_15 (.bool false)) fun w22_16 => 
  cndS w22_16 (fun _ => some (.ow 2 l5, Q4))
  (fun _ => pinB (elOk 2 (.agg [s1, s2])) <| 
  pinB (room 24 ((l5 : List AV).length + (([.agg [s1, s2]] : List AV) : List AV).length)) <| 
  bnP (binA .sub (.int .i64 (((l5 ++ ([.agg [s1, s2]] : List AV)) : List AV).length : Nat)) (.int .i64 6)) fun w31_17 => 
  bnP (mxiA [w31_17, .int .i64 0]) fun w32_18 => 
  bnP (slcQ 2 (.fz 2 (l5 ++ ([.agg [s1, s2]] : List AV))) (some w32_18) none) fun w33_19 => 
  bnS ((callP (penv s)) 56 [w33_19] Q4) fun w34_20 Q21 => bnL (owZ 2 w34_20) fun l22 => 
  some (.ow 2 l22, Q21))) := (callP_fn (fn := pf_ring_Add) hs rfl [v0, .agg [v1_0, v1_1]] Q rfl).trans (g_ring_Add v0 v1_0 v1_1 Q)
theorem g_nak_twin {call : CallF} {lp : PLoopF} (v0_0 v0_1 v0_2 v0_3 v0_4 v0_5 v0_6 : AV) (Q : AHeap) : evalPK call lp c_nak_twin [(0, .v (.agg [v0_0, v0_1, v0_2, v0_3, v0_4, v0_5, v0_6]))] [] Q (retPK [.cell 2 (some 7)] [.n]) = (
  bnC 7 (stC 7 (.agg [v0_0, v0_1, v0_2, v0_3, v0_4, v0_5, v0_6])) fun s1 s2 s3 s4 s5 s6 s7 => 
  bnS (call 56 [s3] Q) fun w5_8 Q9 => 
  bnS (call 56 [s4] Q9) fun w8_10 Q11 => 
  bnS (call 36 [s5] Q11) fun w11_12 Q13 => 
  bnC 1 (stC 1 (frz w5_8)) fun s14 => 
  bnC 1 (stC 1 (frz w8_10)) fun s15 => 
  bnC 1 (stC 1 (frz w11_12)) fun s16 => 
  bnC 7 (stC 7 (.agg [s1, s2, s14, s15, s16, s6, s7])) fun s17 s18 s19 s20 s21 s22 s23 => 
  some (.agg [s17, s18, s19, s20, s21, s22, s23], Q13)) := by kernel_rfl
theorem f_nak_twin {s : PSpecs} (hs : s.lookup 57 = none) (v0_0 v0_1 v0_2 v0_3 v0_4 v0_5 v0_6 : AV) (Q : AHeap) : callP (penv s) 57 [.agg [v0_0, v0_1, v0_2, v0_3, v0_4, v0_5, v0_6]] Q = (
  bnC 7 (stC 7 (.agg [v0_0, v0_1, v0_2, v0_3, v0_4, v0_5, v0_6])) fun s1 s2 s3 s4 s5 s6 s7 => 
  bnS ((callP (penv s)) 56 [s3] Q) fun w5_8 Q9 => 
  bnS ((callP (penv s)) 56 [s4] Q9) fun w8_10 Q11 => 
  bnS ((callP (penv s)) 36 [s5] Q11) fun w11_12 Q13 => 
  bnC 1 (stC 1 (frz w5_8)) fun s14 => 
  bnC 1 (stC 1 (frz w8_10)) fun s15 => 
  bnC 1 (stC 1 (frz w11_12)) fun s16 => 
  bnC 7 (stC 7 (.agg [s1, s2, s14, s15, s16, s6, s7])) fun s17 s18 s19 s20 s21 s22 s23 => 
  some (.agg [s17, s18, s19, s20, s21, s22, s23], Q13)) := (callP_fn (fn := pf_nak_twin) hs rfl [.agg [v0_0, v0_1, v0_2, v0_3, v0_4, v0_5, v0_6]] Q rfl).trans (g_nak_twin v0_0 v0_1 v0_2 v0_3 v0_4 v0_5 v0_6 Q)
theorem p_nak_tells_0 {β : Type} (call : CallF) (lp : PLoopF) (s1_0 s1_1 s1_2 s1_3 s1_4 s1_5 s1_6 s2_0 s2_1 s2_2 s2_3 s2_4 s2_5 s2_6 : AV) (l4 : List AV) (Q : AHeap) (k : PK β) : evalPK call lp c_nak_tells_0 [(1, .lp 1 0), (2, .lp 2 0), (4, .ls 4)] [(1, .cells [s1_0, s1_1, s1_2, s1_3, s1_4, s1_5, s1_6]), (2, .cells [s2_0, s2_1, s2_2, s2_3, s2_4, s2_5, s2_6]), (4, .own 2 l4)] Q k = (
  bnS (call 72 [s1_3, s1_0] Q) fun w13_1 Q2 => 
  bnP (extA (frz w13_1) 0) fun w14_3 => 
  bnP (extA (frz w13_1) 1) fun w15_4 => 
  bnP (extA (frz w13_1) 2) fun w16_5 => 
  bnC 2 (stC 2 w15_4) fun s6 s7 => 
  bnP (unA .not w16_5) fun w18_8 => 
  cndS w18_8 (fun _ => k (.exit 0) [(1, .lp 1 0), (2, .lp 2 0), (4, .ls 4)] [(1, .cells [s1_0, s1_1, s1_2, s1_3, s1_4, s1_5, s1_6]), (2, .cells [s2_0, s2_1, s2_2, s2_3, s2_4, s2_5, s2_6]), (4, .own 2 l4)] Q2)
  (fun _ => bnS (call 45 [s1_4, s6, s7] Q2) fun w26_9 Q10 => 
  bnS (call 46 [s1_2, .agg [s6, s7]] Q10) fun w30_11 Q12 => 
  bnC 1 (stC 1 w14_3) fun s13 => 
  bnC 1 (stC 1 (frz w26_9)) fun s14 => 
  bnC 1 (stC 1 (frz w30_11)) fun s15 => 
  bnP (binA .add s1_0 (.int .i64 1)) fun w36_16 => 
  bnC 1 (stC 1 w36_16) fun s17 => 
  pinB (elOk 2 (.agg [s6, s7])) <| 
  pinB (room 24 ((l4 : List AV).length + (([.agg [s6, s7]] : List AV) : List AV).length)) <| 
  k .normal [(1, .lp 1 0), (2, .lp 2 0), (4, .ls 4)] [(1, .cells [s17, s1_1, s15, s13, s14, s1_5, s1_6]), (2, .cells [s2_0, s2_1, s2_2, s2_3, s2_4, s2_5, s2_6]), (4, .own 2 (l4 ++ ([.agg [s6, s7]] : List AV)))] Q12)) := by kernel_rfl
noncomputable def L_nak_tells_0 (s : PSpecs) (s1_0 s1_1 s1_2 s1_3 s1_4 s1_5 s1_6 s2_0 s2_1 s2_2 s2_3 s2_4 s2_5 s2_6 : AV) (l4 : List AV) (Q : AHeap) : Option PEnd := loopP (penv s) c_nak_tells_0 [(1, .lp 1 0), (2, .lp 2 0), (4, .ls 4)] [(1, .cells [s1_0, s1_1, s1_2, s1_3, s1_4, s1_5, s1_6]), (2, .cells [s2_0, s2_1, s2_2, s2_3, s2_4, s2_5, s2_6]), (4, .own 2 l4)] Q
theorem L_nak_tells_0_fold (s : PSpecs) (s1_0 s1_1 s1_2 s1_3 s1_4 s1_5 s1_6 s2_0 s2_1 s2_2 s2_3 s2_4 s2_5 s2_6 : AV) (l4 : List AV) (Q : AHeap) : loopP (penv s) c_nak_tells_0 [(1, .lp 1 0), (2, .lp 2 0), (4, .ls 4)] [(1, .cells [s1_0, s1_1, s1_2, s1_3, s1_4, s1_5, s1_6]), (2, .cells [s2_0, s2_1, s2_2, s2_3, s2_4, s2_5, s2_6]), (4, .own 2 l4)] Q = L_nak_tells_0 s s1_0 s1_1 s1_2 s1_3 s1_4 s1_5 s1_6 s2_0 s2_1 s2_2 s2_3 s2_4 s2_5 s2_6 l4 Q := rfl
theorem L_nak_tells_0_eq (s : PSpecs) (s1_0 s1_1 s1_2 s1_3 s1_4 s1_5 s1_6 s2_0 s2_1 s2_2 s2_3 s2_4 s2_5 s2_6 : AV) (l4 : List AV) (Q : AHeap) : L_nak_tells_0 s s1_0 s1_1 s1_2 s1_3 s1_4 s1_5 s1_6 s2_0 s2_1 s2_2 s2_3 s2_4 s2_5 s2_6 l4 Q = evalPK (callP (penv s)) (loopP (penv s)) c_nak_tells_0 [(1, .lp 1 0), (2, .lp 2 0), (4, .ls 4)] [(1, .cells [s1_0, s1_1, s1_2, s1_3, s1_4, s1_5, s1_6]), (2, .cells [s2_0, s2_1, s2_2, s2_3, s2_4, s2_5, s2_6]), (4, .own 2 l4)] Q (goX (fun τ ω Q => loopP (penv s) c_nak_tells_0 τ ω Q) ret4) := loopP_body
abbrev X_nak_tells_0_x0 (s1_0 s1_1 s1_2 s1_3 s1_4 s1_5 s1_6 s2_0 s2_1 s2_2 s2_3 s2_4 s2_5 s2_6 : AV) (l4 : List AV) (Q : AHeap) : Option PEnd := some (.exit 0, [(1, .lp 1 0), (2, .lp 2 0), (4, .ls 4)], [(1, .cells [s1_0, s1_1, s1_2, s1_3, s1_4, s1_5, s1_6]), (2, .cells [s2_0, s2_1, s2_2, s2_3, s2_4, s2_5, s2_6]), (4, .own 2 l4)], Q)
theorem p_nak_tells_1 {β : Type} (call : CallF) (lp : PLoopF) (s1_0 s1_1 s1_2 s1_3 s1_4 s1_5 s1_6 s2_0 s2_1 s2_2 s2_3 s2_4 s2_5 s2_6 : AV) (l4 : List AV) (Q : AHeap) (k : PK β) : evalPK call lp c_nak_tells_1 [(1, .lp 1 0), (2, .lp 2 0), (4, .ls 4)] [(1, .cells [s1_0, s1_1, s1_2, s1_3, s1_4, s1_5, s1_6]), (2, .cells [s2_0, s2_1, s2_2, s2_3, s2_4, s2_5, s2_6]), (4, .own 2 l4)] Q k = (
  bnC 7 (stC 7 (.agg [s1_0, s1_1, s1_2, s1_3, s1_4, s1_5, s1_6])) fun s1 s2 s3 s4 s5 s6 s7 => 
  k .ret [(3, .ls 4), (48, .ls 4), (47, .v (.agg [s1_0, s1_1, s1_2, s1_3, s1_4, s1_5, s1_6])), (1, .lp 1 0), (2, .lp 2 0), (4, .ls 4)] [(2, .cells [s1, s2, s3, s4, s5, s6, s7]), (1, .cells [s1_0, s1_1, s1_2, s1_3, s1_4, s1_5, s1_6]), (4, .own 2 l4)] Q) := by kernel_rfl
theorem p_nak_tells_2 {β : Type} (call : CallF) (lp : PLoopF) (s1_0 s1_1 s1_2 s1_3 s1_4 s1_5 s1_6 s2_0 s2_1 s2_2 s2_3 s2_4 s2_5 s2_6 : AV) (l4 : List AV) (Q : AHeap) (k : PK β) : evalPK call lp c_nak_tells_2 [(1, .lp 1 0), (2, .lp 2 0), (4, .ls 4)] [(1, .cells [s1_0, s1_1, s1_2, s1_3, s1_4, s1_5, s1_6]), (2, .cells [s2_0, s2_1, s2_2, s2_3, s2_4, s2_5, s2_6]), (4, .own 2 l4)] Q k = (
  bnX (bnP (binA .gtr (.int .i64 ((l4 : List AV).length : Nat)) (.int .i64 0)) fun w44_1 => 
  cndS w44_1 (fun _ => bnS (call 61 [] Q) fun w45_2 Q3 => 
  bnC 2 (stC 2 (frz w45_2)) fun s4 s5 => 
  some (.normal, [(1, .lp 1 0), (2, .lp 2 0), (4, .ls 4)], [(1, .cells [s1_0, s1_1, s1_2, s1_3, s1_4, s4, s5]), (2, .cells [s2_0, s2_1, s2_2, s2_3, s2_4, s2_5, s2_6]), (4, .own 2 l4)], Q3))
  (fun _ => some (.normal, [(1, .lp 1 0), (2, .lp 2 0), (4, .ls 4)], [(1, .cells [s1_0, s1_1, s1_2, s1_3, s1_4, s1_5, s1_6]), (2, .cells [s2_0, s2_1, s2_2, s2_3, s2_4, s2_5, s2_6]), (4, .own 2 l4)], Q)))
  (goC (evalPK call lp c_nak_tells_1) k)) := by kernel_rfl
theorem g_nak_tells {call : CallF} {lp : PLoopF} (v0_0 v0_1 v0_2 v0_3 v0_4 v0_5 v0_6 : AV) (Q : AHeap) : evalPK call lp c_nak_tells [(0, .v (.agg [v0_0, v0_1, v0_2, v0_3, v0_4, v0_5, v0_6]))] [] Q (retPK [.cell 2 (some 7), .tmp 3] [.n, .f 2]) = (
  bnC 7 (stC 7 (.agg [v0_0, v0_1, v0_2, v0_3, v0_4, v0_5, v0_6])) fun s1 s2 s3 s4 s5 s6 s7 => 
  bnX (lp c_nak_tells_0 [(1, .lp 1 0), (2, .lp 2 0), (4, .ls 4)] [(1, .cells [s1, s2, s3, s4, s5, s6, s7]), (2, .cells [.int .i64 0, .int .i64 0, .nils, .nils, .nils, .int .i64 0, .int .i64 0]), (4, .own 2 ([] : List AV))] Q) (outX 0 (goC (evalPK call lp c_nak_tells_2) (retPK [.cell 2 (some 7), .tmp 3] [.n, .f 2])))) := by kernel_rfl
theorem f_nak_tells {s : PSpecs} (hs : s.lookup 60 = none) (v0_0 v0_1 v0_2 v0_3 v0_4 v0_5 v0_6 : AV) (Q : AHeap) : callP (penv s) 60 [.agg [v0_0, v0_1, v0_2, v0_3, v0_4, v0_5, v0_6]] Q = (
  bnC 7 (stC 7 (.agg [v0_0, v0_1, v0_2, v0_3, v0_4, v0_5, v0_6])) fun s1 s2 s3 s4 s5 s6 s7 => 
  bnX ((loopP (penv s)) c_nak_tells_0 [(1, .lp 1 0), (2, .lp 2 0), (4, .ls 4)] [(1, .cells [s1, s2, s3, s4, s5, s6, s7]), (2, .cells [.int .i64 0, .int .i64 0, .nils, .nils, .nils, .int .i64 0, .int .i64 0]), (4, .own 2 ([] : List AV))] Q) (outX 0 (goC (evalPK (callP (penv s)) (loopP (penv s)) c_nak_tells_2) (retPK [.cell 2 (some 7), .tmp 3] [.n, .f 2])))) := (callP_fn (fn := pf_nak_tells) hs rfl [.agg [v0_0, v0_1, v0_2, v0_3, v0_4, v0_5, v0_6]] Q rfl).trans (g_nak_tells v0_0 v0_1 v0_2 v0_3 v0_4 v0_5 v0_6 Q)
theorem g_wait_Start {call : CallF} {lp : PLoopF} (Q : AHeap) : evalPK call lp c_wait_Start [] [] Q (retPK [.cell 0 (some 2)] [.n]) = (
  some (.agg [.int .i64 0, .int .i64 0], Q)) := by kernel_rfl
theorem f_wait_Start {s : PSpecs} (hs : s.lookup 61 = none) (Q : AHeap) : callP (penv s) 61 [] Q = (
  some (.agg [.int .i64 0, .int .i64 0], Q)) := (callP_fn (fn := pf_wait_Start) hs rfl [] Q rfl).trans (g_wait_Start Q)
theorem p_slices_BinarySearchFunc_api_Item_api_Item_int_0 {β : Type} (call : CallF) (lp : PLoopF) (t0 t1 t2 t8 t9 t10 : AV) (Q : AHeap) (k : PK β) : evalPK call lp c_slices_BinarySearchFunc_api_Item_api_Item_int_0 [(0, .v t0), (1, .v t1), (2, .v t2), (8, .v t8), (9, .v t9), (10, .v t10)] [] Q k = (
  bnP (binA .lss t9 t10) fun w17_1 => 
  cndS w17_1 (fun _ => bnX (bnP (binA .add t9 t10) fun w20_2 => 
  bnP (cviA .u64 w20_2) fun w21_3 => 
  bnP (binA .shr w21_3 (.int .u64 1)) fun w22_4 => 
  bnP (cviA .i64 w22_4) fun w23_5 => 
  bnP (elQ 2 t0 w23_5) fun e6 => 
  bnC 2 (cut (AV.cells e6) 0 2) fun c28_7 c28_8 => 
  bnF t2 fun f11 f11f f11c => 
  bnS (lowF call f11 (f11f ++ [.agg [c28_7, c28_8], t1] ++ f11c) Q) fun w30_9 Q10 => 
  bnP (binA .lss (frz w30_9) (.int .i64 0)) fun w31_12 => 
  cndS w31_12 (fun _ => bnP (binA .add w23_5 (.int .i64 1)) fun w33_13 => 
  some (.normal, [(0, .v t0), (1, .v t1), (2, .v t2), (8, .v t8), (9, .v w33_13), (10, .v t10)], [], Q10))
  (fun _ => some (.normal, [(0, .v t0), (1, .v t1), (2, .v t2), (8, .v t8), (9, .v t9), (10, .v w23_5)], [], Q10)))
  (outX 1 (finC [] [] [0, 1, 2, 8, 9, 10] [] k)))
  (fun _ => k (.exit 0) [(0, .v t0), (1, .v t1), (2, .v t2), (8, .v t8), (9, .v t9)] [] Q)) := by kernel_rfl
noncomputable def L_slices_BinarySearchFunc_api_Item_api_Item_int_0 (s : PSpecs) (t0 t1 t2 t8 t9 t10 : AV) (Q : AHeap) : Option PEnd := loopP (penv s) c_slices_BinarySearchFunc_api_Item_api_Item_int_0 [(0, .v t0), (1, .v t1), (2, .v t2), (8, .v t8), (9, .v t9), (10, .v t10)] [] Q
theorem L_slices_BinarySearchFunc_api_Item_api_Item_int_0_fold (s : PSpecs) (t0 t1 t2 t8 t9 t10 : AV) (Q : AHeap) : loopP (penv s) c_slices_BinarySearchFunc_api_Item_api_Item_int_0 [(0, .v t0), (1, .v t1), (2, .v t2), (8, .v t8), (9, .v t9), (10, .v t10)] [] Q = L_slices_BinarySearchFunc_api_Item_api_Item_int_0 s t0 t1 t2 t8 t9 t10 Q := rfl
theorem L_slices_BinarySearchFunc_api_Item_api_Item_int_0_eq (s : PSpecs) (t0 t1 t2 t8 t9 t10 : AV) (Q : AHeap) : L_slices_BinarySearchFunc_api_Item_api_Item_int_0 s t0 t1 t2 t8 t9 t10 Q = evalPK (callP (penv s)) (loopP (penv s)) c_slices_BinarySearchFunc_api_Item_api_Item_int_0 [(0, .v t0), (1, .v t1), (2, .v t2), (8, .v t8), (9, .v t9), (10, .v t10)] [] Q (goX (fun τ ω Q => loopP (penv s) c_slices_BinarySearchFunc_api_Item_api_Item_int_0 τ ω Q) ret4) := loopP_body
abbrev X_slices_BinarySearchFunc_api_Item_api_Item_int_0_x0 (t0 t1 t2 t8 t9 : AV) (Q : AHeap) : Option PEnd := some (.exit 0, [(0, .v t0), (1, .v t1), (2, .v t2), (8, .v t8), (9, .v t9)], [], Q)
theorem p_slices_BinarySearchFunc_api_Item_api_Item_int_1 {β : Type} (call : CallF) (lp : PLoopF) (t0 t1 t2 t8 t9 : AV) (Q : AHeap) (k : PK β) : evalPK call lp c_slices_BinarySearchFunc_api_Item_api_Item_int_1 [(0, .v t0), (1, .v t1), (2, .v t2), (8, .v t8), (9, .v t9)] [] Q k = (
  bnP (binA .lss t9 t8) fun w38_1 => 
  bnP (gdQ w38_1 true (some t2)) fun w40_2 => 
  bnP (gdQ w38_1 true (some t0)) fun w41_3 => 
  bnP (gdQ w38_1 true (some t9)) fun w42_4 => 
  bnP (gdQ w38_1 true (elQ 2 w41_3 w42_4)) fun e5 => 
  bnP (gdQ w38_1 true ((cut (AV.cells e5) 0 2).map AV.agg)) fun w44_6 => 
  bnP (gdQ w38_1 true (some t1)) fun w45_7 => 
  bnS (gdH w38_1 true (bnF w40_2 fun f10 f10f f10c => lowF call f10 (f10f ++ [w44_6, w45_7] ++ f10c) Q) Q) fun w46_8 Q9 => 
  bnP (gdQ w38_1 true (binA .eql (frz w46_8) (.int .i64 0))) fun w47_11 => 
  bnP (pickA w38_1 w47_11 (.bool false)) fun w48_12 => 
  k .ret [(7, .v w48_12), (6, .v t9), (48, .v w48_12), (47, .v w47_11), (46, .v (frz w46_8)), (45, .v w45_7), (44, .v w44_6), (43, .gd 39 true (.fp e5 0)), (42, .v w42_4), (41, .v w41_3), (40, .v w40_2), (39, .v w38_1), (38, .v w38_1), (37, .v t8), (36, .v t9), (35, .v t9), (0, .v t0), (1, .v t1), (2, .v t2), (8, .v t8), (9, .v t9)] [] Q9) := by kernel_rfl
theorem g_slices_BinarySearchFunc_api_Item_api_Item_int {call : CallF} {lp : PLoopF} (v0 v1 v2 : AV) (Q : AHeap) : evalPK call lp c_slices_BinarySearchFunc_api_Item_api_Item_int [(0, .v v0), (1, .v v1), (2, .v v2)] [] Q (retPK [.tmp 6, .tmp 7] [.n, .n]) = (
  bnP (lenQ v0) fun w13_1 => 
  bnX (lp c_slices_BinarySearchFunc_api_Item_api_Item_int_0 [(0, .v v0), (1, .v v1), (2, .v v2), (8, .v w13_1), (9, .v (.int .i64 0)), (10, .v w13_1)] [] Q) (outX 0 (goC (evalPK call lp c_slices_BinarySearchFunc_api_Item_api_Item_int_1) (retPK [.tmp 6, .tmp 7] [.n, .n])))) := by kernel_rfl
theorem f_slices_BinarySearchFunc_api_Item_api_Item_int {s : PSpecs} (hs : s.lookup 65 = none) (v0 v1 v2 : AV) (Q : AHeap) : callP (penv s) 65 [v0, v1, v2] Q = (
  bnP (lenQ v0) fun w13_1 => 
  bnX ((loopP (penv s)) c_slices_BinarySearchFunc_api_Item_api_Item_int_0 [(0, .v v0), (1, .v v1), (2, .v v2), (8, .v w13_1), (9, .v (.int .i64 0)), (10, .v w13_1)] [] Q) (outX 0 (goC (evalPK (callP (penv s)) (loopP (penv s)) c_slices_BinarySearchFunc_api_Item_api_Item_int_1) (retPK [.tmp 6, .tmp 7] [.n, .n])))) := (callP_fn (fn := pf_slices_BinarySearchFunc_api_Item_api_Item_int) hs rfl [v0, v1, v2] Q rfl).trans (g_slices_BinarySearchFunc_api_Item_api_Item_int v0 v1 v2 Q)
theorem g_win_Put_1 {call : CallF} {lp : PLoopF} (v0_0 v0_1 v1 : AV) (Q : AHeap) : evalPK call lp c_win_Put_1 [(0, .v (.agg [v0_0, v0_1])), (1, .v v1)] [] Q (retPK [.tmp 4] [.n]) = (
  bnC 2 (stC 2 (.agg [v0_0, v0_1])) fun s1 s2 => 
  bnS (call 67 [s1, v1] Q) fun w8_3 Q4 => 
  bnP (rcv false .n (frz w8_3)) fun r5 => some (r5, Q4)) := by kernel_rfl
theorem f_win_Put_1 {s : PSpecs} (hs : s.lookup 66 = none) (v0_0 v0_1 v1 : AV) (Q : AHeap) : callP (penv s) 66 [.agg [v0_0, v0_1], v1] Q = (
  bnC 2 (stC 2 (.agg [v0_0, v0_1])) fun s1 s2 => 
  bnS ((callP (penv s)) 67 [s1, v1] Q) fun w8_3 Q4 => 
  bnP (rcv false .n (frz w8_3)) fun r5 => some (r5, Q4)) := (callP_fn (fn := pf_win_Put_1) hs rfl [.agg [v0_0, v0_1], v1] Q rfl).trans (g_win_Put_1 v0_0 v0_1 v1 Q)
theorem g_cmp_Compare_int {call : CallF} {lp : PLoopF} (v0 v1 : AV) (Q : AHeap) : evalPK call lp c_cmp_Compare_int [(0, .v v0), (1, .v v1)] [] Q (retPK [.tmp 4] [.n]) = (
  bnS (call 73 [v0] Q) fun w8_1 Q2 => 
  bnS (call 73 [v1] Q2) fun w10_3 Q4 => 
  cndS (frz w8_1) (fun _ => cndS (frz w10_3) (fun _ => some (.int .i64 0, Q4))
  (fun _ => some (.int .i64 (-1), Q4)))
  (fun _ => cndS (frz w10_3) (fun _ => some (.int .i64 1, Q4))
  (fun _ => bnP (binA .lss v0 v1) fun w16_5 => 
  cndS w16_5 (fun _ => some (.int .i64 (-1), Q4))
  (fun _ => bnP (binA .gtr v0 v1) fun w19_6 => 
  cndS w19_6 (fun _ => some (.int .i64 1, Q4))
  (fun _ => some (.int .i64 0, Q4)))))) := by kernel_rfl
theorem f_cmp_Compare_int {s : PSpecs} (hs : s.lookup 67 = none) (v0 v1 : AV) (Q : AHeap) : callP (penv s) 67 [v0, v1] Q = (
  bnS ((callP (penv s)) 73 [v0] Q) fun w8_1 Q2 => 
  bnS ((callP (penv s)) 73 [v1] Q2) fun w10_3 Q4 => 
  cndS (frz w8_1) (fun _ => cndS (frz w10_3) (fun _ => some (.int .i64 0, Q4))
  (fun _ => some (.int .i64 (-1), Q4)))
  (fun _ => cndS (frz w10_3) (fun _ => some (.int .i64 1, Q4))
  (fun _ => bnP (binA .lss v0 v1) fun w16_5 => 
  cndS w16_5 (fun _ => some (.int .i64 (-1), Q4))
  (fun _ => bnP (binA .gtr v0 v1) fun w19_6 => 
  cndS w19_6 (fun _ => some (.int .i64 1, Q4))
  (fun _ => some (.int .i64 0, Q4)))))) := (callP_fn (fn := pf_cmp_Compare_int) hs rfl [v0, v1] Q rfl).trans (g_cmp_Compare_int v0 v1 Q)
theorem g_win_First {call : CallF} {lp : PLoopF} (v0 : AV) (Q : AHeap) : evalPK call lp c_win_First [(0, .v v0)] [] Q (retPK [.tmp 2] [.n]) = (
  bnP (lenQ v0) fun w4_1 => 
  bnP (binA .eql w4_1 (.int .i64 0)) fun w5_2 => 
  cndS w5_2 (fun _ => some (.int .i64 0, Q))
  (fun _ => bnP (elQ 2 v0 (.int .i64 0)) fun e3 => 
  bnP ((AV.cells e3)[0]?) fun w9_4 => 
  bnP (rcv false .n w9_4) fun r5 => some (r5, Q))) := by kernel_rfl
theorem f_win_First {s : PSpecs} (hs : s.lookup 69 = none) (v0 : AV) (Q : AHeap) : callP (penv s) 69 [v0] Q = (
  bnP (lenQ v0) fun w4_1 => 
  bnP (binA .eql w4_1 (.int .i64 0)) fun w5_2 => 
  cndS w5_2 (fun _ => some (.int .i64 0, Q))
  (fun _ => bnP (elQ 2 v0 (.int .i64 0)) fun e3 => 
  bnP ((AV.cells e3)[0]?) fun w9_4 => 
  bnP (rcv false .n w9_4) fun r5 => some (r5, Q))) := (callP_fn (fn := pf_win_First) hs rfl [v0] Q rfl).trans (g_win_First v0 Q)
theorem g_win_Take {call : CallF} {lp : PLoopF} (v0 v1 : AV) (Q : AHeap) : evalPK call lp c_win_Take [(0, .v v0), (1, .v v1)] [] Q (retPK [.tmp 4, .cell 5 (some 2), .tmp 6] [.f 2, .n, .n]) = (
  bnS (call 56 [v0] Q) fun w8_1 Q2 => 
  bnS (call 69 [v0] Q2) fun w10_3 Q4 => 
  bnP (binA .neq (frz w10_3) v1) fun w12_5 => 
  bnP (gdQ w12_5 false (some v0)) fun w14_6 => 
  bnP (gdQ w12_5 false (lenQ w14_6)) fun w15_7 => 
  bnP (gdQ w12_5 false (binA .eql w15_7 (.int .i64 0))) fun w16_8 => 
  bnP (pickA w12_5 (.bool true) w16_8) fun w17_9 => 
  cndS w17_9 (fun _ => bnP (rcv false (.f 2) (frz w8_1)) fun r10 => some (.tup [frz r10, .agg [.int .i64 0, .str []], .bool false], Q4))
  (fun _ => bnP (slcQ 2 (frz w8_1) (some (.int .i64 1)) none) fun w21_11 => 
  bnP (elQ 2 v0 (.int .i64 0)) fun e12 => 
  bnC 2 (cut (AV.cells e12) 0 2) fun c24_13 c24_14 => 
  bnC 2 (stC 2 (.agg [c24_13, c24_14])) fun s15 s16 => 
  bnP (rcv false (.f 2) w21_11) fun r17 => some (.tup [frz r17, .agg [s15, s16], .bool true], Q4))) := by kernel_rfl
theorem f_win_Take {s : PSpecs} (hs : s.lookup 72 = none) (v0 v1 : AV) (Q : AHeap) : callP (penv s) 72 [v0, v1] Q = (
  bnS ((callP (penv s)) 56 [v0] Q) fun w8_1 Q2 => 
  bnS ((callP (penv s)) 69 [v0] Q2) fun w10_3 Q4 => 
  bnP (binA .neq (frz w10_3) v1) fun w12_5 => 
  bnP (gdQ w12_5 false (some v0)) fun w14_6 => 
  bnP (gdQ w12_5 false (lenQ w14_6)) fun w15_7 => 
  bnP (gdQ w12_5 false (binA .eql w15_7 (.int .i64 0))) fun w16_8 => 
  bnP (pickA w12_5 (.bool true) w16_8) fun w17_9 => 
  cndS w17_9 (fun _ => bnP (rcv false (.f 2) (frz w8_1)) fun r10 => some (.tup [frz r10, .agg [.int .i64 0, .str []], .bool false], Q4))
  (fun _ => bnP (slcQ 2 (frz w8_1) (some (.int .i64 1)) none) fun w21_11 => 
  bnP (elQ 2 v0 (.int .i64 0)) fun e12 => 
  bnC 2 (cut (AV.cells e12) 0 2) fun c24_13 c24_14 => 
  bnC 2 (stC 2 (.agg [c24_13, c24_14])) fun s15 s16 => 
  bnP (rcv false (.f 2) w21_11) fun r17 => some (.tup [frz r17, .agg [s15, s16], .bool true], Q4))) := (callP_fn (fn := pf_win_Take) hs rfl [v0, v1] Q rfl).trans (g_win_Take v0 v1 Q)
theorem g_cmp_isNaN_int {call : CallF} {lp : PLoopF} (v0 : AV) (Q : AHeap) : evalPK call lp c_cmp_isNaN_int [(0, .v v0)] [] Q (retPK [.tmp 2] [.n]) = (
  bnP (binA .neq v0 v0) fun w5_1 => 
  bnP (rcv false .n w5_1) fun r2 => some (r2, Q)) := by kernel_rfl
theorem f_cmp_isNaN_int {s : PSpecs} (hs : s.lookup 73 = none) (v0 : AV) (Q : AHeap) : callP (penv s) 73 [v0] Q = (
  bnP (binA .neq v0 v0) fun w5_1 => 
  bnP (rcv false .n w5_1) fun r2 => some (r2, Q)) := (callP_fn (fn := pf_cmp_isNaN_int) hs rfl [v0] Q rfl).trans (g_cmp_isNaN_int v0 Q)
end Go.Proofs.Ytmogepinpdibdaa.Pf
