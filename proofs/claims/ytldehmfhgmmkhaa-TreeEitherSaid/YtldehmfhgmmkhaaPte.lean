/- Equations by values. Printed by mkpv.py of this repo. -/
import Derived.Test.YtldehmfhgmmkhaaPtd
import Derived.Test.YtldehmfhgmmkhaaPvE
namespace Go.Proofs.Ytldehmfhgmmkhaa.Pt
open Go.Ab
set_option maxRecDepth 100000
set_option linter.unusedVariables false
set_option linter.unusedSimpArgs false
/-! 11: pleach/pleachlaw21.TreeEither -/
theorem p_pleachlaw21_TreeEither_0 {β : Type} (call : CallF) (lp : PLoopF) (t3 t5 : AV) (l4 : List AV) (Q : AHeap) (k : PK β) : evalPK call lp c_pleachlaw21_TreeEither_0 [(3, .v t3), (4, .ls 4), (5, .v t5)] [(4, .own 1 l4)] Q k = (
  bnP (lenQ t3) fun w26_1 => 
  bnP (binA .lss t5 w26_1) fun w27_2 => 
  cndS w27_2 (fun _ => bnN (idxN (l4 : List AV).length t5) fun i3 => 
  bnP ((l4)[i3]?) fun e4 => bnP (setE e4 0 [.bool true]) fun e5 => 
  bnP (binA .add t5 (.int .i64 1)) fun w29_6 => 
  k .normal [(3, .v t3), (4, .ls 4), (5, .v w29_6)] [(4, .own 1 ((l4).set i3 e5))] Q)
  (fun _ => k (.exit 0) [(3, .v t3), (4, .ls 4)] [(4, .own 1 l4)] Q)) := by kernel_rfl
noncomputable def L_pleachlaw21_TreeEither_0 (s : PSpecs) (t3 t5 : AV) (l4 : List AV) (Q : AHeap) : Option PEnd := loopP (penv s) c_pleachlaw21_TreeEither_0 [(3, .v t3), (4, .ls 4), (5, .v t5)] [(4, .own 1 l4)] Q
theorem L_pleachlaw21_TreeEither_0_fold (s : PSpecs) (t3 t5 : AV) (l4 : List AV) (Q : AHeap) : loopP (penv s) c_pleachlaw21_TreeEither_0 [(3, .v t3), (4, .ls 4), (5, .v t5)] [(4, .own 1 l4)] Q = L_pleachlaw21_TreeEither_0 s t3 t5 l4 Q := rfl
theorem L_pleachlaw21_TreeEither_0_eq (s : PSpecs) (t3 t5 : AV) (l4 : List AV) (Q : AHeap) : L_pleachlaw21_TreeEither_0 s t3 t5 l4 Q = evalPK (callP (penv s)) (loopP (penv s)) c_pleachlaw21_TreeEither_0 [(3, .v t3), (4, .ls 4), (5, .v t5)] [(4, .own 1 l4)] Q (goX (fun τ ω Q => loopP (penv s) c_pleachlaw21_TreeEither_0 τ ω Q) ret4) := loopP_body
abbrev X_pleachlaw21_TreeEither_0_x0 (t3 : AV) (l4 : List AV) (Q : AHeap) : Option PEnd := some (.exit 0, [(3, .v t3), (4, .ls 4)], [(4, .own 1 l4)], Q)
theorem p_pleachlaw21_TreeEither_1 {β : Type} (call : CallF) (lp : PLoopF) (t3 t6 t7 t8 t9 : AV) (Q : AHeap) (k : PK β) : evalPK call lp c_pleachlaw21_TreeEither_1 [(3, .v t3), (6, .v t6), (7, .v t7), (8, .v t8), (9, .v t9)] [] Q k = (
  bnP (binA .lss t9 (.int .i64 30)) fun w44_1 => 
  bnP (gdQ w44_1 true (some t8)) fun w46_2 => 
  bnP (gdQ w44_1 true (binA .geq w46_2 (.int .i64 1))) fun w47_3 => 
  bnP (pickA w44_1 w47_3 (.bool false)) fun w48_4 => 
  bnP (gdQ w48_4 true (some t8)) fun w50_5 => 
  bnP (gdQ w48_4 true (some t3)) fun w51_6 => 
  bnP (gdQ w48_4 true (lenQ w51_6)) fun w52_7 => 
  bnP (gdQ w48_4 true (binA .leq w50_5 w52_7)) fun w53_8 => 
  bnP (pickA w48_4 w53_8 (.bool false)) fun w54_9 => 
  cndS w54_9 (fun _ => bnP (binA .sub t8 (.int .i64 1)) fun w59_10 => 
  bnP (elQ 1 t3 w59_10) fun e11 => 
  bnP ((AV.cells e11)[0]?) fun w61_12 => 
  bnP (binA .add t9 (.int .i64 1)) fun w56_13 => 
  k .normal [(3, .v t3), (6, .v t6), (7, .v t7), (8, .v w61_12), (9, .v w56_13)] [] Q)
  (fun _ => k (.exit 4) [(3, .v t3), (6, .v t6), (7, .v t7), (8, .v t8)] [] Q)) := by kernel_rfl
noncomputable def L_pleachlaw21_TreeEither_1 (s : PSpecs) (t3 t6 t7 t8 t9 : AV) (Q : AHeap) : Option PEnd := loopP (penv s) c_pleachlaw21_TreeEither_1 [(3, .v t3), (6, .v t6), (7, .v t7), (8, .v t8), (9, .v t9)] [] Q
theorem L_pleachlaw21_TreeEither_1_fold (s : PSpecs) (t3 t6 t7 t8 t9 : AV) (Q : AHeap) : loopP (penv s) c_pleachlaw21_TreeEither_1 [(3, .v t3), (6, .v t6), (7, .v t7), (8, .v t8), (9, .v t9)] [] Q = L_pleachlaw21_TreeEither_1 s t3 t6 t7 t8 t9 Q := rfl
theorem L_pleachlaw21_TreeEither_1_eq (s : PSpecs) (t3 t6 t7 t8 t9 : AV) (Q : AHeap) : L_pleachlaw21_TreeEither_1 s t3 t6 t7 t8 t9 Q = evalPK (callP (penv s)) (loopP (penv s)) c_pleachlaw21_TreeEither_1 [(3, .v t3), (6, .v t6), (7, .v t7), (8, .v t8), (9, .v t9)] [] Q (goX (fun τ ω Q => loopP (penv s) c_pleachlaw21_TreeEither_1 τ ω Q) ret4) := loopP_body
abbrev X_pleachlaw21_TreeEither_1_x4 (t3 t6 t7 t8 : AV) (Q : AHeap) : Option PEnd := some (.exit 4, [(3, .v t3), (6, .v t6), (7, .v t7), (8, .v t8)], [], Q)
theorem p_pleachlaw21_TreeEither_2 {β : Type} (call : CallF) (lp : PLoopF) (t3 t6 t7 t10 t11 : AV) (Q : AHeap) (k : PK β) : evalPK call lp c_pleachlaw21_TreeEither_2 [(3, .v t3), (6, .v t6), (7, .v t7), (10, .v t10), (11, .v t11)] [] Q k = (
  bnP (lenQ t10) fun w79_1 => 
  bnP (binA .lss t11 w79_1) fun w80_2 => 
  cndS w80_2 (fun _ => bnP (binA .add t11 (.int .i64 1)) fun w85_3 => 
  bnP (lenQ t10) fun w87_4 => 
  bnP (binA .rem w85_3 w87_4) fun w88_5 => 
  bnP (elQ 1 t10 w88_5) fun e6 => 
  bnP ((AV.cells e6)[0]?) fun w90_7 => 
  bnP (elQ 1 t10 t11) fun e8 => 
  bnP ((AV.cells e8)[0]?) fun w94_9 => 
  bnP (binA .lss w94_9 (.int .i64 1)) fun w95_10 => 
  bnP (gdQ w95_10 false (some t10)) fun w97_11 => 
  bnP (gdQ w95_10 false (some t11)) fun w98_12 => 
  bnP (gdQ w95_10 false (elQ 1 w97_11 w98_12)) fun e13 => 
  bnP (gdQ w95_10 false ((AV.cells e13)[0]?)) fun w100_14 => 
  bnP (gdQ w95_10 false (some t3)) fun w101_15 => 
  bnP (gdQ w95_10 false (lenQ w101_15)) fun w102_16 => 
  bnP (gdQ w95_10 false (binA .gtr w100_14 w102_16)) fun w103_17 => 
  bnP (pickA w95_10 (.bool true) w103_17) fun w104_18 => 
  bnP (gdQ w104_18 false (some t3)) fun w106_19 => 
  bnP (gdQ w104_18 false (some t10)) fun w107_20 => 
  bnP (gdQ w104_18 false (some t11)) fun w108_21 => 
  bnP (gdQ w104_18 false (elQ 1 w107_20 w108_21)) fun e22 => 
  bnP (gdQ w104_18 false ((AV.cells e22)[0]?)) fun w110_23 => 
  bnP (gdQ w104_18 false (binA .sub w110_23 (.int .i64 1))) fun w111_24 => 
  bnP (gdQ w104_18 false (elQ 1 w106_19 w111_24)) fun e25 => 
  bnP (gdQ w104_18 false ((AV.cells e25)[0]?)) fun w113_26 => 
  bnP (gdQ w104_18 false (some w90_7)) fun w114_27 => 
  bnP (gdQ w104_18 false (binA .neq w113_26 w114_27)) fun w115_28 => 
  bnP (pickA w104_18 (.bool true) w115_28) fun w116_29 => 
  cndS w116_29 (fun _ => k .ret [(2, .v (.bool false))] [] Q)
  (fun _ => bnP (binA .add t11 (.int .i64 1)) fun w82_30 => 
  k .normal [(3, .v t3), (6, .v t6), (7, .v t7), (10, .v t10), (11, .v w82_30)] [] Q))
  (fun _ => k (.exit 6) [(3, .v t3), (6, .v t6), (7, .v t7), (10, .v t10)] [] Q)) := by kernel_rfl
noncomputable def L_pleachlaw21_TreeEither_2 (s : PSpecs) (t3 t6 t7 t10 t11 : AV) (Q : AHeap) : Option PEnd := loopP (penv s) c_pleachlaw21_TreeEither_2 [(3, .v t3), (6, .v t6), (7, .v t7), (10, .v t10), (11, .v t11)] [] Q
theorem L_pleachlaw21_TreeEither_2_fold (s : PSpecs) (t3 t6 t7 t10 t11 : AV) (Q : AHeap) : loopP (penv s) c_pleachlaw21_TreeEither_2 [(3, .v t3), (6, .v t6), (7, .v t7), (10, .v t10), (11, .v t11)] [] Q = L_pleachlaw21_TreeEither_2 s t3 t6 t7 t10 t11 Q := rfl
theorem L_pleachlaw21_TreeEither_2_eq (s : PSpecs) (t3 t6 t7 t10 t11 : AV) (Q : AHeap) : L_pleachlaw21_TreeEither_2 s t3 t6 t7 t10 t11 Q = evalPK (callP (penv s)) (loopP (penv s)) c_pleachlaw21_TreeEither_2 [(3, .v t3), (6, .v t6), (7, .v t7), (10, .v t10), (11, .v t11)] [] Q (goX (fun τ ω Q => loopP (penv s) c_pleachlaw21_TreeEither_2 τ ω Q) ret4) := loopP_body
abbrev X_pleachlaw21_TreeEither_2_x6 (t3 t6 t7 t10 : AV) (Q : AHeap) : Option PEnd := some (.exit 6, [(3, .v t3), (6, .v t6), (7, .v t7), (10, .v t10)], [], Q)
abbrev X_pleachlaw21_TreeEither_2_ret (t2 : AV) (Q : AHeap) : Option PEnd := some (.ret, [(2, .v t2)], [], Q)
theorem p_pleachlaw21_TreeEither_3 {β : Type} (call : CallF) (lp : PLoopF) (t3 t6 t7 t10 : AV) (Q : AHeap) (k : PK β) : evalPK call lp c_pleachlaw21_TreeEither_3 [(3, .v t3), (6, .v t6), (7, .v t7), (10, .v t10)] [] Q k = (
  bnS (call 44 [t3, t7] Q) fun w119_1 Q2 => 
  bnP (gdQ t6 true (some t10)) fun w122_3 => 
  bnP (gdQ t6 true (lenQ w122_3)) fun w123_4 => 
  bnP (gdQ t6 true (binA .gtr w123_4 (.int .i64 0))) fun w124_5 => 
  bnP (gdQ t6 true (some w124_5)) fun w125_6 => 
  bnP (gdQ w125_6 false (some (frz w119_1))) fun w126_7 => 
  bnP (gdQ w125_6 false (binA .lss w126_7 (.int .i64 0))) fun w127_8 => 
  bnP (gdQ t6 true (pickA w125_6 (.bool true) w127_8)) fun w128_9 => 
  bnP (gdQ t6 true (some w128_9)) fun w129_10 => 
  bnP (gdQ w129_10 false (some t7)) fun w130_11 => 
  bnP (gdQ w129_10 false (binA .gtr w130_11 (.int .i64 1))) fun w131_12 => 
  bnP (gdQ w129_10 false (some w131_12)) fun w132_13 => 
  bnP (gdQ w132_13 true (some (frz w119_1))) fun w133_14 => 
  bnP (gdQ w132_13 true (some t3)) fun w134_15 => 
  bnP (gdQ w132_13 true (some t3)) fun w135_16 => 
  bnP (gdQ w132_13 true (some t7)) fun w136_17 => 
  bnP (gdQ w132_13 true (binA .sub w136_17 (.int .i64 1))) fun w137_18 => 
  bnP (gdQ w132_13 true (elQ 1 w135_16 w137_18)) fun e19 => 
  bnP (gdQ w132_13 true ((AV.cells e19)[0]?)) fun w139_20 => 
  bnS (gdH w132_13 true (call 44 [w134_15, w139_20] Q2) Q2) fun w140_21 Q22 => 
  bnP (gdQ w132_13 true (binA .add (frz w140_21) (.int .i64 1))) fun w141_23 => 
  bnP (gdQ w132_13 true (binA .neq w133_14 w141_23)) fun w142_24 => 
  bnP (gdQ w129_10 false (pickA w132_13 w142_24 (.bool false))) fun w143_25 => 
  bnP (gdQ t6 true (pickA w129_10 (.bool true) w143_25)) fun w144_26 => 
  bnP (pickA t6 w144_26 (.bool false)) fun w145_27 => 
  bnP (gdQ w145_27 false (some t7)) fun w147_28 => 
  bnP (gdQ w145_27 false (binA .gtr w147_28 (.int .i64 1))) fun w148_29 => 
  bnP (gdQ w145_27 false (some w148_29)) fun w149_30 => 
  bnP (gdQ w149_30 true (some (frz w119_1))) fun w150_31 => 
  bnP (gdQ w149_30 true (binA .gtr w150_31 (.int .i64 0))) fun w151_32 => 
  bnP (gdQ w145_27 false (pickA w149_30 w151_32 (.bool false))) fun w152_33 => 
  bnP (gdQ w145_27 false (some w152_33)) fun w153_34 => 
  bnP (gdQ w153_34 true (some (frz w119_1))) fun w154_35 => 
  bnP (gdQ w153_34 true (some t3)) fun w155_36 => 
  bnP (gdQ w153_34 true (some t3)) fun w156_37 => 
  bnP (gdQ w153_34 true (some t7)) fun w157_38 => 
  bnP (gdQ w153_34 true (binA .sub w157_38 (.int .i64 1))) fun w158_39 => 
  bnP (gdQ w153_34 true (elQ 1 w156_37 w158_39)) fun e40 => 
  bnP (gdQ w153_34 true ((AV.cells e40)[0]?)) fun w160_41 => 
  bnS (gdH w153_34 true (call 44 [w155_36, w160_41] Q22) Q22) fun w161_42 Q43 => 
  bnP (gdQ w153_34 true (binA .add (frz w161_42) (.int .i64 1))) fun w162_44 => 
  bnP (gdQ w153_34 true (binA .neq w154_35 w162_44)) fun w163_45 => 
  bnP (gdQ w145_27 false (pickA w153_34 w163_45 (.bool false))) fun w164_46 => 
  bnP (pickA w145_27 (.bool true) w164_46) fun w165_47 => 
  cndS w165_47 (fun _ => k .ret [(2, .v (.bool false))] [] Q43)
  (fun _ => k .normal [(165, .v w165_47), (164, .v w164_46), (163, .v w163_45), (162, .v w162_44), (161, .v (frz w161_42)), (160, .v w160_41), (159, .gd 153 true (.fp e40 0)), (158, .v w158_39), (157, .v w157_38), (156, .v w156_37), (155, .v w155_36), (154, .v w154_35), (153, .v w153_34), (152, .v w152_33), (151, .v w151_32), (150, .v w150_31), (149, .v w149_30), (148, .v w148_29), (147, .v w147_28), (146, .v w145_27), (145, .v w145_27), (144, .v w144_26), (143, .v w143_25), (142, .v w142_24), (141, .v w141_23), (140, .v (frz w140_21)), (139, .v w139_20), (138, .gd 132 true (.fp e19 0)), (137, .v w137_18), (136, .v w136_17), (135, .v w135_16), (134, .v w134_15), (133, .v w133_14), (132, .v w132_13), (131, .v w131_12), (130, .v w130_11), (129, .v w129_10), (128, .v w128_9), (127, .v w127_8), (126, .v w126_7), (125, .v w125_6), (124, .v w124_5), (123, .v w123_4), (122, .v w122_3), (121, .v t6), (120, .v t6), (13, .v (frz w119_1)), (119, .v (frz w119_1)), (118, .v t7), (117, .v t3), (3, .v t3), (6, .v t6), (7, .v t7), (10, .v t10)] [] Q43)) := by kernel_rfl
theorem p_pleachlaw21_TreeEither_4 {β : Type} (call : CallF) (lp : PLoopF) (t3 t6 t7 t8 : AV) (Q : AHeap) (k : PK β) : evalPK call lp c_pleachlaw21_TreeEither_4 [(3, .v t3), (6, .v t6), (7, .v t7), (8, .v t8)] [] Q k = (
  bnS (call 43 [t3, t7] Q) fun w64_1 Q2 => 
  bnP (binA .geq t8 (.int .i64 1)) fun w66_3 => 
  bnP (gdQ w66_3 true (some t8)) fun w68_4 => 
  bnP (gdQ w66_3 true (some t3)) fun w69_5 => 
  bnP (gdQ w66_3 true (lenQ w69_5)) fun w70_6 => 
  bnP (gdQ w66_3 true (binA .leq w68_4 w70_6)) fun w71_7 => 
  bnP (pickA w66_3 w71_7 (.bool false)) fun w72_8 => 
  bnP (lenQ (frz w64_1)) fun w74_9 => 
  bnP (binA .gtr w74_9 (.int .i64 0)) fun w75_10 => 
  bnP (eqsA true .b w72_8 w75_10) fun w76_11 => 
  cndS w76_11 (fun _ => k .ret [(2, .v (.bool false))] [] Q2)
  (fun _ => bnX (lp c_pleachlaw21_TreeEither_2 [(3, .v t3), (6, .v t6), (7, .v t7), (10, .v (frz w64_1)), (11, .v (.int .i64 0))] [] Q2) (outX 6 (goC (evalPK call lp c_pleachlaw21_TreeEither_3) k)))) := by kernel_rfl
theorem p_pleachlaw21_TreeEither_5 {β : Type} (call : CallF) (lp : PLoopF) (t3 t6 t7 : AV) (Q : AHeap) (k : PK β) : evalPK call lp c_pleachlaw21_TreeEither_5 [(3, .v t3), (6, .v t6), (7, .v t7)] [] Q k = (
  bnP (binA .add t7 (.int .i64 1)) fun w41_1 => 
  k .normal [(7, .v w41_1), (41, .v w41_1), (40, .v t7), (3, .v t3), (6, .v t6), (7, .v t7)] [] Q) := by kernel_rfl
theorem p_pleachlaw21_TreeEither_6 {β : Type} (call : CallF) (lp : PLoopF) (t3 t6 t7 : AV) (Q : AHeap) (k : PK β) : evalPK call lp c_pleachlaw21_TreeEither_6 [(3, .v t3), (6, .v t6), (7, .v t7)] [] Q k = (
  bnP (lenQ t3) fun w38_1 => 
  bnP (binA .leq t7 w38_1) fun w39_2 => 
  cndS w39_2 (fun _ => bnX (lp c_pleachlaw21_TreeEither_1 [(3, .v t3), (6, .v t6), (7, .v t7), (8, .v t7), (9, .v (.int .i64 0))] [] Q) (outX 4 (goC (evalPK call lp c_pleachlaw21_TreeEither_4) (finC [] [] [3, 6, 7] [] (outX 3 (goC (evalPK call lp c_pleachlaw21_TreeEither_5) (finC [] [] [3, 6, 7] [] k)))))))
  (fun _ => k (.exit 2) [] [] Q)) := by kernel_rfl
noncomputable def L_pleachlaw21_TreeEither_6 (s : PSpecs) (t3 t6 t7 : AV) (Q : AHeap) : Option PEnd := loopP (penv s) c_pleachlaw21_TreeEither_6 [(3, .v t3), (6, .v t6), (7, .v t7)] [] Q
theorem L_pleachlaw21_TreeEither_6_fold (s : PSpecs) (t3 t6 t7 : AV) (Q : AHeap) : loopP (penv s) c_pleachlaw21_TreeEither_6 [(3, .v t3), (6, .v t6), (7, .v t7)] [] Q = L_pleachlaw21_TreeEither_6 s t3 t6 t7 Q := rfl
theorem L_pleachlaw21_TreeEither_6_eq (s : PSpecs) (t3 t6 t7 : AV) (Q : AHeap) : L_pleachlaw21_TreeEither_6 s t3 t6 t7 Q = evalPK (callP (penv s)) (loopP (penv s)) c_pleachlaw21_TreeEither_6 [(3, .v t3), (6, .v t6), (7, .v t7)] [] Q (goX (fun τ ω Q => loopP (penv s) c_pleachlaw21_TreeEither_6 τ ω Q) ret4) := loopP_body
abbrev X_pleachlaw21_TreeEither_6_x2 (Q : AHeap) : Option PEnd := some (.exit 2, [], [], Q)
abbrev X_pleachlaw21_TreeEither_6_ret (t2 : AV) (Q : AHeap) : Option PEnd := some (.ret, [(2, .v t2)], [], Q)
theorem p_pleachlaw21_TreeEither_7 {β : Type} (call : CallF) (lp : PLoopF) (Q : AHeap) (k : PK β) : evalPK call lp c_pleachlaw21_TreeEither_7 [] [] Q k = (
  k .ret [(2, .v (.bool true))] [] Q) := by kernel_rfl
theorem p_pleachlaw21_TreeEither_8 {β : Type} (call : CallF) (lp : PLoopF) (t3 : AV) (l4 : List AV) (Q : AHeap) (k : PK β) : evalPK call lp c_pleachlaw21_TreeEither_8 [(3, .v t3), (4, .ls 4)] [(4, .own 1 l4)] Q k = (
  bnS (call 42 [t3, .fz 1 l4] ⟨Q.size, .leaf⟩) fun w35_1 _ => pinB (flatR w35_1) <| 
  bnX (lp c_pleachlaw21_TreeEither_6 [(3, .v t3), (6, .v w35_1), (7, .v (.int .i64 1))] [] Q) (outX 2 (goC (evalPK call lp c_pleachlaw21_TreeEither_7) k))) := by kernel_rfl
theorem g_pleachlaw21_TreeEither {call : CallF} {lp : PLoopF} (v0 : AV) (Q : AHeap) : evalPK call lp c_pleachlaw21_TreeEither [(0, .v v0)] [] Q (retPK [.tmp 2] [.n]) = (
  bnS (call 40 [] Q) fun w14_1 Q2 => 
  bnP (unA .not (frz w14_1)) fun w15_3 => 
  cndS w15_3 (fun _ => some (.bool false, Q2))
  (fun _ => bnP (lenQ v0) fun w17_4 => 
  bnP (binA .gtr w17_4 (.int .i64 12)) fun w18_5 => 
  cndS w18_5 (fun _ => some (.bool true, Q2))
  (fun _ => bnS (call 41 [v0] Q2) fun w20_6 Q7 => 
  bnP (lenQ (frz w20_6)) fun w22_8 => 
  bnN (mksN 1 w22_8 w22_8) fun n9 => 
  bnX (lp c_pleachlaw21_TreeEither_0 [(3, .v (frz w20_6)), (4, .ls 4), (5, .v (.int .i64 0))] [(4, .own 1 (List.replicate n9 (mkE [.bool false])))] Q7) (outX 0 (goC (evalPK call lp c_pleachlaw21_TreeEither_8) (retPK [.tmp 2] [.n])))))) := by kernel_rfl
theorem f_pleachlaw21_TreeEither {s : PSpecs} (hs : s.lookup 11 = none) (v0 : AV) (Q : AHeap) : callP (penv s) 11 [v0] Q = (
  bnS ((callP (penv s)) 40 [] Q) fun w14_1 Q2 => 
  bnP (unA .not (frz w14_1)) fun w15_3 => 
  cndS w15_3 (fun _ => some (.bool false, Q2))
  (fun _ => bnP (lenQ v0) fun w17_4 => 
  bnP (binA .gtr w17_4 (.int .i64 12)) fun w18_5 => 
  cndS w18_5 (fun _ => some (.bool true, Q2))
  (fun _ => bnS ((callP (penv s)) 41 [v0] Q2) fun w20_6 Q7 => 
  bnP (lenQ (frz w20_6)) fun w22_8 => 
  bnN (mksN 1 w22_8 w22_8) fun n9 => 
  bnX ((loopP (penv s)) c_pleachlaw21_TreeEither_0 [(3, .v (frz w20_6)), (4, .ls 4), (5, .v (.int .i64 0))] [(4, .own 1 (List.replicate n9 (mkE [.bool false])))] Q7) (outX 0 (goC (evalPK (callP (penv s)) (loopP (penv s)) c_pleachlaw21_TreeEither_8) (retPK [.tmp 2] [.n])))))) := (callP_fn (fn := pf_pleachlaw21_TreeEither) hs rfl [v0] Q rfl).trans (g_pleachlaw21_TreeEither v0 Q)
/-! 13: pleach/pleachlaw21.TreeMoved -/
theorem p_pleachlaw21_TreeMoved_0 {β : Type} (call : CallF) (lp : PLoopF) (t0 t1 t2 t9 : AV) (l7 l8 : List AV) (Q : AHeap) (k : PK β) : evalPK call lp c_pleachlaw21_TreeMoved_0 [(0, .v t0), (1, .v t1), (2, .v t2), (7, .ls 7), (8, .ls 8), (9, .v t9)] [(7, .own 1 l7), (8, .own 1 l8)] Q k = (
  bnP (lenQ t0) fun w26_1 => 
  bnP (binA .lss t9 w26_1) fun w27_2 => 
  cndS w27_2 (fun _ => bnP (elQ 1 t0 t9) fun e3 => 
  bnP ((AV.cells e3)[0]?) fun w34_4 => 
  bnP (cviA .i64 w34_4) fun w35_5 => 
  bnP (binA .add t9 (.int .i64 1)) fun w37_6 => 
  bnP (binA .rem w35_5 w37_6) fun w38_7 => 
  bnP (binA .add (.int .i64 1) w38_7) fun w39_8 => 
  pinB (elOk 1 w39_8) <| 
  pinB (room 8 ((l7 : List AV).length + (([w39_8] : List AV) : List AV).length)) <| 
  pinB (room 1 ((l8 : List AV).length + (([.bool true] : List AV) : List AV).length)) <| 
  bnP (binA .add t9 (.int .i64 1)) fun w29_9 => 
  k .normal [(0, .v t0), (1, .v t1), (2, .v t2), (7, .ls 7), (8, .ls 8), (9, .v w29_9)] [(7, .own 1 (l7 ++ ([w39_8] : List AV))), (8, .own 1 (l8 ++ ([.bool true] : List AV)))] Q)
  (fun _ => k (.exit 0) [(0, .v t0), (1, .v t1), (2, .v t2), (7, .ls 7), (8, .ls 8)] [(7, .own 1 l7), (8, .own 1 l8)] Q)) := by kernel_rfl
noncomputable def L_pleachlaw21_TreeMoved_0 (s : PSpecs) (t0 t1 t2 t9 : AV) (l7 l8 : List AV) (Q : AHeap) : Option PEnd := loopP (penv s) c_pleachlaw21_TreeMoved_0 [(0, .v t0), (1, .v t1), (2, .v t2), (7, .ls 7), (8, .ls 8), (9, .v t9)] [(7, .own 1 l7), (8, .own 1 l8)] Q
theorem L_pleachlaw21_TreeMoved_0_fold (s : PSpecs) (t0 t1 t2 t9 : AV) (l7 l8 : List AV) (Q : AHeap) : loopP (penv s) c_pleachlaw21_TreeMoved_0 [(0, .v t0), (1, .v t1), (2, .v t2), (7, .ls 7), (8, .ls 8), (9, .v t9)] [(7, .own 1 l7), (8, .own 1 l8)] Q = L_pleachlaw21_TreeMoved_0 s t0 t1 t2 t9 l7 l8 Q := rfl
theorem L_pleachlaw21_TreeMoved_0_eq (s : PSpecs) (t0 t1 t2 t9 : AV) (l7 l8 : List AV) (Q : AHeap) : L_pleachlaw21_TreeMoved_0 s t0 t1 t2 t9 l7 l8 Q = evalPK (callP (penv s)) (loopP (penv s)) c_pleachlaw21_TreeMoved_0 [(0, .v t0), (1, .v t1), (2, .v t2), (7, .ls 7), (8, .ls 8), (9, .v t9)] [(7, .own 1 l7), (8, .own 1 l8)] Q (goX (fun τ ω Q => loopP (penv s) c_pleachlaw21_TreeMoved_0 τ ω Q) ret4) := loopP_body
abbrev X_pleachlaw21_TreeMoved_0_x0 (t0 t1 t2 : AV) (l7 l8 : List AV) (Q : AHeap) : Option PEnd := some (.exit 0, [(0, .v t0), (1, .v t1), (2, .v t2), (7, .ls 7), (8, .ls 8)], [(7, .own 1 l7), (8, .own 1 l8)], Q)
theorem p_pleachlaw21_TreeMoved_1 {β : Type} (call : CallF) (lp : PLoopF) (t10 t11 t12 t13 t14 : AV) (l7 l8 : List AV) (Q : AHeap) (k : PK β) : evalPK call lp c_pleachlaw21_TreeMoved_1 [(7, .ls 7), (8, .ls 8), (10, .v t10), (11, .v t11), (12, .v t12), (13, .v t13), (14, .v t14)] [(7, .own 1 l7), (8, .own 1 l8)] Q k = (
  bnP (binA .neq t13 (.int .i64 0)) fun w66_1 => 
  bnP (gdQ w66_1 true (some t14)) fun w68_2 => 
  bnP (gdQ w66_1 true (binA .lss w68_2 (.int .i64 9))) fun w69_3 => 
  bnP (pickA w66_1 w69_3 (.bool false)) fun w70_4 => 
  cndS w70_4 (fun _ => bnP (gdQ t12 false (some t13)) fun w75_5 => 
  bnP (gdQ t12 false (some t10)) fun w76_6 => 
  bnP (gdQ t12 false (binA .eql w75_5 w76_6)) fun w77_7 => 
  bnP (pickA t12 (.bool true) w77_7) fun w78_8 => 
  bnP (binA .sub t13 (.int .i64 1)) fun w81_9 => 
  bnN (idxN (l7 : List AV).length w81_9) fun i10 => 
  bnP (elC l7 i10 0) fun w83_11 => 
  bnP (binA .add t14 (.int .i64 1)) fun w72_12 => 
  k .normal [(7, .ls 7), (8, .ls 8), (10, .v t10), (11, .v t11), (12, .v w78_8), (13, .v w83_11), (14, .v w72_12)] [(7, .own 1 l7), (8, .own 1 l8)] Q)
  (fun _ => k (.exit 2) [(7, .ls 7), (8, .ls 8), (10, .v t10), (11, .v t11), (12, .v t12)] [(7, .own 1 l7), (8, .own 1 l8)] Q)) := by kernel_rfl
noncomputable def L_pleachlaw21_TreeMoved_1 (s : PSpecs) (t10 t11 t12 t13 t14 : AV) (l7 l8 : List AV) (Q : AHeap) : Option PEnd := loopP (penv s) c_pleachlaw21_TreeMoved_1 [(7, .ls 7), (8, .ls 8), (10, .v t10), (11, .v t11), (12, .v t12), (13, .v t13), (14, .v t14)] [(7, .own 1 l7), (8, .own 1 l8)] Q
theorem L_pleachlaw21_TreeMoved_1_fold (s : PSpecs) (t10 t11 t12 t13 t14 : AV) (l7 l8 : List AV) (Q : AHeap) : loopP (penv s) c_pleachlaw21_TreeMoved_1 [(7, .ls 7), (8, .ls 8), (10, .v t10), (11, .v t11), (12, .v t12), (13, .v t13), (14, .v t14)] [(7, .own 1 l7), (8, .own 1 l8)] Q = L_pleachlaw21_TreeMoved_1 s t10 t11 t12 t13 t14 l7 l8 Q := rfl
theorem L_pleachlaw21_TreeMoved_1_eq (s : PSpecs) (t10 t11 t12 t13 t14 : AV) (l7 l8 : List AV) (Q : AHeap) : L_pleachlaw21_TreeMoved_1 s t10 t11 t12 t13 t14 l7 l8 Q = evalPK (callP (penv s)) (loopP (penv s)) c_pleachlaw21_TreeMoved_1 [(7, .ls 7), (8, .ls 8), (10, .v t10), (11, .v t11), (12, .v t12), (13, .v t13), (14, .v t14)] [(7, .own 1 l7), (8, .own 1 l8)] Q (goX (fun τ ω Q => loopP (penv s) c_pleachlaw21_TreeMoved_1 τ ω Q) ret4) := loopP_body
abbrev X_pleachlaw21_TreeMoved_1_x2 (t10 t11 t12 : AV) (l7 l8 : List AV) (Q : AHeap) : Option PEnd := some (.exit 2, [(7, .ls 7), (8, .ls 8), (10, .v t10), (11, .v t11), (12, .v t12)], [(7, .own 1 l7), (8, .own 1 l8)], Q)
theorem p_pleachlaw21_TreeMoved_2 {β : Type} (call : CallF) (lp : PLoopF) (t10 t11 t12 : AV) (l7 l8 : List AV) (Q : AHeap) (k : PK β) : evalPK call lp c_pleachlaw21_TreeMoved_2 [(7, .ls 7), (8, .ls 8), (10, .v t10), (11, .v t11), (12, .v t12)] [(7, .own 1 l7), (8, .own 1 l8)] Q k = (
  pinB (room 8 ((([] : List AV) : List AV).length + (l7 : List AV).length)) <| 
  bnP (binA .sub t10 (.int .i64 1)) fun w89_1 => 
  bnN (idxN ((([] : List AV) ++ l7) : List AV).length w89_1) fun i2 => 
  bnC 1 (stC 1 t11) fun s3 => 
  bnP (((([] : List AV) ++ l7))[i2]?) fun e4 => bnP (setE e4 0 [s3]) fun e5 => 
  pinB (room 8 ((([] : List AV) : List AV).length + (l7 : List AV).length)) <| 
  bnP (binA .sub t10 (.int .i64 1)) fun w97_6 => 
  bnN (idxN ((([] : List AV) ++ l7) : List AV).length w97_6) fun i7 => 
  bnP (((([] : List AV) ++ l7))[i7]?) fun e8 => bnP (setE e8 0 [.int .i64 0]) fun e9 => 
  bnS (call 42 [.fz 1 (((([] : List AV) ++ l7)).set i2 e5), .fz 1 l8] ⟨Q.size, .leaf⟩) fun w101_10 _ => pinB (flatR w101_10) <| 
  bnP (eqsA true .b w101_10 t12) fun w103_12 => 
  bnP (gdQ w103_12 true (some (.fz 1 (((([] : List AV) ++ l7)).set i2 e5)))) fun w105_13 => 
  bnP (gdQ w103_12 true (some t10)) fun w106_14 => 
  bnS (gdH w103_12 true (call 43 [w105_13, w106_14] Q) Q) fun w107_15 Q16 => 
  bnP (gdQ w103_12 true (lenQ (frz w107_15))) fun w108_17 => 
  bnP (gdQ w103_12 true (binA .gtr w108_17 (.int .i64 0))) fun w109_18 => 
  bnP (gdQ w103_12 true (some t12)) fun w110_19 => 
  bnP (gdQ w103_12 true (eqsA false .b w109_18 w110_19)) fun w111_20 => 
  bnP (pickA w103_12 w111_20 (.bool false)) fun w112_21 => 
  bnP (gdQ w112_21 true (some (.fz 1 (((([] : List AV) ++ l7)).set i7 e9)))) fun w114_22 => 
  bnP (gdQ w112_21 true (some (.fz 1 l8))) fun w115_23 => 
  bnS (gdH w112_21 true (call 42 [w114_22, w115_23] Q16) Q16) fun w116_24 Q25 => 
  bnP (gdQ w112_21 true (unA .not (frz w116_24))) fun w117_26 => 
  bnP (pickA w112_21 w117_26 (.bool false)) fun w118_27 => 
  bnP (gdQ w118_27 true (some (.fz 1 (((([] : List AV) ++ l7)).set i7 e9)))) fun w120_28 => 
  bnP (gdQ w118_27 true (some t10)) fun w121_29 => 
  bnS (gdH w118_27 true (call 44 [w120_28, w121_29] Q25) Q25) fun w122_30 Q31 => 
  bnP (gdQ w118_27 true (binA .eql (frz w122_30) (.int .i64 (-1)))) fun w123_32 => 
  bnP (pickA w118_27 w123_32 (.bool false)) fun w124_33 => 
  bnP (gdQ w124_33 true (some t12)) fun w126_34 => 
  bnP (gdQ w124_33 true (some w126_34)) fun w127_35 => 
  bnP (gdQ w127_35 false (some (.fz 1 (((([] : List AV) ++ l7)).set i2 e5)))) fun w128_36 => 
  bnP (gdQ w127_35 false (some t10)) fun w129_37 => 
  bnS (gdH w127_35 false (call 44 [w128_36, w129_37] Q31) Q31) fun w130_38 Q39 => 
  bnP (gdQ w127_35 false (some (.fz 1 l7))) fun w131_40 => 
  bnP (gdQ w127_35 false (some t11)) fun w132_41 => 
  bnS (gdH w127_35 false (call 44 [w131_40, w132_41] Q39) Q39) fun w133_42 Q43 => 
  bnP (gdQ w127_35 false (binA .add (frz w133_42) (.int .i64 1))) fun w134_44 => 
  bnP (gdQ w127_35 false (binA .eql (frz w130_38) w134_44)) fun w135_45 => 
  bnP (gdQ w124_33 true (pickA w127_35 (.bool true) w135_45)) fun w136_46 => 
  bnP (pickA w124_33 w136_46 (.bool false)) fun w137_47 => 
  k .ret [(6, .v w137_47), (137, .v w137_47), (136, .v w136_46), (135, .v w135_45), (134, .v w134_44), (133, .v (frz w133_42)), (132, .v w132_41), (131, .v w131_40), (7, .v (.fz 1 l7)), (130, .v (frz w130_38)), (129, .v w129_37), (128, .v w128_36), (127, .v w127_35), (126, .v w126_34), (125, .v w124_33), (124, .v w124_33), (123, .v w123_32), (122, .v (frz w122_30)), (121, .v w121_29), (120, .v w120_28), (119, .v w118_27), (118, .v w118_27), (117, .v w117_26), (116, .v (frz w116_24)), (115, .v w115_23), (8, .v (.fz 1 l8)), (114, .v w114_22), (16, .v (.fz 1 (((([] : List AV) ++ l7)).set i7 e9))), (113, .v w112_21), (112, .v w112_21), (111, .v w111_20), (110, .v w110_19), (109, .v w109_18), (108, .v w108_17), (107, .v (frz w107_15)), (106, .v w106_14), (105, .v w105_13), (15, .v (.fz 1 (((([] : List AV) ++ l7)).set i2 e5))), (104, .v w103_12), (103, .v w103_12), (102, .v t12), (101, .v w101_10), (100, .v undefA), (99, .v undefA), (98, .v undefA), (97, .v w97_6), (96, .v t10), (95, .v undefA), (16, .v undefA), (94, .v undefA), (93, .v undefA), (92, .v undefA), (91, .v undefA), (90, .v t11), (89, .v w89_1), (88, .v t10), (87, .v undefA), (15, .v undefA), (86, .v undefA), (85, .v undefA), (84, .v undefA), (7, .v undefA), (8, .v undefA), (10, .v t10), (11, .v t11), (12, .v t12)] [] Q43) := by kernel_rfl
theorem p_pleachlaw21_TreeMoved_3 {β : Type} (call : CallF) (lp : PLoopF) (t0 t1 t2 : AV) (l7 l8 : List AV) (Q : AHeap) (k : PK β) : evalPK call lp c_pleachlaw21_TreeMoved_3 [(0, .v t0), (1, .v t1), (2, .v t2), (7, .ls 7), (8, .ls 8)] [(7, .own 1 l7), (8, .own 1 l8)] Q k = (
  bnS (call 42 [.fz 1 l7, .fz 1 l8] ⟨Q.size, .leaf⟩) fun w47_1 _ => pinB (flatR w47_1) <| 
  bnP (unA .not w47_1) fun w48_3 => 
  cndS w48_3 (fun _ => k .ret [(6, .v (.bool false)), (48, .v w48_3), (47, .v w47_1), (46, .ls 8), (45, .ls 7), (0, .v t0), (1, .v t1), (2, .v t2), (7, .ls 7), (8, .ls 8)] [(7, .own 1 l7), (8, .own 1 l8)] Q)
  (fun _ => bnP (lenQ t0) fun w50_4 => 
  bnP (binA .eql w50_4 (.int .i64 0)) fun w51_5 => 
  cndS w51_5 (fun _ => k .ret [(6, .v (.bool true)), (51, .v w51_5), (50, .v w50_4), (49, .v t0), (48, .v w48_3), (47, .v w47_1), (46, .ls 8), (45, .ls 7), (0, .v t0), (1, .v t1), (2, .v t2), (7, .ls 7), (8, .ls 8)] [(7, .own 1 l7), (8, .own 1 l8)] Q)
  (fun _ => bnP (cviA .i64 t1) fun w53_6 => 
  bnP (lenQ t0) fun w55_7 => 
  bnP (binA .rem w53_6 w55_7) fun w56_8 => 
  bnP (binA .add (.int .i64 2) w56_8) fun w57_9 => 
  bnP (cviA .i64 t2) fun w59_10 => 
  bnP (binA .rem w59_10 (.int .i64 ((l7 : List AV).length : Nat))) fun w62_11 => 
  bnP (binA .add (.int .i64 1) w62_11) fun w63_12 => 
  bnX (lp c_pleachlaw21_TreeMoved_1 [(7, .ls 7), (8, .ls 8), (10, .v w57_9), (11, .v w63_12), (12, .v (.bool false)), (13, .v w63_12), (14, .v (.int .i64 0))] [(7, .own 1 l7), (8, .own 1 l8)] Q) (outX 2 (goC (evalPK call lp c_pleachlaw21_TreeMoved_2) k))))) := by kernel_rfl
theorem g_pleachlaw21_TreeMoved {call : CallF} {lp : PLoopF} (v0 v1 v2 : AV) (Q : AHeap) : evalPK call lp c_pleachlaw21_TreeMoved [(0, .v v0), (1, .v v1), (2, .v v2)] [] Q (retPK [.tmp 6] [.n]) = (
  bnS (call 40 [] Q) fun w17_1 Q2 => 
  bnP (unA .not (frz w17_1)) fun w18_3 => 
  cndS w18_3 (fun _ => some (.bool false, Q2))
  (fun _ => bnP (lenQ v0) fun w20_4 => 
  bnP (binA .gtr w20_4 (.int .i64 7)) fun w21_5 => 
  cndS w21_5 (fun _ => some (.bool true, Q2))
  (fun _ => bnX (lp c_pleachlaw21_TreeMoved_0 [(0, .v v0), (1, .v v1), (2, .v v2), (7, .ls 7), (8, .ls 8), (9, .v (.int .i64 0))] [(7, .own 1 ([.int .i64 0] : List AV)), (8, .own 1 ([.bool true] : List AV))] Q2) (outX 0 (goC (evalPK call lp c_pleachlaw21_TreeMoved_3) (retPK [.tmp 6] [.n])))))) := by kernel_rfl
theorem f_pleachlaw21_TreeMoved {s : PSpecs} (hs : s.lookup 13 = none) (v0 v1 v2 : AV) (Q : AHeap) : callP (penv s) 13 [v0, v1, v2] Q = (
  bnS ((callP (penv s)) 40 [] Q) fun w17_1 Q2 => 
  bnP (unA .not (frz w17_1)) fun w18_3 => 
  cndS w18_3 (fun _ => some (.bool false, Q2))
  (fun _ => bnP (lenQ v0) fun w20_4 => 
  bnP (binA .gtr w20_4 (.int .i64 7)) fun w21_5 => 
  cndS w21_5 (fun _ => some (.bool true, Q2))
  (fun _ => bnX ((loopP (penv s)) c_pleachlaw21_TreeMoved_0 [(0, .v v0), (1, .v v1), (2, .v v2), (7, .ls 7), (8, .ls 8), (9, .v (.int .i64 0))] [(7, .own 1 ([.int .i64 0] : List AV)), (8, .own 1 ([.bool true] : List AV))] Q2) (outX 0 (goC (evalPK (callP (penv s)) (loopP (penv s)) c_pleachlaw21_TreeMoved_3) (retPK [.tmp 6] [.n])))))) := (callP_fn (fn := pf_pleachlaw21_TreeMoved) hs rfl [v0, v1, v2] Q rfl).trans (g_pleachlaw21_TreeMoved v0 v1 v2 Q)
/-! 41: pleach/pleachlaw21.ups -/
theorem p_pleachlaw21_ups_0 {β : Type} (call : CallF) (lp : PLoopF) (t0 t4 : AV) (l3 : List AV) (Q : AHeap) (k : PK β) : evalPK call lp c_pleachlaw21_ups_0 [(0, .v t0), (3, .ls 3), (4, .v t4)] [(3, .own 1 l3)] Q k = (
  bnP (lenQ t0) fun w7_1 => 
  bnP (binA .lss t4 w7_1) fun w8_2 => 
  cndS w8_2 (fun _ => bnP (elQ 1 t0 t4) fun e3 => 
  bnP ((AV.cells e3)[0]?) fun w15_4 => 
  bnP (cviA .i64 w15_4) fun w16_5 => 
  bnP (lenQ t0) fun w18_6 => 
  bnP (binA .add w18_6 (.int .i64 2)) fun w19_7 => 
  bnP (binA .rem w16_5 w19_7) fun w20_8 => 
  pinB (elOk 1 w20_8) <| 
  pinB (room 8 ((l3 : List AV).length + (([w20_8] : List AV) : List AV).length)) <| 
  bnP (binA .add t4 (.int .i64 1)) fun w10_9 => 
  k .normal [(0, .v t0), (3, .ls 3), (4, .v w10_9)] [(3, .own 1 (l3 ++ ([w20_8] : List AV)))] Q)
  (fun _ => k (.exit 0) [(3, .ls 3)] [(3, .own 1 l3)] Q)) := by kernel_rfl
noncomputable def L_pleachlaw21_ups_0 (s : PSpecs) (t0 t4 : AV) (l3 : List AV) (Q : AHeap) : Option PEnd := loopP (penv s) c_pleachlaw21_ups_0 [(0, .v t0), (3, .ls 3), (4, .v t4)] [(3, .own 1 l3)] Q
theorem L_pleachlaw21_ups_0_fold (s : PSpecs) (t0 t4 : AV) (l3 : List AV) (Q : AHeap) : loopP (penv s) c_pleachlaw21_ups_0 [(0, .v t0), (3, .ls 3), (4, .v t4)] [(3, .own 1 l3)] Q = L_pleachlaw21_ups_0 s t0 t4 l3 Q := rfl
theorem L_pleachlaw21_ups_0_eq (s : PSpecs) (t0 t4 : AV) (l3 : List AV) (Q : AHeap) : L_pleachlaw21_ups_0 s t0 t4 l3 Q = evalPK (callP (penv s)) (loopP (penv s)) c_pleachlaw21_ups_0 [(0, .v t0), (3, .ls 3), (4, .v t4)] [(3, .own 1 l3)] Q (goX (fun τ ω Q => loopP (penv s) c_pleachlaw21_ups_0 τ ω Q) ret4) := loopP_body
abbrev X_pleachlaw21_ups_0_x0 (l3 : List AV) (Q : AHeap) : Option PEnd := some (.exit 0, [(3, .ls 3)], [(3, .own 1 l3)], Q)
theorem p_pleachlaw21_ups_1 {β : Type} (call : CallF) (lp : PLoopF) (l3 : List AV) (Q : AHeap) (k : PK β) : evalPK call lp c_pleachlaw21_ups_1 [(3, .ls 3)] [(3, .own 1 l3)] Q k = (
  k .ret [(2, .ls 3), (23, .ls 3), (3, .ls 3)] [(3, .own 1 l3)] Q) := by kernel_rfl
theorem g_pleachlaw21_ups {call : CallF} {lp : PLoopF} (v0 : AV) (Q : AHeap) : evalPK call lp c_pleachlaw21_ups [(0, .v v0)] [] Q (retPK [.tmp 2] [.o 1]) = (
  bnX (lp c_pleachlaw21_ups_0 [(0, .v v0), (3, .ls 3), (4, .v (.int .i64 0))] [(3, .own 1 ([] : List AV))] Q) (outX 0 (goC (evalPK call lp c_pleachlaw21_ups_1) (retPK [.tmp 2] [.o 1])))) := by kernel_rfl
theorem f_pleachlaw21_ups {s : PSpecs} (hs : s.lookup 41 = none) (v0 : AV) (Q : AHeap) : callP (penv s) 41 [v0] Q = (
  bnX ((loopP (penv s)) c_pleachlaw21_ups_0 [(0, .v v0), (3, .ls 3), (4, .v (.int .i64 0))] [(3, .own 1 ([] : List AV))] Q) (outX 0 (goC (evalPK (callP (penv s)) (loopP (penv s)) c_pleachlaw21_ups_1) (retPK [.tmp 2] [.o 1])))) := (callP_fn (fn := pf_pleachlaw21_ups) hs rfl [v0] Q rfl).trans (g_pleachlaw21_ups v0 Q)
/-! 42: pleach/tree.Rooted -/
theorem p_tree_Rooted_0 {β : Type} (call : CallF) (lp : PLoopF) (t0 t1 t29 t30 t31 : AV) (Q : AHeap) (k : PK β) : evalPK call lp c_tree_Rooted_0 [(0, .v t0), (1, .v t1), (29, .v t29), (30, .v t30), (31, .v t31)] [] Q k = (
  bnP (binA .lss t31 t30) fun w32_1 => 
  cndS w32_1 (fun _ => bnP (elQ 1 t29 t31) fun e2 => 
  bnP ((AV.cells e2)[0]?) fun w35_3 => 
  bnP (gdQ w35_3 true (some t0)) fun w38_4 => 
  bnP (gdQ w35_3 true (some t1)) fun w39_5 => 
  bnP (gdQ w35_3 true (some t31)) fun w40_6 => 
  bnP (gdQ w35_3 true (binA .add w40_6 (.int .i64 1))) fun w41_7 => 
  bnS (gdH w35_3 true (call 61 [w38_4, w39_5, w41_7] Q) Q) fun w42_8 Q9 => 
  bnP (gdQ w35_3 true (unA .not (frz w42_8))) fun w43_10 => 
  bnP (pickA w35_3 w43_10 (.bool false)) fun w44_11 => 
  cndS w44_11 (fun _ => k .ret [(4, .v (.bool false))] [] Q9)
  (fun _ => bnP (binA .add t31 (.int .i64 1)) fun w45_12 => 
  k .normal [(0, .v t0), (1, .v t1), (29, .v t29), (30, .v t30), (31, .v w45_12)] [] Q9))
  (fun _ => k (.exit 0) [] [] Q)) := by kernel_rfl
noncomputable def L_tree_Rooted_0 (s : PSpecs) (t0 t1 t29 t30 t31 : AV) (Q : AHeap) : Option PEnd := loopP (penv s) c_tree_Rooted_0 [(0, .v t0), (1, .v t1), (29, .v t29), (30, .v t30), (31, .v t31)] [] Q
theorem L_tree_Rooted_0_fold (s : PSpecs) (t0 t1 t29 t30 t31 : AV) (Q : AHeap) : loopP (penv s) c_tree_Rooted_0 [(0, .v t0), (1, .v t1), (29, .v t29), (30, .v t30), (31, .v t31)] [] Q = L_tree_Rooted_0 s t0 t1 t29 t30 t31 Q := rfl
theorem L_tree_Rooted_0_eq (s : PSpecs) (t0 t1 t29 t30 t31 : AV) (Q : AHeap) : L_tree_Rooted_0 s t0 t1 t29 t30 t31 Q = evalPK (callP (penv s)) (loopP (penv s)) c_tree_Rooted_0 [(0, .v t0), (1, .v t1), (29, .v t29), (30, .v t30), (31, .v t31)] [] Q (goX (fun τ ω Q => loopP (penv s) c_tree_Rooted_0 τ ω Q) ret4) := loopP_body
abbrev X_tree_Rooted_0_x0 (Q : AHeap) : Option PEnd := some (.exit 0, [], [], Q)
abbrev X_tree_Rooted_0_ret (t4 : AV) (Q : AHeap) : Option PEnd := some (.ret, [(4, .v t4)], [], Q)
theorem p_tree_Rooted_1 {β : Type} (call : CallF) (lp : PLoopF) (Q : AHeap) (k : PK β) : evalPK call lp c_tree_Rooted_1 [] [] Q k = (
  k .ret [(4, .v (.bool true))] [] Q) := by kernel_rfl
theorem g_tree_Rooted {call : CallF} {lp : PLoopF} (v0 v1 : AV) (Q : AHeap) : evalPK call lp c_tree_Rooted [(0, .v v0), (1, .v v1)] [] Q (retPK [.tmp 4] [.n]) = (
  bnP (lenQ v0) fun w8_1 => 
  bnP (lenQ v1) fun w10_2 => 
  bnP (binA .neq w8_1 w10_2) fun w11_3 => 
  bnP (gdQ w11_3 false (some v0)) fun w13_4 => 
  bnP (gdQ w11_3 false (lenQ w13_4)) fun w14_5 => 
  bnP (gdQ w11_3 false (binA .lss w14_5 (.int .i64 1))) fun w15_6 => 
  bnP (pickA w11_3 (.bool true) w15_6) fun w16_7 => 
  bnP (gdQ w16_7 false (some v1)) fun w18_8 => 
  bnP (gdQ w16_7 false (elQ 1 w18_8 (.int .i64 0))) fun e9 => 
  bnP (gdQ w16_7 false ((AV.cells e9)[0]?)) fun w20_10 => 
  bnP (gdQ w16_7 false (unA .not w20_10)) fun w21_11 => 
  bnP (pickA w16_7 (.bool true) w21_11) fun w22_12 => 
  bnP (gdQ w22_12 false (some v0)) fun w24_13 => 
  bnP (gdQ w22_12 false (elQ 1 w24_13 (.int .i64 0))) fun e14 => 
  bnP (gdQ w22_12 false ((AV.cells e14)[0]?)) fun w26_15 => 
  bnP (gdQ w22_12 false (binA .neq w26_15 (.int .i64 0))) fun w27_16 => 
  bnP (pickA w22_12 (.bool true) w27_16) fun w28_17 => 
  cndS w28_17 (fun _ => some (.bool false, Q))
  (fun _ => bnP (lenQ v1) fun w30_18 => 
  bnX (lp c_tree_Rooted_0 [(0, .v v0), (1, .v v1), (29, .v v1), (30, .v w30_18), (31, .v (.int .i64 0))] [] Q) (outX 0 (goC (evalPK call lp c_tree_Rooted_1) (retPK [.tmp 4] [.n]))))) := by kernel_rfl
theorem f_tree_Rooted {s : PSpecs} (hs : s.lookup 42 = none) (v0 v1 : AV) (Q : AHeap) : callP (penv s) 42 [v0, v1] Q = (
  bnP (lenQ v0) fun w8_1 => 
  bnP (lenQ v1) fun w10_2 => 
  bnP (binA .neq w8_1 w10_2) fun w11_3 => 
  bnP (gdQ w11_3 false (some v0)) fun w13_4 => 
  bnP (gdQ w11_3 false (lenQ w13_4)) fun w14_5 => 
  bnP (gdQ w11_3 false (binA .lss w14_5 (.int .i64 1))) fun w15_6 => 
  bnP (pickA w11_3 (.bool true) w15_6) fun w16_7 => 
  bnP (gdQ w16_7 false (some v1)) fun w18_8 => 
  bnP (gdQ w16_7 false (elQ 1 w18_8 (.int .i64 0))) fun e9 => 
  bnP (gdQ w16_7 false ((AV.cells e9)[0]?)) fun w20_10 => 
  bnP (gdQ w16_7 false (unA .not w20_10)) fun w21_11 => 
  bnP (pickA w16_7 (.bool true) w21_11) fun w22_12 => 
  bnP (gdQ w22_12 false (some v0)) fun w24_13 => 
  bnP (gdQ w22_12 false (elQ 1 w24_13 (.int .i64 0))) fun e14 => 
  bnP (gdQ w22_12 false ((AV.cells e14)[0]?)) fun w26_15 => 
  bnP (gdQ w22_12 false (binA .neq w26_15 (.int .i64 0))) fun w27_16 => 
  bnP (pickA w22_12 (.bool true) w27_16) fun w28_17 => 
  cndS w28_17 (fun _ => some (.bool false, Q))
  (fun _ => bnP (lenQ v1) fun w30_18 => 
  bnX ((loopP (penv s)) c_tree_Rooted_0 [(0, .v v0), (1, .v v1), (29, .v v1), (30, .v w30_18), (31, .v (.int .i64 0))] [] Q) (outX 0 (goC (evalPK (callP (penv s)) (loopP (penv s)) c_tree_Rooted_1) (retPK [.tmp 4] [.n]))))) := (callP_fn (fn := pf_tree_Rooted) hs rfl [v0, v1] Q rfl).trans (g_tree_Rooted v0 v1 Q)
/-! 43: pleach/tree.Loop -/
theorem p_tree_Loop_0 {β : Type} (call : CallF) (lp : PLoopF) (t0 t6 : AV) (l5 : List AV) (Q : AHeap) (k : PK β) : evalPK call lp c_tree_Loop_0 [(0, .v t0), (5, .ls 5), (6, .v t6)] [(5, .own 1 l5)] Q k = (
  bnP (binA .geq t6 (.int .i64 1)) fun w9_1 => 
  bnP (gdQ w9_1 true (some t6)) fun w11_2 => 
  bnP (gdQ w9_1 true (some t0)) fun w12_3 => 
  bnP (gdQ w9_1 true (lenQ w12_3)) fun w13_4 => 
  bnP (gdQ w9_1 true (binA .leq w11_2 w13_4)) fun w14_5 => 
  bnP (pickA w9_1 w14_5 (.bool false)) fun w15_6 => 
  cndS w15_6 (fun _ => bnS (call 63 [.fz 1 l5, t6] ⟨Q.size, .leaf⟩) fun w21_7 _ => pinB (flatR w21_7) <| 
  cndS w21_7 (fun _ => bnS (call 64 [.fz 1 l5, t6] ⟨Q.size, .leaf⟩) fun w25_9 _ => pinB (flatR w25_9) <| 
  bnP (slcQ 1 (.fz 1 l5) (some w25_9) none) fun w26_11 => 
  bnS (call 57 [w26_11] Q) fun w27_12 Q13 => bnL (owZ 1 w27_12) fun l14 => 
  k .ret [(4, .ls 4)] [(4, .own 1 l14)] Q13)
  (fun _ => pinB (elOk 1 t6) <| 
  pinB (room 8 ((l5 : List AV).length + (([t6] : List AV) : List AV).length)) <| 
  bnS (call 62 [t0, t6] Q) fun w18_15 Q16 => 
  k .normal [(0, .v t0), (5, .ls 5), (6, .v (frz w18_15))] [(5, .own 1 (l5 ++ ([t6] : List AV)))] Q16))
  (fun _ => k (.exit 0) [] [] Q)) := by kernel_rfl
noncomputable def L_tree_Loop_0 (s : PSpecs) (t0 t6 : AV) (l5 : List AV) (Q : AHeap) : Option PEnd := loopP (penv s) c_tree_Loop_0 [(0, .v t0), (5, .ls 5), (6, .v t6)] [(5, .own 1 l5)] Q
theorem L_tree_Loop_0_fold (s : PSpecs) (t0 t6 : AV) (l5 : List AV) (Q : AHeap) : loopP (penv s) c_tree_Loop_0 [(0, .v t0), (5, .ls 5), (6, .v t6)] [(5, .own 1 l5)] Q = L_tree_Loop_0 s t0 t6 l5 Q := rfl
theorem L_tree_Loop_0_eq (s : PSpecs) (t0 t6 : AV) (l5 : List AV) (Q : AHeap) : L_tree_Loop_0 s t0 t6 l5 Q = evalPK (callP (penv s)) (loopP (penv s)) c_tree_Loop_0 [(0, .v t0), (5, .ls 5), (6, .v t6)] [(5, .own 1 l5)] Q (goX (fun τ ω Q => loopP (penv s) c_tree_Loop_0 τ ω Q) ret4) := loopP_body
abbrev X_tree_Loop_0_x0 (Q : AHeap) : Option PEnd := some (.exit 0, [], [], Q)
abbrev X_tree_Loop_0_ret (l4 : List AV) (Q : AHeap) : Option PEnd := some (.ret, [(4, .ls 4)], [(4, .own 1 l4)], Q)
theorem p_tree_Loop_1 {β : Type} (call : CallF) (lp : PLoopF) (Q : AHeap) (k : PK β) : evalPK call lp c_tree_Loop_1 [] [] Q k = (
  k .ret [(4, .v .nils)] [] Q) := by kernel_rfl
theorem g_tree_Loop {call : CallF} {lp : PLoopF} (v0 v1 : AV) (Q : AHeap) : evalPK call lp c_tree_Loop [(0, .v v0), (1, .v v1)] [] Q (retPK [.tmp 4] [.o 1]) = (
  bnX (lp c_tree_Loop_0 [(0, .v v0), (5, .ls 5), (6, .v v1)] [(5, .own 1 ([] : List AV))] Q) (outX 0 (goC (evalPK call lp c_tree_Loop_1) (retPK [.tmp 4] [.o 1])))) := by kernel_rfl
theorem f_tree_Loop {s : PSpecs} (hs : s.lookup 43 = none) (v0 v1 : AV) (Q : AHeap) : callP (penv s) 43 [v0, v1] Q = (
  bnX ((loopP (penv s)) c_tree_Loop_0 [(0, .v v0), (5, .ls 5), (6, .v v1)] [(5, .own 1 ([] : List AV))] Q) (outX 0 (goC (evalPK (callP (penv s)) (loopP (penv s)) c_tree_Loop_1) (retPK [.tmp 4] [.o 1])))) := (callP_fn (fn := pf_tree_Loop) hs rfl [v0, v1] Q rfl).trans (g_tree_Loop v0 v1 Q)
/-! 44: pleach/tree.Deep -/
theorem p_tree_Deep_0 {β : Type} (call : CallF) (lp : PLoopF) (t0 t1 t8 t9 : AV) (Q : AHeap) (k : PK β) : evalPK call lp c_tree_Deep_0 [(0, .v t0), (1, .v t1), (8, .v t8), (9, .v t9)] [] Q k = (
  bnP (binA .lss t9 t8) fun w10_1 => 
  cndS w10_1 (fun _ => bnP (binA .eql t1 (.int .i64 1)) fun w13_2 => 
  bnP (gdQ w13_2 true (some t0)) fun w15_3 => 
  bnP (gdQ w13_2 true (lenQ w15_3)) fun w16_4 => 
  bnP (gdQ w13_2 true (binA .gtr w16_4 (.int .i64 0))) fun w17_5 => 
  bnP (pickA w13_2 w17_5 (.bool false)) fun w18_6 => 
  cndS w18_6 (fun _ => k .ret [(4, .v t9)] [] Q)
  (fun _ => bnS (call 62 [t0, t1] Q) fun w22_7 Q8 => 
  bnP (binA .add t9 (.int .i64 1)) fun w23_9 => 
  k .normal [(0, .v t0), (1, .v (frz w22_7)), (8, .v t8), (9, .v w23_9)] [] Q8))
  (fun _ => k (.exit 0) [] [] Q)) := by kernel_rfl
noncomputable def L_tree_Deep_0 (s : PSpecs) (t0 t1 t8 t9 : AV) (Q : AHeap) : Option PEnd := loopP (penv s) c_tree_Deep_0 [(0, .v t0), (1, .v t1), (8, .v t8), (9, .v t9)] [] Q
theorem L_tree_Deep_0_fold (s : PSpecs) (t0 t1 t8 t9 : AV) (Q : AHeap) : loopP (penv s) c_tree_Deep_0 [(0, .v t0), (1, .v t1), (8, .v t8), (9, .v t9)] [] Q = L_tree_Deep_0 s t0 t1 t8 t9 Q := rfl
theorem L_tree_Deep_0_eq (s : PSpecs) (t0 t1 t8 t9 : AV) (Q : AHeap) : L_tree_Deep_0 s t0 t1 t8 t9 Q = evalPK (callP (penv s)) (loopP (penv s)) c_tree_Deep_0 [(0, .v t0), (1, .v t1), (8, .v t8), (9, .v t9)] [] Q (goX (fun τ ω Q => loopP (penv s) c_tree_Deep_0 τ ω Q) ret4) := loopP_body
abbrev X_tree_Deep_0_x0 (Q : AHeap) : Option PEnd := some (.exit 0, [], [], Q)
abbrev X_tree_Deep_0_ret (t4 : AV) (Q : AHeap) : Option PEnd := some (.ret, [(4, .v t4)], [], Q)
theorem p_tree_Deep_1 {β : Type} (call : CallF) (lp : PLoopF) (Q : AHeap) (k : PK β) : evalPK call lp c_tree_Deep_1 [] [] Q k = (
  k .ret [(4, .v (.int .i64 (-1)))] [] Q) := by kernel_rfl
theorem g_tree_Deep {call : CallF} {lp : PLoopF} (v0 v1 : AV) (Q : AHeap) : evalPK call lp c_tree_Deep [(0, .v v0), (1, .v v1)] [] Q (retPK [.tmp 4] [.n]) = (
  bnP (lenQ v0) fun w7_1 => 
  bnP (binA .add w7_1 (.int .i64 1)) fun w8_2 => 
  bnX (lp c_tree_Deep_0 [(0, .v v0), (1, .v v1), (8, .v w8_2), (9, .v (.int .i64 0))] [] Q) (outX 0 (goC (evalPK call lp c_tree_Deep_1) (retPK [.tmp 4] [.n])))) := by kernel_rfl
theorem f_tree_Deep {s : PSpecs} (hs : s.lookup 44 = none) (v0 v1 : AV) (Q : AHeap) : callP (penv s) 44 [v0, v1] Q = (
  bnP (lenQ v0) fun w7_1 => 
  bnP (binA .add w7_1 (.int .i64 1)) fun w8_2 => 
  bnX ((loopP (penv s)) c_tree_Deep_0 [(0, .v v0), (1, .v v1), (8, .v w8_2), (9, .v (.int .i64 0))] [] Q) (outX 0 (goC (evalPK (callP (penv s)) (loopP (penv s)) c_tree_Deep_1) (retPK [.tmp 4] [.n])))) := (callP_fn (fn := pf_tree_Deep) hs rfl [v0, v1] Q rfl).trans (g_tree_Deep v0 v1 Q)
/-! 61: pleach/tree.rooted -/
theorem p_tree_rooted_0 {β : Type} (call : CallF) (lp : PLoopF) (t0 t1 t2 t8 t9 : AV) (Q : AHeap) (k : PK β) : evalPK call lp c_tree_rooted_0 [(0, .v t0), (1, .v t1), (2, .v t2), (8, .v t8), (9, .v t9)] [] Q k = (
  bnP (binA .lss t9 t8) fun w10_1 => 
  cndS w10_1 (fun _ => bnP (binA .lss t2 (.int .i64 1)) fun w12_2 => 
  bnP (gdQ w12_2 false (some t2)) fun w14_3 => 
  bnP (gdQ w12_2 false (some t1)) fun w15_4 => 
  bnP (gdQ w12_2 false (lenQ w15_4)) fun w16_5 => 
  bnP (gdQ w12_2 false (binA .gtr w14_3 w16_5)) fun w17_6 => 
  bnP (pickA w12_2 (.bool true) w17_6) fun w18_7 => 
  bnP (gdQ w18_7 false (some t1)) fun w20_8 => 
  bnP (gdQ w18_7 false (some t2)) fun w21_9 => 
  bnP (gdQ w18_7 false (binA .sub w21_9 (.int .i64 1))) fun w22_10 => 
  bnP (gdQ w18_7 false (elQ 1 w20_8 w22_10)) fun e11 => 
  bnP (gdQ w18_7 false ((AV.cells e11)[0]?)) fun w24_12 => 
  bnP (gdQ w18_7 false (unA .not w24_12)) fun w25_13 => 
  bnP (pickA w18_7 (.bool true) w25_13) fun w26_14 => 
  cndS w26_14 (fun _ => k .ret [(6, .v (.bool false))] [] Q)
  (fun _ => bnP (binA .eql t2 (.int .i64 1)) fun w28_15 => 
  cndS w28_15 (fun _ => k .ret [(6, .v (.bool true))] [] Q)
  (fun _ => bnS (call 62 [t0, t2] Q) fun w31_16 Q17 => 
  bnP (binA .add t9 (.int .i64 1)) fun w32_18 => 
  k .normal [(0, .v t0), (1, .v t1), (2, .v (frz w31_16)), (8, .v t8), (9, .v w32_18)] [] Q17)))
  (fun _ => k (.exit 0) [] [] Q)) := by kernel_rfl
noncomputable def L_tree_rooted_0 (s : PSpecs) (t0 t1 t2 t8 t9 : AV) (Q : AHeap) : Option PEnd := loopP (penv s) c_tree_rooted_0 [(0, .v t0), (1, .v t1), (2, .v t2), (8, .v t8), (9, .v t9)] [] Q
theorem L_tree_rooted_0_fold (s : PSpecs) (t0 t1 t2 t8 t9 : AV) (Q : AHeap) : loopP (penv s) c_tree_rooted_0 [(0, .v t0), (1, .v t1), (2, .v t2), (8, .v t8), (9, .v t9)] [] Q = L_tree_rooted_0 s t0 t1 t2 t8 t9 Q := rfl
theorem L_tree_rooted_0_eq (s : PSpecs) (t0 t1 t2 t8 t9 : AV) (Q : AHeap) : L_tree_rooted_0 s t0 t1 t2 t8 t9 Q = evalPK (callP (penv s)) (loopP (penv s)) c_tree_rooted_0 [(0, .v t0), (1, .v t1), (2, .v t2), (8, .v t8), (9, .v t9)] [] Q (goX (fun τ ω Q => loopP (penv s) c_tree_rooted_0 τ ω Q) ret4) := loopP_body
abbrev X_tree_rooted_0_x0 (Q : AHeap) : Option PEnd := some (.exit 0, [], [], Q)
abbrev X_tree_rooted_0_ret (t6 : AV) (Q : AHeap) : Option PEnd := some (.ret, [(6, .v t6)], [], Q)
theorem p_tree_rooted_1 {β : Type} (call : CallF) (lp : PLoopF) (Q : AHeap) (k : PK β) : evalPK call lp c_tree_rooted_1 [] [] Q k = (
  k .ret [(6, .v (.bool false))] [] Q) := by kernel_rfl
theorem g_tree_rooted {call : CallF} {lp : PLoopF} (v0 v1 v2 : AV) (Q : AHeap) : evalPK call lp c_tree_rooted [(0, .v v0), (1, .v v1), (2, .v v2)] [] Q (retPK [.tmp 6] [.n]) = (
  bnP (lenQ v0) fun w8_1 => 
  bnX (lp c_tree_rooted_0 [(0, .v v0), (1, .v v1), (2, .v v2), (8, .v w8_1), (9, .v (.int .i64 0))] [] Q) (outX 0 (goC (evalPK call lp c_tree_rooted_1) (retPK [.tmp 6] [.n])))) := by kernel_rfl
theorem f_tree_rooted {s : PSpecs} (hs : s.lookup 61 = none) (v0 v1 v2 : AV) (Q : AHeap) : callP (penv s) 61 [v0, v1, v2] Q = (
  bnP (lenQ v0) fun w8_1 => 
  bnX ((loopP (penv s)) c_tree_rooted_0 [(0, .v v0), (1, .v v1), (2, .v v2), (8, .v w8_1), (9, .v (.int .i64 0))] [] Q) (outX 0 (goC (evalPK (callP (penv s)) (loopP (penv s)) c_tree_rooted_1) (retPK [.tmp 6] [.n])))) := (callP_fn (fn := pf_tree_rooted) hs rfl [v0, v1, v2] Q rfl).trans (g_tree_rooted v0 v1 v2 Q)
/-! 62: pleach/tree.next -/
theorem g_tree_next {call : CallF} {lp : PLoopF} (v0 v1 : AV) (Q : AHeap) : evalPK call lp c_tree_next [(0, .v v0), (1, .v v1)] [] Q (retPK [.tmp 4] [.n]) = (
  bnP (binA .lss v1 (.int .i64 1)) fun w6_1 => 
  bnP (gdQ w6_1 false (some v1)) fun w8_2 => 
  bnP (gdQ w6_1 false (some v0)) fun w9_3 => 
  bnP (gdQ w6_1 false (lenQ w9_3)) fun w10_4 => 
  bnP (gdQ w6_1 false (binA .gtr w8_2 w10_4)) fun w11_5 => 
  bnP (pickA w6_1 (.bool true) w11_5) fun w12_6 => 
  cndS w12_6 (fun _ => some (.int .i64 0, Q))
  (fun _ => bnP (binA .sub v1 (.int .i64 1)) fun w15_7 => 
  bnP (elQ 1 v0 w15_7) fun e8 => 
  bnP ((AV.cells e8)[0]?) fun w17_9 => 
  bnP (rcv false .n w17_9) fun r10 => some (r10, Q))) := by kernel_rfl
theorem f_tree_next {s : PSpecs} (hs : s.lookup 62 = none) (v0 v1 : AV) (Q : AHeap) : callP (penv s) 62 [v0, v1] Q = (
  bnP (binA .lss v1 (.int .i64 1)) fun w6_1 => 
  bnP (gdQ w6_1 false (some v1)) fun w8_2 => 
  bnP (gdQ w6_1 false (some v0)) fun w9_3 => 
  bnP (gdQ w6_1 false (lenQ w9_3)) fun w10_4 => 
  bnP (gdQ w6_1 false (binA .gtr w8_2 w10_4)) fun w11_5 => 
  bnP (pickA w6_1 (.bool true) w11_5) fun w12_6 => 
  cndS w12_6 (fun _ => some (.int .i64 0, Q))
  (fun _ => bnP (binA .sub v1 (.int .i64 1)) fun w15_7 => 
  bnP (elQ 1 v0 w15_7) fun e8 => 
  bnP ((AV.cells e8)[0]?) fun w17_9 => 
  bnP (rcv false .n w17_9) fun r10 => some (r10, Q))) := (callP_fn (fn := pf_tree_next) hs rfl [v0, v1] Q rfl).trans (g_tree_next v0 v1 Q)
/-! 63: pleach/path.Has -/
theorem g_path_Has {call : CallF} {lp : PLoopF} (v0 v1 : AV) (Q : AHeap) : evalPK call lp c_path_Has [(0, .v v0), (1, .v v1)] [] Q (retPK [.tmp 4] [.n]) = (
  bnS (call 69 [v0, v1] Q) fun w7_1 Q2 => 
  bnP (rcv false .n (frz w7_1)) fun r3 => some (r3, Q2)) := by kernel_rfl
theorem f_path_Has {s : PSpecs} (hs : s.lookup 63 = none) (v0 v1 : AV) (Q : AHeap) : callP (penv s) 63 [v0, v1] Q = (
  bnS ((callP (penv s)) 69 [v0, v1] Q) fun w7_1 Q2 => 
  bnP (rcv false .n (frz w7_1)) fun r3 => some (r3, Q2)) := (callP_fn (fn := pf_path_Has) hs rfl [v0, v1] Q rfl).trans (g_path_Has v0 v1 Q)
/-! 64: slices.Index[[]int,int] -/
theorem p_slices_Index_int_int_0 {β : Type} (call : CallF) (lp : PLoopF) (t0 t1 t7 t8 : AV) (Q : AHeap) (k : PK β) : evalPK call lp c_slices_Index_int_int_0 [(0, .v t0), (1, .v t1), (7, .v t7), (8, .v t8)] [] Q k = (
  bnP (binA .lss t8 t7) fun w9_1 => 
  cndS w9_1 (fun _ => bnP (elQ 1 t0 t8) fun e2 => 
  bnP ((AV.cells e2)[0]?) fun w15_3 => 
  bnP (binA .eql t1 w15_3) fun w16_4 => 
  cndS w16_4 (fun _ => k .ret [(4, .v t8)] [] Q)
  (fun _ => bnP (binA .add t8 (.int .i64 1)) fun w18_5 => 
  k .normal [(0, .v t0), (1, .v t1), (7, .v t7), (8, .v w18_5)] [] Q))
  (fun _ => k (.exit 0) [] [] Q)) := by kernel_rfl
noncomputable def L_slices_Index_int_int_0 (s : PSpecs) (t0 t1 t7 t8 : AV) (Q : AHeap) : Option PEnd := loopP (penv s) c_slices_Index_int_int_0 [(0, .v t0), (1, .v t1), (7, .v t7), (8, .v t8)] [] Q
theorem L_slices_Index_int_int_0_fold (s : PSpecs) (t0 t1 t7 t8 : AV) (Q : AHeap) : loopP (penv s) c_slices_Index_int_int_0 [(0, .v t0), (1, .v t1), (7, .v t7), (8, .v t8)] [] Q = L_slices_Index_int_int_0 s t0 t1 t7 t8 Q := rfl
theorem L_slices_Index_int_int_0_eq (s : PSpecs) (t0 t1 t7 t8 : AV) (Q : AHeap) : L_slices_Index_int_int_0 s t0 t1 t7 t8 Q = evalPK (callP (penv s)) (loopP (penv s)) c_slices_Index_int_int_0 [(0, .v t0), (1, .v t1), (7, .v t7), (8, .v t8)] [] Q (goX (fun τ ω Q => loopP (penv s) c_slices_Index_int_int_0 τ ω Q) ret4) := loopP_body
abbrev X_slices_Index_int_int_0_x0 (Q : AHeap) : Option PEnd := some (.exit 0, [], [], Q)
abbrev X_slices_Index_int_int_0_ret (t4 : AV) (Q : AHeap) : Option PEnd := some (.ret, [(4, .v t4)], [], Q)
theorem p_slices_Index_int_int_1 {β : Type} (call : CallF) (lp : PLoopF) (Q : AHeap) (k : PK β) : evalPK call lp c_slices_Index_int_int_1 [] [] Q k = (
  k .ret [(4, .v (.int .i64 (-1)))] [] Q) := by kernel_rfl
theorem g_slices_Index_int_int {call : CallF} {lp : PLoopF} (v0 v1 : AV) (Q : AHeap) : evalPK call lp c_slices_Index_int_int [(0, .v v0), (1, .v v1)] [] Q (retPK [.tmp 4] [.n]) = (
  bnP (lenQ v0) fun w7_1 => 
  bnX (lp c_slices_Index_int_int_0 [(0, .v v0), (1, .v v1), (7, .v w7_1), (8, .v (.int .i64 0))] [] Q) (outX 0 (goC (evalPK call lp c_slices_Index_int_int_1) (retPK [.tmp 4] [.n])))) := by kernel_rfl
theorem f_slices_Index_int_int {s : PSpecs} (hs : s.lookup 64 = none) (v0 v1 : AV) (Q : AHeap) : callP (penv s) 64 [v0, v1] Q = (
  bnP (lenQ v0) fun w7_1 => 
  bnX ((loopP (penv s)) c_slices_Index_int_int_0 [(0, .v v0), (1, .v v1), (7, .v w7_1), (8, .v (.int .i64 0))] [] Q) (outX 0 (goC (evalPK (callP (penv s)) (loopP (penv s)) c_slices_Index_int_int_1) (retPK [.tmp 4] [.n])))) := (callP_fn (fn := pf_slices_Index_int_int) hs rfl [v0, v1] Q rfl).trans (g_slices_Index_int_int v0 v1 Q)
/-! 69: slices.Contains[[]int,int] -/
theorem g_slices_Contains_int_int {call : CallF} {lp : PLoopF} (v0 v1 : AV) (Q : AHeap) : evalPK call lp c_slices_Contains_int_int [(0, .v v0), (1, .v v1)] [] Q (retPK [.tmp 4] [.n]) = (
  bnS (call 64 [v0, v1] Q) fun w7_1 Q2 => 
  bnP (binA .geq (frz w7_1) (.int .i64 0)) fun w8_3 => 
  bnP (rcv false .n w8_3) fun r4 => some (r4, Q2)) := by kernel_rfl
theorem f_slices_Contains_int_int {s : PSpecs} (hs : s.lookup 69 = none) (v0 v1 : AV) (Q : AHeap) : callP (penv s) 69 [v0, v1] Q = (
  bnS ((callP (penv s)) 64 [v0, v1] Q) fun w7_1 Q2 => 
  bnP (binA .geq (frz w7_1) (.int .i64 0)) fun w8_3 => 
  bnP (rcv false .n w8_3) fun r4 => some (r4, Q2)) := (callP_fn (fn := pf_slices_Contains_int_int) hs rfl [v0, v1] Q rfl).trans (g_slices_Contains_int_int v0 v1 Q)
end Go.Proofs.Ytldehmfhgmmkhaa.Pt
