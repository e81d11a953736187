/- Equations by values. Printed by mkpv.py of this repo. -/
import Derived.Test.YtdbbdfmkglgjdaaPid
import Derived.Test.YtdbbdfmkglgjdaaPvE
namespace Go.Proofs.Ytdbbdfmkglgjdaa.Pi
open Go.Ab
set_option maxRecDepth 100000
set_option linter.unusedVariables false
set_option linter.unusedSimpArgs false
set_option linter.defProp false
theorem p_pleachlaw19_TieRoot_0 {β : Type} (call : CallF) (lp : PLoopF) (t3 t5 t6 t8 t9 s4_0 s4_1 s4_2 s4_3 s4_4 s4_5 s4_6 s4_7 s4_8 s4_9 s4_10 s4_11 s4_12 s7_0 s7_1 s7_2 s7_3 s7_4 s7_5 s7_6 s7_7 s7_8 s7_9 s7_10 s7_11 s7_12 : AV) (Q : AHeap) (k : PK β) : evalPK call lp c_pleachlaw19_TieRoot_0 [(3, .v t3), (4, .lp 4 0), (5, .v t5), (6, .v t6), (7, .lp 7 0), (8, .v t8), (9, .v t9)] [(4, .cells [s4_0, s4_1, s4_2, s4_3, s4_4, s4_5, s4_6, s4_7, s4_8, s4_9, s4_10, s4_11, s4_12]), (7, .cells [s7_0, s7_1, s7_2, s7_3, s7_4, s7_5, s7_6, s7_7, s7_8, s7_9, s7_10, s7_11, s7_12])] Q k = (
  bnP (lenQ t8) fun w41_1 => 
  bnP (binA .lss t9 w41_1) fun w42_2 => 
  cndS w42_2 (fun _ => bnP (elQ 10 t8 t9) fun e3 => 
  bnP ((AV.cells e3)[0]?) fun w49_4 => 
  bnP (binA .neq w49_4 (.int .i64 5)) fun w50_5 => 
  bnP (gdQ w50_5 false (some t8)) fun w52_6 => 
  bnP (gdQ w50_5 false (some t9)) fun w53_7 => 
  bnP (gdQ w50_5 false (elQ 10 w52_6 w53_7)) fun e8 => 
  bnP (gdQ w50_5 false ((AV.cells e8)[5]?)) fun w56_9 => 
  bnP (gdQ w50_5 false (binA .neq w56_9 (.int .i64 0))) fun w57_10 => 
  bnP (pickA w50_5 (.bool true) w57_10) fun w58_11 => 
  bnP (gdQ w58_11 false (some t8)) fun w60_12 => 
  bnP (gdQ w58_11 false (some t9)) fun w61_13 => 
  bnP (gdQ w58_11 false (elQ 10 w60_12 w61_13)) fun e14 => 
  bnP (gdQ w58_11 false ((AV.cells e14)[6]?)) fun w64_15 => 
  bnP (gdQ w58_11 false (lenQ w64_15)) fun w65_16 => 
  bnP (gdQ w58_11 false (binA .neq w65_16 (.int .i64 1))) fun w66_17 => 
  bnP (pickA w58_11 (.bool true) w66_17) fun w67_18 => 
  bnP (gdQ w67_18 false (some s7_2)) fun w70_19 => 
  bnP (gdQ w67_18 false (binA .rem w70_19 (.int .i64 2))) fun w71_20 => 
  bnP (gdQ w67_18 false (binA .neq w71_20 (.int .i64 0))) fun w72_21 => 
  bnP (pickA w67_18 (.bool true) w72_21) fun w73_22 => 
  cndS w73_22 (fun _ => k .ret [(2, .v (.bool false))] [] Q)
  (fun _ => bnP (binA .add t9 (.int .i64 1)) fun w44_23 => 
  k .normal [(3, .v t3), (4, .lp 4 0), (5, .v t5), (6, .v t6), (7, .lp 7 0), (8, .v t8), (9, .v w44_23)] [(4, .cells [s4_0, s4_1, s4_2, s4_3, s4_4, s4_5, s4_6, s4_7, s4_8, s4_9, s4_10, s4_11, s4_12]), (7, .cells [s7_0, s7_1, s7_2, s7_3, s7_4, s7_5, s7_6, s7_7, s7_8, s7_9, s7_10, s7_11, s7_12])] Q))
  (fun _ => k (.exit 2) [(3, .v t3), (4, .lp 4 0), (5, .v t5), (6, .v t6), (7, .lp 7 0)] [(4, .cells [s4_0, s4_1, s4_2, s4_3, s4_4, s4_5, s4_6, s4_7, s4_8, s4_9, s4_10, s4_11, s4_12]), (7, .cells [s7_0, s7_1, s7_2, s7_3, s7_4, s7_5, s7_6, s7_7, s7_8, s7_9, s7_10, s7_11, s7_12])] Q)) := by kernel_rfl
noncomputable def L_pleachlaw19_TieRoot_0 (s : PSpecs) (t3 t5 t6 t8 t9 s4_0 s4_1 s4_2 s4_3 s4_4 s4_5 s4_6 s4_7 s4_8 s4_9 s4_10 s4_11 s4_12 s7_0 s7_1 s7_2 s7_3 s7_4 s7_5 s7_6 s7_7 s7_8 s7_9 s7_10 s7_11 s7_12 : AV) (Q : AHeap) : Option PEnd := loopP (penv s) c_pleachlaw19_TieRoot_0 [(3, .v t3), (4, .lp 4 0), (5, .v t5), (6, .v t6), (7, .lp 7 0), (8, .v t8), (9, .v t9)] [(4, .cells [s4_0, s4_1, s4_2, s4_3, s4_4, s4_5, s4_6, s4_7, s4_8, s4_9, s4_10, s4_11, s4_12]), (7, .cells [s7_0, s7_1, s7_2, s7_3, s7_4, s7_5, s7_6, s7_7, s7_8, s7_9, s7_10, s7_11, s7_12])] Q
theorem L_pleachlaw19_TieRoot_0_fold (s : PSpecs) (t3 t5 t6 t8 t9 s4_0 s4_1 s4_2 s4_3 s4_4 s4_5 s4_6 s4_7 s4_8 s4_9 s4_10 s4_11 s4_12 s7_0 s7_1 s7_2 s7_3 s7_4 s7_5 s7_6 s7_7 s7_8 s7_9 s7_10 s7_11 s7_12 : AV) (Q : AHeap) : loopP (penv s) c_pleachlaw19_TieRoot_0 [(3, .v t3), (4, .lp 4 0), (5, .v t5), (6, .v t6), (7, .lp 7 0), (8, .v t8), (9, .v t9)] [(4, .cells [s4_0, s4_1, s4_2, s4_3, s4_4, s4_5, s4_6, s4_7, s4_8, s4_9, s4_10, s4_11, s4_12]), (7, .cells [s7_0, s7_1, s7_2, s7_3, s7_4, s7_5, s7_6, s7_7, s7_8, s7_9, s7_10, s7_11, s7_12])] Q = L_pleachlaw19_TieRoot_0 s t3 t5 t6 t8 t9 s4_0 s4_1 s4_2 s4_3 s4_4 s4_5 s4_6 s4_7 s4_8 s4_9 s4_10 s4_11 s4_12 s7_0 s7_1 s7_2 s7_3 s7_4 s7_5 s7_6 s7_7 s7_8 s7_9 s7_10 s7_11 s7_12 Q := rfl
theorem L_pleachlaw19_TieRoot_0_eq (s : PSpecs) (t3 t5 t6 t8 t9 s4_0 s4_1 s4_2 s4_3 s4_4 s4_5 s4_6 s4_7 s4_8 s4_9 s4_10 s4_11 s4_12 s7_0 s7_1 s7_2 s7_3 s7_4 s7_5 s7_6 s7_7 s7_8 s7_9 s7_10 s7_11 s7_12 : AV) (Q : AHeap) : L_pleachlaw19_TieRoot_0 s t3 t5 t6 t8 t9 s4_0 s4_1 s4_2 s4_3 s4_4 s4_5 s4_6 s4_7 s4_8 s4_9 s4_10 s4_11 s4_12 s7_0 s7_1 s7_2 s7_3 s7_4 s7_5 s7_6 s7_7 s7_8 s7_9 s7_10 s7_11 s7_12 Q = evalPK (callP (penv s)) (loopP (penv s)) c_pleachlaw19_TieRoot_0 [(3, .v t3), (4, .lp 4 0), (5, .v t5), (6, .v t6), (7, .lp 7 0), (8, .v t8), (9, .v t9)] [(4, .cells [s4_0, s4_1, s4_2, s4_3, s4_4, s4_5, s4_6, s4_7, s4_8, s4_9, s4_10, s4_11, s4_12]), (7, .cells [s7_0, s7_1, s7_2, s7_3, s7_4, s7_5, s7_6, s7_7, s7_8, s7_9, s7_10, s7_11, s7_12])] Q (goX (fun τ ω Q => loopP (penv s) c_pleachlaw19_TieRoot_0 τ ω Q) ret4) := loopP_body
abbrev X_pleachlaw19_TieRoot_0_x2 (t3 t5 t6 s4_0 s4_1 s4_2 s4_3 s4_4 s4_5 s4_6 s4_7 s4_8 s4_9 s4_10 s4_11 s4_12 s7_0 s7_1 s7_2 s7_3 s7_4 s7_5 s7_6 s7_7 s7_8 s7_9 s7_10 s7_11 s7_12 : AV) (Q : AHeap) : Option PEnd := some (.exit 2, [(3, .v t3), (4, .lp 4 0), (5, .v t5), (6, .v t6), (7, .lp 7 0)], [(4, .cells [s4_0, s4_1, s4_2, s4_3, s4_4, s4_5, s4_6, s4_7, s4_8, s4_9, s4_10, s4_11, s4_12]), (7, .cells [s7_0, s7_1, s7_2, s7_3, s7_4, s7_5, s7_6, s7_7, s7_8, s7_9, s7_10, s7_11, s7_12])], Q)
theorem p_pleachlaw19_TieRoot_1 {β : Type} (call : CallF) (lp : PLoopF) (t3 t5 t6 s4_0 s4_1 s4_2 s4_3 s4_4 s4_5 s4_6 s4_7 s4_8 s4_9 s4_10 s4_11 s4_12 s7_0 s7_1 s7_2 s7_3 s7_4 s7_5 s7_6 s7_7 s7_8 s7_9 s7_10 s7_11 s7_12 : AV) (Q : AHeap) (k : PK β) : evalPK call lp c_pleachlaw19_TieRoot_1 [(3, .v t3), (4, .lp 4 0), (5, .v t5), (6, .v t6), (7, .lp 7 0)] [(4, .cells [s4_0, s4_1, s4_2, s4_3, s4_4, s4_5, s4_6, s4_7, s4_8, s4_9, s4_10, s4_11, s4_12]), (7, .cells [s7_0, s7_1, s7_2, s7_3, s7_4, s7_5, s7_6, s7_7, s7_8, s7_9, s7_10, s7_11, s7_12])] Q k = (
  bnC 13 (stC 13 (.agg [s7_0, s7_1, s7_2, s7_3, s7_4, s7_5, s7_6, s7_7, s7_8, s7_9, s7_10, s7_11, s7_12])) fun s1 s2 s3 s4 s5 s6 s7 s8 s9 s10 s11 s12 s13 => 
  k .normal [(3, .v t3), (4, .lp 4 0), (5, .v t5), (6, .v t6)] [(4, .cells [s1, s2, s3, s4, s5, s6, s7, s8, s9, s10, s11, s12, s13])] Q) := by kernel_rfl
theorem p_pleachlaw19_TieRoot_2 {β : Type} (call : CallF) (lp : PLoopF) (t3 t5 t6 s4_0 s4_1 s4_2 s4_3 s4_4 s4_5 s4_6 s4_7 s4_8 s4_9 s4_10 s4_11 s4_12 : AV) (Q : AHeap) (k : PK β) : evalPK call lp c_pleachlaw19_TieRoot_2 [(3, .v t3), (4, .lp 4 0), (5, .v t5), (6, .v t6)] [(4, .cells [s4_0, s4_1, s4_2, s4_3, s4_4, s4_5, s4_6, s4_7, s4_8, s4_9, s4_10, s4_11, s4_12])] Q k = (
  bnP (binA .neq s4_3 (.int .i64 0)) fun w84_1 => 
  bnP (gdQ w84_1 false (some s4_9)) fun w87_2 => 
  bnP (gdQ w84_1 false (binA .neq w87_2 (.int .i64 0))) fun w88_3 => 
  bnP (pickA w84_1 (.bool true) w88_3) fun w89_4 => 
  bnP (gdQ w89_4 false (some s4_6)) fun w92_5 => 
  bnP (gdQ w89_4 false (lenQ w92_5)) fun w93_6 => 
  bnP (gdQ w89_4 false (binA .neq w93_6 (.int .i64 1))) fun w94_7 => 
  bnP (pickA w89_4 (.bool true) w94_7) fun w95_8 => 
  bnP (gdQ w95_8 false (some s4_6)) fun w98_9 => 
  bnP (gdQ w95_8 false (elQ 1 w98_9 (.int .i64 0))) fun e10 => 
  bnP (gdQ w95_8 false ((AV.cells e10)[0]?)) fun w100_11 => 
  bnP (gdQ w95_8 false (binA .neq w100_11 (.int .i64 1))) fun w101_12 => 
  bnP (pickA w95_8 (.bool true) w101_12) fun w102_13 => 
  bnP (gdQ w102_13 false (some (.agg [s4_0, s4_1, s4_2, s4_3, s4_4, s4_5, s4_6, s4_7, s4_8, s4_9, s4_10, s4_11, s4_12]))) fun w104_14 => 
  bnS (gdH w102_13 false (call 25 [w104_14] Q) Q) fun w105_15 Q16 => 
  bnP (gdQ w102_13 false (unA .not (frz w105_15))) fun w106_17 => 
  bnP (pickA w102_13 (.bool true) w106_17) fun w107_18 => 
  bnP (gdQ w107_18 false (some s4_7)) fun w110_19 => 
  bnP (gdQ w107_18 false (some t5)) fun w111_20 => 
  bnP (gdQ w107_18 false (binA .quo w111_20 (.int .i64 2))) fun w112_21 => 
  bnP (gdQ w107_18 false (binA .neq w110_19 w112_21)) fun w113_22 => 
  bnP (pickA w107_18 (.bool true) w113_22) fun w114_23 => 
  bnP (gdQ w114_23 false (some s4_2)) fun w117_24 => 
  bnP (gdQ w114_23 false (some t5)) fun w118_25 => 
  bnP (gdQ w114_23 false (binA .neq w117_24 w118_25)) fun w119_26 => 
  bnP (pickA w114_23 (.bool true) w119_26) fun w120_27 => 
  bnP (gdQ w120_27 false (some s4_8)) fun w123_28 => 
  bnP (gdQ w120_27 false (some t5)) fun w124_29 => 
  bnP (gdQ w120_27 false (binA .quo w124_29 (.int .i64 2))) fun w125_30 => 
  bnP (gdQ w120_27 false (binA .mul w125_30 (.int .i64 2))) fun w126_31 => 
  bnP (gdQ w120_27 false (binA .neq w123_28 w126_31)) fun w127_32 => 
  bnP (pickA w120_27 (.bool true) w127_32) fun w128_33 => 
  cndS w128_33 (fun _ => k .ret [(2, .v (.bool false))] [] Q16)
  (fun _ => k .normal [(3, .v t3), (4, .lp 4 0), (5, .v t5), (6, .v t6)] [(4, .cells [s4_0, s4_1, s4_2, s4_3, s4_4, s4_5, s4_6, s4_7, s4_8, s4_9, s4_10, s4_11, s4_12])] Q16)) := by kernel_rfl
theorem p_pleachlaw19_TieRoot_3 {β : Type} (call : CallF) (lp : PLoopF) (t3 t5 t6 s4_0 s4_1 s4_2 s4_3 s4_4 s4_5 s4_6 s4_7 s4_8 s4_9 s4_10 s4_11 s4_12 : AV) (Q : AHeap) (k : PK β) : evalPK call lp c_pleachlaw19_TieRoot_3 [(3, .v t3), (4, .lp 4 0), (5, .v t5), (6, .v t6)] [(4, .cells [s4_0, s4_1, s4_2, s4_3, s4_4, s4_5, s4_6, s4_7, s4_8, s4_9, s4_10, s4_11, s4_12])] Q k = (
  bnP (binA .add t6 (.int .i64 1)) fun w28_1 => 
  k .normal [(3, .v t3), (4, .lp 4 0), (5, .v t5), (6, .v w28_1)] [(4, .cells [s4_0, s4_1, s4_2, s4_3, s4_4, s4_5, s4_6, s4_7, s4_8, s4_9, s4_10, s4_11, s4_12])] Q) := by kernel_rfl
theorem p_pleachlaw19_TieRoot_4 {β : Type} (call : CallF) (lp : PLoopF) (t3 t5 t6 s4_0 s4_1 s4_2 s4_3 s4_4 s4_5 s4_6 s4_7 s4_8 s4_9 s4_10 s4_11 s4_12 : AV) (Q : AHeap) (k : PK β) : evalPK call lp c_pleachlaw19_TieRoot_4 [(3, .v t3), (4, .lp 4 0), (5, .v t5), (6, .v t6)] [(4, .cells [s4_0, s4_1, s4_2, s4_3, s4_4, s4_5, s4_6, s4_7, s4_8, s4_9, s4_10, s4_11, s4_12])] Q k = (
  bnP (binA .lss t6 (.int .i64 50)) fun w21_1 => 
  bnP (gdQ w21_1 true (some t3)) fun w23_2 => 
  bnS (gdH w21_1 true (call 17 [w23_2] Q) Q) fun w24_3 Q4 => 
  bnP (gdQ w21_1 true (unA .not (frz w24_3))) fun w25_5 => 
  bnP (pickA w21_1 w25_5 (.bool false)) fun w26_6 => 
  cndS w26_6 (fun _ => bnX (bnX (bnX (bnS (call 13 [t3, .int .i64 2] Q4) fun w30_7 Q8 => 
  bnP (binA .eql (frz w30_7) (.int .i64 0)) fun w31_9 => 
  cndS w31_9 (fun _ => bnP (binA .add t5 (.int .i64 1)) fun w33_10 => 
  bnS (call 18 [.agg [s4_0, s4_1, s4_2, s4_3, s4_4, s4_5, s4_6, s4_7, s4_8, s4_9, s4_10, s4_11, s4_12]] Q8) fun w36_11 Q12 => 
  bnP (extA (frz w36_11) 0) fun w37_13 => 
  bnP (extA (frz w36_11) 1) fun w38_14 => 
  bnC 13 (stC 13 w37_13) fun s15 s16 s17 s18 s19 s20 s21 s22 s23 s24 s25 s26 s27 => 
  bnX (lp c_pleachlaw19_TieRoot_0 [(3, .v t3), (4, .lp 4 0), (5, .v w33_10), (6, .v t6), (7, .lp 7 0), (8, .v w38_14), (9, .v (.int .i64 0))] [(4, .cells [s4_0, s4_1, s4_2, s4_3, s4_4, s4_5, s4_6, s4_7, s4_8, s4_9, s4_10, s4_11, s4_12]), (7, .cells [s15, s16, s17, s18, s19, s20, s21, s22, s23, s24, s25, s26, s27])] Q12) (outX 2 (goC (evalPK call lp c_pleachlaw19_TieRoot_1) ret4)))
  (fun _ => bnS (call 20 [t3, .int .i64 1] Q8) fun w78_28 Q29 => 
  bnS (call 22 [.agg [s4_0, s4_1, s4_2, s4_3, s4_4, s4_5, s4_6, s4_7, s4_8, s4_9, s4_10, s4_11, s4_12], (frz w78_28), .int .i64 1] Q29) fun w79_30 Q31 => 
  bnP (extA (frz w79_30) 0) fun w80_32 => 
  bnP (extA (frz w79_30) 1) fun w81_33 => 
  bnC 13 (stC 13 w80_32) fun s34 s35 s36 s37 s38 s39 s40 s41 s42 s43 s44 s45 s46 => 
  some (.normal, [(3, .v t3), (4, .lp 4 0), (5, .v t5), (6, .v t6)], [(4, .cells [s34, s35, s36, s37, s38, s39, s40, s41, s42, s43, s44, s45, s46])], Q31)))
  (goC (evalPK call lp c_pleachlaw19_TieRoot_2) ret4))
  (outX 1 ret4))
  (goC (evalPK call lp c_pleachlaw19_TieRoot_3) k))
  (fun _ => k (.exit 0) [] [] Q4)) := by kernel_rfl
noncomputable def L_pleachlaw19_TieRoot_4 (s : PSpecs) (t3 t5 t6 s4_0 s4_1 s4_2 s4_3 s4_4 s4_5 s4_6 s4_7 s4_8 s4_9 s4_10 s4_11 s4_12 : AV) (Q : AHeap) : Option PEnd := loopP (penv s) c_pleachlaw19_TieRoot_4 [(3, .v t3), (4, .lp 4 0), (5, .v t5), (6, .v t6)] [(4, .cells [s4_0, s4_1, s4_2, s4_3, s4_4, s4_5, s4_6, s4_7, s4_8, s4_9, s4_10, s4_11, s4_12])] Q
theorem L_pleachlaw19_TieRoot_4_fold (s : PSpecs) (t3 t5 t6 s4_0 s4_1 s4_2 s4_3 s4_4 s4_5 s4_6 s4_7 s4_8 s4_9 s4_10 s4_11 s4_12 : AV) (Q : AHeap) : loopP (penv s) c_pleachlaw19_TieRoot_4 [(3, .v t3), (4, .lp 4 0), (5, .v t5), (6, .v t6)] [(4, .cells [s4_0, s4_1, s4_2, s4_3, s4_4, s4_5, s4_6, s4_7, s4_8, s4_9, s4_10, s4_11, s4_12])] Q = L_pleachlaw19_TieRoot_4 s t3 t5 t6 s4_0 s4_1 s4_2 s4_3 s4_4 s4_5 s4_6 s4_7 s4_8 s4_9 s4_10 s4_11 s4_12 Q := rfl
theorem L_pleachlaw19_TieRoot_4_eq (s : PSpecs) (t3 t5 t6 s4_0 s4_1 s4_2 s4_3 s4_4 s4_5 s4_6 s4_7 s4_8 s4_9 s4_10 s4_11 s4_12 : AV) (Q : AHeap) : L_pleachlaw19_TieRoot_4 s t3 t5 t6 s4_0 s4_1 s4_2 s4_3 s4_4 s4_5 s4_6 s4_7 s4_8 s4_9 s4_10 s4_11 s4_12 Q = evalPK (callP (penv s)) (loopP (penv s)) c_pleachlaw19_TieRoot_4 [(3, .v t3), (4, .lp 4 0), (5, .v t5), (6, .v t6)] [(4, .cells [s4_0, s4_1, s4_2, s4_3, s4_4, s4_5, s4_6, s4_7, s4_8, s4_9, s4_10, s4_11, s4_12])] Q (goX (fun τ ω Q => loopP (penv s) c_pleachlaw19_TieRoot_4 τ ω Q) ret4) := loopP_body
abbrev X_pleachlaw19_TieRoot_4_x0 (Q : AHeap) : Option PEnd := some (.exit 0, [], [], Q)
theorem p_pleachlaw19_TieRoot_5 {β : Type} (call : CallF) (lp : PLoopF) (Q : AHeap) (k : PK β) : evalPK call lp c_pleachlaw19_TieRoot_5 [] [] Q k = (
  k .ret [(2, .v (.bool true))] [] Q) := by kernel_rfl
theorem g_pleachlaw19_TieRoot {call : CallF} {lp : PLoopF} (v0 : AV) (Q : AHeap) : evalPK call lp c_pleachlaw19_TieRoot [(0, .v v0)] [] Q (retPK [.tmp 2] [.n]) = (
  bnS (call 11 [] Q) fun w10_1 Q2 => 
  bnP (unA .not (frz w10_1)) fun w11_3 => 
  cndS w11_3 (fun _ => some (.bool false, Q2))
  (fun _ => bnP (lenQ v0) fun w13_4 => 
  bnP (binA .gtr w13_4 (.int .i64 200)) fun w14_5 => 
  cndS w14_5 (fun _ => some (.bool true, Q2))
  (fun _ => bnS (call 12 [v0] Q2) fun w16_6 Q7 => 
  bnS (call 13 [(frz w16_6), .int .i64 9] Q7) fun w18_8 Q9 => 
  bnS (call 14 [.int .i64 1, .int .i64 2, .int .i64 0, (frz w18_8)] Q9) fun w19_10 Q11 => 
  bnC 13 (stC 13 (frz w19_10)) fun s12 s13 s14 s15 s16 s17 s18 s19 s20 s21 s22 s23 s24 => 
  bnX (lp c_pleachlaw19_TieRoot_4 [(3, .v (frz w16_6)), (4, .lp 4 0), (5, .v (.int .i64 0)), (6, .v (.int .i64 0))] [(4, .cells [s12, s13, s14, s15, s16, s17, s18, s19, s20, s21, s22, s23, s24])] Q11) (outX 0 (goC (evalPK call lp c_pleachlaw19_TieRoot_5) (retPK [.tmp 2] [.n])))))) := by kernel_rfl
def f_pleachlaw19_TieRoot {s : PSpecs} (hs : s.lookup 9 = none) (v0 : AV) (Q : AHeap) := (callP_fn (E := penv s) (f := 9) (fn := pf_pleachlaw19_TieRoot) hs rfl [v0] Q rfl).trans (g_pleachlaw19_TieRoot (call := callP (penv s)) (lp := loopP (penv s)) v0 Q)
theorem g_pleachmade_Made {call : CallF} {lp : PLoopF} (v0 : AV) (Q : AHeap) : evalPK call lp c_pleachmade_Made [(0, .v v0)] [] Q (retPK [.tmp 2] [.n]) = (
  bnC 2 (fillP [.nils, .int .i64 0] [(0, 1, v0)]) fun c4_1 c4_2 => 
  bnS (newcA Q (AV.cells (.agg [c4_1, c4_2]))) fun w5_4 Q3 => 
  bnP (rcv false .n w5_4) fun r5 => some (r5, Q3)) := by kernel_rfl
def f_pleachmade_Made {s : PSpecs} (hs : s.lookup 12 = none) (v0 : AV) (Q : AHeap) := (callP_fn (E := penv s) (f := 12) (fn := pf_pleachmade_Made) hs rfl [v0] Q rfl).trans (g_pleachmade_Made (call := callP (penv s)) (lp := loopP (penv s)) v0 Q)
theorem g_pleachmade_Picks_Num {call : CallF} {lp : PLoopF} (v0 v1 : AV) (Q : AHeap) : evalPK call lp c_pleachmade_Picks_Num [(0, .v v0), (1, .v v1)] [] Q (retPK [.tmp 4] [.n]) = (
  bnP (nckQ v0) fun w6_1 => 
  bnP (fadQ 1 w6_1) fun w7_2 => 
  bnP (ldQ Q w7_2) fun w8_3 => 
  bnP (nckQ v0) fun w10_4 => 
  bnP (fadQ 0 w10_4) fun w11_5 => 
  bnP (ldQ Q w11_5) fun w12_6 => 
  bnP (lenQ w12_6) fun w13_7 => 
  bnP (binA .geq w8_3 w13_7) fun w14_8 => 
  bnP (gdQ w14_8 false (some v1)) fun w16_9 => 
  bnP (gdQ w14_8 false (binA .lss w16_9 (.int .i64 1))) fun w17_10 => 
  bnP (pickA w14_8 (.bool true) w17_10) fun w18_11 => 
  cndS w18_11 (fun _ => some (.int .i64 0, Q))
  (fun _ => bnP (nckQ v0) fun w20_12 => 
  bnP (fadQ 1 w20_12) fun w21_13 => 
  bnP (ldQ Q w21_13) fun w22_14 => 
  bnP (binA .add w22_14 (.int .i64 1)) fun w23_15 => 
  bnP (nckQ v0) fun w24_16 => 
  bnP (fadQ 1 w24_16) fun w25_17 => 
  bnS (stA Q 1 w25_17 w23_15) fun _ Q18 => 
  bnP (nckQ v0) fun w27_19 => 
  bnP (fadQ 0 w27_19) fun w28_20 => 
  bnP (ldQ Q18 w28_20) fun w29_21 => 
  bnP (nckQ v0) fun w31_22 => 
  bnP (fadQ 1 w31_22) fun w32_23 => 
  bnP (ldQ Q18 w32_23) fun w33_24 => 
  bnP (binA .sub w33_24 (.int .i64 1)) fun w34_25 => 
  bnP (elQ 1 w29_21 w34_25) fun e26 => 
  bnP ((AV.cells e26)[0]?) fun w36_27 => 
  bnP (cviA .i64 w36_27) fun w37_28 => 
  bnP (binA .rem w37_28 v1) fun w39_29 => 
  bnP (rcv false .n w39_29) fun r30 => some (r30, Q18))) := by kernel_rfl
def f_pleachmade_Picks_Num {s : PSpecs} (hs : s.lookup 13 = none) (v0 v1 : AV) (Q : AHeap) := (callP_fn (E := penv s) (f := 13) (fn := pf_pleachmade_Picks_Num) hs rfl [v0, v1] Q rfl).trans (g_pleachmade_Picks_Num (call := callP (penv s)) (lp := loopP (penv s)) v0 v1 Q)
theorem p_tie_New_0 {β : Type} (call : CallF) (lp : PLoopF) (s8_0 s8_1 s8_2 s8_3 s8_4 s8_5 s8_6 s8_7 s8_8 s8_9 s8_10 s8_11 s8_12 s9_0 s9_1 s9_2 s9_3 s9_4 s9_5 s9_6 s9_7 s9_8 s9_9 s9_10 s9_11 s9_12 : AV) (Q : AHeap) (k : PK β) : evalPK call lp c_tie_New_0 [(8, .lp 8 0), (9, .lp 9 0)] [(8, .cells [s8_0, s8_1, s8_2, s8_3, s8_4, s8_5, s8_6, s8_7, s8_8, s8_9, s8_10, s8_11, s8_12]), (9, .cells [s9_0, s9_1, s9_2, s9_3, s9_4, s9_5, s9_6, s9_7, s9_8, s9_9, s9_10, s9_11, s9_12])] Q k = (
  bnC 13 (stC 13 (.agg [s9_0, s9_1, s9_2, s9_3, s9_4, s9_5, s9_6, s9_7, s9_8, s9_9, s9_10, s9_11, s9_12])) fun s1 s2 s3 s4 s5 s6 s7 s8 s9 s10 s11 s12 s13 => 
  k .ret [(21, .v (.agg [s9_0, s9_1, s9_2, s9_3, s9_4, s9_5, s9_6, s9_7, s9_8, s9_9, s9_10, s9_11, s9_12])), (8, .lp 8 0), (9, .lp 9 0)] [(8, .cells [s1, s2, s3, s4, s5, s6, s7, s8, s9, s10, s11, s12, s13]), (9, .cells [s9_0, s9_1, s9_2, s9_3, s9_4, s9_5, s9_6, s9_7, s9_8, s9_9, s9_10, s9_11, s9_12])] Q) := by kernel_rfl
theorem g_tie_New {call : CallF} {lp : PLoopF} (v0 v1 v2 v3 : AV) (Q : AHeap) : evalPK call lp c_tie_New [(0, .v v0), (1, .v v1), (2, .v v2), (3, .v v3)] [] Q (retPK [.cell 8 (some 13)] [.n]) = (
  bnC 13 (fillP [.int .i64 0, .int .i64 0, .int .i64 0, .int .i64 0, .int .i64 0, .int .i64 0, .nils, .int .i64 0, .int .i64 0, .int .i64 0, .int .i64 0, .int .i64 0, .nils] [(0, 1, v0), (1, 1, v1), (2, 1, v2), (5, 1, v3)]) fun c14_1 c14_2 c14_3 c14_4 c14_5 c14_6 c14_7 c14_8 c14_9 c14_10 c14_11 c14_12 c14_13 => 
  bnC 13 (stC 13 (.agg [c14_1, c14_2, c14_3, c14_4, c14_5, c14_6, c14_7, c14_8, c14_9, c14_10, c14_11, c14_12, c14_13])) fun s14 s15 s16 s17 s18 s19 s20 s21 s22 s23 s24 s25 s26 => 
  bnX (bnP (binA .eql v0 (.int .i64 1)) fun w16_27 => 
  cndS w16_27 (fun _ => bnC 1 (stC 1 v2) fun s28 => 
  some (.normal, [(8, .lp 8 0), (9, .lp 9 0)], [(8, .cells [.int .i64 0, .int .i64 0, .int .i64 0, .int .i64 0, .int .i64 0, .int .i64 0, .nils, .int .i64 0, .int .i64 0, .int .i64 0, .int .i64 0, .int .i64 0, .nils]), (9, .cells [s14, s15, s16, s17, s18, s19, .fz 1 [.int .i64 1], s21, s28, s23, s24, s25, s26])], Q))
  (fun _ => some (.normal, [(8, .lp 8 0), (9, .lp 9 0)], [(8, .cells [.int .i64 0, .int .i64 0, .int .i64 0, .int .i64 0, .int .i64 0, .int .i64 0, .nils, .int .i64 0, .int .i64 0, .int .i64 0, .int .i64 0, .int .i64 0, .nils]), (9, .cells [s14, s15, s16, s17, s18, s19, s20, s21, s22, s23, s24, s25, s26])], Q)))
  (goC (evalPK call lp c_tie_New_0) (retPK [.cell 8 (some 13)] [.n]))) := by kernel_rfl
def f_tie_New {s : PSpecs} (hs : s.lookup 14 = none) (v0 v1 v2 v3 : AV) (Q : AHeap) := (callP_fn (E := penv s) (f := 14) (fn := pf_tie_New) hs rfl [v0, v1, v2, v3] Q rfl).trans (g_tie_New (call := callP (penv s)) (lp := loopP (penv s)) v0 v1 v2 v3 Q)
theorem g_pleachmade_Picks_Over {call : CallF} {lp : PLoopF} (v0 : AV) (Q : AHeap) : evalPK call lp c_pleachmade_Picks_Over [(0, .v v0)] [] Q (retPK [.tmp 2] [.n]) = (
  bnP (nckQ v0) fun w4_1 => 
  bnP (fadQ 1 w4_1) fun w5_2 => 
  bnP (ldQ Q w5_2) fun w6_3 => 
  bnP (nckQ v0) fun w8_4 => 
  bnP (fadQ 0 w8_4) fun w9_5 => 
  bnP (ldQ Q w9_5) fun w10_6 => 
  bnP (lenQ w10_6) fun w11_7 => 
  bnP (binA .geq w6_3 w11_7) fun w12_8 => 
  bnP (rcv false .n w12_8) fun r9 => some (r9, Q)) := by kernel_rfl
def f_pleachmade_Picks_Over {s : PSpecs} (hs : s.lookup 17 = none) (v0 : AV) (Q : AHeap) := (callP_fn (E := penv s) (f := 17) (fn := pf_pleachmade_Picks_Over) hs rfl [v0] Q rfl).trans (g_pleachmade_Picks_Over (call := callP (penv s)) (lp := loopP (penv s)) v0 Q)
theorem p_tie_Tick_0 {β : Type} (call : CallF) (lp : PLoopF) (t4 s2_0 s2_1 s2_2 s2_3 s2_4 s2_5 s2_6 s2_7 s2_8 s2_9 s2_10 s2_11 s2_12 : AV) (Q : AHeap) (k : PK β) : evalPK call lp c_tie_Tick_0 [(2, .lp 2 0), (4, .v t4)] [(2, .cells [s2_0, s2_1, s2_2, s2_3, s2_4, s2_5, s2_6, s2_7, s2_8, s2_9, s2_10, s2_11, s2_12])] Q k = (
  bnS (call 41 [t4] Q) fun w92_1 Q2 => 
  bnS (call 42 [t4] Q2) fun w94_3 Q4 => 
  bnP (nckQ t4) fun w96_5 => 
  bnP (fadQ 0 w96_5) fun w97_6 => 
  bnC 13 (rowP Q4 13 w97_6) fun c98_7 c98_8 c98_9 c98_10 c98_11 c98_12 c98_13 c98_14 c98_15 c98_16 c98_17 c98_18 c98_19 => 
  bnP (nckQ t4) fun w100_20 => 
  bnP (fadQ 13 w100_20) fun w101_21 => 
  bnP (ldQ Q4 w101_21) fun w102_22 => 
  bnC 13 (stC 13 (.agg [c98_7, c98_8, c98_9, c98_10, c98_11, c98_12, c98_13, c98_14, c98_15, c98_16, c98_17, c98_18, c98_19])) fun s23 s24 s25 s26 s27 s28 s29 s30 s31 s32 s33 s34 s35 => 
  bnS (frzH Q4 10 w102_22) fun w3_36 Q37 =>
  k .ret [(3, .v w3_36), (3, .v w102_22), (102, .v w102_22), (101, .v w101_21), (100, .v w100_20), (99, .v t4), (98, .v (.agg [c98_7, c98_8, c98_9, c98_10, c98_11, c98_12, c98_13, c98_14, c98_15, c98_16, c98_17, c98_18, c98_19])), (97, .v w97_6), (96, .v w96_5), (95, .v t4), (94, .v (frz w94_3)), (93, .v t4), (92, .v (frz w92_1)), (91, .v t4), (2, .lp 2 0), (4, .v t4)] [(2, .cells [s23, s24, s25, s26, s27, s28, s29, s30, s31, s32, s33, s34, s35])] Q37) := by kernel_rfl
theorem g_tie_Tick {call : CallF} {lp : PLoopF} (v0_0 v0_1 v0_2 v0_3 v0_4 v0_5 v0_6 v0_7 v0_8 v0_9 v0_10 v0_11 v0_12 : AV) (Q : AHeap) : evalPK call lp c_tie_Tick [(0, .v (.agg [v0_0, v0_1, v0_2, v0_3, v0_4, v0_5, v0_6, v0_7, v0_8, v0_9, v0_10, v0_11, v0_12]))] [] Q (retPK [.cell 2 (some 13), .tmp 3] [.n, .f 10]) = (
  bnC 13 (stC 13 (.agg [v0_0, v0_1, v0_2, v0_3, v0_4, v0_5, v0_6, v0_7, v0_8, v0_9, v0_10, v0_11, v0_12])) fun s1 s2 s3 s4 s5 s6 s7 s8 s9 s10 s11 s12 s13 => 
  bnS (call 38 [.agg [s1, s2, s3, s4, s5, s6, s7, s8, s9, s10, s11, s12, s13]] Q) fun w6_14 Q15 => 
  bnP (nckQ (frz w6_14)) fun w8_16 => 
  bnP (fadQ 0 w8_16) fun w9_17 => 
  bnP (fadQ 2 w9_17) fun w10_18 => 
  bnP (ldQ Q15 w10_18) fun w11_19 => 
  bnP (binA .add w11_19 (.int .i64 1)) fun w12_20 => 
  bnP (nckQ (frz w6_14)) fun w13_21 => 
  bnP (fadQ 0 w13_21) fun w14_22 => 
  bnP (fadQ 2 w14_22) fun w15_23 => 
  bnS (stA Q15 1 w15_23 w12_20) fun _ Q24 => 
  bnP (nckQ (frz w6_14)) fun w18_25 => 
  bnP (fadQ 0 w18_25) fun w19_26 => 
  bnP (fadQ 12 w19_26) fun w20_27 => 
  bnP (ldQ Q24 w20_27) fun w21_28 => 
  bnP (nckQ (frz w6_14)) fun w23_29 => 
  bnP (fadQ 0 w23_29) fun w24_30 => 
  bnP (fadQ 2 w24_30) fun w25_31 => 
  bnP (ldQ Q24 w25_31) fun w26_32 => 
  bnS (call 39 [w21_28, w26_32] Q24) fun w27_33 Q34 => 
  bnP (nckQ (frz w6_14)) fun w28_35 => 
  bnP (fadQ 0 w28_35) fun w29_36 => 
  bnP (fadQ 12 w29_36) fun w30_37 => 
  bnS (stA Q34 1 w30_37 (frz w27_33)) fun _ Q38 => 
  bnX (bnX (bnP (nckQ (frz w6_14)) fun w33_39 => 
  bnP (fadQ 0 w33_39) fun w34_40 => 
  bnP (fadQ 0 w34_40) fun w35_41 => 
  bnP (ldQ Q38 w35_41) fun w36_42 => 
  bnP (binA .eql w36_42 (.int .i64 1)) fun w37_43 => 
  bnP (gdQ w37_43 true (some (frz w6_14))) fun w39_44 => 
  bnP (gdQ w37_43 true (nckQ w39_44)) fun w40_45 => 
  bnP (gdQ w37_43 true (fadQ 0 w40_45)) fun w41_46 => 
  bnP (gdQ w37_43 true (fadQ 2 w41_46)) fun w42_47 => 
  bnP (gdQ w37_43 true (ldQ Q38 w42_47)) fun w43_48 => 
  bnP (gdQ w37_43 true (binA .rem w43_48 (.int .i64 2))) fun w44_49 => 
  bnP (gdQ w37_43 true (binA .eql w44_49 (.int .i64 0))) fun w45_50 => 
  bnP (pickA w37_43 w45_50 (.bool false)) fun w46_51 => 
  cndS w46_51 (fun _ => bnP (nckQ (frz w6_14)) fun w50_52 => 
  bnP (fadQ 0 w50_52) fun w51_53 => 
  bnP (fadQ 7 w51_53) fun w52_54 => 
  bnP (ldQ Q38 w52_54) fun w53_55 => 
  bnP (binA .add w53_55 (.int .i64 1)) fun w54_56 => 
  bnP (nckQ (frz w6_14)) fun w56_57 => 
  bnP (fadQ 0 w56_57) fun w57_58 => 
  bnP (fadQ 2 w57_58) fun w58_59 => 
  bnP (ldQ Q38 w58_59) fun w59_60 => 
  bnP (nckQ (frz w6_14)) fun w60_61 => 
  bnP (fadQ 0 w60_61) fun w61_62 => 
  bnP (fadQ 7 w61_62) fun w62_63 => 
  bnS (stA Q38 1 w62_63 w54_56) fun _ Q64 => 
  bnP (nckQ (frz w6_14)) fun w63_65 => 
  bnP (fadQ 0 w63_65) fun w64_66 => 
  bnP (fadQ 8 w64_66) fun w65_67 => 
  bnS (stA Q64 1 w65_67 w59_60) fun _ Q68 => 
  some (.normal, [(2, .lp 2 0), (4, .v (frz w6_14))], [(2, .cells [.int .i64 0, .int .i64 0, .int .i64 0, .int .i64 0, .int .i64 0, .int .i64 0, .nils, .int .i64 0, .int .i64 0, .int .i64 0, .int .i64 0, .int .i64 0, .nils])], Q68))
  (fun _ => bnP (nckQ (frz w6_14)) fun w68_69 => 
  bnP (fadQ 0 w68_69) fun w69_70 => 
  bnP (fadQ 0 w69_70) fun w70_71 => 
  bnP (ldQ Q38 w70_71) fun w71_72 => 
  bnP (binA .neq w71_72 (.int .i64 1)) fun w72_73 => 
  bnP (gdQ w72_73 true (some (frz w6_14))) fun w74_74 => 
  bnP (gdQ w72_73 true (nckQ w74_74)) fun w75_75 => 
  bnP (gdQ w72_73 true (fadQ 0 w75_75)) fun w76_76 => 
  bnP (gdQ w72_73 true (fadQ 3 w76_76)) fun w77_77 => 
  bnP (gdQ w72_73 true (ldQ Q38 w77_77)) fun w78_78 => 
  bnP (gdQ w72_73 true (binA .neq w78_78 (.int .i64 0))) fun w79_79 => 
  bnP (pickA w72_73 w79_79 (.bool false)) fun w80_80 => 
  bnP (gdQ w80_80 true (some (frz w6_14))) fun w82_81 => 
  bnP (gdQ w80_80 true (nckQ w82_81)) fun w83_82 => 
  bnP (gdQ w80_80 true (fadQ 0 w83_82)) fun w84_83 => 
  bnP (gdQ w80_80 true ((rowP Q38 13 w84_83).map AV.agg)) fun w85_84 => 
  bnS (gdH w80_80 true (call 25 [w85_84] Q38) Q38) fun w86_85 Q86 => 
  bnP (gdQ w80_80 true (unA .not (frz w86_85))) fun w87_87 => 
  bnP (pickA w80_80 w87_87 (.bool false)) fun w88_88 => 
  cndS w88_88 (fun _ => bnS (call 40 [(frz w6_14), .int .i64 0] Q86) fun w90_89 Q90 => 
  some (.normal, [(2, .lp 2 0), (4, .v (frz w6_14))], [(2, .cells [.int .i64 0, .int .i64 0, .int .i64 0, .int .i64 0, .int .i64 0, .int .i64 0, .nils, .int .i64 0, .int .i64 0, .int .i64 0, .int .i64 0, .int .i64 0, .nils])], Q90))
  (fun _ => some (.normal, [(2, .lp 2 0), (4, .v (frz w6_14))], [(2, .cells [.int .i64 0, .int .i64 0, .int .i64 0, .int .i64 0, .int .i64 0, .int .i64 0, .nils, .int .i64 0, .int .i64 0, .int .i64 0, .int .i64 0, .int .i64 0, .nils])], Q86))))
  (outX 0 ret4))
  (goC (evalPK call lp c_tie_Tick_0) (retPK [.cell 2 (some 13), .tmp 3] [.n, .f 10]))) := by kernel_rfl
def f_tie_Tick {s : PSpecs} (hs : s.lookup 18 = none) (v0_0 v0_1 v0_2 v0_3 v0_4 v0_5 v0_6 v0_7 v0_8 v0_9 v0_10 v0_11 v0_12 : AV) (Q : AHeap) := (callP_fn (E := penv s) (f := 18) (fn := pf_tie_Tick) hs rfl [.agg [v0_0, v0_1, v0_2, v0_3, v0_4, v0_5, v0_6, v0_7, v0_8, v0_9, v0_10, v0_11, v0_12]] Q rfl).trans (g_tie_Tick (call := callP (penv s)) (lp := loopP (penv s)) v0_0 v0_1 v0_2 v0_3 v0_4 v0_5 v0_6 v0_7 v0_8 v0_9 v0_10 v0_11 v0_12 Q)
theorem p_pleachmade_Picks_Msg_0 {β : Type} (call : CallF) (lp : PLoopF) (t0 t64 s4_0 s4_1 s4_2 s4_3 s4_4 s4_5 s4_6 s4_7 s4_8 s4_9 s6_0 s6_1 s6_2 s6_3 s6_4 s6_5 s6_6 s6_7 s6_8 s6_9 : AV) (Q : AHeap) (k : PK β) : evalPK call lp c_pleachmade_Picks_Msg_0 [(0, .v t0), (4, .lp 4 0), (6, .lp 6 0), (64, .v t64)] [(4, .cells [s4_0, s4_1, s4_2, s4_3, s4_4, s4_5, s4_6, s4_7, s4_8, s4_9]), (6, .cells [s6_0, s6_1, s6_2, s6_3, s6_4, s6_5, s6_6, s6_7, s6_8, s6_9])] Q k = (
  cndS t64 (fun _ => bnS (call 13 [t0, .int .i64 9] Q) fun w68_1 Q2 => 
  bnP (binA .add (.int .i64 1) (frz w68_1)) fun w69_3 => 
  bnC 1 (stC 1 w69_3) fun s4 => 
  bnS (call 13 [t0, .int .i64 6] Q2) fun w74_5 Q6 => 
  bnP (binA .add s4 (frz w74_5)) fun w75_7 => 
  bnC 1 (stC 1 w75_7) fun s8 => 
  k .normal [(4, .lp 4 0), (6, .lp 6 0)] [(4, .cells [s4_0, s4_1, s4_2, s4_3, s4_4, s4_5, s4_6, s4_7, s4_8, s4_9]), (6, .cells [s6_0, s6_1, s6_2, s6_3, s6_4, s6_5, s6_6, s4, s8, s6_9])] Q6)
  (fun _ => k .normal [(4, .lp 4 0), (6, .lp 6 0)] [(4, .cells [s4_0, s4_1, s4_2, s4_3, s4_4, s4_5, s4_6, s4_7, s4_8, s4_9]), (6, .cells [s6_0, s6_1, s6_2, s6_3, s6_4, s6_5, s6_6, s6_7, s6_8, s6_9])] Q)) := by kernel_rfl
theorem p_pleachmade_Picks_Msg_1 {β : Type} (call : CallF) (lp : PLoopF) (s4_0 s4_1 s4_2 s4_3 s4_4 s4_5 s4_6 s4_7 s4_8 s4_9 s6_0 s6_1 s6_2 s6_3 s6_4 s6_5 s6_6 s6_7 s6_8 s6_9 : AV) (Q : AHeap) (k : PK β) : evalPK call lp c_pleachmade_Picks_Msg_1 [(4, .lp 4 0), (6, .lp 6 0)] [(4, .cells [s4_0, s4_1, s4_2, s4_3, s4_4, s4_5, s4_6, s4_7, s4_8, s4_9]), (6, .cells [s6_0, s6_1, s6_2, s6_3, s6_4, s6_5, s6_6, s6_7, s6_8, s6_9])] Q k = (
  bnC 10 (stC 10 (.agg [s6_0, s6_1, s6_2, s6_3, s6_4, s6_5, s6_6, s6_7, s6_8, s6_9])) fun s1 s2 s3 s4 s5 s6 s7 s8 s9 s10 => 
  k .ret [(77, .v (.agg [s6_0, s6_1, s6_2, s6_3, s6_4, s6_5, s6_6, s6_7, s6_8, s6_9])), (4, .lp 4 0), (6, .lp 6 0)] [(4, .cells [s1, s2, s3, s4, s5, s6, s7, s8, s9, s10]), (6, .cells [s6_0, s6_1, s6_2, s6_3, s6_4, s6_5, s6_6, s6_7, s6_8, s6_9])] Q) := by kernel_rfl
theorem p_pleachmade_Picks_Msg_2 {β : Type} (call : CallF) (lp : PLoopF) (t0 t1 t5 s4_0 s4_1 s4_2 s4_3 s4_4 s4_5 s4_6 s4_7 s4_8 s4_9 : AV) (Q : AHeap) (k : PK β) : evalPK call lp c_pleachmade_Picks_Msg_2 [(0, .v t0), (1, .v t1), (4, .lp 4 0), (5, .v t5)] [(4, .cells [s4_0, s4_1, s4_2, s4_3, s4_4, s4_5, s4_6, s4_7, s4_8, s4_9])] Q k = (
  bnS (call 13 [t0, .int .i64 9] Q) fun w17_1 Q2 => 
  bnP (binA .add (.int .i64 1) (frz w17_1)) fun w18_3 => 
  bnS (call 13 [t0, .int .i64 3] Q2) fun w22_4 Q5 => 
  bnP (binA .add (.int .i64 1) (frz w22_4)) fun w23_6 => 
  bnC 10 (fillP [.int .i64 0, .int .i64 0, .int .i64 0, .int .i64 0, .int .i64 0, .int .i64 0, .nils, .int .i64 0, .int .i64 0, .str []] [(0, 1, w18_3), (1, 1, t5), (2, 1, t1), (3, 1, w23_6)]) fun c24_7 c24_8 c24_9 c24_10 c24_11 c24_12 c24_13 c24_14 c24_15 c24_16 => 
  bnC 10 (stC 10 (.agg [c24_7, c24_8, c24_9, c24_10, c24_11, c24_12, c24_13, c24_14, c24_15, c24_16])) fun s17 s18 s19 s20 s21 s22 s23 s24 s25 s26 => 
  bnX (bnX (bnP (binA .eql s17 (.int .i64 2)) fun w28_27 => 
  cndS w28_27 (fun _ => bnS (call 13 [t0, .int .i64 20] Q5) fun w30_28 Q29 => 
  bnS (call 13 [t0, .int .i64 25] Q29) fun w32_30 Q31 => 
  bnS (call 21 [t0] Q31) fun w34_32 Q33 => 
  bnS (call 13 [t0, .int .i64 9] Q33) fun w36_34 Q35 => 
  bnC 1 (stC 1 (frz w30_28)) fun s36 => 
  bnC 1 (stC 1 (frz w32_30)) fun s37 => 
  bnC 1 (stC 1 (frz w34_32)) fun s38 => 
  bnC 1 (stC 1 (frz w36_34)) fun s39 => 
  some (.normal, [(4, .lp 4 0), (6, .lp 6 0)], [(4, .cells [s4_0, s4_1, s4_2, s4_3, s4_4, s4_5, s4_6, s4_7, s4_8, s4_9]), (6, .cells [s17, s18, s19, s20, s36, s37, s38, s39, s25, s26])], Q35))
  (fun _ => bnP (binA .eql s17 (.int .i64 5)) fun w42_40 => 
  cndS w42_40 (fun _ => bnS (call 13 [t0, .int .i64 20] Q5) fun w44_41 Q42 => 
  bnS (call 13 [t0, .int .i64 25] Q42) fun w46_43 Q44 => 
  bnS (call 21 [t0] Q44) fun w48_45 Q46 => 
  bnS (call 13 [t0, .int .i64 12] Q46) fun w50_47 Q48 => 
  bnC 1 (stC 1 (frz w44_41)) fun s49 => 
  bnC 1 (stC 1 (frz w46_43)) fun s50 => 
  bnC 1 (stC 1 (frz w48_45)) fun s51 => 
  bnC 1 (stC 1 (frz w50_47)) fun s52 => 
  some (.normal, [(4, .lp 4 0), (6, .lp 6 0)], [(4, .cells [s4_0, s4_1, s4_2, s4_3, s4_4, s4_5, s4_6, s4_7, s4_8, s4_9]), (6, .cells [s17, s18, s19, s20, s49, s50, s51, s24, s52, s26])], Q48))
  (fun _ => bnP (binA .eql s17 (.int .i64 7)) fun w56_53 => 
  cndS w56_53 (fun _ => bnS (call 13 [t0, .int .i64 12] Q5) fun w58_54 Q55 => 
  bnP (binA .add (.int .i64 1) (frz w58_54)) fun w59_56 => 
  bnS (call 47 [t0] Q55) fun w61_57 Q58 => 
  bnC 1 (stC 1 w59_56) fun s59 => 
  bnC 1 (stC 1 (frz w61_57)) fun s60 => 
  some (.normal, [(4, .lp 4 0), (6, .lp 6 0)], [(4, .cells [s4_0, s4_1, s4_2, s4_3, s4_4, s4_5, s4_6, s4_7, s4_8, s4_9]), (6, .cells [s17, s18, s19, s20, s21, s22, s23, s59, s25, s60])], Q58))
  (fun _ => bnX (bnP (binA .eql s17 (.int .i64 8)) fun w65_61 => 
  cndS w65_61 (fun _ => some (.normal, [(0, .v t0), (4, .lp 4 0), (6, .lp 6 0), (64, .v w65_61)], [(4, .cells [s4_0, s4_1, s4_2, s4_3, s4_4, s4_5, s4_6, s4_7, s4_8, s4_9]), (6, .cells [s17, s18, s19, s20, s21, s22, s23, s24, s25, s26])], Q5))
  (fun _ => bnP (binA .eql s17 (.int .i64 9)) fun w66_62 => 
  some (.normal, [(0, .v t0), (4, .lp 4 0), (6, .lp 6 0), (64, .v w66_62)], [(4, .cells [s4_0, s4_1, s4_2, s4_3, s4_4, s4_5, s4_6, s4_7, s4_8, s4_9]), (6, .cells [s17, s18, s19, s20, s21, s22, s23, s24, s25, s26])], Q5)))
  (goC (evalPK call lp c_pleachmade_Picks_Msg_0) (finC [] [] [4, 6] [(4, 4), (6, 6)] (finC [] [] [4, 6] [(4, 4), (6, 6)] (finC [] [] [4, 6] [(4, 4), (6, 6)] ret4))))))))
  (outX 0 ret4))
  (goC (evalPK call lp c_pleachmade_Picks_Msg_1) k)) := by kernel_rfl
theorem g_pleachmade_Picks_Msg {call : CallF} {lp : PLoopF} (v0 v1 : AV) (Q : AHeap) : evalPK call lp c_pleachmade_Picks_Msg [(0, .v v0), (1, .v v1)] [] Q (retPK [.cell 4 (some 10)] [.n]) = (
  bnS (call 13 [v0, .int .i64 8] Q) fun w8_1 Q2 => 
  bnP (binA .add (.int .i64 1) (frz w8_1)) fun w9_3 => 
  bnX (bnP (binA .eql w9_3 v1) fun w12_4 => 
  cndS w12_4 (fun _ => bnP (binA .rem v1 (.int .i64 8)) fun w14_5 => 
  bnP (binA .add (.int .i64 1) w14_5) fun w15_6 => 
  some (.normal, [(0, .v v0), (1, .v v1), (4, .lp 4 0), (5, .v w15_6)], [(4, .cells [.int .i64 0, .int .i64 0, .int .i64 0, .int .i64 0, .int .i64 0, .int .i64 0, .nils, .int .i64 0, .int .i64 0, .str []])], Q2))
  (fun _ => some (.normal, [(0, .v v0), (1, .v v1), (4, .lp 4 0), (5, .v w9_3)], [(4, .cells [.int .i64 0, .int .i64 0, .int .i64 0, .int .i64 0, .int .i64 0, .int .i64 0, .nils, .int .i64 0, .int .i64 0, .str []])], Q2)))
  (goC (evalPK call lp c_pleachmade_Picks_Msg_2) (retPK [.cell 4 (some 10)] [.n]))) := by kernel_rfl
def f_pleachmade_Picks_Msg {s : PSpecs} (hs : s.lookup 20 = none) (v0 v1 : AV) (Q : AHeap) := (callP_fn (E := penv s) (f := 20) (fn := pf_pleachmade_Picks_Msg) hs rfl [v0, v1] Q rfl).trans (g_pleachmade_Picks_Msg (call := callP (penv s)) (lp := loopP (penv s)) v0 v1 Q)
theorem p_pleachmade_Picks_Path_0 {β : Type} (call : CallF) (lp : PLoopF) (t0 t3 t4 : AV) (Q : AHeap) (k : PK β) : evalPK call lp c_pleachmade_Picks_Path_0 [(0, .v t0), (3, .v t3), (4, .v t4)] [] Q k = (
  bnP (binA .sub t4 (.int .i64 1)) fun w13_1 => 
  k .normal [(0, .v t0), (3, .v t3), (4, .v w13_1)] [] Q) := by kernel_rfl
theorem p_pleachmade_Picks_Path_1 {β : Type} (call : CallF) (lp : PLoopF) (t0 t3 t4 : AV) (Q : AHeap) (k : PK β) : evalPK call lp c_pleachmade_Picks_Path_1 [(0, .v t0), (3, .v t3), (4, .v t4)] [] Q k = (
  bnP (binA .gtr t4 (.int .i64 0)) fun w11_1 => 
  cndS w11_1 (fun _ => bnX (bnX (bnS (call 13 [t0, .int .i64 7] Q) fun w17_2 Q3 => 
  bnP (binA .add (.int .i64 2) (frz w17_2)) fun w18_4 => 
  bnS (call 35 [t3, w18_4] Q3) fun w19_5 Q6 => 
  bnP (extA (frz w19_5) 0) fun w20_7 => 
  bnP (extA (frz w19_5) 1) fun w21_8 => 
  cndS w21_8 (fun _ => some (.normal, [(0, .v t0), (3, .v w20_7), (4, .v t4)], [], Q6))
  (fun _ => some (.normal, [(0, .v t0), (3, .v t3), (4, .v t4)], [], Q6)))
  (outX 1 ret4))
  (goC (evalPK call lp c_pleachmade_Picks_Path_0) k))
  (fun _ => k (.exit 0) [(3, .v t3)] [] Q)) := by kernel_rfl
noncomputable def L_pleachmade_Picks_Path_1 (s : PSpecs) (t0 t3 t4 : AV) (Q : AHeap) : Option PEnd := loopP (penv s) c_pleachmade_Picks_Path_1 [(0, .v t0), (3, .v t3), (4, .v t4)] [] Q
theorem L_pleachmade_Picks_Path_1_fold (s : PSpecs) (t0 t3 t4 : AV) (Q : AHeap) : loopP (penv s) c_pleachmade_Picks_Path_1 [(0, .v t0), (3, .v t3), (4, .v t4)] [] Q = L_pleachmade_Picks_Path_1 s t0 t3 t4 Q := rfl
theorem L_pleachmade_Picks_Path_1_eq (s : PSpecs) (t0 t3 t4 : AV) (Q : AHeap) : L_pleachmade_Picks_Path_1 s t0 t3 t4 Q = evalPK (callP (penv s)) (loopP (penv s)) c_pleachmade_Picks_Path_1 [(0, .v t0), (3, .v t3), (4, .v t4)] [] Q (goX (fun τ ω Q => loopP (penv s) c_pleachmade_Picks_Path_1 τ ω Q) ret4) := loopP_body
abbrev X_pleachmade_Picks_Path_1_x0 (t3 : AV) (Q : AHeap) : Option PEnd := some (.exit 0, [(3, .v t3)], [], Q)
theorem p_pleachmade_Picks_Path_2 {β : Type} (call : CallF) (lp : PLoopF) (t3 : AV) (Q : AHeap) (k : PK β) : evalPK call lp c_pleachmade_Picks_Path_2 [(3, .v t3)] [] Q k = (
  k .ret [(2, .v t3), (24, .v t3), (3, .v t3)] [] Q) := by kernel_rfl
theorem g_pleachmade_Picks_Path {call : CallF} {lp : PLoopF} (v0 : AV) (Q : AHeap) : evalPK call lp c_pleachmade_Picks_Path [(0, .v v0)] [] Q (retPK [.tmp 2] [.f 1]) = (
  bnS (call 13 [v0, .int .i64 4] Q) fun w9_1 Q2 => 
  bnX (lp c_pleachmade_Picks_Path_1 [(0, .v v0), (3, .v (.fz 1 ([.int .i64 1] : List AV))), (4, .v (frz w9_1))] [] Q2) (outX 0 (goC (evalPK call lp c_pleachmade_Picks_Path_2) (retPK [.tmp 2] [.f 1])))) := by kernel_rfl
def f_pleachmade_Picks_Path {s : PSpecs} (hs : s.lookup 21 = none) (v0 : AV) (Q : AHeap) := (callP_fn (E := penv s) (f := 21) (fn := pf_pleachmade_Picks_Path) hs rfl [v0] Q rfl).trans (g_pleachmade_Picks_Path (call := callP (penv s)) (lp := loopP (penv s)) v0 Q)
theorem p_tie_Comes_0 {β : Type} (call : CallF) (lp : PLoopF) (t8 s6_0 s6_1 s6_2 s6_3 s6_4 s6_5 s6_6 s6_7 s6_8 s6_9 s6_10 s6_11 s6_12 : AV) (Q : AHeap) (k : PK β) : evalPK call lp c_tie_Comes_0 [(6, .lp 6 0), (8, .v t8)] [(6, .cells [s6_0, s6_1, s6_2, s6_3, s6_4, s6_5, s6_6, s6_7, s6_8, s6_9, s6_10, s6_11, s6_12])] Q k = (
  bnP (nckQ t8) fun w116_1 => 
  bnP (fadQ 0 w116_1) fun w117_2 => 
  bnC 13 (rowP Q 13 w117_2) fun c118_3 c118_4 c118_5 c118_6 c118_7 c118_8 c118_9 c118_10 c118_11 c118_12 c118_13 c118_14 c118_15 => 
  bnP (nckQ t8) fun w120_16 => 
  bnP (fadQ 13 w120_16) fun w121_17 => 
  bnP (ldQ Q w121_17) fun w122_18 => 
  bnC 13 (stC 13 (.agg [c118_3, c118_4, c118_5, c118_6, c118_7, c118_8, c118_9, c118_10, c118_11, c118_12, c118_13, c118_14, c118_15])) fun s19 s20 s21 s22 s23 s24 s25 s26 s27 s28 s29 s30 s31 => 
  bnS (frzH Q 10 w122_18) fun w7_32 Q33 =>
  k .ret [(7, .v w7_32), (7, .v w122_18), (122, .v w122_18), (121, .v w121_17), (120, .v w120_16), (119, .v t8), (118, .v (.agg [c118_3, c118_4, c118_5, c118_6, c118_7, c118_8, c118_9, c118_10, c118_11, c118_12, c118_13, c118_14, c118_15])), (117, .v w117_2), (116, .v w116_1), (115, .v t8), (6, .lp 6 0), (8, .v t8)] [(6, .cells [s19, s20, s21, s22, s23, s24, s25, s26, s27, s28, s29, s30, s31])] Q33) := by kernel_rfl
theorem p_tie_Comes_1 {β : Type} (call : CallF) (lp : PLoopF) (t2 t8 s4_0 s4_1 s4_2 s4_3 s4_4 s4_5 s4_6 s4_7 s4_8 s4_9 s6_0 s6_1 s6_2 s6_3 s6_4 s6_5 s6_6 s6_7 s6_8 s6_9 s6_10 s6_11 s6_12 : AV) (Q : AHeap) (k : PK β) : evalPK call lp c_tie_Comes_1 [(2, .v t2), (4, .lp 4 0), (6, .lp 6 0), (8, .v t8)] [(4, .cells [s4_0, s4_1, s4_2, s4_3, s4_4, s4_5, s4_6, s4_7, s4_8, s4_9]), (6, .cells [s6_0, s6_1, s6_2, s6_3, s6_4, s6_5, s6_6, s6_7, s6_8, s6_9, s6_10, s6_11, s6_12])] Q k = (
  bnX (bnX (bnP (binA .eql s4_0 (.int .i64 1)) fun w76_1 => 
  cndS w76_1 (fun _ => bnS (call 49 [t8, .agg [s4_0, s4_1, s4_2, s4_3, s4_4, s4_5, s4_6, s4_7, s4_8, s4_9], t2] Q) fun w80_2 Q3 => 
  some (.normal, [(6, .lp 6 0), (8, .v t8)], [(6, .cells [s6_0, s6_1, s6_2, s6_3, s6_4, s6_5, s6_6, s6_7, s6_8, s6_9, s6_10, s6_11, s6_12])], Q3))
  (fun _ => bnP (binA .eql s4_0 (.int .i64 2)) fun w82_4 => 
  cndS w82_4 (fun _ => bnS (call 50 [t8, .agg [s4_0, s4_1, s4_2, s4_3, s4_4, s4_5, s4_6, s4_7, s4_8, s4_9]] Q) fun w85_5 Q6 => 
  some (.normal, [(6, .lp 6 0), (8, .v t8)], [(6, .cells [s6_0, s6_1, s6_2, s6_3, s6_4, s6_5, s6_6, s6_7, s6_8, s6_9, s6_10, s6_11, s6_12])], Q6))
  (fun _ => bnP (binA .eql s4_0 (.int .i64 3)) fun w87_7 => 
  cndS w87_7 (fun _ => bnS (call 51 [t8, .agg [s4_0, s4_1, s4_2, s4_3, s4_4, s4_5, s4_6, s4_7, s4_8, s4_9]] Q) fun w90_8 Q9 => 
  some (.normal, [(6, .lp 6 0), (8, .v t8)], [(6, .cells [s6_0, s6_1, s6_2, s6_3, s6_4, s6_5, s6_6, s6_7, s6_8, s6_9, s6_10, s6_11, s6_12])], Q9))
  (fun _ => bnP (binA .eql s4_0 (.int .i64 4)) fun w92_10 => 
  cndS w92_10 (fun _ => bnS (call 52 [t8, .agg [s4_0, s4_1, s4_2, s4_3, s4_4, s4_5, s4_6, s4_7, s4_8, s4_9]] Q) fun w95_11 Q12 => 
  some (.normal, [(6, .lp 6 0), (8, .v t8)], [(6, .cells [s6_0, s6_1, s6_2, s6_3, s6_4, s6_5, s6_6, s6_7, s6_8, s6_9, s6_10, s6_11, s6_12])], Q12))
  (fun _ => bnP (binA .eql s4_0 (.int .i64 5)) fun w97_13 => 
  cndS w97_13 (fun _ => bnS (call 53 [t8, .agg [s4_0, s4_1, s4_2, s4_3, s4_4, s4_5, s4_6, s4_7, s4_8, s4_9]] Q) fun w100_14 Q15 => 
  some (.normal, [(6, .lp 6 0), (8, .v t8)], [(6, .cells [s6_0, s6_1, s6_2, s6_3, s6_4, s6_5, s6_6, s6_7, s6_8, s6_9, s6_10, s6_11, s6_12])], Q15))
  (fun _ => bnP (binA .eql s4_0 (.int .i64 6)) fun w102_16 => 
  cndS w102_16 (fun _ => bnP (nckQ t8) fun w105_17 => 
  bnP (fadQ 0 w105_17) fun w106_18 => 
  bnP (fadQ 12 w106_18) fun w107_19 => 
  bnP (ldQ Q w107_19) fun w108_20 => 
  bnS (call 54 [w108_20, s4_1] Q) fun w111_21 Q22 => 
  bnP (nckQ t8) fun w112_23 => 
  bnP (fadQ 0 w112_23) fun w113_24 => 
  bnP (fadQ 12 w113_24) fun w114_25 => 
  bnS (stA Q22 1 w114_25 (frz w111_21)) fun _ Q26 => 
  some (.normal, [(6, .lp 6 0), (8, .v t8)], [(6, .cells [s6_0, s6_1, s6_2, s6_3, s6_4, s6_5, s6_6, s6_7, s6_8, s6_9, s6_10, s6_11, s6_12])], Q26))
  (fun _ => some (.normal, [(6, .lp 6 0), (8, .v t8)], [(6, .cells [s6_0, s6_1, s6_2, s6_3, s6_4, s6_5, s6_6, s6_7, s6_8, s6_9, s6_10, s6_11, s6_12])], Q))))))))
  (outX 0 ret4))
  (goC (evalPK call lp c_tie_Comes_0) k)) := by kernel_rfl
theorem g_tie_Comes {call : CallF} {lp : PLoopF} (v0_0 v0_1 v0_2 v0_3 v0_4 v0_5 v0_6 v0_7 v0_8 v0_9 v0_10 v0_11 v0_12 v1_0 v1_1 v1_2 v1_3 v1_4 v1_5 v1_6 v1_7 v1_8 v1_9 v2 : AV) (Q : AHeap) : evalPK call lp c_tie_Comes [(0, .v (.agg [v0_0, v0_1, v0_2, v0_3, v0_4, v0_5, v0_6, v0_7, v0_8, v0_9, v0_10, v0_11, v0_12])), (1, .v (.agg [v1_0, v1_1, v1_2, v1_3, v1_4, v1_5, v1_6, v1_7, v1_8, v1_9])), (2, .v v2)] [] Q (retPK [.cell 6 (some 13), .tmp 7] [.n, .f 10]) = (
  bnC 13 (stC 13 (.agg [v0_0, v0_1, v0_2, v0_3, v0_4, v0_5, v0_6, v0_7, v0_8, v0_9, v0_10, v0_11, v0_12])) fun s1 s2 s3 s4 s5 s6 s7 s8 s9 s10 s11 s12 s13 => 
  bnC 10 (stC 10 (.agg [v1_0, v1_1, v1_2, v1_3, v1_4, v1_5, v1_6, v1_7, v1_8, v1_9])) fun s14 s15 s16 s17 s18 s19 s20 s21 s22 s23 => 
  bnS (call 38 [.agg [s1, s2, s3, s4, s5, s6, s7, s8, s9, s10, s11, s12, s13]] Q) fun w10_24 Q25 => 
  bnP (nckQ (frz w10_24)) fun w12_26 => 
  bnP (fadQ 0 w12_26) fun w13_27 => 
  bnP (fadQ 12 w13_27) fun w14_28 => 
  bnP (ldQ Q25 w14_28) fun w15_29 => 
  bnS (call 48 [w15_29, s15, s17] Q25) fun w20_30 Q31 => 
  bnP (gdQ (frz w20_30) false (some s15)) fun w23_32 => 
  bnP (gdQ (frz w20_30) false (some (frz w10_24))) fun w24_33 => 
  bnP (gdQ (frz w20_30) false (nckQ w24_33)) fun w25_34 => 
  bnP (gdQ (frz w20_30) false (fadQ 0 w25_34)) fun w26_35 => 
  bnP (gdQ (frz w20_30) false (fadQ 3 w26_35)) fun w27_36 => 
  bnP (gdQ (frz w20_30) false (ldQ Q31 w27_36)) fun w28_37 => 
  bnP (gdQ (frz w20_30) false (binA .eql w23_32 w28_37)) fun w29_38 => 
  bnP (gdQ (frz w20_30) false (some w29_38)) fun w30_39 => 
  bnP (gdQ w30_39 true (some s17)) fun w32_40 => 
  bnP (gdQ w30_39 true (some (frz w10_24))) fun w33_41 => 
  bnP (gdQ w30_39 true (nckQ w33_41)) fun w34_42 => 
  bnP (gdQ w30_39 true (fadQ 0 w34_42)) fun w35_43 => 
  bnP (gdQ w30_39 true (fadQ 4 w35_43)) fun w36_44 => 
  bnP (gdQ w30_39 true (ldQ Q31 w36_44)) fun w37_45 => 
  bnP (gdQ w30_39 true (binA .lss w32_40 w37_45)) fun w38_46 => 
  bnP (gdQ (frz w20_30) false (pickA w30_39 w38_46 (.bool false))) fun w39_47 => 
  bnP (pickA (frz w20_30) (.bool true) w39_47) fun w40_48 => 
  cndS w40_48 (fun _ => bnP (nckQ (frz w10_24)) fun w42_49 => 
  bnP (fadQ 0 w42_49) fun w43_50 => 
  bnC 13 (rowP Q31 13 w43_50) fun c44_51 c44_52 c44_53 c44_54 c44_55 c44_56 c44_57 c44_58 c44_59 c44_60 c44_61 c44_62 c44_63 => 
  bnC 13 (stC 13 (.agg [c44_51, c44_52, c44_53, c44_54, c44_55, c44_56, c44_57, c44_58, c44_59, c44_60, c44_61, c44_62, c44_63])) fun s64 s65 s66 s67 s68 s69 s70 s71 s72 s73 s74 s75 s76 => 
  some (.tup [.agg [s64, s65, s66, s67, s68, s69, s70, s71, s72, s73, s74, s75, s76], .fz 10 []], Q31))
  (fun _ => bnX (bnP (nckQ (frz w10_24)) fun w46_77 => 
  bnP (fadQ 0 w46_77) fun w47_78 => 
  bnP (fadQ 3 w47_78) fun w48_79 => 
  bnP (ldQ Q31 w48_79) fun w49_80 => 
  bnP (binA .neq w49_80 (.int .i64 0)) fun w50_81 => 
  bnP (gdQ w50_81 true (some s15)) fun w53_82 => 
  bnP (gdQ w50_81 true (some (frz w10_24))) fun w54_83 => 
  bnP (gdQ w50_81 true (nckQ w54_83)) fun w55_84 => 
  bnP (gdQ w50_81 true (fadQ 0 w55_84)) fun w56_85 => 
  bnP (gdQ w50_81 true (fadQ 3 w56_85)) fun w57_86 => 
  bnP (gdQ w50_81 true (ldQ Q31 w57_86)) fun w58_87 => 
  bnP (gdQ w50_81 true (binA .eql w53_82 w58_87)) fun w59_88 => 
  bnP (pickA w50_81 w59_88 (.bool false)) fun w60_89 => 
  bnP (gdQ w60_89 true (some s17)) fun w63_90 => 
  bnP (gdQ w60_89 true (some (frz w10_24))) fun w64_91 => 
  bnP (gdQ w60_89 true (nckQ w64_91)) fun w65_92 => 
  bnP (gdQ w60_89 true (fadQ 0 w65_92)) fun w66_93 => 
  bnP (gdQ w60_89 true (fadQ 4 w66_93)) fun w67_94 => 
  bnP (gdQ w60_89 true (ldQ Q31 w67_94)) fun w68_95 => 
  bnP (gdQ w60_89 true (binA .gtr w63_90 w68_95)) fun w69_96 => 
  bnP (pickA w60_89 w69_96 (.bool false)) fun w70_97 => 
  cndS w70_97 (fun _ => bnS (call 40 [(frz w10_24), .int .i64 0] Q31) fun w72_98 Q99 => 
  some (.normal, [(2, .v v2), (4, .lp 4 0), (6, .lp 6 0), (8, .v (frz w10_24))], [(4, .cells [s14, s15, s16, s17, s18, s19, s20, s21, s22, s23]), (6, .cells [.int .i64 0, .int .i64 0, .int .i64 0, .int .i64 0, .int .i64 0, .int .i64 0, .nils, .int .i64 0, .int .i64 0, .int .i64 0, .int .i64 0, .int .i64 0, .nils])], Q99))
  (fun _ => some (.normal, [(2, .v v2), (4, .lp 4 0), (6, .lp 6 0), (8, .v (frz w10_24))], [(4, .cells [s14, s15, s16, s17, s18, s19, s20, s21, s22, s23]), (6, .cells [.int .i64 0, .int .i64 0, .int .i64 0, .int .i64 0, .int .i64 0, .int .i64 0, .nils, .int .i64 0, .int .i64 0, .int .i64 0, .int .i64 0, .int .i64 0, .nils])], Q31)))
  (goC (evalPK call lp c_tie_Comes_1) (retPK [.cell 6 (some 13), .tmp 7] [.n, .f 10])))) := by kernel_rfl
def f_tie_Comes {s : PSpecs} (hs : s.lookup 22 = none) (v0_0 v0_1 v0_2 v0_3 v0_4 v0_5 v0_6 v0_7 v0_8 v0_9 v0_10 v0_11 v0_12 v1_0 v1_1 v1_2 v1_3 v1_4 v1_5 v1_6 v1_7 v1_8 v1_9 v2 : AV) (Q : AHeap) := (callP_fn (E := penv s) (f := 22) (fn := pf_tie_Comes) hs rfl [.agg [v0_0, v0_1, v0_2, v0_3, v0_4, v0_5, v0_6, v0_7, v0_8, v0_9, v0_10, v0_11, v0_12], .agg [v1_0, v1_1, v1_2, v1_3, v1_4, v1_5, v1_6, v1_7, v1_8, v1_9], v2] Q rfl).trans (g_tie_Comes (call := callP (penv s)) (lp := loopP (penv s)) v0_0 v0_1 v0_2 v0_3 v0_4 v0_5 v0_6 v0_7 v0_8 v0_9 v0_10 v0_11 v0_12 v1_0 v1_1 v1_2 v1_3 v1_4 v1_5 v1_6 v1_7 v1_8 v1_9 v2 Q)
theorem g_tie_Fresh {call : CallF} {lp : PLoopF} (v0_0 v0_1 v0_2 v0_3 v0_4 v0_5 v0_6 v0_7 v0_8 v0_9 v0_10 v0_11 v0_12 : AV) (Q : AHeap) : evalPK call lp c_tie_Fresh [(0, .v (.agg [v0_0, v0_1, v0_2, v0_3, v0_4, v0_5, v0_6, v0_7, v0_8, v0_9, v0_10, v0_11, v0_12]))] [] Q (retPK [.tmp 2] [.n]) = (
  bnC 13 (stC 13 (.agg [v0_0, v0_1, v0_2, v0_3, v0_4, v0_5, v0_6, v0_7, v0_8, v0_9, v0_10, v0_11, v0_12])) fun s1 s2 s3 s4 s5 s6 s7 s8 s9 s10 s11 s12 s13 => 
  bnP (binA .eql s1 (.int .i64 1)) fun w5_14 => 
  bnP (gdQ w5_14 false (some s4)) fun w8_15 => 
  bnP (gdQ w5_14 false (binA .neq w8_15 (.int .i64 0))) fun w9_16 => 
  bnP (gdQ w5_14 false (some w9_16)) fun w10_17 => 
  bnP (gdQ w10_17 true (some s3)) fun w12_18 => 
  bnP (gdQ w10_17 true (some s9)) fun w14_19 => 
  bnP (gdQ w10_17 true (binA .sub w12_18 w14_19)) fun w15_20 => 
  bnP (gdQ w10_17 true (binA .leq w15_20 (.int .i64 20))) fun w16_21 => 
  bnP (gdQ w5_14 false (pickA w10_17 w16_21 (.bool false))) fun w17_22 => 
  bnP (pickA w5_14 (.bool true) w17_22) fun w18_23 => 
  bnP (rcv false .n w18_23) fun r24 => some (r24, Q)) := by kernel_rfl
def f_tie_Fresh {s : PSpecs} (hs : s.lookup 25 = none) (v0_0 v0_1 v0_2 v0_3 v0_4 v0_5 v0_6 v0_7 v0_8 v0_9 v0_10 v0_11 v0_12 : AV) (Q : AHeap) := (callP_fn (E := penv s) (f := 25) (fn := pf_tie_Fresh) hs rfl [.agg [v0_0, v0_1, v0_2, v0_3, v0_4, v0_5, v0_6, v0_7, v0_8, v0_9, v0_10, v0_11, v0_12]] Q rfl).trans (g_tie_Fresh (call := callP (penv s)) (lp := loopP (penv s)) v0_0 v0_1 v0_2 v0_3 v0_4 v0_5 v0_6 v0_7 v0_8 v0_9 v0_10 v0_11 v0_12 Q)
theorem p_pleachref1_MayPath_0 {β : Type} (call : CallF) (lp : PLoopF) (t0 t3 : AV) (Q : AHeap) (k : PK β) : evalPK call lp c_pleachref1_MayPath_0 [(0, .v t0), (3, .v t3)] [] Q k = (
  bnP (lenQ t0) fun w20_1 => 
  bnP (binA .lss t3 w20_1) fun w21_2 => 
  cndS w21_2 (fun _ => bnP (elQ 1 t0 t3) fun e3 => 
  bnP ((AV.cells e3)[0]?) fun w27_4 => 
  bnP (binA .lss w27_4 (.int .i64 1)) fun w28_5 => 
  bnP (gdQ w28_5 false (some t0)) fun w30_6 => 
  bnP (gdQ w28_5 false (some t3)) fun w31_7 => 
  bnP (gdQ w28_5 false (elQ 1 w30_6 w31_7)) fun e8 => 
  bnP (gdQ w28_5 false ((AV.cells e8)[0]?)) fun w33_9 => 
  bnP (gdQ w28_5 false (binA .gtr w33_9 (.int .i64 8))) fun w34_10 => 
  bnP (pickA w28_5 (.bool true) w34_10) fun w35_11 => 
  bnP (gdQ w35_11 false (some t0)) fun w37_12 => 
  bnP (gdQ w35_11 false (some t3)) fun w38_13 => 
  bnP (gdQ w35_11 false (slcQ 1 w37_12 none (some w38_13))) fun w39_14 => 
  bnP (gdQ w35_11 false (some t0)) fun w40_15 => 
  bnP (gdQ w35_11 false (some t3)) fun w41_16 => 
  bnP (gdQ w35_11 false (elQ 1 w40_15 w41_16)) fun e17 => 
  bnP (gdQ w35_11 false ((AV.cells e17)[0]?)) fun w43_18 => 
  bnS (gdH w35_11 false (call 32 [w39_14, w43_18] Q) Q) fun w44_19 Q20 => 
  bnP (pickA w35_11 (.bool true) (frz w44_19)) fun w45_21 => 
  cndS w45_21 (fun _ => k .ret [(2, .v (.bool false))] [] Q20)
  (fun _ => bnP (binA .add t3 (.int .i64 1)) fun w23_22 => 
  k .normal [(0, .v t0), (3, .v w23_22)] [] Q20))
  (fun _ => k (.exit 0) [] [] Q)) := by kernel_rfl
noncomputable def L_pleachref1_MayPath_0 (s : PSpecs) (t0 t3 : AV) (Q : AHeap) : Option PEnd := loopP (penv s) c_pleachref1_MayPath_0 [(0, .v t0), (3, .v t3)] [] Q
theorem L_pleachref1_MayPath_0_fold (s : PSpecs) (t0 t3 : AV) (Q : AHeap) : loopP (penv s) c_pleachref1_MayPath_0 [(0, .v t0), (3, .v t3)] [] Q = L_pleachref1_MayPath_0 s t0 t3 Q := rfl
theorem L_pleachref1_MayPath_0_eq (s : PSpecs) (t0 t3 : AV) (Q : AHeap) : L_pleachref1_MayPath_0 s t0 t3 Q = evalPK (callP (penv s)) (loopP (penv s)) c_pleachref1_MayPath_0 [(0, .v t0), (3, .v t3)] [] Q (goX (fun τ ω Q => loopP (penv s) c_pleachref1_MayPath_0 τ ω Q) ret4) := loopP_body
abbrev X_pleachref1_MayPath_0_x0 (Q : AHeap) : Option PEnd := some (.exit 0, [], [], Q)
abbrev X_pleachref1_MayPath_0_ret (t2 : AV) (Q : AHeap) : Option PEnd := some (.ret, [(2, .v t2)], [], Q)
theorem p_pleachref1_MayPath_1 {β : Type} (call : CallF) (lp : PLoopF) (Q : AHeap) (k : PK β) : evalPK call lp c_pleachref1_MayPath_1 [] [] Q k = (
  k .ret [(2, .v (.bool true))] [] Q) := by kernel_rfl
theorem g_pleachref1_MayPath {call : CallF} {lp : PLoopF} (v0 : AV) (Q : AHeap) : evalPK call lp c_pleachref1_MayPath [(0, .v v0)] [] Q (retPK [.tmp 2] [.n]) = (
  bnP (lenQ v0) fun w5_1 => 
  bnP (binA .lss w5_1 (.int .i64 1)) fun w6_2 => 
  bnP (gdQ w6_2 false (some v0)) fun w8_3 => 
  bnP (gdQ w6_2 false (lenQ w8_3)) fun w9_4 => 
  bnP (gdQ w6_2 false (binA .gtr w9_4 (.int .i64 10))) fun w10_5 => 
  bnP (pickA w6_2 (.bool true) w10_5) fun w11_6 => 
  bnP (gdQ w11_6 false (some v0)) fun w13_7 => 
  bnP (gdQ w11_6 false (elQ 1 w13_7 (.int .i64 0))) fun e8 => 
  bnP (gdQ w11_6 false ((AV.cells e8)[0]?)) fun w15_9 => 
  bnP (gdQ w11_6 false (binA .neq w15_9 (.int .i64 1))) fun w16_10 => 
  bnP (pickA w11_6 (.bool true) w16_10) fun w17_11 => 
  cndS w17_11 (fun _ => some (.bool false, Q))
  (fun _ => bnX (lp c_pleachref1_MayPath_0 [(0, .v v0), (3, .v (.int .i64 0))] [] Q) (outX 0 (goC (evalPK call lp c_pleachref1_MayPath_1) (retPK [.tmp 2] [.n]))))) := by kernel_rfl
def f_pleachref1_MayPath {s : PSpecs} (hs : s.lookup 29 = none) (v0 : AV) (Q : AHeap) := (callP_fn (E := penv s) (f := 29) (fn := pf_pleachref1_MayPath) hs rfl [v0] Q rfl).trans (g_pleachref1_MayPath (call := callP (penv s)) (lp := loopP (penv s)) v0 Q)
theorem p_pleachref1_Has_0 {β : Type} (call : CallF) (lp : PLoopF) (t0 t1 t5 : AV) (Q : AHeap) (k : PK β) : evalPK call lp c_pleachref1_Has_0 [(0, .v t0), (1, .v t1), (5, .v t5)] [] Q k = (
  bnP (lenQ t0) fun w8_1 => 
  bnP (binA .lss t5 w8_1) fun w9_2 => 
  cndS w9_2 (fun _ => bnP (elQ 1 t0 t5) fun e3 => 
  bnP ((AV.cells e3)[0]?) fun w15_4 => 
  bnP (binA .eql w15_4 t1) fun w17_5 => 
  cndS w17_5 (fun _ => k .ret [(4, .v (.bool true))] [] Q)
  (fun _ => bnP (binA .add t5 (.int .i64 1)) fun w11_6 => 
  k .normal [(0, .v t0), (1, .v t1), (5, .v w11_6)] [] Q))
  (fun _ => k (.exit 0) [] [] Q)) := by kernel_rfl
noncomputable def L_pleachref1_Has_0 (s : PSpecs) (t0 t1 t5 : AV) (Q : AHeap) : Option PEnd := loopP (penv s) c_pleachref1_Has_0 [(0, .v t0), (1, .v t1), (5, .v t5)] [] Q
theorem L_pleachref1_Has_0_fold (s : PSpecs) (t0 t1 t5 : AV) (Q : AHeap) : loopP (penv s) c_pleachref1_Has_0 [(0, .v t0), (1, .v t1), (5, .v t5)] [] Q = L_pleachref1_Has_0 s t0 t1 t5 Q := rfl
theorem L_pleachref1_Has_0_eq (s : PSpecs) (t0 t1 t5 : AV) (Q : AHeap) : L_pleachref1_Has_0 s t0 t1 t5 Q = evalPK (callP (penv s)) (loopP (penv s)) c_pleachref1_Has_0 [(0, .v t0), (1, .v t1), (5, .v t5)] [] Q (goX (fun τ ω Q => loopP (penv s) c_pleachref1_Has_0 τ ω Q) ret4) := loopP_body
abbrev X_pleachref1_Has_0_x0 (Q : AHeap) : Option PEnd := some (.exit 0, [], [], Q)
abbrev X_pleachref1_Has_0_ret (t4 : AV) (Q : AHeap) : Option PEnd := some (.ret, [(4, .v t4)], [], Q)
theorem p_pleachref1_Has_1 {β : Type} (call : CallF) (lp : PLoopF) (Q : AHeap) (k : PK β) : evalPK call lp c_pleachref1_Has_1 [] [] Q k = (
  k .ret [(4, .v (.bool false))] [] Q) := by kernel_rfl
theorem g_pleachref1_Has {call : CallF} {lp : PLoopF} (v0 v1 : AV) (Q : AHeap) : evalPK call lp c_pleachref1_Has [(0, .v v0), (1, .v v1)] [] Q (retPK [.tmp 4] [.n]) = (
  bnX (lp c_pleachref1_Has_0 [(0, .v v0), (1, .v v1), (5, .v (.int .i64 0))] [] Q) (outX 0 (goC (evalPK call lp c_pleachref1_Has_1) (retPK [.tmp 4] [.n])))) := by kernel_rfl
def f_pleachref1_Has {s : PSpecs} (hs : s.lookup 32 = none) (v0 v1 : AV) (Q : AHeap) := (callP_fn (E := penv s) (f := 32) (fn := pf_pleachref1_Has) hs rfl [v0, v1] Q rfl).trans (g_pleachref1_Has (call := callP (penv s)) (lp := loopP (penv s)) v0 v1 Q)
theorem g_pleachref1_AddPath {call : CallF} {lp : PLoopF} (v0 v1 : AV) (Q : AHeap) : evalPK call lp c_pleachref1_AddPath [(0, .v v0), (1, .v v1)] [] Q (retPK [.tmp 4, .tmp 5] [.f 1, .n]) = (
  bnL (srcT [] 1 (.v v0)) fun l1 => 
  pinB (room 8 ((([] : List AV) : List AV).length + (l1 : List AV).length)) <| 
  pinB (elOk 1 v1) <| 
  pinB (room 8 (((([] : List AV) ++ l1) : List AV).length + (([v1] : List AV) : List AV).length)) <| 
  bnS (call 29 [.fz 1 ((([] : List AV) ++ l1) ++ ([v1] : List AV))] ⟨Q.size, .leaf⟩) fun w14_2 _ => pinB (flatR w14_2) <| 
  bnP (unA .not w14_2) fun w15_4 => 
  cndS w15_4 (fun _ => some (.tup [.fz 1 [], .bool false], Q))
  (fun _ => some (.tup [.fz 1 ((([] : List AV) ++ l1) ++ ([v1] : List AV)), .bool true], Q))) := by kernel_rfl
def f_pleachref1_AddPath {s : PSpecs} (hs : s.lookup 35 = none) (v0 v1 : AV) (Q : AHeap) := (callP_fn (E := penv s) (f := 35) (fn := pf_pleachref1_AddPath) hs rfl [v0, v1] Q rfl).trans (g_pleachref1_AddPath (call := callP (penv s)) (lp := loopP (penv s)) v0 v1 Q)
theorem g_tie_of {call : CallF} {lp : PLoopF} (v0_0 v0_1 v0_2 v0_3 v0_4 v0_5 v0_6 v0_7 v0_8 v0_9 v0_10 v0_11 v0_12 : AV) (Q : AHeap) : evalPK call lp c_tie_of [(0, .v (.agg [v0_0, v0_1, v0_2, v0_3, v0_4, v0_5, v0_6, v0_7, v0_8, v0_9, v0_10, v0_11, v0_12]))] [] Q (retPK [.tmp 2] [.n]) = (
  bnC 13 (stC 13 (.agg [v0_0, v0_1, v0_2, v0_3, v0_4, v0_5, v0_6, v0_7, v0_8, v0_9, v0_10, v0_11, v0_12])) fun s1 s2 s3 s4 s5 s6 s7 s8 s9 s10 s11 s12 s13 => 
  bnS (call 64 [s7] Q) fun w5_14 Q15 => 
  bnS (call 65 [s13] Q15) fun w8_16 Q17 => 
  bnC 1 (stC 1 (frz w5_14)) fun s18 => 
  bnC 1 (stC 1 (frz w8_16)) fun s19 => 
  bnS (newcA Q17 (AV.cells (.agg [s1, s2, s3, s4, s5, s6, s18, s8, s9, s10, s11, s12, s19, .nils]))) fun w13_21 Q20 => 
  bnP (rcv false .n w13_21) fun r22 => some (r22, Q20)) := by kernel_rfl
def f_tie_of {s : PSpecs} (hs : s.lookup 38 = none) (v0_0 v0_1 v0_2 v0_3 v0_4 v0_5 v0_6 v0_7 v0_8 v0_9 v0_10 v0_11 v0_12 : AV) (Q : AHeap) := (callP_fn (E := penv s) (f := 38) (fn := pf_tie_of) hs rfl [.agg [v0_0, v0_1, v0_2, v0_3, v0_4, v0_5, v0_6, v0_7, v0_8, v0_9, v0_10, v0_11, v0_12]] Q rfl).trans (g_tie_of (call := callP (penv s)) (lp := loopP (penv s)) v0_0 v0_1 v0_2 v0_3 v0_4 v0_5 v0_6 v0_7 v0_8 v0_9 v0_10 v0_11 v0_12 Q)
theorem g_kids_Prune {call : CallF} {lp : PLoopF} (v0 v1 : AV) (Q : AHeap) : evalPK call lp c_kids_Prune [(0, .v v0), (1, .v v1)] [] Q (retPK [.tmp 4] [.f 3]) = (
  bnC 1 (stC 1 v1) fun s1 => 
  bnS (call 65 [v0] Q) fun w6_2 Q3 => bnL (owZ 3 w6_2) fun l4 => 
  bnS (call 1000066 [.ow 3 l4, .fn 67 [] [.cp [s1] 0]] Q3) fun w8_5 Q6 => 
  bnP (rcv false (.f 3) (frz w8_5)) fun r7 => some (r7, Q6)) := by kernel_rfl
def f_kids_Prune {s : PSpecs} (hs : s.lookup 39 = none) (v0 v1 : AV) (Q : AHeap) := (callP_fn (E := penv s) (f := 39) (fn := pf_kids_Prune) hs rfl [v0, v1] Q rfl).trans (g_kids_Prune (call := callP (penv s)) (lp := loopP (penv s)) v0 v1 Q)
theorem g_tie_node_lets {call : CallF} {lp : PLoopF} (v0 v1 : AV) (Q : AHeap) : evalPK call lp c_tie_node_lets [(0, .v v0), (1, .v v1)] [] Q (retPK [] []) = (
  bnP (nckQ v0) fun w10_1 => 
  bnP (fadQ 0 w10_1) fun w11_2 => 
  bnP (fadQ 3 w11_2) fun w12_3 => 
  bnS (stA Q 1 w12_3 (.int .i64 0)) fun _ Q4 => 
  bnP (nckQ v0) fun w13_5 => 
  bnP (fadQ 0 w13_5) fun w14_6 => 
  bnP (fadQ 4 w14_6) fun w15_7 => 
  bnS (stA Q4 1 w15_7 (.int .i64 0)) fun _ Q8 => 
  bnP (nckQ v0) fun w16_9 => 
  bnP (fadQ 0 w16_9) fun w17_10 => 
  bnP (fadQ 6 w17_10) fun w18_11 => 
  bnS (stA Q8 1 w18_11 .nils) fun _ Q12 => 
  bnP (nckQ v0) fun w19_13 => 
  bnP (fadQ 0 w19_13) fun w20_14 => 
  bnP (fadQ 9 w20_14) fun w21_15 => 
  bnS (stA Q12 1 w21_15 (.int .i64 0)) fun _ Q16 => 
  bnP (nckQ v0) fun w22_17 => 
  bnP (fadQ 0 w22_17) fun w23_18 => 
  bnP (fadQ 11 w23_18) fun w24_19 => 
  bnS (stA Q16 1 w24_19 v1) fun _ Q20 => 
  some (.tup [], Q20)) := by kernel_rfl
def f_tie_node_lets {s : PSpecs} (hs : s.lookup 40 = none) (v0 v1 : AV) (Q : AHeap) := (callP_fn (E := penv s) (f := 40) (fn := pf_tie_node_lets) hs rfl [v0, v1] Q rfl).trans (g_tie_node_lets (call := callP (penv s)) (lp := loopP (penv s)) v0 v1 Q)
theorem p_tie_node_asks_0 {β : Type} (call : CallF) (lp : PLoopF) (t0 : AV) (Q : AHeap) (k : PK β) : evalPK call lp c_tie_node_asks_0 [(0, .v t0)] [] Q k = (
  bnP (nckQ t0) fun w96_1 => 
  bnP (fadQ 0 w96_1) fun w97_2 => 
  bnP (fadQ 2 w97_2) fun w98_3 => 
  bnP (ldQ Q w98_3) fun w99_4 => 
  bnP (binA .add w99_4 (.int .i64 3)) fun w100_5 => 
  bnP (nckQ t0) fun w101_6 => 
  bnP (fadQ 0 w101_6) fun w102_7 => 
  bnP (fadQ 10 w102_7) fun w103_8 => 
  bnS (stA Q 1 w103_8 w100_5) fun _ Q9 => 
  bnP (nckQ t0) fun w106_10 => 
  bnP (fadQ 0 w106_10) fun w107_11 => 
  bnP (fadQ 9 w107_11) fun w108_12 => 
  bnP (ldQ Q9 w108_12) fun w109_13 => 
  bnS (call 61 [t0, .int .i64 1, w109_13, .int .i64 0] Q9) fun w110_14 Q15 => 
  k .normal [(110, .v (frz w110_14)), (109, .v w109_13), (108, .v w108_12), (107, .v w107_11), (106, .v w106_10), (105, .v t0), (104, .v t0), (103, .v w103_8), (102, .v w102_7), (101, .v w101_6), (100, .v w100_5), (99, .v w99_4), (98, .v w98_3), (97, .v w97_2), (96, .v w96_1), (95, .v t0), (94, .v t0), (0, .v t0)] [] Q15) := by kernel_rfl
theorem p_tie_node_asks_1 {β : Type} (call : CallF) (lp : PLoopF) (t0 : AV) (Q : AHeap) (k : PK β) : evalPK call lp c_tie_node_asks_1 [(0, .v t0)] [] Q k = (
  bnP (nckQ t0) fun w49_1 => 
  bnP (fadQ 0 w49_1) fun w50_2 => 
  bnP (fadQ 9 w50_2) fun w51_3 => 
  bnP (ldQ Q w51_3) fun w52_4 => 
  bnP (binA .neq w52_4 (.int .i64 0)) fun w53_5 => 
  cndS w53_5 (fun _ => k .ret [(53, .v w53_5), (52, .v w52_4), (51, .v w51_3), (50, .v w50_2), (49, .v w49_1), (48, .v t0), (0, .v t0)] [] Q)
  (fun _ => bnP (nckQ t0) fun w55_6 => 
  bnP (fadQ 0 w55_6) fun w56_7 => 
  bnP (fadQ 9 w56_7) fun w57_8 => 
  bnS (stA Q 1 w57_8 (.int .i64 1)) fun _ Q9 => 
  bnX (bnP (nckQ t0) fun w59_10 => 
  bnP (fadQ 0 w59_10) fun w60_11 => 
  bnP (fadQ 11 w60_11) fun w61_12 => 
  bnP (ldQ Q9 w61_12) fun w62_13 => 
  bnP (binA .eql w62_13 (.int .i64 0)) fun w63_14 => 
  bnP (gdQ w63_14 true (some t0)) fun w65_15 => 
  bnP (gdQ w63_14 true (nckQ w65_15)) fun w66_16 => 
  bnP (gdQ w63_14 true (fadQ 0 w66_16)) fun w67_17 => 
  bnP (gdQ w63_14 true (fadQ 5 w67_17)) fun w68_18 => 
  bnP (gdQ w63_14 true (ldQ Q9 w68_18)) fun w69_19 => 
  bnP (gdQ w63_14 true (binA .neq w69_19 (.int .i64 0))) fun w70_20 => 
  bnP (pickA w63_14 w70_20 (.bool false)) fun w71_21 => 
  bnP (gdQ w71_21 true (some t0)) fun w73_22 => 
  bnP (gdQ w71_21 true (nckQ w73_22)) fun w74_23 => 
  bnP (gdQ w71_21 true (fadQ 0 w74_23)) fun w75_24 => 
  bnP (gdQ w71_21 true (fadQ 5 w75_24)) fun w76_25 => 
  bnP (gdQ w71_21 true (ldQ Q9 w76_25)) fun w77_26 => 
  bnP (gdQ w71_21 true (some t0)) fun w78_27 => 
  bnP (gdQ w71_21 true (nckQ w78_27)) fun w79_28 => 
  bnP (gdQ w71_21 true (fadQ 0 w79_28)) fun w80_29 => 
  bnP (gdQ w71_21 true (fadQ 0 w80_29)) fun w81_30 => 
  bnP (gdQ w71_21 true (ldQ Q9 w81_30)) fun w82_31 => 
  bnP (gdQ w71_21 true (binA .neq w77_26 w82_31)) fun w83_32 => 
  bnP (pickA w71_21 w83_32 (.bool false)) fun w84_33 => 
  cndS w84_33 (fun _ => bnP (nckQ t0) fun w87_34 => 
  bnP (fadQ 0 w87_34) fun w88_35 => 
  bnP (fadQ 5 w88_35) fun w89_36 => 
  bnP (ldQ Q9 w89_36) fun w90_37 => 
  bnP (nckQ t0) fun w91_38 => 
  bnP (fadQ 0 w91_38) fun w92_39 => 
  bnP (fadQ 9 w92_39) fun w93_40 => 
  bnS (stA Q9 1 w93_40 w90_37) fun _ Q41 => 
  some (.normal, [(0, .v t0)], [], Q41))
  (fun _ => some (.normal, [(0, .v t0)], [], Q9)))
  (goC (evalPK call lp c_tie_node_asks_0) k))) := by kernel_rfl
theorem g_tie_node_asks {call : CallF} {lp : PLoopF} (v0 : AV) (Q : AHeap) : evalPK call lp c_tie_node_asks [(0, .v v0)] [] Q (retPK [] []) = (
  bnP (nckQ v0) fun w3_1 => 
  bnP (fadQ 0 w3_1) fun w4_2 => 
  bnP (fadQ 0 w4_2) fun w5_3 => 
  bnP (ldQ Q w5_3) fun w6_4 => 
  bnP (binA .eql w6_4 (.int .i64 1)) fun w7_5 => 
  bnP (gdQ w7_5 false (some v0)) fun w9_6 => 
  bnP (gdQ w7_5 false (nckQ w9_6)) fun w10_7 => 
  bnP (gdQ w7_5 false (fadQ 0 w10_7)) fun w11_8 => 
  bnP (gdQ w7_5 false (fadQ 3 w11_8)) fun w12_9 => 
  bnP (gdQ w7_5 false (ldQ Q w12_9)) fun w13_10 => 
  bnP (gdQ w7_5 false (binA .neq w13_10 (.int .i64 0))) fun w14_11 => 
  bnP (pickA w7_5 (.bool true) w14_11) fun w15_12 => 
  cndS w15_12 (fun _ => some (.tup [], Q))
  (fun _ => bnX (bnP (nckQ v0) fun w17_13 => 
  bnP (fadQ 0 w17_13) fun w18_14 => 
  bnP (fadQ 9 w18_14) fun w19_15 => 
  bnP (ldQ Q w19_15) fun w20_16 => 
  bnP (binA .neq w20_16 (.int .i64 0)) fun w21_17 => 
  bnP (gdQ w21_17 true (some v0)) fun w23_18 => 
  bnP (gdQ w21_17 true (nckQ w23_18)) fun w24_19 => 
  bnP (gdQ w21_17 true (fadQ 0 w24_19)) fun w25_20 => 
  bnP (gdQ w21_17 true (fadQ 2 w25_20)) fun w26_21 => 
  bnP (gdQ w21_17 true (ldQ Q w26_21)) fun w27_22 => 
  bnP (gdQ w21_17 true (some v0)) fun w28_23 => 
  bnP (gdQ w21_17 true (nckQ w28_23)) fun w29_24 => 
  bnP (gdQ w21_17 true (fadQ 0 w29_24)) fun w30_25 => 
  bnP (gdQ w21_17 true (fadQ 10 w30_25)) fun w31_26 => 
  bnP (gdQ w21_17 true (ldQ Q w31_26)) fun w32_27 => 
  bnP (gdQ w21_17 true (binA .geq w27_22 w32_27)) fun w33_28 => 
  bnP (pickA w21_17 w33_28 (.bool false)) fun w34_29 => 
  cndS w34_29 (fun _ => bnP (nckQ v0) fun w36_30 => 
  bnP (fadQ 0 w36_30) fun w37_31 => 
  bnP (fadQ 9 w37_31) fun w38_32 => 
  bnS (stA Q 1 w38_32 (.int .i64 0)) fun _ Q33 => 
  bnP (nckQ v0) fun w40_34 => 
  bnP (fadQ 0 w40_34) fun w41_35 => 
  bnP (fadQ 11 w41_35) fun w42_36 => 
  bnP (ldQ Q33 w42_36) fun w43_37 => 
  bnP (binA .add w43_37 (.int .i64 1)) fun w44_38 => 
  bnP (nckQ v0) fun w45_39 => 
  bnP (fadQ 0 w45_39) fun w46_40 => 
  bnP (fadQ 11 w46_40) fun w47_41 => 
  bnS (stA Q33 1 w47_41 w44_38) fun _ Q42 => 
  some (.normal, [(0, .v v0)], [], Q42))
  (fun _ => some (.normal, [(0, .v v0)], [], Q)))
  (goC (evalPK call lp c_tie_node_asks_1) (retPK [] [])))) := by kernel_rfl
def f_tie_node_asks {s : PSpecs} (hs : s.lookup 41 = none) (v0 : AV) (Q : AHeap) := (callP_fn (E := penv s) (f := 41) (fn := pf_tie_node_asks) hs rfl [v0] Q rfl).trans (g_tie_node_asks (call := callP (penv s)) (lp := loopP (penv s)) v0 Q)
theorem p_tie_node_beats_0 {β : Type} (call : CallF) (lp : PLoopF) (t0 t28 t29 t30 : AV) (Q : AHeap) (k : PK β) : evalPK call lp c_tie_node_beats_0 [(0, .v t0), (28, .v t28), (29, .v t29), (30, .v t30)] [] Q k = (
  bnP (binA .add t30 (.int .i64 1)) fun w43_1 => 
  k .normal [(0, .v t0), (28, .v t28), (29, .v t29), (30, .v w43_1)] [] Q) := by kernel_rfl
theorem p_tie_node_beats_1 {β : Type} (call : CallF) (lp : PLoopF) (t0 t28 t29 t30 : AV) (Q : AHeap) (k : PK β) : evalPK call lp c_tie_node_beats_1 [(0, .v t0), (28, .v t28), (29, .v t29), (30, .v t30)] [] Q k = (
  bnP (binA .lss t30 t29) fun w31_1 => 
  cndS w31_1 (fun _ => bnX (bnX (bnP (elQ 3 t28 t30) fun e2 => 
  bnC 3 (cut (AV.cells e2) 0 3) fun c33_3 c33_4 c33_5 => 
  bnC 3 (stC 3 (.agg [c33_3, c33_4, c33_5])) fun s6 s7 s8 => 
  bnP (nckQ t0) fun w35_9 => 
  bnP (fadQ 0 w35_9) fun w36_10 => 
  bnC 13 (rowP Q 13 w36_10) fun c37_11 c37_12 c37_13 c37_14 c37_15 c37_16 c37_17 c37_18 c37_19 c37_20 c37_21 c37_22 c37_23 => 
  bnS (call 25 [.agg [c37_11, c37_12, c37_13, c37_14, c37_15, c37_16, c37_17, c37_18, c37_19, c37_20, c37_21, c37_22, c37_23]] Q) fun w38_24 Q25 => 
  cndS (frz w38_24) (fun _ => bnS (call 61 [t0, .int .i64 5, s6, .int .i64 0] Q25) fun w42_26 Q27 => 
  some (.normal, [(0, .v t0), (28, .v t28), (29, .v t29), (30, .v t30)], [], Q27))
  (fun _ => some (.normal, [(0, .v t0), (28, .v t28), (29, .v t29), (30, .v t30)], [], Q25)))
  (outX 1 ret4))
  (goC (evalPK call lp c_tie_node_beats_0) k))
  (fun _ => k (.exit 0) [] [] Q)) := by kernel_rfl
noncomputable def L_tie_node_beats_1 (s : PSpecs) (t0 t28 t29 t30 : AV) (Q : AHeap) : Option PEnd := loopP (penv s) c_tie_node_beats_1 [(0, .v t0), (28, .v t28), (29, .v t29), (30, .v t30)] [] Q
theorem L_tie_node_beats_1_fold (s : PSpecs) (t0 t28 t29 t30 : AV) (Q : AHeap) : loopP (penv s) c_tie_node_beats_1 [(0, .v t0), (28, .v t28), (29, .v t29), (30, .v t30)] [] Q = L_tie_node_beats_1 s t0 t28 t29 t30 Q := rfl
theorem L_tie_node_beats_1_eq (s : PSpecs) (t0 t28 t29 t30 : AV) (Q : AHeap) : L_tie_node_beats_1 s t0 t28 t29 t30 Q = evalPK (callP (penv s)) (loopP (penv s)) c_tie_node_beats_1 [(0, .v t0), (28, .v t28), (29, .v t29), (30, .v t30)] [] Q (goX (fun τ ω Q => loopP (penv s) c_tie_node_beats_1 τ ω Q) ret4) := loopP_body
abbrev X_tie_node_beats_1_x0 (Q : AHeap) : Option PEnd := some (.exit 0, [], [], Q)
theorem p_tie_node_beats_2 {β : Type} (call : CallF) (lp : PLoopF) (t0 : AV) (Q : AHeap) (k : PK β) : evalPK call lp c_tie_node_beats_2 [(0, .v t0)] [] Q k = (
  bnP (nckQ t0) fun w25_1 => 
  bnP (fadQ 0 w25_1) fun w26_2 => 
  bnP (fadQ 12 w26_2) fun w27_3 => 
  bnP (ldQ Q w27_3) fun w28_4 => 
  bnP (lenQ w28_4) fun w29_5 => 
  bnX (lp c_tie_node_beats_1 [(0, .v t0), (28, .v w28_4), (29, .v w29_5), (30, .v (.int .i64 0))] [] Q) (outX 0 k)) := by kernel_rfl
theorem g_tie_node_beats {call : CallF} {lp : PLoopF} (v0 : AV) (Q : AHeap) : evalPK call lp c_tie_node_beats [(0, .v v0)] [] Q (retPK [] []) = (
  bnP (nckQ v0) fun w5_1 => 
  bnP (fadQ 0 w5_1) fun w6_2 => 
  bnP (fadQ 2 w6_2) fun w7_3 => 
  bnP (ldQ Q w7_3) fun w8_4 => 
  bnP (binA .rem w8_4 (.int .i64 2)) fun w9_5 => 
  bnP (binA .neq w9_5 (.int .i64 0)) fun w10_6 => 
  cndS w10_6 (fun _ => some (.tup [], Q))
  (fun _ => bnX (bnP (nckQ v0) fun w12_7 => 
  bnP (fadQ 0 w12_7) fun w13_8 => 
  bnP (fadQ 3 w13_8) fun w14_9 => 
  bnP (ldQ Q w14_9) fun w15_10 => 
  bnP (binA .neq w15_10 (.int .i64 0)) fun w16_11 => 
  cndS w16_11 (fun _ => bnP (nckQ v0) fun w19_12 => 
  bnP (fadQ 0 w19_12) fun w20_13 => 
  bnP (fadQ 3 w20_13) fun w21_14 => 
  bnP (ldQ Q w21_14) fun w22_15 => 
  bnS (call 61 [v0, .int .i64 4, w22_15, .int .i64 0] Q) fun w23_16 Q17 => 
  some (.normal, [(0, .v v0)], [], Q17))
  (fun _ => some (.normal, [(0, .v v0)], [], Q)))
  (goC (evalPK call lp c_tie_node_beats_2) (retPK [] [])))) := by kernel_rfl
def f_tie_node_beats {s : PSpecs} (hs : s.lookup 42 = none) (v0 : AV) (Q : AHeap) := (callP_fn (E := penv s) (f := 42) (fn := pf_tie_node_beats) hs rfl [v0] Q rfl).trans (g_tie_node_beats (call := callP (penv s)) (lp := loopP (penv s)) v0 Q)
theorem g_pleachmade_Picks_Text {call : CallF} {lp : PLoopF} (v0 : AV) (Q : AHeap) : evalPK call lp c_pleachmade_Picks_Text [(0, .v v0)] [] Q (retPK [.tmp 2] [.n]) = (
  bnS (call 13 [v0, .int .i64 5] Q) fun w5_1 Q2 => 
  bnP (elQ 1 (.fz 1 [.str [], .str [97], .str [98, 99], .str [104, 101, 108, 108, 111], .str [116, 119, 101, 108, 118, 101, 32, 98, 121, 116, 101, 115]]) (frz w5_1)) fun e3 => 
  bnP ((AV.cells e3)[0]?) fun w7_4 => 
  bnP (rcv false .n w7_4) fun r5 => some (r5, Q2)) := by kernel_rfl
def f_pleachmade_Picks_Text {s : PSpecs} (hs : s.lookup 47 = none) (v0 : AV) (Q : AHeap) := (callP_fn (E := penv s) (f := 47) (fn := pf_pleachmade_Picks_Text) hs rfl [v0] Q rfl).trans (g_pleachmade_Picks_Text (call := callP (penv s)) (lp := loopP (penv s)) v0 Q)
theorem g_kids_Old {call : CallF} {lp : PLoopF} (v0 v1 v2 : AV) (Q : AHeap) : evalPK call lp c_kids_Old [(0, .v v0), (1, .v v1), (2, .v v2)] [] Q (retPK [.tmp 6] [.n]) = (
  bnS (call 68 [v0, v1] Q) fun w12_1 Q2 => 
  bnP (extA (frz w12_1) 0) fun w13_3 => 
  bnP (extA (frz w12_1) 1) fun w14_4 => 
  bnC 3 (stC 3 w13_3) fun s5 s6 s7 => 
  bnP (gdQ w14_4 true (some s6)) fun w18_8 => 
  bnP (gdQ w14_4 true (some v2)) fun w19_9 => 
  bnP (gdQ w14_4 true (binA .gtr w18_8 w19_9)) fun w20_10 => 
  bnP (pickA w14_4 w20_10 (.bool false)) fun w21_11 => 
  bnP (rcv false .n w21_11) fun r12 => some (r12, Q2)) := by kernel_rfl
def f_kids_Old {s : PSpecs} (hs : s.lookup 48 = none) (v0 v1 v2 : AV) (Q : AHeap) := (callP_fn (E := penv s) (f := 48) (fn := pf_kids_Old) hs rfl [v0, v1, v2] Q rfl).trans (g_kids_Old (call := callP (penv s)) (lp := loopP (penv s)) v0 v1 v2 Q)
theorem g_tie_node_attach {call : CallF} {lp : PLoopF} (v0 v1_0 v1_1 v1_2 v1_3 v1_4 v1_5 v1_6 v1_7 v1_8 v1_9 v2 : AV) (Q : AHeap) : evalPK call lp c_tie_node_attach [(0, .v v0), (1, .v (.agg [v1_0, v1_1, v1_2, v1_3, v1_4, v1_5, v1_6, v1_7, v1_8, v1_9])), (2, .v v2)] [] Q (retPK [] []) = (
  bnC 10 (stC 10 (.agg [v1_0, v1_1, v1_2, v1_3, v1_4, v1_5, v1_6, v1_7, v1_8, v1_9])) fun s1 s2 s3 s4 s5 s6 s7 s8 s9 s10 => 
  bnS (call 69 [v0, s2] Q) fun w9_11 Q12 => 
  bnP (unA .not (frz w9_11)) fun w10_13 => 
  cndS w10_13 (fun _ => bnS (call 61 [v0, .int .i64 3, s2, .int .i64 0] Q12) fun w14_14 Q15 => 
  some (.tup [], Q15))
  (fun _ => bnS (call 70 [v0, .agg [s1, s2, s3, s4, s5, s6, s7, s8, s9, s10]] Q12) fun w17_16 Q17 => 
  bnS (call 61 [v0, .int .i64 2, s2, v2] Q17) fun w22_18 Q19 => 
  some (.tup [], Q19))) := by kernel_rfl
def f_tie_node_attach {s : PSpecs} (hs : s.lookup 49 = none) (v0 v1_0 v1_1 v1_2 v1_3 v1_4 v1_5 v1_6 v1_7 v1_8 v1_9 v2 : AV) (Q : AHeap) := (callP_fn (E := penv s) (f := 49) (fn := pf_tie_node_attach) hs rfl [v0, .agg [v1_0, v1_1, v1_2, v1_3, v1_4, v1_5, v1_6, v1_7, v1_8, v1_9], v2] Q rfl).trans (g_tie_node_attach (call := callP (penv s)) (lp := loopP (penv s)) v0 v1_0 v1_1 v1_2 v1_3 v1_4 v1_5 v1_6 v1_7 v1_8 v1_9 v2 Q)
theorem g_tie_node_accept {call : CallF} {lp : PLoopF} (v0 v1_0 v1_1 v1_2 v1_3 v1_4 v1_5 v1_6 v1_7 v1_8 v1_9 : AV) (Q : AHeap) : evalPK call lp c_tie_node_accept [(0, .v v0), (1, .v (.agg [v1_0, v1_1, v1_2, v1_3, v1_4, v1_5, v1_6, v1_7, v1_8, v1_9]))] [] Q (retPK [] []) = (
  bnC 10 (stC 10 (.agg [v1_0, v1_1, v1_2, v1_3, v1_4, v1_5, v1_6, v1_7, v1_8, v1_9])) fun s1 s2 s3 s4 s5 s6 s7 s8 s9 s10 => 
  bnP (nckQ v0) fun w7_11 => 
  bnP (fadQ 0 w7_11) fun w8_12 => 
  bnP (fadQ 9 w8_12) fun w9_13 => 
  bnP (ldQ Q w9_13) fun w10_14 => 
  bnP (binA .neq w10_14 s2) fun w13_15 => 
  bnP (gdQ w13_15 false (some v0)) fun w15_16 => 
  bnP (gdQ w13_15 false (nckQ w15_16)) fun w16_17 => 
  bnP (gdQ w13_15 false (fadQ 0 w16_17)) fun w17_18 => 
  bnP (gdQ w13_15 false (fadQ 3 w17_18)) fun w18_19 => 
  bnP (gdQ w13_15 false (ldQ Q w18_19)) fun w19_20 => 
  bnP (gdQ w13_15 false (binA .neq w19_20 (.int .i64 0))) fun w20_21 => 
  bnP (pickA w13_15 (.bool true) w20_21) fun w21_22 => 
  cndS w21_22 (fun _ => bnX (bnP (nckQ v0) fun w23_23 => 
  bnP (fadQ 0 w23_23) fun w24_24 => 
  bnP (fadQ 3 w24_24) fun w25_25 => 
  bnP (ldQ Q w25_25) fun w26_26 => 
  bnP (binA .neq w26_26 s2) fun w29_27 => 
  cndS w29_27 (fun _ => bnS (call 61 [v0, .int .i64 6, s2, .int .i64 0] Q) fun w33_28 Q29 => 
  some (.normal, [], [], Q29))
  (fun _ => some (.normal, [], [], Q)))
  (goC (evalPK call lp .ret) (goC (evalPK call lp c_tie_node_accept_0) (retPK [] []))))
  (fun _ => bnP (nckQ v0) fun w35_30 => 
  bnP (fadQ 0 w35_30) fun w36_31 => 
  bnP (fadQ 9 w36_31) fun w37_32 => 
  bnS (stA Q 1 w37_32 (.int .i64 0)) fun _ Q33 => 
  bnP (nckQ v0) fun w42_34 => 
  bnP (fadQ 0 w42_34) fun w43_35 => 
  bnP (fadQ 0 w43_35) fun w44_36 => 
  bnP (ldQ Q33 w44_36) fun w45_37 => 
  bnS (call 71 [s7, w45_37] Q33) fun w46_38 Q39 => 
  bnP (extA (frz w46_38) 0) fun w47_40 => 
  bnP (extA (frz w46_38) 1) fun w48_41 => 
  bnP (unA .not w48_41) fun w50_42 => 
  bnP (gdQ w50_42 false (some s6)) fun w53_43 => 
  bnP (gdQ w50_42 false (binA .gtr w53_43 (.int .i64 20))) fun w54_44 => 
  bnP (pickA w50_42 (.bool true) w54_44) fun w55_45 => 
  cndS w55_45 (fun _ => bnS (call 61 [v0, .int .i64 6, s2, .int .i64 0] Q39) fun w59_46 Q47 => 
  bnP (nckQ v0) fun w61_48 => 
  bnP (fadQ 0 w61_48) fun w62_49 => 
  bnP (fadQ 11 w62_49) fun w63_50 => 
  bnP (ldQ Q47 w63_50) fun w64_51 => 
  bnP (binA .add w64_51 (.int .i64 1)) fun w65_52 => 
  bnP (nckQ v0) fun w66_53 => 
  bnP (fadQ 0 w66_53) fun w67_54 => 
  bnP (fadQ 11 w67_54) fun w68_55 => 
  bnS (stA Q47 1 w68_55 w65_52) fun _ Q56 => 
  some (.tup [], Q56))
  (fun _ => bnS (call 72 [v0, .agg [s1, s2, s3, s4, s5, s6, s7, s8, s9, s10], w47_40] Q39) fun w72_57 Q58 => 
  bnP (nckQ v0) fun w85_59 => 
  bnP (fadQ 0 w85_59) fun w86_60 => 
  bnP (fadQ 2 w86_60) fun w87_61 => 
  bnP (ldQ Q58 w87_61) fun w88_62 => 
  bnP (binA .sub w88_62 s6) fun w91_63 => 
  bnP (nckQ v0) fun w92_64 => 
  bnP (fadQ 0 w92_64) fun w93_65 => 
  bnP (fadQ 3 w93_65) fun w94_66 => 
  bnS (stA Q58 1 w94_66 s2) fun _ Q67 => 
  bnP (nckQ v0) fun w95_68 => 
  bnP (fadQ 0 w95_68) fun w96_69 => 
  bnP (fadQ 4 w96_69) fun w97_70 => 
  bnS (stA Q67 1 w97_70 s4) fun _ Q71 => 
  bnP (nckQ v0) fun w98_72 => 
  bnP (fadQ 0 w98_72) fun w99_73 => 
  bnP (fadQ 7 w99_73) fun w100_74 => 
  bnS (stA Q71 1 w100_74 s5) fun _ Q75 => 
  bnP (nckQ v0) fun w101_76 => 
  bnP (fadQ 0 w101_76) fun w102_77 => 
  bnP (fadQ 8 w102_77) fun w103_78 => 
  bnS (stA Q75 1 w103_78 w91_63) fun _ Q79 => 
  bnP (nckQ v0) fun w104_80 => 
  bnP (fadQ 0 w104_80) fun w105_81 => 
  bnP (fadQ 11 w105_81) fun w106_82 => 
  bnS (stA Q79 1 w106_82 (.int .i64 0)) fun _ Q83 => 
  some (.tup [], Q83)))) := by kernel_rfl
def f_tie_node_accept {s : PSpecs} (hs : s.lookup 50 = none) (v0 v1_0 v1_1 v1_2 v1_3 v1_4 v1_5 v1_6 v1_7 v1_8 v1_9 : AV) (Q : AHeap) := (callP_fn (E := penv s) (f := 50) (fn := pf_tie_node_accept) hs rfl [v0, .agg [v1_0, v1_1, v1_2, v1_3, v1_4, v1_5, v1_6, v1_7, v1_8, v1_9]] Q rfl).trans (g_tie_node_accept (call := callP (penv s)) (lp := loopP (penv s)) v0 v1_0 v1_1 v1_2 v1_3 v1_4 v1_5 v1_6 v1_7 v1_8 v1_9 Q)
theorem g_tie_node_refuse {call : CallF} {lp : PLoopF} (v0 v1_0 v1_1 v1_2 v1_3 v1_4 v1_5 v1_6 v1_7 v1_8 v1_9 : AV) (Q : AHeap) : evalPK call lp c_tie_node_refuse [(0, .v v0), (1, .v (.agg [v1_0, v1_1, v1_2, v1_3, v1_4, v1_5, v1_6, v1_7, v1_8, v1_9]))] [] Q (retPK [] []) = (
  bnC 10 (stC 10 (.agg [v1_0, v1_1, v1_2, v1_3, v1_4, v1_5, v1_6, v1_7, v1_8, v1_9])) fun s1 s2 s3 s4 s5 s6 s7 s8 s9 s10 => 
  bnX (bnP (nckQ v0) fun w8_11 => 
  bnP (fadQ 0 w8_11) fun w9_12 => 
  bnP (fadQ 9 w9_12) fun w10_13 => 
  bnP (ldQ Q w10_13) fun w11_14 => 
  bnP (binA .eql s2 w11_14) fun w12_15 => 
  cndS w12_15 (fun _ => bnP (nckQ v0) fun w14_16 => 
  bnP (fadQ 0 w14_16) fun w15_17 => 
  bnP (fadQ 9 w15_17) fun w16_18 => 
  bnS (stA Q 1 w16_18 (.int .i64 0)) fun _ Q19 => 
  bnP (nckQ v0) fun w18_20 => 
  bnP (fadQ 0 w18_20) fun w19_21 => 
  bnP (fadQ 11 w19_21) fun w20_22 => 
  bnP (ldQ Q19 w20_22) fun w21_23 => 
  bnP (binA .add w21_23 (.int .i64 1)) fun w22_24 => 
  bnP (nckQ v0) fun w23_25 => 
  bnP (fadQ 0 w23_25) fun w24_26 => 
  bnP (fadQ 11 w24_26) fun w25_27 => 
  bnS (stA Q19 1 w25_27 w22_24) fun _ Q28 => 
  some (.normal, [], [], Q28))
  (fun _ => bnP (nckQ v0) fun w28_29 => 
  bnP (fadQ 0 w28_29) fun w29_30 => 
  bnP (fadQ 3 w29_30) fun w30_31 => 
  bnP (ldQ Q w30_31) fun w31_32 => 
  bnP (binA .eql s2 w31_32) fun w32_33 => 
  cndS w32_33 (fun _ => bnS (call 40 [v0, .int .i64 0] Q) fun w34_34 Q35 => 
  some (.normal, [], [], Q35))
  (fun _ => some (.normal, [], [], Q))))
  (outX 0 (retPK [] []))) := by kernel_rfl
def f_tie_node_refuse {s : PSpecs} (hs : s.lookup 51 = none) (v0 v1_0 v1_1 v1_2 v1_3 v1_4 v1_5 v1_6 v1_7 v1_8 v1_9 : AV) (Q : AHeap) := (callP_fn (E := penv s) (f := 51) (fn := pf_tie_node_refuse) hs rfl [v0, .agg [v1_0, v1_1, v1_2, v1_3, v1_4, v1_5, v1_6, v1_7, v1_8, v1_9]] Q rfl).trans (g_tie_node_refuse (call := callP (penv s)) (lp := loopP (penv s)) v0 v1_0 v1_1 v1_2 v1_3 v1_4 v1_5 v1_6 v1_7 v1_8 v1_9 Q)
theorem g_tie_node_beatUp {call : CallF} {lp : PLoopF} (v0 v1_0 v1_1 v1_2 v1_3 v1_4 v1_5 v1_6 v1_7 v1_8 v1_9 : AV) (Q : AHeap) : evalPK call lp c_tie_node_beatUp [(0, .v v0), (1, .v (.agg [v1_0, v1_1, v1_2, v1_3, v1_4, v1_5, v1_6, v1_7, v1_8, v1_9]))] [] Q (retPK [] []) = (
  bnC 10 (stC 10 (.agg [v1_0, v1_1, v1_2, v1_3, v1_4, v1_5, v1_6, v1_7, v1_8, v1_9])) fun s1 s2 s3 s4 s5 s6 s7 s8 s9 s10 => 
  bnP (nckQ v0) fun w8_11 => 
  bnP (fadQ 0 w8_11) fun w9_12 => 
  bnP (fadQ 12 w9_12) fun w10_13 => 
  bnP (ldQ Q w10_13) fun w11_14 => 
  bnS (call 68 [w11_14, s2] Q) fun w14_15 Q16 => 
  bnP (extA (frz w14_15) 0) fun w15_17 => 
  bnP (extA (frz w14_15) 1) fun w16_18 => 
  bnC 3 (stC 3 w15_17) fun s19 s20 s21 => 
  cndS w16_18 (fun _ => bnS (call 70 [v0, .agg [s1, s2, s3, s4, s5, s6, s7, s8, s9, s10]] Q16) fun w20_22 Q23 => 
  some (.tup [], Q23))
  (fun _ => bnS (call 61 [v0, .int .i64 3, s2, .int .i64 0] Q16) fun w24_24 Q25 => 
  some (.tup [], Q25))) := by kernel_rfl
def f_tie_node_beatUp {s : PSpecs} (hs : s.lookup 52 = none) (v0 v1_0 v1_1 v1_2 v1_3 v1_4 v1_5 v1_6 v1_7 v1_8 v1_9 : AV) (Q : AHeap) := (callP_fn (E := penv s) (f := 52) (fn := pf_tie_node_beatUp) hs rfl [v0, .agg [v1_0, v1_1, v1_2, v1_3, v1_4, v1_5, v1_6, v1_7, v1_8, v1_9]] Q rfl).trans (g_tie_node_beatUp (call := callP (penv s)) (lp := loopP (penv s)) v0 v1_0 v1_1 v1_2 v1_3 v1_4 v1_5 v1_6 v1_7 v1_8 v1_9 Q)
theorem g_tie_node_beatDn {call : CallF} {lp : PLoopF} (v0 v1_0 v1_1 v1_2 v1_3 v1_4 v1_5 v1_6 v1_7 v1_8 v1_9 : AV) (Q : AHeap) : evalPK call lp c_tie_node_beatDn [(0, .v v0), (1, .v (.agg [v1_0, v1_1, v1_2, v1_3, v1_4, v1_5, v1_6, v1_7, v1_8, v1_9]))] [] Q (retPK [] []) = (
  bnC 10 (stC 10 (.agg [v1_0, v1_1, v1_2, v1_3, v1_4, v1_5, v1_6, v1_7, v1_8, v1_9])) fun s1 s2 s3 s4 s5 s6 s7 s8 s9 s10 => 
  bnP (nckQ v0) fun w9_11 => 
  bnP (fadQ 0 w9_11) fun w10_12 => 
  bnP (fadQ 3 w10_12) fun w11_13 => 
  bnP (ldQ Q w11_13) fun w12_14 => 
  bnP (binA .neq s2 w12_14) fun w13_15 => 
  cndS w13_15 (fun _ => bnS (call 61 [v0, .int .i64 6, s2, .int .i64 0] Q) fun w17_16 Q17 => 
  some (.tup [], Q17))
  (fun _ => bnP (nckQ v0) fun w22_18 => 
  bnP (fadQ 0 w22_18) fun w23_19 => 
  bnP (fadQ 0 w23_19) fun w24_20 => 
  bnP (ldQ Q w24_20) fun w25_21 => 
  bnS (call 71 [s7, w25_21] Q) fun w26_22 Q23 => 
  bnP (extA (frz w26_22) 0) fun w27_24 => 
  bnP (extA (frz w26_22) 1) fun w28_25 => 
  bnP (unA .not w28_25) fun w30_26 => 
  cndS w30_26 (fun _ => bnS (call 61 [v0, .int .i64 6, s2, .int .i64 0] Q23) fun w34_27 Q28 => 
  bnS (call 40 [v0, .int .i64 1] Q28) fun w36_29 Q30 => 
  some (.tup [], Q30))
  (fun _ => bnS (call 72 [v0, .agg [s1, s2, s3, s4, s5, s6, s7, s8, s9, s10], w27_24] Q23) fun w40_31 Q32 => 
  bnP (nckQ v0) fun w42_33 => 
  bnP (fadQ 0 w42_33) fun w43_34 => 
  bnP (fadQ 2 w43_34) fun w44_35 => 
  bnP (ldQ Q32 w44_35) fun w45_36 => 
  bnP (binA .sub w45_36 s6) fun w48_37 => 
  bnP (nckQ v0) fun w50_38 => 
  bnP (fadQ 0 w50_38) fun w51_39 => 
  bnP (fadQ 8 w51_39) fun w52_40 => 
  bnP (ldQ Q32 w52_40) fun w53_41 => 
  bnP (binA .gtr w48_37 w53_41) fun w54_42 => 
  cndS w54_42 (fun _ => bnP (nckQ v0) fun w58_43 => 
  bnP (fadQ 0 w58_43) fun w59_44 => 
  bnP (fadQ 2 w59_44) fun w60_45 => 
  bnP (ldQ Q32 w60_45) fun w61_46 => 
  bnP (binA .sub w61_46 s6) fun w64_47 => 
  bnP (nckQ v0) fun w67_48 => 
  bnP (fadQ 0 w67_48) fun w68_49 => 
  bnP (fadQ 8 w68_49) fun w69_50 => 
  bnS (stA Q32 1 w69_50 w64_47) fun _ Q51 => 
  bnP (nckQ v0) fun w70_52 => 
  bnP (fadQ 0 w70_52) fun w71_53 => 
  bnP (fadQ 7 w71_53) fun w72_54 => 
  bnS (stA Q51 1 w72_54 s5) fun _ Q55 => 
  some (.tup [], Q55))
  (fun _ => some (.tup [], Q32))))) := by kernel_rfl
def f_tie_node_beatDn {s : PSpecs} (hs : s.lookup 53 = none) (v0 v1_0 v1_1 v1_2 v1_3 v1_4 v1_5 v1_6 v1_7 v1_8 v1_9 : AV) (Q : AHeap) := (callP_fn (E := penv s) (f := 53) (fn := pf_tie_node_beatDn) hs rfl [v0, .agg [v1_0, v1_1, v1_2, v1_3, v1_4, v1_5, v1_6, v1_7, v1_8, v1_9]] Q rfl).trans (g_tie_node_beatDn (call := callP (penv s)) (lp := loopP (penv s)) v0 v1_0 v1_1 v1_2 v1_3 v1_4 v1_5 v1_6 v1_7 v1_8 v1_9 Q)
theorem g_kids_Drop {call : CallF} {lp : PLoopF} (v0 v1 : AV) (Q : AHeap) : evalPK call lp c_kids_Drop [(0, .v v0), (1, .v v1)] [] Q (retPK [.tmp 4] [.f 3]) = (
  bnC 1 (stC 1 v1) fun s1 => 
  bnS (call 65 [v0] Q) fun w6_2 Q3 => bnL (owZ 3 w6_2) fun l4 => 
  bnS (call 1000066 [.ow 3 l4, .fn 73 [] [.cp [s1] 0]] Q3) fun w8_5 Q6 => 
  bnP (rcv false (.f 3) (frz w8_5)) fun r7 => some (r7, Q6)) := by kernel_rfl
def f_kids_Drop {s : PSpecs} (hs : s.lookup 54 = none) (v0 v1 : AV) (Q : AHeap) := (callP_fn (E := penv s) (f := 54) (fn := pf_kids_Drop) hs rfl [v0, v1] Q rfl).trans (g_kids_Drop (call := callP (penv s)) (lp := loopP (penv s)) v0 v1 Q)
theorem p_tie_node_tells_0 {β : Type} (call : CallF) (lp : PLoopF) (t0 s8_0 s8_1 s8_2 s8_3 s8_4 s8_5 s8_6 s8_7 s8_8 s8_9 : AV) (Q : AHeap) (k : PK β) : evalPK call lp c_tie_node_tells_0 [(0, .v t0), (8, .lp 8 0)] [(8, .cells [s8_0, s8_1, s8_2, s8_3, s8_4, s8_5, s8_6, s8_7, s8_8, s8_9])] Q k = (
  bnP (nckQ t0) fun w56_1 => 
  bnP (fadQ 13 w56_1) fun w57_2 => 
  bnP (ldQ Q w57_2) fun w58_3 => 
  pinB (elOk 10 (.agg [s8_0, s8_1, s8_2, s8_3, s8_4, s8_5, s8_6, s8_7, s8_8, s8_9])) <| 
  bnS (appH Q 10 104 w58_3 ([.agg [s8_0, s8_1, s8_2, s8_3, s8_4, s8_5, s8_6, s8_7, s8_8, s8_9]] : List AV)) fun w61_4 Q5 => 
  bnP (nckQ t0) fun w62_6 => 
  bnP (fadQ 13 w62_6) fun w63_7 => 
  bnS (stA Q5 1 w63_7 w61_4) fun _ Q8 => 
  k .normal [(63, .v w63_7), (62, .v w62_6), (61, .v w61_4), (60, .v (.fz 10 [.agg [s8_0, s8_1, s8_2, s8_3, s8_4, s8_5, s8_6, s8_7, s8_8, s8_9]])), (59, .v (.agg [s8_0, s8_1, s8_2, s8_3, s8_4, s8_5, s8_6, s8_7, s8_8, s8_9])), (58, .v w58_3), (57, .v w57_2), (56, .v w56_1), (55, .v t0), (54, .v t0), (0, .v t0), (8, .lp 8 0)] [(8, .cells [s8_0, s8_1, s8_2, s8_3, s8_4, s8_5, s8_6, s8_7, s8_8, s8_9])] Q8) := by kernel_rfl
theorem g_tie_node_tells {call : CallF} {lp : PLoopF} (v0 v1 v2 v3 : AV) (Q : AHeap) : evalPK call lp c_tie_node_tells [(0, .v v0), (1, .v v1), (2, .v v2), (3, .v v3)] [] Q (retPK [] []) = (
  bnP (nckQ v0) fun w11_1 => 
  bnP (fadQ 0 w11_1) fun w12_2 => 
  bnP (fadQ 0 w12_2) fun w13_3 => 
  bnP (ldQ Q w13_3) fun w14_4 => 
  bnP (nckQ v0) fun w17_5 => 
  bnP (fadQ 0 w17_5) fun w18_6 => 
  bnP (fadQ 1 w18_6) fun w19_7 => 
  bnP (ldQ Q w19_7) fun w20_8 => 
  bnC 10 (fillP [.int .i64 0, .int .i64 0, .int .i64 0, .int .i64 0, .int .i64 0, .int .i64 0, .nils, .int .i64 0, .int .i64 0, .str []] [(0, 1, v1), (1, 1, w14_4), (2, 1, v2), (3, 1, w20_8), (7, 1, v3)]) fun c22_9 c22_10 c22_11 c22_12 c22_13 c22_14 c22_15 c22_16 c22_17 c22_18 => 
  bnC 10 (stC 10 (.agg [c22_9, c22_10, c22_11, c22_12, c22_13, c22_14, c22_15, c22_16, c22_17, c22_18])) fun s19 s20 s21 s22 s23 s24 s25 s26 s27 s28 => 
  bnX (bnP (binA .eql v1 (.int .i64 2)) fun w24_29 => 
  bnP (gdQ w24_29 false (some v1)) fun w26_30 => 
  bnP (gdQ w24_29 false (binA .eql w26_30 (.int .i64 5))) fun w27_31 => 
  bnP (pickA w24_29 (.bool true) w27_31) fun w28_32 => 
  cndS w28_32 (fun _ => bnP (nckQ v0) fun w30_33 => 
  bnP (fadQ 0 w30_33) fun w31_34 => 
  bnP (fadQ 7 w31_34) fun w32_35 => 
  bnP (ldQ Q w32_35) fun w33_36 => 
  bnP (nckQ v0) fun w35_37 => 
  bnP (fadQ 0 w35_37) fun w36_38 => 
  bnP (fadQ 2 w36_38) fun w37_39 => 
  bnP (ldQ Q w37_39) fun w38_40 => 
  bnP (nckQ v0) fun w40_41 => 
  bnP (fadQ 0 w40_41) fun w41_42 => 
  bnP (fadQ 8 w41_42) fun w42_43 => 
  bnP (ldQ Q w42_43) fun w43_44 => 
  bnP (binA .sub w38_40 w43_44) fun w44_45 => 
  bnP (nckQ v0) fun w46_46 => 
  bnP (fadQ 0 w46_46) fun w47_47 => 
  bnP (fadQ 6 w47_47) fun w48_48 => 
  bnP (ldQ Q w48_48) fun w49_49 => 
  bnS (call 64 [w49_49] Q) fun w50_50 Q51 => 
  pinB ((true && stayQ Q Q51 w32_35 1) && ((true && stayQ Q Q51 w37_39 1) && ((true && stayQ Q Q51 w42_43 1) && true))) <| 
  bnC 1 (stC 1 w33_36) fun s52 => 
  pinB ((true && stayQ Q Q51 w37_39 1) && ((true && stayQ Q Q51 w42_43 1) && true)) <| 
  bnC 1 (stC 1 w44_45) fun s53 => 
  bnC 1 (stC 1 (frz w50_50)) fun s54 => 
  some (.normal, [(0, .v v0), (8, .lp 8 0)], [(8, .cells [s19, s20, s21, s22, s52, s53, s54, s26, s27, s28])], Q51))
  (fun _ => some (.normal, [(0, .v v0), (8, .lp 8 0)], [(8, .cells [s19, s20, s21, s22, s23, s24, s25, s26, s27, s28])], Q)))
  (goC (evalPK call lp c_tie_node_tells_0) (retPK [] []))) := by kernel_rfl
def f_tie_node_tells {s : PSpecs} (hs : s.lookup 61 = none) (v0 v1 v2 v3 : AV) (Q : AHeap) := (callP_fn (E := penv s) (f := 61) (fn := pf_tie_node_tells) hs rfl [v0, v1, v2, v3] Q rfl).trans (g_tie_node_tells (call := callP (penv s)) (lp := loopP (penv s)) v0 v1 v2 v3 Q)
theorem p_slices_DeleteFunc_api_Kid_api_Kid_0 {β : Type} (call : CallF) (lp : PLoopF) (t1 t5 t6 : AV) (l0 : List AV) (Q : AHeap) (k : PK β) : evalPK call lp c_slices_DeleteFunc_api_Kid_api_Kid_0 [(0, .ls 0), (1, .v t1), (5, .v t5), (6, .v t6)] [(0, .own 3 l0)] Q k = (
  bnP (binA .add t6 (.int .i64 1)) fun w21_1 => 
  k .normal [(0, .ls 0), (1, .v t1), (5, .v t5), (6, .v w21_1)] [(0, .own 3 l0)] Q) := by kernel_rfl
theorem p_slices_DeleteFunc_api_Kid_api_Kid_1 {β : Type} (call : CallF) (lp : PLoopF) (t1 t5 t6 : AV) (l0 : List AV) (Q : AHeap) (k : PK β) : evalPK call lp c_slices_DeleteFunc_api_Kid_api_Kid_1 [(0, .ls 0), (1, .v t1), (5, .v t5), (6, .v t6)] [(0, .own 3 l0)] Q k = (
  bnP (binA .lss t6 (.int .i64 ((l0 : List AV).length : Nat))) fun w19_1 => 
  cndS w19_1 (fun _ => bnX (bnX (bnN (idxN (l0 : List AV).length t6) fun i2 => 
  bnC 3 (elN l0 i2 0 3) fun c25_3 c25_4 c25_5 => 
  bnC 3 (stC 3 (.agg [c25_3, c25_4, c25_5])) fun s6 s7 s8 => 
  bnF t1 fun f11 f11f f11c => 
  bnS (lowF call f11 (f11f ++ [.agg [s6, s7, s8]] ++ f11c) Q) fun w28_9 Q10 => 
  bnP (unA .not (frz w28_9)) fun w29_12 => 
  cndS w29_12 (fun _ => bnN (idxN (l0 : List AV).length t5) fun i13 => 
  bnC 3 (stC 3 (.agg [s6, s7, s8])) fun s14 s15 s16 => 
  bnP ((l0)[i13]?) fun e17 => bnP (setE e17 0 [s14, s15, s16]) fun e18 => 
  bnP (binA .add t5 (.int .i64 1)) fun w35_19 => 
  some (.normal, [(0, .ls 0), (1, .v t1), (5, .v w35_19), (6, .v t6)], [(0, .own 3 ((l0).set i13 e18))], Q10))
  (fun _ => some (.normal, [(0, .ls 0), (1, .v t1), (5, .v t5), (6, .v t6)], [(0, .own 3 l0)], Q10)))
  (outX 1 ret4))
  (goC (evalPK call lp c_slices_DeleteFunc_api_Kid_api_Kid_0) k))
  (fun _ => k (.exit 0) [(0, .ls 0), (5, .v t5)] [(0, .own 3 l0)] Q)) := by kernel_rfl
noncomputable def L_slices_DeleteFunc_api_Kid_api_Kid_1 (s : PSpecs) (t1 t5 t6 : AV) (l0 : List AV) (Q : AHeap) : Option PEnd := loopP (penv s) c_slices_DeleteFunc_api_Kid_api_Kid_1 [(0, .ls 0), (1, .v t1), (5, .v t5), (6, .v t6)] [(0, .own 3 l0)] Q
theorem L_slices_DeleteFunc_api_Kid_api_Kid_1_fold (s : PSpecs) (t1 t5 t6 : AV) (l0 : List AV) (Q : AHeap) : loopP (penv s) c_slices_DeleteFunc_api_Kid_api_Kid_1 [(0, .ls 0), (1, .v t1), (5, .v t5), (6, .v t6)] [(0, .own 3 l0)] Q = L_slices_DeleteFunc_api_Kid_api_Kid_1 s t1 t5 t6 l0 Q := rfl
theorem L_slices_DeleteFunc_api_Kid_api_Kid_1_eq (s : PSpecs) (t1 t5 t6 : AV) (l0 : List AV) (Q : AHeap) : L_slices_DeleteFunc_api_Kid_api_Kid_1 s t1 t5 t6 l0 Q = evalPK (callP (penv s)) (loopP (penv s)) c_slices_DeleteFunc_api_Kid_api_Kid_1 [(0, .ls 0), (1, .v t1), (5, .v t5), (6, .v t6)] [(0, .own 3 l0)] Q (goX (fun τ ω Q => loopP (penv s) c_slices_DeleteFunc_api_Kid_api_Kid_1 τ ω Q) ret4) := loopP_body
abbrev X_slices_DeleteFunc_api_Kid_api_Kid_1_x0 (t5 : AV) (l0 : List AV) (Q : AHeap) : Option PEnd := some (.exit 0, [(0, .ls 0), (5, .v t5)], [(0, .own 3 l0)], Q)
theorem p_slices_DeleteFunc_api_Kid_api_Kid_2 {β : Type} (call : CallF) (lp : PLoopF) (t5 : AV) (l0 : List AV) (Q : AHeap) (k : PK β) : evalPK call lp c_slices_DeleteFunc_api_Kid_api_Kid_2 [(0, .ls 0), (5, .v t5)] [(0, .own 3 l0)] Q k = (
  bnN (idxN (l0 : List AV).length t5) fun i1 => 
  bnP (slcQ 3 (.fz 3 ((l0).take i1 ++ List.replicate ((l0).length - i1) (mkE [.int .i64 0, .int .i64 0, .int .i64 0]))) none (some t5)) fun w41_2 => 
  k .ret [(4, .v w41_2), (41, .v w41_2), (39, .v (.fz 3 ((l0).take i1 ++ List.replicate ((l0).length - i1) (mkE [.int .i64 0, .int .i64 0, .int .i64 0])))), (40, .v t5), (39, .v undefA), (38, .v undefA), (37, .v t5), (36, .v undefA), (0, .v undefA), (5, .v t5)] [] Q) := by kernel_rfl
theorem g_slices_DeleteFunc_api_Kid_api_Kid {call : CallF} {lp : PLoopF} (l0 : List AV) (v1 : AV) (Q : AHeap) : evalPK call lp c_slices_DeleteFunc_api_Kid_api_Kid [(0, .ls 0), (1, .v v1)] [(0, .own 3 l0)] Q (retPK [.tmp 4] [.f 3]) = (
  bnS (call 75 [.fz 3 l0, v1] ⟨Q.size, .leaf⟩) fun w10_1 _ => pinB (flatR w10_1) <| 
  bnP (binA .eql w10_1 (.int .i64 (-1))) fun w12_3 => 
  cndS w12_3 (fun _ => some (.fz 3 l0, Q))
  (fun _ => bnP (binA .add w10_1 (.int .i64 1)) fun w15_4 => 
  bnX (lp c_slices_DeleteFunc_api_Kid_api_Kid_1 [(0, .ls 0), (1, .v v1), (5, .v w10_1), (6, .v w15_4)] [(0, .own 3 l0)] Q) (outX 0 (goC (evalPK call lp c_slices_DeleteFunc_api_Kid_api_Kid_2) (retPK [.tmp 4] [.f 3]))))) := by kernel_rfl
def f_slices_DeleteFunc_api_Kid_api_Kid {s : PSpecs} (hs : s.lookup 1000066 = none) (l0 : List AV) (v1 : AV) (Q : AHeap) := (callP_fn0 (E := penv s) (f := 1000066) (fn := pf_slices_DeleteFunc_api_Kid_api_Kid) hs rfl rfl l0 v1 Q rfl).trans (g_slices_DeleteFunc_api_Kid_api_Kid (call := callP (penv s)) (lp := loopP (penv s)) l0 v1 Q)
theorem g_kids_Prune_1 {call : CallF} {lp : PLoopF} (v0_0 v0_1 v0_2 v1 : AV) (Q : AHeap) : evalPK call lp c_kids_Prune_1 [(0, .v (.agg [v0_0, v0_1, v0_2])), (1, .v v1)] [] Q (retPK [.tmp 3] [.n]) = (
  bnC 3 (stC 3 (.agg [v0_0, v0_1, v0_2])) fun s1 s2 s3 => 
  bnP (ldQ Q v1) fun w4_4 => 
  bnP (binA .sub w4_4 s3) fun w7_5 => 
  bnP (binA .gtr w7_5 (.int .i64 20)) fun w8_6 => 
  bnP (rcv false .n w8_6) fun r7 => some (r7, Q)) := by kernel_rfl
def f_kids_Prune_1 {s : PSpecs} (hs : s.lookup 67 = none) (v0_0 v0_1 v0_2 v1 : AV) (Q : AHeap) := (callP_fn (E := penv s) (f := 67) (fn := pf_kids_Prune_1) hs rfl [.agg [v0_0, v0_1, v0_2], v1] Q rfl).trans (g_kids_Prune_1 (call := callP (penv s)) (lp := loopP (penv s)) v0_0 v0_1 v0_2 v1 Q)
theorem g_kids_Find {call : CallF} {lp : PLoopF} (v0 v1 : AV) (Q : AHeap) : evalPK call lp c_kids_Find [(0, .v v0), (1, .v v1)] [] Q (retPK [.cell 4 (some 3), .tmp 5] [.n, .n]) = (
  bnS (call 76 [v0, v1] Q) fun w11_1 Q2 => 
  bnP (extA (frz w11_1) 0) fun w12_3 => 
  bnP (extA (frz w11_1) 1) fun w13_4 => 
  bnP (unA .not w13_4) fun w15_5 => 
  cndS w15_5 (fun _ => some (.tup [.agg [.int .i64 0, .int .i64 0, .int .i64 0], .bool false], Q2))
  (fun _ => bnP (elQ 3 v0 w12_3) fun e6 => 
  bnC 3 (cut (AV.cells e6) 0 3) fun c20_7 c20_8 c20_9 => 
  bnC 3 (stC 3 (.agg [c20_7, c20_8, c20_9])) fun s10 s11 s12 => 
  some (.tup [.agg [s10, s11, s12], .bool true], Q2))) := by kernel_rfl
def f_kids_Find {s : PSpecs} (hs : s.lookup 68 = none) (v0 v1 : AV) (Q : AHeap) := (callP_fn (E := penv s) (f := 68) (fn := pf_kids_Find) hs rfl [v0, v1] Q rfl).trans (g_kids_Find (call := callP (penv s)) (lp := loopP (penv s)) v0 v1 Q)
theorem p_tie_node_room_0 {β : Type} (call : CallF) (lp : PLoopF) (t0 t1 t5 : AV) (Q : AHeap) (k : PK β) : evalPK call lp c_tie_node_room_0 [(0, .v t0), (1, .v t1), (5, .v t5)] [] Q k = (
  bnP (nckQ t0) fun w16_1 => 
  bnP (fadQ 0 w16_1) fun w17_2 => 
  bnP (fadQ 12 w17_2) fun w18_3 => 
  bnP (ldQ Q w18_3) fun w19_4 => 
  bnS (call 68 [w19_4, t1] Q) fun w21_5 Q6 => 
  bnP (extA (frz w21_5) 0) fun w22_7 => 
  bnP (extA (frz w21_5) 1) fun w23_8 => 
  bnC 3 (stC 3 w22_7) fun s9 s10 s11 => 
  bnP (nckQ t0) fun w25_12 => 
  bnP (fadQ 0 w25_12) fun w26_13 => 
  bnC 13 (rowP Q6 13 w26_13) fun c27_14 c27_15 c27_16 c27_17 c27_18 c27_19 c27_20 c27_21 c27_22 c27_23 c27_24 c27_25 c27_26 => 
  bnS (call 25 [.agg [c27_14, c27_15, c27_16, c27_17, c27_18, c27_19, c27_20, c27_21, c27_22, c27_23, c27_24, c27_25, c27_26]] Q6) fun w28_27 Q28 => 
  bnP (gdQ (frz w28_27) true (some t0)) fun w30_29 => 
  bnP (gdQ (frz w28_27) true (nckQ w30_29)) fun w31_30 => 
  bnP (gdQ (frz w28_27) true (fadQ 0 w31_30)) fun w32_31 => 
  bnP (gdQ (frz w28_27) true (fadQ 6 w32_31)) fun w33_32 => 
  bnP (gdQ (frz w28_27) true (ldQ Q28 w33_32)) fun w34_33 => 
  bnP (gdQ (frz w28_27) true (some t1)) fun w35_34 => 
  bnS (gdH (frz w28_27) true (call 77 [w34_33, w35_34] Q28) Q28) fun w36_35 Q36 => 
  bnP (gdQ (frz w28_27) true (unA .not (frz w36_35))) fun w37_37 => 
  bnP (pickA (frz w28_27) w37_37 (.bool false)) fun w38_38 => 
  bnP (gdQ w38_38 true (some w23_8)) fun w40_39 => 
  bnP (gdQ w38_38 true (some w40_39)) fun w41_40 => 
  bnP (gdQ w41_40 false (some t0)) fun w42_41 => 
  bnP (gdQ w41_40 false (nckQ w42_41)) fun w43_42 => 
  bnP (gdQ w41_40 false (fadQ 0 w43_42)) fun w44_43 => 
  bnP (gdQ w41_40 false (fadQ 12 w44_43)) fun w45_44 => 
  bnP (gdQ w41_40 false (ldQ Q36 w45_44)) fun w46_45 => 
  bnP (gdQ w41_40 false (lenQ w46_45)) fun w47_46 => 
  bnP (gdQ w41_40 false (some t5)) fun w48_47 => 
  bnP (gdQ w41_40 false (binA .lss w47_46 w48_47)) fun w49_48 => 
  bnP (gdQ w38_38 true (pickA w41_40 (.bool true) w49_48)) fun w50_49 => 
  bnP (pickA w38_38 w50_49 (.bool false)) fun w51_50 => 
  k .ret [(4, .v w51_50), (51, .v w51_50), (50, .v w50_49), (49, .v w49_48), (48, .v w48_47), (47, .v w47_46), (46, .v w46_45), (45, .v w45_44), (44, .v w44_43), (43, .v w43_42), (42, .v w42_41), (41, .v w41_40), (40, .v w40_39), (39, .v w38_38), (38, .v w38_38), (37, .v w37_37), (36, .v (frz w36_35)), (35, .v w35_34), (34, .v w34_33), (33, .v w33_32), (32, .v w32_31), (31, .v w31_30), (30, .v w30_29), (29, .v (frz w28_27)), (28, .v (frz w28_27)), (27, .v (.agg [c27_14, c27_15, c27_16, c27_17, c27_18, c27_19, c27_20, c27_21, c27_22, c27_23, c27_24, c27_25, c27_26])), (26, .v w26_13), (25, .v w25_12), (24, .v t0), (7, .v w23_8), (6, .lp 6 0), (23, .v w23_8), (22, .v w22_7), (14, .v (frz w21_5)), (21, .v (frz w21_5)), (20, .v t1), (19, .v w19_4), (18, .v w18_3), (17, .v w17_2), (16, .v w16_1), (15, .v t0), (0, .v t0), (1, .v t1), (5, .v t5)] [(6, .cells [s9, s10, s11])] Q36) := by kernel_rfl
theorem g_tie_node_room {call : CallF} {lp : PLoopF} (v0 v1 : AV) (Q : AHeap) : evalPK call lp c_tie_node_room [(0, .v v0), (1, .v v1)] [] Q (retPK [.tmp 4] [.n]) = (
  bnX (bnP (nckQ v0) fun w9_1 => 
  bnP (fadQ 0 w9_1) fun w10_2 => 
  bnP (fadQ 0 w10_2) fun w11_3 => 
  bnP (ldQ Q w11_3) fun w12_4 => 
  bnP (binA .eql w12_4 (.int .i64 1)) fun w13_5 => 
  cndS w13_5 (fun _ => some (.normal, [(0, .v v0), (1, .v v1), (5, .v (.int .i64 8))], [], Q))
  (fun _ => some (.normal, [(0, .v v0), (1, .v v1), (5, .v (.int .i64 3))], [], Q)))
  (goC (evalPK call lp c_tie_node_room_0) (retPK [.tmp 4] [.n]))) := by kernel_rfl
def f_tie_node_room {s : PSpecs} (hs : s.lookup 69 = none) (v0 v1 : AV) (Q : AHeap) := (callP_fn (E := penv s) (f := 69) (fn := pf_tie_node_room) hs rfl [v0, v1] Q rfl).trans (g_tie_node_room (call := callP (penv s)) (lp := loopP (penv s)) v0 v1 Q)
theorem g_tie_node_hears {call : CallF} {lp : PLoopF} (v0 v1_0 v1_1 v1_2 v1_3 v1_4 v1_5 v1_6 v1_7 v1_8 v1_9 : AV) (Q : AHeap) : evalPK call lp c_tie_node_hears [(0, .v v0), (1, .v (.agg [v1_0, v1_1, v1_2, v1_3, v1_4, v1_5, v1_6, v1_7, v1_8, v1_9]))] [] Q (retPK [] []) = (
  bnC 10 (stC 10 (.agg [v1_0, v1_1, v1_2, v1_3, v1_4, v1_5, v1_6, v1_7, v1_8, v1_9])) fun s1 s2 s3 s4 s5 s6 s7 s8 s9 s10 => 
  bnP (nckQ v0) fun w7_11 => 
  bnP (fadQ 0 w7_11) fun w8_12 => 
  bnP (fadQ 12 w8_12) fun w9_13 => 
  bnP (ldQ Q w9_13) fun w10_14 => 
  bnP (nckQ v0) fun w16_15 => 
  bnP (fadQ 0 w16_15) fun w17_16 => 
  bnP (fadQ 2 w17_16) fun w18_17 => 
  bnP (ldQ Q w18_17) fun w19_18 => 
  bnC 3 (fillP [.int .i64 0, .int .i64 0, .int .i64 0] [(0, 1, s2), (1, 1, s4), (2, 1, w19_18)]) fun c20_19 c20_20 c20_21 => 
  bnS (call 78 [w10_14, .agg [c20_19, c20_20, c20_21]] Q) fun w21_22 Q23 => 
  bnP (extA (frz w21_22) 0) fun w22_24 => 
  bnP (extA (frz w21_22) 1) fun w23_25 => 
  bnP (nckQ v0) fun w24_26 => 
  bnP (fadQ 0 w24_26) fun w25_27 => 
  bnP (fadQ 12 w25_27) fun w26_28 => 
  bnS (stA Q23 1 w26_28 w22_24) fun _ Q29 => 
  some (.tup [], Q29)) := by kernel_rfl
def f_tie_node_hears {s : PSpecs} (hs : s.lookup 70 = none) (v0 v1_0 v1_1 v1_2 v1_3 v1_4 v1_5 v1_6 v1_7 v1_8 v1_9 : AV) (Q : AHeap) := (callP_fn (E := penv s) (f := 70) (fn := pf_tie_node_hears) hs rfl [v0, .agg [v1_0, v1_1, v1_2, v1_3, v1_4, v1_5, v1_6, v1_7, v1_8, v1_9]] Q rfl).trans (g_tie_node_hears (call := callP (penv s)) (lp := loopP (penv s)) v0 v1_0 v1_1 v1_2 v1_3 v1_4 v1_5 v1_6 v1_7 v1_8 v1_9 Q)
theorem g_path_Add {call : CallF} {lp : PLoopF} (v0 v1 : AV) (Q : AHeap) : evalPK call lp c_path_Add [(0, .v v0), (1, .v v1)] [] Q (retPK [.tmp 4, .tmp 5] [.f 1, .n]) = (
  bnS (call 64 [v0] Q) fun w8_1 Q2 => bnL (owZ 1 w8_1) fun l3 => 
  pinB (elOk 1 v1) <| 
  pinB (room 8 ((l3 : List AV).length + (([v1] : List AV) : List AV).length)) <| 
  bnS (call 79 [.fz 1 (l3 ++ ([v1] : List AV))] ⟨Q2.size, .leaf⟩) fun w13_4 _ => pinB (flatR w13_4) <| 
  bnP (unA .not w13_4) fun w14_6 => 
  cndS w14_6 (fun _ => some (.tup [.fz 1 [], .bool false], Q2))
  (fun _ => some (.tup [.fz 1 (l3 ++ ([v1] : List AV)), .bool true], Q2))) := by kernel_rfl
def f_path_Add {s : PSpecs} (hs : s.lookup 71 = none) (v0 v1 : AV) (Q : AHeap) := (callP_fn (E := penv s) (f := 71) (fn := pf_path_Add) hs rfl [v0, v1] Q rfl).trans (g_path_Add (call := callP (penv s)) (lp := loopP (penv s)) v0 v1 Q)
theorem g_tie_node_way {call : CallF} {lp : PLoopF} (v0 v1_0 v1_1 v1_2 v1_3 v1_4 v1_5 v1_6 v1_7 v1_8 v1_9 v2 : AV) (Q : AHeap) : evalPK call lp c_tie_node_way [(0, .v v0), (1, .v (.agg [v1_0, v1_1, v1_2, v1_3, v1_4, v1_5, v1_6, v1_7, v1_8, v1_9])), (2, .v v2)] [] Q (retPK [] []) = (
  bnC 10 (stC 10 (.agg [v1_0, v1_1, v1_2, v1_3, v1_4, v1_5, v1_6, v1_7, v1_8, v1_9])) fun s1 s2 s3 s4 s5 s6 s7 s8 s9 s10 => 
  bnS (call 80 [s7] Q) fun w11_11 Q12 => 
  bnP (nckQ v0) fun w12_13 => 
  bnP (fadQ 0 w12_13) fun w13_14 => 
  bnP (fadQ 6 w13_14) fun w14_15 => 
  bnS (stA Q12 1 w14_15 v2) fun _ Q16 => 
  bnP (nckQ v0) fun w15_17 => 
  bnP (fadQ 0 w15_17) fun w16_18 => 
  bnP (fadQ 5 w16_18) fun w17_19 => 
  bnS (stA Q16 1 w17_19 (frz w11_11)) fun _ Q20 => 
  bnP (nckQ v0) fun w19_21 => 
  bnP (fadQ 0 w19_21) fun w20_22 => 
  bnP (fadQ 5 w20_22) fun w21_23 => 
  bnP (ldQ Q20 w21_23) fun w22_24 => 
  bnP (binA .eql w22_24 (.int .i64 0)) fun w23_25 => 
  cndS w23_25 (fun _ => bnP (nckQ v0) fun w25_26 => 
  bnP (fadQ 0 w25_26) fun w26_27 => 
  bnP (fadQ 5 w26_27) fun w27_28 => 
  bnS (stA Q20 1 w27_28 (.int .i64 1)) fun _ Q29 => 
  some (.tup [], Q29))
  (fun _ => some (.tup [], Q20))) := by kernel_rfl
def f_tie_node_way {s : PSpecs} (hs : s.lookup 72 = none) (v0 v1_0 v1_1 v1_2 v1_3 v1_4 v1_5 v1_6 v1_7 v1_8 v1_9 v2 : AV) (Q : AHeap) := (callP_fn (E := penv s) (f := 72) (fn := pf_tie_node_way) hs rfl [v0, .agg [v1_0, v1_1, v1_2, v1_3, v1_4, v1_5, v1_6, v1_7, v1_8, v1_9], v2] Q rfl).trans (g_tie_node_way (call := callP (penv s)) (lp := loopP (penv s)) v0 v1_0 v1_1 v1_2 v1_3 v1_4 v1_5 v1_6 v1_7 v1_8 v1_9 v2 Q)
theorem g_kids_Drop_1 {call : CallF} {lp : PLoopF} (v0_0 v0_1 v0_2 v1 : AV) (Q : AHeap) : evalPK call lp c_kids_Drop_1 [(0, .v (.agg [v0_0, v0_1, v0_2])), (1, .v v1)] [] Q (retPK [.tmp 3] [.n]) = (
  bnC 3 (stC 3 (.agg [v0_0, v0_1, v0_2])) fun s1 s2 s3 => 
  bnP (ldQ Q v1) fun w6_4 => 
  bnP (binA .eql s1 w6_4) fun w7_5 => 
  bnP (rcv false .n w7_5) fun r6 => some (r6, Q)) := by kernel_rfl
def f_kids_Drop_1 {s : PSpecs} (hs : s.lookup 73 = none) (v0_0 v0_1 v0_2 v1 : AV) (Q : AHeap) := (callP_fn (E := penv s) (f := 73) (fn := pf_kids_Drop_1) hs rfl [.agg [v0_0, v0_1, v0_2], v1] Q rfl).trans (g_kids_Drop_1 (call := callP (penv s)) (lp := loopP (penv s)) v0_0 v0_1 v0_2 v1 Q)
theorem p_slices_IndexFunc_api_Kid_api_Kid_0 {β : Type} (call : CallF) (lp : PLoopF) (t0 t1 t7 t8 : AV) (Q : AHeap) (k : PK β) : evalPK call lp c_slices_IndexFunc_api_Kid_api_Kid_0 [(0, .v t0), (1, .v t1), (7, .v t7), (8, .v t8)] [] Q k = (
  bnP (binA .lss t8 t7) fun w9_1 => 
  cndS w9_1 (fun _ => bnP (elQ 3 t0 t8) fun e2 => 
  bnC 3 (cut (AV.cells e2) 0 3) fun c15_3 c15_4 c15_5 => 
  bnF t1 fun f8 f8f f8c => 
  bnS (lowF call f8 (f8f ++ [.agg [c15_3, c15_4, c15_5]] ++ f8c) Q) fun w16_6 Q7 => 
  cndS (frz w16_6) (fun _ => k .ret [(4, .v t8)] [] Q7)
  (fun _ => bnP (binA .add t8 (.int .i64 1)) fun w18_9 => 
  k .normal [(0, .v t0), (1, .v t1), (7, .v t7), (8, .v w18_9)] [] Q7))
  (fun _ => k (.exit 0) [] [] Q)) := by kernel_rfl
noncomputable def L_slices_IndexFunc_api_Kid_api_Kid_0 (s : PSpecs) (t0 t1 t7 t8 : AV) (Q : AHeap) : Option PEnd := loopP (penv s) c_slices_IndexFunc_api_Kid_api_Kid_0 [(0, .v t0), (1, .v t1), (7, .v t7), (8, .v t8)] [] Q
theorem L_slices_IndexFunc_api_Kid_api_Kid_0_fold (s : PSpecs) (t0 t1 t7 t8 : AV) (Q : AHeap) : loopP (penv s) c_slices_IndexFunc_api_Kid_api_Kid_0 [(0, .v t0), (1, .v t1), (7, .v t7), (8, .v t8)] [] Q = L_slices_IndexFunc_api_Kid_api_Kid_0 s t0 t1 t7 t8 Q := rfl
theorem L_slices_IndexFunc_api_Kid_api_Kid_0_eq (s : PSpecs) (t0 t1 t7 t8 : AV) (Q : AHeap) : L_slices_IndexFunc_api_Kid_api_Kid_0 s t0 t1 t7 t8 Q = evalPK (callP (penv s)) (loopP (penv s)) c_slices_IndexFunc_api_Kid_api_Kid_0 [(0, .v t0), (1, .v t1), (7, .v t7), (8, .v t8)] [] Q (goX (fun τ ω Q => loopP (penv s) c_slices_IndexFunc_api_Kid_api_Kid_0 τ ω Q) ret4) := loopP_body
abbrev X_slices_IndexFunc_api_Kid_api_Kid_0_x0 (Q : AHeap) : Option PEnd := some (.exit 0, [], [], Q)
abbrev X_slices_IndexFunc_api_Kid_api_Kid_0_ret (t4 : AV) (Q : AHeap) : Option PEnd := some (.ret, [(4, .v t4)], [], Q)
theorem p_slices_IndexFunc_api_Kid_api_Kid_1 {β : Type} (call : CallF) (lp : PLoopF) (Q : AHeap) (k : PK β) : evalPK call lp c_slices_IndexFunc_api_Kid_api_Kid_1 [] [] Q k = (
  k .ret [(4, .v (.int .i64 (-1)))] [] Q) := by kernel_rfl
theorem g_slices_IndexFunc_api_Kid_api_Kid {call : CallF} {lp : PLoopF} (v0 v1 : AV) (Q : AHeap) : evalPK call lp c_slices_IndexFunc_api_Kid_api_Kid [(0, .v v0), (1, .v v1)] [] Q (retPK [.tmp 4] [.n]) = (
  bnP (lenQ v0) fun w7_1 => 
  bnX (lp c_slices_IndexFunc_api_Kid_api_Kid_0 [(0, .v v0), (1, .v v1), (7, .v w7_1), (8, .v (.int .i64 0))] [] Q) (outX 0 (goC (evalPK call lp c_slices_IndexFunc_api_Kid_api_Kid_1) (retPK [.tmp 4] [.n])))) := by kernel_rfl
def f_slices_IndexFunc_api_Kid_api_Kid {s : PSpecs} (hs : s.lookup 75 = none) (v0 v1 : AV) (Q : AHeap) := (callP_fn (E := penv s) (f := 75) (fn := pf_slices_IndexFunc_api_Kid_api_Kid) hs rfl [v0, v1] Q rfl).trans (g_slices_IndexFunc_api_Kid_api_Kid (call := callP (penv s)) (lp := loopP (penv s)) v0 v1 Q)
theorem g_kids_place {call : CallF} {lp : PLoopF} (v0 v1 : AV) (Q : AHeap) : evalPK call lp c_kids_place [(0, .v v0), (1, .v v1)] [] Q (retPK [.tmp 4, .tmp 5] [.n, .n]) = (
  bnS (call 81 [v0, v1, .fn 82 [] []] Q) fun w8_1 Q2 => 
  bnP (extA (frz w8_1) 0) fun w9_3 => 
  bnP (extA (frz w8_1) 1) fun w10_4 => 
  bnP (rcv false .n w9_3) fun r5 => bnP (rcv false .n w10_4) fun r6 => some (.tup [frz r5, frz r6], Q2)) := by kernel_rfl
def f_kids_place {s : PSpecs} (hs : s.lookup 76 = none) (v0 v1 : AV) (Q : AHeap) := (callP_fn (E := penv s) (f := 76) (fn := pf_kids_place) hs rfl [v0, v1] Q rfl).trans (g_kids_place (call := callP (penv s)) (lp := loopP (penv s)) v0 v1 Q)
theorem g_path_Has {call : CallF} {lp : PLoopF} (v0 v1 : AV) (Q : AHeap) : evalPK call lp c_path_Has [(0, .v v0), (1, .v v1)] [] Q (retPK [.tmp 4] [.n]) = (
  bnS (call 84 [v0, v1] Q) fun w7_1 Q2 => 
  bnP (rcv false .n (frz w7_1)) fun r3 => some (r3, Q2)) := by kernel_rfl
def f_path_Has {s : PSpecs} (hs : s.lookup 77 = none) (v0 v1 : AV) (Q : AHeap) := (callP_fn (E := penv s) (f := 77) (fn := pf_path_Has) hs rfl [v0, v1] Q rfl).trans (g_path_Has (call := callP (penv s)) (lp := loopP (penv s)) v0 v1 Q)
theorem g_kids_Hear {call : CallF} {lp : PLoopF} (v0 v1_0 v1_1 v1_2 : AV) (Q : AHeap) : evalPK call lp c_kids_Hear [(0, .v v0), (1, .v (.agg [v1_0, v1_1, v1_2]))] [] Q (retPK [.tmp 4, .tmp 5] [.f 3, .n]) = (
  bnC 3 (stC 3 (.agg [v1_0, v1_1, v1_2])) fun s1 s2 s3 => 
  bnS (call 65 [v0] Q) fun w10_4 Q5 => bnL (owZ 3 w10_4) fun l6 => 
  bnS (call 48 [v0, s1, s2] Q5) fun w16_7 Q8 => 
  cndS (frz w16_7) (fun _ => some (.tup [.fz 3 l6, .bool false], Q8))
  (fun _ => bnS (call 76 [v0, s1] Q8) fun w22_9 Q10 => 
  bnP (extA (frz w22_9) 0) fun w23_11 => 
  bnP (extA (frz w22_9) 1) fun w24_12 => 
  cndS w24_12 (fun _ => bnN (idxN (l6 : List AV).length w23_11) fun i13 => 
  bnC 3 (stC 3 (.agg [s1, s2, s3])) fun s14 s15 s16 => 
  bnP ((l6)[i13]?) fun e17 => bnP (setE e17 0 [s14, s15, s16]) fun e18 => 
  some (.tup [.fz 3 ((l6).set i13 e18), .bool true], Q10))
  (fun _ => pinB (elOk 3 (.agg [s1, s2, s3])) <| 
  bnS (call 1000085 [.ow 3 l6, w23_11, .lt 3 [.agg [s1, s2, s3]]] Q10) fun w35_19 Q20 => bnL (owZ 3 w35_19) fun l21 => 
  some (.tup [.fz 3 l21, .bool true], Q20)))) := by kernel_rfl
def f_kids_Hear {s : PSpecs} (hs : s.lookup 78 = none) (v0 v1_0 v1_1 v1_2 : AV) (Q : AHeap) := (callP_fn (E := penv s) (f := 78) (fn := pf_kids_Hear) hs rfl [v0, .agg [v1_0, v1_1, v1_2]] Q rfl).trans (g_kids_Hear (call := callP (penv s)) (lp := loopP (penv s)) v0 v1_0 v1_1 v1_2 Q)
theorem g_path_May {call : CallF} {lp : PLoopF} (v0 : AV) (Q : AHeap) : evalPK call lp c_path_May [(0, .v v0)] [] Q (retPK [.tmp 2] [.n]) = (
  bnS (call 86 [v0] Q) fun w7_1 Q2 => 
  bnP (tasP 101 (.agg [.int .i64 0]) true (frz w7_1)) fun w8_3 => 
  bnP (extA w8_3 0) fun w9_4 => 
  bnP (extA w8_3 1) fun w10_5 => 
  bnC 1 (stC 1 w9_4) fun s6 => 
  bnP (unA .not w10_5) fun w12_7 => 
  bnP (rcv false .n w12_7) fun r8 => some (r8, Q2)) := by kernel_rfl
def f_path_May {s : PSpecs} (hs : s.lookup 79 = none) (v0 : AV) (Q : AHeap) := (callP_fn (E := penv s) (f := 79) (fn := pf_path_May) hs rfl [v0] Q rfl).trans (g_path_May (call := callP (penv s)) (lp := loopP (penv s)) v0 Q)
theorem g_path_Grand {call : CallF} {lp : PLoopF} (v0 : AV) (Q : AHeap) : evalPK call lp c_path_Grand [(0, .v v0)] [] Q (retPK [.tmp 2] [.n]) = (
  bnP (lenQ v0) fun w4_1 => 
  bnP (binA .lss w4_1 (.int .i64 2)) fun w5_2 => 
  cndS w5_2 (fun _ => some (.int .i64 0, Q))
  (fun _ => bnP (lenQ v0) fun w8_3 => 
  bnP (binA .sub w8_3 (.int .i64 2)) fun w9_4 => 
  bnP (elQ 1 v0 w9_4) fun e5 => 
  bnP ((AV.cells e5)[0]?) fun w11_6 => 
  bnP (rcv false .n w11_6) fun r7 => some (r7, Q))) := by kernel_rfl
def f_path_Grand {s : PSpecs} (hs : s.lookup 80 = none) (v0 : AV) (Q : AHeap) := (callP_fn (E := penv s) (f := 80) (fn := pf_path_Grand) hs rfl [v0] Q rfl).trans (g_path_Grand (call := callP (penv s)) (lp := loopP (penv s)) v0 Q)
theorem p_slices_BinarySearchFunc_api_Kid_api_Kid_int_0 {β : Type} (call : CallF) (lp : PLoopF) (t0 t1 t2 t8 t9 t10 : AV) (Q : AHeap) (k : PK β) : evalPK call lp c_slices_BinarySearchFunc_api_Kid_api_Kid_int_0 [(0, .v t0), (1, .v t1), (2, .v t2), (8, .v t8), (9, .v t9), (10, .v t10)] [] Q k = (
  bnP (binA .lss t9 t10) fun w17_1 => 
  cndS w17_1 (fun _ => bnX (bnP (binA .add t9 t10) fun w20_2 => 
  bnP (cviA .u64 w20_2) fun w21_3 => 
  bnP (binA .shr w21_3 (.int .u64 1)) fun w22_4 => 
  bnP (cviA .i64 w22_4) fun w23_5 => 
  bnP (elQ 3 t0 w23_5) fun e6 => 
  bnC 3 (cut (AV.cells e6) 0 3) fun c28_7 c28_8 c28_9 => 
  bnF t2 fun f12 f12f f12c => 
  bnS (lowF call f12 (f12f ++ [.agg [c28_7, c28_8, c28_9], t1] ++ f12c) Q) fun w30_10 Q11 => 
  bnP (binA .lss (frz w30_10) (.int .i64 0)) fun w31_13 => 
  cndS w31_13 (fun _ => bnP (binA .add w23_5 (.int .i64 1)) fun w33_14 => 
  some (.normal, [(0, .v t0), (1, .v t1), (2, .v t2), (8, .v t8), (9, .v w33_14), (10, .v t10)], [], Q11))
  (fun _ => some (.normal, [(0, .v t0), (1, .v t1), (2, .v t2), (8, .v t8), (9, .v t9), (10, .v w23_5)], [], Q11)))
  (outX 1 (finC [] [] [0, 1, 2, 8, 9, 10] [] k)))
  (fun _ => k (.exit 0) [(0, .v t0), (1, .v t1), (2, .v t2), (8, .v t8), (9, .v t9)] [] Q)) := by kernel_rfl
noncomputable def L_slices_BinarySearchFunc_api_Kid_api_Kid_int_0 (s : PSpecs) (t0 t1 t2 t8 t9 t10 : AV) (Q : AHeap) : Option PEnd := loopP (penv s) c_slices_BinarySearchFunc_api_Kid_api_Kid_int_0 [(0, .v t0), (1, .v t1), (2, .v t2), (8, .v t8), (9, .v t9), (10, .v t10)] [] Q
theorem L_slices_BinarySearchFunc_api_Kid_api_Kid_int_0_fold (s : PSpecs) (t0 t1 t2 t8 t9 t10 : AV) (Q : AHeap) : loopP (penv s) c_slices_BinarySearchFunc_api_Kid_api_Kid_int_0 [(0, .v t0), (1, .v t1), (2, .v t2), (8, .v t8), (9, .v t9), (10, .v t10)] [] Q = L_slices_BinarySearchFunc_api_Kid_api_Kid_int_0 s t0 t1 t2 t8 t9 t10 Q := rfl
theorem L_slices_BinarySearchFunc_api_Kid_api_Kid_int_0_eq (s : PSpecs) (t0 t1 t2 t8 t9 t10 : AV) (Q : AHeap) : L_slices_BinarySearchFunc_api_Kid_api_Kid_int_0 s t0 t1 t2 t8 t9 t10 Q = evalPK (callP (penv s)) (loopP (penv s)) c_slices_BinarySearchFunc_api_Kid_api_Kid_int_0 [(0, .v t0), (1, .v t1), (2, .v t2), (8, .v t8), (9, .v t9), (10, .v t10)] [] Q (goX (fun τ ω Q => loopP (penv s) c_slices_BinarySearchFunc_api_Kid_api_Kid_int_0 τ ω Q) ret4) := loopP_body
abbrev X_slices_BinarySearchFunc_api_Kid_api_Kid_int_0_x0 (t0 t1 t2 t8 t9 : AV) (Q : AHeap) : Option PEnd := some (.exit 0, [(0, .v t0), (1, .v t1), (2, .v t2), (8, .v t8), (9, .v t9)], [], Q)
theorem p_slices_BinarySearchFunc_api_Kid_api_Kid_int_1 {β : Type} (call : CallF) (lp : PLoopF) (t0 t1 t2 t8 t9 : AV) (Q : AHeap) (k : PK β) : evalPK call lp c_slices_BinarySearchFunc_api_Kid_api_Kid_int_1 [(0, .v t0), (1, .v t1), (2, .v t2), (8, .v t8), (9, .v t9)] [] Q k = (
  bnP (binA .lss t9 t8) fun w38_1 => 
  bnP (gdQ w38_1 true (some t2)) fun w40_2 => 
  bnP (gdQ w38_1 true (some t0)) fun w41_3 => 
  bnP (gdQ w38_1 true (some t9)) fun w42_4 => 
  bnP (gdQ w38_1 true (elQ 3 w41_3 w42_4)) fun e5 => 
  bnP (gdQ w38_1 true ((cut (AV.cells e5) 0 3).map AV.agg)) fun w44_6 => 
  bnP (gdQ w38_1 true (some t1)) fun w45_7 => 
  bnS (gdH w38_1 true (bnF w40_2 fun f10 f10f f10c => lowF call f10 (f10f ++ [w44_6, w45_7] ++ f10c) Q) Q) fun w46_8 Q9 => 
  bnP (gdQ w38_1 true (binA .eql (frz w46_8) (.int .i64 0))) fun w47_11 => 
  bnP (pickA w38_1 w47_11 (.bool false)) fun w48_12 => 
  k .ret [(7, .v w48_12), (6, .v t9), (48, .v w48_12), (47, .v w47_11), (46, .v (frz w46_8)), (45, .v w45_7), (44, .v w44_6), (43, .gd 39 true (.fp e5 0)), (42, .v w42_4), (41, .v w41_3), (40, .v w40_2), (39, .v w38_1), (38, .v w38_1), (37, .v t8), (36, .v t9), (35, .v t9), (0, .v t0), (1, .v t1), (2, .v t2), (8, .v t8), (9, .v t9)] [] Q9) := by kernel_rfl
theorem g_slices_BinarySearchFunc_api_Kid_api_Kid_int {call : CallF} {lp : PLoopF} (v0 v1 v2 : AV) (Q : AHeap) : evalPK call lp c_slices_BinarySearchFunc_api_Kid_api_Kid_int [(0, .v v0), (1, .v v1), (2, .v v2)] [] Q (retPK [.tmp 6, .tmp 7] [.n, .n]) = (
  bnP (lenQ v0) fun w13_1 => 
  bnX (lp c_slices_BinarySearchFunc_api_Kid_api_Kid_int_0 [(0, .v v0), (1, .v v1), (2, .v v2), (8, .v w13_1), (9, .v (.int .i64 0)), (10, .v w13_1)] [] Q) (outX 0 (goC (evalPK call lp c_slices_BinarySearchFunc_api_Kid_api_Kid_int_1) (retPK [.tmp 6, .tmp 7] [.n, .n])))) := by kernel_rfl
def f_slices_BinarySearchFunc_api_Kid_api_Kid_int {s : PSpecs} (hs : s.lookup 81 = none) (v0 v1 v2 : AV) (Q : AHeap) := (callP_fn (E := penv s) (f := 81) (fn := pf_slices_BinarySearchFunc_api_Kid_api_Kid_int) hs rfl [v0, v1, v2] Q rfl).trans (g_slices_BinarySearchFunc_api_Kid_api_Kid_int (call := callP (penv s)) (lp := loopP (penv s)) v0 v1 v2 Q)
theorem g_kids_place_1 {call : CallF} {lp : PLoopF} (v0_0 v0_1 v0_2 v1 : AV) (Q : AHeap) : evalPK call lp c_kids_place_1 [(0, .v (.agg [v0_0, v0_1, v0_2])), (1, .v v1)] [] Q (retPK [.tmp 4] [.n]) = (
  bnC 3 (stC 3 (.agg [v0_0, v0_1, v0_2])) fun s1 s2 s3 => 
  bnS (call 83 [s1, v1] Q) fun w8_4 Q5 => 
  bnP (rcv false .n (frz w8_4)) fun r6 => some (r6, Q5)) := by kernel_rfl
def f_kids_place_1 {s : PSpecs} (hs : s.lookup 82 = none) (v0_0 v0_1 v0_2 v1 : AV) (Q : AHeap) := (callP_fn (E := penv s) (f := 82) (fn := pf_kids_place_1) hs rfl [.agg [v0_0, v0_1, v0_2], v1] Q rfl).trans (g_kids_place_1 (call := callP (penv s)) (lp := loopP (penv s)) v0_0 v0_1 v0_2 v1 Q)
theorem g_cmp_Compare_int {call : CallF} {lp : PLoopF} (v0 v1 : AV) (Q : AHeap) : evalPK call lp c_cmp_Compare_int [(0, .v v0), (1, .v v1)] [] Q (retPK [.tmp 4] [.n]) = (
  bnS (call 87 [v0] Q) fun w8_1 Q2 => 
  bnS (call 87 [v1] Q2) fun w10_3 Q4 => 
  cndS (frz w8_1) (fun _ => cndS (frz w10_3) (fun _ => some (.int .i64 0, Q4))
  (fun _ => some (.int .i64 (-1), Q4)))
  (fun _ => cndS (frz w10_3) (fun _ => some (.int .i64 1, Q4))
  (fun _ => bnP (binA .lss v0 v1) fun w16_5 => 
  cndS w16_5 (fun _ => some (.int .i64 (-1), Q4))
  (fun _ => bnP (binA .gtr v0 v1) fun w19_6 => 
  cndS w19_6 (fun _ => some (.int .i64 1, Q4))
  (fun _ => some (.int .i64 0, Q4)))))) := by kernel_rfl
def f_cmp_Compare_int {s : PSpecs} (hs : s.lookup 83 = none) (v0 v1 : AV) (Q : AHeap) := (callP_fn (E := penv s) (f := 83) (fn := pf_cmp_Compare_int) hs rfl [v0, v1] Q rfl).trans (g_cmp_Compare_int (call := callP (penv s)) (lp := loopP (penv s)) v0 v1 Q)
theorem g_slices_Contains_int_int {call : CallF} {lp : PLoopF} (v0 v1 : AV) (Q : AHeap) : evalPK call lp c_slices_Contains_int_int [(0, .v v0), (1, .v v1)] [] Q (retPK [.tmp 4] [.n]) = (
  bnS (call 88 [v0, v1] Q) fun w7_1 Q2 => 
  bnP (binA .geq (frz w7_1) (.int .i64 0)) fun w8_3 => 
  bnP (rcv false .n w8_3) fun r4 => some (r4, Q2)) := by kernel_rfl
def f_slices_Contains_int_int {s : PSpecs} (hs : s.lookup 84 = none) (v0 v1 : AV) (Q : AHeap) := (callP_fn (E := penv s) (f := 84) (fn := pf_slices_Contains_int_int) hs rfl [v0, v1] Q rfl).trans (g_slices_Contains_int_int (call := callP (penv s)) (lp := loopP (penv s)) v0 v1 Q)
theorem p_path_walk_0 {β : Type} (call : CallF) (lp : PLoopF) (t0 t21 t22 t23 : AV) (Q : AHeap) (k : PK β) : evalPK call lp c_path_walk_0 [(0, .v t0), (21, .v t21), (22, .v t22), (23, .v t23)] [] Q k = (
  bnP (binA .lss t23 t22) fun w24_1 => 
  cndS w24_1 (fun _ => bnP (elQ 1 t21 t23) fun e2 => 
  bnP ((AV.cells e2)[0]?) fun w27_3 => 
  bnP (binA .lss w27_3 (.int .i64 1)) fun w29_4 => 
  bnP (gdQ w29_4 false (some w27_3)) fun w31_5 => 
  bnP (gdQ w29_4 false (binA .gtr w31_5 (.int .i64 8))) fun w32_6 => 
  bnP (pickA w29_4 (.bool true) w32_6) fun w33_7 => 
  bnP (gdQ w33_7 false (some t0)) fun w35_8 => 
  bnP (gdQ w33_7 false (some t23)) fun w36_9 => 
  bnP (gdQ w33_7 false (slcQ 1 w35_8 none (some w36_9))) fun w37_10 => 
  bnP (gdQ w33_7 false (some w27_3)) fun w38_11 => 
  bnS (gdH w33_7 false (call 84 [w37_10, w38_11] Q) Q) fun w39_12 Q13 => 
  bnP (pickA w33_7 (.bool true) (frz w39_12)) fun w40_14 => 
  cndS w40_14 (fun _ => bnC 1 (fillP [.int .i64 0] [(0, 1, t23)]) fun c42_15 => 
  k .ret [(2, .v (.ifc 101 (.agg [c42_15])))] [] Q13)
  (fun _ => bnP (binA .add t23 (.int .i64 1)) fun w44_16 => 
  k .normal [(0, .v t0), (21, .v t21), (22, .v t22), (23, .v w44_16)] [] Q13))
  (fun _ => k (.exit 0) [] [] Q)) := by kernel_rfl
noncomputable def L_path_walk_0 (s : PSpecs) (t0 t21 t22 t23 : AV) (Q : AHeap) : Option PEnd := loopP (penv s) c_path_walk_0 [(0, .v t0), (21, .v t21), (22, .v t22), (23, .v t23)] [] Q
theorem L_path_walk_0_fold (s : PSpecs) (t0 t21 t22 t23 : AV) (Q : AHeap) : loopP (penv s) c_path_walk_0 [(0, .v t0), (21, .v t21), (22, .v t22), (23, .v t23)] [] Q = L_path_walk_0 s t0 t21 t22 t23 Q := rfl
theorem L_path_walk_0_eq (s : PSpecs) (t0 t21 t22 t23 : AV) (Q : AHeap) : L_path_walk_0 s t0 t21 t22 t23 Q = evalPK (callP (penv s)) (loopP (penv s)) c_path_walk_0 [(0, .v t0), (21, .v t21), (22, .v t22), (23, .v t23)] [] Q (goX (fun τ ω Q => loopP (penv s) c_path_walk_0 τ ω Q) ret4) := loopP_body
abbrev X_path_walk_0_x0 (Q : AHeap) : Option PEnd := some (.exit 0, [], [], Q)
abbrev X_path_walk_0_ret (t2 : AV) (Q : AHeap) : Option PEnd := some (.ret, [(2, .v t2)], [], Q)
theorem p_path_walk_1 {β : Type} (call : CallF) (lp : PLoopF) (Q : AHeap) (k : PK β) : evalPK call lp c_path_walk_1 [] [] Q k = (
  k .ret [(2, .v .nilifc)] [] Q) := by kernel_rfl
theorem g_path_walk {call : CallF} {lp : PLoopF} (v0 : AV) (Q : AHeap) : evalPK call lp c_path_walk [(0, .v v0)] [] Q (retPK [.tmp 2] [.n]) = (
  bnP (lenQ v0) fun w6_1 => 
  bnP (binA .lss w6_1 (.int .i64 1)) fun w7_2 => 
  bnP (gdQ w7_2 false (some v0)) fun w9_3 => 
  bnP (gdQ w7_2 false (lenQ w9_3)) fun w10_4 => 
  bnP (gdQ w7_2 false (binA .gtr w10_4 (.int .i64 10))) fun w11_5 => 
  bnP (pickA w7_2 (.bool true) w11_5) fun w12_6 => 
  bnP (gdQ w12_6 false (some v0)) fun w14_7 => 
  bnP (gdQ w12_6 false (elQ 1 w14_7 (.int .i64 0))) fun e8 => 
  bnP (gdQ w12_6 false ((AV.cells e8)[0]?)) fun w16_9 => 
  bnP (gdQ w12_6 false (binA .neq w16_9 (.int .i64 1))) fun w17_10 => 
  bnP (pickA w12_6 (.bool true) w17_10) fun w18_11 => 
  cndS w18_11 (fun _ => some (.ifc 101 (.agg [.int .i64 0]), Q))
  (fun _ => bnP (lenQ v0) fun w22_12 => 
  bnX (lp c_path_walk_0 [(0, .v v0), (21, .v v0), (22, .v w22_12), (23, .v (.int .i64 0))] [] Q) (outX 0 (goC (evalPK call lp c_path_walk_1) (retPK [.tmp 2] [.n]))))) := by kernel_rfl
def f_path_walk {s : PSpecs} (hs : s.lookup 86 = none) (v0 : AV) (Q : AHeap) := (callP_fn (E := penv s) (f := 86) (fn := pf_path_walk) hs rfl [v0] Q rfl).trans (g_path_walk (call := callP (penv s)) (lp := loopP (penv s)) v0 Q)
theorem g_cmp_isNaN_int {call : CallF} {lp : PLoopF} (v0 : AV) (Q : AHeap) : evalPK call lp c_cmp_isNaN_int [(0, .v v0)] [] Q (retPK [.tmp 2] [.n]) = (
  bnP (binA .neq v0 v0) fun w5_1 => 
  bnP (rcv false .n w5_1) fun r2 => some (r2, Q)) := by kernel_rfl
def f_cmp_isNaN_int {s : PSpecs} (hs : s.lookup 87 = none) (v0 : AV) (Q : AHeap) := (callP_fn (E := penv s) (f := 87) (fn := pf_cmp_isNaN_int) hs rfl [v0] Q rfl).trans (g_cmp_isNaN_int (call := callP (penv s)) (lp := loopP (penv s)) v0 Q)
theorem p_slices_Index_int_int_0 {β : Type} (call : CallF) (lp : PLoopF) (t0 t1 t7 t8 : AV) (Q : AHeap) (k : PK β) : evalPK call lp c_slices_Index_int_int_0 [(0, .v t0), (1, .v t1), (7, .v t7), (8, .v t8)] [] Q k = (
  bnP (binA .lss t8 t7) fun w9_1 => 
  cndS w9_1 (fun _ => bnP (elQ 1 t0 t8) fun e2 => 
  bnP ((AV.cells e2)[0]?) fun w15_3 => 
  bnP (binA .eql t1 w15_3) fun w16_4 => 
  cndS w16_4 (fun _ => k .ret [(4, .v t8)] [] Q)
  (fun _ => bnP (binA .add t8 (.int .i64 1)) fun w18_5 => 
  k .normal [(0, .v t0), (1, .v t1), (7, .v t7), (8, .v w18_5)] [] Q))
  (fun _ => k (.exit 0) [] [] Q)) := by kernel_rfl
noncomputable def L_slices_Index_int_int_0 (s : PSpecs) (t0 t1 t7 t8 : AV) (Q : AHeap) : Option PEnd := loopP (penv s) c_slices_Index_int_int_0 [(0, .v t0), (1, .v t1), (7, .v t7), (8, .v t8)] [] Q
theorem L_slices_Index_int_int_0_fold (s : PSpecs) (t0 t1 t7 t8 : AV) (Q : AHeap) : loopP (penv s) c_slices_Index_int_int_0 [(0, .v t0), (1, .v t1), (7, .v t7), (8, .v t8)] [] Q = L_slices_Index_int_int_0 s t0 t1 t7 t8 Q := rfl
theorem L_slices_Index_int_int_0_eq (s : PSpecs) (t0 t1 t7 t8 : AV) (Q : AHeap) : L_slices_Index_int_int_0 s t0 t1 t7 t8 Q = evalPK (callP (penv s)) (loopP (penv s)) c_slices_Index_int_int_0 [(0, .v t0), (1, .v t1), (7, .v t7), (8, .v t8)] [] Q (goX (fun τ ω Q => loopP (penv s) c_slices_Index_int_int_0 τ ω Q) ret4) := loopP_body
abbrev X_slices_Index_int_int_0_x0 (Q : AHeap) : Option PEnd := some (.exit 0, [], [], Q)
abbrev X_slices_Index_int_int_0_ret (t4 : AV) (Q : AHeap) : Option PEnd := some (.ret, [(4, .v t4)], [], Q)
theorem p_slices_Index_int_int_1 {β : Type} (call : CallF) (lp : PLoopF) (Q : AHeap) (k : PK β) : evalPK call lp c_slices_Index_int_int_1 [] [] Q k = (
  k .ret [(4, .v (.int .i64 (-1)))] [] Q) := by kernel_rfl
theorem g_slices_Index_int_int {call : CallF} {lp : PLoopF} (v0 v1 : AV) (Q : AHeap) : evalPK call lp c_slices_Index_int_int [(0, .v v0), (1, .v v1)] [] Q (retPK [.tmp 4] [.n]) = (
  bnP (lenQ v0) fun w7_1 => 
  bnX (lp c_slices_Index_int_int_0 [(0, .v v0), (1, .v v1), (7, .v w7_1), (8, .v (.int .i64 0))] [] Q) (outX 0 (goC (evalPK call lp c_slices_Index_int_int_1) (retPK [.tmp 4] [.n])))) := by kernel_rfl
def f_slices_Index_int_int {s : PSpecs} (hs : s.lookup 88 = none) (v0 v1 : AV) (Q : AHeap) := (callP_fn (E := penv s) (f := 88) (fn := pf_slices_Index_int_int) hs rfl [v0, v1] Q rfl).trans (g_slices_Index_int_int (call := callP (penv s)) (lp := loopP (penv s)) v0 v1 Q)
end Go.Proofs.Ytdbbdfmkglgjdaa.Pi
