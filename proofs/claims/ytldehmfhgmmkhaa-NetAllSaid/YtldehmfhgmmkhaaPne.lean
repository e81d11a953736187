/- Equations by values. Printed by mkpv.py of this repo. -/
import Derived.Test.YtldehmfhgmmkhaaPnd
import Derived.Test.YtldehmfhgmmkhaaPvE
namespace Go.Proofs.Ytldehmfhgmmkhaa.Pn
open Go.Ab
set_option maxRecDepth 100000
set_option linter.unusedVariables false
set_option linter.unusedSimpArgs false
set_option linter.defProp false
theorem p_pleachlaw13_NetAll_0 {β : Type} (call : CallF) (lp : PLoopF) (t0 t1 t7 t8 t9 t13 t14 s5_0 s5_1 s5_2 s15_0 s15_1 s15_2 : AV) (Q : AHeap) (k : PK β) : evalPK call lp c_pleachlaw13_NetAll_0 [(0, .v t0), (1, .v t1), (5, .lp 5 0), (7, .v t7), (8, .v t8), (9, .v t9), (13, .v t13), (14, .v t14), (15, .lp 15 0)] [(5, .cells [s5_0, s5_1, s5_2]), (15, .cells [s15_0, s15_1, s15_2])] Q k = (
  bnS (call 29 [t7, .agg [s15_0, s15_1, s15_2]] Q) fun w134_1 Q2 => 
  bnS (call 30 [t8, .agg [s15_0, s15_1, s15_2]] Q2) fun w137_3 Q4 => 
  k .normal [(0, .v t0), (1, .v t1), (5, .lp 5 0), (9, .v t9), (11, .v (frz w134_1)), (12, .v (frz w137_3)), (13, .v t13), (14, .v t14)] [(5, .cells [s5_0, s5_1, s5_2])] Q4) := by kernel_rfl
theorem p_pleachlaw13_NetAll_1 {β : Type} (call : CallF) (lp : PLoopF) (t0 t1 t7 t8 t9 t10 t22 s5_0 s5_1 s5_2 : AV) (Q : AHeap) (k : PK β) : evalPK call lp c_pleachlaw13_NetAll_1 [(0, .v t0), (1, .v t1), (5, .lp 5 0), (7, .v t7), (8, .v t8), (9, .v t9), (10, .v t10), (22, .v t22)] [(5, .cells [s5_0, s5_1, s5_2])] Q k = (
  bnP (binA .rem t10 (.int .i64 20)) fun w88_1 => 
  bnS (call 36 [t7, w88_1, t22] Q) fun w90_2 Q3 => 
  bnP (extA (frz w90_2) 0) fun w91_4 => 
  bnP (extA (frz w90_2) 1) fun w92_5 => 
  bnP (binA .rem t10 (.int .i64 20)) fun w96_6 => 
  bnS (call 37 [t8, w96_6, t22] Q3) fun w98_7 Q8 => 
  bnP (extA (frz w98_7) 0) fun w99_9 => 
  bnP (extA (frz w98_7) 1) fun w100_10 => 
  k .normal [(0, .v t0), (1, .v t1), (5, .lp 5 0), (9, .v t9), (11, .v w91_4), (12, .v w99_9), (13, .v w92_5), (14, .v w100_10)] [(5, .cells [s5_0, s5_1, s5_2])] Q8) := by kernel_rfl
theorem p_pleachlaw13_NetAll_2 {β : Type} (call : CallF) (lp : PLoopF) (t0 t1 t7 t8 t9 t10 t178 s5_0 s5_1 s5_2 : AV) (Q : AHeap) (k : PK β) : evalPK call lp c_pleachlaw13_NetAll_2 [(0, .v t0), (1, .v t1), (5, .lp 5 0), (7, .v t7), (8, .v t8), (9, .v t9), (10, .v t10), (178, .v t178)] [(5, .cells [s5_0, s5_1, s5_2])] Q k = (
  cndS t178 (fun _ => bnP (binA .rem t10 (.int .i64 20)) fun w184_1 => 
  bnS (call 34 [t7, w184_1] Q) fun w185_2 Q3 => 
  bnP (extA (frz w185_2) 0) fun w186_4 => 
  bnP (extA (frz w185_2) 1) fun w187_5 => 
  bnP (binA .rem t10 (.int .i64 20)) fun w191_6 => 
  bnS (call 35 [t8, w191_6] Q3) fun w192_7 Q8 => 
  bnP (extA (frz w192_7) 0) fun w193_9 => 
  bnP (extA (frz w192_7) 1) fun w194_10 => 
  k .normal [(0, .v t0), (1, .v t1), (5, .lp 5 0), (9, .v t9), (11, .v w186_4), (12, .v w193_9), (13, .v w187_5), (14, .v w194_10)] [(5, .cells [s5_0, s5_1, s5_2])] Q8)
  (fun _ => bnP (elQ 4 t0 t9) fun e11 => 
  bnN (idxN 4 (.int .i64 2)) fun i12 => 
  bnP ((AV.cells e11)[(0 + i12 * 1)]?) fun w67_13 => 
  bnP (cviA .i64 w67_13) fun w68_14 => 
  bnP (binA .mul w68_14 (.int .i64 256)) fun w69_15 => 
  bnP (elQ 4 t0 t9) fun e16 => 
  bnN (idxN 4 (.int .i64 3)) fun i17 => 
  bnP ((AV.cells e16)[(0 + i17 * 1)]?) fun w74_18 => 
  bnP (cviA .i64 w74_18) fun w75_19 => 
  bnP (binA .add w69_15 w75_19) fun w76_20 => 
  bnX (bnP (elQ 4 t0 t9) fun e21 => 
  bnN (idxN 4 (.int .i64 2)) fun i22 => 
  bnP ((AV.cells e21)[(0 + i22 * 1)]?) fun w81_23 => 
  bnP (binA .rem w81_23 (.int .u8 16)) fun w82_24 => 
  bnP (binA .eql w82_24 (.int .u8 1)) fun w83_25 => 
  cndS w83_25 (fun _ => some (.normal, [(0, .v t0), (1, .v t1), (5, .lp 5 0), (7, .v t7), (8, .v t8), (9, .v t9), (10, .v t10), (22, .v t1)], [(5, .cells [s5_0, s5_1, s5_2])], Q))
  (fun _ => some (.normal, [(0, .v t0), (1, .v t1), (5, .lp 5 0), (7, .v t7), (8, .v t8), (9, .v t9), (10, .v t10), (22, .v w76_20)], [(5, .cells [s5_0, s5_1, s5_2])], Q)))
  (goC (evalPK call lp c_pleachlaw13_NetAll_1) (finC [] [] [0, 1, 5, 9, 11, 12, 13, 14] [(5, 5)] k)))) := by kernel_rfl
theorem p_pleachlaw13_NetAll_3 {β : Type} (call : CallF) (lp : PLoopF) (t0 t1 t7 t8 t9 t10 t13 t14 t62 t101 s5_0 s5_1 s5_2 : AV) (Q : AHeap) (k : PK β) : evalPK call lp c_pleachlaw13_NetAll_3 [(0, .v t0), (1, .v t1), (5, .lp 5 0), (7, .v t7), (8, .v t8), (9, .v t9), (10, .v t10), (13, .v t13), (14, .v t14), (62, .v t62), (101, .v t101)] [(5, .cells [s5_0, s5_1, s5_2])] Q k = (
  cndS t101 (fun _ => bnP (elQ 4 t0 t9) fun e1 => 
  bnN (idxN 4 (.int .i64 2)) fun i2 => 
  bnP ((AV.cells e1)[(0 + i2 * 1)]?) fun w110_3 => 
  bnP (binA .rem w110_3 (.int .u8 8)) fun w111_4 => 
  bnP (cviA .i64 w111_4) fun w112_5 => 
  bnP (binA .add (.int .i64 1) w112_5) fun w113_6 => 
  bnP (elQ 4 t0 t9) fun e7 => 
  bnN (idxN 4 (.int .i64 3)) fun i8 => 
  bnP ((AV.cells e7)[(0 + i8 * 1)]?) fun w118_9 => 
  bnP (binA .rem w118_9 (.int .u8 26)) fun w119_10 => 
  bnP (binA .add (.int .u8 97) w119_10) fun w120_11 => 
  pinB (elOk 1 w120_11) <| 
  bnP (b2sQ (.fz 1 [w120_11, .int .u8 122])) fun w122_12 => 
  bnC 3 (fillP [.int .i64 0, .str [], .bool false] [(0, 1, w113_6), (1, 1, w122_12)]) fun c123_13 c123_14 c123_15 => 
  bnC 3 (stC 3 (.agg [c123_13, c123_14, c123_15])) fun s16 s17 s18 => 
  bnX (bnP (elQ 4 t0 t9) fun e19 => 
  bnN (idxN 4 (.int .i64 2)) fun i20 => 
  bnP ((AV.cells e19)[(0 + i20 * 1)]?) fun w128_21 => 
  bnP (binA .rem w128_21 (.int .u8 8)) fun w129_22 => 
  bnP (binA .eql w129_22 (.int .u8 0)) fun w130_23 => 
  cndS w130_23 (fun _ => bnC 3 (stC 3 (.agg [s5_0, s5_1, s5_2])) fun s24 s25 s26 => 
  some (.normal, [(0, .v t0), (1, .v t1), (5, .lp 5 0), (7, .v t7), (8, .v t8), (9, .v t9), (13, .v t13), (14, .v t14), (15, .lp 15 0)], [(5, .cells [s5_0, s5_1, s5_2]), (15, .cells [s24, s25, s26])], Q))
  (fun _ => some (.normal, [(0, .v t0), (1, .v t1), (5, .lp 5 0), (7, .v t7), (8, .v t8), (9, .v t9), (13, .v t13), (14, .v t14), (15, .lp 15 0)], [(5, .cells [s5_0, s5_1, s5_2]), (15, .cells [s16, s17, s18])], Q)))
  (goC (evalPK call lp c_pleachlaw13_NetAll_0) (finC [] [] [0, 1, 5, 9, 11, 12, 13, 14] [(5, 5)] k)))
  (fun _ => bnP (binA .eql t62 (.int .u8 4)) fun w139_27 => 
  cndS w139_27 (fun _ => bnP (binA .rem t10 (.int .i64 9)) fun w143_28 => 
  bnS (call 31 [t7, w143_28] Q) fun w144_29 Q30 => 
  bnP (extA (frz w144_29) 0) fun w145_31 => 
  bnP (extA (frz w144_29) 1) fun w146_32 => 
  bnP (extA (frz w144_29) 2) fun w147_33 => 
  bnC 3 (stC 3 w146_32) fun s34 s35 s36 => 
  bnP (binA .rem t10 (.int .i64 9)) fun w151_37 => 
  bnS (call 32 [t8, w151_37] Q30) fun w152_38 Q39 => 
  bnP (extA (frz w152_38) 0) fun w153_40 => 
  bnP (extA (frz w152_38) 1) fun w154_41 => 
  bnP (extA (frz w152_38) 2) fun w155_42 => 
  bnC 3 (stC 3 w154_41) fun s43 s44 s45 => 
  bnP (eqsA true (.st [(0, 1, .i), (1, 1, .s), (2, 1, .b)]) (.agg [s34, s35, s36]) (.agg [s43, s44, s45])) fun w158_46 => 
  cndS w158_46 (fun _ => k .ret [(6, .v (.bool false))] [] Q39)
  (fun _ => k .normal [(0, .v t0), (1, .v t1), (5, .lp 5 0), (9, .v t9), (11, .v w145_31), (12, .v w153_40), (13, .v w147_33), (14, .v w155_42)] [(5, .cells [s5_0, s5_1, s5_2])] Q39))
  (fun _ => bnP (binA .eql t62 (.int .u8 5)) fun w164_47 => 
  cndS w164_47 (fun _ => bnS (call 33 [t7, t10] Q) fun w168_48 Q49 => 
  bnP (extA (frz w168_48) 0) fun w169_50 => 
  bnP (extA (frz w168_48) 1) fun w170_51 => 
  bnS (call 32 [t8, t10] Q49) fun w174_52 Q53 => 
  bnP (extA (frz w174_52) 0) fun w175_54 => 
  bnP (extA (frz w174_52) 1) fun w176_55 => 
  bnP (extA (frz w174_52) 2) fun w177_56 => 
  k .normal [(0, .v t0), (1, .v t1), (5, .lp 5 0), (9, .v t9), (11, .v w169_50), (12, .v w175_54), (13, .v w170_51), (14, .v w177_56)] [(5, .cells [s5_0, s5_1, s5_2])] Q53)
  (fun _ => bnX (bnP (binA .eql t62 (.int .u8 6)) fun w179_57 => 
  cndS w179_57 (fun _ => some (.normal, [(0, .v t0), (1, .v t1), (5, .lp 5 0), (7, .v t7), (8, .v t8), (9, .v t9), (10, .v t10), (178, .v w179_57)], [(5, .cells [s5_0, s5_1, s5_2])], Q))
  (fun _ => bnP (binA .eql t62 (.int .u8 7)) fun w180_58 => 
  some (.normal, [(0, .v t0), (1, .v t1), (5, .lp 5 0), (7, .v t7), (8, .v t8), (9, .v t9), (10, .v t10), (178, .v w180_58)], [(5, .cells [s5_0, s5_1, s5_2])], Q)))
  (goC (evalPK call lp c_pleachlaw13_NetAll_2) (finC [] [] [0, 1, 5, 9, 11, 12, 13, 14] [(5, 5)] (finC [] [] [0, 1, 5, 9, 11, 12, 13, 14] [(5, 5)] (finC [] [] [0, 1, 5, 9, 11, 12, 13, 14] [(5, 5)] k)))))))) := by kernel_rfl
theorem p_pleachlaw13_NetAll_4 {β : Type} (call : CallF) (lp : PLoopF) (t0 t1 t9 t11 t12 t13 t14 s5_0 s5_1 s5_2 : AV) (Q : AHeap) (k : PK β) : evalPK call lp c_pleachlaw13_NetAll_4 [(0, .v t0), (1, .v t1), (5, .lp 5 0), (9, .v t9), (11, .v t11), (12, .v t12), (13, .v t13), (14, .v t14)] [(5, .cells [s5_0, s5_1, s5_2])] Q k = (
  bnP (eqsA true .b t13 t14) fun w197_1 => 
  bnP (gdQ w197_1 false (some t11)) fun w199_2 => 
  bnP (gdQ w197_1 false (some t12)) fun w200_3 => 
  bnS (gdH w197_1 false (call 38 [w199_2, w200_3] Q) Q) fun w201_4 Q5 => 
  bnP (gdQ w197_1 false (unA .not (frz w201_4))) fun w202_6 => 
  bnP (pickA w197_1 (.bool true) w202_6) fun w203_7 => 
  cndS w203_7 (fun _ => k .ret [(6, .v (.bool false))] [] Q5)
  (fun _ => k .normal [(0, .v t0), (1, .v t1), (5, .lp 5 0), (7, .v t11), (8, .v t12), (9, .v t9)] [(5, .cells [s5_0, s5_1, s5_2])] Q5)) := by kernel_rfl
theorem p_pleachlaw13_NetAll_5 {β : Type} (call : CallF) (lp : PLoopF) (t0 t1 t7 t8 t9 t10 s5_0 s5_1 s5_2 : AV) (Q : AHeap) (k : PK β) : evalPK call lp c_pleachlaw13_NetAll_5 [(0, .v t0), (1, .v t1), (5, .lp 5 0), (7, .v t7), (8, .v t8), (9, .v t9), (10, .v t10)] [(5, .cells [s5_0, s5_1, s5_2])] Q k = (
  bnX (bnP (elQ 4 t0 t9) fun e1 => 
  bnN (idxN 4 (.int .i64 0)) fun i2 => 
  bnP ((AV.cells e1)[(0 + i2 * 1)]?) fun w61_3 => 
  bnP (binA .rem w61_3 (.int .u8 9)) fun w62_4 => 
  bnX (bnX (bnP (binA .eql w62_4 (.int .u8 0)) fun w102_5 => 
  cndS w102_5 (fun _ => some (.normal, [(0, .v t0), (1, .v t1), (5, .lp 5 0), (7, .v t7), (8, .v t8), (9, .v t9), (10, .v t10), (13, .v (.bool false)), (14, .v (.bool false)), (62, .v w62_4), (101, .v w102_5)], [(5, .cells [s5_0, s5_1, s5_2])], Q))
  (fun _ => bnP (binA .eql w62_4 (.int .u8 1)) fun w103_6 => 
  cndS w103_6 (fun _ => some (.normal, [(0, .v t0), (1, .v t1), (5, .lp 5 0), (7, .v t7), (8, .v t8), (9, .v t9), (10, .v t10), (13, .v (.bool false)), (14, .v (.bool false)), (62, .v w62_4), (101, .v w103_6)], [(5, .cells [s5_0, s5_1, s5_2])], Q))
  (fun _ => bnP (binA .eql w62_4 (.int .u8 2)) fun w104_7 => 
  cndS w104_7 (fun _ => some (.normal, [(0, .v t0), (1, .v t1), (5, .lp 5 0), (7, .v t7), (8, .v t8), (9, .v t9), (10, .v t10), (13, .v (.bool false)), (14, .v (.bool false)), (62, .v w62_4), (101, .v w104_7)], [(5, .cells [s5_0, s5_1, s5_2])], Q))
  (fun _ => bnP (binA .eql w62_4 (.int .u8 3)) fun w105_8 => 
  some (.normal, [(0, .v t0), (1, .v t1), (5, .lp 5 0), (7, .v t7), (8, .v t8), (9, .v t9), (10, .v t10), (13, .v (.bool false)), (14, .v (.bool false)), (62, .v w62_4), (101, .v w105_8)], [(5, .cells [s5_0, s5_1, s5_2])], Q)))))
  (goC (evalPK call lp c_pleachlaw13_NetAll_3) ret4))
  (outX 2 ret4))
  (goC (evalPK call lp c_pleachlaw13_NetAll_4) k)) := by kernel_rfl
theorem p_pleachlaw13_NetAll_6 {β : Type} (call : CallF) (lp : PLoopF) (t0 t1 t7 t8 t9 s5_0 s5_1 s5_2 : AV) (Q : AHeap) (k : PK β) : evalPK call lp c_pleachlaw13_NetAll_6 [(0, .v t0), (1, .v t1), (5, .lp 5 0), (7, .v t7), (8, .v t8), (9, .v t9)] [(5, .cells [s5_0, s5_1, s5_2])] Q k = (
  bnP (binA .add t9 (.int .i64 1)) fun w39_1 => 
  k .normal [(0, .v t0), (1, .v t1), (5, .lp 5 0), (7, .v t7), (8, .v t8), (9, .v w39_1)] [(5, .cells [s5_0, s5_1, s5_2])] Q) := by kernel_rfl
theorem p_pleachlaw13_NetAll_7 {β : Type} (call : CallF) (lp : PLoopF) (t0 t1 t7 t8 t9 s5_0 s5_1 s5_2 : AV) (Q : AHeap) (k : PK β) : evalPK call lp c_pleachlaw13_NetAll_7 [(0, .v t0), (1, .v t1), (5, .lp 5 0), (7, .v t7), (8, .v t8), (9, .v t9)] [(5, .cells [s5_0, s5_1, s5_2])] Q k = (
  bnP (lenQ t0) fun w36_1 => 
  bnP (binA .lss t9 w36_1) fun w37_2 => 
  cndS w37_2 (fun _ => bnX (bnX (bnP (elQ 4 t0 t9) fun e3 => 
  bnN (idxN 4 (.int .i64 1)) fun i4 => 
  bnP ((AV.cells e3)[(0 + i4 * 1)]?) fun w44_5 => 
  bnP (cviA .i64 w44_5) fun w45_6 => 
  bnP (binA .rem w45_6 (.int .i64 70)) fun w46_7 => 
  bnX (bnP (elQ 4 t0 t9) fun e8 => 
  bnN (idxN 4 (.int .i64 3)) fun i9 => 
  bnP ((AV.cells e8)[(0 + i9 * 1)]?) fun w51_10 => 
  bnP (binA .rem w51_10 (.int .u8 16)) fun w52_11 => 
  bnP (binA .eql w52_11 (.int .u8 0)) fun w53_12 => 
  cndS w53_12 (fun _ => some (.normal, [(0, .v t0), (1, .v t1), (5, .lp 5 0), (7, .v t7), (8, .v t8), (9, .v t9), (10, .v t1)], [(5, .cells [s5_0, s5_1, s5_2])], Q))
  (fun _ => some (.normal, [(0, .v t0), (1, .v t1), (5, .lp 5 0), (7, .v t7), (8, .v t8), (9, .v t9), (10, .v w46_7)], [(5, .cells [s5_0, s5_1, s5_2])], Q)))
  (goC (evalPK call lp c_pleachlaw13_NetAll_5) ret4))
  (outX 1 ret4))
  (goC (evalPK call lp c_pleachlaw13_NetAll_6) k))
  (fun _ => k (.exit 0) [] [] Q)) := by kernel_rfl
noncomputable def L_pleachlaw13_NetAll_7 (s : PSpecs) (t0 t1 t7 t8 t9 s5_0 s5_1 s5_2 : AV) (Q : AHeap) : Option PEnd := loopP (penv s) c_pleachlaw13_NetAll_7 [(0, .v t0), (1, .v t1), (5, .lp 5 0), (7, .v t7), (8, .v t8), (9, .v t9)] [(5, .cells [s5_0, s5_1, s5_2])] Q
theorem L_pleachlaw13_NetAll_7_fold (s : PSpecs) (t0 t1 t7 t8 t9 s5_0 s5_1 s5_2 : AV) (Q : AHeap) : loopP (penv s) c_pleachlaw13_NetAll_7 [(0, .v t0), (1, .v t1), (5, .lp 5 0), (7, .v t7), (8, .v t8), (9, .v t9)] [(5, .cells [s5_0, s5_1, s5_2])] Q = L_pleachlaw13_NetAll_7 s t0 t1 t7 t8 t9 s5_0 s5_1 s5_2 Q := rfl
theorem L_pleachlaw13_NetAll_7_eq (s : PSpecs) (t0 t1 t7 t8 t9 s5_0 s5_1 s5_2 : AV) (Q : AHeap) : L_pleachlaw13_NetAll_7 s t0 t1 t7 t8 t9 s5_0 s5_1 s5_2 Q = evalPK (callP (penv s)) (loopP (penv s)) c_pleachlaw13_NetAll_7 [(0, .v t0), (1, .v t1), (5, .lp 5 0), (7, .v t7), (8, .v t8), (9, .v t9)] [(5, .cells [s5_0, s5_1, s5_2])] Q (goX (fun τ ω Q => loopP (penv s) c_pleachlaw13_NetAll_7 τ ω Q) ret4) := loopP_body
abbrev X_pleachlaw13_NetAll_7_x0 (Q : AHeap) : Option PEnd := some (.exit 0, [], [], Q)
theorem p_pleachlaw13_NetAll_8 {β : Type} (call : CallF) (lp : PLoopF) (Q : AHeap) (k : PK β) : evalPK call lp c_pleachlaw13_NetAll_8 [] [] Q k = (
  k .ret [(6, .v (.bool true))] [] Q) := by kernel_rfl
theorem g_pleachlaw13_NetAll {call : CallF} {lp : PLoopF} (v0 v1 v2_0 v2_1 v2_2 : AV) (Q : AHeap) : evalPK call lp c_pleachlaw13_NetAll [(0, .v v0), (1, .v v1), (2, .v (.agg [v2_0, v2_1, v2_2]))] [] Q (retPK [.tmp 6] [.n]) = (
  bnC 3 (stC 3 (.agg [v2_0, v2_1, v2_2])) fun s1 s2 s3 => 
  bnS (call 28 [] Q) fun w23_4 Q5 => 
  bnP (unA .not (frz w23_4)) fun w24_6 => 
  cndS w24_6 (fun _ => some (.bool false, Q5))
  (fun _ => bnP (lenQ v0) fun w26_7 => 
  bnP (binA .gtr w26_7 (.int .i64 80)) fun w27_8 => 
  bnP (gdQ w27_8 false (some s2)) fun w30_9 => 
  bnP (gdQ w27_8 false (lensA w30_9)) fun w31_10 => 
  bnP (gdQ w27_8 false (binA .gtr w31_10 (.int .i64 40))) fun w32_11 => 
  bnP (pickA w27_8 (.bool true) w32_11) fun w33_12 => 
  cndS w33_12 (fun _ => some (.bool true, Q5))
  (fun _ => bnX (lp c_pleachlaw13_NetAll_7 [(0, .v v0), (1, .v v1), (5, .lp 5 0), (7, .v .nils), (8, .v .nils), (9, .v (.int .i64 0))] [(5, .cells [s1, s2, s3])] Q5) (outX 0 (goC (evalPK call lp c_pleachlaw13_NetAll_8) (retPK [.tmp 6] [.n])))))) := by kernel_rfl
def f_pleachlaw13_NetAll {s : PSpecs} (hs : s.lookup 7 = none) (v0 v1 v2_0 v2_1 v2_2 : AV) (Q : AHeap) := (callP_fn (E := penv s) (f := 7) (fn := pf_pleachlaw13_NetAll) hs rfl [v0, v1, .agg [v2_0, v2_1, v2_2]] Q rfl).trans (g_pleachlaw13_NetAll (call := callP (penv s)) (lp := loopP (penv s)) v0 v1 v2_0 v2_1 v2_2 Q)
theorem g_net_Send {call : CallF} {lp : PLoopF} (v0 v1_0 v1_1 v1_2 : AV) (Q : AHeap) : evalPK call lp c_net_Send [(0, .v v0), (1, .v (.agg [v1_0, v1_1, v1_2]))] [] Q (retPK [.tmp 4] [.o 3]) = (
  bnC 3 (stC 3 (.agg [v1_0, v1_1, v1_2])) fun s1 s2 s3 => 
  bnS (call 58 [v0] Q) fun w6_4 Q5 => bnL (owZ 3 w6_4) fun l6 => 
  bnP (binA .geq (.int .i64 ((l6 : List AV).length : Nat)) (.int .i64 60)) fun w9_7 => 
  cndS w9_7 (fun _ => some (.ow 3 l6, Q5))
  (fun _ => pinB (elOk 3 (.agg [s1, s2, s3])) <| 
  pinB (room 32 ((l6 : List AV).length + (([.agg [s1, s2, s3]] : List AV) : List AV).length)) <| 
  some (.ow 3 (l6 ++ ([.agg [s1, s2, s3]] : List AV)), Q5))) := by kernel_rfl
def f_net_Send {s : PSpecs} (hs : s.lookup 29 = none) (v0 v1_0 v1_1 v1_2 : AV) (Q : AHeap) := (callP_fn (E := penv s) (f := 29) (fn := pf_net_Send) hs rfl [v0, .agg [v1_0, v1_1, v1_2]] Q rfl).trans (g_net_Send (call := callP (penv s)) (lp := loopP (penv s)) v0 v1_0 v1_1 v1_2 Q)
theorem p_pleachref13_Send_0 {β : Type} (call : CallF) (lp : PLoopF) (l5 : List AV) (Q : AHeap) (k : PK β) : evalPK call lp c_pleachref13_Send_0 [(5, .ls 5)] [(5, .own 3 l5)] Q k = (
  k .ret [(4, .ls 5), (16, .ls 5), (5, .ls 5)] [(5, .own 3 l5)] Q) := by kernel_rfl
theorem g_pleachref13_Send {call : CallF} {lp : PLoopF} (v0 v1_0 v1_1 v1_2 : AV) (Q : AHeap) : evalPK call lp c_pleachref13_Send [(0, .v v0), (1, .v (.agg [v1_0, v1_1, v1_2]))] [] Q (retPK [.tmp 4] [.o 3]) = (
  bnC 3 (stC 3 (.agg [v1_0, v1_1, v1_2])) fun s1 s2 s3 => 
  bnL (srcT [] 3 (.v v0)) fun l4 => 
  pinB (room 32 ((([] : List AV) : List AV).length + (l4 : List AV).length)) <| 
  bnX (bnP (lenQ v0) fun w10_5 => 
  bnP (binA .lss w10_5 (.int .i64 60)) fun w11_6 => 
  cndS w11_6 (fun _ => pinB (elOk 3 (.agg [s1, s2, s3])) <| 
  pinB (room 32 (((([] : List AV) ++ l4) : List AV).length + (([.agg [s1, s2, s3]] : List AV) : List AV).length)) <| 
  some (.normal, [(5, .ls 5)], [(5, .own 3 ((([] : List AV) ++ l4) ++ ([.agg [s1, s2, s3]] : List AV)))], Q))
  (fun _ => some (.normal, [(5, .ls 5)], [(5, .own 3 (([] : List AV) ++ l4))], Q)))
  (goC (evalPK call lp c_pleachref13_Send_0) (retPK [.tmp 4] [.o 3]))) := by kernel_rfl
def f_pleachref13_Send {s : PSpecs} (hs : s.lookup 30 = none) (v0 v1_0 v1_1 v1_2 : AV) (Q : AHeap) := (callP_fn (E := penv s) (f := 30) (fn := pf_pleachref13_Send) hs rfl [v0, .agg [v1_0, v1_1, v1_2]] Q rfl).trans (g_pleachref13_Send (call := callP (penv s)) (lp := loopP (penv s)) v0 v1_0 v1_1 v1_2 Q)
theorem g_net_Comes {call : CallF} {lp : PLoopF} (v0 v1 : AV) (Q : AHeap) : evalPK call lp c_net_Comes [(0, .v v0), (1, .v v1)] [] Q (retPK [.tmp 4, .cell 5 (some 3), .tmp 6] [.f 3, .n, .n]) = (
  bnS (call 58 [v0] Q) fun w9_1 Q2 => bnL (owZ 3 w9_1) fun l3 => 
  bnS (call 59 [.fz 3 l3, v1] ⟨Q2.size, .leaf⟩) fun w12_4 _ => pinB (flatR w12_4) <| 
  bnP (unA .not w12_4) fun w13_6 => 
  cndS w13_6 (fun _ => some (.tup [.fz 3 l3, .agg [.int .i64 0, .str [], .bool false], .bool false], Q2))
  (fun _ => bnN (idxN (l3 : List AV).length v1) fun i7 => 
  bnC 3 (elN l3 i7 0 3) fun c19_8 c19_9 c19_10 => 
  bnC 3 (stC 3 (.agg [c19_8, c19_9, c19_10])) fun s11 s12 s13 => 
  bnP (binA .add v1 (.int .i64 1)) fun w23_14 => 
  bnS (call 1000060 [.ow 3 l3, v1, w23_14] Q2) fun w24_15 Q16 => bnL (owZ 3 w24_15) fun l17 => 
  bnC 3 (stC 3 (.agg [s11, s12, s13])) fun s18 s19 s20 => 
  some (.tup [.fz 3 l17, .agg [s18, s19, s20], .bool true], Q16))) := by kernel_rfl
def f_net_Comes {s : PSpecs} (hs : s.lookup 31 = none) (v0 v1 : AV) (Q : AHeap) := (callP_fn (E := penv s) (f := 31) (fn := pf_net_Comes) hs rfl [v0, v1] Q rfl).trans (g_net_Comes (call := callP (penv s)) (lp := loopP (penv s)) v0 v1 Q)
theorem g_pleachref13_Gone {call : CallF} {lp : PLoopF} (v0 v1 : AV) (Q : AHeap) : evalPK call lp c_pleachref13_Gone [(0, .v v0), (1, .v v1)] [] Q (retPK [.tmp 4, .cell 5 (some 3), .tmp 6] [.f 3, .n, .n]) = (
  bnP (binA .lss v1 (.int .i64 0)) fun w8_1 => 
  bnP (gdQ w8_1 false (some v1)) fun w10_2 => 
  bnP (gdQ w8_1 false (some v0)) fun w11_3 => 
  bnP (gdQ w8_1 false (lenQ w11_3)) fun w12_4 => 
  bnP (gdQ w8_1 false (binA .geq w10_2 w12_4)) fun w13_5 => 
  bnP (pickA w8_1 (.bool true) w13_5) fun w14_6 => 
  cndS w14_6 (fun _ => bnP (rcv false (.f 3) v0) fun r7 => some (.tup [frz r7, .agg [.int .i64 0, .str [], .bool false], .bool false], Q))
  (fun _ => bnP (slcQ 3 v0 none (some v1)) fun w20_8 => 
  bnP (binA .add v1 (.int .i64 1)) fun w24_9 => 
  bnP (slcQ 3 v0 (some w24_9) none) fun w25_10 => 
  bnP (elQ 3 v0 v1) fun e11 => 
  bnC 3 (cut (AV.cells e11) 0 3) fun c30_12 c30_13 c30_14 => 
  bnL (srcT [] 3 (.v w20_8)) fun l15 => 
  pinB (room 32 ((([] : List AV) : List AV).length + (l15 : List AV).length)) <| 
  bnL (srcT [] 3 (.v w25_10)) fun l16 => 
  pinB (room 32 (((([] : List AV) ++ l15) : List AV).length + (l16 : List AV).length)) <| 
  bnC 3 (stC 3 (.agg [c30_12, c30_13, c30_14])) fun s17 s18 s19 => 
  some (.tup [.fz 3 ((([] : List AV) ++ l15) ++ l16), .agg [s17, s18, s19], .bool true], Q))) := by kernel_rfl
def f_pleachref13_Gone {s : PSpecs} (hs : s.lookup 32 = none) (v0 v1 : AV) (Q : AHeap) := (callP_fn (E := penv s) (f := 32) (fn := pf_pleachref13_Gone) hs rfl [v0, v1] Q rfl).trans (g_pleachref13_Gone (call := callP (penv s)) (lp := loopP (penv s)) v0 v1 Q)
theorem g_net_Lost {call : CallF} {lp : PLoopF} (v0 v1 : AV) (Q : AHeap) : evalPK call lp c_net_Lost [(0, .v v0), (1, .v v1)] [] Q (retPK [.tmp 4, .tmp 5] [.f 3, .n]) = (
  bnS (call 31 [v0, v1] Q) fun w11_1 Q2 => 
  bnP (extA (frz w11_1) 0) fun w12_3 => 
  bnP (extA (frz w11_1) 1) fun w13_4 => 
  bnP (extA (frz w11_1) 2) fun w14_5 => 
  bnC 3 (stC 3 w13_4) fun s6 s7 s8 => 
  bnP (rcv false (.f 3) w12_3) fun r9 => bnP (rcv false .n w14_5) fun r10 => some (.tup [frz r9, frz r10], Q2)) := by kernel_rfl
def f_net_Lost {s : PSpecs} (hs : s.lookup 33 = none) (v0 v1 : AV) (Q : AHeap) := (callP_fn (E := penv s) (f := 33) (fn := pf_net_Lost) hs rfl [v0, v1] Q rfl).trans (g_net_Lost (call := callP (penv s)) (lp := loopP (penv s)) v0 v1 Q)
theorem g_net_Twice {call : CallF} {lp : PLoopF} (v0 v1 : AV) (Q : AHeap) : evalPK call lp c_net_Twice [(0, .v v0), (1, .v v1)] [] Q (retPK [.tmp 4, .tmp 5] [.f 3, .n]) = (
  bnS (call 59 [v0, v1] Q) fun w8_1 Q2 => 
  bnP (unA .not (frz w8_1)) fun w9_3 => 
  bnP (gdQ w9_3 false (some v0)) fun w11_4 => 
  bnP (gdQ w9_3 false (lenQ w11_4)) fun w12_5 => 
  bnP (gdQ w9_3 false (binA .geq w12_5 (.int .i64 60))) fun w13_6 => 
  bnP (pickA w9_3 (.bool true) w13_6) fun w14_7 => 
  cndS w14_7 (fun _ => bnS (call 58 [v0] Q2) fun w16_8 Q9 => 
  bnP (rcv false (.f 3) (frz w16_8)) fun r10 => some (.tup [frz r10, .bool false], Q9))
  (fun _ => bnP (elQ 3 v0 v1) fun e11 => 
  bnC 3 (cut (AV.cells e11) 0 3) fun c21_12 c21_13 c21_14 => 
  bnS (call 29 [v0, .agg [c21_12, c21_13, c21_14]] Q2) fun w22_15 Q16 => 
  bnP (rcv false (.f 3) (frz w22_15)) fun r17 => some (.tup [frz r17, .bool true], Q16))) := by kernel_rfl
def f_net_Twice {s : PSpecs} (hs : s.lookup 34 = none) (v0 v1 : AV) (Q : AHeap) := (callP_fn (E := penv s) (f := 34) (fn := pf_net_Twice) hs rfl [v0, v1] Q rfl).trans (g_net_Twice (call := callP (penv s)) (lp := loopP (penv s)) v0 v1 Q)
theorem g_pleachref13_Twice {call : CallF} {lp : PLoopF} (v0 v1 : AV) (Q : AHeap) : evalPK call lp c_pleachref13_Twice [(0, .v v0), (1, .v v1)] [] Q (retPK [.tmp 4, .tmp 5] [.f 3, .n]) = (
  bnP (binA .lss v1 (.int .i64 0)) fun w7_1 => 
  bnP (gdQ w7_1 false (some v1)) fun w9_2 => 
  bnP (gdQ w7_1 false (some v0)) fun w10_3 => 
  bnP (gdQ w7_1 false (lenQ w10_3)) fun w11_4 => 
  bnP (gdQ w7_1 false (binA .geq w9_2 w11_4)) fun w12_5 => 
  bnP (pickA w7_1 (.bool true) w12_5) fun w13_6 => 
  bnP (gdQ w13_6 false (some v0)) fun w15_7 => 
  bnP (gdQ w13_6 false (lenQ w15_7)) fun w16_8 => 
  bnP (gdQ w13_6 false (binA .geq w16_8 (.int .i64 60))) fun w17_9 => 
  bnP (pickA w13_6 (.bool true) w17_9) fun w18_10 => 
  cndS w18_10 (fun _ => bnP (rcv false (.f 3) v0) fun r11 => some (.tup [frz r11, .bool false], Q))
  (fun _ => bnP (elQ 3 v0 v1) fun e12 => 
  bnC 3 (cut (AV.cells e12) 0 3) fun c24_13 c24_14 c24_15 => 
  bnS (call 30 [v0, .agg [c24_13, c24_14, c24_15]] Q) fun w25_16 Q17 => 
  bnP (rcv false (.f 3) (frz w25_16)) fun r18 => some (.tup [frz r18, .bool true], Q17))) := by kernel_rfl
def f_pleachref13_Twice {s : PSpecs} (hs : s.lookup 35 = none) (v0 v1 : AV) (Q : AHeap) := (callP_fn (E := penv s) (f := 35) (fn := pf_pleachref13_Twice) hs rfl [v0, v1] Q rfl).trans (g_pleachref13_Twice (call := callP (penv s)) (lp := loopP (penv s)) v0 v1 Q)
theorem g_net_Turned {call : CallF} {lp : PLoopF} (v0 v1 v2 : AV) (Q : AHeap) : evalPK call lp c_net_Turned [(0, .v v0), (1, .v v1), (2, .v v2)] [] Q (retPK [.tmp 6, .tmp 7] [.f 3, .n]) = (
  bnS (call 58 [v0] Q) fun w10_1 Q2 => bnL (owZ 3 w10_1) fun l3 => 
  bnS (call 59 [.fz 3 l3, v1] ⟨Q2.size, .leaf⟩) fun w13_4 _ => pinB (flatR w13_4) <| 
  bnP (unA .not w13_4) fun w14_6 => 
  bnP (gdQ w14_6 false (some v1)) fun w17_7 => 
  bnN (gdN w14_6 false (idxN (l3 : List AV).length w17_7)) fun i8 => 
  bnP (gdQ w14_6 false (elC l3 i8 2)) fun w20_9 => 
  bnP (pickA w14_6 (.bool true) w20_9) fun w21_10 => 
  bnP (gdQ w21_10 false (some v1)) fun w24_11 => 
  bnN (gdN w21_10 false (idxN (l3 : List AV).length w24_11)) fun i12 => 
  bnP (gdQ w21_10 false (elC l3 i12 1)) fun w27_13 => 
  bnP (gdQ w21_10 false (binA .eql w27_13 (.str []))) fun w28_14 => 
  bnP (pickA w21_10 (.bool true) w28_14) fun w29_15 => 
  bnP (gdQ w29_15 false (some v2)) fun w31_16 => 
  bnP (gdQ w29_15 false (binA .lss w31_16 (.int .i64 0))) fun w32_17 => 
  bnP (pickA w29_15 (.bool true) w32_17) fun w33_18 => 
  bnP (gdQ w33_18 false (some v2)) fun w35_19 => 
  bnP (gdQ w33_18 false (binA .rem w35_19 (.int .i64 256))) fun w36_20 => 
  bnP (gdQ w33_18 false (binA .eql w36_20 (.int .i64 0))) fun w37_21 => 
  bnP (pickA w33_18 (.bool true) w37_21) fun w38_22 => 
  cndS w38_22 (fun _ => some (.tup [.fz 3 l3, .bool false], Q2))
  (fun _ => bnN (idxN (l3 : List AV).length v1) fun i23 => 
  bnP (elC l3 i23 1) fun w44_24 => 
  bnL (s2bC w44_24) fun l25 => 
  bnP (binA .quo v2 (.int .i64 256)) fun w48_26 => 
  bnP (binA .rem w48_26 (.int .i64 (l25.length : Nat))) fun w51_27 => 
  bnN (idxN l25.length w51_27) fun i28 => 
  bnP ((l25)[(i28 * 1)]?) fun w53_29 => 
  bnP (binA .rem v2 (.int .i64 256)) fun w55_30 => 
  bnP (cviA .u8 w55_30) fun w56_31 => 
  bnP (binA .xor w53_29 w56_31) fun w57_32 => 
  bnN (idxN l25.length w51_27) fun i33 => 
  bnC 1 (stC 1 w57_32) fun s34 => 
  pinB (Nat.ble ((i33 * 1) + 1) (l25 : List AV).length) <| 
  bnP ((cut (splice l25 (i33 * 1) [s34]) 0 l25.length).bind fun l => b2sQ (.fz 1 l)) fun w64_35 => 
  bnN (idxN (l3 : List AV).length v1) fun i36 => 
  bnC 1 (stC 1 w64_35) fun s37 => 
  bnP ((l3)[i36]?) fun e38 => bnP (setE e38 1 [s37]) fun e39 => 
  bnN (idxN (((l3).set i36 e39) : List AV).length v1) fun i40 => 
  bnP ((((l3).set i36 e39))[i40]?) fun e41 => bnP (setE e41 2 [.bool true]) fun e42 => 
  some (.tup [.fz 3 ((((l3).set i36 e39)).set i40 e42), .bool true], Q2))) := by kernel_rfl
def f_net_Turned {s : PSpecs} (hs : s.lookup 36 = none) (v0 v1 v2 : AV) (Q : AHeap) := (callP_fn (E := penv s) (f := 36) (fn := pf_net_Turned) hs rfl [v0, v1, v2] Q rfl).trans (g_net_Turned (call := callP (penv s)) (lp := loopP (penv s)) v0 v1 v2 Q)
theorem g_pleachref13_Turned {call : CallF} {lp : PLoopF} (v0 v1 v2 : AV) (Q : AHeap) : evalPK call lp c_pleachref13_Turned [(0, .v v0), (1, .v v1), (2, .v v2)] [] Q (retPK [.tmp 6, .tmp 7] [.f 3, .n]) = (
  bnP (binA .lss v1 (.int .i64 0)) fun w12_1 => 
  bnP (gdQ w12_1 false (some v1)) fun w14_2 => 
  bnP (gdQ w12_1 false (some v0)) fun w15_3 => 
  bnP (gdQ w12_1 false (lenQ w15_3)) fun w16_4 => 
  bnP (gdQ w12_1 false (binA .geq w14_2 w16_4)) fun w17_5 => 
  bnP (pickA w12_1 (.bool true) w17_5) fun w18_6 => 
  bnP (gdQ w18_6 false (some v0)) fun w20_7 => 
  bnP (gdQ w18_6 false (some v1)) fun w21_8 => 
  bnP (gdQ w18_6 false (elQ 3 w20_7 w21_8)) fun e9 => 
  bnP (gdQ w18_6 false ((AV.cells e9)[2]?)) fun w24_10 => 
  bnP (pickA w18_6 (.bool true) w24_10) fun w25_11 => 
  bnP (gdQ w25_11 false (some v0)) fun w27_12 => 
  bnP (gdQ w25_11 false (some v1)) fun w28_13 => 
  bnP (gdQ w25_11 false (elQ 3 w27_12 w28_13)) fun e14 => 
  bnP (gdQ w25_11 false ((AV.cells e14)[1]?)) fun w31_15 => 
  bnP (gdQ w25_11 false (lensA w31_15)) fun w32_16 => 
  bnP (gdQ w25_11 false (binA .eql w32_16 (.int .i64 0))) fun w33_17 => 
  bnP (pickA w25_11 (.bool true) w33_17) fun w34_18 => 
  bnP (gdQ w34_18 false (some v2)) fun w36_19 => 
  bnP (gdQ w34_18 false (binA .lss w36_19 (.int .i64 0))) fun w37_20 => 
  bnP (pickA w34_18 (.bool true) w37_20) fun w38_21 => 
  bnP (gdQ w38_21 false (some v2)) fun w40_22 => 
  bnP (gdQ w38_21 false (binA .rem w40_22 (.int .i64 256))) fun w41_23 => 
  bnP (gdQ w38_21 false (binA .eql w41_23 (.int .i64 0))) fun w42_24 => 
  bnP (pickA w38_21 (.bool true) w42_24) fun w43_25 => 
  cndS w43_25 (fun _ => bnP (rcv false (.f 3) v0) fun r26 => some (.tup [frz r26, .bool false], Q))
  (fun _ => bnL (srcT [] 3 (.v v0)) fun l27 => 
  pinB (room 32 ((([] : List AV) : List AV).length + (l27 : List AV).length)) <| 
  bnP (elQ 3 v0 v1) fun e28 => 
  bnP ((AV.cells e28)[1]?) fun w52_29 => 
  bnL (s2bC w52_29) fun l30 => 
  bnP (binA .quo v2 (.int .i64 256)) fun w55_31 => 
  bnP (binA .rem w55_31 (.int .i64 (l30.length : Nat))) fun w58_32 => 
  bnN (idxN l30.length w58_32) fun i33 => 
  bnP ((l30)[(i33 * 1)]?) fun w64_34 => 
  bnP (binA .rem v2 (.int .i64 256)) fun w66_35 => 
  bnP (cviA .u8 w66_35) fun w67_36 => 
  bnP (binA .xor w64_34 w67_36) fun w68_37 => 
  bnN (idxN l30.length w58_32) fun i38 => 
  bnC 1 (stC 1 w68_37) fun s39 => 
  pinB (Nat.ble ((i38 * 1) + 1) (l30 : List AV).length) <| 
  bnP ((cut (splice l30 (i38 * 1) [s39]) 0 l30.length).bind fun l => b2sQ (.fz 1 l)) fun w75_40 => 
  bnN (idxN ((([] : List AV) ++ l27) : List AV).length v1) fun i41 => 
  bnC 1 (stC 1 w75_40) fun s42 => 
  bnP (((([] : List AV) ++ l27))[i41]?) fun e43 => bnP (setE e43 1 [s42]) fun e44 => 
  bnN (idxN ((((([] : List AV) ++ l27)).set i41 e44) : List AV).length v1) fun i45 => 
  bnP (((((([] : List AV) ++ l27)).set i41 e44))[i45]?) fun e46 => bnP (setE e46 2 [.bool true]) fun e47 => 
  some (.tup [.fz 3 (((((([] : List AV) ++ l27)).set i41 e44)).set i45 e47), .bool true], Q))) := by kernel_rfl
def f_pleachref13_Turned {s : PSpecs} (hs : s.lookup 37 = none) (v0 v1 v2 : AV) (Q : AHeap) := (callP_fn (E := penv s) (f := 37) (fn := pf_pleachref13_Turned) hs rfl [v0, v1, v2] Q rfl).trans (g_pleachref13_Turned (call := callP (penv s)) (lp := loopP (penv s)) v0 v1 v2 Q)
theorem p_pleachref13_SameGrams_0 {β : Type} (call : CallF) (lp : PLoopF) (t0 t1 t5 : AV) (Q : AHeap) (k : PK β) : evalPK call lp c_pleachref13_SameGrams_0 [(0, .v t0), (1, .v t1), (5, .v t5)] [] Q k = (
  bnP (lenQ t0) fun w13_1 => 
  bnP (binA .lss t5 w13_1) fun w14_2 => 
  cndS w14_2 (fun _ => bnP (elQ 3 t0 t5) fun e3 => 
  bnC 3 (cut (AV.cells e3) 0 3) fun c20_4 c20_5 c20_6 => 
  bnP (elQ 3 t1 t5) fun e7 => 
  bnC 3 (cut (AV.cells e7) 0 3) fun c24_8 c24_9 c24_10 => 
  bnP (eqsA true (.st [(0, 1, .i), (1, 1, .s), (2, 1, .b)]) (.agg [c20_4, c20_5, c20_6]) (.agg [c24_8, c24_9, c24_10])) fun w25_11 => 
  cndS w25_11 (fun _ => k .ret [(4, .v (.bool false))] [] Q)
  (fun _ => bnP (binA .add t5 (.int .i64 1)) fun w16_12 => 
  k .normal [(0, .v t0), (1, .v t1), (5, .v w16_12)] [] Q))
  (fun _ => k (.exit 0) [] [] Q)) := by kernel_rfl
noncomputable def L_pleachref13_SameGrams_0 (s : PSpecs) (t0 t1 t5 : AV) (Q : AHeap) : Option PEnd := loopP (penv s) c_pleachref13_SameGrams_0 [(0, .v t0), (1, .v t1), (5, .v t5)] [] Q
theorem L_pleachref13_SameGrams_0_fold (s : PSpecs) (t0 t1 t5 : AV) (Q : AHeap) : loopP (penv s) c_pleachref13_SameGrams_0 [(0, .v t0), (1, .v t1), (5, .v t5)] [] Q = L_pleachref13_SameGrams_0 s t0 t1 t5 Q := rfl
theorem L_pleachref13_SameGrams_0_eq (s : PSpecs) (t0 t1 t5 : AV) (Q : AHeap) : L_pleachref13_SameGrams_0 s t0 t1 t5 Q = evalPK (callP (penv s)) (loopP (penv s)) c_pleachref13_SameGrams_0 [(0, .v t0), (1, .v t1), (5, .v t5)] [] Q (goX (fun τ ω Q => loopP (penv s) c_pleachref13_SameGrams_0 τ ω Q) ret4) := loopP_body
abbrev X_pleachref13_SameGrams_0_x0 (Q : AHeap) : Option PEnd := some (.exit 0, [], [], Q)
theorem p_pleachref13_SameGrams_1 {β : Type} (call : CallF) (lp : PLoopF) (Q : AHeap) (k : PK β) : evalPK call lp c_pleachref13_SameGrams_1 [] [] Q k = (
  k .ret [(4, .v (.bool true))] [] Q) := by kernel_rfl
theorem g_pleachref13_SameGrams {call : CallF} {lp : PLoopF} (v0 v1 : AV) (Q : AHeap) : evalPK call lp c_pleachref13_SameGrams [(0, .v v0), (1, .v v1)] [] Q (retPK [.tmp 4] [.n]) = (
  bnP (lenQ v0) fun w7_1 => 
  bnP (lenQ v1) fun w9_2 => 
  bnP (binA .neq w7_1 w9_2) fun w10_3 => 
  cndS w10_3 (fun _ => some (.bool false, Q))
  (fun _ => bnX (lp c_pleachref13_SameGrams_0 [(0, .v v0), (1, .v v1), (5, .v (.int .i64 0))] [] Q) (outX 0 (goC (evalPK call lp c_pleachref13_SameGrams_1) (retPK [.tmp 4] [.n]))))) := by kernel_rfl
def f_pleachref13_SameGrams {s : PSpecs} (hs : s.lookup 38 = none) (v0 v1 : AV) (Q : AHeap) := (callP_fn (E := penv s) (f := 38) (fn := pf_pleachref13_SameGrams) hs rfl [v0, v1] Q rfl).trans (g_pleachref13_SameGrams (call := callP (penv s)) (lp := loopP (penv s)) v0 v1 Q)
theorem g_net_there {call : CallF} {lp : PLoopF} (v0 v1 : AV) (Q : AHeap) : evalPK call lp c_net_there [(0, .v v0), (1, .v v1)] [] Q (retPK [.tmp 4] [.n]) = (
  bnP (binA .geq v1 (.int .i64 0)) fun w6_1 => 
  bnP (gdQ w6_1 true (some v1)) fun w8_2 => 
  bnP (gdQ w6_1 true (some v0)) fun w9_3 => 
  bnP (gdQ w6_1 true (lenQ w9_3)) fun w10_4 => 
  bnP (gdQ w6_1 true (binA .lss w8_2 w10_4)) fun w11_5 => 
  bnP (pickA w6_1 w11_5 (.bool false)) fun w12_6 => 
  bnP (rcv false .n w12_6) fun r7 => some (r7, Q)) := by kernel_rfl
def f_net_there {s : PSpecs} (hs : s.lookup 59 = none) (v0 v1 : AV) (Q : AHeap) := (callP_fn (E := penv s) (f := 59) (fn := pf_net_there) hs rfl [v0, v1] Q rfl).trans (g_net_there (call := callP (penv s)) (lp := loopP (penv s)) v0 v1 Q)
end Go.Proofs.Ytldehmfhgmmkhaa.Pn
