/- Equations by values. Printed by mkpv.py of this repo. -/
import Derived.Test.YtcledejamnnbmaaPsd
import Derived.Test.YtcledejamnnbmaaPvE
namespace Go.Proofs.Ytcledejamnnbmaa.Ps
open Go.Ab
set_option maxRecDepth 100000
set_option linter.unusedVariables false
set_option linter.unusedSimpArgs false
set_option linter.defProp false
theorem p_pleachlaw15_WinAny_0 {β : Type} (call : CallF) (lp : PLoopF) (t0 t1 t2 t7 t8 : AV) (Q : AHeap) (k : PK β) : evalPK call lp c_pleachlaw15_WinAny_0 [(0, .v t0), (1, .v t1), (2, .v t2), (7, .v t7), (8, .v t8)] [] Q k = (
  bnP (lenQ t0) fun w22_1 => 
  bnP (binA .lss t8 w22_1) fun w23_2 => 
  cndS w23_2 (fun _ => bnP (elQ 1 t0 t8) fun e3 => 
  bnP ((AV.cells e3)[0]?) fun w31_4 => 
  bnP (binA .rem w31_4 (.int .u8 9)) fun w32_5 => 
  bnP (cviA .i64 w32_5) fun w33_6 => 
  bnP (binA .add (.int .i64 3) w33_6) fun w34_7 => 
  bnC 2 (fillP [.int .i64 0, .str []] [(0, 1, w34_7), (1, 1, .str [120])]) fun c35_8 c35_9 => 
  bnS (call 22 [t7, .int .i64 3, .agg [c35_8, c35_9]] Q) fun w36_10 Q11 => 
  bnP (extA (frz w36_10) 0) fun w37_12 => 
  bnP (extA (frz w36_10) 1) fun w38_13 => 
  bnP (binA .add t8 (.int .i64 1)) fun w25_14 => 
  k .normal [(0, .v t0), (1, .v t1), (2, .v t2), (7, .v w37_12), (8, .v w25_14)] [] Q11)
  (fun _ => k (.exit 0) [(1, .v t1), (2, .v t2), (7, .v t7)] [] Q)) := by kernel_rfl
noncomputable def L_pleachlaw15_WinAny_0 (s : PSpecs) (t0 t1 t2 t7 t8 : AV) (Q : AHeap) : Option PEnd := loopP (penv s) c_pleachlaw15_WinAny_0 [(0, .v t0), (1, .v t1), (2, .v t2), (7, .v t7), (8, .v t8)] [] Q
theorem L_pleachlaw15_WinAny_0_fold (s : PSpecs) (t0 t1 t2 t7 t8 : AV) (Q : AHeap) : loopP (penv s) c_pleachlaw15_WinAny_0 [(0, .v t0), (1, .v t1), (2, .v t2), (7, .v t7), (8, .v t8)] [] Q = L_pleachlaw15_WinAny_0 s t0 t1 t2 t7 t8 Q := rfl
theorem L_pleachlaw15_WinAny_0_eq (s : PSpecs) (t0 t1 t2 t7 t8 : AV) (Q : AHeap) : L_pleachlaw15_WinAny_0 s t0 t1 t2 t7 t8 Q = evalPK (callP (penv s)) (loopP (penv s)) c_pleachlaw15_WinAny_0 [(0, .v t0), (1, .v t1), (2, .v t2), (7, .v t7), (8, .v t8)] [] Q (goX (fun τ ω Q => loopP (penv s) c_pleachlaw15_WinAny_0 τ ω Q) ret4) := loopP_body
abbrev X_pleachlaw15_WinAny_0_x0 (t1 t2 t7 : AV) (Q : AHeap) : Option PEnd := some (.exit 0, [(1, .v t1), (2, .v t2), (7, .v t7)], [], Q)
theorem p_pleachlaw15_WinAny_1 {β : Type} (call : CallF) (lp : PLoopF) (t1 t2 t7 : AV) (Q : AHeap) (k : PK β) : evalPK call lp c_pleachlaw15_WinAny_1 [(1, .v t1), (2, .v t2), (7, .v t7)] [] Q k = (
  bnP (binA .rem t1 (.int .u8 13)) fun w40_1 => 
  bnP (cviA .i64 w40_1) fun w41_2 => 
  bnP (binA .add (.int .i64 1) w41_2) fun w42_3 => 
  bnC 2 (fillP [.int .i64 0, .str []] [(0, 1, w42_3), (1, 1, .str [112])]) fun c43_4 c43_5 => 
  bnP (binA .rem t2 (.int .u8 13)) fun w45_6 => 
  bnP (cviA .i64 w45_6) fun w46_7 => 
  bnP (binA .add (.int .i64 1) w46_7) fun w47_8 => 
  bnC 2 (fillP [.int .i64 0, .str []] [(0, 1, w47_8), (1, 1, .str [113])]) fun c48_9 c48_10 => 
  bnC 2 (stC 2 (.agg [c43_4, c43_5])) fun s11 s12 => 
  bnC 2 (stC 2 (.agg [c48_9, c48_10])) fun s13 s14 => 
  bnP (binA .eql s11 s13) fun w53_15 => 
  cndS w53_15 (fun _ => k .ret [(6, .v (.bool true)), (53, .v w53_15), (52, .v s13), (51, .lp 10 0), (50, .v s11), (49, .lp 9 0), (10, .lp 10 0), (9, .lp 9 0), (48, .v (.agg [c48_9, c48_10])), (47, .v w47_8), (46, .v w46_7), (45, .v w45_6), (44, .v t2), (43, .v (.agg [c43_4, c43_5])), (42, .v w42_3), (41, .v w41_2), (40, .v w40_1), (39, .v t1), (1, .v t1), (2, .v t2), (7, .v t7)] [(10, .cells [s13, s14]), (9, .cells [s11, s12])] Q)
  (fun _ => bnS (call 22 [t7, .int .i64 3, .agg [s11, s12]] Q) fun w57_16 Q17 => 
  bnP (extA (frz w57_16) 0) fun w58_18 => 
  bnP (extA (frz w57_16) 1) fun w59_19 => 
  bnS (call 22 [w58_18, .int .i64 3, .agg [s13, s14]] Q17) fun w63_20 Q21 => 
  bnP (extA (frz w63_20) 0) fun w64_22 => 
  bnP (extA (frz w63_20) 1) fun w65_23 => 
  bnS (call 22 [t7, .int .i64 3, .agg [s13, s14]] Q21) fun w69_24 Q25 => 
  bnP (extA (frz w69_24) 0) fun w70_26 => 
  bnP (extA (frz w69_24) 1) fun w71_27 => 
  bnS (call 22 [w70_26, .int .i64 3, .agg [s11, s12]] Q25) fun w75_28 Q29 => 
  bnP (extA (frz w75_28) 0) fun w76_30 => 
  bnP (extA (frz w75_28) 1) fun w77_31 => 
  bnS (call 25 [w64_22, w76_30] Q29) fun w80_32 Q33 => 
  bnP (gdQ (frz w80_32) true (some w64_22)) fun w82_34 => 
  bnP (gdQ (frz w80_32) true (lenQ w82_34)) fun w83_35 => 
  bnP (gdQ (frz w80_32) true (some t7)) fun w84_36 => 
  bnP (gdQ (frz w80_32) true (lenQ w84_36)) fun w85_37 => 
  bnP (gdQ (frz w80_32) true (binA .geq w83_35 w85_37)) fun w86_38 => 
  bnP (pickA (frz w80_32) w86_38 (.bool false)) fun w87_39 => 
  bnP (gdQ w87_39 true (some w64_22)) fun w89_40 => 
  bnP (gdQ w87_39 true (lenQ w89_40)) fun w90_41 => 
  bnP (gdQ w87_39 true (binA .leq w90_41 (.int .i64 8))) fun w91_42 => 
  bnP (pickA w87_39 w91_42 (.bool false)) fun w92_43 => 
  k .ret [(6, .v w92_43), (92, .v w92_43), (91, .v w91_42), (90, .v w90_41), (89, .v w89_40), (88, .v w87_39), (87, .v w87_39), (86, .v w86_38), (85, .v w85_37), (84, .v w84_36), (83, .v w83_35), (82, .v w82_34), (81, .v (frz w80_32)), (80, .v (frz w80_32)), (79, .v w76_30), (78, .v w64_22), (13, .v w76_30), (77, .v w77_31), (76, .v w76_30), (72, .v (frz w75_28)), (75, .v (frz w75_28)), (74, .v (.agg [s11, s12])), (73, .v w70_26), (14, .v w71_27), (13, .v w70_26), (71, .v w71_27), (70, .v w70_26), (66, .v (frz w69_24)), (69, .v (frz w69_24)), (68, .v (.agg [s13, s14])), (67, .v t7), (11, .v w64_22), (65, .v w65_23), (64, .v w64_22), (60, .v (frz w63_20)), (63, .v (frz w63_20)), (62, .v (.agg [s13, s14])), (61, .v w58_18), (12, .v w59_19), (11, .v w58_18), (59, .v w59_19), (58, .v w58_18), (54, .v (frz w57_16)), (57, .v (frz w57_16)), (56, .v (.agg [s11, s12])), (55, .v t7), (53, .v w53_15), (52, .v s13), (51, .lp 10 0), (50, .v s11), (49, .lp 9 0), (10, .lp 10 0), (9, .lp 9 0), (48, .v (.agg [c48_9, c48_10])), (47, .v w47_8), (46, .v w46_7), (45, .v w45_6), (44, .v t2), (43, .v (.agg [c43_4, c43_5])), (42, .v w42_3), (41, .v w41_2), (40, .v w40_1), (39, .v t1), (1, .v t1), (2, .v t2), (7, .v t7)] [(10, .cells [s13, s14]), (9, .cells [s11, s12])] Q33)) := by kernel_rfl
theorem g_pleachlaw15_WinAny {call : CallF} {lp : PLoopF} (v0 v1 v2 : AV) (Q : AHeap) : evalPK call lp c_pleachlaw15_WinAny [(0, .v v0), (1, .v v1), (2, .v v2)] [] Q (retPK [.tmp 6] [.n]) = (
  bnS (call 21 [] Q) fun w15_1 Q2 => 
  bnP (unA .not (frz w15_1)) fun w16_3 => 
  cndS w16_3 (fun _ => some (.bool false, Q2))
  (fun _ => bnP (lenQ v0) fun w18_4 => 
  bnP (binA .gtr w18_4 (.int .i64 20)) fun w19_5 => 
  cndS w19_5 (fun _ => some (.bool true, Q2))
  (fun _ => bnX (lp c_pleachlaw15_WinAny_0 [(0, .v v0), (1, .v v1), (2, .v v2), (7, .v .nils), (8, .v (.int .i64 0))] [] Q2) (outX 0 (goC (evalPK call lp c_pleachlaw15_WinAny_1) (retPK [.tmp 6] [.n])))))) := by kernel_rfl
def f_pleachlaw15_WinAny {s : PSpecs} (hs : s.lookup 7 = none) (v0 v1 v2 : AV) (Q : AHeap) := (callP_fn (E := penv s) (f := 7) (fn := pf_pleachlaw15_WinAny) hs rfl [v0, v1, v2] Q rfl).trans (g_pleachlaw15_WinAny (call := callP (penv s)) (lp := loopP (penv s)) v0 v1 v2 Q)
theorem g_win_Put {call : CallF} {lp : PLoopF} (v0 v1 v2_0 v2_1 : AV) (Q : AHeap) : evalPK call lp c_win_Put [(0, .v v0), (1, .v v1), (2, .v (.agg [v2_0, v2_1]))] [] Q (retPK [.tmp 6, .tmp 7] [.f 2, .n]) = (
  bnC 2 (stC 2 (.agg [v2_0, v2_1])) fun s1 s2 => 
  bnS (call 31 [v0] Q) fun w12_3 Q4 => bnL (owZ 2 w12_3) fun l5 => 
  bnS (call 32 [v0, s1, .fn 33 [] []] Q4) fun w17_6 Q7 => 
  bnP (extA (frz w17_6) 0) fun w18_8 => 
  bnP (extA (frz w17_6) 1) fun w19_9 => 
  bnP (gdQ w19_9 false (some s1)) fun w23_10 => 
  bnP (gdQ w19_9 false (some v1)) fun w24_11 => 
  bnP (gdQ w19_9 false (binA .lss w23_10 w24_11)) fun w25_12 => 
  bnP (pickA w19_9 (.bool true) w25_12) fun w26_13 => 
  bnP (gdQ w26_13 false (some s1)) fun w29_14 => 
  bnP (gdQ w26_13 false (some v1)) fun w30_15 => 
  bnP (gdQ w26_13 false (binA .sub w29_14 w30_15)) fun w31_16 => 
  bnP (gdQ w26_13 false (binA .geq w31_16 (.int .i64 8))) fun w32_17 => 
  bnP (pickA w26_13 (.bool true) w32_17) fun w33_18 => 
  cndS w33_18 (fun _ => some (.tup [.fz 2 l5, .bool false], Q7))
  (fun _ => pinB (elOk 2 (.agg [s1, s2])) <| 
  bnS (call 1000035 [.ow 2 l5, w18_8, .lt 2 [.agg [s1, s2]]] Q7) fun w39_19 Q20 => bnL (owZ 2 w39_19) fun l21 => 
  some (.tup [.fz 2 l21, .bool true], Q20))) := by kernel_rfl
def f_win_Put {s : PSpecs} (hs : s.lookup 22 = none) (v0 v1 v2_0 v2_1 : AV) (Q : AHeap) := (callP_fn (E := penv s) (f := 22) (fn := pf_win_Put) hs rfl [v0, v1, .agg [v2_0, v2_1]] Q rfl).trans (g_win_Put (call := callP (penv s)) (lp := loopP (penv s)) v0 v1 v2_0 v2_1 Q)
theorem p_pleachref13_SameItems_0 {β : Type} (call : CallF) (lp : PLoopF) (t0 t1 t5 : AV) (Q : AHeap) (k : PK β) : evalPK call lp c_pleachref13_SameItems_0 [(0, .v t0), (1, .v t1), (5, .v t5)] [] Q k = (
  bnP (lenQ t0) fun w13_1 => 
  bnP (binA .lss t5 w13_1) fun w14_2 => 
  cndS w14_2 (fun _ => bnP (elQ 2 t0 t5) fun e3 => 
  bnC 2 (cut (AV.cells e3) 0 2) fun c20_4 c20_5 => 
  bnP (elQ 2 t1 t5) fun e6 => 
  bnC 2 (cut (AV.cells e6) 0 2) fun c24_7 c24_8 => 
  bnP (eqsA true (.st [(0, 1, .i), (1, 1, .s)]) (.agg [c20_4, c20_5]) (.agg [c24_7, c24_8])) fun w25_9 => 
  cndS w25_9 (fun _ => k .ret [(4, .v (.bool false))] [] Q)
  (fun _ => bnP (binA .add t5 (.int .i64 1)) fun w16_10 => 
  k .normal [(0, .v t0), (1, .v t1), (5, .v w16_10)] [] Q))
  (fun _ => k (.exit 0) [] [] Q)) := by kernel_rfl
noncomputable def L_pleachref13_SameItems_0 (s : PSpecs) (t0 t1 t5 : AV) (Q : AHeap) : Option PEnd := loopP (penv s) c_pleachref13_SameItems_0 [(0, .v t0), (1, .v t1), (5, .v t5)] [] Q
theorem L_pleachref13_SameItems_0_fold (s : PSpecs) (t0 t1 t5 : AV) (Q : AHeap) : loopP (penv s) c_pleachref13_SameItems_0 [(0, .v t0), (1, .v t1), (5, .v t5)] [] Q = L_pleachref13_SameItems_0 s t0 t1 t5 Q := rfl
theorem L_pleachref13_SameItems_0_eq (s : PSpecs) (t0 t1 t5 : AV) (Q : AHeap) : L_pleachref13_SameItems_0 s t0 t1 t5 Q = evalPK (callP (penv s)) (loopP (penv s)) c_pleachref13_SameItems_0 [(0, .v t0), (1, .v t1), (5, .v t5)] [] Q (goX (fun τ ω Q => loopP (penv s) c_pleachref13_SameItems_0 τ ω Q) ret4) := loopP_body
abbrev X_pleachref13_SameItems_0_x0 (Q : AHeap) : Option PEnd := some (.exit 0, [], [], Q)
abbrev X_pleachref13_SameItems_0_ret (t4 : AV) (Q : AHeap) : Option PEnd := some (.ret, [(4, .v t4)], [], Q)
theorem p_pleachref13_SameItems_1 {β : Type} (call : CallF) (lp : PLoopF) (Q : AHeap) (k : PK β) : evalPK call lp c_pleachref13_SameItems_1 [] [] Q k = (
  k .ret [(4, .v (.bool true))] [] Q) := by kernel_rfl
theorem g_pleachref13_SameItems {call : CallF} {lp : PLoopF} (v0 v1 : AV) (Q : AHeap) : evalPK call lp c_pleachref13_SameItems [(0, .v v0), (1, .v v1)] [] Q (retPK [.tmp 4] [.n]) = (
  bnP (lenQ v0) fun w7_1 => 
  bnP (lenQ v1) fun w9_2 => 
  bnP (binA .neq w7_1 w9_2) fun w10_3 => 
  cndS w10_3 (fun _ => some (.bool false, Q))
  (fun _ => bnX (lp c_pleachref13_SameItems_0 [(0, .v v0), (1, .v v1), (5, .v (.int .i64 0))] [] Q) (outX 0 (goC (evalPK call lp c_pleachref13_SameItems_1) (retPK [.tmp 4] [.n]))))) := by kernel_rfl
def f_pleachref13_SameItems {s : PSpecs} (hs : s.lookup 25 = none) (v0 v1 : AV) (Q : AHeap) := (callP_fn (E := penv s) (f := 25) (fn := pf_pleachref13_SameItems) hs rfl [v0, v1] Q rfl).trans (g_pleachref13_SameItems (call := callP (penv s)) (lp := loopP (penv s)) v0 v1 Q)
theorem p_slices_BinarySearchFunc_api_Item_api_Item_int_0 {β : Type} (call : CallF) (lp : PLoopF) (t0 t1 t2 t8 t9 t10 : AV) (Q : AHeap) (k : PK β) : evalPK call lp c_slices_BinarySearchFunc_api_Item_api_Item_int_0 [(0, .v t0), (1, .v t1), (2, .v t2), (8, .v t8), (9, .v t9), (10, .v t10)] [] Q k = (
  bnP (binA .lss t9 t10) fun w17_1 => 
  cndS w17_1 (fun _ => bnX (bnP (binA .add t9 t10) fun w20_2 => 
  bnP (cviA .u64 w20_2) fun w21_3 => 
  bnP (binA .shr w21_3 (.int .u64 1)) fun w22_4 => 
  bnP (cviA .i64 w22_4) fun w23_5 => 
  bnP (elQ 2 t0 w23_5) fun e6 => 
  bnC 2 (cut (AV.cells e6) 0 2) fun c28_7 c28_8 => 
  bnF t2 fun f11 f11f f11c => 
  bnS (lowF call f11 (f11f ++ [.agg [c28_7, c28_8], t1] ++ f11c) Q) fun w30_9 Q10 => 
  bnP (binA .lss (frz w30_9) (.int .i64 0)) fun w31_12 => 
  cndS w31_12 (fun _ => bnP (binA .add w23_5 (.int .i64 1)) fun w33_13 => 
  some (.normal, [(0, .v t0), (1, .v t1), (2, .v t2), (8, .v t8), (9, .v w33_13), (10, .v t10)], [], Q10))
  (fun _ => some (.normal, [(0, .v t0), (1, .v t1), (2, .v t2), (8, .v t8), (9, .v t9), (10, .v w23_5)], [], Q10)))
  (outX 1 (finC [] [] [0, 1, 2, 8, 9, 10] [] k)))
  (fun _ => k (.exit 0) [(0, .v t0), (1, .v t1), (2, .v t2), (8, .v t8), (9, .v t9)] [] Q)) := by kernel_rfl
noncomputable def L_slices_BinarySearchFunc_api_Item_api_Item_int_0 (s : PSpecs) (t0 t1 t2 t8 t9 t10 : AV) (Q : AHeap) : Option PEnd := loopP (penv s) c_slices_BinarySearchFunc_api_Item_api_Item_int_0 [(0, .v t0), (1, .v t1), (2, .v t2), (8, .v t8), (9, .v t9), (10, .v t10)] [] Q
theorem L_slices_BinarySearchFunc_api_Item_api_Item_int_0_fold (s : PSpecs) (t0 t1 t2 t8 t9 t10 : AV) (Q : AHeap) : loopP (penv s) c_slices_BinarySearchFunc_api_Item_api_Item_int_0 [(0, .v t0), (1, .v t1), (2, .v t2), (8, .v t8), (9, .v t9), (10, .v t10)] [] Q = L_slices_BinarySearchFunc_api_Item_api_Item_int_0 s t0 t1 t2 t8 t9 t10 Q := rfl
theorem L_slices_BinarySearchFunc_api_Item_api_Item_int_0_eq (s : PSpecs) (t0 t1 t2 t8 t9 t10 : AV) (Q : AHeap) : L_slices_BinarySearchFunc_api_Item_api_Item_int_0 s t0 t1 t2 t8 t9 t10 Q = evalPK (callP (penv s)) (loopP (penv s)) c_slices_BinarySearchFunc_api_Item_api_Item_int_0 [(0, .v t0), (1, .v t1), (2, .v t2), (8, .v t8), (9, .v t9), (10, .v t10)] [] Q (goX (fun τ ω Q => loopP (penv s) c_slices_BinarySearchFunc_api_Item_api_Item_int_0 τ ω Q) ret4) := loopP_body
abbrev X_slices_BinarySearchFunc_api_Item_api_Item_int_0_x0 (t0 t1 t2 t8 t9 : AV) (Q : AHeap) : Option PEnd := some (.exit 0, [(0, .v t0), (1, .v t1), (2, .v t2), (8, .v t8), (9, .v t9)], [], Q)
theorem p_slices_BinarySearchFunc_api_Item_api_Item_int_1 {β : Type} (call : CallF) (lp : PLoopF) (t0 t1 t2 t8 t9 : AV) (Q : AHeap) (k : PK β) : evalPK call lp c_slices_BinarySearchFunc_api_Item_api_Item_int_1 [(0, .v t0), (1, .v t1), (2, .v t2), (8, .v t8), (9, .v t9)] [] Q k = (
  bnP (binA .lss t9 t8) fun w38_1 => 
  bnP (gdQ w38_1 true (some t2)) fun w40_2 => 
  bnP (gdQ w38_1 true (some t0)) fun w41_3 => 
  bnP (gdQ w38_1 true (some t9)) fun w42_4 => 
  bnP (gdQ w38_1 true (elQ 2 w41_3 w42_4)) fun e5 => 
  bnP (gdQ w38_1 true ((cut (AV.cells e5) 0 2).map AV.agg)) fun w44_6 => 
  bnP (gdQ w38_1 true (some t1)) fun w45_7 => 
  bnS (gdH w38_1 true (bnF w40_2 fun f10 f10f f10c => lowF call f10 (f10f ++ [w44_6, w45_7] ++ f10c) Q) Q) fun w46_8 Q9 => 
  bnP (gdQ w38_1 true (binA .eql (frz w46_8) (.int .i64 0))) fun w47_11 => 
  bnP (pickA w38_1 w47_11 (.bool false)) fun w48_12 => 
  k .ret [(7, .v w48_12), (6, .v t9), (48, .v w48_12), (47, .v w47_11), (46, .v (frz w46_8)), (45, .v w45_7), (44, .v w44_6), (43, .gd 39 true (.fp e5 0)), (42, .v w42_4), (41, .v w41_3), (40, .v w40_2), (39, .v w38_1), (38, .v w38_1), (37, .v t8), (36, .v t9), (35, .v t9), (0, .v t0), (1, .v t1), (2, .v t2), (8, .v t8), (9, .v t9)] [] Q9) := by kernel_rfl
theorem g_slices_BinarySearchFunc_api_Item_api_Item_int {call : CallF} {lp : PLoopF} (v0 v1 v2 : AV) (Q : AHeap) : evalPK call lp c_slices_BinarySearchFunc_api_Item_api_Item_int [(0, .v v0), (1, .v v1), (2, .v v2)] [] Q (retPK [.tmp 6, .tmp 7] [.n, .n]) = (
  bnP (lenQ v0) fun w13_1 => 
  bnX (lp c_slices_BinarySearchFunc_api_Item_api_Item_int_0 [(0, .v v0), (1, .v v1), (2, .v v2), (8, .v w13_1), (9, .v (.int .i64 0)), (10, .v w13_1)] [] Q) (outX 0 (goC (evalPK call lp c_slices_BinarySearchFunc_api_Item_api_Item_int_1) (retPK [.tmp 6, .tmp 7] [.n, .n])))) := by kernel_rfl
def f_slices_BinarySearchFunc_api_Item_api_Item_int {s : PSpecs} (hs : s.lookup 32 = none) (v0 v1 v2 : AV) (Q : AHeap) := (callP_fn (E := penv s) (f := 32) (fn := pf_slices_BinarySearchFunc_api_Item_api_Item_int) hs rfl [v0, v1, v2] Q rfl).trans (g_slices_BinarySearchFunc_api_Item_api_Item_int (call := callP (penv s)) (lp := loopP (penv s)) v0 v1 v2 Q)
theorem g_win_Put_1 {call : CallF} {lp : PLoopF} (v0_0 v0_1 v1 : AV) (Q : AHeap) : evalPK call lp c_win_Put_1 [(0, .v (.agg [v0_0, v0_1])), (1, .v v1)] [] Q (retPK [.tmp 4] [.n]) = (
  bnC 2 (stC 2 (.agg [v0_0, v0_1])) fun s1 s2 => 
  bnS (call 34 [s1, v1] Q) fun w8_3 Q4 => 
  bnP (rcv false .n (frz w8_3)) fun r5 => some (r5, Q4)) := by kernel_rfl
def f_win_Put_1 {s : PSpecs} (hs : s.lookup 33 = none) (v0_0 v0_1 v1 : AV) (Q : AHeap) := (callP_fn (E := penv s) (f := 33) (fn := pf_win_Put_1) hs rfl [.agg [v0_0, v0_1], v1] Q rfl).trans (g_win_Put_1 (call := callP (penv s)) (lp := loopP (penv s)) v0_0 v0_1 v1 Q)
theorem g_cmp_Compare_int {call : CallF} {lp : PLoopF} (v0 v1 : AV) (Q : AHeap) : evalPK call lp c_cmp_Compare_int [(0, .v v0), (1, .v v1)] [] Q (retPK [.tmp 4] [.n]) = (
  bnS (call 39 [v0] Q) fun w8_1 Q2 => 
  bnS (call 39 [v1] Q2) fun w10_3 Q4 => 
  cndS (frz w8_1) (fun _ => cndS (frz w10_3) (fun _ => some (.int .i64 0, Q4))
  (fun _ => some (.int .i64 (-1), Q4)))
  (fun _ => cndS (frz w10_3) (fun _ => some (.int .i64 1, Q4))
  (fun _ => bnP (binA .lss v0 v1) fun w16_5 => 
  cndS w16_5 (fun _ => some (.int .i64 (-1), Q4))
  (fun _ => bnP (binA .gtr v0 v1) fun w19_6 => 
  cndS w19_6 (fun _ => some (.int .i64 1, Q4))
  (fun _ => some (.int .i64 0, Q4)))))) := by kernel_rfl
def f_cmp_Compare_int {s : PSpecs} (hs : s.lookup 34 = none) (v0 v1 : AV) (Q : AHeap) := (callP_fn (E := penv s) (f := 34) (fn := pf_cmp_Compare_int) hs rfl [v0, v1] Q rfl).trans (g_cmp_Compare_int (call := callP (penv s)) (lp := loopP (penv s)) v0 v1 Q)
theorem g_cmp_isNaN_int {call : CallF} {lp : PLoopF} (v0 : AV) (Q : AHeap) : evalPK call lp c_cmp_isNaN_int [(0, .v v0)] [] Q (retPK [.tmp 2] [.n]) = (
  bnP (binA .neq v0 v0) fun w5_1 => 
  bnP (rcv false .n w5_1) fun r2 => some (r2, Q)) := by kernel_rfl
def f_cmp_isNaN_int {s : PSpecs} (hs : s.lookup 39 = none) (v0 : AV) (Q : AHeap) := (callP_fn (E := penv s) (f := 39) (fn := pf_cmp_isNaN_int) hs rfl [v0] Q rfl).trans (g_cmp_isNaN_int (call := callP (penv s)) (lp := loopP (penv s)) v0 Q)
end Go.Proofs.Ytcledejamnnbmaa.Ps
