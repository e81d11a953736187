/- Equations by values. Printed by mkpv.py of this repo. -/
import Derived.Test.YtldehmfhgmmkhaaPnd
import Derived.Test.YtldehmfhgmmkhaaPvE
namespace Go.Proofs.Ytldehmfhgmmkhaa.Pn
open Go.Ab
set_option maxRecDepth 100000
set_option linter.unusedVariables false
set_option linter.unusedSimpArgs false
set_option linter.defProp false
theorem p_pleachlaw13_NetOrder_0 {β : Type} (call : CallF) (lp : PLoopF) (t0 t1 t5 t6 t7 t8 t10 : AV) (Q : AHeap) (k : PK β) : evalPK call lp c_pleachlaw13_NetOrder_0 [(0, .v t0), (1, .v t1), (5, .v t5), (6, .v t6), (7, .v t7), (8, .v t8), (10, .v t10)] [] Q k = (
  bnP (lenQ t1) fun w51_1 => 
  bnP (binA .lss t8 w51_1) fun w52_2 => 
  bnP (gdQ w52_2 true (some t10)) fun w54_3 => 
  bnP (gdQ w52_2 true (some t1)) fun w55_4 => 
  bnP (gdQ w52_2 true (some t8)) fun w56_5 => 
  bnP (gdQ w52_2 true (elQ 1 w55_4 w56_5)) fun e6 => 
  bnP (gdQ w52_2 true ((AV.cells e6)[0]?)) fun w58_7 => 
  bnP (gdQ w52_2 true (binA .rem w58_7 (.int .u8 3))) fun w59_8 => 
  bnP (gdQ w52_2 true (cviA .i64 w59_8)) fun w60_9 => 
  bnP (gdQ w52_2 true (binA .lss w54_3 w60_9)) fun w61_10 => 
  bnP (pickA w52_2 w61_10 (.bool false)) fun w62_11 => 
  cndS w62_11 (fun _ => bnS (call 31 [t5, .int .i64 0] Q) fun w67_12 Q13 => 
  bnP (extA (frz w67_12) 0) fun w68_14 => 
  bnP (extA (frz w67_12) 1) fun w69_15 => 
  bnP (extA (frz w67_12) 2) fun w70_16 => 
  bnC 3 (stC 3 w69_15) fun s17 s18 s19 => 
  bnP (lenQ t5) fun w73_20 => 
  bnP (binA .gtr w73_20 (.int .i64 0)) fun w74_21 => 
  bnP (eqsA true .b w70_16 w74_21) fun w75_22 => 
  cndS w75_22 (fun _ => k .ret [(4, .v (.bool false))] [] Q13)
  (fun _ => bnP (binA .add t7 s18) fun w80_23 => 
  bnP (binA .add t10 (.int .i64 1)) fun w64_24 => 
  k .normal [(0, .v t0), (1, .v t1), (5, .v w68_14), (6, .v t6), (7, .v w80_23), (8, .v t8), (10, .v w64_24)] [] Q13))
  (fun _ => k (.exit 2) [(0, .v t0), (1, .v t1), (5, .v t5), (6, .v t6), (7, .v t7), (8, .v t8)] [] Q)) := by kernel_rfl
noncomputable def L_pleachlaw13_NetOrder_0 (s : PSpecs) (t0 t1 t5 t6 t7 t8 t10 : AV) (Q : AHeap) : Option PEnd := loopP (penv s) c_pleachlaw13_NetOrder_0 [(0, .v t0), (1, .v t1), (5, .v t5), (6, .v t6), (7, .v t7), (8, .v t8), (10, .v t10)] [] Q
theorem L_pleachlaw13_NetOrder_0_fold (s : PSpecs) (t0 t1 t5 t6 t7 t8 t10 : AV) (Q : AHeap) : loopP (penv s) c_pleachlaw13_NetOrder_0 [(0, .v t0), (1, .v t1), (5, .v t5), (6, .v t6), (7, .v t7), (8, .v t8), (10, .v t10)] [] Q = L_pleachlaw13_NetOrder_0 s t0 t1 t5 t6 t7 t8 t10 Q := rfl
theorem L_pleachlaw13_NetOrder_0_eq (s : PSpecs) (t0 t1 t5 t6 t7 t8 t10 : AV) (Q : AHeap) : L_pleachlaw13_NetOrder_0 s t0 t1 t5 t6 t7 t8 t10 Q = evalPK (callP (penv s)) (loopP (penv s)) c_pleachlaw13_NetOrder_0 [(0, .v t0), (1, .v t1), (5, .v t5), (6, .v t6), (7, .v t7), (8, .v t8), (10, .v t10)] [] Q (goX (fun τ ω Q => loopP (penv s) c_pleachlaw13_NetOrder_0 τ ω Q) ret4) := loopP_body
abbrev X_pleachlaw13_NetOrder_0_x2 (t0 t1 t5 t6 t7 t8 : AV) (Q : AHeap) : Option PEnd := some (.exit 2, [(0, .v t0), (1, .v t1), (5, .v t5), (6, .v t6), (7, .v t7), (8, .v t8)], [], Q)
theorem p_pleachlaw13_NetOrder_1 {β : Type} (call : CallF) (lp : PLoopF) (t0 t1 t5 t6 t7 t8 : AV) (Q : AHeap) (k : PK β) : evalPK call lp c_pleachlaw13_NetOrder_1 [(0, .v t0), (1, .v t1), (5, .v t5), (6, .v t6), (7, .v t7), (8, .v t8)] [] Q k = (
  bnP (binA .add t8 (.int .i64 1)) fun w33_1 => 
  k .normal [(8, .v w33_1), (33, .v w33_1), (32, .v t8), (0, .v t0), (1, .v t1), (5, .v t5), (6, .v t6), (7, .v t7), (8, .v t8)] [] Q) := by kernel_rfl
theorem p_pleachlaw13_NetOrder_2 {β : Type} (call : CallF) (lp : PLoopF) (t0 t1 t5 t6 t7 t8 : AV) (Q : AHeap) (k : PK β) : evalPK call lp c_pleachlaw13_NetOrder_2 [(0, .v t0), (1, .v t1), (5, .v t5), (6, .v t6), (7, .v t7), (8, .v t8)] [] Q k = (
  bnP (lenQ t0) fun w30_1 => 
  bnP (binA .lss t8 w30_1) fun w31_2 => 
  cndS w31_2 (fun _ => bnP (elQ 1 t0 t8) fun e3 => 
  bnP ((AV.cells e3)[0]?) fun w37_4 => 
  bnP (binA .rem w37_4 (.int .u8 26)) fun w38_5 => 
  bnP (binA .add (.int .u8 97) w38_5) fun w39_6 => 
  pinB (elOk 1 w39_6) <| 
  bnP (b2sQ (.fz 1 [w39_6])) fun w41_7 => 
  bnC 3 (fillP [.int .i64 0, .str [], .bool false] [(0, 1, .int .i64 1), (1, 1, w41_7)]) fun c44_8 c44_9 c44_10 => 
  bnS (call 29 [t5, .agg [c44_8, c44_9, c44_10]] Q) fun w45_11 Q12 => 
  bnP (binA .add t6 w41_7) fun w48_13 => 
  bnX (lp c_pleachlaw13_NetOrder_0 [(0, .v t0), (1, .v t1), (5, .v (frz w45_11)), (6, .v w48_13), (7, .v t7), (8, .v t8), (10, .v (.int .i64 0))] [] Q12) (outX 2 (finC [] [] [0, 1, 5, 6, 7, 8] [] (outX 1 (goC (evalPK call lp c_pleachlaw13_NetOrder_1) (finC [] [] [0, 1, 5, 6, 7, 8] [] k))))))
  (fun _ => k (.exit 0) [(5, .v t5), (6, .v t6), (7, .v t7)] [] Q)) := by kernel_rfl
noncomputable def L_pleachlaw13_NetOrder_2 (s : PSpecs) (t0 t1 t5 t6 t7 t8 : AV) (Q : AHeap) : Option PEnd := loopP (penv s) c_pleachlaw13_NetOrder_2 [(0, .v t0), (1, .v t1), (5, .v t5), (6, .v t6), (7, .v t7), (8, .v t8)] [] Q
theorem L_pleachlaw13_NetOrder_2_fold (s : PSpecs) (t0 t1 t5 t6 t7 t8 : AV) (Q : AHeap) : loopP (penv s) c_pleachlaw13_NetOrder_2 [(0, .v t0), (1, .v t1), (5, .v t5), (6, .v t6), (7, .v t7), (8, .v t8)] [] Q = L_pleachlaw13_NetOrder_2 s t0 t1 t5 t6 t7 t8 Q := rfl
theorem L_pleachlaw13_NetOrder_2_eq (s : PSpecs) (t0 t1 t5 t6 t7 t8 : AV) (Q : AHeap) : L_pleachlaw13_NetOrder_2 s t0 t1 t5 t6 t7 t8 Q = evalPK (callP (penv s)) (loopP (penv s)) c_pleachlaw13_NetOrder_2 [(0, .v t0), (1, .v t1), (5, .v t5), (6, .v t6), (7, .v t7), (8, .v t8)] [] Q (goX (fun τ ω Q => loopP (penv s) c_pleachlaw13_NetOrder_2 τ ω Q) ret4) := loopP_body
abbrev X_pleachlaw13_NetOrder_2_x0 (t5 t6 t7 : AV) (Q : AHeap) : Option PEnd := some (.exit 0, [(5, .v t5), (6, .v t6), (7, .v t7)], [], Q)
theorem p_pleachlaw13_NetOrder_3 {β : Type} (call : CallF) (lp : PLoopF) (t5 t6 t7 t14 : AV) (Q : AHeap) (k : PK β) : evalPK call lp c_pleachlaw13_NetOrder_3 [(5, .v t5), (6, .v t6), (7, .v t7), (14, .v t14)] [] Q k = (
  bnP (binA .lss t14 (.int .i64 60)) fun w82_1 => 
  bnP (gdQ w82_1 true (some t5)) fun w84_2 => 
  bnP (gdQ w82_1 true (lenQ w84_2)) fun w85_3 => 
  bnP (gdQ w82_1 true (binA .gtr w85_3 (.int .i64 0))) fun w86_4 => 
  bnP (pickA w82_1 w86_4 (.bool false)) fun w87_5 => 
  cndS w87_5 (fun _ => bnS (call 31 [t5, .int .i64 0] Q) fun w92_6 Q7 => 
  bnP (extA (frz w92_6) 0) fun w93_8 => 
  bnP (extA (frz w92_6) 1) fun w94_9 => 
  bnP (extA (frz w92_6) 2) fun w95_10 => 
  bnC 3 (stC 3 w94_9) fun s11 s12 s13 => 
  bnP (unA .not w95_10) fun w97_14 => 
  bnP (gdQ w97_14 false (some w93_8)) fun w99_15 => 
  bnP (gdQ w97_14 false (lenQ w99_15)) fun w100_16 => 
  bnP (gdQ w97_14 false (some t5)) fun w101_17 => 
  bnP (gdQ w97_14 false (lenQ w101_17)) fun w102_18 => 
  bnP (gdQ w97_14 false (binA .sub w102_18 (.int .i64 1))) fun w103_19 => 
  bnP (gdQ w97_14 false (binA .neq w100_16 w103_19)) fun w104_20 => 
  bnP (pickA w97_14 (.bool true) w104_20) fun w105_21 => 
  cndS w105_21 (fun _ => k .ret [(4, .v (.bool false))] [] Q7)
  (fun _ => bnP (binA .add t7 s12) fun w110_22 => 
  bnP (binA .add t14 (.int .i64 1)) fun w89_23 => 
  k .normal [(5, .v w93_8), (6, .v t6), (7, .v w110_22), (14, .v w89_23)] [] Q7))
  (fun _ => k (.exit 4) [(5, .v t5), (6, .v t6), (7, .v t7)] [] Q)) := by kernel_rfl
noncomputable def L_pleachlaw13_NetOrder_3 (s : PSpecs) (t5 t6 t7 t14 : AV) (Q : AHeap) : Option PEnd := loopP (penv s) c_pleachlaw13_NetOrder_3 [(5, .v t5), (6, .v t6), (7, .v t7), (14, .v t14)] [] Q
theorem L_pleachlaw13_NetOrder_3_fold (s : PSpecs) (t5 t6 t7 t14 : AV) (Q : AHeap) : loopP (penv s) c_pleachlaw13_NetOrder_3 [(5, .v t5), (6, .v t6), (7, .v t7), (14, .v t14)] [] Q = L_pleachlaw13_NetOrder_3 s t5 t6 t7 t14 Q := rfl
theorem L_pleachlaw13_NetOrder_3_eq (s : PSpecs) (t5 t6 t7 t14 : AV) (Q : AHeap) : L_pleachlaw13_NetOrder_3 s t5 t6 t7 t14 Q = evalPK (callP (penv s)) (loopP (penv s)) c_pleachlaw13_NetOrder_3 [(5, .v t5), (6, .v t6), (7, .v t7), (14, .v t14)] [] Q (goX (fun τ ω Q => loopP (penv s) c_pleachlaw13_NetOrder_3 τ ω Q) ret4) := loopP_body
abbrev X_pleachlaw13_NetOrder_3_x4 (t5 t6 t7 : AV) (Q : AHeap) : Option PEnd := some (.exit 4, [(5, .v t5), (6, .v t6), (7, .v t7)], [], Q)
theorem p_pleachlaw13_NetOrder_4 {β : Type} (call : CallF) (lp : PLoopF) (t5 t6 t7 : AV) (Q : AHeap) (k : PK β) : evalPK call lp c_pleachlaw13_NetOrder_4 [(5, .v t5), (6, .v t6), (7, .v t7)] [] Q k = (
  bnP (binA .eql t7 t6) fun w113_1 => 
  bnP (gdQ w113_1 true (some t5)) fun w115_2 => 
  bnP (gdQ w113_1 true (lenQ w115_2)) fun w116_3 => 
  bnP (gdQ w113_1 true (binA .eql w116_3 (.int .i64 0))) fun w117_4 => 
  bnP (pickA w113_1 w117_4 (.bool false)) fun w118_5 => 
  k .ret [(4, .v w118_5), (118, .v w118_5), (117, .v w117_4), (116, .v w116_3), (115, .v w115_2), (114, .v w113_1), (113, .v w113_1), (112, .v t6), (111, .v t7), (5, .v t5), (6, .v t6), (7, .v t7)] [] Q) := by kernel_rfl
theorem p_pleachlaw13_NetOrder_5 {β : Type} (call : CallF) (lp : PLoopF) (t5 t6 t7 : AV) (Q : AHeap) (k : PK β) : evalPK call lp c_pleachlaw13_NetOrder_5 [(5, .v t5), (6, .v t6), (7, .v t7)] [] Q k = (
  bnX (lp c_pleachlaw13_NetOrder_3 [(5, .v t5), (6, .v t6), (7, .v t7), (14, .v (.int .i64 0))] [] Q) (outX 4 (goC (evalPK call lp c_pleachlaw13_NetOrder_4) k))) := by kernel_rfl
theorem g_pleachlaw13_NetOrder {call : CallF} {lp : PLoopF} (v0 v1 : AV) (Q : AHeap) : evalPK call lp c_pleachlaw13_NetOrder [(0, .v v0), (1, .v v1)] [] Q (retPK [.tmp 4] [.n]) = (
  bnS (call 28 [] Q) fun w18_1 Q2 => 
  bnP (unA .not (frz w18_1)) fun w19_3 => 
  cndS w19_3 (fun _ => some (.bool false, Q2))
  (fun _ => bnP (lenQ v0) fun w21_4 => 
  bnP (binA .gtr w21_4 (.int .i64 50)) fun w22_5 => 
  bnP (gdQ w22_5 false (some v1)) fun w24_6 => 
  bnP (gdQ w22_5 false (lenQ w24_6)) fun w25_7 => 
  bnP (gdQ w22_5 false (binA .gtr w25_7 (.int .i64 50))) fun w26_8 => 
  bnP (pickA w22_5 (.bool true) w26_8) fun w27_9 => 
  cndS w27_9 (fun _ => some (.bool true, Q2))
  (fun _ => bnX (lp c_pleachlaw13_NetOrder_2 [(0, .v v0), (1, .v v1), (5, .v .nils), (6, .v (.str [])), (7, .v (.str [])), (8, .v (.int .i64 0))] [] Q2) (outX 0 (goC (evalPK call lp c_pleachlaw13_NetOrder_5) (retPK [.tmp 4] [.n])))))) := by kernel_rfl
def f_pleachlaw13_NetOrder {s : PSpecs} (hs : s.lookup 10 = none) (v0 v1 : AV) (Q : AHeap) := (callP_fn (E := penv s) (f := 10) (fn := pf_pleachlaw13_NetOrder) hs rfl [v0, v1] Q rfl).trans (g_pleachlaw13_NetOrder (call := callP (penv s)) (lp := loopP (penv s)) v0 v1 Q)
theorem g_net_Send {call : CallF} {lp : PLoopF} (v0 v1_0 v1_1 v1_2 : AV) (Q : AHeap) : evalPK call lp c_net_Send [(0, .v v0), (1, .v (.agg [v1_0, v1_1, v1_2]))] [] Q (retPK [.tmp 4] [.o 3]) = (
  bnC 3 (stC 3 (.agg [v1_0, v1_1, v1_2])) fun s1 s2 s3 => 
  bnS (call 58 [v0] Q) fun w6_4 Q5 => bnL (owZ 3 w6_4) fun l6 => 
  bnP (binA .geq (.int .i64 ((l6 : List AV).length : Nat)) (.int .i64 60)) fun w9_7 => 
  cndS w9_7 (fun _ => some (.ow 3 l6, Q5))
  (fun _ => pinB (elOk 3 (.agg [s1, s2, s3])) <| 
  pinB (room 32 ((l6 : List AV).length + (([.agg [s1, s2, s3]] : List AV) : List AV).length)) <| 
  some (.ow 3 (l6 ++ ([.agg [s1, s2, s3]] : List AV)), Q5))) := by kernel_rfl
def f_net_Send {s : PSpecs} (hs : s.lookup 29 = none) (v0 v1_0 v1_1 v1_2 : AV) (Q : AHeap) := (callP_fn (E := penv s) (f := 29) (fn := pf_net_Send) hs rfl [v0, .agg [v1_0, v1_1, v1_2]] Q rfl).trans (g_net_Send (call := callP (penv s)) (lp := loopP (penv s)) v0 v1_0 v1_1 v1_2 Q)
theorem g_net_Comes {call : CallF} {lp : PLoopF} (v0 v1 : AV) (Q : AHeap) : evalPK call lp c_net_Comes [(0, .v v0), (1, .v v1)] [] Q (retPK [.tmp 4, .cell 5 (some 3), .tmp 6] [.f 3, .n, .n]) = (
  bnS (call 58 [v0] Q) fun w9_1 Q2 => bnL (owZ 3 w9_1) fun l3 => 
  bnS (call 59 [.fz 3 l3, v1] ⟨Q2.size, .leaf⟩) fun w12_4 _ => pinB (flatR w12_4) <| 
  bnP (unA .not w12_4) fun w13_6 => 
  cndS w13_6 (fun _ => some (.tup [.fz 3 l3, .agg [.int .i64 0, .str [], .bool false], .bool false], Q2))
  (fun _ => bnN (idxN (l3 : List AV).length v1) fun i7 => 
  bnC 3 (elN l3 i7 0 3) fun c19_8 c19_9 c19_10 => 
  bnC 3 (stC 3 (.agg [c19_8, c19_9, c19_10])) fun s11 s12 s13 => 
  bnP (binA .add v1 (.int .i64 1)) fun w23_14 => 
  bnS (call 1000060 [.ow 3 l3, v1, w23_14] Q2) fun w24_15 Q16 => bnL (owZ 3 w24_15) fun l17 => 
  bnC 3 (stC 3 (.agg [s11, s12, s13])) fun s18 s19 s20 => 
  some (.tup [.fz 3 l17, .agg [s18, s19, s20], .bool true], Q16))) := by kernel_rfl
def f_net_Comes {s : PSpecs} (hs : s.lookup 31 = none) (v0 v1 : AV) (Q : AHeap) := (callP_fn (E := penv s) (f := 31) (fn := pf_net_Comes) hs rfl [v0, v1] Q rfl).trans (g_net_Comes (call := callP (penv s)) (lp := loopP (penv s)) v0 v1 Q)
theorem g_net_there {call : CallF} {lp : PLoopF} (v0 v1 : AV) (Q : AHeap) : evalPK call lp c_net_there [(0, .v v0), (1, .v v1)] [] Q (retPK [.tmp 4] [.n]) = (
  bnP (binA .geq v1 (.int .i64 0)) fun w6_1 => 
  bnP (gdQ w6_1 true (some v1)) fun w8_2 => 
  bnP (gdQ w6_1 true (some v0)) fun w9_3 => 
  bnP (gdQ w6_1 true (lenQ w9_3)) fun w10_4 => 
  bnP (gdQ w6_1 true (binA .lss w8_2 w10_4)) fun w11_5 => 
  bnP (pickA w6_1 w11_5 (.bool false)) fun w12_6 => 
  bnP (rcv false .n w12_6) fun r7 => some (r7, Q)) := by kernel_rfl
def f_net_there {s : PSpecs} (hs : s.lookup 59 = none) (v0 v1 : AV) (Q : AHeap) := (callP_fn (E := penv s) (f := 59) (fn := pf_net_there) hs rfl [v0, v1] Q rfl).trans (g_net_there (call := callP (penv s)) (lp := loopP (penv s)) v0 v1 Q)
end Go.Proofs.Ytldehmfhgmmkhaa.Pn
