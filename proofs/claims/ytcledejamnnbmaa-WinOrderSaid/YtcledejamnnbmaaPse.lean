/- Equations by values. Printed by mkpv.py of this repo. -/
import Derived.Test.YtcledejamnnbmaaPsd
import Derived.Test.YtcledejamnnbmaaPvE
namespace Go.Proofs.Ytcledejamnnbmaa.Ps
open Go.Ab
set_option maxRecDepth 100000
set_option linter.unusedVariables false
set_option linter.unusedSimpArgs false
set_option linter.defProp false
theorem p_pleachlaw15_WinOrder_0 {β : Type} (call : CallF) (lp : PLoopF) (t0 t3 t4 t5 t6 t7 : AV) (Q : AHeap) (k : PK β) : evalPK call lp c_pleachlaw15_WinOrder_0 [(0, .v t0), (3, .v t3), (4, .v t4), (5, .v t5), (6, .v t6), (7, .v t7)] [] Q k = (
  bnS (call 23 [t3, t4] Q) fun w74_1 Q2 => 
  bnP (extA (frz w74_1) 0) fun w75_3 => 
  bnP (extA (frz w74_1) 1) fun w76_4 => 
  bnP (extA (frz w74_1) 2) fun w77_5 => 
  bnC 2 (stC 2 w76_4) fun s6 s7 => 
  bnP (mlkA Q2 .i (.bool false) false t6 t4) fun w81_8 => 
  bnP (eqsA true .b w77_5 w81_8) fun w82_9 => 
  bnP (gdQ w82_9 false (some w77_5)) fun w84_10 => 
  bnP (gdQ w82_9 false (some w84_10)) fun w85_11 => 
  bnP (gdQ w85_11 true (some s6)) fun w87_12 => 
  bnP (gdQ w85_11 true (some t4)) fun w88_13 => 
  bnP (gdQ w85_11 true (binA .neq w87_12 w88_13)) fun w89_14 => 
  bnP (gdQ w85_11 true (some w89_14)) fun w90_15 => 
  bnP (gdQ w90_15 false (some w75_3)) fun w91_16 => 
  bnP (gdQ w90_15 false (lenQ w91_16)) fun w92_17 => 
  bnP (gdQ w90_15 false (some t3)) fun w93_18 => 
  bnP (gdQ w90_15 false (lenQ w93_18)) fun w94_19 => 
  bnP (gdQ w90_15 false (binA .sub w94_19 (.int .i64 1))) fun w95_20 => 
  bnP (gdQ w90_15 false (binA .neq w92_17 w95_20)) fun w96_21 => 
  bnP (gdQ w85_11 true (pickA w90_15 (.bool true) w96_21)) fun w97_22 => 
  bnP (gdQ w82_9 false (pickA w85_11 w97_22 (.bool false))) fun w98_23 => 
  bnP (pickA w82_9 (.bool true) w98_23) fun w99_24 => 
  cndS w99_24 (fun _ => k .ret [(2, .v (.bool false))] [] Q2)
  (fun _ => bnP (unA .not w77_5) fun w101_25 => 
  cndS w101_25 (fun _ => k (.exit 2) [(0, .v t0), (3, .v t3), (4, .v t4), (5, .v t5), (6, .v t6), (7, .v t7)] [] Q2)
  (fun _ => bnP (binA .add t5 s7) fun w105_26 => 
  bnP (binA .add t4 (.int .i64 1)) fun w108_27 => 
  k .normal [(0, .v t0), (3, .v w75_3), (4, .v w108_27), (5, .v w105_26), (6, .v t6), (7, .v t7)] [] Q2))) := by kernel_rfl
noncomputable def L_pleachlaw15_WinOrder_0 (s : PSpecs) (t0 t3 t4 t5 t6 t7 : AV) (Q : AHeap) : Option PEnd := loopP (penv s) c_pleachlaw15_WinOrder_0 [(0, .v t0), (3, .v t3), (4, .v t4), (5, .v t5), (6, .v t6), (7, .v t7)] [] Q
theorem L_pleachlaw15_WinOrder_0_fold (s : PSpecs) (t0 t3 t4 t5 t6 t7 : AV) (Q : AHeap) : loopP (penv s) c_pleachlaw15_WinOrder_0 [(0, .v t0), (3, .v t3), (4, .v t4), (5, .v t5), (6, .v t6), (7, .v t7)] [] Q = L_pleachlaw15_WinOrder_0 s t0 t3 t4 t5 t6 t7 Q := rfl
theorem L_pleachlaw15_WinOrder_0_eq (s : PSpecs) (t0 t3 t4 t5 t6 t7 : AV) (Q : AHeap) : L_pleachlaw15_WinOrder_0 s t0 t3 t4 t5 t6 t7 Q = evalPK (callP (penv s)) (loopP (penv s)) c_pleachlaw15_WinOrder_0 [(0, .v t0), (3, .v t3), (4, .v t4), (5, .v t5), (6, .v t6), (7, .v t7)] [] Q (goX (fun τ ω Q => loopP (penv s) c_pleachlaw15_WinOrder_0 τ ω Q) ret4) := loopP_body
abbrev X_pleachlaw15_WinOrder_0_x2 (t0 t3 t4 t5 t6 t7 : AV) (Q : AHeap) : Option PEnd := some (.exit 2, [(0, .v t0), (3, .v t3), (4, .v t4), (5, .v t5), (6, .v t6), (7, .v t7)], [], Q)
theorem p_pleachlaw15_WinOrder_1 {β : Type} (call : CallF) (lp : PLoopF) (t0 t3 t4 t5 t6 t7 : AV) (Q : AHeap) (k : PK β) : evalPK call lp c_pleachlaw15_WinOrder_1 [(0, .v t0), (3, .v t3), (4, .v t4), (5, .v t5), (6, .v t6), (7, .v t7)] [] Q k = (
  bnS (call 24 [t3] Q) fun w110_1 Q2 => 
  bnP (binA .neq (frz w110_1) (.int .i64 0)) fun w111_3 => 
  bnP (gdQ w111_3 true (some t3)) fun w113_4 => 
  bnS (gdH w111_3 true (call 24 [w113_4] Q2) Q2) fun w114_5 Q6 => 
  bnP (gdQ w111_3 true (some t4)) fun w115_7 => 
  bnP (gdQ w111_3 true (binA .leq (frz w114_5) w115_7)) fun w116_8 => 
  bnP (pickA w111_3 w116_8 (.bool false)) fun w117_9 => 
  cndS w117_9 (fun _ => k .ret [(2, .v (.bool false))] [] Q6)
  (fun _ => k .normal [(0, .v t0), (3, .v t3), (4, .v t4), (5, .v t5), (6, .v t6), (7, .v t7)] [] Q6)) := by kernel_rfl
theorem p_pleachlaw15_WinOrder_2 {β : Type} (call : CallF) (lp : PLoopF) (t0 t4 t5 t6 t7 t9 : AV) (Q : AHeap) (k : PK β) : evalPK call lp c_pleachlaw15_WinOrder_2 [(0, .v t0), (4, .v t4), (5, .v t5), (6, .v t6), (7, .v t7), (9, .v t9)] [] Q k = (
  bnX (lp c_pleachlaw15_WinOrder_0 [(0, .v t0), (3, .v t9), (4, .v t4), (5, .v t5), (6, .v t6), (7, .v t7)] [] Q) (outX 2 (goC (evalPK call lp c_pleachlaw15_WinOrder_1) k))) := by kernel_rfl
theorem p_pleachlaw15_WinOrder_3 {β : Type} (call : CallF) (lp : PLoopF) (t0 t3 t4 t5 t6 t7 : AV) (Q : AHeap) (k : PK β) : evalPK call lp c_pleachlaw15_WinOrder_3 [(0, .v t0), (3, .v t3), (4, .v t4), (5, .v t5), (6, .v t6), (7, .v t7)] [] Q k = (
  bnP (binA .add t7 (.int .i64 1)) fun w26_1 => 
  k .normal [(0, .v t0), (3, .v t3), (4, .v t4), (5, .v t5), (6, .v t6), (7, .v w26_1)] [] Q) := by kernel_rfl
theorem p_pleachlaw15_WinOrder_4 {β : Type} (call : CallF) (lp : PLoopF) (t0 t3 t4 t5 t6 t7 : AV) (Q : AHeap) (k : PK β) : evalPK call lp c_pleachlaw15_WinOrder_4 [(0, .v t0), (3, .v t3), (4, .v t4), (5, .v t5), (6, .v t6), (7, .v t7)] [] Q k = (
  bnP (lenQ t0) fun w23_1 => 
  bnP (binA .lss t7 w23_1) fun w24_2 => 
  cndS w24_2 (fun _ => bnX (bnX (bnP (binA .sub t4 (.int .i64 2)) fun w28_3 => 
  bnP (elQ 1 t0 t7) fun e4 => 
  bnP ((AV.cells e4)[0]?) fun w32_5 => 
  bnP (binA .rem w32_5 (.int .u8 12)) fun w33_6 => 
  bnP (cviA .i64 w33_6) fun w34_7 => 
  bnP (binA .add w28_3 w34_7) fun w35_8 => 
  bnP (binA .rem w35_8 (.int .i64 26)) fun w41_9 => 
  bnP (binA .add (.int .i64 97) w41_9) fun w42_10 => 
  bnP (cviA .u8 w42_10) fun w43_11 => 
  pinB (elOk 1 w43_11) <| 
  bnP (b2sQ (.fz 1 [w43_11])) fun w45_12 => 
  bnC 2 (fillP [.int .i64 0, .str []] [(0, 1, w35_8), (1, 1, w45_12)]) fun c46_13 c46_14 => 
  bnS (call 22 [t3, t4, .agg [c46_13, c46_14]] Q) fun w47_15 Q16 => 
  bnP (extA (frz w47_15) 0) fun w48_17 => 
  bnP (extA (frz w47_15) 1) fun w49_18 => 
  bnP (binA .geq w35_8 t4) fun w53_19 => 
  bnP (gdQ w53_19 true (some w35_8)) fun w55_20 => 
  bnP (gdQ w53_19 true (some t4)) fun w56_21 => 
  bnP (gdQ w53_19 true (binA .add w56_21 (.int .i64 8))) fun w57_22 => 
  bnP (gdQ w53_19 true (binA .lss w55_20 w57_22)) fun w58_23 => 
  bnP (pickA w53_19 w58_23 (.bool false)) fun w59_24 => 
  bnP (gdQ w59_24 true (some t6)) fun w61_25 => 
  bnP (gdQ w59_24 true (some w35_8)) fun w62_26 => 
  bnP (gdQ w59_24 true (mlkA Q16 .i (.bool false) false w61_25 w62_26)) fun w63_27 => 
  bnP (gdQ w59_24 true (unA .not w63_27)) fun w64_28 => 
  bnP (pickA w59_24 w64_28 (.bool false)) fun w65_29 => 
  bnP (eqsA true .b w49_18 w65_29) fun w66_30 => 
  cndS w66_30 (fun _ => some (.ret, [(2, .v (.bool false))], [], Q16))
  (fun _ => bnX (cndS w49_18 (fun _ => bnS (mupA Q16 .i t6 w35_8 (.bool true)) fun _ Q31 => 
  some (.normal, [(0, .v t0), (4, .v t4), (5, .v t5), (6, .v t6), (7, .v t7), (9, .v w48_17)], [], Q31))
  (fun _ => some (.normal, [(0, .v t0), (4, .v t4), (5, .v t5), (6, .v t6), (7, .v t7), (9, .v w48_17)], [], Q16)))
  (goC (evalPK call lp c_pleachlaw15_WinOrder_2) ret4)))
  (outX 1 ret4))
  (goC (evalPK call lp c_pleachlaw15_WinOrder_3) k))
  (fun _ => k (.exit 0) [(4, .v t4), (5, .v t5)] [] Q)) := by kernel_rfl
noncomputable def L_pleachlaw15_WinOrder_4 (s : PSpecs) (t0 t3 t4 t5 t6 t7 : AV) (Q : AHeap) : Option PEnd := loopP (penv s) c_pleachlaw15_WinOrder_4 [(0, .v t0), (3, .v t3), (4, .v t4), (5, .v t5), (6, .v t6), (7, .v t7)] [] Q
theorem L_pleachlaw15_WinOrder_4_fold (s : PSpecs) (t0 t3 t4 t5 t6 t7 : AV) (Q : AHeap) : loopP (penv s) c_pleachlaw15_WinOrder_4 [(0, .v t0), (3, .v t3), (4, .v t4), (5, .v t5), (6, .v t6), (7, .v t7)] [] Q = L_pleachlaw15_WinOrder_4 s t0 t3 t4 t5 t6 t7 Q := rfl
theorem L_pleachlaw15_WinOrder_4_eq (s : PSpecs) (t0 t3 t4 t5 t6 t7 : AV) (Q : AHeap) : L_pleachlaw15_WinOrder_4 s t0 t3 t4 t5 t6 t7 Q = evalPK (callP (penv s)) (loopP (penv s)) c_pleachlaw15_WinOrder_4 [(0, .v t0), (3, .v t3), (4, .v t4), (5, .v t5), (6, .v t6), (7, .v t7)] [] Q (goX (fun τ ω Q => loopP (penv s) c_pleachlaw15_WinOrder_4 τ ω Q) ret4) := loopP_body
abbrev X_pleachlaw15_WinOrder_4_x0 (t4 t5 : AV) (Q : AHeap) : Option PEnd := some (.exit 0, [(4, .v t4), (5, .v t5)], [], Q)
theorem p_pleachlaw15_WinOrder_5 {β : Type} (call : CallF) (lp : PLoopF) (t4 t5 t14 : AV) (Q : AHeap) (k : PK β) : evalPK call lp c_pleachlaw15_WinOrder_5 [(4, .v t4), (5, .v t5), (14, .v t14)] [] Q k = (
  bnP (lensA t5) fun w120_1 => 
  bnP (binA .lss t14 w120_1) fun w121_2 => 
  cndS w121_2 (fun _ => bnP (ixsA t5 t14) fun w126_3 => 
  bnP (binA .add (.int .i64 5) t14) fun w128_4 => 
  bnP (binA .rem w128_4 (.int .i64 26)) fun w129_5 => 
  bnP (binA .add (.int .i64 97) w129_5) fun w130_6 => 
  bnP (cviA .u8 w130_6) fun w131_7 => 
  bnP (binA .neq w126_3 w131_7) fun w132_8 => 
  cndS w132_8 (fun _ => k .ret [(2, .v (.bool false))] [] Q)
  (fun _ => bnP (binA .add t14 (.int .i64 1)) fun w123_9 => 
  k .normal [(4, .v t4), (5, .v t5), (14, .v w123_9)] [] Q))
  (fun _ => k (.exit 4) [(4, .v t4), (5, .v t5)] [] Q)) := by kernel_rfl
noncomputable def L_pleachlaw15_WinOrder_5 (s : PSpecs) (t4 t5 t14 : AV) (Q : AHeap) : Option PEnd := loopP (penv s) c_pleachlaw15_WinOrder_5 [(4, .v t4), (5, .v t5), (14, .v t14)] [] Q
theorem L_pleachlaw15_WinOrder_5_fold (s : PSpecs) (t4 t5 t14 : AV) (Q : AHeap) : loopP (penv s) c_pleachlaw15_WinOrder_5 [(4, .v t4), (5, .v t5), (14, .v t14)] [] Q = L_pleachlaw15_WinOrder_5 s t4 t5 t14 Q := rfl
theorem L_pleachlaw15_WinOrder_5_eq (s : PSpecs) (t4 t5 t14 : AV) (Q : AHeap) : L_pleachlaw15_WinOrder_5 s t4 t5 t14 Q = evalPK (callP (penv s)) (loopP (penv s)) c_pleachlaw15_WinOrder_5 [(4, .v t4), (5, .v t5), (14, .v t14)] [] Q (goX (fun τ ω Q => loopP (penv s) c_pleachlaw15_WinOrder_5 τ ω Q) ret4) := loopP_body
abbrev X_pleachlaw15_WinOrder_5_x4 (t4 t5 : AV) (Q : AHeap) : Option PEnd := some (.exit 4, [(4, .v t4), (5, .v t5)], [], Q)
theorem p_pleachlaw15_WinOrder_6 {β : Type} (call : CallF) (lp : PLoopF) (t4 t5 : AV) (Q : AHeap) (k : PK β) : evalPK call lp c_pleachlaw15_WinOrder_6 [(4, .v t4), (5, .v t5)] [] Q k = (
  bnP (lensA t5) fun w134_1 => 
  bnP (binA .sub t4 (.int .i64 5)) fun w136_2 => 
  bnP (binA .eql w134_1 w136_2) fun w137_3 => 
  k .ret [(2, .v w137_3), (137, .v w137_3), (136, .v w136_2), (135, .v t4), (134, .v w134_1), (133, .v t5), (4, .v t4), (5, .v t5)] [] Q) := by kernel_rfl
theorem p_pleachlaw15_WinOrder_7 {β : Type} (call : CallF) (lp : PLoopF) (t4 t5 : AV) (Q : AHeap) (k : PK β) : evalPK call lp c_pleachlaw15_WinOrder_7 [(4, .v t4), (5, .v t5)] [] Q k = (
  bnX (lp c_pleachlaw15_WinOrder_5 [(4, .v t4), (5, .v t5), (14, .v (.int .i64 0))] [] Q) (outX 4 (goC (evalPK call lp c_pleachlaw15_WinOrder_6) k))) := by kernel_rfl
theorem g_pleachlaw15_WinOrder {call : CallF} {lp : PLoopF} (v0 : AV) (Q : AHeap) : evalPK call lp c_pleachlaw15_WinOrder [(0, .v v0)] [] Q (retPK [.tmp 2] [.n]) = (
  bnS (call 21 [] Q) fun w15_1 Q2 => 
  bnP (unA .not (frz w15_1)) fun w16_3 => 
  cndS w16_3 (fun _ => some (.bool false, Q2))
  (fun _ => bnP (lenQ v0) fun w18_4 => 
  bnP (binA .gtr w18_4 (.int .i64 40)) fun w19_5 => 
  cndS w19_5 (fun _ => some (.bool true, Q2))
  (fun _ => bnX (lp c_pleachlaw15_WinOrder_4 [(0, .v v0), (3, .v .nils), (4, .v (.int .i64 5)), (5, .v (.str [])), (6, .v (.mp Q2.size)), (7, .v (.int .i64 0))] [] (Q2.push (some (.mapo [])))) (outX 0 (goC (evalPK call lp c_pleachlaw15_WinOrder_7) (retPK [.tmp 2] [.n])))))) := by kernel_rfl
def f_pleachlaw15_WinOrder {s : PSpecs} (hs : s.lookup 6 = none) (v0 : AV) (Q : AHeap) := (callP_fn (E := penv s) (f := 6) (fn := pf_pleachlaw15_WinOrder) hs rfl [v0] Q rfl).trans (g_pleachlaw15_WinOrder (call := callP (penv s)) (lp := loopP (penv s)) v0 Q)
theorem g_win_Put {call : CallF} {lp : PLoopF} (v0 v1 v2_0 v2_1 : AV) (Q : AHeap) : evalPK call lp c_win_Put [(0, .v v0), (1, .v v1), (2, .v (.agg [v2_0, v2_1]))] [] Q (retPK [.tmp 6, .tmp 7] [.f 2, .n]) = (
  bnC 2 (stC 2 (.agg [v2_0, v2_1])) fun s1 s2 => 
  bnS (call 31 [v0] Q) fun w12_3 Q4 => bnL (owZ 2 w12_3) fun l5 => 
  bnS (call 32 [v0, s1, .fn 33 [] []] Q4) fun w17_6 Q7 => 
  bnP (extA (frz w17_6) 0) fun w18_8 => 
  bnP (extA (frz w17_6) 1) fun w19_9 => 
  bnP (gdQ w19_9 false (some s1)) fun w23_10 => 
  bnP (gdQ w19_9 false (some v1)) fun w24_11 => 
  bnP (gdQ w19_9 false (binA .lss w23_10 w24_11)) fun w25_12 => 
  bnP (pickA w19_9 (.bool true) w25_12) fun w26_13 => 
  bnP (gdQ w26_13 false (some s1)) fun w29_14 => 
  bnP (gdQ w26_13 false (some v1)) fun w30_15 => 
  bnP (gdQ w26_13 false (binA .sub w29_14 w30_15)) fun w31_16 => 
  bnP (gdQ w26_13 false (binA .geq w31_16 (.int .i64 8))) fun w32_17 => 
  bnP (pickA w26_13 (.bool true) w32_17) fun w33_18 => 
  cndS w33_18 (fun _ => some (.tup [.fz 2 l5, .bool false], Q7))
  (fun _ => pinB (elOk 2 (.agg [s1, s2])) <| 
  bnS (call 1000035 [.ow 2 l5, w18_8, .lt 2 [.agg [s1, s2]]] Q7) fun w39_19 Q20 => bnL (owZ 2 w39_19) fun l21 => 
  some (.tup [.fz 2 l21, .bool true], Q20))) := by kernel_rfl
def f_win_Put {s : PSpecs} (hs : s.lookup 22 = none) (v0 v1 v2_0 v2_1 : AV) (Q : AHeap) := (callP_fn (E := penv s) (f := 22) (fn := pf_win_Put) hs rfl [v0, v1, .agg [v2_0, v2_1]] Q rfl).trans (g_win_Put (call := callP (penv s)) (lp := loopP (penv s)) v0 v1 v2_0 v2_1 Q)
theorem g_win_Take {call : CallF} {lp : PLoopF} (v0 v1 : AV) (Q : AHeap) : evalPK call lp c_win_Take [(0, .v v0), (1, .v v1)] [] Q (retPK [.tmp 4, .cell 5 (some 2), .tmp 6] [.f 2, .n, .n]) = (
  bnS (call 31 [v0] Q) fun w8_1 Q2 => 
  bnS (call 24 [v0] Q2) fun w10_3 Q4 => 
  bnP (binA .neq (frz w10_3) v1) fun w12_5 => 
  bnP (gdQ w12_5 false (some v0)) fun w14_6 => 
  bnP (gdQ w12_5 false (lenQ w14_6)) fun w15_7 => 
  bnP (gdQ w12_5 false (binA .eql w15_7 (.int .i64 0))) fun w16_8 => 
  bnP (pickA w12_5 (.bool true) w16_8) fun w17_9 => 
  cndS w17_9 (fun _ => bnP (rcv false (.f 2) (frz w8_1)) fun r10 => some (.tup [frz r10, .agg [.int .i64 0, .str []], .bool false], Q4))
  (fun _ => bnP (slcQ 2 (frz w8_1) (some (.int .i64 1)) none) fun w21_11 => 
  bnP (elQ 2 v0 (.int .i64 0)) fun e12 => 
  bnC 2 (cut (AV.cells e12) 0 2) fun c24_13 c24_14 => 
  bnC 2 (stC 2 (.agg [c24_13, c24_14])) fun s15 s16 => 
  bnP (rcv false (.f 2) w21_11) fun r17 => some (.tup [frz r17, .agg [s15, s16], .bool true], Q4))) := by kernel_rfl
def f_win_Take {s : PSpecs} (hs : s.lookup 23 = none) (v0 v1 : AV) (Q : AHeap) := (callP_fn (E := penv s) (f := 23) (fn := pf_win_Take) hs rfl [v0, v1] Q rfl).trans (g_win_Take (call := callP (penv s)) (lp := loopP (penv s)) v0 v1 Q)
theorem g_win_First {call : CallF} {lp : PLoopF} (v0 : AV) (Q : AHeap) : evalPK call lp c_win_First [(0, .v v0)] [] Q (retPK [.tmp 2] [.n]) = (
  bnP (lenQ v0) fun w4_1 => 
  bnP (binA .eql w4_1 (.int .i64 0)) fun w5_2 => 
  cndS w5_2 (fun _ => some (.int .i64 0, Q))
  (fun _ => bnP (elQ 2 v0 (.int .i64 0)) fun e3 => 
  bnP ((AV.cells e3)[0]?) fun w9_4 => 
  bnP (rcv false .n w9_4) fun r5 => some (r5, Q))) := by kernel_rfl
def f_win_First {s : PSpecs} (hs : s.lookup 24 = none) (v0 : AV) (Q : AHeap) := (callP_fn (E := penv s) (f := 24) (fn := pf_win_First) hs rfl [v0] Q rfl).trans (g_win_First (call := callP (penv s)) (lp := loopP (penv s)) v0 Q)
theorem p_slices_BinarySearchFunc_api_Item_api_Item_int_0 {β : Type} (call : CallF) (lp : PLoopF) (t0 t1 t2 t8 t9 t10 : AV) (Q : AHeap) (k : PK β) : evalPK call lp c_slices_BinarySearchFunc_api_Item_api_Item_int_0 [(0, .v t0), (1, .v t1), (2, .v t2), (8, .v t8), (9, .v t9), (10, .v t10)] [] Q k = (
  bnP (binA .lss t9 t10) fun w17_1 => 
  cndS w17_1 (fun _ => bnX (bnP (binA .add t9 t10) fun w20_2 => 
  bnP (cviA .u64 w20_2) fun w21_3 => 
  bnP (binA .shr w21_3 (.int .u64 1)) fun w22_4 => 
  bnP (cviA .i64 w22_4) fun w23_5 => 
  bnP (elQ 2 t0 w23_5) fun e6 => 
  bnC 2 (cut (AV.cells e6) 0 2) fun c28_7 c28_8 => 
  bnF t2 fun f11 f11f f11c => 
  bnS (lowF call f11 (f11f ++ [.agg [c28_7, c28_8], t1] ++ f11c) Q) fun w30_9 Q10 => 
  bnP (binA .lss (frz w30_9) (.int .i64 0)) fun w31_12 => 
  cndS w31_12 (fun _ => bnP (binA .add w23_5 (.int .i64 1)) fun w33_13 => 
  some (.normal, [(0, .v t0), (1, .v t1), (2, .v t2), (8, .v t8), (9, .v w33_13), (10, .v t10)], [], Q10))
  (fun _ => some (.normal, [(0, .v t0), (1, .v t1), (2, .v t2), (8, .v t8), (9, .v t9), (10, .v w23_5)], [], Q10)))
  (outX 1 (finC [] [] [0, 1, 2, 8, 9, 10] [] k)))
  (fun _ => k (.exit 0) [(0, .v t0), (1, .v t1), (2, .v t2), (8, .v t8), (9, .v t9)] [] Q)) := by kernel_rfl
noncomputable def L_slices_BinarySearchFunc_api_Item_api_Item_int_0 (s : PSpecs) (t0 t1 t2 t8 t9 t10 : AV) (Q : AHeap) : Option PEnd := loopP (penv s) c_slices_BinarySearchFunc_api_Item_api_Item_int_0 [(0, .v t0), (1, .v t1), (2, .v t2), (8, .v t8), (9, .v t9), (10, .v t10)] [] Q
theorem L_slices_BinarySearchFunc_api_Item_api_Item_int_0_fold (s : PSpecs) (t0 t1 t2 t8 t9 t10 : AV) (Q : AHeap) : loopP (penv s) c_slices_BinarySearchFunc_api_Item_api_Item_int_0 [(0, .v t0), (1, .v t1), (2, .v t2), (8, .v t8), (9, .v t9), (10, .v t10)] [] Q = L_slices_BinarySearchFunc_api_Item_api_Item_int_0 s t0 t1 t2 t8 t9 t10 Q := rfl
theorem L_slices_BinarySearchFunc_api_Item_api_Item_int_0_eq (s : PSpecs) (t0 t1 t2 t8 t9 t10 : AV) (Q : AHeap) : L_slices_BinarySearchFunc_api_Item_api_Item_int_0 s t0 t1 t2 t8 t9 t10 Q = evalPK (callP (penv s)) (loopP (penv s)) c_slices_BinarySearchFunc_api_Item_api_Item_int_0 [(0, .v t0), (1, .v t1), (2, .v t2), (8, .v t8), (9, .v t9), (10, .v t10)] [] Q (goX (fun τ ω Q => loopP (penv s) c_slices_BinarySearchFunc_api_Item_api_Item_int_0 τ ω Q) ret4) := loopP_body
abbrev X_slices_BinarySearchFunc_api_Item_api_Item_int_0_x0 (t0 t1 t2 t8 t9 : AV) (Q : AHeap) : Option PEnd := some (.exit 0, [(0, .v t0), (1, .v t1), (2, .v t2), (8, .v t8), (9, .v t9)], [], Q)
theorem p_slices_BinarySearchFunc_api_Item_api_Item_int_1 {β : Type} (call : CallF) (lp : PLoopF) (t0 t1 t2 t8 t9 : AV) (Q : AHeap) (k : PK β) : evalPK call lp c_slices_BinarySearchFunc_api_Item_api_Item_int_1 [(0, .v t0), (1, .v t1), (2, .v t2), (8, .v t8), (9, .v t9)] [] Q k = (
  bnP (binA .lss t9 t8) fun w38_1 => 
  bnP (gdQ w38_1 true (some t2)) fun w40_2 => 
  bnP (gdQ w38_1 true (some t0)) fun w41_3 => 
  bnP (gdQ w38_1 true (some t9)) fun w42_4 => 
  bnP (gdQ w38_1 true (elQ 2 w41_3 w42_4)) fun e5 => 
  bnP (gdQ w38_1 true ((cut (AV.cells e5) 0 2).map AV.agg)) fun w44_6 => 
  bnP (gdQ w38_1 true (some t1)) fun w45_7 => 
  bnS (gdH w38_1 true (bnF w40_2 fun f10 f10f f10c => lowF call f10 (f10f ++ [w44_6, w45_7] ++ f10c) Q) Q) fun w46_8 Q9 => 
  bnP (gdQ w38_1 true (binA .eql (frz w46_8) (.int .i64 0))) fun w47_11 => 
  bnP (pickA w38_1 w47_11 (.bool false)) fun w48_12 => 
  k .ret [(7, .v w48_12), (6, .v t9), (48, .v w48_12), (47, .v w47_11), (46, .v (frz w46_8)), (45, .v w45_7), (44, .v w44_6), (43, .gd 39 true (.fp e5 0)), (42, .v w42_4), (41, .v w41_3), (40, .v w40_2), (39, .v w38_1), (38, .v w38_1), (37, .v t8), (36, .v t9), (35, .v t9), (0, .v t0), (1, .v t1), (2, .v t2), (8, .v t8), (9, .v t9)] [] Q9) := by kernel_rfl
theorem g_slices_BinarySearchFunc_api_Item_api_Item_int {call : CallF} {lp : PLoopF} (v0 v1 v2 : AV) (Q : AHeap) : evalPK call lp c_slices_BinarySearchFunc_api_Item_api_Item_int [(0, .v v0), (1, .v v1), (2, .v v2)] [] Q (retPK [.tmp 6, .tmp 7] [.n, .n]) = (
  bnP (lenQ v0) fun w13_1 => 
  bnX (lp c_slices_BinarySearchFunc_api_Item_api_Item_int_0 [(0, .v v0), (1, .v v1), (2, .v v2), (8, .v w13_1), (9, .v (.int .i64 0)), (10, .v w13_1)] [] Q) (outX 0 (goC (evalPK call lp c_slices_BinarySearchFunc_api_Item_api_Item_int_1) (retPK [.tmp 6, .tmp 7] [.n, .n])))) := by kernel_rfl
def f_slices_BinarySearchFunc_api_Item_api_Item_int {s : PSpecs} (hs : s.lookup 32 = none) (v0 v1 v2 : AV) (Q : AHeap) := (callP_fn (E := penv s) (f := 32) (fn := pf_slices_BinarySearchFunc_api_Item_api_Item_int) hs rfl [v0, v1, v2] Q rfl).trans (g_slices_BinarySearchFunc_api_Item_api_Item_int (call := callP (penv s)) (lp := loopP (penv s)) v0 v1 v2 Q)
theorem g_win_Put_1 {call : CallF} {lp : PLoopF} (v0_0 v0_1 v1 : AV) (Q : AHeap) : evalPK call lp c_win_Put_1 [(0, .v (.agg [v0_0, v0_1])), (1, .v v1)] [] Q (retPK [.tmp 4] [.n]) = (
  bnC 2 (stC 2 (.agg [v0_0, v0_1])) fun s1 s2 => 
  bnS (call 34 [s1, v1] Q) fun w8_3 Q4 => 
  bnP (rcv false .n (frz w8_3)) fun r5 => some (r5, Q4)) := by kernel_rfl
def f_win_Put_1 {s : PSpecs} (hs : s.lookup 33 = none) (v0_0 v0_1 v1 : AV) (Q : AHeap) := (callP_fn (E := penv s) (f := 33) (fn := pf_win_Put_1) hs rfl [.agg [v0_0, v0_1], v1] Q rfl).trans (g_win_Put_1 (call := callP (penv s)) (lp := loopP (penv s)) v0_0 v0_1 v1 Q)
theorem g_cmp_Compare_int {call : CallF} {lp : PLoopF} (v0 v1 : AV) (Q : AHeap) : evalPK call lp c_cmp_Compare_int [(0, .v v0), (1, .v v1)] [] Q (retPK [.tmp 4] [.n]) = (
  bnS (call 39 [v0] Q) fun w8_1 Q2 => 
  bnS (call 39 [v1] Q2) fun w10_3 Q4 => 
  cndS (frz w8_1) (fun _ => cndS (frz w10_3) (fun _ => some (.int .i64 0, Q4))
  (fun _ => some (.int .i64 (-1), Q4)))
  (fun _ => cndS (frz w10_3) (fun _ => some (.int .i64 1, Q4))
  (fun _ => bnP (binA .lss v0 v1) fun w16_5 => 
  cndS w16_5 (fun _ => some (.int .i64 (-1), Q4))
  (fun _ => bnP (binA .gtr v0 v1) fun w19_6 => 
  cndS w19_6 (fun _ => some (.int .i64 1, Q4))
  (fun _ => some (.int .i64 0, Q4)))))) := by kernel_rfl
def f_cmp_Compare_int {s : PSpecs} (hs : s.lookup 34 = none) (v0 v1 : AV) (Q : AHeap) := (callP_fn (E := penv s) (f := 34) (fn := pf_cmp_Compare_int) hs rfl [v0, v1] Q rfl).trans (g_cmp_Compare_int (call := callP (penv s)) (lp := loopP (penv s)) v0 v1 Q)
theorem g_cmp_isNaN_int {call : CallF} {lp : PLoopF} (v0 : AV) (Q : AHeap) : evalPK call lp c_cmp_isNaN_int [(0, .v v0)] [] Q (retPK [.tmp 2] [.n]) = (
  bnP (binA .neq v0 v0) fun w5_1 => 
  bnP (rcv false .n w5_1) fun r2 => some (r2, Q)) := by kernel_rfl
def f_cmp_isNaN_int {s : PSpecs} (hs : s.lookup 39 = none) (v0 : AV) (Q : AHeap) := (callP_fn (E := penv s) (f := 39) (fn := pf_cmp_isNaN_int) hs rfl [v0] Q rfl).trans (g_cmp_isNaN_int (call := callP (penv s)) (lp := loopP (penv s)) v0 Q)
end Go.Proofs.Ytcledejamnnbmaa.Ps
