/- Equations by values. Printed by mkpv.py of this repo. -/
import Derived.Test.YtccgolmdhikdoaaPkd
import Derived.Test.YtccgolmdhikdoaaPvE
namespace Go.Proofs.Ytccgolmdhikdoaa.Pk
open Go.Ab
set_option maxRecDepth 100000
set_option linter.unusedVariables false
set_option linter.unusedSimpArgs false
set_option linter.defProp false
theorem p_pleachlaw6_KidsHeard_0 {β : Type} (call : CallF) (lp : PLoopF) (t0 t1 t6 t7 t11 : AV) (Q : AHeap) (k : PK β) : evalPK call lp c_pleachlaw6_KidsHeard_0 [(0, .v t0), (1, .v t1), (6, .v t6), (7, .v t7), (11, .v t11)] [] Q k = (
  k .normal [(0, .v t0), (1, .v t1), (5, .v t11), (6, .v t6), (7, .v t7)] [] Q) := by kernel_rfl
theorem p_pleachlaw6_KidsHeard_1 {β : Type} (call : CallF) (lp : PLoopF) (t0 t1 t5 t6 t7 : AV) (Q : AHeap) (k : PK β) : evalPK call lp c_pleachlaw6_KidsHeard_1 [(0, .v t0), (1, .v t1), (5, .v t5), (6, .v t6), (7, .v t7)] [] Q k = (
  bnP (binA .add t7 (.int .i64 1)) fun w32_1 => 
  k .normal [(0, .v t0), (1, .v t1), (5, .v t5), (6, .v t6), (7, .v w32_1)] [] Q) := by kernel_rfl
theorem p_pleachlaw6_KidsHeard_2 {β : Type} (call : CallF) (lp : PLoopF) (t0 t1 t5 t6 t7 : AV) (Q : AHeap) (k : PK β) : evalPK call lp c_pleachlaw6_KidsHeard_2 [(0, .v t0), (1, .v t1), (5, .v t5), (6, .v t6), (7, .v t7)] [] Q k = (
  bnP (lenQ t0) fun w29_1 => 
  bnP (binA .lss t7 w29_1) fun w30_2 => 
  cndS w30_2 (fun _ => bnX (bnX (bnP (elQ 3 t0 t7) fun e3 => 
  bnN (idxN 3 (.int .i64 0)) fun i4 => 
  bnP ((AV.cells e3)[(0 + i4 * 1)]?) fun w37_5 => 
  bnP (binA .rem w37_5 (.int .u8 8)) fun w38_6 => 
  bnP (cviA .i64 w38_6) fun w39_7 => 
  bnP (binA .add (.int .i64 1) w39_7) fun w40_8 => 
  bnP (elQ 3 t0 t7) fun e9 => 
  bnN (idxN 3 (.int .i64 1)) fun i10 => 
  bnP ((AV.cells e9)[(0 + i10 * 1)]?) fun w45_11 => 
  bnP (binA .rem w45_11 (.int .u8 3)) fun w46_12 => 
  bnP (cviA .i64 w46_12) fun w47_13 => 
  bnP (binA .add (.int .i64 1) w47_13) fun w48_14 => 
  bnP (elQ 3 t0 t7) fun e15 => 
  bnN (idxN 3 (.int .i64 2)) fun i16 => 
  bnP ((AV.cells e15)[(0 + i16 * 1)]?) fun w53_17 => 
  bnP (binA .rem w53_17 (.int .u8 50)) fun w54_18 => 
  bnP (cviA .i64 w54_18) fun w55_19 => 
  bnC 3 (fillP [.int .i64 0, .int .i64 0, .int .i64 0] [(0, 1, w40_8), (1, 1, w48_14), (2, 1, w55_19)]) fun c56_20 c56_21 c56_22 => 
  bnC 3 (stC 3 (.agg [c56_20, c56_21, c56_22])) fun s23 s24 s25 => 
  bnP (mlkA Q .i (.agg [.int .i64 0, .int .i64 0, .int .i64 0]) true t6 s23) fun w61_26 => 
  bnP (extA w61_26 0) fun w62_27 => 
  bnP (extA w61_26 1) fun w63_28 => 
  bnC 3 (stC 3 w62_27) fun s29 s30 s31 => 
  bnS (call 48 [t5, .agg [s23, s24, s25]] Q) fun w67_32 Q33 => 
  bnP (extA (frz w67_32) 0) fun w68_34 => 
  bnP (extA (frz w67_32) 1) fun w69_35 => 
  bnP (unA .not w63_28) fun w72_36 => 
  bnP (gdQ w72_36 false (some s30)) fun w75_37 => 
  bnP (gdQ w72_36 false (some s24)) fun w77_38 => 
  bnP (gdQ w72_36 false (binA .leq w75_37 w77_38)) fun w78_39 => 
  bnP (pickA w72_36 (.bool true) w78_39) fun w79_40 => 
  bnP (eqsA true .b w69_35 w79_40) fun w80_41 => 
  cndS w80_41 (fun _ => some (.ret, [(4, .v (.bool false))], [], Q33))
  (fun _ => bnX (cndS w69_35 (fun _ => bnS (mupA Q33 .i t6 s23 (.agg [s23, s24, s25])) fun _ Q42 => 
  some (.normal, [(0, .v t0), (1, .v t1), (6, .v t6), (7, .v t7), (11, .v w68_34)], [], Q42))
  (fun _ => some (.normal, [(0, .v t0), (1, .v t1), (6, .v t6), (7, .v t7), (11, .v w68_34)], [], Q33)))
  (goC (evalPK call lp c_pleachlaw6_KidsHeard_0) ret4)))
  (outX 1 ret4))
  (goC (evalPK call lp c_pleachlaw6_KidsHeard_1) k))
  (fun _ => k (.exit 0) [(1, .v t1), (5, .v t5), (6, .v t6)] [] Q)) := by kernel_rfl
noncomputable def L_pleachlaw6_KidsHeard_2 (s : PSpecs) (t0 t1 t5 t6 t7 : AV) (Q : AHeap) : Option PEnd := loopP (penv s) c_pleachlaw6_KidsHeard_2 [(0, .v t0), (1, .v t1), (5, .v t5), (6, .v t6), (7, .v t7)] [] Q
theorem L_pleachlaw6_KidsHeard_2_fold (s : PSpecs) (t0 t1 t5 t6 t7 : AV) (Q : AHeap) : loopP (penv s) c_pleachlaw6_KidsHeard_2 [(0, .v t0), (1, .v t1), (5, .v t5), (6, .v t6), (7, .v t7)] [] Q = L_pleachlaw6_KidsHeard_2 s t0 t1 t5 t6 t7 Q := rfl
theorem L_pleachlaw6_KidsHeard_2_eq (s : PSpecs) (t0 t1 t5 t6 t7 : AV) (Q : AHeap) : L_pleachlaw6_KidsHeard_2 s t0 t1 t5 t6 t7 Q = evalPK (callP (penv s)) (loopP (penv s)) c_pleachlaw6_KidsHeard_2 [(0, .v t0), (1, .v t1), (5, .v t5), (6, .v t6), (7, .v t7)] [] Q (goX (fun τ ω Q => loopP (penv s) c_pleachlaw6_KidsHeard_2 τ ω Q) ret4) := loopP_body
abbrev X_pleachlaw6_KidsHeard_2_x0 (t1 t5 t6 : AV) (Q : AHeap) : Option PEnd := some (.exit 0, [(1, .v t1), (5, .v t5), (6, .v t6)], [], Q)
theorem p_pleachlaw6_KidsHeard_3 {β : Type} (call : CallF) (lp : PLoopF) (t1 t5 t6 t13 t14 : AV) (Q : AHeap) (k : PK β) : evalPK call lp c_pleachlaw6_KidsHeard_3 [(1, .v t1), (5, .v t5), (6, .v t6), (13, .v t13), (14, .v t14)] [] Q k = (
  bnP (binA .leq t14 (.int .i64 8)) fun w102_1 => 
  cndS w102_1 (fun _ => bnP (mlkA Q .i (.agg [.int .i64 0, .int .i64 0, .int .i64 0]) true t6 t14) fun w108_2 => 
  bnP (extA w108_2 0) fun w109_3 => 
  bnP (extA w108_2 1) fun w110_4 => 
  bnC 3 (stC 3 w109_3) fun s5 s6 s7 => 
  bnS (call 51 [t5, t14] Q) fun w114_8 Q9 => 
  bnP (extA (frz w114_8) 0) fun w115_10 => 
  bnP (extA (frz w114_8) 1) fun w116_11 => 
  bnC 3 (stC 3 w115_10) fun s12 s13 s14 => 
  bnS (call 51 [t13, t14] Q9) fun w120_15 Q16 => 
  bnP (extA (frz w120_15) 0) fun w121_17 => 
  bnP (extA (frz w120_15) 1) fun w122_18 => 
  bnC 3 (stC 3 w121_17) fun s19 s20 s21 => 
  bnP (eqsA true .b w116_11 w110_4) fun w125_22 => 
  bnP (gdQ w125_22 false (some w116_11)) fun w127_23 => 
  bnP (gdQ w125_22 false (some w127_23)) fun w128_24 => 
  bnP (gdQ w128_24 true (some (.agg [s12, s13, s14]))) fun w129_25 => 
  bnP (gdQ w128_24 true (some (.agg [s5, s6, s7]))) fun w130_26 => 
  bnP (gdQ w128_24 true (eqsA true (.st [(0, 1, .i), (1, 1, .i), (2, 1, .i)]) w129_25 w130_26)) fun w131_27 => 
  bnP (gdQ w125_22 false (pickA w128_24 w131_27 (.bool false))) fun w132_28 => 
  bnP (pickA w125_22 (.bool true) w132_28) fun w133_29 => 
  bnP (gdQ w133_29 false (some w122_18)) fun w135_30 => 
  bnP (gdQ w133_29 false (some w110_4)) fun w136_31 => 
  bnP (gdQ w133_29 false (some w136_31)) fun w137_32 => 
  bnP (gdQ w137_32 true (some t1)) fun w138_33 => 
  bnP (gdQ w137_32 true (cviA .i64 w138_33)) fun w139_34 => 
  bnP (gdQ w137_32 true (some s7)) fun w141_35 => 
  bnP (gdQ w137_32 true (binA .sub w139_34 w141_35)) fun w142_36 => 
  bnP (gdQ w137_32 true (binA .leq w142_36 (.int .i64 20))) fun w143_37 => 
  bnP (gdQ w133_29 false (pickA w137_32 w143_37 (.bool false))) fun w144_38 => 
  bnP (gdQ w133_29 false (eqsA true .b w135_30 w144_38)) fun w145_39 => 
  bnP (pickA w133_29 (.bool true) w145_39) fun w146_40 => 
  cndS w146_40 (fun _ => k .ret [(4, .v (.bool false))] [] Q16)
  (fun _ => bnP (binA .add t14 (.int .i64 1)) fun w104_41 => 
  k .normal [(1, .v t1), (5, .v t5), (6, .v t6), (13, .v t13), (14, .v w104_41)] [] Q16))
  (fun _ => k (.exit 2) [(13, .v t13)] [] Q)) := by kernel_rfl
noncomputable def L_pleachlaw6_KidsHeard_3 (s : PSpecs) (t1 t5 t6 t13 t14 : AV) (Q : AHeap) : Option PEnd := loopP (penv s) c_pleachlaw6_KidsHeard_3 [(1, .v t1), (5, .v t5), (6, .v t6), (13, .v t13), (14, .v t14)] [] Q
theorem L_pleachlaw6_KidsHeard_3_fold (s : PSpecs) (t1 t5 t6 t13 t14 : AV) (Q : AHeap) : loopP (penv s) c_pleachlaw6_KidsHeard_3 [(1, .v t1), (5, .v t5), (6, .v t6), (13, .v t13), (14, .v t14)] [] Q = L_pleachlaw6_KidsHeard_3 s t1 t5 t6 t13 t14 Q := rfl
theorem L_pleachlaw6_KidsHeard_3_eq (s : PSpecs) (t1 t5 t6 t13 t14 : AV) (Q : AHeap) : L_pleachlaw6_KidsHeard_3 s t1 t5 t6 t13 t14 Q = evalPK (callP (penv s)) (loopP (penv s)) c_pleachlaw6_KidsHeard_3 [(1, .v t1), (5, .v t5), (6, .v t6), (13, .v t13), (14, .v t14)] [] Q (goX (fun τ ω Q => loopP (penv s) c_pleachlaw6_KidsHeard_3 τ ω Q) ret4) := loopP_body
abbrev X_pleachlaw6_KidsHeard_3_x2 (t13 : AV) (Q : AHeap) : Option PEnd := some (.exit 2, [(13, .v t13)], [], Q)
theorem p_pleachlaw6_KidsHeard_4 {β : Type} (call : CallF) (lp : PLoopF) (t13 : AV) (Q : AHeap) (k : PK β) : evalPK call lp c_pleachlaw6_KidsHeard_4 [(13, .v t13)] [] Q k = (
  bnS (call 49 [t13] Q) fun w148_1 Q2 => 
  k .ret [(4, .v (frz w148_1)), (148, .v (frz w148_1)), (147, .v t13), (13, .v t13)] [] Q2) := by kernel_rfl
theorem p_pleachlaw6_KidsHeard_5 {β : Type} (call : CallF) (lp : PLoopF) (t1 t5 t6 : AV) (Q : AHeap) (k : PK β) : evalPK call lp c_pleachlaw6_KidsHeard_5 [(1, .v t1), (5, .v t5), (6, .v t6)] [] Q k = (
  bnS (call 49 [t5] Q) fun w88_1 Q2 => 
  bnP (unA .not (frz w88_1)) fun w89_3 => 
  bnP (gdQ w89_3 false (some t5)) fun w91_4 => 
  bnP (gdQ w89_3 false (lenQ w91_4)) fun w92_5 => 
  bnP (gdQ w89_3 false (some t6)) fun w93_6 => 
  bnP (gdQ w89_3 false (lnmA Q2 w93_6)) fun w94_7 => 
  bnP (gdQ w89_3 false (binA .neq w92_5 w94_7)) fun w95_8 => 
  bnP (pickA w89_3 (.bool true) w95_8) fun w96_9 => 
  cndS w96_9 (fun _ => k .ret [(4, .v (.bool false)), (96, .v w96_9), (95, .v w95_8), (94, .v w94_7), (93, .v w93_6), (92, .v w92_5), (91, .v w91_4), (90, .v w89_3), (89, .v w89_3), (88, .v (frz w88_1)), (87, .v t5), (1, .v t1), (5, .v t5), (6, .v t6)] [] Q2)
  (fun _ => bnP (cviA .i64 t1) fun w99_10 => 
  bnS (call 50 [t5, w99_10] Q2) fun w100_11 Q12 => 
  bnX (lp c_pleachlaw6_KidsHeard_3 [(1, .v t1), (5, .v t5), (6, .v t6), (13, .v (frz w100_11)), (14, .v (.int .i64 1))] [] Q12) (outX 2 (goC (evalPK call lp c_pleachlaw6_KidsHeard_4) k)))) := by kernel_rfl
theorem g_pleachlaw6_KidsHeard {call : CallF} {lp : PLoopF} (v0 v1 : AV) (Q : AHeap) : evalPK call lp c_pleachlaw6_KidsHeard [(0, .v v0), (1, .v v1)] [] Q (retPK [.tmp 4] [.n]) = (
  bnS (call 47 [] Q) fun w21_1 Q2 => 
  bnP (unA .not (frz w21_1)) fun w22_3 => 
  cndS w22_3 (fun _ => some (.bool false, Q2))
  (fun _ => bnP (lenQ v0) fun w24_4 => 
  bnP (binA .gtr w24_4 (.int .i64 20)) fun w25_5 => 
  cndS w25_5 (fun _ => some (.bool true, Q2))
  (fun _ => bnX (lp c_pleachlaw6_KidsHeard_2 [(0, .v v0), (1, .v v1), (5, .v .nils), (6, .v (.mp Q2.size)), (7, .v (.int .i64 0))] [] (Q2.push (some (.mapo [])))) (outX 0 (goC (evalPK call lp c_pleachlaw6_KidsHeard_5) (retPK [.tmp 4] [.n])))))) := by kernel_rfl
def f_pleachlaw6_KidsHeard {s : PSpecs} (hs : s.lookup 12 = none) (v0 v1 : AV) (Q : AHeap) := (callP_fn (E := penv s) (f := 12) (fn := pf_pleachlaw6_KidsHeard) hs rfl [v0, v1] Q rfl).trans (g_pleachlaw6_KidsHeard (call := callP (penv s)) (lp := loopP (penv s)) v0 v1 Q)
theorem g_kids_Hear {call : CallF} {lp : PLoopF} (v0 v1_0 v1_1 v1_2 : AV) (Q : AHeap) : evalPK call lp c_kids_Hear [(0, .v v0), (1, .v (.agg [v1_0, v1_1, v1_2]))] [] Q (retPK [.tmp 4, .tmp 5] [.f 3, .n]) = (
  bnC 3 (stC 3 (.agg [v1_0, v1_1, v1_2])) fun s1 s2 s3 => 
  bnS (call 75 [v0] Q) fun w10_4 Q5 => bnL (owZ 3 w10_4) fun l6 => 
  bnS (call 53 [v0, s1, s2] Q5) fun w16_7 Q8 => 
  cndS (frz w16_7) (fun _ => some (.tup [.fz 3 l6, .bool false], Q8))
  (fun _ => bnS (call 76 [v0, s1] Q8) fun w22_9 Q10 => 
  bnP (extA (frz w22_9) 0) fun w23_11 => 
  bnP (extA (frz w22_9) 1) fun w24_12 => 
  cndS w24_12 (fun _ => bnN (idxN (l6 : List AV).length w23_11) fun i13 => 
  bnC 3 (stC 3 (.agg [s1, s2, s3])) fun s14 s15 s16 => 
  bnP ((l6)[i13]?) fun e17 => bnP (setE e17 0 [s14, s15, s16]) fun e18 => 
  some (.tup [.fz 3 ((l6).set i13 e18), .bool true], Q10))
  (fun _ => pinB (elOk 3 (.agg [s1, s2, s3])) <| 
  bnS (call 1000077 [.ow 3 l6, w23_11, .lt 3 [.agg [s1, s2, s3]]] Q10) fun w35_19 Q20 => bnL (owZ 3 w35_19) fun l21 => 
  some (.tup [.fz 3 l21, .bool true], Q20)))) := by kernel_rfl
def f_kids_Hear {s : PSpecs} (hs : s.lookup 48 = none) (v0 v1_0 v1_1 v1_2 : AV) (Q : AHeap) := (callP_fn (E := penv s) (f := 48) (fn := pf_kids_Hear) hs rfl [v0, .agg [v1_0, v1_1, v1_2]] Q rfl).trans (g_kids_Hear (call := callP (penv s)) (lp := loopP (penv s)) v0 v1_0 v1_1 v1_2 Q)
theorem p_kids_May_0 {β : Type} (call : CallF) (lp : PLoopF) (t3 t6 t7 t8 : AV) (Q : AHeap) (k : PK β) : evalPK call lp c_kids_May_0 [(3, .v t3), (6, .v t6), (7, .v t7), (8, .v t8)] [] Q k = (
  bnP (binA .lss t8 t7) fun w9_1 => 
  cndS w9_1 (fun _ => bnP (elQ 3 t6 t8) fun e2 => 
  bnC 3 (cut (AV.cells e2) 0 3) fun c11_3 c11_4 c11_5 => 
  bnC 3 (stC 3 (.agg [c11_3, c11_4, c11_5])) fun s6 s7 s8 => 
  bnP (binA .leq s6 t3) fun w15_9 => 
  bnP (gdQ w15_9 false (some s6)) fun w18_10 => 
  bnP (gdQ w15_9 false (binA .gtr w18_10 (.int .i64 8))) fun w19_11 => 
  bnP (pickA w15_9 (.bool true) w19_11) fun w20_12 => 
  bnP (gdQ w20_12 false (some s7)) fun w23_13 => 
  bnP (gdQ w20_12 false (binA .lss w23_13 (.int .i64 1))) fun w24_14 => 
  bnP (pickA w20_12 (.bool true) w24_14) fun w25_15 => 
  bnP (gdQ w25_15 false (some s7)) fun w28_16 => 
  bnP (gdQ w25_15 false (binA .gtr w28_16 (.int .i64 1073741824))) fun w29_17 => 
  bnP (pickA w25_15 (.bool true) w29_17) fun w30_18 => 
  bnP (gdQ w30_18 false (some s8)) fun w33_19 => 
  bnP (gdQ w30_18 false (binA .lss w33_19 (.int .i64 0))) fun w34_20 => 
  bnP (pickA w30_18 (.bool true) w34_20) fun w35_21 => 
  bnP (gdQ w35_21 false (some s8)) fun w38_22 => 
  bnP (gdQ w35_21 false (binA .gtr w38_22 (.int .i64 1073741824))) fun w39_23 => 
  bnP (pickA w35_21 (.bool true) w39_23) fun w40_24 => 
  cndS w40_24 (fun _ => k .ret [(2, .v (.bool false))] [] Q)
  (fun _ => bnP (binA .add t8 (.int .i64 1)) fun w43_25 => 
  k .normal [(3, .v s6), (6, .v t6), (7, .v t7), (8, .v w43_25)] [] Q))
  (fun _ => k (.exit 0) [] [] Q)) := by kernel_rfl
noncomputable def L_kids_May_0 (s : PSpecs) (t3 t6 t7 t8 : AV) (Q : AHeap) : Option PEnd := loopP (penv s) c_kids_May_0 [(3, .v t3), (6, .v t6), (7, .v t7), (8, .v t8)] [] Q
theorem L_kids_May_0_fold (s : PSpecs) (t3 t6 t7 t8 : AV) (Q : AHeap) : loopP (penv s) c_kids_May_0 [(3, .v t3), (6, .v t6), (7, .v t7), (8, .v t8)] [] Q = L_kids_May_0 s t3 t6 t7 t8 Q := rfl
theorem L_kids_May_0_eq (s : PSpecs) (t3 t6 t7 t8 : AV) (Q : AHeap) : L_kids_May_0 s t3 t6 t7 t8 Q = evalPK (callP (penv s)) (loopP (penv s)) c_kids_May_0 [(3, .v t3), (6, .v t6), (7, .v t7), (8, .v t8)] [] Q (goX (fun τ ω Q => loopP (penv s) c_kids_May_0 τ ω Q) ret4) := loopP_body
abbrev X_kids_May_0_x0 (Q : AHeap) : Option PEnd := some (.exit 0, [], [], Q)
theorem p_kids_May_1 {β : Type} (call : CallF) (lp : PLoopF) (Q : AHeap) (k : PK β) : evalPK call lp c_kids_May_1 [] [] Q k = (
  k .ret [(2, .v (.bool true))] [] Q) := by kernel_rfl
theorem g_kids_May {call : CallF} {lp : PLoopF} (v0 : AV) (Q : AHeap) : evalPK call lp c_kids_May [(0, .v v0)] [] Q (retPK [.tmp 2] [.n]) = (
  bnP (lenQ v0) fun w7_1 => 
  bnX (lp c_kids_May_0 [(3, .v (.int .i64 0)), (6, .v v0), (7, .v w7_1), (8, .v (.int .i64 0))] [] Q) (outX 0 (goC (evalPK call lp c_kids_May_1) (retPK [.tmp 2] [.n])))) := by kernel_rfl
def f_kids_May {s : PSpecs} (hs : s.lookup 49 = none) (v0 : AV) (Q : AHeap) := (callP_fn (E := penv s) (f := 49) (fn := pf_kids_May) hs rfl [v0] Q rfl).trans (g_kids_May (call := callP (penv s)) (lp := loopP (penv s)) v0 Q)
theorem g_kids_Prune {call : CallF} {lp : PLoopF} (v0 v1 : AV) (Q : AHeap) : evalPK call lp c_kids_Prune [(0, .v v0), (1, .v v1)] [] Q (retPK [.tmp 4] [.f 3]) = (
  bnC 1 (stC 1 v1) fun s1 => 
  bnS (call 75 [v0] Q) fun w6_2 Q3 => bnL (owZ 3 w6_2) fun l4 => 
  bnS (call 1000078 [.ow 3 l4, .fn 79 [] [.cp [s1] 0]] Q3) fun w8_5 Q6 => 
  bnP (rcv false (.f 3) (frz w8_5)) fun r7 => some (r7, Q6)) := by kernel_rfl
def f_kids_Prune {s : PSpecs} (hs : s.lookup 50 = none) (v0 v1 : AV) (Q : AHeap) := (callP_fn (E := penv s) (f := 50) (fn := pf_kids_Prune) hs rfl [v0, v1] Q rfl).trans (g_kids_Prune (call := callP (penv s)) (lp := loopP (penv s)) v0 v1 Q)
theorem g_kids_Find {call : CallF} {lp : PLoopF} (v0 v1 : AV) (Q : AHeap) : evalPK call lp c_kids_Find [(0, .v v0), (1, .v v1)] [] Q (retPK [.cell 4 (some 3), .tmp 5] [.n, .n]) = (
  bnS (call 76 [v0, v1] Q) fun w11_1 Q2 => 
  bnP (extA (frz w11_1) 0) fun w12_3 => 
  bnP (extA (frz w11_1) 1) fun w13_4 => 
  bnP (unA .not w13_4) fun w15_5 => 
  cndS w15_5 (fun _ => some (.tup [.agg [.int .i64 0, .int .i64 0, .int .i64 0], .bool false], Q2))
  (fun _ => bnP (elQ 3 v0 w12_3) fun e6 => 
  bnC 3 (cut (AV.cells e6) 0 3) fun c20_7 c20_8 c20_9 => 
  bnC 3 (stC 3 (.agg [c20_7, c20_8, c20_9])) fun s10 s11 s12 => 
  some (.tup [.agg [s10, s11, s12], .bool true], Q2))) := by kernel_rfl
def f_kids_Find {s : PSpecs} (hs : s.lookup 51 = none) (v0 v1 : AV) (Q : AHeap) := (callP_fn (E := penv s) (f := 51) (fn := pf_kids_Find) hs rfl [v0, v1] Q rfl).trans (g_kids_Find (call := callP (penv s)) (lp := loopP (penv s)) v0 v1 Q)
theorem g_kids_Old {call : CallF} {lp : PLoopF} (v0 v1 v2 : AV) (Q : AHeap) : evalPK call lp c_kids_Old [(0, .v v0), (1, .v v1), (2, .v v2)] [] Q (retPK [.tmp 6] [.n]) = (
  bnS (call 51 [v0, v1] Q) fun w12_1 Q2 => 
  bnP (extA (frz w12_1) 0) fun w13_3 => 
  bnP (extA (frz w12_1) 1) fun w14_4 => 
  bnC 3 (stC 3 w13_3) fun s5 s6 s7 => 
  bnP (gdQ w14_4 true (some s6)) fun w18_8 => 
  bnP (gdQ w14_4 true (some v2)) fun w19_9 => 
  bnP (gdQ w14_4 true (binA .gtr w18_8 w19_9)) fun w20_10 => 
  bnP (pickA w14_4 w20_10 (.bool false)) fun w21_11 => 
  bnP (rcv false .n w21_11) fun r12 => some (r12, Q2)) := by kernel_rfl
def f_kids_Old {s : PSpecs} (hs : s.lookup 53 = none) (v0 v1 v2 : AV) (Q : AHeap) := (callP_fn (E := penv s) (f := 53) (fn := pf_kids_Old) hs rfl [v0, v1, v2] Q rfl).trans (g_kids_Old (call := callP (penv s)) (lp := loopP (penv s)) v0 v1 v2 Q)
theorem g_kids_place {call : CallF} {lp : PLoopF} (v0 v1 : AV) (Q : AHeap) : evalPK call lp c_kids_place [(0, .v v0), (1, .v v1)] [] Q (retPK [.tmp 4, .tmp 5] [.n, .n]) = (
  bnS (call 94 [v0, v1, .fn 95 [] []] Q) fun w8_1 Q2 => 
  bnP (extA (frz w8_1) 0) fun w9_3 => 
  bnP (extA (frz w8_1) 1) fun w10_4 => 
  bnP (rcv false .n w9_3) fun r5 => bnP (rcv false .n w10_4) fun r6 => some (.tup [frz r5, frz r6], Q2)) := by kernel_rfl
def f_kids_place {s : PSpecs} (hs : s.lookup 76 = none) (v0 v1 : AV) (Q : AHeap) := (callP_fn (E := penv s) (f := 76) (fn := pf_kids_place) hs rfl [v0, v1] Q rfl).trans (g_kids_place (call := callP (penv s)) (lp := loopP (penv s)) v0 v1 Q)
theorem p_slices_DeleteFunc_api_Kid_api_Kid_0 {β : Type} (call : CallF) (lp : PLoopF) (t1 t5 t6 : AV) (l0 : List AV) (Q : AHeap) (k : PK β) : evalPK call lp c_slices_DeleteFunc_api_Kid_api_Kid_0 [(0, .ls 0), (1, .v t1), (5, .v t5), (6, .v t6)] [(0, .own 3 l0)] Q k = (
  bnP (binA .add t6 (.int .i64 1)) fun w21_1 => 
  k .normal [(0, .ls 0), (1, .v t1), (5, .v t5), (6, .v w21_1)] [(0, .own 3 l0)] Q) := by kernel_rfl
theorem p_slices_DeleteFunc_api_Kid_api_Kid_1 {β : Type} (call : CallF) (lp : PLoopF) (t1 t5 t6 : AV) (l0 : List AV) (Q : AHeap) (k : PK β) : evalPK call lp c_slices_DeleteFunc_api_Kid_api_Kid_1 [(0, .ls 0), (1, .v t1), (5, .v t5), (6, .v t6)] [(0, .own 3 l0)] Q k = (
  bnP (binA .lss t6 (.int .i64 ((l0 : List AV).length : Nat))) fun w19_1 => 
  cndS w19_1 (fun _ => bnX (bnX (bnN (idxN (l0 : List AV).length t6) fun i2 => 
  bnC 3 (elN l0 i2 0 3) fun c25_3 c25_4 c25_5 => 
  bnC 3 (stC 3 (.agg [c25_3, c25_4, c25_5])) fun s6 s7 s8 => 
  bnF t1 fun f11 f11f f11c => 
  bnS (lowF call f11 (f11f ++ [.agg [s6, s7, s8]] ++ f11c) Q) fun w28_9 Q10 => 
  bnP (unA .not (frz w28_9)) fun w29_12 => 
  cndS w29_12 (fun _ => bnN (idxN (l0 : List AV).length t5) fun i13 => 
  bnC 3 (stC 3 (.agg [s6, s7, s8])) fun s14 s15 s16 => 
  bnP ((l0)[i13]?) fun e17 => bnP (setE e17 0 [s14, s15, s16]) fun e18 => 
  bnP (binA .add t5 (.int .i64 1)) fun w35_19 => 
  some (.normal, [(0, .ls 0), (1, .v t1), (5, .v w35_19), (6, .v t6)], [(0, .own 3 ((l0).set i13 e18))], Q10))
  (fun _ => some (.normal, [(0, .ls 0), (1, .v t1), (5, .v t5), (6, .v t6)], [(0, .own 3 l0)], Q10)))
  (outX 1 ret4))
  (goC (evalPK call lp c_slices_DeleteFunc_api_Kid_api_Kid_0) k))
  (fun _ => k (.exit 0) [(0, .ls 0), (5, .v t5)] [(0, .own 3 l0)] Q)) := by kernel_rfl
noncomputable def L_slices_DeleteFunc_api_Kid_api_Kid_1 (s : PSpecs) (t1 t5 t6 : AV) (l0 : List AV) (Q : AHeap) : Option PEnd := loopP (penv s) c_slices_DeleteFunc_api_Kid_api_Kid_1 [(0, .ls 0), (1, .v t1), (5, .v t5), (6, .v t6)] [(0, .own 3 l0)] Q
theorem L_slices_DeleteFunc_api_Kid_api_Kid_1_fold (s : PSpecs) (t1 t5 t6 : AV) (l0 : List AV) (Q : AHeap) : loopP (penv s) c_slices_DeleteFunc_api_Kid_api_Kid_1 [(0, .ls 0), (1, .v t1), (5, .v t5), (6, .v t6)] [(0, .own 3 l0)] Q = L_slices_DeleteFunc_api_Kid_api_Kid_1 s t1 t5 t6 l0 Q := rfl
theorem L_slices_DeleteFunc_api_Kid_api_Kid_1_eq (s : PSpecs) (t1 t5 t6 : AV) (l0 : List AV) (Q : AHeap) : L_slices_DeleteFunc_api_Kid_api_Kid_1 s t1 t5 t6 l0 Q = evalPK (callP (penv s)) (loopP (penv s)) c_slices_DeleteFunc_api_Kid_api_Kid_1 [(0, .ls 0), (1, .v t1), (5, .v t5), (6, .v t6)] [(0, .own 3 l0)] Q (goX (fun τ ω Q => loopP (penv s) c_slices_DeleteFunc_api_Kid_api_Kid_1 τ ω Q) ret4) := loopP_body
abbrev X_slices_DeleteFunc_api_Kid_api_Kid_1_x0 (t5 : AV) (l0 : List AV) (Q : AHeap) : Option PEnd := some (.exit 0, [(0, .ls 0), (5, .v t5)], [(0, .own 3 l0)], Q)
theorem p_slices_DeleteFunc_api_Kid_api_Kid_2 {β : Type} (call : CallF) (lp : PLoopF) (t5 : AV) (l0 : List AV) (Q : AHeap) (k : PK β) : evalPK call lp c_slices_DeleteFunc_api_Kid_api_Kid_2 [(0, .ls 0), (5, .v t5)] [(0, .own 3 l0)] Q k = (
  bnN (idxN (l0 : List AV).length t5) fun i1 => 
  bnP (slcQ 3 (.fz 3 ((l0).take i1 ++ List.replicate ((l0).length - i1) (mkE [.int .i64 0, .int .i64 0, .int .i64 0]))) none (some t5)) fun w41_2 => 
  k .ret [(4, .v w41_2), (41, .v w41_2), (39, .v (.fz 3 ((l0).take i1 ++ List.replicate ((l0).length - i1) (mkE [.int .i64 0, .int .i64 0, .int .i64 0])))), (40, .v t5), (39, .v undefA), (38, .v undefA), (37, .v t5), (36, .v undefA), (0, .v undefA), (5, .v t5)] [] Q) := by kernel_rfl
theorem g_slices_DeleteFunc_api_Kid_api_Kid {call : CallF} {lp : PLoopF} (l0 : List AV) (v1 : AV) (Q : AHeap) : evalPK call lp c_slices_DeleteFunc_api_Kid_api_Kid [(0, .ls 0), (1, .v v1)] [(0, .own 3 l0)] Q (retPK [.tmp 4] [.f 3]) = (
  bnS (call 98 [.fz 3 l0, v1] ⟨Q.size, .leaf⟩) fun w10_1 _ => pinB (flatR w10_1) <| 
  bnP (binA .eql w10_1 (.int .i64 (-1))) fun w12_3 => 
  cndS w12_3 (fun _ => some (.fz 3 l0, Q))
  (fun _ => bnP (binA .add w10_1 (.int .i64 1)) fun w15_4 => 
  bnX (lp c_slices_DeleteFunc_api_Kid_api_Kid_1 [(0, .ls 0), (1, .v v1), (5, .v w10_1), (6, .v w15_4)] [(0, .own 3 l0)] Q) (outX 0 (goC (evalPK call lp c_slices_DeleteFunc_api_Kid_api_Kid_2) (retPK [.tmp 4] [.f 3]))))) := by kernel_rfl
def f_slices_DeleteFunc_api_Kid_api_Kid {s : PSpecs} (hs : s.lookup 1000078 = none) (l0 : List AV) (v1 : AV) (Q : AHeap) := (callP_fn0 (E := penv s) (f := 1000078) (fn := pf_slices_DeleteFunc_api_Kid_api_Kid) hs rfl rfl l0 v1 Q rfl).trans (g_slices_DeleteFunc_api_Kid_api_Kid (call := callP (penv s)) (lp := loopP (penv s)) l0 v1 Q)
theorem g_kids_Prune_1 {call : CallF} {lp : PLoopF} (v0_0 v0_1 v0_2 v1 : AV) (Q : AHeap) : evalPK call lp c_kids_Prune_1 [(0, .v (.agg [v0_0, v0_1, v0_2])), (1, .v v1)] [] Q (retPK [.tmp 3] [.n]) = (
  bnC 3 (stC 3 (.agg [v0_0, v0_1, v0_2])) fun s1 s2 s3 => 
  bnP (ldQ Q v1) fun w4_4 => 
  bnP (binA .sub w4_4 s3) fun w7_5 => 
  bnP (binA .gtr w7_5 (.int .i64 20)) fun w8_6 => 
  bnP (rcv false .n w8_6) fun r7 => some (r7, Q)) := by kernel_rfl
def f_kids_Prune_1 {s : PSpecs} (hs : s.lookup 79 = none) (v0_0 v0_1 v0_2 v1 : AV) (Q : AHeap) := (callP_fn (E := penv s) (f := 79) (fn := pf_kids_Prune_1) hs rfl [.agg [v0_0, v0_1, v0_2], v1] Q rfl).trans (g_kids_Prune_1 (call := callP (penv s)) (lp := loopP (penv s)) v0_0 v0_1 v0_2 v1 Q)
theorem g_cmp_Compare_int {call : CallF} {lp : PLoopF} (v0 v1 : AV) (Q : AHeap) : evalPK call lp c_cmp_Compare_int [(0, .v v0), (1, .v v1)] [] Q (retPK [.tmp 4] [.n]) = (
  bnS (call 99 [v0] Q) fun w8_1 Q2 => 
  bnS (call 99 [v1] Q2) fun w10_3 Q4 => 
  cndS (frz w8_1) (fun _ => cndS (frz w10_3) (fun _ => some (.int .i64 0, Q4))
  (fun _ => some (.int .i64 (-1), Q4)))
  (fun _ => cndS (frz w10_3) (fun _ => some (.int .i64 1, Q4))
  (fun _ => bnP (binA .lss v0 v1) fun w16_5 => 
  cndS w16_5 (fun _ => some (.int .i64 (-1), Q4))
  (fun _ => bnP (binA .gtr v0 v1) fun w19_6 => 
  cndS w19_6 (fun _ => some (.int .i64 1, Q4))
  (fun _ => some (.int .i64 0, Q4)))))) := by kernel_rfl
def f_cmp_Compare_int {s : PSpecs} (hs : s.lookup 85 = none) (v0 v1 : AV) (Q : AHeap) := (callP_fn (E := penv s) (f := 85) (fn := pf_cmp_Compare_int) hs rfl [v0, v1] Q rfl).trans (g_cmp_Compare_int (call := callP (penv s)) (lp := loopP (penv s)) v0 v1 Q)
theorem p_slices_BinarySearchFunc_api_Kid_api_Kid_int_0 {β : Type} (call : CallF) (lp : PLoopF) (t0 t1 t2 t8 t9 t10 : AV) (Q : AHeap) (k : PK β) : evalPK call lp c_slices_BinarySearchFunc_api_Kid_api_Kid_int_0 [(0, .v t0), (1, .v t1), (2, .v t2), (8, .v t8), (9, .v t9), (10, .v t10)] [] Q k = (
  bnP (binA .lss t9 t10) fun w17_1 => 
  cndS w17_1 (fun _ => bnX (bnP (binA .add t9 t10) fun w20_2 => 
  bnP (cviA .u64 w20_2) fun w21_3 => 
  bnP (binA .shr w21_3 (.int .u64 1)) fun w22_4 => 
  bnP (cviA .i64 w22_4) fun w23_5 => 
  bnP (elQ 3 t0 w23_5) fun e6 => 
  bnC 3 (cut (AV.cells e6) 0 3) fun c28_7 c28_8 c28_9 => 
  bnF t2 fun f12 f12f f12c => 
  bnS (lowF call f12 (f12f ++ [.agg [c28_7, c28_8, c28_9], t1] ++ f12c) Q) fun w30_10 Q11 => 
  bnP (binA .lss (frz w30_10) (.int .i64 0)) fun w31_13 => 
  cndS w31_13 (fun _ => bnP (binA .add w23_5 (.int .i64 1)) fun w33_14 => 
  some (.normal, [(0, .v t0), (1, .v t1), (2, .v t2), (8, .v t8), (9, .v w33_14), (10, .v t10)], [], Q11))
  (fun _ => some (.normal, [(0, .v t0), (1, .v t1), (2, .v t2), (8, .v t8), (9, .v t9), (10, .v w23_5)], [], Q11)))
  (outX 1 (finC [] [] [0, 1, 2, 8, 9, 10] [] k)))
  (fun _ => k (.exit 0) [(0, .v t0), (1, .v t1), (2, .v t2), (8, .v t8), (9, .v t9)] [] Q)) := by kernel_rfl
noncomputable def L_slices_BinarySearchFunc_api_Kid_api_Kid_int_0 (s : PSpecs) (t0 t1 t2 t8 t9 t10 : AV) (Q : AHeap) : Option PEnd := loopP (penv s) c_slices_BinarySearchFunc_api_Kid_api_Kid_int_0 [(0, .v t0), (1, .v t1), (2, .v t2), (8, .v t8), (9, .v t9), (10, .v t10)] [] Q
theorem L_slices_BinarySearchFunc_api_Kid_api_Kid_int_0_fold (s : PSpecs) (t0 t1 t2 t8 t9 t10 : AV) (Q : AHeap) : loopP (penv s) c_slices_BinarySearchFunc_api_Kid_api_Kid_int_0 [(0, .v t0), (1, .v t1), (2, .v t2), (8, .v t8), (9, .v t9), (10, .v t10)] [] Q = L_slices_BinarySearchFunc_api_Kid_api_Kid_int_0 s t0 t1 t2 t8 t9 t10 Q := rfl
theorem L_slices_BinarySearchFunc_api_Kid_api_Kid_int_0_eq (s : PSpecs) (t0 t1 t2 t8 t9 t10 : AV) (Q : AHeap) : L_slices_BinarySearchFunc_api_Kid_api_Kid_int_0 s t0 t1 t2 t8 t9 t10 Q = evalPK (callP (penv s)) (loopP (penv s)) c_slices_BinarySearchFunc_api_Kid_api_Kid_int_0 [(0, .v t0), (1, .v t1), (2, .v t2), (8, .v t8), (9, .v t9), (10, .v t10)] [] Q (goX (fun τ ω Q => loopP (penv s) c_slices_BinarySearchFunc_api_Kid_api_Kid_int_0 τ ω Q) ret4) := loopP_body
abbrev X_slices_BinarySearchFunc_api_Kid_api_Kid_int_0_x0 (t0 t1 t2 t8 t9 : AV) (Q : AHeap) : Option PEnd := some (.exit 0, [(0, .v t0), (1, .v t1), (2, .v t2), (8, .v t8), (9, .v t9)], [], Q)
theorem p_slices_BinarySearchFunc_api_Kid_api_Kid_int_1 {β : Type} (call : CallF) (lp : PLoopF) (t0 t1 t2 t8 t9 : AV) (Q : AHeap) (k : PK β) : evalPK call lp c_slices_BinarySearchFunc_api_Kid_api_Kid_int_1 [(0, .v t0), (1, .v t1), (2, .v t2), (8, .v t8), (9, .v t9)] [] Q k = (
  bnP (binA .lss t9 t8) fun w38_1 => 
  bnP (gdQ w38_1 true (some t2)) fun w40_2 => 
  bnP (gdQ w38_1 true (some t0)) fun w41_3 => 
  bnP (gdQ w38_1 true (some t9)) fun w42_4 => 
  bnP (gdQ w38_1 true (elQ 3 w41_3 w42_4)) fun e5 => 
  bnP (gdQ w38_1 true ((cut (AV.cells e5) 0 3).map AV.agg)) fun w44_6 => 
  bnP (gdQ w38_1 true (some t1)) fun w45_7 => 
  bnS (gdH w38_1 true (bnF w40_2 fun f10 f10f f10c => lowF call f10 (f10f ++ [w44_6, w45_7] ++ f10c) Q) Q) fun w46_8 Q9 => 
  bnP (gdQ w38_1 true (binA .eql (frz w46_8) (.int .i64 0))) fun w47_11 => 
  bnP (pickA w38_1 w47_11 (.bool false)) fun w48_12 => 
  k .ret [(7, .v w48_12), (6, .v t9), (48, .v w48_12), (47, .v w47_11), (46, .v (frz w46_8)), (45, .v w45_7), (44, .v w44_6), (43, .gd 39 true (.fp e5 0)), (42, .v w42_4), (41, .v w41_3), (40, .v w40_2), (39, .v w38_1), (38, .v w38_1), (37, .v t8), (36, .v t9), (35, .v t9), (0, .v t0), (1, .v t1), (2, .v t2), (8, .v t8), (9, .v t9)] [] Q9) := by kernel_rfl
theorem g_slices_BinarySearchFunc_api_Kid_api_Kid_int {call : CallF} {lp : PLoopF} (v0 v1 v2 : AV) (Q : AHeap) : evalPK call lp c_slices_BinarySearchFunc_api_Kid_api_Kid_int [(0, .v v0), (1, .v v1), (2, .v v2)] [] Q (retPK [.tmp 6, .tmp 7] [.n, .n]) = (
  bnP (lenQ v0) fun w13_1 => 
  bnX (lp c_slices_BinarySearchFunc_api_Kid_api_Kid_int_0 [(0, .v v0), (1, .v v1), (2, .v v2), (8, .v w13_1), (9, .v (.int .i64 0)), (10, .v w13_1)] [] Q) (outX 0 (goC (evalPK call lp c_slices_BinarySearchFunc_api_Kid_api_Kid_int_1) (retPK [.tmp 6, .tmp 7] [.n, .n])))) := by kernel_rfl
def f_slices_BinarySearchFunc_api_Kid_api_Kid_int {s : PSpecs} (hs : s.lookup 94 = none) (v0 v1 v2 : AV) (Q : AHeap) := (callP_fn (E := penv s) (f := 94) (fn := pf_slices_BinarySearchFunc_api_Kid_api_Kid_int) hs rfl [v0, v1, v2] Q rfl).trans (g_slices_BinarySearchFunc_api_Kid_api_Kid_int (call := callP (penv s)) (lp := loopP (penv s)) v0 v1 v2 Q)
theorem g_kids_place_1 {call : CallF} {lp : PLoopF} (v0_0 v0_1 v0_2 v1 : AV) (Q : AHeap) : evalPK call lp c_kids_place_1 [(0, .v (.agg [v0_0, v0_1, v0_2])), (1, .v v1)] [] Q (retPK [.tmp 4] [.n]) = (
  bnC 3 (stC 3 (.agg [v0_0, v0_1, v0_2])) fun s1 s2 s3 => 
  bnS (call 85 [s1, v1] Q) fun w8_4 Q5 => 
  bnP (rcv false .n (frz w8_4)) fun r6 => some (r6, Q5)) := by kernel_rfl
def f_kids_place_1 {s : PSpecs} (hs : s.lookup 95 = none) (v0_0 v0_1 v0_2 v1 : AV) (Q : AHeap) := (callP_fn (E := penv s) (f := 95) (fn := pf_kids_place_1) hs rfl [.agg [v0_0, v0_1, v0_2], v1] Q rfl).trans (g_kids_place_1 (call := callP (penv s)) (lp := loopP (penv s)) v0_0 v0_1 v0_2 v1 Q)
theorem p_slices_IndexFunc_api_Kid_api_Kid_0 {β : Type} (call : CallF) (lp : PLoopF) (t0 t1 t7 t8 : AV) (Q : AHeap) (k : PK β) : evalPK call lp c_slices_IndexFunc_api_Kid_api_Kid_0 [(0, .v t0), (1, .v t1), (7, .v t7), (8, .v t8)] [] Q k = (
  bnP (binA .lss t8 t7) fun w9_1 => 
  cndS w9_1 (fun _ => bnP (elQ 3 t0 t8) fun e2 => 
  bnC 3 (cut (AV.cells e2) 0 3) fun c15_3 c15_4 c15_5 => 
  bnF t1 fun f8 f8f f8c => 
  bnS (lowF call f8 (f8f ++ [.agg [c15_3, c15_4, c15_5]] ++ f8c) Q) fun w16_6 Q7 => 
  cndS (frz w16_6) (fun _ => k .ret [(4, .v t8)] [] Q7)
  (fun _ => bnP (binA .add t8 (.int .i64 1)) fun w18_9 => 
  k .normal [(0, .v t0), (1, .v t1), (7, .v t7), (8, .v w18_9)] [] Q7))
  (fun _ => k (.exit 0) [] [] Q)) := by kernel_rfl
noncomputable def L_slices_IndexFunc_api_Kid_api_Kid_0 (s : PSpecs) (t0 t1 t7 t8 : AV) (Q : AHeap) : Option PEnd := loopP (penv s) c_slices_IndexFunc_api_Kid_api_Kid_0 [(0, .v t0), (1, .v t1), (7, .v t7), (8, .v t8)] [] Q
theorem L_slices_IndexFunc_api_Kid_api_Kid_0_fold (s : PSpecs) (t0 t1 t7 t8 : AV) (Q : AHeap) : loopP (penv s) c_slices_IndexFunc_api_Kid_api_Kid_0 [(0, .v t0), (1, .v t1), (7, .v t7), (8, .v t8)] [] Q = L_slices_IndexFunc_api_Kid_api_Kid_0 s t0 t1 t7 t8 Q := rfl
theorem L_slices_IndexFunc_api_Kid_api_Kid_0_eq (s : PSpecs) (t0 t1 t7 t8 : AV) (Q : AHeap) : L_slices_IndexFunc_api_Kid_api_Kid_0 s t0 t1 t7 t8 Q = evalPK (callP (penv s)) (loopP (penv s)) c_slices_IndexFunc_api_Kid_api_Kid_0 [(0, .v t0), (1, .v t1), (7, .v t7), (8, .v t8)] [] Q (goX (fun τ ω Q => loopP (penv s) c_slices_IndexFunc_api_Kid_api_Kid_0 τ ω Q) ret4) := loopP_body
abbrev X_slices_IndexFunc_api_Kid_api_Kid_0_x0 (Q : AHeap) : Option PEnd := some (.exit 0, [], [], Q)
abbrev X_slices_IndexFunc_api_Kid_api_Kid_0_ret (t4 : AV) (Q : AHeap) : Option PEnd := some (.ret, [(4, .v t4)], [], Q)
theorem p_slices_IndexFunc_api_Kid_api_Kid_1 {β : Type} (call : CallF) (lp : PLoopF) (Q : AHeap) (k : PK β) : evalPK call lp c_slices_IndexFunc_api_Kid_api_Kid_1 [] [] Q k = (
  k .ret [(4, .v (.int .i64 (-1)))] [] Q) := by kernel_rfl
theorem g_slices_IndexFunc_api_Kid_api_Kid {call : CallF} {lp : PLoopF} (v0 v1 : AV) (Q : AHeap) : evalPK call lp c_slices_IndexFunc_api_Kid_api_Kid [(0, .v v0), (1, .v v1)] [] Q (retPK [.tmp 4] [.n]) = (
  bnP (lenQ v0) fun w7_1 => 
  bnX (lp c_slices_IndexFunc_api_Kid_api_Kid_0 [(0, .v v0), (1, .v v1), (7, .v w7_1), (8, .v (.int .i64 0))] [] Q) (outX 0 (goC (evalPK call lp c_slices_IndexFunc_api_Kid_api_Kid_1) (retPK [.tmp 4] [.n])))) := by kernel_rfl
def f_slices_IndexFunc_api_Kid_api_Kid {s : PSpecs} (hs : s.lookup 98 = none) (v0 v1 : AV) (Q : AHeap) := (callP_fn (E := penv s) (f := 98) (fn := pf_slices_IndexFunc_api_Kid_api_Kid) hs rfl [v0, v1] Q rfl).trans (g_slices_IndexFunc_api_Kid_api_Kid (call := callP (penv s)) (lp := loopP (penv s)) v0 v1 Q)
theorem g_cmp_isNaN_int {call : CallF} {lp : PLoopF} (v0 : AV) (Q : AHeap) : evalPK call lp c_cmp_isNaN_int [(0, .v v0)] [] Q (retPK [.tmp 2] [.n]) = (
  bnP (binA .neq v0 v0) fun w5_1 => 
  bnP (rcv false .n w5_1) fun r2 => some (r2, Q)) := by kernel_rfl
def f_cmp_isNaN_int {s : PSpecs} (hs : s.lookup 99 = none) (v0 : AV) (Q : AHeap) := (callP_fn (E := penv s) (f := 99) (fn := pf_cmp_isNaN_int) hs rfl [v0] Q rfl).trans (g_cmp_isNaN_int (call := callP (penv s)) (lp := loopP (penv s)) v0 Q)
end Go.Proofs.Ytccgolmdhikdoaa.Pk
