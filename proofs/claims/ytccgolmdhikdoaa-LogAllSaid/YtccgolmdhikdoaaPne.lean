/- Equations by values. Printed by mkpv.py of this repo. -/
import Derived.Test.YtccgolmdhikdoaaPnd
import Derived.Test.YtccgolmdhikdoaaPvE
namespace Go.Proofs.Ytccgolmdhikdoaa.Pn
open Go.Ab
set_option maxRecDepth 100000
set_option linter.unusedVariables false
set_option linter.unusedSimpArgs false
set_option linter.defProp false
theorem p_pleachlaw16_LogAll_0 {β : Type} (call : CallF) (lp : PLoopF) (t4 t5 t6 t15 t16 t19 t20 : AV) (Q : AHeap) (k : PK β) : evalPK call lp c_pleachlaw16_LogAll_0 [(4, .v t4), (5, .v t5), (6, .v t6), (15, .v t15), (16, .v t16), (19, .v t19), (20, .v t20)] [] Q k = (
  bnP (binA .lss t20 (.int .i64 3)) fun w80_1 => 
  cndS w80_1 (fun _ => bnP (elQ 1 t19 t20) fun e2 => 
  bnP ((AV.cells e2)[0]?) fun w86_3 => 
  bnP (elQ 1 t19 t20) fun e4 => 
  bnP ((AV.cells e4)[0]?) fun w92_5 => 
  bnS (call 38 [w86_3, t15] Q) fun w88_6 Q7 => 
  bnS (call 31 [w92_5, t15] Q7) fun w94_8 Q9 => 
  bnP (eqsA true .b (frz w88_6) (frz w94_8)) fun w95_10 => 
  bnP (gdQ w95_10 false (some t19)) fun w97_11 => 
  bnP (gdQ w95_10 false (some t20)) fun w98_12 => 
  bnP (gdQ w95_10 false (elQ 1 w97_11 w98_12)) fun e13 => 
  bnP (gdQ w95_10 false ((AV.cells e13)[0]?)) fun w100_14 => 
  bnP (gdQ w95_10 false (some t4)) fun w101_15 => 
  bnP (gdQ w95_10 false (some t19)) fun w103_16 => 
  bnP (gdQ w95_10 false (some t20)) fun w104_17 => 
  bnP (gdQ w95_10 false (elQ 1 w103_16 w104_17)) fun e18 => 
  bnP (gdQ w95_10 false ((AV.cells e18)[0]?)) fun w106_19 => 
  bnP (gdQ w95_10 false (some t4)) fun w107_20 => 
  bnS (gdH w95_10 false (call 38 [w100_14, w101_15] Q9) Q9) fun w102_21 Q22 => 
  bnS (gdH w95_10 false (call 31 [w106_19, w107_20] Q22) Q22) fun w108_23 Q24 => 
  bnP (gdQ w95_10 false (eqsA true .b (frz w102_21) (frz w108_23))) fun w109_25 => 
  bnP (pickA w95_10 (.bool true) w109_25) fun w110_26 => 
  cndS w110_26 (fun _ => k .ret [(14, .v (.bool false))] [] Q24)
  (fun _ => bnP (elQ 1 t19 t20) fun e27 => 
  bnP ((AV.cells e27)[0]?) fun w114_28 => 
  bnS (call 31 [w114_28, t15] Q24) fun w116_29 Q30 => 
  bnP (gdQ (frz w116_29) true (some t19)) fun w118_31 => 
  bnP (gdQ (frz w116_29) true (some t20)) fun w119_32 => 
  bnP (gdQ (frz w116_29) true (elQ 1 w118_31 w119_32)) fun e33 => 
  bnP (gdQ (frz w116_29) true ((AV.cells e33)[0]?)) fun w121_34 => 
  bnP (gdQ (frz w116_29) true (some t15)) fun w122_35 => 
  bnP (gdQ (frz w116_29) true (some t19)) fun w124_36 => 
  bnP (gdQ (frz w116_29) true (some t20)) fun w125_37 => 
  bnP (gdQ (frz w116_29) true (elQ 1 w124_36 w125_37)) fun e38 => 
  bnP (gdQ (frz w116_29) true ((AV.cells e38)[0]?)) fun w127_39 => 
  bnP (gdQ (frz w116_29) true (some t15)) fun w128_40 => 
  bnS (gdH (frz w116_29) true (call 39 [w121_34, w122_35] Q30) Q30) fun w123_41 Q42 => 
  bnS (gdH (frz w116_29) true (call 32 [w127_39, w128_40] Q42) Q42) fun w129_43 Q44 => 
  bnP (gdQ (frz w116_29) true (binA .neq (frz w123_41) (frz w129_43))) fun w130_45 => 
  bnP (gdQ (frz w116_29) true (some w130_45)) fun w131_46 => 
  bnP (gdQ w131_46 false (some t19)) fun w132_47 => 
  bnP (gdQ w131_46 false (some t20)) fun w133_48 => 
  bnP (gdQ w131_46 false (elQ 1 w132_47 w133_48)) fun e49 => 
  bnP (gdQ w131_46 false ((AV.cells e49)[0]?)) fun w135_50 => 
  bnP (gdQ w131_46 false (some t19)) fun w137_51 => 
  bnP (gdQ w131_46 false (some t20)) fun w138_52 => 
  bnP (gdQ w131_46 false (elQ 1 w137_51 w138_52)) fun e53 => 
  bnP (gdQ w131_46 false ((AV.cells e53)[0]?)) fun w140_54 => 
  bnS (gdH w131_46 false (call 40 [w135_50] Q44) Q44) fun w136_55 Q56 => 
  bnS (gdH w131_46 false (call 41 [w140_54] Q56) Q56) fun w141_57 Q58 => 
  bnS (gdH w131_46 false (call 22 [(frz w136_55), (frz w141_57)] Q58) Q58) fun w142_59 Q60 => 
  bnP (gdQ w131_46 false (unA .not (frz w142_59))) fun w143_61 => 
  bnP (gdQ (frz w116_29) true (pickA w131_46 (.bool true) w143_61)) fun w144_62 => 
  bnP (pickA (frz w116_29) w144_62 (.bool false)) fun w145_63 => 
  cndS w145_63 (fun _ => k .ret [(14, .v (.bool false))] [] Q60)
  (fun _ => bnP (binA .add t20 (.int .i64 1)) fun w82_64 => 
  k .normal [(4, .v t4), (5, .v t5), (6, .v t6), (15, .v t15), (16, .v t16), (19, .v t19), (20, .v w82_64)] [] Q60)))
  (fun _ => k (.exit 0) [(4, .v t4), (5, .v t5), (6, .v t6), (15, .v t15), (16, .v t16)] [] Q)) := by kernel_rfl
noncomputable def L_pleachlaw16_LogAll_0 (s : PSpecs) (t4 t5 t6 t15 t16 t19 t20 : AV) (Q : AHeap) : Option PEnd := loopP (penv s) c_pleachlaw16_LogAll_0 [(4, .v t4), (5, .v t5), (6, .v t6), (15, .v t15), (16, .v t16), (19, .v t19), (20, .v t20)] [] Q
theorem L_pleachlaw16_LogAll_0_fold (s : PSpecs) (t4 t5 t6 t15 t16 t19 t20 : AV) (Q : AHeap) : loopP (penv s) c_pleachlaw16_LogAll_0 [(4, .v t4), (5, .v t5), (6, .v t6), (15, .v t15), (16, .v t16), (19, .v t19), (20, .v t20)] [] Q = L_pleachlaw16_LogAll_0 s t4 t5 t6 t15 t16 t19 t20 Q := rfl
theorem L_pleachlaw16_LogAll_0_eq (s : PSpecs) (t4 t5 t6 t15 t16 t19 t20 : AV) (Q : AHeap) : L_pleachlaw16_LogAll_0 s t4 t5 t6 t15 t16 t19 t20 Q = evalPK (callP (penv s)) (loopP (penv s)) c_pleachlaw16_LogAll_0 [(4, .v t4), (5, .v t5), (6, .v t6), (15, .v t15), (16, .v t16), (19, .v t19), (20, .v t20)] [] Q (goX (fun τ ω Q => loopP (penv s) c_pleachlaw16_LogAll_0 τ ω Q) ret4) := loopP_body
abbrev X_pleachlaw16_LogAll_0_x0 (t4 t5 t6 t15 t16 : AV) (Q : AHeap) : Option PEnd := some (.exit 0, [(4, .v t4), (5, .v t5), (6, .v t6), (15, .v t15), (16, .v t16)], [], Q)
theorem p_pleachlaw16_LogAll_1 {β : Type} (call : CallF) (lp : PLoopF) (t4 t5 t6 t15 t16 : AV) (Q : AHeap) (k : PK β) : evalPK call lp c_pleachlaw16_LogAll_1 [(4, .v t4), (5, .v t5), (6, .v t6), (15, .v t15), (16, .v t16)] [] Q k = (
  bnS (call 38 [t16, t15] Q) fun w148_1 Q2 => 
  bnP (gdQ (frz w148_1) true (some t16)) fun w150_3 => 
  bnP (gdQ (frz w148_1) true (some t4)) fun w151_4 => 
  bnS (gdH (frz w148_1) true (call 42 [w150_3, w151_4, .str [116]] Q2) Q2) fun w152_5 Q6 => 
  bnP (gdQ (frz w148_1) true (some t16)) fun w153_7 => 
  bnP (gdQ (frz w148_1) true (some t4)) fun w154_8 => 
  bnS (gdH (frz w148_1) true (call 43 [w153_7, w154_8, .str [116]] Q6) Q6) fun w155_9 Q10 => 
  bnS (gdH (frz w148_1) true (call 28 [(frz w152_5), (frz w155_9)] Q10) Q10) fun w156_11 Q12 => 
  bnP (pickA (frz w148_1) (frz w156_11) (.bool false)) fun w157_13 => 
  bnP (gdQ w157_13 true (some t16)) fun w159_14 => 
  bnP (gdQ w157_13 true (some t4)) fun w160_15 => 
  bnP (gdQ w157_13 true (some t5)) fun w161_16 => 
  bnP (gdQ w157_13 true (some t6)) fun w162_17 => 
  bnS (gdH w157_13 true (call 44 [w159_14, w160_15, w161_16, w162_17] Q12) Q12) fun w163_18 Q19 => 
  bnP (gdQ w157_13 true (some t16)) fun w164_20 => 
  bnP (gdQ w157_13 true (some t4)) fun w165_21 => 
  bnP (gdQ w157_13 true (some t5)) fun w166_22 => 
  bnP (gdQ w157_13 true (some t6)) fun w167_23 => 
  bnS (gdH w157_13 true (call 45 [w164_20, w165_21, w166_22, w167_23] Q19) Q19) fun w168_24 Q25 => 
  bnS (gdH w157_13 true (call 28 [(frz w163_18), (frz w168_24)] Q25) Q25) fun w169_26 Q27 => 
  bnP (pickA w157_13 (frz w169_26) (.bool false)) fun w170_28 => 
  k .ret [(14, .v w170_28), (170, .v w170_28), (169, .v (frz w169_26)), (168, .v (frz w168_24)), (167, .v w167_23), (166, .v w166_22), (165, .v w165_21), (164, .v w164_20), (163, .v (frz w163_18)), (162, .v w162_17), (161, .v w161_16), (160, .v w160_15), (159, .v w159_14), (158, .v w157_13), (157, .v w157_13), (156, .v (frz w156_11)), (155, .v (frz w155_9)), (154, .v w154_8), (153, .v w153_7), (152, .v (frz w152_5)), (151, .v w151_4), (150, .v w150_3), (149, .v (frz w148_1)), (148, .v (frz w148_1)), (147, .v t15), (146, .v t16), (4, .v t4), (5, .v t5), (6, .v t6), (15, .v t15), (16, .v t16)] [] Q27) := by kernel_rfl
theorem p_pleachlaw16_LogAll_2 {β : Type} (call : CallF) (lp : PLoopF) (t4 t5 t6 t15 t16 t18 : AV) (l17 : List AV) (Q : AHeap) (k : PK β) : evalPK call lp c_pleachlaw16_LogAll_2 [(4, .v t4), (5, .v t5), (6, .v t6), (15, .v t15), (16, .v t16), (17, .ls 17), (18, .v t18)] [(17, .own 5 l17)] Q k = (
  pinB (elOk 1 t16) <| 
  pinB (elOk 1 (.fz 5 l17)) <| 
  pinB (elOk 1 t18) <| 
  bnX (lp c_pleachlaw16_LogAll_0 [(4, .v t4), (5, .v t5), (6, .v t6), (15, .v t15), (16, .v t16), (19, .v (.fz 1 [t16, (.fz 5 l17), t18])), (20, .v (.int .i64 0))] [] Q) (outX 0 (goC (evalPK call lp c_pleachlaw16_LogAll_1) k))) := by kernel_rfl
theorem p_pleachlaw16_LogAll_3 {β : Type} (call : CallF) (lp : PLoopF) (t3 t4 t5 t6 t15 t16 : AV) (l17 : List AV) (Q : AHeap) (k : PK β) : evalPK call lp c_pleachlaw16_LogAll_3 [(3, .v t3), (4, .v t4), (5, .v t5), (6, .v t6), (15, .v t15), (16, .v t16), (17, .ls 17)] [(17, .own 5 l17)] Q k = (
  bnX (bnP (lenQ t16) fun w55_1 => 
  bnP (binA .gtr w55_1 (.int .i64 0)) fun w56_2 => 
  cndS w56_2 (fun _ => bnP (cviA .i64 t3) fun w60_3 => 
  bnP (lenQ t16) fun w62_4 => 
  bnP (binA .rem w60_3 w62_4) fun w63_5 => 
  bnP (slcQ 5 t16 none (some w63_5)) fun w64_6 => 
  bnP (cviA .i64 t3) fun w68_7 => 
  bnP (lenQ t16) fun w70_8 => 
  bnP (binA .rem w68_7 w70_8) fun w71_9 => 
  bnP (binA .add w71_9 (.int .i64 1)) fun w72_10 => 
  bnP (slcQ 5 t16 (some w72_10) none) fun w73_11 => 
  bnL (srcT [] 5 (.v w64_6)) fun l12 => 
  pinB (room 48 ((([] : List AV) : List AV).length + (l12 : List AV).length)) <| 
  bnL (srcT [] 5 (.v w73_11)) fun l13 => 
  pinB (room 48 (((([] : List AV) ++ l12) : List AV).length + (l13 : List AV).length)) <| 
  some (.normal, [(4, .v t4), (5, .v t5), (6, .v t6), (15, .v t15), (16, .v t16), (17, .ls 17), (18, .v (.fz 5 ((([] : List AV) ++ l12) ++ l13)))], [(17, .own 5 l17)], Q))
  (fun _ => some (.normal, [(4, .v t4), (5, .v t5), (6, .v t6), (15, .v t15), (16, .v t16), (17, .ls 17), (18, .v t16)], [(17, .own 5 l17)], Q)))
  (goC (evalPK call lp c_pleachlaw16_LogAll_2) k)) := by kernel_rfl
theorem g_pleachlaw16_LogAll {call : CallF} {lp : PLoopF} (v0 v1 v2_0 v2_1 v2_2 v2_3 v2_4 v3 v4 v5 v6 : AV) (Q : AHeap) : evalPK call lp c_pleachlaw16_LogAll [(0, .v v0), (1, .v v1), (2, .v (.agg [v2_0, v2_1, v2_2, v2_3, v2_4])), (3, .v v3), (4, .v v4), (5, .v v5), (6, .v v6)] [] Q (retPK [.tmp 14] [.n]) = (
  bnC 5 (stC 5 (.agg [v2_0, v2_1, v2_2, v2_3, v2_4])) fun s1 s2 s3 s4 s5 => 
  bnS (call 36 [] Q) fun w21_6 Q7 => 
  bnP (unA .not (frz w21_6)) fun w22_8 => 
  cndS w22_8 (fun _ => some (.bool false, Q7))
  (fun _ => bnP (lenQ v0) fun w24_9 => 
  bnP (binA .gtr w24_9 (.int .i64 15)) fun w25_10 => 
  bnP (gdQ w25_10 false (some s4)) fun w28_11 => 
  bnP (gdQ w25_10 false (lensA w28_11)) fun w29_12 => 
  bnP (gdQ w25_10 false (binA .gtr w29_12 (.int .i64 30))) fun w30_13 => 
  bnP (pickA w25_10 (.bool true) w30_13) fun w31_14 => 
  cndS w31_14 (fun _ => some (.bool true, Q7))
  (fun _ => bnP (binA .rem v1 (.int .u8 9)) fun w33_15 => 
  bnP (cviA .i64 w33_15) fun w34_16 => 
  bnP (binA .add (.int .i64 1) w34_16) fun w35_17 => 
  bnS (call 37 [v0, w35_17] Q7) fun w38_18 Q19 => 
  bnL (srcT [] 5 (.v (frz w38_18))) fun l20 => 
  pinB (room 48 ((([] : List AV) : List AV).length + (l20 : List AV).length)) <| 
  bnX (bnP (binA .gtr (.int .i64 (((([] : List AV) ++ l20) : List AV).length : Nat)) (.int .i64 0)) fun w44_21 => 
  cndS w44_21 (fun _ => bnP (cviA .i64 v3) fun w47_22 => 
  bnP (binA .rem w47_22 (.int .i64 (((([] : List AV) ++ l20) : List AV).length : Nat))) fun w50_23 => 
  bnN (idxN ((([] : List AV) ++ l20) : List AV).length w50_23) fun i24 => 
  bnC 5 (stC 5 (.agg [s1, s2, s3, s4, s5])) fun s25 s26 s27 s28 s29 => 
  bnP (((([] : List AV) ++ l20))[i24]?) fun e30 => bnP (setE e30 0 [s25, s26, s27, s28, s29]) fun e31 => 
  some (.normal, [(3, .v v3), (4, .v v4), (5, .v v5), (6, .v v6), (15, .v w35_17), (16, .v (frz w38_18)), (17, .ls 17)], [(17, .own 5 (((([] : List AV) ++ l20)).set i24 e31))], Q19))
  (fun _ => some (.normal, [(3, .v v3), (4, .v v4), (5, .v v5), (6, .v v6), (15, .v w35_17), (16, .v (frz w38_18)), (17, .ls 17)], [(17, .own 5 (([] : List AV) ++ l20))], Q19)))
  (goC (evalPK call lp c_pleachlaw16_LogAll_3) (retPK [.tmp 14] [.n]))))) := by kernel_rfl
def f_pleachlaw16_LogAll {s : PSpecs} (hs : s.lookup 8 = none) (v0 v1 v2_0 v2_1 v2_2 v2_3 v2_4 v3 v4 v5 v6 : AV) (Q : AHeap) := (callP_fn (E := penv s) (f := 8) (fn := pf_pleachlaw16_LogAll) hs rfl [v0, v1, .agg [v2_0, v2_1, v2_2, v2_3, v2_4], v3, v4, v5, v6] Q rfl).trans (g_pleachlaw16_LogAll (call := callP (penv s)) (lp := loopP (penv s)) v0 v1 v2_0 v2_1 v2_2 v2_3 v2_4 v3 v4 v5 v6 Q)
theorem p_pleachref1_SameSpans_0 {β : Type} (call : CallF) (lp : PLoopF) (t0 t1 t5 : AV) (Q : AHeap) (k : PK β) : evalPK call lp c_pleachref1_SameSpans_0 [(0, .v t0), (1, .v t1), (5, .v t5)] [] Q k = (
  bnP (lenQ t0) fun w13_1 => 
  bnP (binA .lss t5 w13_1) fun w14_2 => 
  cndS w14_2 (fun _ => bnP (elQ 2 t0 t5) fun e3 => 
  bnC 2 (cut (AV.cells e3) 0 2) fun c20_4 c20_5 => 
  bnP (elQ 2 t1 t5) fun e6 => 
  bnC 2 (cut (AV.cells e6) 0 2) fun c24_7 c24_8 => 
  bnP (eqsA true (.st [(0, 1, .i), (1, 1, .i)]) (.agg [c20_4, c20_5]) (.agg [c24_7, c24_8])) fun w25_9 => 
  cndS w25_9 (fun _ => k .ret [(4, .v (.bool false))] [] Q)
  (fun _ => bnP (binA .add t5 (.int .i64 1)) fun w16_10 => 
  k .normal [(0, .v t0), (1, .v t1), (5, .v w16_10)] [] Q))
  (fun _ => k (.exit 0) [] [] Q)) := by kernel_rfl
noncomputable def L_pleachref1_SameSpans_0 (s : PSpecs) (t0 t1 t5 : AV) (Q : AHeap) : Option PEnd := loopP (penv s) c_pleachref1_SameSpans_0 [(0, .v t0), (1, .v t1), (5, .v t5)] [] Q
theorem L_pleachref1_SameSpans_0_fold (s : PSpecs) (t0 t1 t5 : AV) (Q : AHeap) : loopP (penv s) c_pleachref1_SameSpans_0 [(0, .v t0), (1, .v t1), (5, .v t5)] [] Q = L_pleachref1_SameSpans_0 s t0 t1 t5 Q := rfl
theorem L_pleachref1_SameSpans_0_eq (s : PSpecs) (t0 t1 t5 : AV) (Q : AHeap) : L_pleachref1_SameSpans_0 s t0 t1 t5 Q = evalPK (callP (penv s)) (loopP (penv s)) c_pleachref1_SameSpans_0 [(0, .v t0), (1, .v t1), (5, .v t5)] [] Q (goX (fun τ ω Q => loopP (penv s) c_pleachref1_SameSpans_0 τ ω Q) ret4) := loopP_body
abbrev X_pleachref1_SameSpans_0_x0 (Q : AHeap) : Option PEnd := some (.exit 0, [], [], Q)
abbrev X_pleachref1_SameSpans_0_ret (t4 : AV) (Q : AHeap) : Option PEnd := some (.ret, [(4, .v t4)], [], Q)
theorem p_pleachref1_SameSpans_1 {β : Type} (call : CallF) (lp : PLoopF) (Q : AHeap) (k : PK β) : evalPK call lp c_pleachref1_SameSpans_1 [] [] Q k = (
  k .ret [(4, .v (.bool true))] [] Q) := by kernel_rfl
theorem g_pleachref1_SameSpans {call : CallF} {lp : PLoopF} (v0 v1 : AV) (Q : AHeap) : evalPK call lp c_pleachref1_SameSpans [(0, .v v0), (1, .v v1)] [] Q (retPK [.tmp 4] [.n]) = (
  bnP (lenQ v0) fun w7_1 => 
  bnP (lenQ v1) fun w9_2 => 
  bnP (binA .neq w7_1 w9_2) fun w10_3 => 
  cndS w10_3 (fun _ => some (.bool false, Q))
  (fun _ => bnX (lp c_pleachref1_SameSpans_0 [(0, .v v0), (1, .v v1), (5, .v (.int .i64 0))] [] Q) (outX 0 (goC (evalPK call lp c_pleachref1_SameSpans_1) (retPK [.tmp 4] [.n]))))) := by kernel_rfl
def f_pleachref1_SameSpans {s : PSpecs} (hs : s.lookup 22 = none) (v0 v1 : AV) (Q : AHeap) := (callP_fn (E := penv s) (f := 22) (fn := pf_pleachref1_SameSpans) hs rfl [v0, v1] Q rfl).trans (g_pleachref1_SameSpans (call := callP (penv s)) (lp := loopP (penv s)) v0 v1 Q)
theorem p_pleachref13_SameEvents_0 {β : Type} (call : CallF) (lp : PLoopF) (t0 t1 t5 : AV) (Q : AHeap) (k : PK β) : evalPK call lp c_pleachref13_SameEvents_0 [(0, .v t0), (1, .v t1), (5, .v t5)] [] Q k = (
  bnP (lenQ t0) fun w13_1 => 
  bnP (binA .lss t5 w13_1) fun w14_2 => 
  cndS w14_2 (fun _ => bnP (elQ 5 t0 t5) fun e3 => 
  bnC 5 (cut (AV.cells e3) 0 5) fun c20_4 c20_5 c20_6 c20_7 c20_8 => 
  bnP (elQ 5 t1 t5) fun e9 => 
  bnC 5 (cut (AV.cells e9) 0 5) fun c24_10 c24_11 c24_12 c24_13 c24_14 => 
  bnP (eqsA true (.st [(0, 1, .i), (1, 1, .i), (2, 1, .i), (3, 1, .s), (4, 1, .i)]) (.agg [c20_4, c20_5, c20_6, c20_7, c20_8]) (.agg [c24_10, c24_11, c24_12, c24_13, c24_14])) fun w25_15 => 
  cndS w25_15 (fun _ => k .ret [(4, .v (.bool false))] [] Q)
  (fun _ => bnP (binA .add t5 (.int .i64 1)) fun w16_16 => 
  k .normal [(0, .v t0), (1, .v t1), (5, .v w16_16)] [] Q))
  (fun _ => k (.exit 0) [] [] Q)) := by kernel_rfl
noncomputable def L_pleachref13_SameEvents_0 (s : PSpecs) (t0 t1 t5 : AV) (Q : AHeap) : Option PEnd := loopP (penv s) c_pleachref13_SameEvents_0 [(0, .v t0), (1, .v t1), (5, .v t5)] [] Q
theorem L_pleachref13_SameEvents_0_fold (s : PSpecs) (t0 t1 t5 : AV) (Q : AHeap) : loopP (penv s) c_pleachref13_SameEvents_0 [(0, .v t0), (1, .v t1), (5, .v t5)] [] Q = L_pleachref13_SameEvents_0 s t0 t1 t5 Q := rfl
theorem L_pleachref13_SameEvents_0_eq (s : PSpecs) (t0 t1 t5 : AV) (Q : AHeap) : L_pleachref13_SameEvents_0 s t0 t1 t5 Q = evalPK (callP (penv s)) (loopP (penv s)) c_pleachref13_SameEvents_0 [(0, .v t0), (1, .v t1), (5, .v t5)] [] Q (goX (fun τ ω Q => loopP (penv s) c_pleachref13_SameEvents_0 τ ω Q) ret4) := loopP_body
abbrev X_pleachref13_SameEvents_0_x0 (Q : AHeap) : Option PEnd := some (.exit 0, [], [], Q)
abbrev X_pleachref13_SameEvents_0_ret (t4 : AV) (Q : AHeap) : Option PEnd := some (.ret, [(4, .v t4)], [], Q)
theorem p_pleachref13_SameEvents_1 {β : Type} (call : CallF) (lp : PLoopF) (Q : AHeap) (k : PK β) : evalPK call lp c_pleachref13_SameEvents_1 [] [] Q k = (
  k .ret [(4, .v (.bool true))] [] Q) := by kernel_rfl
theorem g_pleachref13_SameEvents {call : CallF} {lp : PLoopF} (v0 v1 : AV) (Q : AHeap) : evalPK call lp c_pleachref13_SameEvents [(0, .v v0), (1, .v v1)] [] Q (retPK [.tmp 4] [.n]) = (
  bnP (lenQ v0) fun w7_1 => 
  bnP (lenQ v1) fun w9_2 => 
  bnP (binA .neq w7_1 w9_2) fun w10_3 => 
  cndS w10_3 (fun _ => some (.bool false, Q))
  (fun _ => bnX (lp c_pleachref13_SameEvents_0 [(0, .v v0), (1, .v v1), (5, .v (.int .i64 0))] [] Q) (outX 0 (goC (evalPK call lp c_pleachref13_SameEvents_1) (retPK [.tmp 4] [.n]))))) := by kernel_rfl
def f_pleachref13_SameEvents {s : PSpecs} (hs : s.lookup 28 = none) (v0 v1 : AV) (Q : AHeap) := (callP_fn (E := penv s) (f := 28) (fn := pf_pleachref13_SameEvents) hs rfl [v0, v1] Q rfl).trans (g_pleachref13_SameEvents (call := callP (penv s)) (lp := loopP (penv s)) v0 v1 Q)
theorem p_pleachref13_MayLog_0 {β : Type} (call : CallF) (lp : PLoopF) (t0 t6 s7_0 s7_1 s7_2 s7_3 s7_4 : AV) (Q : AHeap) (k : PK β) : evalPK call lp c_pleachref13_MayLog_0 [(0, .v t0), (6, .v t6), (7, .lp 7 0)] [(7, .cells [s7_0, s7_1, s7_2, s7_3, s7_4])] Q k = (
  bnP (binA .add s7_2 (.int .i64 1)) fun w74_1 => 
  k .normal [(0, .v t0), (5, .v w74_1), (6, .v t6)] [] Q) := by kernel_rfl
theorem p_pleachref13_MayLog_1 {β : Type} (call : CallF) (lp : PLoopF) (t0 t5 t6 : AV) (Q : AHeap) (k : PK β) : evalPK call lp c_pleachref13_MayLog_1 [(0, .v t0), (5, .v t5), (6, .v t6)] [] Q k = (
  bnP (binA .add t6 (.int .i64 1)) fun w16_1 => 
  k .normal [(0, .v t0), (5, .v t5), (6, .v w16_1)] [] Q) := by kernel_rfl
theorem p_pleachref13_MayLog_2 {β : Type} (call : CallF) (lp : PLoopF) (t0 t5 t6 : AV) (Q : AHeap) (k : PK β) : evalPK call lp c_pleachref13_MayLog_2 [(0, .v t0), (5, .v t5), (6, .v t6)] [] Q k = (
  bnP (lenQ t0) fun w13_1 => 
  bnP (binA .lss t6 w13_1) fun w14_2 => 
  cndS w14_2 (fun _ => bnX (bnX (bnP (elQ 5 t0 t6) fun e3 => 
  bnC 5 (cut (AV.cells e3) 0 5) fun c20_4 c20_5 c20_6 c20_7 c20_8 => 
  bnC 5 (stC 5 (.agg [c20_4, c20_5, c20_6, c20_7, c20_8])) fun s9 s10 s11 s12 s13 => 
  bnP (binA .neq s10 t5) fun w24_14 => 
  bnP (gdQ w24_14 false (some s11)) fun w27_15 => 
  bnP (gdQ w24_14 false (some s10)) fun w29_16 => 
  bnP (gdQ w24_14 false (binA .lss w27_15 w29_16)) fun w30_17 => 
  bnP (pickA w24_14 (.bool true) w30_17) fun w31_18 => 
  bnP (gdQ w31_18 false (some s11)) fun w34_19 => 
  bnP (gdQ w31_18 false (binA .gtr w34_19 (.int .i64 1000000))) fun w35_20 => 
  bnP (pickA w31_18 (.bool true) w35_20) fun w36_21 => 
  cndS w36_21 (fun _ => some (.ret, [(4, .v (.bool false))], [], Q))
  (fun _ => bnX (bnX (bnP (binA .eql s9 (.int .i64 1)) fun w40_22 => 
  cndS w40_22 (fun _ => bnP (binA .neq s11 s10) fun w45_23 => 
  bnP (gdQ w45_23 false (some s12)) fun w48_24 => 
  bnP (gdQ w45_23 false (lensA w48_24)) fun w49_25 => 
  bnP (gdQ w45_23 false (binA .gtr w49_25 (.int .i64 12))) fun w50_26 => 
  bnP (pickA w45_23 (.bool true) w50_26) fun w51_27 => 
  bnP (gdQ w51_27 false (some s13)) fun w54_28 => 
  bnP (gdQ w51_27 false (binA .neq w54_28 (.int .i64 0))) fun w55_29 => 
  bnP (pickA w51_27 (.bool true) w55_29) fun w56_30 => 
  cndS w56_30 (fun _ => some (.ret, [(4, .v (.bool false))], [], Q))
  (fun _ => some (.normal, [(0, .v t0), (6, .v t6), (7, .lp 7 0)], [(7, .cells [s9, s10, s11, s12, s13])], Q)))
  (fun _ => bnP (binA .eql s9 (.int .i64 2)) fun w58_31 => 
  cndS w58_31 (fun _ => bnP (binA .neq s12 (.str [])) fun w61_32 => 
  bnP (gdQ w61_32 false (some s13)) fun w64_33 => 
  bnP (gdQ w61_32 false (binA .neq w64_33 (.int .i64 1))) fun w65_34 => 
  bnP (gdQ w61_32 false (some w65_34)) fun w66_35 => 
  bnP (gdQ w66_35 true (some s13)) fun w68_36 => 
  bnP (gdQ w66_35 true (binA .neq w68_36 (.int .i64 2))) fun w69_37 => 
  bnP (gdQ w61_32 false (pickA w66_35 w69_37 (.bool false))) fun w70_38 => 
  bnP (pickA w61_32 (.bool true) w70_38) fun w71_39 => 
  cndS w71_39 (fun _ => some (.ret, [(4, .v (.bool false))], [], Q))
  (fun _ => some (.normal, [(0, .v t0), (6, .v t6), (7, .lp 7 0)], [(7, .cells [s9, s10, s11, s12, s13])], Q)))
  (fun _ => some (.ret, [(4, .v (.bool false))], [], Q))))
  (outX 2 ret4))
  (goC (evalPK call lp c_pleachref13_MayLog_0) ret4)))
  (outX 1 ret4))
  (goC (evalPK call lp c_pleachref13_MayLog_1) k))
  (fun _ => k (.exit 0) [] [] Q)) := by kernel_rfl
noncomputable def L_pleachref13_MayLog_2 (s : PSpecs) (t0 t5 t6 : AV) (Q : AHeap) : Option PEnd := loopP (penv s) c_pleachref13_MayLog_2 [(0, .v t0), (5, .v t5), (6, .v t6)] [] Q
theorem L_pleachref13_MayLog_2_fold (s : PSpecs) (t0 t5 t6 : AV) (Q : AHeap) : loopP (penv s) c_pleachref13_MayLog_2 [(0, .v t0), (5, .v t5), (6, .v t6)] [] Q = L_pleachref13_MayLog_2 s t0 t5 t6 Q := rfl
theorem L_pleachref13_MayLog_2_eq (s : PSpecs) (t0 t5 t6 : AV) (Q : AHeap) : L_pleachref13_MayLog_2 s t0 t5 t6 Q = evalPK (callP (penv s)) (loopP (penv s)) c_pleachref13_MayLog_2 [(0, .v t0), (5, .v t5), (6, .v t6)] [] Q (goX (fun τ ω Q => loopP (penv s) c_pleachref13_MayLog_2 τ ω Q) ret4) := loopP_body
abbrev X_pleachref13_MayLog_2_x0 (Q : AHeap) : Option PEnd := some (.exit 0, [], [], Q)
abbrev X_pleachref13_MayLog_2_ret (t4 : AV) (Q : AHeap) : Option PEnd := some (.ret, [(4, .v t4)], [], Q)
theorem p_pleachref13_MayLog_3 {β : Type} (call : CallF) (lp : PLoopF) (Q : AHeap) (k : PK β) : evalPK call lp c_pleachref13_MayLog_3 [] [] Q k = (
  k .ret [(4, .v (.bool true))] [] Q) := by kernel_rfl
theorem g_pleachref13_MayLog {call : CallF} {lp : PLoopF} (v0 v1 : AV) (Q : AHeap) : evalPK call lp c_pleachref13_MayLog [(0, .v v0), (1, .v v1)] [] Q (retPK [.tmp 4] [.n]) = (
  bnP (binA .lss v1 (.int .i64 1)) fun w9_1 => 
  cndS w9_1 (fun _ => some (.bool false, Q))
  (fun _ => bnX (lp c_pleachref13_MayLog_2 [(0, .v v0), (5, .v v1), (6, .v (.int .i64 0))] [] Q) (outX 0 (goC (evalPK call lp c_pleachref13_MayLog_3) (retPK [.tmp 4] [.n]))))) := by kernel_rfl
def f_pleachref13_MayLog {s : PSpecs} (hs : s.lookup 31 = none) (v0 v1 : AV) (Q : AHeap) := (callP_fn (E := penv s) (f := 31) (fn := pf_pleachref13_MayLog) hs rfl [v0, v1] Q rfl).trans (g_pleachref13_MayLog (call := callP (penv s)) (lp := loopP (penv s)) v0 v1 Q)
theorem g_pleachref13_NextLog {call : CallF} {lp : PLoopF} (v0 v1 : AV) (Q : AHeap) : evalPK call lp c_pleachref13_NextLog [(0, .v v0), (1, .v v1)] [] Q (retPK [.tmp 4] [.n]) = (
  bnP (lenQ v0) fun w6_1 => 
  bnP (binA .eql w6_1 (.int .i64 0)) fun w7_2 => 
  cndS w7_2 (fun _ => bnP (rcv false .n v1) fun r3 => some (r3, Q))
  (fun _ => bnP (lenQ v0) fun w11_4 => 
  bnP (binA .sub w11_4 (.int .i64 1)) fun w12_5 => 
  bnP (elQ 5 v0 w12_5) fun e6 => 
  bnP ((AV.cells e6)[2]?) fun w15_7 => 
  bnP (binA .add w15_7 (.int .i64 1)) fun w16_8 => 
  bnP (rcv false .n w16_8) fun r9 => some (r9, Q))) := by kernel_rfl
def f_pleachref13_NextLog {s : PSpecs} (hs : s.lookup 32 = none) (v0 v1 : AV) (Q : AHeap) := (callP_fn (E := penv s) (f := 32) (fn := pf_pleachref13_NextLog) hs rfl [v0, v1] Q rfl).trans (g_pleachref13_NextLog (call := callP (penv s)) (lp := loopP (penv s)) v0 v1 Q)
theorem p_pleachlaw16_Logs_0 {β : Type} (call : CallF) (lp : PLoopF) (t0 t6 t7 : AV) (l5 : List AV) (Q : AHeap) (k : PK β) : evalPK call lp c_pleachlaw16_Logs_0 [(0, .v t0), (5, .ls 5), (6, .v t6), (7, .v t7)] [(5, .own 5 l5)] Q k = (
  bnP (binA .add t7 (.int .i64 1)) fun w15_1 => 
  k .normal [(0, .v t0), (5, .ls 5), (6, .v t6), (7, .v w15_1)] [(5, .own 5 l5)] Q) := by kernel_rfl
theorem p_pleachlaw16_Logs_1 {β : Type} (call : CallF) (lp : PLoopF) (t0 t6 t7 : AV) (l5 : List AV) (Q : AHeap) (k : PK β) : evalPK call lp c_pleachlaw16_Logs_1 [(0, .v t0), (5, .ls 5), (6, .v t6), (7, .v t7)] [(5, .own 5 l5)] Q k = (
  bnP (lenQ t0) fun w12_1 => 
  bnP (binA .lss t7 w12_1) fun w13_2 => 
  cndS w13_2 (fun _ => bnX (bnX (bnP (elQ 2 t0 t7) fun e3 => 
  bnN (idxN 2 (.int .i64 0)) fun i4 => 
  bnP ((AV.cells e3)[(0 + i4 * 1)]?) fun w20_5 => 
  bnP (binA .rem w20_5 (.int .u8 3)) fun w21_6 => 
  bnP (binA .gtr w21_6 (.int .u8 0)) fun w22_7 => 
  cndS w22_7 (fun _ => bnP (elQ 2 t0 t7) fun e8 => 
  bnN (idxN 2 (.int .i64 1)) fun i9 => 
  bnP ((AV.cells e8)[(0 + i9 * 1)]?) fun w29_10 => 
  bnP (binA .rem w29_10 (.int .u8 26)) fun w30_11 => 
  bnP (binA .add (.int .u8 97) w30_11) fun w31_12 => 
  pinB (elOk 1 w31_12) <| 
  bnP (b2sQ (.fz 1 [w31_12])) fun w33_13 => 
  bnS (call 43 [(.fz 5 l5), t6, w33_13] Q) fun w34_14 Q15 => bnL (owZ 5 w34_14) fun l16 => 
  bnP (binA .add t6 (.int .i64 1)) fun w36_17 => 
  some (.normal, [(0, .v t0), (5, .ls 5), (6, .v w36_17), (7, .v t7)], [(5, .own 5 l16)], Q15))
  (fun _ => bnP (elQ 2 t0 t7) fun e18 => 
  bnN (idxN 2 (.int .i64 1)) fun i19 => 
  bnP ((AV.cells e18)[(0 + i19 * 1)]?) fun w42_20 => 
  bnP (binA .rem w42_20 (.int .u8 4)) fun w43_21 => 
  bnP (cviA .i64 w43_21) fun w44_22 => 
  bnP (binA .add t6 w44_22) fun w45_23 => 
  bnP (elQ 2 t0 t7) fun e24 => 
  bnN (idxN 2 (.int .i64 1)) fun i25 => 
  bnP ((AV.cells e24)[(0 + i25 * 1)]?) fun w53_26 => 
  bnP (binA .quo w53_26 (.int .u8 4)) fun w54_27 => 
  bnP (binA .rem w54_27 (.int .u8 2)) fun w55_28 => 
  bnP (cviA .i64 w55_28) fun w56_29 => 
  bnP (binA .add (.int .i64 1) w56_29) fun w57_30 => 
  bnS (call 45 [(.fz 5 l5), t6, w45_23, w57_30] Q) fun w58_31 Q32 => bnL (owZ 5 w58_31) fun l33 => 
  bnP (binA .add w45_23 (.int .i64 1)) fun w60_34 => 
  some (.normal, [(0, .v t0), (5, .ls 5), (6, .v w60_34), (7, .v t7)], [(5, .own 5 l33)], Q32)))
  (outX 1 ret4))
  (goC (evalPK call lp c_pleachlaw16_Logs_0) k))
  (fun _ => k (.exit 0) [(5, .ls 5)] [(5, .own 5 l5)] Q)) := by kernel_rfl
noncomputable def L_pleachlaw16_Logs_1 (s : PSpecs) (t0 t6 t7 : AV) (l5 : List AV) (Q : AHeap) : Option PEnd := loopP (penv s) c_pleachlaw16_Logs_1 [(0, .v t0), (5, .ls 5), (6, .v t6), (7, .v t7)] [(5, .own 5 l5)] Q
theorem L_pleachlaw16_Logs_1_fold (s : PSpecs) (t0 t6 t7 : AV) (l5 : List AV) (Q : AHeap) : loopP (penv s) c_pleachlaw16_Logs_1 [(0, .v t0), (5, .ls 5), (6, .v t6), (7, .v t7)] [(5, .own 5 l5)] Q = L_pleachlaw16_Logs_1 s t0 t6 t7 l5 Q := rfl
theorem L_pleachlaw16_Logs_1_eq (s : PSpecs) (t0 t6 t7 : AV) (l5 : List AV) (Q : AHeap) : L_pleachlaw16_Logs_1 s t0 t6 t7 l5 Q = evalPK (callP (penv s)) (loopP (penv s)) c_pleachlaw16_Logs_1 [(0, .v t0), (5, .ls 5), (6, .v t6), (7, .v t7)] [(5, .own 5 l5)] Q (goX (fun τ ω Q => loopP (penv s) c_pleachlaw16_Logs_1 τ ω Q) ret4) := loopP_body
abbrev X_pleachlaw16_Logs_1_x0 (l5 : List AV) (Q : AHeap) : Option PEnd := some (.exit 0, [(5, .ls 5)], [(5, .own 5 l5)], Q)
theorem p_pleachlaw16_Logs_2 {β : Type} (call : CallF) (lp : PLoopF) (l5 : List AV) (Q : AHeap) (k : PK β) : evalPK call lp c_pleachlaw16_Logs_2 [(5, .ls 5)] [(5, .own 5 l5)] Q k = (
  k .ret [(4, .ls 5), (61, .ls 5), (5, .ls 5)] [(5, .own 5 l5)] Q) := by kernel_rfl
theorem g_pleachlaw16_Logs {call : CallF} {lp : PLoopF} (v0 v1 : AV) (Q : AHeap) : evalPK call lp c_pleachlaw16_Logs [(0, .v v0), (1, .v v1)] [] Q (retPK [.tmp 4] [.o 5]) = (
  bnX (lp c_pleachlaw16_Logs_1 [(0, .v v0), (5, .ls 5), (6, .v v1), (7, .v (.int .i64 0))] [(5, .own 5 ([] : List AV))] Q) (outX 0 (goC (evalPK call lp c_pleachlaw16_Logs_2) (retPK [.tmp 4] [.o 5])))) := by kernel_rfl
def f_pleachlaw16_Logs {s : PSpecs} (hs : s.lookup 37 = none) (v0 v1 : AV) (Q : AHeap) := (callP_fn (E := penv s) (f := 37) (fn := pf_pleachlaw16_Logs) hs rfl [v0, v1] Q rfl).trans (g_pleachlaw16_Logs (call := callP (penv s)) (lp := loopP (penv s)) v0 v1 Q)
theorem p_log_May_0 {β : Type} (call : CallF) (lp : PLoopF) (t1 t10 t11 t12 : AV) (Q : AHeap) (k : PK β) : evalPK call lp c_log_May_0 [(1, .v t1), (10, .v t10), (11, .v t11), (12, .v t12)] [] Q k = (
  bnP (binA .lss t12 t11) fun w13_1 => 
  cndS w13_1 (fun _ => bnP (elQ 5 t10 t12) fun e2 => 
  bnC 5 (cut (AV.cells e2) 0 5) fun c15_3 c15_4 c15_5 c15_6 c15_7 => 
  bnC 5 (stC 5 (.agg [c15_3, c15_4, c15_5, c15_6, c15_7])) fun s8 s9 s10 s11 s12 => 
  bnS (call 72 [.agg [s8, s9, s10, s11, s12]] Q) fun w17_13 Q14 => 
  bnP (eqnQ false 1 (frz w17_13)) fun w19_15 => 
  bnP (gdQ w19_15 false (some s9)) fun w22_16 => 
  bnP (gdQ w19_15 false (some t1)) fun w23_17 => 
  bnP (gdQ w19_15 false (binA .neq w22_16 w23_17)) fun w24_18 => 
  bnP (pickA w19_15 (.bool true) w24_18) fun w25_19 => 
  bnP (gdQ w25_19 false (some (frz w17_13))) fun w27_20 => 
  bnP (gdQ w25_19 false (some (.agg [s8, s9, s10, s11, s12]))) fun w28_21 => 
  bnS (gdH w25_19 false (invA (lowF call) [(115, 122), (132, 123)] w27_20 [w28_21] Q14) Q14) fun w29_22 Q23 => 
  bnP (gdQ w25_19 false (unA .not (frz w29_22))) fun w30_24 => 
  bnP (pickA w25_19 (.bool true) w30_24) fun w31_25 => 
  bnP (gdQ w31_25 false (some s10)) fun w34_26 => 
  bnP (gdQ w31_25 false (binA .gtr w34_26 (.int .i64 1000000))) fun w35_27 => 
  bnP (pickA w31_25 (.bool true) w35_27) fun w36_28 => 
  cndS w36_28 (fun _ => k .ret [(4, .v (.bool false))] [] Q23)
  (fun _ => bnP (binA .add s10 (.int .i64 1)) fun w39_29 => 
  bnP (binA .add t12 (.int .i64 1)) fun w40_30 => 
  k .normal [(1, .v w39_29), (10, .v t10), (11, .v t11), (12, .v w40_30)] [] Q23))
  (fun _ => k (.exit 0) [] [] Q)) := by kernel_rfl
noncomputable def L_log_May_0 (s : PSpecs) (t1 t10 t11 t12 : AV) (Q : AHeap) : Option PEnd := loopP (penv s) c_log_May_0 [(1, .v t1), (10, .v t10), (11, .v t11), (12, .v t12)] [] Q
theorem L_log_May_0_fold (s : PSpecs) (t1 t10 t11 t12 : AV) (Q : AHeap) : loopP (penv s) c_log_May_0 [(1, .v t1), (10, .v t10), (11, .v t11), (12, .v t12)] [] Q = L_log_May_0 s t1 t10 t11 t12 Q := rfl
theorem L_log_May_0_eq (s : PSpecs) (t1 t10 t11 t12 : AV) (Q : AHeap) : L_log_May_0 s t1 t10 t11 t12 Q = evalPK (callP (penv s)) (loopP (penv s)) c_log_May_0 [(1, .v t1), (10, .v t10), (11, .v t11), (12, .v t12)] [] Q (goX (fun τ ω Q => loopP (penv s) c_log_May_0 τ ω Q) ret4) := loopP_body
abbrev X_log_May_0_x0 (Q : AHeap) : Option PEnd := some (.exit 0, [], [], Q)
abbrev X_log_May_0_ret (t4 : AV) (Q : AHeap) : Option PEnd := some (.ret, [(4, .v t4)], [], Q)
theorem p_log_May_1 {β : Type} (call : CallF) (lp : PLoopF) (Q : AHeap) (k : PK β) : evalPK call lp c_log_May_1 [] [] Q k = (
  k .ret [(4, .v (.bool true))] [] Q) := by kernel_rfl
theorem g_log_May {call : CallF} {lp : PLoopF} (v0 v1 : AV) (Q : AHeap) : evalPK call lp c_log_May [(0, .v v0), (1, .v v1)] [] Q (retPK [.tmp 4] [.n]) = (
  bnP (binA .lss v1 (.int .i64 1)) fun w9_1 => 
  cndS w9_1 (fun _ => some (.bool false, Q))
  (fun _ => bnP (lenQ v0) fun w11_2 => 
  bnX (lp c_log_May_0 [(1, .v v1), (10, .v v0), (11, .v w11_2), (12, .v (.int .i64 0))] [] Q) (outX 0 (goC (evalPK call lp c_log_May_1) (retPK [.tmp 4] [.n]))))) := by kernel_rfl
def f_log_May {s : PSpecs} (hs : s.lookup 38 = none) (v0 v1 : AV) (Q : AHeap) := (callP_fn (E := penv s) (f := 38) (fn := pf_log_May) hs rfl [v0, v1] Q rfl).trans (g_log_May (call := callP (penv s)) (lp := loopP (penv s)) v0 v1 Q)
theorem g_log_Next {call : CallF} {lp : PLoopF} (v0 v1 : AV) (Q : AHeap) : evalPK call lp c_log_Next [(0, .v v0), (1, .v v1)] [] Q (retPK [.tmp 4] [.n]) = (
  bnP (lenQ v0) fun w6_1 => 
  bnP (binA .eql w6_1 (.int .i64 0)) fun w7_2 => 
  cndS w7_2 (fun _ => bnP (rcv false .n v1) fun r3 => some (r3, Q))
  (fun _ => bnP (lenQ v0) fun w11_4 => 
  bnP (binA .sub w11_4 (.int .i64 1)) fun w12_5 => 
  bnP (elQ 5 v0 w12_5) fun e6 => 
  bnP ((AV.cells e6)[2]?) fun w15_7 => 
  bnP (binA .add w15_7 (.int .i64 1)) fun w16_8 => 
  bnP (rcv false .n w16_8) fun r9 => some (r9, Q))) := by kernel_rfl
def f_log_Next {s : PSpecs} (hs : s.lookup 39 = none) (v0 v1 : AV) (Q : AHeap) := (callP_fn (E := penv s) (f := 39) (fn := pf_log_Next) hs rfl [v0, v1] Q rfl).trans (g_log_Next (call := callP (penv s)) (lp := loopP (penv s)) v0 v1 Q)
theorem p_log_Gaps_0 {β : Type} (call : CallF) (lp : PLoopF) (t7 t8 t9 : AV) (l2 : List AV) (Q : AHeap) (k : PK β) : evalPK call lp c_log_Gaps_0 [(2, .ls 2), (7, .v t7), (8, .v t8), (9, .v t9)] [(2, .own 2 l2)] Q k = (
  bnP (binA .add t9 (.int .i64 1)) fun w27_1 => 
  k .normal [(2, .ls 2), (7, .v t7), (8, .v t8), (9, .v w27_1)] [(2, .own 2 l2)] Q) := by kernel_rfl
theorem p_log_Gaps_1 {β : Type} (call : CallF) (lp : PLoopF) (t7 t8 t9 : AV) (l2 : List AV) (Q : AHeap) (k : PK β) : evalPK call lp c_log_Gaps_1 [(2, .ls 2), (7, .v t7), (8, .v t8), (9, .v t9)] [(2, .own 2 l2)] Q k = (
  bnP (binA .lss t9 t8) fun w10_1 => 
  cndS w10_1 (fun _ => bnX (bnX (bnP (elQ 5 t7 t9) fun e2 => 
  bnC 5 (cut (AV.cells e2) 0 5) fun c12_3 c12_4 c12_5 c12_6 c12_7 => 
  bnC 5 (stC 5 (.agg [c12_3, c12_4, c12_5, c12_6, c12_7])) fun s8 s9 s10 s11 s12 => 
  bnS (call 72 [.agg [s8, s9, s10, s11, s12]] Q) fun w15_13 Q14 => 
  bnP (tasP 115 (.agg []) true (frz w15_13)) fun w16_15 => 
  bnP (extA w16_15 0) fun w17_16 => 
  bnP (extA w16_15 1) fun w18_17 => 
  bnC 0 (stC 0 w17_16) <| 
  cndS w18_17 (fun _ => bnC 2 (fillP [.int .i64 0, .int .i64 0] [(0, 1, s9), (1, 1, s10)]) fun c25_18 c25_19 => 
  bnS (call 73 [(.fz 2 l2), .agg [c25_18, c25_19]] Q14) fun w26_20 Q21 => bnL (owZ 2 w26_20) fun l22 => 
  some (.normal, [(2, .ls 2), (7, .v t7), (8, .v t8), (9, .v t9)], [(2, .own 2 l22)], Q21))
  (fun _ => some (.normal, [(2, .ls 2), (7, .v t7), (8, .v t8), (9, .v t9)], [(2, .own 2 l2)], Q14)))
  (outX 1 ret4))
  (goC (evalPK call lp c_log_Gaps_0) k))
  (fun _ => k (.exit 0) [(2, .ls 2)] [(2, .own 2 l2)] Q)) := by kernel_rfl
noncomputable def L_log_Gaps_1 (s : PSpecs) (t7 t8 t9 : AV) (l2 : List AV) (Q : AHeap) : Option PEnd := loopP (penv s) c_log_Gaps_1 [(2, .ls 2), (7, .v t7), (8, .v t8), (9, .v t9)] [(2, .own 2 l2)] Q
theorem L_log_Gaps_1_fold (s : PSpecs) (t7 t8 t9 : AV) (l2 : List AV) (Q : AHeap) : loopP (penv s) c_log_Gaps_1 [(2, .ls 2), (7, .v t7), (8, .v t8), (9, .v t9)] [(2, .own 2 l2)] Q = L_log_Gaps_1 s t7 t8 t9 l2 Q := rfl
theorem L_log_Gaps_1_eq (s : PSpecs) (t7 t8 t9 : AV) (l2 : List AV) (Q : AHeap) : L_log_Gaps_1 s t7 t8 t9 l2 Q = evalPK (callP (penv s)) (loopP (penv s)) c_log_Gaps_1 [(2, .ls 2), (7, .v t7), (8, .v t8), (9, .v t9)] [(2, .own 2 l2)] Q (goX (fun τ ω Q => loopP (penv s) c_log_Gaps_1 τ ω Q) ret4) := loopP_body
abbrev X_log_Gaps_1_x0 (l2 : List AV) (Q : AHeap) : Option PEnd := some (.exit 0, [(2, .ls 2)], [(2, .own 2 l2)], Q)
theorem p_log_Gaps_2 {β : Type} (call : CallF) (lp : PLoopF) (l2 : List AV) (Q : AHeap) (k : PK β) : evalPK call lp c_log_Gaps_2 [(2, .ls 2)] [(2, .own 2 l2)] Q k = (
  k .ret [(2, .ls 2), (28, .ls 2), (2, .ls 2)] [(2, .own 2 l2)] Q) := by kernel_rfl
theorem g_log_Gaps {call : CallF} {lp : PLoopF} (v0 : AV) (Q : AHeap) : evalPK call lp c_log_Gaps [(0, .v v0)] [] Q (retPK [.tmp 2] [.o 2]) = (
  bnP (lenQ v0) fun w8_1 => 
  bnX (lp c_log_Gaps_1 [(2, .ls 2), (7, .v v0), (8, .v w8_1), (9, .v (.int .i64 0))] [(2, .own 2 ([] : List AV))] Q) (outX 0 (goC (evalPK call lp c_log_Gaps_2) (retPK [.tmp 2] [.o 2])))) := by kernel_rfl
def f_log_Gaps {s : PSpecs} (hs : s.lookup 40 = none) (v0 : AV) (Q : AHeap) := (callP_fn (E := penv s) (f := 40) (fn := pf_log_Gaps) hs rfl [v0] Q rfl).trans (g_log_Gaps (call := callP (penv s)) (lp := loopP (penv s)) v0 Q)
theorem p_pleachref13_Gaps_0 {β : Type} (call : CallF) (lp : PLoopF) (t0 t4 : AV) (l3 : List AV) (Q : AHeap) (k : PK β) : evalPK call lp c_pleachref13_Gaps_0 [(0, .v t0), (3, .ls 3), (4, .v t4)] [(3, .own 2 l3)] Q k = (
  bnP (binA .add t4 (.int .i64 1)) fun w10_1 => 
  k .normal [(0, .v t0), (3, .ls 3), (4, .v w10_1)] [(3, .own 2 l3)] Q) := by kernel_rfl
theorem p_pleachref13_Gaps_1 {β : Type} (call : CallF) (lp : PLoopF) (t0 t4 : AV) (l3 : List AV) (Q : AHeap) (k : PK β) : evalPK call lp c_pleachref13_Gaps_1 [(0, .v t0), (3, .ls 3), (4, .v t4)] [(3, .own 2 l3)] Q k = (
  bnP (lenQ t0) fun w7_1 => 
  bnP (binA .lss t4 w7_1) fun w8_2 => 
  cndS w8_2 (fun _ => bnX (bnX (bnP (elQ 5 t0 t4) fun e3 => 
  bnP ((AV.cells e3)[0]?) fun w15_4 => 
  bnP (binA .eql w15_4 (.int .i64 2)) fun w16_5 => 
  cndS w16_5 (fun _ => bnP (elQ 5 t0 t4) fun e6 => 
  bnP ((AV.cells e6)[1]?) fun w22_7 => 
  bnP (elQ 5 t0 t4) fun e8 => 
  bnP ((AV.cells e8)[2]?) fun w27_9 => 
  bnC 2 (fillP [.int .i64 0, .int .i64 0] [(0, 1, w22_7), (1, 1, w27_9)]) fun c28_10 c28_11 => 
  bnS (call 46 [(.fz 2 l3), .agg [c28_10, c28_11]] Q) fun w29_12 Q13 => bnL (owZ 2 w29_12) fun l14 => 
  some (.normal, [(0, .v t0), (3, .ls 3), (4, .v t4)], [(3, .own 2 l14)], Q13))
  (fun _ => some (.normal, [(0, .v t0), (3, .ls 3), (4, .v t4)], [(3, .own 2 l3)], Q)))
  (outX 1 ret4))
  (goC (evalPK call lp c_pleachref13_Gaps_0) k))
  (fun _ => k (.exit 0) [(3, .ls 3)] [(3, .own 2 l3)] Q)) := by kernel_rfl
noncomputable def L_pleachref13_Gaps_1 (s : PSpecs) (t0 t4 : AV) (l3 : List AV) (Q : AHeap) : Option PEnd := loopP (penv s) c_pleachref13_Gaps_1 [(0, .v t0), (3, .ls 3), (4, .v t4)] [(3, .own 2 l3)] Q
theorem L_pleachref13_Gaps_1_fold (s : PSpecs) (t0 t4 : AV) (l3 : List AV) (Q : AHeap) : loopP (penv s) c_pleachref13_Gaps_1 [(0, .v t0), (3, .ls 3), (4, .v t4)] [(3, .own 2 l3)] Q = L_pleachref13_Gaps_1 s t0 t4 l3 Q := rfl
theorem L_pleachref13_Gaps_1_eq (s : PSpecs) (t0 t4 : AV) (l3 : List AV) (Q : AHeap) : L_pleachref13_Gaps_1 s t0 t4 l3 Q = evalPK (callP (penv s)) (loopP (penv s)) c_pleachref13_Gaps_1 [(0, .v t0), (3, .ls 3), (4, .v t4)] [(3, .own 2 l3)] Q (goX (fun τ ω Q => loopP (penv s) c_pleachref13_Gaps_1 τ ω Q) ret4) := loopP_body
abbrev X_pleachref13_Gaps_1_x0 (l3 : List AV) (Q : AHeap) : Option PEnd := some (.exit 0, [(3, .ls 3)], [(3, .own 2 l3)], Q)
theorem p_pleachref13_Gaps_2 {β : Type} (call : CallF) (lp : PLoopF) (l3 : List AV) (Q : AHeap) (k : PK β) : evalPK call lp c_pleachref13_Gaps_2 [(3, .ls 3)] [(3, .own 2 l3)] Q k = (
  k .ret [(2, .ls 3), (30, .ls 3), (3, .ls 3)] [(3, .own 2 l3)] Q) := by kernel_rfl
theorem g_pleachref13_Gaps {call : CallF} {lp : PLoopF} (v0 : AV) (Q : AHeap) : evalPK call lp c_pleachref13_Gaps [(0, .v v0)] [] Q (retPK [.tmp 2] [.o 2]) = (
  bnX (lp c_pleachref13_Gaps_1 [(0, .v v0), (3, .ls 3), (4, .v (.int .i64 0))] [(3, .own 2 ([] : List AV))] Q) (outX 0 (goC (evalPK call lp c_pleachref13_Gaps_2) (retPK [.tmp 2] [.o 2])))) := by kernel_rfl
def f_pleachref13_Gaps {s : PSpecs} (hs : s.lookup 41 = none) (v0 : AV) (Q : AHeap) := (callP_fn (E := penv s) (f := 41) (fn := pf_pleachref13_Gaps) hs rfl [v0] Q rfl).trans (g_pleachref13_Gaps (call := callP (penv s)) (lp := loopP (penv s)) v0 Q)
theorem g_log_Tell {call : CallF} {lp : PLoopF} (v0 v1 v2 : AV) (Q : AHeap) : evalPK call lp c_log_Tell [(0, .v v0), (1, .v v1), (2, .v v2)] [] Q (retPK [.tmp 6] [.o 5]) = (
  bnS (call 74 [v0] Q) fun w8_1 Q2 => bnL (owZ 5 w8_1) fun l3 => 
  bnC 5 (fillP [.int .i64 0, .int .i64 0, .int .i64 0, .str [], .int .i64 0] [(0, 1, .int .i64 1), (1, 1, v1), (2, 1, v1), (3, 1, v2)]) fun c12_4 c12_5 c12_6 c12_7 c12_8 => 
  pinB (elOk 5 (.agg [c12_4, c12_5, c12_6, c12_7, c12_8])) <| 
  pinB (room 48 ((l3 : List AV).length + (([.agg [c12_4, c12_5, c12_6, c12_7, c12_8]] : List AV) : List AV).length)) <| 
  some (.ow 5 (l3 ++ ([.agg [c12_4, c12_5, c12_6, c12_7, c12_8]] : List AV)), Q2)) := by kernel_rfl
def f_log_Tell {s : PSpecs} (hs : s.lookup 42 = none) (v0 v1 v2 : AV) (Q : AHeap) := (callP_fn (E := penv s) (f := 42) (fn := pf_log_Tell) hs rfl [v0, v1, v2] Q rfl).trans (g_log_Tell (call := callP (penv s)) (lp := loopP (penv s)) v0 v1 v2 Q)
theorem g_pleachref13_Tell {call : CallF} {lp : PLoopF} (v0 v1 v2 : AV) (Q : AHeap) : evalPK call lp c_pleachref13_Tell [(0, .v v0), (1, .v v1), (2, .v v2)] [] Q (retPK [.tmp 6] [.o 5]) = (
  bnL (srcT [] 5 (.v v0)) fun l1 => 
  pinB (room 48 ((([] : List AV) : List AV).length + (l1 : List AV).length)) <| 
  bnC 5 (fillP [.int .i64 0, .int .i64 0, .int .i64 0, .str [], .int .i64 0] [(0, 1, .int .i64 1), (1, 1, v1), (2, 1, v1), (3, 1, v2)]) fun c13_2 c13_3 c13_4 c13_5 c13_6 => 
  pinB (elOk 5 (.agg [c13_2, c13_3, c13_4, c13_5, c13_6])) <| 
  pinB (room 48 (((([] : List AV) ++ l1) : List AV).length + (([.agg [c13_2, c13_3, c13_4, c13_5, c13_6]] : List AV) : List AV).length)) <| 
  some (.ow 5 ((([] : List AV) ++ l1) ++ ([.agg [c13_2, c13_3, c13_4, c13_5, c13_6]] : List AV)), Q)) := by kernel_rfl
def f_pleachref13_Tell {s : PSpecs} (hs : s.lookup 43 = none) (v0 v1 v2 : AV) (Q : AHeap) := (callP_fn (E := penv s) (f := 43) (fn := pf_pleachref13_Tell) hs rfl [v0, v1, v2] Q rfl).trans (g_pleachref13_Tell (call := callP (penv s)) (lp := loopP (penv s)) v0 v1 v2 Q)
theorem g_log_Skip {call : CallF} {lp : PLoopF} (v0 v1 v2 v3 : AV) (Q : AHeap) : evalPK call lp c_log_Skip [(0, .v v0), (1, .v v1), (2, .v v2), (3, .v v3)] [] Q (retPK [.tmp 8] [.o 5]) = (
  bnS (call 74 [v0] Q) fun w10_1 Q2 => bnL (owZ 5 w10_1) fun l3 => 
  bnC 5 (fillP [.int .i64 0, .int .i64 0, .int .i64 0, .str [], .int .i64 0] [(0, 1, .int .i64 2), (1, 1, v1), (2, 1, v2), (4, 1, v3)]) fun c14_4 c14_5 c14_6 c14_7 c14_8 => 
  pinB (elOk 5 (.agg [c14_4, c14_5, c14_6, c14_7, c14_8])) <| 
  pinB (room 48 ((l3 : List AV).length + (([.agg [c14_4, c14_5, c14_6, c14_7, c14_8]] : List AV) : List AV).length)) <| 
  some (.ow 5 (l3 ++ ([.agg [c14_4, c14_5, c14_6, c14_7, c14_8]] : List AV)), Q2)) := by kernel_rfl
def f_log_Skip {s : PSpecs} (hs : s.lookup 44 = none) (v0 v1 v2 v3 : AV) (Q : AHeap) := (callP_fn (E := penv s) (f := 44) (fn := pf_log_Skip) hs rfl [v0, v1, v2, v3] Q rfl).trans (g_log_Skip (call := callP (penv s)) (lp := loopP (penv s)) v0 v1 v2 v3 Q)
theorem g_pleachref13_Skip {call : CallF} {lp : PLoopF} (v0 v1 v2 v3 : AV) (Q : AHeap) : evalPK call lp c_pleachref13_Skip [(0, .v v0), (1, .v v1), (2, .v v2), (3, .v v3)] [] Q (retPK [.tmp 8] [.o 5]) = (
  bnL (srcT [] 5 (.v v0)) fun l1 => 
  pinB (room 48 ((([] : List AV) : List AV).length + (l1 : List AV).length)) <| 
  bnC 5 (fillP [.int .i64 0, .int .i64 0, .int .i64 0, .str [], .int .i64 0] [(0, 1, .int .i64 2), (1, 1, v1), (2, 1, v2), (4, 1, v3)]) fun c15_2 c15_3 c15_4 c15_5 c15_6 => 
  pinB (elOk 5 (.agg [c15_2, c15_3, c15_4, c15_5, c15_6])) <| 
  pinB (room 48 (((([] : List AV) ++ l1) : List AV).length + (([.agg [c15_2, c15_3, c15_4, c15_5, c15_6]] : List AV) : List AV).length)) <| 
  some (.ow 5 ((([] : List AV) ++ l1) ++ ([.agg [c15_2, c15_3, c15_4, c15_5, c15_6]] : List AV)), Q)) := by kernel_rfl
def f_pleachref13_Skip {s : PSpecs} (hs : s.lookup 45 = none) (v0 v1 v2 v3 : AV) (Q : AHeap) := (callP_fn (E := penv s) (f := 45) (fn := pf_pleachref13_Skip) hs rfl [v0, v1, v2, v3] Q rfl).trans (g_pleachref13_Skip (call := callP (penv s)) (lp := loopP (penv s)) v0 v1 v2 v3 Q)
theorem p_pleachref1_AddSpan_0 {β : Type} (call : CallF) (lp : PLoopF) (t0 t7 s3_0 s3_1 : AV) (l5 l6 : List AV) (Q : AHeap) (k : PK β) : evalPK call lp c_pleachref1_AddSpan_0 [(0, .v t0), (3, .lp 3 0), (5, .ls 5), (6, .ls 6), (7, .v t7)] [(3, .cells [s3_0, s3_1]), (5, .own 2 l5), (6, .own 2 l6)] Q k = (
  bnP (binA .add t7 (.int .i64 1)) fun w19_1 => 
  k .normal [(0, .v t0), (3, .lp 3 0), (5, .ls 5), (6, .ls 6), (7, .v w19_1)] [(3, .cells [s3_0, s3_1]), (5, .own 2 l5), (6, .own 2 l6)] Q) := by kernel_rfl
theorem p_pleachref1_AddSpan_1 {β : Type} (call : CallF) (lp : PLoopF) (t0 t7 s3_0 s3_1 : AV) (l5 l6 : List AV) (Q : AHeap) (k : PK β) : evalPK call lp c_pleachref1_AddSpan_1 [(0, .v t0), (3, .lp 3 0), (5, .ls 5), (6, .ls 6), (7, .v t7)] [(3, .cells [s3_0, s3_1]), (5, .own 2 l5), (6, .own 2 l6)] Q k = (
  bnP (lenQ t0) fun w16_1 => 
  bnP (binA .lss t7 w16_1) fun w17_2 => 
  cndS w17_2 (fun _ => bnX (bnX (bnX (bnP (elQ 2 t0 t7) fun e3 => 
  bnP ((AV.cells e3)[1]?) fun w42_4 => 
  bnP (binA .add w42_4 (.int .i64 1)) fun w43_5 => 
  bnP (binA .lss w43_5 s3_0) fun w46_6 => 
  cndS w46_6 (fun _ => bnP (elQ 2 t0 t7) fun e7 => 
  bnC 2 (cut (AV.cells e7) 0 2) fun c51_8 c51_9 => 
  pinB (elOk 2 (.agg [c51_8, c51_9])) <| 
  pinB (room 16 ((l5 : List AV).length + (([.agg [c51_8, c51_9]] : List AV) : List AV).length)) <| 
  some (.normal, [(0, .v t0), (3, .lp 3 0), (5, .ls 5), (6, .ls 6), (7, .v t7)], [(3, .cells [s3_0, s3_1]), (5, .own 2 (l5 ++ ([.agg [c51_8, c51_9]] : List AV))), (6, .own 2 l6)], Q))
  (fun _ => bnP (elQ 2 t0 t7) fun e10 => 
  bnP ((AV.cells e10)[0]?) fun w59_11 => 
  bnP (binA .add s3_1 (.int .i64 1)) fun w62_12 => 
  bnP (binA .gtr w59_11 w62_12) fun w63_13 => 
  cndS w63_13 (fun _ => bnP (elQ 2 t0 t7) fun e14 => 
  bnC 2 (cut (AV.cells e14) 0 2) fun c68_15 c68_16 => 
  pinB (elOk 2 (.agg [c68_15, c68_16])) <| 
  pinB (room 16 ((l6 : List AV).length + (([.agg [c68_15, c68_16]] : List AV) : List AV).length)) <| 
  some (.normal, [(0, .v t0), (3, .lp 3 0), (5, .ls 5), (6, .ls 6), (7, .v t7)], [(3, .cells [s3_0, s3_1]), (5, .own 2 l5), (6, .own 2 (l6 ++ ([.agg [c68_15, c68_16]] : List AV)))], Q))
  (fun _ => bnP (elQ 2 t0 t7) fun e17 => 
  bnP ((AV.cells e17)[0]?) fun w26_18 => 
  bnP (mniA [s3_0, w26_18]) fun w27_19 => 
  bnP (elQ 2 t0 t7) fun e20 => 
  bnP ((AV.cells e20)[1]?) fun w34_21 => 
  bnP (mxiA [s3_1, w34_21]) fun w35_22 => 
  bnC 2 (fillP [.int .i64 0, .int .i64 0] [(0, 1, w27_19), (1, 1, w35_22)]) fun c36_23 c36_24 => 
  bnC 2 (stC 2 (.agg [c36_23, c36_24])) fun s25 s26 => 
  some (.normal, [(0, .v t0), (3, .lp 3 0), (5, .ls 5), (6, .ls 6), (7, .v t7)], [(3, .cells [s25, s26]), (5, .own 2 l5), (6, .own 2 l6)], Q))))
  (outX 2 (finC [] [] [0, 3, 5, 6, 7] [(3, 3), (5, 5), (6, 6)] ret4)))
  (outX 1 ret4))
  (goC (evalPK call lp c_pleachref1_AddSpan_0) k))
  (fun _ => k (.exit 0) [(3, .lp 3 0), (5, .ls 5), (6, .ls 6)] [(3, .cells [s3_0, s3_1]), (5, .own 2 l5), (6, .own 2 l6)] Q)) := by kernel_rfl
noncomputable def L_pleachref1_AddSpan_1 (s : PSpecs) (t0 t7 s3_0 s3_1 : AV) (l5 l6 : List AV) (Q : AHeap) : Option PEnd := loopP (penv s) c_pleachref1_AddSpan_1 [(0, .v t0), (3, .lp 3 0), (5, .ls 5), (6, .ls 6), (7, .v t7)] [(3, .cells [s3_0, s3_1]), (5, .own 2 l5), (6, .own 2 l6)] Q
theorem L_pleachref1_AddSpan_1_fold (s : PSpecs) (t0 t7 s3_0 s3_1 : AV) (l5 l6 : List AV) (Q : AHeap) : loopP (penv s) c_pleachref1_AddSpan_1 [(0, .v t0), (3, .lp 3 0), (5, .ls 5), (6, .ls 6), (7, .v t7)] [(3, .cells [s3_0, s3_1]), (5, .own 2 l5), (6, .own 2 l6)] Q = L_pleachref1_AddSpan_1 s t0 t7 s3_0 s3_1 l5 l6 Q := rfl
theorem L_pleachref1_AddSpan_1_eq (s : PSpecs) (t0 t7 s3_0 s3_1 : AV) (l5 l6 : List AV) (Q : AHeap) : L_pleachref1_AddSpan_1 s t0 t7 s3_0 s3_1 l5 l6 Q = evalPK (callP (penv s)) (loopP (penv s)) c_pleachref1_AddSpan_1 [(0, .v t0), (3, .lp 3 0), (5, .ls 5), (6, .ls 6), (7, .v t7)] [(3, .cells [s3_0, s3_1]), (5, .own 2 l5), (6, .own 2 l6)] Q (goX (fun τ ω Q => loopP (penv s) c_pleachref1_AddSpan_1 τ ω Q) ret4) := loopP_body
abbrev X_pleachref1_AddSpan_1_x0 (s3_0 s3_1 : AV) (l5 l6 : List AV) (Q : AHeap) : Option PEnd := some (.exit 0, [(3, .lp 3 0), (5, .ls 5), (6, .ls 6)], [(3, .cells [s3_0, s3_1]), (5, .own 2 l5), (6, .own 2 l6)], Q)
theorem p_pleachref1_AddSpan_2 {β : Type} (call : CallF) (lp : PLoopF) (s3_0 s3_1 : AV) (l5 l6 : List AV) (Q : AHeap) (k : PK β) : evalPK call lp c_pleachref1_AddSpan_2 [(3, .lp 3 0), (5, .ls 5), (6, .ls 6)] [(3, .cells [s3_0, s3_1]), (5, .own 2 l5), (6, .own 2 l6)] Q k = (
  pinB (elOk 2 (.agg [s3_0, s3_1])) <| 
  pinB (room 16 ((l5 : List AV).length + (([.agg [s3_0, s3_1]] : List AV) : List AV).length)) <| 
  pinB (room 16 (((l5 ++ ([.agg [s3_0, s3_1]] : List AV)) : List AV).length + (l6 : List AV).length)) <| 
  k .ret [(4, .ls 5), (76, .ls 5), (75, .ls 6), (74, .v undefA), (73, .v (.fz 2 [.agg [s3_0, s3_1]])), (72, .v (.agg [s3_0, s3_1])), (71, .v undefA), (3, .lp 3 0), (5, .v undefA), (6, .ls 6)] [(5, .own 2 ((l5 ++ ([.agg [s3_0, s3_1]] : List AV)) ++ l6)), (3, .cells [s3_0, s3_1]), (6, .own 2 l6)] Q) := by kernel_rfl
theorem g_pleachref1_AddSpan {call : CallF} {lp : PLoopF} (v0 v1_0 v1_1 : AV) (Q : AHeap) : evalPK call lp c_pleachref1_AddSpan [(0, .v v0), (1, .v (.agg [v1_0, v1_1]))] [] Q (retPK [.tmp 4] [.o 2]) = (
  bnC 2 (stC 2 (.agg [v1_0, v1_1])) fun s1 s2 => 
  bnS (call 70 [.agg [s1, s2]] Q) fun w9_3 Q4 => 
  bnP (unA .not (frz w9_3)) fun w10_5 => 
  cndS w10_5 (fun _ => bnL (srcT [] 2 (.v v0)) fun l6 => 
  pinB (room 16 ((([] : List AV) : List AV).length + (l6 : List AV).length)) <| 
  some (.ow 2 (([] : List AV) ++ l6), Q4))
  (fun _ => bnX (lp c_pleachref1_AddSpan_1 [(0, .v v0), (3, .lp 3 0), (5, .ls 5), (6, .ls 6), (7, .v (.int .i64 0))] [(3, .cells [s1, s2]), (5, .own 2 ([] : List AV)), (6, .own 2 ([] : List AV))] Q4) (outX 0 (goC (evalPK call lp c_pleachref1_AddSpan_2) (retPK [.tmp 4] [.o 2]))))) := by kernel_rfl
def f_pleachref1_AddSpan {s : PSpecs} (hs : s.lookup 46 = none) (v0 v1_0 v1_1 : AV) (Q : AHeap) := (callP_fn (E := penv s) (f := 46) (fn := pf_pleachref1_AddSpan) hs rfl [v0, .agg [v1_0, v1_1]] Q rfl).trans (g_pleachref1_AddSpan (call := callP (penv s)) (lp := loopP (penv s)) v0 v1_0 v1_1 Q)
theorem g_pleachref1_MaySpan {call : CallF} {lp : PLoopF} (v0_0 v0_1 : AV) (Q : AHeap) : evalPK call lp c_pleachref1_MaySpan [(0, .v (.agg [v0_0, v0_1]))] [] Q (retPK [.tmp 2] [.n]) = (
  bnC 2 (stC 2 (.agg [v0_0, v0_1])) fun s1 s2 => 
  bnP (binA .geq s1 (.int .i64 1)) fun w5_3 => 
  bnP (gdQ w5_3 true (some s1)) fun w8_4 => 
  bnP (gdQ w5_3 true (some s2)) fun w10_5 => 
  bnP (gdQ w5_3 true (binA .leq w8_4 w10_5)) fun w11_6 => 
  bnP (pickA w5_3 w11_6 (.bool false)) fun w12_7 => 
  bnP (gdQ w12_7 true (some s2)) fun w15_8 => 
  bnP (gdQ w12_7 true (binA .leq w15_8 (.int .i64 1000000))) fun w16_9 => 
  bnP (pickA w12_7 w16_9 (.bool false)) fun w17_10 => 
  bnP (rcv false .n w17_10) fun r11 => some (r11, Q)) := by kernel_rfl
def f_pleachref1_MaySpan {s : PSpecs} (hs : s.lookup 70 = none) (v0_0 v0_1 : AV) (Q : AHeap) := (callP_fn (E := penv s) (f := 70) (fn := pf_pleachref1_MaySpan) hs rfl [.agg [v0_0, v0_1]] Q rfl).trans (g_pleachref1_MaySpan (call := callP (penv s)) (lp := loopP (penv s)) v0_0 v0_1 Q)
theorem g_log_kind {call : CallF} {lp : PLoopF} (v0_0 v0_1 v0_2 v0_3 v0_4 : AV) (Q : AHeap) : evalPK call lp c_log_kind [(0, .v (.agg [v0_0, v0_1, v0_2, v0_3, v0_4]))] [] Q (retPK [.tmp 2] [.n]) = (
  bnC 5 (stC 5 (.agg [v0_0, v0_1, v0_2, v0_3, v0_4])) fun s1 s2 s3 s4 s5 => 
  bnP (binA .eql s1 (.int .i64 1)) fun w6_6 => 
  cndS w6_6 (fun _ => some (.ifc 132 (.agg []), Q))
  (fun _ => bnP (binA .eql s1 (.int .i64 2)) fun w10_7 => 
  cndS w10_7 (fun _ => some (.ifc 115 (.agg []), Q))
  (fun _ => some (.nilifc, Q)))) := by kernel_rfl
def f_log_kind {s : PSpecs} (hs : s.lookup 72 = none) (v0_0 v0_1 v0_2 v0_3 v0_4 : AV) (Q : AHeap) := (callP_fn (E := penv s) (f := 72) (fn := pf_log_kind) hs rfl [.agg [v0_0, v0_1, v0_2, v0_3, v0_4]] Q rfl).trans (g_log_kind (call := callP (penv s)) (lp := loopP (penv s)) v0_0 v0_1 v0_2 v0_3 v0_4 Q)
theorem p_span_Add_0 {β : Type} (call : CallF) (lp : PLoopF) (t13 t14 t15 s3_0 s3_1 : AV) (l4 : List AV) (Q : AHeap) (k : PK β) : evalPK call lp c_span_Add_0 [(3, .lp 3 0), (4, .ls 4), (13, .v t13), (14, .v t14), (15, .v t15)] [(3, .cells [s3_0, s3_1]), (4, .own 2 l4)] Q k = (
  bnP (binA .add t15 (.int .i64 1)) fun w49_1 => 
  k .normal [(3, .lp 3 0), (4, .ls 4), (13, .v t13), (14, .v t14), (15, .v w49_1)] [(3, .cells [s3_0, s3_1]), (4, .own 2 l4)] Q) := by kernel_rfl
theorem p_span_Add_1 {β : Type} (call : CallF) (lp : PLoopF) (t13 t14 t15 s3_0 s3_1 : AV) (l4 : List AV) (Q : AHeap) (k : PK β) : evalPK call lp c_span_Add_1 [(3, .lp 3 0), (4, .ls 4), (13, .v t13), (14, .v t14), (15, .v t15)] [(3, .cells [s3_0, s3_1]), (4, .own 2 l4)] Q k = (
  bnP (binA .lss t15 t14) fun w16_1 => 
  cndS w16_1 (fun _ => bnX (bnX (bnP (elQ 2 t13 t15) fun e2 => 
  bnC 2 (cut (AV.cells e2) 0 2) fun c18_3 c18_4 => 
  bnC 2 (stC 2 (.agg [c18_3, c18_4])) fun s5 s6 => 
  bnP (binA .sub s3_0 (.int .i64 1)) fun w23_7 => 
  bnP (binA .lss s6 w23_7) fun w24_8 => 
  bnP (gdQ w24_8 false (some s5)) fun w27_9 => 
  bnP (gdQ w24_8 false (some s3_1)) fun w29_10 => 
  bnP (gdQ w24_8 false (binA .add w29_10 (.int .i64 1))) fun w30_11 => 
  bnP (gdQ w24_8 false (binA .gtr w27_9 w30_11)) fun w31_12 => 
  bnP (pickA w24_8 (.bool true) w31_12) fun w32_13 => 
  cndS w32_13 (fun _ => pinB (elOk 2 (.agg [s5, s6])) <| 
  pinB (room 16 ((l4 : List AV).length + (([.agg [s5, s6]] : List AV) : List AV).length)) <| 
  some (.normal, [(3, .lp 3 0), (4, .ls 4), (13, .v t13), (14, .v t14), (15, .v t15)], [(3, .cells [s3_0, s3_1]), (4, .own 2 (l4 ++ ([.agg [s5, s6]] : List AV)))], Q))
  (fun _ => bnP (mniA [s3_0, s5]) fun w41_14 => 
  bnP (mxiA [s3_1, s6]) fun w46_15 => 
  bnC 1 (stC 1 w41_14) fun s16 => 
  bnC 1 (stC 1 w46_15) fun s17 => 
  some (.normal, [(3, .lp 3 0), (4, .ls 4), (13, .v t13), (14, .v t14), (15, .v t15)], [(3, .cells [s16, s17]), (4, .own 2 l4)], Q)))
  (outX 1 ret4))
  (goC (evalPK call lp c_span_Add_0) k))
  (fun _ => k (.exit 0) [(3, .lp 3 0), (4, .ls 4)] [(3, .cells [s3_0, s3_1]), (4, .own 2 l4)] Q)) := by kernel_rfl
noncomputable def L_span_Add_1 (s : PSpecs) (t13 t14 t15 s3_0 s3_1 : AV) (l4 : List AV) (Q : AHeap) : Option PEnd := loopP (penv s) c_span_Add_1 [(3, .lp 3 0), (4, .ls 4), (13, .v t13), (14, .v t14), (15, .v t15)] [(3, .cells [s3_0, s3_1]), (4, .own 2 l4)] Q
theorem L_span_Add_1_fold (s : PSpecs) (t13 t14 t15 s3_0 s3_1 : AV) (l4 : List AV) (Q : AHeap) : loopP (penv s) c_span_Add_1 [(3, .lp 3 0), (4, .ls 4), (13, .v t13), (14, .v t14), (15, .v t15)] [(3, .cells [s3_0, s3_1]), (4, .own 2 l4)] Q = L_span_Add_1 s t13 t14 t15 s3_0 s3_1 l4 Q := rfl
theorem L_span_Add_1_eq (s : PSpecs) (t13 t14 t15 s3_0 s3_1 : AV) (l4 : List AV) (Q : AHeap) : L_span_Add_1 s t13 t14 t15 s3_0 s3_1 l4 Q = evalPK (callP (penv s)) (loopP (penv s)) c_span_Add_1 [(3, .lp 3 0), (4, .ls 4), (13, .v t13), (14, .v t14), (15, .v t15)] [(3, .cells [s3_0, s3_1]), (4, .own 2 l4)] Q (goX (fun τ ω Q => loopP (penv s) c_span_Add_1 τ ω Q) ret4) := loopP_body
abbrev X_span_Add_1_x0 (s3_0 s3_1 : AV) (l4 : List AV) (Q : AHeap) : Option PEnd := some (.exit 0, [(3, .lp 3 0), (4, .ls 4)], [(3, .cells [s3_0, s3_1]), (4, .own 2 l4)], Q)
theorem p_span_Add_2 {β : Type} (call : CallF) (lp : PLoopF) (t7 s3_0 s3_1 : AV) (l4 : List AV) (Q : AHeap) (k : PK β) : evalPK call lp c_span_Add_2 [(3, .lp 3 0), (4, .ls 4), (7, .v t7)] [(3, .cells [s3_0, s3_1]), (4, .own 2 l4)] Q k = (
  bnP (binA .lss t7 (.int .i64 ((l4 : List AV).length : Nat))) fun w53_1 => 
  bnP (gdQ w53_1 true (some t7)) fun w56_2 => 
  bnN (gdN w53_1 true (idxN (l4 : List AV).length w56_2)) fun i3 => 
  bnP (gdQ w53_1 true (elC l4 i3 0)) fun w59_4 => 
  bnP (gdQ w53_1 true (some s3_0)) fun w61_5 => 
  bnP (gdQ w53_1 true (binA .lss w59_4 w61_5)) fun w62_6 => 
  bnP (pickA w53_1 w62_6 (.bool false)) fun w63_7 => 
  cndS w63_7 (fun _ => bnP (binA .add t7 (.int .i64 1)) fun w65_8 => 
  k .normal [(3, .lp 3 0), (4, .ls 4), (7, .v w65_8)] [(3, .cells [s3_0, s3_1]), (4, .own 2 l4)] Q)
  (fun _ => k (.exit 2) [(3, .lp 3 0), (4, .ls 4), (7, .v t7)] [(3, .cells [s3_0, s3_1]), (4, .own 2 l4)] Q)) := by kernel_rfl
noncomputable def L_span_Add_2 (s : PSpecs) (t7 s3_0 s3_1 : AV) (l4 : List AV) (Q : AHeap) : Option PEnd := loopP (penv s) c_span_Add_2 [(3, .lp 3 0), (4, .ls 4), (7, .v t7)] [(3, .cells [s3_0, s3_1]), (4, .own 2 l4)] Q
theorem L_span_Add_2_fold (s : PSpecs) (t7 s3_0 s3_1 : AV) (l4 : List AV) (Q : AHeap) : loopP (penv s) c_span_Add_2 [(3, .lp 3 0), (4, .ls 4), (7, .v t7)] [(3, .cells [s3_0, s3_1]), (4, .own 2 l4)] Q = L_span_Add_2 s t7 s3_0 s3_1 l4 Q := rfl
theorem L_span_Add_2_eq (s : PSpecs) (t7 s3_0 s3_1 : AV) (l4 : List AV) (Q : AHeap) : L_span_Add_2 s t7 s3_0 s3_1 l4 Q = evalPK (callP (penv s)) (loopP (penv s)) c_span_Add_2 [(3, .lp 3 0), (4, .ls 4), (7, .v t7)] [(3, .cells [s3_0, s3_1]), (4, .own 2 l4)] Q (goX (fun τ ω Q => loopP (penv s) c_span_Add_2 τ ω Q) ret4) := loopP_body
abbrev X_span_Add_2_x2 (t7 s3_0 s3_1 : AV) (l4 : List AV) (Q : AHeap) : Option PEnd := some (.exit 2, [(3, .lp 3 0), (4, .ls 4), (7, .v t7)], [(3, .cells [s3_0, s3_1]), (4, .own 2 l4)], Q)
theorem p_span_Add_3 {β : Type} (call : CallF) (lp : PLoopF) (t7 s3_0 s3_1 : AV) (l4 : List AV) (Q : AHeap) (k : PK β) : evalPK call lp c_span_Add_3 [(3, .lp 3 0), (4, .ls 4), (7, .v t7)] [(3, .cells [s3_0, s3_1]), (4, .own 2 l4)] Q k = (
  pinB (elOk 2 (.agg [s3_0, s3_1])) <| 
  bnS (call 1000093 [.ow 2 l4, t7, .lt 2 [.agg [s3_0, s3_1]]] Q) fun w70_1 Q2 => bnL (owZ 2 w70_1) fun l3 => 
  k .ret [(4, .ls 4), (70, .ls 4), (69, .v (.lt 2 [.agg [s3_0, s3_1]])), (68, .v (.agg [s3_0, s3_1])), (67, .v t7), (66, .v undefA), (3, .lp 3 0), (4, .v undefA), (7, .v t7)] [(4, .own 2 l3), (3, .cells [s3_0, s3_1])] Q2) := by kernel_rfl
theorem p_span_Add_4 {β : Type} (call : CallF) (lp : PLoopF) (s3_0 s3_1 : AV) (l4 : List AV) (Q : AHeap) (k : PK β) : evalPK call lp c_span_Add_4 [(3, .lp 3 0), (4, .ls 4)] [(3, .cells [s3_0, s3_1]), (4, .own 2 l4)] Q k = (
  bnX (lp c_span_Add_2 [(3, .lp 3 0), (4, .ls 4), (7, .v (.int .i64 0))] [(3, .cells [s3_0, s3_1]), (4, .own 2 l4)] Q) (outX 2 (goC (evalPK call lp c_span_Add_3) k))) := by kernel_rfl
theorem g_span_Add {call : CallF} {lp : PLoopF} (v0 v1_0 v1_1 : AV) (Q : AHeap) : evalPK call lp c_span_Add [(0, .v v0), (1, .v (.agg [v1_0, v1_1]))] [] Q (retPK [.tmp 4] [.o 2]) = (
  bnC 2 (stC 2 (.agg [v1_0, v1_1])) fun s1 s2 => 
  bnS (call 91 [.agg [s1, s2]] Q) fun w9_3 Q4 => 
  bnP (unA .not (frz w9_3)) fun w10_5 => 
  cndS w10_5 (fun _ => bnS (call 92 [v0] Q4) fun w12_6 Q7 => bnL (owZ 2 w12_6) fun l8 => 
  some (.ow 2 l8, Q7))
  (fun _ => bnP (lenQ v0) fun w14_9 => 
  bnX (lp c_span_Add_1 [(3, .lp 3 0), (4, .ls 4), (13, .v v0), (14, .v w14_9), (15, .v (.int .i64 0))] [(3, .cells [s1, s2]), (4, .own 2 ([] : List AV))] Q4) (outX 0 (goC (evalPK call lp c_span_Add_4) (retPK [.tmp 4] [.o 2]))))) := by kernel_rfl
def f_span_Add {s : PSpecs} (hs : s.lookup 73 = none) (v0 v1_0 v1_1 : AV) (Q : AHeap) := (callP_fn (E := penv s) (f := 73) (fn := pf_span_Add) hs rfl [v0, .agg [v1_0, v1_1]] Q rfl).trans (g_span_Add (call := callP (penv s)) (lp := loopP (penv s)) v0 v1_0 v1_1 Q)
theorem g_span_one {call : CallF} {lp : PLoopF} (v0_0 v0_1 : AV) (Q : AHeap) : evalPK call lp c_span_one [(0, .v (.agg [v0_0, v0_1]))] [] Q (retPK [.tmp 2] [.n]) = (
  bnC 2 (stC 2 (.agg [v0_0, v0_1])) fun s1 s2 => 
  bnP (binA .geq s1 (.int .i64 1)) fun w5_3 => 
  bnP (gdQ w5_3 true (some s1)) fun w8_4 => 
  bnP (gdQ w5_3 true (some s2)) fun w10_5 => 
  bnP (gdQ w5_3 true (binA .leq w8_4 w10_5)) fun w11_6 => 
  bnP (pickA w5_3 w11_6 (.bool false)) fun w12_7 => 
  bnP (gdQ w12_7 true (some s2)) fun w15_8 => 
  bnP (gdQ w12_7 true (binA .leq w15_8 (.int .i64 1000000))) fun w16_9 => 
  bnP (pickA w12_7 w16_9 (.bool false)) fun w17_10 => 
  bnP (rcv false .n w17_10) fun r11 => some (r11, Q)) := by kernel_rfl
def f_span_one {s : PSpecs} (hs : s.lookup 91 = none) (v0_0 v0_1 : AV) (Q : AHeap) := (callP_fn (E := penv s) (f := 91) (fn := pf_span_one) hs rfl [.agg [v0_0, v0_1]] Q rfl).trans (g_span_one (call := callP (penv s)) (lp := loopP (penv s)) v0_0 v0_1 Q)
theorem g_log_gap_fits {call : CallF} {lp : PLoopF} (v0 v1_0 v1_1 v1_2 v1_3 v1_4 : AV) (Q : AHeap) : evalPK call lp c_log_gap_fits [(0, .v v0), (1, .v (.agg [v1_0, v1_1, v1_2, v1_3, v1_4]))] [] Q (retPK [.tmp 4] [.n]) = (
  bnC 0 (stC 0 v0) <| 
  bnC 5 (stC 5 (.agg [v1_0, v1_1, v1_2, v1_3, v1_4])) fun s1 s2 s3 s4 s5 => 
  bnP (binA .geq s3 s2) fun w9_6 => 
  bnP (gdQ w9_6 true (some s4)) fun w12_7 => 
  bnP (gdQ w9_6 true (binA .eql w12_7 (.str []))) fun w13_8 => 
  bnP (pickA w9_6 w13_8 (.bool false)) fun w14_9 => 
  bnP (gdQ w14_9 true (some s5)) fun w17_10 => 
  bnP (gdQ w14_9 true (binA .eql w17_10 (.int .i64 1))) fun w18_11 => 
  bnP (gdQ w14_9 true (some w18_11)) fun w19_12 => 
  bnP (gdQ w19_12 false (some s5)) fun w21_13 => 
  bnP (gdQ w19_12 false (binA .eql w21_13 (.int .i64 2))) fun w22_14 => 
  bnP (gdQ w14_9 true (pickA w19_12 (.bool true) w22_14)) fun w23_15 => 
  bnP (pickA w14_9 w23_15 (.bool false)) fun w24_16 => 
  bnP (rcv false .n w24_16) fun r17 => some (r17, Q)) := by kernel_rfl
def f_log_gap_fits {s : PSpecs} (hs : s.lookup 122 = none) (v0 v1_0 v1_1 v1_2 v1_3 v1_4 : AV) (Q : AHeap) := (callP_fn (E := penv s) (f := 122) (fn := pf_log_gap_fits) hs rfl [v0, .agg [v1_0, v1_1, v1_2, v1_3, v1_4]] Q rfl).trans (g_log_gap_fits (call := callP (penv s)) (lp := loopP (penv s)) v0 v1_0 v1_1 v1_2 v1_3 v1_4 Q)
theorem g_log_told_fits {call : CallF} {lp : PLoopF} (v0 v1_0 v1_1 v1_2 v1_3 v1_4 : AV) (Q : AHeap) : evalPK call lp c_log_told_fits [(0, .v v0), (1, .v (.agg [v1_0, v1_1, v1_2, v1_3, v1_4]))] [] Q (retPK [.tmp 4] [.n]) = (
  bnC 0 (stC 0 v0) <| 
  bnC 5 (stC 5 (.agg [v1_0, v1_1, v1_2, v1_3, v1_4])) fun s1 s2 s3 s4 s5 => 
  bnP (binA .eql s3 s2) fun w9_6 => 
  bnP (gdQ w9_6 true (some s4)) fun w12_7 => 
  bnP (gdQ w9_6 true (lensA w12_7)) fun w13_8 => 
  bnP (gdQ w9_6 true (binA .leq w13_8 (.int .i64 12))) fun w14_9 => 
  bnP (pickA w9_6 w14_9 (.bool false)) fun w15_10 => 
  bnP (gdQ w15_10 true (some s5)) fun w18_11 => 
  bnP (gdQ w15_10 true (binA .eql w18_11 (.int .i64 0))) fun w19_12 => 
  bnP (pickA w15_10 w19_12 (.bool false)) fun w20_13 => 
  bnP (rcv false .n w20_13) fun r14 => some (r14, Q)) := by kernel_rfl
def f_log_told_fits {s : PSpecs} (hs : s.lookup 123 = none) (v0 v1_0 v1_1 v1_2 v1_3 v1_4 : AV) (Q : AHeap) := (callP_fn (E := penv s) (f := 123) (fn := pf_log_told_fits) hs rfl [v0, .agg [v1_0, v1_1, v1_2, v1_3, v1_4]] Q rfl).trans (g_log_told_fits (call := callP (penv s)) (lp := loopP (penv s)) v0 v1_0 v1_1 v1_2 v1_3 v1_4 Q)
end Go.Proofs.Ytccgolmdhikdoaa.Pn
