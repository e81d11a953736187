/- Equations by values. Printed by mkpv.py of this repo. -/
import Derived.Test.YtmogepinpdibdaaPfd
import Derived.Test.YtmogepinpdibdaaPvE
namespace Go.Proofs.Ytmogepinpdibdaa.Pf
open Go.Ab
set_option maxRecDepth 100000
set_option linter.unusedVariables false
set_option linter.unusedSimpArgs false
set_option linter.defProp false
theorem p_pleachlaw18_FeedSays_0 {β : Type} (call : CallF) (lp : PLoopF) (t0 t5 t6 s3_0 s3_1 s3_2 s3_3 s3_4 s3_5 s3_6 s4_0 s4_1 s4_2 s4_3 s4_4 s4_5 s4_6 s7_0 s7_1 s7_2 s7_3 s7_4 s7_5 s7_6 s9_0 s9_1 s9_2 s9_3 s9_4 s9_5 s9_6 : AV) (Q : AHeap) (k : PK β) : evalPK call lp c_pleachlaw18_FeedSays_0 [(0, .v t0), (3, .lp 3 0), (4, .lp 4 0), (5, .v t5), (6, .v t6), (7, .lp 7 0), (9, .lp 9 0)] [(3, .cells [s3_0, s3_1, s3_2, s3_3, s3_4, s3_5, s3_6]), (4, .cells [s4_0, s4_1, s4_2, s4_3, s4_4, s4_5, s4_6]), (7, .cells [s7_0, s7_1, s7_2, s7_3, s7_4, s7_5, s7_6]), (9, .cells [s9_0, s9_1, s9_2, s9_3, s9_4, s9_5, s9_6])] Q k = (
  bnC 7 (stC 7 (.agg [s7_0, s7_1, s7_2, s7_3, s7_4, s7_5, s7_6])) fun s1 s2 s3 s4 s5 s6 s7 => 
  bnC 7 (stC 7 (.agg [s9_0, s9_1, s9_2, s9_3, s9_4, s9_5, s9_6])) fun s8 s9 s10 s11 s12 s13 s14 => 
  k .normal [(75, .v (.agg [s9_0, s9_1, s9_2, s9_3, s9_4, s9_5, s9_6])), (74, .v (.agg [s7_0, s7_1, s7_2, s7_3, s7_4, s7_5, s7_6])), (0, .v t0), (3, .lp 3 0), (4, .lp 4 0), (5, .v t5), (6, .v t6), (7, .lp 7 0), (9, .lp 9 0)] [(4, .cells [s8, s9, s10, s11, s12, s13, s14]), (3, .cells [s1, s2, s3, s4, s5, s6, s7]), (7, .cells [s7_0, s7_1, s7_2, s7_3, s7_4, s7_5, s7_6]), (9, .cells [s9_0, s9_1, s9_2, s9_3, s9_4, s9_5, s9_6])] Q) := by kernel_rfl
theorem p_pleachlaw18_FeedSays_1 {β : Type} (call : CallF) (lp : PLoopF) (t0 t5 t6 s3_0 s3_1 s3_2 s3_3 s3_4 s3_5 s3_6 s4_0 s4_1 s4_2 s4_3 s4_4 s4_5 s4_6 : AV) (Q : AHeap) (k : PK β) : evalPK call lp c_pleachlaw18_FeedSays_1 [(0, .v t0), (3, .lp 3 0), (4, .lp 4 0), (5, .v t5), (6, .v t6)] [(3, .cells [s3_0, s3_1, s3_2, s3_3, s3_4, s3_5, s3_6]), (4, .cells [s4_0, s4_1, s4_2, s4_3, s4_4, s4_5, s4_6])] Q k = (
  bnP (binA .add t6 (.int .i64 1)) fun w27_1 => 
  k .normal [(6, .v w27_1), (27, .v w27_1), (26, .v t6), (0, .v t0), (3, .lp 3 0), (4, .lp 4 0), (5, .v t5), (6, .v t6)] [(3, .cells [s3_0, s3_1, s3_2, s3_3, s3_4, s3_5, s3_6]), (4, .cells [s4_0, s4_1, s4_2, s4_3, s4_4, s4_5, s4_6])] Q) := by kernel_rfl
theorem p_pleachlaw18_FeedSays_2 {β : Type} (call : CallF) (lp : PLoopF) (t0 t5 t6 s3_0 s3_1 s3_2 s3_3 s3_4 s3_5 s3_6 s4_0 s4_1 s4_2 s4_3 s4_4 s4_5 s4_6 : AV) (Q : AHeap) (k : PK β) : evalPK call lp c_pleachlaw18_FeedSays_2 [(0, .v t0), (3, .lp 3 0), (4, .lp 4 0), (5, .v t5), (6, .v t6)] [(3, .cells [s3_0, s3_1, s3_2, s3_3, s3_4, s3_5, s3_6]), (4, .cells [s4_0, s4_1, s4_2, s4_3, s4_4, s4_5, s4_6])] Q k = (
  bnP (lenQ t0) fun w24_1 => 
  bnP (binA .lss t6 w24_1) fun w25_2 => 
  cndS w25_2 (fun _ => bnX (bnX (bnP (elQ 1 t0 t6) fun e3 => 
  bnP ((AV.cells e3)[0]?) fun w31_4 => 
  bnP (lensA w31_4) fun w32_5 => 
  bnP (binA .gtr w32_5 (.int .i64 40)) fun w33_6 => 
  cndS w33_6 (fun _ => some (.ret, [(2, .v (.bool true))], [], Q))
  (fun _ => bnP (elQ 1 t0 t6) fun e7 => 
  bnP ((AV.cells e7)[0]?) fun w39_8 => 
  bnS (call 26 [.agg [s3_0, s3_1, s3_2, s3_3, s3_4, s3_5, s3_6], w39_8] Q) fun w40_9 Q10 => 
  bnP (extA (frz w40_9) 0) fun w41_11 => 
  bnP (extA (frz w40_9) 1) fun w42_12 => 
  bnC 7 (stC 7 w41_11) fun s13 s14 s15 s16 s17 s18 s19 => 
  bnP (elQ 1 t0 t6) fun e20 => 
  bnP ((AV.cells e20)[0]?) fun w48_21 => 
  bnS (call 27 [.agg [s4_0, s4_1, s4_2, s4_3, s4_4, s4_5, s4_6], w48_21] Q10) fun w49_22 Q23 => 
  bnP (extA (frz w49_22) 0) fun w50_24 => 
  bnP (extA (frz w49_22) 1) fun w51_25 => 
  bnC 7 (stC 7 w50_24) fun s26 s27 s28 s29 s30 s31 s32 => 
  bnP (eqsA true .b w42_12 w51_25) fun w54_33 => 
  bnP (gdQ w54_33 false (some w42_12)) fun w56_34 => 
  bnP (gdQ w54_33 false (some t0)) fun w57_35 => 
  bnP (gdQ w54_33 false (some t6)) fun w58_36 => 
  bnP (gdQ w54_33 false (elQ 1 w57_35 w58_36)) fun e37 => 
  bnP (gdQ w54_33 false ((AV.cells e37)[0]?)) fun w60_38 => 
  bnP (gdQ w54_33 false (lensA w60_38)) fun w61_39 => 
  bnP (gdQ w54_33 false (binA .leq w61_39 (.int .i64 12))) fun w62_40 => 
  bnP (gdQ w54_33 false (eqsA true .b w56_34 w62_40)) fun w63_41 => 
  bnP (pickA w54_33 (.bool true) w63_41) fun w64_42 => 
  bnP (gdQ w64_42 false (some (.agg [s13, s14, s15, s16, s17, s18, s19]))) fun w66_43 => 
  bnP (gdQ w64_42 false (some (.agg [s26, s27, s28, s29, s30, s31, s32]))) fun w67_44 => 
  bnS (gdH w64_42 false (call 15 [w66_43, w67_44] Q23) Q23) fun w68_45 Q46 => 
  bnP (gdQ w64_42 false (unA .not (frz w68_45))) fun w69_47 => 
  bnP (pickA w64_42 (.bool true) w69_47) fun w70_48 => 
  cndS w70_48 (fun _ => some (.ret, [(2, .v (.bool false))], [], Q46))
  (fun _ => bnX (cndS w42_12 (fun _ => bnP (binA .add t5 (.int .i64 1)) fun w73_49 => 
  some (.normal, [(0, .v t0), (3, .lp 3 0), (4, .lp 4 0), (5, .v w73_49), (6, .v t6), (7, .lp 7 0), (9, .lp 9 0)], [(3, .cells [s3_0, s3_1, s3_2, s3_3, s3_4, s3_5, s3_6]), (4, .cells [s4_0, s4_1, s4_2, s4_3, s4_4, s4_5, s4_6]), (7, .cells [s13, s14, s15, s16, s17, s18, s19]), (9, .cells [s26, s27, s28, s29, s30, s31, s32])], Q46))
  (fun _ => some (.normal, [(0, .v t0), (3, .lp 3 0), (4, .lp 4 0), (5, .v t5), (6, .v t6), (7, .lp 7 0), (9, .lp 9 0)], [(3, .cells [s3_0, s3_1, s3_2, s3_3, s3_4, s3_5, s3_6]), (4, .cells [s4_0, s4_1, s4_2, s4_3, s4_4, s4_5, s4_6]), (7, .cells [s13, s14, s15, s16, s17, s18, s19]), (9, .cells [s26, s27, s28, s29, s30, s31, s32])], Q46)))
  (goC (evalPK call lp c_pleachlaw18_FeedSays_0) (finC [] [] [0, 3, 4, 5, 6] [(3, 3), (4, 4)] ret4)))))
  (outX 1 ret4))
  (goC (evalPK call lp c_pleachlaw18_FeedSays_1) (finC [] [] [0, 3, 4, 5, 6] [(3, 3), (4, 4)] k)))
  (fun _ => k (.exit 0) [(3, .lp 3 0), (5, .v t5)] [(3, .cells [s3_0, s3_1, s3_2, s3_3, s3_4, s3_5, s3_6])] Q)) := by kernel_rfl
noncomputable def L_pleachlaw18_FeedSays_2 (s : PSpecs) (t0 t5 t6 s3_0 s3_1 s3_2 s3_3 s3_4 s3_5 s3_6 s4_0 s4_1 s4_2 s4_3 s4_4 s4_5 s4_6 : AV) (Q : AHeap) : Option PEnd := loopP (penv s) c_pleachlaw18_FeedSays_2 [(0, .v t0), (3, .lp 3 0), (4, .lp 4 0), (5, .v t5), (6, .v t6)] [(3, .cells [s3_0, s3_1, s3_2, s3_3, s3_4, s3_5, s3_6]), (4, .cells [s4_0, s4_1, s4_2, s4_3, s4_4, s4_5, s4_6])] Q
theorem L_pleachlaw18_FeedSays_2_fold (s : PSpecs) (t0 t5 t6 s3_0 s3_1 s3_2 s3_3 s3_4 s3_5 s3_6 s4_0 s4_1 s4_2 s4_3 s4_4 s4_5 s4_6 : AV) (Q : AHeap) : loopP (penv s) c_pleachlaw18_FeedSays_2 [(0, .v t0), (3, .lp 3 0), (4, .lp 4 0), (5, .v t5), (6, .v t6)] [(3, .cells [s3_0, s3_1, s3_2, s3_3, s3_4, s3_5, s3_6]), (4, .cells [s4_0, s4_1, s4_2, s4_3, s4_4, s4_5, s4_6])] Q = L_pleachlaw18_FeedSays_2 s t0 t5 t6 s3_0 s3_1 s3_2 s3_3 s3_4 s3_5 s3_6 s4_0 s4_1 s4_2 s4_3 s4_4 s4_5 s4_6 Q := rfl
theorem L_pleachlaw18_FeedSays_2_eq (s : PSpecs) (t0 t5 t6 s3_0 s3_1 s3_2 s3_3 s3_4 s3_5 s3_6 s4_0 s4_1 s4_2 s4_3 s4_4 s4_5 s4_6 : AV) (Q : AHeap) : L_pleachlaw18_FeedSays_2 s t0 t5 t6 s3_0 s3_1 s3_2 s3_3 s3_4 s3_5 s3_6 s4_0 s4_1 s4_2 s4_3 s4_4 s4_5 s4_6 Q = evalPK (callP (penv s)) (loopP (penv s)) c_pleachlaw18_FeedSays_2 [(0, .v t0), (3, .lp 3 0), (4, .lp 4 0), (5, .v t5), (6, .v t6)] [(3, .cells [s3_0, s3_1, s3_2, s3_3, s3_4, s3_5, s3_6]), (4, .cells [s4_0, s4_1, s4_2, s4_3, s4_4, s4_5, s4_6])] Q (goX (fun τ ω Q => loopP (penv s) c_pleachlaw18_FeedSays_2 τ ω Q) ret4) := loopP_body
abbrev X_pleachlaw18_FeedSays_2_x0 (t5 s3_0 s3_1 s3_2 s3_3 s3_4 s3_5 s3_6 : AV) (Q : AHeap) : Option PEnd := some (.exit 0, [(3, .lp 3 0), (5, .v t5)], [(3, .cells [s3_0, s3_1, s3_2, s3_3, s3_4, s3_5, s3_6])], Q)
abbrev X_pleachlaw18_FeedSays_2_ret (t2 : AV) (Q : AHeap) : Option PEnd := some (.ret, [(2, .v t2)], [], Q)
theorem p_pleachlaw18_FeedSays_3 {β : Type} (call : CallF) (lp : PLoopF) (t5 s3_0 s3_1 s3_2 s3_3 s3_4 s3_5 s3_6 : AV) (Q : AHeap) (k : PK β) : evalPK call lp c_pleachlaw18_FeedSays_3 [(3, .lp 3 0), (5, .v t5)] [(3, .cells [s3_0, s3_1, s3_2, s3_3, s3_4, s3_5, s3_6])] Q k = (
  bnS (call 26 [.agg [.int .i64 1000000, .int .i64 999999, .nils, .nils, .nils, .int .i64 0, .int .i64 0], .str [120]] Q) fun w78_1 Q2 => 
  bnP (extA (frz w78_1) 0) fun w79_3 => 
  bnP (extA (frz w78_1) 1) fun w80_4 => 
  bnC 7 (stC 7 w79_3) fun s5 s6 s7 s8 s9 s10 s11 => 
  bnS (call 26 [.agg [s5, s6, s7, s8, s9, s10, s11], .str [120]] Q2) fun w83_12 Q13 => 
  bnP (extA (frz w83_12) 0) fun w84_14 => 
  bnP (extA (frz w83_12) 1) fun w85_15 => 
  bnC 7 (stC 7 w84_14) fun s16 s17 s18 s19 s20 s21 s22 => 
  bnP (lenQ s3_4) fun w88_23 => 
  bnP (binA .eql w88_23 t5) fun w90_24 => 
  bnP (gdQ w90_24 true (some w80_4)) fun w92_25 => 
  bnP (pickA w90_24 w92_25 (.bool false)) fun w93_26 => 
  bnP (gdQ w93_26 true (some w85_15)) fun w95_27 => 
  bnP (gdQ w93_26 true (unA .not w95_27)) fun w96_28 => 
  bnP (pickA w93_26 w96_28 (.bool false)) fun w97_29 => 
  bnP (gdQ w97_29 true (some s5)) fun w100_30 => 
  bnP (gdQ w97_29 true (binA .eql w100_30 (.int .i64 1000001))) fun w101_31 => 
  bnP (pickA w97_29 w101_31 (.bool false)) fun w102_32 => 
  k .ret [(2, .v w102_32), (102, .v w102_32), (101, .v w101_31), (100, .v w100_30), (99, .gd 98 true (.lp 11 0)), (98, .v w97_29), (97, .v w97_29), (96, .v w96_28), (95, .v w95_27), (94, .v w93_26), (93, .v w93_26), (92, .v w92_25), (91, .v w90_24), (90, .v w90_24), (89, .v t5), (88, .v w88_23), (87, .v s3_4), (86, .lp 3 4), (14, .v w85_15), (13, .lp 13 0), (85, .v w85_15), (84, .v w84_14), (81, .v (frz w83_12)), (83, .v (frz w83_12)), (82, .v (.agg [s5, s6, s7, s8, s9, s10, s11])), (12, .v w80_4), (11, .lp 11 0), (80, .v w80_4), (79, .v w79_3), (76, .v (frz w78_1)), (78, .v (frz w78_1)), (77, .v (.agg [.int .i64 1000000, .int .i64 999999, .nils, .nils, .nils, .int .i64 0, .int .i64 0])), (3, .lp 3 0), (5, .v t5)] [(13, .cells [s16, s17, s18, s19, s20, s21, s22]), (11, .cells [s5, s6, s7, s8, s9, s10, s11]), (3, .cells [s3_0, s3_1, s3_2, s3_3, s3_4, s3_5, s3_6])] Q13) := by kernel_rfl
theorem g_pleachlaw18_FeedSays {call : CallF} {lp : PLoopF} (v0 : AV) (Q : AHeap) : evalPK call lp c_pleachlaw18_FeedSays [(0, .v v0)] [] Q (retPK [.tmp 2] [.n]) = (
  bnS (call 13 [] Q) fun w15_1 Q2 => 
  bnP (unA .not (frz w15_1)) fun w16_3 => 
  cndS w16_3 (fun _ => some (.bool false, Q2))
  (fun _ => bnP (lenQ v0) fun w18_4 => 
  bnP (binA .gtr w18_4 (.int .i64 20)) fun w19_5 => 
  cndS w19_5 (fun _ => some (.bool true, Q2))
  (fun _ => bnX (lp c_pleachlaw18_FeedSays_2 [(0, .v v0), (3, .lp 3 0), (4, .lp 4 0), (5, .v (.int .i64 0)), (6, .v (.int .i64 0))] [(3, .cells [.int .i64 0, .int .i64 0, .nils, .nils, .nils, .int .i64 0, .int .i64 0]), (4, .cells [.int .i64 0, .int .i64 0, .nils, .nils, .nils, .int .i64 0, .int .i64 0])] Q2) (outX 0 (goC (evalPK call lp c_pleachlaw18_FeedSays_3) (retPK [.tmp 2] [.n])))))) := by kernel_rfl
def f_pleachlaw18_FeedSays {s : PSpecs} (hs : s.lookup 4 = none) (v0 : AV) (Q : AHeap) := (callP_fn (E := penv s) (f := 4) (fn := pf_pleachlaw18_FeedSays) hs rfl [v0] Q rfl).trans (g_pleachlaw18_FeedSays (call := callP (penv s)) (lp := loopP (penv s)) v0 Q)
theorem g_pleachref13_SameFeed {call : CallF} {lp : PLoopF} (v0_0 v0_1 v0_2 v0_3 v0_4 v0_5 v0_6 v1_0 v1_1 v1_2 v1_3 v1_4 v1_5 v1_6 : AV) (Q : AHeap) : evalPK call lp c_pleachref13_SameFeed [(0, .v (.agg [v0_0, v0_1, v0_2, v0_3, v0_4, v0_5, v0_6])), (1, .v (.agg [v1_0, v1_1, v1_2, v1_3, v1_4, v1_5, v1_6]))] [] Q (retPK [.tmp 4] [.n]) = (
  bnC 7 (stC 7 (.agg [v0_0, v0_1, v0_2, v0_3, v0_4, v0_5, v0_6])) fun s1 s2 s3 s4 s5 s6 s7 => 
  bnC 7 (stC 7 (.agg [v1_0, v1_1, v1_2, v1_3, v1_4, v1_5, v1_6])) fun s8 s9 s10 s11 s12 s13 s14 => 
  bnP (binA .eql s1 s8) fun w9_15 => 
  bnP (gdQ w9_15 true (some s2)) fun w12_16 => 
  bnP (gdQ w9_15 true (some s9)) fun w14_17 => 
  bnP (gdQ w9_15 true (binA .eql w12_16 w14_17)) fun w15_18 => 
  bnP (pickA w9_15 w15_18 (.bool false)) fun w16_19 => 
  bnP (gdQ w16_19 true (some s3)) fun w19_20 => 
  bnP (gdQ w16_19 true (some s10)) fun w21_21 => 
  bnS (gdH w16_19 true (call 35 [w19_20, w21_21] Q) Q) fun w22_22 Q23 => 
  bnP (pickA w16_19 (frz w22_22) (.bool false)) fun w23_24 => 
  bnP (gdQ w23_24 true (some s4)) fun w26_25 => 
  bnP (gdQ w23_24 true (some s11)) fun w28_26 => 
  bnS (gdH w23_24 true (call 35 [w26_25, w28_26] Q23) Q23) fun w29_27 Q28 => 
  bnP (pickA w23_24 (frz w29_27) (.bool false)) fun w30_29 => 
  bnP (gdQ w30_29 true (some s5)) fun w33_30 => 
  bnP (gdQ w30_29 true (some s12)) fun w35_31 => 
  bnS (gdH w30_29 true (call 16 [w33_30, w35_31] Q28) Q28) fun w36_32 Q33 => 
  bnP (pickA w30_29 (frz w36_32) (.bool false)) fun w37_34 => 
  bnP (gdQ w37_34 true (some (.agg [s6, s7]))) fun w40_35 => 
  bnP (gdQ w37_34 true (some (.agg [s13, s14]))) fun w42_36 => 
  bnP (gdQ w37_34 true (eqsA false (.st [(0, 1, .i), (1, 1, .i)]) w40_35 w42_36)) fun w43_37 => 
  bnP (pickA w37_34 w43_37 (.bool false)) fun w44_38 => 
  bnP (rcv false .n w44_38) fun r39 => some (r39, Q33)) := by kernel_rfl
def f_pleachref13_SameFeed {s : PSpecs} (hs : s.lookup 15 = none) (v0_0 v0_1 v0_2 v0_3 v0_4 v0_5 v0_6 v1_0 v1_1 v1_2 v1_3 v1_4 v1_5 v1_6 : AV) (Q : AHeap) := (callP_fn (E := penv s) (f := 15) (fn := pf_pleachref13_SameFeed) hs rfl [.agg [v0_0, v0_1, v0_2, v0_3, v0_4, v0_5, v0_6], .agg [v1_0, v1_1, v1_2, v1_3, v1_4, v1_5, v1_6]] Q rfl).trans (g_pleachref13_SameFeed (call := callP (penv s)) (lp := loopP (penv s)) v0_0 v0_1 v0_2 v0_3 v0_4 v0_5 v0_6 v1_0 v1_1 v1_2 v1_3 v1_4 v1_5 v1_6 Q)
theorem p_pleachref13_SameEvents_0 {β : Type} (call : CallF) (lp : PLoopF) (t0 t1 t5 : AV) (Q : AHeap) (k : PK β) : evalPK call lp c_pleachref13_SameEvents_0 [(0, .v t0), (1, .v t1), (5, .v t5)] [] Q k = (
  bnP (lenQ t0) fun w13_1 => 
  bnP (binA .lss t5 w13_1) fun w14_2 => 
  cndS w14_2 (fun _ => bnP (elQ 5 t0 t5) fun e3 => 
  bnC 5 (cut (AV.cells e3) 0 5) fun c20_4 c20_5 c20_6 c20_7 c20_8 => 
  bnP (elQ 5 t1 t5) fun e9 => 
  bnC 5 (cut (AV.cells e9) 0 5) fun c24_10 c24_11 c24_12 c24_13 c24_14 => 
  bnP (eqsA true (.st [(0, 1, .i), (1, 1, .i), (2, 1, .i), (3, 1, .s), (4, 1, .i)]) (.agg [c20_4, c20_5, c20_6, c20_7, c20_8]) (.agg [c24_10, c24_11, c24_12, c24_13, c24_14])) fun w25_15 => 
  cndS w25_15 (fun _ => k .ret [(4, .v (.bool false))] [] Q)
  (fun _ => bnP (binA .add t5 (.int .i64 1)) fun w16_16 => 
  k .normal [(0, .v t0), (1, .v t1), (5, .v w16_16)] [] Q))
  (fun _ => k (.exit 0) [] [] Q)) := by kernel_rfl
noncomputable def L_pleachref13_SameEvents_0 (s : PSpecs) (t0 t1 t5 : AV) (Q : AHeap) : Option PEnd := loopP (penv s) c_pleachref13_SameEvents_0 [(0, .v t0), (1, .v t1), (5, .v t5)] [] Q
theorem L_pleachref13_SameEvents_0_fold (s : PSpecs) (t0 t1 t5 : AV) (Q : AHeap) : loopP (penv s) c_pleachref13_SameEvents_0 [(0, .v t0), (1, .v t1), (5, .v t5)] [] Q = L_pleachref13_SameEvents_0 s t0 t1 t5 Q := rfl
theorem L_pleachref13_SameEvents_0_eq (s : PSpecs) (t0 t1 t5 : AV) (Q : AHeap) : L_pleachref13_SameEvents_0 s t0 t1 t5 Q = evalPK (callP (penv s)) (loopP (penv s)) c_pleachref13_SameEvents_0 [(0, .v t0), (1, .v t1), (5, .v t5)] [] Q (goX (fun τ ω Q => loopP (penv s) c_pleachref13_SameEvents_0 τ ω Q) ret4) := loopP_body
abbrev X_pleachref13_SameEvents_0_x0 (Q : AHeap) : Option PEnd := some (.exit 0, [], [], Q)
abbrev X_pleachref13_SameEvents_0_ret (t4 : AV) (Q : AHeap) : Option PEnd := some (.ret, [(4, .v t4)], [], Q)
theorem p_pleachref13_SameEvents_1 {β : Type} (call : CallF) (lp : PLoopF) (Q : AHeap) (k : PK β) : evalPK call lp c_pleachref13_SameEvents_1 [] [] Q k = (
  k .ret [(4, .v (.bool true))] [] Q) := by kernel_rfl
theorem g_pleachref13_SameEvents {call : CallF} {lp : PLoopF} (v0 v1 : AV) (Q : AHeap) : evalPK call lp c_pleachref13_SameEvents [(0, .v v0), (1, .v v1)] [] Q (retPK [.tmp 4] [.n]) = (
  bnP (lenQ v0) fun w7_1 => 
  bnP (lenQ v1) fun w9_2 => 
  bnP (binA .neq w7_1 w9_2) fun w10_3 => 
  cndS w10_3 (fun _ => some (.bool false, Q))
  (fun _ => bnX (lp c_pleachref13_SameEvents_0 [(0, .v v0), (1, .v v1), (5, .v (.int .i64 0))] [] Q) (outX 0 (goC (evalPK call lp c_pleachref13_SameEvents_1) (retPK [.tmp 4] [.n]))))) := by kernel_rfl
def f_pleachref13_SameEvents {s : PSpecs} (hs : s.lookup 16 = none) (v0 v1 : AV) (Q : AHeap) := (callP_fn (E := penv s) (f := 16) (fn := pf_pleachref13_SameEvents) hs rfl [v0, v1] Q rfl).trans (g_pleachref13_SameEvents (call := callP (penv s)) (lp := loopP (penv s)) v0 v1 Q)
theorem g_feed_Say {call : CallF} {lp : PLoopF} (v0_0 v0_1 v0_2 v0_3 v0_4 v0_5 v0_6 v1 : AV) (Q : AHeap) : evalPK call lp c_feed_Say [(0, .v (.agg [v0_0, v0_1, v0_2, v0_3, v0_4, v0_5, v0_6])), (1, .v v1)] [] Q (retPK [.cell 4 (some 7), .tmp 5] [.n, .n]) = (
  bnC 7 (stC 7 (.agg [v0_0, v0_1, v0_2, v0_3, v0_4, v0_5, v0_6])) fun s1 s2 s3 s4 s5 s6 s7 => 
  bnS (call 37 [.agg [s1, s2, s3, s4, s5, s6, s7]] Q) fun w8_8 Q9 => 
  bnC 7 (stC 7 (frz w8_8)) fun s10 s11 s12 s13 s14 s15 s16 => 
  bnP (mxiA [s10, .int .i64 1]) fun w11_17 => 
  bnP (lensA v1) fun w13_18 => 
  bnP (binA .gtr w13_18 (.int .i64 12)) fun w14_19 => 
  bnP (gdQ w14_19 false (some w11_17)) fun w16_20 => 
  bnP (gdQ w14_19 false (binA .gtr w16_20 (.int .i64 1000000))) fun w17_21 => 
  bnP (pickA w14_19 (.bool true) w17_21) fun w18_22 => 
  cndS w18_22 (fun _ => bnC 7 (stC 7 (.agg [s10, s11, s12, s13, s14, s15, s16])) fun s23 s24 s25 s26 s27 s28 s29 => 
  some (.tup [.agg [s23, s24, s25, s26, s27, s28, s29], .bool false], Q9))
  (fun _ => bnC 2 (fillP [.int .i64 0, .str []] [(0, 1, w11_17), (1, 1, v1)]) fun c29_30 c29_31 => 
  bnS (call 45 [s14, w11_17, v1] Q9) fun w24_32 Q33 => 
  bnS (call 46 [s12, .agg [c29_30, c29_31]] Q33) fun w30_34 Q35 => 
  bnC 1 (stC 1 (frz w24_32)) fun s36 => 
  bnC 1 (stC 1 (frz w30_34)) fun s37 => 
  bnP (binA .add w11_17 (.int .i64 1)) fun w35_38 => 
  bnC 1 (stC 1 w11_17) fun s39 => 
  bnC 1 (stC 1 w35_38) fun s40 => 
  bnC 7 (stC 7 (.agg [s40, s39, s37, s13, s36, s15, s16])) fun s41 s42 s43 s44 s45 s46 s47 => 
  some (.tup [.agg [s41, s42, s43, s44, s45, s46, s47], .bool true], Q35))) := by kernel_rfl
def f_feed_Say {s : PSpecs} (hs : s.lookup 26 = none) (v0_0 v0_1 v0_2 v0_3 v0_4 v0_5 v0_6 v1 : AV) (Q : AHeap) := (callP_fn (E := penv s) (f := 26) (fn := pf_feed_Say) hs rfl [.agg [v0_0, v0_1, v0_2, v0_3, v0_4, v0_5, v0_6], v1] Q rfl).trans (g_feed_Say (call := callP (penv s)) (lp := loopP (penv s)) v0_0 v0_1 v0_2 v0_3 v0_4 v0_5 v0_6 v1 Q)
theorem g_pleachref13_Say {call : CallF} {lp : PLoopF} (v0_0 v0_1 v0_2 v0_3 v0_4 v0_5 v0_6 v1 : AV) (Q : AHeap) : evalPK call lp c_pleachref13_Say [(0, .v (.agg [v0_0, v0_1, v0_2, v0_3, v0_4, v0_5, v0_6])), (1, .v v1)] [] Q (retPK [.cell 4 (some 7), .tmp 5] [.n, .n]) = (
  bnC 7 (stC 7 (.agg [v0_0, v0_1, v0_2, v0_3, v0_4, v0_5, v0_6])) fun s1 s2 s3 s4 s5 s6 s7 => 
  bnP (mxiA [s1, .int .i64 1]) fun w9_8 => 
  bnP (lensA v1) fun w11_9 => 
  bnP (binA .gtr w11_9 (.int .i64 12)) fun w12_10 => 
  bnP (gdQ w12_10 false (some w9_8)) fun w14_11 => 
  bnP (gdQ w12_10 false (binA .gtr w14_11 (.int .i64 1000000))) fun w15_12 => 
  bnP (pickA w12_10 (.bool true) w15_12) fun w16_13 => 
  cndS w16_13 (fun _ => bnC 7 (stC 7 (.agg [s1, s2, s3, s4, s5, s6, s7])) fun s14 s15 s16 s17 s18 s19 s20 => 
  some (.tup [.agg [s14, s15, s16, s17, s18, s19, s20], .bool false], Q))
  (fun _ => bnC 2 (fillP [.int .i64 0, .str []] [(0, 1, w9_8), (1, 1, v1)]) fun c27_21 c27_22 => 
  bnS (call 47 [s5, w9_8, v1] Q) fun w22_23 Q24 => 
  bnS (call 48 [s3, .agg [c27_21, c27_22]] Q24) fun w28_25 Q26 => 
  bnC 1 (stC 1 (frz w22_23)) fun s27 => 
  bnC 1 (stC 1 (frz w28_25)) fun s28 => 
  bnP (binA .add w9_8 (.int .i64 1)) fun w33_29 => 
  bnC 1 (stC 1 w9_8) fun s30 => 
  bnC 1 (stC 1 w33_29) fun s31 => 
  bnC 7 (stC 7 (.agg [s31, s30, s28, s4, s27, s6, s7])) fun s32 s33 s34 s35 s36 s37 s38 => 
  some (.tup [.agg [s32, s33, s34, s35, s36, s37, s38], .bool true], Q26))) := by kernel_rfl
def f_pleachref13_Say {s : PSpecs} (hs : s.lookup 27 = none) (v0_0 v0_1 v0_2 v0_3 v0_4 v0_5 v0_6 v1 : AV) (Q : AHeap) := (callP_fn (E := penv s) (f := 27) (fn := pf_pleachref13_Say) hs rfl [.agg [v0_0, v0_1, v0_2, v0_3, v0_4, v0_5, v0_6], v1] Q rfl).trans (g_pleachref13_Say (call := callP (penv s)) (lp := loopP (penv s)) v0_0 v0_1 v0_2 v0_3 v0_4 v0_5 v0_6 v1 Q)
theorem p_pleachref13_SameItems_0 {β : Type} (call : CallF) (lp : PLoopF) (t0 t1 t5 : AV) (Q : AHeap) (k : PK β) : evalPK call lp c_pleachref13_SameItems_0 [(0, .v t0), (1, .v t1), (5, .v t5)] [] Q k = (
  bnP (lenQ t0) fun w13_1 => 
  bnP (binA .lss t5 w13_1) fun w14_2 => 
  cndS w14_2 (fun _ => bnP (elQ 2 t0 t5) fun e3 => 
  bnC 2 (cut (AV.cells e3) 0 2) fun c20_4 c20_5 => 
  bnP (elQ 2 t1 t5) fun e6 => 
  bnC 2 (cut (AV.cells e6) 0 2) fun c24_7 c24_8 => 
  bnP (eqsA true (.st [(0, 1, .i), (1, 1, .s)]) (.agg [c20_4, c20_5]) (.agg [c24_7, c24_8])) fun w25_9 => 
  cndS w25_9 (fun _ => k .ret [(4, .v (.bool false))] [] Q)
  (fun _ => bnP (binA .add t5 (.int .i64 1)) fun w16_10 => 
  k .normal [(0, .v t0), (1, .v t1), (5, .v w16_10)] [] Q))
  (fun _ => k (.exit 0) [] [] Q)) := by kernel_rfl
noncomputable def L_pleachref13_SameItems_0 (s : PSpecs) (t0 t1 t5 : AV) (Q : AHeap) : Option PEnd := loopP (penv s) c_pleachref13_SameItems_0 [(0, .v t0), (1, .v t1), (5, .v t5)] [] Q
theorem L_pleachref13_SameItems_0_fold (s : PSpecs) (t0 t1 t5 : AV) (Q : AHeap) : loopP (penv s) c_pleachref13_SameItems_0 [(0, .v t0), (1, .v t1), (5, .v t5)] [] Q = L_pleachref13_SameItems_0 s t0 t1 t5 Q := rfl
theorem L_pleachref13_SameItems_0_eq (s : PSpecs) (t0 t1 t5 : AV) (Q : AHeap) : L_pleachref13_SameItems_0 s t0 t1 t5 Q = evalPK (callP (penv s)) (loopP (penv s)) c_pleachref13_SameItems_0 [(0, .v t0), (1, .v t1), (5, .v t5)] [] Q (goX (fun τ ω Q => loopP (penv s) c_pleachref13_SameItems_0 τ ω Q) ret4) := loopP_body
abbrev X_pleachref13_SameItems_0_x0 (Q : AHeap) : Option PEnd := some (.exit 0, [], [], Q)
abbrev X_pleachref13_SameItems_0_ret (t4 : AV) (Q : AHeap) : Option PEnd := some (.ret, [(4, .v t4)], [], Q)
theorem p_pleachref13_SameItems_1 {β : Type} (call : CallF) (lp : PLoopF) (Q : AHeap) (k : PK β) : evalPK call lp c_pleachref13_SameItems_1 [] [] Q k = (
  k .ret [(4, .v (.bool true))] [] Q) := by kernel_rfl
theorem g_pleachref13_SameItems {call : CallF} {lp : PLoopF} (v0 v1 : AV) (Q : AHeap) : evalPK call lp c_pleachref13_SameItems [(0, .v v0), (1, .v v1)] [] Q (retPK [.tmp 4] [.n]) = (
  bnP (lenQ v0) fun w7_1 => 
  bnP (lenQ v1) fun w9_2 => 
  bnP (binA .neq w7_1 w9_2) fun w10_3 => 
  cndS w10_3 (fun _ => some (.bool false, Q))
  (fun _ => bnX (lp c_pleachref13_SameItems_0 [(0, .v v0), (1, .v v1), (5, .v (.int .i64 0))] [] Q) (outX 0 (goC (evalPK call lp c_pleachref13_SameItems_1) (retPK [.tmp 4] [.n]))))) := by kernel_rfl
def f_pleachref13_SameItems {s : PSpecs} (hs : s.lookup 35 = none) (v0 v1 : AV) (Q : AHeap) := (callP_fn (E := penv s) (f := 35) (fn := pf_pleachref13_SameItems) hs rfl [v0, v1] Q rfl).trans (g_pleachref13_SameItems (call := callP (penv s)) (lp := loopP (penv s)) v0 v1 Q)
theorem g_feed_twin {call : CallF} {lp : PLoopF} (v0_0 v0_1 v0_2 v0_3 v0_4 v0_5 v0_6 : AV) (Q : AHeap) : evalPK call lp c_feed_twin [(0, .v (.agg [v0_0, v0_1, v0_2, v0_3, v0_4, v0_5, v0_6]))] [] Q (retPK [.cell 2 (some 7)] [.n]) = (
  bnC 7 (stC 7 (.agg [v0_0, v0_1, v0_2, v0_3, v0_4, v0_5, v0_6])) fun s1 s2 s3 s4 s5 s6 s7 => 
  bnS (call 56 [s3] Q) fun w5_8 Q9 => 
  bnS (call 56 [s4] Q9) fun w8_10 Q11 => 
  bnS (call 36 [s5] Q11) fun w11_12 Q13 => 
  bnC 1 (stC 1 (frz w5_8)) fun s14 => 
  bnC 1 (stC 1 (frz w8_10)) fun s15 => 
  bnC 1 (stC 1 (frz w11_12)) fun s16 => 
  bnC 7 (stC 7 (.agg [s1, s2, s14, s15, s16, s6, s7])) fun s17 s18 s19 s20 s21 s22 s23 => 
  some (.agg [s17, s18, s19, s20, s21, s22, s23], Q13)) := by kernel_rfl
def f_feed_twin {s : PSpecs} (hs : s.lookup 37 = none) (v0_0 v0_1 v0_2 v0_3 v0_4 v0_5 v0_6 : AV) (Q : AHeap) := (callP_fn (E := penv s) (f := 37) (fn := pf_feed_twin) hs rfl [.agg [v0_0, v0_1, v0_2, v0_3, v0_4, v0_5, v0_6]] Q rfl).trans (g_feed_twin (call := callP (penv s)) (lp := loopP (penv s)) v0_0 v0_1 v0_2 v0_3 v0_4 v0_5 v0_6 Q)
theorem g_log_Tell {call : CallF} {lp : PLoopF} (v0 v1 v2 : AV) (Q : AHeap) : evalPK call lp c_log_Tell [(0, .v v0), (1, .v v1), (2, .v v2)] [] Q (retPK [.tmp 6] [.o 5]) = (
  bnS (call 36 [v0] Q) fun w8_1 Q2 => bnL (owZ 5 w8_1) fun l3 => 
  bnC 5 (fillP [.int .i64 0, .int .i64 0, .int .i64 0, .str [], .int .i64 0] [(0, 1, .int .i64 1), (1, 1, v1), (2, 1, v1), (3, 1, v2)]) fun c12_4 c12_5 c12_6 c12_7 c12_8 => 
  pinB (elOk 5 (.agg [c12_4, c12_5, c12_6, c12_7, c12_8])) <| 
  pinB (room 48 ((l3 : List AV).length + (([.agg [c12_4, c12_5, c12_6, c12_7, c12_8]] : List AV) : List AV).length)) <| 
  some (.ow 5 (l3 ++ ([.agg [c12_4, c12_5, c12_6, c12_7, c12_8]] : List AV)), Q2)) := by kernel_rfl
def f_log_Tell {s : PSpecs} (hs : s.lookup 45 = none) (v0 v1 v2 : AV) (Q : AHeap) := (callP_fn (E := penv s) (f := 45) (fn := pf_log_Tell) hs rfl [v0, v1, v2] Q rfl).trans (g_log_Tell (call := callP (penv s)) (lp := loopP (penv s)) v0 v1 v2 Q)
theorem g_ring_Add {call : CallF} {lp : PLoopF} (v0 v1_0 v1_1 : AV) (Q : AHeap) : evalPK call lp c_ring_Add [(0, .v v0), (1, .v (.agg [v1_0, v1_1]))] [] Q (retPK [.tmp 4] [.o 2]) = (
  bnC 2 (stC 2 (.agg [v1_0, v1_1])) fun s1 s2 => 
  bnS (call 56 [v0] Q) fun w7_3 Q4 => bnL (owZ 2 w7_3) fun l5 => 
  bnP (lenQ v0) fun w9_6 => 
  bnP (binA .gtr w9_6 (.int .i64 0)) fun w10_7 => 
  bnP (gdQ w10_7 true (some s1)) fun w13_8 => 
  bnP (gdQ w10_7 true (some v0)) fun w14_9 => 
  bnP (gdQ w10_7 true (some v0)) fun w15_10 => 
  bnP (gdQ w10_7 true (lenQ w15_10)) fun w16_11 => 
  bnP (gdQ w10_7 true (binA .sub w16_11 (.int .i64 1))) fun w17_12 => 
  bnP (gdQ w10_7 true (elQ 2 w14_9 w17_12)) fun e13 => 
  bnP (gdQ w10_7 true ((AV.cells e13)[0]?)) fun w20_14 => 
  bnP (gdQ w10_7 true (binA .leq w13_8 w20_14)) fun w21_15 => 
  bnP (pickA w10_7 w21_15 (.bool false)) fun w22_16 => 
  cndS w22_16 (fun _ => some (.ow 2 l5, Q4))
  (fun _ => pinB (elOk 2 (.agg [s1, s2])) <| 
  pinB (room 24 ((l5 : List AV).length + (([.agg [s1, s2]] : List AV) : List AV).length)) <| 
  bnP (binA .sub (.int .i64 (((l5 ++ ([.agg [s1, s2]] : List AV)) : List AV).length : Nat)) (.int .i64 6)) fun w31_17 => 
  bnP (mxiA [w31_17, .int .i64 0]) fun w32_18 => 
  bnP (slcQ 2 (.fz 2 (l5 ++ ([.agg [s1, s2]] : List AV))) (some w32_18) none) fun w33_19 => 
  bnS (call 56 [w33_19] Q4) fun w34_20 Q21 => bnL (owZ 2 w34_20) fun l22 => 
  some (.ow 2 l22, Q21))) := by kernel_rfl
def f_ring_Add {s : PSpecs} (hs : s.lookup 46 = none) (v0 v1_0 v1_1 : AV) (Q : AHeap) := (callP_fn (E := penv s) (f := 46) (fn := pf_ring_Add) hs rfl [v0, .agg [v1_0, v1_1]] Q rfl).trans (g_ring_Add (call := callP (penv s)) (lp := loopP (penv s)) v0 v1_0 v1_1 Q)
theorem g_pleachref13_Tell {call : CallF} {lp : PLoopF} (v0 v1 v2 : AV) (Q : AHeap) : evalPK call lp c_pleachref13_Tell [(0, .v v0), (1, .v v1), (2, .v v2)] [] Q (retPK [.tmp 6] [.o 5]) = (
  bnL (srcT [] 5 (.v v0)) fun l1 => 
  pinB (room 48 ((([] : List AV) : List AV).length + (l1 : List AV).length)) <| 
  bnC 5 (fillP [.int .i64 0, .int .i64 0, .int .i64 0, .str [], .int .i64 0] [(0, 1, .int .i64 1), (1, 1, v1), (2, 1, v1), (3, 1, v2)]) fun c13_2 c13_3 c13_4 c13_5 c13_6 => 
  pinB (elOk 5 (.agg [c13_2, c13_3, c13_4, c13_5, c13_6])) <| 
  pinB (room 48 (((([] : List AV) ++ l1) : List AV).length + (([.agg [c13_2, c13_3, c13_4, c13_5, c13_6]] : List AV) : List AV).length)) <| 
  some (.ow 5 ((([] : List AV) ++ l1) ++ ([.agg [c13_2, c13_3, c13_4, c13_5, c13_6]] : List AV)), Q)) := by kernel_rfl
def f_pleachref13_Tell {s : PSpecs} (hs : s.lookup 47 = none) (v0 v1 v2 : AV) (Q : AHeap) := (callP_fn (E := penv s) (f := 47) (fn := pf_pleachref13_Tell) hs rfl [v0, v1, v2] Q rfl).trans (g_pleachref13_Tell (call := callP (penv s)) (lp := loopP (penv s)) v0 v1 v2 Q)
theorem p_pleachref13_AddRing_0 {β : Type} (call : CallF) (lp : PLoopF) (t5 : AV) (Q : AHeap) (k : PK β) : evalPK call lp c_pleachref13_AddRing_0 [(5, .v t5)] [] Q k = (
  k .ret [(4, .v t5), (34, .v t5), (5, .v t5)] [] Q) := by kernel_rfl
theorem g_pleachref13_AddRing {call : CallF} {lp : PLoopF} (v0 v1_0 v1_1 : AV) (Q : AHeap) : evalPK call lp c_pleachref13_AddRing [(0, .v v0), (1, .v (.agg [v1_0, v1_1]))] [] Q (retPK [.tmp 4] [.f 2]) = (
  bnC 2 (stC 2 (.agg [v1_0, v1_1])) fun s1 s2 => 
  bnL (srcT [] 2 (.v v0)) fun l3 => 
  pinB (room 24 ((([] : List AV) : List AV).length + (l3 : List AV).length)) <| 
  bnP (lenQ v0) fun w10_4 => 
  bnP (binA .gtr w10_4 (.int .i64 0)) fun w11_5 => 
  bnP (gdQ w11_5 true (some v0)) fun w13_6 => 
  bnP (gdQ w11_5 true (some v0)) fun w14_7 => 
  bnP (gdQ w11_5 true (lenQ w14_7)) fun w15_8 => 
  bnP (gdQ w11_5 true (binA .sub w15_8 (.int .i64 1))) fun w16_9 => 
  bnP (gdQ w11_5 true (elQ 2 w13_6 w16_9)) fun e10 => 
  bnP (gdQ w11_5 true ((AV.cells e10)[0]?)) fun w19_11 => 
  bnP (gdQ w11_5 true (some s1)) fun w21_12 => 
  bnP (gdQ w11_5 true (binA .geq w19_11 w21_12)) fun w22_13 => 
  bnP (pickA w11_5 w22_13 (.bool false)) fun w23_14 => 
  cndS w23_14 (fun _ => some (.fz 2 (([] : List AV) ++ l3), Q))
  (fun _ => pinB (elOk 2 (.agg [s1, s2])) <| 
  pinB (room 24 (((([] : List AV) ++ l3) : List AV).length + (([.agg [s1, s2]] : List AV) : List AV).length)) <| 
  bnX (bnP (binA .gtr (.int .i64 ((((([] : List AV) ++ l3) ++ ([.agg [s1, s2]] : List AV)) : List AV).length : Nat)) (.int .i64 6)) fun w31_15 => 
  cndS w31_15 (fun _ => bnP (slcQ 2 (.fz 2 ((([] : List AV) ++ l3) ++ ([.agg [s1, s2]] : List AV))) (some (.int .i64 1)) none) fun w33_16 => 
  some (.normal, [(5, .v w33_16)], [], Q))
  (fun _ => some (.normal, [(5, .v (.fz 2 ((([] : List AV) ++ l3) ++ ([.agg [s1, s2]] : List AV))))], [], Q)))
  (goC (evalPK call lp c_pleachref13_AddRing_0) (retPK [.tmp 4] [.f 2])))) := by kernel_rfl
def f_pleachref13_AddRing {s : PSpecs} (hs : s.lookup 48 = none) (v0 v1_0 v1_1 : AV) (Q : AHeap) := (callP_fn (E := penv s) (f := 48) (fn := pf_pleachref13_AddRing) hs rfl [v0, .agg [v1_0, v1_1]] Q rfl).trans (g_pleachref13_AddRing (call := callP (penv s)) (lp := loopP (penv s)) v0 v1_0 v1_1 Q)
end Go.Proofs.Ytmogepinpdibdaa.Pf
