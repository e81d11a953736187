/- Equations by values. Printed by mkpv.py of this repo. -/
import Derived.Test.YtccgolmdhikdoaaPnd
import Derived.Test.YtccgolmdhikdoaaPvE
namespace Go.Proofs.Ytccgolmdhikdoaa.Pn
open Go.Ab
set_option maxRecDepth 100000
set_option linter.unusedVariables false
set_option linter.unusedSimpArgs false
set_option linter.defProp false
theorem p_pleachlaw17_NakKept_0 {β : Type} (call : CallF) (lp : PLoopF) (t6 t8 t9 t10 t11 t12 t13 t14 s5_0 s5_1 s5_2 s5_3 s5_4 s5_5 s5_6 s7_0 s7_1 s7_2 s7_3 s7_4 s7_5 s7_6 : AV) (Q : AHeap) (k : PK β) : evalPK call lp c_pleachlaw17_NakKept_0 [(5, .lp 5 0), (6, .v t6), (7, .lp 7 0), (8, .v t8), (9, .v t9), (10, .v t10), (11, .v t11), (12, .v t12), (13, .v t13), (14, .v t14)] [(5, .cells [s5_0, s5_1, s5_2, s5_3, s5_4, s5_5, s5_6]), (7, .cells [s7_0, s7_1, s7_2, s7_3, s7_4, s7_5, s7_6])] Q k = (
  bnP (lenQ s7_4) fun w90_1 => 
  bnP (binA .lss t14 w90_1) fun w91_2 => 
  cndS w91_2 (fun _ => bnP (elQ 5 s7_4 t14) fun e3 => 
  bnC 5 (cut (AV.cells e3) 0 5) fun c98_4 c98_5 c98_6 c98_7 c98_8 => 
  bnC 5 (stC 5 (.agg [c98_4, c98_5, c98_6, c98_7, c98_8])) fun s9 s10 s11 s12 s13 => 
  bnP (gdQ t12 false (some s9)) fun w102_14 => 
  bnP (gdQ t12 false (binA .eql w102_14 (.int .i64 1))) fun w103_15 => 
  bnP (gdQ t12 false (some w103_15)) fun w104_16 => 
  bnP (gdQ w104_16 true (some s10)) fun w106_17 => 
  bnP (gdQ w104_16 true (some t9)) fun w107_18 => 
  bnP (gdQ w104_16 true (binA .eql w106_17 w107_18)) fun w108_19 => 
  bnP (gdQ t12 false (pickA w104_16 w108_19 (.bool false))) fun w109_20 => 
  bnP (gdQ t12 false (some w109_20)) fun w110_21 => 
  bnP (gdQ w110_21 true (some s12)) fun w112_22 => 
  bnP (gdQ w110_21 true (some t10)) fun w113_23 => 
  bnP (gdQ w110_21 true (binA .eql w112_22 w113_23)) fun w114_24 => 
  bnP (gdQ t12 false (pickA w110_21 w114_24 (.bool false))) fun w115_25 => 
  bnP (pickA t12 (.bool true) w115_25) fun w116_26 => 
  bnP (binA .add t14 (.int .i64 1)) fun w93_27 => 
  k .normal [(5, .lp 5 0), (6, .v t6), (7, .lp 7 0), (8, .v t8), (9, .v t9), (10, .v t10), (11, .v t11), (12, .v w116_26), (13, .v t13), (14, .v w93_27)] [(5, .cells [s5_0, s5_1, s5_2, s5_3, s5_4, s5_5, s5_6]), (7, .cells [s7_0, s7_1, s7_2, s7_3, s7_4, s7_5, s7_6])] Q)
  (fun _ => k (.exit 2) [(5, .lp 5 0), (6, .v t6), (7, .lp 7 0), (8, .v t8), (9, .v t9), (11, .v t11), (12, .v t12), (13, .v t13)] [(5, .cells [s5_0, s5_1, s5_2, s5_3, s5_4, s5_5, s5_6]), (7, .cells [s7_0, s7_1, s7_2, s7_3, s7_4, s7_5, s7_6])] Q)) := by kernel_rfl
noncomputable def L_pleachlaw17_NakKept_0 (s : PSpecs) (t6 t8 t9 t10 t11 t12 t13 t14 s5_0 s5_1 s5_2 s5_3 s5_4 s5_5 s5_6 s7_0 s7_1 s7_2 s7_3 s7_4 s7_5 s7_6 : AV) (Q : AHeap) : Option PEnd := loopP (penv s) c_pleachlaw17_NakKept_0 [(5, .lp 5 0), (6, .v t6), (7, .lp 7 0), (8, .v t8), (9, .v t9), (10, .v t10), (11, .v t11), (12, .v t12), (13, .v t13), (14, .v t14)] [(5, .cells [s5_0, s5_1, s5_2, s5_3, s5_4, s5_5, s5_6]), (7, .cells [s7_0, s7_1, s7_2, s7_3, s7_4, s7_5, s7_6])] Q
theorem L_pleachlaw17_NakKept_0_fold (s : PSpecs) (t6 t8 t9 t10 t11 t12 t13 t14 s5_0 s5_1 s5_2 s5_3 s5_4 s5_5 s5_6 s7_0 s7_1 s7_2 s7_3 s7_4 s7_5 s7_6 : AV) (Q : AHeap) : loopP (penv s) c_pleachlaw17_NakKept_0 [(5, .lp 5 0), (6, .v t6), (7, .lp 7 0), (8, .v t8), (9, .v t9), (10, .v t10), (11, .v t11), (12, .v t12), (13, .v t13), (14, .v t14)] [(5, .cells [s5_0, s5_1, s5_2, s5_3, s5_4, s5_5, s5_6]), (7, .cells [s7_0, s7_1, s7_2, s7_3, s7_4, s7_5, s7_6])] Q = L_pleachlaw17_NakKept_0 s t6 t8 t9 t10 t11 t12 t13 t14 s5_0 s5_1 s5_2 s5_3 s5_4 s5_5 s5_6 s7_0 s7_1 s7_2 s7_3 s7_4 s7_5 s7_6 Q := rfl
theorem L_pleachlaw17_NakKept_0_eq (s : PSpecs) (t6 t8 t9 t10 t11 t12 t13 t14 s5_0 s5_1 s5_2 s5_3 s5_4 s5_5 s5_6 s7_0 s7_1 s7_2 s7_3 s7_4 s7_5 s7_6 : AV) (Q : AHeap) : L_pleachlaw17_NakKept_0 s t6 t8 t9 t10 t11 t12 t13 t14 s5_0 s5_1 s5_2 s5_3 s5_4 s5_5 s5_6 s7_0 s7_1 s7_2 s7_3 s7_4 s7_5 s7_6 Q = evalPK (callP (penv s)) (loopP (penv s)) c_pleachlaw17_NakKept_0 [(5, .lp 5 0), (6, .v t6), (7, .lp 7 0), (8, .v t8), (9, .v t9), (10, .v t10), (11, .v t11), (12, .v t12), (13, .v t13), (14, .v t14)] [(5, .cells [s5_0, s5_1, s5_2, s5_3, s5_4, s5_5, s5_6]), (7, .cells [s7_0, s7_1, s7_2, s7_3, s7_4, s7_5, s7_6])] Q (goX (fun τ ω Q => loopP (penv s) c_pleachlaw17_NakKept_0 τ ω Q) ret4) := loopP_body
abbrev X_pleachlaw17_NakKept_0_x2 (t6 t8 t9 t11 t12 t13 s5_0 s5_1 s5_2 s5_3 s5_4 s5_5 s5_6 s7_0 s7_1 s7_2 s7_3 s7_4 s7_5 s7_6 : AV) (Q : AHeap) : Option PEnd := some (.exit 2, [(5, .lp 5 0), (6, .v t6), (7, .lp 7 0), (8, .v t8), (9, .v t9), (11, .v t11), (12, .v t12), (13, .v t13)], [(5, .cells [s5_0, s5_1, s5_2, s5_3, s5_4, s5_5, s5_6]), (7, .cells [s7_0, s7_1, s7_2, s7_3, s7_4, s7_5, s7_6])], Q)
theorem p_pleachlaw17_NakKept_1 {β : Type} (call : CallF) (lp : PLoopF) (t6 t8 t9 t11 t12 t13 s5_0 s5_1 s5_2 s5_3 s5_4 s5_5 s5_6 s7_0 s7_1 s7_2 s7_3 s7_4 s7_5 s7_6 : AV) (Q : AHeap) (k : PK β) : evalPK call lp c_pleachlaw17_NakKept_1 [(5, .lp 5 0), (6, .v t6), (7, .lp 7 0), (8, .v t8), (9, .v t9), (11, .v t11), (12, .v t12), (13, .v t13)] [(5, .cells [s5_0, s5_1, s5_2, s5_3, s5_4, s5_5, s5_6]), (7, .cells [s7_0, s7_1, s7_2, s7_3, s7_4, s7_5, s7_6])] Q k = (
  bnP (gdQ t11 true (some t12)) fun w119_1 => 
  bnP (gdQ t11 true (unA .not w119_1)) fun w120_2 => 
  bnP (gdQ t11 true (some w120_2)) fun w121_3 => 
  bnP (gdQ w121_3 false (some t13)) fun w122_4 => 
  bnP (gdQ t11 true (pickA w121_3 (.bool true) w122_4)) fun w123_5 => 
  bnP (pickA t11 w123_5 (.bool false)) fun w124_6 => 
  bnP (gdQ w124_6 false (some t11)) fun w126_7 => 
  bnP (gdQ w124_6 false (unA .not w126_7)) fun w127_8 => 
  bnP (gdQ w124_6 false (some w127_8)) fun w128_9 => 
  bnP (gdQ w128_9 true (some t12)) fun w129_10 => 
  bnP (gdQ w128_9 true (some w129_10)) fun w130_11 => 
  bnP (gdQ w130_11 false (some t13)) fun w131_12 => 
  bnP (gdQ w130_11 false (unA .not w131_12)) fun w132_13 => 
  bnP (gdQ w128_9 true (pickA w130_11 (.bool true) w132_13)) fun w133_14 => 
  bnP (gdQ w124_6 false (pickA w128_9 w133_14 (.bool false))) fun w134_15 => 
  bnP (pickA w124_6 (.bool true) w134_15) fun w135_16 => 
  bnP (gdQ w135_16 false (some t11)) fun w137_17 => 
  bnP (gdQ w135_16 false (unA .not w137_17)) fun w138_18 => 
  bnP (gdQ w135_16 false (some w138_18)) fun w139_19 => 
  bnP (gdQ w139_19 true (some t9)) fun w140_20 => 
  bnP (gdQ w139_19 true (some t6)) fun w141_21 => 
  bnP (gdQ w139_19 true (binA .gtr w140_20 w141_21)) fun w142_22 => 
  bnP (gdQ w135_16 false (pickA w139_19 w142_22 (.bool false))) fun w143_23 => 
  bnP (pickA w135_16 (.bool true) w143_23) fun w144_24 => 
  cndS w144_24 (fun _ => k .ret [(4, .v (.bool false))] [] Q)
  (fun _ => k .normal [(5, .lp 5 0), (6, .v t6), (7, .lp 7 0), (8, .v t8), (9, .v t9)] [(5, .cells [s5_0, s5_1, s5_2, s5_3, s5_4, s5_5, s5_6]), (7, .cells [s7_0, s7_1, s7_2, s7_3, s7_4, s7_5, s7_6])] Q)) := by kernel_rfl
theorem p_pleachlaw17_NakKept_2 {β : Type} (call : CallF) (lp : PLoopF) (t6 t8 t9 s5_0 s5_1 s5_2 s5_3 s5_4 s5_5 s5_6 s7_0 s7_1 s7_2 s7_3 s7_4 s7_5 s7_6 : AV) (Q : AHeap) (k : PK β) : evalPK call lp c_pleachlaw17_NakKept_2 [(5, .lp 5 0), (6, .v t6), (7, .lp 7 0), (8, .v t8), (9, .v t9)] [(5, .cells [s5_0, s5_1, s5_2, s5_3, s5_4, s5_5, s5_6]), (7, .cells [s7_0, s7_1, s7_2, s7_3, s7_4, s7_5, s7_6])] Q k = (
  bnP (binA .add t9 (.int .i64 1)) fun w73_1 => 
  k .normal [(5, .lp 5 0), (6, .v t6), (7, .lp 7 0), (8, .v t8), (9, .v w73_1)] [(5, .cells [s5_0, s5_1, s5_2, s5_3, s5_4, s5_5, s5_6]), (7, .cells [s7_0, s7_1, s7_2, s7_3, s7_4, s7_5, s7_6])] Q) := by kernel_rfl
theorem p_pleachlaw17_NakKept_3 {β : Type} (call : CallF) (lp : PLoopF) (t6 t8 t9 s5_0 s5_1 s5_2 s5_3 s5_4 s5_5 s5_6 s7_0 s7_1 s7_2 s7_3 s7_4 s7_5 s7_6 : AV) (Q : AHeap) (k : PK β) : evalPK call lp c_pleachlaw17_NakKept_3 [(5, .lp 5 0), (6, .v t6), (7, .lp 7 0), (8, .v t8), (9, .v t9)] [(5, .cells [s5_0, s5_1, s5_2, s5_3, s5_4, s5_5, s5_6]), (7, .cells [s7_0, s7_1, s7_2, s7_3, s7_4, s7_5, s7_6])] Q k = (
  bnP (binA .lss t9 s7_0) fun w71_1 => 
  cndS w71_1 (fun _ => bnS (call 29 [s5_3, t9] Q) fun w78_2 Q3 => 
  bnP (extA (frz w78_2) 0) fun w79_4 => 
  bnP (extA (frz w78_2) 1) fun w80_5 => 
  bnS (call 30 [t8, t9] Q3) fun w83_6 Q7 => 
  bnP (lenQ s5_4) fun w86_8 => 
  bnX (lp c_pleachlaw17_NakKept_0 [(5, .lp 5 0), (6, .v t6), (7, .lp 7 0), (8, .v t8), (9, .v t9), (10, .v w79_4), (11, .v w80_5), (12, .v (.bool false)), (13, .v (frz w83_6)), (14, .v w86_8)] [(5, .cells [s5_0, s5_1, s5_2, s5_3, s5_4, s5_5, s5_6]), (7, .cells [s7_0, s7_1, s7_2, s7_3, s7_4, s7_5, s7_6])] Q7) (outX 2 (goC (evalPK call lp c_pleachlaw17_NakKept_1) (outX 1 (goC (evalPK call lp c_pleachlaw17_NakKept_2) k)))))
  (fun _ => k (.exit 0) [(7, .lp 7 0)] [(7, .cells [s7_0, s7_1, s7_2, s7_3, s7_4, s7_5, s7_6])] Q)) := by kernel_rfl
noncomputable def L_pleachlaw17_NakKept_3 (s : PSpecs) (t6 t8 t9 s5_0 s5_1 s5_2 s5_3 s5_4 s5_5 s5_6 s7_0 s7_1 s7_2 s7_3 s7_4 s7_5 s7_6 : AV) (Q : AHeap) : Option PEnd := loopP (penv s) c_pleachlaw17_NakKept_3 [(5, .lp 5 0), (6, .v t6), (7, .lp 7 0), (8, .v t8), (9, .v t9)] [(5, .cells [s5_0, s5_1, s5_2, s5_3, s5_4, s5_5, s5_6]), (7, .cells [s7_0, s7_1, s7_2, s7_3, s7_4, s7_5, s7_6])] Q
theorem L_pleachlaw17_NakKept_3_fold (s : PSpecs) (t6 t8 t9 s5_0 s5_1 s5_2 s5_3 s5_4 s5_5 s5_6 s7_0 s7_1 s7_2 s7_3 s7_4 s7_5 s7_6 : AV) (Q : AHeap) : loopP (penv s) c_pleachlaw17_NakKept_3 [(5, .lp 5 0), (6, .v t6), (7, .lp 7 0), (8, .v t8), (9, .v t9)] [(5, .cells [s5_0, s5_1, s5_2, s5_3, s5_4, s5_5, s5_6]), (7, .cells [s7_0, s7_1, s7_2, s7_3, s7_4, s7_5, s7_6])] Q = L_pleachlaw17_NakKept_3 s t6 t8 t9 s5_0 s5_1 s5_2 s5_3 s5_4 s5_5 s5_6 s7_0 s7_1 s7_2 s7_3 s7_4 s7_5 s7_6 Q := rfl
theorem L_pleachlaw17_NakKept_3_eq (s : PSpecs) (t6 t8 t9 s5_0 s5_1 s5_2 s5_3 s5_4 s5_5 s5_6 s7_0 s7_1 s7_2 s7_3 s7_4 s7_5 s7_6 : AV) (Q : AHeap) : L_pleachlaw17_NakKept_3 s t6 t8 t9 s5_0 s5_1 s5_2 s5_3 s5_4 s5_5 s5_6 s7_0 s7_1 s7_2 s7_3 s7_4 s7_5 s7_6 Q = evalPK (callP (penv s)) (loopP (penv s)) c_pleachlaw17_NakKept_3 [(5, .lp 5 0), (6, .v t6), (7, .lp 7 0), (8, .v t8), (9, .v t9)] [(5, .cells [s5_0, s5_1, s5_2, s5_3, s5_4, s5_5, s5_6]), (7, .cells [s7_0, s7_1, s7_2, s7_3, s7_4, s7_5, s7_6])] Q (goX (fun τ ω Q => loopP (penv s) c_pleachlaw17_NakKept_3 τ ω Q) ret4) := loopP_body
abbrev X_pleachlaw17_NakKept_3_x0 (s7_0 s7_1 s7_2 s7_3 s7_4 s7_5 s7_6 : AV) (Q : AHeap) : Option PEnd := some (.exit 0, [(7, .lp 7 0)], [(7, .cells [s7_0, s7_1, s7_2, s7_3, s7_4, s7_5, s7_6])], Q)
theorem p_pleachlaw17_NakKept_4 {β : Type} (call : CallF) (lp : PLoopF) (s7_0 s7_1 s7_2 s7_3 s7_4 s7_5 s7_6 : AV) (Q : AHeap) (k : PK β) : evalPK call lp c_pleachlaw17_NakKept_4 [(7, .lp 7 0)] [(7, .cells [s7_0, s7_1, s7_2, s7_3, s7_4, s7_5, s7_6])] Q k = (
  bnP (lenQ s7_4) fun w147_1 => 
  bnP (binA .eql w147_1 (.int .i64 0)) fun w148_2 => 
  bnP (gdQ w148_2 false (some s7_4)) fun w151_3 => 
  bnP (gdQ w148_2 false (some s7_4)) fun w153_4 => 
  bnP (gdQ w148_2 false (elQ 5 w153_4 (.int .i64 0))) fun e5 => 
  bnP (gdQ w148_2 false ((AV.cells e5)[1]?)) fun w156_6 => 
  bnS (gdH w148_2 false (call 31 [w151_3, w156_6] Q) Q) fun w157_7 Q8 => 
  bnP (gdQ w148_2 false (some (frz w157_7))) fun w158_9 => 
  bnP (gdQ w158_9 true (some s7_4)) fun w160_10 => 
  bnP (gdQ w158_9 true (some s7_0)) fun w163_11 => 
  bnS (gdH w158_9 true (call 32 [w160_10, .int .i64 1] Q8) Q8) fun w161_12 Q13 => 
  bnP (gdQ w158_9 true (binA .eql (frz w161_12) w163_11)) fun w164_14 => 
  bnP (gdQ w148_2 false (pickA w158_9 w164_14 (.bool false))) fun w165_15 => 
  bnP (pickA w148_2 (.bool true) w165_15) fun w166_16 => 
  k .ret [(4, .v w166_16), (166, .v w166_16), (165, .v w165_15), (164, .v w164_14), (161, .v (frz w161_12)), (163, .v w163_11), (162, .gd 158 true (.lp 7 0)), (160, .v w160_10), (159, .gd 158 true (.lp 7 4)), (158, .v w158_9), (157, .v (frz w157_7)), (156, .v w156_6), (155, .gd 149 false (.fp e5 1)), (154, .gd 149 false (.fp e5 0)), (153, .v w153_4), (152, .gd 149 false (.lp 7 4)), (151, .v w151_3), (150, .gd 149 false (.lp 7 4)), (149, .v w148_2), (148, .v w148_2), (147, .v w147_1), (146, .v s7_4), (145, .lp 7 4), (7, .lp 7 0)] [(7, .cells [s7_0, s7_1, s7_2, s7_3, s7_4, s7_5, s7_6])] Q13) := by kernel_rfl
theorem g_pleachlaw17_NakKept {call : CallF} {lp : PLoopF} (v0 v1 : AV) (Q : AHeap) : evalPK call lp c_pleachlaw17_NakKept [(0, .v v0), (1, .v v1)] [] Q (retPK [.tmp 4] [.n]) = (
  bnS (call 14 [] Q) fun w16_1 Q2 => 
  bnP (unA .not (frz w16_1)) fun w17_3 => 
  cndS w17_3 (fun _ => some (.bool false, Q2))
  (fun _ => bnP (lenQ v0) fun w19_4 => 
  bnP (binA .gtr w19_4 (.int .i64 60)) fun w20_5 => 
  cndS w20_5 (fun _ => some (.bool true, Q2))
  (fun _ => bnS (call 15 [v0] Q2) fun w22_6 Q7 => 
  bnS (call 16 [(frz w22_6), .int .i64 15] Q7) fun w23_8 Q9 => 
  bnC 7 (stC 7 (frz w23_8)) fun s10 s11 s12 s13 s14 s15 s16 => 
  bnP (binA .rem v1 (.int .u8 12)) fun w27_17 => 
  bnP (cviA .i64 w27_17) fun w28_18 => 
  bnP (binA .add s10 w28_18) fun w29_19 => 
  bnP (binA .sub w29_19 (.int .i64 2)) fun w30_20 => 
  bnS (call 23 [.agg [s10, s11, s12, s13, s14, s15, s16], w30_20, .int .i64 1] Q9) fun w34_21 Q22 => 
  bnP (extA (frz w34_21) 0) fun w35_23 => 
  bnP (extA (frz w34_21) 1) fun w36_24 => 
  bnC 7 (stC 7 w35_23) fun s25 s26 s27 s28 s29 s30 s31 => 
  bnP (binA .add w30_20 (.int .i64 1)) fun w42_32 => 
  bnP (mxiA [s10, w42_32]) fun w43_33 => 
  bnP (binA .lss s25 w43_33) fun w44_34 => 
  bnP (gdQ w44_34 false (some s29)) fun w47_35 => 
  bnP (gdQ w44_34 false (lenQ w47_35)) fun w48_36 => 
  bnP (gdQ w44_34 false (some s14)) fun w50_37 => 
  bnP (gdQ w44_34 false (lenQ w50_37)) fun w51_38 => 
  bnP (gdQ w44_34 false (binA .lss w48_36 w51_38)) fun w52_39 => 
  bnP (pickA w44_34 (.bool true) w52_39) fun w53_40 => 
  bnP (gdQ w53_40 false (some s29)) fun w56_41 => 
  bnP (gdQ w53_40 false (some s14)) fun w58_42 => 
  bnP (gdQ w53_40 false (lenQ w58_42)) fun w59_43 => 
  bnP (gdQ w53_40 false (slcQ 5 w56_41 none (some w59_43))) fun w60_44 => 
  bnP (gdQ w53_40 false (some s14)) fun w62_45 => 
  bnS (gdH w53_40 false (call 28 [w60_44, w62_45] Q22) Q22) fun w63_46 Q47 => 
  bnP (gdQ w53_40 false (unA .not (frz w63_46))) fun w64_48 => 
  bnP (pickA w53_40 (.bool true) w64_48) fun w65_49 => 
  cndS w65_49 (fun _ => some (.bool false, Q47))
  (fun _ => bnX (lp c_pleachlaw17_NakKept_3 [(5, .lp 5 0), (6, .v w30_20), (7, .lp 7 0), (8, .v w36_24), (9, .v s10)] [(5, .cells [s10, s11, s12, s13, s14, s15, s16]), (7, .cells [s25, s26, s27, s28, s29, s30, s31])] Q47) (outX 0 (goC (evalPK call lp c_pleachlaw17_NakKept_4) (retPK [.tmp 4] [.n]))))))) := by kernel_rfl
def f_pleachlaw17_NakKept {s : PSpecs} (hs : s.lookup 4 = none) (v0 v1 : AV) (Q : AHeap) := (callP_fn (E := penv s) (f := 4) (fn := pf_pleachlaw17_NakKept) hs rfl [v0, v1] Q rfl).trans (g_pleachlaw17_NakKept (call := callP (penv s)) (lp := loopP (penv s)) v0 v1 Q)
theorem g_pleachmade_Made {call : CallF} {lp : PLoopF} (v0 : AV) (Q : AHeap) : evalPK call lp c_pleachmade_Made [(0, .v v0)] [] Q (retPK [.tmp 2] [.n]) = (
  bnC 2 (fillP [.nils, .int .i64 0] [(0, 1, v0)]) fun c4_1 c4_2 => 
  bnS (newcA Q (AV.cells (.agg [c4_1, c4_2]))) fun w5_4 Q3 => 
  bnP (rcv false .n w5_4) fun r5 => some (r5, Q3)) := by kernel_rfl
def f_pleachmade_Made {s : PSpecs} (hs : s.lookup 15 = none) (v0 : AV) (Q : AHeap) := (callP_fn (E := penv s) (f := 15) (fn := pf_pleachmade_Made) hs rfl [v0] Q rfl).trans (g_pleachmade_Made (call := callP (penv s)) (lp := loopP (penv s)) v0 Q)
theorem p_pleachmade_Picks_Feed_0 {β : Type} (call : CallF) (lp : PLoopF) (t0 t1 t6 t7 s4_0 s4_1 s4_2 s4_3 s4_4 s4_5 s4_6 s5_0 s5_1 s5_2 s5_3 s5_4 s5_5 s5_6 : AV) (Q : AHeap) (k : PK β) : evalPK call lp c_pleachmade_Picks_Feed_0 [(0, .v t0), (1, .v t1), (4, .lp 4 0), (5, .lp 5 0), (6, .v t6), (7, .v t7)] [(4, .cells [s4_0, s4_1, s4_2, s4_3, s4_4, s4_5, s4_6]), (5, .cells [s5_0, s5_1, s5_2, s5_3, s5_4, s5_5, s5_6])] Q k = (
  bnP (binA .add t7 (.int .i64 1)) fun w23_1 => 
  k .normal [(0, .v t0), (1, .v t1), (4, .lp 4 0), (5, .lp 5 0), (6, .v t6), (7, .v w23_1)] [(4, .cells [s4_0, s4_1, s4_2, s4_3, s4_4, s4_5, s4_6]), (5, .cells [s5_0, s5_1, s5_2, s5_3, s5_4, s5_5, s5_6])] Q) := by kernel_rfl
theorem p_pleachmade_Picks_Feed_1 {β : Type} (call : CallF) (lp : PLoopF) (t0 t1 t6 t7 s4_0 s4_1 s4_2 s4_3 s4_4 s4_5 s4_6 s5_0 s5_1 s5_2 s5_3 s5_4 s5_5 s5_6 : AV) (Q : AHeap) (k : PK β) : evalPK call lp c_pleachmade_Picks_Feed_1 [(0, .v t0), (1, .v t1), (4, .lp 4 0), (5, .lp 5 0), (6, .v t6), (7, .v t7)] [(4, .cells [s4_0, s4_1, s4_2, s4_3, s4_4, s4_5, s4_6]), (5, .cells [s5_0, s5_1, s5_2, s5_3, s5_4, s5_5, s5_6])] Q k = (
  bnP (binA .lss t7 t1) fun w16_1 => 
  bnP (gdQ w16_1 true (some t0)) fun w18_2 => 
  bnS (gdH w16_1 true (call 57 [w18_2] Q) Q) fun w19_3 Q4 => 
  bnP (gdQ w16_1 true (unA .not (frz w19_3))) fun w20_5 => 
  bnP (pickA w16_1 w20_5 (.bool false)) fun w21_6 => 
  cndS w21_6 (fun _ => bnX (bnX (bnS (call 56 [t0, .int .i64 6] Q4) fun w25_7 Q8 => 
  bnX (bnP (binA .eql (frz w25_7) (.int .i64 0)) fun w39_9 => 
  cndS w39_9 (fun _ => bnP (binA .sub s5_0 (.int .i64 1)) fun w42_10 => 
  bnS (call 56 [t0, .int .i64 3] Q8) fun w44_11 Q12 => 
  bnP (binA .add w42_10 (frz w44_11)) fun w45_13 => 
  bnP (mxiA [.int .i64 1, w45_13]) fun w46_14 => 
  bnS (call 56 [t0, .int .i64 4] Q12) fun w51_15 Q16 => 
  bnP (binA .add w46_14 (frz w51_15)) fun w52_17 => 
  bnS (call 35 [.agg [s5_0, s5_1, s5_2, s5_3, s5_4, s5_5, s5_6], w46_14, w52_17] Q16) fun w53_18 Q19 => 
  bnC 7 (stC 7 (frz w53_18)) fun s20 s21 s22 s23 s24 s25 s26 => 
  some (.normal, [(0, .v t0), (1, .v t1), (4, .lp 4 0), (5, .lp 5 0), (6, .v t6), (7, .v t7)], [(4, .cells [s4_0, s4_1, s4_2, s4_3, s4_4, s4_5, s4_6]), (5, .cells [s20, s21, s22, s23, s24, s25, s26])], Q19))
  (fun _ => bnP (binA .eql (frz w25_7) (.int .i64 1)) fun w55_27 => 
  cndS w55_27 (fun _ => bnS (call 56 [t0, .int .i64 5] Q8) fun w60_28 Q29 => 
  bnP (binA .add s5_0 (frz w60_28)) fun w61_30 => 
  bnS (call 58 [.agg [s5_0, s5_1, s5_2, s5_3, s5_4, s5_5, s5_6], w61_30] Q29) fun w62_31 Q32 => 
  bnC 7 (stC 7 (frz w62_31)) fun s33 s34 s35 s36 s37 s38 s39 => 
  some (.normal, [(0, .v t0), (1, .v t1), (4, .lp 4 0), (5, .lp 5 0), (6, .v t6), (7, .v t7)], [(4, .cells [s4_0, s4_1, s4_2, s4_3, s4_4, s4_5, s4_6]), (5, .cells [s33, s34, s35, s36, s37, s38, s39])], Q32))
  (fun _ => bnP (binA .eql (frz w25_7) (.int .i64 2)) fun w64_40 => 
  cndS w64_40 (fun _ => bnP (binA .add t6 (.int .i64 1)) fun w66_41 => 
  bnS (call 56 [t0, .int .i64 6] Q8) fun w68_42 Q43 => 
  bnP (binA .add w66_41 (frz w68_42)) fun w69_44 => 
  bnS (call 59 [.agg [s5_0, s5_1, s5_2, s5_3, s5_4, s5_5, s5_6], w69_44] Q43) fun w73_45 Q46 => 
  bnP (extA (frz w73_45) 0) fun w74_47 => 
  bnP (extA (frz w73_45) 1) fun w75_48 => 
  bnP (extA (frz w73_45) 2) fun w76_49 => 
  bnC 7 (stC 7 w74_47) fun s50 s51 s52 s53 s54 s55 s56 => 
  some (.normal, [(0, .v t0), (1, .v t1), (4, .lp 4 0), (5, .lp 5 0), (6, .v w69_44), (7, .v t7)], [(4, .cells [s4_0, s4_1, s4_2, s4_3, s4_4, s4_5, s4_6]), (5, .cells [s50, s51, s52, s53, s54, s55, s56])], Q46))
  (fun _ => bnP (binA .sub s5_0 (.int .i64 1)) fun w29_57 => 
  bnS (call 56 [t0, .int .i64 5] Q8) fun w31_58 Q59 => 
  bnP (binA .add w29_57 (frz w31_58)) fun w32_60 => 
  bnP (mxiA [.int .i64 1, w32_60]) fun w33_61 => 
  bnS (call 60 [t0] Q59) fun w35_62 Q63 => 
  bnC 2 (fillP [.int .i64 0, .str []] [(0, 1, w33_61), (1, 1, (frz w35_62))]) fun c36_64 c36_65 => 
  bnS (call 34 [.agg [s5_0, s5_1, s5_2, s5_3, s5_4, s5_5, s5_6], .agg [c36_64, c36_65]] Q63) fun w37_66 Q67 => 
  bnC 7 (stC 7 (frz w37_66)) fun s68 s69 s70 s71 s72 s73 s74 => 
  some (.normal, [(0, .v t0), (1, .v t1), (4, .lp 4 0), (5, .lp 5 0), (6, .v t6), (7, .v t7)], [(4, .cells [s4_0, s4_1, s4_2, s4_3, s4_4, s4_5, s4_6]), (5, .cells [s68, s69, s70, s71, s72, s73, s74])], Q67)))))
  (outX 2 (finC [] [] [0, 1, 4, 5, 6, 7] [(4, 4), (5, 5)] ret4)))
  (outX 1 ret4))
  (goC (evalPK call lp c_pleachmade_Picks_Feed_0) k))
  (fun _ => k (.exit 0) [(4, .lp 4 0), (5, .lp 5 0)] [(4, .cells [s4_0, s4_1, s4_2, s4_3, s4_4, s4_5, s4_6]), (5, .cells [s5_0, s5_1, s5_2, s5_3, s5_4, s5_5, s5_6])] Q4)) := by kernel_rfl
noncomputable def L_pleachmade_Picks_Feed_1 (s : PSpecs) (t0 t1 t6 t7 s4_0 s4_1 s4_2 s4_3 s4_4 s4_5 s4_6 s5_0 s5_1 s5_2 s5_3 s5_4 s5_5 s5_6 : AV) (Q : AHeap) : Option PEnd := loopP (penv s) c_pleachmade_Picks_Feed_1 [(0, .v t0), (1, .v t1), (4, .lp 4 0), (5, .lp 5 0), (6, .v t6), (7, .v t7)] [(4, .cells [s4_0, s4_1, s4_2, s4_3, s4_4, s4_5, s4_6]), (5, .cells [s5_0, s5_1, s5_2, s5_3, s5_4, s5_5, s5_6])] Q
theorem L_pleachmade_Picks_Feed_1_fold (s : PSpecs) (t0 t1 t6 t7 s4_0 s4_1 s4_2 s4_3 s4_4 s4_5 s4_6 s5_0 s5_1 s5_2 s5_3 s5_4 s5_5 s5_6 : AV) (Q : AHeap) : loopP (penv s) c_pleachmade_Picks_Feed_1 [(0, .v t0), (1, .v t1), (4, .lp 4 0), (5, .lp 5 0), (6, .v t6), (7, .v t7)] [(4, .cells [s4_0, s4_1, s4_2, s4_3, s4_4, s4_5, s4_6]), (5, .cells [s5_0, s5_1, s5_2, s5_3, s5_4, s5_5, s5_6])] Q = L_pleachmade_Picks_Feed_1 s t0 t1 t6 t7 s4_0 s4_1 s4_2 s4_3 s4_4 s4_5 s4_6 s5_0 s5_1 s5_2 s5_3 s5_4 s5_5 s5_6 Q := rfl
theorem L_pleachmade_Picks_Feed_1_eq (s : PSpecs) (t0 t1 t6 t7 s4_0 s4_1 s4_2 s4_3 s4_4 s4_5 s4_6 s5_0 s5_1 s5_2 s5_3 s5_4 s5_5 s5_6 : AV) (Q : AHeap) : L_pleachmade_Picks_Feed_1 s t0 t1 t6 t7 s4_0 s4_1 s4_2 s4_3 s4_4 s4_5 s4_6 s5_0 s5_1 s5_2 s5_3 s5_4 s5_5 s5_6 Q = evalPK (callP (penv s)) (loopP (penv s)) c_pleachmade_Picks_Feed_1 [(0, .v t0), (1, .v t1), (4, .lp 4 0), (5, .lp 5 0), (6, .v t6), (7, .v t7)] [(4, .cells [s4_0, s4_1, s4_2, s4_3, s4_4, s4_5, s4_6]), (5, .cells [s5_0, s5_1, s5_2, s5_3, s5_4, s5_5, s5_6])] Q (goX (fun τ ω Q => loopP (penv s) c_pleachmade_Picks_Feed_1 τ ω Q) ret4) := loopP_body
abbrev X_pleachmade_Picks_Feed_1_x0 (s4_0 s4_1 s4_2 s4_3 s4_4 s4_5 s4_6 s5_0 s5_1 s5_2 s5_3 s5_4 s5_5 s5_6 : AV) (Q : AHeap) : Option PEnd := some (.exit 0, [(4, .lp 4 0), (5, .lp 5 0)], [(4, .cells [s4_0, s4_1, s4_2, s4_3, s4_4, s4_5, s4_6]), (5, .cells [s5_0, s5_1, s5_2, s5_3, s5_4, s5_5, s5_6])], Q)
theorem p_pleachmade_Picks_Feed_2 {β : Type} (call : CallF) (lp : PLoopF) (s4_0 s4_1 s4_2 s4_3 s4_4 s4_5 s4_6 s5_0 s5_1 s5_2 s5_3 s5_4 s5_5 s5_6 : AV) (Q : AHeap) (k : PK β) : evalPK call lp c_pleachmade_Picks_Feed_2 [(4, .lp 4 0), (5, .lp 5 0)] [(4, .cells [s4_0, s4_1, s4_2, s4_3, s4_4, s4_5, s4_6]), (5, .cells [s5_0, s5_1, s5_2, s5_3, s5_4, s5_5, s5_6])] Q k = (
  bnC 7 (stC 7 (.agg [s5_0, s5_1, s5_2, s5_3, s5_4, s5_5, s5_6])) fun s1 s2 s3 s4 s5 s6 s7 => 
  k .ret [(77, .v (.agg [s5_0, s5_1, s5_2, s5_3, s5_4, s5_5, s5_6])), (4, .lp 4 0), (5, .lp 5 0)] [(4, .cells [s1, s2, s3, s4, s5, s6, s7]), (5, .cells [s5_0, s5_1, s5_2, s5_3, s5_4, s5_5, s5_6])] Q) := by kernel_rfl
theorem g_pleachmade_Picks_Feed {call : CallF} {lp : PLoopF} (v0 v1 : AV) (Q : AHeap) : evalPK call lp c_pleachmade_Picks_Feed [(0, .v v0), (1, .v v1)] [] Q (retPK [.cell 4 (some 7)] [.n]) = (
  bnS (call 56 [v0, .int .i64 5] Q) fun w11_1 Q2 => 
  bnP (binA .add (.int .i64 1) (frz w11_1)) fun w12_3 => 
  bnS (call 55 [.agg [.int .i64 0, .int .i64 0, .nils, .nils, .nils, .int .i64 0, .int .i64 0], w12_3] Q2) fun w13_4 Q5 => 
  bnC 7 (stC 7 (frz w13_4)) fun s6 s7 s8 s9 s10 s11 s12 => 
  bnX (lp c_pleachmade_Picks_Feed_1 [(0, .v v0), (1, .v v1), (4, .lp 4 0), (5, .lp 5 0), (6, .v (.int .i64 0)), (7, .v (.int .i64 0))] [(4, .cells [.int .i64 0, .int .i64 0, .nils, .nils, .nils, .int .i64 0, .int .i64 0]), (5, .cells [s6, s7, s8, s9, s10, s11, s12])] Q5) (outX 0 (goC (evalPK call lp c_pleachmade_Picks_Feed_2) (retPK [.cell 4 (some 7)] [.n])))) := by kernel_rfl
def f_pleachmade_Picks_Feed {s : PSpecs} (hs : s.lookup 16 = none) (v0 v1 : AV) (Q : AHeap) := (callP_fn (E := penv s) (f := 16) (fn := pf_pleachmade_Picks_Feed) hs rfl [v0, v1] Q rfl).trans (g_pleachmade_Picks_Feed (call := callP (penv s)) (lp := loopP (penv s)) v0 v1 Q)
theorem p_pleachref13_Wants_0 {β : Type} (call : CallF) (lp : PLoopF) (t4 s1_0 s1_1 s1_2 s1_3 s1_4 s1_5 s1_6 s2_0 s2_1 : AV) (Q : AHeap) (k : PK β) : evalPK call lp c_pleachref13_Wants_0 [(1, .lp 1 0), (2, .lp 2 0), (4, .v t4)] [(1, .cells [s1_0, s1_1, s1_2, s1_3, s1_4, s1_5, s1_6]), (2, .cells [s2_0, s2_1])] Q k = (
  bnP (binA .eql s1_0 (.int .i64 0)) fun w17_1 => 
  bnP (gdQ w17_1 false (some t4)) fun w19_2 => 
  bnP (gdQ w17_1 false (some s1_0)) fun w21_3 => 
  bnP (gdQ w17_1 false (binA .lss w19_2 w21_3)) fun w22_4 => 
  bnP (pickA w17_1 (.bool true) w22_4) fun w23_5 => 
  cndS w23_5 (fun _ => k .ret [(3, .v (.bool false)), (24, .v (.agg [.int .i64 0, .int .i64 0])), (23, .v w23_5), (22, .v w22_4), (21, .v w21_3), (20, .gd 18 false (.lp 1 0)), (19, .v w19_2), (18, .v w17_1), (17, .v w17_1), (16, .v s1_0), (15, .lp 1 0), (1, .lp 1 0), (2, .lp 2 0), (4, .v t4)] [(2, .cells [.int .i64 0, .int .i64 0]), (1, .cells [s1_0, s1_1, s1_2, s1_3, s1_4, s1_5, s1_6])] Q)
  (fun _ => bnC 2 (fillP [.int .i64 0, .int .i64 0] [(0, 1, s1_0), (1, 1, t4)]) fun c28_6 c28_7 => 
  bnC 2 (stC 2 (.agg [c28_6, c28_7])) fun s8 s9 => 
  k .ret [(3, .v (.bool true)), (28, .v (.agg [c28_6, c28_7])), (27, .v t4), (26, .v s1_0), (25, .lp 1 0), (23, .v w23_5), (22, .v w22_4), (21, .v w21_3), (20, .gd 18 false (.lp 1 0)), (19, .v w19_2), (18, .v w17_1), (17, .v w17_1), (16, .v s1_0), (15, .lp 1 0), (1, .lp 1 0), (2, .lp 2 0), (4, .v t4)] [(2, .cells [s8, s9]), (1, .cells [s1_0, s1_1, s1_2, s1_3, s1_4, s1_5, s1_6])] Q)) := by kernel_rfl
theorem g_pleachref13_Wants {call : CallF} {lp : PLoopF} (v0_0 v0_1 v0_2 v0_3 v0_4 v0_5 v0_6 : AV) (Q : AHeap) : evalPK call lp c_pleachref13_Wants [(0, .v (.agg [v0_0, v0_1, v0_2, v0_3, v0_4, v0_5, v0_6]))] [] Q (retPK [.cell 2 (some 2), .tmp 3] [.n, .n]) = (
  bnC 7 (stC 7 (.agg [v0_0, v0_1, v0_2, v0_3, v0_4, v0_5, v0_6])) fun s1 s2 s3 s4 s5 s6 s7 => 
  bnX (bnP (lenQ s4) fun w9_8 => 
  bnP (binA .gtr w9_8 (.int .i64 0)) fun w10_9 => 
  cndS w10_9 (fun _ => bnS (call 62 [s4] Q) fun w13_10 Q11 => 
  bnP (binA .sub (frz w13_10) (.int .i64 1)) fun w14_12 => 
  some (.normal, [(1, .lp 1 0), (2, .lp 2 0), (4, .v w14_12)], [(1, .cells [s1, s2, s3, s4, s5, s6, s7]), (2, .cells [.int .i64 0, .int .i64 0])], Q11))
  (fun _ => some (.normal, [(1, .lp 1 0), (2, .lp 2 0), (4, .v s2)], [(1, .cells [s1, s2, s3, s4, s5, s6, s7]), (2, .cells [.int .i64 0, .int .i64 0])], Q)))
  (goC (evalPK call lp c_pleachref13_Wants_0) (retPK [.cell 2 (some 2), .tmp 3] [.n, .n]))) := by kernel_rfl
def f_pleachref13_Wants {s : PSpecs} (hs : s.lookup 18 = none) (v0_0 v0_1 v0_2 v0_3 v0_4 v0_5 v0_6 : AV) (Q : AHeap) := (callP_fn (E := penv s) (f := 18) (fn := pf_pleachref13_Wants) hs rfl [.agg [v0_0, v0_1, v0_2, v0_3, v0_4, v0_5, v0_6]] Q rfl).trans (g_pleachref13_Wants (call := callP (penv s)) (lp := loopP (penv s)) v0_0 v0_1 v0_2 v0_3 v0_4 v0_5 v0_6 Q)
theorem p_nak_Skips_0 {β : Type} (call : CallF) (lp : PLoopF) (t1 t2 t9 t11 s3_0 s3_1 s3_2 s3_3 s3_4 s3_5 s3_6 s6_0 s6_1 s6_2 s6_3 s6_4 s6_5 s6_6 : AV) (l8 : List AV) (Q : AHeap) (k : PK β) : evalPK call lp c_nak_Skips_0 [(1, .v t1), (2, .v t2), (3, .lp 3 0), (6, .lp 6 0), (8, .ls 8), (9, .v t9), (11, .v t11)] [(3, .cells [s3_0, s3_1, s3_2, s3_3, s3_4, s3_5, s3_6]), (6, .cells [s6_0, s6_1, s6_2, s6_3, s6_4, s6_5, s6_6]), (8, .own 2 l8)] Q k = (
  bnP (unA .not t11) fun w59_1 => 
  cndS w59_1 (fun _ => k (.exit 0) [(3, .lp 3 0), (6, .lp 6 0), (8, .ls 8), (9, .v t9)] [(3, .cells [s3_0, s3_1, s3_2, s3_3, s3_4, s3_5, s3_6]), (6, .cells [s6_0, s6_1, s6_2, s6_3, s6_4, s6_5, s6_6]), (8, .own 2 l8)] Q)
  (fun _ => bnS (call 66 [.agg [s3_0, s3_1, s3_2, s3_3, s3_4, s3_5, s3_6]] Q) fun w62_2 Q3 => 
  bnP (extA (frz w62_2) 0) fun w63_4 => 
  bnP (extA (frz w62_2) 1) fun w64_5 => 
  bnC 7 (stC 7 w63_4) fun s6 s7 s8 s9 s10 s11 s12 => 
  bnC 7 (stC 7 (.agg [s6, s7, s8, s9, s10, s11, s12])) fun s13 s14 s15 s16 s17 s18 s19 => 
  bnP (lenQ w64_5) fun w67_20 => 
  bnP (binA .eql w67_20 (.int .i64 0)) fun w68_21 => 
  cndS w68_21 (fun _ => k (.exit 0) [(3, .lp 3 0), (6, .lp 6 0), (8, .ls 8), (9, .v t9)] [(3, .cells [s13, s14, s15, s16, s17, s18, s19]), (6, .cells [s6_0, s6_1, s6_2, s6_3, s6_4, s6_5, s6_6]), (8, .own 2 l8)] Q3)
  (fun _ => k .normal [(1, .v t1), (2, .v t2), (3, .lp 3 0), (6, .lp 6 0), (8, .ls 8), (9, .v t9)] [(3, .cells [s13, s14, s15, s16, s17, s18, s19]), (6, .cells [s6_0, s6_1, s6_2, s6_3, s6_4, s6_5, s6_6]), (8, .own 2 l8)] Q3))) := by kernel_rfl
theorem p_nak_Skips_1 {β : Type} (call : CallF) (lp : PLoopF) (t1 t2 t9 s3_0 s3_1 s3_2 s3_3 s3_4 s3_5 s3_6 s6_0 s6_1 s6_2 s6_3 s6_4 s6_5 s6_6 : AV) (l8 : List AV) (Q : AHeap) (k : PK β) : evalPK call lp c_nak_Skips_1 [(1, .v t1), (2, .v t2), (3, .lp 3 0), (6, .lp 6 0), (8, .ls 8), (9, .v t9)] [(3, .cells [s3_0, s3_1, s3_2, s3_3, s3_4, s3_5, s3_6]), (6, .cells [s6_0, s6_1, s6_2, s6_3, s6_4, s6_5, s6_6]), (8, .own 2 l8)] Q k = (
  bnP (binA .leq s3_0 t1) fun w29_1 => 
  cndS w29_1 (fun _ => bnX (bnS (call 65 [.agg [s3_0, s3_1, s3_2, s3_3, s3_4, s3_5, s3_6], t1] Q) fun w33_2 Q3 => 
  bnP (extA (frz w33_2) 0) fun w34_4 => 
  bnP (extA (frz w33_2) 1) fun w35_5 => 
  bnX (bnP (binA .geq w34_4 s3_0) fun w39_6 => 
  cndS w39_6 (fun _ => bnS (call 44 [s3_4, s3_0, w34_4, t2] Q3) fun w46_7 Q8 => 
  bnC 1 (stC 1 (frz w46_7)) fun s9 => 
  bnC 2 (fillP [.int .i64 0, .int .i64 0] [(0, 1, s3_0), (1, 1, w34_4)]) fun c52_10 c52_11 => 
  pinB (elOk 2 (.agg [c52_10, c52_11])) <| 
  pinB (room 16 ((l8 : List AV).length + (([.agg [c52_10, c52_11]] : List AV) : List AV).length)) <| 
  bnP (binA .add w34_4 (.int .i64 1)) fun w56_12 => 
  bnC 1 (stC 1 w56_12) fun s13 => 
  some (.normal, [(1, .v t1), (2, .v t2), (3, .lp 3 0), (6, .lp 6 0), (8, .ls 8), (9, .v t9), (11, .v w35_5)], [(3, .cells [s13, s3_1, s3_2, s3_3, s9, s3_5, s3_6]), (6, .cells [s6_0, s6_1, s6_2, s6_3, s6_4, s6_5, s6_6]), (8, .own 2 (l8 ++ ([.agg [c52_10, c52_11]] : List AV)))], Q8))
  (fun _ => some (.normal, [(1, .v t1), (2, .v t2), (3, .lp 3 0), (6, .lp 6 0), (8, .ls 8), (9, .v t9), (11, .v w35_5)], [(3, .cells [s3_0, s3_1, s3_2, s3_3, s3_4, s3_5, s3_6]), (6, .cells [s6_0, s6_1, s6_2, s6_3, s6_4, s6_5, s6_6]), (8, .own 2 l8)], Q3)))
  (goC (evalPK call lp c_nak_Skips_0) ret4))
  (outX 1 (finC [] [] [1, 2, 3, 6, 8, 9] [(3, 3), (6, 6), (8, 8)] k)))
  (fun _ => k (.exit 0) [(3, .lp 3 0), (6, .lp 6 0), (8, .ls 8), (9, .v t9)] [(3, .cells [s3_0, s3_1, s3_2, s3_3, s3_4, s3_5, s3_6]), (6, .cells [s6_0, s6_1, s6_2, s6_3, s6_4, s6_5, s6_6]), (8, .own 2 l8)] Q)) := by kernel_rfl
noncomputable def L_nak_Skips_1 (s : PSpecs) (t1 t2 t9 s3_0 s3_1 s3_2 s3_3 s3_4 s3_5 s3_6 s6_0 s6_1 s6_2 s6_3 s6_4 s6_5 s6_6 : AV) (l8 : List AV) (Q : AHeap) : Option PEnd := loopP (penv s) c_nak_Skips_1 [(1, .v t1), (2, .v t2), (3, .lp 3 0), (6, .lp 6 0), (8, .ls 8), (9, .v t9)] [(3, .cells [s3_0, s3_1, s3_2, s3_3, s3_4, s3_5, s3_6]), (6, .cells [s6_0, s6_1, s6_2, s6_3, s6_4, s6_5, s6_6]), (8, .own 2 l8)] Q
theorem L_nak_Skips_1_fold (s : PSpecs) (t1 t2 t9 s3_0 s3_1 s3_2 s3_3 s3_4 s3_5 s3_6 s6_0 s6_1 s6_2 s6_3 s6_4 s6_5 s6_6 : AV) (l8 : List AV) (Q : AHeap) : loopP (penv s) c_nak_Skips_1 [(1, .v t1), (2, .v t2), (3, .lp 3 0), (6, .lp 6 0), (8, .ls 8), (9, .v t9)] [(3, .cells [s3_0, s3_1, s3_2, s3_3, s3_4, s3_5, s3_6]), (6, .cells [s6_0, s6_1, s6_2, s6_3, s6_4, s6_5, s6_6]), (8, .own 2 l8)] Q = L_nak_Skips_1 s t1 t2 t9 s3_0 s3_1 s3_2 s3_3 s3_4 s3_5 s3_6 s6_0 s6_1 s6_2 s6_3 s6_4 s6_5 s6_6 l8 Q := rfl
theorem L_nak_Skips_1_eq (s : PSpecs) (t1 t2 t9 s3_0 s3_1 s3_2 s3_3 s3_4 s3_5 s3_6 s6_0 s6_1 s6_2 s6_3 s6_4 s6_5 s6_6 : AV) (l8 : List AV) (Q : AHeap) : L_nak_Skips_1 s t1 t2 t9 s3_0 s3_1 s3_2 s3_3 s3_4 s3_5 s3_6 s6_0 s6_1 s6_2 s6_3 s6_4 s6_5 s6_6 l8 Q = evalPK (callP (penv s)) (loopP (penv s)) c_nak_Skips_1 [(1, .v t1), (2, .v t2), (3, .lp 3 0), (6, .lp 6 0), (8, .ls 8), (9, .v t9)] [(3, .cells [s3_0, s3_1, s3_2, s3_3, s3_4, s3_5, s3_6]), (6, .cells [s6_0, s6_1, s6_2, s6_3, s6_4, s6_5, s6_6]), (8, .own 2 l8)] Q (goX (fun τ ω Q => loopP (penv s) c_nak_Skips_1 τ ω Q) ret4) := loopP_body
abbrev X_nak_Skips_1_x0 (t9 s3_0 s3_1 s3_2 s3_3 s3_4 s3_5 s3_6 s6_0 s6_1 s6_2 s6_3 s6_4 s6_5 s6_6 : AV) (l8 : List AV) (Q : AHeap) : Option PEnd := some (.exit 0, [(3, .lp 3 0), (6, .lp 6 0), (8, .ls 8), (9, .v t9)], [(3, .cells [s3_0, s3_1, s3_2, s3_3, s3_4, s3_5, s3_6]), (6, .cells [s6_0, s6_1, s6_2, s6_3, s6_4, s6_5, s6_6]), (8, .own 2 l8)], Q)
theorem p_nak_Skips_2 {β : Type} (call : CallF) (lp : PLoopF) (s3_0 s3_1 s3_2 s3_3 s3_4 s3_5 s3_6 s6_0 s6_1 s6_2 s6_3 s6_4 s6_5 s6_6 : AV) (l8 : List AV) (Q : AHeap) (k : PK β) : evalPK call lp c_nak_Skips_2 [(3, .lp 3 0), (6, .lp 6 0), (8, .ls 8)] [(3, .cells [s3_0, s3_1, s3_2, s3_3, s3_4, s3_5, s3_6]), (6, .cells [s6_0, s6_1, s6_2, s6_3, s6_4, s6_5, s6_6]), (8, .own 2 l8)] Q k = (
  bnC 7 (stC 7 (.agg [s3_0, s3_1, s3_2, s3_3, s3_4, s3_5, s3_6])) fun s1 s2 s3 s4 s5 s6 s7 => 
  k .ret [(7, .ls 8), (76, .ls 8), (75, .v (.agg [s3_0, s3_1, s3_2, s3_3, s3_4, s3_5, s3_6])), (3, .lp 3 0), (6, .lp 6 0), (8, .ls 8)] [(6, .cells [s1, s2, s3, s4, s5, s6, s7]), (3, .cells [s3_0, s3_1, s3_2, s3_3, s3_4, s3_5, s3_6]), (8, .own 2 l8)] Q) := by kernel_rfl
theorem p_nak_Skips_3 {β : Type} (call : CallF) (lp : PLoopF) (t9 s3_0 s3_1 s3_2 s3_3 s3_4 s3_5 s3_6 s6_0 s6_1 s6_2 s6_3 s6_4 s6_5 s6_6 : AV) (l8 : List AV) (Q : AHeap) (k : PK β) : evalPK call lp c_nak_Skips_3 [(3, .lp 3 0), (6, .lp 6 0), (8, .ls 8), (9, .v t9)] [(3, .cells [s3_0, s3_1, s3_2, s3_3, s3_4, s3_5, s3_6]), (6, .cells [s6_0, s6_1, s6_2, s6_3, s6_4, s6_5, s6_6]), (8, .own 2 l8)] Q k = (
  bnX (bnP (binA .neq s3_0 t9) fun w72_1 => 
  cndS w72_1 (fun _ => bnS (call 67 [] Q) fun w73_2 Q3 => 
  bnC 2 (stC 2 (frz w73_2)) fun s4 s5 => 
  some (.normal, [(3, .lp 3 0), (6, .lp 6 0), (8, .ls 8)], [(3, .cells [s3_0, s3_1, s3_2, s3_3, s3_4, s4, s5]), (6, .cells [s6_0, s6_1, s6_2, s6_3, s6_4, s6_5, s6_6]), (8, .own 2 l8)], Q3))
  (fun _ => some (.normal, [(3, .lp 3 0), (6, .lp 6 0), (8, .ls 8)], [(3, .cells [s3_0, s3_1, s3_2, s3_3, s3_4, s3_5, s3_6]), (6, .cells [s6_0, s6_1, s6_2, s6_3, s6_4, s6_5, s6_6]), (8, .own 2 l8)], Q)))
  (goC (evalPK call lp c_nak_Skips_2) k)) := by kernel_rfl
theorem g_nak_Skips {call : CallF} {lp : PLoopF} (v0_0 v0_1 v0_2 v0_3 v0_4 v0_5 v0_6 v1 v2 : AV) (Q : AHeap) : evalPK call lp c_nak_Skips [(0, .v (.agg [v0_0, v0_1, v0_2, v0_3, v0_4, v0_5, v0_6])), (1, .v v1), (2, .v v2)] [] Q (retPK [.cell 6 (some 7), .tmp 7] [.n, .f 2]) = (
  bnC 7 (stC 7 (.agg [v0_0, v0_1, v0_2, v0_3, v0_4, v0_5, v0_6])) fun s1 s2 s3 s4 s5 s6 s7 => 
  bnS (call 64 [.agg [s1, s2, s3, s4, s5, s6, s7]] Q) fun w15_8 Q9 => 
  bnC 7 (stC 7 (frz w15_8)) fun s10 s11 s12 s13 s14 s15 s16 => 
  bnP (binA .lss s10 (.int .i64 1)) fun w18_17 => 
  bnP (gdQ w18_17 false (some v1)) fun w20_18 => 
  bnP (gdQ w18_17 false (binA .gtr w20_18 (.int .i64 1000000))) fun w21_19 => 
  bnP (pickA w18_17 (.bool true) w21_19) fun w22_20 => 
  cndS w22_20 (fun _ => bnC 7 (stC 7 (.agg [s10, s11, s12, s13, s14, s15, s16])) fun s21 s22 s23 s24 s25 s26 s27 => 
  some (.tup [.agg [s21, s22, s23, s24, s25, s26, s27], .fz 2 []], Q9))
  (fun _ => bnX (lp c_nak_Skips_1 [(1, .v v1), (2, .v v2), (3, .lp 3 0), (6, .lp 6 0), (8, .ls 8), (9, .v s10)] [(3, .cells [s10, s11, s12, s13, s14, s15, s16]), (6, .cells [.int .i64 0, .int .i64 0, .nils, .nils, .nils, .int .i64 0, .int .i64 0]), (8, .own 2 ([] : List AV))] Q9) (outX 0 (goC (evalPK call lp c_nak_Skips_3) (retPK [.cell 6 (some 7), .tmp 7] [.n, .f 2]))))) := by kernel_rfl
def f_nak_Skips {s : PSpecs} (hs : s.lookup 23 = none) (v0_0 v0_1 v0_2 v0_3 v0_4 v0_5 v0_6 v1 v2 : AV) (Q : AHeap) := (callP_fn (E := penv s) (f := 23) (fn := pf_nak_Skips) hs rfl [.agg [v0_0, v0_1, v0_2, v0_3, v0_4, v0_5, v0_6], v1, v2] Q rfl).trans (g_nak_Skips (call := callP (penv s)) (lp := loopP (penv s)) v0_0 v0_1 v0_2 v0_3 v0_4 v0_5 v0_6 v1 v2 Q)
theorem p_pleachref13_Skips_0 {β : Type} (call : CallF) (lp : PLoopF) (t1 t2 s3_0 s3_1 s3_2 s3_3 s3_4 s3_5 s3_6 s6_0 s6_1 s6_2 s6_3 s6_4 s6_5 s6_6 : AV) (l8 : List AV) (Q : AHeap) (k : PK β) : evalPK call lp c_pleachref13_Skips_0 [(1, .v t1), (2, .v t2), (3, .lp 3 0), (6, .lp 6 0), (8, .ls 8)] [(3, .cells [s3_0, s3_1, s3_2, s3_3, s3_4, s3_5, s3_6]), (6, .cells [s6_0, s6_1, s6_2, s6_3, s6_4, s6_5, s6_6]), (8, .own 2 l8)] Q k = (
  bnP (binA .leq s3_0 t1) fun w65_1 => 
  cndS w65_1 (fun _ => bnS (call 27 [.agg [s3_0, s3_1, s3_2, s3_3, s3_4, s3_5, s3_6]] Q) fun w68_2 Q3 => 
  bnP (extA (frz w68_2) 0) fun w69_4 => 
  bnP (extA (frz w68_2) 1) fun w70_5 => 
  bnC 7 (stC 7 w69_4) fun s6 s7 s8 s9 s10 s11 s12 => 
  k .normal [(1, .v t1), (2, .v t2), (3, .lp 3 0), (6, .lp 6 0), (8, .ls 8)] [(3, .cells [s6, s7, s8, s9, s10, s11, s12]), (6, .cells [s6_0, s6_1, s6_2, s6_3, s6_4, s6_5, s6_6]), (8, .own 2 l8)] Q3)
  (fun _ => k .normal [(1, .v t1), (2, .v t2), (3, .lp 3 0), (6, .lp 6 0), (8, .ls 8)] [(3, .cells [s3_0, s3_1, s3_2, s3_3, s3_4, s3_5, s3_6]), (6, .cells [s6_0, s6_1, s6_2, s6_3, s6_4, s6_5, s6_6]), (8, .own 2 l8)] Q)) := by kernel_rfl
theorem p_pleachref13_Skips_1 {β : Type} (call : CallF) (lp : PLoopF) (t1 t2 t9 s3_0 s3_1 s3_2 s3_3 s3_4 s3_5 s3_6 s6_0 s6_1 s6_2 s6_3 s6_4 s6_5 s6_6 : AV) (l8 : List AV) (Q : AHeap) (k : PK β) : evalPK call lp c_pleachref13_Skips_1 [(1, .v t1), (2, .v t2), (3, .lp 3 0), (6, .lp 6 0), (8, .ls 8), (9, .v t9)] [(3, .cells [s3_0, s3_1, s3_2, s3_3, s3_4, s3_5, s3_6]), (6, .cells [s6_0, s6_1, s6_2, s6_3, s6_4, s6_5, s6_6]), (8, .own 2 l8)] Q k = (
  bnX (bnP (binA .geq t9 s3_0) fun w43_1 => 
  cndS w43_1 (fun _ => bnS (call 45 [s3_4, s3_0, t9, t2] Q) fun w50_2 Q3 => 
  bnC 1 (stC 1 (frz w50_2)) fun s4 => 
  bnC 2 (fillP [.int .i64 0, .int .i64 0] [(0, 1, s3_0), (1, 1, t9)]) fun c56_5 c56_6 => 
  pinB (elOk 2 (.agg [c56_5, c56_6])) <| 
  pinB (room 16 ((l8 : List AV).length + (([.agg [c56_5, c56_6]] : List AV) : List AV).length)) <| 
  bnP (binA .add t9 (.int .i64 1)) fun w60_7 => 
  bnC 1 (stC 1 w60_7) fun s8 => 
  some (.normal, [(1, .v t1), (2, .v t2), (3, .lp 3 0), (6, .lp 6 0), (8, .ls 8)], [(3, .cells [s8, s3_1, s3_2, s3_3, s4, s3_5, s3_6]), (6, .cells [s6_0, s6_1, s6_2, s6_3, s6_4, s6_5, s6_6]), (8, .own 2 (l8 ++ ([.agg [c56_5, c56_6]] : List AV)))], Q3))
  (fun _ => some (.normal, [(1, .v t1), (2, .v t2), (3, .lp 3 0), (6, .lp 6 0), (8, .ls 8)], [(3, .cells [s3_0, s3_1, s3_2, s3_3, s3_4, s3_5, s3_6]), (6, .cells [s6_0, s6_1, s6_2, s6_3, s6_4, s6_5, s6_6]), (8, .own 2 l8)], Q)))
  (goC (evalPK call lp c_pleachref13_Skips_0) k)) := by kernel_rfl
theorem p_pleachref13_Skips_2 {β : Type} (call : CallF) (lp : PLoopF) (t1 t2 s3_0 s3_1 s3_2 s3_3 s3_4 s3_5 s3_6 s6_0 s6_1 s6_2 s6_3 s6_4 s6_5 s6_6 : AV) (l8 : List AV) (Q : AHeap) (k : PK β) : evalPK call lp c_pleachref13_Skips_2 [(1, .v t1), (2, .v t2), (3, .lp 3 0), (6, .lp 6 0), (8, .ls 8)] [(3, .cells [s3_0, s3_1, s3_2, s3_3, s3_4, s3_5, s3_6]), (6, .cells [s6_0, s6_1, s6_2, s6_3, s6_4, s6_5, s6_6]), (8, .own 2 l8)] Q k = (
  bnP (binA .leq s3_0 t1) fun w21_1 => 
  cndS w21_1 (fun _ => bnX (bnX (bnP (lenQ s3_3) fun w27_2 => 
  bnP (binA .gtr w27_2 (.int .i64 0)) fun w28_3 => 
  bnP (gdQ w28_3 true (some s3_3)) fun w31_4 => 
  bnS (gdH w28_3 true (call 62 [w31_4] Q) Q) fun w32_5 Q6 => 
  bnP (gdQ w28_3 true (some t1)) fun w33_7 => 
  bnP (gdQ w28_3 true (binA .leq (frz w32_5) w33_7)) fun w34_8 => 
  bnP (pickA w28_3 w34_8 (.bool false)) fun w35_9 => 
  cndS w35_9 (fun _ => bnS (call 62 [s3_3] Q6) fun w38_10 Q11 => 
  bnP (binA .sub (frz w38_10) (.int .i64 1)) fun w39_12 => 
  some (.normal, [(1, .v t1), (2, .v t2), (3, .lp 3 0), (6, .lp 6 0), (8, .ls 8), (9, .v w39_12)], [(3, .cells [s3_0, s3_1, s3_2, s3_3, s3_4, .int .i64 0, .int .i64 0]), (6, .cells [s6_0, s6_1, s6_2, s6_3, s6_4, s6_5, s6_6]), (8, .own 2 l8)], Q11))
  (fun _ => some (.normal, [(1, .v t1), (2, .v t2), (3, .lp 3 0), (6, .lp 6 0), (8, .ls 8), (9, .v t1)], [(3, .cells [s3_0, s3_1, s3_2, s3_3, s3_4, .int .i64 0, .int .i64 0]), (6, .cells [s6_0, s6_1, s6_2, s6_3, s6_4, s6_5, s6_6]), (8, .own 2 l8)], Q6)))
  (goC (evalPK call lp c_pleachref13_Skips_1) ret4))
  (outX 1 (finC [] [] [1, 2, 3, 6, 8] [(3, 3), (6, 6), (8, 8)] k)))
  (fun _ => k (.exit 0) [(3, .lp 3 0), (6, .lp 6 0), (8, .ls 8)] [(3, .cells [s3_0, s3_1, s3_2, s3_3, s3_4, s3_5, s3_6]), (6, .cells [s6_0, s6_1, s6_2, s6_3, s6_4, s6_5, s6_6]), (8, .own 2 l8)] Q)) := by kernel_rfl
noncomputable def L_pleachref13_Skips_2 (s : PSpecs) (t1 t2 s3_0 s3_1 s3_2 s3_3 s3_4 s3_5 s3_6 s6_0 s6_1 s6_2 s6_3 s6_4 s6_5 s6_6 : AV) (l8 : List AV) (Q : AHeap) : Option PEnd := loopP (penv s) c_pleachref13_Skips_2 [(1, .v t1), (2, .v t2), (3, .lp 3 0), (6, .lp 6 0), (8, .ls 8)] [(3, .cells [s3_0, s3_1, s3_2, s3_3, s3_4, s3_5, s3_6]), (6, .cells [s6_0, s6_1, s6_2, s6_3, s6_4, s6_5, s6_6]), (8, .own 2 l8)] Q
theorem L_pleachref13_Skips_2_fold (s : PSpecs) (t1 t2 s3_0 s3_1 s3_2 s3_3 s3_4 s3_5 s3_6 s6_0 s6_1 s6_2 s6_3 s6_4 s6_5 s6_6 : AV) (l8 : List AV) (Q : AHeap) : loopP (penv s) c_pleachref13_Skips_2 [(1, .v t1), (2, .v t2), (3, .lp 3 0), (6, .lp 6 0), (8, .ls 8)] [(3, .cells [s3_0, s3_1, s3_2, s3_3, s3_4, s3_5, s3_6]), (6, .cells [s6_0, s6_1, s6_2, s6_3, s6_4, s6_5, s6_6]), (8, .own 2 l8)] Q = L_pleachref13_Skips_2 s t1 t2 s3_0 s3_1 s3_2 s3_3 s3_4 s3_5 s3_6 s6_0 s6_1 s6_2 s6_3 s6_4 s6_5 s6_6 l8 Q := rfl
theorem L_pleachref13_Skips_2_eq (s : PSpecs) (t1 t2 s3_0 s3_1 s3_2 s3_3 s3_4 s3_5 s3_6 s6_0 s6_1 s6_2 s6_3 s6_4 s6_5 s6_6 : AV) (l8 : List AV) (Q : AHeap) : L_pleachref13_Skips_2 s t1 t2 s3_0 s3_1 s3_2 s3_3 s3_4 s3_5 s3_6 s6_0 s6_1 s6_2 s6_3 s6_4 s6_5 s6_6 l8 Q = evalPK (callP (penv s)) (loopP (penv s)) c_pleachref13_Skips_2 [(1, .v t1), (2, .v t2), (3, .lp 3 0), (6, .lp 6 0), (8, .ls 8)] [(3, .cells [s3_0, s3_1, s3_2, s3_3, s3_4, s3_5, s3_6]), (6, .cells [s6_0, s6_1, s6_2, s6_3, s6_4, s6_5, s6_6]), (8, .own 2 l8)] Q (goX (fun τ ω Q => loopP (penv s) c_pleachref13_Skips_2 τ ω Q) ret4) := loopP_body
abbrev X_pleachref13_Skips_2_x0 (s3_0 s3_1 s3_2 s3_3 s3_4 s3_5 s3_6 s6_0 s6_1 s6_2 s6_3 s6_4 s6_5 s6_6 : AV) (l8 : List AV) (Q : AHeap) : Option PEnd := some (.exit 0, [(3, .lp 3 0), (6, .lp 6 0), (8, .ls 8)], [(3, .cells [s3_0, s3_1, s3_2, s3_3, s3_4, s3_5, s3_6]), (6, .cells [s6_0, s6_1, s6_2, s6_3, s6_4, s6_5, s6_6]), (8, .own 2 l8)], Q)
theorem p_pleachref13_Skips_3 {β : Type} (call : CallF) (lp : PLoopF) (s3_0 s3_1 s3_2 s3_3 s3_4 s3_5 s3_6 s6_0 s6_1 s6_2 s6_3 s6_4 s6_5 s6_6 : AV) (l8 : List AV) (Q : AHeap) (k : PK β) : evalPK call lp c_pleachref13_Skips_3 [(3, .lp 3 0), (6, .lp 6 0), (8, .ls 8)] [(3, .cells [s3_0, s3_1, s3_2, s3_3, s3_4, s3_5, s3_6]), (6, .cells [s6_0, s6_1, s6_2, s6_3, s6_4, s6_5, s6_6]), (8, .own 2 l8)] Q k = (
  bnC 7 (stC 7 (.agg [s3_0, s3_1, s3_2, s3_3, s3_4, s3_5, s3_6])) fun s1 s2 s3 s4 s5 s6 s7 => 
  k .ret [(7, .ls 8), (72, .ls 8), (71, .v (.agg [s3_0, s3_1, s3_2, s3_3, s3_4, s3_5, s3_6])), (3, .lp 3 0), (6, .lp 6 0), (8, .ls 8)] [(6, .cells [s1, s2, s3, s4, s5, s6, s7]), (3, .cells [s3_0, s3_1, s3_2, s3_3, s3_4, s3_5, s3_6]), (8, .own 2 l8)] Q) := by kernel_rfl
theorem g_pleachref13_Skips {call : CallF} {lp : PLoopF} (v0_0 v0_1 v0_2 v0_3 v0_4 v0_5 v0_6 v1 v2 : AV) (Q : AHeap) : evalPK call lp c_pleachref13_Skips [(0, .v (.agg [v0_0, v0_1, v0_2, v0_3, v0_4, v0_5, v0_6])), (1, .v v1), (2, .v v2)] [] Q (retPK [.cell 6 (some 7), .tmp 7] [.n, .f 2]) = (
  bnC 7 (stC 7 (.agg [v0_0, v0_1, v0_2, v0_3, v0_4, v0_5, v0_6])) fun s1 s2 s3 s4 s5 s6 s7 => 
  bnP (binA .lss s1 (.int .i64 1)) fun w12_8 => 
  bnP (gdQ w12_8 false (some v1)) fun w14_9 => 
  bnP (gdQ w12_8 false (binA .gtr w14_9 (.int .i64 1000000))) fun w15_10 => 
  bnP (pickA w12_8 (.bool true) w15_10) fun w16_11 => 
  cndS w16_11 (fun _ => bnC 7 (stC 7 (.agg [s1, s2, s3, s4, s5, s6, s7])) fun s12 s13 s14 s15 s16 s17 s18 => 
  some (.tup [.agg [s12, s13, s14, s15, s16, s17, s18], .fz 2 []], Q))
  (fun _ => bnX (lp c_pleachref13_Skips_2 [(1, .v v1), (2, .v v2), (3, .lp 3 0), (6, .lp 6 0), (8, .ls 8)] [(3, .cells [s1, s2, s3, s4, s5, s6, s7]), (6, .cells [.int .i64 0, .int .i64 0, .nils, .nils, .nils, .int .i64 0, .int .i64 0]), (8, .own 2 ([] : List AV))] Q) (outX 0 (goC (evalPK call lp c_pleachref13_Skips_3) (retPK [.cell 6 (some 7), .tmp 7] [.n, .f 2]))))) := by kernel_rfl
def f_pleachref13_Skips {s : PSpecs} (hs : s.lookup 24 = none) (v0_0 v0_1 v0_2 v0_3 v0_4 v0_5 v0_6 v1 v2 : AV) (Q : AHeap) := (callP_fn (E := penv s) (f := 24) (fn := pf_pleachref13_Skips) hs rfl [.agg [v0_0, v0_1, v0_2, v0_3, v0_4, v0_5, v0_6], v1, v2] Q rfl).trans (g_pleachref13_Skips (call := callP (penv s)) (lp := loopP (penv s)) v0_0 v0_1 v0_2 v0_3 v0_4 v0_5 v0_6 v1 v2 Q)
theorem p_pleachref13_Goes_0 {β : Type} (call : CallF) (lp : PLoopF) (s1_0 s1_1 s1_2 s1_3 s1_4 s1_5 s1_6 s2_0 s2_1 s2_2 s2_3 s2_4 s2_5 s2_6 : AV) (l4 : List AV) (Q : AHeap) (k : PK β) : evalPK call lp c_pleachref13_Goes_0 [(1, .lp 1 0), (2, .lp 2 0), (4, .ls 4)] [(1, .cells [s1_0, s1_1, s1_2, s1_3, s1_4, s1_5, s1_6]), (2, .cells [s2_0, s2_1, s2_2, s2_3, s2_4, s2_5, s2_6]), (4, .own 2 l4)] Q k = (
  bnS (call 68 [s1_3, s1_0] Q) fun w13_1 Q2 => 
  bnP (extA (frz w13_1) 0) fun w14_3 => 
  bnP (extA (frz w13_1) 1) fun w15_4 => 
  bnP (extA (frz w13_1) 2) fun w16_5 => 
  bnC 2 (stC 2 w15_4) fun s6 s7 => 
  bnP (unA .not w16_5) fun w18_8 => 
  cndS w18_8 (fun _ => bnC 7 (stC 7 (.agg [s1_0, s1_1, s1_2, s1_3, s1_4, s1_5, s1_6])) fun s9 s10 s11 s12 s13 s14 s15 => 
  k .ret [(2, .lp 2 0), (3, .ls 3)] [(2, .cells [s9, s10, s11, s12, s13, s14, s15]), (3, .own 2 l4)] Q2)
  (fun _ => bnS (call 43 [s1_4, s6, s7] Q2) fun w28_16 Q17 => 
  bnS (call 69 [s1_2, .agg [s6, s7]] Q17) fun w32_18 Q19 => 
  bnC 1 (stC 1 w14_3) fun s20 => 
  bnC 1 (stC 1 (frz w28_16)) fun s21 => 
  bnC 1 (stC 1 (frz w32_18)) fun s22 => 
  bnP (binA .add s1_0 (.int .i64 1)) fun w38_23 => 
  bnC 1 (stC 1 w38_23) fun s24 => 
  pinB (elOk 2 (.agg [s6, s7])) <| 
  pinB (room 24 ((l4 : List AV).length + (([.agg [s6, s7]] : List AV) : List AV).length)) <| 
  k .normal [(1, .lp 1 0), (2, .lp 2 0), (4, .ls 4)] [(1, .cells [s24, s1_1, s22, s20, s21, .int .i64 0, .int .i64 0]), (2, .cells [s2_0, s2_1, s2_2, s2_3, s2_4, s2_5, s2_6]), (4, .own 2 (l4 ++ ([.agg [s6, s7]] : List AV)))] Q19)) := by kernel_rfl
noncomputable def L_pleachref13_Goes_0 (s : PSpecs) (s1_0 s1_1 s1_2 s1_3 s1_4 s1_5 s1_6 s2_0 s2_1 s2_2 s2_3 s2_4 s2_5 s2_6 : AV) (l4 : List AV) (Q : AHeap) : Option PEnd := loopP (penv s) c_pleachref13_Goes_0 [(1, .lp 1 0), (2, .lp 2 0), (4, .ls 4)] [(1, .cells [s1_0, s1_1, s1_2, s1_3, s1_4, s1_5, s1_6]), (2, .cells [s2_0, s2_1, s2_2, s2_3, s2_4, s2_5, s2_6]), (4, .own 2 l4)] Q
theorem L_pleachref13_Goes_0_fold (s : PSpecs) (s1_0 s1_1 s1_2 s1_3 s1_4 s1_5 s1_6 s2_0 s2_1 s2_2 s2_3 s2_4 s2_5 s2_6 : AV) (l4 : List AV) (Q : AHeap) : loopP (penv s) c_pleachref13_Goes_0 [(1, .lp 1 0), (2, .lp 2 0), (4, .ls 4)] [(1, .cells [s1_0, s1_1, s1_2, s1_3, s1_4, s1_5, s1_6]), (2, .cells [s2_0, s2_1, s2_2, s2_3, s2_4, s2_5, s2_6]), (4, .own 2 l4)] Q = L_pleachref13_Goes_0 s s1_0 s1_1 s1_2 s1_3 s1_4 s1_5 s1_6 s2_0 s2_1 s2_2 s2_3 s2_4 s2_5 s2_6 l4 Q := rfl
theorem L_pleachref13_Goes_0_eq (s : PSpecs) (s1_0 s1_1 s1_2 s1_3 s1_4 s1_5 s1_6 s2_0 s2_1 s2_2 s2_3 s2_4 s2_5 s2_6 : AV) (l4 : List AV) (Q : AHeap) : L_pleachref13_Goes_0 s s1_0 s1_1 s1_2 s1_3 s1_4 s1_5 s1_6 s2_0 s2_1 s2_2 s2_3 s2_4 s2_5 s2_6 l4 Q = evalPK (callP (penv s)) (loopP (penv s)) c_pleachref13_Goes_0 [(1, .lp 1 0), (2, .lp 2 0), (4, .ls 4)] [(1, .cells [s1_0, s1_1, s1_2, s1_3, s1_4, s1_5, s1_6]), (2, .cells [s2_0, s2_1, s2_2, s2_3, s2_4, s2_5, s2_6]), (4, .own 2 l4)] Q (goX (fun τ ω Q => loopP (penv s) c_pleachref13_Goes_0 τ ω Q) ret4) := loopP_body
abbrev X_pleachref13_Goes_0_ret (s2_0 s2_1 s2_2 s2_3 s2_4 s2_5 s2_6 : AV) (l3 : List AV) (Q : AHeap) : Option PEnd := some (.ret, [(2, .lp 2 0), (3, .ls 3)], [(2, .cells [s2_0, s2_1, s2_2, s2_3, s2_4, s2_5, s2_6]), (3, .own 2 l3)], Q)
theorem g_pleachref13_Goes {call : CallF} {lp : PLoopF} (v0_0 v0_1 v0_2 v0_3 v0_4 v0_5 v0_6 : AV) (Q : AHeap) : evalPK call lp c_pleachref13_Goes [(0, .v (.agg [v0_0, v0_1, v0_2, v0_3, v0_4, v0_5, v0_6]))] [] Q (retPK [.cell 2 (some 7), .tmp 3] [.n, .f 2]) = (
  bnC 7 (stC 7 (.agg [v0_0, v0_1, v0_2, v0_3, v0_4, v0_5, v0_6])) fun s1 s2 s3 s4 s5 s6 s7 => 
  bnX (lp c_pleachref13_Goes_0 [(1, .lp 1 0), (2, .lp 2 0), (4, .ls 4)] [(1, .cells [s1, s2, s3, s4, s5, s6, s7]), (2, .cells [.int .i64 0, .int .i64 0, .nils, .nils, .nils, .int .i64 0, .int .i64 0]), (4, .own 2 ([] : List AV))] Q) (outX 0 (retPK [.cell 2 (some 7), .tmp 3] [.n, .f 2]))) := by kernel_rfl
def f_pleachref13_Goes {s : PSpecs} (hs : s.lookup 27 = none) (v0_0 v0_1 v0_2 v0_3 v0_4 v0_5 v0_6 : AV) (Q : AHeap) := (callP_fn (E := penv s) (f := 27) (fn := pf_pleachref13_Goes) hs rfl [.agg [v0_0, v0_1, v0_2, v0_3, v0_4, v0_5, v0_6]] Q rfl).trans (g_pleachref13_Goes (call := callP (penv s)) (lp := loopP (penv s)) v0_0 v0_1 v0_2 v0_3 v0_4 v0_5 v0_6 Q)
theorem p_pleachref13_SameEvents_0 {β : Type} (call : CallF) (lp : PLoopF) (t0 t1 t5 : AV) (Q : AHeap) (k : PK β) : evalPK call lp c_pleachref13_SameEvents_0 [(0, .v t0), (1, .v t1), (5, .v t5)] [] Q k = (
  bnP (lenQ t0) fun w13_1 => 
  bnP (binA .lss t5 w13_1) fun w14_2 => 
  cndS w14_2 (fun _ => bnP (elQ 5 t0 t5) fun e3 => 
  bnC 5 (cut (AV.cells e3) 0 5) fun c20_4 c20_5 c20_6 c20_7 c20_8 => 
  bnP (elQ 5 t1 t5) fun e9 => 
  bnC 5 (cut (AV.cells e9) 0 5) fun c24_10 c24_11 c24_12 c24_13 c24_14 => 
  bnP (eqsA true (.st [(0, 1, .i), (1, 1, .i), (2, 1, .i), (3, 1, .s), (4, 1, .i)]) (.agg [c20_4, c20_5, c20_6, c20_7, c20_8]) (.agg [c24_10, c24_11, c24_12, c24_13, c24_14])) fun w25_15 => 
  cndS w25_15 (fun _ => k .ret [(4, .v (.bool false))] [] Q)
  (fun _ => bnP (binA .add t5 (.int .i64 1)) fun w16_16 => 
  k .normal [(0, .v t0), (1, .v t1), (5, .v w16_16)] [] Q))
  (fun _ => k (.exit 0) [] [] Q)) := by kernel_rfl
noncomputable def L_pleachref13_SameEvents_0 (s : PSpecs) (t0 t1 t5 : AV) (Q : AHeap) : Option PEnd := loopP (penv s) c_pleachref13_SameEvents_0 [(0, .v t0), (1, .v t1), (5, .v t5)] [] Q
theorem L_pleachref13_SameEvents_0_fold (s : PSpecs) (t0 t1 t5 : AV) (Q : AHeap) : loopP (penv s) c_pleachref13_SameEvents_0 [(0, .v t0), (1, .v t1), (5, .v t5)] [] Q = L_pleachref13_SameEvents_0 s t0 t1 t5 Q := rfl
theorem L_pleachref13_SameEvents_0_eq (s : PSpecs) (t0 t1 t5 : AV) (Q : AHeap) : L_pleachref13_SameEvents_0 s t0 t1 t5 Q = evalPK (callP (penv s)) (loopP (penv s)) c_pleachref13_SameEvents_0 [(0, .v t0), (1, .v t1), (5, .v t5)] [] Q (goX (fun τ ω Q => loopP (penv s) c_pleachref13_SameEvents_0 τ ω Q) ret4) := loopP_body
abbrev X_pleachref13_SameEvents_0_x0 (Q : AHeap) : Option PEnd := some (.exit 0, [], [], Q)
abbrev X_pleachref13_SameEvents_0_ret (t4 : AV) (Q : AHeap) : Option PEnd := some (.ret, [(4, .v t4)], [], Q)
theorem p_pleachref13_SameEvents_1 {β : Type} (call : CallF) (lp : PLoopF) (Q : AHeap) (k : PK β) : evalPK call lp c_pleachref13_SameEvents_1 [] [] Q k = (
  k .ret [(4, .v (.bool true))] [] Q) := by kernel_rfl
theorem g_pleachref13_SameEvents {call : CallF} {lp : PLoopF} (v0 v1 : AV) (Q : AHeap) : evalPK call lp c_pleachref13_SameEvents [(0, .v v0), (1, .v v1)] [] Q (retPK [.tmp 4] [.n]) = (
  bnP (lenQ v0) fun w7_1 => 
  bnP (lenQ v1) fun w9_2 => 
  bnP (binA .neq w7_1 w9_2) fun w10_3 => 
  cndS w10_3 (fun _ => some (.bool false, Q))
  (fun _ => bnX (lp c_pleachref13_SameEvents_0 [(0, .v v0), (1, .v v1), (5, .v (.int .i64 0))] [] Q) (outX 0 (goC (evalPK call lp c_pleachref13_SameEvents_1) (retPK [.tmp 4] [.n]))))) := by kernel_rfl
def f_pleachref13_SameEvents {s : PSpecs} (hs : s.lookup 28 = none) (v0 v1 : AV) (Q : AHeap) := (callP_fn (E := penv s) (f := 28) (fn := pf_pleachref13_SameEvents) hs rfl [v0, v1] Q rfl).trans (g_pleachref13_SameEvents (call := callP (penv s)) (lp := loopP (penv s)) v0 v1 Q)
theorem p_pleachref13_Get_0 {β : Type} (call : CallF) (lp : PLoopF) (t0 t1 t6 : AV) (Q : AHeap) (k : PK β) : evalPK call lp c_pleachref13_Get_0 [(0, .v t0), (1, .v t1), (6, .v t6)] [] Q k = (
  bnP (lenQ t0) fun w9_1 => 
  bnP (binA .lss t6 w9_1) fun w10_2 => 
  cndS w10_2 (fun _ => bnP (elQ 2 t0 t6) fun e3 => 
  bnP ((AV.cells e3)[0]?) fun w17_4 => 
  bnP (binA .eql w17_4 t1) fun w19_5 => 
  cndS w19_5 (fun _ => bnP (elQ 2 t0 t6) fun e6 => 
  bnP ((AV.cells e6)[1]?) fun w24_7 => 
  k .ret [(4, .v w24_7), (5, .v (.bool true))] [] Q)
  (fun _ => bnP (binA .add t6 (.int .i64 1)) fun w12_8 => 
  k .normal [(0, .v t0), (1, .v t1), (6, .v w12_8)] [] Q))
  (fun _ => k (.exit 0) [] [] Q)) := by kernel_rfl
noncomputable def L_pleachref13_Get_0 (s : PSpecs) (t0 t1 t6 : AV) (Q : AHeap) : Option PEnd := loopP (penv s) c_pleachref13_Get_0 [(0, .v t0), (1, .v t1), (6, .v t6)] [] Q
theorem L_pleachref13_Get_0_fold (s : PSpecs) (t0 t1 t6 : AV) (Q : AHeap) : loopP (penv s) c_pleachref13_Get_0 [(0, .v t0), (1, .v t1), (6, .v t6)] [] Q = L_pleachref13_Get_0 s t0 t1 t6 Q := rfl
theorem L_pleachref13_Get_0_eq (s : PSpecs) (t0 t1 t6 : AV) (Q : AHeap) : L_pleachref13_Get_0 s t0 t1 t6 Q = evalPK (callP (penv s)) (loopP (penv s)) c_pleachref13_Get_0 [(0, .v t0), (1, .v t1), (6, .v t6)] [] Q (goX (fun τ ω Q => loopP (penv s) c_pleachref13_Get_0 τ ω Q) ret4) := loopP_body
abbrev X_pleachref13_Get_0_x0 (Q : AHeap) : Option PEnd := some (.exit 0, [], [], Q)
abbrev X_pleachref13_Get_0_ret (t4 t5 : AV) (Q : AHeap) : Option PEnd := some (.ret, [(4, .v t4), (5, .v t5)], [], Q)
theorem p_pleachref13_Get_1 {β : Type} (call : CallF) (lp : PLoopF) (Q : AHeap) (k : PK β) : evalPK call lp c_pleachref13_Get_1 [] [] Q k = (
  k .ret [(5, .v (.bool false)), (4, .v (.str []))] [] Q) := by kernel_rfl
theorem g_pleachref13_Get {call : CallF} {lp : PLoopF} (v0 v1 : AV) (Q : AHeap) : evalPK call lp c_pleachref13_Get [(0, .v v0), (1, .v v1)] [] Q (retPK [.tmp 4, .tmp 5] [.n, .n]) = (
  bnX (lp c_pleachref13_Get_0 [(0, .v v0), (1, .v v1), (6, .v (.int .i64 0))] [] Q) (outX 0 (goC (evalPK call lp c_pleachref13_Get_1) (retPK [.tmp 4, .tmp 5] [.n, .n])))) := by kernel_rfl
def f_pleachref13_Get {s : PSpecs} (hs : s.lookup 29 = none) (v0 v1 : AV) (Q : AHeap) := (callP_fn (E := penv s) (f := 29) (fn := pf_pleachref13_Get) hs rfl [v0, v1] Q rfl).trans (g_pleachref13_Get (call := callP (penv s)) (lp := loopP (penv s)) v0 v1 Q)
theorem p_pleachref1_HasSpan_0 {β : Type} (call : CallF) (lp : PLoopF) (t0 t1 t5 : AV) (Q : AHeap) (k : PK β) : evalPK call lp c_pleachref1_HasSpan_0 [(0, .v t0), (1, .v t1), (5, .v t5)] [] Q k = (
  bnP (lenQ t0) fun w8_1 => 
  bnP (binA .lss t5 w8_1) fun w9_2 => 
  cndS w9_2 (fun _ => bnP (elQ 2 t0 t5) fun e3 => 
  bnP ((AV.cells e3)[0]?) fun w17_4 => 
  bnP (binA .geq t1 w17_4) fun w18_5 => 
  bnP (gdQ w18_5 true (some t1)) fun w20_6 => 
  bnP (gdQ w18_5 true (some t0)) fun w21_7 => 
  bnP (gdQ w18_5 true (some t5)) fun w22_8 => 
  bnP (gdQ w18_5 true (elQ 2 w21_7 w22_8)) fun e9 => 
  bnP (gdQ w18_5 true ((AV.cells e9)[1]?)) fun w25_10 => 
  bnP (gdQ w18_5 true (binA .leq w20_6 w25_10)) fun w26_11 => 
  bnP (pickA w18_5 w26_11 (.bool false)) fun w27_12 => 
  cndS w27_12 (fun _ => k .ret [(4, .v (.bool true))] [] Q)
  (fun _ => bnP (binA .add t5 (.int .i64 1)) fun w11_13 => 
  k .normal [(0, .v t0), (1, .v t1), (5, .v w11_13)] [] Q))
  (fun _ => k (.exit 0) [] [] Q)) := by kernel_rfl
noncomputable def L_pleachref1_HasSpan_0 (s : PSpecs) (t0 t1 t5 : AV) (Q : AHeap) : Option PEnd := loopP (penv s) c_pleachref1_HasSpan_0 [(0, .v t0), (1, .v t1), (5, .v t5)] [] Q
theorem L_pleachref1_HasSpan_0_fold (s : PSpecs) (t0 t1 t5 : AV) (Q : AHeap) : loopP (penv s) c_pleachref1_HasSpan_0 [(0, .v t0), (1, .v t1), (5, .v t5)] [] Q = L_pleachref1_HasSpan_0 s t0 t1 t5 Q := rfl
theorem L_pleachref1_HasSpan_0_eq (s : PSpecs) (t0 t1 t5 : AV) (Q : AHeap) : L_pleachref1_HasSpan_0 s t0 t1 t5 Q = evalPK (callP (penv s)) (loopP (penv s)) c_pleachref1_HasSpan_0 [(0, .v t0), (1, .v t1), (5, .v t5)] [] Q (goX (fun τ ω Q => loopP (penv s) c_pleachref1_HasSpan_0 τ ω Q) ret4) := loopP_body
abbrev X_pleachref1_HasSpan_0_x0 (Q : AHeap) : Option PEnd := some (.exit 0, [], [], Q)
abbrev X_pleachref1_HasSpan_0_ret (t4 : AV) (Q : AHeap) : Option PEnd := some (.ret, [(4, .v t4)], [], Q)
theorem p_pleachref1_HasSpan_1 {β : Type} (call : CallF) (lp : PLoopF) (Q : AHeap) (k : PK β) : evalPK call lp c_pleachref1_HasSpan_1 [] [] Q k = (
  k .ret [(4, .v (.bool false))] [] Q) := by kernel_rfl
theorem g_pleachref1_HasSpan {call : CallF} {lp : PLoopF} (v0 v1 : AV) (Q : AHeap) : evalPK call lp c_pleachref1_HasSpan [(0, .v v0), (1, .v v1)] [] Q (retPK [.tmp 4] [.n]) = (
  bnX (lp c_pleachref1_HasSpan_0 [(0, .v v0), (1, .v v1), (5, .v (.int .i64 0))] [] Q) (outX 0 (goC (evalPK call lp c_pleachref1_HasSpan_1) (retPK [.tmp 4] [.n])))) := by kernel_rfl
def f_pleachref1_HasSpan {s : PSpecs} (hs : s.lookup 30 = none) (v0 v1 : AV) (Q : AHeap) := (callP_fn (E := penv s) (f := 30) (fn := pf_pleachref1_HasSpan) hs rfl [v0, v1] Q rfl).trans (g_pleachref1_HasSpan (call := callP (penv s)) (lp := loopP (penv s)) v0 v1 Q)
theorem p_pleachref13_MayLog_0 {β : Type} (call : CallF) (lp : PLoopF) (t0 t6 s7_0 s7_1 s7_2 s7_3 s7_4 : AV) (Q : AHeap) (k : PK β) : evalPK call lp c_pleachref13_MayLog_0 [(0, .v t0), (6, .v t6), (7, .lp 7 0)] [(7, .cells [s7_0, s7_1, s7_2, s7_3, s7_4])] Q k = (
  bnP (binA .add s7_2 (.int .i64 1)) fun w74_1 => 
  k .normal [(0, .v t0), (5, .v w74_1), (6, .v t6)] [] Q) := by kernel_rfl
theorem p_pleachref13_MayLog_1 {β : Type} (call : CallF) (lp : PLoopF) (t0 t5 t6 : AV) (Q : AHeap) (k : PK β) : evalPK call lp c_pleachref13_MayLog_1 [(0, .v t0), (5, .v t5), (6, .v t6)] [] Q k = (
  bnP (binA .add t6 (.int .i64 1)) fun w16_1 => 
  k .normal [(0, .v t0), (5, .v t5), (6, .v w16_1)] [] Q) := by kernel_rfl
theorem p_pleachref13_MayLog_2 {β : Type} (call : CallF) (lp : PLoopF) (t0 t5 t6 : AV) (Q : AHeap) (k : PK β) : evalPK call lp c_pleachref13_MayLog_2 [(0, .v t0), (5, .v t5), (6, .v t6)] [] Q k = (
  bnP (lenQ t0) fun w13_1 => 
  bnP (binA .lss t6 w13_1) fun w14_2 => 
  cndS w14_2 (fun _ => bnX (bnX (bnP (elQ 5 t0 t6) fun e3 => 
  bnC 5 (cut (AV.cells e3) 0 5) fun c20_4 c20_5 c20_6 c20_7 c20_8 => 
  bnC 5 (stC 5 (.agg [c20_4, c20_5, c20_6, c20_7, c20_8])) fun s9 s10 s11 s12 s13 => 
  bnP (binA .neq s10 t5) fun w24_14 => 
  bnP (gdQ w24_14 false (some s11)) fun w27_15 => 
  bnP (gdQ w24_14 false (some s10)) fun w29_16 => 
  bnP (gdQ w24_14 false (binA .lss w27_15 w29_16)) fun w30_17 => 
  bnP (pickA w24_14 (.bool true) w30_17) fun w31_18 => 
  bnP (gdQ w31_18 false (some s11)) fun w34_19 => 
  bnP (gdQ w31_18 false (binA .gtr w34_19 (.int .i64 1000000))) fun w35_20 => 
  bnP (pickA w31_18 (.bool true) w35_20) fun w36_21 => 
  cndS w36_21 (fun _ => some (.ret, [(4, .v (.bool false))], [], Q))
  (fun _ => bnX (bnX (bnP (binA .eql s9 (.int .i64 1)) fun w40_22 => 
  cndS w40_22 (fun _ => bnP (binA .neq s11 s10) fun w45_23 => 
  bnP (gdQ w45_23 false (some s12)) fun w48_24 => 
  bnP (gdQ w45_23 false (lensA w48_24)) fun w49_25 => 
  bnP (gdQ w45_23 false (binA .gtr w49_25 (.int .i64 12))) fun w50_26 => 
  bnP (pickA w45_23 (.bool true) w50_26) fun w51_27 => 
  bnP (gdQ w51_27 false (some s13)) fun w54_28 => 
  bnP (gdQ w51_27 false (binA .neq w54_28 (.int .i64 0))) fun w55_29 => 
  bnP (pickA w51_27 (.bool true) w55_29) fun w56_30 => 
  cndS w56_30 (fun _ => some (.ret, [(4, .v (.bool false))], [], Q))
  (fun _ => some (.normal, [(0, .v t0), (6, .v t6), (7, .lp 7 0)], [(7, .cells [s9, s10, s11, s12, s13])], Q)))
  (fun _ => bnP (binA .eql s9 (.int .i64 2)) fun w58_31 => 
  cndS w58_31 (fun _ => bnP (binA .neq s12 (.str [])) fun w61_32 => 
  bnP (gdQ w61_32 false (some s13)) fun w64_33 => 
  bnP (gdQ w61_32 false (binA .neq w64_33 (.int .i64 1))) fun w65_34 => 
  bnP (gdQ w61_32 false (some w65_34)) fun w66_35 => 
  bnP (gdQ w66_35 true (some s13)) fun w68_36 => 
  bnP (gdQ w66_35 true (binA .neq w68_36 (.int .i64 2))) fun w69_37 => 
  bnP (gdQ w61_32 false (pickA w66_35 w69_37 (.bool false))) fun w70_38 => 
  bnP (pickA w61_32 (.bool true) w70_38) fun w71_39 => 
  cndS w71_39 (fun _ => some (.ret, [(4, .v (.bool false))], [], Q))
  (fun _ => some (.normal, [(0, .v t0), (6, .v t6), (7, .lp 7 0)], [(7, .cells [s9, s10, s11, s12, s13])], Q)))
  (fun _ => some (.ret, [(4, .v (.bool false))], [], Q))))
  (outX 2 ret4))
  (goC (evalPK call lp c_pleachref13_MayLog_0) ret4)))
  (outX 1 ret4))
  (goC (evalPK call lp c_pleachref13_MayLog_1) k))
  (fun _ => k (.exit 0) [] [] Q)) := by kernel_rfl
noncomputable def L_pleachref13_MayLog_2 (s : PSpecs) (t0 t5 t6 : AV) (Q : AHeap) : Option PEnd := loopP (penv s) c_pleachref13_MayLog_2 [(0, .v t0), (5, .v t5), (6, .v t6)] [] Q
theorem L_pleachref13_MayLog_2_fold (s : PSpecs) (t0 t5 t6 : AV) (Q : AHeap) : loopP (penv s) c_pleachref13_MayLog_2 [(0, .v t0), (5, .v t5), (6, .v t6)] [] Q = L_pleachref13_MayLog_2 s t0 t5 t6 Q := rfl
theorem L_pleachref13_MayLog_2_eq (s : PSpecs) (t0 t5 t6 : AV) (Q : AHeap) : L_pleachref13_MayLog_2 s t0 t5 t6 Q = evalPK (callP (penv s)) (loopP (penv s)) c_pleachref13_MayLog_2 [(0, .v t0), (5, .v t5), (6, .v t6)] [] Q (goX (fun τ ω Q => loopP (penv s) c_pleachref13_MayLog_2 τ ω Q) ret4) := loopP_body
abbrev X_pleachref13_MayLog_2_x0 (Q : AHeap) : Option PEnd := some (.exit 0, [], [], Q)
theorem p_pleachref13_MayLog_3 {β : Type} (call : CallF) (lp : PLoopF) (Q : AHeap) (k : PK β) : evalPK call lp c_pleachref13_MayLog_3 [] [] Q k = (
  k .ret [(4, .v (.bool true))] [] Q) := by kernel_rfl
theorem g_pleachref13_MayLog {call : CallF} {lp : PLoopF} (v0 v1 : AV) (Q : AHeap) : evalPK call lp c_pleachref13_MayLog [(0, .v v0), (1, .v v1)] [] Q (retPK [.tmp 4] [.n]) = (
  bnP (binA .lss v1 (.int .i64 1)) fun w9_1 => 
  cndS w9_1 (fun _ => some (.bool false, Q))
  (fun _ => bnX (lp c_pleachref13_MayLog_2 [(0, .v v0), (5, .v v1), (6, .v (.int .i64 0))] [] Q) (outX 0 (goC (evalPK call lp c_pleachref13_MayLog_3) (retPK [.tmp 4] [.n]))))) := by kernel_rfl
def f_pleachref13_MayLog {s : PSpecs} (hs : s.lookup 31 = none) (v0 v1 : AV) (Q : AHeap) := (callP_fn (E := penv s) (f := 31) (fn := pf_pleachref13_MayLog) hs rfl [v0, v1] Q rfl).trans (g_pleachref13_MayLog (call := callP (penv s)) (lp := loopP (penv s)) v0 v1 Q)
theorem g_pleachref13_NextLog {call : CallF} {lp : PLoopF} (v0 v1 : AV) (Q : AHeap) : evalPK call lp c_pleachref13_NextLog [(0, .v v0), (1, .v v1)] [] Q (retPK [.tmp 4] [.n]) = (
  bnP (lenQ v0) fun w6_1 => 
  bnP (binA .eql w6_1 (.int .i64 0)) fun w7_2 => 
  cndS w7_2 (fun _ => bnP (rcv false .n v1) fun r3 => some (r3, Q))
  (fun _ => bnP (lenQ v0) fun w11_4 => 
  bnP (binA .sub w11_4 (.int .i64 1)) fun w12_5 => 
  bnP (elQ 5 v0 w12_5) fun e6 => 
  bnP ((AV.cells e6)[2]?) fun w15_7 => 
  bnP (binA .add w15_7 (.int .i64 1)) fun w16_8 => 
  bnP (rcv false .n w16_8) fun r9 => some (r9, Q))) := by kernel_rfl
def f_pleachref13_NextLog {s : PSpecs} (hs : s.lookup 32 = none) (v0 v1 : AV) (Q : AHeap) := (callP_fn (E := penv s) (f := 32) (fn := pf_pleachref13_NextLog) hs rfl [v0, v1] Q rfl).trans (g_pleachref13_NextLog (call := callP (penv s)) (lp := loopP (penv s)) v0 v1 Q)
theorem g_pleachref13_Comes {call : CallF} {lp : PLoopF} (v0_0 v0_1 v0_2 v0_3 v0_4 v0_5 v0_6 v1_0 v1_1 : AV) (Q : AHeap) : evalPK call lp c_pleachref13_Comes [(0, .v (.agg [v0_0, v0_1, v0_2, v0_3, v0_4, v0_5, v0_6])), (1, .v (.agg [v1_0, v1_1]))] [] Q (retPK [.cell 4 (some 7)] [.n]) = (
  bnC 7 (stC 7 (.agg [v0_0, v0_1, v0_2, v0_3, v0_4, v0_5, v0_6])) fun s1 s2 s3 s4 s5 s6 s7 => 
  bnC 2 (stC 2 (.agg [v1_0, v1_1])) fun s8 s9 => 
  bnP (binA .eql s1 (.int .i64 0)) fun w7_10 => 
  bnP (gdQ w7_10 false (some s8)) fun w10_11 => 
  bnP (gdQ w7_10 false (binA .lss w10_11 (.int .i64 1))) fun w11_12 => 
  bnP (pickA w7_10 (.bool true) w11_12) fun w12_13 => 
  bnP (gdQ w12_13 false (some s8)) fun w15_14 => 
  bnP (gdQ w12_13 false (binA .gtr w15_14 (.int .i64 1000000))) fun w16_15 => 
  bnP (pickA w12_13 (.bool true) w16_15) fun w17_16 => 
  bnP (gdQ w17_16 false (some s9)) fun w20_17 => 
  bnP (gdQ w17_16 false (lensA w20_17)) fun w21_18 => 
  bnP (gdQ w17_16 false (binA .gtr w21_18 (.int .i64 12))) fun w22_19 => 
  bnP (pickA w17_16 (.bool true) w22_19) fun w23_20 => 
  cndS w23_20 (fun _ => bnC 7 (stC 7 (.agg [s1, s2, s3, s4, s5, s6, s7])) fun s21 s22 s23 s24 s25 s26 s27 => 
  some (.agg [s21, s22, s23, s24, s25, s26, s27], Q))
  (fun _ => bnS (call 58 [.agg [s1, s2, s3, s4, s5, s6, s7], s8] Q) fun w28_28 Q29 => 
  bnC 7 (stC 7 (frz w28_28)) fun s30 s31 s32 s33 s34 s35 s36 => 
  bnS (call 71 [s33, s30, .agg [s8, s9]] Q29) fun w35_37 Q38 => 
  bnP (extA (frz w35_37) 0) fun w36_39 => 
  bnP (extA (frz w35_37) 1) fun w37_40 => 
  bnC 1 (stC 1 w36_39) fun s41 => 
  bnS (call 27 [.agg [s30, s31, s32, s41, s34, s35, s36]] Q38) fun w41_42 Q43 => 
  bnP (extA (frz w41_42) 0) fun w42_44 => 
  bnP (extA (frz w41_42) 1) fun w43_45 => 
  bnC 7 (stC 7 w42_44) fun s46 s47 s48 s49 s50 s51 s52 => 
  bnC 7 (stC 7 (.agg [s46, s47, s48, s49, s50, s51, s52])) fun s53 s54 s55 s56 s57 s58 s59 => 
  some (.agg [s53, s54, s55, s56, s57, s58, s59], Q43))) := by kernel_rfl
def f_pleachref13_Comes {s : PSpecs} (hs : s.lookup 34 = none) (v0_0 v0_1 v0_2 v0_3 v0_4 v0_5 v0_6 v1_0 v1_1 : AV) (Q : AHeap) := (callP_fn (E := penv s) (f := 34) (fn := pf_pleachref13_Comes) hs rfl [.agg [v0_0, v0_1, v0_2, v0_3, v0_4, v0_5, v0_6], .agg [v1_0, v1_1]] Q rfl).trans (g_pleachref13_Comes (call := callP (penv s)) (lp := loopP (penv s)) v0_0 v0_1 v0_2 v0_3 v0_4 v0_5 v0_6 v1_0 v1_1 Q)
theorem g_pleachref13_Notes {call : CallF} {lp : PLoopF} (v0_0 v0_1 v0_2 v0_3 v0_4 v0_5 v0_6 v1 v2 : AV) (Q : AHeap) : evalPK call lp c_pleachref13_Notes [(0, .v (.agg [v0_0, v0_1, v0_2, v0_3, v0_4, v0_5, v0_6])), (1, .v v1), (2, .v v2)] [] Q (retPK [.cell 6 (some 7)] [.n]) = (
  bnC 7 (stC 7 (.agg [v0_0, v0_1, v0_2, v0_3, v0_4, v0_5, v0_6])) fun s1 s2 s3 s4 s5 s6 s7 => 
  bnP (binA .eql s1 (.int .i64 0)) fun w9_8 => 
  bnP (gdQ w9_8 false (some v1)) fun w11_9 => 
  bnP (gdQ w9_8 false (some v2)) fun w12_10 => 
  bnP (gdQ w9_8 false ((fillP [.int .i64 0, .int .i64 0] [(0, 1, w11_9), (1, 1, w12_10)]).map AV.agg)) fun w13_11 => 
  bnS (gdH w9_8 false (call 70 [w13_11] Q) Q) fun w14_12 Q13 => 
  bnP (gdQ w9_8 false (unA .not (frz w14_12))) fun w15_14 => 
  bnP (pickA w9_8 (.bool true) w15_14) fun w16_15 => 
  cndS w16_15 (fun _ => bnC 7 (stC 7 (.agg [s1, s2, s3, s4, s5, s6, s7])) fun s16 s17 s18 s19 s20 s21 s22 => 
  some (.agg [s16, s17, s18, s19, s20, s21, s22], Q13))
  (fun _ => bnS (call 58 [.agg [s1, s2, s3, s4, s5, s6, s7], v2] Q13) fun w20_23 Q24 => 
  bnC 7 (stC 7 (frz w20_23)) fun s25 s26 s27 s28 s29 s30 s31 => 
  bnP (binA .lss s25 v1) fun w24_32 => 
  bnP (gdQ w24_32 false (some s25)) fun w27_33 => 
  bnP (gdQ w24_32 false (some v2)) fun w28_34 => 
  bnP (gdQ w24_32 false (binA .gtr w27_33 w28_34)) fun w29_35 => 
  bnP (pickA w24_32 (.bool true) w29_35) fun w30_36 => 
  cndS w30_36 (fun _ => bnC 7 (stC 7 (.agg [s25, s26, s27, s28, s29, s30, s31])) fun s37 s38 s39 s40 s41 s42 s43 => 
  some (.agg [s37, s38, s39, s40, s41, s42, s43], Q24))
  (fun _ => bnS (call 24 [.agg [s25, s26, s27, s28, s29, s30, s31], v2, .int .i64 1] Q24) fun w35_44 Q45 => 
  bnP (extA (frz w35_44) 0) fun w36_46 => 
  bnP (extA (frz w35_44) 1) fun w37_47 => 
  bnC 7 (stC 7 w36_46) fun s48 s49 s50 s51 s52 s53 s54 => 
  bnS (call 27 [.agg [s48, s49, s50, s51, s52, s53, s54]] Q45) fun w40_55 Q56 => 
  bnP (extA (frz w40_55) 0) fun w41_57 => 
  bnP (extA (frz w40_55) 1) fun w42_58 => 
  bnC 7 (stC 7 w41_57) fun s59 s60 s61 s62 s63 s64 s65 => 
  bnC 7 (stC 7 (.agg [s59, s60, s61, s62, s63, s64, s65])) fun s66 s67 s68 s69 s70 s71 s72 => 
  some (.agg [s66, s67, s68, s69, s70, s71, s72], Q56)))) := by kernel_rfl
def f_pleachref13_Notes {s : PSpecs} (hs : s.lookup 35 = none) (v0_0 v0_1 v0_2 v0_3 v0_4 v0_5 v0_6 v1 v2 : AV) (Q : AHeap) := (callP_fn (E := penv s) (f := 35) (fn := pf_pleachref13_Notes) hs rfl [.agg [v0_0, v0_1, v0_2, v0_3, v0_4, v0_5, v0_6], v1, v2] Q rfl).trans (g_pleachref13_Notes (call := callP (penv s)) (lp := loopP (penv s)) v0_0 v0_1 v0_2 v0_3 v0_4 v0_5 v0_6 v1 v2 Q)
theorem g_log_Tell {call : CallF} {lp : PLoopF} (v0 v1 v2 : AV) (Q : AHeap) : evalPK call lp c_log_Tell [(0, .v v0), (1, .v v1), (2, .v v2)] [] Q (retPK [.tmp 6] [.o 5]) = (
  bnS (call 74 [v0] Q) fun w8_1 Q2 => bnL (owZ 5 w8_1) fun l3 => 
  bnC 5 (fillP [.int .i64 0, .int .i64 0, .int .i64 0, .str [], .int .i64 0] [(0, 1, .int .i64 1), (1, 1, v1), (2, 1, v1), (3, 1, v2)]) fun c12_4 c12_5 c12_6 c12_7 c12_8 => 
  pinB (elOk 5 (.agg [c12_4, c12_5, c12_6, c12_7, c12_8])) <| 
  pinB (room 48 ((l3 : List AV).length + (([.agg [c12_4, c12_5, c12_6, c12_7, c12_8]] : List AV) : List AV).length)) <| 
  some (.ow 5 (l3 ++ ([.agg [c12_4, c12_5, c12_6, c12_7, c12_8]] : List AV)), Q2)) := by kernel_rfl
def f_log_Tell {s : PSpecs} (hs : s.lookup 42 = none) (v0 v1 v2 : AV) (Q : AHeap) := (callP_fn (E := penv s) (f := 42) (fn := pf_log_Tell) hs rfl [v0, v1, v2] Q rfl).trans (g_log_Tell (call := callP (penv s)) (lp := loopP (penv s)) v0 v1 v2 Q)
theorem g_pleachref13_Tell {call : CallF} {lp : PLoopF} (v0 v1 v2 : AV) (Q : AHeap) : evalPK call lp c_pleachref13_Tell [(0, .v v0), (1, .v v1), (2, .v v2)] [] Q (retPK [.tmp 6] [.o 5]) = (
  bnL (srcT [] 5 (.v v0)) fun l1 => 
  pinB (room 48 ((([] : List AV) : List AV).length + (l1 : List AV).length)) <| 
  bnC 5 (fillP [.int .i64 0, .int .i64 0, .int .i64 0, .str [], .int .i64 0] [(0, 1, .int .i64 1), (1, 1, v1), (2, 1, v1), (3, 1, v2)]) fun c13_2 c13_3 c13_4 c13_5 c13_6 => 
  pinB (elOk 5 (.agg [c13_2, c13_3, c13_4, c13_5, c13_6])) <| 
  pinB (room 48 (((([] : List AV) ++ l1) : List AV).length + (([.agg [c13_2, c13_3, c13_4, c13_5, c13_6]] : List AV) : List AV).length)) <| 
  some (.ow 5 ((([] : List AV) ++ l1) ++ ([.agg [c13_2, c13_3, c13_4, c13_5, c13_6]] : List AV)), Q)) := by kernel_rfl
def f_pleachref13_Tell {s : PSpecs} (hs : s.lookup 43 = none) (v0 v1 v2 : AV) (Q : AHeap) := (callP_fn (E := penv s) (f := 43) (fn := pf_pleachref13_Tell) hs rfl [v0, v1, v2] Q rfl).trans (g_pleachref13_Tell (call := callP (penv s)) (lp := loopP (penv s)) v0 v1 v2 Q)
theorem g_log_Skip {call : CallF} {lp : PLoopF} (v0 v1 v2 v3 : AV) (Q : AHeap) : evalPK call lp c_log_Skip [(0, .v v0), (1, .v v1), (2, .v v2), (3, .v v3)] [] Q (retPK [.tmp 8] [.o 5]) = (
  bnS (call 74 [v0] Q) fun w10_1 Q2 => bnL (owZ 5 w10_1) fun l3 => 
  bnC 5 (fillP [.int .i64 0, .int .i64 0, .int .i64 0, .str [], .int .i64 0] [(0, 1, .int .i64 2), (1, 1, v1), (2, 1, v2), (4, 1, v3)]) fun c14_4 c14_5 c14_6 c14_7 c14_8 => 
  pinB (elOk 5 (.agg [c14_4, c14_5, c14_6, c14_7, c14_8])) <| 
  pinB (room 48 ((l3 : List AV).length + (([.agg [c14_4, c14_5, c14_6, c14_7, c14_8]] : List AV) : List AV).length)) <| 
  some (.ow 5 (l3 ++ ([.agg [c14_4, c14_5, c14_6, c14_7, c14_8]] : List AV)), Q2)) := by kernel_rfl
def f_log_Skip {s : PSpecs} (hs : s.lookup 44 = none) (v0 v1 v2 v3 : AV) (Q : AHeap) := (callP_fn (E := penv s) (f := 44) (fn := pf_log_Skip) hs rfl [v0, v1, v2, v3] Q rfl).trans (g_log_Skip (call := callP (penv s)) (lp := loopP (penv s)) v0 v1 v2 v3 Q)
theorem g_pleachref13_Skip {call : CallF} {lp : PLoopF} (v0 v1 v2 v3 : AV) (Q : AHeap) : evalPK call lp c_pleachref13_Skip [(0, .v v0), (1, .v v1), (2, .v v2), (3, .v v3)] [] Q (retPK [.tmp 8] [.o 5]) = (
  bnL (srcT [] 5 (.v v0)) fun l1 => 
  pinB (room 48 ((([] : List AV) : List AV).length + (l1 : List AV).length)) <| 
  bnC 5 (fillP [.int .i64 0, .int .i64 0, .int .i64 0, .str [], .int .i64 0] [(0, 1, .int .i64 2), (1, 1, v1), (2, 1, v2), (4, 1, v3)]) fun c15_2 c15_3 c15_4 c15_5 c15_6 => 
  pinB (elOk 5 (.agg [c15_2, c15_3, c15_4, c15_5, c15_6])) <| 
  pinB (room 48 (((([] : List AV) ++ l1) : List AV).length + (([.agg [c15_2, c15_3, c15_4, c15_5, c15_6]] : List AV) : List AV).length)) <| 
  some (.ow 5 ((([] : List AV) ++ l1) ++ ([.agg [c15_2, c15_3, c15_4, c15_5, c15_6]] : List AV)), Q)) := by kernel_rfl
def f_pleachref13_Skip {s : PSpecs} (hs : s.lookup 45 = none) (v0 v1 v2 v3 : AV) (Q : AHeap) := (callP_fn (E := penv s) (f := 45) (fn := pf_pleachref13_Skip) hs rfl [v0, v1, v2, v3] Q rfl).trans (g_pleachref13_Skip (call := callP (penv s)) (lp := loopP (penv s)) v0 v1 v2 v3 Q)
theorem p_pleachref13_Begin_0 {β : Type} (call : CallF) (lp : PLoopF) (s2_0 s2_1 s2_2 s2_3 s2_4 s2_5 s2_6 s4_0 s4_1 s4_2 s4_3 s4_4 s4_5 s4_6 : AV) (Q : AHeap) (k : PK β) : evalPK call lp c_pleachref13_Begin_0 [(2, .lp 2 0), (4, .lp 4 0)] [(2, .cells [s2_0, s2_1, s2_2, s2_3, s2_4, s2_5, s2_6]), (4, .cells [s4_0, s4_1, s4_2, s4_3, s4_4, s4_5, s4_6])] Q k = (
  bnC 7 (stC 7 (.agg [s2_0, s2_1, s2_2, s2_3, s2_4, s2_5, s2_6])) fun s1 s2 s3 s4 s5 s6 s7 => 
  k .ret [(20, .v (.agg [s2_0, s2_1, s2_2, s2_3, s2_4, s2_5, s2_6])), (2, .lp 2 0), (4, .lp 4 0)] [(4, .cells [s1, s2, s3, s4, s5, s6, s7]), (2, .cells [s2_0, s2_1, s2_2, s2_3, s2_4, s2_5, s2_6])] Q) := by kernel_rfl
theorem g_pleachref13_Begin {call : CallF} {lp : PLoopF} (v0_0 v0_1 v0_2 v0_3 v0_4 v0_5 v0_6 v1 : AV) (Q : AHeap) : evalPK call lp c_pleachref13_Begin [(0, .v (.agg [v0_0, v0_1, v0_2, v0_3, v0_4, v0_5, v0_6])), (1, .v v1)] [] Q (retPK [.cell 4 (some 7)] [.n]) = (
  bnC 7 (stC 7 (.agg [v0_0, v0_1, v0_2, v0_3, v0_4, v0_5, v0_6])) fun s1 s2 s3 s4 s5 s6 s7 => 
  bnP (binA .gtr s1 (.int .i64 0)) fun w7_8 => 
  cndS w7_8 (fun _ => bnP (binA .sub v1 (.int .i64 1)) fun w10_9 => 
  bnS (call 58 [.agg [s1, s2, s3, s4, s5, s6, s7], w10_9] Q) fun w11_10 Q11 => 
  bnC 7 (stC 7 (frz w11_10)) fun s12 s13 s14 s15 s16 s17 s18 => 
  some (.agg [s12, s13, s14, s15, s16, s17, s18], Q11))
  (fun _ => bnX (bnP (binA .geq v1 (.int .i64 1)) fun w13_19 => 
  bnP (gdQ w13_19 true (some v1)) fun w15_20 => 
  bnP (gdQ w13_19 true (binA .leq w15_20 (.int .i64 1000000))) fun w16_21 => 
  bnP (pickA w13_19 w16_21 (.bool false)) fun w17_22 => 
  cndS w17_22 (fun _ => bnC 1 (stC 1 v1) fun s23 => 
  some (.normal, [(2, .lp 2 0), (4, .lp 4 0)], [(2, .cells [s23, s2, s3, s4, s5, s6, s7]), (4, .cells [.int .i64 0, .int .i64 0, .nils, .nils, .nils, .int .i64 0, .int .i64 0])], Q))
  (fun _ => some (.normal, [(2, .lp 2 0), (4, .lp 4 0)], [(2, .cells [s1, s2, s3, s4, s5, s6, s7]), (4, .cells [.int .i64 0, .int .i64 0, .nils, .nils, .nils, .int .i64 0, .int .i64 0])], Q)))
  (goC (evalPK call lp c_pleachref13_Begin_0) (retPK [.cell 4 (some 7)] [.n])))) := by kernel_rfl
def f_pleachref13_Begin {s : PSpecs} (hs : s.lookup 55 = none) (v0_0 v0_1 v0_2 v0_3 v0_4 v0_5 v0_6 v1 : AV) (Q : AHeap) := (callP_fn (E := penv s) (f := 55) (fn := pf_pleachref13_Begin) hs rfl [.agg [v0_0, v0_1, v0_2, v0_3, v0_4, v0_5, v0_6], v1] Q rfl).trans (g_pleachref13_Begin (call := callP (penv s)) (lp := loopP (penv s)) v0_0 v0_1 v0_2 v0_3 v0_4 v0_5 v0_6 v1 Q)
theorem g_pleachmade_Picks_Num {call : CallF} {lp : PLoopF} (v0 v1 : AV) (Q : AHeap) : evalPK call lp c_pleachmade_Picks_Num [(0, .v v0), (1, .v v1)] [] Q (retPK [.tmp 4] [.n]) = (
  bnP (nckQ v0) fun w6_1 => 
  bnP (fadQ 1 w6_1) fun w7_2 => 
  bnP (ldQ Q w7_2) fun w8_3 => 
  bnP (nckQ v0) fun w10_4 => 
  bnP (fadQ 0 w10_4) fun w11_5 => 
  bnP (ldQ Q w11_5) fun w12_6 => 
  bnP (lenQ w12_6) fun w13_7 => 
  bnP (binA .geq w8_3 w13_7) fun w14_8 => 
  bnP (gdQ w14_8 false (some v1)) fun w16_9 => 
  bnP (gdQ w14_8 false (binA .lss w16_9 (.int .i64 1))) fun w17_10 => 
  bnP (pickA w14_8 (.bool true) w17_10) fun w18_11 => 
  cndS w18_11 (fun _ => some (.int .i64 0, Q))
  (fun _ => bnP (nckQ v0) fun w20_12 => 
  bnP (fadQ 1 w20_12) fun w21_13 => 
  bnP (ldQ Q w21_13) fun w22_14 => 
  bnP (binA .add w22_14 (.int .i64 1)) fun w23_15 => 
  bnP (nckQ v0) fun w24_16 => 
  bnP (fadQ 1 w24_16) fun w25_17 => 
  bnS (stA Q 1 w25_17 w23_15) fun _ Q18 => 
  bnP (nckQ v0) fun w27_19 => 
  bnP (fadQ 0 w27_19) fun w28_20 => 
  bnP (ldQ Q18 w28_20) fun w29_21 => 
  bnP (nckQ v0) fun w31_22 => 
  bnP (fadQ 1 w31_22) fun w32_23 => 
  bnP (ldQ Q18 w32_23) fun w33_24 => 
  bnP (binA .sub w33_24 (.int .i64 1)) fun w34_25 => 
  bnP (elQ 1 w29_21 w34_25) fun e26 => 
  bnP ((AV.cells e26)[0]?) fun w36_27 => 
  bnP (cviA .i64 w36_27) fun w37_28 => 
  bnP (binA .rem w37_28 v1) fun w39_29 => 
  bnP (rcv false .n w39_29) fun r30 => some (r30, Q18))) := by kernel_rfl
def f_pleachmade_Picks_Num {s : PSpecs} (hs : s.lookup 56 = none) (v0 v1 : AV) (Q : AHeap) := (callP_fn (E := penv s) (f := 56) (fn := pf_pleachmade_Picks_Num) hs rfl [v0, v1] Q rfl).trans (g_pleachmade_Picks_Num (call := callP (penv s)) (lp := loopP (penv s)) v0 v1 Q)
theorem g_pleachmade_Picks_Over {call : CallF} {lp : PLoopF} (v0 : AV) (Q : AHeap) : evalPK call lp c_pleachmade_Picks_Over [(0, .v v0)] [] Q (retPK [.tmp 2] [.n]) = (
  bnP (nckQ v0) fun w4_1 => 
  bnP (fadQ 1 w4_1) fun w5_2 => 
  bnP (ldQ Q w5_2) fun w6_3 => 
  bnP (nckQ v0) fun w8_4 => 
  bnP (fadQ 0 w8_4) fun w9_5 => 
  bnP (ldQ Q w9_5) fun w10_6 => 
  bnP (lenQ w10_6) fun w11_7 => 
  bnP (binA .geq w6_3 w11_7) fun w12_8 => 
  bnP (rcv false .n w12_8) fun r9 => some (r9, Q)) := by kernel_rfl
def f_pleachmade_Picks_Over {s : PSpecs} (hs : s.lookup 57 = none) (v0 : AV) (Q : AHeap) := (callP_fn (E := penv s) (f := 57) (fn := pf_pleachmade_Picks_Over) hs rfl [v0] Q rfl).trans (g_pleachmade_Picks_Over (call := callP (penv s)) (lp := loopP (penv s)) v0 Q)
theorem p_pleachref13_Knows_0 {β : Type} (call : CallF) (lp : PLoopF) (s2_0 s2_1 s2_2 s2_3 s2_4 s2_5 s2_6 s4_0 s4_1 s4_2 s4_3 s4_4 s4_5 s4_6 : AV) (Q : AHeap) (k : PK β) : evalPK call lp c_pleachref13_Knows_0 [(2, .lp 2 0), (4, .lp 4 0)] [(2, .cells [s2_0, s2_1, s2_2, s2_3, s2_4, s2_5, s2_6]), (4, .cells [s4_0, s4_1, s4_2, s4_3, s4_4, s4_5, s4_6])] Q k = (
  bnC 7 (stC 7 (.agg [s2_0, s2_1, s2_2, s2_3, s2_4, s2_5, s2_6])) fun s1 s2 s3 s4 s5 s6 s7 => 
  k .ret [(17, .v (.agg [s2_0, s2_1, s2_2, s2_3, s2_4, s2_5, s2_6])), (2, .lp 2 0), (4, .lp 4 0)] [(4, .cells [s1, s2, s3, s4, s5, s6, s7]), (2, .cells [s2_0, s2_1, s2_2, s2_3, s2_4, s2_5, s2_6])] Q) := by kernel_rfl
theorem g_pleachref13_Knows {call : CallF} {lp : PLoopF} (v0_0 v0_1 v0_2 v0_3 v0_4 v0_5 v0_6 v1 : AV) (Q : AHeap) : evalPK call lp c_pleachref13_Knows [(0, .v (.agg [v0_0, v0_1, v0_2, v0_3, v0_4, v0_5, v0_6])), (1, .v v1)] [] Q (retPK [.cell 4 (some 7)] [.n]) = (
  bnC 7 (stC 7 (.agg [v0_0, v0_1, v0_2, v0_3, v0_4, v0_5, v0_6])) fun s1 s2 s3 s4 s5 s6 s7 => 
  bnX (bnP (binA .gtr s1 (.int .i64 0)) fun w7_8 => 
  bnP (gdQ w7_8 true (some v1)) fun w9_9 => 
  bnP (gdQ w7_8 true (binA .leq w9_9 (.int .i64 1000000))) fun w10_10 => 
  bnP (pickA w7_8 w10_10 (.bool false)) fun w11_11 => 
  cndS w11_11 (fun _ => bnP (mxiA [s2, v1]) fun w15_12 => 
  bnC 1 (stC 1 w15_12) fun s13 => 
  some (.normal, [(2, .lp 2 0), (4, .lp 4 0)], [(2, .cells [s1, s13, s3, s4, s5, s6, s7]), (4, .cells [.int .i64 0, .int .i64 0, .nils, .nils, .nils, .int .i64 0, .int .i64 0])], Q))
  (fun _ => some (.normal, [(2, .lp 2 0), (4, .lp 4 0)], [(2, .cells [s1, s2, s3, s4, s5, s6, s7]), (4, .cells [.int .i64 0, .int .i64 0, .nils, .nils, .nils, .int .i64 0, .int .i64 0])], Q)))
  (goC (evalPK call lp c_pleachref13_Knows_0) (retPK [.cell 4 (some 7)] [.n]))) := by kernel_rfl
def f_pleachref13_Knows {s : PSpecs} (hs : s.lookup 58 = none) (v0_0 v0_1 v0_2 v0_3 v0_4 v0_5 v0_6 v1 : AV) (Q : AHeap) := (callP_fn (E := penv s) (f := 58) (fn := pf_pleachref13_Knows) hs rfl [.agg [v0_0, v0_1, v0_2, v0_3, v0_4, v0_5, v0_6], v1] Q rfl).trans (g_pleachref13_Knows (call := callP (penv s)) (lp := loopP (penv s)) v0_0 v0_1 v0_2 v0_3 v0_4 v0_5 v0_6 v1 Q)
theorem g_pleachref13_Tick {call : CallF} {lp : PLoopF} (v0_0 v0_1 v0_2 v0_3 v0_4 v0_5 v0_6 v1 : AV) (Q : AHeap) : evalPK call lp c_pleachref13_Tick [(0, .v (.agg [v0_0, v0_1, v0_2, v0_3, v0_4, v0_5, v0_6])), (1, .v v1)] [] Q (retPK [.cell 4 (some 7), .cell 5 (some 2), .tmp 6] [.n, .n, .n]) = (
  bnC 7 (stC 7 (.agg [v0_0, v0_1, v0_2, v0_3, v0_4, v0_5, v0_6])) fun s1 s2 s3 s4 s5 s6 s7 => 
  bnS (call 18 [.agg [s1, s2, s3, s4, s5, s6, s7]] Q) fun w11_8 Q9 => 
  bnP (extA (frz w11_8) 0) fun w12_10 => 
  bnP (extA (frz w11_8) 1) fun w13_11 => 
  bnC 2 (stC 2 w12_10) fun s12 s13 => 
  bnP (unA .not w13_11) fun w15_14 => 
  bnP (gdQ w15_14 false (some (.agg [s6, s7]))) fun w18_15 => 
  bnP (gdQ w15_14 false (some v1)) fun w19_16 => 
  bnS (gdH w15_14 false (call 81 [w18_15, w19_16] Q9) Q9) fun w20_17 Q18 => 
  bnP (gdQ w15_14 false (unA .not (frz w20_17))) fun w21_19 => 
  bnP (pickA w15_14 (.bool true) w21_19) fun w22_20 => 
  cndS w22_20 (fun _ => bnC 7 (stC 7 (.agg [s1, s2, s3, s4, s5, s6, s7])) fun s21 s22 s23 s24 s25 s26 s27 => 
  some (.tup [.agg [s21, s22, s23, s24, s25, s26, s27], .agg [.int .i64 0, .int .i64 0], .bool false], Q18))
  (fun _ => bnP (binA .geq s6 (.int .i64 3)) fun w28_28 => 
  cndS w28_28 (fun _ => bnS (call 24 [.agg [s1, s2, s3, s4, s5, s6, s7], s13, .int .i64 2] Q18) fun w33_29 Q30 => 
  bnP (extA (frz w33_29) 0) fun w34_31 => 
  bnP (extA (frz w33_29) 1) fun w35_32 => 
  bnC 7 (stC 7 w34_31) fun s33 s34 s35 s36 s37 s38 s39 => 
  bnS (call 27 [.agg [s33, s34, s35, s36, s37, s38, s39]] Q30) fun w38_40 Q41 => 
  bnP (extA (frz w38_40) 0) fun w39_42 => 
  bnP (extA (frz w38_40) 1) fun w40_43 => 
  bnC 7 (stC 7 w39_42) fun s44 s45 s46 s47 s48 s49 s50 => 
  bnC 7 (stC 7 (.agg [s44, s45, s46, s47, s48, s49, s50])) fun s51 s52 s53 s54 s55 s56 s57 => 
  some (.tup [.agg [s51, s52, s53, s54, s55, s56, s57], .agg [.int .i64 0, .int .i64 0], .bool false], Q41))
  (fun _ => bnS (call 82 [.agg [s6, s7], v1] Q18) fun w46_58 Q59 => 
  bnC 2 (stC 2 (frz w46_58)) fun s60 s61 => 
  bnC 7 (stC 7 (.agg [s1, s2, s3, s4, s5, s60, s61])) fun s62 s63 s64 s65 s66 s67 s68 => 
  bnC 2 (stC 2 (.agg [s12, s13])) fun s69 s70 => 
  some (.tup [.agg [s62, s63, s64, s65, s66, s67, s68], .agg [s69, s70], .bool true], Q59)))) := by kernel_rfl
def f_pleachref13_Tick {s : PSpecs} (hs : s.lookup 59 = none) (v0_0 v0_1 v0_2 v0_3 v0_4 v0_5 v0_6 v1 : AV) (Q : AHeap) := (callP_fn (E := penv s) (f := 59) (fn := pf_pleachref13_Tick) hs rfl [.agg [v0_0, v0_1, v0_2, v0_3, v0_4, v0_5, v0_6], v1] Q rfl).trans (g_pleachref13_Tick (call := callP (penv s)) (lp := loopP (penv s)) v0_0 v0_1 v0_2 v0_3 v0_4 v0_5 v0_6 v1 Q)
theorem g_pleachmade_Picks_Text {call : CallF} {lp : PLoopF} (v0 : AV) (Q : AHeap) : evalPK call lp c_pleachmade_Picks_Text [(0, .v v0)] [] Q (retPK [.tmp 2] [.n]) = (
  bnS (call 56 [v0, .int .i64 5] Q) fun w5_1 Q2 => 
  bnP (elQ 1 (.fz 1 [.str [], .str [97], .str [98, 99], .str [104, 101, 108, 108, 111], .str [116, 119, 101, 108, 118, 101, 32, 98, 121, 116, 101, 115]]) (frz w5_1)) fun e3 => 
  bnP ((AV.cells e3)[0]?) fun w7_4 => 
  bnP (rcv false .n w7_4) fun r5 => some (r5, Q2)) := by kernel_rfl
def f_pleachmade_Picks_Text {s : PSpecs} (hs : s.lookup 60 = none) (v0 : AV) (Q : AHeap) := (callP_fn (E := penv s) (f := 60) (fn := pf_pleachmade_Picks_Text) hs rfl [v0] Q rfl).trans (g_pleachmade_Picks_Text (call := callP (penv s)) (lp := loopP (penv s)) v0 Q)
theorem g_win_First {call : CallF} {lp : PLoopF} (v0 : AV) (Q : AHeap) : evalPK call lp c_win_First [(0, .v v0)] [] Q (retPK [.tmp 2] [.n]) = (
  bnP (lenQ v0) fun w4_1 => 
  bnP (binA .eql w4_1 (.int .i64 0)) fun w5_2 => 
  cndS w5_2 (fun _ => some (.int .i64 0, Q))
  (fun _ => bnP (elQ 2 v0 (.int .i64 0)) fun e3 => 
  bnP ((AV.cells e3)[0]?) fun w9_4 => 
  bnP (rcv false .n w9_4) fun r5 => some (r5, Q))) := by kernel_rfl
def f_win_First {s : PSpecs} (hs : s.lookup 61 = none) (v0 : AV) (Q : AHeap) := (callP_fn (E := penv s) (f := 61) (fn := pf_win_First) hs rfl [v0] Q rfl).trans (g_win_First (call := callP (penv s)) (lp := loopP (penv s)) v0 Q)
theorem g_pleachref13_First {call : CallF} {lp : PLoopF} (v0 : AV) (Q : AHeap) : evalPK call lp c_pleachref13_First [(0, .v v0)] [] Q (retPK [.tmp 2] [.n]) = (
  bnP (lenQ v0) fun w4_1 => 
  bnP (binA .eql w4_1 (.int .i64 0)) fun w5_2 => 
  cndS w5_2 (fun _ => some (.int .i64 0, Q))
  (fun _ => bnP (elQ 2 v0 (.int .i64 0)) fun e3 => 
  bnP ((AV.cells e3)[0]?) fun w9_4 => 
  bnP (rcv false .n w9_4) fun r5 => some (r5, Q))) := by kernel_rfl
def f_pleachref13_First {s : PSpecs} (hs : s.lookup 62 = none) (v0 : AV) (Q : AHeap) := (callP_fn (E := penv s) (f := 62) (fn := pf_pleachref13_First) hs rfl [v0] Q rfl).trans (g_pleachref13_First (call := callP (penv s)) (lp := loopP (penv s)) v0 Q)
theorem g_nak_twin {call : CallF} {lp : PLoopF} (v0_0 v0_1 v0_2 v0_3 v0_4 v0_5 v0_6 : AV) (Q : AHeap) : evalPK call lp c_nak_twin [(0, .v (.agg [v0_0, v0_1, v0_2, v0_3, v0_4, v0_5, v0_6]))] [] Q (retPK [.cell 2 (some 7)] [.n]) = (
  bnC 7 (stC 7 (.agg [v0_0, v0_1, v0_2, v0_3, v0_4, v0_5, v0_6])) fun s1 s2 s3 s4 s5 s6 s7 => 
  bnS (call 86 [s3] Q) fun w5_8 Q9 => 
  bnS (call 86 [s4] Q9) fun w8_10 Q11 => 
  bnS (call 74 [s5] Q11) fun w11_12 Q13 => 
  bnC 1 (stC 1 (frz w5_8)) fun s14 => 
  bnC 1 (stC 1 (frz w8_10)) fun s15 => 
  bnC 1 (stC 1 (frz w11_12)) fun s16 => 
  bnC 7 (stC 7 (.agg [s1, s2, s14, s15, s16, s6, s7])) fun s17 s18 s19 s20 s21 s22 s23 => 
  some (.agg [s17, s18, s19, s20, s21, s22, s23], Q13)) := by kernel_rfl
def f_nak_twin {s : PSpecs} (hs : s.lookup 64 = none) (v0_0 v0_1 v0_2 v0_3 v0_4 v0_5 v0_6 : AV) (Q : AHeap) := (callP_fn (E := penv s) (f := 64) (fn := pf_nak_twin) hs rfl [.agg [v0_0, v0_1, v0_2, v0_3, v0_4, v0_5, v0_6]] Q rfl).trans (g_nak_twin (call := callP (penv s)) (lp := loopP (penv s)) v0_0 v0_1 v0_2 v0_3 v0_4 v0_5 v0_6 Q)
theorem g_nak_ahead {call : CallF} {lp : PLoopF} (v0_0 v0_1 v0_2 v0_3 v0_4 v0_5 v0_6 v1 : AV) (Q : AHeap) : evalPK call lp c_nak_ahead [(0, .v (.agg [v0_0, v0_1, v0_2, v0_3, v0_4, v0_5, v0_6])), (1, .v v1)] [] Q (retPK [.tmp 4, .tmp 5] [.n, .n]) = (
  bnC 7 (stC 7 (.agg [v0_0, v0_1, v0_2, v0_3, v0_4, v0_5, v0_6])) fun s1 s2 s3 s4 s5 s6 s7 => 
  bnS (call 87 [s4, .fn 88 [] [.cp [s1, s2, s3, s4, s5, s6, s7] 0]] Q) fun w10_8 Q9 => 
  bnP (binA .lss (frz w10_8) (.int .i64 0)) fun w12_10 => 
  bnP (gdQ w12_10 false (fadQ 3 (.cp [s1, s2, s3, s4, s5, s6, s7] 0))) fun w14_11 => 
  bnP (gdQ w12_10 false (ldQ Q9 w14_11)) fun w15_12 => 
  bnP (gdQ w12_10 false (some (frz w10_8))) fun w16_13 => 
  bnP (gdQ w12_10 false (elQ 2 w15_12 w16_13)) fun e14 => 
  bnP (gdQ w12_10 false ((AV.cells e14)[0]?)) fun w19_15 => 
  bnP (gdQ w12_10 false (some v1)) fun w20_16 => 
  bnP (gdQ w12_10 false (binA .gtr w19_15 w20_16)) fun w21_17 => 
  bnP (pickA w12_10 (.bool true) w21_17) fun w22_18 => 
  cndS w22_18 (fun _ => bnP (rcv false .n v1) fun r19 => some (.tup [frz r19, .bool false], Q9))
  (fun _ => bnP (fadQ 3 (.cp [s1, s2, s3, s4, s5, s6, s7] 0)) fun w24_20 => 
  bnP (ldQ Q9 w24_20) fun w25_21 => 
  bnP (elQ 2 w25_21 (frz w10_8)) fun e22 => 
  bnP ((AV.cells e22)[0]?) fun w29_23 => 
  bnP (binA .sub w29_23 (.int .i64 1)) fun w30_24 => 
  bnP (rcv false .n w30_24) fun r25 => some (.tup [frz r25, .bool true], Q9))) := by kernel_rfl
def f_nak_ahead {s : PSpecs} (hs : s.lookup 65 = none) (v0_0 v0_1 v0_2 v0_3 v0_4 v0_5 v0_6 v1 : AV) (Q : AHeap) := (callP_fn (E := penv s) (f := 65) (fn := pf_nak_ahead) hs rfl [.agg [v0_0, v0_1, v0_2, v0_3, v0_4, v0_5, v0_6], v1] Q rfl).trans (g_nak_ahead (call := callP (penv s)) (lp := loopP (penv s)) v0_0 v0_1 v0_2 v0_3 v0_4 v0_5 v0_6 v1 Q)
theorem p_nak_tells_0 {β : Type} (call : CallF) (lp : PLoopF) (s1_0 s1_1 s1_2 s1_3 s1_4 s1_5 s1_6 s2_0 s2_1 s2_2 s2_3 s2_4 s2_5 s2_6 : AV) (l4 : List AV) (Q : AHeap) (k : PK β) : evalPK call lp c_nak_tells_0 [(1, .lp 1 0), (2, .lp 2 0), (4, .ls 4)] [(1, .cells [s1_0, s1_1, s1_2, s1_3, s1_4, s1_5, s1_6]), (2, .cells [s2_0, s2_1, s2_2, s2_3, s2_4, s2_5, s2_6]), (4, .own 2 l4)] Q k = (
  bnS (call 89 [s1_3, s1_0] Q) fun w13_1 Q2 => 
  bnP (extA (frz w13_1) 0) fun w14_3 => 
  bnP (extA (frz w13_1) 1) fun w15_4 => 
  bnP (extA (frz w13_1) 2) fun w16_5 => 
  bnC 2 (stC 2 w15_4) fun s6 s7 => 
  bnP (unA .not w16_5) fun w18_8 => 
  cndS w18_8 (fun _ => k (.exit 0) [(1, .lp 1 0), (2, .lp 2 0), (4, .ls 4)] [(1, .cells [s1_0, s1_1, s1_2, s1_3, s1_4, s1_5, s1_6]), (2, .cells [s2_0, s2_1, s2_2, s2_3, s2_4, s2_5, s2_6]), (4, .own 2 l4)] Q2)
  (fun _ => bnS (call 42 [s1_4, s6, s7] Q2) fun w26_9 Q10 => 
  bnS (call 90 [s1_2, .agg [s6, s7]] Q10) fun w30_11 Q12 => 
  bnC 1 (stC 1 w14_3) fun s13 => 
  bnC 1 (stC 1 (frz w26_9)) fun s14 => 
  bnC 1 (stC 1 (frz w30_11)) fun s15 => 
  bnP (binA .add s1_0 (.int .i64 1)) fun w36_16 => 
  bnC 1 (stC 1 w36_16) fun s17 => 
  pinB (elOk 2 (.agg [s6, s7])) <| 
  pinB (room 24 ((l4 : List AV).length + (([.agg [s6, s7]] : List AV) : List AV).length)) <| 
  k .normal [(1, .lp 1 0), (2, .lp 2 0), (4, .ls 4)] [(1, .cells [s17, s1_1, s15, s13, s14, s1_5, s1_6]), (2, .cells [s2_0, s2_1, s2_2, s2_3, s2_4, s2_5, s2_6]), (4, .own 2 (l4 ++ ([.agg [s6, s7]] : List AV)))] Q12)) := by kernel_rfl
noncomputable def L_nak_tells_0 (s : PSpecs) (s1_0 s1_1 s1_2 s1_3 s1_4 s1_5 s1_6 s2_0 s2_1 s2_2 s2_3 s2_4 s2_5 s2_6 : AV) (l4 : List AV) (Q : AHeap) : Option PEnd := loopP (penv s) c_nak_tells_0 [(1, .lp 1 0), (2, .lp 2 0), (4, .ls 4)] [(1, .cells [s1_0, s1_1, s1_2, s1_3, s1_4, s1_5, s1_6]), (2, .cells [s2_0, s2_1, s2_2, s2_3, s2_4, s2_5, s2_6]), (4, .own 2 l4)] Q
theorem L_nak_tells_0_fold (s : PSpecs) (s1_0 s1_1 s1_2 s1_3 s1_4 s1_5 s1_6 s2_0 s2_1 s2_2 s2_3 s2_4 s2_5 s2_6 : AV) (l4 : List AV) (Q : AHeap) : loopP (penv s) c_nak_tells_0 [(1, .lp 1 0), (2, .lp 2 0), (4, .ls 4)] [(1, .cells [s1_0, s1_1, s1_2, s1_3, s1_4, s1_5, s1_6]), (2, .cells [s2_0, s2_1, s2_2, s2_3, s2_4, s2_5, s2_6]), (4, .own 2 l4)] Q = L_nak_tells_0 s s1_0 s1_1 s1_2 s1_3 s1_4 s1_5 s1_6 s2_0 s2_1 s2_2 s2_3 s2_4 s2_5 s2_6 l4 Q := rfl
theorem L_nak_tells_0_eq (s : PSpecs) (s1_0 s1_1 s1_2 s1_3 s1_4 s1_5 s1_6 s2_0 s2_1 s2_2 s2_3 s2_4 s2_5 s2_6 : AV) (l4 : List AV) (Q : AHeap) : L_nak_tells_0 s s1_0 s1_1 s1_2 s1_3 s1_4 s1_5 s1_6 s2_0 s2_1 s2_2 s2_3 s2_4 s2_5 s2_6 l4 Q = evalPK (callP (penv s)) (loopP (penv s)) c_nak_tells_0 [(1, .lp 1 0), (2, .lp 2 0), (4, .ls 4)] [(1, .cells [s1_0, s1_1, s1_2, s1_3, s1_4, s1_5, s1_6]), (2, .cells [s2_0, s2_1, s2_2, s2_3, s2_4, s2_5, s2_6]), (4, .own 2 l4)] Q (goX (fun τ ω Q => loopP (penv s) c_nak_tells_0 τ ω Q) ret4) := loopP_body
abbrev X_nak_tells_0_x0 (s1_0 s1_1 s1_2 s1_3 s1_4 s1_5 s1_6 s2_0 s2_1 s2_2 s2_3 s2_4 s2_5 s2_6 : AV) (l4 : List AV) (Q : AHeap) : Option PEnd := some (.exit 0, [(1, .lp 1 0), (2, .lp 2 0), (4, .ls 4)], [(1, .cells [s1_0, s1_1, s1_2, s1_3, s1_4, s1_5, s1_6]), (2, .cells [s2_0, s2_1, s2_2, s2_3, s2_4, s2_5, s2_6]), (4, .own 2 l4)], Q)
theorem p_nak_tells_1 {β : Type} (call : CallF) (lp : PLoopF) (s1_0 s1_1 s1_2 s1_3 s1_4 s1_5 s1_6 s2_0 s2_1 s2_2 s2_3 s2_4 s2_5 s2_6 : AV) (l4 : List AV) (Q : AHeap) (k : PK β) : evalPK call lp c_nak_tells_1 [(1, .lp 1 0), (2, .lp 2 0), (4, .ls 4)] [(1, .cells [s1_0, s1_1, s1_2, s1_3, s1_4, s1_5, s1_6]), (2, .cells [s2_0, s2_1, s2_2, s2_3, s2_4, s2_5, s2_6]), (4, .own 2 l4)] Q k = (
  bnC 7 (stC 7 (.agg [s1_0, s1_1, s1_2, s1_3, s1_4, s1_5, s1_6])) fun s1 s2 s3 s4 s5 s6 s7 => 
  k .ret [(3, .ls 4), (48, .ls 4), (47, .v (.agg [s1_0, s1_1, s1_2, s1_3, s1_4, s1_5, s1_6])), (1, .lp 1 0), (2, .lp 2 0), (4, .ls 4)] [(2, .cells [s1, s2, s3, s4, s5, s6, s7]), (1, .cells [s1_0, s1_1, s1_2, s1_3, s1_4, s1_5, s1_6]), (4, .own 2 l4)] Q) := by kernel_rfl
theorem p_nak_tells_2 {β : Type} (call : CallF) (lp : PLoopF) (s1_0 s1_1 s1_2 s1_3 s1_4 s1_5 s1_6 s2_0 s2_1 s2_2 s2_3 s2_4 s2_5 s2_6 : AV) (l4 : List AV) (Q : AHeap) (k : PK β) : evalPK call lp c_nak_tells_2 [(1, .lp 1 0), (2, .lp 2 0), (4, .ls 4)] [(1, .cells [s1_0, s1_1, s1_2, s1_3, s1_4, s1_5, s1_6]), (2, .cells [s2_0, s2_1, s2_2, s2_3, s2_4, s2_5, s2_6]), (4, .own 2 l4)] Q k = (
  bnX (bnP (binA .gtr (.int .i64 ((l4 : List AV).length : Nat)) (.int .i64 0)) fun w44_1 => 
  cndS w44_1 (fun _ => bnS (call 67 [] Q) fun w45_2 Q3 => 
  bnC 2 (stC 2 (frz w45_2)) fun s4 s5 => 
  some (.normal, [(1, .lp 1 0), (2, .lp 2 0), (4, .ls 4)], [(1, .cells [s1_0, s1_1, s1_2, s1_3, s1_4, s4, s5]), (2, .cells [s2_0, s2_1, s2_2, s2_3, s2_4, s2_5, s2_6]), (4, .own 2 l4)], Q3))
  (fun _ => some (.normal, [(1, .lp 1 0), (2, .lp 2 0), (4, .ls 4)], [(1, .cells [s1_0, s1_1, s1_2, s1_3, s1_4, s1_5, s1_6]), (2, .cells [s2_0, s2_1, s2_2, s2_3, s2_4, s2_5, s2_6]), (4, .own 2 l4)], Q)))
  (goC (evalPK call lp c_nak_tells_1) k)) := by kernel_rfl
theorem g_nak_tells {call : CallF} {lp : PLoopF} (v0_0 v0_1 v0_2 v0_3 v0_4 v0_5 v0_6 : AV) (Q : AHeap) : evalPK call lp c_nak_tells [(0, .v (.agg [v0_0, v0_1, v0_2, v0_3, v0_4, v0_5, v0_6]))] [] Q (retPK [.cell 2 (some 7), .tmp 3] [.n, .f 2]) = (
  bnC 7 (stC 7 (.agg [v0_0, v0_1, v0_2, v0_3, v0_4, v0_5, v0_6])) fun s1 s2 s3 s4 s5 s6 s7 => 
  bnX (lp c_nak_tells_0 [(1, .lp 1 0), (2, .lp 2 0), (4, .ls 4)] [(1, .cells [s1, s2, s3, s4, s5, s6, s7]), (2, .cells [.int .i64 0, .int .i64 0, .nils, .nils, .nils, .int .i64 0, .int .i64 0]), (4, .own 2 ([] : List AV))] Q) (outX 0 (goC (evalPK call lp c_nak_tells_2) (retPK [.cell 2 (some 7), .tmp 3] [.n, .f 2])))) := by kernel_rfl
def f_nak_tells {s : PSpecs} (hs : s.lookup 66 = none) (v0_0 v0_1 v0_2 v0_3 v0_4 v0_5 v0_6 : AV) (Q : AHeap) := (callP_fn (E := penv s) (f := 66) (fn := pf_nak_tells) hs rfl [.agg [v0_0, v0_1, v0_2, v0_3, v0_4, v0_5, v0_6]] Q rfl).trans (g_nak_tells (call := callP (penv s)) (lp := loopP (penv s)) v0_0 v0_1 v0_2 v0_3 v0_4 v0_5 v0_6 Q)
theorem g_wait_Start {call : CallF} {lp : PLoopF} (Q : AHeap) : evalPK call lp c_wait_Start [] [] Q (retPK [.cell 0 (some 2)] [.n]) = (
  some (.agg [.int .i64 0, .int .i64 0], Q)) := by kernel_rfl
def f_wait_Start {s : PSpecs} (hs : s.lookup 67 = none) (Q : AHeap) := (callP_fn (E := penv s) (f := 67) (fn := pf_wait_Start) hs rfl [] Q rfl).trans (g_wait_Start (call := callP (penv s)) (lp := loopP (penv s)) Q)
theorem g_pleachref13_TakeWin {call : CallF} {lp : PLoopF} (v0 v1 : AV) (Q : AHeap) : evalPK call lp c_pleachref13_TakeWin [(0, .v v0), (1, .v v1)] [] Q (retPK [.tmp 4, .cell 5 (some 2), .tmp 6] [.f 2, .n, .n]) = (
  bnP (lenQ v0) fun w8_1 => 
  bnP (binA .eql w8_1 (.int .i64 0)) fun w9_2 => 
  bnP (gdQ w9_2 false (some v0)) fun w11_3 => 
  bnP (gdQ w9_2 false (elQ 2 w11_3 (.int .i64 0))) fun e4 => 
  bnP (gdQ w9_2 false ((AV.cells e4)[0]?)) fun w14_5 => 
  bnP (gdQ w9_2 false (some v1)) fun w15_6 => 
  bnP (gdQ w9_2 false (binA .neq w14_5 w15_6)) fun w16_7 => 
  bnP (pickA w9_2 (.bool true) w16_7) fun w17_8 => 
  cndS w17_8 (fun _ => bnP (rcv false (.f 2) v0) fun r9 => some (.tup [frz r9, .agg [.int .i64 0, .str []], .bool false], Q))
  (fun _ => bnP (slcQ 2 v0 (some (.int .i64 1)) none) fun w22_10 => 
  bnP (elQ 2 v0 (.int .i64 0)) fun e11 => 
  bnC 2 (cut (AV.cells e11) 0 2) fun c26_12 c26_13 => 
  bnL (srcT [] 2 (.v w22_10)) fun l14 => 
  pinB (room 24 ((([] : List AV) : List AV).length + (l14 : List AV).length)) <| 
  bnC 2 (stC 2 (.agg [c26_12, c26_13])) fun s15 s16 => 
  some (.tup [.fz 2 (([] : List AV) ++ l14), .agg [s15, s16], .bool true], Q))) := by kernel_rfl
def f_pleachref13_TakeWin {s : PSpecs} (hs : s.lookup 68 = none) (v0 v1 : AV) (Q : AHeap) := (callP_fn (E := penv s) (f := 68) (fn := pf_pleachref13_TakeWin) hs rfl [v0, v1] Q rfl).trans (g_pleachref13_TakeWin (call := callP (penv s)) (lp := loopP (penv s)) v0 v1 Q)
theorem p_pleachref13_AddRing_0 {β : Type} (call : CallF) (lp : PLoopF) (t5 : AV) (Q : AHeap) (k : PK β) : evalPK call lp c_pleachref13_AddRing_0 [(5, .v t5)] [] Q k = (
  k .ret [(4, .v t5), (34, .v t5), (5, .v t5)] [] Q) := by kernel_rfl
theorem g_pleachref13_AddRing {call : CallF} {lp : PLoopF} (v0 v1_0 v1_1 : AV) (Q : AHeap) : evalPK call lp c_pleachref13_AddRing [(0, .v v0), (1, .v (.agg [v1_0, v1_1]))] [] Q (retPK [.tmp 4] [.f 2]) = (
  bnC 2 (stC 2 (.agg [v1_0, v1_1])) fun s1 s2 => 
  bnL (srcT [] 2 (.v v0)) fun l3 => 
  pinB (room 24 ((([] : List AV) : List AV).length + (l3 : List AV).length)) <| 
  bnP (lenQ v0) fun w10_4 => 
  bnP (binA .gtr w10_4 (.int .i64 0)) fun w11_5 => 
  bnP (gdQ w11_5 true (some v0)) fun w13_6 => 
  bnP (gdQ w11_5 true (some v0)) fun w14_7 => 
  bnP (gdQ w11_5 true (lenQ w14_7)) fun w15_8 => 
  bnP (gdQ w11_5 true (binA .sub w15_8 (.int .i64 1))) fun w16_9 => 
  bnP (gdQ w11_5 true (elQ 2 w13_6 w16_9)) fun e10 => 
  bnP (gdQ w11_5 true ((AV.cells e10)[0]?)) fun w19_11 => 
  bnP (gdQ w11_5 true (some s1)) fun w21_12 => 
  bnP (gdQ w11_5 true (binA .geq w19_11 w21_12)) fun w22_13 => 
  bnP (pickA w11_5 w22_13 (.bool false)) fun w23_14 => 
  cndS w23_14 (fun _ => some (.fz 2 (([] : List AV) ++ l3), Q))
  (fun _ => pinB (elOk 2 (.agg [s1, s2])) <| 
  pinB (room 24 (((([] : List AV) ++ l3) : List AV).length + (([.agg [s1, s2]] : List AV) : List AV).length)) <| 
  bnX (bnP (binA .gtr (.int .i64 ((((([] : List AV) ++ l3) ++ ([.agg [s1, s2]] : List AV)) : List AV).length : Nat)) (.int .i64 6)) fun w31_15 => 
  cndS w31_15 (fun _ => bnP (slcQ 2 (.fz 2 ((([] : List AV) ++ l3) ++ ([.agg [s1, s2]] : List AV))) (some (.int .i64 1)) none) fun w33_16 => 
  some (.normal, [(5, .v w33_16)], [], Q))
  (fun _ => some (.normal, [(5, .v (.fz 2 ((([] : List AV) ++ l3) ++ ([.agg [s1, s2]] : List AV))))], [], Q)))
  (goC (evalPK call lp c_pleachref13_AddRing_0) (retPK [.tmp 4] [.f 2])))) := by kernel_rfl
def f_pleachref13_AddRing {s : PSpecs} (hs : s.lookup 69 = none) (v0 v1_0 v1_1 : AV) (Q : AHeap) := (callP_fn (E := penv s) (f := 69) (fn := pf_pleachref13_AddRing) hs rfl [v0, .agg [v1_0, v1_1]] Q rfl).trans (g_pleachref13_AddRing (call := callP (penv s)) (lp := loopP (penv s)) v0 v1_0 v1_1 Q)
theorem g_pleachref1_MaySpan {call : CallF} {lp : PLoopF} (v0_0 v0_1 : AV) (Q : AHeap) : evalPK call lp c_pleachref1_MaySpan [(0, .v (.agg [v0_0, v0_1]))] [] Q (retPK [.tmp 2] [.n]) = (
  bnC 2 (stC 2 (.agg [v0_0, v0_1])) fun s1 s2 => 
  bnP (binA .geq s1 (.int .i64 1)) fun w5_3 => 
  bnP (gdQ w5_3 true (some s1)) fun w8_4 => 
  bnP (gdQ w5_3 true (some s2)) fun w10_5 => 
  bnP (gdQ w5_3 true (binA .leq w8_4 w10_5)) fun w11_6 => 
  bnP (pickA w5_3 w11_6 (.bool false)) fun w12_7 => 
  bnP (gdQ w12_7 true (some s2)) fun w15_8 => 
  bnP (gdQ w12_7 true (binA .leq w15_8 (.int .i64 1000000))) fun w16_9 => 
  bnP (pickA w12_7 w16_9 (.bool false)) fun w17_10 => 
  bnP (rcv false .n w17_10) fun r11 => some (r11, Q)) := by kernel_rfl
def f_pleachref1_MaySpan {s : PSpecs} (hs : s.lookup 70 = none) (v0_0 v0_1 : AV) (Q : AHeap) := (callP_fn (E := penv s) (f := 70) (fn := pf_pleachref1_MaySpan) hs rfl [.agg [v0_0, v0_1]] Q rfl).trans (g_pleachref1_MaySpan (call := callP (penv s)) (lp := loopP (penv s)) v0_0 v0_1 Q)
theorem p_pleachref13_PutWin_0 {β : Type} (call : CallF) (lp : PLoopF) (t0 t11 t12 s5_0 s5_1 : AV) (l10 : List AV) (Q : AHeap) (k : PK β) : evalPK call lp c_pleachref13_PutWin_0 [(0, .v t0), (5, .lp 5 0), (10, .ls 10), (11, .v t11), (12, .v t12)] [(5, .cells [s5_0, s5_1]), (10, .own 2 l10)] Q k = (
  bnP (elQ 2 t0 t12) fun e1 => 
  bnC 2 (cut (AV.cells e1) 0 2) fun c61_2 c61_3 => 
  pinB (elOk 2 (.agg [c61_2, c61_3])) <| 
  pinB (room 24 ((l10 : List AV).length + (([.agg [c61_2, c61_3]] : List AV) : List AV).length)) <| 
  k .normal [(0, .v t0), (5, .lp 5 0), (10, .ls 10), (11, .v t11), (12, .v t12)] [(5, .cells [s5_0, s5_1]), (10, .own 2 (l10 ++ ([.agg [c61_2, c61_3]] : List AV)))] Q) := by kernel_rfl
theorem p_pleachref13_PutWin_1 {β : Type} (call : CallF) (lp : PLoopF) (t0 t11 t12 s5_0 s5_1 : AV) (l10 : List AV) (Q : AHeap) (k : PK β) : evalPK call lp c_pleachref13_PutWin_1 [(0, .v t0), (5, .lp 5 0), (10, .ls 10), (11, .v t11), (12, .v t12)] [(5, .cells [s5_0, s5_1]), (10, .own 2 l10)] Q k = (
  bnP (binA .add t12 (.int .i64 1)) fun w40_1 => 
  k .normal [(0, .v t0), (5, .lp 5 0), (10, .ls 10), (11, .v t11), (12, .v w40_1)] [(5, .cells [s5_0, s5_1]), (10, .own 2 l10)] Q) := by kernel_rfl
theorem p_pleachref13_PutWin_2 {β : Type} (call : CallF) (lp : PLoopF) (t0 t11 t12 s5_0 s5_1 : AV) (l10 : List AV) (Q : AHeap) (k : PK β) : evalPK call lp c_pleachref13_PutWin_2 [(0, .v t0), (5, .lp 5 0), (10, .ls 10), (11, .v t11), (12, .v t12)] [(5, .cells [s5_0, s5_1]), (10, .own 2 l10)] Q k = (
  bnP (lenQ t0) fun w37_1 => 
  bnP (binA .lss t12 w37_1) fun w38_2 => 
  cndS w38_2 (fun _ => bnX (bnX (bnX (bnP (unA .not t11) fun w42_3 => 
  bnP (gdQ w42_3 true (some t0)) fun w44_4 => 
  bnP (gdQ w42_3 true (some t12)) fun w45_5 => 
  bnP (gdQ w42_3 true (elQ 2 w44_4 w45_5)) fun e6 => 
  bnP (gdQ w42_3 true ((AV.cells e6)[0]?)) fun w48_7 => 
  bnP (gdQ w42_3 true (some s5_0)) fun w50_8 => 
  bnP (gdQ w42_3 true (binA .gtr w48_7 w50_8)) fun w51_9 => 
  bnP (pickA w42_3 w51_9 (.bool false)) fun w52_10 => 
  cndS w52_10 (fun _ => pinB (elOk 2 (.agg [s5_0, s5_1])) <| 
  pinB (room 24 ((l10 : List AV).length + (([.agg [s5_0, s5_1]] : List AV) : List AV).length)) <| 
  some (.normal, [(0, .v t0), (5, .lp 5 0), (10, .ls 10), (11, .v (.bool true)), (12, .v t12)], [(5, .cells [s5_0, s5_1]), (10, .own 2 (l10 ++ ([.agg [s5_0, s5_1]] : List AV)))], Q))
  (fun _ => some (.normal, [(0, .v t0), (5, .lp 5 0), (10, .ls 10), (11, .v t11), (12, .v t12)], [(5, .cells [s5_0, s5_1]), (10, .own 2 l10)], Q)))
  (goC (evalPK call lp c_pleachref13_PutWin_0) ret4))
  (outX 1 ret4))
  (goC (evalPK call lp c_pleachref13_PutWin_1) k))
  (fun _ => k (.exit 0) [(5, .lp 5 0), (10, .ls 10), (11, .v t11)] [(5, .cells [s5_0, s5_1]), (10, .own 2 l10)] Q)) := by kernel_rfl
noncomputable def L_pleachref13_PutWin_2 (s : PSpecs) (t0 t11 t12 s5_0 s5_1 : AV) (l10 : List AV) (Q : AHeap) : Option PEnd := loopP (penv s) c_pleachref13_PutWin_2 [(0, .v t0), (5, .lp 5 0), (10, .ls 10), (11, .v t11), (12, .v t12)] [(5, .cells [s5_0, s5_1]), (10, .own 2 l10)] Q
theorem L_pleachref13_PutWin_2_fold (s : PSpecs) (t0 t11 t12 s5_0 s5_1 : AV) (l10 : List AV) (Q : AHeap) : loopP (penv s) c_pleachref13_PutWin_2 [(0, .v t0), (5, .lp 5 0), (10, .ls 10), (11, .v t11), (12, .v t12)] [(5, .cells [s5_0, s5_1]), (10, .own 2 l10)] Q = L_pleachref13_PutWin_2 s t0 t11 t12 s5_0 s5_1 l10 Q := rfl
theorem L_pleachref13_PutWin_2_eq (s : PSpecs) (t0 t11 t12 s5_0 s5_1 : AV) (l10 : List AV) (Q : AHeap) : L_pleachref13_PutWin_2 s t0 t11 t12 s5_0 s5_1 l10 Q = evalPK (callP (penv s)) (loopP (penv s)) c_pleachref13_PutWin_2 [(0, .v t0), (5, .lp 5 0), (10, .ls 10), (11, .v t11), (12, .v t12)] [(5, .cells [s5_0, s5_1]), (10, .own 2 l10)] Q (goX (fun τ ω Q => loopP (penv s) c_pleachref13_PutWin_2 τ ω Q) ret4) := loopP_body
abbrev X_pleachref13_PutWin_2_x0 (t11 s5_0 s5_1 : AV) (l10 : List AV) (Q : AHeap) : Option PEnd := some (.exit 0, [(5, .lp 5 0), (10, .ls 10), (11, .v t11)], [(5, .cells [s5_0, s5_1]), (10, .own 2 l10)], Q)
theorem p_pleachref13_PutWin_3 {β : Type} (call : CallF) (lp : PLoopF) (l10 : List AV) (Q : AHeap) (k : PK β) : evalPK call lp c_pleachref13_PutWin_3 [(10, .ls 10)] [(10, .own 2 l10)] Q k = (
  k .ret [(7, .v (.bool true)), (6, .ls 10), (70, .ls 10), (10, .ls 10)] [(10, .own 2 l10)] Q) := by kernel_rfl
theorem p_pleachref13_PutWin_4 {β : Type} (call : CallF) (lp : PLoopF) (t11 s5_0 s5_1 : AV) (l10 : List AV) (Q : AHeap) (k : PK β) : evalPK call lp c_pleachref13_PutWin_4 [(5, .lp 5 0), (10, .ls 10), (11, .v t11)] [(5, .cells [s5_0, s5_1]), (10, .own 2 l10)] Q k = (
  bnX (bnP (unA .not t11) fun w65_1 => 
  cndS w65_1 (fun _ => pinB (elOk 2 (.agg [s5_0, s5_1])) <| 
  pinB (room 24 ((l10 : List AV).length + (([.agg [s5_0, s5_1]] : List AV) : List AV).length)) <| 
  some (.normal, [(10, .ls 10)], [(10, .own 2 (l10 ++ ([.agg [s5_0, s5_1]] : List AV)))], Q))
  (fun _ => some (.normal, [(10, .ls 10)], [(10, .own 2 l10)], Q)))
  (goC (evalPK call lp c_pleachref13_PutWin_3) k)) := by kernel_rfl
theorem g_pleachref13_PutWin {call : CallF} {lp : PLoopF} (v0 v1 v2_0 v2_1 : AV) (Q : AHeap) : evalPK call lp c_pleachref13_PutWin [(0, .v v0), (1, .v v1), (2, .v (.agg [v2_0, v2_1]))] [] Q (retPK [.tmp 6, .tmp 7] [.f 2, .n]) = (
  bnC 2 (stC 2 (.agg [v2_0, v2_1])) fun s1 s2 => 
  bnS (call 29 [v0, s1] Q) fun w17_3 Q4 => 
  bnP (extA (frz w17_3) 0) fun w18_5 => 
  bnP (extA (frz w17_3) 1) fun w19_6 => 
  bnP (binA .lss s1 v1) fun w23_7 => 
  bnP (gdQ w23_7 false (some s1)) fun w26_8 => 
  bnP (gdQ w23_7 false (some v1)) fun w27_9 => 
  bnP (gdQ w23_7 false (binA .sub w26_8 w27_9)) fun w28_10 => 
  bnP (gdQ w23_7 false (binA .geq w28_10 (.int .i64 8))) fun w29_11 => 
  bnP (pickA w23_7 (.bool true) w29_11) fun w30_12 => 
  bnP (gdQ w30_12 false (some w19_6)) fun w32_13 => 
  bnP (pickA w30_12 (.bool true) w32_13) fun w33_14 => 
  cndS w33_14 (fun _ => bnP (rcv false (.f 2) v0) fun r15 => some (.tup [frz r15, .bool false], Q4))
  (fun _ => bnX (lp c_pleachref13_PutWin_2 [(0, .v v0), (5, .lp 5 0), (10, .ls 10), (11, .v (.bool false)), (12, .v (.int .i64 0))] [(5, .cells [s1, s2]), (10, .own 2 ([] : List AV))] Q4) (outX 0 (goC (evalPK call lp c_pleachref13_PutWin_4) (retPK [.tmp 6, .tmp 7] [.f 2, .n]))))) := by kernel_rfl
def f_pleachref13_PutWin {s : PSpecs} (hs : s.lookup 71 = none) (v0 v1 v2_0 v2_1 : AV) (Q : AHeap) := (callP_fn (E := penv s) (f := 71) (fn := pf_pleachref13_PutWin) hs rfl [v0, v1, .agg [v2_0, v2_1]] Q rfl).trans (g_pleachref13_PutWin (call := callP (penv s)) (lp := loopP (penv s)) v0 v1 v2_0 v2_1 Q)
theorem g_pleachref1_Now {call : CallF} {lp : PLoopF} (v0_0 v0_1 v1 : AV) (Q : AHeap) : evalPK call lp c_pleachref1_Now [(0, .v (.agg [v0_0, v0_1])), (1, .v v1)] [] Q (retPK [.tmp 4] [.n]) = (
  bnC 2 (stC 2 (.agg [v0_0, v0_1])) fun s1 s2 => 
  bnP (binA .eql s1 (.int .i64 0)) fun w7_3 => 
  bnP (gdQ w7_3 false (some v1)) fun w9_4 => 
  bnP (gdQ w7_3 false (some s2)) fun w11_5 => 
  bnP (gdQ w7_3 false (binA .geq w9_4 w11_5)) fun w12_6 => 
  bnP (pickA w7_3 (.bool true) w12_6) fun w13_7 => 
  bnP (rcv false .n w13_7) fun r8 => some (r8, Q)) := by kernel_rfl
def f_pleachref1_Now {s : PSpecs} (hs : s.lookup 81 = none) (v0_0 v0_1 v1 : AV) (Q : AHeap) := (callP_fn (E := penv s) (f := 81) (fn := pf_pleachref1_Now) hs rfl [.agg [v0_0, v0_1], v1] Q rfl).trans (g_pleachref1_Now (call := callP (penv s)) (lp := loopP (penv s)) v0_0 v0_1 v1 Q)
theorem p_pleachref1_Tried_0 {β : Type} (call : CallF) (lp : PLoopF) (t1 t5 t6 s2_0 s2_1 s4_0 s4_1 : AV) (Q : AHeap) (k : PK β) : evalPK call lp c_pleachref1_Tried_0 [(1, .v t1), (2, .lp 2 0), (4, .lp 4 0), (5, .v t5), (6, .v t6)] [(2, .cells [s2_0, s2_1]), (4, .cells [s4_0, s4_1])] Q k = (
  bnP (binA .lss t6 s2_0) fun w10_1 => 
  bnP (gdQ w10_1 true (some t6)) fun w12_2 => 
  bnP (gdQ w10_1 true (binA .lss w12_2 (.int .i64 3))) fun w13_3 => 
  bnP (pickA w10_1 w13_3 (.bool false)) fun w14_4 => 
  cndS w14_4 (fun _ => bnP (binA .mul t5 (.int .i64 2)) fun w18_5 => 
  bnP (binA .add t6 (.int .i64 1)) fun w16_6 => 
  k .normal [(1, .v t1), (2, .lp 2 0), (4, .lp 4 0), (5, .v w18_5), (6, .v w16_6)] [(2, .cells [s2_0, s2_1]), (4, .cells [s4_0, s4_1])] Q)
  (fun _ => k (.exit 0) [(1, .v t1), (2, .lp 2 0), (4, .lp 4 0), (5, .v t5)] [(2, .cells [s2_0, s2_1]), (4, .cells [s4_0, s4_1])] Q)) := by kernel_rfl
noncomputable def L_pleachref1_Tried_0 (s : PSpecs) (t1 t5 t6 s2_0 s2_1 s4_0 s4_1 : AV) (Q : AHeap) : Option PEnd := loopP (penv s) c_pleachref1_Tried_0 [(1, .v t1), (2, .lp 2 0), (4, .lp 4 0), (5, .v t5), (6, .v t6)] [(2, .cells [s2_0, s2_1]), (4, .cells [s4_0, s4_1])] Q
theorem L_pleachref1_Tried_0_fold (s : PSpecs) (t1 t5 t6 s2_0 s2_1 s4_0 s4_1 : AV) (Q : AHeap) : loopP (penv s) c_pleachref1_Tried_0 [(1, .v t1), (2, .lp 2 0), (4, .lp 4 0), (5, .v t5), (6, .v t6)] [(2, .cells [s2_0, s2_1]), (4, .cells [s4_0, s4_1])] Q = L_pleachref1_Tried_0 s t1 t5 t6 s2_0 s2_1 s4_0 s4_1 Q := rfl
theorem L_pleachref1_Tried_0_eq (s : PSpecs) (t1 t5 t6 s2_0 s2_1 s4_0 s4_1 : AV) (Q : AHeap) : L_pleachref1_Tried_0 s t1 t5 t6 s2_0 s2_1 s4_0 s4_1 Q = evalPK (callP (penv s)) (loopP (penv s)) c_pleachref1_Tried_0 [(1, .v t1), (2, .lp 2 0), (4, .lp 4 0), (5, .v t5), (6, .v t6)] [(2, .cells [s2_0, s2_1]), (4, .cells [s4_0, s4_1])] Q (goX (fun τ ω Q => loopP (penv s) c_pleachref1_Tried_0 τ ω Q) ret4) := loopP_body
abbrev X_pleachref1_Tried_0_x0 (t1 t5 s2_0 s2_1 s4_0 s4_1 : AV) (Q : AHeap) : Option PEnd := some (.exit 0, [(1, .v t1), (2, .lp 2 0), (4, .lp 4 0), (5, .v t5)], [(2, .cells [s2_0, s2_1]), (4, .cells [s4_0, s4_1])], Q)
theorem p_pleachref1_Tried_1 {β : Type} (call : CallF) (lp : PLoopF) (t1 t5 s2_0 s2_1 s4_0 s4_1 : AV) (Q : AHeap) (k : PK β) : evalPK call lp c_pleachref1_Tried_1 [(1, .v t1), (2, .lp 2 0), (4, .lp 4 0), (5, .v t5)] [(2, .cells [s2_0, s2_1]), (4, .cells [s4_0, s4_1])] Q k = (
  bnP (binA .add s2_0 (.int .i64 1)) fun w21_1 => 
  bnP (binA .add t1 t5) fun w24_2 => 
  bnC 2 (fillP [.int .i64 0, .int .i64 0] [(0, 1, w21_1), (1, 1, w24_2)]) fun c25_3 c25_4 => 
  bnC 2 (stC 2 (.agg [c25_3, c25_4])) fun s5 s6 => 
  k .ret [(25, .v (.agg [c25_3, c25_4])), (24, .v w24_2), (23, .v t5), (22, .v t1), (21, .v w21_1), (20, .v s2_0), (19, .lp 2 0), (1, .v t1), (2, .lp 2 0), (4, .lp 4 0), (5, .v t5)] [(4, .cells [s5, s6]), (2, .cells [s2_0, s2_1])] Q) := by kernel_rfl
theorem g_pleachref1_Tried {call : CallF} {lp : PLoopF} (v0_0 v0_1 v1 : AV) (Q : AHeap) : evalPK call lp c_pleachref1_Tried [(0, .v (.agg [v0_0, v0_1])), (1, .v v1)] [] Q (retPK [.cell 4 (some 2)] [.n]) = (
  bnC 2 (stC 2 (.agg [v0_0, v0_1])) fun s1 s2 => 
  bnX (lp c_pleachref1_Tried_0 [(1, .v v1), (2, .lp 2 0), (4, .lp 4 0), (5, .v (.int .i64 2)), (6, .v (.int .i64 0))] [(2, .cells [s1, s2]), (4, .cells [.int .i64 0, .int .i64 0])] Q) (outX 0 (goC (evalPK call lp c_pleachref1_Tried_1) (retPK [.cell 4 (some 2)] [.n])))) := by kernel_rfl
def f_pleachref1_Tried {s : PSpecs} (hs : s.lookup 82 = none) (v0_0 v0_1 v1 : AV) (Q : AHeap) := (callP_fn (E := penv s) (f := 82) (fn := pf_pleachref1_Tried) hs rfl [.agg [v0_0, v0_1], v1] Q rfl).trans (g_pleachref1_Tried (call := callP (penv s)) (lp := loopP (penv s)) v0_0 v0_1 v1 Q)
theorem p_slices_IndexFunc_api_Item_api_Item_0 {β : Type} (call : CallF) (lp : PLoopF) (t0 t1 t7 t8 : AV) (Q : AHeap) (k : PK β) : evalPK call lp c_slices_IndexFunc_api_Item_api_Item_0 [(0, .v t0), (1, .v t1), (7, .v t7), (8, .v t8)] [] Q k = (
  bnP (binA .lss t8 t7) fun w9_1 => 
  cndS w9_1 (fun _ => bnP (elQ 2 t0 t8) fun e2 => 
  bnC 2 (cut (AV.cells e2) 0 2) fun c15_3 c15_4 => 
  bnF t1 fun f7 f7f f7c => 
  bnS (lowF call f7 (f7f ++ [.agg [c15_3, c15_4]] ++ f7c) Q) fun w16_5 Q6 => 
  cndS (frz w16_5) (fun _ => k .ret [(4, .v t8)] [] Q6)
  (fun _ => bnP (binA .add t8 (.int .i64 1)) fun w18_8 => 
  k .normal [(0, .v t0), (1, .v t1), (7, .v t7), (8, .v w18_8)] [] Q6))
  (fun _ => k (.exit 0) [] [] Q)) := by kernel_rfl
noncomputable def L_slices_IndexFunc_api_Item_api_Item_0 (s : PSpecs) (t0 t1 t7 t8 : AV) (Q : AHeap) : Option PEnd := loopP (penv s) c_slices_IndexFunc_api_Item_api_Item_0 [(0, .v t0), (1, .v t1), (7, .v t7), (8, .v t8)] [] Q
theorem L_slices_IndexFunc_api_Item_api_Item_0_fold (s : PSpecs) (t0 t1 t7 t8 : AV) (Q : AHeap) : loopP (penv s) c_slices_IndexFunc_api_Item_api_Item_0 [(0, .v t0), (1, .v t1), (7, .v t7), (8, .v t8)] [] Q = L_slices_IndexFunc_api_Item_api_Item_0 s t0 t1 t7 t8 Q := rfl
theorem L_slices_IndexFunc_api_Item_api_Item_0_eq (s : PSpecs) (t0 t1 t7 t8 : AV) (Q : AHeap) : L_slices_IndexFunc_api_Item_api_Item_0 s t0 t1 t7 t8 Q = evalPK (callP (penv s)) (loopP (penv s)) c_slices_IndexFunc_api_Item_api_Item_0 [(0, .v t0), (1, .v t1), (7, .v t7), (8, .v t8)] [] Q (goX (fun τ ω Q => loopP (penv s) c_slices_IndexFunc_api_Item_api_Item_0 τ ω Q) ret4) := loopP_body
abbrev X_slices_IndexFunc_api_Item_api_Item_0_x0 (Q : AHeap) : Option PEnd := some (.exit 0, [], [], Q)
abbrev X_slices_IndexFunc_api_Item_api_Item_0_ret (t4 : AV) (Q : AHeap) : Option PEnd := some (.ret, [(4, .v t4)], [], Q)
theorem p_slices_IndexFunc_api_Item_api_Item_1 {β : Type} (call : CallF) (lp : PLoopF) (Q : AHeap) (k : PK β) : evalPK call lp c_slices_IndexFunc_api_Item_api_Item_1 [] [] Q k = (
  k .ret [(4, .v (.int .i64 (-1)))] [] Q) := by kernel_rfl
theorem g_slices_IndexFunc_api_Item_api_Item {call : CallF} {lp : PLoopF} (v0 v1 : AV) (Q : AHeap) : evalPK call lp c_slices_IndexFunc_api_Item_api_Item [(0, .v v0), (1, .v v1)] [] Q (retPK [.tmp 4] [.n]) = (
  bnP (lenQ v0) fun w7_1 => 
  bnX (lp c_slices_IndexFunc_api_Item_api_Item_0 [(0, .v v0), (1, .v v1), (7, .v w7_1), (8, .v (.int .i64 0))] [] Q) (outX 0 (goC (evalPK call lp c_slices_IndexFunc_api_Item_api_Item_1) (retPK [.tmp 4] [.n])))) := by kernel_rfl
def f_slices_IndexFunc_api_Item_api_Item {s : PSpecs} (hs : s.lookup 87 = none) (v0 v1 : AV) (Q : AHeap) := (callP_fn (E := penv s) (f := 87) (fn := pf_slices_IndexFunc_api_Item_api_Item) hs rfl [v0, v1] Q rfl).trans (g_slices_IndexFunc_api_Item_api_Item (call := callP (penv s)) (lp := loopP (penv s)) v0 v1 Q)
theorem g_nak_ahead_1 {call : CallF} {lp : PLoopF} (v0_0 v0_1 v1 : AV) (Q : AHeap) : evalPK call lp c_nak_ahead_1 [(0, .v (.agg [v0_0, v0_1])), (1, .v v1)] [] Q (retPK [.tmp 3] [.n]) = (
  bnC 2 (stC 2 (.agg [v0_0, v0_1])) fun s1 s2 => 
  bnP (fadQ 0 v1) fun w6_3 => 
  bnP (ldQ Q w6_3) fun w7_4 => 
  bnP (binA .geq s1 w7_4) fun w8_5 => 
  bnP (rcv false .n w8_5) fun r6 => some (r6, Q)) := by kernel_rfl
def f_nak_ahead_1 {s : PSpecs} (hs : s.lookup 88 = none) (v0_0 v0_1 v1 : AV) (Q : AHeap) := (callP_fn (E := penv s) (f := 88) (fn := pf_nak_ahead_1) hs rfl [.agg [v0_0, v0_1], v1] Q rfl).trans (g_nak_ahead_1 (call := callP (penv s)) (lp := loopP (penv s)) v0_0 v0_1 v1 Q)
theorem g_win_Take {call : CallF} {lp : PLoopF} (v0 v1 : AV) (Q : AHeap) : evalPK call lp c_win_Take [(0, .v v0), (1, .v v1)] [] Q (retPK [.tmp 4, .cell 5 (some 2), .tmp 6] [.f 2, .n, .n]) = (
  bnS (call 86 [v0] Q) fun w8_1 Q2 => 
  bnS (call 61 [v0] Q2) fun w10_3 Q4 => 
  bnP (binA .neq (frz w10_3) v1) fun w12_5 => 
  bnP (gdQ w12_5 false (some v0)) fun w14_6 => 
  bnP (gdQ w12_5 false (lenQ w14_6)) fun w15_7 => 
  bnP (gdQ w12_5 false (binA .eql w15_7 (.int .i64 0))) fun w16_8 => 
  bnP (pickA w12_5 (.bool true) w16_8) fun w17_9 => 
  cndS w17_9 (fun _ => bnP (rcv false (.f 2) (frz w8_1)) fun r10 => some (.tup [frz r10, .agg [.int .i64 0, .str []], .bool false], Q4))
  (fun _ => bnP (slcQ 2 (frz w8_1) (some (.int .i64 1)) none) fun w21_11 => 
  bnP (elQ 2 v0 (.int .i64 0)) fun e12 => 
  bnC 2 (cut (AV.cells e12) 0 2) fun c24_13 c24_14 => 
  bnC 2 (stC 2 (.agg [c24_13, c24_14])) fun s15 s16 => 
  bnP (rcv false (.f 2) w21_11) fun r17 => some (.tup [frz r17, .agg [s15, s16], .bool true], Q4))) := by kernel_rfl
def f_win_Take {s : PSpecs} (hs : s.lookup 89 = none) (v0 v1 : AV) (Q : AHeap) := (callP_fn (E := penv s) (f := 89) (fn := pf_win_Take) hs rfl [v0, v1] Q rfl).trans (g_win_Take (call := callP (penv s)) (lp := loopP (penv s)) v0 v1 Q)
theorem g_ring_Add {call : CallF} {lp : PLoopF} (v0 v1_0 v1_1 : AV) (Q : AHeap) : evalPK call lp c_ring_Add [(0, .v v0), (1, .v (.agg [v1_0, v1_1]))] [] Q (retPK [.tmp 4] [.o 2]) = (
  bnC 2 (stC 2 (.agg [v1_0, v1_1])) fun s1 s2 => 
  bnS (call 86 [v0] Q) fun w7_3 Q4 => bnL (owZ 2 w7_3) fun l5 => 
  bnP (lenQ v0) fun w9_6 => 
  bnP (binA .gtr w9_6 (.int .i64 0)) fun w10_7 => 
  bnP (gdQ w10_7 true (some s1)) fun w13_8 => 
  bnP (gdQ w10_7 true (some v0)) fun w14_9 => 
  bnP (gdQ w10_7 true (some v0)) fun w15_10 => 
  bnP (gdQ w10_7 true (lenQ w15_10)) fun w16_11 => 
  bnP (gdQ w10_7 true (binA .sub w16_11 (.int .i64 1))) fun w17_12 => 
  bnP (gdQ w10_7 true (elQ 2 w14_9 w17_12)) fun e13 => 
  bnP (gdQ w10_7 true ((AV.cells e13)[0]?)) fun w20_14 => 
  bnP (gdQ w10_7 true (binA .leq w13_8 w20_14)) fun w21_15 => 
  bnP (pickA w10_7 w21_15 (.bool false)) fun w22_16 => 
  cndS w22_16 (fun _ => some (.ow 2 l5, Q4))
  (fun _ => pinB (elOk 2 (.agg [s1, s2])) <| 
  pinB (room 24 ((l5 : List AV).length + (([.agg [s1, s2]] : List AV) : List AV).length)) <| 
  bnP (binA .sub (.int .i64 (((l5 ++ ([.agg [s1, s2]] : List AV)) : List AV).length : Nat)) (.int .i64 6)) fun w31_17 => 
  bnP (mxiA [w31_17, .int .i64 0]) fun w32_18 => 
  bnP (slcQ 2 (.fz 2 (l5 ++ ([.agg [s1, s2]] : List AV))) (some w32_18) none) fun w33_19 => 
  bnS (call 86 [w33_19] Q4) fun w34_20 Q21 => bnL (owZ 2 w34_20) fun l22 => 
  some (.ow 2 l22, Q21))) := by kernel_rfl
def f_ring_Add {s : PSpecs} (hs : s.lookup 90 = none) (v0 v1_0 v1_1 : AV) (Q : AHeap) := (callP_fn (E := penv s) (f := 90) (fn := pf_ring_Add) hs rfl [v0, .agg [v1_0, v1_1]] Q rfl).trans (g_ring_Add (call := callP (penv s)) (lp := loopP (penv s)) v0 v1_0 v1_1 Q)
end Go.Proofs.Ytccgolmdhikdoaa.Pn
