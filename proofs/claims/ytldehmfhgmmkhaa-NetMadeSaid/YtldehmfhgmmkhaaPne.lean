/- Equations by values. Printed by mkpv.py of this repo. -/
import Derived.Test.YtldehmfhgmmkhaaPnd
import Derived.Test.YtldehmfhgmmkhaaPvE
namespace Go.Proofs.Ytldehmfhgmmkhaa.Pn
open Go.Ab
set_option maxRecDepth 100000
set_option linter.unusedVariables false
set_option linter.unusedSimpArgs false
set_option linter.defProp false
theorem p_pleachlaw13_NetMade_0 {β : Type} (call : CallF) (lp : PLoopF) (t0 t3 t5 t6 t36 t57 : AV) (l4 : List AV) (Q : AHeap) (k : PK β) : evalPK call lp c_pleachlaw13_NetMade_0 [(0, .v t0), (3, .v t3), (4, .ls 4), (5, .v t5), (6, .v t6), (36, .v t36), (57, .v t57)] [(4, .own 3 l4)] Q k = (
  cndS t57 (fun _ => bnP (binA .rem t5 (.int .i64 26)) fun w62_1 => 
  bnP (cviA .u8 w62_1) fun w63_2 => 
  bnP (binA .add (.int .u8 97) w63_2) fun w64_3 => 
  bnP (binA .quo t5 (.int .i64 26)) fun w66_4 => 
  bnP (cviA .u8 w66_4) fun w67_5 => 
  bnP (binA .add (.int .u8 97) w67_5) fun w68_6 => 
  pinB (elOk 1 w64_3) <| 
  pinB (elOk 1 w68_6) <| 
  bnP (b2sQ (.fz 1 [w64_3, w68_6, .int .u8 122])) fun w70_7 => 
  bnC 3 (fillP [.int .i64 0, .str [], .bool false] [(0, 1, .int .i64 2), (1, 1, w70_7)]) fun c71_8 c71_9 c71_10 => 
  bnC 3 (stC 3 (.agg [c71_8, c71_9, c71_10])) fun s11 s12 s13 => 
  bnP (lenQ t3) fun w73_14 => 
  pinB (elOk 3 (.agg [s11, s12, s13])) <| 
  bnS (call 29 [t3, .agg [s11, s12, s13]] Q) fun w76_15 Q16 => 
  pinB (room 32 ((l4 : List AV).length + (([.agg [s11, s12, s13]] : List AV) : List AV).length)) <| 
  bnP (lenQ (frz w76_15)) fun w82_17 => 
  bnP (binA .add w73_14 (.int .i64 1)) fun w84_18 => 
  bnP (mniA [w84_18, .int .i64 60]) fun w85_19 => 
  bnP (binA .neq w82_17 w85_19) fun w86_20 => 
  cndS w86_20 (fun _ => k .ret [(2, .v (.bool false))] [] Q16)
  (fun _ => k .normal [(0, .v t0), (3, .v (frz w76_15)), (4, .ls 4), (5, .v t5)] [(4, .own 3 (l4 ++ ([.agg [s11, s12, s13]] : List AV)))] Q16))
  (fun _ => bnP (binA .eql t36 (.int .u8 3)) fun w88_21 => 
  cndS w88_21 (fun _ => bnS (call 31 [t3, t6] Q) fun w92_22 Q23 => 
  bnP (extA (frz w92_22) 0) fun w93_24 => 
  bnP (extA (frz w92_22) 1) fun w94_25 => 
  bnP (extA (frz w92_22) 2) fun w95_26 => 
  k .normal [(0, .v t0), (3, .v w93_24), (4, .ls 4), (5, .v t5)] [(4, .own 3 l4)] Q23)
  (fun _ => bnP (binA .eql t36 (.int .u8 4)) fun w97_27 => 
  cndS w97_27 (fun _ => bnS (call 33 [t3, t6] Q) fun w101_28 Q29 => 
  bnP (extA (frz w101_28) 0) fun w102_30 => 
  bnP (extA (frz w101_28) 1) fun w103_31 => 
  k .normal [(0, .v t0), (3, .v w102_30), (4, .ls 4), (5, .v t5)] [(4, .own 3 l4)] Q29)
  (fun _ => bnP (binA .eql t36 (.int .u8 5)) fun w105_32 => 
  cndS w105_32 (fun _ => bnS (call 34 [t3, t6] Q) fun w109_33 Q34 => 
  bnP (extA (frz w109_33) 0) fun w110_35 => 
  bnP (extA (frz w109_33) 1) fun w111_36 => 
  k .normal [(0, .v t0), (3, .v w110_35), (4, .ls 4), (5, .v t5)] [(4, .own 3 l4)] Q34)
  (fun _ => bnP (elQ 4 t0 t5) fun e37 => 
  bnN (idxN 4 (.int .i64 2)) fun i38 => 
  bnP ((AV.cells e37)[(0 + i38 * 1)]?) fun w44_39 => 
  bnP (cviA .i64 w44_39) fun w45_40 => 
  bnP (binA .mul w45_40 (.int .i64 256)) fun w46_41 => 
  bnP (elQ 4 t0 t5) fun e42 => 
  bnN (idxN 4 (.int .i64 3)) fun i43 => 
  bnP ((AV.cells e42)[(0 + i43 * 1)]?) fun w51_44 => 
  bnP (cviA .i64 w51_44) fun w52_45 => 
  bnP (binA .add w46_41 w52_45) fun w53_46 => 
  bnS (call 36 [t3, t6, w53_46] Q) fun w54_47 Q48 => 
  bnP (extA (frz w54_47) 0) fun w55_49 => 
  bnP (extA (frz w54_47) 1) fun w56_50 => 
  k .normal [(0, .v t0), (3, .v w55_49), (4, .ls 4), (5, .v t5)] [(4, .own 3 l4)] Q48))))) := by kernel_rfl
theorem p_pleachlaw13_NetMade_1 {β : Type} (call : CallF) (lp : PLoopF) (t0 t3 t5 t9 t10 t11 t12 : AV) (l4 : List AV) (Q : AHeap) (k : PK β) : evalPK call lp c_pleachlaw13_NetMade_1 [(0, .v t0), (3, .v t3), (4, .ls 4), (5, .v t5), (9, .v t9), (10, .v t10), (11, .v t11), (12, .v t12)] [(4, .own 3 l4)] Q k = (
  bnP (binA .lss t12 (.int .i64 ((l4 : List AV).length : Nat))) fun w129_1 => 
  cndS w129_1 (fun _ => bnP (gdQ t10 false (some t3)) fun w134_2 => 
  bnP (gdQ t10 false (some t9)) fun w135_3 => 
  bnP (gdQ t10 false (elQ 3 w134_2 w135_3)) fun e4 => 
  bnP (gdQ t10 false ((AV.cells e4)[1]?)) fun w138_5 => 
  bnP (gdQ t10 false (some t12)) fun w140_6 => 
  bnN (gdN t10 false (idxN (l4 : List AV).length w140_6)) fun i7 => 
  bnP (gdQ t10 false (elC l4 i7 1)) fun w143_8 => 
  bnP (gdQ t10 false (some t11)) fun w145_9 => 
  bnS (gdH t10 false (call 39 [w138_5, w143_8] Q) Q) fun w144_10 Q11 => 
  bnP (gdQ t10 false (binA .eql (frz w144_10) w145_9)) fun w146_12 => 
  bnP (gdQ t10 false (some w146_12)) fun w147_13 => 
  bnP (gdQ w147_13 true (some t3)) fun w148_14 => 
  bnP (gdQ w147_13 true (some t9)) fun w149_15 => 
  bnP (gdQ w147_13 true (elQ 3 w148_14 w149_15)) fun e16 => 
  bnP (gdQ w147_13 true ((AV.cells e16)[0]?)) fun w152_17 => 
  bnP (gdQ w147_13 true (binA .eql w152_17 (.int .i64 2))) fun w153_18 => 
  bnP (gdQ t10 false (pickA w147_13 w153_18 (.bool false))) fun w154_19 => 
  bnP (pickA t10 (.bool true) w154_19) fun w155_20 => 
  bnP (binA .add t12 (.int .i64 1)) fun w131_21 => 
  k .normal [(0, .v t0), (3, .v t3), (4, .ls 4), (5, .v t5), (9, .v t9), (10, .v w155_20), (11, .v t11), (12, .v w131_21)] [(4, .own 3 l4)] Q11)
  (fun _ => k (.exit 5) [(0, .v t0), (3, .v t3), (4, .ls 4), (5, .v t5), (9, .v t9), (10, .v t10)] [(4, .own 3 l4)] Q)) := by kernel_rfl
noncomputable def L_pleachlaw13_NetMade_1 (s : PSpecs) (t0 t3 t5 t9 t10 t11 t12 : AV) (l4 : List AV) (Q : AHeap) : Option PEnd := loopP (penv s) c_pleachlaw13_NetMade_1 [(0, .v t0), (3, .v t3), (4, .ls 4), (5, .v t5), (9, .v t9), (10, .v t10), (11, .v t11), (12, .v t12)] [(4, .own 3 l4)] Q
theorem L_pleachlaw13_NetMade_1_fold (s : PSpecs) (t0 t3 t5 t9 t10 t11 t12 : AV) (l4 : List AV) (Q : AHeap) : loopP (penv s) c_pleachlaw13_NetMade_1 [(0, .v t0), (3, .v t3), (4, .ls 4), (5, .v t5), (9, .v t9), (10, .v t10), (11, .v t11), (12, .v t12)] [(4, .own 3 l4)] Q = L_pleachlaw13_NetMade_1 s t0 t3 t5 t9 t10 t11 t12 l4 Q := rfl
theorem L_pleachlaw13_NetMade_1_eq (s : PSpecs) (t0 t3 t5 t9 t10 t11 t12 : AV) (l4 : List AV) (Q : AHeap) : L_pleachlaw13_NetMade_1 s t0 t3 t5 t9 t10 t11 t12 l4 Q = evalPK (callP (penv s)) (loopP (penv s)) c_pleachlaw13_NetMade_1 [(0, .v t0), (3, .v t3), (4, .ls 4), (5, .v t5), (9, .v t9), (10, .v t10), (11, .v t11), (12, .v t12)] [(4, .own 3 l4)] Q (goX (fun τ ω Q => loopP (penv s) c_pleachlaw13_NetMade_1 τ ω Q) ret4) := loopP_body
abbrev X_pleachlaw13_NetMade_1_x5 (t0 t3 t5 t9 t10 : AV) (l4 : List AV) (Q : AHeap) : Option PEnd := some (.exit 5, [(0, .v t0), (3, .v t3), (4, .ls 4), (5, .v t5), (9, .v t9), (10, .v t10)], [(4, .own 3 l4)], Q)
theorem p_pleachlaw13_NetMade_2 {β : Type} (call : CallF) (lp : PLoopF) (t0 t3 t5 t9 t10 : AV) (l4 : List AV) (Q : AHeap) (k : PK β) : evalPK call lp c_pleachlaw13_NetMade_2 [(0, .v t0), (3, .v t3), (4, .ls 4), (5, .v t5), (9, .v t9), (10, .v t10)] [(4, .own 3 l4)] Q k = (
  bnP (unA .not t10) fun w157_1 => 
  cndS w157_1 (fun _ => k .ret [(2, .v (.bool false))] [] Q)
  (fun _ => k .normal [(0, .v t0), (3, .v t3), (4, .ls 4), (5, .v t5), (9, .v t9)] [(4, .own 3 l4)] Q)) := by kernel_rfl
theorem p_pleachlaw13_NetMade_3 {β : Type} (call : CallF) (lp : PLoopF) (t0 t3 t5 t9 t10 t11 : AV) (l4 : List AV) (Q : AHeap) (k : PK β) : evalPK call lp c_pleachlaw13_NetMade_3 [(0, .v t0), (3, .v t3), (4, .ls 4), (5, .v t5), (9, .v t9), (10, .v t10), (11, .v t11)] [(4, .own 3 l4)] Q k = (
  bnX (lp c_pleachlaw13_NetMade_1 [(0, .v t0), (3, .v t3), (4, .ls 4), (5, .v t5), (9, .v t9), (10, .v t10), (11, .v t11), (12, .v (.int .i64 0))] [(4, .own 3 l4)] Q) (outX 5 (goC (evalPK call lp c_pleachlaw13_NetMade_2) k))) := by kernel_rfl
theorem p_pleachlaw13_NetMade_4 {β : Type} (call : CallF) (lp : PLoopF) (t0 t3 t5 t9 : AV) (l4 : List AV) (Q : AHeap) (k : PK β) : evalPK call lp c_pleachlaw13_NetMade_4 [(0, .v t0), (3, .v t3), (4, .ls 4), (5, .v t5), (9, .v t9)] [(4, .own 3 l4)] Q k = (
  bnP (binA .add t9 (.int .i64 1)) fun w120_1 => 
  k .normal [(0, .v t0), (3, .v t3), (4, .ls 4), (5, .v t5), (9, .v w120_1)] [(4, .own 3 l4)] Q) := by kernel_rfl
theorem p_pleachlaw13_NetMade_5 {β : Type} (call : CallF) (lp : PLoopF) (t0 t3 t5 t9 : AV) (l4 : List AV) (Q : AHeap) (k : PK β) : evalPK call lp c_pleachlaw13_NetMade_5 [(0, .v t0), (3, .v t3), (4, .ls 4), (5, .v t5), (9, .v t9)] [(4, .own 3 l4)] Q k = (
  bnP (lenQ t3) fun w117_1 => 
  bnP (binA .lss t9 w117_1) fun w118_2 => 
  cndS w118_2 (fun _ => bnX (bnX (bnX (bnP (elQ 3 t3 t9) fun e3 => 
  bnP ((AV.cells e3)[2]?) fun w125_4 => 
  cndS w125_4 (fun _ => some (.normal, [(0, .v t0), (3, .v t3), (4, .ls 4), (5, .v t5), (9, .v t9), (10, .v (.bool false)), (11, .v (.int .i64 1))], [(4, .own 3 l4)], Q))
  (fun _ => some (.normal, [(0, .v t0), (3, .v t3), (4, .ls 4), (5, .v t5), (9, .v t9), (10, .v (.bool false)), (11, .v (.int .i64 0))], [(4, .own 3 l4)], Q)))
  (goC (evalPK call lp c_pleachlaw13_NetMade_3) ret4))
  (outX 4 ret4))
  (goC (evalPK call lp c_pleachlaw13_NetMade_4) k))
  (fun _ => k (.exit 3) [(0, .v t0), (3, .v t3), (4, .ls 4), (5, .v t5)] [(4, .own 3 l4)] Q)) := by kernel_rfl
noncomputable def L_pleachlaw13_NetMade_5 (s : PSpecs) (t0 t3 t5 t9 : AV) (l4 : List AV) (Q : AHeap) : Option PEnd := loopP (penv s) c_pleachlaw13_NetMade_5 [(0, .v t0), (3, .v t3), (4, .ls 4), (5, .v t5), (9, .v t9)] [(4, .own 3 l4)] Q
theorem L_pleachlaw13_NetMade_5_fold (s : PSpecs) (t0 t3 t5 t9 : AV) (l4 : List AV) (Q : AHeap) : loopP (penv s) c_pleachlaw13_NetMade_5 [(0, .v t0), (3, .v t3), (4, .ls 4), (5, .v t5), (9, .v t9)] [(4, .own 3 l4)] Q = L_pleachlaw13_NetMade_5 s t0 t3 t5 t9 l4 Q := rfl
theorem L_pleachlaw13_NetMade_5_eq (s : PSpecs) (t0 t3 t5 t9 : AV) (l4 : List AV) (Q : AHeap) : L_pleachlaw13_NetMade_5 s t0 t3 t5 t9 l4 Q = evalPK (callP (penv s)) (loopP (penv s)) c_pleachlaw13_NetMade_5 [(0, .v t0), (3, .v t3), (4, .ls 4), (5, .v t5), (9, .v t9)] [(4, .own 3 l4)] Q (goX (fun τ ω Q => loopP (penv s) c_pleachlaw13_NetMade_5 τ ω Q) ret4) := loopP_body
abbrev X_pleachlaw13_NetMade_5_x3 (t0 t3 t5 : AV) (l4 : List AV) (Q : AHeap) : Option PEnd := some (.exit 3, [(0, .v t0), (3, .v t3), (4, .ls 4), (5, .v t5)], [(4, .own 3 l4)], Q)
theorem p_pleachlaw13_NetMade_6 {β : Type} (call : CallF) (lp : PLoopF) (t0 t3 t5 : AV) (l4 : List AV) (Q : AHeap) (k : PK β) : evalPK call lp c_pleachlaw13_NetMade_6 [(0, .v t0), (3, .v t3), (4, .ls 4), (5, .v t5)] [(4, .own 3 l4)] Q k = (
  bnP (lenQ t3) fun w113_1 => 
  bnP (binA .gtr w113_1 (.int .i64 60)) fun w114_2 => 
  cndS w114_2 (fun _ => k .ret [(2, .v (.bool false))] [] Q)
  (fun _ => bnX (lp c_pleachlaw13_NetMade_5 [(0, .v t0), (3, .v t3), (4, .ls 4), (5, .v t5), (9, .v (.int .i64 0))] [(4, .own 3 l4)] Q) (outX 3 (finC [] [] [0, 3, 4, 5] [(4, 4)] k)))) := by kernel_rfl
theorem p_pleachlaw13_NetMade_7 {β : Type} (call : CallF) (lp : PLoopF) (t0 t3 t5 : AV) (l4 : List AV) (Q : AHeap) (k : PK β) : evalPK call lp c_pleachlaw13_NetMade_7 [(0, .v t0), (3, .v t3), (4, .ls 4), (5, .v t5)] [(4, .own 3 l4)] Q k = (
  bnP (binA .add t5 (.int .i64 1)) fun w23_1 => 
  k .normal [(0, .v t0), (3, .v t3), (4, .ls 4), (5, .v w23_1)] [(4, .own 3 l4)] Q) := by kernel_rfl
theorem p_pleachlaw13_NetMade_8 {β : Type} (call : CallF) (lp : PLoopF) (t0 t3 t5 : AV) (l4 : List AV) (Q : AHeap) (k : PK β) : evalPK call lp c_pleachlaw13_NetMade_8 [(0, .v t0), (3, .v t3), (4, .ls 4), (5, .v t5)] [(4, .own 3 l4)] Q k = (
  bnP (lenQ t0) fun w20_1 => 
  bnP (binA .lss t5 w20_1) fun w21_2 => 
  cndS w21_2 (fun _ => bnX (bnX (bnP (elQ 4 t0 t5) fun e3 => 
  bnN (idxN 4 (.int .i64 1)) fun i4 => 
  bnP ((AV.cells e3)[(0 + i4 * 1)]?) fun w28_5 => 
  bnP (cviA .i64 w28_5) fun w29_6 => 
  bnP (binA .rem w29_6 (.int .i64 24)) fun w30_7 => 
  bnX (bnP (elQ 4 t0 t5) fun e8 => 
  bnN (idxN 4 (.int .i64 0)) fun i9 => 
  bnP ((AV.cells e8)[(0 + i9 * 1)]?) fun w35_10 => 
  bnP (binA .rem w35_10 (.int .u8 7)) fun w36_11 => 
  bnX (bnX (bnP (binA .eql w36_11 (.int .u8 0)) fun w58_12 => 
  cndS w58_12 (fun _ => some (.normal, [(0, .v t0), (3, .v t3), (4, .ls 4), (5, .v t5), (6, .v w30_7), (36, .v w36_11), (57, .v w58_12)], [(4, .own 3 l4)], Q))
  (fun _ => bnP (binA .eql w36_11 (.int .u8 1)) fun w59_13 => 
  cndS w59_13 (fun _ => some (.normal, [(0, .v t0), (3, .v t3), (4, .ls 4), (5, .v t5), (6, .v w30_7), (36, .v w36_11), (57, .v w59_13)], [(4, .own 3 l4)], Q))
  (fun _ => bnP (binA .eql w36_11 (.int .u8 2)) fun w60_14 => 
  some (.normal, [(0, .v t0), (3, .v t3), (4, .ls 4), (5, .v t5), (6, .v w30_7), (36, .v w36_11), (57, .v w60_14)], [(4, .own 3 l4)], Q))))
  (goC (evalPK call lp c_pleachlaw13_NetMade_0) ret4))
  (outX 2 ret4))
  (goC (evalPK call lp c_pleachlaw13_NetMade_6) ret4))
  (outX 1 ret4))
  (goC (evalPK call lp c_pleachlaw13_NetMade_7) k))
  (fun _ => k (.exit 0) [] [] Q)) := by kernel_rfl
noncomputable def L_pleachlaw13_NetMade_8 (s : PSpecs) (t0 t3 t5 : AV) (l4 : List AV) (Q : AHeap) : Option PEnd := loopP (penv s) c_pleachlaw13_NetMade_8 [(0, .v t0), (3, .v t3), (4, .ls 4), (5, .v t5)] [(4, .own 3 l4)] Q
theorem L_pleachlaw13_NetMade_8_fold (s : PSpecs) (t0 t3 t5 : AV) (l4 : List AV) (Q : AHeap) : loopP (penv s) c_pleachlaw13_NetMade_8 [(0, .v t0), (3, .v t3), (4, .ls 4), (5, .v t5)] [(4, .own 3 l4)] Q = L_pleachlaw13_NetMade_8 s t0 t3 t5 l4 Q := rfl
theorem L_pleachlaw13_NetMade_8_eq (s : PSpecs) (t0 t3 t5 : AV) (l4 : List AV) (Q : AHeap) : L_pleachlaw13_NetMade_8 s t0 t3 t5 l4 Q = evalPK (callP (penv s)) (loopP (penv s)) c_pleachlaw13_NetMade_8 [(0, .v t0), (3, .v t3), (4, .ls 4), (5, .v t5)] [(4, .own 3 l4)] Q (goX (fun τ ω Q => loopP (penv s) c_pleachlaw13_NetMade_8 τ ω Q) ret4) := loopP_body
abbrev X_pleachlaw13_NetMade_8_x0 (Q : AHeap) : Option PEnd := some (.exit 0, [], [], Q)
theorem p_pleachlaw13_NetMade_9 {β : Type} (call : CallF) (lp : PLoopF) (Q : AHeap) (k : PK β) : evalPK call lp c_pleachlaw13_NetMade_9 [] [] Q k = (
  k .ret [(2, .v (.bool true))] [] Q) := by kernel_rfl
theorem g_pleachlaw13_NetMade {call : CallF} {lp : PLoopF} (v0 : AV) (Q : AHeap) : evalPK call lp c_pleachlaw13_NetMade [(0, .v v0)] [] Q (retPK [.tmp 2] [.n]) = (
  bnS (call 28 [] Q) fun w13_1 Q2 => 
  bnP (unA .not (frz w13_1)) fun w14_3 => 
  cndS w14_3 (fun _ => some (.bool false, Q2))
  (fun _ => bnP (lenQ v0) fun w16_4 => 
  bnP (binA .gtr w16_4 (.int .i64 80)) fun w17_5 => 
  cndS w17_5 (fun _ => some (.bool true, Q2))
  (fun _ => bnX (lp c_pleachlaw13_NetMade_8 [(0, .v v0), (3, .v .nils), (4, .ls 4), (5, .v (.int .i64 0))] [(4, .own 3 ([] : List AV))] Q2) (outX 0 (goC (evalPK call lp c_pleachlaw13_NetMade_9) (retPK [.tmp 2] [.n])))))) := by kernel_rfl
def f_pleachlaw13_NetMade {s : PSpecs} (hs : s.lookup 8 = none) (v0 : AV) (Q : AHeap) := (callP_fn (E := penv s) (f := 8) (fn := pf_pleachlaw13_NetMade) hs rfl [v0] Q rfl).trans (g_pleachlaw13_NetMade (call := callP (penv s)) (lp := loopP (penv s)) v0 Q)
theorem g_net_Send {call : CallF} {lp : PLoopF} (v0 v1_0 v1_1 v1_2 : AV) (Q : AHeap) : evalPK call lp c_net_Send [(0, .v v0), (1, .v (.agg [v1_0, v1_1, v1_2]))] [] Q (retPK [.tmp 4] [.o 3]) = (
  bnC 3 (stC 3 (.agg [v1_0, v1_1, v1_2])) fun s1 s2 s3 => 
  bnS (call 58 [v0] Q) fun w6_4 Q5 => bnL (owZ 3 w6_4) fun l6 => 
  bnP (binA .geq (.int .i64 ((l6 : List AV).length : Nat)) (.int .i64 60)) fun w9_7 => 
  cndS w9_7 (fun _ => some (.ow 3 l6, Q5))
  (fun _ => pinB (elOk 3 (.agg [s1, s2, s3])) <| 
  pinB (room 32 ((l6 : List AV).length + (([.agg [s1, s2, s3]] : List AV) : List AV).length)) <| 
  some (.ow 3 (l6 ++ ([.agg [s1, s2, s3]] : List AV)), Q5))) := by kernel_rfl
def f_net_Send {s : PSpecs} (hs : s.lookup 29 = none) (v0 v1_0 v1_1 v1_2 : AV) (Q : AHeap) := (callP_fn (E := penv s) (f := 29) (fn := pf_net_Send) hs rfl [v0, .agg [v1_0, v1_1, v1_2]] Q rfl).trans (g_net_Send (call := callP (penv s)) (lp := loopP (penv s)) v0 v1_0 v1_1 v1_2 Q)
theorem g_net_Comes {call : CallF} {lp : PLoopF} (v0 v1 : AV) (Q : AHeap) : evalPK call lp c_net_Comes [(0, .v v0), (1, .v v1)] [] Q (retPK [.tmp 4, .cell 5 (some 3), .tmp 6] [.f 3, .n, .n]) = (
  bnS (call 58 [v0] Q) fun w9_1 Q2 => bnL (owZ 3 w9_1) fun l3 => 
  bnS (call 59 [.fz 3 l3, v1] ⟨Q2.size, .leaf⟩) fun w12_4 _ => pinB (flatR w12_4) <| 
  bnP (unA .not w12_4) fun w13_6 => 
  cndS w13_6 (fun _ => some (.tup [.fz 3 l3, .agg [.int .i64 0, .str [], .bool false], .bool false], Q2))
  (fun _ => bnN (idxN (l3 : List AV).length v1) fun i7 => 
  bnC 3 (elN l3 i7 0 3) fun c19_8 c19_9 c19_10 => 
  bnC 3 (stC 3 (.agg [c19_8, c19_9, c19_10])) fun s11 s12 s13 => 
  bnP (binA .add v1 (.int .i64 1)) fun w23_14 => 
  bnS (call 1000060 [.ow 3 l3, v1, w23_14] Q2) fun w24_15 Q16 => bnL (owZ 3 w24_15) fun l17 => 
  bnC 3 (stC 3 (.agg [s11, s12, s13])) fun s18 s19 s20 => 
  some (.tup [.fz 3 l17, .agg [s18, s19, s20], .bool true], Q16))) := by kernel_rfl
def f_net_Comes {s : PSpecs} (hs : s.lookup 31 = none) (v0 v1 : AV) (Q : AHeap) := (callP_fn (E := penv s) (f := 31) (fn := pf_net_Comes) hs rfl [v0, v1] Q rfl).trans (g_net_Comes (call := callP (penv s)) (lp := loopP (penv s)) v0 v1 Q)
theorem g_net_Lost {call : CallF} {lp : PLoopF} (v0 v1 : AV) (Q : AHeap) : evalPK call lp c_net_Lost [(0, .v v0), (1, .v v1)] [] Q (retPK [.tmp 4, .tmp 5] [.f 3, .n]) = (
  bnS (call 31 [v0, v1] Q) fun w11_1 Q2 => 
  bnP (extA (frz w11_1) 0) fun w12_3 => 
  bnP (extA (frz w11_1) 1) fun w13_4 => 
  bnP (extA (frz w11_1) 2) fun w14_5 => 
  bnC 3 (stC 3 w13_4) fun s6 s7 s8 => 
  bnP (rcv false (.f 3) w12_3) fun r9 => bnP (rcv false .n w14_5) fun r10 => some (.tup [frz r9, frz r10], Q2)) := by kernel_rfl
def f_net_Lost {s : PSpecs} (hs : s.lookup 33 = none) (v0 v1 : AV) (Q : AHeap) := (callP_fn (E := penv s) (f := 33) (fn := pf_net_Lost) hs rfl [v0, v1] Q rfl).trans (g_net_Lost (call := callP (penv s)) (lp := loopP (penv s)) v0 v1 Q)
theorem g_net_Twice {call : CallF} {lp : PLoopF} (v0 v1 : AV) (Q : AHeap) : evalPK call lp c_net_Twice [(0, .v v0), (1, .v v1)] [] Q (retPK [.tmp 4, .tmp 5] [.f 3, .n]) = (
  bnS (call 59 [v0, v1] Q) fun w8_1 Q2 => 
  bnP (unA .not (frz w8_1)) fun w9_3 => 
  bnP (gdQ w9_3 false (some v0)) fun w11_4 => 
  bnP (gdQ w9_3 false (lenQ w11_4)) fun w12_5 => 
  bnP (gdQ w9_3 false (binA .geq w12_5 (.int .i64 60))) fun w13_6 => 
  bnP (pickA w9_3 (.bool true) w13_6) fun w14_7 => 
  cndS w14_7 (fun _ => bnS (call 58 [v0] Q2) fun w16_8 Q9 => 
  bnP (rcv false (.f 3) (frz w16_8)) fun r10 => some (.tup [frz r10, .bool false], Q9))
  (fun _ => bnP (elQ 3 v0 v1) fun e11 => 
  bnC 3 (cut (AV.cells e11) 0 3) fun c21_12 c21_13 c21_14 => 
  bnS (call 29 [v0, .agg [c21_12, c21_13, c21_14]] Q2) fun w22_15 Q16 => 
  bnP (rcv false (.f 3) (frz w22_15)) fun r17 => some (.tup [frz r17, .bool true], Q16))) := by kernel_rfl
def f_net_Twice {s : PSpecs} (hs : s.lookup 34 = none) (v0 v1 : AV) (Q : AHeap) := (callP_fn (E := penv s) (f := 34) (fn := pf_net_Twice) hs rfl [v0, v1] Q rfl).trans (g_net_Twice (call := callP (penv s)) (lp := loopP (penv s)) v0 v1 Q)
theorem g_net_Turned {call : CallF} {lp : PLoopF} (v0 v1 v2 : AV) (Q : AHeap) : evalPK call lp c_net_Turned [(0, .v v0), (1, .v v1), (2, .v v2)] [] Q (retPK [.tmp 6, .tmp 7] [.f 3, .n]) = (
  bnS (call 58 [v0] Q) fun w10_1 Q2 => bnL (owZ 3 w10_1) fun l3 => 
  bnS (call 59 [.fz 3 l3, v1] ⟨Q2.size, .leaf⟩) fun w13_4 _ => pinB (flatR w13_4) <| 
  bnP (unA .not w13_4) fun w14_6 => 
  bnP (gdQ w14_6 false (some v1)) fun w17_7 => 
  bnN (gdN w14_6 false (idxN (l3 : List AV).length w17_7)) fun i8 => 
  bnP (gdQ w14_6 false (elC l3 i8 2)) fun w20_9 => 
  bnP (pickA w14_6 (.bool true) w20_9) fun w21_10 => 
  bnP (gdQ w21_10 false (some v1)) fun w24_11 => 
  bnN (gdN w21_10 false (idxN (l3 : List AV).length w24_11)) fun i12 => 
  bnP (gdQ w21_10 false (elC l3 i12 1)) fun w27_13 => 
  bnP (gdQ w21_10 false (binA .eql w27_13 (.str []))) fun w28_14 => 
  bnP (pickA w21_10 (.bool true) w28_14) fun w29_15 => 
  bnP (gdQ w29_15 false (some v2)) fun w31_16 => 
  bnP (gdQ w29_15 false (binA .lss w31_16 (.int .i64 0))) fun w32_17 => 
  bnP (pickA w29_15 (.bool true) w32_17) fun w33_18 => 
  bnP (gdQ w33_18 false (some v2)) fun w35_19 => 
  bnP (gdQ w33_18 false (binA .rem w35_19 (.int .i64 256))) fun w36_20 => 
  bnP (gdQ w33_18 false (binA .eql w36_20 (.int .i64 0))) fun w37_21 => 
  bnP (pickA w33_18 (.bool true) w37_21) fun w38_22 => 
  cndS w38_22 (fun _ => some (.tup [.fz 3 l3, .bool false], Q2))
  (fun _ => bnN (idxN (l3 : List AV).length v1) fun i23 => 
  bnP (elC l3 i23 1) fun w44_24 => 
  bnL (s2bC w44_24) fun l25 => 
  bnP (binA .quo v2 (.int .i64 256)) fun w48_26 => 
  bnP (binA .rem w48_26 (.int .i64 (l25.length : Nat))) fun w51_27 => 
  bnN (idxN l25.length w51_27) fun i28 => 
  bnP ((l25)[(i28 * 1)]?) fun w53_29 => 
  bnP (binA .rem v2 (.int .i64 256)) fun w55_30 => 
  bnP (cviA .u8 w55_30) fun w56_31 => 
  bnP (binA .xor w53_29 w56_31) fun w57_32 => 
  bnN (idxN l25.length w51_27) fun i33 => 
  bnC 1 (stC 1 w57_32) fun s34 => 
  pinB (Nat.ble ((i33 * 1) + 1) (l25 : List AV).length) <| 
  bnP ((cut (splice l25 (i33 * 1) [s34]) 0 l25.length).bind fun l => b2sQ (.fz 1 l)) fun w64_35 => 
  bnN (idxN (l3 : List AV).length v1) fun i36 => 
  bnC 1 (stC 1 w64_35) fun s37 => 
  bnP ((l3)[i36]?) fun e38 => bnP (setE e38 1 [s37]) fun e39 => 
  bnN (idxN (((l3).set i36 e39) : List AV).length v1) fun i40 => 
  bnP ((((l3).set i36 e39))[i40]?) fun e41 => bnP (setE e41 2 [.bool true]) fun e42 => 
  some (.tup [.fz 3 ((((l3).set i36 e39)).set i40 e42), .bool true], Q2))) := by kernel_rfl
def f_net_Turned {s : PSpecs} (hs : s.lookup 36 = none) (v0 v1 v2 : AV) (Q : AHeap) := (callP_fn (E := penv s) (f := 36) (fn := pf_net_Turned) hs rfl [v0, v1, v2] Q rfl).trans (g_net_Turned (call := callP (penv s)) (lp := loopP (penv s)) v0 v1 v2 Q)
theorem p_pleachlaw13_apart_0 {β : Type} (call : CallF) (lp : PLoopF) (t0 t1 t5 t6 : AV) (Q : AHeap) (k : PK β) : evalPK call lp c_pleachlaw13_apart_0 [(0, .v t0), (1, .v t1), (5, .v t5), (6, .v t6)] [] Q k = (
  bnP (binA .add t6 (.int .i64 1)) fun w17_1 => 
  k .normal [(0, .v t0), (1, .v t1), (5, .v t5), (6, .v w17_1)] [] Q) := by kernel_rfl
theorem p_pleachlaw13_apart_1 {β : Type} (call : CallF) (lp : PLoopF) (t0 t1 t5 t6 : AV) (Q : AHeap) (k : PK β) : evalPK call lp c_pleachlaw13_apart_1 [(0, .v t0), (1, .v t1), (5, .v t5), (6, .v t6)] [] Q k = (
  bnP (lensA t0) fun w14_1 => 
  bnP (binA .lss t6 w14_1) fun w15_2 => 
  cndS w15_2 (fun _ => bnX (bnX (bnP (ixsA t0 t6) fun w20_3 => 
  bnP (ixsA t1 t6) fun w23_4 => 
  bnP (binA .neq w20_3 w23_4) fun w24_5 => 
  cndS w24_5 (fun _ => bnP (binA .add t5 (.int .i64 1)) fun w26_6 => 
  some (.normal, [(0, .v t0), (1, .v t1), (5, .v w26_6), (6, .v t6)], [], Q))
  (fun _ => some (.normal, [(0, .v t0), (1, .v t1), (5, .v t5), (6, .v t6)], [], Q)))
  (outX 1 ret4))
  (goC (evalPK call lp c_pleachlaw13_apart_0) k))
  (fun _ => k (.exit 0) [(5, .v t5)] [] Q)) := by kernel_rfl
noncomputable def L_pleachlaw13_apart_1 (s : PSpecs) (t0 t1 t5 t6 : AV) (Q : AHeap) : Option PEnd := loopP (penv s) c_pleachlaw13_apart_1 [(0, .v t0), (1, .v t1), (5, .v t5), (6, .v t6)] [] Q
theorem L_pleachlaw13_apart_1_fold (s : PSpecs) (t0 t1 t5 t6 : AV) (Q : AHeap) : loopP (penv s) c_pleachlaw13_apart_1 [(0, .v t0), (1, .v t1), (5, .v t5), (6, .v t6)] [] Q = L_pleachlaw13_apart_1 s t0 t1 t5 t6 Q := rfl
theorem L_pleachlaw13_apart_1_eq (s : PSpecs) (t0 t1 t5 t6 : AV) (Q : AHeap) : L_pleachlaw13_apart_1 s t0 t1 t5 t6 Q = evalPK (callP (penv s)) (loopP (penv s)) c_pleachlaw13_apart_1 [(0, .v t0), (1, .v t1), (5, .v t5), (6, .v t6)] [] Q (goX (fun τ ω Q => loopP (penv s) c_pleachlaw13_apart_1 τ ω Q) ret4) := loopP_body
abbrev X_pleachlaw13_apart_1_x0 (t5 : AV) (Q : AHeap) : Option PEnd := some (.exit 0, [(5, .v t5)], [], Q)
theorem p_pleachlaw13_apart_2 {β : Type} (call : CallF) (lp : PLoopF) (t5 : AV) (Q : AHeap) (k : PK β) : evalPK call lp c_pleachlaw13_apart_2 [(5, .v t5)] [] Q k = (
  k .ret [(4, .v t5), (27, .v t5), (5, .v t5)] [] Q) := by kernel_rfl
theorem g_pleachlaw13_apart {call : CallF} {lp : PLoopF} (v0 v1 : AV) (Q : AHeap) : evalPK call lp c_pleachlaw13_apart [(0, .v v0), (1, .v v1)] [] Q (retPK [.tmp 4] [.n]) = (
  bnP (lensA v0) fun w8_1 => 
  bnP (lensA v1) fun w10_2 => 
  bnP (binA .neq w8_1 w10_2) fun w11_3 => 
  cndS w11_3 (fun _ => some (.int .i64 9, Q))
  (fun _ => bnX (lp c_pleachlaw13_apart_1 [(0, .v v0), (1, .v v1), (5, .v (.int .i64 0)), (6, .v (.int .i64 0))] [] Q) (outX 0 (goC (evalPK call lp c_pleachlaw13_apart_2) (retPK [.tmp 4] [.n]))))) := by kernel_rfl
def f_pleachlaw13_apart {s : PSpecs} (hs : s.lookup 39 = none) (v0 v1 : AV) (Q : AHeap) := (callP_fn (E := penv s) (f := 39) (fn := pf_pleachlaw13_apart) hs rfl [v0, v1] Q rfl).trans (g_pleachlaw13_apart (call := callP (penv s)) (lp := loopP (penv s)) v0 v1 Q)
theorem g_net_there {call : CallF} {lp : PLoopF} (v0 v1 : AV) (Q : AHeap) : evalPK call lp c_net_there [(0, .v v0), (1, .v v1)] [] Q (retPK [.tmp 4] [.n]) = (
  bnP (binA .geq v1 (.int .i64 0)) fun w6_1 => 
  bnP (gdQ w6_1 true (some v1)) fun w8_2 => 
  bnP (gdQ w6_1 true (some v0)) fun w9_3 => 
  bnP (gdQ w6_1 true (lenQ w9_3)) fun w10_4 => 
  bnP (gdQ w6_1 true (binA .lss w8_2 w10_4)) fun w11_5 => 
  bnP (pickA w6_1 w11_5 (.bool false)) fun w12_6 => 
  bnP (rcv false .n w12_6) fun r7 => some (r7, Q)) := by kernel_rfl
def f_net_there {s : PSpecs} (hs : s.lookup 59 = none) (v0 v1 : AV) (Q : AHeap) := (callP_fn (E := penv s) (f := 59) (fn := pf_net_there) hs rfl [v0, v1] Q rfl).trans (g_net_there (call := callP (penv s)) (lp := loopP (penv s)) v0 v1 Q)
end Go.Proofs.Ytldehmfhgmmkhaa.Pn
