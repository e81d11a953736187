/- Equations: what the pieces of the digested functions come to. Printed by mkeq.py of this repo. -/
import Derived.Test.YtdbbdfmkglgjdaaBid
namespace Go.Proofs.Ytdbbdfmkglgjdaa.Bi
open Go.Ab
set_option maxRecDepth 100000
set_option linter.unusedVariables false
set_option linter.unusedSimpArgs false
theorem xc {β:Type} (call:z7) (lp:zaW) (v0 v1 v2:AV) (H:z3) (k:zE→Tau→z3→Option β):vU call lp x9 [v0,v1,v2,z4,z4,z4,z4,z4,z4,z4,z4,z4,z4,z4,z4,z4,z4,z4,z4,z4,z4,z4,z4,z4,z4,z4,z4,z4,z4,z4,z4,z4,z4,z4,z4,z4,z4,z4,z4,z4,z4,z4,z4,z4,z4,z4,z4,z4,z4,z4,z4,z4,z4,z4,z4,z4,z4,z4,z4,z4,z4,z4,z4,z4,z4,z4,z4,z4,z4,z4,z4,z4,z4,z4,z4,z4,z4,z4,z4,z4,z4,z4,z4,z4,z4,z4,z4,z4,z4,z4,z4,z4,z4,z4,z4] H k =
 bnP (xe H 3 v0 (some v1) none none) fun w12_1 => 
 bnP (z2v v2) fun w14_2 => 
 bnP (z9 .eql w14_2 (.int .i64 0)) fun w16_3 => 
 zw w16_3 (fun _=>k .ret [v0,v1,v2,z4,z4,z4,v0,w14_2,z4,z4,v0,v1,w12_1,v2,w14_2,w14_2,w16_3,v0,z4,z4,z4,z4,z4,z4,z4,z4,z4,z4,z4,z4,z4,z4,z4,z4,z4,z4,z4,z4,z4,z4,z4,z4,z4,z4,z4,z4,z4,z4,z4,z4,z4,z4,z4,z4,z4,z4,z4,z4,z4,z4,z4,z4,z4,z4,z4,z4,z4,z4,z4,z4,z4,z4,z4,z4,z4,z4,z4,z4,z4,z4,z4,z4,z4,z4,z4,z4,z4,z4,z4,z4,z4,z4,z4,z4,z4] H)
 (fun _=>bnP (z2v v0) fun w19_4 => 
 bnP (z9 .eql v1 w19_4) fun w22_5 => 
 zw w22_5 (fun _=>bnS (z6h H 3 24 [.int .i64 0,.int .i64 0,.int .i64 0] v0 v2) fun w25_6 H1 => 
 k .ret [v0,v1,v2,z4,z4,z4,w25_6,w14_2,w19_4,z4,v0,v1,w12_1,v2,w14_2,w14_2,w16_3,z4,v0,w19_4,v1,w19_4,w22_5,v0,v2,w25_6,z4,z4,z4,z4,z4,z4,z4,z4,z4,z4,z4,z4,z4,z4,z4,z4,z4,z4,z4,z4,z4,z4,z4,z4,z4,z4,z4,z4,z4,z4,z4,z4,z4,z4,z4,z4,z4,z4,z4,z4,z4,z4,z4,z4,z4,z4,z4,z4,z4,z4,z4,z4,z4,z4,z4,z4,z4,z4,z4,z4,z4,z4,z4,z4,z4,z4,z4,z4,z4] H1)
 (fun _=>bnP (z9 .add w19_4 w14_2) fun w28_7 => 
 bnP (zaQ v0) fun w30_8 => 
 bnP (z9 .gtr w28_7 w30_8) fun w31_9 => 
 zw w31_9 (fun _=>bnP (xe H 3 v0 none (some v1) none) fun w34_10 => 
 bnP (z9 .add w19_4 w14_2) fun w37_11 => 
 bnP (z9 .sub w37_11 v1) fun w39_12 => 
 bnS (zaR H 3 24 [.int .i64 0,.int .i64 0,.int .i64 0] w34_10 w39_12) fun w40_13 H2 => 
 bnP (xe H2 3 w40_13 (some v1) none none) fun w43_14 => 
 bnS (z4I H2 3 w43_14 v2) fun w45_15 H3 => 
 bnP (z9 .add v1 w14_2) fun w49_19 => 
 bnP (xe H3 3 w40_13 (some w49_19) none none) fun w50_20 => 
 bnP (xe H3 3 v0 (some v1) none none) fun w53_23 => 
 bnS (z4I H3 3 w50_20 w53_23) fun w54_24 H4 => 
 k .ret [v0,v1,v2,z4,z4,z4,w40_13,w14_2,w19_4,w40_13,v0,v1,w12_1,v2,w14_2,w14_2,w16_3,z4,v0,w19_4,v1,w19_4,w22_5,z4,z4,z4,w19_4,w14_2,w28_7,v0,w30_8,w31_9,v0,v1,w34_10,w19_4,w14_2,w37_11,v1,w39_12,w40_13,w40_13,v1,w43_14,v2,w45_15,w40_13,v1,w14_2,w49_19,w50_20,v0,v1,w53_23,w54_24,w40_13,z4,z4,z4,z4,z4,z4,z4,z4,z4,z4,z4,z4,z4,z4,z4,z4,z4,z4,z4,z4,z4,z4,z4,z4,z4,z4,z4,z4,z4,z4,z4,z4,z4,z4,z4,z4,z4,z4,z4] H4)
 (fun _=>bnP (z9 .add w19_4 w14_2) fun w59_25 => 
 bnP (xe H 3 v0 none (some w59_25) none) fun w60_26 => 
 bnP (z9 .add v1 w14_2) fun w65_27 => 
 bnP (xe H 3 w60_26 (some w65_27) none none) fun w66_28 => 
 bnS (call 89 [v2,w66_28] H) fun w67_29 H5 => 
 bnP (unA .not w67_29) fun w68_30 => 
 zw w68_30 (fun _=>bnP (z9 .add v1 w14_2) fun w72_34 => 
 bnP (xe H5 3 w60_26 (some w72_34) none none) fun w73_35 => 
 bnP (xe H5 3 w60_26 (some v1) none none) fun w76_38 => 
 bnS (z4I H5 3 w73_35 w76_38) fun w77_39 H6 => 
 bnP (xe H6 3 w60_26 (some v1) none none) fun w80_40 => 
 bnS (z4I H6 3 w80_40 v2) fun w82_41 H7 => 
 k .ret [w60_26,v1,v2,z4,z4,z4,w60_26,w14_2,w19_4,z4,v0,v1,w12_1,v2,w14_2,w14_2,w16_3,z4,v0,w19_4,v1,w19_4,w22_5,z4,z4,z4,w19_4,w14_2,w28_7,v0,w30_8,w31_9,z4,z4,z4,z4,z4,z4,z4,z4,z4,z4,z4,z4,z4,z4,z4,z4,z4,z4,z4,z4,z4,z4,z4,z4,v0,w19_4,w14_2,w59_25,w60_26,v2,w60_26,v1,w14_2,w65_27,w66_28,w67_29,w68_30,w60_26,v1,w14_2,w72_34,w73_35,w60_26,v1,w76_38,w77_39,w60_26,v1,w80_40,v2,w82_41,w60_26,z4,z4,z4,z4,z4,z4,z4,z4,z4,z4,z4] H7)
 (fun _=>bnP (xe H5 3 w60_26 (some w19_4) none none) fun w86_42 => 
 bnS (z4I H5 3 w86_42 v2) fun w88_43 H8 => 
 bnP (xe H8 3 w60_26 (some v1) none none) fun w91_44 => 
 bnS (call 90 [w91_44,w14_2] H8) fun w93_45 H9 => 
 k .ret [w60_26,v1,v2,z4,z4,z4,w60_26,w14_2,w19_4,z4,v0,v1,w12_1,v2,w14_2,w14_2,w16_3,z4,v0,w19_4,v1,w19_4,w22_5,z4,z4,z4,w19_4,w14_2,w28_7,v0,w30_8,w31_9,z4,z4,z4,z4,z4,z4,z4,z4,z4,z4,z4,z4,z4,z4,z4,z4,z4,z4,z4,z4,z4,z4,z4,z4,v0,w19_4,w14_2,w59_25,w60_26,v2,w60_26,v1,w14_2,w65_27,w66_28,w67_29,w68_30,z4,z4,z4,z4,z4,z4,z4,z4,z4,z4,z4,z4,z4,z4,z4,w60_26,w19_4,w86_42,v2,w88_43,w60_26,v1,w91_44,w14_2,w93_45,w60_26] H9)))):=by kernel_rfl
theorem xd {s:kE} (hs:s.lookup 85=none) (v0 v1 v2:AV) (H:z3):zM (env s) 85 [v0,v1,v2] H=vU (zM (env s)) (KB (env s)) x9 [v0,v1,v2,z4,z4,z4,z4,z4,z4,z4,z4,z4,z4,z4,z4,z4,z4,z4,z4,z4,z4,z4,z4,z4,z4,z4,z4,z4,z4,z4,z4,z4,z4,z4,z4,z4,z4,z4,z4,z4,z4,z4,z4,z4,z4,z4,z4,z4,z4,z4,z4,z4,z4,z4,z4,z4,z4,z4,z4,z4,z4,z4,z4,z4,z4,z4,z4,z4,z4,z4,z4,z4,z4,z4,z4,z4,z4,z4,z4,z4,z4,z4,z4,z4,z4,z4,z4,z4,z4,z4,z4,z4,z4,z4,z4] H (z6o [.tmp 6]):=z2B (fn:=yh) hs rfl [v0,v1,v2] H
end Go.Proofs.Ytdbbdfmkglgjdaa.Bi
