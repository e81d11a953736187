/- Equations: what the pieces of the digested functions come to. Printed by mkeq.py of this repo. -/
import Derived.Test.YtdbbdfmkglgjdaaBid
namespace Go.Proofs.Ytdbbdfmkglgjdaa.Bi
open Go.Ab
set_option maxRecDepth 100000
set_option linter.unusedVariables false
set_option linter.unusedSimpArgs false
theorem x6 {β:Type} (call:z7) (lp:z9j) (v0 v1 v2:AV) (H:z3) (k:zE→Tau→z3→Option β):vk call lp x5 [v0,v1,v2,z4,z4,z4,z4,z4,z4,z4,z4,z4,z4,z4,z4,z4,z4,z4,z4,z4,z4,z4,z4,z4,z4,z4,z4,z4,z4,z4,z4,z4,z4,z4,z4,z4,z4,z4,z4,z4,z4,z4,z4,z4,z4,z4,z4,z4,z4,z4,z4,z4,z4,z4,z4,z4,z4,z4,z4,z4,z4,z4,z4,z4,z4,z4,z4,z4,z4,z4,z4,z4,z4,z4,z4,z4,z4,z4,z4,z4,z4,z4,z4,z4,z4,z4,z4,z4,z4,z4,z4,z4,z4,z4,z4] H k =
 bnP (x8 H 3 v0 (some v1) none none) fun w12_1 => 
 bnP (z0R v2) fun w14_2 => 
 bnP (zc .eql w14_2 (.int .i64 0)) fun w16_3 => 
 zG w16_3 (fun _=>k .ret [v0,v1,v2,z4,z4,z4,v0,w14_2,z4,z4,v0,v1,w12_1,v2,w14_2,w14_2,w16_3,v0,z4,z4,z4,z4,z4,z4,z4,z4,z4,z4,z4,z4,z4,z4,z4,z4,z4,z4,z4,z4,z4,z4,z4,z4,z4,z4,z4,z4,z4,z4,z4,z4,z4,z4,z4,z4,z4,z4,z4,z4,z4,z4,z4,z4,z4,z4,z4,z4,z4,z4,z4,z4,z4,z4,z4,z4,z4,z4,z4,z4,z4,z4,z4,z4,z4,z4,z4,z4,z4,z4,z4,z4,z4,z4,z4,z4,z4] H)
 (fun _=>bnP (z0R v0) fun w19_4 => 
 bnP (zc .eql v1 w19_4) fun w22_5 => 
 zG w22_5 (fun _=>bnS (z4F H 3 24 [.int .i64 0,.int .i64 0,.int .i64 0] v0 v2) fun w25_6 H1 => 
 k .ret [v0,v1,v2,z4,z4,z4,w25_6,w14_2,w19_4,z4,v0,v1,w12_1,v2,w14_2,w14_2,w16_3,z4,v0,w19_4,v1,w19_4,w22_5,v0,v2,w25_6,z4,z4,z4,z4,z4,z4,z4,z4,z4,z4,z4,z4,z4,z4,z4,z4,z4,z4,z4,z4,z4,z4,z4,z4,z4,z4,z4,z4,z4,z4,z4,z4,z4,z4,z4,z4,z4,z4,z4,z4,z4,z4,z4,z4,z4,z4,z4,z4,z4,z4,z4,z4,z4,z4,z4,z4,z4,z4,z4,z4,z4,z4,z4,z4,z4,z4,z4,z4,z4] H1)
 (fun _=>bnP (zc .add w19_4 w14_2) fun w28_7 => 
 bnP (z9d v0) fun w30_8 => 
 bnP (zc .gtr w28_7 w30_8) fun w31_9 => 
 zG w31_9 (fun _=>bnP (x8 H 3 v0 none (some v1) none) fun w34_10 => 
 bnP (zc .add w19_4 w14_2) fun w37_11 => 
 bnP (zc .sub w37_11 v1) fun w39_12 => 
 bnS (z9e H 3 24 [.int .i64 0,.int .i64 0,.int .i64 0] w34_10 w39_12) fun w40_13 H2 => 
 bnP (x8 H2 3 w40_13 (some v1) none none) fun w43_14 => 
 bnS (z38 H2 3 w43_14 v2) fun w45_15 H3 => 
 bnP (zc .add v1 w14_2) fun w49_19 => 
 bnP (x8 H3 3 w40_13 (some w49_19) none none) fun w50_20 => 
 bnP (x8 H3 3 v0 (some v1) none none) fun w53_23 => 
 bnS (z38 H3 3 w50_20 w53_23) fun w54_24 H4 => 
 k .ret [v0,v1,v2,z4,z4,z4,w40_13,w14_2,w19_4,w40_13,v0,v1,w12_1,v2,w14_2,w14_2,w16_3,z4,v0,w19_4,v1,w19_4,w22_5,z4,z4,z4,w19_4,w14_2,w28_7,v0,w30_8,w31_9,v0,v1,w34_10,w19_4,w14_2,w37_11,v1,w39_12,w40_13,w40_13,v1,w43_14,v2,w45_15,w40_13,v1,w14_2,w49_19,w50_20,v0,v1,w53_23,w54_24,w40_13,z4,z4,z4,z4,z4,z4,z4,z4,z4,z4,z4,z4,z4,z4,z4,z4,z4,z4,z4,z4,z4,z4,z4,z4,z4,z4,z4,z4,z4,z4,z4,z4,z4,z4,z4,z4,z4,z4,z4] H4)
 (fun _=>bnP (zc .add w19_4 w14_2) fun w59_25 => 
 bnP (x8 H 3 v0 none (some w59_25) none) fun w60_26 => 
 bnP (zc .add v1 w14_2) fun w65_27 => 
 bnP (x8 H 3 w60_26 (some w65_27) none none) fun w66_28 => 
 bnS (call 89 [v2,w66_28] H) fun w67_29 H5 => 
 bnP (unA .not w67_29) fun w68_30 => 
 zG w68_30 (fun _=>bnP (zc .add v1 w14_2) fun w72_34 => 
 bnP (x8 H5 3 w60_26 (some w72_34) none none) fun w73_35 => 
 bnP (x8 H5 3 w60_26 (some v1) none none) fun w76_38 => 
 bnS (z38 H5 3 w73_35 w76_38) fun w77_39 H6 => 
 bnP (x8 H6 3 w60_26 (some v1) none none) fun w80_40 => 
 bnS (z38 H6 3 w80_40 v2) fun w82_41 H7 => 
 k .ret [w60_26,v1,v2,z4,z4,z4,w60_26,w14_2,w19_4,z4,v0,v1,w12_1,v2,w14_2,w14_2,w16_3,z4,v0,w19_4,v1,w19_4,w22_5,z4,z4,z4,w19_4,w14_2,w28_7,v0,w30_8,w31_9,z4,z4,z4,z4,z4,z4,z4,z4,z4,z4,z4,z4,z4,z4,z4,z4,z4,z4,z4,z4,z4,z4,z4,z4,v0,w19_4,w14_2,w59_25,w60_26,v2,w60_26,v1,w14_2,w65_27,w66_28,w67_29,w68_30,w60_26,v1,w14_2,w72_34,w73_35,w60_26,v1,w76_38,w77_39,w60_26,v1,w80_40,v2,w82_41,w60_26,z4,z4,z4,z4,z4,z4,z4,z4,z4,z4,z4] H7)
 (fun _=>bnP (x8 H5 3 w60_26 (some w19_4) none none) fun w86_42 => 
 bnS (z38 H5 3 w86_42 v2) fun w88_43 H8 => 
 bnP (x8 H8 3 w60_26 (some v1) none none) fun w91_44 => 
 bnS (call 90 [w91_44,w14_2] H8) fun w93_45 H9 => 
 k .ret [w60_26,v1,v2,z4,z4,z4,w60_26,w14_2,w19_4,z4,v0,v1,w12_1,v2,w14_2,w14_2,w16_3,z4,v0,w19_4,v1,w19_4,w22_5,z4,z4,z4,w19_4,w14_2,w28_7,v0,w30_8,w31_9,z4,z4,z4,z4,z4,z4,z4,z4,z4,z4,z4,z4,z4,z4,z4,z4,z4,z4,z4,z4,z4,z4,z4,z4,v0,w19_4,w14_2,w59_25,w60_26,v2,w60_26,v1,w14_2,w65_27,w66_28,w67_29,w68_30,z4,z4,z4,z4,z4,z4,z4,z4,z4,z4,z4,z4,z4,z4,z4,w60_26,w19_4,w86_42,v2,w88_43,w60_26,v1,w91_44,w14_2,w93_45,w60_26] H9)))):=by kernel_rfl
theorem x7 {s:jU} (hs:s.lookup 85=none) (v0 v1 v2:AV) (H:z3):zL (env s) 85 [v0,v1,v2] H=vk (zL (env s)) (Jr (env s)) x5 [v0,v1,v2,z4,z4,z4,z4,z4,z4,z4,z4,z4,z4,z4,z4,z4,z4,z4,z4,z4,z4,z4,z4,z4,z4,z4,z4,z4,z4,z4,z4,z4,z4,z4,z4,z4,z4,z4,z4,z4,z4,z4,z4,z4,z4,z4,z4,z4,z4,z4,z4,z4,z4,z4,z4,z4,z4,z4,z4,z4,z4,z4,z4,z4,z4,z4,z4,z4,z4,z4,z4,z4,z4,z4,z4,z4,z4,z4,z4,z4,z4,z4,z4,z4,z4,z4,z4,z4,z4,z4,z4,z4,z4,z4,z4] H (z4M [.tmp 6]):=z0X (fn:=yg) hs rfl [v0,v1,v2] H
end Go.Proofs.Ytdbbdfmkglgjdaa.Bi
