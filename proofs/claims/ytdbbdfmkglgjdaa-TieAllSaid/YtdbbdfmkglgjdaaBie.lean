/- The functions that Kid] reach, digested for the evaluator, with what nothing reads any more forgotten; that they are the program's. Printed by mkeq.py of this repo. -/
import Derived.Test.YtdbbdfmkglgjdaaChecked
import Derived.Test.YtdbbdfmkglgjdaaSh15
import Derived.KernelRfl
namespace Go.Proofs.Ytdbbdfmkglgjdaa.Bi
open Go.Ab
def xm:xk:=.seq (.reg [⟨some 6,.mv (.c .nils),none⟩]) (.seq (.reg [⟨some 10,.mv (.t 0),none⟩,⟨some 11,.mv (.t 1),none⟩,⟨some 12,.slc 3 (.t 10) (some (.t 11)) none none,none⟩]) (.seq (.reg [⟨some 13,.mv (.t 2),none⟩,⟨some 14,.len (.t 13),none⟩,⟨some 7,.mv (.t 14),none⟩]) (.seq (.seq (.reg [⟨some 15,.mv (.t 7),none⟩,⟨some 16,.bin .eql (.t 15) (.c (.int .i64 0)),none⟩]) (.cond (.t 16) (.seq (.reg [⟨some 17,.mv (.t 0),none⟩,⟨some 6,.mv (.t 17),none⟩]) .ret) .skip)) (.seq (.reg [⟨some 18,.mv (.t 0),none⟩,⟨some 19,.len (.t 18),none⟩,⟨some 8,.mv (.t 19),none⟩]) (.seq (.seq (.reg [⟨some 20,.mv (.t 1),none⟩,⟨some 21,.mv (.t 8),none⟩,⟨some 22,.bin .eql (.t 20) (.t 21),none⟩]) (.cond (.t 22) (.seq (.reg [⟨some 23,.mv (.t 0),none⟩,⟨some 24,.mv (.t 2),none⟩,⟨some 25,.app 3 24 [.int .i64 0,.int .i64 0,.int .i64 0] (.t 23) (.t 24),none⟩,⟨some 6,.mv (.t 25),none⟩]) .ret) .skip)) (.seq (.seq (.reg [⟨some 26,.mv (.t 8),none⟩,⟨some 27,.mv (.t 7),none⟩,⟨some 28,.bin .add (.t 26) (.t 27),none⟩,⟨some 29,.mv (.t 0),none⟩,⟨some 30,.cap (.t 29),none⟩,⟨some 31,.bin .gtr (.t 28) (.t 30),none⟩]) (.cond (.t 31) (.seq (.reg [⟨some 32,.mv (.t 0),none⟩,⟨some 33,.mv (.t 1),none⟩,⟨some 34,.slc 3 (.t 32) none (some (.t 33)) none,none⟩,⟨some 35,.mv (.t 8),none⟩,⟨some 36,.mv (.t 7),none⟩,⟨some 37,.bin .add (.t 35) (.t 36),none⟩,⟨some 38,.mv (.t 1),none⟩,⟨some 39,.bin .sub (.t 37) (.t 38),none⟩,⟨some 40,.apz 3 24 [.int .i64 0,.int .i64 0,.int .i64 0] (.t 34) (.t 39),none⟩,⟨some 9,.mv (.t 40),none⟩]) (.seq (.reg [⟨some 41,.mv (.t 9),none⟩,⟨some 42,.mv (.t 1),none⟩,⟨some 43,.slc 3 (.t 41) (some (.t 42)) none none,none⟩,⟨some 44,.mv (.t 2),none⟩,⟨some 45,.cpy 3 (.t 43) (.t 44),none⟩]) (.seq (.dreg 0 [(⟨some 46,.mv (.t 9),none⟩,.q),(⟨some 47,.mv (.t 1),none⟩,.q),(⟨some 48,.mv (.t 7),none⟩,.q),(⟨some 49,.bin .add (.t 47) (.t 48),none⟩,.q),(⟨some 50,.slc 3 (.t 46) (some (.t 49)) none none,none⟩,.q),(⟨some 51,.mv (.t 0),none⟩,.q),(⟨some 52,.mv (.t 1),none⟩,.q),(⟨some 53,.slc 3 (.t 51) (some (.t 52)) none none,none⟩,.q),(⟨some 54,.cpy 3 (.t 50) (.t 53),none⟩,.ef [])]) (.seq (.reg [⟨some 55,.mv (.t 9),none⟩,⟨some 6,.mv (.t 55),none⟩]) .ret)))) .skip)) (.seq (.reg [⟨some 56,.mv (.t 0),none⟩,⟨some 57,.mv (.t 8),none⟩,⟨some 58,.mv (.t 7),none⟩,⟨some 59,.bin .add (.t 57) (.t 58),none⟩,⟨some 60,.slc 3 (.t 56) none (some (.t 59)) none,none⟩,⟨some 0,.mv (.t 60),none⟩]) (.seq (.seq (.reg [⟨some 61,.mv (.t 2),none⟩,⟨some 62,.mv (.t 0),none⟩,⟨some 63,.mv (.t 1),none⟩,⟨some 64,.mv (.t 7),none⟩,⟨some 65,.bin .add (.t 63) (.t 64),none⟩,⟨some 66,.slc 3 (.t 62) (some (.t 65)) none none,none⟩,⟨some 67,.call (.c (.fn 89 [] [])) [.t 61,.t 66],none⟩,⟨some 68,.un .not (.t 67),none⟩]) (.cond (.t 68) (.seq (.dreg 0 [(⟨some 69,.mv (.t 0),none⟩,.q),(⟨some 70,.mv (.t 1),none⟩,.q),(⟨some 71,.mv (.t 7),none⟩,.q),(⟨some 72,.bin .add (.t 70) (.t 71),none⟩,.q),(⟨some 73,.slc 3 (.t 69) (some (.t 72)) none none,none⟩,.q),(⟨some 74,.mv (.t 0),none⟩,.q),(⟨some 75,.mv (.t 1),none⟩,.q),(⟨some 76,.slc 3 (.t 74) (some (.t 75)) none none,none⟩,.q),(⟨some 77,.cpy 3 (.t 73) (.t 76),none⟩,.ef [])]) (.seq (.reg [⟨some 78,.mv (.t 0),none⟩,⟨some 79,.mv (.t 1),none⟩,⟨some 80,.slc 3 (.t 78) (some (.t 79)) none none,none⟩,⟨some 81,.mv (.t 2),none⟩,⟨some 82,.cpy 3 (.t 80) (.t 81),none⟩]) (.seq (.reg [⟨some 83,.mv (.t 0),none⟩,⟨some 6,.mv (.t 83),none⟩]) .ret))) .skip)) (.seq (.reg [⟨some 84,.mv (.t 0),none⟩,⟨some 85,.mv (.t 8),none⟩,⟨some 86,.slc 3 (.t 84) (some (.t 85)) none none,none⟩,⟨some 87,.mv (.t 2),none⟩,⟨some 88,.cpy 3 (.t 86) (.t 87),none⟩]) (.seq (.reg [⟨some 89,.mv (.t 0),none⟩,⟨some 90,.mv (.t 1),none⟩,⟨some 91,.slc 3 (.t 89) (some (.t 90)) none none,none⟩,⟨some 92,.mv (.t 7),none⟩,⟨some 93,.call (.c (.fn 90 [] [])) [.t 91,.t 92],none⟩]) (.seq (.reg [⟨some 94,.mv (.t 0),none⟩,⟨some 6,.mv (.t 94),none⟩]) .ret)))))))))))
def yk:AFn:=⟨95,xm,[.tmp 6]⟩
def Ya:xk:=.reg [⟨some 4,.mv (.t 0),none⟩,⟨some 5,.mv (.t 0),none⟩,⟨some 6,.len (.t 5),none⟩,⟨some 7,.mv (.t 1),none⟩,⟨some 8,.bin .sub (.t 6) (.t 7),none⟩,⟨some 9,.call (.c (.fn 91 [] [])) [.t 4,.t 8],none⟩]
def xF:AFn:=⟨10,Ya,[]⟩
def Yq:xk:=.seq (.reg [⟨some 4,.mv (.t 0),none⟩,⟨some 5,.mv (.t 1),none⟩,⟨some 6,.slc 3 (.t 4) none (some (.t 5)) none,none⟩,⟨some 7,.call (.c (.fn 92 [] [])) [.t 6],none⟩]) (.seq (.reg [⟨some 8,.mv (.t 0),none⟩,⟨some 9,.mv (.t 1),none⟩,⟨some 10,.slc 3 (.t 8) (some (.t 9)) none none,none⟩,⟨some 11,.call (.c (.fn 92 [] [])) [.t 10],none⟩]) (.reg [⟨some 12,.mv (.t 0),none⟩,⟨some 13,.call (.c (.fn 92 [] [])) [.t 12],none⟩]))
def xO:AFn:=⟨14,Yq,[]⟩
def vT:xk:=.seq (.reg [⟨some 4,.mv (.c (.tup [])),none⟩,⟨some 5,.mv (.c (.tup [])),none⟩,⟨some 6,.mv (.c (.tup [])),none⟩,⟨some 7,.mv (.c (.tup [])),none⟩,⟨some 8,.mv (.c (.tup [])),none⟩,⟨some 9,.mv (.c (.tup [])),none⟩,⟨some 10,.mv (.c (.tup [])),none⟩,⟨some 11,.mv (.c (.tup [])),none⟩,⟨some 12,.mv (.c (.tup [])),none⟩,⟨some 13,.mv (.c (.tup [])),none⟩,⟨some 14,.mv (.c (.tup [])),none⟩,⟨some 15,.mv (.c (.tup [])),none⟩,⟨some 16,.mv (.c (.tup [])),none⟩,⟨some 17,.mv (.c (.tup [])),none⟩,⟨some 18,.mv (.c (.tup [])),none⟩,⟨some 19,.mv (.c (.tup [])),none⟩,⟨some 20,.mv (.c (.tup [])),none⟩,⟨some 21,.mv (.c (.tup [])),none⟩,⟨some 22,.mv (.c (.tup [])),none⟩,⟨some 23,.mv (.c (.tup [])),none⟩,⟨some 24,.mv (.c (.tup [])),none⟩,⟨some 25,.mv (.c (.tup [])),none⟩,⟨some 26,.mv (.c (.tup [])),none⟩,⟨some 27,.mv (.c (.tup [])),none⟩]) (.seq (.seq (.reg [⟨some 7,.mv (.t 2),none⟩,⟨some 8,.mv (.t 3),none⟩,⟨some 9,.bin .lss (.t 7) (.t 8),none⟩]) (.cond (.t 9) .skip (.seq (.reg [⟨some 0,.mv (.c (.tup [])),none⟩,⟨some 2,.mv (.c (.tup [])),none⟩,⟨some 3,.mv (.c (.tup [])),none⟩,⟨some 7,.mv (.c (.tup [])),none⟩,⟨some 8,.mv (.c (.tup [])),none⟩,⟨some 9,.mv (.c (.tup [])),none⟩]) (.exit 0)))) (.seq (.block 1 (.dreg 0 [(⟨some 14,.mv (.t 0),none⟩,.q),(⟨some 15,.mv (.t 2),none⟩,.q),(⟨some 16,.mv (.t 0),none⟩,.q),(⟨some 17,.mv (.t 3),none⟩,.q),(⟨some 18,.mv (.t 0),none⟩,.q),(⟨some 19,.mv (.t 3),none⟩,.q),(⟨some 20,.iad 3 (.t 18) (.t 19),none⟩,.q),(⟨some 21,.ldn 3 (.t 20),none⟩,.q),(⟨some 22,.mv (.t 0),none⟩,.q),(⟨some 23,.mv (.t 2),none⟩,.q),(⟨some 24,.iad 3 (.t 22) (.t 23),none⟩,.q),(⟨some 25,.ldn 3 (.t 24),none⟩,.q),(⟨some 26,.iad 3 (.t 14) (.t 15),none⟩,.q),(⟨none,.st 3 (.t 26) (.t 21),none⟩,.ef []),(⟨some 27,.iad 3 (.t 16) (.t 17),none⟩,.q),(⟨none,.st 3 (.t 27) (.t 25),none⟩,.ef [])])) (.seq (.reg [⟨some 7,.mv (.c (.tup [])),none⟩,⟨some 8,.mv (.c (.tup [])),none⟩,⟨some 9,.mv (.c (.tup [])),none⟩,⟨some 14,.mv (.c (.tup [])),none⟩,⟨some 15,.mv (.c (.tup [])),none⟩,⟨some 16,.mv (.c (.tup [])),none⟩,⟨some 17,.mv (.c (.tup [])),none⟩,⟨some 18,.mv (.c (.tup [])),none⟩,⟨some 19,.mv (.c (.tup [])),none⟩,⟨some 20,.mv (.c (.tup [])),none⟩,⟨some 21,.mv (.c (.tup [])),none⟩,⟨some 22,.mv (.c (.tup [])),none⟩,⟨some 23,.mv (.c (.tup [])),none⟩,⟨some 24,.mv (.c (.tup [])),none⟩,⟨some 25,.mv (.c (.tup [])),none⟩,⟨some 26,.mv (.c (.tup [])),none⟩,⟨some 27,.mv (.c (.tup [])),none⟩]) (.reg [⟨some 10,.mv (.t 2),none⟩,⟨some 11,.bin .add (.t 10) (.c (.int .i64 1)),none⟩,⟨some 12,.mv (.t 3),none⟩,⟨some 13,.bin .sub (.t 12) (.c (.int .i64 1)),none⟩,⟨some 2,.mv (.t 11),none⟩,⟨some 3,.mv (.t 13),none⟩]))))
def wQ:xk:=.seq (.reg [⟨some 4,.mv (.t 0),none⟩,⟨some 5,.len (.t 4),none⟩,⟨some 6,.bin .sub (.t 5) (.c (.int .i64 1)),none⟩,⟨some 2,.mv (.c (.int .i64 0)),none⟩,⟨some 3,.mv (.t 6),none⟩]) (.block 0 (.loop vT))
def x6:AFn:=⟨28,wQ,[]⟩
set_option maxRecDepth 100000
theorem wR:zi Try.prog 85∧∃ fn,Try.prog.funcs[85]? = some fn∧dFn Try.prog fn=some (V1 yk):=⟨⟨_,_,Try.func85,rfl,by kernel_rfl⟩,_,Try.func85,by kernel_rfl⟩
theorem wS:z20 yk=true:=by kernel_rfl
theorem ZM:zi Try.prog 90∧∃ fn,Try.prog.funcs[90]? = some fn∧dFn Try.prog fn=some (V1 xF):=⟨⟨_,_,Try.func90,rfl,by kernel_rfl⟩,_,Try.func90,by kernel_rfl⟩
theorem ZN:z20 xF=true:=by kernel_rfl
theorem Yb:zi Try.prog 91∧∃ fn,Try.prog.funcs[91]? = some fn∧dFn Try.prog fn=some (V1 xO):=⟨⟨_,_,Try.func91,rfl,by kernel_rfl⟩,_,Try.func91,by kernel_rfl⟩
theorem Yc:z20 xO=true:=by kernel_rfl
theorem wK:zi Try.prog 92∧∃ fn,Try.prog.funcs[92]? = some fn∧dFn Try.prog fn=some (V1 x6):=⟨⟨_,_,Try.func92,rfl,by kernel_rfl⟩,_,Try.func92,by kernel_rfl⟩
theorem wL:z20 x6=true:=by kernel_rfl
def fns:Nat→Option AFn
 | 85=>some yk
 | 90=>some xF
 | 91=>some xO
 | 92=>some x6
 | _=>none
abbrev v9:=List (Nat × (List AV→z3→Option (AV × z3)))
def env (s:v9):Env:=⟨fns,fun f=>s.lookup f⟩
def zg5 (s:v9):Env:=⟨fun f=>(fns f).map V1,fun f=>s.lookup f⟩
def vR (s:v9):Prop:=∀ p ∈ s,qi Try.prog p.1 p.2
theorem W2 {s:v9} {f:Nat} {g:List AV→z3→Option (AV × z3)} (h:s.lookup f=some g):(f,g) ∈ s:=by
 induction s with
 | nil=>cases h
 | cons p l ih =>
  obtain⟨a,b⟩:=p
  rw [List.lookup_cons] at h
  split at h
  ·rename_i e
   obtain rfl:=Option.some.inj h
   rw [eq_of_beq e]
   exact List.mem_cons_self
  ·exact List.mem_cons_of_mem _ (ih h)
theorem z6E {s:v9} (hs:vR s):z24 Try.prog (zg5 s):=by
 refine⟨Try.checked.mixed,fun f af h=>?_,fun f g h=>hs _ (W2 h)⟩
 change (fns f).map V1=some af at h
 obtain⟨x,hx,rfl⟩:=Option.map_eq_some_iff.1 h
 unfold fns at hx
 split at hx
 ·obtain rfl:=Option.some.inj hx;exact wR
 ·obtain rfl:=Option.some.inj hx;exact ZM
 ·obtain rfl:=Option.some.inj hx;exact Yb
 ·obtain rfl:=Option.some.inj hx;exact wK
 ·cases hx
theorem ze1 (s:v9):z21 (zg5 s) (env s):=by
 refine⟨rfl,fun f af h=>⟨?_,?_⟩⟩
 ·change (fns f).map V1=_
  change fns f=some af at h
  rw [h];rfl
 ·change fns f=some af at h
  unfold fns at h
  split at h
  ·obtain rfl:=Option.some.inj h;exact wS
  ·obtain rfl:=Option.some.inj h;exact ZN
  ·obtain rfl:=Option.some.inj h;exact Yc
  ·obtain rfl:=Option.some.inj h;exact wL
  ·cases h
theorem z8g:vR []:=fun p h=>by cases h
theorem z2S {n:Nat} {g:List AV→z3→Option (AV × z3)} {s:v9} (h:qi Try.prog n g) (hs:vR s):vR ((n,g)::s):=fun p hp=>by
 rcases List.mem_cons.1 hp with rfl | hp
 ·exact h
 ·exact hs p hp
theorem fok (s:v9):FOk (env s):=by
 intro f af h
 change fns f=some af at h
 unfold fns at h
 split at h
 ·obtain rfl:=Option.some.inj h;kernel_rfl
 ·obtain rfl:=Option.some.inj h;kernel_rfl
 ·obtain rfl:=Option.some.inj h;kernel_rfl
 ·obtain rfl:=Option.some.inj h;kernel_rfl
 ·cases h
end Go.Proofs.Ytdbbdfmkglgjdaa.Bi
/- Equations: what the pieces of the digested functions come to. Printed by mkeq.py of this repo. -/
namespace Go.Proofs.Ytdbbdfmkglgjdaa.Bi
open Go.Ab
set_option maxRecDepth 100000
set_option linter.unusedVariables false
set_option linter.unusedSimpArgs false
theorem xn {β:Type} (call:z8) (lp:zcE) (v0 v1 v2:AV) (H:z3) (k:zG→Tau→z3→Option β):wI call lp xm [v0,v1,v2,z4,z4,z4,z4,z4,z4,z4,z4,z4,z4,z4,z4,z4,z4,z4,z4,z4,z4,z4,z4,z4,z4,z4,z4,z4,z4,z4,z4,z4,z4,z4,z4,z4,z4,z4,z4,z4,z4,z4,z4,z4,z4,z4,z4,z4,z4,z4,z4,z4,z4,z4,z4,z4,z4,z4,z4,z4,z4,z4,z4,z4,z4,z4,z4,z4,z4,z4,z4,z4,z4,z4,z4,z4,z4,z4,z4,z4,z4,z4,z4,z4,z4,z4,z4,z4,z4,z4,z4,z4,z4,z4,z4] H k =
 bnP (xp H 3 v0 (some v1) none none) fun w12_1 => 
 bnP (z3X v2) fun w14_2 => 
 bnP (zb .eql w14_2 (.int .i64 0)) fun w16_3 => 
 zr w16_3 (fun _=>k .ret [v0,v1,v2,z4,z4,z4,v0,w14_2,z4,z4,v0,v1,w12_1,v2,w14_2,w14_2,w16_3,v0,z4,z4,z4,z4,z4,z4,z4,z4,z4,z4,z4,z4,z4,z4,z4,z4,z4,z4,z4,z4,z4,z4,z4,z4,z4,z4,z4,z4,z4,z4,z4,z4,z4,z4,z4,z4,z4,z4,z4,z4,z4,z4,z4,z4,z4,z4,z4,z4,z4,z4,z4,z4,z4,z4,z4,z4,z4,z4,z4,z4,z4,z4,z4,z4,z4,z4,z4,z4,z4,z4,z4,z4,z4,z4,z4,z4,z4] H)
 (fun _=>bnP (z3X v0) fun w19_4 => 
 bnP (zb .eql v1 w19_4) fun w22_5 => 
 zr w22_5 (fun _=>bnS (z7O H 3 24 [.int .i64 0,.int .i64 0,.int .i64 0] v0 v2) fun w25_6 H1 => 
 k .ret [v0,v1,v2,z4,z4,z4,w25_6,w14_2,w19_4,z4,v0,v1,w12_1,v2,w14_2,w14_2,w16_3,z4,v0,w19_4,v1,w19_4,w22_5,v0,v2,w25_6,z4,z4,z4,z4,z4,z4,z4,z4,z4,z4,z4,z4,z4,z4,z4,z4,z4,z4,z4,z4,z4,z4,z4,z4,z4,z4,z4,z4,z4,z4,z4,z4,z4,z4,z4,z4,z4,z4,z4,z4,z4,z4,z4,z4,z4,z4,z4,z4,z4,z4,z4,z4,z4,z4,z4,z4,z4,z4,z4,z4,z4,z4,z4,z4,z4,z4,z4,z4,z4] H1)
 (fun _=>bnP (zb .add w19_4 w14_2) fun w28_7 => 
 bnP (zcy v0) fun w30_8 => 
 bnP (zb .gtr w28_7 w30_8) fun w31_9 => 
 zr w31_9 (fun _=>bnP (xp H 3 v0 none (some v1) none) fun w34_10 => 
 bnP (zb .add w19_4 w14_2) fun w37_11 => 
 bnP (zb .sub w37_11 v1) fun w39_12 => 
 bnS (zcz H 3 24 [.int .i64 0,.int .i64 0,.int .i64 0] w34_10 w39_12) fun w40_13 H2 => 
 bnP (xp H2 3 w40_13 (some v1) none none) fun w43_14 => 
 bnS (z6f H2 3 w43_14 v2) fun w45_15 H3 => 
 bnP (zb .add v1 w14_2) fun w49_19 => 
 bnP (xp H3 3 w40_13 (some w49_19) none none) fun w50_20 => 
 bnP (xp H3 3 v0 (some v1) none none) fun w53_23 => 
 bnS (z6f H3 3 w50_20 w53_23) fun w54_24 H4 => 
 k .ret [v0,v1,v2,z4,z4,z4,w40_13,w14_2,w19_4,w40_13,v0,v1,w12_1,v2,w14_2,w14_2,w16_3,z4,v0,w19_4,v1,w19_4,w22_5,z4,z4,z4,w19_4,w14_2,w28_7,v0,w30_8,w31_9,v0,v1,w34_10,w19_4,w14_2,w37_11,v1,w39_12,w40_13,w40_13,v1,w43_14,v2,w45_15,w40_13,v1,w14_2,w49_19,w50_20,v0,v1,w53_23,w54_24,w40_13,z4,z4,z4,z4,z4,z4,z4,z4,z4,z4,z4,z4,z4,z4,z4,z4,z4,z4,z4,z4,z4,z4,z4,z4,z4,z4,z4,z4,z4,z4,z4,z4,z4,z4,z4,z4,z4,z4,z4] H4)
 (fun _=>bnP (zb .add w19_4 w14_2) fun w59_25 => 
 bnP (xp H 3 v0 none (some w59_25) none) fun w60_26 => 
 bnP (zb .add v1 w14_2) fun w65_27 => 
 bnP (xp H 3 w60_26 (some w65_27) none none) fun w66_28 => 
 bnS (call 89 [v2,w66_28] H) fun w67_29 H5 => 
 bnP (unA .not w67_29) fun w68_30 => 
 zr w68_30 (fun _=>bnP (zb .add v1 w14_2) fun w72_34 => 
 bnP (xp H5 3 w60_26 (some w72_34) none none) fun w73_35 => 
 bnP (xp H5 3 w60_26 (some v1) none none) fun w76_38 => 
 bnS (z6f H5 3 w73_35 w76_38) fun w77_39 H6 => 
 bnP (xp H6 3 w60_26 (some v1) none none) fun w80_40 => 
 bnS (z6f H6 3 w80_40 v2) fun w82_41 H7 => 
 k .ret [w60_26,v1,v2,z4,z4,z4,w60_26,w14_2,w19_4,z4,v0,v1,w12_1,v2,w14_2,w14_2,w16_3,z4,v0,w19_4,v1,w19_4,w22_5,z4,z4,z4,w19_4,w14_2,w28_7,v0,w30_8,w31_9,z4,z4,z4,z4,z4,z4,z4,z4,z4,z4,z4,z4,z4,z4,z4,z4,z4,z4,z4,z4,z4,z4,z4,z4,v0,w19_4,w14_2,w59_25,w60_26,v2,w60_26,v1,w14_2,w65_27,w66_28,w67_29,w68_30,w60_26,v1,w14_2,w72_34,w73_35,w60_26,v1,w76_38,w77_39,w60_26,v1,w80_40,v2,w82_41,w60_26,z4,z4,z4,z4,z4,z4,z4,z4,z4,z4,z4] H7)
 (fun _=>bnP (xp H5 3 w60_26 (some w19_4) none none) fun w86_42 => 
 bnS (z6f H5 3 w86_42 v2) fun w88_43 H8 => 
 bnP (xp H8 3 w60_26 (some v1) none none) fun w91_44 => 
 bnS (call 90 [w91_44,w14_2] H8) fun w93_45 H9 => 
 k .ret [w60_26,v1,v2,z4,z4,z4,w60_26,w14_2,w19_4,z4,v0,v1,w12_1,v2,w14_2,w14_2,w16_3,z4,v0,w19_4,v1,w19_4,w22_5,z4,z4,z4,w19_4,w14_2,w28_7,v0,w30_8,w31_9,z4,z4,z4,z4,z4,z4,z4,z4,z4,z4,z4,z4,z4,z4,z4,z4,z4,z4,z4,z4,z4,z4,z4,z4,v0,w19_4,w14_2,w59_25,w60_26,v2,w60_26,v1,w14_2,w65_27,w66_28,w67_29,w68_30,z4,z4,z4,z4,z4,z4,z4,z4,z4,z4,z4,z4,z4,z4,z4,w60_26,w19_4,w86_42,v2,w88_43,w60_26,v1,w91_44,w14_2,w93_45,w60_26] H9)))):=by kernel_rfl
theorem xo {s:v9} (hs:s.lookup 85=none) (v0 v1 v2:AV) (H:z3):zM (env s) 85 [v0,v1,v2] H=wI (zM (env s)) (VS (env s)) xm [v0,v1,v2,z4,z4,z4,z4,z4,z4,z4,z4,z4,z4,z4,z4,z4,z4,z4,z4,z4,z4,z4,z4,z4,z4,z4,z4,z4,z4,z4,z4,z4,z4,z4,z4,z4,z4,z4,z4,z4,z4,z4,z4,z4,z4,z4,z4,z4,z4,z4,z4,z4,z4,z4,z4,z4,z4,z4,z4,z4,z4,z4,z4,z4,z4,z4,z4,z4,z4,z4,z4,z4,z4,z4,z4,z4,z4,z4,z4,z4,z4,z4,z4,z4,z4,z4,z4,z4,z4,z4,z4,z4,z4,z4,z4] H (z7V [.tmp 6]):=z43 (fn:=yk) hs rfl [v0,v1,v2] H
end Go.Proofs.Ytdbbdfmkglgjdaa.Bi
