/- The functions that Kid] reach, digested for the evaluator, with what nothing reads any more forgotten; that they are the program's. Printed by mkeq.py of this repo. -/
import Derived.Test.YtdbbdfmkglgjdaaChecked
import Derived.Test.YtdbbdfmkglgjdaaSh15
import Derived.KernelRfl
namespace Go.Proofs.Ytdbbdfmkglgjdaa.Bi
open Go.Ab
def x5:x3:=.seq (.reg [⟨some 6,.mv (.c .nils),none⟩]) (.seq (.reg [⟨some 10,.mv (.t 0),none⟩,⟨some 11,.mv (.t 1),none⟩,⟨some 12,.slc 3 (.t 10) (some (.t 11)) none none,none⟩]) (.seq (.reg [⟨some 13,.mv (.t 2),none⟩,⟨some 14,.len (.t 13),none⟩,⟨some 7,.mv (.t 14),none⟩]) (.seq (.seq (.reg [⟨some 15,.mv (.t 7),none⟩,⟨some 16,.bin .eql (.t 15) (.c (.int .i64 0)),none⟩]) (.cond (.t 16) (.seq (.reg [⟨some 17,.mv (.t 0),none⟩,⟨some 6,.mv (.t 17),none⟩]) .ret) .skip)) (.seq (.reg [⟨some 18,.mv (.t 0),none⟩,⟨some 19,.len (.t 18),none⟩,⟨some 8,.mv (.t 19),none⟩]) (.seq (.seq (.reg [⟨some 20,.mv (.t 1),none⟩,⟨some 21,.mv (.t 8),none⟩,⟨some 22,.bin .eql (.t 20) (.t 21),none⟩]) (.cond (.t 22) (.seq (.reg [⟨some 23,.mv (.t 0),none⟩,⟨some 24,.mv (.t 2),none⟩,⟨some 25,.app 3 24 [.int .i64 0,.int .i64 0,.int .i64 0] (.t 23) (.t 24),none⟩,⟨some 6,.mv (.t 25),none⟩]) .ret) .skip)) (.seq (.seq (.reg [⟨some 26,.mv (.t 8),none⟩,⟨some 27,.mv (.t 7),none⟩,⟨some 28,.bin .add (.t 26) (.t 27),none⟩,⟨some 29,.mv (.t 0),none⟩,⟨some 30,.cap (.t 29),none⟩,⟨some 31,.bin .gtr (.t 28) (.t 30),none⟩]) (.cond (.t 31) (.seq (.reg [⟨some 32,.mv (.t 0),none⟩,⟨some 33,.mv (.t 1),none⟩,⟨some 34,.slc 3 (.t 32) none (some (.t 33)) none,none⟩,⟨some 35,.mv (.t 8),none⟩,⟨some 36,.mv (.t 7),none⟩,⟨some 37,.bin .add (.t 35) (.t 36),none⟩,⟨some 38,.mv (.t 1),none⟩,⟨some 39,.bin .sub (.t 37) (.t 38),none⟩,⟨some 40,.apz 3 24 [.int .i64 0,.int .i64 0,.int .i64 0] (.t 34) (.t 39),none⟩,⟨some 9,.mv (.t 40),none⟩]) (.seq (.reg [⟨some 41,.mv (.t 9),none⟩,⟨some 42,.mv (.t 1),none⟩,⟨some 43,.slc 3 (.t 41) (some (.t 42)) none none,none⟩,⟨some 44,.mv (.t 2),none⟩,⟨some 45,.cpy 3 (.t 43) (.t 44),none⟩]) (.seq (.dreg 0 [(⟨some 46,.mv (.t 9),none⟩,.q),(⟨some 47,.mv (.t 1),none⟩,.q),(⟨some 48,.mv (.t 7),none⟩,.q),(⟨some 49,.bin .add (.t 47) (.t 48),none⟩,.q),(⟨some 50,.slc 3 (.t 46) (some (.t 49)) none none,none⟩,.q),(⟨some 51,.mv (.t 0),none⟩,.q),(⟨some 52,.mv (.t 1),none⟩,.q),(⟨some 53,.slc 3 (.t 51) (some (.t 52)) none none,none⟩,.q),(⟨some 54,.cpy 3 (.t 50) (.t 53),none⟩,.ef [])]) (.seq (.reg [⟨some 55,.mv (.t 9),none⟩,⟨some 6,.mv (.t 55),none⟩]) .ret)))) .skip)) (.seq (.reg [⟨some 56,.mv (.t 0),none⟩,⟨some 57,.mv (.t 8),none⟩,⟨some 58,.mv (.t 7),none⟩,⟨some 59,.bin .add (.t 57) (.t 58),none⟩,⟨some 60,.slc 3 (.t 56) none (some (.t 59)) none,none⟩,⟨some 0,.mv (.t 60),none⟩]) (.seq (.seq (.reg [⟨some 61,.mv (.t 2),none⟩,⟨some 62,.mv (.t 0),none⟩,⟨some 63,.mv (.t 1),none⟩,⟨some 64,.mv (.t 7),none⟩,⟨some 65,.bin .add (.t 63) (.t 64),none⟩,⟨some 66,.slc 3 (.t 62) (some (.t 65)) none none,none⟩,⟨some 67,.call (.c (.fn 89 [] [])) [.t 61,.t 66],none⟩,⟨some 68,.un .not (.t 67),none⟩]) (.cond (.t 68) (.seq (.dreg 0 [(⟨some 69,.mv (.t 0),none⟩,.q),(⟨some 70,.mv (.t 1),none⟩,.q),(⟨some 71,.mv (.t 7),none⟩,.q),(⟨some 72,.bin .add (.t 70) (.t 71),none⟩,.q),(⟨some 73,.slc 3 (.t 69) (some (.t 72)) none none,none⟩,.q),(⟨some 74,.mv (.t 0),none⟩,.q),(⟨some 75,.mv (.t 1),none⟩,.q),(⟨some 76,.slc 3 (.t 74) (some (.t 75)) none none,none⟩,.q),(⟨some 77,.cpy 3 (.t 73) (.t 76),none⟩,.ef [])]) (.seq (.reg [⟨some 78,.mv (.t 0),none⟩,⟨some 79,.mv (.t 1),none⟩,⟨some 80,.slc 3 (.t 78) (some (.t 79)) none none,none⟩,⟨some 81,.mv (.t 2),none⟩,⟨some 82,.cpy 3 (.t 80) (.t 81),none⟩]) (.seq (.reg [⟨some 83,.mv (.t 0),none⟩,⟨some 6,.mv (.t 83),none⟩]) .ret))) .skip)) (.seq (.reg [⟨some 84,.mv (.t 0),none⟩,⟨some 85,.mv (.t 8),none⟩,⟨some 86,.slc 3 (.t 84) (some (.t 85)) none none,none⟩,⟨some 87,.mv (.t 2),none⟩,⟨some 88,.cpy 3 (.t 86) (.t 87),none⟩]) (.seq (.reg [⟨some 89,.mv (.t 0),none⟩,⟨some 90,.mv (.t 1),none⟩,⟨some 91,.slc 3 (.t 89) (some (.t 90)) none none,none⟩,⟨some 92,.mv (.t 7),none⟩,⟨some 93,.call (.c (.fn 90 [] [])) [.t 91,.t 92],none⟩]) (.seq (.reg [⟨some 94,.mv (.t 0),none⟩,⟨some 6,.mv (.t 94),none⟩]) .ret)))))))))))
def yg:AFn:=⟨95,x5,[.tmp 6]⟩
def wT:x3:=.reg [⟨some 4,.mv (.t 0),none⟩,⟨some 5,.mv (.t 0),none⟩,⟨some 6,.len (.t 5),none⟩,⟨some 7,.mv (.t 1),none⟩,⟨some 8,.bin .sub (.t 6) (.t 7),none⟩,⟨some 9,.call (.c (.fn 91 [] [])) [.t 4,.t 8],none⟩]
def xo:AFn:=⟨10,wT,[]⟩
def Z1:x3:=.seq (.reg [⟨some 4,.mv (.t 0),none⟩,⟨some 5,.mv (.t 1),none⟩,⟨some 6,.slc 3 (.t 4) none (some (.t 5)) none,none⟩,⟨some 7,.call (.c (.fn 92 [] [])) [.t 6],none⟩]) (.seq (.reg [⟨some 8,.mv (.t 0),none⟩,⟨some 9,.mv (.t 1),none⟩,⟨some 10,.slc 3 (.t 8) (some (.t 9)) none none,none⟩,⟨some 11,.call (.c (.fn 92 [] [])) [.t 10],none⟩]) (.reg [⟨some 12,.mv (.t 0),none⟩,⟨some 13,.call (.c (.fn 92 [] [])) [.t 12],none⟩]))
def xy:AFn:=⟨14,Z1,[]⟩
def kL:x3:=.seq (.reg [⟨some 4,.mv (.c (.tup [])),none⟩,⟨some 5,.mv (.c (.tup [])),none⟩,⟨some 6,.mv (.c (.tup [])),none⟩,⟨some 7,.mv (.c (.tup [])),none⟩,⟨some 8,.mv (.c (.tup [])),none⟩,⟨some 9,.mv (.c (.tup [])),none⟩,⟨some 10,.mv (.c (.tup [])),none⟩,⟨some 11,.mv (.c (.tup [])),none⟩,⟨some 12,.mv (.c (.tup [])),none⟩,⟨some 13,.mv (.c (.tup [])),none⟩,⟨some 14,.mv (.c (.tup [])),none⟩,⟨some 15,.mv (.c (.tup [])),none⟩,⟨some 16,.mv (.c (.tup [])),none⟩,⟨some 17,.mv (.c (.tup [])),none⟩,⟨some 18,.mv (.c (.tup [])),none⟩,⟨some 19,.mv (.c (.tup [])),none⟩,⟨some 20,.mv (.c (.tup [])),none⟩,⟨some 21,.mv (.c (.tup [])),none⟩,⟨some 22,.mv (.c (.tup [])),none⟩,⟨some 23,.mv (.c (.tup [])),none⟩,⟨some 24,.mv (.c (.tup [])),none⟩,⟨some 25,.mv (.c (.tup [])),none⟩,⟨some 26,.mv (.c (.tup [])),none⟩,⟨some 27,.mv (.c (.tup [])),none⟩]) (.seq (.seq (.reg [⟨some 7,.mv (.t 2),none⟩,⟨some 8,.mv (.t 3),none⟩,⟨some 9,.bin .lss (.t 7) (.t 8),none⟩]) (.cond (.t 9) .skip (.seq (.reg [⟨some 0,.mv (.c (.tup [])),none⟩,⟨some 2,.mv (.c (.tup [])),none⟩,⟨some 3,.mv (.c (.tup [])),none⟩,⟨some 7,.mv (.c (.tup [])),none⟩,⟨some 8,.mv (.c (.tup [])),none⟩,⟨some 9,.mv (.c (.tup [])),none⟩]) (.exit 0)))) (.seq (.block 1 (.dreg 0 [(⟨some 14,.mv (.t 0),none⟩,.q),(⟨some 15,.mv (.t 2),none⟩,.q),(⟨some 16,.mv (.t 0),none⟩,.q),(⟨some 17,.mv (.t 3),none⟩,.q),(⟨some 18,.mv (.t 0),none⟩,.q),(⟨some 19,.mv (.t 3),none⟩,.q),(⟨some 20,.iad 3 (.t 18) (.t 19),none⟩,.q),(⟨some 21,.ldn 3 (.t 20),none⟩,.q),(⟨some 22,.mv (.t 0),none⟩,.q),(⟨some 23,.mv (.t 2),none⟩,.q),(⟨some 24,.iad 3 (.t 22) (.t 23),none⟩,.q),(⟨some 25,.ldn 3 (.t 24),none⟩,.q),(⟨some 26,.iad 3 (.t 14) (.t 15),none⟩,.q),(⟨none,.st 3 (.t 26) (.t 21),none⟩,.ef []),(⟨some 27,.iad 3 (.t 16) (.t 17),none⟩,.q),(⟨none,.st 3 (.t 27) (.t 25),none⟩,.ef [])])) (.seq (.reg [⟨some 7,.mv (.c (.tup [])),none⟩,⟨some 8,.mv (.c (.tup [])),none⟩,⟨some 9,.mv (.c (.tup [])),none⟩,⟨some 14,.mv (.c (.tup [])),none⟩,⟨some 15,.mv (.c (.tup [])),none⟩,⟨some 16,.mv (.c (.tup [])),none⟩,⟨some 17,.mv (.c (.tup [])),none⟩,⟨some 18,.mv (.c (.tup [])),none⟩,⟨some 19,.mv (.c (.tup [])),none⟩,⟨some 20,.mv (.c (.tup [])),none⟩,⟨some 21,.mv (.c (.tup [])),none⟩,⟨some 22,.mv (.c (.tup [])),none⟩,⟨some 23,.mv (.c (.tup [])),none⟩,⟨some 24,.mv (.c (.tup [])),none⟩,⟨some 25,.mv (.c (.tup [])),none⟩,⟨some 26,.mv (.c (.tup [])),none⟩,⟨some 27,.mv (.c (.tup [])),none⟩]) (.reg [⟨some 10,.mv (.t 2),none⟩,⟨some 11,.bin .add (.t 10) (.c (.int .i64 1)),none⟩,⟨some 12,.mv (.t 3),none⟩,⟨some 13,.bin .sub (.t 12) (.c (.int .i64 1)),none⟩,⟨some 2,.mv (.t 11),none⟩,⟨some 3,.mv (.t 13),none⟩]))))
def vr:x3:=.seq (.reg [⟨some 4,.mv (.t 0),none⟩,⟨some 5,.len (.t 4),none⟩,⟨some 6,.bin .sub (.t 5) (.c (.int .i64 1)),none⟩,⟨some 2,.mv (.c (.int .i64 0)),none⟩,⟨some 3,.mv (.t 6),none⟩]) (.block 0 (.loop kL))
def yS:AFn:=⟨28,vr,[]⟩
set_option maxRecDepth 100000
theorem vt:zh Try.prog 85∧∃ fn,Try.prog.funcs[85]? = some fn∧dFn Try.prog fn=some (QU yg):=⟨⟨_,_,Try.func85,rfl,by kernel_rfl⟩,_,Try.func85,by kernel_rfl⟩
theorem vu:W3 yg=true:=by kernel_rfl
theorem wu:zh Try.prog 90∧∃ fn,Try.prog.funcs[90]? = some fn∧dFn Try.prog fn=some (QU xo):=⟨⟨_,_,Try.func90,rfl,by kernel_rfl⟩,_,Try.func90,by kernel_rfl⟩
theorem ww:W3 xo=true:=by kernel_rfl
theorem wU:zh Try.prog 91∧∃ fn,Try.prog.funcs[91]? = some fn∧dFn Try.prog fn=some (QU xy):=⟨⟨_,_,Try.func91,rfl,by kernel_rfl⟩,_,Try.func91,by kernel_rfl⟩
theorem wV:W3 xy=true:=by kernel_rfl
theorem vm:zh Try.prog 92∧∃ fn,Try.prog.funcs[92]? = some fn∧dFn Try.prog fn=some (QU yS):=⟨⟨_,_,Try.func92,rfl,by kernel_rfl⟩,_,Try.func92,by kernel_rfl⟩
theorem vn:W3 yS=true:=by kernel_rfl
def fns:Nat→Option AFn
 | 85=>some yg
 | 90=>some xo
 | 91=>some xy
 | 92=>some yS
 | _=>none
abbrev jU:=List (Nat × (List AV→z3→Option (AV × z3)))
def env (s:jU):Env:=⟨fns,fun f=>s.lookup f⟩
def zcH (s:jU):Env:=⟨fun f=>(fns f).map QU,fun f=>s.lookup f⟩
def kJ (s:jU):Prop:=∀ p ∈ s,xM Try.prog p.1 p.2
theorem JB {s:jU} {f:Nat} {g:List AV→z3→Option (AV × z3)} (h:s.lookup f=some g):(f,g) ∈ s:=by
 induction s with
 | nil=>cases h
 | cons p l ih =>
  obtain⟨a,b⟩:=p
  rw [List.lookup_cons] at h
  split at h
  ·rename_i e
   obtain rfl:=Option.some.inj h
   rw [eq_of_beq e]
   exact List.mem_cons_self
  ·exact List.mem_cons_of_mem _ (ih h)
theorem z3x {s:jU} (hs:kJ s):W7 Try.prog (zcH s):=by
 refine⟨Try.checked.mixed,fun f af h=>?_,fun f g h=>hs _ (JB h)⟩
 change (fns f).map QU=some af at h
 obtain⟨x,hx,rfl⟩:=Option.map_eq_some_iff.1 h
 unfold fns at hx
 split at hx
 ·obtain rfl:=Option.some.inj hx;exact vt
 ·obtain rfl:=Option.some.inj hx;exact wu
 ·obtain rfl:=Option.some.inj hx;exact wU
 ·obtain rfl:=Option.some.inj hx;exact vm
 ·cases hx
theorem zaB (s:jU):W4 (zcH s) (env s):=by
 refine⟨rfl,fun f af h=>⟨?_,?_⟩⟩
 ·change (fns f).map QU=_
  change fns f=some af at h
  rw [h];rfl
 ·change fns f=some af at h
  unfold fns at h
  split at h
  ·obtain rfl:=Option.some.inj h;exact vu
  ·obtain rfl:=Option.some.inj h;exact ww
  ·obtain rfl:=Option.some.inj h;exact wV
  ·obtain rfl:=Option.some.inj h;exact vn
  ·cases h
theorem z57:kJ []:=fun p h=>by cases h
theorem WU {n:Nat} {g:List AV→z3→Option (AV × z3)} {s:jU} (h:xM Try.prog n g) (hs:kJ s):kJ ((n,g)::s):=fun p hp=>by
 rcases List.mem_cons.1 hp with rfl | hp
 ·exact h
 ·exact hs p hp
theorem fok (s:jU):FOk (env s):=by
 intro f af h
 change fns f=some af at h
 unfold fns at h
 split at h
 ·obtain rfl:=Option.some.inj h;kernel_rfl
 ·obtain rfl:=Option.some.inj h;kernel_rfl
 ·obtain rfl:=Option.some.inj h;kernel_rfl
 ·obtain rfl:=Option.some.inj h;kernel_rfl
 ·cases h
end Go.Proofs.Ytdbbdfmkglgjdaa.Bi
