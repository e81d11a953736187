/- Calls, regions, code, functions: the evaluator is VH. -/
import Derived.Test.YtdbbdfmkglgjdaaAb10
import Derived.LoopN
set_option linter.unusedVariables false
set_option linter.unusedSimpArgs false
set_option linter.unusedSectionVars false
namespace Go.Ab
open Go.RowKit
section
variable {P:Program} {B:Nat} {ρ:Rho} {w:World} {H H':z3} {v:AV} {τ τ':Tau}
def z5j (B:Nat) (ρ:Rho) (w:World) (H:z3) (v:AV) (H':z3):Ending→World→Prop:=fun e w' =>
 ∃ ρ' x,e=.returned x∧zh ρ' v=some x∧Rho.ext H.size ρ ρ'∧Sim B ρ' w' H'∧Below B w w'∧H.size≤H'.size
def zi (P:Program) (f:Nat):Prop:=∃ fn c,P.funcs[f]? = some fn∧fn.body=some c∧(fn.name == "runtime.NumGoroutine")=false
def zaH (P:Program) (B:Nat) (ρ:Rho) (w:World) (H:z3) (f:Nat) (xs:List Value) (v:AV) (H':z3):Prop :=
 ∃ ρ' x w',(callFunc f xs.toArray).run P w=.ok (.value x) w'∧zh ρ' v=some x∧Rho.ext H.size ρ ρ'∧Sim B ρ' w' H'∧Below B w w'∧H.size≤H'.size
def z6l (P:Program) (B:Nat) (ρ:Rho) (w:World) (H:z3) (f:Nat) (xs:List Value) (v:AV) (H':z3):Prop :=
 (zi P f∧Calls P f xs.toArray w (z5j B ρ w H v H'))∨zaH P B ρ w H f xs v H'
def qi (P:Program) (f:Nat) (g:List AV→z3→Option (AV × z3)):Prop :=
 ∀ B ρ w H args xs v H',B≤w.heap.size→Sim B ρ w H→zj ρ args=some xs→g args H=some (v,H')→z6l P B ρ w H f xs v H'
structure z24 (P:Program) (E:Env):Prop where
 mixed:P.follows .mixedOrders=true
 fn:∀ f af,E.fns f=some af→zi P f∧∃ fn,P.funcs[f]? = some fn∧dFn P fn=some af
 spec:∀ f g,E.spec f=some g→qi P f g
theorem z5k {f:Nat} {xs:Array Value} (h:zi P f) (w:World):(callFunc f xs).run P w=.ok (.enter f xs) w:=by
 obtain⟨fn,c,h1,h2,h3⟩:=h
 simp [callFunc,h1,h2]
 simpa using h3

theorem opd {a:Act} (ht:zj ρ τ=some a.tmps.toList) (x:Operand) (x':AX) (h:dX x=some x'):zh ρ (τ.at x')=some (a.eval x):=by
 cases x with
 | tmp t =>
  simp only [dX,Option.some.injEq] at h
  subst h
  simp only [Tau.at,Act.eval]
  cases hg:τ[t]? with
  | none =>
   have hl:=zB ht
   have h1:a.tmps[t]? = none:=by
    have:τ.length≤t:=by simpa using hg
    simp at hl;simp;omega
   rw [List.getD_eq_getElem?_getD,hg,Array.getD_eq_getD_getElem?,h1]
   exact jH ρ
  | some u =>
   obtain⟨y,hy,hy2⟩:=kV ht hg
   rw [List.getD_eq_getElem?_getD,hg,Array.getD_eq_getD_getElem?]
   simp at hy2
   rw [hy2]
   exact hy
 | const c =>
  simp only [dX] at h
  obtain⟨av,hav,rfl⟩:=Option.map_eq_some_iff.1 h
  exact XQ 20 c av hav
 | func f =>
  simp only [dX,Option.some.injEq] at h
  subst h
  simp [Tau.at,Act.eval,zh,zj]
 | global g=>simp [dX] at h
theorem z88 {a:Act} {x:Value} (ht:zj ρ τ=some a.tmps.toList) (hv:zh ρ v=some x) (dst:Option Nat):zj ρ (τ.put dst v)=some (a.put dst x).tmps.toList:=by
 cases dst with
 | none=>exact ht
 | some d =>
  simp only [Tau.put,Act.put]
  rw [Array.toList_setIfInBounds]
  exact z4C hv d ht
theorem z4t {a:Act} {ops:Array Oper} {o:Oper} {ao:zm} (ht:zj ρ τ=some a.tmps.toList) (hd:wm P ops o=some ao):Region.wanted o (yielded ops a.tmps)=zg τ ao.guard:=by
 unfold wm at hd
 simp only [Option.bind_eq_bind,Option.bind_eq_some_iff] at hd
 obtain⟨op,_,hd⟩:=hd
 unfold Region.wanted
 cases hg:o.guard with
 | none=>rw [hg] at hd;obtain rfl:=Option.some.inj hd;rfl
 | some jw =>
  obtain⟨j,wnt⟩:=jw
  rw [hg] at hd
  simp only at hd
  cases hj:(ops[j]?).bind (·.dst) with
  | none=>rw [hj] at hd;cases hd
  | some t =>
   rw [hj] at hd
   obtain rfl:=Option.some.inj hd
   simp only [zg,yielded,hj,Option.bind_some]
   cases hv:τ[t]? with
   | none =>
    have hl:=zB ht
    have h1:a.tmps[t]? = none:=by
     have:τ.length≤t:=by simpa using hv
     simp at hl;simp;omega
    simp [h1]
   | some u =>
    obtain⟨y,hy,hy2⟩:=kV ht hv
    simp at hy2
    rw [hy2]
    cases u<;>simp only [zh] at hy<;>(repeat' split at hy)<;>first | (cases hy;done) | (obtain rfl:=Option.some.inj hy;simp;done) | (rename_i hnb;obtain rfl:=Option.some.inj hy;symm;simp;split<;>first | (rename_i heq;exact absurd (Option.some.inj heq) (hnb _)) | simp)
theorem qY {ops:Array Oper} {o:Oper} {ao:zm} (hd:wm P ops o=some ao):dOp P o.op=some ao.op∧ao.dst=o.dst:=by
 unfold wm at hd
 simp only [Option.bind_eq_bind,Option.bind_eq_some_iff] at hd
 obtain⟨op,hop,hd⟩:=hd
 cases hg:o.guard with
 | none=>rw [hg] at hd;obtain rfl:=Option.some.inj hd;exact⟨hop,rfl⟩
 | some jw =>
  rw [hg] at hd
  simp only at hd
  split at hd
  ·obtain rfl:=Option.some.inj hd;exact⟨hop,rfl⟩
  ·cases hd

theorem zaI {name:String} {t f:Nat} (h:(z4r P name).lookup t=some f) :
  ∃ i m d pr,P.info? t=some i∧i.methods.find? (·.name == name)=some m∧m.path.isEmpty=true∧m.func=some (f,pr)∧P.underlying t=some d ∧
   ((pr=true∧∃ e,d=.pointer e)∨(pr=false∧∀ e,d≠.pointer e)):=by
 have key:∀ l:List Nat,(l.filterMap fun t=>match P.info? t with
   | none=>none
   | some i=>match i.methods.find? (·.name == name) with
    | some m=>match m.path.isEmpty,m.func,P.underlying t with
     | true,some (f,true),some (.pointer _)=>some (t,f)
     | true,some (_,false),some (.pointer _)=>none
     | true,some (f,false),some _=>some (t,f)
     | _,_,_=>none
    | none=>none).lookup t=some f →
  ∃ i m d pr,P.info? t=some i∧i.methods.find? (·.name == name)=some m∧m.path.isEmpty=true∧m.func=some (f,pr)∧P.underlying t=some d ∧
   ((pr=true∧∃ e,d=.pointer e)∨(pr=false∧∀ e,d≠.pointer e)):=by
  intro l
  induction l with
  | nil=>intro h;simp at h
  | cons u l ih =>
   intro h
   rw [List.filterMap_cons] at h
   split at h
   ·exact ih h
   ·rename_i p hp
    by_cases hu:u=t
    ·subst hu
     cases hi:P.info? u with
     | none=>simp [hi] at hp
     | some i =>
      simp only [hi] at hp
      cases hm:i.methods.find? (·.name == name) with
      | none=>simp [hm] at hp
      | some m =>
       simp only [hm] at hp
       split at hp
       ·rename_i f' e hpath hf hd
        obtain rfl:=Option.some.inj hp
        simp at h
        subst h
        exact⟨i,m,_,true,rfl,hm,hpath,hf,hd,.inl ⟨rfl,e,rfl⟩⟩
       ·cases hp
       ·rename_i f' d hne hpath hf hd
        obtain rfl:=Option.some.inj hp
        simp at h
        subst h
        exact⟨i,m,d,false,rfl,hm,hpath,hf,hd,.inr ⟨rfl,fun e he=>hne e (by rw [he])⟩⟩
       ·cases hp
    ·have hp1:p.1=u:=by
      split at hp
      ·cases hp
      ·split at hp
       ·split at hp<;>first | (cases hp;done) | (obtain rfl:=Option.some.inj hp;rfl)
       ·cases hp
     rw [List.lookup_cons] at h
     have:(t == p.1)=false:=by simp [hp1];exact fun e=>hu e.symm
     simp only [this] at h
     exact ih h
 exact key _ h
theorem z89 {o:Oper} {o':AOp} {g:Nat} {args:List AV} {ev:Operand→Value} (hd:dOp P o.op=some o') (ht:x5 τ o'=some (g,args))
  (hx:∀ x ∈ o.op.operands.toList,∀ x',dX x=some x'→zh ρ (τ.at x')=some (ev x)) :
  ∃ xs,zj ρ args=some xs∧∀ w,(execOp ev o).run P w=(callFunc g xs.toArray).run P w:=by
 obtain⟨dst,op,ty,pos,after,gd⟩:=o
 simp only at hd hx
 cases op
 case makeMap t r =>
  cases r with
  | some _=>simp [dOp] at hd
  | none =>
   simp only [dOp] at hd
   obtain rfl:=Option.some.inj hd
   simp [x5] at ht
 all_goals simp only [dOp] at hd
 case call c =>
  obtain⟨callee,as,argTypes⟩:=c
  cases callee with
  | builtin b =>
   simp only at hd
   exfalso
   unfold Ka at hd
   simp only [Option.bind_eq_bind,Option.bind_eq_some_iff] at hd
   obtain⟨xs,_,hd⟩:=hd
   (repeat' split at hd)<;>first | (cases hd;done) | (obtain rfl:=Option.some.inj hd;simp [x5] at ht;done) | (obtain⟨_,_,rfl⟩:=Option.map_eq_some_iff.1 hd;simp [x5] at ht)
  | value f =>
   simp only [Option.bind_eq_bind,Option.bind_eq_some_iff,Option.some.injEq] at hd
   obtain⟨f',hf',as',has',rfl⟩:=hd
   simp only [x5] at ht
   split at ht
   ·rename_i k fs cs hk
    simp only [Option.some.injEq,Prod.mk.injEq] at ht
    obtain⟨rfl,rfl⟩:=ht
    have h1:=hx f (by simp [Op.operands,Call.operands]) f' hf'
    rw [hk] at h1
    have h2:=XT (ρ:=ρ) (τ:=τ) (ev:=ev) has' (fun x hm x' hx'=>hx x (by simp [Op.operands,Call.operands];right;simpa using hm) x' hx')
    simp only [zh] at h1
    cases hfs:zj ρ fs with
    | none=>simp [hfs] at h1
    | some fx=>cases hcs:zj ρ cs with
     | none=>simp [hfs,hcs] at h1
     | some cx =>
      simp only [hfs,hcs,Option.some.injEq] at h1
      refine⟨fx++as.toList.map ev++cx,yj (yj hfs h2) hcs,fun w=>?_⟩
      have he:(fx.toArray++as.map ev++cx.toArray)=(fx++as.toList.map ev++cx).toArray:=by apply Array.ext';simp
      simp only [execOp,resolve,← h1,Deferred.ofValue,Sem.run_bind,Sem.run_pure,Result.andThen_ok,invoke]
      rw [he]
   ·cases ht
  | invoke r m =>
   simp only [Option.bind_eq_bind,Option.bind_eq_some_iff,Option.some.injEq] at hd
   obtain⟨r',hr',as',has',rfl⟩:=hd
   simp only [x5] at ht
   split at ht
   ·rename_i t u hk
    split at ht
    ·rename_i f hlk
     simp at ht
     obtain⟨rfl,rfl⟩:=ht
     have h1:=hx r (by simp [Op.operands,Call.operands]) r' hr'
     rw [hk] at h1
     obtain⟨y,hy,hey⟩:=z6q h1
     have h2:=XT (ρ:=ρ) (τ:=τ) (ev:=ev) has' (fun x hm x' hx'=>hx x (by simp [Op.operands,Call.operands];right;simpa using hm) x' hx')
     obtain⟨i,mm,d,pr,hi,hfind,hpath,hfunc,hund,hcase⟩:=zaI hlk
     refine⟨y::as.toList.map ev,xc hy h2,fun w=>?_⟩
     have hp0:mm.path.toList=[]:=by
      have:mm.path=#[]:=by simpa using hpath
      rw [this]
     have hmeth:∀ n,(method (n+1) t y m).run P w=.ok (f,y) w:=by
      intro n
      simp only [method,Sem.run_bind,z49 hi,Result.andThen_ok,hfind,hp0,follow,Sem.run_pure,hfunc]
      rcases hcase with ⟨rfl,e,rfl⟩ | ⟨rfl,hne⟩
      ·simp [receiverAt,run_underlying hund,Place.get]
      ·cases d<;>first | exact absurd rfl (hne _) | simp [receiverAt,run_underlying hund,Place.get]
     have hsz:∃ n,P.types.size+Made.depth=n+1:=⟨P.types.size+Made.depth - 1,by simp [Made.depth]⟩
     obtain⟨n,hn⟩:=hsz
     have hext:((#[Value.iface t y]++as.map ev).extract 1 (#[Value.iface t y]++as.map ev).size)=as.map ev:=by apply Array.ext';simp [List.take_of_length_le]
     have hget:(#[Value.iface t y]++as.map ev)[0]? = some (Value.iface t y):=by rw [Array.getElem?_append];simp
     have he:(#[y]++as.map ev)=(y::as.toList.map ev).toArray:=by apply Array.ext';simp
     simp only [execOp,resolve,hey,Sem.run_bind,Sem.run_pure,Result.andThen_ok,invoke,hget,hext,callMethod,run_program,hn,hmeth n,he]
    ·cases ht
   ·cases ht
 case binOp op t x y t' =>
  exfalso
  unfold zcP at hd
  (repeat' first
   | (obtain⟨_,_,rfl⟩:=Option.map_eq_some_iff.1 hd;simp [x5] at ht;done)
   | (cases hd;done)
   | (obtain rfl:=Option.some.inj hd;simp [x5] at ht;done)
   | (simp only [Option.bind_eq_bind,Option.bind_eq_some_iff] at hd;obtain⟨_,_,_,_,hd⟩:=hd)
   | split at hd)
 case makeFunc fn fs cs =>
  exfalso
  cases fn<;>simp only at hd<;>first | (cases hd;done) | skip
  simp only [Option.bind_eq_bind,Option.bind_eq_some_iff] at hd
  obtain⟨_,_,_,_,hd⟩:=hd
  obtain rfl:=Option.some.inj hd
  simp [x5] at ht
 case next x b =>
  exfalso
  cases b<;>simp only at hd<;>first | (cases hd;done) | skip
  obtain⟨_,_,rfl⟩:=Option.map_eq_some_iff.1 hd
  simp [x5] at ht
 all_goals
  exfalso
  (repeat' first
   | (obtain⟨_,_,rfl⟩:=Option.map_eq_some_iff.1 hd;simp [x5] at ht;done)
   | (cases hd;done)
   | (obtain rfl:=Option.some.inj hd;simp [x5] at ht;done)
   | (simp only [Option.bind_eq_bind,Option.bind_eq_some_iff] at hd;obtain⟨_,_,hd⟩:=hd)
   | (obtain⟨_,_,hd⟩:=hd)
   | split at hd)
end
end Go.Ab
/- Steps and rows of operations: the evaluator is VH. -/
namespace Go.Ab
open Go.RowKit
section
variable {P:Program} {B:Nat} {ρ:Rho} {w:World} {H H':z3} {v:AV} {τ τ':Tau} {call:z8}
def z16 (P:Program) (call:z8):Prop :=
 ∀ f args H v H',call f args H=some (v,H')→∀ B ρ w xs,B≤w.heap.size→Sim B ρ w H→zj ρ args=some xs→z6l P B ρ w H f xs v H'
theorem z25 {o:Oper} {o':AOp} {a:Act} {K:Act→World→Prop} {Q:Exit→Act→World→Prop} (hc:z16 P call) (hd:dOp P o.op=some o') (hs:Sim B ρ w H) (hB:B≤w.heap.size)
  (hx:∀ x ∈ o.op.operands.toList,∀ x',dX x=some x'→zh ρ (τ.at x')=some (a.eval x)) (h:qh call τ H o'=some (v,H'))
  (hK:∀ ρ' x w',zh ρ' v=some x→Rho.ext H.size ρ ρ'→Sim B ρ' w' H'→Below B w w'→H.size≤H'.size→K (a.put o.dst x) w'):o.wp P a w K Q:=by
 unfold qh at h
 cases ht:x5 τ o' with
 | some gv =>
  obtain⟨g,vs⟩:=gv
  rw [ht] at h
  simp only at h
  obtain⟨xs,hxs,hrun⟩:=z89 hd ht hx
  unfold Oper.wp
  rcases hc g vs H v H' h B ρ w xs hB hs hxs with ⟨hcal,hcs⟩ | ⟨ρ',x,w',hrun',h1,h2,h3,h4,h5⟩
  ·rw [hrun w,z5k hcal w,Oper.upon_enter]
   refine Calls.mono hcs fun e w' hp=>?_
   obtain⟨ρ',x,rfl,h1,h2,h3,h4,h5⟩:=hp
   exact hK ρ' x w' h1 h2 h3 h4 h5
  ·rw [hrun w,hrun',Oper.upon_value]
   exact hK ρ' x w' h1 h2 h3 h4 h5
 | none =>
  rw [ht] at h
  simp only at h
  obtain⟨dst,op,ty,pos,after,gd⟩:=o
  obtain⟨ρ',x,w',hrun,h1,h2,h3,h4,h5⟩:=z4s (dst:=dst) (ty:=ty) (pos:=pos) (after:=after) (gd:=gd) hs hB hd hx h
  unfold Oper.wp
  rcases hrun with hrun | ⟨hrun,rfl⟩
  ·rw [hrun,Oper.upon_value]
   exact hK ρ' x w' h1 h2 h3 h4 h5
  ·rw [hrun,Oper.upon_skip]
   exact hK ρ' undef w' h1 h2 h3 h4 h5
def To (B:Nat) (ρ:Rho) (w:World) (H:z3) (τ':Tau) (H':z3) (K:Act→World→Prop):Prop :=
 ∀ ρ' a' w',Rho.ext H.size ρ ρ'→Sim B ρ' w' H'→zj ρ' τ'=some a'.tmps.toList→a'.defers=[]→Below B w w'→H.size≤H'.size→K a' w'
theorem To.step {ρ1:Rho} {w1:World} {H1:z3} {K:Act→World→Prop} (h:To B ρ w H τ' H' K) (he:Rho.ext H.size ρ ρ1) (hb:Below B w w1) (hsz:H.size≤H1.size):To B ρ1 w1 H1 τ' H' K :=
 fun ρ' a' w' h1 h2 h3 h4 h5 h6=>h ρ' a' w' (Rho.ext_trans he h1 hsz) h2 h3 h4 (hb.trans h5) (Nat.le_trans hsz h6)
theorem QU {a:Act} {x:Value} {dst:Option Nat} (h:a.defers=[]):(a.put dst x).defers=[]:=by
 cases dst<;>exact h
theorem VW {ops:Array Oper} {Q:Exit→Act→World→Prop} (hc:z16 P call):∀ (idx:List Nat) (l:List zm) (τ:Tau) (H:z3) (ρ:Rho) (w:World) (a:Act),
  zO (fun i=>match ops[i]? with
   | some o=>wm P ops o
   | none=>none) idx=some l →
  vS call l τ H=some (τ',H')→B≤w.heap.size→Sim B ρ w H→zj ρ τ=some a.tmps.toList→a.defers=[]→To B ρ w H τ' H' (Q .normal)→wpOps P ops Q idx a w
 | [],l,τ,H,ρ,w,a,hl,h,hB,hs,ht,hdf,hto=>by
  simp [zO] at hl
  subst hl
  simp [vS] at h
  obtain⟨rfl,rfl⟩:=h
  simp only [wpOps]
  exact hto ρ a w (ρ.ext_refl _) hs ht hdf (Below.refl _ _) (Nat.le_refl _)
 | i::idx,l,τ,H,ρ,w,a,hl,h,hB,hs,ht,hdf,hto=>by
  obtain⟨ao,l',h1,h2,rfl⟩:=jX hl
  cases ho:ops[i]? with
  | none=>simp [ho] at h1
  | some o =>
   simp only [ho] at h1
   obtain⟨hop,hdst⟩:=qY h1
   have hw:=z4t (a:=a) ht h1
   simp only [wpOps,ho]
   simp only [vS] at h
   rw [hw]
   cases hwa:zg τ ao.guard with
   | true =>
    simp only [hwa,if_true] at h ⊢
    split at h
    ·rename_i v1 H1 hst
     refine .inl (z25 hc hop hs hB (fun x _=>opd ht x) hst fun ρ' x w' g1 g2 g3 g4 g5=>?_)
     rw [← hdst]
     refine VW hc idx l' _ H1 ρ' w' _ h2 h (by have:=g4.size;omega) g3 (z88 (y8 g2.1 _ _ ht) g1 ao.dst) (QU hdf) (hto.step g2 g4 g5)
    ·cases h
   | false =>
    simp only [hwa,Bool.false_eq_true,if_false] at h ⊢
    rw [← hdst]
    exact VW hc idx l' _ H ρ w _ h2 h hB hs (z88 ht (jH ρ) ao.dst) (QU hdf) hto
theorem zcR {t:TypeId} {b:AV} {r o:Nat} {L:Loc} (hs:Sim B ρ w H) (hr:ρ r=some L) (ht:ZH P t=some none) (hc:H.cell r o=some b) :
  ∃ y,(loadVar t ⟨L.blk,L.off+o,none⟩).run P w=.ok y w∧zh ρ b=some y:=by
 obtain⟨y,hy,hcell⟩:=hs.cell hr hc
 exact⟨y,by simp [loadVar,Yy ht,hcell],hy⟩
theorem zaJ {t:TypeId} {cs:List AV} {r o n:Nat} {L:Loc} (hs:Sim B ρ w H) (hr:ρ r=some L) (ht:ZH P t=some (some n)) (hc:H.row r o n=some cs) :
  ∃ y,(loadVar t ⟨L.blk,L.off+o,none⟩).run P w=.ok y w∧zh ρ (.agg cs)=some y:=by
 obtain⟨xs,hxs,hlen,hcell⟩:=hs.row hr hc
 have hl:=run_loadCells_list (P:=P) w ⟨L.blk,L.off+o,none⟩ xs hcell
 rw [hlen] at hl
 exact⟨.agg xs.toArray,by simp [loadVar,Yy ht,zN (W0 ht),hl],by simp [zh,hxs]⟩
def QV (tmps:Array Value):ResultVar→Sem Value
 | .tmp t=>pure (tmps.getD t undef)
 | .cell q t=>do loadVar t (← asAddr (tmps.getD q undef))
theorem z8a (fn:Func) (tmps:Array Value):results fn tmps=(do
  let vs ← fn.results.mapM (QV tmps)
  pure (if h:vs.size=1 then vs[0] else .tuple vs)):=rfl
theorem z48 {rs:List ResultVar} {l:List wJ} {a:Act} (hd:zO (zcQ P) rs=some l) (ht:zj ρ τ=some a.tmps.toList) (hs:Sim B ρ w H) {vs:List AV} (h:zO (jG τ H) l=some vs) :
  ∃ xs,(rs.mapM (QV a.tmps)).run P w=.ok xs w∧zj ρ vs=some xs:=by
 induction rs generalizing l vs with
 | nil =>
  simp [zO] at hd
  subst hd
  simp [zO] at h
  subst h
  exact⟨[],by simp,rfl⟩
 | cons r rs ih =>
  obtain⟨ar,l',h1,h2,rfl⟩:=jX hd
  obtain⟨v0,vs',g1,g2,rfl⟩:=jX h
  obtain⟨xs,hxs,hcs⟩:=ih h2 g2
  have hone:∃ x,(QV a.tmps r).run P w=.ok x w∧zh ρ v0=some x:=by
   cases r with
   | tmp t =>
    simp only [zcQ,Option.some.injEq] at h1
    subst h1
    simp only [jG] at g1
    obtain⟨x,hx,hx2⟩:=kV ht g1
    simp at hx2
    exact⟨x,by simp [QV,hx2],hx⟩
   | cell q t =>
    simp only [zcQ] at h1
    obtain⟨m,hm,rfl⟩:=Option.map_eq_some_iff.1 h1
    simp only [jG] at g1
    split at g1
    ·rename_i r' o hq
     obtain⟨x,hx,hx2⟩:=kV ht hq
     simp at hx2
     obtain⟨L,hr,rfl⟩:=wP hx
     have hq2:a.tmps.getD q undef=.pointer (some ⟨L.blk,L.off+o,none⟩):=by rw [Array.getD_eq_getD_getElem?,hx2];rfl
     have hld:∀ y:Value,(loadVar t ⟨L.blk,L.off+o,none⟩).run P w=.ok y w→(QV a.tmps (.cell q t)).run P w=.ok y w:=by
      intro y hy
      simp only [QV]
      rw [hq2]
      simpa [asAddr] using hy
     split at g1
     ·obtain⟨y,hy,hcy⟩:=zcR (P:=P) hs hr hm g1
      exact⟨y,hld y hy,hcy⟩
     ·rename_i n
      obtain⟨cs,hcs,rfl⟩:=Option.map_eq_some_iff.1 g1
      obtain⟨y,hy,hcy⟩:=zaJ (P:=P) hs hr hm hcs
      exact⟨y,hld y hy,hcy⟩
    ·cases g1
  obtain⟨x,hx,hcx⟩:=hone
  refine⟨x::xs,?_,xc hcx hcs⟩
  simp only [List.mapM_cons,Sem.run_bind,Sem.run_pure]
  rw [hx]
  simp only [Result.andThen_ok,hxs]
end
end Go.Ab
