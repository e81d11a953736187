/- Calls, regions, code, functions: the evaluator is Jh. -/
import Derived.Test.YtdbbdfmkglgjdaaAb10
import Derived.LoopN
set_option linter.unusedVariables false
set_option linter.unusedSimpArgs false
set_option linter.unusedSectionVars false
namespace Go.Ab
open Go.RowKit
section
variable {P:Program} {B:Nat} {ρ:Rho} {w:World} {H H':z3} {v:AV} {τ τ':Tau}
def z2d (B:Nat) (ρ:Rho) (w:World) (H:z3) (v:AV) (H':z3):Ending→World→Prop:=fun e w' =>
 ∃ ρ' x,e=.returned x∧zb ρ' v=some x∧Rho.ext H.size ρ ρ'∧Sim B ρ' w' H'∧Below B w w'∧H.size≤H'.size
def zh (P:Program) (f:Nat):Prop:=∃ fn c,P.funcs[f]? = some fn∧fn.body=some c∧(fn.name == "runtime.NumGoroutine")=false
def z7r (P:Program) (B:Nat) (ρ:Rho) (w:World) (H:z3) (f:Nat) (xs:List Value) (v:AV) (H':z3):Prop :=
 ∃ ρ' x w',(callFunc f xs.toArray).run P w=.ok (.value x) w'∧zb ρ' v=some x∧Rho.ext H.size ρ ρ'∧Sim B ρ' w' H'∧Below B w w'∧H.size≤H'.size
def z3e (P:Program) (B:Nat) (ρ:Rho) (w:World) (H:z3) (f:Nat) (xs:List Value) (v:AV) (H':z3):Prop :=
 (zh P f∧Calls P f xs.toArray w (z2d B ρ w H v H'))∨z7r P B ρ w H f xs v H'
def xM (P:Program) (f:Nat) (g:List AV→z3→Option (AV × z3)):Prop :=
 ∀ B ρ w H args xs v H',B≤w.heap.size→Sim B ρ w H→zg ρ args=some xs→g args H=some (v,H')→z3e P B ρ w H f xs v H'
structure W7 (P:Program) (E:Env):Prop where
 mixed:P.follows .mixedOrders=true
 fn:∀ f af,E.fns f=some af→zh P f∧∃ fn,P.funcs[f]? = some fn∧dFn P fn=some af
 spec:∀ f g,E.spec f=some g→xM P f g
theorem z2e {f:Nat} {xs:Array Value} (h:zh P f) (w:World):(callFunc f xs).run P w=.ok (.enter f xs) w:=by
 obtain⟨fn,c,h1,h2,h3⟩:=h
 simp [callFunc,h1,h2]
 simpa using h3

theorem opd {a:Act} (ht:zg ρ τ=some a.tmps.toList) (x:Operand) (x':AX) (h:dX x=some x'):zb ρ (τ.at x')=some (a.eval x):=by
 cases x with
 | tmp t =>
  simp only [dX,Option.some.injEq] at h
  subst h
  simp only [Tau.at,Act.eval]
  cases hg:τ[t]? with
  | none =>
   have hl:=zB ht
   have h1:a.tmps[t]? = none:=by
    have:τ.length≤t:=by simpa using hg
    simp at hl;simp;omega
   rw [List.getD_eq_getElem?_getD,hg,Array.getD_eq_getD_getElem?,h1]
   exact qW ρ
  | some u =>
   obtain⟨y,hy,hy2⟩:=jM ht hg
   rw [List.getD_eq_getElem?_getD,hg,Array.getD_eq_getD_getElem?]
   simp at hy2
   rw [hy2]
   exact hy
 | const c =>
  simp only [dX] at h
  obtain⟨av,hav,rfl⟩:=Option.map_eq_some_iff.1 h
  exact Yg 20 c av hav
 | func f =>
  simp only [dX,Option.some.injEq] at h
  subst h
  simp [Tau.at,Act.eval,zb,zg]
 | global g=>simp [dX] at h
theorem z4Z {a:Act} {x:Value} (ht:zg ρ τ=some a.tmps.toList) (hv:zb ρ v=some x) (dst:Option Nat):zg ρ (τ.put dst v)=some (a.put dst x).tmps.toList:=by
 cases dst with
 | none=>exact ht
 | some d =>
  simp only [Tau.put,Act.put]
  rw [Array.toList_setIfInBounds]
  exact z1y hv d ht
theorem z1p {a:Act} {ops:Array Oper} {o:Oper} {ao:zk} (ht:zg ρ τ=some a.tmps.toList) (hd:kZ P ops o=some ao):Region.wanted o (yielded ops a.tmps)=za τ ao.guard:=by
 unfold kZ at hd
 simp only [Option.bind_eq_bind,Option.bind_eq_some_iff] at hd
 obtain⟨op,_,hd⟩:=hd
 unfold Region.wanted
 cases hg:o.guard with
 | none=>rw [hg] at hd;obtain rfl:=Option.some.inj hd;rfl
 | some jw =>
  obtain⟨j,wnt⟩:=jw
  rw [hg] at hd
  simp only at hd
  cases hj:(ops[j]?).bind (·.dst) with
  | none=>rw [hj] at hd;cases hd
  | some t =>
   rw [hj] at hd
   obtain rfl:=Option.some.inj hd
   simp only [za,yielded,hj,Option.bind_some]
   cases hv:τ[t]? with
   | none =>
    have hl:=zB ht
    have h1:a.tmps[t]? = none:=by
     have:τ.length≤t:=by simpa using hv
     simp at hl;simp;omega
    simp [h1]
   | some u =>
    obtain⟨y,hy,hy2⟩:=jM ht hv
    simp at hy2
    rw [hy2]
    cases u<;>simp only [zb] at hy<;>(repeat' split at hy)<;>first | (cases hy;done) | (obtain rfl:=Option.some.inj hy;simp;done) | (rename_i hnb;obtain rfl:=Option.some.inj hy;symm;simp;split<;>first | (rename_i heq;exact absurd (Option.some.inj heq) (hnb _)) | simp)
theorem qk {ops:Array Oper} {o:Oper} {ao:zk} (hd:kZ P ops o=some ao):dOp P o.op=some ao.op∧ao.dst=o.dst:=by
 unfold kZ at hd
 simp only [Option.bind_eq_bind,Option.bind_eq_some_iff] at hd
 obtain⟨op,hop,hd⟩:=hd
 cases hg:o.guard with
 | none=>rw [hg] at hd;obtain rfl:=Option.some.inj hd;exact⟨hop,rfl⟩
 | some jw =>
  rw [hg] at hd
  simp only at hd
  split at hd
  ·obtain rfl:=Option.some.inj hd;exact⟨hop,rfl⟩
  ·cases hd

theorem z7s {name:String} {t f:Nat} (h:(z1n P name).lookup t=some f) :
  ∃ i m d pr,P.info? t=some i∧i.methods.find? (·.name == name)=some m∧m.path.isEmpty=true∧m.func=some (f,pr)∧P.underlying t=some d ∧
   ((pr=true∧∃ e,d=.pointer e)∨(pr=false∧∀ e,d≠.pointer e)):=by
 have key:∀ l:List Nat,(l.filterMap fun t=>match P.info? t with
   | none=>none
   | some i=>match i.methods.find? (·.name == name) with
    | some m=>match m.path.isEmpty,m.func,P.underlying t with
     | true,some (f,true),some (.pointer _)=>some (t,f)
     | true,some (_,false),some (.pointer _)=>none
     | true,some (f,false),some _=>some (t,f)
     | _,_,_=>none
    | none=>none).lookup t=some f →
  ∃ i m d pr,P.info? t=some i∧i.methods.find? (·.name == name)=some m∧m.path.isEmpty=true∧m.func=some (f,pr)∧P.underlying t=some d ∧
   ((pr=true∧∃ e,d=.pointer e)∨(pr=false∧∀ e,d≠.pointer e)):=by
  intro l
  induction l with
  | nil=>intro h;simp at h
  | cons u l ih =>
   intro h
   rw [List.filterMap_cons] at h
   split at h
   ·exact ih h
   ·rename_i p hp
    by_cases hu:u=t
    ·subst hu
     cases hi:P.info? u with
     | none=>simp [hi] at hp
     | some i =>
      simp only [hi] at hp
      cases hm:i.methods.find? (·.name == name) with
      | none=>simp [hm] at hp
      | some m =>
       simp only [hm] at hp
       split at hp
       ·rename_i f' e hpath hf hd
        obtain rfl:=Option.some.inj hp
        simp at h
        subst h
        exact⟨i,m,_,true,rfl,hm,hpath,hf,hd,.inl ⟨rfl,e,rfl⟩⟩
       ·cases hp
       ·rename_i f' d hne hpath hf hd
        obtain rfl:=Option.some.inj hp
        simp at h
        subst h
        exact⟨i,m,d,false,rfl,hm,hpath,hf,hd,.inr ⟨rfl,fun e he=>hne e (by rw [he])⟩⟩
       ·cases hp
    ·have hp1:p.1=u:=by
      split at hp
      ·cases hp
      ·split at hp
       ·split at hp<;>first | (cases hp;done) | (obtain rfl:=Option.some.inj hp;rfl)
       ·cases hp
     rw [List.lookup_cons] at h
     have:(t == p.1)=false:=by simp [hp1];exact fun e=>hu e.symm
     simp only [this] at h
     exact ih h
 exact key _ h
theorem z50 {o:Oper} {o':AOp} {g:Nat} {args:List AV} {ev:Operand→Value} (hd:dOp P o.op=some o') (ht:yR τ o'=some (g,args))
  (hx:∀ x ∈ o.op.operands.toList,∀ x',dX x=some x'→zb ρ (τ.at x')=some (ev x)) :
  ∃ xs,zg ρ args=some xs∧∀ w,(execOp ev o).run P w=(callFunc g xs.toArray).run P w:=by
 obtain⟨dst,op,ty,pos,after,gd⟩:=o
 simp only at hd hx
 cases op
 case makeMap t r =>
  cases r with
  | some _=>simp [dOp] at hd
  | none =>
   simp only [dOp] at hd
   obtain rfl:=Option.some.inj hd
   simp [yR] at ht
 all_goals simp only [dOp] at hd
 case call c =>
  obtain⟨callee,as,argTypes⟩:=c
  cases callee with
  | builtin b =>
   simp only at hd
   exfalso
   unfold Qf at hd
   simp only [Option.bind_eq_bind,Option.bind_eq_some_iff] at hd
   obtain⟨xs,_,hd⟩:=hd
   (repeat' split at hd)<;>first | (cases hd;done) | (obtain rfl:=Option.some.inj hd;simp [yR] at ht;done) | (obtain⟨_,_,rfl⟩:=Option.map_eq_some_iff.1 hd;simp [yR] at ht)
  | value f =>
   simp only [Option.bind_eq_bind,Option.bind_eq_some_iff,Option.some.injEq] at hd
   obtain⟨f',hf',as',has',rfl⟩:=hd
   simp only [yR] at ht
   split at ht
   ·rename_i k fs cs hk
    simp only [Option.some.injEq,Prod.mk.injEq] at ht
    obtain⟨rfl,rfl⟩:=ht
    have h1:=hx f (by simp [Op.operands,Call.operands]) f' hf'
    rw [hk] at h1
    have h2:=Yj (ρ:=ρ) (τ:=τ) (ev:=ev) has' (fun x hm x' hx'=>hx x (by simp [Op.operands,Call.operands];right;simpa using hm) x' hx')
    simp only [zb] at h1
    cases hfs:zg ρ fs with
    | none=>simp [hfs] at h1
    | some fx=>cases hcs:zg ρ cs with
     | none=>simp [hfs,hcs] at h1
     | some cx =>
      simp only [hfs,hcs,Option.some.injEq] at h1
      refine⟨fx++as.toList.map ev++cx,yf (yf hfs h2) hcs,fun w=>?_⟩
      have he:(fx.toArray++as.map ev++cx.toArray)=(fx++as.toList.map ev++cx).toArray:=by apply Array.ext';simp
      simp only [execOp,resolve,← h1,Deferred.ofValue,Sem.run_bind,Sem.run_pure,Result.andThen_ok,invoke]
      rw [he]
   ·cases ht
  | invoke r m =>
   simp only [Option.bind_eq_bind,Option.bind_eq_some_iff,Option.some.injEq] at hd
   obtain⟨r',hr',as',has',rfl⟩:=hd
   simp only [yR] at ht
   split at ht
   ·rename_i t u hk
    split at ht
    ·rename_i f hlk
     simp at ht
     obtain⟨rfl,rfl⟩:=ht
     have h1:=hx r (by simp [Op.operands,Call.operands]) r' hr'
     rw [hk] at h1
     obtain⟨y,hy,hey⟩:=z3j h1
     have h2:=Yj (ρ:=ρ) (τ:=τ) (ev:=ev) has' (fun x hm x' hx'=>hx x (by simp [Op.operands,Call.operands];right;simpa using hm) x' hx')
     obtain⟨i,mm,d,pr,hi,hfind,hpath,hfunc,hund,hcase⟩:=z7s hlk
     refine⟨y::as.toList.map ev,yW hy h2,fun w=>?_⟩
     have hp0:mm.path.toList=[]:=by
      have:mm.path=#[]:=by simpa using hpath
      rw [this]
     have hmeth:∀ n,(method (n+1) t y m).run P w=.ok (f,y) w:=by
      intro n
      simp only [method,Sem.run_bind,z13 hi,Result.andThen_ok,hfind,hp0,follow,Sem.run_pure,hfunc]
      rcases hcase with ⟨rfl,e,rfl⟩ | ⟨rfl,hne⟩
      ·simp [receiverAt,run_underlying hund,Place.get]
      ·cases d<;>first | exact absurd rfl (hne _) | simp [receiverAt,run_underlying hund,Place.get]
     have hsz:∃ n,P.types.size+Made.depth=n+1:=⟨P.types.size+Made.depth - 1,by simp [Made.depth]⟩
     obtain⟨n,hn⟩:=hsz
     have hext:((#[Value.iface t y]++as.map ev).extract 1 (#[Value.iface t y]++as.map ev).size)=as.map ev:=by apply Array.ext';simp [List.take_of_length_le]
     have hget:(#[Value.iface t y]++as.map ev)[0]? = some (Value.iface t y):=by rw [Array.getElem?_append];simp
     have he:(#[y]++as.map ev)=(y::as.toList.map ev).toArray:=by apply Array.ext';simp
     simp only [execOp,resolve,hey,Sem.run_bind,Sem.run_pure,Result.andThen_ok,invoke,hget,hext,callMethod,run_program,hn,hmeth n,he]
    ·cases ht
   ·cases ht
 case binOp op t x y t' =>
  exfalso
  unfold z9u at hd
  (repeat' first
   | (obtain⟨_,_,rfl⟩:=Option.map_eq_some_iff.1 hd;simp [yR] at ht;done)
   | (cases hd;done)
   | (obtain rfl:=Option.some.inj hd;simp [yR] at ht;done)
   | (simp only [Option.bind_eq_bind,Option.bind_eq_some_iff] at hd;obtain⟨_,_,_,_,hd⟩:=hd)
   | split at hd)
 case makeFunc fn fs cs =>
  exfalso
  cases fn<;>simp only at hd<;>first | (cases hd;done) | skip
  simp only [Option.bind_eq_bind,Option.bind_eq_some_iff] at hd
  obtain⟨_,_,_,_,hd⟩:=hd
  obtain rfl:=Option.some.inj hd
  simp [yR] at ht
 case next x b =>
  exfalso
  cases b<;>simp only at hd<;>first | (cases hd;done) | skip
  obtain⟨_,_,rfl⟩:=Option.map_eq_some_iff.1 hd
  simp [yR] at ht
 all_goals
  exfalso
  (repeat' first
   | (obtain⟨_,_,rfl⟩:=Option.map_eq_some_iff.1 hd;simp [yR] at ht;done)
   | (cases hd;done)
   | (obtain rfl:=Option.some.inj hd;simp [yR] at ht;done)
   | (simp only [Option.bind_eq_bind,Option.bind_eq_some_iff] at hd;obtain⟨_,_,hd⟩:=hd)
   | (obtain⟨_,_,hd⟩:=hd)
   | split at hd)
end
end Go.Ab
