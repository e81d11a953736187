/- A region that draws its order: the induction along whatever order comes up. -/
import Derived.Test.YtdbbdfmkglgjdaaAb13d
set_option linter.unusedVariables false
set_option linter.unusedSimpArgs false
set_option linter.unusedSectionVars false
namespace Go.Ab
open Go.RowKit
section
variable {P:Program} {B:Nat} {ρ:Rho} {w:World} {H H':z3} {v:AV} {τ τ':Tau} {call:z7} {ops:Array Oper}
def cnt (ops:Array Oper) (ids:List Nat):Nat:=(ids.filter fun i=>(ops[i]?).any fun o=>zW o.op).length
theorem Jw (a b:List Nat):cnt ops (a++b)=cnt ops a+cnt ops b:=by simp [cnt]
theorem z5J {i:Nat} {o:Oper} (ho:ops[i]? = some o):cnt ops [i]=if zW o.op then 1 else 0:=by
 unfold cnt
 cases h:zW o.op<;>simp [ho,h]
theorem X8:∀ (l before:List Nat) (k na:Nat) (r:List (zk × DK)),Je P ops before k l=some (na,r) →
  na=k+cnt ops l∧r.length=l.length∧∀ (p i:Nat),l[p]? = some i→∃ (o:Oper) (ao:zk) (dk:DK),ops[i]? = some o∧kZ P ops o=some ao∧r[p]? = some (ao,dk) ∧
   ((zW o.op=true∧dk=.al (k+cnt ops (l.take p)))∨(zW o.op=false∧kF P o.op=true∧dk=.q)∨(zW o.op=false∧kF P o.op=false∧dk=.ef (X3 ops (before++l.take p) o)))
 | [],before,k,na,r,h=>by simp [Je] at h;obtain⟨rfl,rfl⟩:=h;simp [cnt]
 | i::l,before,k,na,r,h=>by
  simp only [Je] at h
  cases ho:ops[i]? with
  | none=>simp [ho] at h
  | some o =>
   simp only [ho] at h
   cases ha:kZ P ops o with
   | none=>simp [ha] at h
   | some ao =>
    simp only [ha] at h
    have c1:=z5J ho
    have hcons:∀ l,cnt ops (i::l)=cnt ops [i]+cnt ops l:=fun l=>Jw [i] l
    split at h
    ·rename_i hal
     obtain⟨⟨na',r'⟩,hr,hv⟩:=Option.map_eq_some_iff.1 h
     simp only [Prod.mk.injEq] at hv
     obtain⟨rfl,rfl⟩:=hv
     obtain⟨h1,h2,h3⟩:=X8 l _ _ _ _ hr
     rw [hal] at c1
     refine⟨by rw [hcons,c1];simp at h1 ⊢;omega,by simp [h2],fun p j hj=>?_⟩
     cases p with
     | zero=>simp at hj;subst hj;exact⟨o,ao,_,ho,ha,rfl,.inl ⟨hal,by simp [cnt]⟩⟩
     | succ p =>
      obtain⟨o',ao',dk',g1,g2,g3,g4⟩:=h3 p j (by simpa using hj)
      refine⟨o',ao',dk',g1,g2,by simpa using g3,?_⟩
      rw [List.take_succ_cons,hcons,c1]
      simp only [if_true]
      rcases g4 with ⟨g5,g6⟩ | g5 | ⟨g5,g6,g7⟩
      ·exact .inl ⟨g5,by rw [g6];congr 1;omega⟩
      ·exact .inr (.inl g5)
      ·exact .inr (.inr ⟨g5,g6,by rw [g7];simp⟩)
    ·rename_i hal
     have hal':zW o.op=false:=by simpa using hal
     rw [hal'] at c1
     have rest:∀ (dk:DK) (x:Option (Nat × List (zk × DK))),Je P ops (before++[i]) k l=x→x.map (fun(n,r)=>(n,(ao,dk)::r))=some (na,r) →
       ((zW o.op=false∧kF P o.op=true∧dk=.q)∨(zW o.op=false∧kF P o.op=false∧dk=.ef (X3 ops before o))) →
       na=k+cnt ops (i::l)∧r.length=(i::l).length∧∀ (p j:Nat),(i::l)[p]? = some j→∃ (o:Oper) (ao:zk) (dk:DK),ops[j]? = some o∧kZ P ops o=some ao∧r[p]? = some (ao,dk) ∧
        ((zW o.op=true∧dk=.al (k+cnt ops ((i::l).take p)))∨(zW o.op=false∧kF P o.op=true∧dk=.q)∨(zW o.op=false∧kF P o.op=false∧dk=.ef (X3 ops (before++(i::l).take p) o))):=by
      intro dk x hx hr hdk
      obtain⟨⟨na',r'⟩,hr',hv⟩:=Option.map_eq_some_iff.1 hr
      simp only [Prod.mk.injEq] at hv
      obtain⟨rfl,rfl⟩:=hv
      obtain⟨h1,h2,h3⟩:=X8 l _ _ _ _ (hx.trans hr')
      refine⟨by rw [hcons,c1];simp at h1 ⊢;omega,by simp [h2],fun p j hj=>?_⟩
      cases p with
      | zero=>simp at hj;subst hj;exact⟨o,ao,dk,ho,ha,rfl,.inr (by simpa using hdk)⟩
      | succ p =>
       obtain⟨o',ao',dk',g1,g2,g3,g4⟩:=h3 p j (by simpa using hj)
       refine⟨o',ao',dk',g1,g2,by simpa using g3,?_⟩
       rw [List.take_succ_cons,hcons,c1]
       simp only [Bool.false_eq_true,if_false,Nat.zero_add]
       rcases g4 with g5 | g5 | ⟨g5,g6,g7⟩
       ·exact .inl g5
       ·exact .inr (.inl g5)
       ·exact .inr (.inr ⟨g5,g6,by rw [g7];simp⟩)
     split at h
     ·rename_i hq
      exact rest .q _ rfl h (.inl ⟨hal',hq,rfl⟩)
     ·rename_i hq
      exact rest _ _ rfl h (.inr ⟨hal',by simpa using hq,rfl⟩)
theorem z7v {before:List Nat} {o:Oper} {p j:Nat} {oj:Oper} (hp:before[p]? = some j) (hj:ops[j]? = some oj) (h1:pinned oj.op=true) (h2:z4W ops o j=false):p ∈ X3 ops before o:=by
 unfold X3
 rw [List.mem_filterMap]
 refine⟨(j,p),List.mem_zipIdx_iff_getElem?.2 hp,?_⟩
 simp [hj,h1,h2]
theorem Qj {recs:List Rec}:∀ {pins:List Nat},jr H H' recs pins=true→∀ p ∈ pins,∃ q,recs[p]? = some q∧jT H H' q=true
 | [],_,p,hp=>by cases hp
 | q::l,h,p,hp=>by
  simp only [jr,Bool.and_eq_true] at h
  rcases List.mem_cons.1 hp with rfl | hp
  ·cases hq:recs[p]? with
   | none=>simp [hq] at h
   | some r=>simp [hq] at h;exact⟨r,rfl,h.1⟩
  ·exact Qj h.2 p hp
theorem X9 {o:Oper} {j:Nat}:W6 o j=true↔∃ e ∈ o.after,Region.binds .any e=true∧e.on=j:=by
 unfold W6
 rw [Array.any_eq_true]
 constructor
 ·rintro ⟨x,hx,h⟩
  simp only [Bool.and_eq_true,beq_iff_eq] at h
  exact⟨o.after[x],Array.getElem_mem hx,h.1,h.2⟩
 ·rintro ⟨e,he,h1,h2⟩
  obtain⟨x,hx,rfl⟩:=Array.getElem_of_mem he
  exact⟨x,hx,by simp [h1,h2]⟩
theorem z1t {ex:Nat→Prop} (hdown:∀ k,ex k→∀ o',ops[k]? = some o'→∀ e ∈ o'.after,Region.binds .any e=true→ex e.on):∀ (n:Nat) (o:Oper) (j:Nat),z2b ops n o j=true→(∀ e ∈ o.after,Region.binds .any e=true→ex e.on)→ex j
 | 0,o,j,h,hd=>by
  obtain⟨e,he,hb,rfl⟩:=X9.1 h
  exact hd e he hb
 | n+1,o,j,h,hd=>by
  unfold z2b at h
  rw [Bool.or_eq_true] at h
  rcases h with h | h
  ·obtain⟨e,he,hb,rfl⟩:=X9.1 h
   exact hd e he hb
  ·rw [Array.any_eq_true] at h
   obtain⟨x,hx,h⟩:=h
   rw [Bool.and_eq_true] at h
   obtain⟨h1,h2⟩:=h
   split at h2
   ·rename_i o' ho'
    have hxe:=hd o.after[x] (Array.getElem_mem hx) h1
    exact z1t hdown n o' j h2 (hdown _ hxe o' ho')
   ·cases h2

def z7w (P:Program) (ops:Array Oper) (base:Nat) (τ0:Tau) (done:List (Nat × AV)) (recs:List Rec) (Hc:z3) (p i:Nat) (v:AV):Prop :=
 ∃ o ao,ops[i]? = some o∧kZ P ops o=some ao∧vo P o.op=true ∧
  (za (yi ops τ0 (done.take p)) ao.guard=false→v=z4) ∧
  (za (yi ops τ0 (done.take p)) ao.guard=true →
   (zW o.op=false→aop (yi ops τ0 (done.take p)) Hc ao.op=some (v,Hc)∧recs[p]? = some (.q (yi ops τ0 (done.take p)) ao.op v)) ∧
   (zW o.op=true→∃ k z cs,xB (yi ops τ0 (done.take p)) (base+cnt ops ((done.take p).map Prod.fst)) ao.op=some (v,.cells k z cs) ∧
    Hc.get (base+cnt ops ((done.take p).map Prod.fst))=some (.cells k z cs)∧recs[p]? = some (.made (base+cnt ops ((done.take p).map Prod.fst)))))
structure Inv (P:Program) (ops:Array Oper) (ord:List Nat) (B base na:Nat) (τ0:Tau) (ρ0:Rho) (w0:World) (ρ:Rho) (w:World) (a:Act) (done ex:List (Nat × AV)) (recs:List Rec) (τc:Tau) (Hc:z3):Prop where
 rlen:recs.length=done.length
 fst:done.map Prod.fst=ord.take done.length
 exsub:∀ q ∈ ex,q ∈ done
 exnod:(ex.map Prod.fst).Nodup
 exdown:∀ i ∈ ex.map Prod.fst,∀ o,ops[i]? = some o→∀ e ∈ o.after,Region.binds .any e=true→e.on ∈ ex.map Prod.fst
 tau:τc=yi ops τ0 done
 tmps:zg ρ (yi ops τ0 ex)=some a.tmps.toList
 sim:Sim B ρ w Hc
 heap:B≤w.heap.size
 dfr:a.defers=[]
 pend:∀ p i v,done[p]? = some (i,v)→i ∉ ex.map Prod.fst→z7w P ops base τ0 done recs Hc p i v
 names:∀ p i,ord[p]? = some i→(∃ o,ops[i]? = some o∧zW o.op=true)→i ∉ ex.map Prod.fst→ρ (base+cnt ops (ord.take p))=none
 size:base+na≤Hc.size
 ext:Rho.ext base ρ0 ρ
 bel:Below B w0 w
section
variable {ord:List Nat} {base na:Nat} {τ0 τc:Tau} {ρ0:Rho} {w0:World} {a:Act} {done ex:List (Nat × AV)} {recs:List Rec} {Hc:z3}
theorem zax (ord:List Nat) (p:Nat):cnt ops (ord.take p)≤cnt ops ord:=by
 have:=Jw (ops:=ops) (ord.take p) (ord.drop p)
 rw [List.take_append_drop] at this
 omega
theorem z52 {p i:Nat} {o:Oper} (hp:ord[p]? = some i) (ho:ops[i]? = some o) (hal:zW o.op=true) {q:Nat} (hq:p < q):cnt ops (ord.take p) < cnt ops (ord.take q):=by
 have hlt:p < ord.length:=(List.getElem?_eq_some_iff.1 hp).1
 have h1:ord.take (p+1)=ord.take p++[i]:=by
  rw [List.take_add_one,hp];rfl
 have h2:cnt ops (ord.take (p+1))=cnt ops (ord.take p)+1:=by rw [h1,Jw,z5J ho,hal];rfl
 have h3:cnt ops (ord.take (p+1))≤cnt ops (ord.take q):=by
  have:ord.take (p+1)=(ord.take q).take (p+1):=by rw [List.take_take,Nat.min_eq_left (by omega)]
  rw [this]
  exact zax _ _
 omega
theorem Jx {p i:Nat} {o:Oper} (hp:ord[p]? = some i) (ho:ops[i]? = some o) (hal:zW o.op=true):cnt ops (ord.take p) < cnt ops ord:=by
 have hlt:p < ord.length:=(List.getElem?_eq_some_iff.1 hp).1
 have:=z52 (q:=ord.length) hp ho hal hlt
 rwa [List.take_length] at this
theorem Inv.doneNodup (h:Inv P ops ord B base na τ0 ρ0 w0 ρ w a done ex recs τc Hc) (ho:Yf P ops ord):(done.map Prod.fst).Nodup:=by
 rw [h.fst];exact List.Nodup.sublist (List.take_sublist _ _) ho.nodup
theorem Inv.takeFst (h:Inv P ops ord B base na τ0 ρ0 w0 ρ w a done ex recs τc Hc) {p:Nat} (hp:p≤done.length):(done.take p).map Prod.fst=ord.take p:=by
 rw [List.map_take,h.fst,List.take_take,Nat.min_eq_left hp]
theorem Inv.doneAt (h:Inv P ops ord B base na τ0 ρ0 w0 ρ w a done ex recs τc Hc) {p i:Nat} {v:AV} (hp:done[p]? = some (i,v)):ord[p]? = some i:=by
 have hlt:p < done.length:=(List.getElem?_eq_some_iff.1 hp).1
 have:(done.map Prod.fst)[p]? = some i:=by rw [List.getElem?_map,hp];rfl
 rw [h.fst,List.getElem?_take_of_lt hlt] at this
 exact this
theorem Inv.looks (h:Inv P ops ord B base na τ0 ρ0 w0 ρ w a done ex recs τc Hc) (htm:ZY ops=true) (ho:Yf P ops ord) {p i:Nat} {oi:Oper} (hp:ord[p]? = some i) (hpl:p≤done.length)
  (hoi:ops[i]? = some oi) (hr:Qi ops (ex.map Prod.fst) i) {t:Nat} (ht:t ∈ oi.looksAt ops):(yi ops τ0 ex)[t]? = (yi ops τ0 (done.take p))[t]? := by
 have hrp:=ho.rdy p i hp
 have hdn:=h.doneNodup ho
 refine zaf ?_ h.exnod (by rw [List.map_take];exact List.Nodup.sublist (List.take_sublist _ _) hdn) ?_ ?_ τ0
 ·intro x y hx hy
  unfold Ze at hx hy
  obtain⟨ox,hox,hdx⟩:=Option.bind_eq_some_iff.1 hx
  obtain⟨oy,hoy,hdy⟩:=Option.bind_eq_some_iff.1 hy
  exact(Qh htm hox hoy hdy).1 hdx
 ·intro j u u' h1 h2
  have m1:=h.exsub _ h1
  have m2:(j,u') ∈ done:=List.mem_of_mem_take h2
  obtain⟨x,hx⟩:=List.getElem?_of_mem m1
  obtain⟨y,hy⟩:=List.getElem?_of_mem m2
  have ex1:(done.map Prod.fst)[x]? = some j:=by rw [List.getElem?_map,hx];rfl
  have ey1:(done.map Prod.fst)[y]? = some j:=by rw [List.getElem?_map,hy];rfl
  have hxl:x < (done.map Prod.fst).length:=(List.getElem?_eq_some_iff.1 ex1).1
  have hxy:x=y:=(List.getElem?_inj hxl hdn).1 (ex1.trans ey1.symm)
  subst hxy
  rw [hx] at hy
  simpa using hy
 ·intro j hj
  unfold Ze at hj
  obtain⟨oj,hoj,hdj⟩:=Option.bind_eq_some_iff.1 hj
  obtain⟨hne,hw⟩:=(Qh htm hoi hoj hdj).2 ht
  rw [h.takeFst hpl]
  rcases hw with hw | hw
  ·obtain⟨e,he,hb,rfl⟩:=X9.1 hw
   obtain⟨_,o1,ho1,hd1⟩:=hr
   obtain⟨_,o2,ho2,hd2⟩:=hrp
   rw [hoi] at ho1 ho2
   obtain rfl:=Option.some.inj ho1
   obtain rfl:=Option.some.inj ho2
   exact⟨fun _=>hd2 e he hb,fun _=>hd1 e he hb⟩
  ·obtain⟨e,he,hb,rfl⟩:=X9.1 hw
   constructor
   ·intro hm
    exact absurd (h.exdown j hm oj hoj e he hb) hr.1
   ·intro hm
    exfalso
    obtain⟨q,hq⟩:=List.getElem?_of_mem hm
    have hql:q < (ord.take p).length:=(List.getElem?_eq_some_iff.1 hq).1
    have hqp:q < p:=by simp at hql;omega
    rw [List.getElem?_take_of_lt hqp] at hq
    obtain⟨_,o3,ho3,hd3⟩:=ho.rdy q j hq
    rw [hoj] at ho3
    obtain rfl:=Option.some.inj ho3
    have:=hd3 e he hb
    apply hrp.1
    have h4:ord.take q=(ord.take p).take q:=by rw [List.take_take,Nat.min_eq_left (by omega)]
    rw [h4] at this
    exact List.mem_of_mem_take this
theorem z7x {τ1 τ2:Tau} {x:Operand} {x':AX} (h:dX x=some x') (ht:∀ t,x=.tmp t→τ1[t]? = τ2[t]?):τ1.at x'=τ2.at x':=by
 cases x with
 | tmp t =>
  simp only [dX,Option.some.injEq] at h
  subst h
  simp only [Tau.at,List.getD_eq_getElem?_getD,ht t rfl]
 | const c =>
  simp only [dX] at h
  obtain⟨av,_,rfl⟩:=Option.map_eq_some_iff.1 h
  rfl
 | func f =>
  simp only [dX,Option.some.injEq] at h
  subst h
  rfl
 | global g=>simp [dX] at h
theorem Inv.operands (h:Inv P ops ord B base na τ0 ρ0 w0 ρ w a done ex recs τc Hc) (htm:ZY ops=true) (ho:Yf P ops ord) {p i:Nat} {oi:Oper} (hp:ord[p]? = some i) (hpl:p≤done.length)
  (hoi:ops[i]? = some oi) (hr:Qi ops (ex.map Prod.fst) i):∀ x ∈ oi.op.operands.toList,∀ x',dX x=some x'→zb ρ ((yi ops τ0 (done.take p)).at x')=some (a.eval x):=by
 intro x hx x' hx'
 have h1:=opd h.tmps x x' hx'
 rw [z7x (τ2:=yi ops τ0 (done.take p)) hx' (fun t e=>h.looks htm ho hp hpl hoi hr (by
  subst e
  unfold Oper.looksAt
  exact List.mem_append_left _ (List.mem_filterMap.2 ⟨.tmp t,hx,rfl⟩)))] at h1
 exact h1
theorem Inv.wanted (h:Inv P ops ord B base na τ0 ρ0 w0 ρ w a done ex recs τc Hc) (htm:ZY ops=true) (ho:Yf P ops ord) {p i:Nat} {oi:Oper} {ao:zk} (hp:ord[p]? = some i) (hpl:p≤done.length)
  (hoi:ops[i]? = some oi) (hao:kZ P ops oi=some ao) (hr:Qi ops (ex.map Prod.fst) i):Region.wanted oi (yielded ops a.tmps)=za (yi ops τ0 (done.take p)) ao.guard:=by
 rw [z1p h.tmps hao]
 unfold kZ at hao
 simp only [Option.bind_eq_bind,Option.bind_eq_some_iff] at hao
 obtain⟨op,_,hao⟩:=hao
 cases hg:oi.guard with
 | none=>rw [hg] at hao;obtain rfl:=Option.some.inj hao;rfl
 | some jw =>
  obtain⟨j,wnt⟩:=jw
  rw [hg] at hao
  simp only at hao
  cases hj:(ops[j]?).bind (·.dst) with
  | none=>rw [hj] at hao;cases hao
  | some t =>
   rw [hj] at hao
   obtain rfl:=Option.some.inj hao
   simp only [za]
   rw [h.looks htm ho hp hpl hoi hr (t:=t) (by
    unfold Oper.looksAt
    refine List.mem_append_right _ ?_
    simp [hg,hj])]
end
end
end Go.Ab
