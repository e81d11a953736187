/- A region that draws its order: the effectful step, and the whole. -/
import Derived.Test.YtdbbdfmkglgjdaaAb13f
set_option linter.unusedVariables false
set_option linter.unusedSimpArgs false
set_option linter.unusedSectionVars false
namespace Go.Ab
open Go.RowKit
section
variable {P:Program} {B:Nat} {ρ:Rho} {w:World} {H H':z3} {v:AV} {τ τ':Tau} {call:z7} {ops:Array Oper}
variable {ord:List Nat} {base na:Nat} {τ0 τc:Tau} {ρ0:Rho} {w0:World} {a:Act} {done ex:List (Nat × AV)} {recs:List Rec} {Hc:z3}
theorem Inv.effect (h:Inv P ops ord B base na τ0 ρ0 w0 ρ w a done ex recs τc Hc) (hc:Ve P call) (htm:ZY ops=true) (ho:Yf P ops ord) (hna:cnt ops ord=na) {i:Nat} {o:Oper} {ao:zk} (hp:ord[done.length]? = some i)
  (hoi:ops[i]? = some o) (hao:kZ P ops o=some ao) (hr:Qi ops (ex.map Prod.fst) i) {v:AV} {Hn:z3}
  (hstep:(za τc ao.guard=false∧v=z4∧Hn=Hc)∨(za τc ao.guard=true∧xL call τc Hc ao.op=some (v,Hn)∧jr Hc Hn recs (X3 ops (ord.take done.length) o)=true))
  {K:Act→World→Prop} {Q:Exit→Act→World→Prop}
  (hK:∀ ρ' a' w',Inv P ops ord B base na τ0 ρ0 w0 ρ' w' a' (done++[(i,v)]) (ex++[(i,v)]) (recs++[.none]) (τc.put ao.dst v) Hn→K a' w'):wpOp P ops Q i K a w:=by
 have hlt:done.length < ord.length:=(List.getElem?_eq_some_iff.1 hp).1
 have hfst2:(done++[(i,v)]).map Prod.fst=ord.take (done++[(i,v)]).length:=by
  rw [List.map_append,h.fst,List.length_append,List.length_singleton,List.take_add_one,hp];rfl
 have hwant:=h.wanted htm ho hp (Nat.le_refl _) hoi hao hr
 have hopn:=h.operands htm ho hp (Nat.le_refl _) hoi hr
 rw [List.take_length,← h.tau] at hwant hopn
 have next:∀ (ρ':Rho) (x:Value) (w':World),zb ρ' v=some x→Rho.ext Hc.size ρ ρ'→Sim B ρ' w' Hn→Below B w w'→Hc.size≤Hn.size →
   (∀ p j u,done[p]? = some (j,u)→j ∉ ex.map Prod.fst→j≠i→z7w P ops base τ0 (done++[(i,v)]) (recs++[.none]) Hn p j u)→K (a.put o.dst x) w':=by
  intro ρ' x w' hv he hs hb hsz hpend
  obtain⟨n1,n2⟩:=z5K (a:=a) h.exnod hr.1 hoi he.1 h.tmps hv
  refine hK ρ' _ w' ⟨by simp [h.rlen],hfst2,fun q hq=>?_,n1,fun j hj oj hoj e he' hb'=>?_,?_,n2,hs,by have:=hb.size;have:=h.heap;omega,X5 h.dfr,fun p j u hj hje=>?_,fun q j hq hj hje=>?_,by have:=h.size;omega,?_,h.bel.trans hb⟩
  ·rcases List.mem_append.1 hq with hq | hq
   ·exact List.mem_append_left _ (h.exsub q hq)
   ·exact List.mem_append_right _ hq
  ·rw [List.map_append] at hj ⊢
   rcases List.mem_append.1 hj with hj | hj
   ·exact List.mem_append_left _ (h.exdown j hj oj hoj e he' hb')
   ·simp at hj
    subst hj
    obtain⟨_,o1,ho1,hd1⟩:=hr
    rw [ho1] at hoj
    obtain rfl:=Option.some.inj hoj
    exact List.mem_append_left _ (hd1 e he' hb')
  ·rw [wb,h.tau]
   simp only [yi,Ze,hoi,Option.bind_some,(qk hao).2]
  ·by_cases hpl:p < done.length
   ·rw [List.getElem?_append_left hpl] at hj
    refine hpend p j u hj (fun hm=>hje (by rw [List.map_append];exact List.mem_append_left _ hm)) (fun e=>hje (by subst e;simp))
   ·have hpe:p=done.length:=by
     have:=(List.getElem?_eq_some_iff.1 hj).1
     simp at this;omega
    subst hpe
    rw [List.getElem?_append_right (by omega)] at hj
    simp at hj
    obtain⟨rfl,rfl⟩:=hj
    exact absurd (by simp) hje
  ·have h1:=h.names q j hq hj (fun hm=>hje (by rw [List.map_append];exact List.mem_append_left _ hm))
   obtain⟨oj,hoj,haj⟩:=hj
   rw [he.2 _ (by have:=Jx hq hoj haj;have:=h.size;omega)]
   exact h1
  ·exact Rho.ext_trans h.ext ⟨he.1,fun r hr'=>he.2 r (by have:=h.size;omega)⟩ (Nat.le_refl _)
 unfold Go.wpOp
 rw [hoi]
 simp only
 rw [hwant]
 rcases hstep with ⟨hwa,rfl,rfl⟩ | ⟨hwa,hst,hrec⟩
 ·rw [hwa]
  simp only [Bool.false_eq_true,if_false]
  refine next ρ undef w (qW ρ) (ρ.ext_refl _) h.sim (Below.refl _ _) (Nat.le_refl _) fun p j u hj hje _=>?_
  exact(h.pend p j u hj hje).more (List.getElem?_eq_some_iff.1 hj).1 h.rlen (fun _ _ _ _ _ _ _ hst=>hst) (fun _ _ _ _ _ _ _ _ hg=>hg)
 ·rw [hwa]
  simp only [if_true]
  left
  refine W8 hc (qk hao).1 h.sim h.heap hopn hst fun ρ' x w' g1 g2 g3 g4 g5=>?_
  refine next ρ' x w' g1 g2 g3 g4 g5 fun p j u hj hje hji=>?_
  have hpl:p < done.length:=(List.getElem?_eq_some_iff.1 hj).1
  have hordp:=h.doneAt hj
  have htk:(ord.take done.length)[p]? = some j:=by rw [List.getElem?_take_of_lt hpl];exact hordp
  have hpin:∀ oj,ops[j]? = some oj→pinned oj.op=true→p ∈ X3 ops (ord.take done.length) o:=by
   intro oj hoj hpn
   refine z7v htk hoj hpn ?_
   cases hw:z4W ops o j with
   | false=>rfl
   | true =>
    obtain⟨_,o1,ho1,hd1⟩:=hr
    rw [hoi] at ho1
    obtain rfl:=Option.some.inj ho1
    exact absurd (z1t (ex:=fun k=>_) (fun k hk o' ho' e2 he2 hb2=>h.exdown k hk o' ho' e2 he2 hb2) 5 o j hw hd1) hje
  refine(h.pend p j u hj hje).more hpl h.rlen (fun oj aj hoj haj hq hna' hrp hst'=>?_) (fun oj r k z cs hoj hal hrp hg=>?_)
  ·have hqs:=X7 hq (qk haj).1 hst' rfl
   cases hpn:pinned oj.op with
   | false=>exact hqs.2 Hn (.inr hpn)
   | true =>
    obtain⟨q,hq1,hq2⟩:=Qj hrec p (hpin oj hoj hpn)
    rw [hrp] at hq1
    obtain rfl:=Option.some.inj hq1
    simp only [jT] at hq2
    split at hq2
    ·rename_i v' H2 hv'
     simp only [Bool.and_eq_true,beq_iff_eq] at hq2
     have e1:=z2f _ _ hq2.2
     subst e1
     have:=(X7 hq (qk haj).1 hv' hq2.1).1
     rw [this] at hv'
     exact hv'
    ·cases hq2
  ·have hpn:pinned oj.op=true:=by
    cases hop:oj.op<;>rw [hop] at hal<;>first | (simp [zW] at hal;done) | simp [pinned,zW]
   obtain⟨q,hq1,hq2⟩:=Qj hrec p (hpin oj hoj hpn)
   rw [hrp] at hq1
   obtain rfl:=Option.some.inj hq1
   simp only [jT,hg] at hq2
   split at hq2
   ·rename_i k1 z1 a1 k2 z2 b2 e1 e2
    simp only [Option.some.injEq,zF.cells.injEq] at e1
    obtain⟨rfl,rfl,rfl⟩:=e1
    simp only [Bool.and_eq_true,beq_iff_eq] at hq2
    obtain⟨⟨h1,h2⟩,h3⟩:=hq2
    rw [e2,h1,h2,vp _ _ h3]
   ·cases hq2
theorem z07 {p:Nat→Prop} (h:∃ n,p n):∃ n,p n∧∀ k,k < n→¬ p k:=by
 obtain⟨n,hn⟩:=h
 induction n using Nat.strongRecOn with
 | _ n ih =>
  by_cases hk:∃ k,k < n∧p k
  ·obtain⟨k,hlt,hpk⟩:=hk
   exact ih k hlt hpk
  ·exact⟨n,hn,fun k hlt hpk=>hk ⟨k,hlt,hpk⟩⟩
theorem Vg {α:Type} [BEq α] [LawfulBEq α]:∀ (l m:List α),l.Nodup→(∀ x ∈ l,x ∈ m)→l.length≤m.length
 | [],_,_,_=>by simp
 | x::l,m,hn,h=>by
  rw [List.nodup_cons] at hn
  have:=Vg l (m.erase x) hn.2 (fun y hy=>by
   rw [List.mem_erase_of_ne (by intro e;subst e;exact hn.1 hy)]
   exact h y (by simp [hy]))
  rw [List.length_erase_of_mem (h x (by simp))] at this
  have h1:0 < m.length:=List.length_pos_of_mem (h x (by simp))
  simp
  omega
theorem zcG {l:List (zk × DK)} {Q:Exit→Act→World→Prop} (hc:Ve P call) (htm:ZY ops=true) (ho:Yf P ops ord) (hl:Je P ops [] 0 ord=some (na,l))
  (hto:∀ ρ' a' w',Rho.ext base ρ0 ρ'→Sim B ρ' w' H'→zg ρ' τ'=some a'.tmps.toList→a'.defers=[]→Below B w0 w'→base+na≤H'.size→Q .normal a' w') :
  ∀ (m n:Nat) (ρ:Rho) (w:World) (a:Act) (done ex:List (Nat × AV)) (recs:List Rec) (τc:Tau) (Hc:z3) (listed:Array Bool),done.length+n=ord.length→ex.length+m=ops.size →
   Lst ops.size listed (ex.map Prod.fst)→Inv P ops ord B base na τ0 ρ0 w0 ρ w a done ex recs τc Hc→x9 call base (l.drop done.length) recs τc Hc=some (τ',H')→wpAny P .any ops Q m listed a w:=by
 obtain⟨hna0,hll,hspec⟩:=X8 _ _ _ _ _ hl
 have hna:cnt ops ord=na:=by omega
 have hord:=ho.nodup
 have hall:=z1s ho.len hord ho.lt
 intro m
 induction m with
 | zero =>
  intro n ρ w a done ex recs τc Hc listed hn hm hlst hinv had
  have hexlt:∀ i ∈ ex.map Prod.fst,i < ops.size:=fun i hi=>by
   obtain⟨q,hq,rfl⟩:=List.mem_map.1 hi
   have:=List.mem_map_of_mem (f:=Prod.fst) (hinv.exsub q hq)
   rw [hinv.fst] at this
   exact ho.lt _ (List.mem_of_mem_take this)
  have hexall:=z1s (by simpa using hm) hinv.exnod hexlt
  have hfull:done.length=ord.length:=by
   apply Classical.byContradiction
   intro hne
   have hlt:done.length < ord.length:=by omega
   have hp:ord[done.length]? = some ord[done.length]:=by simp [hlt]
   have h1:=hexall _ (ho.lt _ (List.getElem_mem hlt))
   obtain⟨q,hq,e⟩:=List.mem_map.1 h1
   have:=List.mem_map_of_mem (f:=Prod.fst) (hinv.exsub q hq)
   rw [hinv.fst,e] at this
   exact(ho.rdy _ _ hp).1 this
  have hdrop:l.drop done.length=[]:=by rw [List.drop_eq_nil_iff];omega
  rw [hdrop] at had
  simp only [x9,Option.some.injEq,Prod.mk.injEq] at had
  obtain⟨rfl,rfl⟩:=had
  have hsame:yi ops τ0 ex=yi ops τ0 done:=by
   apply List.ext_getElem?
   intro t
   refine zaf ?_ hinv.exnod (hinv.doneNodup ho) ?_ ?_ τ0
   ·intro x y hx hy
    unfold Ze at hx hy
    obtain⟨ox,hox,hdx⟩:=Option.bind_eq_some_iff.1 hx
    obtain⟨oy,hoy,hdy⟩:=Option.bind_eq_some_iff.1 hy
    exact(Qh htm hox hoy hdy).1 hdx
   ·intro j u u' h1 h2
    have hdn:=hinv.doneNodup ho
    obtain⟨x,hx⟩:=List.getElem?_of_mem (hinv.exsub _ h1)
    obtain⟨y,hy⟩:=List.getElem?_of_mem h2
    have ex1:(done.map Prod.fst)[x]? = some j:=by rw [List.getElem?_map,hx];rfl
    have ey1:(done.map Prod.fst)[y]? = some j:=by rw [List.getElem?_map,hy];rfl
    have hxl:x < (done.map Prod.fst).length:=(List.getElem?_eq_some_iff.1 ex1).1
    have hxy:x=y:=(List.getElem?_inj hxl hdn).1 (ex1.trans ey1.symm)
    subst hxy
    rw [hx] at hy
    simpa using hy
   ·intro j hj
    have hjlt:j < ops.size:=by
     unfold Ze at hj
     obtain⟨oj,hoj,_⟩:=Option.bind_eq_some_iff.1 hj
     exact(Array.getElem?_eq_some_iff.1 hoj).1
    refine⟨fun _=>?_,fun _=>hexall j hjlt⟩
    rw [hinv.fst,hfull,List.take_length]
    exact hall j hjlt
  refine⟨?_,hto ρ a w hinv.ext hinv.sim (by rw [hinv.tau,← hsame];exact hinv.tmps) hinv.dfr hinv.bel hinv.size⟩
  rw [List.eq_nil_iff_forall_not_mem]
  intro j hj
  have:=(vX hlst hexlt j).1 hj
  obtain⟨h1,oj,hoj,_⟩:=this
  exact h1 (hexall j (Array.getElem?_eq_some_iff.1 hoj).1)
 | succ m ih =>
  intro n
  induction n with
  | zero =>
   intro ρ w a done ex recs τc Hc listed hn hm hlst hinv had
   have hexlt:∀ i ∈ ex.map Prod.fst,i < ops.size:=fun i hi=>by
    obtain⟨q,hq,rfl⟩:=List.mem_map.1 hi
    have:=List.mem_map_of_mem (f:=Prod.fst) (hinv.exsub q hq)
    rw [hinv.fst] at this
    exact ho.lt _ (List.mem_of_mem_take this)
   refine⟨fun hr=>?_,fun i hi=>?_⟩
   ·exfalso
    have hex:∃ p:Nat,∃ j:Nat,ord[p]? = some j∧j ∉ ex.map Prod.fst:=by
     apply Classical.byContradiction
     intro hno
     have:=Vg ord (ex.map Prod.fst) hord (fun x hx=>by
      apply Classical.byContradiction
      intro hnx
      obtain⟨p,hp⟩:=List.getElem?_of_mem hx
      exact hno ⟨p,x,hp,hnx⟩)
     have h2:=ho.len
     simp at this
     omega
    obtain⟨p,⟨j,hpj,hj⟩,hmin⟩:=z07 hex
    have hrdy:=ho.rdy p j hpj
    have:j ∈ Region.ready .any ops listed:=by
     refine(vX hlst hexlt j).2 ⟨hj,?_⟩
     obtain⟨_,oj,hoj,hd⟩:=hrdy
     refine⟨oj,hoj,fun e he hb=>?_⟩
     have hm1:=hd e he hb
     obtain⟨q,hq⟩:=List.getElem?_of_mem hm1
     have hql:q < (ord.take p).length:=(List.getElem?_eq_some_iff.1 hq).1
     have hqp:q < p:=by simp at hql;omega
     rw [List.getElem?_take_of_lt hqp] at hq
     apply Classical.byContradiction
     intro hne
     exact hmin q hqp ⟨_,hq,hne⟩
    rw [hr] at this
    cases this
   ·have hri:=(vX hlst hexlt i).1 hi
    have hilt:i < ops.size:=by
     obtain⟨_,oi,hoi,_⟩:=hri
     exact(Array.getElem?_eq_some_iff.1 hoi).1
    have him:i ∈ done.map Prod.fst:=by
     rw [hinv.fst,show done.length=ord.length by omega,List.take_length]
     exact hall i hilt
    obtain⟨⟨i',u⟩,hq,e⟩:=List.mem_map.1 him
    simp at e
    subst e
    obtain⟨p,hp⟩:=List.getElem?_of_mem hq
    refine hinv.comes htm ho hna hp hri fun ρ' a' w' hinv'=>?_
    refine ih 0 ρ' w' a' done _ recs τc Hc _ hn (by simp;omega) ?_ hinv' had
    rw [List.map_append]
    exact WS hlst hilt
  | succ n ihn =>
   intro ρ w a done ex recs τc Hc listed hn hm hlst hinv had
   have hlt:done.length < ord.length:=by omega
   have hp:ord[done.length]? = some ord[done.length]:=by simp [hlt]
   generalize ord[done.length]=i0 at hp
   obtain⟨o0,ao0,dk0,hoi0,hao0,hl0,hdk0⟩:=hspec _ _ hp
   have hcons:l.drop done.length=(ao0,dk0)::l.drop (done.length+1):=by
    have hll':done.length < l.length:=by omega
    rw [List.drop_eq_getElem_cons hll']
    congr 1
    have:=List.getElem?_eq_getElem hll'
    rw [hl0] at this
    exact(Option.some.inj this).symm
   rw [hcons] at had
   simp only [x9] at had
   have hexlt:∀ i ∈ ex.map Prod.fst,i < ops.size:=fun i hi=>by
    obtain⟨q,hq,rfl⟩:=List.mem_map.1 hi
    have:=List.mem_map_of_mem (f:=Prod.fst) (hinv.exsub q hq)
    rw [hinv.fst] at this
    exact ho.lt _ (List.mem_of_mem_take this)
   have adv:∀ (v:AV) (rq:Rec) (Hn:z3),vo P o0.op=true→x9 call base (l.drop (done.length+1)) (recs++[rq]) (τc.put ao0.dst v) Hn=some (τ',H') →
     ((za τc ao0.guard=false∧v=z4∧Hn=Hc) ∨
      (za τc ao0.guard=true∧zW o0.op=false∧aop τc Hc ao0.op=some (v,Hc)∧Hn=Hc∧rq=.q τc ao0.op v) ∨
      (za τc ao0.guard=true∧zW o0.op=true∧∃ k z cs,xB τc (base+cnt ops (ord.take done.length)) ao0.op=some (v,.cells k z cs)∧Hc.get (base+cnt ops (ord.take done.length))=none ∧
       Hn=Hc.put (base+cnt ops (ord.take done.length)) (some (.cells k z cs))∧rq=.made (base+cnt ops (ord.take done.length))))→wpAny P .any ops Q (m+1) listed a w:=by
    intro v rq Hn hfree had' hst
    have hinv':=hinv.advance ho hp hoi0 hao0 hfree hst
    exact ihn ρ w a (done++[(i0,v)]) ex (recs++[rq]) _ Hn listed (by simp;omega) hm hlst hinv' (by simpa using had')
   rcases hdk0 with ⟨hal,rfl⟩ | ⟨hal,hq,rfl⟩ | ⟨hal,hq,rfl⟩
   ·have hfree:vo P o0.op=true:=by simp [vo,hal]
    cases hw:za τc ao0.guard with
    | false =>
     simp only [hw,Bool.false_eq_true,if_false] at had
     exact adv z4 _ Hc hfree had (.inl ⟨hw,rfl,rfl⟩)
    | true =>
     simp only [hw,if_true] at had
     split at had
     ·rename_i v ob hmd
      split at had
      ·rename_i hnone
       rw [Nat.zero_add] at hmd had hnone
       have hob:∃ k z cs,ob=.cells k z cs:=by
        unfold xB at hmd
        split at hmd
        ·split at hmd
         ·simp at hmd;exact⟨_,_,_,hmd.2.symm⟩
         ·cases hmd
        ·split at hmd
         ·simp at hmd;exact⟨_,_,_,hmd.2.symm⟩
         ·cases hmd
        ·split at hmd
         ·cases hmd
         ·split at hmd
          ·split at hmd
           ·simp at hmd;exact⟨_,_,_,hmd.2.symm⟩
           ·cases hmd
          ·cases hmd
        ·cases hmd
       obtain⟨k,z,cs,rfl⟩:=hob
       exact adv v _ _ hfree had (.inr (.inr ⟨hw,hal,k,z,cs,hmd,by simpa using hnone,rfl,rfl⟩))
      ·cases had
     ·cases had
   ·have hfree:vo P o0.op=true:=by simp [vo,hq]
    cases hw:za τc ao0.guard with
    | false =>
     simp only [hw,Bool.false_eq_true,if_false] at had
     exact adv z4 _ Hc hfree had (.inl ⟨hw,rfl,rfl⟩)
    | true =>
     simp only [hw,if_true] at had
     split at had
     ·rename_i v H1 hst
      split at had
      ·rename_i hsz
       have hH1:=(X7 hq (qk hao0).1 hst hsz).1
       rw [hH1] at hst
       exact adv v _ Hc hfree had (.inr (.inl ⟨hw,hal,hst,rfl,rfl⟩))
      ·cases had
     ·cases had
   ·-- not free
    have hnf:vo P o0.op=false:=by simp [vo,hq,hal]
    obtain⟨v,Hn,hst,had'⟩:∃ v Hn,((za τc ao0.guard=false∧v=z4∧Hn=Hc)∨(za τc ao0.guard=true∧xL call τc Hc ao0.op=some (v,Hn)∧jr Hc Hn recs (X3 ops (ord.take done.length) o0)=true)) ∧
      x9 call base (l.drop (done.length+1)) (recs++[.none]) (τc.put ao0.dst v) Hn=some (τ',H'):=by
     cases hw:za τc ao0.guard with
     | false =>
      simp only [hw,Bool.false_eq_true,if_false] at had
      exact⟨z4,Hc,.inl ⟨rfl,rfl,rfl⟩,had⟩
     | true =>
      simp only [hw,if_true] at had
      split at had
      ·rename_i v H1 hst
       split at had
       ·rename_i hrec
        rw [List.nil_append] at hrec
        exact⟨v,H1,.inr ⟨rfl,hst,hrec⟩,had⟩
       ·cases had
      ·cases had
    refine⟨fun hr=>?_,fun i hi=>?_⟩
    ·exfalso
     have hex:∃ p:Nat,∃ j:Nat,ord[p]? = some j∧j ∉ ex.map Prod.fst:=by
      apply Classical.byContradiction
      intro hno
      have:=Vg ord (ex.map Prod.fst) hord (fun x hx=>by
       apply Classical.byContradiction
       intro hnx
       obtain⟨p,hp⟩:=List.getElem?_of_mem hx
       exact hno ⟨p,x,hp,hnx⟩)
      have h2:=ho.len
      simp at this
      omega
     obtain⟨p,⟨j,hpj,hj⟩,hmin⟩:=z07 hex
     have hrdy:=ho.rdy p j hpj
     have:j ∈ Region.ready .any ops listed:=by
      refine(vX hlst hexlt j).2 ⟨hj,?_⟩
      obtain⟨_,oj,hoj,hd⟩:=hrdy
      refine⟨oj,hoj,fun e he hb=>?_⟩
      have hm1:=hd e he hb
      obtain⟨q,hq⟩:=List.getElem?_of_mem hm1
      have hql:q < (ord.take p).length:=(List.getElem?_eq_some_iff.1 hq).1
      have hqp:q < p:=by simp at hql;omega
      rw [List.getElem?_take_of_lt hqp] at hq
      apply Classical.byContradiction
      intro hne
      exact hmin q hqp ⟨_,hq,hne⟩
     rw [hr] at this
     cases this
    ·have hri:=(vX hlst hexlt i).1 hi
     have hilt:i < ops.size:=by
      obtain⟨_,oi,hoi,_⟩:=hri
      exact(Array.getElem?_eq_some_iff.1 hoi).1
     by_cases him:i ∈ done.map Prod.fst
     ·obtain⟨⟨i',u⟩,hq',e⟩:=List.mem_map.1 him
      simp at e
      subst e
      obtain⟨p,hp'⟩:=List.getElem?_of_mem hq'
      refine hinv.comes htm ho hna hp' hri fun ρ' a' w' hinv'=>?_
      refine ih (n+1) ρ' w' a' done _ recs τc Hc _ hn (by simp;omega) ?_ hinv' (by rw [hcons];simp only [x9];exact had)
      rw [List.map_append]
      exact WS hlst hilt
     ·have hi0:i=i0:=by
       refine ho.eff _ _ _ hp hoi0 hnf i ⟨by rw [← hinv.fst];exact him,?_⟩
       obtain⟨_,oi,hoi,hd⟩:=hri
       refine⟨oi,hoi,fun e he hb=>?_⟩
       obtain⟨q,hq',e1⟩:=List.mem_map.1 (hd e he hb)
       rw [← hinv.fst,← e1]
       exact List.mem_map_of_mem (hinv.exsub q hq')
      subst hi0
      refine hinv.effect hc htm ho hna hp hoi0 hao0 hri hst fun ρ' a' w' hinv'=>?_
      refine ih n ρ' w' a' _ _ _ _ Hn _ (by simp;omega) (by simp;omega) ?_ hinv' (by simpa using had')
      rw [List.map_append]
      exact WS hlst hilt
theorem z53 {Q:Exit→Act→World→Prop} {l:List (zk × DK)} (hc:Ve P call) (htm:ZY ops=true)
  (hord:X2 P ops ops.size (Array.replicate ops.size false)=some ord) (hl:Je P ops [] 0 ord=some (na,l)) (h:x9 call H.size l [] τ (pushN na H)=some (τ',H'))
  (hB:B≤w.heap.size) (hs:Sim B ρ w H) (ht:zg ρ τ=some a.tmps.toList) (hdf:a.defers=[]) (hto:To B ρ w H τ' H' (Q .normal)) :
  wpAny P .any ops Q ops.size (Array.replicate ops.size false) a { w with drawn:=w.drawn+1 }:=by
 have ho:=z7u hord
 obtain⟨hna0,hll,hspec⟩:=X8 _ _ _ _ _ hl
 have hdom:∀ r,H.size≤r→ρ r=none:=by
  intro r hr
  cases e:ρ r with
  | none=>rfl
  | some L=>have:=(hs.dom r L e).1;omega
 refine zcG (B:=B) (base:=H.size) (τ0:=τ) (ρ0:=ρ) (w0:=w) hc htm ho hl ?_ ops.size ord.length ρ w.drew a [] [] [] τ (pushN na H) _ (by simp) (by simp) (z1r _) ?_ (by simpa using h)
 ·intro ρ' a' w' h1 h2 h3 h4 h5 h6
  exact hto ρ' a' w' h1 h2 h3 h4 h5 (by omega)
 ·exact⟨rfl,by simp,by simp,by simp,by simp,rfl,ht,hs.drew.pushN na,by simpa using hB,hdf,by simp,fun p i hp hi _=>hdom _ (by omega),by rw [vW];omega,ρ.ext_refl _,(Below.refl _ _).drew⟩
end
end Go.Ab
