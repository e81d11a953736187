/- A region that draws its order: the three kinds of steps, and the whole. -/
import Derived.Test.YtdbbdfmkglgjdaaAb13e
set_option linter.unusedVariables false
set_option linter.unusedSimpArgs false
set_option linter.unusedSectionVars false
namespace Go.Ab
open Go.RowKit
section
variable {P:Program} {B:Nat} {ρ:Rho} {w:World} {H H':z3} {v:AV} {τ τ':Tau} {call:z7} {ops:Array Oper}
variable {ord:List Nat} {base na:Nat} {τ0 τc:Tau} {ρ0:Rho} {w0:World} {a:Act} {done ex:List (Nat × AV)} {recs:List Rec} {Hc:z3}
theorem Qk {α:Type} (l m:List α) {p:Nat} (h:p≤l.length):(l++m).take p=l.take p:=by
 rw [List.take_append_of_le_length h]
theorem z7w.more {p i:Nat} {Hn:z3} {q:Nat × AV} {rq:Rec} (h:z7w P ops base τ0 done recs Hc p i v) (hp:p < done.length) (hr:recs.length=done.length)
  (hq:∀ o ao,ops[i]? = some o→kZ P ops o=some ao→kF P o.op=true→zW o.op=false→recs[p]? = some (.q (yi ops τ0 (done.take p)) ao.op v)→aop (yi ops τ0 (done.take p)) Hc ao.op=some (v,Hc)→aop (yi ops τ0 (done.take p)) Hn ao.op=some (v,Hn))
  (hal:∀ o r k z cs,ops[i]? = some o→zW o.op=true→recs[p]? = some (.made r)→Hc.get r=some (.cells k z cs)→Hn.get r=some (.cells k z cs)) :
  z7w P ops base τ0 (done++[q]) (recs++[rq]) Hn p i v:=by
 obtain⟨o,ao,h1,h2,h3,h4,h5⟩:=h
 refine⟨o,ao,h1,h2,h3,?_,?_⟩
 ·rw [Qk _ _ (by omega)];exact h4
 ·rw [Qk _ _ (by omega),List.getElem?_append_left (by omega)]
  intro hw
  obtain⟨h6,h7⟩:=h5 hw
  refine⟨fun hna=>?_,fun ha=>?_⟩
  ·obtain⟨g1,g2⟩:=h6 hna
   have hqo:kF P o.op=true:=by
    unfold vo at h3
    simpa [hna] using h3
   exact⟨hq o ao h1 h2 hqo hna g2 g1,g2⟩
  ·obtain⟨k,z,cs,g1,g2,g3⟩:=h7 ha
   exact⟨k,z,cs,g1,hal o _ k z cs h1 ha g3 g2,g3⟩
theorem Inv.advance (h:Inv P ops ord B base na τ0 ρ0 w0 ρ w a done ex recs τc Hc) (ho:Yf P ops ord) {i:Nat} {o:Oper} {ao:zk} (hp:ord[done.length]? = some i) (hoi:ops[i]? = some o)
  (hao:kZ P ops o=some ao) (hfree:vo P o.op=true) {v:AV} {rq:Rec} {Hn:z3}
  (hstep:(za τc ao.guard=false∧v=z4∧Hn=Hc) ∨
   (za τc ao.guard=true∧zW o.op=false∧aop τc Hc ao.op=some (v,Hc)∧Hn=Hc∧rq=.q τc ao.op v) ∨
   (za τc ao.guard=true∧zW o.op=true∧∃ k z cs,xB τc (base+cnt ops (ord.take done.length)) ao.op=some (v,.cells k z cs)∧Hc.get (base+cnt ops (ord.take done.length))=none ∧
    Hn=Hc.put (base+cnt ops (ord.take done.length)) (some (.cells k z cs))∧rq=.made (base+cnt ops (ord.take done.length)))) :
  Inv P ops ord B base na τ0 ρ0 w0 ρ w a (done++[(i,v)]) ex (recs++[rq]) (τc.put ao.dst v) Hn:=by
 have hlt:done.length < ord.length:=(List.getElem?_eq_some_iff.1 hp).1
 have hfst2:(done++[(i,v)]).map Prod.fst=ord.take (done++[(i,v)]).length:=by
  rw [List.map_append,h.fst,List.length_append,List.length_singleton,List.take_add_one,hp];rfl
 have hiex:i ∉ ex.map Prod.fst:=by
  intro hm
  obtain⟨q,hq,e⟩:=List.mem_map.1 hm
  have h1:q.1 ∈ done.map Prod.fst:=List.mem_map_of_mem (h.exsub q hq)
  rw [h.fst,e] at h1
  exact(ho.rdy _ _ hp).1 h1
 have hstay:z2g Hc Hn:=by
  rcases hstep with ⟨_,_,rfl⟩ | ⟨_,_,_,rfl,_⟩ | ⟨_,_,k,z,cs,_,hn,rfl,_⟩
  ·exact fun r=>.inr rfl
  ·exact fun r=>.inr rfl
  ·intro r
   rw [z3.get_put]
   by_cases e:r=base+cnt ops (ord.take done.length)
   ·subst e;exact .inl hn
   ·rw [if_neg e];exact .inr rfl
 have hsz:Hn.size=Hc.size:=by
  rcases hstep with ⟨_,_,rfl⟩ | ⟨_,_,_,rfl,_⟩ | ⟨_,_,k,z,cs,_,hn,rfl,_⟩<;>rfl
 refine⟨by simp [h.rlen],hfst2,fun q hq=>List.mem_append_left _ (h.exsub q hq),h.exnod,h.exdown,?_,h.tmps,?_,h.heap,h.dfr,fun p j u hj hje=>?_,h.names,by rw [hsz];exact h.size,h.ext,h.bel⟩
 ·rw [wb,h.tau]
  simp only [yi,Ze,hoi,Option.bind_some,(qk hao).2]
 ·rcases hstep with ⟨_,_,rfl⟩ | ⟨_,_,_,rfl,_⟩ | ⟨_,ha,k,z,cs,_,hn,rfl,_⟩
  ·exact h.sim
  ·exact h.sim
  ·exact h.sim.putUnmapped (h.names _ i hp ⟨o,hoi,ha⟩ hiex) _
 ·by_cases hpl:p < done.length
  ·rw [List.getElem?_append_left hpl] at hj
   refine(h.pend p j u hj hje).more hpl h.rlen (fun o' ao' ho' hao' hq hna' _ hst=>?_) (fun o' r k z cs _ _ _ hg=>?_)
   ·exact(X7 hq (qk hao').1 hst rfl).2 Hn (.inl hstay)
   ·rcases hstay r with h0 | h0
    ·rw [h0] at hg;cases hg
    ·rw [h0];exact hg
  ·have hpe:p=done.length:=by
    have:=(List.getElem?_eq_some_iff.1 hj).1
    simp at this;omega
   subst hpe
   rw [List.getElem?_append_right (by omega)] at hj
   simp at hj
   obtain⟨rfl,rfl⟩:=hj
   refine⟨o,ao,hoi,hao,hfree,?_,?_⟩
   ·rw [List.take_left,← h.tau]
    intro hw
    rcases hstep with ⟨_,hv,_⟩ | ⟨hw',_⟩ | ⟨hw',_⟩
    ·exact hv
    ·rw [hw] at hw';cases hw'
    ·rw [hw] at hw';cases hw'
   ·rw [List.take_left,← h.tau,List.getElem?_append_right (by rw [h.rlen];omega),h.rlen,Nat.sub_self,h.fst]
    intro hw
    rcases hstep with ⟨hw',_⟩ | ⟨_,hna',hst,rfl,rfl⟩ | ⟨_,ha,k,z,cs,hmd,hn,rfl,rfl⟩
    ·rw [hw] at hw';cases hw'
    ·refine⟨fun _=>⟨hst,rfl⟩,fun ha=>?_⟩
     rw [hna'] at ha;cases ha
    ·refine⟨fun hna'=>?_,fun _=>⟨k,z,cs,hmd,?_,rfl⟩⟩
     ·rw [ha] at hna';cases hna'
     ·rw [z3.get_put,if_pos rfl]
theorem z5K (hex:(ex.map Prod.fst).Nodup) {i:Nat} {v:AV} {o:Oper} (hi:i ∉ ex.map Prod.fst) (hoi:ops[i]? = some o) {x:Value} {ρ':Rho} (hle:ρ.le ρ') (ht:zg ρ (yi ops τ0 ex)=some a.tmps.toList)
  (hv:zb ρ' v=some x):((ex++[(i,v)]).map Prod.fst).Nodup∧zg ρ' (yi ops τ0 (ex++[(i,v)]))=some (a.put o.dst x).tmps.toList:=by
 refine⟨?_,?_⟩
 ·rw [List.map_append,List.nodup_append]
  refine⟨hex,by simp,?_⟩
  intro y hy z hz
  simp at hz
  subst hz
  exact fun e=>hi (e ▸ hy)
 ·rw [wb]
  simp only [yi,Ze,hoi,Option.bind_some]
  exact z4Z (y6 hle _ _ ht) hv o.dst
theorem z9x {o:Oper} {K:Act→World→Prop} {Q:Exit→Act→World→Prop} (h:z55 P B ρ w H (execOp a.eval o) v H')
  (hK:∀ ρ' x w',zb ρ' v=some x→Rho.ext H.size ρ ρ'→Sim B ρ' w' H'→Below B w w'→H.size≤H'.size→K (a.put o.dst x) w'):o.wp P a w K Q:=by
 obtain⟨ρ',x,w',hrun,h1,h2,h3,h4,h5⟩:=h
 unfold Oper.wp
 rcases hrun with hrun | ⟨hrun,rfl⟩
 ·rw [hrun,Oper.upon_value]
  exact hK ρ' x w' h1 h2 h3 h4 h5
 ·rw [hrun,Oper.upon_skip]
  exact hK ρ' undef w' h1 h2 h3 h4 h5
theorem z9y {o:Oper} {k:Kd} {z:Nat} {cs:List AV} {r:Nat} {K:Act→World→Prop} {Q:Exit→Act→World→Prop} {o':AOp} (hd:dOp P o.op=some o') (hal:zW o.op=true)
  (hx:∀ x ∈ o.op.operands.toList,∀ x',dX x=some x'→zb ρ (τ.at x')=some (a.eval x)) (h:xB τ r o'=some (v,.cells k z cs))
  (hK:∀ (cur:Array Value) (e:TypeId) (cap:Nat) (x:Value),k≠.ro→zg ρ cs=some (cur.toList.take cs.length)→cs.length≤cur.size→Y1 k z (Loc.at w.heap.size 0 cap) cur.size (0,0) cs.length →
   (∀ ρ':Rho,ρ' r=some (Loc.at w.heap.size 0 cap)→zb ρ' v=some x)→K (a.put o.dst x) (w.alloc (.cells cur e))):o.wp P a w K Q:=by
 have fin:∀ {s:Sem Value} {f:Nat→AV},(execOp a.eval o).run P w=((do pure (.value (← s))):Sem Next).run P w→Vi P ρ w s f k z cs→f r=v→o.wp P a w K Q:=by
  intro s f he hm hv
  obtain⟨cur,e,cap,x,h1,h2,h3,h4,h5,h6⟩:=hm
  unfold Oper.wp
  rw [he]
  simp only [Sem.run_bind,h1,Result.andThen_ok,Sem.run_pure,Oper.upon_value]
  exact hK cur e cap x h2 h3 h4 h5 (fun ρ' hr=>by rw [← hv];exact h6 ρ' r hr)
 obtain⟨dst,op,ty,pos,after,gd⟩:=o
 simp only at hd hal hx
 cases op<;>simp only [zW,Bool.false_eq_true] at hal
 case alloc e =>
  simp only [dOp] at hd
  obtain⟨cs',hz,rfl⟩:=Option.map_eq_some_iff.1 hd
  simp only [xB] at h
  split at h
  ·simp only [Option.some.injEq,Prod.mk.injEq,zF.cells.injEq] at h
   obtain⟨rfl,rfl,rfl,rfl⟩:=h
   exact fin rfl (z1z hz) rfl
  ·cases h
 case box e x =>
  simp only [dOp] at hd
  obtain⟨x',hx',rfl⟩:=Option.map_eq_some_iff.1 hd
  have h1:=hx x (by simp [Op.operands]) x' hx'
  simp only [xB] at h
  split at h
  ·rename_i hone
   simp only [Option.some.injEq,Prod.mk.injEq,zF.cells.injEq] at h
   obtain⟨rfl,rfl,rfl,rfl⟩:=h
   exact fin rfl (z3k hone h1) rfl
  ·cases h
 case buildSlice t n ps =>
  have hps:∀ p ∈ ps.toList,∀ x',dX p.2=some x'→zb ρ (τ.at x')=some (a.eval p.2):=fun p hp x' hx'=>hx p.2 (by simp [Op.operands];exact⟨p.1,by simpa using hp⟩) x' hx'
  simp only [dOp] at hd
  split at hd
  ·rename_i e ht
   simp only [Option.bind_eq_bind,Option.bind_eq_some_iff,Option.some.injEq] at hd
   obtain⟨s,he,z',hz,qs,hq,rfl⟩:=hd
   simp only [xB] at h
   split at h
   ·cases h
   ·rename_i hc
    have hc1:s≠0:=fun e=>hc (.inl e)
    have hc2:z'.length=s:=by
     apply Classical.byContradiction;intro e;exact hc (.inr (.inl e))
    have hc3:n * s≤16777216:=by
     apply Classical.byContradiction;intro e;exact hc (.inr (.inr (by omega)))
    split at h
    ·rename_i cs' hf
     split at h
     ·simp only [Option.some.injEq,Prod.mk.injEq,zF.cells.injEq] at h
      obtain⟨rfl,rfl,rfl,rfl⟩:=h
      exact fin rfl (z3m ht he hz hq hps hc1 hc2 hc3 hf) rfl
     ·cases h
    ·cases h
  ·cases hd
theorem Inv.comes (h:Inv P ops ord B base na τ0 ρ0 w0 ρ w a done ex recs τc Hc) (htm:ZY ops=true) (ho:Yf P ops ord) (hna:cnt ops ord=na) {p i:Nat} {v:AV} (hp:done[p]? = some (i,v)) (hr:Qi ops (ex.map Prod.fst) i)
  {K:Act→World→Prop} {Q:Exit→Act→World→Prop} (hK:∀ ρ' a' w',Inv P ops ord B base na τ0 ρ0 w0 ρ' w' a' done (ex++[(i,v)]) recs τc Hc→K a' w'):wpOp P ops Q i K a w:=by
 have hop:=h.doneAt hp
 have hpl:p < done.length:=(List.getElem?_eq_some_iff.1 hp).1
 obtain⟨o,ao,hoi,hao,hfree,hun,hwn⟩:=h.pend p i v hp hr.1
 have hwant:=h.wanted htm ho hop (by omega) hoi hao hr
 have hmem:(i,v) ∈ done:=List.mem_of_getElem? hp
 have next:∀ (ρ':Rho) (x:Value) (w':World),zb ρ' v=some x→ρ.le ρ'→Sim B ρ' w' Hc→Below B w w'→Rho.ext base ρ ρ' →
   (∀ q j,ord[q]? = some j→(∃ o,ops[j]? = some o∧zW o.op=true)→j ∉ (ex++[(i,v)]).map Prod.fst→ρ' (base+cnt ops (ord.take q))=none)→K (a.put o.dst x) w':=by
  intro ρ' x w' hv hle hs hb he hnm
  obtain⟨n1,n2⟩:=z5K (a:=a) h.exnod hr.1 hoi hle h.tmps hv
  refine hK ρ' _ w' ⟨h.rlen,h.fst,fun q hq=>?_,n1,fun j hj oj hoj e he' hb'=>?_,h.tau,n2,hs,by have:=hb.size;have:=h.heap;omega,X5 h.dfr,fun q j u hq hje=>?_,hnm,h.size,Rho.ext_trans h.ext he (Nat.le_refl _),h.bel.trans hb⟩
  ·rcases List.mem_append.1 hq with hq | hq
   ·exact h.exsub q hq
   ·simp at hq;subst hq;exact hmem
  ·rw [List.map_append] at hj ⊢
   rcases List.mem_append.1 hj with hj | hj
   ·exact List.mem_append_left _ (h.exdown j hj oj hoj e he' hb')
   ·simp at hj
    subst hj
    obtain⟨_,o1,ho1,hd1⟩:=hr
    rw [ho1] at hoj
    obtain rfl:=Option.some.inj hoj
    exact List.mem_append_left _ (hd1 e he' hb')
  ·exact h.pend q j u hq (fun hm=>hje (by rw [List.map_append];exact List.mem_append_left _ hm))
 have hnames:∀ ρ':Rho,(∀ r,r < Hc.size→ρ' r=ρ r)→∀ q j,ord[q]? = some j→(∃ o,ops[j]? = some o∧zW o.op=true)→j ∉ (ex++[(i,v)]).map Prod.fst→ρ' (base+cnt ops (ord.take q))=none:=by
  intro ρ' he q j hq hj hje
  have h1:=h.names q j hq hj (fun hm=>hje (by rw [List.map_append];exact List.mem_append_left _ hm))
  obtain⟨oj,hoj,haj⟩:=hj
  rw [he _ (by have:=Jx hq hoj haj;have:=h.size;omega)]
  exact h1
 unfold Go.wpOp
 rw [hoi]
 simp only
 rw [hwant]
 cases hwa:za (yi ops τ0 (done.take p)) ao.guard with
 | false =>
  simp only [Bool.false_eq_true,if_false]
  obtain rfl:=hun hwa
  exact next ρ undef w (qW ρ) ρ.le_refl h.sim (Below.refl _ _) (ρ.ext_refl _) (hnames ρ fun _ _=>rfl)
 | true =>
  simp only [if_true]
  left
  obtain⟨hq,hal⟩:=hwn hwa
  have hopn:=h.operands htm ho hop (by omega) hoi hr
  cases ha:zW o.op with
  | false =>
   obtain⟨hst,_⟩:=hq ha
   obtain⟨dst,op,ty,pos,after,gd⟩:=o
   refine z9x (z1o h.sim h.heap (qk hao).1 hopn hst) fun ρ' x w' g1 g2 g3 g4 _=>?_
   exact next ρ' x w' g1 g2.1 g3 g4 ⟨g2.1,fun r hr'=>g2.2 r (by have:=h.size;omega)⟩ (hnames ρ' g2.2)
  | true =>
   obtain⟨k,z,cs,hmd,hget,_⟩:=hal ha
   rw [h.takeFst (by omega)] at hmd hget
   have hρ:=h.names p i hop ⟨o,hoi,ha⟩ hr.1
   have hlt:=Jx hop hoi ha
   have hsize:=h.size
   refine z9y (qk hao).1 ha hopn hmd fun cur e cap x hk hc hle hkd hcv=>?_
   refine next (ρ.add (base+cnt ops (ord.take p)) (Loc.at w.heap.size 0 cap)) x _ (hcv _ (wq _ _ _)) (Rho.le_add' hρ) (h.sim.named h.heap hρ (by omega) hget hk hle hc hkd) ((Below.refl _ _).alloc h.heap _) ?_ ?_
   ·exact⟨Rho.le_add' hρ,fun r hr'=>by unfold Rho.add;rw [if_neg (by omega)]⟩
   ·intro q j hq' hj hje
    have h1:=h.names q j hq' hj (fun hm=>hje (by rw [List.map_append];exact List.mem_append_left _ hm))
    unfold Rho.add
    rw [if_neg ?_]
    ·exact h1
    ·intro e1
     have hjne:j≠i:=by
      intro e2;subst e2
      exact hje (by simp)
     obtain⟨oj,hoj,haj⟩:=hj
     have hqp:q≠p:=by
      intro e2;subst e2
      rw [hop] at hq'
      exact hjne (Option.some.inj hq').symm
     rcases Nat.lt_or_gt_of_ne hqp with hlt' | hlt'
     ·have:=z52 hq' hoj haj hlt';omega
     ·have:=z52 hop hoi ha hlt';omega
end
end Go.Ab
