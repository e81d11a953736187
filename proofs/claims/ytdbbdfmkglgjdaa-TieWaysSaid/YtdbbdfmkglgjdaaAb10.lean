/- One operation of the program against one of the digest. -/
import Derived.Test.YtdbbdfmkglgjdaaAb9
set_option linter.unusedVariables false
set_option linter.unusedSimpArgs false
set_option linter.unusedSectionVars false
namespace Go.Ab
open Go.RowKit
section
variable {P:Program} {B:Nat} {ρ:Rho} {w:World} {H H':z3} {v:AV} {τ:Tau} {ev:Operand→Value}
theorem z4Y {lo:Option Operand} {l:Option AX} (h:dXo lo=some l) (hx:∀ x,lo=some x→∀ x',dX x=some x'→zb ρ (τ.at x')=some (ev x)):OX ρ (l.map τ.at) (lo.map ev):=by
 cases lo with
 | none=>simp [dXo] at h;subst h;trivial
 | some x =>
  simp only [dXo] at h
  obtain⟨x',hx',rfl⟩:=Option.map_eq_some_iff.1 h
  exact hx x rfl x' hx'
theorem K6 {α β:Type} {f:α→Option β} {l:List α} {y:β} (h:zO f l=some [y]):∃ x,l=[x]∧f x=some y:=by
 cases l with
 | nil=>simp [zO] at h
 | cons x l =>
  obtain⟨z,zs,h1,h2,h3⟩:=jo h
  simp at h3
  obtain⟨rfl,rfl⟩:=h3
  cases l with
  | nil=>exact⟨x,rfl,h1⟩
  | cons a l=>obtain⟨b,bs,_,_,h4⟩:=jo h2;simp at h4
theorem z3d {α β:Type} {f:α→Option β} {l:List α} {y z:β} (h:zO f l=some [y,z]):∃ a b,l=[a,b]∧f a=some y∧f b=some z:=by
 cases l with
 | nil=>simp [zO] at h
 | cons x l =>
  obtain⟨u,us,h1,h2,h3⟩:=jo h
  simp at h3
  obtain⟨rfl,rfl⟩:=h3
  obtain⟨b,rfl,hb⟩:=K6 h2
  exact⟨x,b,rfl,h1,hb⟩
theorem yV {α:Type} {a:Array α} {l:List α} (h:a.toList=l):a=l.toArray:=by
 apply Array.ext';simp [h]
theorem z11 {b:Builtin} {argTypes:Array TypeId} {args:Array Operand} {o':AOp} {dst:Option Tmp} {ty:TypeId} {pos:String} {after:Array Edge} {gd:Option (Nat × Bool)} (hs:Sim B ρ w H) (hB:B≤w.heap.size)
  (hd:Qf P b argTypes args=some o') (hx:∀ x ∈ args.toList,∀ x',dX x=some x'→zb ρ (τ.at x')=some (ev x)) (h:aop τ H o'=some (v,H')) :
  z55 P B ρ w H (execOp ev ⟨dst,.call ⟨.builtin b,args,argTypes⟩,ty,pos,after,gd⟩) v H':=by
 have hrun:∀ s:Sem Value,(∀ (consts:Array Bool) (w:World),(builtin b argTypes ty consts (args.map ev)).run P w=((do pure (.value (← s))):Sem Next).run P w)→zI P B ρ w H s v H' →
   z55 P B ρ w H (execOp ev ⟨dst,.call ⟨.builtin b,args,argTypes⟩,ty,pos,after,gd⟩) v H':=by
  intro s hsame hg
  obtain⟨ρ',x,w',h1,rest⟩:=hg.good
  refine⟨ρ',x,w',?_,rest⟩
  simp only [execOp,resolve,invoke,Sem.run_bind,Sem.run_pure,Result.andThen_ok,hsame]
  simpa only [Sem.run_bind,Sem.run_pure] using h1
 unfold Qf at hd
 simp only [Option.bind_eq_bind,Option.bind_eq_some_iff] at hd
 obtain⟨xs,hxs,hd⟩:=hd
 unfold dXs at hxs
 have hall:=Yj (ρ:=ρ) (τ:=τ) (ev:=ev) hxs hx
 split at hd
 ·-- len
  rename_i x t hat
  obtain⟨x0,hx0,hdx⟩:=K6 hxs
  obtain rfl:=yV hx0
  obtain rfl:=yV hat
  have h1:=hx x0 (by simp) x hdx
  refine hrun (Builtin.len_ #[t] ty #[ev x0]) (fun _ w=>by simp [builtin]) ?_
  split at hd
  ·rename_i e ht
   obtain rfl:=Option.some.inj hd
   simp only [aop] at h
   split at h
   ·rename_i hp
    rw [hp] at h1
    simp at h
    obtain⟨rfl,rfl⟩:=h
    exact(z2n ht h1).goodV hs
   ·rename_i r o n cp hp
    rw [hp] at h1
    simp at h
    obtain⟨rfl,rfl⟩:=h
    exact(z3q ht h1).goodV hs
   ·rename_i r o k d hp
    rw [hp] at h1
    simp at h
    obtain⟨rfl,rfl⟩:=h
    exact(z3p ht h1).goodV hs
   ·cases h
  ·rename_i ht
   obtain rfl:=Option.some.inj hd
   simp only [aop] at h
   split at h
   ·rename_i s hp
    rw [hp] at h1
    simp at h
    obtain⟨rfl,rfl⟩:=h
    exact(z2m ht h1).goodV hs
   ·cases h
  ·rename_i k e ht
   obtain rfl:=Option.some.inj hd
   simp only [aop] at h
   obtain⟨u,hu,hv⟩:=Option.map_eq_some_iff.1 h
   simp at hv
   obtain⟨rfl,rfl⟩:=hv
   exact z8g hs ht h1 hu
  ·rename_i n e ht
   obtain rfl:=Option.some.inj hd
   simp [aop] at h
   obtain⟨rfl,rfl⟩:=h
   exact(z6B ht).goodV hs
  ·cases hd
 ·-- cap
  rename_i x t hat
  obtain⟨x0,hx0,hdx⟩:=K6 hxs
  obtain rfl:=yV hx0
  obtain rfl:=yV hat
  have h1:=hx x0 (by simp) x hdx
  refine hrun (Builtin.cap_ #[t] ty #[ev x0]) (fun _ w=>by simp [builtin]) ?_
  split at hd
  ·rename_i e ht
   obtain rfl:=Option.some.inj hd
   simp only [aop] at h
   split at h
   ·rename_i hp
    rw [hp] at h1
    simp at h
    obtain⟨rfl,rfl⟩:=h
    exact(z2o ht h1).goodV hs
   ·rename_i r o n c hp
    rw [hp] at h1
    simp at h
    obtain⟨rfl,rfl⟩:=h
    exact(z3r ht h1).goodV hs
   ·cases h
  ·cases hd
 ·-- max
  obtain rfl:=Option.some.inj hd
  refine hrun (Builtin.max_ argTypes ty (args.map ev)) (fun _ w=>by simp [builtin]) ?_
  simp only [aop] at h
  split at h
  ·rename_i a rest hl
   obtain⟨r,hr,hv⟩:=Option.map_eq_some_iff.1 h
   simp at hv
   obtain⟨rfl,rfl⟩:=hv
   rw [hl] at hall
   have:=z7Y (P:=P) (ts:=argTypes) (ty:=ty) hall hr
   have e1:∀ l:Array Operand,(l.toList.map ev).toArray=l.map ev:=fun l=>by apply Array.ext';simp
   rw [e1] at this
   exact this.goodV hs
  ·cases h
 ·-- min
  obtain rfl:=Option.some.inj hd
  refine hrun (Builtin.min_ argTypes ty (args.map ev)) (fun _ w=>by simp [builtin]) ?_
  simp only [aop] at h
  split at h
  ·rename_i a rest hl
   obtain⟨r,hr,hv⟩:=Option.map_eq_some_iff.1 h
   simp at hv
   obtain⟨rfl,rfl⟩:=hv
   rw [hl] at hall
   have:=z7Z (P:=P) (ts:=argTypes) (ty:=ty) hall hr
   have e1:∀ l:Array Operand,(l.toList.map ev).toArray=l.map ev:=fun l=>by apply Array.ext';simp
   rw [e1] at this
   exact this.goodV hs
  ·cases h
 ·-- append
  rename_i s x t u hat
  obtain⟨a0,b0,hx0,hda,hdb⟩:=z3d hxs
  obtain rfl:=yV hx0
  obtain rfl:=yV hat
  have h1:=hx a0 (by simp) s hda
  have h2:=hx b0 (by simp) x hdb
  refine hrun (Builtin.append_ #[t,u] ty #[ev a0,ev b0]) (fun _ w=>by simp [builtin]) ?_
  split at hd
  ·rename_i e e' ht hu
   split at hd
   ·rename_i i z hi hz
    obtain rfl:=Option.some.inj hd
    simp only [aop] at h
    split at h
    ·rename_i hzl
     exact z84 hs hB ht hu hi hz h1 h2 h hzl
    ·cases h
   ·cases hd
  ·rename_i e kn ht hu
   split at hd
   ·rename_i i z hi hz
    obtain rfl:=Option.some.inj hd
    simp only [aop] at h
    split at h
    ·rename_i r o len c k n hps hpn
     rw [hps] at h1
     rw [hpn] at h2
     split at h
     ·rename_i hcond
      obtain⟨c1,c2,c3,c4,c5,c6,rfl⟩:=hcond
      split at h
      ·rename_i olds hrow
       simp at h
       obtain⟨rfl,rfl⟩:=h
       obtain⟨m,rfl⟩:∃ m:Nat,n=m:=⟨n.toNat,by omega⟩
       have h3:=y5 h2
       rw [h3]
       exact z87 hs hB ht hu hi hz h1 c1 c2 (by omega) c4 c5 c6 hrow
      ·cases h
     ·cases h
    ·cases h
   ·cases hd
  ·cases hd
 ·-- copy
  rename_i d s t u hat
  obtain⟨a0,b0,hx0,hda,hdb⟩:=z3d hxs
  obtain rfl:=yV hx0
  obtain rfl:=yV hat
  have h1:=hx a0 (by simp) d hda
  have h2:=hx b0 (by simp) s hdb
  refine hrun (Builtin.copy_ #[t,u] ty #[ev a0,ev b0]) (fun _ w=>by simp [builtin]) ?_
  split at hd
  ·rename_i e e' ht hu
   obtain⟨z,hz,rfl⟩:=Option.map_eq_some_iff.1 hd
   simp only [aop] at h
   split at h
   ·rename_i m n hm hn
    exact z85 hs ht hz h1 h2 hm hn h
   ·cases h
  ·cases hd
 ·-- clear
  rename_i x t hat
  obtain⟨x0,hx0,hdx⟩:=K6 hxs
  obtain rfl:=yV hx0
  obtain rfl:=yV hat
  have h1:=hx x0 (by simp) x hdx
  refine hrun (Builtin.clear_ #[t] ty #[ev x0]) (fun _ w=>by simp [builtin]) ?_
  split at hd
  ·rename_i e ht
   split at hd
   ·rename_i n z hn hz
    obtain rfl:=Option.some.inj hd
    simp only [aop] at h
    split at h
    ·rename_i hp
     rw [hp] at h1
     simp at h
     obtain⟨rfl,rfl⟩:=h
     exact z2p hs ht h1
    ·rename_i r o n cp hp
     rw [hp] at h1
     split at h
     ·rename_i hcond
      obtain⟨H1,hw,hv⟩:=Option.map_eq_some_iff.1 h
      simp at hv
      obtain⟨rfl,rfl⟩:=hv
      exact z86 hs ht hz hcond.2 h1 hw
     ·cases h
    ·cases h
   ·cases hd
  ·cases hd
 ·cases hd
theorem z1o {o:Op} {o':AOp} {dst:Option Tmp} {ty:TypeId} {pos:String} {after:Array Edge} {gd:Option (Nat × Bool)} (hs:Sim B ρ w H) (hB:B≤w.heap.size)
  (hd:dOp P o=some o') (hx:∀ x ∈ o.operands.toList,∀ x',dX x=some x'→zb ρ (τ.at x')=some (ev x)) (h:aop τ H o'=some (v,H')) :
  z55 P B ρ w H (execOp ev ⟨dst,o,ty,pos,after,gd⟩) v H':=by
 cases o
 case move x =>
  simp only [dOp] at hd
  obtain⟨x',hx',rfl⟩:=Option.map_eq_some_iff.1 hd
  have h1:=hx x (by simp [Op.operands]) x' hx'
  simp [aop] at h
  obtain⟨rfl,rfl⟩:=h
  exact⟨ρ,ev x,w,.inl (by simp [execOp]),h1,ρ.ext_refl _,hs,Below.refl _ _,Nat.le_refl _⟩
 case assign x =>
  simp only [dOp] at hd
  obtain⟨x',hx',rfl⟩:=Option.map_eq_some_iff.1 hd
  have h1:=hx x (by simp [Op.operands]) x' hx'
  simp [aop] at h
  obtain⟨rfl,rfl⟩:=h
  exact⟨ρ,ev x,w,.inl (by simp [execOp]),h1,ρ.ext_refl _,hs,Below.refl _ _,Nat.le_refl _⟩
 case pick c a b =>
  simp only [dOp,Option.bind_eq_bind,Option.bind_eq_some_iff,Option.some.injEq] at hd
  obtain⟨c',hc',a',ha',b',hb',rfl⟩:=hd
  have h1:=hx c (by simp [Op.operands]) c' hc'
  have h2:=hx a (by simp [Op.operands]) a' ha'
  have h3:=hx b (by simp [Op.operands]) b' hb'
  simp only [aop] at h
  split at h
  ·rename_i t ht
   rw [ht] at h1
   have:=vY h1
   simp at h
   obtain⟨rfl,rfl⟩:=h
   refine⟨ρ,if t then ev a else ev b,w,.inl (by simp [execOp,this,asBool]),?_,ρ.ext_refl _,hs,Below.refl _ _,Nat.le_refl _⟩
   cases t
   ·simpa using h3
   ·simpa using h2
  ·cases h
 case alloc e =>
  simp only [dOp] at hd
  obtain⟨cs,hz,rfl⟩:=Option.map_eq_some_iff.1 hd
  simp only [aop] at h
  split at h
  ·simp at h
   obtain⟨rfl,rfl⟩:=h
   exact((z1z hz).goodV hs hB).good
  ·cases h
 case box e x =>
  simp only [dOp] at hd
  obtain⟨x',hx',rfl⟩:=Option.map_eq_some_iff.1 hd
  have h1:=hx x (by simp [Op.operands]) x' hx'
  simp only [aop] at h
  split at h
  ·rename_i hone
   simp at h
   obtain⟨rfl,rfl⟩:=h
   exact((z3k hone h1).goodV hs hB).good
  ·cases h
 case build t ps =>
  have hps:∀ p ∈ ps.toList,∀ x',dX p.2=some x'→zb ρ (τ.at x')=some (ev p.2):=fun p hp x' hx'=>hx p.2 (by simp [Op.operands];exact⟨p.1,by simpa using hp⟩) x' hx'
  simp only [dOp,Option.bind_eq_bind,Option.bind_eq_some_iff] at hd
  obtain⟨z,hz,hd⟩:=hd
  split at hd
  ·rename_i fs ht
   simp only [Option.bind_eq_some_iff,Option.some.injEq] at hd
   obtain⟨places,hpl,qs,hq,rfl⟩:=hd
   simp only [aop] at h
   obtain⟨out,hf,hv⟩:=Option.map_eq_some_iff.1 h
   simp at hv
   obtain⟨rfl,rfl⟩:=hv
   exact(Kg hz ht hpl hq hps hf).good hs
  ·rename_i n e ht
   simp only [Option.bind_eq_some_iff,Option.some.injEq] at hd
   obtain⟨s,he,qs,hq,rfl⟩:=hd
   simp only [aop] at h
   obtain⟨out,hf,hv⟩:=Option.map_eq_some_iff.1 h
   simp at hv
   obtain⟨rfl,rfl⟩:=hv
   exact(Vj hz ht he hq hps hf).good hs
  ·cases hd
 case buildSlice t n ps =>
  have hps:∀ p ∈ ps.toList,∀ x',dX p.2=some x'→zb ρ (τ.at x')=some (ev p.2):=fun p hp x' hx'=>hx p.2 (by simp [Op.operands];exact⟨p.1,by simpa using hp⟩) x' hx'
  simp only [dOp] at hd
  split at hd
  ·rename_i e ht
   simp only [Option.bind_eq_bind,Option.bind_eq_some_iff,Option.some.injEq] at hd
   obtain⟨s,he,z,hz,qs,hq,rfl⟩:=hd
   simp only [aop] at h
   split at h
   ·cases h
   ·rename_i hc
    have hc1:s≠0:=fun e=>hc (.inl e)
    have hc2:z.length=s:=by
     apply Classical.byContradiction;intro e;exact hc (.inr (.inl e))
    have hc3:n * s≤16777216:=by
     apply Classical.byContradiction;intro e;exact hc (.inr (.inr (by omega)))
    split at h
    ·rename_i cs hf
     split at h
     ·simp at h
      obtain⟨rfl,rfl⟩:=h
      exact((z3m ht he hz hq hps hc1 hc2 hc3 hf).goodV hs hB).good
     ·cases h
    ·cases h
  ·cases hd
 case load t x =>
  simp only [dOp,Option.bind_eq_bind,Option.bind_eq_some_iff] at hd
  obtain⟨x',hx',m,hm,hd⟩:=hd
  have h1:=hx x (by simp [Op.operands]) x' hx'
  cases m with
  | none =>
   obtain rfl:=Option.some.inj hd
   simp only [aop] at h
   split at h
   ·rename_i r o hp
    rw [hp] at h1
    obtain⟨a,ha,hv⟩:=Option.map_eq_some_iff.1 h
    simp at hv
    obtain⟨rfl,rfl⟩:=hv
    exact(z9C hs hm h1 ha).good
   ·cases h
  | some n =>
   obtain rfl:=Option.some.inj hd
   simp only [aop] at h
   split at h
   ·rename_i r o hp
    rw [hp] at h1
    obtain⟨a,ha,hv⟩:=Option.map_eq_some_iff.1 h
    simp at hv
    obtain⟨rfl,rfl⟩:=hv
    exact(z7K hs hm h1 ha).good
   ·cases h
 case store t a y =>
  simp only [dOp,Option.bind_eq_bind,Option.bind_eq_some_iff,Option.some.injEq] at hd
  obtain⟨n,hn,a',ha',y',hy',rfl⟩:=hd
  have h1:=hx a (by simp [Op.operands]) a' ha'
  have h2:=hx y (by simp [Op.operands]) y' hy'
  simp only [aop] at h
  split at h
  ·rename_i r o hp
   rw [hp] at h1
   split at h
   ·rename_i hlen
    obtain⟨H1,hw,hv⟩:=Option.map_eq_some_iff.1 h
    simp at hv
    obtain⟨rfl,rfl⟩:=hv
    exact z9D hs hn h1 h2 hlen hw
   ·cases h
  ·cases h
 case nilCheck x =>
  simp only [dOp] at hd
  obtain⟨x',hx',rfl⟩:=Option.map_eq_some_iff.1 hd
  have h1:=hx x (by simp [Op.operands]) x' hx'
  simp only [aop] at h
  split at h
  ·rename_i r o hp
   rw [hp] at h1
   simp at h
   obtain⟨rfl,rfl⟩:=h
   obtain⟨L,hr,hxv⟩:=vq h1
   exact⟨ρ,ev x,w,.inl (by simp [execOp,hxv]),h1,ρ.ext_refl _,hs,Below.refl _ _,Nat.le_refl _⟩
  ·cases h
 case binOp op t x y t' =>
  have hrun:execOp ev ⟨dst,.binOp op t x y t',ty,pos,after,gd⟩=(do pure (.value (← (do eqGuard op t x y (ev x) (ev y);binOp op t (ev x) (ev y))))):=rfl
  rw [hrun]
  refine zI.good ?_
  simp only [dOp,z9u,Option.bind_eq_bind,Option.bind_eq_some_iff] at hd
  obtain⟨a,ha,b,hb,hd⟩:=hd
  have h1:=hx x (by simp [Op.operands]) a ha
  have h2:=hx y (by simp [Op.operands]) b hb
  split at hd
  ·obtain rfl:=Option.some.inj hd
   simp only [aop] at h
   obtain⟨r,hr,hv⟩:=Option.map_eq_some_iff.1 h
   simp at hv
   obtain⟨rfl,rfl⟩:=hv
   exact(z3n h1 h2 hr).goodV hs
  ·obtain rfl:=Option.some.inj hd
   simp only [aop] at h
   obtain⟨r,hr,hv⟩:=Option.map_eq_some_iff.1 h
   simp at hv
   obtain⟨rfl,rfl⟩:=hv
   exact(z3n h1 h2 hr).goodV hs
  ·rename_i ht
   split at hd
   ·obtain rfl:=Option.some.inj hd
    simp only [aop] at h
    obtain⟨r,hr,hv⟩:=Option.map_eq_some_iff.1 h
    simp only [Prod.mk.injEq] at hv
    obtain⟨rfl,rfl⟩:=hv
    exact(Ki h1 h2 hr (by simp [Jt,ht]) (.inl ⟨rfl,ht⟩) _ _ (.inl ⟨rfl,rfl⟩)).goodV hs
   ·obtain rfl:=Option.some.inj hd
    simp only [aop] at h
    obtain⟨r,hr,hv⟩:=Option.map_eq_some_iff.1 h
    simp only [Prod.mk.injEq] at hv
    obtain⟨rfl,rfl⟩:=hv
    exact(Ki h1 h2 hr (by simp [Jt,ht]) (.inl ⟨rfl,ht⟩) _ _ (.inr ⟨rfl,rfl⟩)).goodV hs
   ·cases hd
  ·rename_i fs ht
   split at hd
   ·cases hd
   ·rename_i hg
    have hst:∀ q,Jt P 20 t=some q→∃ fs,q=.st fs:=by
     intro q hq
     rw [show (20:Nat)=19+1 from rfl] at hq
     unfold Jt at hq
     simp only [ht] at hq
     split at hq
     ·cases hq
     ·obtain⟨fs,_,rfl⟩:=Option.map_eq_some_iff.1 hq
      exact⟨fs,rfl⟩
    split at hd
    ·obtain⟨q,hq,rfl⟩:=Option.map_eq_some_iff.1 hd
     simp only [aop] at h
     obtain⟨r,hr,hv⟩:=Option.map_eq_some_iff.1 h
     simp only [Prod.mk.injEq] at hv
     obtain⟨rfl,rfl⟩:=hv
     exact(Ki h1 h2 hr hq (.inr ⟨hst q hq,by simpa using hg⟩) _ _ (.inl ⟨rfl,rfl⟩)).goodV hs
    ·obtain⟨q,hq,rfl⟩:=Option.map_eq_some_iff.1 hd
     simp only [aop] at h
     obtain⟨r,hr,hv⟩:=Option.map_eq_some_iff.1 h
     simp only [Prod.mk.injEq] at hv
     obtain⟨rfl,rfl⟩:=hv
     exact(Ki h1 h2 hr hq (.inr ⟨hst q hq,by simpa using hg⟩) _ _ (.inr ⟨rfl,rfl⟩)).goodV hs
    ·cases hd
  ·rename_i d _ _ _ _ ht
   split at hd
   ·cases hd
   ·rename_i c hc
    split at hd
    ·rename_i hn
     have hyv:ev y=Qe c:=by
      have hyc:=z0a hn
      rw [hyc] at hb
      simp only [dX] at hb
      obtain⟨bv,hbv,rfl⟩:=Option.map_eq_some_iff.1 hb
      have:=Yg (ρ:=ρ) 20 _ _ hbv
      simp only [Tau.at] at h2
      rw [this] at h2
      exact(Option.some.inj h2).symm
     rw [hyv]
     split at hd
     ·obtain rfl:=Option.some.inj hd
      simp only [aop] at h
      obtain⟨r,hr,hv⟩:=Option.map_eq_some_iff.1 h
      simp only [Prod.mk.injEq] at hv
      obtain⟨rfl,rfl⟩:=hv
      exact(z3o ht hc h1 hr hn _ _ (.inl ⟨rfl,rfl⟩)).goodV hs
     ·obtain rfl:=Option.some.inj hd
      simp only [aop] at h
      obtain⟨r,hr,hv⟩:=Option.map_eq_some_iff.1 h
      simp only [Prod.mk.injEq] at hv
      obtain⟨rfl,rfl⟩:=hv
      exact(z3o ht hc h1 hr hn _ _ (.inr ⟨rfl,rfl⟩)).goodV hs
     ·cases hd
    ·cases hd
  ·cases hd
 case unOp op t x =>
  simp only [dOp] at hd
  obtain⟨x',hx',rfl⟩:=Option.map_eq_some_iff.1 hd
  have h1:=hx x (by simp [Op.operands]) x' hx'
  simp only [aop] at h
  obtain⟨r,hr,hv⟩:=Option.map_eq_some_iff.1 h
  simp at hv
  obtain⟨rfl,rfl⟩:=hv
  exact(z9E h1 hr).good hs
 case convert s d x =>
  simp only [dOp,Option.bind_eq_bind,Option.bind_eq_some_iff] at hd
  obtain⟨a,ha,hd⟩:=hd
  have h1:=hx x (by simp [Op.operands]) a ha
  split at hd
  ·rename_i hs1 hd1
   obtain rfl:=Option.some.inj hd
   simp only [aop] at h
   split at h
   ·rename_i hp
    rw [hp] at h1
    simp at h
    obtain⟨rfl,rfl⟩:=h
    exact(z7M hs1 hd1 h1).good hs
   ·cases h
  ·rename_i hs1 hd1
   obtain rfl:=Option.some.inj hd
   simp only [aop] at h
   split at h
   ·rename_i hp
    rw [hp] at h1
    simp at h
    obtain⟨rfl,rfl⟩:=h
    exact(z7N hs1 hd1 h1).good hs
   ·cases h
  ·rename_i hs1 hd1
   split at hd
   ·rename_i he
    obtain rfl:=Option.some.inj hd
    simp only [aop] at h
    split at h
    ·rename_i hp
     rw [hp] at h1
     split at h
     ·simp at h
      obtain⟨rfl,rfl⟩:=h
      exact(z88 hs hB hs1 hd1 he h1).good
     ·cases h
    ·cases h
   ·cases hd
  ·rename_i hs1 hd1
   split at hd
   ·rename_i he
    obtain rfl:=Option.some.inj hd
    simp only [aop] at h
    split at h
    ·rename_i hp
     rw [hp] at h1
     simp at h
     obtain⟨rfl,rfl⟩:=h
     exact(z2q hs hs1 hd1 he h1).good
    ·rename_i hp
     rw [hp] at h1
     simp at h
     obtain⟨rfl,rfl⟩:=h
     exact(z3t hs hs1 hd1 he h1).good
    ·rename_i hp
     rw [hp] at h1
     split at h
     ·rename_i hrow
      split at h
      ·rename_i hbs
       simp at h
       obtain⟨rfl,rfl⟩:=h
       exact(z89 hs hs1 hd1 he h1 hrow hbs).good
      ·cases h
     ·cases h
    ·cases h
   ·cases hd
  ·rename_i hs1 hd1
   split at hd
   ·rename_i he
    split at hd
    ·rename_i hsd
     subst hsd
     obtain rfl:=Option.some.inj hd
     simp only [aop] at h
     split at h
     ·rename_i hp
      rw [hp] at h1
      split at h
      ·rename_i hg
       split at h
       ·cases h
       ·rename_i hk
        simp at h
        obtain⟨rfl,rfl⟩:=h
        exact(z8c hs hd1 he h1 hg hk).good
      ·cases h
     ·cases h
    ·cases hd
   ·cases hd
  ·cases hd
 case makeInterface t x =>
  simp only [dOp] at hd
  split at hd
  ·cases hd
  ·cases hd
  ·rename_i d hni ht
   obtain⟨x',hx',rfl⟩:=Option.map_eq_some_iff.1 hd
   have h1:=hx x (by simp [Op.operands]) x' hx'
   simp [aop] at h
   obtain⟨rfl,rfl⟩:=h
   exact(z7O ht (fun ms e=>hni ms (by rw [e])) h1).good hs
 case makeFunc fn fs cs =>
  cases fn<;>simp only [dOp] at hd<;>first | (cases hd;done) | skip
  rename_i f
  simp only [Option.bind_eq_bind,Option.bind_eq_some_iff,Option.some.injEq] at hd
  obtain⟨fs',hf,cs',hc,rfl⟩:=hd
  simp [aop] at h
  obtain⟨rfl,rfl⟩:=h
  have h1:=Yj (ρ:=ρ) (τ:=τ) (ev:=ev) hf (fun x hm x' hx'=>hx x (by simp [Op.operands];exact .inl (by simpa using hm)) x' hx')
  have h2:=Yj (ρ:=ρ) (τ:=τ) (ev:=ev) hc (fun x hm x' hx'=>hx x (by simp [Op.operands];exact .inr (by simpa using hm)) x' hx')
  have:=z7P (P:=P) (f:=f) h1 h2
  have e1:∀ l:Array Operand,(l.toList.map ev).toArray=l.map ev:=fun l=>by apply Array.ext';simp
  rw [e1,e1] at this
  exact this.good hs
 case makeSlice t l c =>
  simp only [dOp] at hd
  split at hd
  ·rename_i e ht
   split at hd
   ·rename_i i z hi hz
    simp only [Option.bind_eq_bind,Option.bind_eq_some_iff,Option.some.injEq] at hd
    obtain⟨l',hl',c',hc',rfl⟩:=hd
    have h1:=hx l (by simp [Op.operands]) l' hl'
    have h2:=hx c (by simp [Op.operands]) c' hc'
    simp only [aop] at h
    split at h
    ·rename_i kl ln kc cn hlv hcv
     rw [hlv] at h1
     rw [hcv] at h2
     split at h
     ·rename_i hcond
      simp at h
      obtain⟨rfl,rfl⟩:=h
      exact(z83 hs hB ht hi hz h1 h2 hcond).good
     ·cases h
    ·cases h
   ·cases hd
  ·cases hd
 case slice t x lo hi mx =>
  simp only [dOp,Option.bind_eq_bind,Option.bind_eq_some_iff] at hd
  obtain⟨a,ha,l,hl,hh,hhh,m,hm,hd⟩:=hd
  have h1:=hx x (by simp [Op.operands]) a ha
  have o1:=z4Y (ρ:=ρ) (τ:=τ) (ev:=ev) hl (fun y e y' hy'=>hx y (by simp [Op.operands,e]) y' hy')
  have o2:=z4Y (ρ:=ρ) (τ:=τ) (ev:=ev) hhh (fun y e y' hy'=>hx y (by simp [Op.operands,e]) y' hy')
  have o3:=z4Y (ρ:=ρ) (τ:=τ) (ev:=ev) hm (fun y e y' hy'=>hx y (by simp [Op.operands,e]) y' hy')
  split at hd
  ·rename_i ht
   cases mx with
   | some _=>cases hd
   | none =>
    obtain rfl:=Option.some.inj hd
    simp only [aop] at h
    split at h
    ·rename_i s hp
     rw [hp] at h1
     split at h
     ·cases h
     ·rename_i hb hbh
      split at h
      ·cases h
      ·rename_i lb hbl
       simp at h
       obtain⟨rfl,rfl⟩:=h
       exact(z81 ht h1 o1 o2 hbh hbl).good hs
    ·cases h
  ·rename_i e ht
   obtain⟨s,he,rfl⟩:=Option.map_eq_some_iff.1 hd
   simp only [aop] at h
   exact(z80 hs ht he h1 o1 o2 o3 h).good
  ·rename_i n e ht
   cases mx with
   | some _=>cases hd
   | none =>
    obtain⟨s,he,rfl⟩:=Option.map_eq_some_iff.1 hd
    simp only [aop] at h
    split at h
    ·rename_i r o hp
     rw [hp] at h1
     split at h
     ·cases h
     ·rename_i hb hbh
      split at h
      ·cases h
      ·rename_i lb hbl
       simp at h
       obtain⟨rfl,rfl⟩:=h
       exact(z82 ht he h1 o1 o2 hbh hbl).good hs
    ·cases h
  ·cases hd
 case fieldAddr s x f =>
  simp only [dOp] at hd
  split at hd
  ·rename_i fs ht
   split at hd
   ·rename_i fl hf
    split at hd
    ·rename_i n hn
     obtain⟨x',hx',rfl⟩:=Option.map_eq_some_iff.1 hd
     have h1:=hx x (by simp [Op.operands]) x' hx'
     simp only [aop] at h
     split at h
     ·rename_i r o hp
      rw [hp] at h1
      simp at h
      obtain⟨rfl,rfl⟩:=h
      exact(z7Q ht hf hn h1).good hs
     ·cases h
    ·cases hd
   ·cases hd
  ·cases hd
 case field t x f =>
  simp only [dOp] at hd
  split at hd
  ·rename_i fs ht
   split at hd
   ·rename_i fl hf
    simp only [Option.bind_eq_bind,Option.bind_eq_some_iff,Option.some.injEq] at hd
    obtain⟨m,hm,x',hx',rfl⟩:=hd
    have h1:=hx x (by simp [Op.operands]) x' hx'
    simp only [aop] at h
    split at h
    ·rename_i cs hp
     rw [hp] at h1
     obtain⟨r,hr,hv⟩:=Option.map_eq_some_iff.1 h
     simp at hv
     obtain⟨rfl,rfl⟩:=hv
     exact(z7R ht hf hm h1 hr).good hs
    ·cases h
   ·cases hd
  ·cases hd
 case indexAddr t x i =>
  simp only [dOp] at hd
  split at hd
  ·rename_i e ht
   simp only [Option.bind_eq_bind,Option.bind_eq_some_iff,Option.some.injEq] at hd
   obtain⟨s,he,x',hx',i',hi',rfl⟩:=hd
   have h1:=hx x (by simp [Op.operands]) x' hx'
   have h2:=hx i (by simp [Op.operands]) i' hi'
   simp only [aop] at h
   split at h
   ·rename_i r o len cap k n hp hq
    rw [hp] at h1
    rw [hq] at h2
    split at h
    ·rename_i hcond
     simp at h
     obtain⟨rfl,rfl⟩:=h
     exact(z7S ht he h1 h2 hcond).good hs
    ·cases h
   ·cases h
  ·rename_i n e ht
   simp only [Option.bind_eq_bind,Option.bind_eq_some_iff,Option.some.injEq] at hd
   obtain⟨s,he,x',hx',i',hi',rfl⟩:=hd
   have h1:=hx x (by simp [Op.operands]) x' hx'
   have h2:=hx i (by simp [Op.operands]) i' hi'
   simp only [aop] at h
   split at h
   ·rename_i r o k m hp hq
    rw [hp] at h1
    rw [hq] at h2
    split at h
    ·rename_i hcond
     simp at h
     obtain⟨rfl,rfl⟩:=h
     exact(z7T ht he h1 h2 hcond).good hs
    ·cases h
   ·cases h
  ·cases hd
 case index t x i =>
  simp only [dOp] at hd
  split at hd
  ·rename_i ht
   simp only [Option.bind_eq_bind,Option.bind_eq_some_iff,Option.some.injEq] at hd
   obtain⟨x',hx',i',hi',rfl⟩:=hd
   have h1:=hx x (by simp [Op.operands]) x' hx'
   have h2:=hx i (by simp [Op.operands]) i' hi'
   simp only [aop] at h
   split at h
   ·rename_i s k n hp hq
    rw [hp] at h1
    rw [hq] at h2
    split at h
    ·rename_i h0
     split at h
     ·rename_i b hb
      simp at h
      obtain⟨rfl,rfl⟩:=h
      exact(z7U ht h1 h2 h0 hb).good hs
     ·cases h
    ·cases h
   ·cases h
  ·rename_i n e ht
   simp only [Option.bind_eq_bind,Option.bind_eq_some_iff,Option.some.injEq] at hd
   obtain⟨s,he,m,hm,x',hx',i',hi',rfl⟩:=hd
   have h1:=hx x (by simp [Op.operands]) x' hx'
   have h2:=hx i (by simp [Op.operands]) i' hi'
   simp only [aop] at h
   split at h
   ·rename_i cs k j hp hq
    rw [hp] at h1
    rw [hq] at h2
    split at h
    ·rename_i hcond
     obtain⟨r,hr,hv⟩:=Option.map_eq_some_iff.1 h
     simp at hv
     obtain⟨rfl,rfl⟩:=hv
     exact(z7V ht he hm h1 h2 hcond hr).good hs
    ·cases h
   ·cases h
  ·cases hd
 case typeAssert x s t ok =>
  simp only [dOp] at hd
  split at hd
  ·cases hd
  ·cases hd
  ·rename_i d hni ht
   simp only [Option.bind_eq_bind,Option.bind_eq_some_iff,Option.some.injEq] at hd
   obtain⟨z,hz,x',hx',rfl⟩:=hd
   have h1:=hx x (by simp [Op.operands]) x' hx'
   simp only [aop] at h
   exact(z7W (s:=s) hs ht (fun ms e=>hni ms (by rw [e])) hz h1 h).good
 case extract x i =>
  simp only [dOp] at hd
  obtain⟨x',hx',rfl⟩:=Option.map_eq_some_iff.1 hd
  have h1:=hx x (by simp [Op.operands]) x' hx'
  simp only [aop] at h
  split at h
  ·rename_i vs hp
   rw [hp] at h1
   obtain⟨r,hr,hv⟩:=Option.map_eq_some_iff.1 h
   simp at hv
   obtain⟨rfl,rfl⟩:=hv
   exact(z7X h1 hr).good hs
  ·cases h
 case range t x =>
  simp only [dOp] at hd
  split at hd
  ·rename_i ht
   obtain⟨x',hx',rfl⟩:=Option.map_eq_some_iff.1 hd
   have h1:=hx x (by simp [Op.operands]) x' hx'
   simp only [aop] at h
   split at h
   ·rename_i s hp
    rw [hp] at h1
    simp at h
    obtain⟨rfl,rfl⟩:=h
    exact(z8a hs hB ht h1).good
   ·cases h
  ·cases hd
 case next x b =>
  cases b<;>simp only [dOp] at hd<;>first | (cases hd;done) | skip
  obtain⟨x',hx',rfl⟩:=Option.map_eq_some_iff.1 hd
  have h1:=hx x (by simp [Op.operands]) x' hx'
  simp only [aop] at h
  split at h
  ·rename_i r hp
   rw [hp] at h1
   split at h
   ·rename_i s pos hg
    exact(z8b hs h1 hg h).good
   ·cases h
  ·cases h
 case makeMap t r =>
  cases r with
  | some _=>simp [dOp] at hd
  | none =>
   simp only [dOp] at hd
   obtain rfl:=Option.some.inj hd
   simp [aop] at h
   obtain⟨rfl,rfl⟩:=h
   exact(z8d (t:=t) hs hB).good
 case lookup t x i ok =>
  simp only [dOp] at hd
  split at hd
  ·rename_i k e ht
   split at hd
   ·rename_i q z hq hz
    simp only [Option.bind_eq_bind,Option.bind_eq_some_iff,Option.some.injEq] at hd
    obtain⟨x',hx',i',hi',rfl⟩:=hd
    have h1:=hx x (by simp [Op.operands]) x' hx'
    have h2:=hx i (by simp [Op.operands]) i' hi'
    simp only [aop] at h
    obtain⟨u,hu,hv⟩:=Option.map_eq_some_iff.1 h
    simp at hv
    obtain⟨rfl,rfl⟩:=hv
    exact(z8e hs ht hq hz h1 h2 hu).good
   ·cases hd
  ·cases hd
 case mapUpdate t m i y =>
  simp only [dOp] at hd
  split at hd
  ·rename_i k e ht
   split at hd
   ·rename_i q hq
    simp only [Option.bind_eq_bind,Option.bind_eq_some_iff,Option.some.injEq] at hd
    obtain⟨m',hm',i',hi',y',hy',rfl⟩:=hd
    have h1:=hx m (by simp [Op.operands]) m' hm'
    have h2:=hx i (by simp [Op.operands]) i' hi'
    have h3:=hx y (by simp [Op.operands]) y' hy'
    simp only [aop] at h
    obtain⟨w',hr,rfl,hs',hB',hz⟩:=z8f hs ht hq h1 h2 h3 h
    exact⟨ρ,undef,w',.inr ⟨by simp [execOp,hr],rfl⟩,qW ρ,ρ.ext_refl _,hs',hB',hz⟩
   ·cases hd
  ·cases hd
 case call c =>
  obtain⟨callee,args,argTypes⟩:=c
  cases callee with
  | value f =>
   simp only [dOp,Option.bind_eq_bind,Option.bind_eq_some_iff,Option.some.injEq] at hd
   obtain⟨_,_,_,_,rfl⟩:=hd
   simp [aop] at h
  | invoke r m =>
   simp only [dOp,Option.bind_eq_bind,Option.bind_eq_some_iff,Option.some.injEq] at hd
   obtain⟨_,_,_,_,rfl⟩:=hd
   simp [aop] at h
  | builtin b =>
   simp only [dOp] at hd
   exact z11 hs hB hd (fun x hm x' hx'=>hx x (by simp [Op.operands,Call.operands];simpa using hm) x' hx') h
 all_goals (simp [dOp] at hd)
end
end Go.Ab
