/- A region that draws its order: in whatever order its operations come up, they come to what the evaluator tells. -/
import Derived.Test.YtdbbdfmkglgjdaaAb12
set_option linter.unusedVariables false
set_option linter.unusedSimpArgs false
set_option linter.unusedSectionVars false
namespace Go.Ab
open Go.RowKit
mutual
theorem z2f:∀ (a b:AV),qA a b=true→a=b
 | .bool a,b,h=>by cases b<;>simp [qA] at h;subst h;rfl
 | .int k a,b,h=>by cases b<;>simp [qA] at h;obtain⟨rfl,rfl⟩:=h;rfl
 | .str a,b,h=>by cases b<;>simp [qA] at h;subst h;rfl
 | .nilp,b,h=>by cases b<;>simp [qA] at h;rfl
 | .nils,b,h=>by cases b<;>simp [qA] at h;rfl
 | .nilfn,b,h=>by cases b<;>simp [qA] at h;rfl
 | .nilifc,b,h=>by cases b<;>simp [qA] at h;rfl
 | .nilm,b,h=>by cases b<;>simp [qA] at h;rfl
 | .mp r,b,h=>by cases b<;>simp [qA] at h;subst h;rfl
 | .ptr r o,b,h=>by cases b<;>simp [qA] at h;obtain⟨rfl,rfl⟩:=h;rfl
 | .sl r o n c,b,h=>by cases b<;>simp [qA] at h;obtain⟨⟨⟨rfl,rfl⟩,rfl⟩,rfl⟩:=h;rfl
 | .raw r,b,h=>by cases b<;>simp [qA] at h;subst h;rfl
 | .zs r o n c,b,h=>by cases b<;>simp [qA] at h;obtain⟨⟨⟨rfl,rfl⟩,rfl⟩,rfl⟩:=h;rfl
 | .fn f x y,b,h=>by
  cases b<;>simp [qA] at h
  obtain⟨⟨rfl,h1⟩,h2⟩:=h
  rw [vp _ _ h1,vp _ _ h2]
 | .ifc t x,b,h=>by
  cases b<;>simp [qA] at h
  obtain⟨rfl,h1⟩:=h
  rw [z2f _ _ h1]
 | .agg x,b,h=>by
  cases b<;>simp [qA] at h
  rw [vp _ _ h]
 | .tup x,b,h=>by
  cases b<;>simp [qA] at h
  rw [vp _ _ h]
 | .fz z x,b,h=>by
  cases b<;>simp [qA] at h
  obtain⟨rfl,h1⟩:=h
  rw [vp _ _ h1]
 | .ow z x,b,h=>by
  cases b<;>simp [qA] at h
  obtain⟨rfl,h1⟩:=h
  rw [vp _ _ h1]
 | .lt z x,b,h=>by
  cases b<;>simp [qA] at h
  obtain⟨rfl,h1⟩:=h
  rw [vp _ _ h1]
 | .cp x o,b,h=>by
  cases b<;>simp [qA] at h
  obtain⟨rfl,h1⟩:=h
  rw [vp _ _ h1]
 | .sk,b,h=>by
  cases b<;>simp [qA] at h
  rfl
theorem vp:∀ (a b:List AV),Zd a b=true→a=b
 | [],b,h=>by cases b<;>simp [Zd] at h;rfl
 | x::l,b,h=>by
  cases b with
  | nil=>simp [Zd] at h
  | cons y m =>
   simp [Zd] at h
   rw [z2f _ _ h.1,vp _ _ h.2]
end

section
variable {P:Program} {B:Nat} {ρ:Rho} {w:World} {H H':z3} {v:AV} {τ τ':Tau} {call:z7} {ops:Array Oper}

theorem Sim.pushDead (h:Sim B ρ w H):Sim B ρ w (H.push none):=by
 refine⟨fun r L hr=>⟨by have:=(h.dom r L hr).1;simp;omega,(h.dom r L hr).2⟩,fun r L o hr hg=>?_,fun r r' L L' o o' hne hr hr' hg hg' ho ho'=>?_⟩
 ·rw [z3.get_push] at hg
  split at hg
  ·cases hg
  ·exact h.obj r L o hr hg
 ·rw [z3.get_push] at hg hg'
  split at hg
  ·cases hg
  ·split at hg'
   ·cases hg'
   ·exact h.inj r r' L L' o o' hne hr hr' hg hg' ho ho'
theorem Sim.pushN:∀ (n:Nat) {H:z3},Sim B ρ w H→Sim B ρ w (pushN n H)
 | 0,_,h=>h
 | n+1,_,h=>Sim.pushN n h.pushDead
theorem vW:∀ (n:Nat) (H:z3),(pushN n H).size=H.size+n
 | 0,_=>rfl
 | n+1,H=>by simp only [Go.Ab.pushN];rw [vW n];simp;omega
theorem Sim.putUnmapped (h:Sim B ρ w H) {q:Nat} (hq:ρ q=none) (ob:Option zF):Sim B ρ w (H.put q ob):=by
 refine⟨fun r L hr=>by simpa using h.dom r L hr,fun r L o hr hg=>?_,fun r r' L L' o o' hne hr hr' hg hg' ho ho'=>?_⟩
 ·rw [z3.get_put,if_neg (by intro e;rw [e,hq] at hr;cases hr)] at hg
  exact h.obj r L o hr hg
 ·rw [z3.get_put,if_neg (by intro e;rw [e,hq] at hr;cases hr)] at hg
  rw [z3.get_put,if_neg (by intro e;rw [e,hq] at hr';cases hr')] at hg'
  exact h.inj r r' L L' o o' hne hr hr' hg hg' ho ho'
theorem Rho.le_add' {q:Nat} {L:Loc} (hq:ρ q=none):ρ.le (ρ.add q L):=by
 intro r M hr
 unfold Rho.add
 by_cases e:r=q
 ·rw [e,hq] at hr;cases hr
 ·rw [if_neg e];exact hr
theorem Sim.named (h:Sim B ρ w H) (hB:B≤w.heap.size) {q:Nat} {k:Kd} {z cap:Nat} {cs:List AV} {cur:Array Value} {e:TypeId} (hq:ρ q=none) (hlt:q < H.size) (hg:H.get q=some (.cells k z cs))
  (hk:k≠.ro) (hle:cs.length≤cur.size) (hc:zg ρ cs=some (cur.toList.take cs.length)) (hkd:Y1 k z (Loc.at w.heap.size 0 cap) cur.size (0,0) cs.length) :
  Sim B (ρ.add q (Loc.at w.heap.size 0 cap)) (w.alloc (.cells cur e)) H:=by
 have hmono:=Rho.le_add' (L:=(Loc.at w.heap.size 0 cap)) hq
 have hold:∀ i,i < w.heap.size→(w.alloc (.cells cur e)).heap[i]? = w.heap[i]? := fun i hi=>Below.heap_alloc w _ i hi
 have hsz:(w.alloc (.cells cur e)).heap.size=w.heap.size+1:=by simp
 refine⟨fun r M hr=>?_,fun r M o hr hgr=>?_,fun r r' M M' o o' hne hr hr' hgr hgr' ho ho'=>?_⟩
 ·unfold Rho.add at hr
  split at hr
  ·rename_i e1;subst e1;obtain rfl:=Option.some.inj hr;rw [hsz];simp;omega
  ·have:=h.dom r M hr;rw [hsz];omega
 ·unfold Rho.add at hr
  split at hr
  ·rename_i e1
   subst e1
   rw [hg] at hgr
   obtain rfl:=Option.some.inj hr
   obtain rfl:=Option.some.inj hgr
   exact(zH hk).2 ⟨hB,rfl,cur,e,(0,0),Go.heap_alloc_new w _,hle,y6 hmono _ _ hc,hkd⟩
  ·exact((h.obj r M o hr hgr).same (hold _ (h.dom r M hr).2)).mono hmono
 ·unfold Rho.add at hr hr'
  split at hr
  ·rename_i e1
   obtain rfl:=Option.some.inj hr
   split at hr'
   ·rename_i e2;exact absurd (e1.trans e2.symm) hne
   ·have:=(h.dom r' M' hr').2;simp;omega
  ·split at hr'
   ·obtain rfl:=Option.some.inj hr'
    have:=(h.dom r M hr).2;simp;omega
   ·exact h.inj r r' M M' o o' hne hr hr' hgr hgr' ho ho'

def z2g (H H2:z3):Prop:=∀ r,H.get r=none∨H2.get r=H.get r
theorem z2g.cell {H2:z3} (h:z2g H H2) {r o:Nat} {a:AV} (hc:H.cell r o=some a):H2.cell r o=some a:=by
 unfold z3.cell at hc ⊢
 rcases h r with h | h
 ·rw [h] at hc;cases hc
 ·rw [h];exact hc
theorem z2g.row {H2:z3} (h:z2g H H2) {r o n:Nat} {a:List AV} (hc:H.row r o n=some a):H2.row r o n=some a:=by
 unfold z3.row at hc ⊢
 rcases h r with h | h
 ·rw [h] at hc;cases hc
 ·rw [h];exact hc
theorem z05 {H2:z3} (h:z2g H H2) (z r len:Nat) (cap:kb):yT H z r len cap≤yT H2 z r len cap:=by
 cases cap with
 | ex c=>exact Nat.le_refl _
 | mi k =>
  rcases h r with h | h
  ·have:yT H z r len (.mi k)=len:=by simp [yT,h]
   rw [this]
   unfold yT
   simp only
   split
   ·split<;>omega
   ·omega
  ·simp [yT,h]
theorem z3f {x:AV} {t t' n:Nat} (h:bnd x t=some n) (ht:t≤t'):bnd x t'=some n:=by
 unfold bnd at h ⊢
 split at h
 ·split at h
  ·rw [if_pos (by omega)];exact h
  ·cases h
 ·cases h
theorem z6u {x:Option AV} {d t t' n:Nat} (h:yh x d t=some n) (ht:t≤t'):yh x d t'=some n:=by
 cases x with
 | none=>exact h
 | some a=>exact z3f h ht
theorem z1q {H2:z3} (hst:z2g H H2) {z:Nat} {x:AV} {lo hi mx:Option AV} (h:ke H z x lo hi mx=some (v,H')) (hsz:H'.size=H.size):H'=H∧ke H2 z x lo hi mx=some (v,H2):=by
 unfold ke at h ⊢
 split at h
 ·split at h
  ·cases h
  ·rename_i hh
   split at h
   ·cases h
   ·rename_i hl
    simp only [Option.some.injEq,Prod.mk.injEq] at h
    obtain⟨rfl,rfl⟩:=h
    simp [hh,hl]
 ·split at h
  ·cases h
  ·rename_i hh
   split at h
   ·cases h
   ·rename_i hl
    simp only [Option.some.injEq,Prod.mk.injEq] at h
    obtain⟨rfl,rfl⟩:=h
    simp [hh,hl]
 ·rename_i r o len cap
  have hm:=z05 hst z r len cap
  split at h
  ·cases h
  ·rename_i hb hh
   split at h
   ·cases h
   ·rename_i lb hl
    simp only [z6u hh hm,hl]
    cases cap with
    | ex c =>
     simp only [Option.some.injEq,Prod.mk.injEq] at h
     obtain⟨rfl,rfl⟩:=h
     simp
    | mi k =>
     simp only at h ⊢
     split at h
     ·rename_i h0
      simp only [Option.some.injEq,Prod.mk.injEq] at h
      obtain⟨rfl,rfl⟩:=h
      rw [if_pos h0]
      simp
     ·rename_i h0
      rw [if_neg h0]
      split at h
      ·rename_i hlt
       simp only [Option.some.injEq,Prod.mk.injEq] at h
       obtain⟨rfl,rfl⟩:=h
       rw [if_pos (by omega)]
       simp
      ·rename_i hlt
       split at h
       case isFalse=>cases h
       rename_i hsome
       simp only [Option.some.injEq,Prod.mk.injEq] at h
       obtain⟨rfl,rfl⟩:=h
       have hg:H2.get r=H.get r:=by
        rcases hst r with h | h
        ·rw [h] at hsome;cases hsome
        ·exact h
       have hc:yT H2 z r len (.mi k)=yT H z r len (.mi k):=by simp only [yT,hg]
       rw [if_neg (by omega),if_pos (by rw [hg];exact hsome)]
       simp
 ·rename_i r o len cap m
  have hm:=z05 hst z r len cap
  split at h
  ·cases h
  ·rename_i mb hmb
   split at h
   ·cases h
   ·rename_i hv
    split at h
    ·cases h
    ·rename_i hb hh
     split at h
     ·cases h
     ·rename_i lb hl
      simp only [Option.some.injEq,Prod.mk.injEq] at h
      obtain⟨rfl,rfl⟩:=h
      simp [z3f hmb hm,hh,hl]
 ·cases h
theorem z6v {H2:z3} (h:z2g H H2) {q:EqT} {z x k:AV} {ok:Bool} (hv:Vd H q z ok x k=some v):Vd H2 q z ok x k=some v:=by
 unfold Vd at hv ⊢
 cases x<;>try exact hv
 rename_i r
 rcases h r with h | h
 ·simp only [h] at hv;cases hv
 ·simp only [h];exact hv
theorem X7 {o:Op} {o':AOp} (hq:kF P o=true) (hd:dOp P o=some o') (h:aop τ H o'=some (v,H')) (hsz:H'.size=H.size) :
  H'=H∧∀ H2,z2g H H2∨pinned o=false→aop τ H2 o'=some (v,H2):=by
 cases o<;>simp only [kF,Bool.false_eq_true] at hq<;>simp only [dOp] at hd
 case slice t x lo hi mx =>
  simp only [Option.bind_eq_bind,Option.bind_eq_some_iff] at hd
  obtain⟨a,ha,l,hl,hh,hhh,m,hm,hd⟩:=hd
  split at hd
  ·cases mx with
   | some _=>cases hd
   | none =>
    obtain rfl:=Option.some.inj hd
    simp only [aop] at h ⊢
    split at h
    ·split at h
     ·cases h
     ·split at h
      ·cases h
      ·simp only [Option.some.injEq,Prod.mk.injEq] at h
       obtain⟨rfl,rfl⟩:=h
       simp_all
    ·cases h
  ·obtain⟨s,he,rfl⟩:=Option.map_eq_some_iff.1 hd
   simp only [aop] at h ⊢
   refine⟨(z1q (H2:=H) (fun r=>.inr rfl) h hsz).1,fun H2 hst=>?_⟩
   rcases hst with hst | hst
   ·exact(z1q hst h hsz).2
   ·simp [pinned] at hst
  ·cases mx with
   | some _=>cases hd
   | none =>
    obtain⟨s,he,rfl⟩:=Option.map_eq_some_iff.1 hd
    simp only [aop] at h ⊢
    split at h
    ·split at h
     ·cases h
     ·split at h
      ·cases h
      ·simp only [Option.some.injEq,Prod.mk.injEq] at h
       obtain⟨rfl,rfl⟩:=h
       simp_all
    ·cases h
  ·cases hd
 case lookup t x i ok =>
  split at hd
  ·split at hd
   ·simp only [Option.bind_eq_bind,Option.bind_eq_some_iff,Option.some.injEq] at hd
    obtain⟨x',hx',i',hi',rfl⟩:=hd
    simp only [aop] at h ⊢
    obtain⟨a,ha,hv⟩:=Option.map_eq_some_iff.1 h
    simp only [Prod.mk.injEq] at hv
    obtain⟨rfl,rfl⟩:=hv
    refine⟨rfl,fun H2 hst=>?_⟩
    rcases hst with hst | hst
    ·simp [z6v hst ha]
    ·simp [pinned] at hst
   ·cases hd
  ·cases hd
 case load t x =>
  simp only [Option.bind_eq_bind,Option.bind_eq_some_iff] at hd
  obtain⟨x',hx',m,hm,hd⟩:=hd
  cases m with
  | none =>
   obtain rfl:=Option.some.inj hd
   simp only [aop] at h ⊢
   split at h
   ·rename_i r o hp
    obtain⟨a,ha,hv⟩:=Option.map_eq_some_iff.1 h
    simp only [Prod.mk.injEq] at hv
    obtain⟨rfl,rfl⟩:=hv
    refine⟨rfl,fun H2 hst=>?_⟩
    rcases hst with hst | hst
    ·simp [hp,hst.cell ha]
    ·simp [pinned] at hst
   ·cases h
  | some n =>
   obtain rfl:=Option.some.inj hd
   simp only [aop] at h ⊢
   split at h
   ·rename_i r o hp
    obtain⟨a,ha,hv⟩:=Option.map_eq_some_iff.1 h
    simp only [Prod.mk.injEq] at hv
    obtain⟨rfl,rfl⟩:=hv
    refine⟨rfl,fun H2 hst=>?_⟩
    rcases hst with hst | hst
    ·simp [hp,hst.row ha]
    ·simp [pinned] at hst
   ·cases h
 case convert s d x =>
  simp only [Option.bind_eq_bind,Option.bind_eq_some_iff] at hd
  obtain⟨a,ha,hd⟩:=hd
  split at hd
  ·obtain rfl:=Option.some.inj hd
   simp only [aop] at h ⊢
   split at h
   ·simp only [Option.some.injEq,Prod.mk.injEq] at h
    obtain⟨rfl,rfl⟩:=h
    simp_all
   ·cases h
  ·obtain rfl:=Option.some.inj hd
   simp only [aop] at h ⊢
   split at h
   ·simp only [Option.some.injEq,Prod.mk.injEq] at h
    obtain⟨rfl,rfl⟩:=h
    simp_all
   ·cases h
  ·rename_i h1 h2;simp [h1,h2] at hq
  ·rename_i h1 h2;simp [h1,h2] at hq
  ·rename_i h1 h2;simp [h1,h2] at hq
  ·cases hd
 case call c =>
  obtain⟨callee,as,argTypes⟩:=c
  cases callee with
  | value f=>simp at hq
  | invoke r m=>simp at hq
  | builtin b =>
   unfold Qf at hd
   simp only [Option.bind_eq_bind,Option.bind_eq_some_iff] at hd
   obtain⟨xs,_,hd⟩:=hd
   split at hd<;>first | (simp at hq;done) | (cases hd;done) | skip
   ·split at hd
    ·obtain rfl:=Option.some.inj hd
     simp only [aop] at h ⊢
     split at h
     ·simp only [Option.some.injEq,Prod.mk.injEq] at h
      obtain⟨rfl,rfl⟩:=h
      simp_all
     ·simp only [Option.some.injEq,Prod.mk.injEq] at h
      obtain⟨rfl,rfl⟩:=h
      simp_all
     ·simp only [Option.some.injEq,Prod.mk.injEq] at h
      obtain⟨rfl,rfl⟩:=h
      simp_all
     ·cases h
    ·obtain rfl:=Option.some.inj hd
     simp only [aop] at h ⊢
     split at h
     ·simp only [Option.some.injEq,Prod.mk.injEq] at h
      obtain⟨rfl,rfl⟩:=h
      simp_all
     ·cases h
    ·simp_all
    ·obtain rfl:=Option.some.inj hd
     simp only [aop,Option.some.injEq,Prod.mk.injEq] at h ⊢
     obtain⟨rfl,rfl⟩:=h
     exact⟨rfl,fun _ _=>by simp⟩
    ·cases hd
   ·obtain rfl:=Option.some.inj hd
    simp only [aop] at h ⊢
    split at h
    ·rename_i hl
     obtain⟨a,ha,hv⟩:=Option.map_eq_some_iff.1 h
     simp only [Prod.mk.injEq] at hv
     obtain⟨rfl,rfl⟩:=hv
     exact⟨rfl,fun H2 _=>by simp only [hl,ha,Option.map_some]⟩
    ·cases h
   ·obtain rfl:=Option.some.inj hd
    simp only [aop] at h ⊢
    split at h
    ·rename_i hl
     obtain⟨a,ha,hv⟩:=Option.map_eq_some_iff.1 h
     simp only [Prod.mk.injEq] at hv
     obtain⟨rfl,rfl⟩:=hv
     exact⟨rfl,fun H2 _=>by simp only [hl,ha,Option.map_some]⟩
    ·cases h
 case binOp op t x y t' =>
  unfold z9u at hd
  (repeat' first
   | (obtain⟨_,_,rfl⟩:=Option.map_eq_some_iff.1 hd)
   | (cases hd;done)
   | (obtain rfl:=Option.some.inj hd)
   | (simp only [Option.bind_eq_bind,Option.bind_eq_some_iff] at hd;obtain⟨_,_,_,_,hd⟩:=hd)
   | split at hd)
  all_goals
   simp only [aop] at h ⊢
   obtain⟨a,ha,hv⟩:=Option.map_eq_some_iff.1 h
   simp only [Prod.mk.injEq] at hv
   obtain⟨rfl,rfl⟩:=hv
   exact⟨rfl,fun H2 _=>by simp only [ha,Option.map_some]⟩
 case makeFunc fn fs cs =>
  cases fn<;>simp only at hd<;>first | (cases hd;done) | skip
  simp only [Option.bind_eq_bind,Option.bind_eq_some_iff,Option.some.injEq] at hd
  obtain⟨_,_,_,_,rfl⟩:=hd
  simp only [aop,Option.some.injEq,Prod.mk.injEq] at h ⊢
  obtain⟨rfl,rfl⟩:=h
  exact⟨rfl,fun _ _=>by simp⟩
 case typeAssert x s t ok =>
  split at hd
  ·cases hd
  ·cases hd
  ·simp only [Option.bind_eq_bind,Option.bind_eq_some_iff,Option.some.injEq] at hd
   obtain⟨_,_,_,_,rfl⟩:=hd
   simp only [aop,z6t] at h ⊢
   split at h
   ·split at h
    ·simp only [Option.some.injEq,Prod.mk.injEq] at h
     obtain⟨rfl,rfl⟩:=h
     simp_all
    ·split at h
     ·simp only [Option.some.injEq,Prod.mk.injEq] at h
      obtain⟨rfl,rfl⟩:=h
      simp_all
     ·cases h
   ·split at h
    ·simp only [Option.some.injEq,Prod.mk.injEq] at h
     obtain⟨rfl,rfl⟩:=h
     simp_all
    ·cases h
   ·cases h
 all_goals
  (repeat' first
   | (cases hd;done)
   | (obtain⟨_,_,rfl⟩:=Option.map_eq_some_iff.1 hd)
   | (obtain rfl:=Option.some.inj hd)
   | (simp only [Option.bind_eq_bind,Option.bind_eq_some_iff] at hd;obtain⟨_,_,hd⟩:=hd)
   | (obtain⟨_,_,hd⟩:=hd)
   | split at hd)
 all_goals
  simp only [aop] at h ⊢
  (repeat' split at h)<;>first
   | (cases h;done)
   | (obtain⟨a,ha,hv⟩:=Option.map_eq_some_iff.1 h;simp only [Prod.mk.injEq] at hv;obtain⟨rfl,rfl⟩:=hv;exact⟨rfl,fun H2 _=>by simp_all⟩)
   | (simp only [Option.some.injEq,Prod.mk.injEq] at h;obtain⟨rfl,rfl⟩:=h;exact⟨rfl,fun H2 _=>by simp_all⟩)
end
end Go.Ab
