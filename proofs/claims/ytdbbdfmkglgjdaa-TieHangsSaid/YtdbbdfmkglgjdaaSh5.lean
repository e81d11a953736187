/- The evaluator without fuel, and with what follows handed on. -/
import Derived.Test.YtdbbdfmkglgjdaaSh4
set_option linter.unusedVariables false
set_option linter.unusedSimpArgs false
set_option linter.unusedSectionVars false
namespace Go.Ab

open Classical in
noncomputable def zM (E:Env) (f:Nat) (args:List AV) (H:z3):Option (AV × z3) :=
 if h:∃ r n,xt E n f args H=some r then some (Classical.choose h) else none
open Classical in
noncomputable def yK (E:Env) (c:x7) (τ:Tau) (H:z3):Option (zE × Tau × z3) :=
 if h:∃ r n,zu E n c τ H=some r then some (Classical.choose h) else none
theorem xT {E:Env} {f:Nat} {args:List AV} {H:z3} {r:AV × z3}:zM E f args H=some r↔∃ n,xt E n f args H=some r:=by
 unfold zM
 split
 ·rename_i h
  constructor
  ·intro e
   obtain rfl:=Option.some.inj e
   exact Classical.choose_spec h
  ·rintro ⟨n,hn⟩
   obtain⟨m,hm⟩:=Classical.choose_spec h
   have h1:=XL (Nat.le_max_left n m) _ _ _ _ hn
   have h2:=XL (Nat.le_max_right n m) _ _ _ _ hm
   rw [h1] at h2
   exact h2.symm
 ·rename_i h
  exact⟨fun e=>(by cases e),fun⟨n,hn⟩=>absurd ⟨r,n,hn⟩ h⟩
theorem zQ {E:Env} {c:x7} {τ:Tau} {H:z3} {r:zE × Tau × z3}:yK E c τ H=some r↔∃ n,zu E n c τ H=some r:=by
 unfold yK
 split
 ·rename_i h
  constructor
  ·intro e
   obtain rfl:=Option.some.inj e
   exact Classical.choose_spec h
  ·rintro ⟨n,hn⟩
   obtain⟨m,hm⟩:=Classical.choose_spec h
   have h1:=Zq (Nat.le_max_left n m) hn
   have h2:=Zq (Nat.le_max_right n m) hm
   rw [h1] at h2
   exact h2.symm
 ·rename_i h
  exact⟨fun e=>(by cases e),fun⟨n,hn⟩=>absurd ⟨r,n,hn⟩ h⟩
theorem z6j {E:Env} (n:Nat):JI (xt E n) (zM E):=fun _ _ _ _ h=>xT.2 ⟨n,h⟩
theorem z3C {E:Env} {τ:Tau} {H:z3} {op:AOp} {r:AV × z3} (h:xU (zM E) τ H op=some r):∃ n,xU (xt E n) τ H op=some r:=by
 unfold xU at h
 cases ht:yW τ op with
 | none=>rw [ht] at h;exact⟨0,by unfold xU;rw [ht];exact h⟩
 | some x =>
  obtain⟨g,vs⟩:=x
  rw [ht] at h
  obtain⟨n,hn⟩:=xT.1 h
  exact⟨n,by unfold xU;rw [ht];exact hn⟩
theorem z2w {E:Env}:∀ (l:List zj) (τ:Tau) (H:z3) (r:Tau × z3),vr (zM E) l τ H=some r→∃ n,vr (xt E n) l τ H=some r
 | [],_,_,_,e=>⟨0,e⟩
 | o::l,τ,H,r,e=>by
  unfold vr at e
  split at e
  ·rename_i hw
   split at e
   ·rename_i v H' hs
    obtain⟨n,hn⟩:=z3C hs
    obtain⟨m,hm⟩:=z2w l _ _ _ e
    refine⟨max n m,?_⟩
    unfold vr
    rw [if_pos hw,WO (XL (Nat.le_max_left n m)) hn]
    exact WP (XL (Nat.le_max_right n m)) l _ _ _ hm
   ·cases e
  ·rename_i hw
   obtain⟨m,hm⟩:=z2w l _ _ _ e
   refine⟨m,?_⟩
   unfold vr
   rw [if_neg hw]
   exact hm
theorem XM {E:Env} (base:Nat):∀ (l:List (zj × DK)) (recs:List Rec) (τ:Tau) (H:z3) (r:Tau × z3),xg (zM E) base l recs τ H=some r→∃ n,xg (xt E n) base l recs τ H=some r
 | [],_,_,_,_,e=>⟨0,e⟩
 | (o,dk)::l,recs,τ,H,r,e=>by
  unfold xg at e
  split at e
  ·rename_i hw
   cases dk with
   | q =>
    simp only at e
    split at e
    ·rename_i v H' hs
     split at e
     ·rename_i hz
      obtain⟨m,hm⟩:=XM base l _ _ _ _ e
      refine⟨m,?_⟩
      unfold xg
      rw [if_pos hw]
      simp only [hs]
      rw [if_pos hz]
      exact hm
     ·cases e
    ·cases e
   | al k =>
    simp only at e
    split at e
    ·rename_i v ob hs
     split at e
     ·rename_i hz
      obtain⟨m,hm⟩:=XM base l _ _ _ _ e
      refine⟨m,?_⟩
      unfold xg
      rw [if_pos hw]
      simp only [hs]
      rw [if_pos hz]
      exact hm
     ·cases e
    ·cases e
   | ef pins =>
    simp only at e
    split at e
    ·rename_i v H' hs
     split at e
     ·rename_i hz
      obtain⟨n,hn⟩:=z3C hs
      obtain⟨m,hm⟩:=XM base l _ _ _ _ e
      refine⟨max n m,?_⟩
      unfold xg
      rw [if_pos hw]
      simp only [WO (XL (Nat.le_max_left n m)) hn]
      rw [if_pos hz]
      exact Yf (XL (Nat.le_max_right n m)) base l _ _ _ _ hm
     ·cases e
    ·cases e
  ·rename_i hw
   obtain⟨m,hm⟩:=XM base l _ _ _ _ e
   refine⟨m,?_⟩
   unfold xg
   rw [if_neg hw]
   exact hm

inductive zbS where
 | none
 | q (f:z3→Option AV) (v:AV)
 | made (r:Nat)
def ckP (H H':z3):zbS→Bool
 | .none=>true
 | .q f v=>match f H' with
  | some v'=>j3 v v'
  | none=>false
 | .made r=>match H.get r,H'.get r with
  | some (.cells k z a),some (.cells k' z' b)=>k == k' && z == z' && ZT a b
  | _,_=>false
def zaT (H H':z3) (recs:List zbS):List Nat→Bool
 | []=>true
 | p::l=>(match recs[p]? with
  | some q=>ckP H H' q
  | none=>false) && zaT H H' recs l
def opQ (τ:Tau) (H:z3) (op:AOp):Option AV:=match xz op with
 | true=>opP τ.at H op
 | false=>match aop τ H op with
  | some (v,H')=>if H'.size=H.size then some v else none
  | none=>none
theorem Yh {τ:Tau} {H:z3} {op:AOp}:opQ τ H op=match aop τ H op with
  | some (v,H')=>if H'.size=H.size then some v else none
  | none=>none:=by
 unfold opQ
 split
 ·rename_i h
  rw [WQ h]
  cases opP τ.at H op<;>simp
 ·rfl
def zaU:Rec→zbS
 | .none=>.none
 | .q τ op v=>.q (fun H=>opQ τ H op) v
 | .made r=>.made r
theorem zbT (H H':z3) (r:Rec):ckP H H' (zaU r)=kD H H' r:=by
 cases r with
 | none=>rfl
 | made r=>rfl
 | q τ op v =>
  simp only [zaU,ckP,kD,Yh]
  cases aop τ H' op with
  | none=>rfl
  | some x =>
   obtain⟨v',H2⟩:=x
   simp only []
   by_cases h:H2.size=H'.size<;>simp [h]
theorem z2x (H H':z3) (recs:List Rec):∀ l,zaT H H' (recs.map zaU) l=jF H H' recs l
 | []=>rfl
 | p::l=>by
  simp only [zaT,jF,z2x H H' recs l,List.getElem?_map]
  cases recs[p]? with
  | none=>rfl
  | some r=>simp [zbT]
def pinB {β:Type} (b:Bool) (o:Option β):Option β:=match b with
 | true=>o
 | false=>none
def zc8 (g:AX→AV) (r:Nat):AOp→Option (AV × zG)
 | .newc cs=>if cs.all AV.one then some (.ptr r 0,.cells .exact cs.length cs) else none
 | .box x=>if (g x).cells.all AV.one then some (.ptr r 0,.cells .exact (g x).cells.length (g x).cells) else none
 | .bsl esz z n ps=>if esz=0∨z.length≠esz∨16777216 < n * esz then none else
  match qm (yZ n z) (ps.map fun(o,s,x)=>(o,s,g x)) with
  | some cs=>if cs.all AV.one then some (.sl r 0 n (.ex n),.cells .exact esz cs) else none
  | none=>none
 | _=>none
theorem zaV (τ:Tau) (r:Nat) (op:AOp):zc8 τ.at r op=xE τ r op:=by cases op<;>rfl
def bnO {β:Type} (o:Option (AV × zG)) (k:AV→zG→Option β):Option β:=match o with
 | some (v,b)=>k v b
 | none=>none
def wS {α β:Type}:List α→(List α→β)→β
 | [],k=>k []
 | x::l,k=>wS l fun l=>k (x::l)
theorem z0E {α β:Type}:∀ (l:List α) (k:List α→β),wS l k=k l
 | [],_=>rfl
 | x::l,k=>by rw [wS,z0E l]
def QD {β:Type} (call:z7) (base:Nat):List (zj × DK)→List zbS→Tau→z3→(Tau→z3→Option β)→Option β
 | [],_,τ,H,k=>k τ H
 | (o,dk)::l,recs,τ,H,k=>match dk with
  | .q=>match o.guard with
   | none=>bnP (opQ τ H o.op) fun v=>wS (τ.put o.dst v) fun τ2=>QD call base l (recs++[.q (fun H=>opQ τ H o.op) v]) τ2 H k
   | some g=>bnP (gdP (z8 τ (some g)) (opQ τ H o.op)) fun v=>wS (τ.put o.dst v) fun τ2=>QD call base l (recs++[if z8 τ (some g) then .q (fun H=>opQ τ H o.op) v else .none]) τ2 H k
  | .al j=>match o.guard with
   | none=>bnO (zc8 τ.at (base+j) o.op) fun v b=>pinB (H.get (base+j)).isNone (wS (τ.put o.dst v) fun τ2=>QD call base l (recs++[.made (base+j)]) τ2 (H.put (base+j) (some b)) k)
   | some g=>bnM (if z8 τ (some g) then zc7 H (base+j) (xE τ (base+j) o.op) else some (z4,.none,H)) fun v r H'=>wS (τ.put o.dst v) fun τ2=>QD call base l (recs++[zaU r]) τ2 H' k
  | .ef pins=>match o.guard with
   | none=>bnS (match xz o.op with
    | true=>lft H (opP τ.at H o.op)
    | false=>opE call τ.at H o.op) fun v H'=>pinB (zaT H H' recs pins) (wS (τ.put o.dst v) fun τ2=>QD call base l (recs++[.none]) τ2 H' k)
   | some g=>bnS (gdS (z8 τ (some g)) (match xz o.op with
    | true=>lft H (opP τ.at H o.op)
    | false=>opE call τ.at H o.op) H) fun v H'=>pinB (!z8 τ (some g) || zaT H H' recs pins) (wS (τ.put o.dst v) fun τ2=>QD call base l (recs++[.none]) τ2 H' k)
theorem z2y (call:z7) (τ:Tau) (H:z3) (op:AOp):(match xz op with
    | true=>lft H (opP τ.at H op)
    | false=>opE call τ.at H op)=xU call τ H op:=by
 split
 ·rename_i h;rw [QC h];rfl
 ·rename_i h;rw [qj h]
theorem z3D {β:Type} (call:z7) (base:Nat) (k:Tau→z3→Option β):∀ (l:List (zj × DK)) (recs:List Rec) (τ:Tau) (H:z3),
  QD call base l (recs.map zaU) τ H k=(xg call base l recs τ H).bind fun x=>k x.1 x.2
 | [],_,_,_=>rfl
 | (o,dk)::l,recs,τ,H=>by
  have ih:=fun r τ H=>z3D call base k l (recs++[r]) τ H
  simp only [List.map_append,List.map_cons,List.map_nil] at ih
  unfold QD xg
  simp only [z0E]
  cases dk with
  | q =>
   cases hg:o.guard with
   | none =>
    simp only [z8,if_true]
    cases ha:aop τ H o.op with
    | none =>
     have hq:opQ τ H o.op=none:=by rw [Yh,ha]
     rw [hq];rfl
    | some x =>
     obtain⟨v,H'⟩:=x
     simp only []
     by_cases hz:H'.size=H.size
     ·have hq:opQ τ H o.op=some v:=by rw [Yh,ha];exact if_pos hz
      rw [hq,if_pos hz]
      exact ih (.q τ o.op v) _ _
     ·have hq:opQ τ H o.op=none:=by rw [Yh,ha];exact if_neg hz
      rw [hq,if_neg hz];rfl
   | some g =>
    simp only []
    cases hw:z8 τ (some g) with
    | true =>
     simp only [if_true,gdP]
     cases ha:aop τ H o.op with
     | none =>
      have hq:opQ τ H o.op=none:=by rw [Yh,ha]
      rw [hq];rfl
     | some x =>
      obtain⟨v,H'⟩:=x
      simp only []
      by_cases hz:H'.size=H.size
      ·have hq:opQ τ H o.op=some v:=by rw [Yh,ha];exact if_pos hz
       rw [hq,if_pos hz]
       exact ih (.q τ o.op v) _ _
      ·have hq:opQ τ H o.op=none:=by rw [Yh,ha];exact if_neg hz
       rw [hq,if_neg hz];rfl
    | false =>
     simp only [gdP,Bool.false_eq_true,if_false]
     exact ih .none _ _
  | al j =>
   cases hg:o.guard with
   | none =>
    simp only [z8,if_true,zaV]
    cases ha:xE τ (base+j) o.op with
    | none=>rfl
    | some x =>
     obtain⟨v,b⟩:=x
     simp only [bnO]
     cases hz:(H.get (base+j)).isNone with
     | true=>simp only [pinB,if_true];exact ih (.made (base+j)) _ _
     | false=>rfl
   | some g =>
    simp only []
    cases hw:z8 τ (some g) with
    | true =>
     simp only [if_true]
     cases ha:xE τ (base+j) o.op with
     | none=>rfl
     | some x =>
      obtain⟨v,b⟩:=x
      simp only [zc7]
      cases hz:(H.get (base+j)).isNone with
      | true=>simp only [if_true,bnM];exact ih (.made (base+j)) _ _
      | false=>rfl
    | false =>
     simp only [Bool.false_eq_true,if_false,bnM]
     exact ih .none _ _
  | ef pins =>
   cases hg:o.guard with
   | none =>
    simp only [z8,if_true,z2y,z2x]
    cases ha:xU call τ H o.op with
    | none=>rfl
    | some x =>
     obtain⟨v,H'⟩:=x
     simp only [bnS]
     cases jF H H' recs pins with
     | true=>simp only [pinB,if_true];exact ih .none _ _
     | false=>rfl
   | some g =>
    simp only [z2y,z2x]
    cases hw:z8 τ (some g) with
    | true =>
     simp only [if_true,gdS]
     cases ha:xU call τ H o.op with
     | none=>rfl
     | some x =>
      obtain⟨v,H'⟩:=x
      simp only [bnS]
      cases jF H H' recs pins with
      | true=>simp only [pinB,Bool.not_true,Bool.or_true,if_true];exact ih .none _ _
      | false=>rfl
    | false =>
     simp only [Bool.false_eq_true,if_false,gdS,bnS,Bool.not_false,Bool.true_or,pinB]
     exact ih .none _ _
def z2z {β:Type} (call:z7):List zj→Tau→z3→(Tau→z3→Option β)→Option β
 | [],τ,H,k=>k τ H
 | o::l,τ,H,k=>match o.guard with
  | none=>match xz o.op with
   | true=>bnP (opP τ.at H o.op) fun v=>wS (τ.put o.dst v) fun τ=>z2z call l τ H k
   | false=>bnS (opE call τ.at H o.op) fun v H'=>wS (τ.put o.dst v) fun τ=>z2z call l τ H' k
  | some g=>match xz o.op with
   | true=>bnP (gdP (z8 τ (some g)) (opP τ.at H o.op)) fun v=>wS (τ.put o.dst v) fun τ=>z2z call l τ H k
   | false=>bnS (gdS (z8 τ (some g)) (opE call τ.at H o.op) H) fun v H'=>wS (τ.put o.dst v) fun τ=>z2z call l τ H' k
theorem z6k {β:Type} (call:z7) (k:Tau→z3→Option β):∀ (l:List zj) (τ:Tau) (H:z3),z2z call l τ H k=(vr call l τ H).bind fun x=>k x.1 x.2
 | [],_,_=>rfl
 | o::l,τ,H=>by
  have ih:=fun τ H=>z6k call k l τ H
  unfold z2z vr
  simp only [z0E]
  cases hg:o.guard with
  | none =>
   simp only [z8,if_true]
   cases hl:xz o.op with
   | true =>
    simp only [QC hl]
    cases opP τ.at H o.op with
    | none=>rfl
    | some v=>exact ih _ _
   | false =>
    simp only [qj hl]
    cases opE call τ.at H o.op with
    | none=>rfl
    | some x=>exact ih _ _
  | some g =>
   simp only []
   cases hw:z8 τ (some g) with
   | true =>
    cases hl:xz o.op with
    | true =>
     simp only [QC hl,gdP,if_true]
     cases opP τ.at H o.op with
     | none=>rfl
     | some v=>exact ih _ _
    | false =>
     simp only [qj hl,gdS,if_true]
     cases opE call τ.at H o.op with
     | none=>rfl
     | some x=>exact ih _ _
   | false =>
    cases hl:xz o.op<;>simp only [gdP,gdS,Bool.false_eq_true,if_false,bnP,bnS]<;>exact ih _ _

def exw (i:Nat):x7→Nat
 | .skip | .reg _ | .dreg _ _ | .ret | .loop _=>0
 | .exit j=>if j=i then 1 else 0
 | .seq a b=>min 2 (exw i a+exw i b)
 | .cond _ a b=>min 2 (exw i a+exw i b)
 | .block _ c=>exw i c
def z6l:x7→Nat
 | .skip | .reg _ | .dreg _ _ | .loop _=>1
 | .ret | .exit _=>0
 | .seq a b=>min 2 (z6l a * z6l b)
 | .cond _ a b=>min 2 (z6l a+z6l b)
 | .block i c=>min 2 (z6l c+exw i c)
def bnE {β:Type} (o:Option (zE × Tau × z3)) (k:zE→Tau→z3→Option β):Option β:=match o with
 | some (ex,τ,H)=>k ex τ H
 | none=>none
def z4J:zE→Tau→z3→Option (zE × Tau × z3):=fun ex τ H=>some (ex,τ,H)
abbrev zaW:=x7→Tau→z3→Option (zE × Tau × z3)
def z1u {β:Type} (k1:Tau→z3→Option β) (k:zE→Tau→z3→Option β):zE→Tau→z3→Option β:=fun ex τ H=>match ex with
 | .normal=>k1 τ H
 | .exit i=>k (.exit i) τ H
 | .ret=>k .ret τ H
def z6m {β:Type} (i:Nat) (k:zE→Tau→z3→Option β):zE→Tau→z3→Option β:=fun ex τ H=>match ex with
 | .normal=>k .normal τ H
 | .exit j=>k (if j=i then .normal else .exit j) τ H
 | .ret=>k .ret τ H
def vU {β:Type} (call:z7) (lp:zaW):x7→Tau→z3→(zE→Tau→z3→Option β)→Option β
 | .skip,τ,H,k=>k .normal τ H
 | .ret,τ,H,k=>k .ret τ H
 | .exit i,τ,H,k=>k (.exit i) τ H
 | .reg ops,τ,H,k=>z2z call ops τ H (k .normal)
 | .dreg na ops,τ,H,k=>QD call H.size ops [] τ (pushN na H) (k .normal)
 | .seq a b,τ,H,k=>match z6l a with
  | 0 | 1=>vU call lp a τ H (z1u (fun τ H=>vU call lp b τ H k) k)
  | _=>bnE (vU call lp a τ H z4J) (z1u (fun τ H=>vU call lp b τ H k) k)
 | .cond x a b,τ,H,k=>zw (τ.at x) (fun _=>vU call lp a τ H k) (fun _=>vU call lp b τ H k)
 | .block i c,τ,H,k=>match z6l c+exw i c with
  | 0 | 1=>vU call lp c τ H (z6m i k)
  | _=>bnE (vU call lp c τ H z4J) (z6m i k)
 | .loop c,τ,H,k=>bnE (lp c τ H) k
noncomputable abbrev KB (E:Env):zaW:=fun c τ H=>yK E (.loop c) τ H
section
variable {E:Env} {τ:Tau} {H:z3}
theorem Zr {α:Type} {a b:Option α} (h:∀ x,a=some x↔b=some x):a=b:=by
 cases a with
 | none=>cases b with
  | none=>rfl
  | some y=>exact absurd ((h y).2 rfl) (by simp)
 | some x=>exact((h x).1 rfl).symm
theorem Vx:yK E .skip τ H=some (.normal,τ,H):=zQ.2 ⟨1,rfl⟩
theorem z0F:yK E .ret τ H=some (.ret,τ,H):=zQ.2 ⟨1,rfl⟩
theorem Vy {i:Nat}:yK E (.exit i) τ H=some (.exit i,τ,H):=zQ.2 ⟨1,rfl⟩
theorem z0G {ops:List zj}:yK E (.reg ops) τ H=(vr (zM E) ops τ H).map fun(τ,H)=>(.normal,τ,H):=by
 refine Zr fun x=>?_
 rw [zQ]
 constructor
 ·rintro ⟨n,hn⟩
  cases n with
  | zero=>simp [zu] at hn
  | succ n =>
   simp only [zu] at hn
   obtain⟨y,hy,rfl⟩:=Option.map_eq_some_iff.1 hn
   rw [WP (z6j n) _ _ _ _ hy];rfl
 ·intro h
  obtain⟨y,hy,rfl⟩:=Option.map_eq_some_iff.1 h
  obtain⟨n,hn⟩:=z2w _ _ _ _ hy
  exact⟨n+1,by simp only [zu,hn];rfl⟩
theorem Vz {na:Nat} {ops:List (zj × DK)}:yK E (.dreg na ops) τ H=(xg (zM E) H.size ops [] τ (pushN na H)).map fun(τ,H)=>(.normal,τ,H):=by
 refine Zr fun x=>?_
 rw [zQ]
 constructor
 ·rintro ⟨n,hn⟩
  cases n with
  | zero=>simp [zu] at hn
  | succ n =>
   simp only [zu] at hn
   obtain⟨y,hy,rfl⟩:=Option.map_eq_some_iff.1 hn
   rw [Yf (z6j n) _ _ _ _ _ _ hy];rfl
 ·intro h
  obtain⟨y,hy,rfl⟩:=Option.map_eq_some_iff.1 h
  obtain⟨n,hn⟩:=XM _ _ _ _ _ _ hy
  exact⟨n+1,by simp only [zu,hn];rfl⟩
theorem z0H {a b:x7}:yK E (.seq a b) τ H=bnE (yK E a τ H) (z1u (fun τ H=>yK E b τ H) z4J):=by
 refine Zr fun x=>?_
 rw [zQ]
 constructor
 ·rintro ⟨n,hn⟩
  cases n with
  | zero=>simp [zu] at hn
  | succ n =>
   simp only [zu] at hn
   cases ha:zu E n a τ H with
   | none=>rw [ha] at hn;cases hn
   | some y =>
    obtain⟨ex,τ1,H1⟩:=y
    rw [zQ.2 ⟨n,ha⟩]
    rw [ha] at hn
    cases ex with
    | normal=>exact zQ.2 ⟨n,hn⟩
    | exit i=>exact hn
    | ret=>exact hn
 ·intro h
  cases ha:yK E a τ H with
  | none=>rw [ha] at h;cases h
  | some y =>
   obtain⟨ex,τ1,H1⟩:=y
   obtain⟨n,hn⟩:=zQ.1 ha
   rw [ha] at h
   cases ex with
   | normal =>
    obtain⟨m,hm⟩:=zQ.1 h
    exact⟨max n m+1,by simp only [zu,Zq (Nat.le_max_left n m) hn,Zq (Nat.le_max_right n m) hm]⟩
   | exit i=>exact⟨n+1,by simp only [zu,hn];exact h⟩
   | ret=>exact⟨n+1,by simp only [zu,hn];exact h⟩
theorem QE {x:AX} {a b:x7}:yK E (.cond x a b) τ H=zw (τ.at x) (fun _=>yK E a τ H) (fun _=>yK E b τ H):=by
 refine Zr fun y=>?_
 rw [zQ]
 unfold zw
 constructor
 ·rintro ⟨n,hn⟩
  cases n with
  | zero=>simp [zu] at hn
  | succ n =>
   simp only [zu] at hn
   split at hn
   ·rename_i t ht
    rw [ht]
    cases t
    ·exact zQ.2 ⟨n,hn⟩
    ·exact zQ.2 ⟨n,hn⟩
   ·cases hn
 ·intro h
  split at h
  ·rename_i ht
   obtain⟨n,hn⟩:=zQ.1 h
   exact⟨n+1,by simp only [zu,ht,if_true,hn]⟩
  ·rename_i ht
   obtain⟨n,hn⟩:=zQ.1 h
   exact⟨n+1,by simp only [zu,ht,Bool.false_eq_true,if_false,hn]⟩
  ·cases h
theorem JK {i:Nat} {c:x7}:yK E (.block i c) τ H=bnE (yK E c τ H) (z6m i z4J):=by
 refine Zr fun y=>?_
 rw [zQ]
 constructor
 ·rintro ⟨n,hn⟩
  cases n with
  | zero=>simp [zu] at hn
  | succ n =>
   simp only [zu] at hn
   cases ha:zu E n c τ H with
   | none=>rw [ha] at hn;cases hn
   | some z =>
    rw [zQ.2 ⟨n,ha⟩]
    rw [ha] at hn
    obtain⟨ex,τ1,H1⟩:=z
    cases ex<;>exact hn
 ·intro h
  cases ha:yK E c τ H with
  | none=>rw [ha] at h;cases h
  | some z =>
   obtain⟨ex,τ1,H1⟩:=z
   obtain⟨n,hn⟩:=zQ.1 ha
   rw [ha] at h
   refine⟨n+1,?_⟩
   cases ex<;>(simp only [zu,hn];exact h)
theorem z2A {c:x7}:KB E c τ H=bnE (yK E c τ H) (z1u (fun τ H=>KB E c τ H) z4J):=by
 refine Zr fun x=>?_
 simp only [KB]
 rw [zQ]
 constructor
 ·rintro ⟨n,hn⟩
  cases n with
  | zero=>simp [zu] at hn
  | succ n =>
   simp only [zu] at hn
   cases ha:zu E n c τ H with
   | none=>rw [ha] at hn;cases hn
   | some y =>
    obtain⟨ex,τ1,H1⟩:=y
    rw [zQ.2 ⟨n,ha⟩]
    rw [ha] at hn
    cases ex with
    | normal=>exact zQ.2 ⟨n,hn⟩
    | exit i=>exact hn
    | ret=>exact hn
 ·intro h
  cases ha:yK E c τ H with
  | none=>rw [ha] at h;cases h
  | some y =>
   obtain⟨ex,τ1,H1⟩:=y
   obtain⟨n,hn⟩:=zQ.1 ha
   rw [ha] at h
   cases ex with
   | normal =>
    obtain⟨m,hm⟩:=zQ.1 h
    exact⟨max n m+1,by simp only [zu,Zq (Nat.le_max_left n m) hn,Zq (Nat.le_max_right n m) hm]⟩
   | exit i=>exact⟨n+1,by simp only [zu,hn];exact h⟩
   | ret=>exact⟨n+1,by simp only [zu,hn];exact h⟩
end
theorem z6n (o:Option (zE × Tau × z3)):bnE o z4J=o:=by
 cases o<;>rfl
theorem jA {β:Type} (E:Env):∀ (c:x7) (τ:Tau) (H:z3) (k:zE→Tau→z3→Option β),vU (zM E) (KB E) c τ H k=bnE (yK E c τ H) k
 | .skip,τ,H,k=>by rw [Vx];rfl
 | .ret,τ,H,k=>by rw [z0F];rfl
 | .exit i,τ,H,k=>by rw [Vy];rfl
 | .reg ops,τ,H,k=>by
  rw [z0G]
  simp only [vU,z6k]
  cases vr (zM E) ops τ H<;>rfl
 | .dreg na ops,τ,H,k=>by
  rw [Vz]
  have:=z3D (zM E) H.size (k .normal) ops [] τ (pushN na H)
  simp only [vU]
  rw [List.map_nil] at this
  rw [this]
  cases xg (zM E) H.size ops [] τ (pushN na H)<;>rfl
 | .seq a b,τ,H,k=>by
  rw [z0H]
  have h1:vU (zM E) (KB E) (.seq a b) τ H k=bnE (yK E a τ H) (z1u (fun τ H=>vU (zM E) (KB E) b τ H k) k):=by
   simp only [vU]
   split
   ·rw [jA E a]
   ·rw [jA E a]
   ·rw [jA E a,z6n]
  rw [h1]
  cases yK E a τ H with
  | none=>rfl
  | some x =>
   obtain⟨ex,τ1,H1⟩:=x
   cases ex with
   | normal=>simp only [bnE,z1u];exact jA E b τ1 H1 k
   | exit i=>rfl
   | ret=>rfl
 | .cond x a b,τ,H,k=>by
  rw [QE]
  simp only [vU,jA E a,jA E b]
  unfold zw
  split<;>rfl
 | .block i c,τ,H,k=>by
  rw [JK]
  have h1:vU (zM E) (KB E) (.block i c) τ H k=bnE (yK E c τ H) (z6m i k):=by
   simp only [vU]
   split
   ·rw [jA E c]
   ·rw [jA E c]
   ·rw [jA E c,z6n]
  rw [h1]
  cases yK E c τ H with
  | none=>rfl
  | some x =>
   obtain⟨ex,τ1,H1⟩:=x
   cases ex<;>rfl
 | .loop c,τ,H,k=>rfl
def z6o (res:List vV):zE→Tau→z3→Option (AV × z3):=fun ex τ H=>match ex with
 | .normal=>(y5 τ H res).map fun v=>(v,H)
 | .exit _=>none
 | .ret=>(y5 τ H res).map fun v=>(v,H)
theorem z2B {E:Env} {f:Nat} {fn:AFn} (hs:E.spec f=none) (hf:E.fns f=some fn) (args:List AV) (H:z3) :
  zM E f args H=vU (zM E) (KB E) fn.code (args++List.replicate (fn.nt - args.length) z4) H (z6o fn.res):=by
 rw [jA]
 refine Zr fun x=>?_
 rw [xT]
 constructor
 ·rintro ⟨n,hn⟩
  cases n with
  | zero=>simp [xt] at hn
  | succ n =>
   simp only [xt,hs,hf] at hn
   cases ha:zu E n fn.code (args++List.replicate (fn.nt - args.length) z4) H with
   | none=>rw [ha] at hn;cases hn
   | some y =>
    obtain⟨ex,τ1,H1⟩:=y
    rw [zQ.2 ⟨n,ha⟩]
    rw [ha] at hn
    cases ex<;>first | exact hn | cases hn
 ·intro h
  cases ha:yK E fn.code (args++List.replicate (fn.nt - args.length) z4) H with
  | none=>rw [ha] at h;cases h
  | some y =>
   obtain⟨ex,τ1,H1⟩:=y
   obtain⟨n,hn⟩:=zQ.1 ha
   rw [ha] at h
   refine⟨n+1,?_⟩
   simp only [xt,hs,hf,hn]
   cases ex<;>first | exact h | cases h
theorem wT {E:Env} {f:Nat} {g:List AV→z3→Option (AV × z3)} (hs:E.spec f=some g) (args:List AV) (H:z3):zM E f args H=g args H:=by
 refine Zr fun x=>?_
 rw [xT]
 constructor
 ·rintro ⟨n,hn⟩
  cases n with
  | zero=>simp [xt] at hn
  | succ n=>simpa only [xt,hs] using hn
 ·intro h
  exact⟨1,by simpa only [xt,hs] using h⟩
end Go.Ab
