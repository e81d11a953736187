/- The evaluator without fuel, and with what follows handed on. -/
import Derived.Test.YtdbbdfmkglgjdaaSh4
set_option linter.unusedVariables false
set_option linter.unusedSimpArgs false
set_option linter.unusedSectionVars false
namespace Go.Ab

open Classical in
noncomputable def zL (E:Env) (f:Nat) (args:List AV) (H:z3):Option (AV × z3) :=
 if h:∃ r n,xn E n f args H=some r then some (Classical.choose h) else none
open Classical in
noncomputable def yI (E:Env) (c:x3) (τ:Tau) (H:z3):Option (zE × Tau × z3) :=
 if h:∃ r n,zx E n c τ H=some r then some (Classical.choose h) else none
theorem xK {E:Env} {f:Nat} {args:List AV} {H:z3} {r:AV × z3}:zL E f args H=some r↔∃ n,xn E n f args H=some r:=by
 unfold zL
 split
 ·rename_i h
  constructor
  ·intro e
   obtain rfl:=Option.some.inj e
   exact Classical.choose_spec h
  ·rintro ⟨n,hn⟩
   obtain⟨m,hm⟩:=Classical.choose_spec h
   have h1:=YU (Nat.le_max_left n m) _ _ _ _ hn
   have h2:=YU (Nat.le_max_right n m) _ _ _ _ hm
   rw [h1] at h2
   exact h2.symm
 ·rename_i h
  exact⟨fun e=>(by cases e),fun⟨n,hn⟩=>absurd ⟨r,n,hn⟩ h⟩
theorem zQ {E:Env} {c:x3} {τ:Tau} {H:z3} {r:zE × Tau × z3}:yI E c τ H=some r↔∃ n,zx E n c τ H=some r:=by
 unfold yI
 split
 ·rename_i h
  constructor
  ·intro e
   obtain rfl:=Option.some.inj e
   exact Classical.choose_spec h
  ·rintro ⟨n,hn⟩
   obtain⟨m,hm⟩:=Classical.choose_spec h
   have h1:=wO (Nat.le_max_left n m) hn
   have h2:=wO (Nat.le_max_right n m) hm
   rw [h1] at h2
   exact h2.symm
 ·rename_i h
  exact⟨fun e=>(by cases e),fun⟨n,hn⟩=>absurd ⟨r,n,hn⟩ h⟩
theorem z4H {E:Env} (n:Nat):QR (xn E n) (zL E):=fun _ _ _ _ h=>xK.2 ⟨n,h⟩
theorem z20 {E:Env} {τ:Tau} {H:z3} {op:AOp} {r:AV × z3} (h:xL (zL E) τ H op=some r):∃ n,xL (xn E n) τ H op=some r:=by
 unfold xL at h
 cases ht:yR τ op with
 | none=>rw [ht] at h;exact⟨0,by unfold xL;rw [ht];exact h⟩
 | some x =>
  obtain⟨g,vs⟩:=x
  rw [ht] at h
  obtain⟨n,hn⟩:=xK.1 h
  exact⟨n,by unfold xL;rw [ht];exact hn⟩
theorem z0S {E:Env}:∀ (l:List zk) (τ:Tau) (H:z3) (r:Tau × z3),kK (zL E) l τ H=some r→∃ n,kK (xn E n) l τ H=some r
 | [],_,_,_,e=>⟨0,e⟩
 | o::l,τ,H,r,e=>by
  unfold kK at e
  split at e
  ·rename_i hw
   split at e
   ·rename_i v H' hs
    obtain⟨n,hn⟩:=z20 hs
    obtain⟨m,hm⟩:=z0S l _ _ _ e
    refine⟨max n m,?_⟩
    unfold kK
    rw [if_pos hw,V8 (YU (Nat.le_max_left n m)) hn]
    exact V9 (YU (Nat.le_max_right n m)) l _ _ _ hm
   ·cases e
  ·rename_i hw
   obtain⟨m,hm⟩:=z0S l _ _ _ e
   refine⟨m,?_⟩
   unfold kK
   rw [if_neg hw]
   exact hm
theorem YV {E:Env} (base:Nat):∀ (l:List (zk × DK)) (recs:List Rec) (τ:Tau) (H:z3) (r:Tau × z3),x9 (zL E) base l recs τ H=some r→∃ n,x9 (xn E n) base l recs τ H=some r
 | [],_,_,_,_,e=>⟨0,e⟩
 | (o,dk)::l,recs,τ,H,r,e=>by
  unfold x9 at e
  split at e
  ·rename_i hw
   cases dk with
   | q =>
    simp only at e
    split at e
    ·rename_i v H' hs
     split at e
     ·rename_i hz
      obtain⟨m,hm⟩:=YV base l _ _ _ _ e
      refine⟨m,?_⟩
      unfold x9
      rw [if_pos hw]
      simp only [hs]
      rw [if_pos hz]
      exact hm
     ·cases e
    ·cases e
   | al k =>
    simp only at e
    split at e
    ·rename_i v ob hs
     split at e
     ·rename_i hz
      obtain⟨m,hm⟩:=YV base l _ _ _ _ e
      refine⟨m,?_⟩
      unfold x9
      rw [if_pos hw]
      simp only [hs]
      rw [if_pos hz]
      exact hm
     ·cases e
    ·cases e
   | ef pins =>
    simp only at e
    split at e
    ·rename_i v H' hs
     split at e
     ·rename_i hz
      obtain⟨n,hn⟩:=z20 hs
      obtain⟨m,hm⟩:=YV base l _ _ _ _ e
      refine⟨max n m,?_⟩
      unfold x9
      rw [if_pos hw]
      simp only [V8 (YU (Nat.le_max_left n m)) hn]
      rw [if_pos hz]
      exact ZA (YU (Nat.le_max_right n m)) base l _ _ _ _ hm
     ·cases e
    ·cases e
  ·rename_i hw
   obtain⟨m,hm⟩:=YV base l _ _ _ _ e
   refine⟨m,?_⟩
   unfold x9
   rw [if_neg hw]
   exact hm

inductive zaa where
 | none
 | q (f:z3→Option AV) (v:AV)
 | made (r:Nat)
def ckP (H H':z3):zaa→Bool
 | .none=>true
 | .q f v=>match f H' with
  | some v'=>qA v v'
  | none=>false
 | .made r=>match H.get r,H'.get r with
  | some (.cells k z a),some (.cells k' z' b)=>k == k' && z == z' && Zd a b
  | _,_=>false
def z9g (H H':z3) (recs:List zaa):List Nat→Bool
 | []=>true
 | p::l=>(match recs[p]? with
  | some q=>ckP H H' q
  | none=>false) && z9g H H' recs l
def opQ (τ:Tau) (H:z3) (op:AOp):Option AV:=match xp op with
 | true=>opP τ.at H op
 | false=>match aop τ H op with
  | some (v,H')=>if H'.size=H.size then some v else none
  | none=>none
theorem ZC {τ:Tau} {H:z3} {op:AOp}:opQ τ H op=match aop τ H op with
  | some (v,H')=>if H'.size=H.size then some v else none
  | none=>none:=by
 unfold opQ
 split
 ·rename_i h
  rw [Va h]
  cases opP τ.at H op<;>simp
 ·rfl
def z9h:Rec→zaa
 | .none=>.none
 | .q τ op v=>.q (fun H=>opQ τ H op) v
 | .made r=>.made r
theorem zab (H H':z3) (r:Rec):ckP H H' (z9h r)=jT H H' r:=by
 cases r with
 | none=>rfl
 | made r=>rfl
 | q τ op v =>
  simp only [z9h,ckP,jT,ZC]
  cases aop τ H' op with
  | none=>rfl
  | some x =>
   obtain⟨v',H2⟩:=x
   simp only []
   by_cases h:H2.size=H'.size<;>simp [h]
theorem z0T (H H':z3) (recs:List Rec):∀ l,z9g H H' (recs.map z9h) l=jr H H' recs l
 | []=>rfl
 | p::l=>by
  simp only [z9g,jr,z0T H H' recs l,List.getElem?_map]
  cases recs[p]? with
  | none=>rfl
  | some r=>simp [zab]
def pinB {β:Type} (b:Bool) (o:Option β):Option β:=match b with
 | true=>o
 | false=>none
def zaq (g:AX→AV) (r:Nat):AOp→Option (AV × zF)
 | .newc cs=>if cs.all AV.one then some (.ptr r 0,.cells .exact cs.length cs) else none
 | .box x=>if (g x).cells.all AV.one then some (.ptr r 0,.cells .exact (g x).cells.length (g x).cells) else none
 | .bsl esz z n ps=>if esz=0∨z.length≠esz∨16777216 < n * esz then none else
  match q7 (yU n z) (ps.map fun(o,s,x)=>(o,s,g x)) with
  | some cs=>if cs.all AV.one then some (.sl r 0 n (.ex n),.cells .exact esz cs) else none
  | none=>none
 | _=>none
theorem z9i (τ:Tau) (r:Nat) (op:AOp):zaq τ.at r op=xB τ r op:=by cases op<;>rfl
def bnO {β:Type} (o:Option (AV × zF)) (k:AV→zF→Option β):Option β:=match o with
 | some (v,b)=>k v b
 | none=>none
def w9 {α β:Type}:List α→(List α→β)→β
 | [],k=>k []
 | x::l,k=>w9 l fun l=>k (x::l)
theorem VX {α β:Type}:∀ (l:List α) (k:List α→β),w9 l k=k l
 | [],_=>rfl
 | x::l,k=>by rw [w9,VX l]
def XA {β:Type} (call:z7) (base:Nat):List (zk × DK)→List zaa→Tau→z3→(Tau→z3→Option β)→Option β
 | [],_,τ,H,k=>k τ H
 | (o,dk)::l,recs,τ,H,k=>match dk with
  | .q=>match o.guard with
   | none=>bnP (opQ τ H o.op) fun v=>w9 (τ.put o.dst v) fun τ2=>XA call base l (recs++[.q (fun H=>opQ τ H o.op) v]) τ2 H k
   | some g=>bnP (gdP (za τ (some g)) (opQ τ H o.op)) fun v=>w9 (τ.put o.dst v) fun τ2=>XA call base l (recs++[if za τ (some g) then .q (fun H=>opQ τ H o.op) v else .none]) τ2 H k
  | .al j=>match o.guard with
   | none=>bnO (zaq τ.at (base+j) o.op) fun v b=>pinB (H.get (base+j)).isNone (w9 (τ.put o.dst v) fun τ2=>XA call base l (recs++[.made (base+j)]) τ2 (H.put (base+j) (some b)) k)
   | some g=>bnM (if za τ (some g) then zap H (base+j) (xB τ (base+j) o.op) else some (z4,.none,H)) fun v r H'=>w9 (τ.put o.dst v) fun τ2=>XA call base l (recs++[z9h r]) τ2 H' k
  | .ef pins=>match o.guard with
   | none=>bnS (match xp o.op with
    | true=>lft H (opP τ.at H o.op)
    | false=>opE call τ.at H o.op) fun v H'=>pinB (z9g H H' recs pins) (w9 (τ.put o.dst v) fun τ2=>XA call base l (recs++[.none]) τ2 H' k)
   | some g=>bnS (gdS (za τ (some g)) (match xp o.op with
    | true=>lft H (opP τ.at H o.op)
    | false=>opE call τ.at H o.op) H) fun v H'=>pinB (!za τ (some g) || z9g H H' recs pins) (w9 (τ.put o.dst v) fun τ2=>XA call base l (recs++[.none]) τ2 H' k)
theorem z0U (call:z7) (τ:Tau) (H:z3) (op:AOp):(match xp op with
    | true=>lft H (opP τ.at H op)
    | false=>opE call τ.at H op)=xL call τ H op:=by
 split
 ·rename_i h;rw [Xz h];rfl
 ·rename_i h;rw [xZ h]
theorem z21 {β:Type} (call:z7) (base:Nat) (k:Tau→z3→Option β):∀ (l:List (zk × DK)) (recs:List Rec) (τ:Tau) (H:z3),
  XA call base l (recs.map z9h) τ H k=(x9 call base l recs τ H).bind fun x=>k x.1 x.2
 | [],_,_,_=>rfl
 | (o,dk)::l,recs,τ,H=>by
  have ih:=fun r τ H=>z21 call base k l (recs++[r]) τ H
  simp only [List.map_append,List.map_cons,List.map_nil] at ih
  unfold XA x9
  simp only [VX]
  cases dk with
  | q =>
   cases hg:o.guard with
   | none =>
    simp only [za,if_true]
    cases ha:aop τ H o.op with
    | none =>
     have hq:opQ τ H o.op=none:=by rw [ZC,ha]
     rw [hq];rfl
    | some x =>
     obtain⟨v,H'⟩:=x
     simp only []
     by_cases hz:H'.size=H.size
     ·have hq:opQ τ H o.op=some v:=by rw [ZC,ha];exact if_pos hz
      rw [hq,if_pos hz]
      exact ih (.q τ o.op v) _ _
     ·have hq:opQ τ H o.op=none:=by rw [ZC,ha];exact if_neg hz
      rw [hq,if_neg hz];rfl
   | some g =>
    simp only []
    cases hw:za τ (some g) with
    | true =>
     simp only [if_true,gdP]
     cases ha:aop τ H o.op with
     | none =>
      have hq:opQ τ H o.op=none:=by rw [ZC,ha]
      rw [hq];rfl
     | some x =>
      obtain⟨v,H'⟩:=x
      simp only []
      by_cases hz:H'.size=H.size
      ·have hq:opQ τ H o.op=some v:=by rw [ZC,ha];exact if_pos hz
       rw [hq,if_pos hz]
       exact ih (.q τ o.op v) _ _
      ·have hq:opQ τ H o.op=none:=by rw [ZC,ha];exact if_neg hz
       rw [hq,if_neg hz];rfl
    | false =>
     simp only [gdP,Bool.false_eq_true,if_false]
     exact ih .none _ _
  | al j =>
   cases hg:o.guard with
   | none =>
    simp only [za,if_true,z9i]
    cases ha:xB τ (base+j) o.op with
    | none=>rfl
    | some x =>
     obtain⟨v,b⟩:=x
     simp only [bnO]
     cases hz:(H.get (base+j)).isNone with
     | true=>simp only [pinB,if_true];exact ih (.made (base+j)) _ _
     | false=>rfl
   | some g =>
    simp only []
    cases hw:za τ (some g) with
    | true =>
     simp only [if_true]
     cases ha:xB τ (base+j) o.op with
     | none=>rfl
     | some x =>
      obtain⟨v,b⟩:=x
      simp only [zap]
      cases hz:(H.get (base+j)).isNone with
      | true=>simp only [if_true,bnM];exact ih (.made (base+j)) _ _
      | false=>rfl
    | false =>
     simp only [Bool.false_eq_true,if_false,bnM]
     exact ih .none _ _
  | ef pins =>
   cases hg:o.guard with
   | none =>
    simp only [za,if_true,z0U,z0T]
    cases ha:xL call τ H o.op with
    | none=>rfl
    | some x =>
     obtain⟨v,H'⟩:=x
     simp only [bnS]
     cases jr H H' recs pins with
     | true=>simp only [pinB,if_true];exact ih .none _ _
     | false=>rfl
   | some g =>
    simp only [z0U,z0T]
    cases hw:za τ (some g) with
    | true =>
     simp only [if_true,gdS]
     cases ha:xL call τ H o.op with
     | none=>rfl
     | some x =>
      obtain⟨v,H'⟩:=x
      simp only [bnS]
      cases jr H H' recs pins with
      | true=>simp only [pinB,Bool.not_true,Bool.or_true,if_true];exact ih .none _ _
      | false=>rfl
    | false =>
     simp only [Bool.false_eq_true,if_false,gdS,bnS,Bool.not_false,Bool.true_or,pinB]
     exact ih .none _ _
def z0V {β:Type} (call:z7):List zk→Tau→z3→(Tau→z3→Option β)→Option β
 | [],τ,H,k=>k τ H
 | o::l,τ,H,k=>match o.guard with
  | none=>match xp o.op with
   | true=>bnP (opP τ.at H o.op) fun v=>w9 (τ.put o.dst v) fun τ=>z0V call l τ H k
   | false=>bnS (opE call τ.at H o.op) fun v H'=>w9 (τ.put o.dst v) fun τ=>z0V call l τ H' k
  | some g=>match xp o.op with
   | true=>bnP (gdP (za τ (some g)) (opP τ.at H o.op)) fun v=>w9 (τ.put o.dst v) fun τ=>z0V call l τ H k
   | false=>bnS (gdS (za τ (some g)) (opE call τ.at H o.op) H) fun v H'=>w9 (τ.put o.dst v) fun τ=>z0V call l τ H' k
theorem z4I {β:Type} (call:z7) (k:Tau→z3→Option β):∀ (l:List zk) (τ:Tau) (H:z3),z0V call l τ H k=(kK call l τ H).bind fun x=>k x.1 x.2
 | [],_,_=>rfl
 | o::l,τ,H=>by
  have ih:=fun τ H=>z4I call k l τ H
  unfold z0V kK
  simp only [VX]
  cases hg:o.guard with
  | none =>
   simp only [za,if_true]
   cases hl:xp o.op with
   | true =>
    simp only [Xz hl]
    cases opP τ.at H o.op with
    | none=>rfl
    | some v=>exact ih _ _
   | false =>
    simp only [xZ hl]
    cases opE call τ.at H o.op with
    | none=>rfl
    | some x=>exact ih _ _
  | some g =>
   simp only []
   cases hw:za τ (some g) with
   | true =>
    cases hl:xp o.op with
    | true =>
     simp only [Xz hl,gdP,if_true]
     cases opP τ.at H o.op with
     | none=>rfl
     | some v=>exact ih _ _
    | false =>
     simp only [xZ hl,gdS,if_true]
     cases opE call τ.at H o.op with
     | none=>rfl
     | some x=>exact ih _ _
   | false =>
    cases hl:xp o.op<;>simp only [gdP,gdS,Bool.false_eq_true,if_false,bnP,bnS]<;>exact ih _ _

def exw (i:Nat):x3→Nat
 | .skip | .reg _ | .dreg _ _ | .ret | .loop _=>0
 | .exit j=>if j=i then 1 else 0
 | .seq a b=>min 2 (exw i a+exw i b)
 | .cond _ a b=>min 2 (exw i a+exw i b)
 | .block _ c=>exw i c
def z4J:x3→Nat
 | .skip | .reg _ | .dreg _ _ | .loop _=>1
 | .ret | .exit _=>0
 | .seq a b=>min 2 (z4J a * z4J b)
 | .cond _ a b=>min 2 (z4J a+z4J b)
 | .block i c=>min 2 (z4J c+exw i c)
def bnE {β:Type} (o:Option (zE × Tau × z3)) (k:zE→Tau→z3→Option β):Option β:=match o with
 | some (ex,τ,H)=>k ex τ H
 | none=>none
def z39:zE→Tau→z3→Option (zE × Tau × z3):=fun ex τ H=>some (ex,τ,H)
abbrev z9j:=x3→Tau→z3→Option (zE × Tau × z3)
def WR {β:Type} (k1:Tau→z3→Option β) (k:zE→Tau→z3→Option β):zE→Tau→z3→Option β:=fun ex τ H=>match ex with
 | .normal=>k1 τ H
 | .exit i=>k (.exit i) τ H
 | .ret=>k .ret τ H
def z4K {β:Type} (i:Nat) (k:zE→Tau→z3→Option β):zE→Tau→z3→Option β:=fun ex τ H=>match ex with
 | .normal=>k .normal τ H
 | .exit j=>k (if j=i then .normal else .exit j) τ H
 | .ret=>k .ret τ H
def vk {β:Type} (call:z7) (lp:z9j):x3→Tau→z3→(zE→Tau→z3→Option β)→Option β
 | .skip,τ,H,k=>k .normal τ H
 | .ret,τ,H,k=>k .ret τ H
 | .exit i,τ,H,k=>k (.exit i) τ H
 | .reg ops,τ,H,k=>z0V call ops τ H (k .normal)
 | .dreg na ops,τ,H,k=>XA call H.size ops [] τ (pushN na H) (k .normal)
 | .seq a b,τ,H,k=>match z4J a with
  | 0 | 1=>vk call lp a τ H (WR (fun τ H=>vk call lp b τ H k) k)
  | _=>bnE (vk call lp a τ H z39) (WR (fun τ H=>vk call lp b τ H k) k)
 | .cond x a b,τ,H,k=>zG (τ.at x) (fun _=>vk call lp a τ H k) (fun _=>vk call lp b τ H k)
 | .block i c,τ,H,k=>match z4J c+exw i c with
  | 0 | 1=>vk call lp c τ H (z4K i k)
  | _=>bnE (vk call lp c τ H z39) (z4K i k)
 | .loop c,τ,H,k=>bnE (lp c τ H) k
noncomputable abbrev Jr (E:Env):z9j:=fun c τ H=>yI E (.loop c) τ H
section
variable {E:Env} {τ:Tau} {H:z3}
theorem wP {α:Type} {a b:Option α} (h:∀ x,a=some x↔b=some x):a=b:=by
 cases a with
 | none=>cases b with
  | none=>rfl
  | some y=>exact absurd ((h y).2 rfl) (by simp)
 | some x=>exact((h x).1 rfl).symm
theorem K2:yI E .skip τ H=some (.normal,τ,H):=zQ.2 ⟨1,rfl⟩
theorem VY:yI E .ret τ H=some (.ret,τ,H):=zQ.2 ⟨1,rfl⟩
theorem K3 {i:Nat}:yI E (.exit i) τ H=some (.exit i,τ,H):=zQ.2 ⟨1,rfl⟩
theorem VZ {ops:List zk}:yI E (.reg ops) τ H=(kK (zL E) ops τ H).map fun(τ,H)=>(.normal,τ,H):=by
 refine wP fun x=>?_
 rw [zQ]
 constructor
 ·rintro ⟨n,hn⟩
  cases n with
  | zero=>simp [zx] at hn
  | succ n =>
   simp only [zx] at hn
   obtain⟨y,hy,rfl⟩:=Option.map_eq_some_iff.1 hn
   rw [V9 (z4H n) _ _ _ _ hy];rfl
 ·intro h
  obtain⟨y,hy,rfl⟩:=Option.map_eq_some_iff.1 h
  obtain⟨n,hn⟩:=z0S _ _ _ _ hy
  exact⟨n+1,by simp only [zx,hn];rfl⟩
theorem K4 {na:Nat} {ops:List (zk × DK)}:yI E (.dreg na ops) τ H=(x9 (zL E) H.size ops [] τ (pushN na H)).map fun(τ,H)=>(.normal,τ,H):=by
 refine wP fun x=>?_
 rw [zQ]
 constructor
 ·rintro ⟨n,hn⟩
  cases n with
  | zero=>simp [zx] at hn
  | succ n =>
   simp only [zx] at hn
   obtain⟨y,hy,rfl⟩:=Option.map_eq_some_iff.1 hn
   rw [ZA (z4H n) _ _ _ _ _ _ hy];rfl
 ·intro h
  obtain⟨y,hy,rfl⟩:=Option.map_eq_some_iff.1 h
  obtain⟨n,hn⟩:=YV _ _ _ _ _ _ hy
  exact⟨n+1,by simp only [zx,hn];rfl⟩
theorem W0 {a b:x3}:yI E (.seq a b) τ H=bnE (yI E a τ H) (WR (fun τ H=>yI E b τ H) z39):=by
 refine wP fun x=>?_
 rw [zQ]
 constructor
 ·rintro ⟨n,hn⟩
  cases n with
  | zero=>simp [zx] at hn
  | succ n =>
   simp only [zx] at hn
   cases ha:zx E n a τ H with
   | none=>rw [ha] at hn;cases hn
   | some y =>
    obtain⟨ex,τ1,H1⟩:=y
    rw [zQ.2 ⟨n,ha⟩]
    rw [ha] at hn
    cases ex with
    | normal=>exact zQ.2 ⟨n,hn⟩
    | exit i=>exact hn
    | ret=>exact hn
 ·intro h
  cases ha:yI E a τ H with
  | none=>rw [ha] at h;cases h
  | some y =>
   obtain⟨ex,τ1,H1⟩:=y
   obtain⟨n,hn⟩:=zQ.1 ha
   rw [ha] at h
   cases ex with
   | normal =>
    obtain⟨m,hm⟩:=zQ.1 h
    exact⟨max n m+1,by simp only [zx,wO (Nat.le_max_left n m) hn,wO (Nat.le_max_right n m) hm]⟩
   | exit i=>exact⟨n+1,by simp only [zx,hn];exact h⟩
   | ret=>exact⟨n+1,by simp only [zx,hn];exact h⟩
theorem XB {x:AX} {a b:x3}:yI E (.cond x a b) τ H=zG (τ.at x) (fun _=>yI E a τ H) (fun _=>yI E b τ H):=by
 refine wP fun y=>?_
 rw [zQ]
 unfold zG
 constructor
 ·rintro ⟨n,hn⟩
  cases n with
  | zero=>simp [zx] at hn
  | succ n =>
   simp only [zx] at hn
   split at hn
   ·rename_i t ht
    rw [ht]
    cases t
    ·exact zQ.2 ⟨n,hn⟩
    ·exact zQ.2 ⟨n,hn⟩
   ·cases hn
 ·intro h
  split at h
  ·rename_i ht
   obtain⟨n,hn⟩:=zQ.1 h
   exact⟨n+1,by simp only [zx,ht,if_true,hn]⟩
  ·rename_i ht
   obtain⟨n,hn⟩:=zQ.1 h
   exact⟨n+1,by simp only [zx,ht,Bool.false_eq_true,if_false,hn]⟩
  ·cases h
theorem QT {i:Nat} {c:x3}:yI E (.block i c) τ H=bnE (yI E c τ H) (z4K i z39):=by
 refine wP fun y=>?_
 rw [zQ]
 constructor
 ·rintro ⟨n,hn⟩
  cases n with
  | zero=>simp [zx] at hn
  | succ n =>
   simp only [zx] at hn
   cases ha:zx E n c τ H with
   | none=>rw [ha] at hn;cases hn
   | some z =>
    rw [zQ.2 ⟨n,ha⟩]
    rw [ha] at hn
    obtain⟨ex,τ1,H1⟩:=z
    cases ex<;>exact hn
 ·intro h
  cases ha:yI E c τ H with
  | none=>rw [ha] at h;cases h
  | some z =>
   obtain⟨ex,τ1,H1⟩:=z
   obtain⟨n,hn⟩:=zQ.1 ha
   rw [ha] at h
   refine⟨n+1,?_⟩
   cases ex<;>(simp only [zx,hn];exact h)
theorem z0W {c:x3}:Jr E c τ H=bnE (yI E c τ H) (WR (fun τ H=>Jr E c τ H) z39):=by
 refine wP fun x=>?_
 simp only [Jr]
 rw [zQ]
 constructor
 ·rintro ⟨n,hn⟩
  cases n with
  | zero=>simp [zx] at hn
  | succ n =>
   simp only [zx] at hn
   cases ha:zx E n c τ H with
   | none=>rw [ha] at hn;cases hn
   | some y =>
    obtain⟨ex,τ1,H1⟩:=y
    rw [zQ.2 ⟨n,ha⟩]
    rw [ha] at hn
    cases ex with
    | normal=>exact zQ.2 ⟨n,hn⟩
    | exit i=>exact hn
    | ret=>exact hn
 ·intro h
  cases ha:yI E c τ H with
  | none=>rw [ha] at h;cases h
  | some y =>
   obtain⟨ex,τ1,H1⟩:=y
   obtain⟨n,hn⟩:=zQ.1 ha
   rw [ha] at h
   cases ex with
   | normal =>
    obtain⟨m,hm⟩:=zQ.1 h
    exact⟨max n m+1,by simp only [zx,wO (Nat.le_max_left n m) hn,wO (Nat.le_max_right n m) hm]⟩
   | exit i=>exact⟨n+1,by simp only [zx,hn];exact h⟩
   | ret=>exact⟨n+1,by simp only [zx,hn];exact h⟩
end
theorem z4L (o:Option (zE × Tau × z3)):bnE o z39=o:=by
 cases o<;>rfl
theorem jl {β:Type} (E:Env):∀ (c:x3) (τ:Tau) (H:z3) (k:zE→Tau→z3→Option β),vk (zL E) (Jr E) c τ H k=bnE (yI E c τ H) k
 | .skip,τ,H,k=>by rw [K2];rfl
 | .ret,τ,H,k=>by rw [VY];rfl
 | .exit i,τ,H,k=>by rw [K3];rfl
 | .reg ops,τ,H,k=>by
  rw [VZ]
  simp only [vk,z4I]
  cases kK (zL E) ops τ H<;>rfl
 | .dreg na ops,τ,H,k=>by
  rw [K4]
  have:=z21 (zL E) H.size (k .normal) ops [] τ (pushN na H)
  simp only [vk]
  rw [List.map_nil] at this
  rw [this]
  cases x9 (zL E) H.size ops [] τ (pushN na H)<;>rfl
 | .seq a b,τ,H,k=>by
  rw [W0]
  have h1:vk (zL E) (Jr E) (.seq a b) τ H k=bnE (yI E a τ H) (WR (fun τ H=>vk (zL E) (Jr E) b τ H k) k):=by
   simp only [vk]
   split
   ·rw [jl E a]
   ·rw [jl E a]
   ·rw [jl E a,z4L]
  rw [h1]
  cases yI E a τ H with
  | none=>rfl
  | some x =>
   obtain⟨ex,τ1,H1⟩:=x
   cases ex with
   | normal=>simp only [bnE,WR];exact jl E b τ1 H1 k
   | exit i=>rfl
   | ret=>rfl
 | .cond x a b,τ,H,k=>by
  rw [XB]
  simp only [vk,jl E a,jl E b]
  unfold zG
  split<;>rfl
 | .block i c,τ,H,k=>by
  rw [QT]
  have h1:vk (zL E) (Jr E) (.block i c) τ H k=bnE (yI E c τ H) (z4K i k):=by
   simp only [vk]
   split
   ·rw [jl E c]
   ·rw [jl E c]
   ·rw [jl E c,z4L]
  rw [h1]
  cases yI E c τ H with
  | none=>rfl
  | some x =>
   obtain⟨ex,τ1,H1⟩:=x
   cases ex<;>rfl
 | .loop c,τ,H,k=>rfl
def z4M (res:List vl):zE→Tau→z3→Option (AV × z3):=fun ex τ H=>match ex with
 | .normal=>(y4 τ H res).map fun v=>(v,H)
 | .exit _=>none
 | .ret=>(y4 τ H res).map fun v=>(v,H)
theorem z0X {E:Env} {f:Nat} {fn:AFn} (hs:E.spec f=none) (hf:E.fns f=some fn) (args:List AV) (H:z3) :
  zL E f args H=vk (zL E) (Jr E) fn.code (args++List.replicate (fn.nt - args.length) z4) H (z4M fn.res):=by
 rw [jl]
 refine wP fun x=>?_
 rw [xK]
 constructor
 ·rintro ⟨n,hn⟩
  cases n with
  | zero=>simp [xn] at hn
  | succ n =>
   simp only [xn,hs,hf] at hn
   cases ha:zx E n fn.code (args++List.replicate (fn.nt - args.length) z4) H with
   | none=>rw [ha] at hn;cases hn
   | some y =>
    obtain⟨ex,τ1,H1⟩:=y
    rw [zQ.2 ⟨n,ha⟩]
    rw [ha] at hn
    cases ex<;>first | exact hn | cases hn
 ·intro h
  cases ha:yI E fn.code (args++List.replicate (fn.nt - args.length) z4) H with
  | none=>rw [ha] at h;cases h
  | some y =>
   obtain⟨ex,τ1,H1⟩:=y
   obtain⟨n,hn⟩:=zQ.1 ha
   rw [ha] at h
   refine⟨n+1,?_⟩
   simp only [xn,hs,hf,hn]
   cases ex<;>first | exact h | cases h
theorem wa {E:Env} {f:Nat} {g:List AV→z3→Option (AV × z3)} (hs:E.spec f=some g) (args:List AV) (H:z3):zL E f args H=g args H:=by
 refine wP fun x=>?_
 rw [xK]
 constructor
 ·rintro ⟨n,hn⟩
  cases n with
  | zero=>simp [xn] at hn
  | succ n=>simpa only [xn,hs] using hn
 ·intro h
  exact⟨1,by simpa only [xn,hs] using h⟩
end Go.Ab
