/- The evaluator without fuel, and with what follows handed on. -/
import Derived.Test.YtdbbdfmkglgjdaaSh4
set_option linter.unusedVariables false
set_option linter.unusedSimpArgs false
set_option linter.unusedSectionVars false
namespace Go.Ab

open Classical in
noncomputable def zM (E:Env) (f:Nat) (args:List AV) (H:z3):Option (AV × z3) :=
 if h:∃ r n,xE E n f args H=some r then some (Classical.choose h) else none
open Classical in
noncomputable def yS (E:Env) (c:xk) (τ:Tau) (H:z3):Option (zG × Tau × z3) :=
 if h:∃ r n,zy E n c τ H=some r then some (Classical.choose h) else none
theorem qf {E:Env} {f:Nat} {args:List AV} {H:z3} {r:AV × z3}:zM E f args H=some r↔∃ n,xE E n f args H=some r:=by
 unfold zM
 split
 ·rename_i h
  constructor
  ·intro e
   obtain rfl:=Option.some.inj e
   exact Classical.choose_spec h
  ·rintro ⟨n,hn⟩
   obtain⟨m,hm⟩:=Classical.choose_spec h
   have h1:=QJ (Nat.le_max_left n m) _ _ _ _ hn
   have h2:=QJ (Nat.le_max_right n m) _ _ _ _ hm
   rw [h1] at h2
   exact h2.symm
 ·rename_i h
  exact⟨fun e=>(by cases e),fun⟨n,hn⟩=>absurd ⟨r,n,hn⟩ h⟩
theorem zQ {E:Env} {c:xk} {τ:Tau} {H:z3} {r:zG × Tau × z3}:yS E c τ H=some r↔∃ n,zy E n c τ H=some r:=by
 unfold yS
 split
 ·rename_i h
  constructor
  ·intro e
   obtain rfl:=Option.some.inj e
   exact Classical.choose_spec h
  ·rintro ⟨n,hn⟩
   obtain⟨m,hm⟩:=Classical.choose_spec h
   have h1:=Y7 (Nat.le_max_left n m) hn
   have h2:=Y7 (Nat.le_max_right n m) hm
   rw [h1] at h2
   exact h2.symm
 ·rename_i h
  exact⟨fun e=>(by cases e),fun⟨n,hn⟩=>absurd ⟨r,n,hn⟩ h⟩
theorem z7Q {E:Env} (n:Nat):KY (xE E n) (zM E):=fun _ _ _ _ h=>qf.2 ⟨n,h⟩
theorem z56 {E:Env} {τ:Tau} {H:z3} {op:AOp} {r:AV × z3} (h:qh (zM E) τ H op=some r):∃ n,qh (xE E n) τ H op=some r:=by
 unfold qh at h
 cases ht:x5 τ op with
 | none=>rw [ht] at h;exact⟨0,by unfold qh;rw [ht];exact h⟩
 | some x =>
  obtain⟨g,vs⟩:=x
  rw [ht] at h
  obtain⟨n,hn⟩:=qf.1 h
  exact⟨n,by unfold qh;rw [ht];exact hn⟩
theorem z3Y {E:Env}:∀ (l:List zm) (τ:Tau) (H:z3) (r:Tau × z3),vS (zM E) l τ H=some r→∃ n,vS (xE E n) l τ H=some r
 | [],_,_,_,e=>⟨0,e⟩
 | o::l,τ,H,r,e=>by
  unfold vS at e
  split at e
  ·rename_i hw
   split at e
   ·rename_i v H' hs
    obtain⟨n,hn⟩:=z56 hs
    obtain⟨m,hm⟩:=z3Y l _ _ _ e
    refine⟨max n m,?_⟩
    unfold vS
    rw [if_pos hw,z10 (QJ (Nat.le_max_left n m)) hn]
    exact z11 (QJ (Nat.le_max_right n m)) l _ _ _ hm
   ·cases e
  ·rename_i hw
   obtain⟨m,hm⟩:=z3Y l _ _ _ e
   refine⟨m,?_⟩
   unfold vS
   rw [if_neg hw]
   exact hm
theorem QK {E:Env} (base:Nat):∀ (l:List (zm × DK)) (recs:List Rec) (τ:Tau) (H:z3) (r:Tau × z3),xr (zM E) base l recs τ H=some r→∃ n,xr (xE E n) base l recs τ H=some r
 | [],_,_,_,_,e=>⟨0,e⟩
 | (o,dk)::l,recs,τ,H,r,e=>by
  unfold xr at e
  split at e
  ·rename_i hw
   cases dk with
   | q =>
    simp only at e
    split at e
    ·rename_i v H' hs
     split at e
     ·rename_i hz
      obtain⟨m,hm⟩:=QK base l _ _ _ _ e
      refine⟨m,?_⟩
      unfold xr
      rw [if_pos hw]
      simp only [hs]
      rw [if_pos hz]
      exact hm
     ·cases e
    ·cases e
   | al k =>
    simp only at e
    split at e
    ·rename_i v ob hs
     split at e
     ·rename_i hz
      obtain⟨m,hm⟩:=QK base l _ _ _ _ e
      refine⟨m,?_⟩
      unfold xr
      rw [if_pos hw]
      simp only [hs]
      rw [if_pos hz]
      exact hm
     ·cases e
    ·cases e
   | ef pins =>
    simp only at e
    split at e
    ·rename_i v H' hs
     split at e
     ·rename_i hz
      obtain⟨n,hn⟩:=z56 hs
      obtain⟨m,hm⟩:=QK base l _ _ _ _ e
      refine⟨max n m,?_⟩
      unfold xr
      rw [if_pos hw]
      simp only [z10 (QJ (Nat.le_max_left n m)) hn]
      rw [if_pos hz]
      exact X4 (QJ (Nat.le_max_right n m)) base l _ _ _ _ hm
     ·cases e
    ·cases e
  ·rename_i hw
   obtain⟨m,hm⟩:=QK base l _ _ _ _ e
   refine⟨m,?_⟩
   unfold xr
   rw [if_neg hw]
   exact hm

inductive zdy where
 | none
 | q (f:z3→Option AV) (v:AV)
 | made (r:Nat)
def ckP (H H':z3):zdy→Bool
 | .none=>true
 | .q f v=>match f H' with
  | some v'=>ji v v'
  | none=>false
 | .made r=>match H.get r,H'.get r with
  | some (.cells k z a),some (.cells k' z' b)=>k == k' && z == z' && YC a b
  | _,_=>false
def zcB (H H':z3) (recs:List zdy):List Nat→Bool
 | []=>true
 | p::l=>(match recs[p]? with
  | some q=>ckP H H' q
  | none=>false) && zcB H H' recs l
def opQ (τ:Tau) (H:z3) (op:AOp):Option AV:=match xK op with
 | true=>opP τ.at H op
 | false=>match aop τ H op with
  | some (v,H')=>if H'.size=H.size then some v else none
  | none=>none
theorem X6 {τ:Tau} {H:z3} {op:AOp}:opQ τ H op=match aop τ H op with
  | some (v,H')=>if H'.size=H.size then some v else none
  | none=>none:=by
 unfold opQ
 split
 ·rename_i h
  rw [z12 h]
  cases opP τ.at H op<;>simp
 ·rfl
def zcC:Rec→zdy
 | .none=>.none
 | .q τ op v=>.q (fun H=>opQ τ H op) v
 | .made r=>.made r
theorem zdz (H H':z3) (r:Rec):ckP H H' (zcC r)=v8 H H' r:=by
 cases r with
 | none=>rfl
 | made r=>rfl
 | q τ op v =>
  simp only [zcC,ckP,v8,X6]
  cases aop τ H' op with
  | none=>rfl
  | some x =>
   obtain⟨v',H2⟩:=x
   simp only []
   by_cases h:H2.size=H'.size<;>simp [h]
theorem z3Z (H H':z3) (recs:List Rec):∀ l,zcB H H' (recs.map zcC) l=ke H H' recs l
 | []=>rfl
 | p::l=>by
  simp only [zcB,ke,z3Z H H' recs l,List.getElem?_map]
  cases recs[p]? with
  | none=>rfl
  | some r=>simp [zdz]
def pinB {β:Type} (b:Bool) (o:Option β):Option β:=match b with
 | true=>o
 | false=>none
def zdQ (g:AX→AV) (r:Nat):AOp→Option (AV × zH)
 | .newc cs=>if cs.all AV.one then some (.ptr r 0,.cells .exact cs.length cs) else none
 | .box x=>if (g x).cells.all AV.one then some (.ptr r 0,.cells .exact (g x).cells.length (g x).cells) else none
 | .bsl esz z n ps=>if esz=0∨z.length≠esz∨16777216 < n * esz then none else
  match qE (x8 n z) (ps.map fun(o,s,x)=>(o,s,g x)) with
  | some cs=>if cs.all AV.one then some (.sl r 0 n (.ex n),.cells .exact esz cs) else none
  | none=>none
 | _=>none
theorem zcD (τ:Tau) (r:Nat) (op:AOp):zdQ τ.at r op=xS τ r op:=by cases op<;>rfl
def bnO {β:Type} (o:Option (AV × zH)) (k:AV→zH→Option β):Option β:=match o with
 | some (v,b)=>k v b
 | none=>none
def Zx {α β:Type}:List α→(List α→β)→β
 | [],k=>k []
 | x::l,k=>Zx l fun l=>k (x::l)
theorem z1U {α β:Type}:∀ (l:List α) (k:List α→β),Zx l k=k l
 | [],_=>rfl
 | x::l,k=>by rw [Zx,z1U l]
def JD {β:Type} (call:z8) (base:Nat):List (zm × DK)→List zdy→Tau→z3→(Tau→z3→Option β)→Option β
 | [],_,τ,H,k=>k τ H
 | (o,dk)::l,recs,τ,H,k=>match dk with
  | .q=>match o.guard with
   | none=>bnP (opQ τ H o.op) fun v=>Zx (τ.put o.dst v) fun τ2=>JD call base l (recs++[.q (fun H=>opQ τ H o.op) v]) τ2 H k
   | some g=>bnP (gdP (zg τ (some g)) (opQ τ H o.op)) fun v=>Zx (τ.put o.dst v) fun τ2=>JD call base l (recs++[if zg τ (some g) then .q (fun H=>opQ τ H o.op) v else .none]) τ2 H k
  | .al j=>match o.guard with
   | none=>bnO (zdQ τ.at (base+j) o.op) fun v b=>pinB (H.get (base+j)).isNone (Zx (τ.put o.dst v) fun τ2=>JD call base l (recs++[.made (base+j)]) τ2 (H.put (base+j) (some b)) k)
   | some g=>bnM (if zg τ (some g) then zdP H (base+j) (xS τ (base+j) o.op) else some (z4,.none,H)) fun v r H'=>Zx (τ.put o.dst v) fun τ2=>JD call base l (recs++[zcC r]) τ2 H' k
  | .ef pins=>match o.guard with
   | none=>bnS (match xK o.op with
    | true=>lft H (opP τ.at H o.op)
    | false=>opE call τ.at H o.op) fun v H'=>pinB (zcB H H' recs pins) (Zx (τ.put o.dst v) fun τ2=>JD call base l (recs++[.none]) τ2 H' k)
   | some g=>bnS (gdS (zg τ (some g)) (match xK o.op with
    | true=>lft H (opP τ.at H o.op)
    | false=>opE call τ.at H o.op) H) fun v H'=>pinB (!zg τ (some g) || zcB H H' recs pins) (Zx (τ.put o.dst v) fun τ2=>JD call base l (recs++[.none]) τ2 H' k)
theorem z40 (call:z8) (τ:Tau) (H:z3) (op:AOp):(match xK op with
    | true=>lft H (opP τ.at H op)
    | false=>opE call τ.at H op)=qh call τ H op:=by
 split
 ·rename_i h;rw [JC h];rfl
 ·rename_i h;rw [qC h]
theorem z57 {β:Type} (call:z8) (base:Nat) (k:Tau→z3→Option β):∀ (l:List (zm × DK)) (recs:List Rec) (τ:Tau) (H:z3),
  JD call base l (recs.map zcC) τ H k=(xr call base l recs τ H).bind fun x=>k x.1 x.2
 | [],_,_,_=>rfl
 | (o,dk)::l,recs,τ,H=>by
  have ih:=fun r τ H=>z57 call base k l (recs++[r]) τ H
  simp only [List.map_append,List.map_cons,List.map_nil] at ih
  unfold JD xr
  simp only [z1U]
  cases dk with
  | q =>
   cases hg:o.guard with
   | none =>
    simp only [zg,if_true]
    cases ha:aop τ H o.op with
    | none =>
     have hq:opQ τ H o.op=none:=by rw [X6,ha]
     rw [hq];rfl
    | some x =>
     obtain⟨v,H'⟩:=x
     simp only []
     by_cases hz:H'.size=H.size
     ·have hq:opQ τ H o.op=some v:=by rw [X6,ha];exact if_pos hz
      rw [hq,if_pos hz]
      exact ih (.q τ o.op v) _ _
     ·have hq:opQ τ H o.op=none:=by rw [X6,ha];exact if_neg hz
      rw [hq,if_neg hz];rfl
   | some g =>
    simp only []
    cases hw:zg τ (some g) with
    | true =>
     simp only [if_true,gdP]
     cases ha:aop τ H o.op with
     | none =>
      have hq:opQ τ H o.op=none:=by rw [X6,ha]
      rw [hq];rfl
     | some x =>
      obtain⟨v,H'⟩:=x
      simp only []
      by_cases hz:H'.size=H.size
      ·have hq:opQ τ H o.op=some v:=by rw [X6,ha];exact if_pos hz
       rw [hq,if_pos hz]
       exact ih (.q τ o.op v) _ _
      ·have hq:opQ τ H o.op=none:=by rw [X6,ha];exact if_neg hz
       rw [hq,if_neg hz];rfl
    | false =>
     simp only [gdP,Bool.false_eq_true,if_false]
     exact ih .none _ _
  | al j =>
   cases hg:o.guard with
   | none =>
    simp only [zg,if_true,zcD]
    cases ha:xS τ (base+j) o.op with
    | none=>rfl
    | some x =>
     obtain⟨v,b⟩:=x
     simp only [bnO]
     cases hz:(H.get (base+j)).isNone with
     | true=>simp only [pinB,if_true];exact ih (.made (base+j)) _ _
     | false=>rfl
   | some g =>
    simp only []
    cases hw:zg τ (some g) with
    | true =>
     simp only [if_true]
     cases ha:xS τ (base+j) o.op with
     | none=>rfl
     | some x =>
      obtain⟨v,b⟩:=x
      simp only [zdP]
      cases hz:(H.get (base+j)).isNone with
      | true=>simp only [if_true,bnM];exact ih (.made (base+j)) _ _
      | false=>rfl
    | false =>
     simp only [Bool.false_eq_true,if_false,bnM]
     exact ih .none _ _
  | ef pins =>
   cases hg:o.guard with
   | none =>
    simp only [zg,if_true,z40,z3Z]
    cases ha:qh call τ H o.op with
    | none=>rfl
    | some x =>
     obtain⟨v,H'⟩:=x
     simp only [bnS]
     cases ke H H' recs pins with
     | true=>simp only [pinB,if_true];exact ih .none _ _
     | false=>rfl
   | some g =>
    simp only [z40,z3Z]
    cases hw:zg τ (some g) with
    | true =>
     simp only [if_true,gdS]
     cases ha:qh call τ H o.op with
     | none=>rfl
     | some x =>
      obtain⟨v,H'⟩:=x
      simp only [bnS]
      cases ke H H' recs pins with
      | true=>simp only [pinB,Bool.not_true,Bool.or_true,if_true];exact ih .none _ _
      | false=>rfl
    | false =>
     simp only [Bool.false_eq_true,if_false,gdS,bnS,Bool.not_false,Bool.true_or,pinB]
     exact ih .none _ _
def z41 {β:Type} (call:z8):List zm→Tau→z3→(Tau→z3→Option β)→Option β
 | [],τ,H,k=>k τ H
 | o::l,τ,H,k=>match o.guard with
  | none=>match xK o.op with
   | true=>bnP (opP τ.at H o.op) fun v=>Zx (τ.put o.dst v) fun τ=>z41 call l τ H k
   | false=>bnS (opE call τ.at H o.op) fun v H'=>Zx (τ.put o.dst v) fun τ=>z41 call l τ H' k
  | some g=>match xK o.op with
   | true=>bnP (gdP (zg τ (some g)) (opP τ.at H o.op)) fun v=>Zx (τ.put o.dst v) fun τ=>z41 call l τ H k
   | false=>bnS (gdS (zg τ (some g)) (opE call τ.at H o.op) H) fun v H'=>Zx (τ.put o.dst v) fun τ=>z41 call l τ H' k
theorem z7R {β:Type} (call:z8) (k:Tau→z3→Option β):∀ (l:List zm) (τ:Tau) (H:z3),z41 call l τ H k=(vS call l τ H).bind fun x=>k x.1 x.2
 | [],_,_=>rfl
 | o::l,τ,H=>by
  have ih:=fun τ H=>z7R call k l τ H
  unfold z41 vS
  simp only [z1U]
  cases hg:o.guard with
  | none =>
   simp only [zg,if_true]
   cases hl:xK o.op with
   | true =>
    simp only [JC hl]
    cases opP τ.at H o.op with
    | none=>rfl
    | some v=>exact ih _ _
   | false =>
    simp only [qC hl]
    cases opE call τ.at H o.op with
    | none=>rfl
    | some x=>exact ih _ _
  | some g =>
   simp only []
   cases hw:zg τ (some g) with
   | true =>
    cases hl:xK o.op with
    | true =>
     simp only [JC hl,gdP,if_true]
     cases opP τ.at H o.op with
     | none=>rfl
     | some v=>exact ih _ _
    | false =>
     simp only [qC hl,gdS,if_true]
     cases opE call τ.at H o.op with
     | none=>rfl
     | some x=>exact ih _ _
   | false =>
    cases hl:xK o.op<;>simp only [gdP,gdS,Bool.false_eq_true,if_false,bnP,bnS]<;>exact ih _ _

def exw (i:Nat):xk→Nat
 | .skip | .reg _ | .dreg _ _ | .ret | .loop _=>0
 | .exit j=>if j=i then 1 else 0
 | .seq a b=>min 2 (exw i a+exw i b)
 | .cond _ a b=>min 2 (exw i a+exw i b)
 | .block _ c=>exw i c
def z7S:xk→Nat
 | .skip | .reg _ | .dreg _ _ | .loop _=>1
 | .ret | .exit _=>0
 | .seq a b=>min 2 (z7S a * z7S b)
 | .cond _ a b=>min 2 (z7S a+z7S b)
 | .block i c=>min 2 (z7S c+exw i c)
def bnE {β:Type} (o:Option (zG × Tau × z3)) (k:zG→Tau→z3→Option β):Option β:=match o with
 | some (ex,τ,H)=>k ex τ H
 | none=>none
def z6g:zG→Tau→z3→Option (zG × Tau × z3):=fun ex τ H=>some (ex,τ,H)
abbrev zcE:=xk→Tau→z3→Option (zG × Tau × z3)
def z2P {β:Type} (k1:Tau→z3→Option β) (k:zG→Tau→z3→Option β):zG→Tau→z3→Option β:=fun ex τ H=>match ex with
 | .normal=>k1 τ H
 | .exit i=>k (.exit i) τ H
 | .ret=>k .ret τ H
def z7T {β:Type} (i:Nat) (k:zG→Tau→z3→Option β):zG→Tau→z3→Option β:=fun ex τ H=>match ex with
 | .normal=>k .normal τ H
 | .exit j=>k (if j=i then .normal else .exit j) τ H
 | .ret=>k .ret τ H
def wI {β:Type} (call:z8) (lp:zcE):xk→Tau→z3→(zG→Tau→z3→Option β)→Option β
 | .skip,τ,H,k=>k .normal τ H
 | .ret,τ,H,k=>k .ret τ H
 | .exit i,τ,H,k=>k (.exit i) τ H
 | .reg ops,τ,H,k=>z41 call ops τ H (k .normal)
 | .dreg na ops,τ,H,k=>JD call H.size ops [] τ (pushN na H) (k .normal)
 | .seq a b,τ,H,k=>match z7S a with
  | 0 | 1=>wI call lp a τ H (z2P (fun τ H=>wI call lp b τ H k) k)
  | _=>bnE (wI call lp a τ H z6g) (z2P (fun τ H=>wI call lp b τ H k) k)
 | .cond x a b,τ,H,k=>zr (τ.at x) (fun _=>wI call lp a τ H k) (fun _=>wI call lp b τ H k)
 | .block i c,τ,H,k=>match z7S c+exw i c with
  | 0 | 1=>wI call lp c τ H (z7T i k)
  | _=>bnE (wI call lp c τ H z6g) (z7T i k)
 | .loop c,τ,H,k=>bnE (lp c τ H) k
noncomputable abbrev VS (E:Env):zcE:=fun c τ H=>yS E (.loop c) τ H
section
variable {E:Env} {τ:Tau} {H:z3}
theorem Y8 {α:Type} {a b:Option α} (h:∀ x,a=some x↔b=some x):a=b:=by
 cases a with
 | none=>cases b with
  | none=>rfl
  | some y=>exact absurd ((h y).2 rfl) (by simp)
 | some x=>exact((h x).1 rfl).symm
theorem WK:yS E .skip τ H=some (.normal,τ,H):=zQ.2 ⟨1,rfl⟩
theorem z1V:yS E .ret τ H=some (.ret,τ,H):=zQ.2 ⟨1,rfl⟩
theorem WL {i:Nat}:yS E (.exit i) τ H=some (.exit i,τ,H):=zQ.2 ⟨1,rfl⟩
theorem z1W {ops:List zm}:yS E (.reg ops) τ H=(vS (zM E) ops τ H).map fun(τ,H)=>(.normal,τ,H):=by
 refine Y8 fun x=>?_
 rw [zQ]
 constructor
 ·rintro ⟨n,hn⟩
  cases n with
  | zero=>simp [zy] at hn
  | succ n =>
   simp only [zy] at hn
   obtain⟨y,hy,rfl⟩:=Option.map_eq_some_iff.1 hn
   rw [z11 (z7Q n) _ _ _ _ hy];rfl
 ·intro h
  obtain⟨y,hy,rfl⟩:=Option.map_eq_some_iff.1 h
  obtain⟨n,hn⟩:=z3Y _ _ _ _ hy
  exact⟨n+1,by simp only [zy,hn];rfl⟩
theorem WM {na:Nat} {ops:List (zm × DK)}:yS E (.dreg na ops) τ H=(xr (zM E) H.size ops [] τ (pushN na H)).map fun(τ,H)=>(.normal,τ,H):=by
 refine Y8 fun x=>?_
 rw [zQ]
 constructor
 ·rintro ⟨n,hn⟩
  cases n with
  | zero=>simp [zy] at hn
  | succ n =>
   simp only [zy] at hn
   obtain⟨y,hy,rfl⟩:=Option.map_eq_some_iff.1 hn
   rw [X4 (z7Q n) _ _ _ _ _ _ hy];rfl
 ·intro h
  obtain⟨y,hy,rfl⟩:=Option.map_eq_some_iff.1 h
  obtain⟨n,hn⟩:=QK _ _ _ _ _ _ hy
  exact⟨n+1,by simp only [zy,hn];rfl⟩
theorem z1X {a b:xk}:yS E (.seq a b) τ H=bnE (yS E a τ H) (z2P (fun τ H=>yS E b τ H) z6g):=by
 refine Y8 fun x=>?_
 rw [zQ]
 constructor
 ·rintro ⟨n,hn⟩
  cases n with
  | zero=>simp [zy] at hn
  | succ n =>
   simp only [zy] at hn
   cases ha:zy E n a τ H with
   | none=>rw [ha] at hn;cases hn
   | some y =>
    obtain⟨ex,τ1,H1⟩:=y
    rw [zQ.2 ⟨n,ha⟩]
    rw [ha] at hn
    cases ex with
    | normal=>exact zQ.2 ⟨n,hn⟩
    | exit i=>exact hn
    | ret=>exact hn
 ·intro h
  cases ha:yS E a τ H with
  | none=>rw [ha] at h;cases h
  | some y =>
   obtain⟨ex,τ1,H1⟩:=y
   obtain⟨n,hn⟩:=zQ.1 ha
   rw [ha] at h
   cases ex with
   | normal =>
    obtain⟨m,hm⟩:=zQ.1 h
    exact⟨max n m+1,by simp only [zy,Y7 (Nat.le_max_left n m) hn,Y7 (Nat.le_max_right n m) hm]⟩
   | exit i=>exact⟨n+1,by simp only [zy,hn];exact h⟩
   | ret=>exact⟨n+1,by simp only [zy,hn];exact h⟩
theorem JE {x:AX} {a b:xk}:yS E (.cond x a b) τ H=zr (τ.at x) (fun _=>yS E a τ H) (fun _=>yS E b τ H):=by
 refine Y8 fun y=>?_
 rw [zQ]
 unfold zr
 constructor
 ·rintro ⟨n,hn⟩
  cases n with
  | zero=>simp [zy] at hn
  | succ n =>
   simp only [zy] at hn
   split at hn
   ·rename_i t ht
    rw [ht]
    cases t
    ·exact zQ.2 ⟨n,hn⟩
    ·exact zQ.2 ⟨n,hn⟩
   ·cases hn
 ·intro h
  split at h
  ·rename_i ht
   obtain⟨n,hn⟩:=zQ.1 h
   exact⟨n+1,by simp only [zy,ht,if_true,hn]⟩
  ·rename_i ht
   obtain⟨n,hn⟩:=zQ.1 h
   exact⟨n+1,by simp only [zy,ht,Bool.false_eq_true,if_false,hn]⟩
  ·cases h
theorem V0 {i:Nat} {c:xk}:yS E (.block i c) τ H=bnE (yS E c τ H) (z7T i z6g):=by
 refine Y8 fun y=>?_
 rw [zQ]
 constructor
 ·rintro ⟨n,hn⟩
  cases n with
  | zero=>simp [zy] at hn
  | succ n =>
   simp only [zy] at hn
   cases ha:zy E n c τ H with
   | none=>rw [ha] at hn;cases hn
   | some z =>
    rw [zQ.2 ⟨n,ha⟩]
    rw [ha] at hn
    obtain⟨ex,τ1,H1⟩:=z
    cases ex<;>exact hn
 ·intro h
  cases ha:yS E c τ H with
  | none=>rw [ha] at h;cases h
  | some z =>
   obtain⟨ex,τ1,H1⟩:=z
   obtain⟨n,hn⟩:=zQ.1 ha
   rw [ha] at h
   refine⟨n+1,?_⟩
   cases ex<;>(simp only [zy,hn];exact h)
theorem z42 {c:xk}:VS E c τ H=bnE (yS E c τ H) (z2P (fun τ H=>VS E c τ H) z6g):=by
 refine Y8 fun x=>?_
 simp only [VS]
 rw [zQ]
 constructor
 ·rintro ⟨n,hn⟩
  cases n with
  | zero=>simp [zy] at hn
  | succ n =>
   simp only [zy] at hn
   cases ha:zy E n c τ H with
   | none=>rw [ha] at hn;cases hn
   | some y =>
    obtain⟨ex,τ1,H1⟩:=y
    rw [zQ.2 ⟨n,ha⟩]
    rw [ha] at hn
    cases ex with
    | normal=>exact zQ.2 ⟨n,hn⟩
    | exit i=>exact hn
    | ret=>exact hn
 ·intro h
  cases ha:yS E c τ H with
  | none=>rw [ha] at h;cases h
  | some y =>
   obtain⟨ex,τ1,H1⟩:=y
   obtain⟨n,hn⟩:=zQ.1 ha
   rw [ha] at h
   cases ex with
   | normal =>
    obtain⟨m,hm⟩:=zQ.1 h
    exact⟨max n m+1,by simp only [zy,Y7 (Nat.le_max_left n m) hn,Y7 (Nat.le_max_right n m) hm]⟩
   | exit i=>exact⟨n+1,by simp only [zy,hn];exact h⟩
   | ret=>exact⟨n+1,by simp only [zy,hn];exact h⟩
end
theorem z7U (o:Option (zG × Tau × z3)):bnE o z6g=o:=by
 cases o<;>rfl
theorem jV {β:Type} (E:Env):∀ (c:xk) (τ:Tau) (H:z3) (k:zG→Tau→z3→Option β),wI (zM E) (VS E) c τ H k=bnE (yS E c τ H) k
 | .skip,τ,H,k=>by rw [WK];rfl
 | .ret,τ,H,k=>by rw [z1V];rfl
 | .exit i,τ,H,k=>by rw [WL];rfl
 | .reg ops,τ,H,k=>by
  rw [z1W]
  simp only [wI,z7R]
  cases vS (zM E) ops τ H<;>rfl
 | .dreg na ops,τ,H,k=>by
  rw [WM]
  have:=z57 (zM E) H.size (k .normal) ops [] τ (pushN na H)
  simp only [wI]
  rw [List.map_nil] at this
  rw [this]
  cases xr (zM E) H.size ops [] τ (pushN na H)<;>rfl
 | .seq a b,τ,H,k=>by
  rw [z1X]
  have h1:wI (zM E) (VS E) (.seq a b) τ H k=bnE (yS E a τ H) (z2P (fun τ H=>wI (zM E) (VS E) b τ H k) k):=by
   simp only [wI]
   split
   ·rw [jV E a]
   ·rw [jV E a]
   ·rw [jV E a,z7U]
  rw [h1]
  cases yS E a τ H with
  | none=>rfl
  | some x =>
   obtain⟨ex,τ1,H1⟩:=x
   cases ex with
   | normal=>simp only [bnE,z2P];exact jV E b τ1 H1 k
   | exit i=>rfl
   | ret=>rfl
 | .cond x a b,τ,H,k=>by
  rw [JE]
  simp only [wI,jV E a,jV E b]
  unfold zr
  split<;>rfl
 | .block i c,τ,H,k=>by
  rw [V0]
  have h1:wI (zM E) (VS E) (.block i c) τ H k=bnE (yS E c τ H) (z7T i k):=by
   simp only [wI]
   split
   ·rw [jV E c]
   ·rw [jV E c]
   ·rw [jV E c,z7U]
  rw [h1]
  cases yS E c τ H with
  | none=>rfl
  | some x =>
   obtain⟨ex,τ1,H1⟩:=x
   cases ex<;>rfl
 | .loop c,τ,H,k=>rfl
def z7V (res:List wJ):zG→Tau→z3→Option (AV × z3):=fun ex τ H=>match ex with
 | .normal=>(y6 τ H res).map fun v=>(v,H)
 | .exit _=>none
 | .ret=>(y6 τ H res).map fun v=>(v,H)
theorem z43 {E:Env} {f:Nat} {fn:AFn} (hs:E.spec f=none) (hf:E.fns f=some fn) (args:List AV) (H:z3) :
  zM E f args H=wI (zM E) (VS E) fn.code (args++List.replicate (fn.nt - args.length) z4) H (z7V fn.res):=by
 rw [jV]
 refine Y8 fun x=>?_
 rw [qf]
 constructor
 ·rintro ⟨n,hn⟩
  cases n with
  | zero=>simp [xE] at hn
  | succ n =>
   simp only [xE,hs,hf] at hn
   cases ha:zy E n fn.code (args++List.replicate (fn.nt - args.length) z4) H with
   | none=>rw [ha] at hn;cases hn
   | some y =>
    obtain⟨ex,τ1,H1⟩:=y
    rw [zQ.2 ⟨n,ha⟩]
    rw [ha] at hn
    cases ex<;>first | exact hn | cases hn
 ·intro h
  cases ha:yS E fn.code (args++List.replicate (fn.nt - args.length) z4) H with
  | none=>rw [ha] at h;cases h
  | some y =>
   obtain⟨ex,τ1,H1⟩:=y
   obtain⟨n,hn⟩:=zQ.1 ha
   rw [ha] at h
   refine⟨n+1,?_⟩
   simp only [xE,hs,hf,hn]
   cases ex<;>first | exact h | cases h
theorem Zy {E:Env} {f:Nat} {g:List AV→z3→Option (AV × z3)} (hs:E.spec f=some g) (args:List AV) (H:z3):zM E f args H=g args H:=by
 refine Y8 fun x=>?_
 rw [qf]
 constructor
 ·rintro ⟨n,hn⟩
  cases n with
  | zero=>simp [xE] at hn
  | succ n=>simpa only [xE,hs] using hn
 ·intro h
  exact⟨1,by simpa only [xE,hs] using h⟩
end Go.Ab
