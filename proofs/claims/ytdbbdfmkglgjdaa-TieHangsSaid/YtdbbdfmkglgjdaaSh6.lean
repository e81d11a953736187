/- Temporaries that nothing reads any more may be forgotten: code with such forgetting put in tells what the code tells. -/
import Derived.Test.YtdbbdfmkglgjdaaSh5
set_option linter.unusedVariables false
set_option linter.unusedSimpArgs false
set_option linter.unusedSectionVars false
namespace Go.Ab
def KC:AOp→List AX
 | .mv x=>[x]
 | .pick c a b=>[c,a,b]
 | .newc _=>[]
 | .box x=>[x]
 | .build _ ps=>ps.map fun p=>p.2.2
 | .bsl _ _ _ ps=>ps.map fun p=>p.2.2
 | .ld x=>[x]
 | .ldn _ x=>[x]
 | .st _ a v=>[a,v]
 | .nck x=>[x]
 | .bin _ x y=>[x,y]
 | .eqs _ _ x y=>[x,y]
 | .eqn _ _ x=>[x]
 | .un _ x=>[x]
 | .cvi _ x=>[x]
 | .cvs x=>[x]
 | .stf x=>[x]
 | .s2b x=>[x]
 | .b2s x=>[x]
 | .mki _ x=>[x]
 | .mkf _ fs cs=>fs++cs
 | .mks _ _ _ l c=>[l,c]
 | .slc _ x lo hi mx=>x::(lo.toList++hi.toList++mx.toList)
 | .sls x lo hi=>x::(lo.toList++hi.toList)
 | .sla _ _ x lo hi=>x::(lo.toList++hi.toList)
 | .fad _ x=>[x]
 | .fld _ _ x=>[x]
 | .iad _ x i=>[x,i]
 | .iaa _ _ x i=>[x,i]
 | .ixs x i=>[x,i]
 | .ixa _ _ _ x i=>[x,i]
 | .tas _ _ _ x=>[x]
 | .ext x _=>[x]
 | .len x=>[x]
 | .lens x=>[x]
 | .lena _=>[]
 | .cap x=>[x]
 | .mxi l=>l
 | .mni l=>l
 | .app _ _ _ s x=>[s,x]
 | .apz _ _ _ s n=>[s,n]
 | .cpy _ d s=>[d,s]
 | .clr _ _ x=>[x]
 | .call f args=>f::args
 | .inv _ r args=>r::args
 | .rng x=>[x]
 | .nxt x=>[x]
 | .mkm=>[]
 | .mlk _ _ _ x k=>[x,k]
 | .mup _ m k v=>[m,k,v]
 | .lnm x=>[x]
section
variable {τ τ':Tau} {H:z3}
theorem z0I {l:List AX} (h:∀ x ∈ l,τ.at x=τ'.at x):l.map τ.at=l.map τ'.at:=List.map_congr_left h
theorem QF {o:Option AX} (h:∀ x ∈ o.toList,τ.at x=τ'.at x):o.map τ.at=o.map τ'.at:=by
 cases o with
 | none=>rfl
 | some x=>simp [h x (by simp)]
theorem z2C {ps:List (Nat × Nat × AX)} (h:∀ x ∈ ps.map (fun p=>p.2.2),τ.at x=τ'.at x) :
  ps.map (fun(o,s,x)=>(o,s,τ.at x))=ps.map (fun(o,s,x)=>(o,s,τ'.at x)):=by
 refine List.map_congr_left fun p hp=>?_
 obtain⟨o,s,x⟩:=p
 show (o,s,τ.at x)=(o,s,τ'.at x)
 rw [h x (List.mem_map.2 ⟨_,hp,rfl⟩)]
theorem z3E {op:AOp} (h:∀ x ∈ KC op,τ.at x=τ'.at x):aop τ H op=aop τ' H op:=by
 cases op<;>simp only [KC,List.mem_cons,List.not_mem_nil,or_false,forall_eq_or_imp,forall_eq,List.mem_append,false_imp_iff,implies_true] at h<;>simp only [aop]
 case pick c a b =>
  rw [h.1]
  cases τ'.at c with
  | bool t=>cases t<;>simp [h.2.1,h.2.2]
  | _=>rfl
 case build z ps=>rw [z2C h]
 case bsl a b c ps=>rw [z2C h]
 case mkf f fs cs=>rw [z0I fun x hx=>h x (Or.inl hx),z0I fun x hx=>h x (Or.inr hx)]
 case slc e x lo hi mx=>rw [h.1,QF fun x hx=>h.2 x (Or.inl (Or.inl hx)),QF fun x hx=>h.2 x (Or.inl (Or.inr hx)),QF fun x hx=>h.2 x (Or.inr hx)]
 case sls x lo hi=>rw [h.1,QF fun x hx=>h.2 x (Or.inl hx),QF fun x hx=>h.2 x (Or.inr hx)]
 case sla n e x lo hi=>rw [h.1,QF fun x hx=>h.2 x (Or.inl hx),QF fun x hx=>h.2 x (Or.inr hx)]
 case mxi l=>rw [z0I h]
 case mni l=>rw [z0I h]
 case mup q m k v=>rw [h.1,h.2.1,h.2.2]
 case mlk q z ok x k=>rw [h.1,h.2]
 all_goals first | rw [h] | (rw [h.1];rw [h.2];done) | rfl
theorem z4K {op:AOp} (h:∀ x ∈ KC op,τ.at x=τ'.at x):yW τ op=yW τ' op:=by
 cases op<;>try rfl
 case call f args =>
  simp only [KC,List.mem_cons,forall_eq_or_imp] at h
  simp only [yW]
  rw [h.1,z0I h.2]
 case inv tab r args =>
  simp only [KC,List.mem_cons,forall_eq_or_imp] at h
  simp only [yW]
  rw [h.1,z0I h.2]
theorem z6p {op:AOp} {r:Nat} (h:∀ x ∈ KC op,τ.at x=τ'.at x):xE τ r op=xE τ' r op:=by
 cases op<;>try rfl
 case box x =>
  simp only [KC,List.mem_cons,List.not_mem_nil,or_false,forall_eq] at h
  simp only [xE]
  rw [h]
 case bsl a b c ps =>
  simp only [KC] at h
  simp only [xE]
  rw [z2C h]
end

def zaX:AX→Nat
 | .t n=>2 ^ n
 | .c _=>0
def z6q:List AX→Nat
 | []=>0
 | x::l=>zaX x ||| z6q l
def zaY (s:Nat):Option Nat→Nat
 | none=>s
 | some d=>s ^^^ (s &&& 2 ^ d)
def zdi:Option (Nat × Bool)→Nat
 | none=>0
 | some (t,_)=>2 ^ t
def sub (a b:Nat):Prop:=∀ t,a.testBit t=true→b.testBit t=true
theorem WR (a:Nat):sub a a:=fun _ h=>h
theorem ZN {a b c:Nat} (h:sub (a ||| b) c):sub a c:=fun t ht=>h t (by simp [Nat.testBit_or,ht])
theorem Z1 {a b c:Nat} (h:sub (a ||| b) c):sub b c:=fun t ht=>h t (by simp [Nat.testBit_or,ht])
theorem zbU {a b:Nat} (h:a &&& b=a):sub a b:=fun t ht=>by
 rw [← h] at ht
 simp [Nat.testBit_and] at ht
 exact ht.2
def Agr (s:Nat) (τ τ':Tau):Prop:=τ.length=τ'.length∧∀ t,s.testBit t=true→τ[t]? = τ'[t]?
theorem Agr.sub {s u:Nat} {τ τ':Tau} (h:Agr s τ τ') (hs:sub u s):Agr u τ τ':=⟨h.1,fun t ht=>h.2 t (hs t ht)⟩
theorem z6r (n t:Nat):(2 ^ n).testBit t=decide (n=t):=Nat.testBit_two_pow
theorem Agr.at {s:Nat} {τ τ':Tau} (h:Agr s τ τ'):∀ {l:List AX},Go.Ab.sub (z6q l) s→∀ x ∈ l,τ.at x=τ'.at x
 | [],_,_,hx=>by simp at hx
 | y::l,hs,x,hx=>by
  rcases List.mem_cons.1 hx with rfl | hx
  ·cases x with
   | c v=>rfl
   | t n =>
    have:=h.2 n (ZN hs n (by simp [zaX]))
    simp only [Tau.at,List.getD_eq_getElem?_getD,this]
  ·exact Agr.at h (Z1 hs) x hx
theorem Agr.put {s:Nat} {τ τ':Tau} {d:Option Nat} (v:AV) (h:Agr (zaY s d) τ τ'):Agr s (τ.put d v) (τ'.put d v):=by
 cases d with
 | none=>exact h
 | some d =>
  simp only [Tau.put]
  refine⟨by simp [h.1],fun t ht=>?_⟩
  rw [List.getElem?_set,List.getElem?_set]
  by_cases hd:d=t
  ·simp [hd,h.1]
  ·simp only [if_neg hd]
   refine h.2 t ?_
   simp only [zaY,Nat.testBit_xor,Nat.testBit_and,z6r,ht,Bool.true_and]
   simp [hd]
theorem Agr.wanted {s:Nat} {τ τ':Tau} (h:Agr s τ τ') {g:Option (Nat × Bool)} (hs:Go.Ab.sub (zdi g) s):z8 τ g=z8 τ' g:=by
 cases g with
 | none=>rfl
 | some x =>
  obtain⟨t,w⟩:=x
  simp only [z8]
  rw [h.2 t (hs t (by simp [zdi]))]
theorem Agr.put_dead {s:Nat} {τ τ':Tau} {d:Nat} (v:AV) (h:Agr s τ τ') (hd:s.testBit d=false):Agr s τ (τ'.set d v):=by
 refine⟨by simp [h.1],fun t ht=>?_⟩
 rw [List.getElem?_set]
 by_cases e:d=t
 ·subst e;rw [hd] at ht;cases ht
 ·rw [if_neg e];exact h.2 t ht

def zbV (o:zj) (s:Nat):Nat:=z6q (KC o.op) ||| (zdi o.guard ||| zaY s o.dst)
def z3F:List zj→Nat→Nat
 | [],s=>s
 | o::l,s=>zbV o (z3F l s)
def z0J:List (zj × DK)→Nat→Nat
 | [],s=>s
 | o::l,s=>zbV o.1 (z0J l s)
section
variable {call call':z7} (hc:JI call' call)
include hc
theorem z3G {s:Nat} {τ τ':Tau} (h:Agr s τ τ') {op:AOp} (hs:sub (z6q (KC op)) s) {H:z3} {r:AV × z3} (e:xU call' τ' H op=some r):xU call τ H op=some r:=by
 unfold xU at e ⊢
 rw [z4K (h.at hs)]
 split at e
 ·exact hc _ _ _ _ e
 ·rw [z3E (h.at hs)];exact e
theorem z2D:∀ (l:List zj) (s:Nat) (τ τ':Tau) (H:z3) (τ1':Tau) (H1:z3),Agr (z3F l s) τ τ'→vr call' l τ' H=some (τ1',H1)→∃ τ1,vr call l τ H=some (τ1,H1)∧Agr s τ1 τ1'
 | [],s,τ,τ',H,τ1',H1,h,e=>by
  simp only [vr,Option.some.injEq,Prod.mk.injEq] at e
  obtain⟨rfl,rfl⟩:=e
  exact⟨τ,rfl,h⟩
 | o::l,s,τ,τ',H,τ1',H1,h,e=>by
  unfold vr at e ⊢
  have hz:sub (zbV o (z3F l s)) (z3F (o::l) s):=WR _
  rw [h.wanted (ZN (Z1 hz))]
  have hp:Agr (zaY (z3F l s) o.dst) τ τ':=h.sub (Z1 (Z1 hz))
  split at e
  ·rename_i hw
   rw [if_pos hw]
   split at e
   ·rename_i v H' hs
    rw [z3G hc h (ZN hz) hs]
    exact z2D l s _ _ _ _ _ (hp.put v) e
   ·cases e
  ·rename_i hw
   rw [if_neg hw]
   exact z2D l s _ _ _ _ _ (hp.put _) e
def VA (a b:List Rec):Prop:=a.length=b.length∧∀ (p:Nat) (H H':z3),(match a[p]? with
  | some q=>kD H H' q
  | none=>false)=(match b[p]? with
  | some q=>kD H H' q
  | none=>false)
omit hc in
theorem VA.push {a b:List Rec} (h:VA a b) {q r:Rec} (hq:∀ H H',kD H H' q=kD H H' r):VA (a++[q]) (b++[r]):=by
 refine⟨by simp [h.1],fun p H H'=>?_⟩
 rcases Nat.lt_trichotomy p a.length with hp | hp | hp
 ·rw [List.getElem?_append_left hp,List.getElem?_append_left (h.1 ▸ hp)]
  exact h.2 p H H'
 ·subst hp
  simp only [List.getElem?_concat_length]
  rw [h.1,List.getElem?_concat_length]
  exact hq H H'
 ·have:=h.1
  rw [List.getElem?_eq_none (by simp;omega),List.getElem?_eq_none (by simp;omega)]
omit hc in
theorem VA.pins {a b:List Rec} (h:VA a b) (H H':z3):∀ pins,jF H H' a pins=jF H H' b pins
 | []=>rfl
 | p::l=>by
  have:=congr (congrArg and (h.2 p H H')) (VA.pins h H H' l)
  exact this
theorem XN (base:Nat):∀ (l:List (zj × DK)) (s:Nat) (recs recs':List Rec) (τ τ':Tau) (H:z3) (τ1':Tau) (H1:z3),VA recs recs'→Agr (z0J l s) τ τ' →
  xg call' base l recs' τ' H=some (τ1',H1)→∃ τ1,xg call base l recs τ H=some (τ1,H1)∧Agr s τ1 τ1'
 | [],s,recs,recs',τ,τ',H,τ1',H1,_,h,e=>by
  simp only [xg,Option.some.injEq,Prod.mk.injEq] at e
  obtain⟨rfl,rfl⟩:=e
  exact⟨τ,rfl,h⟩
 | (o,dk)::l,s,recs,recs',τ,τ',H,τ1',H1,hr,h,e=>by
  unfold xg at e ⊢
  have hz:sub (zbV o (z0J l s)) (z0J ((o,dk)::l) s):=WR _
  rw [h.wanted (ZN (Z1 hz))]
  have hp:Agr (zaY (z0J l s) o.dst) τ τ':=h.sub (Z1 (Z1 hz))
  have ha:=fun(H:z3)=>z3E (H:=H) (h.at (ZN hz))
  split at e
  ·rename_i hw
   rw [if_pos hw]
   cases dk with
   | q =>
    simp only at e ⊢
    rw [ha]
    split at e
    ·rename_i v H' hs
     split at e
     ·rename_i hy
      rw [if_pos hy]
      exact XN base l s _ _ _ _ _ _ _ (hr.push fun H H'=>by simp only [kD,ha]) (hp.put v) e
     ·cases e
    ·cases e
   | al k =>
    simp only at e ⊢
    rw [z6p (h.at (ZN hz))]
    split at e
    ·rename_i v ob hs
     split at e
     ·rename_i hy
      rw [if_pos hy]
      exact XN base l s _ _ _ _ _ _ _ (hr.push fun H H'=>rfl) (hp.put v) e
     ·cases e
    ·cases e
   | ef pins =>
    simp only at e ⊢
    split at e
    ·rename_i v H' hs
     rw [z3G hc h (ZN hz) hs]
     simp only
     split at e
     ·rename_i hy
      rw [hr.pins,if_pos hy]
      exact XN base l s _ _ _ _ _ _ _ (hr.push fun H H'=>rfl) (hp.put v) e
     ·cases e
    ·cases e
  ·rename_i hw
   rw [if_neg hw]
   exact XN base l s _ _ _ _ _ _ _ (hr.push fun H H'=>rfl) (hp.put _) e
end

def zaZ:zj→Option Nat
 | ⟨some d,.mv (.c (.tup [])),none⟩=>some d
 | _=>none
def z6s:List zj→Option Nat
 | []=>some 0
 | o::l=>match zaZ o,z6s l with
  | some d,some s=>some (2 ^ d ||| s)
  | _,_=>none
def WS:x7→Option Nat
 | .reg ops=>z6s ops
 | _=>none
def vk:x7→x7
 | .seq a b=>match WS a with
  | some _=>vk b
  | none=>.seq (vk a) (vk b)
 | .cond x a b=>.cond x (vk a) (vk b)
 | .block i c=>.block i (vk c)
 | .loop c=>.loop (vk c)
 | c=>c
def lvC (out:Nat) (exs:List (Nat × Nat)) (rt:Nat):x7→Option Nat
 | .skip=>some out
 | .ret=>some rt
 | .exit i=>exs.lookup i
 | .reg ops=>some (z3F ops out)
 | .dreg _ ops=>some (z0J ops out)
 | .seq a b=>match lvC out exs rt b with
  | none=>none
  | some s=>match WS a with
   | some k=>if k &&& s=0 then some s else none
   | none=>lvC s exs rt a
 | .cond x a b=>match lvC out exs rt a,lvC out exs rt b with
  | some s,some t=>some (zaX x ||| (s ||| t))
  | _,_=>none
 | .block i c=>lvC out ((i,out)::exs) rt c
 | .loop c=>match lvC 0 exs rt c with
  | none=>none
  | some s1=>match lvC s1 exs rt c with
   | none=>none
   | some s2=>match lvC s2 exs rt c with
    | none=>none
    | some s3=>if s3 &&& s2=s3 then some s2 else none
def z3H (out:Nat) (exs:List (Nat × Nat)) (rt:Nat):zE→Nat
 | .normal=>out
 | .exit i=>(exs.lookup i).getD 0
 | .ret=>rt
theorem z3I (call:z7):∀ (l:List zj) (k s:Nat) (τ τ':Tau) (H:z3) (τ1':Tau) (H1:z3),z6s l=some k→k &&& s=0→Agr s τ τ'→vr call l τ' H=some (τ1',H1)→H1=H∧Agr s τ τ1'
 | [],k,s,τ,τ',H,τ1',H1,_,_,h,e=>by
  simp only [vr,Option.some.injEq,Prod.mk.injEq] at e
  obtain⟨rfl,rfl⟩:=e
  exact⟨rfl,h⟩
 | o::l,k,s,τ,τ',H,τ1',H1,hk,hz,h,e=>by
  simp only [z6s] at hk
  split at hk
  ·rename_i d k' ho hl
   obtain rfl:=Option.some.inj hk
   unfold zaZ at ho
   split at ho
   ·obtain rfl:=(Option.some.inj ho).symm
    simp only [vr,z8,if_true,xU,yW,aop,Tau.at,Tau.put] at e
    have hd:s.testBit d=false:=by
     have:=congrArg (fun n=>n.testBit d) hz
     simp [Nat.testBit_and,Nat.testBit_or] at this
     simpa using this
    have hz':k' &&& s=0:=by
     apply Nat.eq_of_testBit_eq
     intro i
     have:=congrArg (fun n=>n.testBit i) hz
     simp only [Nat.testBit_and,Nat.testBit_or,Nat.zero_testBit] at this ⊢
     cases h1:k'.testBit i<;>simp_all
    exact z3I call l k' s τ _ H τ1' H1 hl hz' (h.put_dead _ hd) e
   ·cases ho
  ·cases hk
section
variable {E E':Env}
def JL (fn:AFn):AFn:=⟨fn.nt,vk fn.code,fn.res⟩
def ZO:List vV→Nat
 | []=>0
 | .tmp t::l=>2 ^ t ||| ZO l
 | .cell a _::l=>2 ^ a ||| ZO l
def z0K (fn:AFn):Bool:=(lvC (ZO fn.res) [] (ZO fn.res) fn.code).isSome
theorem z1d {τ τ':Tau} {H:z3} {l:List vV} (h:Agr (ZO l) τ τ'):y5 τ H l=y5 τ' H l:=by
 have:zO (jl τ H) l=zO (jl τ' H) l:=by
  have key:∀ (l:List vV) (s:Nat),sub (ZO l) s→Agr s τ τ'→zO (jl τ H) l=zO (jl τ' H) l:=by
   intro l
   induction l with
   | nil=>intro _ _ _;rfl
   | cons r l ih =>
    intro s hs h
    have h1:jl τ H r=jl τ' H r:=by
     cases r with
     | tmp t=>simp only [jl];exact h.2 t (hs t (by simp [ZO,Nat.testBit_or]))
     | cell a n =>
      simp only [jl]
      rw [h.2 a (hs a (by simp [ZO,Nat.testBit_or]))]
    have h2:=ih s (fun t ht=>hs t (by cases r<;>simp [ZO,Nat.testBit_or,ht])) h
    simp only [zO,h1,h2]
  exact key l _ (WR _) h
 simp only [y5,this]
structure z0L (E E':Env):Prop where
 spec:E'.spec=E.spec
 fns:∀ f fn,E'.fns f=some fn→E.fns f=some (JL fn)∧z0K fn=true
theorem z4L {i j out:Nat} {exs:List (Nat × Nat)} (h:j≠i):((i,out)::exs).lookup j=exs.lookup j:=by
 simp [List.lookup,show (j == i)=false from by simpa using h]
theorem z6t (hS:z0L E E'):∀ n,JI (xt E' n) (zM E) ∧
  ∀ c out exs rt s τ τ' H ex τ1' H1,lvC out exs rt c=some s→Agr s τ τ'→zu E' n c τ' H=some (ex,τ1',H1)→∃ τ1,yK E (vk c) τ H=some (ex,τ1,H1)∧Agr (z3H out exs rt ex) τ1 τ1':=by
 intro n
 induction n with
 | zero=>exact⟨fun f args H r h=>by simp [xt] at h,fun c out exs rt s τ τ' H ex τ1' H1 _ _ h=>by simp [zu] at h⟩
 | succ n ih =>
  obtain⟨ihc,ihe⟩:=ih
  refine⟨fun f args H r h=>?_,?_⟩
  ·unfold xt at h
   split at h
   ·rename_i g hg
    rw [hS.spec] at hg
    rw [wT hg]
    exact h
   ·rename_i hg
    rw [hS.spec] at hg
    split at h
    ·cases h
    ·rename_i fn hfn
     obtain⟨h1,h2⟩:=hS.fns f fn hfn
     rw [z2B hg h1,jA]
     unfold z0K at h2
     obtain⟨s,hs⟩:=Option.isSome_iff_exists.1 h2
     cases he:zu E' n fn.code (args++List.replicate (fn.nt - args.length) z4) H with
     | none=>rw [he] at h;cases h
     | some x =>
      obtain⟨ex,τ1',H1⟩:=x
      obtain⟨τ1,hτ,hag⟩:=ihe _ _ _ _ _ _ _ _ _ _ _ hs ⟨rfl,fun _ _=>rfl⟩ he
      rw [he] at h
      show bnE (yK E (vk fn.code) (args++List.replicate (fn.nt - args.length) z4) H) (z6o fn.res)=some r
      rw [hτ]
      cases ex with
      | normal=>simp only [bnE,z6o];rw [z1d hag];exact h
      | exit i=>cases h
      | ret=>simp only [bnE,z6o];rw [z1d hag];exact h
  ·intro c out exs rt s τ τ' H ex τ1' H1 hl ha he
   unfold zu at he
   cases c with
   | skip =>
    obtain rfl:=Option.some.inj hl
    simp only [Option.some.injEq,Prod.mk.injEq] at he
    obtain⟨rfl,rfl,rfl⟩:=he
    exact⟨τ,Vx,ha⟩
   | ret =>
    obtain rfl:=Option.some.inj hl
    simp only [Option.some.injEq,Prod.mk.injEq] at he
    obtain⟨rfl,rfl,rfl⟩:=he
    exact⟨τ,z0F,ha⟩
   | exit i =>
    simp only [Option.some.injEq,Prod.mk.injEq] at he
    obtain⟨rfl,rfl,rfl⟩:=he
    simp only [lvC] at hl
    exact⟨τ,Vy,by simp only [z3H,hl,Option.getD_some];exact ha⟩
   | reg ops =>
    obtain rfl:=Option.some.inj hl
    simp only at he
    obtain⟨y,hy,he⟩:=Option.map_eq_some_iff.1 he
    obtain⟨τy,Hy⟩:=y
    simp only [Prod.mk.injEq] at he
    obtain⟨rfl,rfl,rfl⟩:=he
    obtain⟨τ1,h1,h2⟩:=z2D ihc _ _ _ _ _ _ _ ha hy
    refine⟨τ1,?_,h2⟩
    show yK E (.reg ops) τ H=_
    rw [z0G,h1];rfl
   | dreg na ops =>
    obtain rfl:=Option.some.inj hl
    simp only at he
    obtain⟨y,hy,he⟩:=Option.map_eq_some_iff.1 he
    obtain⟨τy,Hy⟩:=y
    simp only [Prod.mk.injEq] at he
    obtain⟨rfl,rfl,rfl⟩:=he
    obtain⟨τ1,h1,h2⟩:=XN ihc _ _ _ [] _ _ _ _ _ _ ⟨rfl,fun _ _ _=>rfl⟩ ha hy
    refine⟨τ1,?_,h2⟩
    show yK E (.dreg na ops) τ H=_
    rw [Vz,h1];rfl
   | seq a b =>
    simp only [lvC] at hl
    cases hb:lvC out exs rt b with
    | none=>rw [hb] at hl;cases hl
    | some sb =>
     rw [hb] at hl
     simp only at hl he
     have hk:(∃ ops k,a=.reg ops∧z6s ops=some k∧k &&& sb=0∧s=sb)∨(vk (.seq a b)=.seq (vk a) (vk b)∧lvC sb exs rt a=some s):=by
      cases hk:WS a with
      | some k =>
       rw [hk] at hl
       simp only at hl
       split at hl
       ·rename_i hz
        unfold WS at hk
        split at hk
        ·exact Or.inl ⟨_,k,rfl,hk,hz,(Option.some.inj hl).symm⟩
        ·cases hk
       ·cases hl
      | none =>
       rw [hk] at hl
       refine Or.inr ⟨?_,hl⟩
       simp only [vk,hk]
     rcases hk with ⟨ops,k,rfl,hk,hz,rfl⟩ | ⟨hst,hla⟩
     ·have hst:vk (.seq (.reg ops) b)=vk b:=by simp only [vk,WS,hk]
      rw [hst]
      cases hA:zu E' n (.reg ops) τ' H with
      | none=>rw [hA] at he;cases he
      | some y =>
       obtain⟨ex2,τ2,H2⟩:=y
       rw [hA] at he
       cases n with
       | zero=>simp [zu] at hA
       | succ n =>
        simp only [zu] at hA
        obtain⟨z,hz2,hA⟩:=Option.map_eq_some_iff.1 hA
        obtain⟨τz,Hz⟩:=z
        simp only [Prod.mk.injEq] at hA
        obtain⟨rfl,rfl,rfl⟩:=hA
        obtain⟨rfl,hag⟩:=z3I _ _ _ _ _ _ _ _ _ hk hz ha hz2
        exact ihe _ _ _ _ _ _ _ _ _ _ _ hb hag he
     ·rw [hst,z0H]
      cases hA:zu E' n a τ' H with
      | none=>rw [hA] at he;cases he
      | some y =>
       obtain⟨ex2,τ2,H2⟩:=y
       rw [hA] at he
       obtain⟨τ3,h3,hag⟩:=ihe _ _ _ _ _ _ _ _ _ _ _ hla ha hA
       rw [h3]
       cases ex2 with
       | normal =>
        simp only [bnE,z1u]
        exact ihe _ _ _ _ _ _ _ _ _ _ _ hb hag he
       | exit i =>
        simp only [Option.some.injEq,Prod.mk.injEq] at he
        obtain⟨rfl,rfl,rfl⟩:=he
        exact⟨τ3,rfl,hag⟩
       | ret =>
        simp only [Option.some.injEq,Prod.mk.injEq] at he
        obtain⟨rfl,rfl,rfl⟩:=he
        exact⟨τ3,rfl,hag⟩
   | cond x a b =>
    simp only [lvC] at hl
    cases hA:lvC out exs rt a with
    | none=>rw [hA] at hl;cases hl
    | some sa =>
     cases hB:lvC out exs rt b with
     | none=>rw [hA,hB] at hl;cases hl
     | some sb =>
      rw [hA,hB] at hl
      obtain rfl:=Option.some.inj hl
      have hz:sub (zaX x ||| (sa ||| sb)) (zaX x ||| (sa ||| sb)):=WR _
      have hx:τ.at x=τ'.at x:=ha.at (l:=[x]) (by simpa [z6q] using ZN hz) x (by simp)
      simp only at he
      show ∃ τ1,yK E (.cond x (vk a) (vk b)) τ H=_∧_
      rw [QE,hx]
      split at he
      ·rename_i t ht
       rw [ht]
       cases t with
       | true=>exact ihe _ _ _ _ _ _ _ _ _ _ _ hA (ha.sub (ZN (Z1 hz))) he
       | false=>exact ihe _ _ _ _ _ _ _ _ _ _ _ hB (ha.sub (Z1 (Z1 hz))) he
      ·cases he
   | block i c =>
    simp only [lvC] at hl
    simp only at he
    show ∃ τ1,yK E (.block i (vk c)) τ H=_∧_
    rw [JK]
    cases hA:zu E' n c τ' H with
    | none=>rw [hA] at he;cases he
    | some y =>
     obtain⟨ex2,τ2,H2⟩:=y
     rw [hA] at he
     obtain⟨τ3,h3,hag⟩:=ihe _ _ _ _ _ _ _ _ _ _ _ hl ha hA
     rw [h3]
     cases ex2 with
     | normal =>
      simp only [Option.some.injEq,Prod.mk.injEq] at he
      obtain⟨rfl,rfl,rfl⟩:=he
      exact⟨τ3,rfl,hag⟩
     | ret =>
      simp only [Option.some.injEq,Prod.mk.injEq] at he
      obtain⟨rfl,rfl,rfl⟩:=he
      exact⟨τ3,rfl,hag⟩
     | exit j =>
      simp only [Option.some.injEq,Prod.mk.injEq] at he
      obtain⟨rfl,rfl,rfl⟩:=he
      refine⟨τ3,rfl,?_⟩
      by_cases hj:j=i
      ·subst hj
       simp only [z3H,List.lookup,beq_self_eq_true,Option.getD_some] at hag
       simpa [z3H] using hag
      ·simp only [z3H,z4L hj] at hag
       simpa [z3H,hj] using hag
   | loop c =>
    have hl0:=hl
    simp only [lvC] at hl
    split at hl
    ·cases hl
    ·rename_i s1 h1
     split at hl
     ·cases hl
     ·rename_i s2 h2
      split at hl
      ·cases hl
      ·rename_i s3 h3
       split at hl
       ·rename_i hz
        obtain rfl:=Option.some.inj hl
        simp only at he
        show ∃ τ1,KB E (vk c) τ H=_∧_
        rw [z2A]
        cases hA:zu E' n c τ' H with
        | none=>rw [hA] at he;cases he
        | some y =>
         obtain⟨ex2,τ2,H2⟩:=y
         rw [hA] at he
         obtain⟨τ3,h4,hag⟩:=ihe _ _ _ _ _ _ _ _ _ _ _ h3 (ha.sub (zbU hz)) hA
         rw [h4]
         cases ex2 with
         | normal =>
          simp only [bnE,z1u]
          obtain⟨τ4,h5,hag2⟩:=ihe _ _ _ _ _ _ _ _ _ _ _ hl0 hag he
          exact⟨τ4,h5,hag2⟩
         | exit i =>
          simp only [Option.some.injEq,Prod.mk.injEq] at he
          obtain⟨rfl,rfl,rfl⟩:=he
          exact⟨τ3,rfl,hag⟩
         | ret =>
          simp only [Option.some.injEq,Prod.mk.injEq] at he
          obtain⟨rfl,rfl,rfl⟩:=he
          exact⟨τ3,rfl,hag⟩
       ·cases hl
theorem Zs (hS:z0L E E') {f:Nat} {args:List AV} {H:z3} {r:AV × z3} (h:zM E' f args H=some r):zM E f args H=some r:=by
 obtain⟨n,hn⟩:=xT.1 h
 exact(z6t hS n).1 _ _ _ _ hn
end
end Go.Ab
