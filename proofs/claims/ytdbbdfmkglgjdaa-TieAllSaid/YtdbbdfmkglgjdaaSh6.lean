/- Temporaries that nothing reads any more may be forgotten: code with such forgetting put in tells what the code tells. -/
import Derived.Test.YtdbbdfmkglgjdaaSh5
set_option linter.unusedVariables false
set_option linter.unusedSimpArgs false
set_option linter.unusedSectionVars false
namespace Go.Ab
def VT:AOp→List AX
 | .mv x=>[x]
 | .pick c a b=>[c,a,b]
 | .newc _=>[]
 | .box x=>[x]
 | .build _ ps=>ps.map fun p=>p.2.2
 | .bsl _ _ _ ps=>ps.map fun p=>p.2.2
 | .ld x=>[x]
 | .ldn _ x=>[x]
 | .st _ a v=>[a,v]
 | .nck x=>[x]
 | .bin _ x y=>[x,y]
 | .eqs _ _ x y=>[x,y]
 | .eqn _ _ x=>[x]
 | .un _ x=>[x]
 | .cvi _ x=>[x]
 | .cvs x=>[x]
 | .stf x=>[x]
 | .s2b x=>[x]
 | .b2s x=>[x]
 | .mki _ x=>[x]
 | .mkf _ fs cs=>fs++cs
 | .mks _ _ _ l c=>[l,c]
 | .slc _ x lo hi mx=>x::(lo.toList++hi.toList++mx.toList)
 | .sls x lo hi=>x::(lo.toList++hi.toList)
 | .sla _ _ x lo hi=>x::(lo.toList++hi.toList)
 | .fad _ x=>[x]
 | .fld _ _ x=>[x]
 | .iad _ x i=>[x,i]
 | .iaa _ _ x i=>[x,i]
 | .ixs x i=>[x,i]
 | .ixa _ _ _ x i=>[x,i]
 | .tas _ _ _ x=>[x]
 | .ext x _=>[x]
 | .len x=>[x]
 | .lens x=>[x]
 | .lena _=>[]
 | .cap x=>[x]
 | .mxi l=>l
 | .mni l=>l
 | .app _ _ _ s x=>[s,x]
 | .apz _ _ _ s n=>[s,n]
 | .cpy _ d s=>[d,s]
 | .clr _ _ x=>[x]
 | .call f args=>f::args
 | .inv _ r args=>r::args
 | .rng x=>[x]
 | .nxt x=>[x]
 | .mkm=>[]
 | .mlk _ _ _ x k=>[x,k]
 | .mup _ m k v=>[m,k,v]
 | .lnm x=>[x]
section
variable {τ τ':Tau} {H:z3}
theorem z1Y {l:List AX} (h:∀ x ∈ l,τ.at x=τ'.at x):l.map τ.at=l.map τ'.at:=List.map_congr_left h
theorem JF {o:Option AX} (h:∀ x ∈ o.toList,τ.at x=τ'.at x):o.map τ.at=o.map τ'.at:=by
 cases o with
 | none=>rfl
 | some x=>simp [h x (by simp)]
theorem z44 {ps:List (Nat × Nat × AX)} (h:∀ x ∈ ps.map (fun p=>p.2.2),τ.at x=τ'.at x) :
  ps.map (fun(o,s,x)=>(o,s,τ.at x))=ps.map (fun(o,s,x)=>(o,s,τ'.at x)):=by
 refine List.map_congr_left fun p hp=>?_
 obtain⟨o,s,x⟩:=p
 show (o,s,τ.at x)=(o,s,τ'.at x)
 rw [h x (List.mem_map.2 ⟨_,hp,rfl⟩)]
theorem z58 {op:AOp} (h:∀ x ∈ VT op,τ.at x=τ'.at x):aop τ H op=aop τ' H op:=by
 cases op<;>simp only [VT,List.mem_cons,List.not_mem_nil,or_false,forall_eq_or_imp,forall_eq,List.mem_append,false_imp_iff,implies_true] at h<;>simp only [aop]
 case pick c a b =>
  rw [h.1]
  cases τ'.at c with
  | bool t=>cases t<;>simp [h.2.1,h.2.2]
  | _=>rfl
 case build z ps=>rw [z44 h]
 case bsl a b c ps=>rw [z44 h]
 case mkf f fs cs=>rw [z1Y fun x hx=>h x (Or.inl hx),z1Y fun x hx=>h x (Or.inr hx)]
 case slc e x lo hi mx=>rw [h.1,JF fun x hx=>h.2 x (Or.inl (Or.inl hx)),JF fun x hx=>h.2 x (Or.inl (Or.inr hx)),JF fun x hx=>h.2 x (Or.inr hx)]
 case sls x lo hi=>rw [h.1,JF fun x hx=>h.2 x (Or.inl hx),JF fun x hx=>h.2 x (Or.inr hx)]
 case sla n e x lo hi=>rw [h.1,JF fun x hx=>h.2 x (Or.inl hx),JF fun x hx=>h.2 x (Or.inr hx)]
 case mxi l=>rw [z1Y h]
 case mni l=>rw [z1Y h]
 case mup q m k v=>rw [h.1,h.2.1,h.2.2]
 case mlk q z ok x k=>rw [h.1,h.2]
 all_goals first | rw [h] | (rw [h.1];rw [h.2];done) | rfl
theorem z6h {op:AOp} (h:∀ x ∈ VT op,τ.at x=τ'.at x):x5 τ op=x5 τ' op:=by
 cases op<;>try rfl
 case call f args =>
  simp only [VT,List.mem_cons,forall_eq_or_imp] at h
  simp only [x5]
  rw [h.1,z1Y h.2]
 case inv tab r args =>
  simp only [VT,List.mem_cons,forall_eq_or_imp] at h
  simp only [x5]
  rw [h.1,z1Y h.2]
theorem z7W {op:AOp} {r:Nat} (h:∀ x ∈ VT op,τ.at x=τ'.at x):xS τ r op=xS τ' r op:=by
 cases op<;>try rfl
 case box x =>
  simp only [VT,List.mem_cons,List.not_mem_nil,or_false,forall_eq] at h
  simp only [xS]
  rw [h]
 case bsl a b c ps =>
  simp only [VT] at h
  simp only [xS]
  rw [z44 h]
end

def zcF:AX→Nat
 | .t n=>2 ^ n
 | .c _=>0
def z7X:List AX→Nat
 | []=>0
 | x::l=>zcF x ||| z7X l
def zcG (s:Nat):Option Nat→Nat
 | none=>s
 | some d=>s ^^^ (s &&& 2 ^ d)
def zf2:Option (Nat × Bool)→Nat
 | none=>0
 | some (t,_)=>2 ^ t
def sub (a b:Nat):Prop:=∀ t,a.testBit t=true→b.testBit t=true
theorem z13 (a:Nat):sub a a:=fun _ h=>h
theorem Yw {a b c:Nat} (h:sub (a ||| b) c):sub a c:=fun t ht=>h t (by simp [Nat.testBit_or,ht])
theorem ZG {a b c:Nat} (h:sub (a ||| b) c):sub b c:=fun t ht=>h t (by simp [Nat.testBit_or,ht])
theorem zdA {a b:Nat} (h:a &&& b=a):sub a b:=fun t ht=>by
 rw [← h] at ht
 simp [Nat.testBit_and] at ht
 exact ht.2
def Agr (s:Nat) (τ τ':Tau):Prop:=τ.length=τ'.length∧∀ t,s.testBit t=true→τ[t]? = τ'[t]?
theorem Agr.sub {s u:Nat} {τ τ':Tau} (h:Agr s τ τ') (hs:sub u s):Agr u τ τ':=⟨h.1,fun t ht=>h.2 t (hs t ht)⟩
theorem z7Y (n t:Nat):(2 ^ n).testBit t=decide (n=t):=Nat.testBit_two_pow
theorem Agr.at {s:Nat} {τ τ':Tau} (h:Agr s τ τ'):∀ {l:List AX},Go.Ab.sub (z7X l) s→∀ x ∈ l,τ.at x=τ'.at x
 | [],_,_,hx=>by simp at hx
 | y::l,hs,x,hx=>by
  rcases List.mem_cons.1 hx with rfl | hx
  ·cases x with
   | c v=>rfl
   | t n =>
    have:=h.2 n (Yw hs n (by simp [zcF]))
    simp only [Tau.at,List.getD_eq_getElem?_getD,this]
  ·exact Agr.at h (ZG hs) x hx
theorem Agr.put {s:Nat} {τ τ':Tau} {d:Option Nat} (v:AV) (h:Agr (zcG s d) τ τ'):Agr s (τ.put d v) (τ'.put d v):=by
 cases d with
 | none=>exact h
 | some d =>
  simp only [Tau.put]
  refine⟨by simp [h.1],fun t ht=>?_⟩
  rw [List.getElem?_set,List.getElem?_set]
  by_cases hd:d=t
  ·simp [hd,h.1]
  ·simp only [if_neg hd]
   refine h.2 t ?_
   simp only [zcG,Nat.testBit_xor,Nat.testBit_and,z7Y,ht,Bool.true_and]
   simp [hd]
theorem Agr.wanted {s:Nat} {τ τ':Tau} (h:Agr s τ τ') {g:Option (Nat × Bool)} (hs:Go.Ab.sub (zf2 g) s):zg τ g=zg τ' g:=by
 cases g with
 | none=>rfl
 | some x =>
  obtain⟨t,w⟩:=x
  simp only [zg]
  rw [h.2 t (hs t (by simp [zf2]))]
theorem Agr.put_dead {s:Nat} {τ τ':Tau} {d:Nat} (v:AV) (h:Agr s τ τ') (hd:s.testBit d=false):Agr s τ (τ'.set d v):=by
 refine⟨by simp [h.1],fun t ht=>?_⟩
 rw [List.getElem?_set]
 by_cases e:d=t
 ·subst e;rw [hd] at ht;cases ht
 ·rw [if_neg e];exact h.2 t ht

def zdB (o:zm) (s:Nat):Nat:=z7X (VT o.op) ||| (zf2 o.guard ||| zcG s o.dst)
def z59:List zm→Nat→Nat
 | [],s=>s
 | o::l,s=>zdB o (z59 l s)
def z1Z:List (zm × DK)→Nat→Nat
 | [],s=>s
 | o::l,s=>zdB o.1 (z1Z l s)
section
variable {call call':z8} (hc:KY call' call)
include hc
theorem z5a {s:Nat} {τ τ':Tau} (h:Agr s τ τ') {op:AOp} (hs:sub (z7X (VT op)) s) {H:z3} {r:AV × z3} (e:qh call' τ' H op=some r):qh call τ H op=some r:=by
 unfold qh at e ⊢
 rw [z6h (h.at hs)]
 split at e
 ·exact hc _ _ _ _ e
 ·rw [z58 (h.at hs)];exact e
theorem z45:∀ (l:List zm) (s:Nat) (τ τ':Tau) (H:z3) (τ1':Tau) (H1:z3),Agr (z59 l s) τ τ'→vS call' l τ' H=some (τ1',H1)→∃ τ1,vS call l τ H=some (τ1,H1)∧Agr s τ1 τ1'
 | [],s,τ,τ',H,τ1',H1,h,e=>by
  simp only [vS,Option.some.injEq,Prod.mk.injEq] at e
  obtain⟨rfl,rfl⟩:=e
  exact⟨τ,rfl,h⟩
 | o::l,s,τ,τ',H,τ1',H1,h,e=>by
  unfold vS at e ⊢
  have hz:sub (zdB o (z59 l s)) (z59 (o::l) s):=z13 _
  rw [h.wanted (Yw (ZG hz))]
  have hp:Agr (zcG (z59 l s) o.dst) τ τ':=h.sub (ZG (ZG hz))
  split at e
  ·rename_i hw
   rw [if_pos hw]
   split at e
   ·rename_i v H' hs
    rw [z5a hc h (Yw hz) hs]
    exact z45 l s _ _ _ _ _ (hp.put v) e
   ·cases e
  ·rename_i hw
   rw [if_neg hw]
   exact z45 l s _ _ _ _ _ (hp.put _) e
def WN (a b:List Rec):Prop:=a.length=b.length∧∀ (p:Nat) (H H':z3),(match a[p]? with
  | some q=>v8 H H' q
  | none=>false)=(match b[p]? with
  | some q=>v8 H H' q
  | none=>false)
omit hc in
theorem WN.push {a b:List Rec} (h:WN a b) {q r:Rec} (hq:∀ H H',v8 H H' q=v8 H H' r):WN (a++[q]) (b++[r]):=by
 refine⟨by simp [h.1],fun p H H'=>?_⟩
 rcases Nat.lt_trichotomy p a.length with hp | hp | hp
 ·rw [List.getElem?_append_left hp,List.getElem?_append_left (h.1 ▸ hp)]
  exact h.2 p H H'
 ·subst hp
  simp only [List.getElem?_concat_length]
  rw [h.1,List.getElem?_concat_length]
  exact hq H H'
 ·have:=h.1
  rw [List.getElem?_eq_none (by simp;omega),List.getElem?_eq_none (by simp;omega)]
omit hc in
theorem WN.pins {a b:List Rec} (h:WN a b) (H H':z3):∀ pins,ke H H' a pins=ke H H' b pins
 | []=>rfl
 | p::l=>by
  have:=congr (congrArg and (h.2 p H H')) (WN.pins h H H' l)
  exact this
theorem QL (base:Nat):∀ (l:List (zm × DK)) (s:Nat) (recs recs':List Rec) (τ τ':Tau) (H:z3) (τ1':Tau) (H1:z3),WN recs recs'→Agr (z1Z l s) τ τ' →
  xr call' base l recs' τ' H=some (τ1',H1)→∃ τ1,xr call base l recs τ H=some (τ1,H1)∧Agr s τ1 τ1'
 | [],s,recs,recs',τ,τ',H,τ1',H1,_,h,e=>by
  simp only [xr,Option.some.injEq,Prod.mk.injEq] at e
  obtain⟨rfl,rfl⟩:=e
  exact⟨τ,rfl,h⟩
 | (o,dk)::l,s,recs,recs',τ,τ',H,τ1',H1,hr,h,e=>by
  unfold xr at e ⊢
  have hz:sub (zdB o (z1Z l s)) (z1Z ((o,dk)::l) s):=z13 _
  rw [h.wanted (Yw (ZG hz))]
  have hp:Agr (zcG (z1Z l s) o.dst) τ τ':=h.sub (ZG (ZG hz))
  have ha:=fun(H:z3)=>z58 (H:=H) (h.at (Yw hz))
  split at e
  ·rename_i hw
   rw [if_pos hw]
   cases dk with
   | q =>
    simp only at e ⊢
    rw [ha]
    split at e
    ·rename_i v H' hs
     split at e
     ·rename_i hy
      rw [if_pos hy]
      exact QL base l s _ _ _ _ _ _ _ (hr.push fun H H'=>by simp only [v8,ha]) (hp.put v) e
     ·cases e
    ·cases e
   | al k =>
    simp only at e ⊢
    rw [z7W (h.at (Yw hz))]
    split at e
    ·rename_i v ob hs
     split at e
     ·rename_i hy
      rw [if_pos hy]
      exact QL base l s _ _ _ _ _ _ _ (hr.push fun H H'=>rfl) (hp.put v) e
     ·cases e
    ·cases e
   | ef pins =>
    simp only at e ⊢
    split at e
    ·rename_i v H' hs
     rw [z5a hc h (Yw hz) hs]
     simp only
     split at e
     ·rename_i hy
      rw [hr.pins,if_pos hy]
      exact QL base l s _ _ _ _ _ _ _ (hr.push fun H H'=>rfl) (hp.put v) e
     ·cases e
    ·cases e
  ·rename_i hw
   rw [if_neg hw]
   exact QL base l s _ _ _ _ _ _ _ (hr.push fun H H'=>rfl) (hp.put _) e
end

def zcH:zm→Option Nat
 | ⟨some d,.mv (.c (.tup [])),none⟩=>some d
 | _=>none
def z7Z:List zm→Option Nat
 | []=>some 0
 | o::l=>match zcH o,z7Z l with
  | some d,some s=>some (2 ^ d ||| s)
  | _,_=>none
def z14:xk→Option Nat
 | .reg ops=>z7Z ops
 | _=>none
def vM:xk→xk
 | .seq a b=>match z14 a with
  | some _=>vM b
  | none=>.seq (vM a) (vM b)
 | .cond x a b=>.cond x (vM a) (vM b)
 | .block i c=>.block i (vM c)
 | .loop c=>.loop (vM c)
 | c=>c
def lvC (out:Nat) (exs:List (Nat × Nat)) (rt:Nat):xk→Option Nat
 | .skip=>some out
 | .ret=>some rt
 | .exit i=>exs.lookup i
 | .reg ops=>some (z59 ops out)
 | .dreg _ ops=>some (z1Z ops out)
 | .seq a b=>match lvC out exs rt b with
  | none=>none
  | some s=>match z14 a with
   | some k=>if k &&& s=0 then some s else none
   | none=>lvC s exs rt a
 | .cond x a b=>match lvC out exs rt a,lvC out exs rt b with
  | some s,some t=>some (zcF x ||| (s ||| t))
  | _,_=>none
 | .block i c=>lvC out ((i,out)::exs) rt c
 | .loop c=>match lvC 0 exs rt c with
  | none=>none
  | some s1=>match lvC s1 exs rt c with
   | none=>none
   | some s2=>match lvC s2 exs rt c with
    | none=>none
    | some s3=>if s3 &&& s2=s3 then some s2 else none
def z5b (out:Nat) (exs:List (Nat × Nat)) (rt:Nat):zG→Nat
 | .normal=>out
 | .exit i=>(exs.lookup i).getD 0
 | .ret=>rt
theorem z5c (call:z8):∀ (l:List zm) (k s:Nat) (τ τ':Tau) (H:z3) (τ1':Tau) (H1:z3),z7Z l=some k→k &&& s=0→Agr s τ τ'→vS call l τ' H=some (τ1',H1)→H1=H∧Agr s τ τ1'
 | [],k,s,τ,τ',H,τ1',H1,_,_,h,e=>by
  simp only [vS,Option.some.injEq,Prod.mk.injEq] at e
  obtain⟨rfl,rfl⟩:=e
  exact⟨rfl,h⟩
 | o::l,k,s,τ,τ',H,τ1',H1,hk,hz,h,e=>by
  simp only [z7Z] at hk
  split at hk
  ·rename_i d k' ho hl
   obtain rfl:=Option.some.inj hk
   unfold zcH at ho
   split at ho
   ·obtain rfl:=(Option.some.inj ho).symm
    simp only [vS,zg,if_true,qh,x5,aop,Tau.at,Tau.put] at e
    have hd:s.testBit d=false:=by
     have:=congrArg (fun n=>n.testBit d) hz
     simp [Nat.testBit_and,Nat.testBit_or] at this
     simpa using this
    have hz':k' &&& s=0:=by
     apply Nat.eq_of_testBit_eq
     intro i
     have:=congrArg (fun n=>n.testBit i) hz
     simp only [Nat.testBit_and,Nat.testBit_or,Nat.zero_testBit] at this ⊢
     cases h1:k'.testBit i<;>simp_all
    exact z5c call l k' s τ _ H τ1' H1 hl hz' (h.put_dead _ hd) e
   ·cases ho
  ·cases hk
section
variable {E E':Env}
def V1 (fn:AFn):AFn:=⟨fn.nt,vM fn.code,fn.res⟩
def Yx:List wJ→Nat
 | []=>0
 | .tmp t::l=>2 ^ t ||| Yx l
 | .cell a _::l=>2 ^ a ||| Yx l
def z20 (fn:AFn):Bool:=(lvC (Yx fn.res) [] (Yx fn.res) fn.code).isSome
theorem z2w {τ τ':Tau} {H:z3} {l:List wJ} (h:Agr (Yx l) τ τ'):y6 τ H l=y6 τ' H l:=by
 have:zO (jG τ H) l=zO (jG τ' H) l:=by
  have key:∀ (l:List wJ) (s:Nat),sub (Yx l) s→Agr s τ τ'→zO (jG τ H) l=zO (jG τ' H) l:=by
   intro l
   induction l with
   | nil=>intro _ _ _;rfl
   | cons r l ih =>
    intro s hs h
    have h1:jG τ H r=jG τ' H r:=by
     cases r with
     | tmp t=>simp only [jG];exact h.2 t (hs t (by simp [Yx,Nat.testBit_or]))
     | cell a n =>
      simp only [jG]
      rw [h.2 a (hs a (by simp [Yx,Nat.testBit_or]))]
    have h2:=ih s (fun t ht=>hs t (by cases r<;>simp [Yx,Nat.testBit_or,ht])) h
    simp only [zO,h1,h2]
  exact key l _ (z13 _) h
 simp only [y6,this]
structure z21 (E E':Env):Prop where
 spec:E'.spec=E.spec
 fns:∀ f fn,E'.fns f=some fn→E.fns f=some (V1 fn)∧z20 fn=true
theorem z6i {i j out:Nat} {exs:List (Nat × Nat)} (h:j≠i):((i,out)::exs).lookup j=exs.lookup j:=by
 simp [List.lookup,show (j == i)=false from by simpa using h]
theorem z80 (hS:z21 E E'):∀ n,KY (xE E' n) (zM E) ∧
  ∀ c out exs rt s τ τ' H ex τ1' H1,lvC out exs rt c=some s→Agr s τ τ'→zy E' n c τ' H=some (ex,τ1',H1)→∃ τ1,yS E (vM c) τ H=some (ex,τ1,H1)∧Agr (z5b out exs rt ex) τ1 τ1':=by
 intro n
 induction n with
 | zero=>exact⟨fun f args H r h=>by simp [xE] at h,fun c out exs rt s τ τ' H ex τ1' H1 _ _ h=>by simp [zy] at h⟩
 | succ n ih =>
  obtain⟨ihc,ihe⟩:=ih
  refine⟨fun f args H r h=>?_,?_⟩
  ·unfold xE at h
   split at h
   ·rename_i g hg
    rw [hS.spec] at hg
    rw [Zy hg]
    exact h
   ·rename_i hg
    rw [hS.spec] at hg
    split at h
    ·cases h
    ·rename_i fn hfn
     obtain⟨h1,h2⟩:=hS.fns f fn hfn
     rw [z43 hg h1,jV]
     unfold z20 at h2
     obtain⟨s,hs⟩:=Option.isSome_iff_exists.1 h2
     cases he:zy E' n fn.code (args++List.replicate (fn.nt - args.length) z4) H with
     | none=>rw [he] at h;cases h
     | some x =>
      obtain⟨ex,τ1',H1⟩:=x
      obtain⟨τ1,hτ,hag⟩:=ihe _ _ _ _ _ _ _ _ _ _ _ hs ⟨rfl,fun _ _=>rfl⟩ he
      rw [he] at h
      show bnE (yS E (vM fn.code) (args++List.replicate (fn.nt - args.length) z4) H) (z7V fn.res)=some r
      rw [hτ]
      cases ex with
      | normal=>simp only [bnE,z7V];rw [z2w hag];exact h
      | exit i=>cases h
      | ret=>simp only [bnE,z7V];rw [z2w hag];exact h
  ·intro c out exs rt s τ τ' H ex τ1' H1 hl ha he
   unfold zy at he
   cases c with
   | skip =>
    obtain rfl:=Option.some.inj hl
    simp only [Option.some.injEq,Prod.mk.injEq] at he
    obtain⟨rfl,rfl,rfl⟩:=he
    exact⟨τ,WK,ha⟩
   | ret =>
    obtain rfl:=Option.some.inj hl
    simp only [Option.some.injEq,Prod.mk.injEq] at he
    obtain⟨rfl,rfl,rfl⟩:=he
    exact⟨τ,z1V,ha⟩
   | exit i =>
    simp only [Option.some.injEq,Prod.mk.injEq] at he
    obtain⟨rfl,rfl,rfl⟩:=he
    simp only [lvC] at hl
    exact⟨τ,WL,by simp only [z5b,hl,Option.getD_some];exact ha⟩
   | reg ops =>
    obtain rfl:=Option.some.inj hl
    simp only at he
    obtain⟨y,hy,he⟩:=Option.map_eq_some_iff.1 he
    obtain⟨τy,Hy⟩:=y
    simp only [Prod.mk.injEq] at he
    obtain⟨rfl,rfl,rfl⟩:=he
    obtain⟨τ1,h1,h2⟩:=z45 ihc _ _ _ _ _ _ _ ha hy
    refine⟨τ1,?_,h2⟩
    show yS E (.reg ops) τ H=_
    rw [z1W,h1];rfl
   | dreg na ops =>
    obtain rfl:=Option.some.inj hl
    simp only at he
    obtain⟨y,hy,he⟩:=Option.map_eq_some_iff.1 he
    obtain⟨τy,Hy⟩:=y
    simp only [Prod.mk.injEq] at he
    obtain⟨rfl,rfl,rfl⟩:=he
    obtain⟨τ1,h1,h2⟩:=QL ihc _ _ _ [] _ _ _ _ _ _ ⟨rfl,fun _ _ _=>rfl⟩ ha hy
    refine⟨τ1,?_,h2⟩
    show yS E (.dreg na ops) τ H=_
    rw [WM,h1];rfl
   | seq a b =>
    simp only [lvC] at hl
    cases hb:lvC out exs rt b with
    | none=>rw [hb] at hl;cases hl
    | some sb =>
     rw [hb] at hl
     simp only at hl he
     have hk:(∃ ops k,a=.reg ops∧z7Z ops=some k∧k &&& sb=0∧s=sb)∨(vM (.seq a b)=.seq (vM a) (vM b)∧lvC sb exs rt a=some s):=by
      cases hk:z14 a with
      | some k =>
       rw [hk] at hl
       simp only at hl
       split at hl
       ·rename_i hz
        unfold z14 at hk
        split at hk
        ·exact Or.inl ⟨_,k,rfl,hk,hz,(Option.some.inj hl).symm⟩
        ·cases hk
       ·cases hl
      | none =>
       rw [hk] at hl
       refine Or.inr ⟨?_,hl⟩
       simp only [vM,hk]
     rcases hk with ⟨ops,k,rfl,hk,hz,rfl⟩ | ⟨hst,hla⟩
     ·have hst:vM (.seq (.reg ops) b)=vM b:=by simp only [vM,z14,hk]
      rw [hst]
      cases hA:zy E' n (.reg ops) τ' H with
      | none=>rw [hA] at he;cases he
      | some y =>
       obtain⟨ex2,τ2,H2⟩:=y
       rw [hA] at he
       cases n with
       | zero=>simp [zy] at hA
       | succ n =>
        simp only [zy] at hA
        obtain⟨z,hz2,hA⟩:=Option.map_eq_some_iff.1 hA
        obtain⟨τz,Hz⟩:=z
        simp only [Prod.mk.injEq] at hA
        obtain⟨rfl,rfl,rfl⟩:=hA
        obtain⟨rfl,hag⟩:=z5c _ _ _ _ _ _ _ _ _ hk hz ha hz2
        exact ihe _ _ _ _ _ _ _ _ _ _ _ hb hag he
     ·rw [hst,z1X]
      cases hA:zy E' n a τ' H with
      | none=>rw [hA] at he;cases he
      | some y =>
       obtain⟨ex2,τ2,H2⟩:=y
       rw [hA] at he
       obtain⟨τ3,h3,hag⟩:=ihe _ _ _ _ _ _ _ _ _ _ _ hla ha hA
       rw [h3]
       cases ex2 with
       | normal =>
        simp only [bnE,z2P]
        exact ihe _ _ _ _ _ _ _ _ _ _ _ hb hag he
       | exit i =>
        simp only [Option.some.injEq,Prod.mk.injEq] at he
        obtain⟨rfl,rfl,rfl⟩:=he
        exact⟨τ3,rfl,hag⟩
       | ret =>
        simp only [Option.some.injEq,Prod.mk.injEq] at he
        obtain⟨rfl,rfl,rfl⟩:=he
        exact⟨τ3,rfl,hag⟩
   | cond x a b =>
    simp only [lvC] at hl
    cases hA:lvC out exs rt a with
    | none=>rw [hA] at hl;cases hl
    | some sa =>
     cases hB:lvC out exs rt b with
     | none=>rw [hA,hB] at hl;cases hl
     | some sb =>
      rw [hA,hB] at hl
      obtain rfl:=Option.some.inj hl
      have hz:sub (zcF x ||| (sa ||| sb)) (zcF x ||| (sa ||| sb)):=z13 _
      have hx:τ.at x=τ'.at x:=ha.at (l:=[x]) (by simpa [z7X] using Yw hz) x (by simp)
      simp only at he
      show ∃ τ1,yS E (.cond x (vM a) (vM b)) τ H=_∧_
      rw [JE,hx]
      split at he
      ·rename_i t ht
       rw [ht]
       cases t with
       | true=>exact ihe _ _ _ _ _ _ _ _ _ _ _ hA (ha.sub (Yw (ZG hz))) he
       | false=>exact ihe _ _ _ _ _ _ _ _ _ _ _ hB (ha.sub (ZG (ZG hz))) he
      ·cases he
   | block i c =>
    simp only [lvC] at hl
    simp only at he
    show ∃ τ1,yS E (.block i (vM c)) τ H=_∧_
    rw [V0]
    cases hA:zy E' n c τ' H with
    | none=>rw [hA] at he;cases he
    | some y =>
     obtain⟨ex2,τ2,H2⟩:=y
     rw [hA] at he
     obtain⟨τ3,h3,hag⟩:=ihe _ _ _ _ _ _ _ _ _ _ _ hl ha hA
     rw [h3]
     cases ex2 with
     | normal =>
      simp only [Option.some.injEq,Prod.mk.injEq] at he
      obtain⟨rfl,rfl,rfl⟩:=he
      exact⟨τ3,rfl,hag⟩
     | ret =>
      simp only [Option.some.injEq,Prod.mk.injEq] at he
      obtain⟨rfl,rfl,rfl⟩:=he
      exact⟨τ3,rfl,hag⟩
     | exit j =>
      simp only [Option.some.injEq,Prod.mk.injEq] at he
      obtain⟨rfl,rfl,rfl⟩:=he
      refine⟨τ3,rfl,?_⟩
      by_cases hj:j=i
      ·subst hj
       simp only [z5b,List.lookup,beq_self_eq_true,Option.getD_some] at hag
       simpa [z5b] using hag
      ·simp only [z5b,z6i hj] at hag
       simpa [z5b,hj] using hag
   | loop c =>
    have hl0:=hl
    simp only [lvC] at hl
    split at hl
    ·cases hl
    ·rename_i s1 h1
     split at hl
     ·cases hl
     ·rename_i s2 h2
      split at hl
      ·cases hl
      ·rename_i s3 h3
       split at hl
       ·rename_i hz
        obtain rfl:=Option.some.inj hl
        simp only at he
        show ∃ τ1,VS E (vM c) τ H=_∧_
        rw [z42]
        cases hA:zy E' n c τ' H with
        | none=>rw [hA] at he;cases he
        | some y =>
         obtain⟨ex2,τ2,H2⟩:=y
         rw [hA] at he
         obtain⟨τ3,h4,hag⟩:=ihe _ _ _ _ _ _ _ _ _ _ _ h3 (ha.sub (zdA hz)) hA
         rw [h4]
         cases ex2 with
         | normal =>
          simp only [bnE,z2P]
          obtain⟨τ4,h5,hag2⟩:=ihe _ _ _ _ _ _ _ _ _ _ _ hl0 hag he
          exact⟨τ4,h5,hag2⟩
         | exit i =>
          simp only [Option.some.injEq,Prod.mk.injEq] at he
          obtain⟨rfl,rfl,rfl⟩:=he
          exact⟨τ3,rfl,hag⟩
         | ret =>
          simp only [Option.some.injEq,Prod.mk.injEq] at he
          obtain⟨rfl,rfl,rfl⟩:=he
          exact⟨τ3,rfl,hag⟩
       ·cases hl
theorem Y9 (hS:z21 E E') {f:Nat} {args:List AV} {H:z3} {r:AV × z3} (h:zM E' f args H=some r):zM E f args H=some r:=by
 obtain⟨n,hn⟩:=qf.1 h
 exact(z80 hS n).1 _ _ _ _ hn
end
end Go.Ab
