/- Temporaries that nothing reads any more may be forgotten: code with such forgetting put in tells what the code tells. -/
import Derived.Test.YtdbbdfmkglgjdaaSh5
set_option linter.unusedVariables false
set_option linter.unusedSimpArgs false
set_option linter.unusedSectionVars false
namespace Go.Ab
def Js:AOp→List AX
 | .mv x=>[x]
 | .pick c a b=>[c,a,b]
 | .newc _=>[]
 | .box x=>[x]
 | .build _ ps=>ps.map fun p=>p.2.2
 | .bsl _ _ _ ps=>ps.map fun p=>p.2.2
 | .ld x=>[x]
 | .ldn _ x=>[x]
 | .st _ a v=>[a,v]
 | .nck x=>[x]
 | .bin _ x y=>[x,y]
 | .eqs _ _ x y=>[x,y]
 | .eqn _ _ x=>[x]
 | .un _ x=>[x]
 | .cvi _ x=>[x]
 | .cvs x=>[x]
 | .stf x=>[x]
 | .s2b x=>[x]
 | .b2s x=>[x]
 | .mki _ x=>[x]
 | .mkf _ fs cs=>fs++cs
 | .mks _ _ _ l c=>[l,c]
 | .slc _ x lo hi mx=>x::(lo.toList++hi.toList++mx.toList)
 | .sls x lo hi=>x::(lo.toList++hi.toList)
 | .sla _ _ x lo hi=>x::(lo.toList++hi.toList)
 | .fad _ x=>[x]
 | .fld _ _ x=>[x]
 | .iad _ x i=>[x,i]
 | .iaa _ _ x i=>[x,i]
 | .ixs x i=>[x,i]
 | .ixa _ _ _ x i=>[x,i]
 | .tas _ _ _ x=>[x]
 | .ext x _=>[x]
 | .len x=>[x]
 | .lens x=>[x]
 | .lena _=>[]
 | .cap x=>[x]
 | .mxi l=>l
 | .mni l=>l
 | .app _ _ _ s x=>[s,x]
 | .apz _ _ _ s n=>[s,n]
 | .cpy _ d s=>[d,s]
 | .clr _ _ x=>[x]
 | .call f args=>f::args
 | .inv _ r args=>r::args
 | .rng x=>[x]
 | .nxt x=>[x]
 | .mkm=>[]
 | .mlk _ _ _ x k=>[x,k]
 | .mup _ m k v=>[m,k,v]
 | .lnm x=>[x]
section
variable {τ τ':Tau} {H:z3}
theorem W1 {l:List AX} (h:∀ x ∈ l,τ.at x=τ'.at x):l.map τ.at=l.map τ'.at:=List.map_congr_left h
theorem XC {o:Option AX} (h:∀ x ∈ o.toList,τ.at x=τ'.at x):o.map τ.at=o.map τ'.at:=by
 cases o with
 | none=>rfl
 | some x=>simp [h x (by simp)]
theorem z0Y {ps:List (Nat × Nat × AX)} (h:∀ x ∈ ps.map (fun p=>p.2.2),τ.at x=τ'.at x) :
  ps.map (fun(o,s,x)=>(o,s,τ.at x))=ps.map (fun(o,s,x)=>(o,s,τ'.at x)):=by
 refine List.map_congr_left fun p hp=>?_
 obtain⟨o,s,x⟩:=p
 show (o,s,τ.at x)=(o,s,τ'.at x)
 rw [h x (List.mem_map.2 ⟨_,hp,rfl⟩)]
theorem z22 {op:AOp} (h:∀ x ∈ Js op,τ.at x=τ'.at x):aop τ H op=aop τ' H op:=by
 cases op<;>simp only [Js,List.mem_cons,List.not_mem_nil,or_false,forall_eq_or_imp,forall_eq,List.mem_append,false_imp_iff,implies_true] at h<;>simp only [aop]
 case pick c a b =>
  rw [h.1]
  cases τ'.at c with
  | bool t=>cases t<;>simp [h.2.1,h.2.2]
  | _=>rfl
 case build z ps=>rw [z0Y h]
 case bsl a b c ps=>rw [z0Y h]
 case mkf f fs cs=>rw [W1 fun x hx=>h x (Or.inl hx),W1 fun x hx=>h x (Or.inr hx)]
 case slc e x lo hi mx=>rw [h.1,XC fun x hx=>h.2 x (Or.inl (Or.inl hx)),XC fun x hx=>h.2 x (Or.inl (Or.inr hx)),XC fun x hx=>h.2 x (Or.inr hx)]
 case sls x lo hi=>rw [h.1,XC fun x hx=>h.2 x (Or.inl hx),XC fun x hx=>h.2 x (Or.inr hx)]
 case sla n e x lo hi=>rw [h.1,XC fun x hx=>h.2 x (Or.inl hx),XC fun x hx=>h.2 x (Or.inr hx)]
 case mxi l=>rw [W1 h]
 case mni l=>rw [W1 h]
 case mup q m k v=>rw [h.1,h.2.1,h.2.2]
 case mlk q z ok x k=>rw [h.1,h.2]
 all_goals first | rw [h] | (rw [h.1];rw [h.2];done) | rfl
theorem z3a {op:AOp} (h:∀ x ∈ Js op,τ.at x=τ'.at x):yR τ op=yR τ' op:=by
 cases op<;>try rfl
 case call f args =>
  simp only [Js,List.mem_cons,forall_eq_or_imp] at h
  simp only [yR]
  rw [h.1,W1 h.2]
 case inv tab r args =>
  simp only [Js,List.mem_cons,forall_eq_or_imp] at h
  simp only [yR]
  rw [h.1,W1 h.2]
theorem z4N {op:AOp} {r:Nat} (h:∀ x ∈ Js op,τ.at x=τ'.at x):xB τ r op=xB τ' r op:=by
 cases op<;>try rfl
 case box x =>
  simp only [Js,List.mem_cons,List.not_mem_nil,or_false,forall_eq] at h
  simp only [xB]
  rw [h]
 case bsl a b c ps =>
  simp only [Js] at h
  simp only [xB]
  rw [z0Y h]
end

def z9k:AX→Nat
 | .t n=>2 ^ n
 | .c _=>0
def z4O:List AX→Nat
 | []=>0
 | x::l=>z9k x ||| z4O l
def z9l (s:Nat):Option Nat→Nat
 | none=>s
 | some d=>s ^^^ (s &&& 2 ^ d)
def zbE:Option (Nat × Bool)→Nat
 | none=>0
 | some (t,_)=>2 ^ t
def sub (a b:Nat):Prop:=∀ t,a.testBit t=true→b.testBit t=true
theorem Vb (a:Nat):sub a a:=fun _ h=>h
theorem Z7 {a b c:Nat} (h:sub (a ||| b) c):sub a c:=fun t ht=>h t (by simp [Nat.testBit_or,ht])
theorem wk {a b c:Nat} (h:sub (a ||| b) c):sub b c:=fun t ht=>h t (by simp [Nat.testBit_or,ht])
theorem zac {a b:Nat} (h:a &&& b=a):sub a b:=fun t ht=>by
 rw [← h] at ht
 simp [Nat.testBit_and] at ht
 exact ht.2
def Agr (s:Nat) (τ τ':Tau):Prop:=τ.length=τ'.length∧∀ t,s.testBit t=true→τ[t]? = τ'[t]?
theorem Agr.sub {s u:Nat} {τ τ':Tau} (h:Agr s τ τ') (hs:sub u s):Agr u τ τ':=⟨h.1,fun t ht=>h.2 t (hs t ht)⟩
theorem z4P (n t:Nat):(2 ^ n).testBit t=decide (n=t):=Nat.testBit_two_pow
theorem Agr.at {s:Nat} {τ τ':Tau} (h:Agr s τ τ'):∀ {l:List AX},Go.Ab.sub (z4O l) s→∀ x ∈ l,τ.at x=τ'.at x
 | [],_,_,hx=>by simp at hx
 | y::l,hs,x,hx=>by
  rcases List.mem_cons.1 hx with rfl | hx
  ·cases x with
   | c v=>rfl
   | t n =>
    have:=h.2 n (Z7 hs n (by simp [z9k]))
    simp only [Tau.at,List.getD_eq_getElem?_getD,this]
  ·exact Agr.at h (wk hs) x hx
theorem Agr.put {s:Nat} {τ τ':Tau} {d:Option Nat} (v:AV) (h:Agr (z9l s d) τ τ'):Agr s (τ.put d v) (τ'.put d v):=by
 cases d with
 | none=>exact h
 | some d =>
  simp only [Tau.put]
  refine⟨by simp [h.1],fun t ht=>?_⟩
  rw [List.getElem?_set,List.getElem?_set]
  by_cases hd:d=t
  ·simp [hd,h.1]
  ·simp only [if_neg hd]
   refine h.2 t ?_
   simp only [z9l,Nat.testBit_xor,Nat.testBit_and,z4P,ht,Bool.true_and]
   simp [hd]
theorem Agr.wanted {s:Nat} {τ τ':Tau} (h:Agr s τ τ') {g:Option (Nat × Bool)} (hs:Go.Ab.sub (zbE g) s):za τ g=za τ' g:=by
 cases g with
 | none=>rfl
 | some x =>
  obtain⟨t,w⟩:=x
  simp only [za]
  rw [h.2 t (hs t (by simp [zbE]))]
theorem Agr.put_dead {s:Nat} {τ τ':Tau} {d:Nat} (v:AV) (h:Agr s τ τ') (hd:s.testBit d=false):Agr s τ (τ'.set d v):=by
 refine⟨by simp [h.1],fun t ht=>?_⟩
 rw [List.getElem?_set]
 by_cases e:d=t
 ·subst e;rw [hd] at ht;cases ht
 ·rw [if_neg e];exact h.2 t ht

def zad (o:zk) (s:Nat):Nat:=z4O (Js o.op) ||| (zbE o.guard ||| z9l s o.dst)
def z23:List zk→Nat→Nat
 | [],s=>s
 | o::l,s=>zad o (z23 l s)
def W2:List (zk × DK)→Nat→Nat
 | [],s=>s
 | o::l,s=>zad o.1 (W2 l s)
section
variable {call call':z7} (hc:QR call' call)
include hc
theorem z24 {s:Nat} {τ τ':Tau} (h:Agr s τ τ') {op:AOp} (hs:sub (z4O (Js op)) s) {H:z3} {r:AV × z3} (e:xL call' τ' H op=some r):xL call τ H op=some r:=by
 unfold xL at e ⊢
 rw [z3a (h.at hs)]
 split at e
 ·exact hc _ _ _ _ e
 ·rw [z22 (h.at hs)];exact e
theorem z0Z:∀ (l:List zk) (s:Nat) (τ τ':Tau) (H:z3) (τ1':Tau) (H1:z3),Agr (z23 l s) τ τ'→kK call' l τ' H=some (τ1',H1)→∃ τ1,kK call l τ H=some (τ1,H1)∧Agr s τ1 τ1'
 | [],s,τ,τ',H,τ1',H1,h,e=>by
  simp only [kK,Option.some.injEq,Prod.mk.injEq] at e
  obtain⟨rfl,rfl⟩:=e
  exact⟨τ,rfl,h⟩
 | o::l,s,τ,τ',H,τ1',H1,h,e=>by
  unfold kK at e ⊢
  have hz:sub (zad o (z23 l s)) (z23 (o::l) s):=Vb _
  rw [h.wanted (Z7 (wk hz))]
  have hp:Agr (z9l (z23 l s) o.dst) τ τ':=h.sub (wk (wk hz))
  split at e
  ·rename_i hw
   rw [if_pos hw]
   split at e
   ·rename_i v H' hs
    rw [z24 hc h (Z7 hz) hs]
    exact z0Z l s _ _ _ _ _ (hp.put v) e
   ·cases e
  ·rename_i hw
   rw [if_neg hw]
   exact z0Z l s _ _ _ _ _ (hp.put _) e
def K5 (a b:List Rec):Prop:=a.length=b.length∧∀ (p:Nat) (H H':z3),(match a[p]? with
  | some q=>jT H H' q
  | none=>false)=(match b[p]? with
  | some q=>jT H H' q
  | none=>false)
omit hc in
theorem K5.push {a b:List Rec} (h:K5 a b) {q r:Rec} (hq:∀ H H',jT H H' q=jT H H' r):K5 (a++[q]) (b++[r]):=by
 refine⟨by simp [h.1],fun p H H'=>?_⟩
 rcases Nat.lt_trichotomy p a.length with hp | hp | hp
 ·rw [List.getElem?_append_left hp,List.getElem?_append_left (h.1 ▸ hp)]
  exact h.2 p H H'
 ·subst hp
  simp only [List.getElem?_concat_length]
  rw [h.1,List.getElem?_concat_length]
  exact hq H H'
 ·have:=h.1
  rw [List.getElem?_eq_none (by simp;omega),List.getElem?_eq_none (by simp;omega)]
omit hc in
theorem K5.pins {a b:List Rec} (h:K5 a b) (H H':z3):∀ pins,jr H H' a pins=jr H H' b pins
 | []=>rfl
 | p::l=>by
  have:=congr (congrArg and (h.2 p H H')) (K5.pins h H H' l)
  exact this
theorem YW (base:Nat):∀ (l:List (zk × DK)) (s:Nat) (recs recs':List Rec) (τ τ':Tau) (H:z3) (τ1':Tau) (H1:z3),K5 recs recs'→Agr (W2 l s) τ τ' →
  x9 call' base l recs' τ' H=some (τ1',H1)→∃ τ1,x9 call base l recs τ H=some (τ1,H1)∧Agr s τ1 τ1'
 | [],s,recs,recs',τ,τ',H,τ1',H1,_,h,e=>by
  simp only [x9,Option.some.injEq,Prod.mk.injEq] at e
  obtain⟨rfl,rfl⟩:=e
  exact⟨τ,rfl,h⟩
 | (o,dk)::l,s,recs,recs',τ,τ',H,τ1',H1,hr,h,e=>by
  unfold x9 at e ⊢
  have hz:sub (zad o (W2 l s)) (W2 ((o,dk)::l) s):=Vb _
  rw [h.wanted (Z7 (wk hz))]
  have hp:Agr (z9l (W2 l s) o.dst) τ τ':=h.sub (wk (wk hz))
  have ha:=fun(H:z3)=>z22 (H:=H) (h.at (Z7 hz))
  split at e
  ·rename_i hw
   rw [if_pos hw]
   cases dk with
   | q =>
    simp only at e ⊢
    rw [ha]
    split at e
    ·rename_i v H' hs
     split at e
     ·rename_i hy
      rw [if_pos hy]
      exact YW base l s _ _ _ _ _ _ _ (hr.push fun H H'=>by simp only [jT,ha]) (hp.put v) e
     ·cases e
    ·cases e
   | al k =>
    simp only at e ⊢
    rw [z4N (h.at (Z7 hz))]
    split at e
    ·rename_i v ob hs
     split at e
     ·rename_i hy
      rw [if_pos hy]
      exact YW base l s _ _ _ _ _ _ _ (hr.push fun H H'=>rfl) (hp.put v) e
     ·cases e
    ·cases e
   | ef pins =>
    simp only at e ⊢
    split at e
    ·rename_i v H' hs
     rw [z24 hc h (Z7 hz) hs]
     simp only
     split at e
     ·rename_i hy
      rw [hr.pins,if_pos hy]
      exact YW base l s _ _ _ _ _ _ _ (hr.push fun H H'=>rfl) (hp.put v) e
     ·cases e
    ·cases e
  ·rename_i hw
   rw [if_neg hw]
   exact YW base l s _ _ _ _ _ _ _ (hr.push fun H H'=>rfl) (hp.put _) e
end

def z9m:zk→Option Nat
 | ⟨some d,.mv (.c (.tup [])),none⟩=>some d
 | _=>none
def z4Q:List zk→Option Nat
 | []=>some 0
 | o::l=>match z9m o,z4Q l with
  | some d,some s=>some (2 ^ d ||| s)
  | _,_=>none
def Vc:x3→Option Nat
 | .reg ops=>z4Q ops
 | _=>none
def kE:x3→x3
 | .seq a b=>match Vc a with
  | some _=>kE b
  | none=>.seq (kE a) (kE b)
 | .cond x a b=>.cond x (kE a) (kE b)
 | .block i c=>.block i (kE c)
 | .loop c=>.loop (kE c)
 | c=>c
def lvC (out:Nat) (exs:List (Nat × Nat)) (rt:Nat):x3→Option Nat
 | .skip=>some out
 | .ret=>some rt
 | .exit i=>exs.lookup i
 | .reg ops=>some (z23 ops out)
 | .dreg _ ops=>some (W2 ops out)
 | .seq a b=>match lvC out exs rt b with
  | none=>none
  | some s=>match Vc a with
   | some k=>if k &&& s=0 then some s else none
   | none=>lvC s exs rt a
 | .cond x a b=>match lvC out exs rt a,lvC out exs rt b with
  | some s,some t=>some (z9k x ||| (s ||| t))
  | _,_=>none
 | .block i c=>lvC out ((i,out)::exs) rt c
 | .loop c=>match lvC 0 exs rt c with
  | none=>none
  | some s1=>match lvC s1 exs rt c with
   | none=>none
   | some s2=>match lvC s2 exs rt c with
    | none=>none
    | some s3=>if s3 &&& s2=s3 then some s2 else none
def z25 (out:Nat) (exs:List (Nat × Nat)) (rt:Nat):zE→Nat
 | .normal=>out
 | .exit i=>(exs.lookup i).getD 0
 | .ret=>rt
theorem z26 (call:z7):∀ (l:List zk) (k s:Nat) (τ τ':Tau) (H:z3) (τ1':Tau) (H1:z3),z4Q l=some k→k &&& s=0→Agr s τ τ'→kK call l τ' H=some (τ1',H1)→H1=H∧Agr s τ τ1'
 | [],k,s,τ,τ',H,τ1',H1,_,_,h,e=>by
  simp only [kK,Option.some.injEq,Prod.mk.injEq] at e
  obtain⟨rfl,rfl⟩:=e
  exact⟨rfl,h⟩
 | o::l,k,s,τ,τ',H,τ1',H1,hk,hz,h,e=>by
  simp only [z4Q] at hk
  split at hk
  ·rename_i d k' ho hl
   obtain rfl:=Option.some.inj hk
   unfold z9m at ho
   split at ho
   ·obtain rfl:=(Option.some.inj ho).symm
    simp only [kK,za,if_true,xL,yR,aop,Tau.at,Tau.put] at e
    have hd:s.testBit d=false:=by
     have:=congrArg (fun n=>n.testBit d) hz
     simp [Nat.testBit_and,Nat.testBit_or] at this
     simpa using this
    have hz':k' &&& s=0:=by
     apply Nat.eq_of_testBit_eq
     intro i
     have:=congrArg (fun n=>n.testBit i) hz
     simp only [Nat.testBit_and,Nat.testBit_or,Nat.zero_testBit] at this ⊢
     cases h1:k'.testBit i<;>simp_all
    exact z26 call l k' s τ _ H τ1' H1 hl hz' (h.put_dead _ hd) e
   ·cases ho
  ·cases hk
section
variable {E E':Env}
def QU (fn:AFn):AFn:=⟨fn.nt,kE fn.code,fn.res⟩
def Z8:List vl→Nat
 | []=>0
 | .tmp t::l=>2 ^ t ||| Z8 l
 | .cell a _::l=>2 ^ a ||| Z8 l
def W3 (fn:AFn):Bool:=(lvC (Z8 fn.res) [] (Z8 fn.res) fn.code).isSome
theorem Wx {τ τ':Tau} {H:z3} {l:List vl} (h:Agr (Z8 l) τ τ'):y4 τ H l=y4 τ' H l:=by
 have:zO (qV τ H) l=zO (qV τ' H) l:=by
  have key:∀ (l:List vl) (s:Nat),sub (Z8 l) s→Agr s τ τ'→zO (qV τ H) l=zO (qV τ' H) l:=by
   intro l
   induction l with
   | nil=>intro _ _ _;rfl
   | cons r l ih =>
    intro s hs h
    have h1:qV τ H r=qV τ' H r:=by
     cases r with
     | tmp t=>simp only [qV];exact h.2 t (hs t (by simp [Z8,Nat.testBit_or]))
     | cell a n =>
      simp only [qV]
      rw [h.2 a (hs a (by simp [Z8,Nat.testBit_or]))]
    have h2:=ih s (fun t ht=>hs t (by cases r<;>simp [Z8,Nat.testBit_or,ht])) h
    simp only [zO,h1,h2]
  exact key l _ (Vb _) h
 simp only [y4,this]
structure W4 (E E':Env):Prop where
 spec:E'.spec=E.spec
 fns:∀ f fn,E'.fns f=some fn→E.fns f=some (QU fn)∧W3 fn=true
theorem z3b {i j out:Nat} {exs:List (Nat × Nat)} (h:j≠i):((i,out)::exs).lookup j=exs.lookup j:=by
 simp [List.lookup,show (j == i)=false from by simpa using h]
theorem z4R (hS:W4 E E'):∀ n,QR (xn E' n) (zL E) ∧
  ∀ c out exs rt s τ τ' H ex τ1' H1,lvC out exs rt c=some s→Agr s τ τ'→zx E' n c τ' H=some (ex,τ1',H1)→∃ τ1,yI E (kE c) τ H=some (ex,τ1,H1)∧Agr (z25 out exs rt ex) τ1 τ1':=by
 intro n
 induction n with
 | zero=>exact⟨fun f args H r h=>by simp [xn] at h,fun c out exs rt s τ τ' H ex τ1' H1 _ _ h=>by simp [zx] at h⟩
 | succ n ih =>
  obtain⟨ihc,ihe⟩:=ih
  refine⟨fun f args H r h=>?_,?_⟩
  ·unfold xn at h
   split at h
   ·rename_i g hg
    rw [hS.spec] at hg
    rw [wa hg]
    exact h
   ·rename_i hg
    rw [hS.spec] at hg
    split at h
    ·cases h
    ·rename_i fn hfn
     obtain⟨h1,h2⟩:=hS.fns f fn hfn
     rw [z0X hg h1,jl]
     unfold W3 at h2
     obtain⟨s,hs⟩:=Option.isSome_iff_exists.1 h2
     cases he:zx E' n fn.code (args++List.replicate (fn.nt - args.length) z4) H with
     | none=>rw [he] at h;cases h
     | some x =>
      obtain⟨ex,τ1',H1⟩:=x
      obtain⟨τ1,hτ,hag⟩:=ihe _ _ _ _ _ _ _ _ _ _ _ hs ⟨rfl,fun _ _=>rfl⟩ he
      rw [he] at h
      show bnE (yI E (kE fn.code) (args++List.replicate (fn.nt - args.length) z4) H) (z4M fn.res)=some r
      rw [hτ]
      cases ex with
      | normal=>simp only [bnE,z4M];rw [Wx hag];exact h
      | exit i=>cases h
      | ret=>simp only [bnE,z4M];rw [Wx hag];exact h
  ·intro c out exs rt s τ τ' H ex τ1' H1 hl ha he
   unfold zx at he
   cases c with
   | skip =>
    obtain rfl:=Option.some.inj hl
    simp only [Option.some.injEq,Prod.mk.injEq] at he
    obtain⟨rfl,rfl,rfl⟩:=he
    exact⟨τ,K2,ha⟩
   | ret =>
    obtain rfl:=Option.some.inj hl
    simp only [Option.some.injEq,Prod.mk.injEq] at he
    obtain⟨rfl,rfl,rfl⟩:=he
    exact⟨τ,VY,ha⟩
   | exit i =>
    simp only [Option.some.injEq,Prod.mk.injEq] at he
    obtain⟨rfl,rfl,rfl⟩:=he
    simp only [lvC] at hl
    exact⟨τ,K3,by simp only [z25,hl,Option.getD_some];exact ha⟩
   | reg ops =>
    obtain rfl:=Option.some.inj hl
    simp only at he
    obtain⟨y,hy,he⟩:=Option.map_eq_some_iff.1 he
    obtain⟨τy,Hy⟩:=y
    simp only [Prod.mk.injEq] at he
    obtain⟨rfl,rfl,rfl⟩:=he
    obtain⟨τ1,h1,h2⟩:=z0Z ihc _ _ _ _ _ _ _ ha hy
    refine⟨τ1,?_,h2⟩
    show yI E (.reg ops) τ H=_
    rw [VZ,h1];rfl
   | dreg na ops =>
    obtain rfl:=Option.some.inj hl
    simp only at he
    obtain⟨y,hy,he⟩:=Option.map_eq_some_iff.1 he
    obtain⟨τy,Hy⟩:=y
    simp only [Prod.mk.injEq] at he
    obtain⟨rfl,rfl,rfl⟩:=he
    obtain⟨τ1,h1,h2⟩:=YW ihc _ _ _ [] _ _ _ _ _ _ ⟨rfl,fun _ _ _=>rfl⟩ ha hy
    refine⟨τ1,?_,h2⟩
    show yI E (.dreg na ops) τ H=_
    rw [K4,h1];rfl
   | seq a b =>
    simp only [lvC] at hl
    cases hb:lvC out exs rt b with
    | none=>rw [hb] at hl;cases hl
    | some sb =>
     rw [hb] at hl
     simp only at hl he
     have hk:(∃ ops k,a=.reg ops∧z4Q ops=some k∧k &&& sb=0∧s=sb)∨(kE (.seq a b)=.seq (kE a) (kE b)∧lvC sb exs rt a=some s):=by
      cases hk:Vc a with
      | some k =>
       rw [hk] at hl
       simp only at hl
       split at hl
       ·rename_i hz
        unfold Vc at hk
        split at hk
        ·exact Or.inl ⟨_,k,rfl,hk,hz,(Option.some.inj hl).symm⟩
        ·cases hk
       ·cases hl
      | none =>
       rw [hk] at hl
       refine Or.inr ⟨?_,hl⟩
       simp only [kE,hk]
     rcases hk with ⟨ops,k,rfl,hk,hz,rfl⟩ | ⟨hst,hla⟩
     ·have hst:kE (.seq (.reg ops) b)=kE b:=by simp only [kE,Vc,hk]
      rw [hst]
      cases hA:zx E' n (.reg ops) τ' H with
      | none=>rw [hA] at he;cases he
      | some y =>
       obtain⟨ex2,τ2,H2⟩:=y
       rw [hA] at he
       cases n with
       | zero=>simp [zx] at hA
       | succ n =>
        simp only [zx] at hA
        obtain⟨z,hz2,hA⟩:=Option.map_eq_some_iff.1 hA
        obtain⟨τz,Hz⟩:=z
        simp only [Prod.mk.injEq] at hA
        obtain⟨rfl,rfl,rfl⟩:=hA
        obtain⟨rfl,hag⟩:=z26 _ _ _ _ _ _ _ _ _ hk hz ha hz2
        exact ihe _ _ _ _ _ _ _ _ _ _ _ hb hag he
     ·rw [hst,W0]
      cases hA:zx E' n a τ' H with
      | none=>rw [hA] at he;cases he
      | some y =>
       obtain⟨ex2,τ2,H2⟩:=y
       rw [hA] at he
       obtain⟨τ3,h3,hag⟩:=ihe _ _ _ _ _ _ _ _ _ _ _ hla ha hA
       rw [h3]
       cases ex2 with
       | normal =>
        simp only [bnE,WR]
        exact ihe _ _ _ _ _ _ _ _ _ _ _ hb hag he
       | exit i =>
        simp only [Option.some.injEq,Prod.mk.injEq] at he
        obtain⟨rfl,rfl,rfl⟩:=he
        exact⟨τ3,rfl,hag⟩
       | ret =>
        simp only [Option.some.injEq,Prod.mk.injEq] at he
        obtain⟨rfl,rfl,rfl⟩:=he
        exact⟨τ3,rfl,hag⟩
   | cond x a b =>
    simp only [lvC] at hl
    cases hA:lvC out exs rt a with
    | none=>rw [hA] at hl;cases hl
    | some sa =>
     cases hB:lvC out exs rt b with
     | none=>rw [hA,hB] at hl;cases hl
     | some sb =>
      rw [hA,hB] at hl
      obtain rfl:=Option.some.inj hl
      have hz:sub (z9k x ||| (sa ||| sb)) (z9k x ||| (sa ||| sb)):=Vb _
      have hx:τ.at x=τ'.at x:=ha.at (l:=[x]) (by simpa [z4O] using Z7 hz) x (by simp)
      simp only at he
      show ∃ τ1,yI E (.cond x (kE a) (kE b)) τ H=_∧_
      rw [XB,hx]
      split at he
      ·rename_i t ht
       rw [ht]
       cases t with
       | true=>exact ihe _ _ _ _ _ _ _ _ _ _ _ hA (ha.sub (Z7 (wk hz))) he
       | false=>exact ihe _ _ _ _ _ _ _ _ _ _ _ hB (ha.sub (wk (wk hz))) he
      ·cases he
   | block i c =>
    simp only [lvC] at hl
    simp only at he
    show ∃ τ1,yI E (.block i (kE c)) τ H=_∧_
    rw [QT]
    cases hA:zx E' n c τ' H with
    | none=>rw [hA] at he;cases he
    | some y =>
     obtain⟨ex2,τ2,H2⟩:=y
     rw [hA] at he
     obtain⟨τ3,h3,hag⟩:=ihe _ _ _ _ _ _ _ _ _ _ _ hl ha hA
     rw [h3]
     cases ex2 with
     | normal =>
      simp only [Option.some.injEq,Prod.mk.injEq] at he
      obtain⟨rfl,rfl,rfl⟩:=he
      exact⟨τ3,rfl,hag⟩
     | ret =>
      simp only [Option.some.injEq,Prod.mk.injEq] at he
      obtain⟨rfl,rfl,rfl⟩:=he
      exact⟨τ3,rfl,hag⟩
     | exit j =>
      simp only [Option.some.injEq,Prod.mk.injEq] at he
      obtain⟨rfl,rfl,rfl⟩:=he
      refine⟨τ3,rfl,?_⟩
      by_cases hj:j=i
      ·subst hj
       simp only [z25,List.lookup,beq_self_eq_true,Option.getD_some] at hag
       simpa [z25] using hag
      ·simp only [z25,z3b hj] at hag
       simpa [z25,hj] using hag
   | loop c =>
    have hl0:=hl
    simp only [lvC] at hl
    split at hl
    ·cases hl
    ·rename_i s1 h1
     split at hl
     ·cases hl
     ·rename_i s2 h2
      split at hl
      ·cases hl
      ·rename_i s3 h3
       split at hl
       ·rename_i hz
        obtain rfl:=Option.some.inj hl
        simp only at he
        show ∃ τ1,Jr E (kE c) τ H=_∧_
        rw [z0W]
        cases hA:zx E' n c τ' H with
        | none=>rw [hA] at he;cases he
        | some y =>
         obtain⟨ex2,τ2,H2⟩:=y
         rw [hA] at he
         obtain⟨τ3,h4,hag⟩:=ihe _ _ _ _ _ _ _ _ _ _ _ h3 (ha.sub (zac hz)) hA
         rw [h4]
         cases ex2 with
         | normal =>
          simp only [bnE,WR]
          obtain⟨τ4,h5,hag2⟩:=ihe _ _ _ _ _ _ _ _ _ _ _ hl0 hag he
          exact⟨τ4,h5,hag2⟩
         | exit i =>
          simp only [Option.some.injEq,Prod.mk.injEq] at he
          obtain⟨rfl,rfl,rfl⟩:=he
          exact⟨τ3,rfl,hag⟩
         | ret =>
          simp only [Option.some.injEq,Prod.mk.injEq] at he
          obtain⟨rfl,rfl,rfl⟩:=he
          exact⟨τ3,rfl,hag⟩
       ·cases hl
theorem wQ (hS:W4 E E') {f:Nat} {args:List AV} {H:z3} {r:AV × z3} (h:zL E' f args H=some r):zL E f args H=some r:=by
 obtain⟨n,hn⟩:=xK.1 h
 exact(z4R hS n).1 _ _ _ _ hn
end
end Go.Ab
