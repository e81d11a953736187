/- A region that draws its order: in whatever order its operations come up, they come to what the evaluator tells. -/
import Derived.Test.YtdbbdfmkglgjdaaAb13
set_option linter.unusedVariables false
set_option linter.unusedSimpArgs false
set_option linter.unusedSectionVars false
namespace Go.Ab
open Go.RowKit
section
variable {P:Program} {B:Nat} {ρ:Rho} {w:World} {H H':z3} {v:AV} {τ τ':Tau} {call:z7} {ops:Array Oper}

def Ze (ops:Array Oper) (i:Nat):Option Nat:=(ops[i]?).bind (·.dst)
def yi (ops:Array Oper) (τ:Tau):List (Nat × AV)→Tau
 | []=>τ
 | p::l=>yi ops (τ.put (Ze ops p.1) p.2) l
theorem wb:∀ (l m:List (Nat × AV)) (τ:Tau),yi ops τ (l++m)=yi ops (yi ops τ l) m
 | [],_,_=>rfl
 | p::l,m,τ=>wb l m _
theorem z06 (τ:Tau) (d:Option Nat) (v:AV):(τ.put d v).length=τ.length:=by cases d<;>simp [Tau.put]
theorem Jf:∀ (l:List (Nat × AV)) (τ:Tau),(yi ops τ l).length=τ.length
 | [],_=>rfl
 | _::l,_=>by simp only [yi];rw [Jf l,z06]
theorem z6w {τ:Tau} {d:Option Nat} {v:AV} {t:Nat} (h:d≠some t):(τ.put d v)[t]? = τ[t]? := by
 cases d with
 | none=>rfl
 | some d=>simp only [Tau.put];rw [List.getElem?_set_ne (fun e=>h (by rw [e]))]
theorem ZJ {t:Nat}:∀ (l:List (Nat × AV)) (τ:Tau),(∀ p ∈ l,Ze ops p.1≠some t)→(yi ops τ l)[t]? = τ[t]?
 | [],_,_=>rfl
 | p::l,τ,h=>by
  simp only [yi]
  rw [ZJ l _ (fun q hq=>h q (by simp [hq])),z6w (h p (by simp))]
theorem Qg {t j:Nat} {v:AV} (hone:∀ i,Ze ops i=some t→i=j) (hj:Ze ops j=some t) :
  ∀ (l:List (Nat × AV)) (τ:Tau),(l.map Prod.fst).Nodup→(j,v) ∈ l→t < τ.length→(yi ops τ l)[t]? = some v
 | [],_,_,h,_=>by cases h
 | p::l,τ,hn,hm,ht=>by
  simp only [yi]
  simp only [List.map_cons,List.nodup_cons] at hn
  rcases List.mem_cons.1 hm with e | hm
  ·subst e
   rw [ZJ l]
   ·simp only [hj,Tau.put];rw [List.getElem?_set_self ht]
   ·intro q hq hd
    have e2:q.1=j:=hone _ hd
    exact hn.1 (List.mem_map.2 ⟨q,hq,e2⟩)
  ·exact Qg hone hj l _ hn.2 hm (by rw [z06];exact ht)
theorem zaf {t:Nat} {l m:List (Nat × AV)} (hone:∀ i j,Ze ops i=some t→Ze ops j=some t→i=j) (hl:(l.map Prod.fst).Nodup) (hm:(m.map Prod.fst).Nodup)
  (hv:∀ j v v',(j,v) ∈ l→(j,v') ∈ m→v=v') (hiff:∀ j,Ze ops j=some t→(j ∈ l.map Prod.fst↔j ∈ m.map Prod.fst)) (τ:Tau):(yi ops τ l)[t]? = (yi ops τ m)[t]? := by
 by_cases ht:t < τ.length
 ·by_cases hw:∃ j,Ze ops j=some t∧j ∈ l.map Prod.fst
  ·obtain⟨j,hj,hjl⟩:=hw
   have hjm:=(hiff j hj).1 hjl
   obtain⟨⟨j1,v⟩,h1,e1⟩:=List.mem_map.1 hjl
   obtain⟨⟨j2,v'⟩,h2,e2⟩:=List.mem_map.1 hjm
   simp at e1 e2
   subst e1
   subst e2
   rw [Qg (fun i hi=>hone i _ hi hj) hj l τ hl h1 ht,Qg (fun i hi=>hone i _ hi hj) hj m τ hm h2 ht,hv _ _ _ h1 h2]
  ·rw [ZJ l,ZJ m]
   ·intro p hp hd
    exact hw ⟨p.1,hd,(hiff p.1 hd).2 (List.mem_map_of_mem hp)⟩
   ·intro p hp hd
    exact hw ⟨p.1,hd,List.mem_map_of_mem hp⟩
 ·have h1:∀ l:List (Nat × AV),(yi ops τ l)[t]? = none:=fun l=>by
   rw [List.getElem?_eq_none_iff,Jf];omega
  rw [h1,h1]
theorem Qh (h:ZY ops=true) {i j:Nat} {oi oj:Oper} {t:Nat} (hi:ops[i]? = some oi) (hj:ops[j]? = some oj) (hd:oj.dst=some t) :
  (oi.dst=some t→i=j)∧(t ∈ oi.looksAt ops→i≠j∧(W6 oi j=true∨W6 oj i=true)):=by
 unfold ZY at h
 have hil:i < ops.size:=(Array.getElem?_eq_some_iff.1 hi).1
 have hjl:j < ops.size:=(Array.getElem?_eq_some_iff.1 hj).1
 rw [List.all_eq_true] at h
 have h1:=h j (by simp [hjl])
 rw [List.all_eq_true] at h1
 have h2:=h1 i (by simp [hil])
 simp only [hi,hj,hd,Bool.and_eq_true,Bool.or_eq_true,Bool.not_eq_true'] at h2
 refine⟨fun e=>?_,fun hm=>?_⟩
 ·rcases h2.1 with h3 | h3
  ·simpa using h3
  ·simp [e] at h3
 ·rcases h2.2 with h3 | h3
  ·rw [List.contains_iff_mem.2 hm] at h3;cases h3
  ·exact⟨by simpa using h3.1,h3.2⟩

def Qi (ops:Array Oper) (ids:List Nat) (j:Nat):Prop:=j ∉ ids∧∃ o,ops[j]? = some o∧∀ e ∈ o.after,Region.binds .any e=true→e.on ∈ ids
def Lst (n:Nat) (listed:Array Bool) (ids:List Nat):Prop:=listed.size=n∧∀ i,i < n→(listed[i]? = some true↔i ∈ ids)
theorem K7 {n:Nat} {listed:Array Bool} {ids:List Nat} (h:Lst n listed ids) {i:Nat} (hi:i < n) (d:Bool):listed.getD i d=true↔i ∈ ids:=by
 rw [← h.2 i hi,Array.getD_eq_getD_getElem?]
 have:i < listed.size:=by rw [h.1];exact hi
 simp [this]
theorem vX {listed:Array Bool} {ids:List Nat} (h:Lst ops.size listed ids) (hids:∀ i ∈ ids,i < ops.size) (j:Nat):j ∈ Region.ready .any ops listed↔Qi ops ids j:=by
 rw [mem_ready]
 unfold Qi
 constructor
 ·rintro ⟨h0,o,ho,hall⟩
  have hj:j < ops.size:=(Array.getElem?_eq_some_iff.1 ho).1
  refine⟨fun hm=>?_,o,ho,fun e he hb=>?_⟩
  ·rw [(K7 h hj true).2 hm] at h0;cases h0
  ·have:=hall e he hb
   by_cases hlt:e.on < ops.size
   ·exact(K7 h hlt false).1 this
   ·rw [Array.getD_eq_getD_getElem?,Array.getElem?_eq_none (by rw [h.1];omega)] at this
    simp at this
 ·rintro ⟨h0,o,ho,hall⟩
  have hj:j < ops.size:=(Array.getElem?_eq_some_iff.1 ho).1
  refine⟨?_,o,ho,fun e he hb=>?_⟩
  ·cases hg:listed.getD j true with
   | false=>rfl
   | true=>exact absurd ((K7 h hj true).1 hg) h0
  ·have hm:=hall e he hb
   exact(K7 h (hids _ hm) false).2 hm
theorem WS {n:Nat} {listed:Array Bool} {ids:List Nat} (h:Lst n listed ids) {i:Nat} (hi:i < n):Lst n (listed.setIfInBounds i true) (ids++[i]):=by
 refine⟨by simpa using h.1,fun j hj=>?_⟩
 by_cases e:i=j
 ·subst e;simp [h.1,hi]
 ·rw [Array.getElem?_setIfInBounds_ne e,h.2 j hj]
  simp [Ne.symm e]
theorem z1r (n:Nat):Lst n (Array.replicate n false) []:=by
 refine⟨by simp,fun i hi=>?_⟩
 simp [hi]
structure Yf (P:Program) (ops:Array Oper) (ord:List Nat):Prop where
 len:ord.length=ops.size
 rdy:∀ p i,ord[p]? = some i→Qi ops (ord.take p) i
 eff:∀ p i o,ord[p]? = some i→ops[i]? = some o→vo P o.op=false→∀ j,Qi ops (ord.take p) j→j=i
theorem K8:∀ (m:Nat) (listed:Array Bool) (ids rest:List Nat),Lst ops.size listed ids→(∀ i ∈ ids,i < ops.size)→X2 P ops m listed=some rest →
  rest.length=m∧(∀ p i,rest[p]? = some i→Qi ops (ids++rest.take p) i) ∧
  (∀ p i o,rest[p]? = some i→ops[i]? = some o→vo P o.op=false→∀ j,Qi ops (ids++rest.take p) j→j=i)
 | 0,listed,ids,rest,_,_,h=>by simp [X2] at h;subst h;simp
 | m+1,listed,ids,rest,hl,hids,h=>by
  simp only [X2] at h
  cases hp:z00 P ops listed with
  | none=>simp [hp] at h
  | some i =>
   simp only [hp] at h
   obtain⟨rest',hr,rfl⟩:=Option.map_eq_some_iff.1 h
   have hpick:i ∈ Region.ready .any ops listed∧(∀ o,ops[i]? = some o→vo P o.op=false→∀ j ∈ Region.ready .any ops listed,j=i):=by
    unfold z00 at hp
    simp only at hp
    split at hp
    ·rename_i k hk
     obtain rfl:=Option.some.inj hp
     refine⟨List.mem_of_find?_eq_some hk,fun o ho hf=>?_⟩
     have:=List.find?_some hk
     have hgd:ops.getD k default=o:=by rw [Array.getD_eq_getD_getElem?,ho];rfl
     simp only [hgd,hf] at this
     cases this
    ·split at hp
     ·rename_i k hk
      obtain rfl:=Option.some.inj hp
      rw [hk]
      exact⟨by simp,fun o _ _ j hj=>by simpa using hj⟩
     ·cases hp
   have hri:=(vX hl hids i).1 hpick.1
   have hi:i < ops.size:=by
    obtain⟨_,o,ho,_⟩:=hri
    exact(Array.getElem?_eq_some_iff.1 ho).1
   obtain⟨h1,h2,h3⟩:=K8 m _ (ids++[i]) rest' (WS hl hi) (by
    intro k hk
    rcases List.mem_append.1 hk with hk | hk
    ·exact hids k hk
    ·simp at hk;subst hk;exact hi) hr
   refine⟨by simp [h1],fun p j hj=>?_,fun p j o hj ho hf k hk=>?_⟩
   ·cases p with
    | zero=>simp at hj;subst hj;simpa using hri
    | succ p=>have:=h2 p j (by simpa using hj);simpa using this
   ·cases p with
    | zero =>
     simp at hj
     subst hj
     exact hpick.2 o ho hf k ((vX hl hids k).2 (by simpa using hk))
    | succ p=>exact h3 p j o (by simpa using hj) ho hf k (by simpa using hk)
theorem z7u {ord:List Nat} (h:X2 P ops ops.size (Array.replicate ops.size false)=some ord):Yf P ops ord:=by
 obtain⟨h1,h2,h3⟩:=K8 ops.size _ [] ord (z1r _) (by simp) h
 exact⟨h1,by simpa using h2,by simpa using h3⟩
theorem Yf.lt {ord:List Nat} (h:Yf P ops ord):∀ i ∈ ord,i < ops.size:=by
 intro i hi
 obtain⟨p,hp⟩:=List.getElem?_of_mem hi
 obtain⟨_,o,ho,_⟩:=h.rdy p i hp
 exact(Array.getElem?_eq_some_iff.1 ho).1
theorem Jg {α:Type}:∀ (l pre:List α),(∀ p i,l[p]? = some i→i ∉ pre++l.take p)→l.Nodup
 | [],_,_=>List.nodup_nil
 | x::l,pre,h=>by
  rw [List.nodup_cons]
  refine⟨fun hx=>?_,Jg l (pre++[x]) fun p i hi=>?_⟩
  ·obtain⟨q,hq⟩:=List.getElem?_of_mem hx
   exact h (q+1) x (by simpa using hq) (by simp)
  ·have:=h (p+1) i (by simpa using hi)
   simpa using this
theorem Yf.nodup {ord:List Nat} (h:Yf P ops ord):ord.Nodup :=
 Jg ord [] fun p i hi=>by simpa using (h.rdy p i hi).1
theorem Vf:∀ (n:Nat) (l:List Nat),l.Nodup→(∀ i ∈ l,i < n)→l.length≤n
 | 0,l,_,h=>by
  cases l with
  | nil=>simp
  | cons x l=>have:=h x (by simp);omega
 | n+1,l,hn,h=>by
  by_cases hm:n ∈ l
  ·have:=Vf n (l.erase n) (hn.erase n) (fun i hi=>by
    rw [hn.mem_erase_iff] at hi
    have:=h i hi.2
    omega)
   rw [List.length_erase_of_mem hm] at this
   omega
  ·have:=Vf n l hn (fun i hi=>by
    have h1:=h i hi
    have:i≠n:=fun e=>hm (e ▸ hi)
    omega)
   omega
theorem z1s {n:Nat} {l:List Nat} (hl:l.length=n) (hn:l.Nodup) (hlt:∀ i ∈ l,i < n):∀ i,i < n→i ∈ l:=by
 intro i hi
 apply Classical.byContradiction
 intro hne
 have:=Vf n (i::l) (List.nodup_cons.2 ⟨hne,hn⟩) (fun j hj=>by
  rcases List.mem_cons.1 hj with rfl | hj
  ·exact hi
  ·exact hlt j hj)
 simp at this
 omega
end
end Go.Ab
