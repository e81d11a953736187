/- What the functions of kids come to. -/
import Derived.Test.YtdbbdfmkglgjdaaPmKids
set_option linter.unusedVariables false
set_option linter.unusedSimpArgs false
namespace Go.Proofs.Ytdbbdfmkglgjdaa.Pi
open Go.Ab Go.Feed Go.Kids
set_option maxRecDepth 100000
def Kid.v (k:Kid):AV:=.agg [.int .i64 k.id,.int .i64 k.inc,.int .i64 k.heard]
theorem Zi (k:Kid):Kid.v k=.agg [.int .i64 k.id,.int .i64 k.inc,.int .i64 k.heard]:=rfl
abbrev kds (l:List Kid):AV:=.fz 3 (l.map Kid.v)
theorem kAt {l:List Kid} {i:Nat} (hi:i < l.length):l[i]? = some (l.getD i default):=z2P hi
section
variable {Q:z3}
theorem z8h (a:Int):zd (z8 P1) 87 [.int .i64 a] Q=some (.bool false,Q):=by
 rw [WM rfl];simp
theorem zaC (a b:Int):zd (z8 P1) 83 [.int .i64 a,.int .i64 b] Q=some (.int .i64 (if a < b then -1 else if b < a then 1 else 0),Q):=by
 rw [KO rfl]
 by_cases h1:a < b<;>by_cases h2:b < a<;>simp [z8h,h1,h2]
theorem Kn {l:List Kid} {v:AV} (h:Sl 3 (l.map Kid.v) v) (hl:l.length≤1000000):zd (z8 P1) 65 [v] Q=some (.ow 3 (l.map Kid.v),Q):=by
 rw [Xt (g:=wY 3 24) rfl,h.clone (by rw [List.length_map];exact J1 (by omega) (by omega))];rfl
theorem z3y (x:Kid) (s:Int):zd (z8 P1) 82 [Kid.v x,.int .i64 s] Q=some (.int .i64 (if x.id < s then -1 else if s < x.id then 1 else 0),Q):=by
 rw [Zi,z0t rfl]
 simp [zaC]
theorem z8i {l:List Kid} {v:AV} (h:Sl 3 (l.map Kid.v) v) (hl:l.length≤900000) (hs:KS l) (s:Int):∀ (m i j:Nat),j - i≤m→i≤j→j≤l.length→(∀ k,k < i→(l.getD k default).id < s)→(∀ k,j≤k→k < l.length→¬ (l.getD k default).id < s) →
  zS P1 v (.int .i64 s) (.fn 82 [] []) (.int .i64 l.length) (.int .i64 i) (.int .i64 j) Q=xX v (.int .i64 s) (.fn 82 [] []) (.int .i64 l.length) (.int .i64 (xH l s)) Q:=by
 have sl:∀ k m:Nat,k < m→m < l.length→(l.getD k default).id < (l.getD m default).id:=fun k m hk hm=>by
  have:=J0 hs.so (k:=k) (m:=m) hk (by simpa using hm)
  rwa [wL,wL] at this
 intro m
 induction m with
 | zero =>
  intro i j hm hij hj h1 h2
  obtain rfl:i=j:=by omega
  have hp:xH l s=i:=z5V (by simpa using hj) (fun k hk=>by rw [wL];exact h1 k hk) (fun hi=>by rw [wL];exact h2 i (Nat.le_refl _) (by simpa using hi))
  have c:¬ ((i:Int) < i):=by omega
  rw [yn,yz,hp]
  simp
 | succ m ih =>
  intro i j hm hij hj h1 h2
  by_cases hlt:i < j
  ·have c:((i:Int) < j)=True:=eq_true (by omega)
   have w1:IntKind.i64.wrap ((i:Int)+j)=(i:Int)+j:=w64 (by omega) (by omega)
   have w2:IntKind.u64.wrap ((i:Int)+j)=(i:Int)+j:=z8D (by omega) (by omega)
   have hd:((i:Int)+j).fdiv (2 ^ min 1 IntKind.u64.bits)=(((i+j) / 2:Nat):Int):=by
    rw [show (2:Int) ^ min 1 IntKind.u64.bits=2 from rfl,Int.fdiv_eq_ediv_of_nonneg _ (by omega)];omega
   generalize hh:(i+j) / 2=p at *
   have hp:p < l.length:=by omega
   have w3:IntKind.i64.wrap (p:Int)=p:=w64 (by omega) (by omega)
   have w4:IntKind.i64.wrap ((p:Int)+1)=((p+1:Nat):Int):=by rw [w64 (by omega) (by omega)];rfl
   have hx:=kAt (l:=l) hp
   have e:=h.get (k:=.i64) hx
   have cp:=fun(Q:z3)=>z3y (Q:=Q) (l.getD p default) s
   rw [Zi] at cp e
   rw [yn,yz]
   by_cases hc:(l.getD p default).id < s
   ·have ih:=ih (p+1) j (by omega) (by omega) hj (fun k hk=>by
     by_cases hk2:k=p
     ·subst hk2;exact hc
     ·have:=sl k p (by omega) hp;omega) h2
    simp [c,w1,w2,hd,w3,w4,e,cp,hc,J7,-List.getD_eq_getElem?_getD,zy]
    simpa using ih
   ·have ih:=ih i p (by omega) (by omega) (by omega) h1 (fun k hk hk2=>by
     by_cases hk3:k=p
     ·subst hk3;exact hc
     ·have:=sl p k (by omega) hk2;omega)
    by_cases hc2:s < (l.getD p default).id
    ·simp [c,w1,w2,hd,w3,w4,e,cp,hc,hc2,J7,-List.getD_eq_getElem?_getD,zy]
     simpa using ih
    ·simp [c,w1,w2,hd,w3,w4,e,cp,hc,hc2,J7,-List.getD_eq_getElem?_getD,zy]
     simpa using ih
  ·exact ih i j (by omega) hij hj h1 h2
theorem z58 {l:List Kid} (hs:KS l) (s:Int):(jA l s).isSome=true↔xH l s < l.length∧(l.getD (xH l s) default).id=s:=by
 rw [← JT,VG hs.so,wL,List.length_map];rfl
theorem z5R {l:List Kid} {v:AV} (h:Sl 3 (l.map Kid.v) v) (hl:l.length≤900000) (hs:KS l) (s:Int):zd (z8 P1) 76 [v,.int .i64 s] Q=some (.tup [.int .i64 (xH l s),.bool (jA l s).isSome],Q):=by
 have bs:∀ Q,zd (z8 P1) 81 [v,.int .i64 s,.fn 82 [] []] Q=some (.tup [.int .i64 (xH l s),.bool (jA l s).isSome],Q):=fun Q=>by
  rw [qC rfl,h.len]
  have lp:=z8i (Q:=Q) h hl hs s l.length 0 l.length (by omega) (by omega) (Nat.le_refl _) (fun k hk=>by omega) (fun k hk hk2=>by omega)
  rw [show ((0:Nat):Int)=0 from rfl] at lp
  have ht:=z58 hs s
  simp [zy,lp,qi]
  by_cases hp:xH l s < l.length
  ·have hx:=kAt (l:=l) hp
   have e:=h.get (k:=.i64) hx
   have cp:=fun(Q:z3)=>z3y (Q:=Q) (l.getD (xH l s) default) s
   rw [Zi] at cp e
   by_cases h1:(l.getD (xH l s) default).id=s
   ·have ht:(jA l s).isSome=true:=ht.2 ⟨hp,h1⟩
    have h2:¬ (l.getD (xH l s) default).id < s:=by omega
    have h3:¬ s < (l.getD (xH l s) default).id:=by omega
    simp [hp,e,cp,h2,h3,ht,J7,-List.getD_eq_getElem?_getD]
   ·have ht:(jA l s).isSome=false:=by
     cases hth:(jA l s).isSome with
     | false=>rfl
     | true=>exact absurd (ht.1 hth).2 h1
    by_cases h2:(l.getD (xH l s) default).id < s
    ·simp [hp,e,cp,h2,ht,J7,-List.getD_eq_getElem?_getD]
    ·have h3:s < (l.getD (xH l s) default).id:=by omega
     simp [hp,e,cp,h2,h3,ht,J7,-List.getD_eq_getElem?_getD]
  ·have ht:(jA l s).isSome=false:=by
    cases hth:(jA l s).isSome with
    | false=>rfl
    | true=>exact absurd (ht.1 hth).1 hp
   simp [hp,ht]
 rw [z2M rfl]
 simp [bs]
theorem z59 {l:List Kid} {v:AV} (h:Sl 3 (l.map Kid.v) v) (hl:l.length≤900000) (hs:KS l) (s:Int):zd (z8 P1) 68 [v,.int .i64 s] Q=some (.tup [Kid.v ((jA l s).getD ⟨0,0,0⟩),.bool (jA l s).isSome],Q):=by
 have pl:=fun(Q:z3)=>z5R (Q:=Q) h hl hs s
 rw [z3T rfl]
 cases e:jA l s with
 | none=>rw [e] at pl;simp [pl,Kid.v]
 | some x =>
  rw [e] at pl
  have hx:=h.get (k:=.i64) (KR hs e).2
  rw [Zi] at hx
  simp [pl,hx,Kid.v]
theorem zag {l:List Kid} {v:AV} (h:Sl 3 (l.map Kid.v) v) (hl:l.length≤900000) (hs:KS l) (s n:Int):zd (z8 P1) 48 [v,.int .i64 s,.int .i64 n] Q=some (.bool (match jA l s with
  | some x=>decide (n < x.inc)
  | none=>false),Q):=by
 have pl:=fun(Q:z3)=>z59 (Q:=Q) h hl hs s
 rw [z5l rfl]
 cases e:jA l s with
 | none=>rw [e] at pl;simp [pl,Kid.v]
 | some x=>rw [e] at pl;simp [pl,Kid.v]
theorem zcI (l:List Kid) (i:Nat) (k:Kid):(l.map Kid.v).set i (Kid.v k)=(l.set i k).map Kid.v:=List.map_set.symm
theorem zaD {l:List Kid} {v:AV} (h:Sl 3 (l.map Kid.v) v) (hl:l.length≤900000) (hs:KS l) (k:Kid):zd (z8 P1) 78 [v,.agg [.int .i64 k.id,.int .i64 k.inc,.int .i64 k.heard]] Q=some (.tup [kds (hear l k).1,.bool (hear l k).2],Q):=by
 have cl:=fun(Q:z3)=>Kn (Q:=Q) h (by omega)
 have ol:=fun(Q:z3)=>zag (Q:=Q) h hl hs k.id k.inc
 have pl:=fun(Q:z3)=>z5R (Q:=Q) h hl hs k.id
 have hp:=z5W l k.id
 rw [z3V rfl]
 unfold hear
 cases e:jA l k.id with
 | some x =>
  rw [e] at ol pl
  simp only at ol ⊢
  by_cases c:k.inc < x.inc
  ·simp [cl,ol,c,kds]
  ·obtain⟨h1,h2⟩:=KR hs e
   have ks:=zcI l (xH l k.id) k
   rw [Zi k] at ks
   have h2':(l.map Kid.v)[xH l k.id]? = some (.agg [.int .i64 x.id,.int .i64 x.inc,.int .i64 x.heard]):=by rw [List.getElem?_map,h2];rfl
   simp [cl,ol,c,pl,h1,h2,Kid.v,z1j,splice,kds]
 | none =>
  rw [e] at ol pl
  simp only at ol ⊢
  have ri:room 24 (l.length+1)=true:=J1 (by omega) (by omega)
  have hi:z1Y 3 24 [.ow 3 (l.map Kid.v),.int .i64 (xH l k.id),.lt 3 [.agg [.int .i64 k.id,.int .i64 k.inc,.int .i64 k.heard]]]=some (.ow 3 ((l.take (xH l k.id)++[k]++l.drop (xH l k.id)).map Kid.v)):=by
   simp only [z1Y]
   rw [if_pos ⟨trivial,trivial,by simp,by omega,by simpa using hp,by simpa using ri⟩]
   simp [List.map_take,List.map_drop,Kid.v]
  have hc:∀ Q,zd (z8 P1) (85+1000000) [.ow 3 (l.map Kid.v),.int .i64 (xH l k.id),.lt 3 [.agg [.int .i64 k.id,.int .i64 k.inc,.int .i64 k.heard]]] Q=some (.ow 3 ((l.take (xH l k.id)++[k]++l.drop (xH l k.id)).map Kid.v),Q):=fun Q=>by
   rw [Xt (g:=z1Y 3 24) rfl,hi];rfl
  simp only [Nat.reduceAdd] at hc
  generalize l.take (xH l k.id)++[k]++l.drop (xH l k.id)=D at *
  simp [cl,ol,pl,hc,kds]
theorem z9F {l:List Kid} {f:Kid→Bool} {c:Nat} {cp:List AV} (hc:c < jK) (hf:∀ (x:Kid) Q,zd (z8 P1) c (Kid.v x::cp) Q=some (.bool (f x),Q)) (hl:l.length≤900000):∀ (m i:Nat),i+m=l.length →
  yx P1 (kds l) (.fn c [] cp) (.int .i64 l.length) (.int .i64 i) Q=match (l.drop i).findIdx? f with
   | some j=>jt (.int .i64 ((i+j:Nat):Int)) Q
   | none=>jz Q:=by
 intro m
 induction m with
 | zero =>
  intro i hi
  obtain rfl:i=l.length:=by omega
  rw [List.drop_length,xk,xC]
  simp
 | succ m ih =>
  intro i hi
  have c1:((i:Int) < l.length)=True:=eq_true (by omega)
  have hx:=kAt (l:=l) (i:=i) (by omega)
  have e:=(Sl.fz 3 (l.map Kid.v)).get (k:=.i64) hx
  have hf:=fun Q=>hf (l.getD i default) Q
  have w:=w64 (i:=(i:Int)+1) (by omega) (by omega)
  have ih:=ih (i+1) (by omega)
  have ed:l.drop i=l.getD i default::l.drop (i+1):=by
   rw [List.drop_eq_getElem_cons (by omega),List.getD_eq_getElem?_getD,List.getElem?_eq_getElem (by omega)];rfl
  rw [ed,List.findIdx?_cons]
  generalize l.getD i default=x at *
  rw [Zi] at e hf
  rw [show ((i+1:Nat):Int)=(i:Int)+1 by push_cast;rfl] at ih
  rw [xk,xC]
  cases hfx:f x with
  | true =>
   rw [hfx] at hf
   simp [c1,e,hf,hc]
  | false =>
   rw [hfx] at hf
   simp [c1,e,hf,hc,w]
   rw [yb,ih]
   cases (l.drop (i+1)).findIdx? f with
   | none=>rfl
   | some j =>
    simp only [Option.map_some]
    rw [show ((i+1+j:Nat):Int)=(i:Int)+((j+1:Nat):Int) by push_cast;omega]
theorem zfk {l:List Kid} {f:Kid→Bool} {c:Nat} {cp:List AV} (hc:c < jK) (hf:∀ (x:Kid) Q,zd (z8 P1) c (Kid.v x::cp) Q=some (.bool (f x),Q)) (hl:l.length≤900000):zd (z8 P1) 75 [kds l,.fn c [] cp] Q=some (.int .i64 (match l.findIdx? f with
  | some j=>(j:Int)
  | none=>-1),Q):=by
 rw [kV rfl]
 have lp:=z9F (Q:=Q) hc hf hl l.length 0 (by omega)
 rw [show ((0:Nat):Int)=0 from rfl,List.drop_zero] at lp
 cases e:l.findIdx? f with
 | none=>rw [e] at lp;simp [yb,lp,kh]
 | some j=>rw [e] at lp;simp [yb,lp]
end
end Go.Proofs.Ytdbbdfmkglgjdaa.Pi
