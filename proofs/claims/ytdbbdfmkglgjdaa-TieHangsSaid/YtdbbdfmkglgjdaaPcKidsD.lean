/- Who hangs on one: the document's. -/
import Derived.Test.YtdbbdfmkglgjdaaPmTie
set_option linter.unusedVariables false
set_option linter.unusedSimpArgs false
namespace Go.Kids
theorem z9U:∀ {l m:List Kid},KS l→KS m→(∀ x,x ∈ l↔x ∈ m)→l=m
 | [],[],_,_,_=>rfl
 | [],y::m,_,_,h=>absurd ((h y).2 List.mem_cons_self) (by simp)
 | x::l,[],_,_,h=>absurd ((h x).1 List.mem_cons_self) (by simp)
 | x::l,y::m,hl,hm,h=>by
  have hl':=List.pairwise_cons.1 hl
  have hm':=List.pairwise_cons.1 hm
  have exy:x=y:=by
   rcases List.mem_cons.1 ((h x).1 List.mem_cons_self) with e | e
   ·exact e
   ·rcases List.mem_cons.1 ((h y).2 List.mem_cons_self) with e2 | e2
    ·exact e2.symm
    ·have:=hl'.1 y e2;have:=hm'.1 x e;omega
  subst exy
  rw [z9U hl'.2 hm'.2 fun z=>?_]
  constructor
  ·intro hz
   rcases List.mem_cons.1 ((h z).1 (List.mem_cons_of_mem _ hz)) with e | e
   ·subst e;have:=hl'.1 _ hz;omega
   ·exact e
  ·intro hz
   rcases List.mem_cons.1 ((h z).2 (List.mem_cons_of_mem _ hz)) with e | e
   ·subst e;have:=hm'.1 _ hz;omega
   ·exact e
theorem zcm {r:List Kid} {k:Kid} {q:Nat} (hr:KS r) (h1:∀ x ∈ r.take q,x.id < k.id) (h2:∀ x ∈ r.drop q,k.id < x.id):KS (r.take q++[k]++r.drop q):=by
 have e:r=r.take q++r.drop q:=(List.take_append_drop q r).symm
 rw [e] at hr
 obtain⟨p1,p2,p3⟩:=List.pairwise_append.1 hr
 refine List.pairwise_append.2 ⟨List.pairwise_append.2 ⟨p1,List.pairwise_singleton _ _,fun a ha b hb=>?_⟩,p2,fun a ha b hb=>?_⟩
 ·rw [List.mem_singleton] at hb;subst hb;exact h1 a ha
 ·rcases List.mem_append.1 ha with ha | ha
  ·exact p3 a ha b hb
  ·rw [List.mem_singleton] at ha;subst ha;exact h2 b hb
theorem z9V {l:List Kid} (hl:KS l) (k:Kid) (hok:(hear l k).2=true) {q:Nat} (h1:∀ x ∈ (outs (fun x=>decide (x.id=k.id)) l).take q,x.id < k.id) (h2:∀ x ∈ (outs (fun x=>decide (x.id=k.id)) l).drop q,k.id < x.id) :
  (outs (fun x=>decide (x.id=k.id)) l).take q++[k]++(outs (fun x=>decide (x.id=k.id)) l).drop q=(hear l k).1:=by
 refine z9U (zcm (Wz hl _) h1 h2) (z4r hl k) fun x=>?_
 rw [Wx hl k hok]
 have e:∀ x,x ∈ outs (fun x=>decide (x.id=k.id)) l↔x ∈ l∧x.id≠k.id:=fun x=>by unfold outs;rw [List.mem_filter];simp
 have e2:x ∈ outs (fun x=>decide (x.id=k.id)) l↔x ∈ (outs (fun x=>decide (x.id=k.id)) l).take q∨x ∈ (outs (fun x=>decide (x.id=k.id)) l).drop q:=by rw [← List.mem_append,List.take_append_drop]
 rw [← e,e2]
 simp only [List.mem_append,List.mem_singleton]
 constructor
 ·rintro ((h | h) | h)
  ·exact Or.inr (Or.inl h)
  ·exact Or.inl h
  ·exact Or.inr (Or.inr h)
 ·rintro (h | h | h)
  ·exact Or.inl (Or.inr h)
  ·exact Or.inl (Or.inl h)
  ·exact Or.inr h
end Go.Kids
namespace Go.Proofs.Ytdbbdfmkglgjdaa.Pi
open Go.Ab Go.Feed Go.Kids
set_option maxRecDepth 100000
theorem z7y {l:List Kid} {i:Nat} (hi:i < l.length):l.drop i=l.getD i default::l.drop (i+1):=by
 rw [List.drop_eq_getElem_cons hi,List.getD_eq_getElem?_getD,List.getElem?_eq_getElem hi];rfl
section
variable {Q:z3}
theorem z6M {l:List Kid} {v:AV} (h:Sl 3 (l.map Kid.v) v) (hl:l.length≤900000) (s:Int):∀ (m i:Nat),i+m=l.length →
  kT P1 v (.int .i64 s) (.int .i64 i) (.int .i64 0) (.int .i64 0) (.int .i64 0) Q=match x6 (l.drop i) s with
   | some x=>some (.ret,[(4,.lp 4 0),(5,.v (.bool true))],[(4,.cells [.int .i64 x.id,.int .i64 x.inc,.int .i64 x.heard])],Q)
   | none=>some (.exit 0,[(4,.lp 4 0)],[(4,.cells [.int .i64 0,.int .i64 0,.int .i64 0])],Q):=by
 intro m
 induction m with
 | zero =>
  intro i hi
  obtain rfl:i=l.length:=by omega
  rw [List.drop_length,wB,ZE,h.len]
  simp [x6]
 | succ m ih =>
  intro i hi
  have c1:((i:Int) < l.length)=True:=eq_true (by omega)
  have e:=h.get (k:=.i64) (kAt (l:=l) (i:=i) (by omega))
  have w:=w64 (i:=(i:Int)+1) (by omega) (by omega)
  have ih:=ih (i+1) (by omega)
  rw [show ((i+1:Nat):Int)=(i:Int)+1 by push_cast;rfl] at ih
  rw [z7y (by omega),wB,ZE,h.len]
  generalize l.getD i default=x at *
  rw [wg] at e
  by_cases c:x.id=s
  ·simp [c1,e,c,x6,List.find?_cons]
  ·have ek:x6 (x::l.drop (i+1)) s=x6 (l.drop (i+1)) s:=by simp [x6,List.find?_cons,c]
   rw [ek]
   simp [c1,e,c,w]
   rw [v8,ih]
theorem z7z {l:List Kid} {v:AV} (h:Sl 3 (l.map Kid.v) v) (hl:l.length≤900000) (s:Int):zc (z6 P1) 34 [v,.int .i64 s] Q=some (.tup [Kid.v ((x6 l s).getD ⟨0,0,0⟩),.bool (x6 l s).isSome],Q):=by
 have lp:=z6M (Q:=Q) h hl s l.length 0 (by omega)
 rw [show ((0:Nat):Int)=0 from rfl,List.drop_zero] at lp
 rw [Wa rfl,v8,lp]
 cases e:x6 l s with
 | none=>simp [Kh,Kid.v]
 | some x=>simp [Kid.v]
theorem z9W {l:List Kid} {v:AV} (h:Sl 3 (l.map Kid.v) v) (hl:l.length≤900000) (s n:Int):zc (z6 P1) 55 [v,.int .i64 s,.int .i64 n] Q=some (.bool (match x6 l s with
  | some x=>decide (n < x.inc)
  | none=>false),Q):=by
 have pl:=fun(Q:z3)=>z7z (Q:=Q) h hl s
 rw [z0g rfl]
 cases e:x6 l s with
 | none=>rw [e] at pl;simp [pl,Kid.v]
 | some x=>rw [e] at pl;simp [pl,Kid.v]
theorem z6N {l:List Kid} {v:AV} (h:Sl 3 (l.map Kid.v) v) (hl:l.length≤900000) (s:Int):∀ (m i:Nat) (o:List Kid),i+m=l.length→o.length≤i →
  kU P1 v (.int .i64 s) (.int .i64 i) (o.map Kid.v) Q=Qs ((o++outs (fun x=>decide (x.id=s)) (l.drop i)).map Kid.v) Q:=by
 intro m
 induction m with
 | zero =>
  intro i o hi ho
  obtain rfl:i=l.length:=by omega
  rw [List.drop_length,wD,ZH,h.len]
  simp [outs]
 | succ m ih =>
  intro i o hi ho
  have c1:((i:Int) < l.length)=True:=eq_true (by omega)
  have e:=h.get (k:=.i64) (kAt (l:=l) (i:=i) (by omega))
  have w:=w64 (i:=(i:Int)+1) (by omega) (by omega)
  have r:room 24 (o.length+1)=true:=jP (by omega) (by omega)
  rw [z7y (show i < l.length by omega),wD,ZH,h.len]
  generalize l.getD i default=x at *
  by_cases c:x.id=s
  ·have ih:=ih (i+1) o (by omega) (by omega)
   rw [show ((i+1:Nat):Int)=(i:Int)+1 by push_cast;rfl] at ih
   have eo:outs (fun x=>decide (x.id=s)) (x::l.drop (i+1))=outs (fun x=>decide (x.id=s)) (l.drop (i+1)):=by unfold outs;rw [List.filter_cons];simp [c]
   rw [wg] at e
   rw [eo]
   simp [c1,e,c,w,ZG,-List.map_append]
   rw [qV,ih]
  ·have ih:=ih (i+1) (o++[x]) (by omega) (by simp;omega)
   rw [show ((i+1:Nat):Int)=(i:Int)+1 by push_cast;rfl,List.append_assoc] at ih
   have eo:outs (fun x=>decide (x.id=s)) (x::l.drop (i+1))=[x]++outs (fun x=>decide (x.id=s)) (l.drop (i+1)):=by unfold outs;rw [List.filter_cons];simp [c]
   rw [eo,← ih,List.map_append,List.map_singleton]
   rw [wg] at e ⊢
   simp [c1,e,c,w,r,ZG,-List.map_append]
   rw [qV]
theorem z7A {l:List Kid} {v:AV} (h:Sl 3 (l.map Kid.v) v) (hl:l.length≤900000) (s:Int):zc (z6 P1) 59 [v,.int .i64 s] Q=some (.ow 3 ((outs (fun x=>decide (x.id=s)) l).map Kid.v),Q):=by
 have lp:=z6N (Q:=Q) h hl s l.length 0 [] (by omega) (by simp)
 rw [show ((0:Nat):Int)=0 from rfl,List.drop_zero,List.nil_append,List.map_nil] at lp
 rw [Wq rfl,qV,lp]
 simp [Kl]
theorem z59 {l:List Kid} {v:AV} (h:Sl 3 (l.map Kid.v) v) (hl:l.length≤900000) {now:Int} (hn:-4000000000000≤now∧now≤4000000000000) (hh:∀ x ∈ l,-4000000000000≤x.heard∧x.heard≤4000000000000):∀ (m i:Nat) (o:List Kid),i+m=l.length→o.length≤i →
  kh P1 v (.int .i64 now) (.int .i64 i) (o.map Kid.v) Q=Xu ((o++outs (fun x=>decide (20 < now - x.heard)) (l.drop i)).map Kid.v) Q:=by
 intro m
 induction m with
 | zero =>
  intro i o hi ho
  obtain rfl:i=l.length:=by omega
  rw [List.drop_length,vO,Zm,h.len]
  simp [outs]
 | succ m ih =>
  intro i o hi ho
  have c1:((i:Int) < l.length)=True:=eq_true (by omega)
  have hx:=kAt (l:=l) (i:=i) (by omega)
  have e:=h.get (k:=.i64) hx
  have hb:=hh _ (List.mem_of_getElem? hx)
  have w:=w64 (i:=(i:Int)+1) (by omega) (by omega)
  have r:room 24 (o.length+1)=true:=jP (by omega) (by omega)
  rw [z7y (show i < l.length by omega),vO,Zm,h.len]
  generalize l.getD i default=x at *
  have w2:=w64 (i:=now - x.heard) (by omega) (by omega)
  by_cases c:20 < now - x.heard
  ·have ih:=ih (i+1) o (by omega) (by omega)
   rw [show ((i+1:Nat):Int)=(i:Int)+1 by push_cast;rfl] at ih
   have eo:outs (fun x=>decide (20 < now - x.heard)) (x::l.drop (i+1))=outs (fun x=>decide (20 < now - x.heard)) (l.drop (i+1)):=by unfold outs;rw [List.filter_cons];simp [c]
   have c':(now - x.heard≤20)=False:=eq_false (by omega)
   rw [wg] at e
   rw [eo]
   simp [c1,e,c',w,w2,Zl,-List.map_append]
   rw [qu,ih]
  ·have ih:=ih (i+1) (o++[x]) (by omega) (by simp;omega)
   rw [show ((i+1:Nat):Int)=(i:Int)+1 by push_cast;rfl,List.append_assoc] at ih
   have eo:outs (fun x=>decide (20 < now - x.heard)) (x::l.drop (i+1))=[x]++outs (fun x=>decide (20 < now - x.heard)) (l.drop (i+1)):=by unfold outs;rw [List.filter_cons];simp [c]
   have c':(now - x.heard≤20)=True:=eq_true (by omega)
   rw [eo,← ih,List.map_append,List.map_singleton]
   rw [wg] at e ⊢
   simp [c1,e,c',w,w2,r,Zl,-List.map_append]
   rw [qu]
theorem z9X {l:List Kid} {v:AV} (h:Sl 3 (l.map Kid.v) v) (hl:l.length≤900000) {now:Int} (hn:-4000000000000≤now∧now≤4000000000000) (hh:∀ x ∈ l,-4000000000000≤x.heard∧x.heard≤4000000000000):zc (z6 P1) 43 [v,.int .i64 now] Q=some (.ow 3 ((outs (fun x=>decide (20 < now - x.heard)) l).map Kid.v),Q):=by
 have lp:=z59 (Q:=Q) h hl hn hh l.length 0 [] (by omega) (by simp)
 rw [show ((0:Nat):Int)=0 from rfl,List.drop_zero,List.nil_append,List.map_nil] at lp
 rw [Vk rfl,qu,lp]
 simp [Jp]
theorem z6O {r:List Kid} (hl:r.length≤900000) (k:Kid):∀ (m i:Nat),i+m=r.length→(∀ x ∈ r.take i,x.id≤k.id) →
  (∃ q:Nat,q≤r.length∧(∀ x ∈ r.take q,x.id≤k.id)∧(∃ x,r[q]? = some x∧k.id < x.id)∧j8 P1 (.int .i64 i) (.int .i64 k.id) (.int .i64 k.inc) (.int .i64 k.heard) (r.map Kid.v) Q=some (.ret,[(4,.ls 4),(5,.v (.bool true))],[(4,.own 3 ((r.take q++[k]++r.drop q).map Kid.v))],Q)) ∨
  ((∀ x ∈ r,x.id≤k.id)∧j8 P1 (.int .i64 i) (.int .i64 k.id) (.int .i64 k.inc) (.int .i64 k.heard) (r.map Kid.v) Q=some (.exit 0,[(3,.lp 3 0),(6,.ls 6)],[(3,.cells [.int .i64 k.id,.int .i64 k.inc,.int .i64 k.heard]),(6,.own 3 (r.map Kid.v))],Q)):=by
 intro m
 induction m with
 | zero =>
  intro i hi hall
  obtain rfl:i=r.length:=by omega
  right
  rw [List.take_length] at hall
  refine⟨hall,?_⟩
  rw [wC,ZF]
  simp
 | succ m ih =>
  intro i hi hall
  have c1:((i:Int) < r.length)=True:=eq_true (by omega)
  have hx:=kAt (l:=r) (i:=i) (by omega)
  have hi2:i < r.length:=by omega
  have w:=w64 (i:=(i:Int)+1) (by omega) (by omega)
  have r1:room 24 i=true:=jP (by omega) (by omega)
  have r2:room 24 (i+1)=true:=jP (by omega) (by omega)
  have r3:room 24 (i+1+(r.length - i))=true:=jP (by omega) (by omega)
  have em:elC (r.map Kid.v) i 0=some (.int .i64 (r.getD i default).id):=by
   unfold elC
   rw [List.getElem?_map,hx];rfl
  rw [wC,ZF]
  by_cases c:k.id < (r.getD i default).id
  ·left
   refine⟨i,by omega,hall,⟨_,hx,c⟩,?_⟩
   have s1:QW 3 (.fz 3 (r.map Kid.v)) none (some (.int .i64 (i:Int)))=some (.fz 3 ((r.take i).map Kid.v)):=by
    rw [WM (by omega)]
    simp [List.map_take,Nat.le_of_lt hi2]
   have s2:QW 3 (.fz 3 (r.map Kid.v)) (some (.int .i64 (i:Int))) none=some (.fz 3 ((r.drop i).map Kid.v)):=by
    rw [WM (by omega)]
    simp [List.map_drop,Nat.le_of_lt hi2,List.take_of_length_le]
   have l1:(r.take i).length=i:=by rw [List.length_take];omega
   have l2:(r.drop i).length=r.length - i:=List.length_drop
   have eapp:(r.take i++[k]++r.drop i).map Kid.v=(r.take i).map Kid.v++Kid.v k::(r.drop i).map Kid.v:=by
    rw [List.map_append,List.map_append,List.append_assoc];rfl
   rw [eapp]
   generalize (r.take i)=T at *
   generalize (r.drop i)=D at *
   rw [← l2] at r3
   rw [← l1] at r1 r2 r3
   rw [wg k]
   simp [c1,em,c,s1,s2,r1,r2,r3,hi2,-List.getD_eq_getElem?_getD,-List.map_append]
  ·have ih:=ih (i+1) (by omega) (fun x hx2=>by
    rw [List.take_add_one,hx,Option.toList_some,List.mem_append,List.mem_singleton] at hx2
    rcases hx2 with hx2 | rfl
    ·exact hall x hx2
    ·omega)
   rw [show ((i+1:Nat):Int)=(i:Int)+1 by push_cast;rfl] at ih
   rcases ih with ⟨q,h1,h2,h3,lp⟩ | ⟨h1,lp⟩
   ·left
    refine⟨q,h1,h2,h3,?_⟩
    simp [c1,em,c,w,hi2,-List.getD_eq_getElem?_getD]
    rw [xq,lp]
    simp
   ·right
    refine⟨h1,?_⟩
    simp [c1,em,c,w,hi2,-List.getD_eq_getElem?_getD]
    rw [xq,lp]
theorem zbk {l:List Kid} {v:AV} (h:Sl 3 (l.map Kid.v) v) (hl:l.length≤800000) (hs:KS l) (k:Kid):zc (z6 P1) 56 [v,.agg [.int .i64 k.id,.int .i64 k.inc,.int .i64 k.heard]] Q=some (.tup [kds (hear l k).1,.bool (hear l k).2],Q):=by
 have ol:=fun(Q:z3)=>z9W (Q:=Q) h (by omega) k.id k.inc
 have dr:=fun(Q:z3)=>z7A (Q:=Q) h (by omega) k.id
 have ok:=zbw l k
 rw [Wo rfl]
 have hrl:(outs (fun x=>decide (x.id=k.id)) l).length≤800000:=by
  have:(outs (fun x=>decide (x.id=k.id)) l).length≤l.length:=List.length_filter_le _ _
  omega
 have hne:∀ x ∈ outs (fun x=>decide (x.id=k.id)) l,x.id≠k.id:=fun x hx=>by
  unfold outs at hx
  have:=(List.mem_filter.1 hx).2
  simpa using this
 have hrs:=Wz hs (fun x=>decide (x.id=k.id))
 have hin:∀ q,(hear l k).2=true→_→_→_:=fun q h1 h2 h3=>z9V (q:=q) hs k h1 h2 h3
 cases hb:(hear l k).2 with
 | false =>
  have e2:=Wy hb
  have old:(match x6 l k.id with
   | some x=>decide (k.inc < x.inc)
   | none=>false)=true:=by
   rw [hb] at ok
   cases e:x6 l k.id with
   | none=>rw [e] at ok;cases ok
   | some x=>rw [e] at ok;have:=of_decide_eq_false ok.symm;exact decide_eq_true (by omega)
  rw [old] at ol
  have rc:rcv false (.f 3) v=some (.fz 3 (l.map Kid.v)):=by
   rcases h with rfl | ⟨rfl,e⟩
   ·rfl
   ·have:l=[]:=by simpa using e
    subst this;rfl
  rw [e2]
  simp [ol,rc,kds]
 | true =>
  have old:(match x6 l k.id with
   | some x=>decide (k.inc < x.inc)
   | none=>false)=false:=by
   rw [hb] at ok
   cases e:x6 l k.id with
   | none=>rfl
   | some x=>rw [e] at ok;have:=of_decide_eq_true ok.symm;exact decide_eq_false (by omega)
  rw [old] at ol
  have lp:=z6O (Q:=Q) (r:=outs (fun x=>decide (x.id=k.id)) l) (by omega) k _ 0 (Nat.zero_add _) (by simp)
  generalize outs (fun x=>decide (x.id=k.id)) l=r at *
  rw [show ((0:Nat):Int)=0 from rfl] at lp
  rcases lp with ⟨q,hq,h1,⟨x,hx,hk⟩,lp⟩ | ⟨h1,lp⟩
  ·have e1:=hin q hb (fun y hy=>by
    have:=h1 y hy;have:=hne y (List.mem_of_mem_take hy);omega) (fun y hy=>by
    have hql:q < r.length:=by
     rcases Nat.lt_or_ge q r.length with c | c
     ·exact c
     ·rw [List.getElem?_eq_none c] at hx;cases hx
    have ed:r.drop q=x::r.drop (q+1):=by
     rw [List.drop_eq_getElem_cons hql]
     rw [List.getElem?_eq_getElem hql] at hx
     rw [Option.some.inj hx]
    rw [ed] at hy
    rcases List.mem_cons.1 hy with rfl | hy
    ·exact hk
    ·have hp:KS (r.drop q):=List.Pairwise.sublist (List.drop_sublist q r) hrs
     rw [ed] at hp
     have:=(List.pairwise_cons.1 hp).1 y hy
     omega)
   rw [e1] at lp
   simp [ol,dr]
   rw [xq,lp]
   simp [kds]
  ·have e1:=hin r.length hb (fun y hy=>by
    rw [List.take_length] at hy
    have:=h1 y hy;have:=hne y hy;omega) (fun y hy=>by rw [List.drop_length] at hy;cases hy)
   rw [List.take_length,List.drop_length,List.append_nil] at e1
   have rr:room 24 (r.length+1)=true:=jP (by omega) (by omega)
   simp [ol,dr]
   rw [xq,lp,← e1]
   simp [kds,Ki,rr,Kid.v]
end
end Go.Proofs.Ytdbbdfmkglgjdaa.Pi
