/- Ways. -/
import Derived.Test.YtdbbdfmkglgjdaaPcKids2
import Derived.Test.YtdbbdfmkglgjdaaPmTie
set_option linter.unusedVariables false
set_option linter.unusedSimpArgs false
namespace Go.Proofs.Ytdbbdfmkglgjdaa.Pi
open Go.Ab Go.Feed Go.Kids Go.Tie
set_option maxRecDepth 100000
abbrev ints (l:List Int):List AV:=l.map (AV.int .i64)
theorem Jk {l:List Int} {i:Nat} (hi:i < l.length):l[i]? = some (l.getD i 0):=by
 rw [List.getD_eq_getElem?_getD,List.getElem?_eq_getElem hi];rfl
@[simp] theorem zaF (b:Bool):rcv b .n .nilifc=some .nilifc:=(Eq.refl _).trans (Eq.refl _)
@[simp] theorem zeg (t:Nat) (v:AV):rcv false .n (.ifc t v)=some (.ifc t v):=(Eq.refl _).trans (Eq.refl _)
abbrev Gd (p:List Int) (k:Nat):Prop:=(1≤p.getD k 0∧p.getD k 0≤8)∧p.getD k 0 ∉ p.take k
theorem z3z {p:List Int} {i:Nat} (hi:i≤p.length):WN 1 (.fz 1 (ints p)) none (some (.int .i64 (i:Int)))=some (.fz 1 (ints (p.take i))):=by
 rw [z6p (by omega)]
 simp [hi,ints,List.map_take]
theorem z1A {p:List Int} {i:Nat} (hi:i < p.length):p.drop i=p.getD i 0::p.drop (i+1):=by
 rw [List.drop_eq_getElem_cons hi,List.getD_eq_getElem?_getD,List.getElem?_eq_getElem hi];rfl
section
variable {Q:z3}
theorem z9I {p:List Int} {v:AV} (h:Sl 1 (ints p) v) (hl:p.length≤900000) (x:Int):∀ (m i:Nat),i+m=p.length →
  (x ∉ p.drop i∧xm P1 v (.int .i64 x) (.int .i64 p.length) (.int .i64 i) Q=Z4 Q) ∨
  (x ∈ p.drop i∧∃ j:Nat,xm P1 v (.int .i64 x) (.int .i64 p.length) (.int .i64 i) Q=wX (.int .i64 (j:Int)) Q):=by
 intro m
 induction m with
 | zero =>
  intro i hi
  obtain rfl:i=p.length:=by omega
  left
  rw [List.drop_length,jx,kz]
  simp
 | succ m ih =>
  intro i hi
  have c1:((i:Int) < p.length)=True:=eq_true (by omega)
  have e:=h.get (k:=.i64) (Jk (l:=p) (i:=i) (by omega))
  have w:=w64 (i:=(i:Int)+1) (by omega) (by omega)
  have ih:=ih (i+1) (by omega)
  rw [show ((i+1:Nat):Int)=(i:Int)+1 by push_cast;rfl] at ih
  rw [z1A (by omega),jx,kz]
  generalize p.getD i 0=y at *
  by_cases c:x=y
  ·right
   exact⟨by rw [c];exact List.mem_cons_self,i,by simp [c1,e,c]⟩
  ·rcases ih with ⟨h1,h2⟩ | ⟨h1,j,h2⟩
   ·left
    refine⟨by simp [c,h1],?_⟩
    simp [c1,e,c,w]
    rw [yA,h2]
   ·right
    refine⟨List.mem_cons_of_mem _ h1,j,?_⟩
    simp [c1,e,c,w]
    rw [yA,h2]
theorem z0c {p:List Int} {v:AV} (h:Sl 1 (ints p) v) (hl:p.length≤900000) (x:Int):zd (z8 P1) 84 [v,.int .i64 x] Q=some (.bool (decide (x ∈ p)),Q):=by
 have ix:∀ Q,∃ j:Int,zd (z8 P1) 88 [v,.int .i64 x] Q=some (.int .i64 j,Q)∧(0≤j↔x ∈ p):=fun Q=>by
  rw [Xr rfl,h.len]
  rcases z9I (Q:=Q) h hl x p.length 0 (by omega) with ⟨h1,lp⟩ | ⟨h1,j,lp⟩
  ·refine⟨-1,?_,by rw [List.drop_zero] at h1;simp [h1]⟩
   rw [show ((0:Nat):Int)=0 from rfl] at lp
   simp [yA,lp,Ya]
  ·refine⟨j,?_,by rw [List.drop_zero] at h1;simp [h1]⟩
   rw [show ((0:Nat):Int)=0 from rfl] at lp
   simp [yA,lp]
 obtain⟨j,e,hj⟩:=ix Q
 rw [ZI rfl]
 simp [e,hj]
theorem zcK {p:List Int} {v:AV} (h:Sl 1 (ints p) v) (hl:p.length≤900000) (x:Int):zd (z8 P1) 77 [v,.int .i64 x] Q=some (.bool (decide (x ∈ p)),Q):=by
 rw [z5p rfl]
 simp [z0c h hl x]
theorem z6C {p:List Int} {v:AV} (h:Sl 1 (ints p) v) (hl:p.length≤900000) (x:Int):∀ (m i:Nat),i+m=p.length →
  kR P1 v (.int .i64 x) (.int .i64 i) Q=if x ∈ p.drop i then Xp (.bool true) Q else XY Q:=by
 intro m
 induction m with
 | zero =>
  intro i hi
  obtain rfl:i=p.length:=by omega
  rw [List.drop_length,vR,Zp,h.len]
  simp
 | succ m ih =>
  intro i hi
  have c1:((i:Int) < p.length)=True:=eq_true (by omega)
  have e:=h.get (k:=.i64) (Jk (l:=p) (i:=i) (by omega))
  have w:=w64 (i:=(i:Int)+1) (by omega) (by omega)
  have ih:=ih (i+1) (by omega)
  rw [show ((i+1:Nat):Int)=(i:Int)+1 by push_cast;rfl] at ih
  rw [z1A (by omega),vR,Zp,h.len]
  generalize p.getD i 0=y at *
  by_cases c:y=x
  ·simp [c1,e,c]
  ·simp [c1,e,c,Ne.symm c,w]
   rw [qR,ih]
theorem z8j {p:List Int} {v:AV} (h:Sl 1 (ints p) v) (hl:p.length≤900000) (x:Int):zd (z8 P1) 32 [v,.int .i64 x] Q=some (.bool (decide (x ∈ p)),Q):=by
 rw [Vy rfl]
 have lp:=z6C (Q:=Q) h hl x p.length 0 (by omega)
 rw [show ((0:Nat):Int)=0 from rfl,List.drop_zero] at lp
 by_cases c:x ∈ p
 ·rw [if_pos c] at lp;simp [qR,lp,c]
 ·rw [if_neg c] at lp;simp [qR,lp,c,JS]
theorem z6D {p:List Int} (hl:p.length≤900000):∀ (m i:Nat),i+m=p.length →
  ((∀ k,i≤k→k < p.length→Gd p k)∧xF P1 (.fz 1 (ints p)) (.int .i64 i) Q=ZF Q) ∨
  (¬ (∀ k,i≤k→k < p.length→Gd p k)∧xF P1 (.fz 1 (ints p)) (.int .i64 i) Q=Zo (.bool false) Q):=by
 intro m
 induction m with
 | zero =>
  intro i hi
  obtain rfl:i=p.length:=by omega
  left
  refine⟨fun k h1 h2=>by omega,?_⟩
  rw [jY,vJ]
  simp
 | succ m ih =>
  intro i hi
  have c1:((i:Int) < p.length)=True:=eq_true (by omega)
  have e:=(Sl.fz 1 (ints p)).get (k:=.i64) (Jk (l:=p) (i:=i) (by omega))
  have w:=w64 (i:=(i:Int)+1) (by omega) (by omega)
  have sl:=z3z (p:=p) (i:=i) (by omega)
  have dh:=fun Q=>z8j (Q:=Q) (Sl.fz 1 (ints (p.take i))) (by rw [List.length_take];omega) (p.getD i 0)
  obtain⟨T,hT⟩:∃ T,p.take i=T:=⟨_,rfl⟩
  rw [hT] at sl dh
  have ih:=ih (i+1) (by omega)
  rw [show ((i+1:Nat):Int)=(i:Int)+1 by push_cast;rfl] at ih
  rw [jY,vJ]
  by_cases c:Gd p i
  ·have c':=c
   obtain⟨⟨g1,g2⟩,g3⟩:=c'
   rw [hT] at g3
   have g1':¬ p.getD i 0 < 1:=by omega
   have g2':¬ 8 < p.getD i 0:=by omega
   rcases ih with ⟨h1,h2⟩ | ⟨h1,h2⟩
   ·left
    refine⟨fun k k1 k2=>?_,?_⟩
    ·by_cases hk:k=i
     ·subst hk;exact c
     ·exact h1 k (by omega) k2
    ·simp [c1,e,g1',g2',sl,dh,g3,w,-List.getD_eq_getElem?_getD]
     rw [yQ,h2]
   ·right
    refine⟨fun h3=>h1 fun k k1 k2=>h3 k (by omega) k2,?_⟩
    simp [c1,e,g1',g2',sl,dh,g3,w,-List.getD_eq_getElem?_getD]
    rw [yQ,h2]
  ·right
   refine⟨fun h3=>c (h3 i (Nat.le_refl _) (by omega)),?_⟩
   by_cases g1:p.getD i 0 < 1
   ·simp [c1,e,g1,-List.getD_eq_getElem?_getD]
   ·by_cases g2:8 < p.getD i 0
    ·simp [c1,e,g1,g2,-List.getD_eq_getElem?_getD]
    ·have g3:p.getD i 0 ∈ T:=Decidable.byContradiction fun g3=>c ⟨⟨by omega,by omega⟩,by rw [hT];exact g3⟩
     simp [c1,e,g1,g2,sl,dh,g3,-List.getD_eq_getElem?_getD]
theorem Vo {p:List Int} (hl:p.length≤900000):zd (z8 P1) 29 [.fz 1 (ints p)] Q=some (.bool (decide (jJ p)),Q):=by
 rw [Qw rfl]
 by_cases c1:p.length < 1
 ·have:¬ jJ p:=fun h=>by have:=h.1;omega
  have:p=[]:=List.length_eq_zero_iff.1 (by omega)
  subst this
  simp
 ·have z1:((p.length:Int) < 1)=False:=eq_false (by omega)
  by_cases c2:10 < p.length
  ·have:¬ jJ p:=fun h=>by have:=h.2.1;omega
   have z2:(10 < (p.length:Int))=True:=eq_true (by omega)
   simp [z1,z2,this,-not_and]
  ·have z2:(10 < (p.length:Int))=False:=eq_false (by omega)
   have e:=(Sl.fz 1 (ints p)).get (k:=.i64) (Jk (l:=p) (i:=0) (by omega))
   rw [show ((0:Nat):Int)=0 from rfl] at e
   by_cases c3:p.getD 0 0=1
   ·rw [c3] at e
    have lp:=z6D (Q:=Q) hl p.length 0 (by omega)
    rw [show ((0:Nat):Int)=0 from rfl] at lp
    rcases lp with ⟨h1,lp⟩ | ⟨h1,lp⟩
    ·have hm:jJ p:=⟨by omega,by omega,c3,fun k hk=>h1 k (Nat.zero_le _) hk⟩
     simp [z1,z2,e,yQ,lp,Xn,decide_eq_true hm,-decide_eq_true_eq,-Bool.decide_and]
    ·have hm:¬ jJ p:=fun h=>h1 fun k _ hk=>h.2.2.2 k hk
     simp [z1,z2,e,yQ,lp,decide_eq_false hm,-Bool.decide_and]
   ·have hm:¬ jJ p:=fun h=>c3 h.2.2.1
    simp [z1,z2,e,c3,decide_eq_false hm,-Bool.decide_and,-List.getD_eq_getElem?_getD]
theorem z6E {p:List Int} (hl:p.length≤900000):∀ (m i:Nat),i+m=p.length →
  ((∀ k,i≤k→k < p.length→Gd p k)∧wg P1 (.fz 1 (ints p)) (.fz 1 (ints p)) (.int .i64 p.length) (.int .i64 i) Q=VF Q) ∨
  (¬ (∀ k,i≤k→k < p.length→Gd p k)∧∃ j:Int,wg P1 (.fz 1 (ints p)) (.fz 1 (ints p)) (.int .i64 p.length) (.int .i64 i) Q=KP (.ifc 101 (.agg [.int .i64 j])) Q):=by
 intro m
 induction m with
 | zero =>
  intro i hi
  obtain rfl:i=p.length:=by omega
  left
  refine⟨fun k h1 h2=>by omega,?_⟩
  rw [YH,Jm]
  simp
 | succ m ih =>
  intro i hi
  have c1:((i:Int) < p.length)=True:=eq_true (by omega)
  have e:=(Sl.fz 1 (ints p)).get (k:=.i64) (Jk (l:=p) (i:=i) (by omega))
  have w:=w64 (i:=(i:Int)+1) (by omega) (by omega)
  have sl:=z3z (p:=p) (i:=i) (by omega)
  have dh:=fun Q=>z0c (Q:=Q) (Sl.fz 1 (ints (p.take i))) (by rw [List.length_take];omega) (p.getD i 0)
  obtain⟨T,hT⟩:∃ T,p.take i=T:=⟨_,rfl⟩
  rw [hT] at sl dh
  have ih:=ih (i+1) (by omega)
  rw [show ((i+1:Nat):Int)=(i:Int)+1 by push_cast;rfl] at ih
  rw [YH,Jm]
  by_cases c:Gd p i
  ·have c':=c
   obtain⟨⟨g1,g2⟩,g3⟩:=c'
   rw [hT] at g3
   have g1':¬ p.getD i 0 < 1:=by omega
   have g2':¬ 8 < p.getD i 0:=by omega
   rcases ih with ⟨h1,h2⟩ | ⟨h1,j,h2⟩
   ·left
    refine⟨fun k k1 k2=>?_,?_⟩
    ·by_cases hk:k=i
     ·subst hk;exact c
     ·exact h1 k (by omega) k2
    ·simp [c1,e,g1',g2',sl,dh,g3,w,-List.getD_eq_getElem?_getD]
     rw [j9,h2]
   ·right
    refine⟨fun h3=>h1 fun k k1 k2=>h3 k (by omega) k2,j,?_⟩
    simp [c1,e,g1',g2',sl,dh,g3,w,-List.getD_eq_getElem?_getD]
    rw [j9,h2]
  ·right
   refine⟨fun h3=>c (h3 i (Nat.le_refl _) (by omega)),i,?_⟩
   by_cases g1:p.getD i 0 < 1
   ·simp [c1,e,g1,-List.getD_eq_getElem?_getD]
   ·by_cases g2:8 < p.getD i 0
    ·simp [c1,e,g1,g2,-List.getD_eq_getElem?_getD]
    ·have g3:p.getD i 0 ∈ T:=Decidable.byContradiction fun g3=>c ⟨⟨by omega,by omega⟩,by rw [hT];exact g3⟩
     simp [c1,e,g1,g2,sl,dh,g3,-List.getD_eq_getElem?_getD]
theorem zaG {p:List Int} (hl:p.length≤900000):(jJ p∧zd (z8 P1) 86 [.fz 1 (ints p)] Q=some (.nilifc,Q))∨(¬ jJ p∧∃ j:Int,zd (z8 P1) 86 [.fz 1 (ints p)] Q=some (.ifc 101 (.agg [.int .i64 j]),Q)):=by
 rw [z3X rfl]
 by_cases c1:p.length < 1
 ·have hm:¬ jJ p:=fun h=>by have:=h.1;omega
  have:p=[]:=List.length_eq_zero_iff.1 (by omega)
  subst this
  exact Or.inr ⟨hm,0,by simp⟩
 ·have z1:((p.length:Int) < 1)=False:=eq_false (by omega)
  by_cases c2:10 < p.length
  ·have hm:¬ jJ p:=fun h=>by have:=h.2.1;omega
   have z2:(10 < (p.length:Int))=True:=eq_true (by omega)
   exact Or.inr ⟨hm,0,by simp [z1,z2]⟩
  ·have z2:(10 < (p.length:Int))=False:=eq_false (by omega)
   have e:=(Sl.fz 1 (ints p)).get (k:=.i64) (Jk (l:=p) (i:=0) (by omega))
   rw [show ((0:Nat):Int)=0 from rfl] at e
   by_cases c3:p.getD 0 0=1
   ·rw [c3] at e
    have lp:=z6E (Q:=Q) hl p.length 0 (by omega)
    rw [show ((0:Nat):Int)=0 from rfl] at lp
    rcases lp with ⟨h1,lp⟩ | ⟨h1,j,lp⟩
    ·have hm:jJ p:=⟨by omega,by omega,c3,fun k hk=>h1 k (Nat.zero_le _) hk⟩
     exact Or.inl ⟨hm,by simp [z1,z2,e,j9,lp,z1h]⟩
    ·have hm:¬ jJ p:=fun h=>h1 fun k _ hk=>h.2.2.2 k hk
     exact Or.inr ⟨hm,j,by simp [z1,z2,e,j9,lp]⟩
   ·have hm:¬ jJ p:=fun h=>c3 h.2.2.1
    exact Or.inr ⟨hm,0,by simp [z1,z2,e,c3,-List.getD_eq_getElem?_getD]⟩
theorem zcL {p:List Int} (hl:p.length≤900000):zd (z8 P1) 79 [.fz 1 (ints p)] Q=some (.bool (decide (jJ p)),Q):=by
 rw [z5r rfl]
 rcases zaG (Q:=Q) hl with ⟨hm,e⟩ | ⟨hm,j,e⟩
 ·simp [e,VW,decide_eq_true hm,-decide_eq_true_eq,-Bool.decide_and]
 ·simp [e,VW,decide_eq_false hm,-Bool.decide_and]
theorem z0d {l:List Int} {v:AV} (h:Sl 1 (ints l) v) (hl:l.length≤1000000):zd (z8 P1) 64 [v] Q=some (.ow 1 (ints l),Q):=by
 rw [Xt (g:=wY 1 8) rfl,h.clone (by rw [List.length_map];exact J1 (by omega) (by omega))];rfl
theorem zah {p:List Int} {v:AV} (h:Sl 1 (ints p) v) (hl:p.length≤100000) (x:Int):zd (z8 P1) 71 [v,.int .i64 x] Q=some (.tup (if jJ (p++[x]) then [.fz 1 (ints (p++[x])),.bool true] else [.fz 1 [],.bool false]),Q):=by
 have cl:=fun(Q:z3)=>z0d (Q:=Q) h (by omega)
 have my:=fun(Q:z3)=>zcL (Q:=Q) (p:=p++[x]) (by simp;omega)
 have r:room 8 (p.length+1)=true:=J1 (by omega) (by omega)
 rw [z5n rfl]
 have ea:ints (p++[x])=ints p++[.int .i64 x]:=List.map_append
 rw [ea] at my ⊢
 by_cases hm:jJ (p++[x])
 ·rw [decide_eq_true hm] at my
  rw [if_pos hm]
  simp [cl,my,r]
 ·rw [decide_eq_false hm] at my
  rw [if_neg hm]
  simp [cl,my,r]
theorem z6F {p:List Int} {v:AV} (h:Sl 1 (ints p) v) (hl:p.length≤100000) (x:Int):zd (z8 P1) 35 [v,.int .i64 x] Q=some (.tup (if jJ (p++[x]) then [.fz 1 (ints (p++[x])),.bool true] else [.fz 1 [],.bool false]),Q):=by
 have my:=fun(Q:z3)=>Vo (Q:=Q) (p:=p++[x]) (by simp;omega)
 have r0:room 8 p.length=true:=J1 (by omega) (by omega)
 have r:room 8 (p.length+1)=true:=J1 (by omega) (by omega)
 have ea:ints (p++[x])=ints p++[.int .i64 x]:=List.map_append
 rw [ea] at my ⊢
 rcases h with rfl | ⟨rfl,e⟩
 ·rw [wJ rfl]
  by_cases hm:jJ (p++[x])
  ·rw [decide_eq_true hm] at my
   rw [if_pos hm]
   simp [my,r,r0]
  ·rw [decide_eq_false hm] at my
   rw [if_neg hm]
   simp [my,r,r0]
 ·have:p=[]:=by simpa using e
  subst this
  rw [wJ rfl]
  simp only [ints,List.map_nil,List.nil_append] at my r0 r ⊢
  have q0:room 8 0=true:=r0
  have q1:room 8 1=true:=r
  by_cases hm:jJ [x]
  ·rw [decide_eq_true hm] at my
   rw [if_pos hm]
   simp [my,r,r0,q0,q1]
  ·rw [decide_eq_false hm] at my
   rw [if_neg hm]
   simp [my,r,r0,q0,q1]
theorem z9J {p:List Int} {v:AV} (h:Sl 1 (ints p) v) (hl:p.length≤100000):zd (z8 P1) 80 [v] Q=some (.int .i64 (grand p),Q):=by
 rw [z2O rfl]
 unfold grand
 by_cases c:p.length < 2
 ·have c1:((p.length:Int) < 2)=True:=eq_true (by omega)
  simp [h.len,c1,c]
 ·have c1:((p.length:Int) < 2)=False:=eq_false (by omega)
  have e:=h.get (k:=.i64) (Jk (l:=p) (i:=p.length - 2) (by omega))
  have w:=w64 (i:=(p.length:Int) - 2) (by omega) (by omega)
  rw [show ((p.length - 2:Nat):Int)=(p.length:Int) - 2 by omega] at e
  simp [h.len,c1,c,w,e,-List.getD_eq_getElem?_getD]
end
end Go.Proofs.Ytdbbdfmkglgjdaa.Pi
