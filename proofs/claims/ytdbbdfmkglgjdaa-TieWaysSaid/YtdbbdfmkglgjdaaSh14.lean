/- A slice that is put into, whose room is not known: both z4J told as one. -/
import Derived.Test.YtdbbdfmkglgjdaaSh13
set_option linter.unusedVariables false
set_option linter.unusedSimpArgs false
set_option linter.unusedSectionVars false
namespace Go.Ab
open Go.RowKit
def Xx:Nat→List Value→List AV
 | _,[]=>[]
 | base,.bool b::l=>.bool b::Xx (base+1) l
 | base,_::l=>.raw base::Xx (base+1) l
theorem QQ:∀ (l:List Value) (base:Nat),(Xx base l).length=l.length
 | [],_=>rfl
 | x::l,base=>by cases x<;>simp [Xx,QQ l]
theorem V7 {ρ:Rho}:∀ (l:List Value) (base:Nat),(∀ (j:Nat) (x:Value),l[j]? = some x→∃ L,ρ (base+j)=some L∧L.val=x)→zg ρ (Xx base l)=some l
 | [],_,_=>by simp [Xx,zg]
 | x::l,base,h=>by
  have ih:=V7 l (base+1) (fun j y hy=>by have:=h (j+1) y hy;rwa [show base+(j+1)=base+1+j by omega] at this)
  obtain⟨L,h1,h2⟩:=h 0 x rfl
  rw [Nat.add_zero] at h1
  cases x<;>exact yW (by simp [zb,h1,h2]) ih
def z3.pushN (H:z3):Nat→z3
 | 0=>H
 | n+1=>(H.pushN n).push none
theorem Xy (H:z3):∀ n,(H.pushN n).size=H.size+n
 | 0=>rfl
 | n+1=>by simp [z3.pushN,Xy H n,Nat.add_assoc]
theorem J8 (H:z3) (q:Nat):∀ n,(H.pushN n).get q=if H.size≤q∧q < H.size+n then none else H.get q
 | 0=>by rw [if_neg (by omega)];rfl
 | n+1=>by
  simp only [z3.pushN]
  rw [z3.get_push,J8 H q n,Xy]
  by_cases h:q=H.size+n
  ·rw [if_pos h,if_pos (by omega)]
  ·rw [if_neg h]
   by_cases h2:H.size≤q∧q < H.size+n
   ·rw [if_pos h2,if_pos (by omega)]
   ·rw [if_neg h2,if_neg (by omega)]
theorem z9a {B:Nat} {ρ:Rho} {w:World} {H:z3} {r z N:Nat} {cs:List AV} {L:Loc} (hs:Sim B ρ w H) (hr:ρ r=some L) (hg:H.get r=some (.cells .opened z cs)) (hN:N≤L.cap) :
  ∃ ρ1 H1 extra,Sim B ρ1 w H1∧ρ.le ρ1∧(∀ q,q < H.size→ρ1 q=ρ q)∧H.size≤H1.size∧H1.get r=some (.cells .opened z (cs++extra))∧(cs++extra).length=max cs.length (N * z)∧∀ q,q < H.size→q≠r→H1.get q=H.get q:=by
 have hrs:=(hs.dom r L hr).1
 obtain⟨hB,ho,cur,e,fz,hcur,hle,hconc,hkd⟩:=(zH (by simp)).1 (hs.obj r L _ hr hg)
 obtain⟨hz1,hz2,hz3⟩:=hkd
 let vals:=(cur.toList.drop cs.length).take (N * z - cs.length)
 have hNz:N * z≤cur.size:=by rw [hz2];exact Nat.mul_le_mul_right z hN
 have hvl:vals.length=N * z - cs.length:=by simp [vals];omega
 let ρ1:Rho:=fun q=>if q < H.size then ρ q else match vals[q - H.size]? with | some x=>some ⟨L.blk,0,0,x⟩ | none=>none
 let extra:=Xx H.size vals
 have hel:extra.length=N * z - cs.length:=by simp only [extra,QQ,hvl]
 have hle1:ρ.le ρ1:=fun q Lq hq=>by simp only [ρ1];rw [if_pos (hs.dom q Lq hq).1];exact hq
 have hold:∀ q,q < H.size→ρ1 q=ρ q:=fun q hq=>by simp only [ρ1];rw [if_pos hq]
 have hec:zg ρ1 extra=some vals:=V7 vals H.size fun j x hx=>by
  refine⟨⟨L.blk,0,0,x⟩,?_,rfl⟩
  simp only [ρ1]
  rw [if_neg (by omega),show H.size+j - H.size=j by omega,hx]
 refine⟨ρ1,(H.pushN vals.length).put r (some (.cells .opened z (cs++extra))),extra,?_,hle1,hold,?_,?_,?_,?_⟩
 ·refine⟨fun q Lq hq=>?_,fun q Lq o hq hgq=>?_,fun q q' Lq Lq' o o' hne hq hq' hgq hgq' h1 h2=>?_⟩
  ·rw [z3.size_put,Xy]
   simp only [ρ1] at hq
   split at hq
   ·have:=hs.dom q Lq hq;exact⟨by omega,this.2⟩
   ·split at hq
    ·rename_i x hx
     have:=(List.getElem?_eq_some_iff.1 hx).1
     obtain rfl:=Option.some.inj hq
     exact⟨by omega,(hs.dom r L hr).2⟩
    ·cases hq
  ·rw [z3.get_put] at hgq
   split at hgq
   ·rename_i e;subst e
    obtain rfl:=Option.some.inj hgq
    rw [hold q hrs,hr] at hq
    obtain rfl:=Option.some.inj hq
    refine(zH (by simp)).2 ⟨hB,ho,cur,e,fz,hcur,by rw [List.length_append,hel];omega,?_,hz1,hz2,hz3⟩
    have:=yf (y6 hle1 _ _ hconc) hec
    rw [this]
    congr 1
    rw [List.length_append,hel]
    simp only [vals]
    rw [← List.take_add]
   ·rename_i hne
    rw [J8] at hgq
    split at hgq
    ·cases hgq
    ·rename_i hnew
     by_cases hlt:q < H.size
     ·rw [hold q hlt] at hq
      exact(hs.obj q Lq o hq hgq).mono hle1
     ·exfalso
      simp only [ρ1] at hq
      rw [if_neg hlt] at hq
      split at hq
      ·rename_i x hx
       have:=(List.getElem?_eq_some_iff.1 hx).1
       exact hnew (by omega)
      ·cases hq
  ·have key:∀ q Lq o,ρ1 q=some Lq→((H.pushN vals.length).put r (some (.cells .opened z (cs++extra)))).get q=some o→o.own=true→q < H.size∧ρ q=some Lq∧∃ o0,H.get q=some o0∧o0.own=true:=by
    intro q Lq o hq hgq h1
    rw [z3.get_put] at hgq
    split at hgq
    ·rename_i e;subst e
     rw [hold q hrs] at hq
     exact⟨hrs,hq,_,hg,rfl⟩
    ·rw [J8] at hgq
     split at hgq
     ·cases hgq
     ·rename_i hnew
      by_cases hlt:q < H.size
      ·rw [hold q hlt] at hq;exact⟨hlt,hq,o,hgq,h1⟩
      ·exfalso
       simp only [ρ1] at hq
       rw [if_neg hlt] at hq
       split at hq
       ·rename_i x hx
        have:=(List.getElem?_eq_some_iff.1 hx).1
        exact hnew (by omega)
       ·cases hq
   obtain⟨_,a1,o1,a2,a3⟩:=key q Lq o hq hgq h1
   obtain⟨_,b1,o2,b2,b3⟩:=key q' Lq' o' hq' hgq' h2
   exact hs.inj q q' Lq Lq' o1 o2 hne a1 b1 a2 b2 a3 b3
 ·rw [z3.size_put,Xy];omega
 ·rw [z3.get_put,if_pos rfl]
 ·rw [List.length_append,hel];omega
 ·intro q hq hne
  rw [z3.get_put,if_neg hne,J8,if_neg (by omega)]
theorem wn.back {B:Nat} {ρ ρ2:Rho} {w w':World} {L:Loc} {o:zF} (hle:ρ.le ρ2) (h:wn B ρ w L o) (h2:wn B ρ2 w' L o):wn B ρ w' L o:=by
 cases o with
 | iter s p=>exact h2
 | mapo es =>
  obtain⟨_,_,_,_,_,b4⟩:=h
  obtain⟨a1,a2,ents,clock,a3,a4⟩:=h2
  exact⟨a1,a2,ents,clock,a3,jc.back hle b4 a4⟩
 | cells k z cs =>
  cases k
  case ro =>
   refine⟨h2.1,fun i v hv=>?_⟩
   obtain⟨x,a1,a2⟩:=h.2 i v hv
   obtain⟨y,b1,b2⟩:=h2.2 i v hv
   have:=jm hle _ _ a1
   rw [this] at b1
   obtain rfl:=Option.some.inj b1
   exact⟨x,a1,b2⟩
  all_goals
   obtain⟨_,_,cur0,_,_,_,_,a5,_⟩:=h
   obtain⟨h1,h2',cur,e,fz,h3,h4,h5,h6⟩:=h2
   have:=y6 hle _ _ a5
   rw [this] at h5
   exact⟨h1,h2',cur,e,fz,h3,h4,a5.trans h5,h6⟩
theorem Ws {B:Nat} {ρ ρ1:Rho} {w:World} {H H1 H2:z3} {r r2 z N:Nat} {row more:List AV} {v1:AV} {c:kb} {L2:Loc} {e:Ending} {w':World}
  (hs:Sim B ρ w H) (hle:ρ.le ρ1) (hold:∀ q,q < H.size→ρ1 q=ρ q) (hsz:H.size≤H1.size)
  (hrow:∃ a,zg ρ row=some a)
  (hv1:v1=.sl r2 0 N c)
  (hc:∀ ρ2 x,ρ1.le ρ2→(∀ q,q < H1.size→ρ2 q=ρ1 q)→zb ρ2 v1=some x→∃ L2,ρ2 r2=some L2∧xj L2 c=L2.cap∧N≤L2.cap)
  (hg2:H2.get r2=some (.cells .opened z (row++more))) (hr2:r2=r∨H.size≤r2)
  (hkeep:∀ q,q < H.size→q≠r→H2.get q=H.get q) (hp:z2d B ρ1 w H1 v1 H2 e w') :
  z2d B ρ w H (.sl H.size 0 N (.mi 0)) ((H.put r none).push (some (.cells .opened z row))) e w':=by
 obtain⟨ρ2,x,he,hx,⟨hext1,hext2⟩,hs2,hb,hsz2⟩:=hp
 obtain⟨L2,hL2,hcap,hN⟩:=hc ρ2 x hext1 hext2 hx
 have hle2:ρ.le ρ2:=Rho.le_trans hle hext1
 have h02:∀ q,q < H.size→ρ2 q=ρ q:=fun q hq=>by rw [hext2 q (by omega),hold q hq]
 let ρ':Rho:=fun q=>if q=H.size then some L2 else ρ q
 have hnone:ρ H.size=none:=by
  cases h:ρ H.size with
  | none=>rfl
  | some L=>have:=(hs.dom _ _ h).1;omega
 have hle':ρ.le ρ':=fun q Lq hq=>by
  simp only [ρ']
  rw [if_neg (by intro e;rw [e,hnone] at hq;cases hq)];exact hq
 have own2:wn B ρ w' L2 (.cells .opened z row):=by
  obtain⟨a,ha⟩:=hrow
  obtain⟨h1,h2',cur,e,fz,h3,h4,h5,h6⟩:=(zH (by simp)).1 (hs2.obj r2 L2 _ hL2 hg2)
  rw [List.length_append] at h4 h5
  refine(zH (by simp)).2 ⟨h1,h2',cur,e,fz,h3,by omega,?_,h6⟩
  have q1:=jD row.length h5
  rw [List.take_left,List.take_take,Nat.min_eq_left (by omega)] at q1
  rw [y6 hle2 _ _ ha] at q1
  exact ha.trans q1
 refine⟨ρ',x,he,?_,⟨hle',fun q hq=>by simp only [ρ'];rw [if_neg (by omega)]⟩,⟨fun q Lq hq=>?_,fun q Lq o hq hgq=>?_,fun q q' Lq Lq' o o' hne hq hq' hgq hgq' o1 o2=>?_⟩,hb,by simp⟩
 ·subst hv1
  obtain⟨L,hL,rfl,_⟩:=xq hx
  rw [hL2] at hL
  obtain rfl:=Option.some.inj hL
  rw [hcap]
  have:ρ' H.size=some L2:=by simp [ρ']
  have:=yJ (ρ:=ρ') (r:=H.size) (o:=0) (len:=N) (cap:=.mi 0) this (by simpa [yG] using hN)
  simpa [xj] using this
 ·rw [z3.size_push,z3.size_put]
  simp only [ρ'] at hq
  split at hq
  ·rename_i e
   obtain rfl:=Option.some.inj hq
   exact⟨by omega,(hs2.dom r2 _ hL2).2⟩
  ·have:=hs.dom q Lq hq
   exact⟨by omega,Nat.lt_of_lt_of_le this.2 hb.size⟩
 ·rw [z3.get_push,z3.size_put] at hgq
  simp only [ρ'] at hq
  split at hgq
  ·rename_i e
   rw [if_pos e] at hq
   obtain rfl:=Option.some.inj hq
   obtain rfl:=Option.some.inj hgq
   exact own2.mono hle'
  ·rename_i e
   rw [if_neg e] at hq
   rw [z3.get_put] at hgq
   split at hgq
   ·cases hgq
   ·rename_i hne
    have hlt:=(hs.dom q Lq hq).1
    have k1:=hs.obj q Lq o hq hgq
    have k2:=hs2.obj q Lq o (by rw [h02 q hlt];exact hq) (by rw [hkeep q hlt hne];exact hgq)
    exact(wn.back hle2 k1 k2).mono hle'
 ·have key:∀ q Lq o,ρ' q=some Lq→((H.put r none).push (some (.cells .opened z row))).get q=some o→q≠H.size→q < H.size∧q≠r∧ρ q=some Lq∧H.get q=some o:=by
   intro q Lq o hq hgq e
   rw [z3.get_push,z3.size_put,if_neg e,z3.get_put] at hgq
   simp only [ρ'] at hq
   rw [if_neg e] at hq
   split at hgq
   ·cases hgq
   ·rename_i hne;exact⟨(hs.dom q Lq hq).1,hne,hq,hgq⟩
  have hnew:∀ Lq,ρ' H.size=some Lq→Lq=L2:=fun Lq h=>by simp [ρ'] at h;exact h.symm
  have apart:∀ q Lq o,ρ' q=some Lq→((H.put r none).push (some (.cells .opened z row))).get q=some o→q≠H.size→o.own=true→L2.blk≠Lq.blk:=by
   intro q Lq o hq hgq e ho
   obtain⟨a1,a2,a3,a4⟩:=key q Lq o hq hgq e
   have hlt2:q≠r2:=by rcases hr2 with rfl | h<;>omega
   exact hs2.inj r2 q L2 Lq _ o (Ne.symm hlt2) hL2 (by rw [h02 q a1];exact a3) hg2 (by rw [hkeep q a1 a2];exact a4) rfl ho
  by_cases e1:q=H.size
  ·subst e1
   obtain rfl:=hnew Lq hq
   exact apart q' Lq' o' hq' hgq' (Ne.symm hne) o2
  ·by_cases e2:q'=H.size
   ·subst e2
    obtain rfl:=hnew Lq' hq'
    exact(apart q Lq o hq hgq e1 o1).symm
   ·obtain⟨a1,a2,a3,a4⟩:=key q Lq o hq hgq e1
    obtain⟨b1,b2,b3,b4⟩:=key q' Lq' o' hq' hgq' e2
    exact hs.inj q q' Lq Lq' o o' hne a3 b3 a4 b4 o1 o2
theorem z5D {cs vs zs:List AV} {a b c:Nat} (hv:vs.length=b) (hz:zs.length=b+c) (hc:a+c≤cs.length) :
  splice (splice (cs.take a++zs) a vs) (a+b) ((cs.drop a).take c)=cs.take a++vs++(cs.drop a).take c:=by
 have h1:(cs.take a).length=a:=by simp;omega
 have h2:((cs.drop a).take c).length=c:=by simp;omega
 have e:splice (cs.take a++zs) a vs=cs.take a++vs++zs.drop b:=by
  unfold splice
  rw [List.take_left' h1,hv,← List.drop_drop,List.drop_left' h1]
 rw [e]
 unfold splice
 have e3:(cs.take a++vs++zs.drop b).drop (a+b+c)=[]:=List.drop_eq_nil_of_le (by simp only [List.length_append,List.length_drop,h1];omega)
 rw [List.take_left' (by rw [List.length_append,h1,hv]),h2,e3,List.append_nil]
theorem z4B {cs vs:List AV} {a b c:Nat} (hv:vs.length=b) (hc:a+b+c≤cs.length) :
  splice (splice cs (a+b) ((cs.drop a).take c)) a vs=cs.take a++vs++(cs.drop a).take c++cs.drop (a+b+c):=by
 have h2:((cs.drop a).take c).length=c:=by simp;omega
 have e1:(cs.take (a+b)++(cs.drop a).take c++cs.drop (a+b+c)).take a=cs.take a:=by
  rw [List.append_assoc,List.take_append_of_le_length (by simp;omega),List.take_take,Nat.min_eq_left (by omega)]
 have e2:(cs.take (a+b)++(cs.drop a).take c++cs.drop (a+b+c)).drop (a+b)=(cs.drop a).take c++cs.drop (a+b+c):=by
  rw [List.append_assoc,List.drop_left' (by simp;omega)]
 unfold splice
 rw [h2,hv,e1,e2]
 simp only [List.append_assoc]
theorem YT {z r o n C:Nat} {k:IntKind} {i:Int} {j:Nat} {H:z3} (hi:i=j) (h:j≤n):x8 H z (.sl r o n (.ex C)) (some (.int k i)) none none=some (.sl r (if C=j then o else o+j * z) (n - j) (.ex (C - j))):=by
 subst hi
 simp only [x8,ke,jq,YY]
 rw [if_pos ⟨by omega,by omega⟩]
 simp
theorem z9b {z r o n C:Nat} {k:IntKind} {i:Int} {j:Nat} {H:z3} (hi:i=j) (h:j≤C):x8 H z (.sl r o n (.ex C)) none (some (.int k i)) none=some (.sl r o j (.ex C)):=by
 subst hi
 simp only [x8,ke,jq,YY,yT]
 rw [if_pos ⟨by omega,by omega⟩]
 by_cases h0:C=0<;>simp [h0]
theorem Wt {z r n:Nat} {k:IntKind} {i:Int} {j:Nat} {H:z3} {cs:List AV} (hz:0 < z) (hg:H.get r=some (.cells .opened z cs)) (hl:cs.length=n * z) (hi:i=j) (h:j < n) :
  x8 H z (.sl r 0 n (.mi 0)) (some (.int k i)) none none=some (.sl r (j * z) (n - j) (.mi j)):=by
 subst hi
 simp only [x8,ke,jq,YY]
 rw [if_pos ⟨by omega,by omega⟩]
 have hc:yT H z r n (.mi 0)=n:=by
  have:cs.length / z=n:=by rw [hl,Nat.mul_div_cancel _ hz]
  simp [yT,hg,hz,this]
 simp only [Int.toNat_natCast,Option.map_some,hc]
 by_cases h0:j=0
 ·subst h0;simp
 ·rw [if_neg h0,if_pos h];simp
theorem z36 {z r o n r' o' n':Nat} {c c':kb} {H:z3} {k:Nat} {cs:List AV} {kd:Kd} {z':Nat} {ds:List AV} (hk:min n' n=k) (h0:k≠0) (hrow:H.row r' o' (k * z)=some cs) (hg:H.get r=some (.cells kd z' ds)) (hkd:kd≠.ro) (hfit:o+cs.length≤ds.length) (hone:cs.all AV.one=true) :
  z38 H z (.sl r o n c) (.sl r' o' n' c')=some (.int .i64 k,H.put r (some (.cells kd z' (splice ds o cs)))):=by
 simp only [z38,z03,hk,if_neg h0,hrow,z3.write,hg,if_neg hkd,hfit,hone]
 simp
structure za6 (E:Env) (f:Nat) (H:z3) (r n z N:Nat) (cs:List AV) (rest:List AV) (row:List AV):Prop where
 got:H.get r=some (.cells .opened z cs)
 fits:n * z≤cs.length
 nN:n≤N
 told:∀ ρ B w,Sim B ρ w H→(∃ xs,zg ρ (.sl r 0 n (.mi 0)::rest)=some xs)→∃ a,zg ρ row=some a
 full:∀ C,n≤C→C < N→∃ H2 r2,zL E f (.sl r 0 n (.ex C)::rest) H=some (.sl r2 0 N (.mi 0),H2)∧H.size≤r2∧(∃ more,H2.get r2=some (.cells .opened z (row++more)))∧∀ q,q < H.size→q≠r→H2.get q=H.get q
 room:∀ C H1 extra,N≤C→C≤maxLen→H.size≤H1.size→H1.get r=some (.cells .opened z (cs++extra))→(cs++extra).length=max cs.length (N * z)→(∀ q,q < H.size→q≠r→H1.get q=H.get q) →
  ∃ H2,zL E f (.sl r 0 n (.ex C)::rest) H1=some (.sl r 0 N (.ex C),H2)∧(∃ more,H2.get r=some (.cells .opened z (row++more)))∧∀ q,q < H.size→q≠r→H2.get q=H1.get q
theorem xM.ins {P:Program} {E0 E:Env} (hE:W7 P E0) (hst:W4 E0 E) {f:Nat} (hf:E0.spec f=none) {g:List AV→z3→Option (AV × z3)}
  (h:∀ args H v H',g args H=some (v,H')→zL E f args H=some (v,H') ∨
   ∃ r n z N cs rest row,args=.sl r 0 n (.mi 0)::rest∧za6 E f H r n z N cs rest row∧v=.sl H.size 0 N (.mi 0)∧H'=(H.put r none).push (some (.cells .opened z row))):xM P f g:=by
 intro B ρ w H args xs v H' hB hs hx hg
 rcases h args H v H' hg with hc | ⟨r,n,z,N,cs,rest,row,rfl,hI,rfl,rfl⟩
 ·obtain⟨n,hn⟩:=xK.1 (wQ hst hc)
  obtain⟨h1,h2⟩:=(Jh hE n).1 f args H v H' hf hn
  exact Or.inl ⟨h1,h2 B ρ w xs hB hs hx⟩
 ·have hrow:=hI.told ρ B w hs ⟨xs,hx⟩
  obtain⟨a,ys,ha,hys,rfl⟩:=zT hx
  obtain⟨L,hr,rfl,hfit⟩:=xq ha
  have hnL:n≤L.cap:=by simpa [yG] using hfit
  have hrs:=(hs.dom r L hr).1
  have hmax:L.cap≤maxLen:=by
   obtain⟨_,_,cur,e,fz,_,_,_,hkd⟩:=(zH (by simp)).1 (hs.obj r L _ hr hI.got)
   exact hkd.2.2
  have ha':∀ ρ1:Rho,ρ.le ρ1→zg ρ1 (.sl r 0 n (.ex L.cap)::rest)=some (.slice (some ⟨L.blk,L.off+0,none⟩) n (xj L (.mi 0))::ys):=fun ρ1 hle=>by
   refine yW ?_ (y6 hle _ _ hys)
   have:=yJ (ρ:=ρ1) (r:=r) (o:=0) (len:=n) (cap:=.ex L.cap) (hle _ _ hr) (by simpa [yG] using hnL)
   simpa [xj] using this
  by_cases hroom:N≤L.cap
  ·obtain⟨ρ1,H1,extra,hs1,hle,hold,hsz,hg1,hlen,hkeep⟩:=z9a hs hr hI.got hroom
   obtain⟨H2,hc,⟨more,hg2⟩,hk2⟩:=hI.room L.cap H1 extra hroom hmax hsz hg1 hlen hkeep
   obtain⟨m,hm⟩:=xK.1 (wQ hst hc)
   obtain⟨h1,h2⟩:=(Jh hE m).1 f _ H1 _ H2 hf hm
   refine Or.inl ⟨h1,(h2 B ρ1 w _ hB hs1 (ha' ρ1 hle)).mono fun e w' hp=>?_⟩
   refine Ws (L2:=L) hs hle hold hsz hrow rfl (fun ρ2 x hl2 hext hx2=>⟨L,hl2 _ _ (hle _ _ hr),rfl,hroom⟩) hg2 (Or.inl rfl) (fun q hq hne=>by rw [hk2 q hq hne,hkeep q hq hne]) hp
  ·obtain⟨H2,r2,hc,hr2,⟨more,hg2⟩,hk2⟩:=hI.full L.cap hnL (by omega)
   obtain⟨m,hm⟩:=xK.1 (wQ hst hc)
   obtain⟨h1,h2⟩:=(Jh hE m).1 f _ H _ H2 hf hm
   refine Or.inl ⟨h1,(h2 B ρ w _ hB hs (ha' ρ (Rho.le_refl ρ))).mono fun e w' hp=>?_⟩
   refine Ws (L2:=L) hs (Rho.le_refl ρ) (fun _ _=>rfl) (Nat.le_refl _) hrow rfl (fun ρ2 x hl2 hext hx2=>?_) hg2 (Or.inr hr2) hk2 hp
   obtain⟨L2,a1,_,a3⟩:=xq hx2
   exact⟨L2,a1,by simp [xj],by simpa [yG] using a3⟩
theorem z6q {cs:List AV} {z n i:Nat} (h:(cs.take (n * z)).all AV.one=true) (hi:i≤n):((cs.drop (i * z)).take ((n - i) * z)).all AV.one=true:=by
 have e:(cs.drop (i * z)).take ((n - i) * z)=(cs.take (n * z)).drop (i * z):=by rw [List.drop_take,Nat.sub_mul]
 rw [e,List.all_eq_true] at *
 exact fun x hx=>h x (List.mem_of_mem_drop hx)
def Wu (z bytes:Nat) (args:List AV) (H:z3):Option (AV × z3):=match args with
 | [.sl r 0 n (.mi 0),.int .i64 i,.sl rv ov m cv]=>match H.get r,H.get rv,H.row rv ov (m * z) with
  | some (.cells .opened z' cs),some (.cells kv zv vs0),some vs =>
   if z'=z∧0 < m∧0≤i∧i≤n∧n * z≤cs.length∧(cs.take (n * z)).all AV.one=true∧vs.all AV.one=true∧rv≠r∧(kv=.exact∨kv=.opened)∧r < H.size∧rv < H.size∧(n+m) * bytes≤zp∧n+m≤zp then
    some (.sl H.size 0 (n+m) (.mi 0),(H.put r none).push (some (.cells .opened z (cs.take (i.toNat * z)++vs++(cs.drop (i.toNat * z)).take ((n - i.toNat) * z)))))
   else none
  | _,_,_=>none
 | [.nils,.int .i64 0,v]=>X4 H z bytes .nils v
 | _=>none
def exactOr (z:Nat) (g:List AV→z3→Option (AV × z3)) (args:List AV) (H:z3):Option (AV × z3):=match args with
 | .sl r 0 n (.ex q)::rest=>match H.get r with
  | some (.cells .exact z' cs)=>if z'=z∧cs.length=q * z∧q≤maxLen∧n≤q then g (.sl r 0 n (.mi 0)::rest) (H.put r (some (.cells .opened z cs))) else none
  | _=>none
 | _=>g args H
theorem xM.exactOr {P:Program} {f z:Nat} (hz:0 < z) {g:List AV→z3→Option (AV × z3)} (h:xM P f g):xM P f (exactOr z g):=by
 intro B ρ w H args xs v H' hB hs hx hg
 unfold Go.Ab.exactOr at hg
 split at hg
 ·rename_i r n q rest
  split at hg
  ·rename_i z' cs hgr
   split at hg
   ·rename_i hc
    obtain⟨rfl,h1,h2,h3⟩:=hc
    obtain⟨a,ys,ha,hys,rfl⟩:=zT hx
    obtain⟨L,hr,rfl,hfit⟩:=xq ha
    obtain⟨k1,k2,cur,e,fz,k3,k4,k5,k6⟩:=(zH (by simp)).1 (hs.obj r L _ hr hgr)
    obtain⟨k7,k8,k9⟩:=k6
    have hcap:L.cap=q:=by
     have:L.cap * z'=q * z':=by rw [← k9,k8,h1]
     exact Nat.eq_of_mul_eq_mul_right hz this
    have hs':Sim B ρ w (H.put r (some (.cells .opened z' cs))):=by
     refine⟨fun q L hq=>by rw [z3.size_put];exact hs.dom q L hq,fun q Lq o hq hgq=>?_,fun q q' Lq Lq' o o' hne hq hq' hgq hgq' o1 o2=>?_⟩
     ·rw [z3.get_put] at hgq
      split at hgq
      ·rename_i e;subst e
       obtain rfl:=Option.some.inj hgq
       rw [hr] at hq
       obtain rfl:=Option.some.inj hq
       exact(zH (by simp)).2 ⟨k1,k2,cur,e,fz,k3,k4,k5,k7,k9,by rw [hcap];exact h2⟩
      ·exact hs.obj q Lq o hq hgq
     ·have key:∀ q o,(H.put r (some (.cells .opened z' cs))).get q=some o→o.own=true→∃ o1,H.get q=some o1∧o1.own=true:=fun q o hgq ho=>by
       rw [z3.get_put] at hgq
       split at hgq
       ·rename_i e;subst e;exact⟨_,hgr,rfl⟩
       ·exact⟨o,hgq,ho⟩
      obtain⟨p1,a1,a2⟩:=key q o hgq o1
      obtain⟨p2,b1,b2⟩:=key q' o' hgq' o2
      exact hs.inj q q' Lq Lq' p1 p2 hne hq hq' a1 b1 a2 b2
    have hx':zg ρ (.sl r 0 n (.mi 0)::rest)=some (.slice (some ⟨L.blk,L.off+0,none⟩) n (xj L (.ex q))::ys):=by
     refine yW ?_ hys
     have:=yJ (ρ:=ρ) (r:=r) (o:=0) (len:=n) (cap:=.mi 0) hr (by simpa [yG,hcap] using h3)
     rw [this]
     simp [xj,hcap]
    have:=h B ρ w _ _ _ v H' hB hs' hx' hg
    unfold z3e z2d z7r at this ⊢
    rw [z3.size_put] at this
    exact this
   ·cases hg
  ·cases hg
 ·exact h B ρ w H args xs v H' hB hs hx hg
end Go.Ab
