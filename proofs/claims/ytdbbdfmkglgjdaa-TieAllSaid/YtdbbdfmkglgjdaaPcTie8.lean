/- What z6l, Leave come to. -/
import Derived.Test.YtdbbdfmkglgjdaaPcTie6
set_option linter.unusedVariables false
set_option linter.unusedSimpArgs false
namespace Go.Proofs.Ytdbbdfmkglgjdaa.Pi
open Go.Ab Go.Feed Go.Kids Go.Tie
set_option maxRecDepth 100000
section
variable {Q:z3} {r:Nat} {t:Tie} {ms:List Msg} {pv kv tv:AV}
theorem J2 (h:Nd Q r t ms pv kv tv) (s0 s1 s2 s3 s4 s5 s6 s7 s8 s9 s10 s11 s12:AV):∃ Q',z5 (za (z6 P1)) (zd (z6 P1)) ZA [(6,.lp 6 0),(8,.v (.ptr r 0))] [(6,.cells [s0,s1,s2,s3,s4,s5,s6,s7,s8,s9,s10,s11,s12])] Q (zp [.cell 6 (some 13),.tmp 7] [.n,.f 10])=some (.tup [Tv t pv kv,.fz 10 (ms.map Msg.v)],Q')∧Ab r Q Q':=by
 obtain⟨mv,Q3,e3,sm,a3⟩:=h.fin
 refine⟨Q3,?_,a3⟩
 rw [z4g]
 simp [zn,yu,zc,yn,ldQ,ldA,stA,splice,yd,h.g,h.k.one,h.p.one,h.l.one,z7 h.k.one,z7 h.p.one,z7 h.l.one,e3,z8n sm]
def Com (Q:z3) (r:Nat) (m:Msg) (v:AV) (lo:Int) (g:Tie × List Msg):Prop :=
 ∃ pv kv Q',z5 (za (z6 P1)) (zd (z6 P1)) ZB [(2,.v (.int .i64 lo)),(4,.lp 4 0),(6,.lp 6 0),(8,.v (.ptr r 0))] [(4,.cells [.int .i64 m.kind,.int .i64 m.frm,.int .i64 m.to,.int .i64 m.inc,.int .i64 m.epoch,.int .i64 m.age,v,.int .i64 m.lo,.int .i64 m.hi,.str m.text]),(6,.cells [.int .i64 0,.int .i64 0,.int .i64 0,.int .i64 0,.int .i64 0,.int .i64 0,.nils,.int .i64 0,.int .i64 0,.int .i64 0,.int .i64 0,.int .i64 0,.nils])] Q (zp [.cell 6 (some 13),.tmp 7] [.n,.f 10]) =
  some (.tup [Tv g.1 pv kv,.fz 10 (g.2.map Msg.v)],Q')∧Sl 1 (ints g.1.path) pv∧Sl 3 (g.1.kids.map Kid.v) kv∧Ab r Q Q'
theorem z9d (h:Nd Q r t [] pv kv tv) {k:Nat} (hb:Bd t k) (hk:k≤30000) {m:Msg} (hmb:Mb m) {v:AV} (hv:Sl 1 (ints m.path) v) (lo:Int):Com Q r m v lo (comesK t m lo):=by
 unfold comesK Com
 rw [z4h]
 rcases em2 (m.kind=1) with c1 | c1
 ·rw [if_pos (of_eq_true c1)]
  obtain⟨pv',kv',tv',Q1,e,h1,a1⟩:=zbF h hb (by omega) (by simp) m hv lo
  obtain⟨Q',e2,a2⟩:=J2 h1 (.int .i64 0) (.int .i64 0) (.int .i64 0) (.int .i64 0) (.int .i64 0) (.int .i64 0) .nils (.int .i64 0) (.int .i64 0) (.int .i64 0) (.int .i64 0) (.int .i64 0) .nils
  refine⟨pv',kv',Q',?_,h1.p,h1.k,a1.trans a2⟩
  rw [List.nil_append] at e2
  rw [← e2]
  simp [c1,e]
 rw [if_neg (of_eq_false c1)]
 rcases em2 (m.kind=2) with c2 | c2
 ·rw [if_pos (of_eq_true c2)]
  obtain⟨pv',kv',tv',Q1,e,h1,a1⟩:=zbG h hb (by omega) (by simp) hmb hv
  obtain⟨Q',e2,a2⟩:=J2 h1 (.int .i64 0) (.int .i64 0) (.int .i64 0) (.int .i64 0) (.int .i64 0) (.int .i64 0) .nils (.int .i64 0) (.int .i64 0) (.int .i64 0) (.int .i64 0) (.int .i64 0) .nils
  refine⟨pv',kv',Q',?_,h1.p,h1.k,a1.trans a2⟩
  rw [List.nil_append] at e2
  rw [← e2]
  simp [c1,c2,e]
 rw [if_neg (of_eq_false c2)]
 rcases em2 (m.kind=3) with c3 | c3
 ·rw [if_pos (of_eq_true c3)]
  obtain⟨pv',kv',tv',Q1,e,h1,a1⟩:=zbH h hb (by omega) m hv
  obtain⟨Q',e2,a2⟩:=J2 h1 (.int .i64 0) (.int .i64 0) (.int .i64 0) (.int .i64 0) (.int .i64 0) (.int .i64 0) .nils (.int .i64 0) (.int .i64 0) (.int .i64 0) (.int .i64 0) (.int .i64 0) .nils
  refine⟨pv',kv',Q',?_,h1.p,h1.k,a1.trans a2⟩
  rw [List.nil_append] at e2
  rw [← e2]
  simp [c1,c2,c3,e]
 rw [if_neg (of_eq_false c3)]
 rcases em2 (m.kind=4) with c4 | c4
 ·rw [if_pos (of_eq_true c4)]
  obtain⟨pv',kv',tv',Q1,e,h1,a1⟩:=zbI h hb (by omega) (by simp) m hv
  obtain⟨Q',e2,a2⟩:=J2 h1 (.int .i64 0) (.int .i64 0) (.int .i64 0) (.int .i64 0) (.int .i64 0) (.int .i64 0) .nils (.int .i64 0) (.int .i64 0) (.int .i64 0) (.int .i64 0) (.int .i64 0) .nils
  refine⟨pv',kv',Q',?_,h1.p,h1.k,a1.trans a2⟩
  rw [List.nil_append] at e2
  rw [← e2]
  simp [c1,c2,c3,c4,e]
 rw [if_neg (of_eq_false c4)]
 rcases em2 (m.kind=5) with c5 | c5
 ·rw [if_pos (of_eq_true c5)]
  obtain⟨pv',kv',tv',Q1,e,h1,a1⟩:=zbJ h hb (by omega) (by simp) hmb hv
  obtain⟨Q',e2,a2⟩:=J2 h1 (.int .i64 0) (.int .i64 0) (.int .i64 0) (.int .i64 0) (.int .i64 0) (.int .i64 0) .nils (.int .i64 0) (.int .i64 0) (.int .i64 0) (.int .i64 0) (.int .i64 0) .nils
  refine⟨pv',kv',Q',?_,h1.p,h1.k,a1.trans a2⟩
  rw [List.nil_append] at e2
  rw [← e2]
  simp [c1,c2,c3,c4,c5,e]
 rw [if_neg (of_eq_false c5)]
 rcases em2 (m.kind=6) with c6 | c6
 ·rw [if_pos (of_eq_true c6)]
  have dr:=fun Q=>zem (Q:=Q) h.k (by have:=hb.kids;omega) m.frm
  have h1:=h.put (t':=detach t m) (pv':=pv) (kv':=kds (detach t m).kids) h.p (Sl.fz _ _)
  obtain⟨Q',e2,a2⟩:=J2 h1 (.int .i64 0) (.int .i64 0) (.int .i64 0) (.int .i64 0) (.int .i64 0) (.int .i64 0) .nils (.int .i64 0) (.int .i64 0) (.int .i64 0) (.int .i64 0) (.int .i64 0) .nils
  refine⟨pv,kds (detach t m).kids,Q',?_,h1.p,h1.k,Ab.put.trans a2⟩
  rw [← e2]
  simp only [kds] at dr
  simp [zn,yu,zc,yn,ldQ,ldA,stA,splice,yd,h.g,h.k.one,h.p.one,h.l.one,z7 h.k.one,z7 h.p.one,z7 h.l.one,c1,c2,c3,c4,c5,c6,dr,detach]
 rw [if_neg (of_eq_false c6)]
 obtain⟨Q',e2,a2⟩:=J2 h (.int .i64 0) (.int .i64 0) (.int .i64 0) (.int .i64 0) (.int .i64 0) (.int .i64 0) .nils (.int .i64 0) (.int .i64 0) (.int .i64 0) (.int .i64 0) (.int .i64 0) .nils
 refine⟨pv,kv,Q',?_,h.p,h.k,a2⟩
 rw [← e2]
 simp [c1,c2,c3,c4,c5,c6]
theorem z9e (hp:Sl 1 (ints t.path) pv) (hk:Sl 3 (t.kids.map Kid.v) kv) {k:Nat} (hb:Bd t k) (hk':k≤20000) {m:Msg} (hmb:Mb m) {v:AV} (hv:Sl 1 (ints m.path) v) (lo:Int):Ans 22 [Tv t pv kv,Mv m v,.int .i64 lo] Q (comes t m lo):=by
 have co:=zeb (Q:=Q) hp hk hb (by omega)
 have h0:=Nd.of (t:=t) (Q:=Q) rfl
 obtain⟨r,hr⟩:∃ r,Q.size=r:=⟨_,rfl⟩
 have a0:Ab r Q (Q.push (some (ND t (.fz 1 (ints t.path)) (kds t.kids) .nils))):=⟨by simp,fun s hs=>by rw [z3.get_push,if_neg (by omega)]⟩
 generalize Q.push (some (ND t (.fz 1 (ints t.path)) (kds t.kids) .nils))=Q0 at *
 rw [hr] at co h0
 have ol:∀ Q,za (z6 P1) 48 [kds t.kids,.int .i64 m.frm,.int .i64 m.inc] Q=some (.bool (zbX t.kids m.frm m.inc),Q):=fun Q=>zdE (Sl.fz _ _) (by have:=hb.kids;omega) hb.ks m.frm m.inc
 simp only [kds] at ol
 have le:=z5y h0 0
 have fin:Com Q0 r m v lo (comesK (gone t m) m lo)→¬ (t.parent≠0∧m.frm=t.parent∧t.pinc < m.inc)→Com Q0 r m v lo (comesK t m lo):=fun h c=>by
  have:gone t m=t:=if_neg c
  rw [this] at h;exact h
 unfold Ans comes
 rw [z6W rfl,hr]
 rcases Bool.eq_false_or_eq_true (zbX t.kids m.frm m.inc) with co1 | co1
 ·rw [if_pos (Or.inl co1)]
  rw [co1] at ol
  refine⟨_,_,_,?_,Sl.fz _ _,Sl.fz _ _,a0⟩
  simp [zn,yu,zc,yn,ldQ,ldA,stA,splice,yd,h0.g,h0.k.one,h0.p.one,h0.l.one,z7 h0.k.one,z7 h0.p.one,z7 h0.l.one,hp.one,hk.one,hv.one,co,ol]
 ·rw [co1] at ol
  by_cases co2:m.frm=t.parent∧m.inc < t.pinc
  ·rw [if_pos (Or.inr co2)]
   have c1:=eq_true co2.1
   have c2:=eq_true co2.2
   refine⟨_,_,_,?_,Sl.fz _ _,Sl.fz _ _,a0⟩
   simp [zn,yu,zc,yn,ldQ,ldA,stA,splice,yd,h0.g,h0.k.one,h0.p.one,h0.l.one,z7 h0.k.one,z7 h0.p.one,z7 h0.l.one,hp.one,hk.one,hv.one,co,ol,c1,c2]
  ·rw [if_neg (by rintro (c | c);rw [co1] at c;cases c;exact co2 c)]
   by_cases co3:t.parent≠0∧m.frm=t.parent∧t.pinc < m.inc
   ·have eg:gone t m=lets t 0:=if_pos co3
    rw [eg]
    have h1:=h0.put (t':=lets t 0) (pv':=.nils) (kv':=kds t.kids) (Sl.nil 1) (Sl.fz _ _)
    obtain⟨pv',kv',Q',e,k1,k2,a1⟩:=z9d h1 (hb.lets (by omega)) (by omega) hmb hv lo
    refine⟨pv',kv',Q',?_,k1,k2,a0.trans (Ab.put.trans a1)⟩
    have c1:=eq_false co3.1
    have c2:=eq_true co3.2.1
    have c3:=eq_true co3.2.2
    have c4:(m.inc < t.pinc)=False:=eq_false (by have:=co3.2.2;omega)
    rw [← e]
    simp [zn,yu,zc,yn,ldQ,ldA,stA,splice,yd,h0.g,h0.k.one,h0.p.one,h0.l.one,z7 h0.k.one,z7 h0.p.one,z7 h0.l.one,hp.one,hk.one,hv.one,co,ol,c1,c2,c3,c4,le]
   ·obtain⟨pv',kv',Q',e,k1,k2,a1⟩:=z9d h0 hb (by omega) hmb hv lo
    have eg:gone t m=t:=if_neg co3
    rw [eg]
    refine⟨pv',kv',Q',?_,k1,k2,a0.trans a1⟩
    rw [← e]
    rcases em2 (m.frm=t.parent) with c2 | c2
    ·have c4:(m.inc < t.pinc)=False:=eq_false fun c=>co2 ⟨of_eq_true c2,c⟩
     rcases em2 (t.parent=0) with c1 | c1
     ·simp [zn,yu,zc,yn,ldQ,ldA,stA,splice,yd,h0.g,h0.k.one,h0.p.one,h0.l.one,z7 h0.k.one,z7 h0.p.one,z7 h0.l.one,hp.one,hk.one,hv.one,co,ol,c1,c2,c4]
     ·have c3:(t.pinc < m.inc)=False:=eq_false fun c=>co3 ⟨of_eq_false c1,of_eq_true c2,c⟩
      simp [zn,yu,zc,yn,ldQ,ldA,stA,splice,yd,h0.g,h0.k.one,h0.p.one,h0.l.one,z7 h0.k.one,z7 h0.p.one,z7 h0.l.one,hp.one,hk.one,hv.one,co,ol,c1,c2,c3,c4]
    ·rcases em2 (t.parent=0) with c1 | c1
     ·simp [zn,yu,zc,yn,ldQ,ldA,stA,splice,yd,h0.g,h0.k.one,h0.p.one,h0.l.one,z7 h0.k.one,z7 h0.p.one,z7 h0.l.one,hp.one,hk.one,hv.one,co,ol,c1,c2]
     ·simp [zn,yu,zc,yn,ldQ,ldA,stA,splice,yd,h0.g,h0.k.one,h0.p.one,h0.l.one,z7 h0.k.one,z7 h0.p.one,z7 h0.l.one,hp.one,hk.one,hv.one,co,ol,c1,c2]
end
end Go.Proofs.Ytdbbdfmkglgjdaa.Pi
/- What Leave, New come to. -/
namespace Go.Proofs.Ytdbbdfmkglgjdaa.Pi
open Go.Ab Go.Feed Go.Kids Go.Tie
set_option maxRecDepth 100000
section
variable {Q:z3} {r:Nat} {t:Tie} {ms:List Msg} {pv kv tv:AV}
theorem z8o {k:Nat} (hb:Bd t k) (hk:k≤40000):∀ (m i:Nat) (ms:List Msg) (tv:AV) (Q:z3),i+m=t.kids.length→Nd Q r t ms pv kv tv→ms.length+m≤90000 →
  ∃ tv' Q',XJ P1 (.ptr r 0) kv (.int .i64 t.kids.length) (.int .i64 i) Q=z1q (.ptr r 0) Q'∧Nd Q' r t (ms++(t.kids.drop i).map fun x=>says t 3 x.id 0) pv kv tv'∧Ab r Q Q':=by
 intro m
 induction m with
 | zero =>
  intro i ms tv Q hi h hm
  obtain rfl:i=t.kids.length:=by omega
  refine⟨tv,Q,?_,by simpa using h,Ab.refl _ _⟩
  rw [Qq,VM]
  simp
 | succ m ih =>
  intro i ms tv Q hi h hm
  have hkl:=hb.kids
  have c1:((i:Int) < t.kids.length)=True:=eq_true (by omega)
  have e:=h.k.get (k:=.i64) (kAt (l:=t.kids) (i:=i) (by omega))
  have w:=w64 (i:=(i:Int)+1) (by omega) (by omega)
  rw [z3d (show i < t.kids.length by omega)]
  generalize t.kids.getD i default=x at *
  rw [ku] at e
  rw [Qq,VM]
  obtain⟨tv1,Q1,e1,h1,a1⟩:=kW h hb (by omega) (by omega) 3 x.id 0
  obtain⟨tv',Q',lp,h2,a2⟩:=ih (i+1) _ tv1 Q1 (by omega) h1 (by simp;omega)
  rw [show ((i+1:Nat):Int)=(i:Int)+1 by push_cast;rfl] at lp
  refine⟨tv',Q',?_,by simpa [Zf,List.append_assoc] using h2,a1.trans a2⟩
  simp [zn,yu,zc,yn,ldQ,ldA,stA,splice,yd,h.g,h.k.one,h.p.one,h.l.one,z7 h.k.one,z7 h.p.one,z7 h.l.one,c1,e,e1,w]
  rw [YQ,lp]
theorem zd6 (hp:Sl 1 (ints t.path) pv) (hk:Sl 3 (t.kids.map Kid.v) kv) {k:Nat} (hb:Bd t k) (hk':k≤20000):∃ Q',za (z6 P1) 27 [Tv t pv kv] Q=some (Mz (leave t),Q')∧Ab Q.size Q Q':=by
 have co:=zeb (Q:=Q) hp hk hb (by omega)
 have h0:=Nd.of (t:=t) (Q:=Q) rfl
 obtain⟨r,hr⟩:∃ r,Q.size=r:=⟨_,rfl⟩
 have a0:Ab r Q (Q.push (some (ND t (.fz 1 (ints t.path)) (kds t.kids) .nils))):=⟨by simp,fun s hs=>by rw [z3.get_push,if_neg (by omega)]⟩
 generalize Q.push (some (ND t (.fz 1 (ints t.path)) (kds t.kids) .nils))=Q0 at *
 rw [hr] at co h0 ⊢
 have hkl:=hb.kids
 unfold leave
 rw [z70 rfl]
 have key:∀ (ms:List Msg) (tv:AV) (Q1:z3),Nd Q1 r t ms (.fz 1 (ints t.path)) (kds t.kids) tv→ms.length≤10→∃ Q',z5 (za (z6 P1)) (zd (z6 P1)) ZC [(3,.v (.ptr r 0))] [] Q1 (zp [.tmp 2] [.f 10])=some (Mz (ms++t.kids.map fun x=>says t 3 x.id 0),Q')∧Ab r Q1 Q':=fun ms tv Q1 h1 hm=>by
  obtain⟨tv',Q',lp,h2,a2⟩:=z8o hb (by omega) t.kids.length 0 ms tv Q1 (by omega) h1 (by omega)
  obtain⟨mv,Q3,e3,sm,a3⟩:=h2.fin
  refine⟨Q3,?_,a2.trans a3⟩
  rw [show ((0:Nat):Int)=0 from rfl] at lp
  rw [z4j]
  simp only [kds] at lp
  simp [zn,yu,zc,yn,ldQ,ldA,stA,splice,yd,h1.g,h1.k.one,h1.p.one,h1.l.one,z7 h1.k.one,z7 h1.p.one,z7 h1.l.one]
  rw [YQ,lp]
  simp [zn,yu,zc,yn,ldQ,ldA,stA,splice,yd,h2.g,h2.k.one,h2.p.one,h2.l.one,z7 h2.k.one,z7 h2.p.one,z7 h2.l.one,z4i,e3,z8n sm]
 rcases em2 (t.parent=0) with c | c
 ·rw [if_neg (fun x=>x (of_eq_true c))]
  obtain⟨Q',e,a⟩:=key [] .nils Q0 h0 (by simp)
  refine⟨Q',?_,a0.trans a⟩
  rw [← e]
  simp [zn,yu,zc,yn,ldQ,ldA,stA,splice,yd,h0.g,h0.k.one,h0.p.one,h0.l.one,z7 h0.k.one,z7 h0.p.one,z7 h0.l.one,hp.one,hk.one,co,c]
 ·rw [if_pos (of_eq_false c)]
  obtain⟨tv1,Q1,e1,h1,a1⟩:=kW h0 hb (by omega) (by simp) 6 t.parent 0
  obtain⟨Q',e,a⟩:=key _ tv1 Q1 h1 (by simp)
  refine⟨Q',?_,a0.trans (a1.trans a)⟩
  have em:[]++[Zf t 6 t.parent 0]=[says t 6 t.parent 0]:=rfl
  rw [em] at e
  rw [← e]
  simp [zn,yu,zc,yn,ldQ,ldA,stA,splice,yd,h0.g,h0.k.one,h0.p.one,h0.l.one,z7 h0.k.one,z7 h0.p.one,z7 h0.l.one,hp.one,hk.one,co,c,e1]
theorem zgb (id inc now g:Int):∃ pv,Sl 1 (ints (New id inc now g).path) pv∧za (z6 P1) 14 [.int .i64 id,.int .i64 inc,.int .i64 now,.int .i64 g] Q=some (Tv (New id inc now g) pv .nils,Q):=by
 unfold New
 rw [zab rfl]
 by_cases c:id=1
 ·rw [if_pos c]
  exact⟨.fz 1 (ints [1]),Sl.fz _ _,by simp [c,z2f]⟩
 ·rw [if_neg c]
  exact⟨.nils,Sl.nil 1,by simp [c,z2f]⟩
theorem zgc (id inc now g:Int):∃ pv,Sl 1 (ints (New id inc now g).path) pv∧za (z6 P1) 15 [.int .i64 id,.int .i64 inc,.int .i64 now,.int .i64 g] Q=some (Tv (New id inc now g) pv .nils,Q):=by
 unfold New
 rw [z0l rfl]
 by_cases c:id=1
 ·rw [if_pos c]
  exact⟨.fz 1 (ints [1]),Sl.fz _ _,by simp [c,Yl]⟩
 ·rw [if_neg c]
  exact⟨.nils,Sl.nil 1,by simp [c,Yl]⟩
theorem zbK (id inc now g:Int):(New id inc now g).kids=[]:=by unfold New;split<;>rfl
end
end Go.Proofs.Ytdbbdfmkglgjdaa.Pi
