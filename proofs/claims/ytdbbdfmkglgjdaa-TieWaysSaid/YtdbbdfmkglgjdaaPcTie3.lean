/- What a node's functions come to, on. -/
import Derived.Test.YtdbbdfmkglgjdaaPcTie
import Derived.Test.YtdbbdfmkglgjdaaPcKids2
set_option linter.unusedVariables false
set_option linter.unusedSimpArgs false
namespace Go.Proofs.Ytdbbdfmkglgjdaa.Pi
open Go.Ab Go.Feed Go.Kids Go.Tie
set_option maxRecDepth 100000
@[simp] theorem zcN (a:AV) (l:List AV):splice (a::l) 0 []=a::l:=(Eq.refl _).trans (Eq.refl _)
section
variable {Q:z3} {r:Nat} {t:Tie} {ms:List Msg} {pv kv tv:AV}
theorem WV (hp:Sl 1 (ints t.path) pv) (hk:Sl 3 (t.kids.map Kid.v) kv) {k:Nat} (hb:Bd t k) (hk':k≤100000):zd (z8 P1) 25 [Tv t pv kv] Q=some (.bool (decide (qv t)),Q):=by
 have w1:=w64 (i:=t.now - t.born) (by have:=hb.now;have:=hb.born;omega) (by have:=hb.now;have:=hb.born;omega)
 rw [z3P rfl]
 by_cases c1:t.id=1
 ·simp [hp.one,hk.one,c1,qv]
 ·by_cases c2:t.parent=0
  ·simp [hp.one,hk.one,c1,c2,qv]
  ·by_cases c3:t.now - t.born≤20
   ·simp [hp.one,hk.one,c1,c2,c3,w1,qv]
   ·simp [hp.one,hk.one,c1,c2,c3,w1,qv]
theorem z8l (h:Nd Q r t ms pv kv tv) {k:Nat} (hb:Bd t k) (hk:k≤90000) (hm:ms.length≤100000) (c:t.asked=0):∃ tv' Q',z5 (zd (z8 P1)) (zj (z8 P1)) ju [(0,.v (.ptr r 0))] [] Q (zu [] [])=some (.tup [],Q')∧Nd Q' r (asked t) (ms++[says (asked t) 1 (asked t).asked 0]) pv kv tv'∧Ab r Q Q':=by
 have w1:=w64 (i:=t.now+3) (by have:=hb.now;omega) (by have:=hb.now;omega)
 obtain⟨tv',Q',e,hn,ha⟩:=vw (h.put (t':=asked t) (pv':=pv) (kv':=kv) h.p h.k) hb.asked (by omega) hm 1 (asked t).asked 0
 refine⟨tv',Q',?_,by simpa [wZ] using hn,Ab.put.trans ha⟩
 rw [ZT]
 by_cases c1:t.step=0
 ·by_cases c2:t.grand=0
  ·simp [asked,z1i,c1,c2,ND] at e
   simp [zn,yB,z9,yy,ldQ,ldA,stA,splice,yk,h.g,h.k.one,h.p.one,h.l.one,z6 h.k.one,z6 h.p.one,z6 h.l.one,c,c1,c2,w1,jv,e]
  ·by_cases c3:t.grand=t.id
   ·have c2':¬ t.id=0:=c3 ▸ c2
    simp [asked,z1i,c1,c2,c2',c3,ND] at e
    simp [zn,yB,z9,yy,ldQ,ldA,stA,splice,yk,h.g,h.k.one,h.p.one,h.l.one,z6 h.k.one,z6 h.p.one,z6 h.l.one,c,c1,c2,c2',c3,w1,jv,e]
   ·simp [asked,z1i,c1,c2,c3,ND] at e
    simp [zn,yB,z9,yy,ldQ,ldA,stA,splice,yk,h.g,h.k.one,h.p.one,h.l.one,z6 h.k.one,z6 h.p.one,z6 h.l.one,c,c1,c2,c3,w1,jv,e]
 ·simp [asked,z1i,c1,ND] at e
  simp [zn,yB,z9,yy,ldQ,ldA,stA,splice,yk,h.g,h.k.one,h.p.one,h.l.one,z6 h.k.one,z6 h.p.one,z6 h.l.one,c,c1,w1,jv,e]
theorem zaN (h:Nd Q r t ms pv kv tv) {k:Nat} (hb:Bd t k) (hk:k≤80000) (hm:ms.length≤100000):∃ tv' Q',zd (z8 P1) 41 [.ptr r 0] Q=some (.tup [],Q')∧Nd Q' r (asks t).1 (ms++(asks t).2) pv kv tv'∧Ab r Q Q':=by
 have hw:=hb.step
 have w1:=w64 (i:=t.step+1) (by omega) (by omega)
 unfold asks
 rw [WI rfl]
 by_cases c1:t.id=1
 ·rw [if_pos (Or.inl c1)]
  exact⟨tv,Q,by simp [zn,yB,z9,yy,ldQ,ldA,stA,splice,yk,h.g,h.k.one,h.p.one,h.l.one,z6 h.k.one,z6 h.p.one,z6 h.l.one,c1],by simpa using h,Ab.refl _ _⟩
 by_cases c2:t.parent=0
 ·rw [if_neg (by simp [c1,c2])]
  by_cases c3:t.asked=0
  ·obtain⟨tv',Q',e,hn,ha⟩:=z8l h hb (by omega) hm c3
   have et:Tie.tired t=t:=by unfold Tie.tired;rw [if_neg (fun c=>c.1 c3)]
   rw [et,if_neg (fun c=>c c3)]
   exact⟨tv',Q',by simp [zn,yB,z9,yy,ldQ,ldA,stA,splice,yk,h.g,h.k.one,h.p.one,h.l.one,z6 h.k.one,z6 h.p.one,z6 h.l.one,c1,c2,c3,e],hn,ha⟩
  ·by_cases c4:t.till≤t.now
   ·have et:Tie.tired t={ t with asked:=0,step:=t.step+1 }:=by unfold Tie.tired;rw [if_pos ⟨c3,c4⟩]
    have h1:=h.put (t':=Tie.tired t) (pv':=pv) (kv':=kv) (by rw [et];exact h.p) (by rw [et];exact h.k)
    obtain⟨tv',Q',e,hn,ha⟩:=z8l h1 hb.tired (by omega) hm (by rw [et])
    rw [if_neg (fun c=>c (by rw [et]))]
    refine⟨tv',Q',?_,hn,Ab.put.trans ha⟩
    rw [et] at e
    simp [ND,c2] at e
    simp [zn,yB,z9,yy,ldQ,ldA,stA,splice,yk,h.g,h.k.one,h.p.one,h.l.one,z6 h.k.one,z6 h.p.one,z6 h.l.one,c1,c2,c3,c4,w1,e]
   ·have et:Tie.tired t=t:=by unfold Tie.tired;rw [if_neg (fun c=>c4 c.2)]
    rw [et,if_pos c3]
    exact⟨tv,Q,by simp [zn,yB,z9,yy,ldQ,ldA,stA,splice,yk,h.g,h.k.one,h.p.one,h.l.one,z6 h.k.one,z6 h.p.one,z6 h.l.one,c1,c2,c3,c4,ZT],by simpa using h,Ab.refl _ _⟩
 ·rw [if_pos (Or.inr c2)]
  exact⟨tv,Q,by simp [zn,yB,z9,yy,ldQ,ldA,stA,splice,yk,h.g,h.k.one,h.p.one,h.l.one,z6 h.k.one,z6 h.p.one,z6 h.l.one,c1,c2],by simpa using h,Ab.refl _ _⟩
end
end Go.Proofs.Ytdbbdfmkglgjdaa.Pi
/- Who hangs on one: the document's. -/
namespace Go.Kids
end Go.Kids
namespace Go.Proofs.Ytdbbdfmkglgjdaa.Pi
open Go.Ab Go.Feed Go.Kids
set_option maxRecDepth 100000
theorem zcO {l:List Kid} {i:Nat} (hi:i < l.length):l.drop i=l.getD i default::l.drop (i+1):=by
 rw [List.drop_eq_getElem_cons hi,List.getD_eq_getElem?_getD,List.getElem?_eq_getElem hi];rfl
section
variable {Q:z3}
end
end Go.Proofs.Ytdbbdfmkglgjdaa.Pi
/- What a node's functions come to, on. -/
namespace Go.Proofs.Ytdbbdfmkglgjdaa.Pi
open Go.Ab Go.Feed Go.Kids Go.Tie
set_option maxRecDepth 100000
section
variable {Q:z3} {r:Nat} {t:Tie} {ms:List Msg} {pv kv tv:AV}
theorem z0g {k:Nat} (hb:Bd t k) (hk:k≤40000):∀ (m i:Nat) (ms:List Msg) (tv:AV) (Q:z3),i+m=t.kids.length→Nd Q r t ms pv kv tv→ms.length+m≤90000 →
  ∃ tv' Q',kS P1 (.ptr r 0) kv (.int .i64 t.kids.length) (.int .i64 i) Q=Q9 Q'∧Nd Q' r t (ms++if qv t then (t.kids.drop i).map fun x=>full t 5 x.id 0 else []) pv kv tv'∧Ab r Q Q':=by
 intro m
 induction m with
 | zero =>
  intro i ms tv Q hi h hm
  obtain rfl:i=t.kids.length:=by omega
  refine⟨tv,Q,?_,by simpa using h,Ab.refl _ _⟩
  rw [vS,Zs]
  simp
 | succ m ih =>
  intro i ms tv Q hi h hm
  have hkl:=hb.kids
  have c1:((i:Int) < t.kids.length)=True:=eq_true (by omega)
  have e:=h.k.get (k:=.i64) (kAt (l:=t.kids) (i:=i) (by omega))
  have w:=w64 (i:=(i:Int)+1) (by omega) (by omega)
  have fr:=fun Q=>WV (Q:=Q) h.p h.k hb (by omega)
  rw [zcO (show i < t.kids.length by omega)]
  generalize t.kids.getD i default=x at *
  rw [Zi] at e
  rw [vS,Zs]
  by_cases c:qv t
  ·obtain⟨tv1,Q1,e1,h1,a1⟩:=vw h hb (by omega) (by omega) 5 x.id 0
   obtain⟨tv',Q',lp,h2,a2⟩:=ih (i+1) _ tv1 Q1 (by omega) h1 (by simp;omega)
   rw [show ((i+1:Nat):Int)=(i:Int)+1 by push_cast;rfl] at lp
   rw [decide_eq_true c] at fr
   rw [if_pos c] at h2 ⊢
   refine⟨tv',Q',?_,by simpa [wZ,List.append_assoc] using h2,a1.trans a2⟩
   simp [zn,yB,z9,yy,ldQ,ldA,stA,splice,yk,h.g,h.k.one,h.p.one,h.l.one,z6 h.k.one,z6 h.p.one,z6 h.l.one,c1,e,fr,e1,w,Zr]
   rw [xw,lp]
  ·obtain⟨tv',Q',lp,h2,a2⟩:=ih (i+1) _ tv Q (by omega) h (by omega)
   rw [show ((i+1:Nat):Int)=(i:Int)+1 by push_cast;rfl] at lp
   rw [decide_eq_false c] at fr
   rw [if_neg c] at h2 ⊢
   refine⟨tv',Q',?_,h2,a2⟩
   simp [zn,yB,z9,yy,ldQ,ldA,stA,splice,yk,h.g,h.k.one,h.p.one,h.l.one,z6 h.k.one,z6 h.p.one,z6 h.l.one,c1,e,fr,w,Zr]
   rw [xw,lp]
theorem z9K (h:Nd Q r t ms pv kv tv) {k:Nat} (hb:Bd t k) (hk:k≤40000) (hm:ms.length≤40000):∃ tv' Q',zd (z8 P1) 42 [.ptr r 0] Q=some (.tup [],Q')∧Nd Q' r t (ms++beats t) pv kv tv'∧Ab r Q Q':=by
 have hn:=hb.now
 have tm:t.now.tmod 2=t.now % 2:=Int.tmod_eq_emod_of_nonneg hn.1
 have w1:=w64 (i:=t.now % 2) (by omega) (by omega)
 have hkl:=hb.kids
 unfold beats
 rw [VA rfl]
 by_cases c1:t.now % 2=0
 ·rw [if_neg (fun c=>c c1)]
  by_cases c2:t.parent=0
  ·obtain⟨tv',Q',lp,h2,a2⟩:=z0g hb hk t.kids.length 0 ms tv Q (by omega) h (by omega)
   rw [show ((0:Nat):Int)=0 from rfl] at lp
   refine⟨tv',Q',?_,by simpa [c2] using h2,a2⟩
   simp [zn,yB,z9,yy,ldQ,ldA,stA,splice,yk,h.g,h.k.one,h.p.one,h.l.one,z6 h.k.one,z6 h.p.one,z6 h.l.one,h.k.len,c1,c2,tm,w1,Zt]
   rw [xw,lp]
   simp
  ·obtain⟨tv1,Q1,e1,h1,a1⟩:=vw h hb (by omega) (by omega) 4 t.parent 0
   obtain⟨tv',Q',lp,h2,a2⟩:=z0g hb hk t.kids.length 0 _ tv1 Q1 (by omega) h1 (by simp;omega)
   rw [show ((0:Nat):Int)=0 from rfl] at lp
   refine⟨tv',Q',?_,by simpa [c2,wZ,List.append_assoc] using h2,a1.trans a2⟩
   simp [zn,yB,z9,yy,ldQ,ldA,stA,splice,yk,h.g,h.k.one,h.p.one,h.l.one,z6 h.k.one,z6 h.p.one,z6 h.l.one,h1.g,h1.k.one,h1.p.one,h1.l.one,z6 h1.k.one,z6 h1.p.one,z6 h1.l.one,h.k.len,c1,c2,tm,w1,e1,Zt]
   rw [xw,lp]
   simp
 ·rw [if_pos c1]
  exact⟨tv,Q,by simp [zn,yB,z9,yy,ldQ,ldA,stA,splice,yk,h.g,h.k.one,h.p.one,h.l.one,z6 h.k.one,z6 h.p.one,z6 h.l.one,c1,tm,w1],by simpa using h,Ab.refl _ _⟩
abbrev Mv (m:Msg) (v:AV):AV:=.agg [.int .i64 m.kind,.int .i64 m.frm,.int .i64 m.to,.int .i64 m.inc,.int .i64 m.epoch,.int .i64 m.age,v,.int .i64 m.lo,.int .i64 m.hi,.str m.text]
theorem z5S (h:Nd Q r t ms pv kv tv) {k:Nat} (hb:Bd t k) (hk:k≤100000) (m:Msg) {v:AV} (hv:Sl 1 (ints m.path) v):zd (z8 P1) 70 [.ptr r 0,Mv m v] Q=some (.tup [],Q.put r (some (ND (hears t m) pv (kds (hears t m).kids) tv))):=by
 have hh:=fun Q=>zaD (Q:=Q) h.k (by have:=hb.kids;omega) hb.ks ⟨m.frm,m.inc,t.now⟩
 rw [VE rfl]
 simp only [kds] at hh
 simp [zn,yB,z9,yy,ldQ,ldA,stA,splice,yk,h.g,h.k.one,h.p.one,h.l.one,z6 h.k.one,z6 h.p.one,z6 h.l.one,hv.one,hh,hears,kds]
theorem zaO (h:Nd Q r t ms pv kv tv) {k:Nat} (hb:Bd t k) (hk:k≤100000) (s:Int):zd (z8 P1) 69 [.ptr r 0,.int .i64 s] Q=some (.bool (decide (z41 t s)),Q):=by
 have fi:=fun Q=>z59 (Q:=Q) h.k (by have:=hb.kids;omega) hb.ks s
 have fr:=fun Q=>WV (Q:=Q) h.p h.k hb hk
 have ha:=fun Q=>zcK (Q:=Q) h.p (by have:=hb.path;omega) s
 simp only [Zi] at fi
 rw [WK rfl]
 by_cases c1:qv t
 ·rw [decide_eq_true c1] at fr
  by_cases c2:s ∈ t.path
  ·rw [decide_eq_true c2] at ha
   have hr:¬ z41 t s:=fun c=>c.2.1 c2
   rw [decide_eq_false hr]
   rcases(Classical.em (t.id=1)).imp eq_true eq_false with c0 | c0<;>simp [zn,yB,z9,yy,ldQ,ldA,stA,splice,yk,h.g,h.k.one,h.p.one,h.l.one,z6 h.k.one,z6 h.p.one,z6 h.l.one,fi,fr,ha,c0,x1]
  ·rw [decide_eq_false c2] at ha
   rcases Bool.eq_false_or_eq_true (jA t.kids s).isSome with c3 | c3
   ·have hr:z41 t s:=⟨c1,c2,Or.inl c3⟩
    rw [decide_eq_true hr]
    rw [c3] at fi
    rcases(Classical.em (t.id=1)).imp eq_true eq_false with c0 | c0<;>simp [zn,yB,z9,yy,ldQ,ldA,stA,splice,yk,h.g,h.k.one,h.p.one,h.l.one,z6 h.k.one,z6 h.p.one,z6 h.l.one,fi,fr,ha,c0,x1]
   ·rw [c3] at fi
    by_cases c4:(t.kids.length:Int) < z6X t
    ·have hr:z41 t s:=⟨c1,c2,Or.inr c4⟩
     rw [decide_eq_true hr]
     unfold z6X at c4
     rcases(Classical.em (t.id=1)).imp eq_true eq_false with c0 | c0
     ·rw [if_pos (of_eq_true c0)] at c4;simp [zn,yB,z9,yy,ldQ,ldA,stA,splice,yk,h.g,h.k.one,h.p.one,h.l.one,z6 h.k.one,z6 h.p.one,z6 h.l.one,h.k.len,fi,fr,ha,c0,c4,x1]
     ·rw [if_neg (of_eq_false c0)] at c4;simp [zn,yB,z9,yy,ldQ,ldA,stA,splice,yk,h.g,h.k.one,h.p.one,h.l.one,z6 h.k.one,z6 h.p.one,z6 h.l.one,h.k.len,fi,fr,ha,c0,c4,x1]
    ·have hr:¬ z41 t s:=fun c=>by rcases c.2.2 with c | c;rw [c3] at c;cases c;exact c4 c
     rw [decide_eq_false hr]
     unfold z6X at c4
     rcases(Classical.em (t.id=1)).imp eq_true eq_false with c0 | c0
     ·rw [if_pos (of_eq_true c0)] at c4;simp [zn,yB,z9,yy,ldQ,ldA,stA,splice,yk,h.g,h.k.one,h.p.one,h.l.one,z6 h.k.one,z6 h.p.one,z6 h.l.one,h.k.len,fi,fr,ha,c0,c4,x1]
     ·rw [if_neg (of_eq_false c0)] at c4;simp [zn,yB,z9,yy,ldQ,ldA,stA,splice,yk,h.g,h.k.one,h.p.one,h.l.one,z6 h.k.one,z6 h.p.one,z6 h.l.one,h.k.len,fi,fr,ha,c0,c4,x1]
 ·rw [decide_eq_false c1] at fr
  have hr:¬ z41 t s:=fun c=>c1 c.1
  rw [decide_eq_false hr]
  rcases(Classical.em (t.id=1)).imp eq_true eq_false with c0 | c0<;>rcases Bool.eq_false_or_eq_true (jA t.kids s).isSome with c3 | c3<;>rw [c3] at fi<;>simp [zn,yB,z9,yy,ldQ,ldA,stA,splice,yk,h.g,h.k.one,h.p.one,h.l.one,z6 h.k.one,z6 h.p.one,z6 h.l.one,fi,fr,c0,x1]
theorem zaj (h:Nd Q r t ms pv kv tv) (m:Msg) {v:AV} (hv:Sl 1 (ints m.path) v) (hl:m.path.length≤100000) (p:List Int):zd (z8 P1) 72 [.ptr r 0,Mv m v,.fz 1 (ints p)] Q=some (.tup [],Q.put r (some (ND (way t m p) (.fz 1 (ints p)) kv tv))):=by
 have gr:=fun Q=>z9J (Q:=Q) hv hl
 rw [z0r rfl]
 by_cases c:grand m.path=0
 ·simp [zn,yB,z9,yy,ldQ,ldA,stA,splice,yk,h.g,h.k.one,h.p.one,h.l.one,z6 h.k.one,z6 h.p.one,z6 h.l.one,hv.one,gr,c,way,Yb]
 ·simp [zn,yB,z9,yy,ldQ,ldA,stA,splice,yk,h.g,h.k.one,h.p.one,h.l.one,z6 h.k.one,z6 h.p.one,z6 h.l.one,hv.one,gr,c,way,Yb]
end
end Go.Proofs.Ytdbbdfmkglgjdaa.Pi
