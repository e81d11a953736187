/- What a node's functions come to, on. -/
import Derived.Test.YtdbbdfmkglgjdaaPcTie2
import Derived.Test.YtdbbdfmkglgjdaaPcKidsD
set_option linter.unusedVariables false
set_option linter.unusedSimpArgs false
namespace Go.Proofs.Ytdbbdfmkglgjdaa.Pi
open Go.Ab Go.Feed Go.Kids Go.Tie
set_option maxRecDepth 100000
section
variable {Q:z3} {r:Nat} {t:Tie} {ms:List Msg} {pv kv tv:AV}
theorem z3i {k:Nat} (hb:Bd t k) (hk:k≤40000):∀ (m i:Nat) (ms:List Msg) (tv:AV) (Q:z3),i+m=t.kids.length→Nd Q r t ms pv kv tv→ms.length+m≤90000 →
  ∃ tv' Q',w8 P1 (.ptr r 0) kv (.int .i64 t.kids.length) (.int .i64 i) Q=K4 Q'∧Nd Q' r t (ms++if xP t then (t.kids.drop i).map fun x=>full t 5 x.id 0 else []) pv kv tv'∧Ab r Q Q':=by
 intro m
 induction m with
 | zero =>
  intro i ms tv Q hi h hm
  obtain rfl:i=t.kids.length:=by omega
  refine⟨tv,Q,?_,by simpa using h,Ab.refl _ _⟩
  rw [Zo,YW]
  simp
 | succ m ih =>
  intro i ms tv Q hi h hm
  have hkl:=hb.kids
  have c1:((i:Int) < t.kids.length)=True:=eq_true (by omega)
  have e:=h.k.get (k:=.i64) (kAt (l:=t.kids) (i:=i) (by omega))
  have w:=w64 (i:=(i:Int)+1) (by omega) (by omega)
  have fr:=fun Q=>z2T (Q:=Q) h.p h.k hb (by omega)
  rw [z3d (show i < t.kids.length by omega)]
  generalize t.kids.getD i default=x at *
  rw [ku] at e
  rw [Zo,YW]
  by_cases c:xP t
  ·obtain⟨tv1,Q1,e1,h1,a1⟩:=kW h hb (by omega) (by omega) 5 x.id 0
   obtain⟨tv',Q',lp,h2,a2⟩:=ih (i+1) _ tv1 Q1 (by omega) h1 (by simp;omega)
   rw [show ((i+1:Nat):Int)=(i:Int)+1 by push_cast;rfl] at lp
   rw [decide_eq_true c] at fr
   rw [if_pos c] at h2 ⊢
   refine⟨tv',Q',?_,by simpa [Zf,List.append_assoc] using h2,a1.trans a2⟩
   simp [zn,yu,zc,yn,ldQ,ldA,stA,splice,yd,h.g,h.k.one,h.p.one,h.l.one,z7 h.k.one,z7 h.p.one,z7 h.l.one,c1,e,fr,e1,w,YV]
   rw [xM,lp]
  ·obtain⟨tv',Q',lp,h2,a2⟩:=ih (i+1) _ tv Q (by omega) h (by omega)
   rw [show ((i+1:Nat):Int)=(i:Int)+1 by push_cast;rfl] at lp
   rw [decide_eq_false c] at fr
   rw [if_neg c] at h2 ⊢
   refine⟨tv',Q',?_,h2,a2⟩
   simp [zn,yu,zc,yn,ldQ,ldA,stA,splice,yd,h.g,h.k.one,h.p.one,h.l.one,z7 h.k.one,z7 h.p.one,z7 h.l.one,c1,e,fr,w,YV]
   rw [xM,lp]
theorem zd5 (h:Nd Q r t ms pv kv tv) {k:Nat} (hb:Bd t k) (hk:k≤40000) (hm:ms.length≤40000):∃ tv' Q',za (z6 P1) 42 [.ptr r 0] Q=some (.tup [],Q')∧Nd Q' r t (ms++beats t) pv kv tv'∧Ab r Q Q':=by
 have hn:=hb.now
 have tm:t.now.tmod 2=t.now % 2:=Int.tmod_eq_emod_of_nonneg hn.1
 have w1:=w64 (i:=t.now % 2) (by omega) (by omega)
 have hkl:=hb.kids
 unfold beats
 rw [z1u rfl]
 by_cases c1:t.now % 2=0
 ·rw [if_neg (fun c=>c c1)]
  by_cases c2:t.parent=0
  ·obtain⟨tv',Q',lp,h2,a2⟩:=z3i hb hk t.kids.length 0 ms tv Q (by omega) h (by omega)
   rw [show ((0:Nat):Int)=0 from rfl] at lp
   refine⟨tv',Q',?_,by simpa [c2] using h2,a2⟩
   simp [zn,yu,zc,yn,ldQ,ldA,stA,splice,yd,h.g,h.k.one,h.p.one,h.l.one,z7 h.k.one,z7 h.p.one,z7 h.l.one,h.k.len,c1,c2,tm,w1,YX]
   rw [xM,lp]
   simp
  ·obtain⟨tv1,Q1,e1,h1,a1⟩:=kW h hb (by omega) (by omega) 4 t.parent 0
   obtain⟨tv',Q',lp,h2,a2⟩:=z3i hb hk t.kids.length 0 _ tv1 Q1 (by omega) h1 (by simp;omega)
   rw [show ((0:Nat):Int)=0 from rfl] at lp
   refine⟨tv',Q',?_,by simpa [c2,Zf,List.append_assoc] using h2,a1.trans a2⟩
   simp [zn,yu,zc,yn,ldQ,ldA,stA,splice,yd,h.g,h.k.one,h.p.one,h.l.one,z7 h.k.one,z7 h.p.one,z7 h.l.one,h1.g,h1.k.one,h1.p.one,h1.l.one,z7 h1.k.one,z7 h1.p.one,z7 h1.l.one,h.k.len,c1,c2,tm,w1,e1,YX]
   rw [xM,lp]
   simp
 ·rw [if_pos c1]
  exact⟨tv,Q,by simp [zn,yu,zc,yn,ldQ,ldA,stA,splice,yd,h.g,h.k.one,h.p.one,h.l.one,z7 h.k.one,z7 h.p.one,z7 h.l.one,c1,tm,w1],by simpa using h,Ab.refl _ _⟩
abbrev Mv (m:Msg) (v:AV):AV:=.agg [.int .i64 m.kind,.int .i64 m.frm,.int .i64 m.to,.int .i64 m.inc,.int .i64 m.epoch,.int .i64 m.age,v,.int .i64 m.lo,.int .i64 m.hi,.str m.text]
theorem z9c (h:Nd Q r t ms pv kv tv) {k:Nat} (hb:Bd t k) (hk:k≤100000) (m:Msg) {v:AV} (hv:Sl 1 (ints m.path) v):za (z6 P1) 70 [.ptr r 0,Mv m v] Q=some (.tup [],Q.put r (some (ND (hears t m) pv (kds (hears t m).kids) tv))):=by
 have hh:=fun Q=>ze3 (Q:=Q) h.k (by have:=hb.kids;omega) hb.ks ⟨m.frm,m.inc,t.now⟩
 rw [z1A rfl]
 simp only [kds] at hh
 simp [zn,yu,zc,yn,ldQ,ldA,stA,splice,yd,h.g,h.k.one,h.p.one,h.l.one,z7 h.k.one,z7 h.p.one,z7 h.l.one,hv.one,hh,hears,kds]
theorem zed (h:Nd Q r t ms pv kv tv) {k:Nat} (hb:Bd t k) (hk:k≤100000) (s:Int):za (z6 P1) 69 [.ptr r 0,.int .i64 s] Q=some (.bool (decide (z3z t s)),Q):=by
 have fi:=fun Q=>z8i (Q:=Q) h.k (by have:=hb.kids;omega) hb.ks s
 have fr:=fun Q=>z2T (Q:=Q) h.p h.k hb hk
 have ha:=fun Q=>zg7 (Q:=Q) h.p (by have:=hb.path;omega) s
 simp only [ku] at fi
 rw [z2I rfl]
 by_cases c1:xP t
 ·rw [decide_eq_true c1] at fr
  by_cases c2:s ∈ t.path
  ·rw [decide_eq_true c2] at ha
   have hr:¬ z3z t s:=fun c=>c.2.1 c2
   rw [decide_eq_false hr]
   rcases(Classical.em (t.id=1)).imp eq_true eq_false with c0 | c0<;>simp [zn,yu,zc,yn,ldQ,ldA,stA,splice,yd,h.g,h.k.one,h.p.one,h.l.one,z7 h.k.one,z7 h.p.one,z7 h.l.one,fi,fr,ha,c0,xh]
  ·rw [decide_eq_false c2] at ha
   rcases Bool.eq_false_or_eq_true (xj t.kids s).isSome with c3 | c3
   ·have hr:z3z t s:=⟨c1,c2,Or.inl c3⟩
    rw [decide_eq_true hr]
    rw [c3] at fi
    rcases(Classical.em (t.id=1)).imp eq_true eq_false with c0 | c0<;>simp [zn,yu,zc,yn,ldQ,ldA,stA,splice,yd,h.g,h.k.one,h.p.one,h.l.one,z7 h.k.one,z7 h.p.one,z7 h.l.one,fi,fr,ha,c0,xh]
   ·rw [c3] at fi
    by_cases c4:(t.kids.length:Int) < z7b t
    ·have hr:z3z t s:=⟨c1,c2,Or.inr c4⟩
     rw [decide_eq_true hr]
     unfold z7b at c4
     rcases(Classical.em (t.id=1)).imp eq_true eq_false with c0 | c0
     ·rw [if_pos (of_eq_true c0)] at c4;simp [zn,yu,zc,yn,ldQ,ldA,stA,splice,yd,h.g,h.k.one,h.p.one,h.l.one,z7 h.k.one,z7 h.p.one,z7 h.l.one,h.k.len,fi,fr,ha,c0,c4,xh]
     ·rw [if_neg (of_eq_false c0)] at c4;simp [zn,yu,zc,yn,ldQ,ldA,stA,splice,yd,h.g,h.k.one,h.p.one,h.l.one,z7 h.k.one,z7 h.p.one,z7 h.l.one,h.k.len,fi,fr,ha,c0,c4,xh]
    ·have hr:¬ z3z t s:=fun c=>by rcases c.2.2 with c | c;rw [c3] at c;cases c;exact c4 c
     rw [decide_eq_false hr]
     unfold z7b at c4
     rcases(Classical.em (t.id=1)).imp eq_true eq_false with c0 | c0
     ·rw [if_pos (of_eq_true c0)] at c4;simp [zn,yu,zc,yn,ldQ,ldA,stA,splice,yd,h.g,h.k.one,h.p.one,h.l.one,z7 h.k.one,z7 h.p.one,z7 h.l.one,h.k.len,fi,fr,ha,c0,c4,xh]
     ·rw [if_neg (of_eq_false c0)] at c4;simp [zn,yu,zc,yn,ldQ,ldA,stA,splice,yd,h.g,h.k.one,h.p.one,h.l.one,z7 h.k.one,z7 h.p.one,z7 h.l.one,h.k.len,fi,fr,ha,c0,c4,xh]
 ·rw [decide_eq_false c1] at fr
  have hr:¬ z3z t s:=fun c=>c1 c.1
  rw [decide_eq_false hr]
  rcases(Classical.em (t.id=1)).imp eq_true eq_false with c0 | c0<;>rcases Bool.eq_false_or_eq_true (xj t.kids s).isSome with c3 | c3<;>rw [c3] at fi<;>simp [zn,yu,zc,yn,ldQ,ldA,stA,splice,yd,h.g,h.k.one,h.p.one,h.l.one,z7 h.k.one,z7 h.p.one,z7 h.l.one,fi,fr,c0,xh]
theorem zdI (h:Nd Q r t ms pv kv tv) (m:Msg) {v:AV} (hv:Sl 1 (ints m.path) v) (hl:m.path.length≤100000) (p:List Int):za (z6 P1) 72 [.ptr r 0,Mv m v,.fz 1 (ints p)] Q=some (.tup [],Q.put r (some (ND (way t m p) (.fz 1 (ints p)) kv tv))):=by
 have gr:=fun Q=>zd3 (Q:=Q) hv hl
 rw [z3v rfl]
 by_cases c:grand m.path=0
 ·simp [zn,yu,zc,yn,ldQ,ldA,stA,splice,yd,h.g,h.k.one,h.p.one,h.l.one,z7 h.k.one,z7 h.p.one,z7 h.l.one,hv.one,gr,c,way,WE]
 ·simp [zn,yu,zc,yn,ldQ,ldA,stA,splice,yd,h.g,h.k.one,h.p.one,h.l.one,z7 h.k.one,z7 h.p.one,z7 h.l.one,hv.one,gr,c,way,WE]
end
end Go.Proofs.Ytdbbdfmkglgjdaa.Pi
