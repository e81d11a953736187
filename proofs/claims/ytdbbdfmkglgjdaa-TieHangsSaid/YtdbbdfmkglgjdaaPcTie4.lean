/- What a node's functions come to, on. -/
import Derived.Test.YtdbbdfmkglgjdaaPcTie2
import Derived.Test.YtdbbdfmkglgjdaaPcKidsD
set_option linter.unusedVariables false
set_option linter.unusedSimpArgs false
namespace Go.Proofs.Ytdbbdfmkglgjdaa.Pi
open Go.Ab Go.Feed Go.Kids Go.Tie
set_option maxRecDepth 100000
section
variable {Q:z3} {r:Nat} {t:Tie} {ms:List Msg} {pv kv tv:AV}
abbrev Mv (m:Msg) (v:AV):AV:=.agg [.int .i64 m.kind,.int .i64 m.frm,.int .i64 m.to,.int .i64 m.inc,.int .i64 m.epoch,.int .i64 m.age,v,.int .i64 m.lo,.int .i64 m.hi,.str m.text]
theorem z7B (h:Nd Q r t ms pv kv tv) {k:Nat} (hb:Bd t k) (hk:k≤100000) (m:Msg) {v:AV} (hv:Sl 1 (ints m.path) v):zc (z6 P1) 70 [.ptr r 0,Mv m v] Q=some (.tup [],Q.put r (some (ND (hears t m) pv (kds (hears t m).kids) tv))):=by
 have hh:=fun Q=>zcl (Q:=Q) h.k (by have:=hb.kids;omega) hb.ks ⟨m.frm,m.inc,t.now⟩
 rw [z0k rfl]
 simp only [kds] at hh
 simp [zA,ql,zn,qi,ldQ,ldA,stA,splice,xQ,h.g,h.k.one,h.p.one,h.l.one,ze h.k.one,ze h.p.one,ze h.l.one,hv.one,hh,hears,kds]
theorem zct (h:Nd Q r t ms pv kv tv) {k:Nat} (hb:Bd t k) (hk:k≤100000) (s:Int):zc (z6 P1) 69 [.ptr r 0,.int .i64 s] Q=some (.bool (decide (z26 t s)),Q):=by
 have fi:=fun Q=>z6L (Q:=Q) h.k (by have:=hb.kids;omega) hb.ks s
 have fr:=fun Q=>zbo (Q:=Q) h.p h.k hb hk
 have ha:=fun Q=>zen (Q:=Q) h.p (by have:=hb.path;omega) s
 simp only [wg] at fi
 rw [z1o rfl]
 by_cases c1:jq t
 ·rw [decide_eq_true c1] at fr
  by_cases c2:s ∈ t.path
  ·rw [decide_eq_true c2] at ha
   have hr:¬ z26 t s:=fun c=>c.2.1 c2
   rw [decide_eq_false hr]
   rcases(Classical.em (t.id=1)).imp eq_true eq_false with c0 | c0<;>simp [zA,ql,zn,qi,ldQ,ldA,stA,splice,xQ,h.g,h.k.one,h.p.one,h.l.one,ze h.k.one,ze h.p.one,ze h.l.one,fi,fr,ha,c0,x5]
  ·rw [decide_eq_false c2] at ha
   rcases Bool.eq_false_or_eq_true (x6 t.kids s).isSome with c3 | c3
   ·have hr:z26 t s:=⟨c1,c2,Or.inl c3⟩
    rw [decide_eq_true hr]
    rw [c3] at fi
    rcases(Classical.em (t.id=1)).imp eq_true eq_false with c0 | c0<;>simp [zA,ql,zn,qi,ldQ,ldA,stA,splice,xQ,h.g,h.k.one,h.p.one,h.l.one,ze h.k.one,ze h.p.one,ze h.l.one,fi,fr,ha,c0,x5]
   ·rw [c3] at fi
    by_cases c4:(t.kids.length:Int) < z5E t
    ·have hr:z26 t s:=⟨c1,c2,Or.inr c4⟩
     rw [decide_eq_true hr]
     unfold z5E at c4
     rcases(Classical.em (t.id=1)).imp eq_true eq_false with c0 | c0
     ·rw [if_pos (of_eq_true c0)] at c4;simp [zA,ql,zn,qi,ldQ,ldA,stA,splice,xQ,h.g,h.k.one,h.p.one,h.l.one,ze h.k.one,ze h.p.one,ze h.l.one,h.k.len,fi,fr,ha,c0,c4,x5]
     ·rw [if_neg (of_eq_false c0)] at c4;simp [zA,ql,zn,qi,ldQ,ldA,stA,splice,xQ,h.g,h.k.one,h.p.one,h.l.one,ze h.k.one,ze h.p.one,ze h.l.one,h.k.len,fi,fr,ha,c0,c4,x5]
    ·have hr:¬ z26 t s:=fun c=>by rcases c.2.2 with c | c;rw [c3] at c;cases c;exact c4 c
     rw [decide_eq_false hr]
     unfold z5E at c4
     rcases(Classical.em (t.id=1)).imp eq_true eq_false with c0 | c0
     ·rw [if_pos (of_eq_true c0)] at c4;simp [zA,ql,zn,qi,ldQ,ldA,stA,splice,xQ,h.g,h.k.one,h.p.one,h.l.one,ze h.k.one,ze h.p.one,ze h.l.one,h.k.len,fi,fr,ha,c0,c4,x5]
     ·rw [if_neg (of_eq_false c0)] at c4;simp [zA,ql,zn,qi,ldQ,ldA,stA,splice,xQ,h.g,h.k.one,h.p.one,h.l.one,ze h.k.one,ze h.p.one,ze h.l.one,h.k.len,fi,fr,ha,c0,c4,x5]
 ·rw [decide_eq_false c1] at fr
  have hr:¬ z26 t s:=fun c=>c1 c.1
  rw [decide_eq_false hr]
  rcases(Classical.em (t.id=1)).imp eq_true eq_false with c0 | c0<;>rcases Bool.eq_false_or_eq_true (x6 t.kids s).isSome with c3 | c3<;>rw [c3] at fi<;>simp [zA,ql,zn,qi,ldQ,ldA,stA,splice,xQ,h.g,h.k.one,h.p.one,h.l.one,ze h.k.one,ze h.p.one,ze h.l.one,fi,fr,c0,x5]
theorem zc2 (h:Nd Q r t ms pv kv tv) (m:Msg) {v:AV} (hv:Sl 1 (ints m.path) v) (hl:m.path.length≤100000) (p:List Int):zc (z6 P1) 72 [.ptr r 0,Mv m v,.fz 1 (ints p)] Q=some (.tup [],Q.put r (some (ND (way t m p) (.fz 1 (ints p)) kv tv))):=by
 have gr:=fun Q=>zbm (Q:=Q) hv hl
 rw [z23 rfl]
 by_cases c:grand m.path=0
 ·simp [zA,ql,zn,qi,ldQ,ldA,stA,splice,xQ,h.g,h.k.one,h.p.one,h.l.one,ze h.k.one,ze h.p.one,ze h.l.one,hv.one,gr,c,way,Jr]
 ·simp [zA,ql,zn,qi,ldQ,ldA,stA,splice,xQ,h.g,h.k.one,h.p.one,h.l.one,ze h.k.one,ze h.p.one,ze h.l.one,hv.one,gr,c,way,Jr]
end
end Go.Proofs.Ytdbbdfmkglgjdaa.Pi
/- What a node's functions come to, on. -/
namespace Go.Proofs.Ytdbbdfmkglgjdaa.Pi
open Go.Ab Go.Feed Go.Kids Go.Tie
set_option maxRecDepth 100000
theorem em2 (p:Prop):p=True∨p=False:=(Classical.em p).imp eq_true eq_false
@[simp] theorem zcu {β:Type} (call:z7) (lp:zd) (τ:PT) (ω:PW) (Q:z3) (k:PK β):z5 call lp .ret τ ω Q k=k .ret τ ω Q:=(Eq.refl _).trans (Eq.refl _)
def Run (f:Nat) (args:List AV) (Q:z3) (r:Nat) (ms:List Msg) (g:Tie × List Msg):Prop :=
 ∃ pv kv tv Q',zc (z6 P1) f args Q=some (.tup [],Q')∧Nd Q' r g.1 (ms++g.2) pv kv tv∧Ab r Q Q'
theorem Nd.nil {Q r t ms pv kv tv} (h:Nd Q r t ms pv kv tv):Nd Q r t (ms++[]) pv kv tv:=by rw [List.append_nil];exact h
section
variable {Q:z3} {r:Nat} {t:Tie} {ms:List Msg} {pv kv tv:AV}
theorem z9Z (h:Nd Q r t ms pv kv tv) {k:Nat} (hb:Bd t k) (hk:k≤40000) (hm:ms.length≤40000) (m:Msg) {v:AV} (hv:Sl 1 (ints m.path) v) (lo:Int):Run 49 [.ptr r 0,Mv m v,.int .i64 lo] Q r ms (attach t m lo):=by
 have ro:=fun Q h=>zct (Q:=Q) (r:=r) (tv:=tv) (ms:=ms) (pv:=pv) (kv:=kv) h hb (by omega) m.frm
 have ro:=ro Q h
 unfold attach Run
 rw [We rfl]
 by_cases c:z26 t m.frm
 ·have he:=z7B h hb (by omega) m hv
  have h1:=h.put (t':=hears t m) (pv':=pv) (kv':=kds (hears t m).kids) h.p (Sl.fz _ _)
  obtain⟨tv',Q',e,h2,a2⟩:=Yp h1 (hb.hears m) (by omega) (by omega) 2 m.frm lo
  rw [decide_eq_true c] at ro
  rw [if_pos c]
  refine⟨_,_,tv',Q',?_,by simpa [X5] using h2,Ab.put.trans a2⟩
  simp [hv.one,ro,he,e]
 ·obtain⟨tv',Q',e,h2,a2⟩:=Yp h hb (by omega) (by omega) 3 m.frm 0
  rw [decide_eq_false c] at ro
  rw [if_neg c]
  refine⟨_,_,tv',Q',?_,by simpa [X5] using h2,a2⟩
  simp [hv.one,ro,e]
theorem za0 (h:Nd Q r t ms pv kv tv) {k:Nat} (hb:Bd t k) (hk:k≤40000) (hm:ms.length≤40000) {m:Msg} (hmb:Mb m) {v:AV} (hv:Sl 1 (ints m.path) v):Run 50 [.ptr r 0,Mv m v] Q r ms (accept t m):=by
 have hw:=hb.step
 have hn:=hb.now
 have ha:=hmb.age
 have w1:=w64 (i:=t.step+1) (by omega) (by omega)
 have w2:=w64 (i:=t.now - m.age) (by omega) (by omega)
 have ad:=fun Q=>zc0 (Q:=Q) hv (by have:=hmb.path;omega) t.id
 unfold accept Run
 rw [Wg rfl]
 by_cases c:t.asked=m.frm∧t.parent=0
 ·rw [if_neg (by simp [c.1,c.2])]
  obtain⟨c1,c2⟩:=c
  have c1':=eq_true c1
  have c2':=eq_true c2
  have h1:=h.put (t':={ t with asked:=0 }) (pv':=pv) (kv':=kv) h.p h.k
  have b1:Bd { t with asked:=0 } k:=⟨hb.now,hb.born,hb.epoch,hb.till,hb.step,hb.path,hb.kids,hb.ks,hb.heard⟩
  generalize m.path++[t.id]=P at *
  by_cases c3:kj P
  ·simp only [if_pos c3] at ad
   by_cases c4:m.age≤20
   ·rw [if_neg (by rintro (c | c);exact c c3;omega)]
    have wy:=zc2 h1 m hv (by have:=hmb.path;omega) P
    have h2:=h1.put (t':=way { t with asked:=0 } m P) (pv':=.fz 1 (ints P)) (kv':=kv) (Sl.fz _ _) h.k
    have h3:=h.put (t':={ t with asked:=0,path:=P,grand:=Jr m.path,parent:=m.frm,pinc:=m.inc,epoch:=m.epoch,born:=t.now - m.age,step:=0 }) (pv':=.fz 1 (ints P)) (kv':=kv) (Sl.fz _ _) h.k
    refine⟨_,_,tv,_,?_,h3.nil,Ab.put⟩
    have c4':¬ 20 < m.age:=by omega
    simp [zA,ql,zn,qi,ldQ,ldA,stA,splice,xQ,h.g,h.k.one,h.p.one,h.l.one,ze h.k.one,ze h.p.one,ze h.l.one,hv.one,c1',c2',ad,c4',wy,w2,way]
   ·rw [if_pos (Or.inr (by omega))]
    obtain⟨tv',Q',e,h2,a2⟩:=Yp h1 b1 (by omega) (by omega) 6 m.frm 0
    have h3:=h2.put (t':={ t with asked:=0,step:=t.step+1 }) (pv':=pv) (kv':=kv) h.p h.k
    refine⟨_,_,tv',_,?_,by simpa [X5,says] using h3,(Ab.put.trans a2).trans Ab.put⟩
    have c4':20 < m.age:=by omega
    simp [zA,ql,zn,qi,ldQ,ldA,stA,splice,xQ,h.g,h.k.one,h.p.one,h.l.one,ze h.k.one,ze h.p.one,ze h.l.one,h2.g,h2.k.one,h2.p.one,h2.l.one,ze h2.k.one,ze h2.p.one,ze h2.l.one,hv.one,c1',c2',ad,c4',e,w1]
  ·rw [if_pos (Or.inl c3)]
   simp only [if_neg c3] at ad
   obtain⟨tv',Q',e,h2,a2⟩:=Yp h1 b1 (by omega) (by omega) 6 m.frm 0
   have h3:=h2.put (t':={ t with asked:=0,step:=t.step+1 }) (pv':=pv) (kv':=kv) h.p h.k
   refine⟨_,_,tv',_,?_,by simpa [X5,says] using h3,(Ab.put.trans a2).trans Ab.put⟩
   simp [zA,ql,zn,qi,ldQ,ldA,stA,splice,xQ,h.g,h.k.one,h.p.one,h.l.one,ze h.k.one,ze h.p.one,ze h.l.one,h2.g,h2.k.one,h2.p.one,h2.l.one,ze h2.k.one,ze h2.p.one,ze h2.l.one,hv.one,c1',c2',ad,e,w1]
 ·rw [if_pos (by
   by_cases c1:t.asked=m.frm
   ·exact Or.inr fun c2=>c ⟨c1,c2⟩
   ·exact Or.inl c1)]
  show ∃ pv kv tv Q',_∧Nd Q' r t (ms++if t.parent≠m.frm then [says t 6 m.frm 0] else []) pv kv tv∧Ab r Q Q'
  rcases em2 (t.parent=m.frm) with c3 | c3
  ·rw [if_neg (fun x=>x (of_eq_true c3))]
   refine⟨_,_,tv,Q,?_,by simpa using h,Ab.refl _ _⟩
   rcases em2 (t.asked=m.frm) with c1 | c1
   ·rcases em2 (t.parent=0) with c2 | c2
    ·exact absurd ⟨of_eq_true c1,of_eq_true c2⟩ c
    ·simp [zA,ql,zn,qi,ldQ,ldA,stA,splice,xQ,h.g,h.k.one,h.p.one,h.l.one,ze h.k.one,ze h.p.one,ze h.l.one,hv.one,c1,c2,c3]
   ·simp [zA,ql,zn,qi,ldQ,ldA,stA,splice,xQ,h.g,h.k.one,h.p.one,h.l.one,ze h.k.one,ze h.p.one,ze h.l.one,hv.one,c1,c3]
  ·obtain⟨tv',Q',e,h2,a2⟩:=Yp h hb (by omega) (by omega) 6 m.frm 0
   rw [if_pos (of_eq_false c3)]
   refine⟨_,_,tv',Q',?_,by simpa [X5] using h2,a2⟩
   rcases em2 (t.asked=m.frm) with c1 | c1
   ·rcases em2 (t.parent=0) with c2 | c2
    ·exact absurd ⟨of_eq_true c1,of_eq_true c2⟩ c
    ·simp [zA,ql,zn,qi,ldQ,ldA,stA,splice,xQ,h.g,h.k.one,h.p.one,h.l.one,ze h.k.one,ze h.p.one,ze h.l.one,hv.one,c1,c2,c3,e]
   ·simp [zA,ql,zn,qi,ldQ,ldA,stA,splice,xQ,h.g,h.k.one,h.p.one,h.l.one,ze h.k.one,ze h.p.one,ze h.l.one,hv.one,c1,c3,e]
end
end Go.Proofs.Ytdbbdfmkglgjdaa.Pi
