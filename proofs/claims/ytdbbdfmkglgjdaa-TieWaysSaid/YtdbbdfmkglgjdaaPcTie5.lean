/- What a node's functions come to, on. -/
import Derived.Test.YtdbbdfmkglgjdaaPcTie3
set_option linter.unusedVariables false
set_option linter.unusedSimpArgs false
namespace Go.Proofs.Ytdbbdfmkglgjdaa.Pi
open Go.Ab Go.Feed Go.Kids Go.Tie
set_option maxRecDepth 100000
theorem em2 (p:Prop):p=True∨p=False:=(Classical.em p).imp eq_true eq_false
@[simp] theorem zaP {β:Type} (call:z7) (lp:ze) (τ:PT) (ω:PW) (Q:z3) (k:PK β):z5 call lp .ret τ ω Q k=k .ret τ ω Q:=(Eq.refl _).trans (Eq.refl _)
def Run (f:Nat) (args:List AV) (Q:z3) (r:Nat) (ms:List Msg) (g:Tie × List Msg):Prop :=
 ∃ pv kv tv Q',zd (z8 P1) f args Q=some (.tup [],Q')∧Nd Q' r g.1 (ms++g.2) pv kv tv∧Ab r Q Q'
theorem Nd.nil {Q r t ms pv kv tv} (h:Nd Q r t ms pv kv tv):Nd Q r t (ms++[]) pv kv tv:=by rw [List.append_nil];exact h
section
variable {Q:z3} {r:Nat} {t:Tie} {ms:List Msg} {pv kv tv:AV}
theorem z8m (h:Nd Q r t ms pv kv tv) {k:Nat} (hb:Bd t k) (hk:k≤40000) (hm:ms.length≤40000) (m:Msg) {v:AV} (hv:Sl 1 (ints m.path) v) (lo:Int):Run 49 [.ptr r 0,Mv m v,.int .i64 lo] Q r ms (attach t m lo):=by
 have ro:=fun Q h=>zaO (Q:=Q) (r:=r) (tv:=tv) (ms:=ms) (pv:=pv) (kv:=kv) h hb (by omega) m.frm
 have ro:=ro Q h
 unfold attach Run
 rw [KC rfl]
 by_cases c:z41 t m.frm
 ·have he:=z5S h hb (by omega) m hv
  have h1:=h.put (t':=hears t m) (pv':=pv) (kv':=kds (hears t m).kids) h.p (Sl.fz _ _)
  obtain⟨tv',Q',e,h2,a2⟩:=vw h1 (hb.hears m) (by omega) (by omega) 2 m.frm lo
  rw [decide_eq_true c] at ro
  rw [if_pos c]
  refine⟨_,_,tv',Q',?_,by simpa [wZ] using h2,Ab.put.trans a2⟩
  simp [hv.one,ro,he,e]
 ·obtain⟨tv',Q',e,h2,a2⟩:=vw h hb (by omega) (by omega) 3 m.frm 0
  rw [decide_eq_false c] at ro
  rw [if_neg c]
  refine⟨_,_,tv',Q',?_,by simpa [wZ] using h2,a2⟩
  simp [hv.one,ro,e]
theorem z8n (h:Nd Q r t ms pv kv tv) {k:Nat} (hb:Bd t k) (hk:k≤40000) (hm:ms.length≤40000) {m:Msg} (hmb:Mb m) {v:AV} (hv:Sl 1 (ints m.path) v):Run 50 [.ptr r 0,Mv m v] Q r ms (accept t m):=by
 have hw:=hb.step
 have hn:=hb.now
 have ha:=hmb.age
 have w1:=w64 (i:=t.step+1) (by omega) (by omega)
 have w2:=w64 (i:=t.now - m.age) (by omega) (by omega)
 have ad:=fun Q=>zah (Q:=Q) hv (by have:=hmb.path;omega) t.id
 unfold accept Run
 rw [KE rfl]
 by_cases c:t.asked=m.frm∧t.parent=0
 ·rw [if_neg (by simp [c.1,c.2])]
  obtain⟨c1,c2⟩:=c
  have c1':=eq_true c1
  have c2':=eq_true c2
  have h1:=h.put (t':={ t with asked:=0 }) (pv':=pv) (kv':=kv) h.p h.k
  have b1:Bd { t with asked:=0 } k:=⟨hb.now,hb.born,hb.epoch,hb.till,hb.step,hb.path,hb.kids,hb.ks,hb.heard⟩
  generalize m.path++[t.id]=P at *
  by_cases c3:jJ P
  ·simp only [if_pos c3] at ad
   by_cases c4:m.age≤20
   ·rw [if_neg (by rintro (c | c);exact c c3;omega)]
    have wy:=zaj h1 m hv (by have:=hmb.path;omega) P
    have h2:=h1.put (t':=way { t with asked:=0 } m P) (pv':=.fz 1 (ints P)) (kv':=kv) (Sl.fz _ _) h.k
    have h3:=h.put (t':={ t with asked:=0,path:=P,grand:=Yb m.path,parent:=m.frm,pinc:=m.inc,epoch:=m.epoch,born:=t.now - m.age,step:=0 }) (pv':=.fz 1 (ints P)) (kv':=kv) (Sl.fz _ _) h.k
    refine⟨_,_,tv,_,?_,h3.nil,Ab.put⟩
    have c4':¬ 20 < m.age:=by omega
    simp [zn,yB,z9,yy,ldQ,ldA,stA,splice,yk,h.g,h.k.one,h.p.one,h.l.one,z6 h.k.one,z6 h.p.one,z6 h.l.one,hv.one,c1',c2',ad,c4',wy,w2,way]
   ·rw [if_pos (Or.inr (by omega))]
    obtain⟨tv',Q',e,h2,a2⟩:=vw h1 b1 (by omega) (by omega) 6 m.frm 0
    have h3:=h2.put (t':={ t with asked:=0,step:=t.step+1 }) (pv':=pv) (kv':=kv) h.p h.k
    refine⟨_,_,tv',_,?_,by simpa [wZ,says] using h3,(Ab.put.trans a2).trans Ab.put⟩
    have c4':20 < m.age:=by omega
    simp [zn,yB,z9,yy,ldQ,ldA,stA,splice,yk,h.g,h.k.one,h.p.one,h.l.one,z6 h.k.one,z6 h.p.one,z6 h.l.one,h2.g,h2.k.one,h2.p.one,h2.l.one,z6 h2.k.one,z6 h2.p.one,z6 h2.l.one,hv.one,c1',c2',ad,c4',e,w1]
  ·rw [if_pos (Or.inl c3)]
   simp only [if_neg c3] at ad
   obtain⟨tv',Q',e,h2,a2⟩:=vw h1 b1 (by omega) (by omega) 6 m.frm 0
   have h3:=h2.put (t':={ t with asked:=0,step:=t.step+1 }) (pv':=pv) (kv':=kv) h.p h.k
   refine⟨_,_,tv',_,?_,by simpa [wZ,says] using h3,(Ab.put.trans a2).trans Ab.put⟩
   simp [zn,yB,z9,yy,ldQ,ldA,stA,splice,yk,h.g,h.k.one,h.p.one,h.l.one,z6 h.k.one,z6 h.p.one,z6 h.l.one,h2.g,h2.k.one,h2.p.one,h2.l.one,z6 h2.k.one,z6 h2.p.one,z6 h2.l.one,hv.one,c1',c2',ad,e,w1]
 ·rw [if_pos (by
   by_cases c1:t.asked=m.frm
   ·exact Or.inr fun c2=>c ⟨c1,c2⟩
   ·exact Or.inl c1)]
  show ∃ pv kv tv Q',_∧Nd Q' r t (ms++if t.parent≠m.frm then [says t 6 m.frm 0] else []) pv kv tv∧Ab r Q Q'
  rcases em2 (t.parent=m.frm) with c3 | c3
  ·rw [if_neg (fun x=>x (of_eq_true c3))]
   refine⟨_,_,tv,Q,?_,by simpa using h,Ab.refl _ _⟩
   rcases em2 (t.asked=m.frm) with c1 | c1
   ·rcases em2 (t.parent=0) with c2 | c2
    ·exact absurd ⟨of_eq_true c1,of_eq_true c2⟩ c
    ·simp [zn,yB,z9,yy,ldQ,ldA,stA,splice,yk,h.g,h.k.one,h.p.one,h.l.one,z6 h.k.one,z6 h.p.one,z6 h.l.one,hv.one,c1,c2,c3]
   ·simp [zn,yB,z9,yy,ldQ,ldA,stA,splice,yk,h.g,h.k.one,h.p.one,h.l.one,z6 h.k.one,z6 h.p.one,z6 h.l.one,hv.one,c1,c3]
  ·obtain⟨tv',Q',e,h2,a2⟩:=vw h hb (by omega) (by omega) 6 m.frm 0
   rw [if_pos (of_eq_false c3)]
   refine⟨_,_,tv',Q',?_,by simpa [wZ] using h2,a2⟩
   rcases em2 (t.asked=m.frm) with c1 | c1
   ·rcases em2 (t.parent=0) with c2 | c2
    ·exact absurd ⟨of_eq_true c1,of_eq_true c2⟩ c
    ·simp [zn,yB,z9,yy,ldQ,ldA,stA,splice,yk,h.g,h.k.one,h.p.one,h.l.one,z6 h.k.one,z6 h.p.one,z6 h.l.one,hv.one,c1,c2,c3,e]
   ·simp [zn,yB,z9,yy,ldQ,ldA,stA,splice,yk,h.g,h.k.one,h.p.one,h.l.one,z6 h.k.one,z6 h.p.one,z6 h.l.one,hv.one,c1,c3,e]
end
end Go.Proofs.Ytdbbdfmkglgjdaa.Pi
/- What a node's functions come to, on. -/
namespace Go.Proofs.Ytdbbdfmkglgjdaa.Pi
open Go.Ab Go.Feed Go.Kids Go.Tie
set_option maxRecDepth 100000
section
variable {Q:z3} {r:Nat} {t:Tie} {ms:List Msg} {pv kv tv:AV}
theorem z8o (h:Nd Q r t ms pv kv tv) {k:Nat} (hb:Bd t k) (hk:k≤40000) (m:Msg) {v:AV} (hv:Sl 1 (ints m.path) v):Run 51 [.ptr r 0,Mv m v] Q r ms (refuse t m,[]):=by
 have hw:=hb.step
 have w1:=w64 (i:=t.step+1) (by omega) (by omega)
 unfold refuse Run
 rw [KG rfl]
 rcases em2 (m.frm=t.asked) with c1 | c1
 ·rw [if_pos (of_eq_true c1)]
  have h1:=h.put (t':={ t with asked:=0,step:=t.step+1 }) (pv':=pv) (kv':=kv) h.p h.k
  refine⟨_,_,tv,_,?_,h1.nil,Ab.put⟩
  simp [zn,yB,z9,yy,ldQ,ldA,stA,splice,yk,h.g,h.k.one,h.p.one,h.l.one,z6 h.k.one,z6 h.p.one,z6 h.l.one,hv.one,c1,w1]
 ·rw [if_neg (of_eq_false c1)]
  rcases em2 (m.frm=t.parent) with c2 | c2
  ·rw [if_pos (of_eq_true c2)]
   have le:=z2s h 0
   have h1:=h.put (t':=lets t 0) (pv':=.nils) (kv':=kv) (Sl.nil 1) h.k
   refine⟨_,_,tv,_,?_,h1.nil,Ab.put⟩
   simp [zn,yB,z9,yy,ldQ,ldA,stA,splice,yk,h.g,h.k.one,h.p.one,h.l.one,z6 h.k.one,z6 h.p.one,z6 h.l.one,hv.one,c1,c2,le]
  ·rw [if_neg (of_eq_false c2)]
   refine⟨_,_,tv,_,?_,h.nil,Ab.refl _ _⟩
   simp [zn,yB,z9,yy,ldQ,ldA,stA,splice,yk,h.g,h.k.one,h.p.one,h.l.one,z6 h.k.one,z6 h.p.one,z6 h.l.one,hv.one,c1,c2]
theorem z8p (h:Nd Q r t ms pv kv tv) {k:Nat} (hb:Bd t k) (hk:k≤40000) (hm:ms.length≤40000) (m:Msg) {v:AV} (hv:Sl 1 (ints m.path) v):Run 52 [.ptr r 0,Mv m v] Q r ms (beatUp t m):=by
 have fi:=fun Q=>z59 (Q:=Q) h.k (by have:=hb.kids;omega) hb.ks m.frm
 simp only [Zi] at fi
 unfold beatUp Run
 rw [KI rfl]
 rcases Bool.eq_false_or_eq_true (jA t.kids m.frm).isSome with c | c
 ·rw [if_pos c]
  rw [c] at fi
  have he:=z5S h hb (by omega) m hv
  have h1:=h.put (t':=hears t m) (pv':=pv) (kv':=kds (hears t m).kids) h.p (Sl.fz _ _)
  refine⟨_,_,tv,_,?_,h1.nil,Ab.put⟩
  simp [zn,yB,z9,yy,ldQ,ldA,stA,splice,yk,h.g,h.k.one,h.p.one,h.l.one,z6 h.k.one,z6 h.p.one,z6 h.l.one,hv.one,fi,he]
 ·rw [if_neg (by rw [c];decide)]
  rw [c] at fi
  obtain⟨tv',Q',e,h2,a2⟩:=vw h hb (by omega) (by omega) 3 m.frm 0
  refine⟨_,_,tv',Q',?_,by simpa [wZ] using h2,a2⟩
  simp [zn,yB,z9,yy,ldQ,ldA,stA,splice,yk,h.g,h.k.one,h.p.one,h.l.one,z6 h.k.one,z6 h.p.one,z6 h.l.one,hv.one,fi,e]
theorem z8q (h:Nd Q r t ms pv kv tv) {k:Nat} (hb:Bd t k) (hk:k≤40000) (hm:ms.length≤40000) {m:Msg} (hmb:Mb m) {v:AV} (hv:Sl 1 (ints m.path) v):Run 53 [.ptr r 0,Mv m v] Q r ms (beatDn t m):=by
 have hn:=hb.now
 have ha:=hmb.age
 have w2:=w64 (i:=t.now - m.age) (by omega) (by omega)
 have ad:=fun Q=>zah (Q:=Q) hv (by have:=hmb.path;omega) t.id
 unfold beatDn Run
 rw [KK rfl]
 rcases em2 (m.frm=t.parent) with c1 | c1
 ·rw [if_neg (fun c=>c (of_eq_true c1))]
  generalize m.path++[t.id]=P at *
  by_cases c3:jJ P
  ·simp only [if_pos c3] at ad
   rw [if_neg (fun c=>c c3)]
   have wy:=zaj h m hv (by have:=hmb.path;omega) P
   unfold KU
   rcases em2 (t.born < t.now - m.age) with c4 | c4
   ·rw [if_pos (show (way t m P).born < (way t m P).now - m.age from of_eq_true c4)]
    have h3:=h.put (t':={ way t m P with born:=t.now - m.age,epoch:=m.epoch }) (pv':=.fz 1 (ints P)) (kv':=kv) (Sl.fz _ _) h.k
    refine⟨_,_,tv,_,?_,h3.nil,Ab.put⟩
    simp [zn,yB,z9,yy,ldQ,ldA,stA,splice,yk,h.g,h.k.one,h.p.one,h.l.one,z6 h.k.one,z6 h.p.one,z6 h.l.one,hv.one,c1,ad,wy,w2,c4,way]
   ·rw [if_neg (show ¬ (way t m P).born < (way t m P).now - m.age from of_eq_false c4)]
    have h3:=h.put (t':=way t m P) (pv':=.fz 1 (ints P)) (kv':=kv) (Sl.fz _ _) h.k
    refine⟨_,_,tv,_,?_,h3.nil,Ab.put⟩
    simp [zn,yB,z9,yy,ldQ,ldA,stA,splice,yk,h.g,h.k.one,h.p.one,h.l.one,z6 h.k.one,z6 h.p.one,z6 h.l.one,hv.one,c1,ad,wy,w2,c4,way]
  ·rw [if_pos c3]
   simp only [if_neg c3] at ad
   obtain⟨tv',Q',e,h2,a2⟩:=vw h hb (by omega) (by omega) 6 m.frm 0
   have le:=z2s h2 1
   have h3:=h2.put (t':=lets t 1) (pv':=.nils) (kv':=kv) (Sl.nil 1) h.k
   refine⟨_,_,tv',_,?_,by simpa [wZ] using h3,a2.trans Ab.put⟩
   simp [zn,yB,z9,yy,ldQ,ldA,stA,splice,yk,h.g,h.k.one,h.p.one,h.l.one,z6 h.k.one,z6 h.p.one,z6 h.l.one,h2.g,h2.k.one,h2.p.one,h2.l.one,z6 h2.k.one,z6 h2.p.one,z6 h2.l.one,hv.one,c1,ad,e,le]
 ·rw [if_pos (of_eq_false c1)]
  obtain⟨tv',Q',e,h2,a2⟩:=vw h hb (by omega) (by omega) 6 m.frm 0
  refine⟨_,_,tv',Q',?_,by simpa [wZ] using h2,a2⟩
  simp [zn,yB,z9,yy,ldQ,ldA,stA,splice,yk,h.g,h.k.one,h.p.one,h.l.one,z6 h.k.one,z6 h.p.one,z6 h.l.one,hv.one,c1,e]
end
end Go.Proofs.Ytdbbdfmkglgjdaa.Pi
