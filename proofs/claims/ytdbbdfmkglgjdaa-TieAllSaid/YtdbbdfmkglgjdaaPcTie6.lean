/- What a node's functions come to, on. -/
import Derived.Test.YtdbbdfmkglgjdaaPcTie3
set_option linter.unusedVariables false
set_option linter.unusedSimpArgs false
namespace Go.Proofs.Ytdbbdfmkglgjdaa.Pi
open Go.Ab Go.Feed Go.Kids Go.Tie
set_option maxRecDepth 100000
theorem em2 (p:Prop):p=True∨p=False:=(Classical.em p).imp eq_true eq_false
@[simp] theorem zee {β:Type} (call:z8) (lp:z9) (τ:PT) (ω:PW) (Q:z3) (k:PK β):z5 call lp .ret τ ω Q k=k .ret τ ω Q:=(Eq.refl _).trans (Eq.refl _)
def Run (f:Nat) (args:List AV) (Q:z3) (r:Nat) (ms:List Msg) (g:Tie × List Msg):Prop :=
 ∃ pv kv tv Q',za (z6 P1) f args Q=some (.tup [],Q')∧Nd Q' r g.1 (ms++g.2) pv kv tv∧Ab r Q Q'
theorem Nd.nil {Q r t ms pv kv tv} (h:Nd Q r t ms pv kv tv):Nd Q r t (ms++[]) pv kv tv:=by rw [List.append_nil];exact h
section
variable {Q:z3} {r:Nat} {t:Tie} {ms:List Msg} {pv kv tv:AV}
theorem zbF (h:Nd Q r t ms pv kv tv) {k:Nat} (hb:Bd t k) (hk:k≤40000) (hm:ms.length≤40000) (m:Msg) {v:AV} (hv:Sl 1 (ints m.path) v) (lo:Int):Run 49 [.ptr r 0,Mv m v,.int .i64 lo] Q r ms (attach t m lo):=by
 have ro:=fun Q h=>zed (Q:=Q) (r:=r) (tv:=tv) (ms:=ms) (pv:=pv) (kv:=kv) h hb (by omega) m.frm
 have ro:=ro Q h
 unfold attach Run
 rw [z0r rfl]
 by_cases c:z3z t m.frm
 ·have he:=z9c h hb (by omega) m hv
  have h1:=h.put (t':=hears t m) (pv':=pv) (kv':=kds (hears t m).kids) h.p (Sl.fz _ _)
  obtain⟨tv',Q',e,h2,a2⟩:=kW h1 (hb.hears m) (by omega) (by omega) 2 m.frm lo
  rw [decide_eq_true c] at ro
  rw [if_pos c]
  refine⟨_,_,tv',Q',?_,by simpa [Zf] using h2,Ab.put.trans a2⟩
  simp [hv.one,ro,he,e]
 ·obtain⟨tv',Q',e,h2,a2⟩:=kW h hb (by omega) (by omega) 3 m.frm 0
  rw [decide_eq_false c] at ro
  rw [if_neg c]
  refine⟨_,_,tv',Q',?_,by simpa [Zf] using h2,a2⟩
  simp [hv.one,ro,e]
theorem zbG (h:Nd Q r t ms pv kv tv) {k:Nat} (hb:Bd t k) (hk:k≤40000) (hm:ms.length≤40000) {m:Msg} (hmb:Mb m) {v:AV} (hv:Sl 1 (ints m.path) v):Run 50 [.ptr r 0,Mv m v] Q r ms (accept t m):=by
 have hw:=hb.step
 have hn:=hb.now
 have ha:=hmb.age
 have w1:=w64 (i:=t.step+1) (by omega) (by omega)
 have w2:=w64 (i:=t.now - m.age) (by omega) (by omega)
 have ad:=fun Q=>zdG (Q:=Q) hv (by have:=hmb.path;omega) t.id
 unfold accept Run
 rw [z0t rfl]
 by_cases c:t.asked=m.frm∧t.parent=0
 ·rw [if_neg (by simp [c.1,c.2])]
  obtain⟨c1,c2⟩:=c
  have c1':=eq_true c1
  have c2':=eq_true c2
  have h1:=h.put (t':={ t with asked:=0 }) (pv':=pv) (kv':=kv) h.p h.k
  have b1:Bd { t with asked:=0 } k:=⟨hb.now,hb.born,hb.epoch,hb.till,hb.step,hb.path,hb.kids,hb.ks,hb.heard⟩
  generalize m.path++[t.id]=P at *
  by_cases c3:wM P
  ·simp only [if_pos c3] at ad
   by_cases c4:m.age≤20
   ·rw [if_neg (by rintro (c | c);exact c c3;omega)]
    have wy:=zdI h1 m hv (by have:=hmb.path;omega) P
    have h2:=h1.put (t':=way { t with asked:=0 } m P) (pv':=.fz 1 (ints P)) (kv':=kv) (Sl.fz _ _) h.k
    have h3:=h.put (t':={ t with asked:=0,path:=P,grand:=WE m.path,parent:=m.frm,pinc:=m.inc,epoch:=m.epoch,born:=t.now - m.age,step:=0 }) (pv':=.fz 1 (ints P)) (kv':=kv) (Sl.fz _ _) h.k
    refine⟨_,_,tv,_,?_,h3.nil,Ab.put⟩
    have c4':¬ 20 < m.age:=by omega
    simp [zn,yu,zc,yn,ldQ,ldA,stA,splice,yd,h.g,h.k.one,h.p.one,h.l.one,z7 h.k.one,z7 h.p.one,z7 h.l.one,hv.one,c1',c2',ad,c4',wy,w2,way]
   ·rw [if_pos (Or.inr (by omega))]
    obtain⟨tv',Q',e,h2,a2⟩:=kW h1 b1 (by omega) (by omega) 6 m.frm 0
    have h3:=h2.put (t':={ t with asked:=0,step:=t.step+1 }) (pv':=pv) (kv':=kv) h.p h.k
    refine⟨_,_,tv',_,?_,by simpa [Zf,says] using h3,(Ab.put.trans a2).trans Ab.put⟩
    have c4':20 < m.age:=by omega
    simp [zn,yu,zc,yn,ldQ,ldA,stA,splice,yd,h.g,h.k.one,h.p.one,h.l.one,z7 h.k.one,z7 h.p.one,z7 h.l.one,h2.g,h2.k.one,h2.p.one,h2.l.one,z7 h2.k.one,z7 h2.p.one,z7 h2.l.one,hv.one,c1',c2',ad,c4',e,w1]
  ·rw [if_pos (Or.inl c3)]
   simp only [if_neg c3] at ad
   obtain⟨tv',Q',e,h2,a2⟩:=kW h1 b1 (by omega) (by omega) 6 m.frm 0
   have h3:=h2.put (t':={ t with asked:=0,step:=t.step+1 }) (pv':=pv) (kv':=kv) h.p h.k
   refine⟨_,_,tv',_,?_,by simpa [Zf,says] using h3,(Ab.put.trans a2).trans Ab.put⟩
   simp [zn,yu,zc,yn,ldQ,ldA,stA,splice,yd,h.g,h.k.one,h.p.one,h.l.one,z7 h.k.one,z7 h.p.one,z7 h.l.one,h2.g,h2.k.one,h2.p.one,h2.l.one,z7 h2.k.one,z7 h2.p.one,z7 h2.l.one,hv.one,c1',c2',ad,e,w1]
 ·rw [if_pos (by
   by_cases c1:t.asked=m.frm
   ·exact Or.inr fun c2=>c ⟨c1,c2⟩
   ·exact Or.inl c1)]
  show ∃ pv kv tv Q',_∧Nd Q' r t (ms++if t.parent≠m.frm then [says t 6 m.frm 0] else []) pv kv tv∧Ab r Q Q'
  rcases em2 (t.parent=m.frm) with c3 | c3
  ·rw [if_neg (fun x=>x (of_eq_true c3))]
   refine⟨_,_,tv,Q,?_,by simpa using h,Ab.refl _ _⟩
   rcases em2 (t.asked=m.frm) with c1 | c1
   ·rcases em2 (t.parent=0) with c2 | c2
    ·exact absurd ⟨of_eq_true c1,of_eq_true c2⟩ c
    ·simp [zn,yu,zc,yn,ldQ,ldA,stA,splice,yd,h.g,h.k.one,h.p.one,h.l.one,z7 h.k.one,z7 h.p.one,z7 h.l.one,hv.one,c1,c2,c3]
   ·simp [zn,yu,zc,yn,ldQ,ldA,stA,splice,yd,h.g,h.k.one,h.p.one,h.l.one,z7 h.k.one,z7 h.p.one,z7 h.l.one,hv.one,c1,c3]
  ·obtain⟨tv',Q',e,h2,a2⟩:=kW h hb (by omega) (by omega) 6 m.frm 0
   rw [if_pos (of_eq_false c3)]
   refine⟨_,_,tv',Q',?_,by simpa [Zf] using h2,a2⟩
   rcases em2 (t.asked=m.frm) with c1 | c1
   ·rcases em2 (t.parent=0) with c2 | c2
    ·exact absurd ⟨of_eq_true c1,of_eq_true c2⟩ c
    ·simp [zn,yu,zc,yn,ldQ,ldA,stA,splice,yd,h.g,h.k.one,h.p.one,h.l.one,z7 h.k.one,z7 h.p.one,z7 h.l.one,hv.one,c1,c2,c3,e]
   ·simp [zn,yu,zc,yn,ldQ,ldA,stA,splice,yd,h.g,h.k.one,h.p.one,h.l.one,z7 h.k.one,z7 h.p.one,z7 h.l.one,hv.one,c1,c3,e]
end
end Go.Proofs.Ytdbbdfmkglgjdaa.Pi
/- What a node's functions come to, on. -/
namespace Go.Proofs.Ytdbbdfmkglgjdaa.Pi
open Go.Ab Go.Feed Go.Kids Go.Tie
set_option maxRecDepth 100000
section
variable {Q:z3} {r:Nat} {t:Tie} {ms:List Msg} {pv kv tv:AV}
theorem zbH (h:Nd Q r t ms pv kv tv) {k:Nat} (hb:Bd t k) (hk:k≤40000) (m:Msg) {v:AV} (hv:Sl 1 (ints m.path) v):Run 51 [.ptr r 0,Mv m v] Q r ms (refuse t m,[]):=by
 have hw:=hb.step
 have w1:=w64 (i:=t.step+1) (by omega) (by omega)
 unfold refuse Run
 rw [z0v rfl]
 rcases em2 (m.frm=t.asked) with c1 | c1
 ·rw [if_pos (of_eq_true c1)]
  have h1:=h.put (t':={ t with asked:=0,step:=t.step+1 }) (pv':=pv) (kv':=kv) h.p h.k
  refine⟨_,_,tv,_,?_,h1.nil,Ab.put⟩
  simp [zn,yu,zc,yn,ldQ,ldA,stA,splice,yd,h.g,h.k.one,h.p.one,h.l.one,z7 h.k.one,z7 h.p.one,z7 h.l.one,hv.one,c1,w1]
 ·rw [if_neg (of_eq_false c1)]
  rcases em2 (m.frm=t.parent) with c2 | c2
  ·rw [if_pos (of_eq_true c2)]
   have le:=z5y h 0
   have h1:=h.put (t':=lets t 0) (pv':=.nils) (kv':=kv) (Sl.nil 1) h.k
   refine⟨_,_,tv,_,?_,h1.nil,Ab.put⟩
   simp [zn,yu,zc,yn,ldQ,ldA,stA,splice,yd,h.g,h.k.one,h.p.one,h.l.one,z7 h.k.one,z7 h.p.one,z7 h.l.one,hv.one,c1,c2,le]
  ·rw [if_neg (of_eq_false c2)]
   refine⟨_,_,tv,_,?_,h.nil,Ab.refl _ _⟩
   simp [zn,yu,zc,yn,ldQ,ldA,stA,splice,yd,h.g,h.k.one,h.p.one,h.l.one,z7 h.k.one,z7 h.p.one,z7 h.l.one,hv.one,c1,c2]
theorem zbI (h:Nd Q r t ms pv kv tv) {k:Nat} (hb:Bd t k) (hk:k≤40000) (hm:ms.length≤40000) (m:Msg) {v:AV} (hv:Sl 1 (ints m.path) v):Run 52 [.ptr r 0,Mv m v] Q r ms (beatUp t m):=by
 have fi:=fun Q=>z8i (Q:=Q) h.k (by have:=hb.kids;omega) hb.ks m.frm
 simp only [ku] at fi
 unfold beatUp Run
 rw [z0x rfl]
 rcases Bool.eq_false_or_eq_true (xj t.kids m.frm).isSome with c | c
 ·rw [if_pos c]
  rw [c] at fi
  have he:=z9c h hb (by omega) m hv
  have h1:=h.put (t':=hears t m) (pv':=pv) (kv':=kds (hears t m).kids) h.p (Sl.fz _ _)
  refine⟨_,_,tv,_,?_,h1.nil,Ab.put⟩
  simp [zn,yu,zc,yn,ldQ,ldA,stA,splice,yd,h.g,h.k.one,h.p.one,h.l.one,z7 h.k.one,z7 h.p.one,z7 h.l.one,hv.one,fi,he]
 ·rw [if_neg (by rw [c];decide)]
  rw [c] at fi
  obtain⟨tv',Q',e,h2,a2⟩:=kW h hb (by omega) (by omega) 3 m.frm 0
  refine⟨_,_,tv',Q',?_,by simpa [Zf] using h2,a2⟩
  simp [zn,yu,zc,yn,ldQ,ldA,stA,splice,yd,h.g,h.k.one,h.p.one,h.l.one,z7 h.k.one,z7 h.p.one,z7 h.l.one,hv.one,fi,e]
theorem zbJ (h:Nd Q r t ms pv kv tv) {k:Nat} (hb:Bd t k) (hk:k≤40000) (hm:ms.length≤40000) {m:Msg} (hmb:Mb m) {v:AV} (hv:Sl 1 (ints m.path) v):Run 53 [.ptr r 0,Mv m v] Q r ms (beatDn t m):=by
 have hn:=hb.now
 have ha:=hmb.age
 have w2:=w64 (i:=t.now - m.age) (by omega) (by omega)
 have ad:=fun Q=>zdG (Q:=Q) hv (by have:=hmb.path;omega) t.id
 unfold beatDn Run
 rw [z0z rfl]
 rcases em2 (m.frm=t.parent) with c1 | c1
 ·rw [if_neg (fun c=>c (of_eq_true c1))]
  generalize m.path++[t.id]=P at *
  by_cases c3:wM P
  ·simp only [if_pos c3] at ad
   rw [if_neg (fun c=>c c3)]
   have wy:=zdI h m hv (by have:=hmb.path;omega) P
   unfold z2h
   rcases em2 (t.born < t.now - m.age) with c4 | c4
   ·rw [if_pos (show (way t m P).born < (way t m P).now - m.age from of_eq_true c4)]
    have h3:=h.put (t':={ way t m P with born:=t.now - m.age,epoch:=m.epoch }) (pv':=.fz 1 (ints P)) (kv':=kv) (Sl.fz _ _) h.k
    refine⟨_,_,tv,_,?_,h3.nil,Ab.put⟩
    simp [zn,yu,zc,yn,ldQ,ldA,stA,splice,yd,h.g,h.k.one,h.p.one,h.l.one,z7 h.k.one,z7 h.p.one,z7 h.l.one,hv.one,c1,ad,wy,w2,c4,way]
   ·rw [if_neg (show ¬ (way t m P).born < (way t m P).now - m.age from of_eq_false c4)]
    have h3:=h.put (t':=way t m P) (pv':=.fz 1 (ints P)) (kv':=kv) (Sl.fz _ _) h.k
    refine⟨_,_,tv,_,?_,h3.nil,Ab.put⟩
    simp [zn,yu,zc,yn,ldQ,ldA,stA,splice,yd,h.g,h.k.one,h.p.one,h.l.one,z7 h.k.one,z7 h.p.one,z7 h.l.one,hv.one,c1,ad,wy,w2,c4,way]
  ·rw [if_pos c3]
   simp only [if_neg c3] at ad
   obtain⟨tv',Q',e,h2,a2⟩:=kW h hb (by omega) (by omega) 6 m.frm 0
   have le:=z5y h2 1
   have h3:=h2.put (t':=lets t 1) (pv':=.nils) (kv':=kv) (Sl.nil 1) h.k
   refine⟨_,_,tv',_,?_,by simpa [Zf] using h3,a2.trans Ab.put⟩
   simp [zn,yu,zc,yn,ldQ,ldA,stA,splice,yd,h.g,h.k.one,h.p.one,h.l.one,z7 h.k.one,z7 h.p.one,z7 h.l.one,h2.g,h2.k.one,h2.p.one,h2.l.one,z7 h2.k.one,z7 h2.p.one,z7 h2.l.one,hv.one,c1,ad,e,le]
 ·rw [if_pos (of_eq_false c1)]
  obtain⟨tv',Q',e,h2,a2⟩:=kW h hb (by omega) (by omega) 6 m.frm 0
  refine⟨_,_,tv',Q',?_,by simpa [Zf] using h2,a2⟩
  simp [zn,yu,zc,yn,ldQ,ldA,stA,splice,yd,h.g,h.k.one,h.p.one,h.l.one,z7 h.k.one,z7 h.p.one,z7 h.l.one,hv.one,c1,e]
end
end Go.Proofs.Ytdbbdfmkglgjdaa.Pi
/- What Tick, z6l, Leave come to. -/
namespace Go.Proofs.Ytdbbdfmkglgjdaa.Pi
open Go.Ab Go.Feed Go.Kids Go.Tie
set_option maxRecDepth 100000
theorem Nd.fin {Q r t ms pv kv tv} (h:Nd Q r t ms pv kv tv):∃ mv Q',z5Z Q 10 tv=some (mv,Q')∧Sl 10 (ms.map Msg.v) mv∧Ab r Q Q':=by
 rcases h.l with ⟨rfl,rfl⟩ | ⟨q,h1,h2,rfl,h4⟩
 ·exact⟨.nils,Q,rfl,Sl.nil 10,Ab.refl _ _⟩
 ·have fl:=z3g ms
  have b1:Nat.beq (vi (ms.map Msg.v)).length (ms.length * 10)=true:=by rw [fl];exact Nat.beq_refl _
  have b2:=zbD ms
  refine⟨.fz 10 (ms.map Msg.v),Q.put q none,?_,Sl.fz _ _,⟨by simp,fun s hs=>by rw [z3.get_put,if_neg (by omega)]⟩⟩
  simp only [z5Z,h4,b1,b2,Bool.and_true,Nat.beq_refl]
  rw [z8m]
def Ans (f:Nat) (args:List AV) (Q:z3) (g:Tie × List Msg):Prop :=
 ∃ pv kv Q',za (z6 P1) f args Q=some (.tup [Tv g.1 pv kv,.fz 10 (g.2.map Msg.v)],Q')∧Sl 1 (ints g.1.path) pv∧Sl 3 (g.1.kids.map Kid.v) kv∧Ab Q.size Q Q'
@[simp] theorem zga (b:Bool) (z:Nat) (l:List AV):rcv b (.f z) (.fz z l)=some (.fz z l):=by cases b<;>simp [rcv]
theorem z8n {z:Nat} {l:List AV} {v:AV} (h:Sl z l v):rcv false (.f z) v=some (.fz z l):=by
 rcases h with rfl | ⟨rfl,rfl⟩
 ·simp
 ·rfl
abbrev Mz (ms:List Msg):AV:=.fz 10 (ms.map Msg.v)
section
variable {Q:z3} {r:Nat} {t:Tie} {ms:List Msg} {pv kv tv:AV}
theorem z5z (h:Nd Q r t [] pv kv tv) {k:Nat} (hb:Bd t k) (hk:k≤30000) (s0 s1 s2 s3 s4 s5 s6 s7 s8 s9 s10 s11 s12:AV):∃ pv' kv' Q',z5 (za (z6 P1)) (zd (z6 P1)) Yr [(2,.lp 2 0),(4,.v (.ptr r 0))] [(2,.cells [s0,s1,s2,s3,s4,s5,s6,s7,s8,s9,s10,s11,s12])] Q (zp [.cell 2 (some 13),.tmp 3] [.n,.f 10])=some (.tup [Tv (asks t).1 pv' kv',.fz 10 (((asks t).2++beats (asks t).1).map Msg.v)],Q')∧Sl 1 (ints (asks t).1.path) pv'∧Sl 3 ((asks t).1.kids.map Kid.v) kv'∧Ab r Q Q':=by
 obtain⟨tv1,Q1,e1,h1,a1⟩:=zec h hb (by omega) (by simp)
 have hl:([]++(asks t).2).length≤40000:=by
  unfold asks;split
  ·simp
  ·split<;>simp
 obtain⟨tv2,Q2,e2,h2,a2⟩:=zd5 h1 hb.asks (by omega) hl
 obtain⟨mv,Q3,e3,sm,a3⟩:=h2.fin
 refine⟨pv,kv,Q3,?_,h2.p,h2.k,(a1.trans a2).trans a3⟩
 rw [List.nil_append] at sm
 rw [z5O]
 simp [zn,yu,zc,yn,ldQ,ldA,stA,splice,yd,h2.g,h2.k.one,h2.p.one,h2.l.one,z7 h2.k.one,z7 h2.p.one,z7 h2.l.one,e1,e2,e3,z8n sm]
theorem zef (hp:Sl 1 (ints t.path) pv) (hk:Sl 3 (t.kids.map Kid.v) kv) {k:Nat} (hb:Bd t k) (hk':k≤20000):Ans 18 [Tv t pv kv] Q (tick t):=by
 have hn:=hb.now
 have he:=hb.epoch
 have co:=zeb (Q:=Q) hp hk hb (by omega)
 have h0:=Nd.of (t:=t) (Q:=Q) rfl
 obtain⟨r,hr⟩:∃ r,Q.size=r:=⟨_,rfl⟩
 have a0:Ab r Q (Q.push (some (ND t (.fz 1 (ints t.path)) (kds t.kids) .nils))):=⟨by simp,fun s hs=>by rw [z3.get_push,if_neg (by omega)]⟩
 generalize Q.push (some (ND t (.fz 1 (ints t.path)) (kds t.kids) .nils))=Q0 at *
 unfold Ans
 rw [hr] at co h0 ⊢
 have w1:=w64 (i:=t.now+1) (by omega) (by omega)
 have w2:=w64 (i:=t.epoch+1) (by omega) (by omega)
 have tm:(t.now+1).tmod 2=(t.now+1) % 2:=Int.tmod_eq_emod_of_nonneg (by omega)
 have w3:=w64 (i:=(t.now+1) % 2) (by omega) (by omega)
 have pr:=fun Q=>zde (Q:=Q) (Sl.fz 3 (t.kids.map Kid.v)) (by have:=hb.kids;omega) (now:=t.now+1) (by omega) (fun x hx=>by have:=hb.heard x hx;omega)
 have bl:Bd (later t) (k+1):=hb.later
 have h1:=h0.put (t':=later t) (pv':=.fz 1 (ints t.path)) (kv':=kds (later t).kids) (Sl.fz _ _) (Sl.fz _ _)
 have fr:=z2T (Q:=Q0.put r (some (ND (later t) (.fz 1 (ints t.path)) (kds (later t).kids) .nils))) h1.p h1.k bl (by omega)
 have le:=z5y h1 0
 have bt:Bd (turned (later t)) (k+2):=bl.turned
 simp only [kds,later] at pr le
 rw [z8B rfl]
 unfold tick
 rcases em2 (t.id=1) with c1 | c1
 ·rcases em2 ((t.now+1) % 2=0) with c2 | c2
  ·have et:turned (later t)={ later t with epoch:=t.epoch+1,born:=t.now+1 }:=if_pos ⟨of_eq_true c1,of_eq_true c2⟩
   have h3:=h0.put (t':=turned (later t)) (pv':=.fz 1 (ints t.path)) (kv':=kds (later t).kids) (by rw [et];exact Sl.fz _ _) (by rw [et];exact Sl.fz _ _)
   obtain⟨pv',kv',Q',e,k1,k2,a3⟩:=z5z h3 bt (by omega) (.int .i64 0) (.int .i64 0) (.int .i64 0) (.int .i64 0) (.int .i64 0) (.int .i64 0) .nils (.int .i64 0) (.int .i64 0) (.int .i64 0) (.int .i64 0) (.int .i64 0) .nils
   refine⟨pv',kv',Q',?_,k1,k2,a0.trans (Ab.put.trans a3)⟩
   rw [← e,et]
   simp [zn,yu,zc,yn,ldQ,ldA,stA,splice,yd,h0.g,h0.k.one,h0.p.one,h0.l.one,z7 h0.k.one,z7 h0.p.one,z7 h0.l.one,hp.one,hk.one,co,w1,w2,w3,tm,pr,c1,c2,later]
  ·have et:turned (later t)=later t:=by
    unfold turned
    rw [if_neg (fun c=>of_eq_false c2 c.2),if_neg (fun c=>c.1 (of_eq_true c1))]
   have h3:=h0.put (t':=turned (later t)) (pv':=.fz 1 (ints t.path)) (kv':=kds (later t).kids) (by rw [et];exact Sl.fz _ _) (by rw [et];exact Sl.fz _ _)
   obtain⟨pv',kv',Q',e,k1,k2,a3⟩:=z5z h3 bt (by omega) (.int .i64 0) (.int .i64 0) (.int .i64 0) (.int .i64 0) (.int .i64 0) (.int .i64 0) .nils (.int .i64 0) (.int .i64 0) (.int .i64 0) (.int .i64 0) (.int .i64 0) .nils
   refine⟨pv',kv',Q',?_,k1,k2,a0.trans (Ab.put.trans a3)⟩
   rw [← e,et]
   simp [zn,yu,zc,yn,ldQ,ldA,stA,splice,yd,h0.g,h0.k.one,h0.p.one,h0.l.one,z7 h0.k.one,z7 h0.p.one,z7 h0.l.one,hp.one,hk.one,co,w1,w2,w3,tm,pr,c1,c2,later]
 ·by_cases c3:t.parent≠0∧¬ xP (later t)
  ·have et:turned (later t)=lets (later t) 0:=by
    unfold turned
    rw [if_neg (fun c=>of_eq_false c1 c.1),if_pos ⟨of_eq_false c1,c3⟩]
   have h3:=h0.put (t':=turned (later t)) (pv':=.nils) (kv':=kds (later t).kids) (by rw [et];exact Sl.nil 1) (by rw [et];exact Sl.fz _ _)
   obtain⟨pv',kv',Q',e,k1,k2,a3⟩:=z5z h3 bt (by omega) (.int .i64 0) (.int .i64 0) (.int .i64 0) (.int .i64 0) (.int .i64 0) (.int .i64 0) .nils (.int .i64 0) (.int .i64 0) (.int .i64 0) (.int .i64 0) (.int .i64 0) .nils
   refine⟨pv',kv',Q',?_,k1,k2,a0.trans (Ab.put.trans a3)⟩
   have c2:=eq_false c3.1
   have cl:=c3.2
   rw [← e,et]
   rw [decide_eq_false cl] at fr
   simp only [kds,later] at fr
   simp [zn,yu,zc,yn,ldQ,ldA,stA,splice,yd,h0.g,h0.k.one,h0.p.one,h0.l.one,z7 h0.k.one,z7 h0.p.one,z7 h0.l.one,hp.one,hk.one,co,w1,w2,w3,tm,pr,c1,c2,fr,le,later,lets]
  ·have et:turned (later t)=later t:=by
    unfold turned
    rw [if_neg (fun c=>of_eq_false c1 c.1),if_neg (fun c=>c3 c.2)]
   have h3:=h0.put (t':=turned (later t)) (pv':=.fz 1 (ints t.path)) (kv':=kds (later t).kids) (by rw [et];exact Sl.fz _ _) (by rw [et];exact Sl.fz _ _)
   obtain⟨pv',kv',Q',e,k1,k2,a3⟩:=z5z h3 bt (by omega) (.int .i64 0) (.int .i64 0) (.int .i64 0) (.int .i64 0) (.int .i64 0) (.int .i64 0) .nils (.int .i64 0) (.int .i64 0) (.int .i64 0) (.int .i64 0) (.int .i64 0) .nils
   refine⟨pv',kv',Q',?_,k1,k2,a0.trans (Ab.put.trans a3)⟩
   rw [← e,et]
   rcases em2 (t.parent=0) with c2 | c2
   ·simp [zn,yu,zc,yn,ldQ,ldA,stA,splice,yd,h0.g,h0.k.one,h0.p.one,h0.l.one,z7 h0.k.one,z7 h0.p.one,z7 h0.l.one,hp.one,hk.one,co,w1,w2,w3,tm,pr,c1,c2,later]
   ·have cl:xP (later t):=Decidable.byContradiction fun cl=>c3 ⟨of_eq_false c2,cl⟩
    rw [decide_eq_true cl] at fr
    simp only [kds,later] at fr
    simp [zn,yu,zc,yn,ldQ,ldA,stA,splice,yd,h0.g,h0.k.one,h0.p.one,h0.l.one,z7 h0.k.one,z7 h0.p.one,z7 h0.l.one,hp.one,hk.one,co,w1,w2,w3,tm,pr,c1,c2,fr,later]
end
end Go.Proofs.Ytdbbdfmkglgjdaa.Pi
