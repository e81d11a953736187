/- What Tick, z3e, Leave come to. -/
import Derived.Test.YtdbbdfmkglgjdaaPcTie5
set_option linter.unusedVariables false
set_option linter.unusedSimpArgs false
namespace Go.Proofs.Ytdbbdfmkglgjdaa.Pi
open Go.Ab Go.Feed Go.Kids Go.Tie
set_option maxRecDepth 100000
theorem Nd.fin {Q r t ms pv kv tv} (h:Nd Q r t ms pv kv tv):∃ mv Q',z44 Q 10 tv=some (mv,Q')∧Sl 10 (ms.map Msg.v) mv∧Ab r Q Q':=by
 rcases h.l with ⟨rfl,rfl⟩ | ⟨q,h1,h2,rfl,h4⟩
 ·exact⟨.nils,Q,rfl,Sl.nil 10,Ab.refl _ _⟩
 ·have fl:=z0f ms
  have b1:Nat.beq (ka (ms.map Msg.v)).length (ms.length * 10)=true:=by rw [fl];exact Nat.beq_refl _
  have b2:=z8k ms
  refine⟨.fz 10 (ms.map Msg.v),Q.put q none,?_,Sl.fz _ _,⟨by simp,fun s hs=>by rw [z3.get_put,if_neg (by omega)]⟩⟩
  simp only [z44,h4,b1,b2,Bool.and_true,Nat.beq_refl]
  rw [z5a]
def Ans (f:Nat) (args:List AV) (Q:z3) (g:Tie × List Msg):Prop :=
 ∃ pv kv Q',zd (z8 P1) f args Q=some (.tup [Tv g.1 pv kv,.fz 10 (g.2.map Msg.v)],Q')∧Sl 1 (ints g.1.path) pv∧Sl 3 (g.1.kids.map Kid.v) kv∧Ab Q.size Q Q'
@[simp] theorem zcP (b:Bool) (z:Nat) (l:List AV):rcv b (.f z) (.fz z l)=some (.fz z l):=by cases b<;>simp [rcv]
theorem z8r {z:Nat} {l:List AV} {v:AV} (h:Sl z l v):rcv false (.f z) v=some (.fz z l):=by
 rcases h with rfl | ⟨rfl,rfl⟩
 ·simp
 ·rfl
abbrev Mz (ms:List Msg):AV:=.fz 10 (ms.map Msg.v)
section
variable {Q:z3} {r:Nat} {t:Tie} {ms:List Msg} {pv kv tv:AV}
theorem z2t (h:Nd Q r t [] pv kv tv) {k:Nat} (hb:Bd t k) (hk:k≤30000) (s0 s1 s2 s3 s4 s5 s6 s7 s8 s9 s10 s11 s12:AV):∃ pv' kv' Q',z5 (zd (z8 P1)) (zj (z8 P1)) Z2 [(2,.lp 2 0),(4,.v (.ptr r 0))] [(2,.cells [s0,s1,s2,s3,s4,s5,s6,s7,s8,s9,s10,s11,s12])] Q (zu [.cell 2 (some 13),.tmp 3] [.n,.f 10])=some (.tup [Tv (asks t).1 pv' kv',.fz 10 (((asks t).2++beats (asks t).1).map Msg.v)],Q')∧Sl 1 (ints (asks t).1.path) pv'∧Sl 3 ((asks t).1.kids.map Kid.v) kv'∧Ab r Q Q':=by
 obtain⟨tv1,Q1,e1,h1,a1⟩:=zaN h hb (by omega) (by simp)
 have hl:([]++(asks t).2).length≤40000:=by
  unfold asks;split
  ·simp
  ·split<;>simp
 obtain⟨tv2,Q2,e2,h2,a2⟩:=z9K h1 hb.asks (by omega) hl
 obtain⟨mv,Q3,e3,sm,a3⟩:=h2.fin
 refine⟨pv,kv,Q3,?_,h2.p,h2.k,(a1.trans a2).trans a3⟩
 rw [List.nil_append] at sm
 rw [z2I]
 simp [zn,yB,z9,yy,ldQ,ldA,stA,splice,yk,h2.g,h2.k.one,h2.p.one,h2.l.one,z6 h2.k.one,z6 h2.p.one,z6 h2.l.one,e1,e2,e3,z8r sm]
theorem zaQ (hp:Sl 1 (ints t.path) pv) (hk:Sl 3 (t.kids.map Kid.v) kv) {k:Nat} (hb:Bd t k) (hk':k≤20000):Ans 18 [Tv t pv kv] Q (tick t):=by
 have hn:=hb.now
 have he:=hb.epoch
 have co:=zcM (Q:=Q) hp hk hb (by omega)
 have h0:=Nd.of (t:=t) (Q:=Q) rfl
 obtain⟨r,hr⟩:∃ r,Q.size=r:=⟨_,rfl⟩
 have a0:Ab r Q (Q.push (some (ND t (.fz 1 (ints t.path)) (kds t.kids) .nils))):=⟨by simp,fun s hs=>by rw [z3.get_push,if_neg (by omega)]⟩
 generalize Q.push (some (ND t (.fz 1 (ints t.path)) (kds t.kids) .nils))=Q0 at *
 unfold Ans
 rw [hr] at co h0 ⊢
 have w1:=w64 (i:=t.now+1) (by omega) (by omega)
 have w2:=w64 (i:=t.epoch+1) (by omega) (by omega)
 have tm:(t.now+1).tmod 2=(t.now+1) % 2:=Int.tmod_eq_emod_of_nonneg (by omega)
 have w3:=w64 (i:=(t.now+1) % 2) (by omega) (by omega)
 have pr:=fun Q=>z9H (Q:=Q) (Sl.fz 3 (t.kids.map Kid.v)) (by have:=hb.kids;omega) (now:=t.now+1) (by omega) (fun x hx=>by have:=hb.heard x hx;omega)
 have bl:Bd (later t) (k+1):=hb.later
 have h1:=h0.put (t':=later t) (pv':=.fz 1 (ints t.path)) (kv':=kds (later t).kids) (Sl.fz _ _) (Sl.fz _ _)
 have fr:=WV (Q:=Q0.put r (some (ND (later t) (.fz 1 (ints t.path)) (kds (later t).kids) .nils))) h1.p h1.k bl (by omega)
 have le:=z2s h1 0
 have bt:Bd (turned (later t)) (k+2):=bl.turned
 simp only [kds,later] at pr le
 rw [z5j rfl]
 unfold tick
 rcases em2 (t.id=1) with c1 | c1
 ·rcases em2 ((t.now+1) % 2=0) with c2 | c2
  ·have et:turned (later t)={ later t with epoch:=t.epoch+1,born:=t.now+1 }:=if_pos ⟨of_eq_true c1,of_eq_true c2⟩
   have h3:=h0.put (t':=turned (later t)) (pv':=.fz 1 (ints t.path)) (kv':=kds (later t).kids) (by rw [et];exact Sl.fz _ _) (by rw [et];exact Sl.fz _ _)
   obtain⟨pv',kv',Q',e,k1,k2,a3⟩:=z2t h3 bt (by omega) (.int .i64 0) (.int .i64 0) (.int .i64 0) (.int .i64 0) (.int .i64 0) (.int .i64 0) .nils (.int .i64 0) (.int .i64 0) (.int .i64 0) (.int .i64 0) (.int .i64 0) .nils
   refine⟨pv',kv',Q',?_,k1,k2,a0.trans (Ab.put.trans a3)⟩
   rw [← e,et]
   simp [zn,yB,z9,yy,ldQ,ldA,stA,splice,yk,h0.g,h0.k.one,h0.p.one,h0.l.one,z6 h0.k.one,z6 h0.p.one,z6 h0.l.one,hp.one,hk.one,co,w1,w2,w3,tm,pr,c1,c2,later]
  ·have et:turned (later t)=later t:=by
    unfold turned
    rw [if_neg (fun c=>of_eq_false c2 c.2),if_neg (fun c=>c.1 (of_eq_true c1))]
   have h3:=h0.put (t':=turned (later t)) (pv':=.fz 1 (ints t.path)) (kv':=kds (later t).kids) (by rw [et];exact Sl.fz _ _) (by rw [et];exact Sl.fz _ _)
   obtain⟨pv',kv',Q',e,k1,k2,a3⟩:=z2t h3 bt (by omega) (.int .i64 0) (.int .i64 0) (.int .i64 0) (.int .i64 0) (.int .i64 0) (.int .i64 0) .nils (.int .i64 0) (.int .i64 0) (.int .i64 0) (.int .i64 0) (.int .i64 0) .nils
   refine⟨pv',kv',Q',?_,k1,k2,a0.trans (Ab.put.trans a3)⟩
   rw [← e,et]
   simp [zn,yB,z9,yy,ldQ,ldA,stA,splice,yk,h0.g,h0.k.one,h0.p.one,h0.l.one,z6 h0.k.one,z6 h0.p.one,z6 h0.l.one,hp.one,hk.one,co,w1,w2,w3,tm,pr,c1,c2,later]
 ·by_cases c3:t.parent≠0∧¬ qv (later t)
  ·have et:turned (later t)=lets (later t) 0:=by
    unfold turned
    rw [if_neg (fun c=>of_eq_false c1 c.1),if_pos ⟨of_eq_false c1,c3⟩]
   have h3:=h0.put (t':=turned (later t)) (pv':=.nils) (kv':=kds (later t).kids) (by rw [et];exact Sl.nil 1) (by rw [et];exact Sl.fz _ _)
   obtain⟨pv',kv',Q',e,k1,k2,a3⟩:=z2t h3 bt (by omega) (.int .i64 0) (.int .i64 0) (.int .i64 0) (.int .i64 0) (.int .i64 0) (.int .i64 0) .nils (.int .i64 0) (.int .i64 0) (.int .i64 0) (.int .i64 0) (.int .i64 0) .nils
   refine⟨pv',kv',Q',?_,k1,k2,a0.trans (Ab.put.trans a3)⟩
   have c2:=eq_false c3.1
   have cl:=c3.2
   rw [← e,et]
   rw [decide_eq_false cl] at fr
   simp only [kds,later] at fr
   simp [zn,yB,z9,yy,ldQ,ldA,stA,splice,yk,h0.g,h0.k.one,h0.p.one,h0.l.one,z6 h0.k.one,z6 h0.p.one,z6 h0.l.one,hp.one,hk.one,co,w1,w2,w3,tm,pr,c1,c2,fr,le,later,lets]
  ·have et:turned (later t)=later t:=by
    unfold turned
    rw [if_neg (fun c=>of_eq_false c1 c.1),if_neg (fun c=>c3 c.2)]
   have h3:=h0.put (t':=turned (later t)) (pv':=.fz 1 (ints t.path)) (kv':=kds (later t).kids) (by rw [et];exact Sl.fz _ _) (by rw [et];exact Sl.fz _ _)
   obtain⟨pv',kv',Q',e,k1,k2,a3⟩:=z2t h3 bt (by omega) (.int .i64 0) (.int .i64 0) (.int .i64 0) (.int .i64 0) (.int .i64 0) (.int .i64 0) .nils (.int .i64 0) (.int .i64 0) (.int .i64 0) (.int .i64 0) (.int .i64 0) .nils
   refine⟨pv',kv',Q',?_,k1,k2,a0.trans (Ab.put.trans a3)⟩
   rw [← e,et]
   rcases em2 (t.parent=0) with c2 | c2
   ·simp [zn,yB,z9,yy,ldQ,ldA,stA,splice,yk,h0.g,h0.k.one,h0.p.one,h0.l.one,z6 h0.k.one,z6 h0.p.one,z6 h0.l.one,hp.one,hk.one,co,w1,w2,w3,tm,pr,c1,c2,later]
   ·have cl:qv (later t):=Decidable.byContradiction fun cl=>c3 ⟨of_eq_false c2,cl⟩
    rw [decide_eq_true cl] at fr
    simp only [kds,later] at fr
    simp [zn,yB,z9,yy,ldQ,ldA,stA,splice,yk,h0.g,h0.k.one,h0.p.one,h0.l.one,z6 h0.k.one,z6 h0.p.one,z6 h0.l.one,hp.one,hk.one,co,w1,w2,w3,tm,pr,c1,c2,fr,later]
end
end Go.Proofs.Ytdbbdfmkglgjdaa.Pi
/- What z3e, Leave come to. -/
namespace Go.Proofs.Ytdbbdfmkglgjdaa.Pi
open Go.Ab Go.Feed Go.Kids Go.Tie
set_option maxRecDepth 100000
section
variable {Q:z3} {r:Nat} {t:Tie} {ms:List Msg} {pv kv tv:AV}
theorem Xd (h:Nd Q r t ms pv kv tv) (s0 s1 s2 s3 s4 s5 s6 s7 s8 s9 s10 s11 s12:AV):∃ Q',z5 (zd (z8 P1)) (zj (z8 P1)) wc [(6,.lp 6 0),(8,.v (.ptr r 0))] [(6,.cells [s0,s1,s2,s3,s4,s5,s6,s7,s8,s9,s10,s11,s12])] Q (zu [.cell 6 (some 13),.tmp 7] [.n,.f 10])=some (.tup [Tv t pv kv,.fz 10 (ms.map Msg.v)],Q')∧Ab r Q Q':=by
 obtain⟨mv,Q3,e3,sm,a3⟩:=h.fin
 refine⟨Q3,?_,a3⟩
 rw [z1d]
 simp [zn,yB,z9,yy,ldQ,ldA,stA,splice,yk,h.g,h.k.one,h.p.one,h.l.one,z6 h.k.one,z6 h.p.one,z6 h.l.one,e3,z8r sm]
def Com (Q:z3) (r:Nat) (m:Msg) (v:AV) (lo:Int) (g:Tie × List Msg):Prop :=
 ∃ pv kv Q',z5 (zd (z8 P1)) (zj (z8 P1)) wd [(2,.v (.int .i64 lo)),(4,.lp 4 0),(6,.lp 6 0),(8,.v (.ptr r 0))] [(4,.cells [.int .i64 m.kind,.int .i64 m.frm,.int .i64 m.to,.int .i64 m.inc,.int .i64 m.epoch,.int .i64 m.age,v,.int .i64 m.lo,.int .i64 m.hi,.str m.text]),(6,.cells [.int .i64 0,.int .i64 0,.int .i64 0,.int .i64 0,.int .i64 0,.int .i64 0,.nils,.int .i64 0,.int .i64 0,.int .i64 0,.int .i64 0,.int .i64 0,.nils])] Q (zu [.cell 6 (some 13),.tmp 7] [.n,.f 10]) =
  some (.tup [Tv g.1 pv kv,.fz 10 (g.2.map Msg.v)],Q')∧Sl 1 (ints g.1.path) pv∧Sl 3 (g.1.kids.map Kid.v) kv∧Ab r Q Q'
theorem z5T (h:Nd Q r t [] pv kv tv) {k:Nat} (hb:Bd t k) (hk:k≤30000) {m:Msg} (hmb:Mb m) {v:AV} (hv:Sl 1 (ints m.path) v) (lo:Int):Com Q r m v lo (comesK t m lo):=by
 unfold comesK Com
 rw [z1e]
 rcases em2 (m.kind=1) with c1 | c1
 ·rw [if_pos (of_eq_true c1)]
  obtain⟨pv',kv',tv',Q1,e,h1,a1⟩:=z8m h hb (by omega) (by simp) m hv lo
  obtain⟨Q',e2,a2⟩:=Xd h1 (.int .i64 0) (.int .i64 0) (.int .i64 0) (.int .i64 0) (.int .i64 0) (.int .i64 0) .nils (.int .i64 0) (.int .i64 0) (.int .i64 0) (.int .i64 0) (.int .i64 0) .nils
  refine⟨pv',kv',Q',?_,h1.p,h1.k,a1.trans a2⟩
  rw [List.nil_append] at e2
  rw [← e2]
  simp [c1,e]
 rw [if_neg (of_eq_false c1)]
 rcases em2 (m.kind=2) with c2 | c2
 ·rw [if_pos (of_eq_true c2)]
  obtain⟨pv',kv',tv',Q1,e,h1,a1⟩:=z8n h hb (by omega) (by simp) hmb hv
  obtain⟨Q',e2,a2⟩:=Xd h1 (.int .i64 0) (.int .i64 0) (.int .i64 0) (.int .i64 0) (.int .i64 0) (.int .i64 0) .nils (.int .i64 0) (.int .i64 0) (.int .i64 0) (.int .i64 0) (.int .i64 0) .nils
  refine⟨pv',kv',Q',?_,h1.p,h1.k,a1.trans a2⟩
  rw [List.nil_append] at e2
  rw [← e2]
  simp [c1,c2,e]
 rw [if_neg (of_eq_false c2)]
 rcases em2 (m.kind=3) with c3 | c3
 ·rw [if_pos (of_eq_true c3)]
  obtain⟨pv',kv',tv',Q1,e,h1,a1⟩:=z8o h hb (by omega) m hv
  obtain⟨Q',e2,a2⟩:=Xd h1 (.int .i64 0) (.int .i64 0) (.int .i64 0) (.int .i64 0) (.int .i64 0) (.int .i64 0) .nils (.int .i64 0) (.int .i64 0) (.int .i64 0) (.int .i64 0) (.int .i64 0) .nils
  refine⟨pv',kv',Q',?_,h1.p,h1.k,a1.trans a2⟩
  rw [List.nil_append] at e2
  rw [← e2]
  simp [c1,c2,c3,e]
 rw [if_neg (of_eq_false c3)]
 rcases em2 (m.kind=4) with c4 | c4
 ·rw [if_pos (of_eq_true c4)]
  obtain⟨pv',kv',tv',Q1,e,h1,a1⟩:=z8p h hb (by omega) (by simp) m hv
  obtain⟨Q',e2,a2⟩:=Xd h1 (.int .i64 0) (.int .i64 0) (.int .i64 0) (.int .i64 0) (.int .i64 0) (.int .i64 0) .nils (.int .i64 0) (.int .i64 0) (.int .i64 0) (.int .i64 0) (.int .i64 0) .nils
  refine⟨pv',kv',Q',?_,h1.p,h1.k,a1.trans a2⟩
  rw [List.nil_append] at e2
  rw [← e2]
  simp [c1,c2,c3,c4,e]
 rw [if_neg (of_eq_false c4)]
 rcases em2 (m.kind=5) with c5 | c5
 ·rw [if_pos (of_eq_true c5)]
  obtain⟨pv',kv',tv',Q1,e,h1,a1⟩:=z8q h hb (by omega) (by simp) hmb hv
  obtain⟨Q',e2,a2⟩:=Xd h1 (.int .i64 0) (.int .i64 0) (.int .i64 0) (.int .i64 0) (.int .i64 0) (.int .i64 0) .nils (.int .i64 0) (.int .i64 0) (.int .i64 0) (.int .i64 0) (.int .i64 0) .nils
  refine⟨pv',kv',Q',?_,h1.p,h1.k,a1.trans a2⟩
  rw [List.nil_append] at e2
  rw [← e2]
  simp [c1,c2,c3,c4,c5,e]
 rw [if_neg (of_eq_false c5)]
 rcases em2 (m.kind=6) with c6 | c6
 ·rw [if_pos (of_eq_true c6)]
  have dr:=fun Q=>zaE (Q:=Q) h.k (by have:=hb.kids;omega) m.frm
  have h1:=h.put (t':=detach t m) (pv':=pv) (kv':=kds (detach t m).kids) h.p (Sl.fz _ _)
  obtain⟨Q',e2,a2⟩:=Xd h1 (.int .i64 0) (.int .i64 0) (.int .i64 0) (.int .i64 0) (.int .i64 0) (.int .i64 0) .nils (.int .i64 0) (.int .i64 0) (.int .i64 0) (.int .i64 0) (.int .i64 0) .nils
  refine⟨pv,kds (detach t m).kids,Q',?_,h1.p,h1.k,Ab.put.trans a2⟩
  rw [← e2]
  simp only [kds] at dr
  simp [zn,yB,z9,yy,ldQ,ldA,stA,splice,yk,h.g,h.k.one,h.p.one,h.l.one,z6 h.k.one,z6 h.p.one,z6 h.l.one,c1,c2,c3,c4,c5,c6,dr,detach]
 rw [if_neg (of_eq_false c6)]
 obtain⟨Q',e2,a2⟩:=Xd h (.int .i64 0) (.int .i64 0) (.int .i64 0) (.int .i64 0) (.int .i64 0) (.int .i64 0) .nils (.int .i64 0) (.int .i64 0) (.int .i64 0) (.int .i64 0) (.int .i64 0) .nils
 refine⟨pv,kv,Q',?_,h.p,h.k,a2⟩
 rw [← e2]
 simp [c1,c2,c3,c4,c5,c6]
theorem z9L (hp:Sl 1 (ints t.path) pv) (hk:Sl 3 (t.kids.map Kid.v) kv) {k:Nat} (hb:Bd t k) (hk':k≤20000) {m:Msg} (hmb:Mb m) {v:AV} (hv:Sl 1 (ints m.path) v) (lo:Int):Ans 22 [Tv t pv kv,Mv m v,.int .i64 lo] Q (comes t m lo):=by
 have co:=zcM (Q:=Q) hp hk hb (by omega)
 have h0:=Nd.of (t:=t) (Q:=Q) rfl
 obtain⟨r,hr⟩:∃ r,Q.size=r:=⟨_,rfl⟩
 have a0:Ab r Q (Q.push (some (ND t (.fz 1 (ints t.path)) (kds t.kids) .nils))):=⟨by simp,fun s hs=>by rw [z3.get_push,if_neg (by omega)]⟩
 generalize Q.push (some (ND t (.fz 1 (ints t.path)) (kds t.kids) .nils))=Q0 at *
 rw [hr] at co h0
 have ol:∀ Q,zd (z8 P1) 48 [kds t.kids,.int .i64 m.frm,.int .i64 m.inc] Q=some (.bool (zaY t.kids m.frm m.inc),Q):=fun Q=>zag (Sl.fz _ _) (by have:=hb.kids;omega) hb.ks m.frm m.inc
 simp only [kds] at ol
 have le:=z2s h0 0
 have fin:Com Q0 r m v lo (comesK (gone t m) m lo)→¬ (t.parent≠0∧m.frm=t.parent∧t.pinc < m.inc)→Com Q0 r m v lo (comesK t m lo):=fun h c=>by
  have:gone t m=t:=if_neg c
  rw [this] at h;exact h
 unfold Ans comes
 rw [z3N rfl,hr]
 rcases Bool.eq_false_or_eq_true (zaY t.kids m.frm m.inc) with co1 | co1
 ·rw [if_pos (Or.inl co1)]
  rw [co1] at ol
  refine⟨_,_,_,?_,Sl.fz _ _,Sl.fz _ _,a0⟩
  simp [zn,yB,z9,yy,ldQ,ldA,stA,splice,yk,h0.g,h0.k.one,h0.p.one,h0.l.one,z6 h0.k.one,z6 h0.p.one,z6 h0.l.one,hp.one,hk.one,hv.one,co,ol]
 ·rw [co1] at ol
  by_cases co2:m.frm=t.parent∧m.inc < t.pinc
  ·rw [if_pos (Or.inr co2)]
   have c1:=eq_true co2.1
   have c2:=eq_true co2.2
   refine⟨_,_,_,?_,Sl.fz _ _,Sl.fz _ _,a0⟩
   simp [zn,yB,z9,yy,ldQ,ldA,stA,splice,yk,h0.g,h0.k.one,h0.p.one,h0.l.one,z6 h0.k.one,z6 h0.p.one,z6 h0.l.one,hp.one,hk.one,hv.one,co,ol,c1,c2]
  ·rw [if_neg (by rintro (c | c);rw [co1] at c;cases c;exact co2 c)]
   by_cases co3:t.parent≠0∧m.frm=t.parent∧t.pinc < m.inc
   ·have eg:gone t m=lets t 0:=if_pos co3
    rw [eg]
    have h1:=h0.put (t':=lets t 0) (pv':=.nils) (kv':=kds t.kids) (Sl.nil 1) (Sl.fz _ _)
    obtain⟨pv',kv',Q',e,k1,k2,a1⟩:=z5T h1 (hb.lets (by omega)) (by omega) hmb hv lo
    refine⟨pv',kv',Q',?_,k1,k2,a0.trans (Ab.put.trans a1)⟩
    have c1:=eq_false co3.1
    have c2:=eq_true co3.2.1
    have c3:=eq_true co3.2.2
    have c4:(m.inc < t.pinc)=False:=eq_false (by have:=co3.2.2;omega)
    rw [← e]
    simp [zn,yB,z9,yy,ldQ,ldA,stA,splice,yk,h0.g,h0.k.one,h0.p.one,h0.l.one,z6 h0.k.one,z6 h0.p.one,z6 h0.l.one,hp.one,hk.one,hv.one,co,ol,c1,c2,c3,c4,le]
   ·obtain⟨pv',kv',Q',e,k1,k2,a1⟩:=z5T h0 hb (by omega) hmb hv lo
    have eg:gone t m=t:=if_neg co3
    rw [eg]
    refine⟨pv',kv',Q',?_,k1,k2,a0.trans a1⟩
    rw [← e]
    rcases em2 (m.frm=t.parent) with c2 | c2
    ·have c4:(m.inc < t.pinc)=False:=eq_false fun c=>co2 ⟨of_eq_true c2,c⟩
     rcases em2 (t.parent=0) with c1 | c1
     ·simp [zn,yB,z9,yy,ldQ,ldA,stA,splice,yk,h0.g,h0.k.one,h0.p.one,h0.l.one,z6 h0.k.one,z6 h0.p.one,z6 h0.l.one,hp.one,hk.one,hv.one,co,ol,c1,c2,c4]
     ·have c3:(t.pinc < m.inc)=False:=eq_false fun c=>co3 ⟨of_eq_false c1,of_eq_true c2,c⟩
      simp [zn,yB,z9,yy,ldQ,ldA,stA,splice,yk,h0.g,h0.k.one,h0.p.one,h0.l.one,z6 h0.k.one,z6 h0.p.one,z6 h0.l.one,hp.one,hk.one,hv.one,co,ol,c1,c2,c3,c4]
    ·rcases em2 (t.parent=0) with c1 | c1
     ·simp [zn,yB,z9,yy,ldQ,ldA,stA,splice,yk,h0.g,h0.k.one,h0.p.one,h0.l.one,z6 h0.k.one,z6 h0.p.one,z6 h0.l.one,hp.one,hk.one,hv.one,co,ol,c1,c2]
     ·simp [zn,yB,z9,yy,ldQ,ldA,stA,splice,yk,h0.g,h0.k.one,h0.p.one,h0.l.one,z6 h0.k.one,z6 h0.p.one,z6 h0.l.one,hp.one,hk.one,hv.one,co,ol,c1,c2]
end
end Go.Proofs.Ytdbbdfmkglgjdaa.Pi
