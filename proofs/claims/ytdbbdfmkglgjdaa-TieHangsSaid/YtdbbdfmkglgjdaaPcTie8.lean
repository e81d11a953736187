/- What a node's functions come to, on. -/
import Derived.Test.YtdbbdfmkglgjdaaPcTie4
set_option linter.unusedVariables false
set_option linter.unusedSimpArgs false
namespace Go.Proofs.Ytdbbdfmkglgjdaa.Pi
open Go.Ab Go.Feed Go.Kids Go.Tie
set_option maxRecDepth 100000
section
variable {Q:z3} {r:Nat} {t:Tie} {ms:List Msg} {pv kv tv:AV}
theorem za1 (h:Nd Q r t ms pv kv tv) {k:Nat} (hb:Bd t k) (hk:k≤40000) (m:Msg) {v:AV} (hv:Sl 1 (ints m.path) v):Run 51 [.ptr r 0,Mv m v] Q r ms (refuse t m,[]):=by
 have hw:=hb.step
 have w1:=w64 (i:=t.step+1) (by omega) (by omega)
 unfold refuse Run
 rw [Wi rfl]
 rcases em2 (m.frm=t.asked) with c1 | c1
 ·rw [if_pos (of_eq_true c1)]
  have h1:=h.put (t':={ t with asked:=0,step:=t.step+1 }) (pv':=pv) (kv':=kv) h.p h.k
  refine⟨_,_,tv,_,?_,h1.nil,Ab.put⟩
  simp [zA,ql,zn,qi,ldQ,ldA,stA,splice,xQ,h.g,h.k.one,h.p.one,h.l.one,ze h.k.one,ze h.p.one,ze h.l.one,hv.one,c1,w1]
 ·rw [if_neg (of_eq_false c1)]
  rcases em2 (m.frm=t.parent) with c2 | c2
  ·rw [if_pos (of_eq_true c2)]
   have le:=z6Q h 0
   have h1:=h.put (t':=lets t 0) (pv':=.nils) (kv':=kv) (Sl.nil 1) h.k
   refine⟨_,_,tv,_,?_,h1.nil,Ab.put⟩
   simp [zA,ql,zn,qi,ldQ,ldA,stA,splice,xQ,h.g,h.k.one,h.p.one,h.l.one,ze h.k.one,ze h.p.one,ze h.l.one,hv.one,c1,c2,le]
  ·rw [if_neg (of_eq_false c2)]
   refine⟨_,_,tv,_,?_,h.nil,Ab.refl _ _⟩
   simp [zA,ql,zn,qi,ldQ,ldA,stA,splice,xQ,h.g,h.k.one,h.p.one,h.l.one,ze h.k.one,ze h.p.one,ze h.l.one,hv.one,c1,c2]
theorem za2 (h:Nd Q r t ms pv kv tv) {k:Nat} (hb:Bd t k) (hk:k≤40000) (hm:ms.length≤40000) (m:Msg) {v:AV} (hv:Sl 1 (ints m.path) v):Run 52 [.ptr r 0,Mv m v] Q r ms (beatUp t m):=by
 have fi:=fun Q=>z6L (Q:=Q) h.k (by have:=hb.kids;omega) hb.ks m.frm
 simp only [wg] at fi
 unfold beatUp Run
 rw [Wk rfl]
 rcases Bool.eq_false_or_eq_true (x6 t.kids m.frm).isSome with c | c
 ·rw [if_pos c]
  rw [c] at fi
  have he:=z7B h hb (by omega) m hv
  have h1:=h.put (t':=hears t m) (pv':=pv) (kv':=kds (hears t m).kids) h.p (Sl.fz _ _)
  refine⟨_,_,tv,_,?_,h1.nil,Ab.put⟩
  simp [zA,ql,zn,qi,ldQ,ldA,stA,splice,xQ,h.g,h.k.one,h.p.one,h.l.one,ze h.k.one,ze h.p.one,ze h.l.one,hv.one,fi,he]
 ·rw [if_neg (by rw [c];decide)]
  rw [c] at fi
  obtain⟨tv',Q',e,h2,a2⟩:=Yp h hb (by omega) (by omega) 3 m.frm 0
  refine⟨_,_,tv',Q',?_,by simpa [X5] using h2,a2⟩
  simp [zA,ql,zn,qi,ldQ,ldA,stA,splice,xQ,h.g,h.k.one,h.p.one,h.l.one,ze h.k.one,ze h.p.one,ze h.l.one,hv.one,fi,e]
theorem za3 (h:Nd Q r t ms pv kv tv) {k:Nat} (hb:Bd t k) (hk:k≤40000) (hm:ms.length≤40000) {m:Msg} (hmb:Mb m) {v:AV} (hv:Sl 1 (ints m.path) v):Run 53 [.ptr r 0,Mv m v] Q r ms (beatDn t m):=by
 have hn:=hb.now
 have ha:=hmb.age
 have w2:=w64 (i:=t.now - m.age) (by omega) (by omega)
 have ad:=fun Q=>zc0 (Q:=Q) hv (by have:=hmb.path;omega) t.id
 unfold beatDn Run
 rw [Wm rfl]
 rcases em2 (m.frm=t.parent) with c1 | c1
 ·rw [if_neg (fun c=>c (of_eq_true c1))]
  generalize m.path++[t.id]=P at *
  by_cases c3:kj P
  ·simp only [if_pos c3] at ad
   rw [if_neg (fun c=>c c3)]
   have wy:=zc2 h m hv (by have:=hmb.path;omega) P
   unfold z0Y
   rcases em2 (t.born < t.now - m.age) with c4 | c4
   ·rw [if_pos (show (way t m P).born < (way t m P).now - m.age from of_eq_true c4)]
    have h3:=h.put (t':={ way t m P with born:=t.now - m.age,epoch:=m.epoch }) (pv':=.fz 1 (ints P)) (kv':=kv) (Sl.fz _ _) h.k
    refine⟨_,_,tv,_,?_,h3.nil,Ab.put⟩
    simp [zA,ql,zn,qi,ldQ,ldA,stA,splice,xQ,h.g,h.k.one,h.p.one,h.l.one,ze h.k.one,ze h.p.one,ze h.l.one,hv.one,c1,ad,wy,w2,c4,way]
   ·rw [if_neg (show ¬ (way t m P).born < (way t m P).now - m.age from of_eq_false c4)]
    have h3:=h.put (t':=way t m P) (pv':=.fz 1 (ints P)) (kv':=kv) (Sl.fz _ _) h.k
    refine⟨_,_,tv,_,?_,h3.nil,Ab.put⟩
    simp [zA,ql,zn,qi,ldQ,ldA,stA,splice,xQ,h.g,h.k.one,h.p.one,h.l.one,ze h.k.one,ze h.p.one,ze h.l.one,hv.one,c1,ad,wy,w2,c4,way]
  ·rw [if_pos c3]
   simp only [if_neg c3] at ad
   obtain⟨tv',Q',e,h2,a2⟩:=Yp h hb (by omega) (by omega) 6 m.frm 0
   have le:=z6Q h2 1
   have h3:=h2.put (t':=lets t 1) (pv':=.nils) (kv':=kv) (Sl.nil 1) h.k
   refine⟨_,_,tv',_,?_,by simpa [X5] using h3,a2.trans Ab.put⟩
   simp [zA,ql,zn,qi,ldQ,ldA,stA,splice,xQ,h.g,h.k.one,h.p.one,h.l.one,ze h.k.one,ze h.p.one,ze h.l.one,h2.g,h2.k.one,h2.p.one,h2.l.one,ze h2.k.one,ze h2.p.one,ze h2.l.one,hv.one,c1,ad,e,le]
 ·rw [if_pos (of_eq_false c1)]
  obtain⟨tv',Q',e,h2,a2⟩:=Yp h hb (by omega) (by omega) 6 m.frm 0
  refine⟨_,_,tv',Q',?_,by simpa [X5] using h2,a2⟩
  simp [zA,ql,zn,qi,ldQ,ldA,stA,splice,xQ,h.g,h.k.one,h.p.one,h.l.one,ze h.k.one,ze h.p.one,ze h.l.one,hv.one,c1,e]
end
end Go.Proofs.Ytdbbdfmkglgjdaa.Pi
/- What Tick, z4O, Leave come to. -/
namespace Go.Proofs.Ytdbbdfmkglgjdaa.Pi
open Go.Ab Go.Feed Go.Kids Go.Tie
set_option maxRecDepth 100000
theorem Nd.fin {Q r t ms pv kv tv} (h:Nd Q r t ms pv kv tv):∃ mv Q',z7d Q 10 tv=some (mv,Q')∧Sl 10 (ms.map Msg.v) mv∧Ab r Q Q':=by
 rcases h.l with ⟨rfl,rfl⟩ | ⟨q,h1,h2,rfl,h4⟩
 ·exact⟨.nils,Q,rfl,Sl.nil 10,Ab.refl _ _⟩
 ·have fl:=z1T ms
  have b1:Nat.beq (kJ (ms.map Msg.v)).length (ms.length * 10)=true:=by rw [fl];exact Nat.beq_refl _
  have b2:=z9Y ms
  refine⟨.fz 10 (ms.map Msg.v),Q.put q none,?_,Sl.fz _ _,⟨by simp,fun s hs=>by rw [z3.get_put,if_neg (by omega)]⟩⟩
  simp only [z7d,h4,b1,b2,Bool.and_true,Nat.beq_refl]
  rw [z6P]
def Ans (f:Nat) (args:List AV) (Q:z3) (g:Tie × List Msg):Prop :=
 ∃ pv kv Q',zc (z6 P1) f args Q=some (.tup [Tv g.1 pv kv,.fz 10 (g.2.map Msg.v)],Q')∧Sl 1 (ints g.1.path) pv∧Sl 3 (g.1.kids.map Kid.v) kv∧Ab Q.size Q Q'
@[simp] theorem zeq (b:Bool) (z:Nat) (l:List AV):rcv b (.f z) (.fz z l)=some (.fz z l):=by cases b<;>simp [rcv]
theorem zcv {z:Nat} {l:List AV} {v:AV} (h:Sl z l v):rcv false (.f z) v=some (.fz z l):=by
 rcases h with rfl | ⟨rfl,rfl⟩
 ·simp
 ·rfl
abbrev Mz (ms:List Msg):AV:=.fz 10 (ms.map Msg.v)
section
variable {Q:z3} {r:Nat} {t:Tie} {ms:List Msg} {pv kv tv:AV}
end
end Go.Proofs.Ytdbbdfmkglgjdaa.Pi
/- What z4O, Leave come to. -/
namespace Go.Proofs.Ytdbbdfmkglgjdaa.Pi
open Go.Ab Go.Feed Go.Kids Go.Tie
set_option maxRecDepth 100000
section
variable {Q:z3} {r:Nat} {t:Tie} {ms:List Msg} {pv kv tv:AV}
theorem Qd (h:Nd Q r t ms pv kv tv) (s0 s1 s2 s3 s4 s5 s6 s7 s8 s9 s10 s11 s12:AV):∃ Q',z5 (zc (z6 P1)) (zi (z6 P1)) wV [(6,.lp 6 0),(8,.v (.ptr r 0))] [(6,.cells [s0,s1,s2,s3,s4,s5,s6,s7,s8,s9,s10,s11,s12])] Q (zp [.cell 6 (some 13),.tmp 7] [.n,.f 10])=some (.tup [Tv t pv kv,.fz 10 (ms.map Msg.v)],Q')∧Ab r Q Q':=by
 obtain⟨mv,Q3,e3,sm,a3⟩:=h.fin
 refine⟨Q3,?_,a3⟩
 rw [z2R]
 simp [zA,ql,zn,qi,ldQ,ldA,stA,splice,xQ,h.g,h.k.one,h.p.one,h.l.one,ze h.k.one,ze h.p.one,ze h.l.one,e3,zcv sm]
def Com (Q:z3) (r:Nat) (m:Msg) (v:AV) (lo:Int) (g:Tie × List Msg):Prop :=
 ∃ pv kv Q',z5 (zc (z6 P1)) (zi (z6 P1)) wW [(2,.v (.int .i64 lo)),(4,.lp 4 0),(6,.lp 6 0),(8,.v (.ptr r 0))] [(4,.cells [.int .i64 m.kind,.int .i64 m.frm,.int .i64 m.to,.int .i64 m.inc,.int .i64 m.epoch,.int .i64 m.age,v,.int .i64 m.lo,.int .i64 m.hi,.str m.text]),(6,.cells [.int .i64 0,.int .i64 0,.int .i64 0,.int .i64 0,.int .i64 0,.int .i64 0,.nils,.int .i64 0,.int .i64 0,.int .i64 0,.int .i64 0,.int .i64 0,.nils])] Q (zp [.cell 6 (some 13),.tmp 7] [.n,.f 10]) =
  some (.tup [Tv g.1 pv kv,.fz 10 (g.2.map Msg.v)],Q')∧Sl 1 (ints g.1.path) pv∧Sl 3 (g.1.kids.map Kid.v) kv∧Ab r Q Q'
theorem z7C (h:Nd Q r t [] pv kv tv) {k:Nat} (hb:Bd t k) (hk:k≤30000) {m:Msg} (hmb:Mb m) {v:AV} (hv:Sl 1 (ints m.path) v) (lo:Int):Com Q r m v lo (comesK t m lo):=by
 unfold comesK Com
 rw [z2S]
 rcases em2 (m.kind=1) with c1 | c1
 ·rw [if_pos (of_eq_true c1)]
  obtain⟨pv',kv',tv',Q1,e,h1,a1⟩:=z9Z h hb (by omega) (by simp) m hv lo
  obtain⟨Q',e2,a2⟩:=Qd h1 (.int .i64 0) (.int .i64 0) (.int .i64 0) (.int .i64 0) (.int .i64 0) (.int .i64 0) .nils (.int .i64 0) (.int .i64 0) (.int .i64 0) (.int .i64 0) (.int .i64 0) .nils
  refine⟨pv',kv',Q',?_,h1.p,h1.k,a1.trans a2⟩
  rw [List.nil_append] at e2
  rw [← e2]
  simp [c1,e]
 rw [if_neg (of_eq_false c1)]
 rcases em2 (m.kind=2) with c2 | c2
 ·rw [if_pos (of_eq_true c2)]
  obtain⟨pv',kv',tv',Q1,e,h1,a1⟩:=za0 h hb (by omega) (by simp) hmb hv
  obtain⟨Q',e2,a2⟩:=Qd h1 (.int .i64 0) (.int .i64 0) (.int .i64 0) (.int .i64 0) (.int .i64 0) (.int .i64 0) .nils (.int .i64 0) (.int .i64 0) (.int .i64 0) (.int .i64 0) (.int .i64 0) .nils
  refine⟨pv',kv',Q',?_,h1.p,h1.k,a1.trans a2⟩
  rw [List.nil_append] at e2
  rw [← e2]
  simp [c1,c2,e]
 rw [if_neg (of_eq_false c2)]
 rcases em2 (m.kind=3) with c3 | c3
 ·rw [if_pos (of_eq_true c3)]
  obtain⟨pv',kv',tv',Q1,e,h1,a1⟩:=za1 h hb (by omega) m hv
  obtain⟨Q',e2,a2⟩:=Qd h1 (.int .i64 0) (.int .i64 0) (.int .i64 0) (.int .i64 0) (.int .i64 0) (.int .i64 0) .nils (.int .i64 0) (.int .i64 0) (.int .i64 0) (.int .i64 0) (.int .i64 0) .nils
  refine⟨pv',kv',Q',?_,h1.p,h1.k,a1.trans a2⟩
  rw [List.nil_append] at e2
  rw [← e2]
  simp [c1,c2,c3,e]
 rw [if_neg (of_eq_false c3)]
 rcases em2 (m.kind=4) with c4 | c4
 ·rw [if_pos (of_eq_true c4)]
  obtain⟨pv',kv',tv',Q1,e,h1,a1⟩:=za2 h hb (by omega) (by simp) m hv
  obtain⟨Q',e2,a2⟩:=Qd h1 (.int .i64 0) (.int .i64 0) (.int .i64 0) (.int .i64 0) (.int .i64 0) (.int .i64 0) .nils (.int .i64 0) (.int .i64 0) (.int .i64 0) (.int .i64 0) (.int .i64 0) .nils
  refine⟨pv',kv',Q',?_,h1.p,h1.k,a1.trans a2⟩
  rw [List.nil_append] at e2
  rw [← e2]
  simp [c1,c2,c3,c4,e]
 rw [if_neg (of_eq_false c4)]
 rcases em2 (m.kind=5) with c5 | c5
 ·rw [if_pos (of_eq_true c5)]
  obtain⟨pv',kv',tv',Q1,e,h1,a1⟩:=za3 h hb (by omega) (by simp) hmb hv
  obtain⟨Q',e2,a2⟩:=Qd h1 (.int .i64 0) (.int .i64 0) (.int .i64 0) (.int .i64 0) (.int .i64 0) (.int .i64 0) .nils (.int .i64 0) (.int .i64 0) (.int .i64 0) (.int .i64 0) (.int .i64 0) .nils
  refine⟨pv',kv',Q',?_,h1.p,h1.k,a1.trans a2⟩
  rw [List.nil_append] at e2
  rw [← e2]
  simp [c1,c2,c3,c4,c5,e]
 rw [if_neg (of_eq_false c5)]
 rcases em2 (m.kind=6) with c6 | c6
 ·rw [if_pos (of_eq_true c6)]
  have dr:=fun Q=>zcz (Q:=Q) h.k (by have:=hb.kids;omega) m.frm
  have h1:=h.put (t':=detach t m) (pv':=pv) (kv':=kds (detach t m).kids) h.p (Sl.fz _ _)
  obtain⟨Q',e2,a2⟩:=Qd h1 (.int .i64 0) (.int .i64 0) (.int .i64 0) (.int .i64 0) (.int .i64 0) (.int .i64 0) .nils (.int .i64 0) (.int .i64 0) (.int .i64 0) (.int .i64 0) (.int .i64 0) .nils
  refine⟨pv,kds (detach t m).kids,Q',?_,h1.p,h1.k,Ab.put.trans a2⟩
  rw [← e2]
  simp only [kds] at dr
  simp [zA,ql,zn,qi,ldQ,ldA,stA,splice,xQ,h.g,h.k.one,h.p.one,h.l.one,ze h.k.one,ze h.p.one,ze h.l.one,c1,c2,c3,c4,c5,c6,dr,detach]
 rw [if_neg (of_eq_false c6)]
 obtain⟨Q',e2,a2⟩:=Qd h (.int .i64 0) (.int .i64 0) (.int .i64 0) (.int .i64 0) (.int .i64 0) (.int .i64 0) .nils (.int .i64 0) (.int .i64 0) (.int .i64 0) (.int .i64 0) (.int .i64 0) .nils
 refine⟨pv,kv,Q',?_,h.p,h.k,a2⟩
 rw [← e2]
 simp [c1,c2,c3,c4,c5,c6]
theorem zbp (hp:Sl 1 (ints t.path) pv) (hk:Sl 3 (t.kids.map Kid.v) kv) {k:Nat} (hb:Bd t k) (hk':k≤20000) {m:Msg} (hmb:Mb m) {v:AV} (hv:Sl 1 (ints m.path) v) (lo:Int):Ans 22 [Tv t pv kv,Mv m v,.int .i64 lo] Q (comes t m lo):=by
 have co:=zh5 (Q:=Q) hp hk hb (by omega)
 have h0:=Nd.of (t:=t) (Q:=Q) rfl
 obtain⟨r,hr⟩:∃ r,Q.size=r:=⟨_,rfl⟩
 have a0:Ab r Q (Q.push (some (ND t (.fz 1 (ints t.path)) (kds t.kids) .nils))):=⟨by simp,fun s hs=>by rw [z3.get_push,if_neg (by omega)]⟩
 generalize Q.push (some (ND t (.fz 1 (ints t.path)) (kds t.kids) .nils))=Q0 at *
 rw [hr] at co h0
 have ol:∀ Q,zc (z6 P1) 48 [kds t.kids,.int .i64 m.frm,.int .i64 m.inc] Q=some (.bool (z2W t.kids m.frm m.inc),Q):=fun Q=>zbY (Sl.fz _ _) (by have:=hb.kids;omega) hb.ks m.frm m.inc
 simp only [kds] at ol
 have le:=z6Q h0 0
 have fin:Com Q0 r m v lo (comesK (gone t m) m lo)→¬ (t.parent≠0∧m.frm=t.parent∧t.pinc < m.inc)→Com Q0 r m v lo (comesK t m lo):=fun h c=>by
  have:gone t m=t:=if_neg c
  rw [this] at h;exact h
 unfold Ans comes
 rw [z5q rfl,hr]
 rcases Bool.eq_false_or_eq_true (z2W t.kids m.frm m.inc) with co1 | co1
 ·rw [if_pos (Or.inl co1)]
  rw [co1] at ol
  refine⟨_,_,_,?_,Sl.fz _ _,Sl.fz _ _,a0⟩
  simp [zA,ql,zn,qi,ldQ,ldA,stA,splice,xQ,h0.g,h0.k.one,h0.p.one,h0.l.one,ze h0.k.one,ze h0.p.one,ze h0.l.one,hp.one,hk.one,hv.one,co,ol]
 ·rw [co1] at ol
  by_cases co2:m.frm=t.parent∧m.inc < t.pinc
  ·rw [if_pos (Or.inr co2)]
   have c1:=eq_true co2.1
   have c2:=eq_true co2.2
   refine⟨_,_,_,?_,Sl.fz _ _,Sl.fz _ _,a0⟩
   simp [zA,ql,zn,qi,ldQ,ldA,stA,splice,xQ,h0.g,h0.k.one,h0.p.one,h0.l.one,ze h0.k.one,ze h0.p.one,ze h0.l.one,hp.one,hk.one,hv.one,co,ol,c1,c2]
  ·rw [if_neg (by rintro (c | c);rw [co1] at c;cases c;exact co2 c)]
   by_cases co3:t.parent≠0∧m.frm=t.parent∧t.pinc < m.inc
   ·have eg:gone t m=lets t 0:=if_pos co3
    rw [eg]
    have h1:=h0.put (t':=lets t 0) (pv':=.nils) (kv':=kds t.kids) (Sl.nil 1) (Sl.fz _ _)
    obtain⟨pv',kv',Q',e,k1,k2,a1⟩:=z7C h1 (hb.lets (by omega)) (by omega) hmb hv lo
    refine⟨pv',kv',Q',?_,k1,k2,a0.trans (Ab.put.trans a1)⟩
    have c1:=eq_false co3.1
    have c2:=eq_true co3.2.1
    have c3:=eq_true co3.2.2
    have c4:(m.inc < t.pinc)=False:=eq_false (by have:=co3.2.2;omega)
    rw [← e]
    simp [zA,ql,zn,qi,ldQ,ldA,stA,splice,xQ,h0.g,h0.k.one,h0.p.one,h0.l.one,ze h0.k.one,ze h0.p.one,ze h0.l.one,hp.one,hk.one,hv.one,co,ol,c1,c2,c3,c4,le]
   ·obtain⟨pv',kv',Q',e,k1,k2,a1⟩:=z7C h0 hb (by omega) hmb hv lo
    have eg:gone t m=t:=if_neg co3
    rw [eg]
    refine⟨pv',kv',Q',?_,k1,k2,a0.trans a1⟩
    rw [← e]
    rcases em2 (m.frm=t.parent) with c2 | c2
    ·have c4:(m.inc < t.pinc)=False:=eq_false fun c=>co2 ⟨of_eq_true c2,c⟩
     rcases em2 (t.parent=0) with c1 | c1
     ·simp [zA,ql,zn,qi,ldQ,ldA,stA,splice,xQ,h0.g,h0.k.one,h0.p.one,h0.l.one,ze h0.k.one,ze h0.p.one,ze h0.l.one,hp.one,hk.one,hv.one,co,ol,c1,c2,c4]
     ·have c3:(t.pinc < m.inc)=False:=eq_false fun c=>co3 ⟨of_eq_false c1,of_eq_true c2,c⟩
      simp [zA,ql,zn,qi,ldQ,ldA,stA,splice,xQ,h0.g,h0.k.one,h0.p.one,h0.l.one,ze h0.k.one,ze h0.p.one,ze h0.l.one,hp.one,hk.one,hv.one,co,ol,c1,c2,c3,c4]
    ·rcases em2 (t.parent=0) with c1 | c1
     ·simp [zA,ql,zn,qi,ldQ,ldA,stA,splice,xQ,h0.g,h0.k.one,h0.p.one,h0.l.one,ze h0.k.one,ze h0.p.one,ze h0.l.one,hp.one,hk.one,hv.one,co,ol,c1,c2]
     ·simp [zA,ql,zn,qi,ldQ,ldA,stA,splice,xQ,h0.g,h0.k.one,h0.p.one,h0.l.one,ze h0.k.one,ze h0.p.one,ze h0.l.one,hp.one,hk.one,hv.one,co,ol,c1,c2]
end
end Go.Proofs.Ytdbbdfmkglgjdaa.Pi
/- What Leave, New come to. -/
namespace Go.Proofs.Ytdbbdfmkglgjdaa.Pi
open Go.Ab Go.Feed Go.Kids Go.Tie
set_option maxRecDepth 100000
section
variable {Q:z3} {r:Nat} {t:Tie} {ms:List Msg} {pv kv tv:AV}
theorem zer (id inc now g:Int):∃ pv,Sl 1 (ints (New id inc now g).path) pv∧zc (z6 P1) 15 [.int .i64 id,.int .i64 inc,.int .i64 now,.int .i64 g] Q=some (Tv (New id inc now g) pv .nils,Q):=by
 unfold New
 rw [W8 rfl]
 by_cases c:id=1
 ·rw [if_pos c]
  exact⟨.fz 1 (ints [1]),Sl.fz _ _,by simp [c,ZD]⟩
 ·rw [if_neg c]
  exact⟨.nils,Sl.nil 1,by simp [c,ZD]⟩
theorem za4 (id inc now g:Int):(New id inc now g).kids=[]:=by unfold New;split<;>rfl
end
end Go.Proofs.Ytdbbdfmkglgjdaa.Pi
