/- A node that is made of choices. -/
import Derived.Test.YtdbbdfmkglgjdaaPcTieE
import Derived.Test.YtdbbdfmkglgjdaaPmTieP
set_option linter.unusedVariables false
set_option linter.unusedSimpArgs false
namespace Go.Proofs.Ytdbbdfmkglgjdaa.Pi
open Go.Ab Go.Feed Go.Kids Go.Tie
set_option maxRecDepth 100000
structure Mt (id:Int) (k:Nat) (t:Tie) (pv kv:AV):Prop where
 id:t.id=id
 pt:Pt 3 t
 bd:Bd t k
 p:Sl 1 (ints t.path) pv
 k:Sl 3 (t.kids.map Kid.v) kv
section
variable {p:Nat} {L:List Int}
theorem za6 (hL:Ps L) {id:Int} (hid:1≤id∧id≤8):∀ (m i:Nat) (t:Tie) (pv kv:AV) (Q:z3),i+m=40→Mt id (100+100 * i) t pv kv→Pq Q p L →
  ∃ t' pv' kv' Q',xp P1 (.ptr p 0) (.int .i64 id) (.int .i64 40) (.int .i64 i) (.int .i64 0) (.int .i64 0) (.int .i64 0) (.int .i64 0) (.int .i64 0) (.int .i64 0) .nils (.int .i64 0) (.int .i64 0) (.int .i64 0) (.int .i64 0) (.int .i64 0) .nils (.int .i64 t.id) (.int .i64 t.inc) (.int .i64 t.now) (.int .i64 t.parent) (.int .i64 t.pinc) (.int .i64 t.grand) pv (.int .i64 t.epoch) (.int .i64 t.born) (.int .i64 t.asked) (.int .i64 t.till) (.int .i64 t.step) kv Q=jN (.int .i64 0) (.int .i64 0) (.int .i64 0) (.int .i64 0) (.int .i64 0) (.int .i64 0) .nils (.int .i64 0) (.int .i64 0) (.int .i64 0) (.int .i64 0) (.int .i64 0) .nils (.int .i64 (t').id) (.int .i64 (t').inc) (.int .i64 (t').now) (.int .i64 (t').parent) (.int .i64 (t').pinc) (.int .i64 (t').grand) pv' (.int .i64 (t').epoch) (.int .i64 (t').born) (.int .i64 (t').asked) (.int .i64 (t').till) (.int .i64 (t').step) kv' Q'∧Mt id 5000 t' pv' kv'∧Pq Q' p L:=by
 intro m
 induction m with
 | zero =>
  intro i t pv kv Q hi hM hq
  obtain rfl:i=40:=by omega
  refine⟨t,pv,kv,Q,?_,⟨hM.id,hM.pt,hM.bd.weaken (by omega),hM.p,hM.k⟩,hq⟩
  rw [xO,qU]
  simp
 | succ m ih =>
  intro i t pv kv Q hi hM hq
  have c1:((i:Int) < 40)=True:=eq_true (by omega)
  have wi:=w64 (i:=(i:Int)+1) (by omega) (by omega)
  obtain⟨b,eo⟩:=zcA hq hL
  cases b with
  | true =>
   refine⟨t,pv,kv,Q,?_,⟨hM.id,hM.pt,hM.bd.weaken (by omega),hM.p,hM.k⟩,hq⟩
   rw [xO,qU]
   simp [c1,eo]
  | false =>
   obtain⟨v,Q1,ev,hv,hq1⟩:=jQ hq hL (m:=4) (by omega)
   rw [xO,qU]
   have come:∀ (w:Msg) (wv:AV) (Q:z3),Mb w→w.frm≠0→w.inc≤3→Sl 1 (ints w.path) wv→Pq Q p L→∃ x pv2 kv2,zc (z6 P1) 23 [Tv t pv kv,Mv w wv,.int .i64 1] Q=some (.tup [Tv x pv2 kv2,Mz (comes t w 1).2],Q)∧Sl 1 (ints x.path) pv2∧Sl 3 (x.kids.map Kid.v) kv2 ∧
     ∃ t' pv' kv' Q',xp P1 (.ptr p 0) (.int .i64 id) (.int .i64 40) (.int .i64 ((i:Int)+1)) (.int .i64 0) (.int .i64 0) (.int .i64 0) (.int .i64 0) (.int .i64 0) (.int .i64 0) .nils (.int .i64 0) (.int .i64 0) (.int .i64 0) (.int .i64 0) (.int .i64 0) .nils (.int .i64 x.id) (.int .i64 x.inc) (.int .i64 x.now) (.int .i64 x.parent) (.int .i64 x.pinc) (.int .i64 x.grand) pv2 (.int .i64 x.epoch) (.int .i64 x.born) (.int .i64 x.asked) (.int .i64 x.till) (.int .i64 x.step) kv2 Q=jN (.int .i64 0) (.int .i64 0) (.int .i64 0) (.int .i64 0) (.int .i64 0) (.int .i64 0) .nils (.int .i64 0) (.int .i64 0) (.int .i64 0) (.int .i64 0) (.int .i64 0) .nils (.int .i64 (t').id) (.int .i64 (t').inc) (.int .i64 (t').now) (.int .i64 (t').parent) (.int .i64 (t').pinc) (.int .i64 (t').grand) pv' (.int .i64 (t').epoch) (.int .i64 (t').born) (.int .i64 (t').asked) (.int .i64 (t').till) (.int .i64 (t').step) kv' Q'∧Mt id 5000 t' pv' kv'∧Pq Q' p L:=fun w wv Q hw hf hi3 hwv hqQ=>by
    obtain⟨pv2,kv2,h1,h2,e⟩:=zbq (Q:=Q) hM.p hM.k hM.bd (by omega) hM.pt.pa hw hf hwv 1
    refine⟨_,pv2,kv2,e,h1,h2,?_⟩
    have:=ih (i+1) (comes t w 1).1 pv2 kv2 Q (by omega) ⟨(zag t w 1).trans hM.id,hM.pt.comes (by decide) hM.bd.ks hi3 hw.age.1 1,(hM.bd.comes hw 1).weaken (by omega),h1,h2⟩ hqQ
    simpa using this
   by_cases v0:v=0
   ·subst v0
    obtain⟨pv2,kv2,h1,h2,e⟩:=zcw (Q:=Q1) hM.p hM.k hM.bd (by omega)
    obtain⟨t',pv',kv',Q',lp,k1,k2⟩:=ih (i+1) (tick t).1 pv2 kv2 Q1 (by omega) ⟨(zby t).trans hM.id,hM.pt.tick (by decide),hM.bd.tick.weaken (by omega),h1,h2⟩ hq1
    refine⟨t',pv',kv',Q',?_,k1,k2⟩
    rw [show ((i+1:Nat):Int)=(i:Int)+1 by push_cast;rfl] at lp
    generalize tick t=T at *
    obtain⟨x,ms⟩:=T
    simp only at *
    simp [c1,eo,ev,e,h1.one,h2.one,zW,wi]
    rw [zy,lp]
   ·obtain⟨w,Q2,ew,hw,hq2⟩:=zev hq1 hL hid
    have hwn:w.frm≠0:=by have:=hw.frm;omega
    by_cases v1:v=1
    ·subst v1
     by_cases ca:t.asked≠0∧t.asked≠id
     ·obtain⟨a1,Q3,e3,ha1,hq3⟩:=jQ hq2 hL (m:=2) (by omega)
      obtain⟨a2,Q4,e4,ha2,hq4⟩:=jQ hq3 hL (m:=9) (by omega)
      obtain⟨a3,Q5,e5,ha3,hq5⟩:=jQ hq4 hL (m:=22) (by omega)
      obtain⟨pa,Q6,e6,hpa,hpl,hq6⟩:=z27 hq5 hL
      obtain⟨a4,Q7,e7,ha4,hq7⟩:=jQ hq6 hL (m:=4) (by omega)
      have wa:=w64 (i:=1+a1) (by omega) (by omega)
      have wb:=w64 (i:=1+a4) (by omega) (by omega)
      have hl1:=hpa.1
      have sl:QW 1 (.fz 1 (ints pa)) (some (.int .i64 1)) none=some (.fz 1 (ints (pa.drop 1))):=by
       rw [WM (by omega)]
       have:(1:Int)≤pa.length:=by omega
       simp [this,List.take_of_length_le,List.map_drop]
      have r1:room 8 (1+(pa.drop 1).length)=true:=jP (by omega) (by rw [List.length_drop];omega)
      have hlen:(pa.drop 1).length≤5:=by rw [List.length_drop];omega
      generalize pa.drop 1=D at *
      obtain⟨x,pv2,kv2,e,h1,h2,t',pv',kv',Q',lp,k1,k2⟩:=come ⟨2,t.asked,id,1+a1,a2,a3,1::D,1+a4,0,[]⟩ (.fz 1 (ints (1::D))) Q7 ⟨by simp;omega,by simp;omega,by simp;omega⟩ ca.1 (by simp;omega) (Sl.fz _ _) hq7
      refine⟨t',pv',kv',Q',?_,k1,k2⟩
      have ca1:=eq_false ca.1
      have ca2:=eq_false ca.2
      rw [z1S] at ew
      simp [ints] at e sl e6
      simp [c1,eo,ev,ew,Qc,ca1,ca2,e3,e4,e5,e6,e7,wa,wb,sl,r1,e,h1.one,h2.one,zW,qT,wi]
      rw [zy,lp]
     ·obtain⟨x,pv2,kv2,e,h1,h2,t',pv',kv',Q',lp,k1,k2⟩:=come w (mpv w) Q2 hw.mb hwn (by have:=hw.inc;have:=hw.i3;omega) (z7a hw) hq2
      refine⟨t',pv',kv',Q',?_,k1,k2⟩
      rw [z1S] at ew
      rcases em2 (t.asked=0) with ca1 | ca1
      ·simp [c1,eo,ev,ew,Qc,ca1,e,h1.one,h2.one,zW,qT,wi]
       rw [zy,lp]
      ·have ca2:(t.asked=id)=True:=eq_true (Decidable.byContradiction fun x=>ca ⟨of_eq_false ca1,x⟩)
       simp [c1,eo,ev,ew,Qc,ca1,ca2,e,h1.one,h2.one,zW,qT,wi]
       rw [zy,lp]
    ·by_cases v2:v=2
     ·subst v2
      rcases em2 (t.parent=0) with ca | ca
      ·obtain⟨x,pv2,kv2,e,h1,h2,t',pv',kv',Q',lp,k1,k2⟩:=come w (mpv w) Q2 hw.mb hwn (by have:=hw.inc;have:=hw.i3;omega) (z7a hw) hq2
       refine⟨t',pv',kv',Q',?_,k1,k2⟩
       rw [z1S] at ew
       simp [c1,eo,ev,ew,Qc,ca,e,h1.one,h2.one,zW,v7,wi]
       rw [zy,lp]
      ·obtain⟨a1,Q3,e3,ha1,hq3⟩:=jQ hq2 hL (m:=30) (by omega)
       obtain⟨a2,Q4,e4,ha2,hq4⟩:=jQ hq3 hL (m:=20) (by omega)
       obtain⟨pa,Q5,e5,hpa,hpl,hq5⟩:=z27 hq4 hL
       obtain⟨a3,Q6,e6,ha3,hq6⟩:=jQ hq5 hL (m:=9) (by omega)
       obtain⟨x,pv2,kv2,e,h1,h2,t',pv',kv',Q',lp,k1,k2⟩:=come ⟨5,t.parent,id,t.pinc,a1,a2,pa,0,a3,[]⟩ (.fz 1 (ints pa)) Q6 ⟨by simp;omega,by simp;omega,by simp;omega⟩ (of_eq_false ca) hM.pt.pi (Sl.fz _ _) hq6
       refine⟨t',pv',kv',Q',?_,k1,k2⟩
       rw [z1S] at ew
       simp [c1,eo,ev,ew,Qc,ca,e3,e4,e5,e6,e,h1.one,h2.one,zW,v7,wi]
       rw [zy,lp]
     ·obtain⟨x,pv2,kv2,e,h1,h2,t',pv',kv',Q',lp,k1,k2⟩:=come w (mpv w) Q2 hw.mb hwn (by have:=hw.inc;have:=hw.i3;omega) (z7a hw) hq2
      refine⟨t',pv',kv',Q',?_,k1,k2⟩
      rw [z1S] at ew
      simp [c1,eo,ev,v0,v1,v2,ew,Qc,e,h1.one,h2.one,zW,wi]
      rw [zy,lp]
theorem zet (hL:Ps L) {id:Int} (hid:1≤id∧id≤8) {Q:z3} (hq:Pq Q p L):∃ t pv kv Q',zc (z6 P1) 33 [.ptr p 0,.int .i64 id,.int .i64 40] Q=some (Tv t pv kv,Q')∧Mt id 5000 t pv kv∧Pq Q' p L:=by
 obtain⟨a,Q1,e1,ha,hq1⟩:=jQ hq hL (m:=5) (by omega)
 obtain⟨g,Q2,e2,hg,hq2⟩:=jQ hq1 hL (m:=4) (by omega)
 obtain⟨pv,hp,en⟩:=zer (Q:=Q2) id 2 a g
 have hk:=za4 id 2 a g
 have hM:Mt id (100+100 * 0) (New id 2 a g) pv .nils:=⟨by unfold New;split<;>rfl,Pt.new (by decide) ha.1,Bd.new (by omega),hp,by rw [hk];exact Sl.nil 3⟩
 obtain⟨t',pv',kv',Q',lp,k1,k2⟩:=za6 hL hid 40 0 _ _ _ Q2 (by omega) hM hq2
 refine⟨t',pv',kv',Q',?_,k1,k2⟩
 generalize New id 2 a g=t at *
 rw [show ((0:Nat):Int)=0 from rfl] at lp
 rw [Qp rfl]
 simp [e1,e2,en,hp.one]
 rw [zy,lp]
 simp [YU,k1.p.one,k1.k.one]
end
end Go.Proofs.Ytdbbdfmkglgjdaa.Pi
