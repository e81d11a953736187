/- Ways: the walk. -/
import Derived.Test.YtdbbdfmkglgjdaaPcTieW
import Derived.Test.YtdbbdfmkglgjdaaPmKids
set_option linter.unusedVariables false
set_option linter.unusedSimpArgs false
namespace Go.Proofs.Ytdbbdfmkglgjdaa.Pi
open Go.Ab Go.Feed Go.Kids Go.Tie
set_option maxRecDepth 100000
theorem zcS {a b:Int} (h:0≤a):a.tmod b=a % b:=Int.tmod_eq_emod_of_nonneg h
theorem zaX {i:Int} (h:0≤i) (h2:i≤255):IntKind.u8.wrap i=i:=by
 have:IntKind.u8.wrap i=i % 256:=rfl
 rw [this];omega
theorem zak {id:Int} {m:Msg} (h:Om id m):Sl 1 (ints m.path) (mpv m)∧m.path.length≤10:=by
 unfold mpv
 rcases h.rest with ⟨k,_,_,h1,_⟩ | ⟨k,_,_,h1,_⟩
 ·rw [if_neg (by omega),h1];exact⟨Sl.nil 1,by simp⟩
 ·rw [if_pos k];exact⟨Sl.fz _ _,h1.2.1⟩
section
variable {p:Nat} {L:List Int}
theorem z5s {Q:z3} {x t:Tie} {pv kv pv' kv':AV} {id:Int} (hid:1≤id∧id≤8) (i:Int) {ms:List Msg} (hl:ms.length≤100000) (hp:Sl 1 (ints t.path) pv) (hk:Sl 3 (t.kids.map Kid.v) kv) {k:Nat} (hb:Bd t k) (hk':k≤90000) (hm:∀ m ∈ ms,Om id m∧(m.kind=2→qv t∧m.to ∉ t.path∧m.path=t.path)):∀ (q j:Nat),j+q=ms.length →
  qO P1 (.int .i64 id) (.ptr p 0) (.int .i64 i) (Mz ms) (.int .i64 j) (.int .i64 x.id) (.int .i64 x.inc) (.int .i64 x.now) (.int .i64 x.parent) (.int .i64 x.pinc) (.int .i64 x.grand) pv' (.int .i64 x.epoch) (.int .i64 x.born) (.int .i64 x.asked) (.int .i64 x.till) (.int .i64 x.step) kv' (.int .i64 t.id) (.int .i64 t.inc) (.int .i64 t.now) (.int .i64 t.parent) (.int .i64 t.pinc) (.int .i64 t.grand) pv (.int .i64 t.epoch) (.int .i64 t.born) (.int .i64 t.asked) (.int .i64 t.till) (.int .i64 t.step) kv Q=Zn (.int .i64 id) (.ptr p 0) (.int .i64 i) (.int .i64 x.id) (.int .i64 x.inc) (.int .i64 x.now) (.int .i64 x.parent) (.int .i64 x.pinc) (.int .i64 x.grand) pv' (.int .i64 x.epoch) (.int .i64 x.born) (.int .i64 x.asked) (.int .i64 x.till) (.int .i64 x.step) kv' Q:=by
 intro q
 induction q with
 | zero =>
  intro j hj
  obtain rfl:j=ms.length:=by omega
  rw [jG,vc]
  simp
 | succ q ih =>
  intro j hj
  have c1:((j:Int) < ms.length)=True:=eq_true (by omega)
  have hj':j < ms.length:=by omega
  have e:=z97 (z:=10) (f:=Msg.v) (k:=.i64) (List.getElem?_eq_getElem hj')
  obtain⟨h1,h2⟩:=hm _ (List.getElem_mem hj')
  generalize ms[j]=m at *
  have mm:=fun Q=>z8x (Q:=Q) hid h1
  have i1:=eq_true h1.frm
  have i2:=eq_true h1.inc
  rw [z0e] at e mm
  have w:=w64 (i:=(j:Int)+1) (by omega) (by omega)
  have ih:=ih (j+1) (by omega)
  rw [show ((j+1:Nat):Int)=(j:Int)+1 by push_cast;rfl] at ih
  rw [jG,vc]
  rcases em2 (m.kind=2) with c2 | c2
  ·obtain⟨g1,g2,g3⟩:=h2 (of_eq_true c2)
   have ha:=fun Q=>z8j (Q:=Q) hp (by have:=hb.path;omega) m.to
   rw [decide_eq_false g2] at ha
   have fr:=fun Q=>WV (Q:=Q) hp hk hb (by omega)
   rw [decide_eq_true g1] at fr
   have hb2:=fun Q=>z8j (Q:=Q) (zak h1).1 (by have:=(zak h1).2;omega) m.to
   rw [g3,decide_eq_false g2] at hb2
   simp [c1,e,mm,i1,i2,c2,ha,fr,hb2,w]
   rw [zA,ih]
  ·simp [c1,e,mm,i1,i2,c2,w]
   rw [zA,ih]
theorem z8B {Q:z3} {x t:Tie} {pv kv pv' kv':AV} {id:Int} (hid:1≤id∧id≤8) (i:Int) {ms:List Msg} (hl:ms.length≤100000) (hp:Sl 1 (ints t.path) pv) (hk:Sl 3 (t.kids.map Kid.v) kv) {k:Nat} (hb:Bd t k) (hk':k≤90000) (hm:∀ m ∈ ms,Om id m∧(m.kind=2→qv t∧m.to ∉ t.path∧m.path=t.path))
  (hx:Wy id x) (hbx:Bd x k) (hp':Sl 1 (ints x.path) pv') (hk2:Sl 3 (x.kids.map Kid.v) kv') (b:Bool) (hn:b=true∨x.now=t.now) :
  z5 (zd (z8 P1)) (zj (z8 P1)) xr [(5,.v (.int .i64 id)),(6,.v (.ptr p 0)),(7,.lp 7 0),(8,.v (.int .i64 i)),(9,.v (Mz ms)),(11,.lp 11 0),(12,.v (.bool b))] [(7,.cells [.int .i64 x.id,.int .i64 x.inc,.int .i64 x.now,.int .i64 x.parent,.int .i64 x.pinc,.int .i64 x.grand,pv',.int .i64 x.epoch,.int .i64 x.born,.int .i64 x.asked,.int .i64 x.till,.int .i64 x.step,kv']),(11,.cells [.int .i64 t.id,.int .i64 t.inc,.int .i64 t.now,.int .i64 t.parent,.int .i64 t.pinc,.int .i64 t.grand,pv,.int .i64 t.epoch,.int .i64 t.born,.int .i64 t.asked,.int .i64 t.till,.int .i64 t.step,kv])] Q jk =
   some (.normal,[(5,.v (.int .i64 id)),(6,.v (.ptr p 0)),(7,.lp 7 0),(8,.v (.int .i64 i))],[(7,.cells [.int .i64 x.id,.int .i64 x.inc,.int .i64 x.now,.int .i64 x.parent,.int .i64 x.pinc,.int .i64 x.grand,pv',.int .i64 x.epoch,.int .i64 x.born,.int .i64 x.asked,.int .i64 x.till,.int .i64 x.step,kv'])],Q):=by
 have lp:=z5s (Q:=Q) (x:=x) (pv':=pv') (kv':=kv') (p:=p) hid i hl hp hk hb hk' hm ms.length 0 (by omega)
 rw [show ((0:Nat):Int)=0 from rfl] at lp
 have mk:=fun Q=>z6M (Q:=Q) hk2 hbx.ks (fun y hy=>⟨(hx.kd y hy).1.1,(hx.kd y hy).2,by have:=hbx.heard y hy;omega⟩) (by have:=hbx.kids;omega)
 have klen:=hk2.len
 have hkl:=hx.kl
 have plen:=hp'.len
 have nb:∀ {β:Type} (f:AV→Option β),(bnP (zc .neq (.int .i64 x.now) (.int .i64 t.now)) fun w=>bnP (some w) fun w2=>bnP (gdQ w2 true (some (.bool b))) fun w3=>bnP (gdQ w2 true (unA .not w3)) fun w4=>bnP (zr w2 w4 (.bool false)) f)=f (.bool false):=fun f=>by
  rcases em2 (x.now=t.now) with c | c
  ·simp [c]
  ·have:b=true:=hn.resolve_right (of_eq_false c)
   subst this
   simp [c]
 have hb3:b=true∨(x.now=t.now)=True:=hn.imp (fun h=>h) eq_true
 simp only [Mz] at lp ⊢
 rw [Yx]
 have eqb:∀ b:Bool,Jd true .b (.bool b) (.bool b)=some (.bool false):=fun b=>by simp [Jd,eqA]
 have npar:(x.parent=id)=False:=eq_false fun e=>by
  rcases hx.par with h | h
  ·omega
  ·exact h.2 e
 rcases hx.way with ⟨w1,w2,w3⟩ | ⟨w1,w2,w3⟩
 ·have w2':=eq_true w2
  have w3':=eq_false w3
  rw [if_neg w3] at hkl
  have k3:(3 < (x.kids.length:Int))=False:=eq_false (by omega)
  rw [w1] at plen
  have plen:km pv'=some (.int .i64 0):=plen
  rcases hb3 with rfl | hn
  ·rcases em2 (x.now=t.now) with hn | hn
   all_goals
    simp [w3',yj,plen,w2',eqb,mk,klen,k3,npar,hn]
    rw [zA,lp]
    simp
  ·simp [w3',yj,plen,w2',eqb,mk,klen,k3,npar,hn]
   rw [zA,lp]
   simp
 ·have hpl:=w1.1
  have hpu:=w1.2.1
  have hpv:pv'=.fz 1 (ints x.path):=by
   rcases hp' with h | ⟨_,h⟩
   ·exact h
   ·have:x.path=[]:=by simpa using h
    rw [this] at hpl;simp at hpl
  subst hpv
  have mp:=fun Q=>Vo (Q:=Q) (p:=x.path) (by omega)
  rw [decide_eq_true w1] at mp
  have g0:(0 < ((x.path.map (AV.int .i64)).length:Int))=True:=eq_true (by rw [List.length_map];omega)
  have g0':0 < x.path.length:=by omega
  have wl:=w64 (i:=(x.path.length:Int) - 1) (by omega) (by omega)
  have el:=(Sl.fz 1 (ints x.path)).get (k:=.i64) (Jk (l:=x.path) (i:=x.path.length - 1) (by omega))
  rw [w2,show ((x.path.length - 1:Nat):Int)=(x.path.length:Int) - 1 by omega] at el
  have po:(x.parent=0)=False∨((x.parent=0)=True∧(id=1)=True):=by
   rcases em2 (x.parent=0) with c | c
   ·exact Or.inr ⟨c,eq_true (w3.resolve_left (fun h=>h (of_eq_true c)))⟩
   ·exact Or.inl c
  rcases em2 (id=1) with c5 | c5
  ·rw [if_pos (of_eq_true c5)] at hkl
   have k3:(8 < (x.kids.length:Int))=False:=eq_false (by omega)
   have pz:=eq_true (hx.rt (of_eq_true c5)).1
   rcases hb3 with rfl | hn
   ·rcases em2 (x.now=t.now) with hn | hn
    all_goals
     simp [c5,yj,plen,pz,eqb,mp,g0',wl,el,mk,klen,k3,npar,hn]
     rw [zA,lp]
     simp
   ·simp [c5,yj,plen,pz,eqb,mp,g0',wl,el,mk,klen,k3,npar,hn]
    rw [zA,lp]
    simp
  ·rw [if_neg (of_eq_false c5)] at hkl
   have k3:(3 < (x.kids.length:Int))=False:=eq_false (by omega)
   have pz:(x.parent=0)=False:=by
    rcases po with h | ⟨_,h⟩
    ·exact h
    ·exact absurd (of_eq_true h) (of_eq_false c5)
   rcases hb3 with rfl | hn
   ·rcases em2 (x.now=t.now) with hn | hn
    all_goals
     simp [c5,yj,plen,pz,eqb,mp,g0',wl,el,mk,klen,k3,npar,hn]
     rw [zA,lp]
     simp
   ·simp [c5,yj,plen,pz,eqb,mp,g0',wl,el,mk,klen,k3,npar,hn]
    rw [zA,lp]
    simp
theorem z6R (hL:Ps L) {id:Int} (hid:1≤id∧id≤8):∀ (m i:Nat) (t:Tie) (pv kv:AV) (Q:z3),i+m=60→Wy id t→Bd t (100+100 * i)→Pq Q p L→Sl 1 (ints t.path) pv→Sl 3 (t.kids.map Kid.v) kv →
  ∃ Q',qQ P1 (.int .i64 id) (.ptr p 0) (.int .i64 i) (.int .i64 t.id) (.int .i64 t.inc) (.int .i64 t.now) (.int .i64 t.parent) (.int .i64 t.pinc) (.int .i64 t.grand) pv (.int .i64 t.epoch) (.int .i64 t.born) (.int .i64 t.asked) (.int .i64 t.till) (.int .i64 t.step) kv Q=jH Q':=by
 intro m
 induction m with
 | zero =>
  intro i t pv kv Q hi hW hb hq hp hk
  obtain rfl:i=60:=by omega
  refine⟨Q,?_⟩
  rw [xW,qP]
  simp
 | succ m ih =>
  intro i t pv kv Q hi hW hb hq hp hk
  have c1:((i:Int) < 60)=True:=eq_true (by omega)
  have wi:=w64 (i:=(i:Int)+1) (by omega) (by omega)
  obtain⟨b,eo⟩:=zaR hq hL
  cases b with
  | true =>
   refine⟨Q,?_⟩
   rw [xW,qP]
   simp [c1,eo]
  | false =>
   obtain⟨w0,Q1,ew,hw0,hq1⟩:=zcQ hq hL hid
   obtain⟨u,Q2,eu,hu,hq2⟩:=vN hq1 hL (m:=2) (by omega)
   rw [xW,qP]
   have p3:∀ (w:Msg) (wv:AV) (Q:z3),Mb w→Cm id w→Sl 1 (ints w.path) wv→Pq Q p L →
     ∃ Q',bnX (bnX (z5 (zd (z8 P1)) (zj (z8 P1)) xt [(5,.v (.int .i64 id)),(6,.v (.ptr p 0)),(7,.lp 7 0),(8,.v (.int .i64 i)),(10,.lp 10 0)] [(7,.cells [.int .i64 t.id,.int .i64 t.inc,.int .i64 t.now,.int .i64 t.parent,.int .i64 t.pinc,.int .i64 t.grand,pv,.int .i64 t.epoch,.int .i64 t.born,.int .i64 t.asked,.int .i64 t.till,.int .i64 t.step,kv]),(10,.cells [.int .i64 w.kind,.int .i64 w.frm,.int .i64 w.to,.int .i64 w.inc,.int .i64 w.epoch,.int .i64 w.age,wv,.int .i64 w.lo,.int .i64 w.hi,.str w.text])] Q jk) (kB 1 jk))
      (goC (z5 (zd (z8 P1)) (zj (z8 P1)) xu) (goX (fun τ ω Q=>zj (z8 P1) zN τ ω Q) jk))=jH Q':=fun w wv Q hw hc hwv hqQ=>by
    obtain⟨v,Q1,ev,hv,hq1⟩:=vN hqQ hL (m:=3) (by omega)
    rw [Yy]
    by_cases v0:v=0
    ·subst v0
     obtain⟨pv',kv',Q2,e,hp',hk',ab⟩:=zaQ (Q:=Q1) hp hk hb (by omega)
     have hb':=hb.tick.weaken (show 100+100 * i+6≤100+100 * (i+1) by omega)
     have hlen:=z8u hb
     obtain⟨hX,hm⟩:=hW.tick hb (by omega)
     generalize tick t=T at *
     obtain⟨x,ms⟩:=T
     simp only at *
     have w2:=fun Q=>z8B (Q:=Q) (p:=p) (pv':=pv') (kv':=kv') hid i (ms:=ms) (by omega) hp hk (hb.weaken (show 100+100 * i≤100+100 * (i+1) by omega)) (by omega) (fun m hmm=>⟨(hm m hmm).1,fun c=>absurd c (hm m hmm).2⟩) hX hb' hp' hk' true (Or.inl rfl)
     obtain⟨Q',lp⟩:=ih (i+1) x pv' kv' Q2 (by omega) hX hb' (hq1.ab ab) hp' hk'
     rw [show ((i+1:Nat):Int)=(i:Int)+1 by push_cast;rfl] at lp
     refine⟨Q',?_⟩
     simp only [Mz] at w2
     simp [ev,hp.one,hk.one,e,hp'.one,hk'.one,w2,vd,wi]
     rw [xz,lp]
    ·have v0':=eq_false v0
     obtain⟨pv',kv',Q2,e,hp',hk',ab⟩:=z9L (Q:=Q1) hp hk hb (by omega) hw hwv 1
     have hb':=(hb.comes hw 1).weaken (show 100+100 * i+100≤100+100 * (i+1) by omega)
     have hlen:=z6I t w 1
     have hnow:=z6K t w 1
     obtain⟨hX,hm⟩:=hW.comes hb (by omega) hc
     generalize comes t w 1=T at *
     obtain⟨x,ms⟩:=T
     simp only at *
     have w2:=fun Q=>z8B (Q:=Q) (p:=p) (pv':=pv') (kv':=kv') hid i (ms:=ms) (by omega) hp hk (hb.weaken (show 100+100 * i≤100+100 * (i+1) by omega)) (by omega) hm hX hb' hp' hk' false (Or.inr hnow)
     obtain⟨Q',lp⟩:=ih (i+1) x pv' kv' Q2 (by omega) hX hb' (hq1.ab ab) hp' hk'
     rw [show ((i+1:Nat):Int)=(i:Int)+1 by push_cast;rfl] at lp
     refine⟨Q',?_⟩
     simp only [Mz] at w2
     simp [ev,v0',hp.one,hk.one,e,hp'.one,hk'.one,w2,vd,wi]
     rw [xz,lp]
   by_cases cu:u=0∧1≤t.asked∧t.asked≤8∧t.asked≠id
   ·obtain⟨rfl,ca,cb,cc⟩:=cu
    obtain⟨a1,Q4,e4,ha1,hq4⟩:=vN hq2 hL (m:=22) (by omega)
    obtain⟨W,Q5,e5,hWp,hWl,hq5⟩:=z5b hq4 hL
    obtain⟨Q',tl⟩:=p3 ⟨2,t.asked,id,1,1,a1,W,1,0,[]⟩ (.fz 1 (ints W)) Q5 ⟨by simp;omega,by simp,by simp;omega⟩ ⟨⟨⟨ca,cb⟩,cc⟩,by simp,by simp,by simp;omega⟩ (Sl.fz _ _) hq5
    refine⟨Q',?_⟩
    have ca':=eq_true ca
    have cb':=eq_true cb
    have cc':=eq_false cc
    rw [← tl]
    rw [z0e] at ew
    simp [c1,eo,ew,QY,eu,ca',cb',cc',e4,e5]
   ·obtain⟨Q',tl⟩:=p3 w0 (mpv w0) Q2 hw0.mb ⟨⟨hw0.frm,hw0.ne⟩,⟨hw0.inc.1,hw0.i3⟩,hw0.epoch.1,hw0.age.1⟩ (zaU hw0) hq2
    refine⟨Q',?_⟩
    rw [← tl]
    rw [z0e] at ew
    rcases em2 (u=0) with cu0 | cu0
    ·rcases em2 (1≤t.asked) with ca | ca
     ·rcases em2 (t.asked≤8) with cb | cb
      ·have cc:(t.asked=id)=True:=eq_true (Decidable.byContradiction fun h=>cu ⟨of_eq_true cu0,of_eq_true ca,of_eq_true cb,h⟩)
       simp [c1,eo,ew,QY,eu,cu0,ca,cb,cc]
      ·simp [c1,eo,ew,QY,eu,cu0,ca,cb]
     ·simp [c1,eo,ew,QY,eu,cu0,ca]
    ·simp [c1,eo,ew,QY,eu,cu0]
theorem z6S {A:List Int} (rA:∀ n ∈ A,IntKind.u8.min≤n∧n≤IntKind.u8.max) {who:Int} (hw:IntKind.u8.min≤who∧who≤IntKind.u8.max) :
  ∃ Q',zd (z8 P1) 4 [.fz 1 (A.map (AV.int .u8)),.int .u8 who] z3.empty=some (.bool true,Q'):=by
 have hb0:∀ Q,zd (z8 P1) 11 [] Q=some (.bool true,Q):=fun Q=>by rw [Xt (g:=za4) rfl];rfl
 have hw:0≤who∧who≤255:=hw
 rw [XX rfl]
 by_cases hA:250 < A.length
 ·have hA':(250:Int) < A.length:=by omega
  exact⟨z3.empty,by simp [hb0,hA']⟩
 have hA':¬ (250:Int) < A.length:=by omega
 have hL:Ps A:=⟨by omega,fun n hn=>rA n hn⟩
 have m1:=zcS (a:=who) (b:=8) hw.1
 have u1:=zaX (i:=who % 8) (by omega) (by omega)
 have v1:=w64 (i:=who % 8) (by omega) (by omega)
 have v4:=w64 (i:=1+who % 8) (by omega) (by omega)
 have hid:1≤1+who % 8∧1+who % 8≤8:=by omega
 generalize hE:1+who % 8=id at *
 obtain⟨p,Q1,em,hq⟩:=zaS A z3.empty
 obtain⟨g,Q3,eg,hg,hq3⟩:=vN hq hL (m:=9) (by omega)
 obtain⟨pv,hp,en⟩:=zcR (Q:=Q3) id 2 0 g
 have hk:=z8s id 2 0 g
 have hbn:Bd (New id 2 0 g) 100:=Bd.new (by decide)
 have hW:Wy id (New id 2 0 g):=Wy.new (by omega)
 generalize New id 2 0 g=t at *
 obtain⟨Q',lp⟩:=z6R hL hid 60 0 t pv .nils Q3 (by omega) hW (hbn.weaken (by omega)) hq3 hp (by rw [hk];exact Sl.nil 3)
 refine⟨Q',?_⟩
 rw [show ((0:Nat):Int)=0 from rfl] at lp
 simp [hb0,hA',m1,u1,v1,hE,v4,em,eg,en,hp.one]
 rw [xz,lp]
 simp [Yz]
end
end Go.Proofs.Ytdbbdfmkglgjdaa.Pi
/- The law TieWays. -/
namespace Go.Proofs.Ytdbbdfmkglgjdaa.Pi
open Go.Ab
set_option maxRecDepth 100000
theorem Wg {H:z3} (v:AV) (A:List Int) (hA:rdI .u8 H v=some A) (hl:A.length≤maxLen) (rA:∀ n ∈ A,IntKind.u8.min≤n∧n≤IntKind.u8.max) (hc:capOk v=true)
  (n:Int) (hn:IntKind.u8.min≤n∧n≤IntKind.u8.max) :
  kD (zL (env S1) 4 [v,.int .u8 n] H) fun v _=>v=.bool true:=by
 refine z95 pe1 (by decide) (z6S (A:=A) rA hn) (RL.cons (RV.ints hA hc) (RL.cons RV.int RL.nil'))
end Go.Proofs.Ytdbbdfmkglgjdaa.Pi
