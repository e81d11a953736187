/- Where a node hangs, whatever comes: the walk. -/
import Derived.Test.YtdbbdfmkglgjdaaPcTieL
set_option linter.unusedVariables false
set_option linter.unusedSimpArgs false
namespace Go.Proofs.Ytdbbdfmkglgjdaa.Pi
open Go.Ab Go.Feed Go.Kids Go.Tie
set_option maxRecDepth 100000
theorem zge {a b:Int} (h:0≤a):a.tmod b=a % b:=Int.tmod_eq_emod_of_nonneg h
theorem zej {i:Int} (h:0≤i) (h2:i≤255):IntKind.u8.wrap i=i:=by
 have:IntKind.u8.wrap i=i % 256:=rfl
 rw [this];omega
structure z3k (i:Nat) (t:Tie) (pa ka pb kb:AV):Prop where
 bd:Bd t (100+100 * i)
 pt:Pt (20+3 * i) t
 low:0≤t.pinc
 pa:Sl 1 (ints t.path) pa
 ka:Sl 3 (t.kids.map Kid.v) ka
 pb:Sl 1 (ints t.path) pb
 kb:Sl 3 (t.kids.map Kid.v) kb
section
variable {p:Nat} {L:List Int}
theorem zgf {t:Tie} {pa ka pb kb:AV} (hB:z3k 40 t pa ka pb kb) {B:List Int} (hLB:Ps B) {id:Int} (hid:1≤id∧id≤8) {lo:Int} (hlo:0≤lo∧lo≤65535) (Q:z3) :
  ∃ Q',z5 (za (z6 P1)) (zd (z6 P1)) q9 [(1,.v (.fz 1 (B.map (AV.int .u8)))),(3,.v (.int .u16 lo)),(9,.v (.int .i64 id)),(13,.lp 13 0),(14,.lp 14 0)] [(13,.cells [.int .i64 t.id,.int .i64 t.inc,.int .i64 t.now,.int .i64 t.parent,.int .i64 t.pinc,.int .i64 t.grand,pa,.int .i64 t.epoch,.int .i64 t.born,.int .i64 t.asked,.int .i64 t.till,.int .i64 t.step,ka]),(14,.cells [.int .i64 t.id,.int .i64 t.inc,.int .i64 t.now,.int .i64 t.parent,.int .i64 t.pinc,.int .i64 t.grand,pb,.int .i64 t.epoch,.int .i64 t.born,.int .i64 t.asked,.int .i64 t.till,.int .i64 t.step,kb])] Q (zp [.tmp 8] [.n])=some (.bool true,Q'):=by
 obtain⟨p2,Q1,e1,hq1⟩:=zbO B Q
 obtain⟨w,Q2,e2,hw,hq2⟩:=zdJ hq1 hLB hid
 have wl:=w64 (i:=lo) (by omega) (by omega)
 obtain⟨pa',ka',Q3,e3,h1,h2,ab⟩:=z9e (Q:=Q2) hB.pa hB.ka hB.bd (by omega) hw.mb (z8x hw) lo
 obtain⟨pb',kb',h3,h4,e4⟩:=z9j (Q:=Q3) hB.pb hB.kb hB.bd (by omega) hB.pt.pa hw.mb (by have:=hw.frm;omega) (z8x hw) lo
 have hb':=hB.bd.comes hw.mb lo
 have ml:=z4G t w lo
 have mo:=Mo.comes hB.bd w lo
 generalize comes t w lo=T at *
 obtain⟨x,ms⟩:=T
 simp only at *
 have sm:=fun Q=>W3 (Q:=Q) mo (by omega)
 have st:=fun Q=>z1h (Q:=Q) h1 h3 h2 h4 hb' (by omega)
 simp only [Mz] at sm e4
 rw [z4F] at e2
 refine⟨Q3,?_⟩
 rw [Jg]
 simp [e1,e2,V5,wl,e3,e4,h1.one,h2.one,h3.one,h4.one,sm,st]
theorem zdK (hL:Ps L) {i:Nat} (hi:i < 40) {B:List Int} {lo id:Int} {t x:Tie} {ms:List Msg} {pa ka pb kb pa2 ka2 pb2 kb2:AV} (hx:z3k (i+1) x pa2 ka2 pb2 kb2) (mo:∀ m ∈ ms,Mo m) (ml:ms.length≤50000) {Q:z3} (hq:Pq Q p L)
  (next:∀ Q,Pq Q p L→∃ (t':Tie) (pa' ka' pb' kb':AV) (Q':z3),qa P1 (.fz 1 (B.map (AV.int .u8))) (.int .u16 lo) (.int .i64 id) (.ptr p 0) (.int .i64 ((i:Int)+1)) (.int .i64 x.id) (.int .i64 x.inc) (.int .i64 x.now) (.int .i64 x.parent) (.int .i64 x.pinc) (.int .i64 x.grand) pa2 (.int .i64 x.epoch) (.int .i64 x.born) (.int .i64 x.asked) (.int .i64 x.till) (.int .i64 x.step) ka2 (.int .i64 x.id) (.int .i64 x.inc) (.int .i64 x.now) (.int .i64 x.parent) (.int .i64 x.pinc) (.int .i64 x.grand) pb2 (.int .i64 x.epoch) (.int .i64 x.born) (.int .i64 x.asked) (.int .i64 x.till) (.int .i64 x.step) kb2 Q=yE (.fz 1 (B.map (AV.int .u8))) (.int .u16 lo) (.int .i64 id) (.int .i64 (t').id) (.int .i64 (t').inc) (.int .i64 (t').now) (.int .i64 (t').parent) (.int .i64 (t').pinc) (.int .i64 (t').grand) pa' (.int .i64 (t').epoch) (.int .i64 (t').born) (.int .i64 (t').asked) (.int .i64 (t').till) (.int .i64 (t').step) ka' (.int .i64 (t').id) (.int .i64 (t').inc) (.int .i64 (t').now) (.int .i64 (t').parent) (.int .i64 (t').pinc) (.int .i64 (t').grand) pb' (.int .i64 (t').epoch) (.int .i64 (t').born) (.int .i64 (t').asked) (.int .i64 (t').till) (.int .i64 (t').step) kb' Q'∧z3k 40 t' pa' ka' pb' kb') :
  ∃ (t':Tie) (pa' ka' pb' kb':AV) (Q':z3),bnX (bnX (z5 (za (z6 P1)) (zd (z6 P1)) yw [(1,.v (.fz 1 (B.map (AV.int .u8)))),(3,.v (.int .u16 lo)),(9,.v (.int .i64 id)),(10,.v (.ptr p 0)),(13,.lp 13 0),(14,.lp 14 0),(15,.v (.int .i64 i)),(16,.lp 16 0),(17,.lp 17 0),(18,.v (Mz ms)),(19,.v (Mz ms))] [(13,.cells [.int .i64 t.id,.int .i64 t.inc,.int .i64 t.now,.int .i64 t.parent,.int .i64 t.pinc,.int .i64 t.grand,pa,.int .i64 t.epoch,.int .i64 t.born,.int .i64 t.asked,.int .i64 t.till,.int .i64 t.step,ka]),(14,.cells [.int .i64 t.id,.int .i64 t.inc,.int .i64 t.now,.int .i64 t.parent,.int .i64 t.pinc,.int .i64 t.grand,pb,.int .i64 t.epoch,.int .i64 t.born,.int .i64 t.asked,.int .i64 t.till,.int .i64 t.step,kb]),(16,.cells [.int .i64 x.id,.int .i64 x.inc,.int .i64 x.now,.int .i64 x.parent,.int .i64 x.pinc,.int .i64 x.grand,pa2,.int .i64 x.epoch,.int .i64 x.born,.int .i64 x.asked,.int .i64 x.till,.int .i64 x.step,ka2]),(17,.cells [.int .i64 x.id,.int .i64 x.inc,.int .i64 x.now,.int .i64 x.parent,.int .i64 x.pinc,.int .i64 x.grand,pb2,.int .i64 x.epoch,.int .i64 x.born,.int .i64 x.asked,.int .i64 x.till,.int .i64 x.step,kb2])] Q xi) (jd 1 xi))
   (goC (z5 (za (z6 P1)) (zd (z6 P1)) yx) (goX (fun τ ω Q=>zd (z6 P1) zC τ ω Q) xi))=yE (.fz 1 (B.map (AV.int .u8))) (.int .u16 lo) (.int .i64 id) (.int .i64 (t').id) (.int .i64 (t').inc) (.int .i64 (t').now) (.int .i64 (t').parent) (.int .i64 (t').pinc) (.int .i64 (t').grand) pa' (.int .i64 (t').epoch) (.int .i64 (t').born) (.int .i64 (t').asked) (.int .i64 (t').till) (.int .i64 (t').step) ka' (.int .i64 (t').id) (.int .i64 (t').inc) (.int .i64 (t').now) (.int .i64 (t').parent) (.int .i64 (t').pinc) (.int .i64 (t').grand) pb' (.int .i64 (t').epoch) (.int .i64 (t').born) (.int .i64 (t').asked) (.int .i64 (t').till) (.int .i64 (t').step) kb' Q'∧z3k 40 t' pa' ka' pb' kb':=by
 have wi:=w64 (i:=(i:Int)+1) (by omega) (by omega)
 have hxk:=hx.bd.kids
 have sm:=fun Q=>W3 (Q:=Q) mo (by omega)
 have st:=fun Q=>z1h (Q:=Q) hx.pa hx.pb hx.ka hx.kb hx.bd (by omega)
 have f1:=fun Q=>z2T (Q:=Q) hx.pa hx.ka hx.bd (by omega)
 have f2:=fun Q=>z2U (Q:=Q) hx.pb hx.kb hx.bd (by omega)
 obtain⟨Q1,l1,ab⟩:=zd6 (Q:=Q) hx.pa hx.ka hx.bd (by omega)
 have l2:=fun Q=>zd7 (Q:=Q) hx.pb hx.kb hx.bd (by omega)
 have sl:=fun Q=>W3 (Q:=Q) (a:=leave x) Mo.leave (by have:=za4 x;omega)
 obtain⟨t',pa',ka',pb',kb',Q',lp,hB⟩:=next Q1 (hq.ab ab)
 refine⟨t',pa',ka',pb',kb',Q',?_,hB⟩
 generalize leave x=LV at *
 simp only [Mz] at sm l1 sl ⊢
 rw [Je]
 have eqb:∀ b:Bool,JB true .b (.bool b) (.bool b)=some (.bool false):=fun b=>by simp [JB,eqA]
 generalize decide (xP x)=fb at *
 simp [sm,st,f1,f2,eqb,l1,l2,sl,hx.pa.one,hx.ka.one,hx.pb.one,hx.kb.one,Jf,wi]
 rw [ky,lp]
theorem zbP (hL:Ps L) {B:List Int} {id:Int} (hid:1≤id∧id≤8) {lo:Int}:∀ (m i:Nat) (t:Tie) (pa ka pb kb:AV) (Q:z3),i+m=40→z3k i t pa ka pb kb→Pq Q p L →
  ∃ (t':Tie) (pa' ka' pb' kb':AV) (Q':z3),qa P1 (.fz 1 (B.map (AV.int .u8))) (.int .u16 lo) (.int .i64 id) (.ptr p 0) (.int .i64 i) (.int .i64 t.id) (.int .i64 t.inc) (.int .i64 t.now) (.int .i64 t.parent) (.int .i64 t.pinc) (.int .i64 t.grand) pa (.int .i64 t.epoch) (.int .i64 t.born) (.int .i64 t.asked) (.int .i64 t.till) (.int .i64 t.step) ka (.int .i64 t.id) (.int .i64 t.inc) (.int .i64 t.now) (.int .i64 t.parent) (.int .i64 t.pinc) (.int .i64 t.grand) pb (.int .i64 t.epoch) (.int .i64 t.born) (.int .i64 t.asked) (.int .i64 t.till) (.int .i64 t.step) kb Q=yE (.fz 1 (B.map (AV.int .u8))) (.int .u16 lo) (.int .i64 id) (.int .i64 (t').id) (.int .i64 (t').inc) (.int .i64 (t').now) (.int .i64 (t').parent) (.int .i64 (t').pinc) (.int .i64 (t').grand) pa' (.int .i64 (t').epoch) (.int .i64 (t').born) (.int .i64 (t').asked) (.int .i64 (t').till) (.int .i64 (t').step) ka' (.int .i64 (t').id) (.int .i64 (t').inc) (.int .i64 (t').now) (.int .i64 (t').parent) (.int .i64 (t').pinc) (.int .i64 (t').grand) pb' (.int .i64 (t').epoch) (.int .i64 (t').born) (.int .i64 (t').asked) (.int .i64 (t').till) (.int .i64 (t').step) kb' Q'∧z3k 40 t' pa' ka' pb' kb':=by
 intro m
 induction m with
 | zero =>
  intro i t pa ka pb kb Q hi hB hq
  obtain rfl:i=40:=by omega
  refine⟨t,pa,ka,pb,kb,Q,?_,hB⟩
  rw [qH,jJ]
  simp
 | succ m ih =>
  intro i t pa ka pb kb Q hi hB hq
  have c1:((i:Int) < 40)=True:=eq_true (by omega)
  obtain⟨b,eo⟩:=zeh hq hL
  cases b with
  | true =>
   refine⟨t,pa,ka,pb,kb,Q,?_,⟨hB.bd.weaken (by omega),hB.pt.weaken (by omega),hB.low,hB.pa,hB.ka,hB.pb,hB.kb⟩⟩
   rw [qH,jJ]
   simp [c1,eo]
  | false =>
   obtain⟨v,Q1,ev,hv,hq1⟩:=jE hq hL (m:=3) (by omega)
   have ihn:∀ (x:Tie) (pa2 ka2 pb2 kb2:AV),z3k (i+1) x pa2 ka2 pb2 kb2→∀ Q,Pq Q p L→_:=fun x pa2 ka2 pb2 kb2 hx Q hq=>ih (i+1) x pa2 ka2 pb2 kb2 Q (by omega) hx hq
   rw [show ((i+1:Nat):Int)=(i:Int)+1 by push_cast;rfl] at ihn
   rw [qH,jJ]
   by_cases v0:v=0
   ·subst v0
    obtain⟨pa2,ka2,Q2,e2,h1,h2,ab⟩:=zef (Q:=Q1) hB.pa hB.ka hB.bd (by omega)
    obtain⟨pb2,kb2,h3,h4,e3⟩:=zeg (Q:=Q2) hB.pb hB.kb hB.bd (by omega)
    have hbx:=hB.bd.tick
    have hpx:=hB.pt.tick (by omega)
    have hlx:=za5 hB.low
    have mo:=Mo.tick hB.bd
    have ml:=zbN hB.bd
    generalize tick t=T at *
    obtain⟨x,ms⟩:=T
    simp only at *
    have hx:z3k (i+1) x pa2 ka2 pb2 kb2:=⟨hbx.weaken (by omega),hpx.weaken (by omega),hlx,h1,h2,h3,h4⟩
    obtain⟨t',pa',ka',pb',kb',Q',tl,hB'⟩:=zdK (pa:=pa) (ka:=ka) (pb:=pb) (kb:=kb) (t:=t) (B:=B) (lo:=lo) (id:=id) hL (by omega) hx mo (by omega) (hq1.ab ab) (ihn _ _ _ _ _ hx)
    refine⟨t',pa',ka',pb',kb',Q',?_,hB'⟩
    rw [← tl]
    simp only [Mz] at e3 ⊢
    simp [c1,eo,ev,e2,e3,h1.one,h2.one,h3.one,h4.one]
   ·obtain⟨w0,Q2,ew,hw0,hq2⟩:=zdJ hq1 hL hid
    obtain⟨u,Q3,eu,hu,hq3⟩:=jE hq2 hL (m:=3) (by omega)
    have p0:∀ (w:Msg) (wv:AV) (Q:z3),Mb w→w.frm≠0→w.inc≤20+3 * i+3→0≤w.inc→Sl 1 (ints w.path) wv→Pq Q p L →
      ∃ (t':Tie) (pa' ka' pb' kb':AV) (Q':z3),bnX (bnX (bnX (z5 (za (z6 P1)) (zd (z6 P1)) q7 [(1,.v (.fz 1 (B.map (AV.int .u8)))),(3,.v (.int .u16 lo)),(9,.v (.int .i64 id)),(10,.v (.ptr p 0)),(13,.lp 13 0),(14,.lp 14 0),(15,.v (.int .i64 i)),(16,.lp 16 0),(17,.lp 17 0),(20,.lp 20 0)] [(13,.cells [.int .i64 t.id,.int .i64 t.inc,.int .i64 t.now,.int .i64 t.parent,.int .i64 t.pinc,.int .i64 t.grand,pa,.int .i64 t.epoch,.int .i64 t.born,.int .i64 t.asked,.int .i64 t.till,.int .i64 t.step,ka]),(14,.cells [.int .i64 t.id,.int .i64 t.inc,.int .i64 t.now,.int .i64 t.parent,.int .i64 t.pinc,.int .i64 t.grand,pb,.int .i64 t.epoch,.int .i64 t.born,.int .i64 t.asked,.int .i64 t.till,.int .i64 t.step,kb]),(16,.cells [.int .i64 0,.int .i64 0,.int .i64 0,.int .i64 0,.int .i64 0,.int .i64 0,.nils,.int .i64 0,.int .i64 0,.int .i64 0,.int .i64 0,.int .i64 0,.nils]),(17,.cells [.int .i64 0,.int .i64 0,.int .i64 0,.int .i64 0,.int .i64 0,.int .i64 0,.nils,.int .i64 0,.int .i64 0,.int .i64 0,.int .i64 0,.int .i64 0,.nils]),(20,.cells [.int .i64 w.kind,.int .i64 w.frm,.int .i64 w.to,.int .i64 w.inc,.int .i64 w.epoch,.int .i64 w.age,wv,.int .i64 w.lo,.int .i64 w.hi,.str w.text])] Q xi)
       (goC (z5 (za (z6 P1)) (zd (z6 P1)) yw) xi)) (jd 1 xi))
       (goC (z5 (za (z6 P1)) (zd (z6 P1)) yx) (goX (fun τ ω Q=>zd (z6 P1) zC τ ω Q) xi))=yE (.fz 1 (B.map (AV.int .u8))) (.int .u16 lo) (.int .i64 id) (.int .i64 (t').id) (.int .i64 (t').inc) (.int .i64 (t').now) (.int .i64 (t').parent) (.int .i64 (t').pinc) (.int .i64 (t').grand) pa' (.int .i64 (t').epoch) (.int .i64 (t').born) (.int .i64 (t').asked) (.int .i64 (t').till) (.int .i64 (t').step) ka' (.int .i64 (t').id) (.int .i64 (t').inc) (.int .i64 (t').now) (.int .i64 (t').parent) (.int .i64 (t').pinc) (.int .i64 (t').grand) pb' (.int .i64 (t').epoch) (.int .i64 (t').born) (.int .i64 (t').asked) (.int .i64 (t').till) (.int .i64 (t').step) kb' Q'∧z3k 40 t' pa' ka' pb' kb':=fun w wv Q hw hf hwi hwl hwv hqQ=>by
     obtain⟨n,Q1,en,hn,hq1⟩:=jE hqQ hL (m:=9) (by omega)
     have wn:=w64 (i:=1+n) (by omega) (by omega)
     obtain⟨pa2,ka2,Q2,e2,h1,h2,ab⟩:=z9e (Q:=Q1) hB.pa hB.ka hB.bd (by omega) hw hwv (1+n)
     obtain⟨pb2,kb2,h3,h4,e3⟩:=z9j (Q:=Q2) hB.pb hB.kb hB.bd (by omega) hB.pt.pa hw hf hwv (1+n)
     have hbx:=hB.bd.comes hw (1+n)
     have hpx:=(hB.pt.weaken (show (20+3 * (i:Int))≤20+3 * i+3 by omega)).comes (by omega) hB.bd.ks hwi hw.age.1 (1+n)
     have hlx:=z8r hB.low hwl (1+n)
     have mo:=Mo.comes hB.bd w (1+n)
     have ml:=z4G t w (1+n)
     generalize comes t w (1+n)=T at *
     obtain⟨x,ms⟩:=T
     simp only at *
     have hx:z3k (i+1) x pa2 ka2 pb2 kb2:=⟨hbx.weaken (by omega),hpx.weaken (by omega),hlx,h1,h2,h3,h4⟩
     obtain⟨t',pa',ka',pb',kb',Q',tl,hB'⟩:=zdK (pa:=pa) (ka:=ka) (pb:=pb) (kb:=kb) (t:=t) (B:=B) (lo:=lo) (id:=id) hL (by omega) hx mo (by omega) (hq1.ab ab) (ihn _ _ _ _ _ hx)
     refine⟨t',pa',ka',pb',kb',Q',?_,hB'⟩
     rw [← tl,Jc]
     simp only [Mz] at e3 ⊢
     simp [en,wn,e2,e3,h1.one,h2.one,h3.one,h4.one]
    have p1:∀ (w:Msg) (wv:AV) (Q:z3),Mb w→w.frm≠0→w.inc≤20→0≤w.inc→Sl 1 (ints w.path) wv→Pq Q p L →
      ∃ (t':Tie) (pa' ka' pb' kb':AV) (Q':z3),bnX (bnX (bnX (z5 (za (z6 P1)) (zd (z6 P1)) q8 [(1,.v (.fz 1 (B.map (AV.int .u8)))),(3,.v (.int .u16 lo)),(9,.v (.int .i64 id)),(10,.v (.ptr p 0)),(13,.lp 13 0),(14,.lp 14 0),(15,.v (.int .i64 i)),(16,.lp 16 0),(17,.lp 17 0),(20,.lp 20 0)] [(13,.cells [.int .i64 t.id,.int .i64 t.inc,.int .i64 t.now,.int .i64 t.parent,.int .i64 t.pinc,.int .i64 t.grand,pa,.int .i64 t.epoch,.int .i64 t.born,.int .i64 t.asked,.int .i64 t.till,.int .i64 t.step,ka]),(14,.cells [.int .i64 t.id,.int .i64 t.inc,.int .i64 t.now,.int .i64 t.parent,.int .i64 t.pinc,.int .i64 t.grand,pb,.int .i64 t.epoch,.int .i64 t.born,.int .i64 t.asked,.int .i64 t.till,.int .i64 t.step,kb]),(16,.cells [.int .i64 0,.int .i64 0,.int .i64 0,.int .i64 0,.int .i64 0,.int .i64 0,.nils,.int .i64 0,.int .i64 0,.int .i64 0,.int .i64 0,.int .i64 0,.nils]),(17,.cells [.int .i64 0,.int .i64 0,.int .i64 0,.int .i64 0,.int .i64 0,.int .i64 0,.nils,.int .i64 0,.int .i64 0,.int .i64 0,.int .i64 0,.int .i64 0,.nils]),(20,.cells [.int .i64 w.kind,.int .i64 w.frm,.int .i64 w.to,.int .i64 w.inc,.int .i64 w.epoch,.int .i64 w.age,wv,.int .i64 w.lo,.int .i64 w.hi,.str w.text])] Q xi)
       (goC (z5 (za (z6 P1)) (zd (z6 P1)) yw) xi)) (jd 1 xi))
       (goC (z5 (za (z6 P1)) (zd (z6 P1)) yx) (goX (fun τ ω Q=>zd (z6 P1) zC τ ω Q) xi))=yE (.fz 1 (B.map (AV.int .u8))) (.int .u16 lo) (.int .i64 id) (.int .i64 (t').id) (.int .i64 (t').inc) (.int .i64 (t').now) (.int .i64 (t').parent) (.int .i64 (t').pinc) (.int .i64 (t').grand) pa' (.int .i64 (t').epoch) (.int .i64 (t').born) (.int .i64 (t').asked) (.int .i64 (t').till) (.int .i64 (t').step) ka' (.int .i64 (t').id) (.int .i64 (t').inc) (.int .i64 (t').now) (.int .i64 (t').parent) (.int .i64 (t').pinc) (.int .i64 (t').grand) pb' (.int .i64 (t').epoch) (.int .i64 (t').born) (.int .i64 (t').asked) (.int .i64 (t').till) (.int .i64 (t').step) kb' Q'∧z3k 40 t' pa' ka' pb' kb':=fun w wv Q hw hf hwi hwl hwv hqQ=>by
     obtain⟨y,Q1,ey,hy,hq1⟩:=jE hqQ hL (m:=3) (by omega)
     rw [Jd]
     by_cases cy:y=0∧t.parent≠0
     ·obtain⟨rfl,cp⟩:=cy
      obtain⟨a,Q2,ea,ha,hq2⟩:=jE hq1 hL (m:=3) (by omega)
      obtain⟨b,Q3,eb,hb,hq3⟩:=jE hq2 hL (m:=2) (by omega)
      have hpi:=hB.pt.pi
      have hlow:1≤max (t.pinc+a - b) 1∧max (t.pinc+a - b) 1≤20+3 * i+3:=by omega
      obtain⟨t',pa',ka',pb',kb',Q',tl,hB'⟩:=p0 { w with frm:=t.parent,inc:=max (t.pinc+a - b) 1 } wv Q3 ⟨hw.age,hw.epoch,hw.path⟩ cp hlow.2 (show 0≤max (t.pinc+a - b) 1 by omega) hwv hq3
      refine⟨t',pa',ka',pb',kb',Q',?_,hB'⟩
      have cp':=eq_false cp
      have wa:=w64 (i:=t.pinc+a) (by have:=hB.low;omega) (by omega)
      have wb:=w64 (i:=t.pinc+a - b) (by have:=hB.low;omega) (by omega)
      rw [← tl]
      simp [ey,cp',ea,eb,wa,wb]
     ·obtain⟨t',pa',ka',pb',kb',Q',tl,hB'⟩:=p0 w wv Q1 hw hf (by omega) hwl hwv hq1
      refine⟨t',pa',ka',pb',kb',Q',?_,hB'⟩
      rw [← tl]
      rcases em2 (y=0) with cy0 | cy0
      ·have cp:(t.parent=0)=True:=eq_true (Decidable.byContradiction fun h=>cy ⟨of_eq_true cy0,h⟩)
       simp [ey,cy0,cp]
      ·simp [ey,cy0]
    have hwn:w0.frm≠0:=by have:=hw0.frm;omega
    by_cases cu:u=0∧t.asked≠0∧t.asked≠id
    ·obtain⟨rfl,ca,ci⟩:=cu
     obtain⟨a1,Q4,e4,ha1,hq4⟩:=jE hq3 hL (m:=2) (by omega)
     obtain⟨a2,Q5,e5,ha2,hq5⟩:=jE hq4 hL (m:=9) (by omega)
     obtain⟨a3,Q6,e6,ha3,hq6⟩:=jE hq5 hL (m:=24) (by omega)
     obtain⟨W,Q7,e7,hW,hWl,hq7⟩:=z8w hq6 hL
     obtain⟨a4,Q8,e8,ha4,hq8⟩:=jE hq7 hL (m:=9) (by omega)
     have wa:=w64 (i:=1+a1) (by omega) (by omega)
     obtain⟨t',pa',ka',pb',kb',Q',tl,hB'⟩:=p1 ⟨2,t.asked,id,1+a1,a2,a3,W,a4,0,[]⟩ (.fz 1 (ints W)) Q8 ⟨by simp;omega,by simp;omega,by simp;omega⟩ ca (by simp;omega) (by simp;omega) (Sl.fz _ _) hq8
     refine⟨t',pa',ka',pb',kb',Q',?_,hB'⟩
     have ca':=eq_false ca
     have ci':=eq_false ci
     rw [← tl]
     rw [z4F] at ew
     simp [c1,eo,ev,v0,ew,V5,eu,ca',ci',e4,e5,e6,e7,e8,wa]
    ·obtain⟨t',pa',ka',pb',kb',Q',tl,hB'⟩:=p1 w0 (mpv w0) Q3 hw0.mb hwn (by have:=hw0.i3;omega) (by have:=hw0.inc;omega) (z8x hw0) hq3
     refine⟨t',pa',ka',pb',kb',Q',?_,hB'⟩
     rw [← tl]
     rw [z4F] at ew
     rcases em2 (u=0) with cu0 | cu0
     ·rcases em2 (t.asked=0) with ca | ca
      ·simp [c1,eo,ev,v0,ew,V5,eu,cu0,ca]
      ·have ci:(t.asked=id)=True:=eq_true (Decidable.byContradiction fun h=>cu ⟨of_eq_true cu0,of_eq_false ca,h⟩)
       simp [c1,eo,ev,v0,ew,V5,eu,cu0,ca,ci]
     ·simp [c1,eo,ev,v0,ew,V5,eu,cu0]
theorem zbQ {A B:List Int} (rA:∀ n ∈ A,IntKind.u8.min≤n∧n≤IntKind.u8.max) (rB:∀ n ∈ B,IntKind.u8.min≤n∧n≤IntKind.u8.max) {who lo:Int} (hw:IntKind.u8.min≤who∧who≤IntKind.u8.max) (hlo:IntKind.u16.min≤lo∧lo≤IntKind.u16.max) :
  ∃ Q',za (z6 P1) 3 [.fz 1 (A.map (AV.int .u8)),.fz 1 (B.map (AV.int .u8)),.int .u8 who,.int .u16 lo] z3.empty=some (.bool true,Q'):=by
 have hb0:∀ Q,za (z6 P1) 11 [] Q=some (.bool true,Q):=fun Q=>by rw [Jv (g:=zdr) rfl];rfl
 have hw:0≤who∧who≤255:=hw
 have hlo:0≤lo∧lo≤65535:=hlo
 rw [KA rfl]
 by_cases hA:200 < A.length
 ·have hA':(200:Int) < A.length:=by omega
  exact⟨z3.empty,by simp [hb0,hA']⟩
 have hA':¬ (200:Int) < A.length:=by omega
 by_cases hB:15 < B.length
 ·have hB':(15:Int) < B.length:=by omega
  exact⟨z3.empty,by simp [hb0,hA',hB']⟩
 have hB':¬ (15:Int) < B.length:=by omega
 have hL:Ps A:=⟨by omega,fun n hn=>rA n hn⟩
 have hLB:Ps B:=⟨by omega,fun n hn=>rB n hn⟩
 have m1:=zge (a:=who) (b:=8) hw.1
 have u1:=zej (i:=who % 8) (by omega) (by omega)
 have v1:=w64 (i:=who % 8) (by omega) (by omega)
 have v4:=w64 (i:=1+who % 8) (by omega) (by omega)
 have hid:1≤1+who % 8∧1+who % 8≤8:=by omega
 generalize hE:1+who % 8=id at *
 obtain⟨p,Q1,em,hq⟩:=zbO A z3.empty
 obtain⟨a,Q2,ea,ha,hq2⟩:=jE hq hL (m:=5) (by omega)
 obtain⟨g,Q3,eg,hg,hq3⟩:=jE hq2 hL (m:=9) (by omega)
 obtain⟨pa,hpa,en⟩:=zgb (Q:=Q3) id 2 a g
 obtain⟨pb,hpb,dn⟩:=zgc (Q:=Q3) id 2 a g
 have hk:=zbK id 2 a g
 have hbn:Bd (New id 2 a g) 100:=Bd.new (by omega)
 have hpt:Pt 20 (New id 2 a g):=Pt.new (by decide) ha.1
 have hpi:0≤(New id 2 a g).pinc:=by unfold New;split<;>exact Int.le_refl _
 generalize New id 2 a g=t at *
 have k0:Sl 3 (t.kids.map Kid.v) .nils:=by rw [hk];exact Sl.nil 3
 have st:=fun Q=>z1h (Q:=Q) hpa hpb k0 k0 hbn (by omega)
 obtain⟨t',pa',ka',pb',kb',Q4,lp,hB4⟩:=zbP hL (B:=B) (lo:=lo) hid 40 0 t pa .nils pb .nils Q3 (by omega) ⟨hbn.weaken (by omega),by simpa using hpt,hpi,hpa,k0,hpb,k0⟩ hq3
 obtain⟨Q',fin⟩:=zgf hB4 hLB hid hlo Q4
 refine⟨Q',?_⟩
 rw [show ((0:Nat):Int)=0 from rfl] at lp
 rw [← fin]
 simp [hb0,hA',hB',m1,u1,v1,hE,v4,em,ea,eg,en,dn,hpa.one,hpb.one,st]
 rw [ky,lp]
 simp
end
end Go.Proofs.Ytdbbdfmkglgjdaa.Pi
