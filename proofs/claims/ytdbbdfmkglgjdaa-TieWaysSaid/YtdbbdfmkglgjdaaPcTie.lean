/- Numbers from which choices are read. -/
import Derived.Test.YtdbbdfmkglgjdaaPmKids
import Derived.Test.YtdbbdfmkglgjdaaPcPath
set_option linter.unusedVariables false
set_option linter.unusedSimpArgs false
namespace Go.Proofs.Ytdbbdfmkglgjdaa.Pi
open Go.Ab Go.Feed
set_option maxRecDepth 100000
def Pk (Q:z3) (r:Nat) (l:List Int):Prop:=∃ n:Nat,n≤l.length∧Q.get r=some (.cells .exact 2 [.fz 1 (l.map (AV.int .u8)),.int .i64 n])
def Oth (r:Nat) (Q Q':z3):Prop:=Q'.size=Q.size∧∀ s,s≠r→Q'.get s=Q.get s
theorem Oth.refl (r:Nat) (Q:z3):Oth r Q Q:=⟨rfl,fun _ _=>rfl⟩
theorem Oth.trans {r:Nat} {Q Q1 Q2:z3} (a:Oth r Q Q1) (b:Oth r Q1 Q2):Oth r Q Q2:=⟨b.1.trans a.1,fun s hs=>(b.2 s hs).trans (a.2 s hs)⟩
def Bs (l:List Int):Prop:=∀ n ∈ l,0≤n∧n≤255
@[simp] theorem zeh (b:Bool) (r o:Nat):rcv b .n (.ptr r o)=some (.ptr r o):=(Eq.refl _).trans (Eq.refl _)
section
variable {Q:z3} {r:Nat} {l:List Int}
theorem zaH {k:Kd} {z:Nat} {a b:AV} (h:Q.get r=some (.cells k z [a,b])):ldQ Q (.ptr r 0)=some a∧ldQ Q (.ptr r 1)=some b:=by
 simp [ldQ,ldA,z3.cell,h]
theorem zfl {z:Nat} {a b:AV} {x:Int} (h:Q.get r=some (.cells .exact z [a,b])):QW (Q.get r) 1 [.int .i64 x]=some (.cells .exact z [a,.int .i64 x]):=by
 rw [h];simp [QW,splice,AV.one]
theorem zai (h:Pk Q r l) (hl:l.length≤1000) (rl:Bs l) {m:Int} (hm:1≤m∧m≤1000) :
  ∃ (v:Int) (Q':z3),zd (z8 P1) 13 [.ptr r 0,.int .i64 m] Q=some (.int .i64 v,Q')∧(0≤v∧v < m)∧Pk Q' r l∧Oth r Q Q':=by
 obtain⟨n,hn,hg⟩:=h
 obtain⟨l0,l1⟩:=zaH hg
 by_cases c:n=l.length
 ·refine⟨0,Q,?_,by omega,⟨n,hn,hg⟩,Oth.refl r Q⟩
  rw [vI rfl]
  simp [zn,yB,z9,yy,l0,l1,c]
 ·have hlt:n < l.length:=by omega
  have c':((l.length:Int)≤n)=False:=eq_false (by omega)
  have w:=w64 (i:=(n:Int)+1) (by omega) (by omega)
  have st:=zfl (x:=(n:Int)+1) hg
  have hg2:(Q.put r (some (.cells .exact 2 [.fz 1 (l.map (AV.int .u8)),.int .i64 ((n:Int)+1)]))).get r=some (.cells .exact 2 [.fz 1 (l.map (AV.int .u8)),.int .i64 ((n:Int)+1)]):=wh _ _ _
  obtain⟨l2,l3⟩:=zaH hg2
  have e:=z96 (k:=.u8) (kk:=.i64) (l:=l) (i:=(n:Int)) (by omega) (by omega)
  have hv:0≤l.getD n 0∧l.getD n 0≤255:=by
   rw [List.getD_eq_getElem?_getD,List.getElem?_eq_getElem hlt];exact rl _ (List.getElem_mem _)
  simp only [Int.toNat_natCast] at e
  have m1:((m:Int) < 1)=False:=eq_false (by omega)
  have m0:¬ m=0:=by omega
  have w1:=w64 (i:=l.getD n 0) (by omega) (by omega)
  have w2:=w64 (i:=(n:Int)+1 - 1) (by omega) (by omega)
  rw [Int.add_sub_cancel] at w2
  have tm:(l.getD n 0).tmod m=l.getD n 0 % m:=Int.tmod_eq_emod_of_nonneg hv.1
  have r0:=Int.emod_nonneg (l.getD n 0) m0
  have r1:=Int.emod_lt_of_pos (l.getD n 0) (show 0 < m by omega)
  have w3:=w64 (i:=l.getD n 0 % m) (by omega) (by omega)
  refine⟨l.getD n 0 % m,_,?_,⟨r0,r1⟩,⟨n+1,hlt,hg2⟩,⟨by simp,fun s hs=>xi Q _ hs⟩⟩
  generalize l.getD n 0=x at *
  rw [vI rfl]
  simp [zn,yB,z9,yy,l0,l1,l2,l3,c',w,st,m1,m0,w1,w2,tm,w3,e,Int.add_sub_cancel]
theorem zaI (h:Pk Q r l) (hl:l.length≤1000):∃ b,zd (z8 P1) 17 [.ptr r 0] Q=some (.bool b,Q):=by
 obtain⟨n,hn,hg⟩:=h
 obtain⟨l0,l1⟩:=zaH hg
 refine⟨decide ((l.length:Int)≤n),?_⟩
 rw [YB rfl]
 simp [zn,yB,z9,yy,l0,l1]
theorem zaJ {l:List Int} (Q:z3):∃ Q',zd (z8 P1) 12 [.fz 1 (l.map (AV.int .u8))] Q=some (.ptr Q.size 0,Q')∧Pk Q' Q.size l∧Q'.size=Q.size+1∧∀ s,s≠Q.size→Q'.get s=Q.get s:=by
 refine⟨Q.push (some (.cells .exact 2 [.fz 1 (l.map (AV.int .u8)),.int .i64 0])),?_,⟨0,Nat.zero_le _,by rw [z3.get_push];simp⟩,by simp,fun s hs=>by rw [z3.get_push,if_neg hs]⟩
 rw [KA rfl]
 simp [QS,AV.cells,AV.one]
theorem zaK (h:Pk Q r l) (hl:l.length≤1000) (rl:Bs l):∃ (t:List UInt8) (Q':z3),zd (z8 P1) 47 [.ptr r 0] Q=some (.str t,Q')∧t.length≤12∧Pk Q' r l∧Oth r Q Q':=by
 obtain⟨v,Q',e,hv,hp,ho⟩:=zai h hl rl (m:=5) (by omega)
 have key:∀ (v:Int) (t:List UInt8),t.length≤12→elQ 1 (.fz 1 [.str [],.str [97],.str [98,99],.str [104,101,108,108,111],.str [116,119,101,108,118,101,32,98,121,116,101,115]]) (.int .i64 v)=some (.str t)→zd (z8 P1) 13 [.ptr r 0,.int .i64 5] Q=some (.int .i64 v,Q') →
   ∃ (t:List UInt8) (Q':z3),zd (z8 P1) 47 [.ptr r 0] Q=some (.str t,Q')∧t.length≤12∧Pk Q' r l∧Oth r Q Q':=fun v t ht he e=>by
  refine⟨t,Q',?_,ht,hp,ho⟩
  rw [YG rfl]
  simp [e,he]
 have c:v=0∨v=1∨v=2∨v=3∨v=4:=by omega
 rcases c with rfl | rfl | rfl | rfl | rfl
 ·exact key 0 [] (by decide) rfl e
 ·exact key 1 [97] (by decide) rfl e
 ·exact key 2 [98,99] (by decide) rfl e
 ·exact key 3 [104,101,108,108,111] (by decide) rfl e
 ·exact key 4 [116,119,101,108,118,101,32,98,121,116,101,115] (by decide) rfl e
end
end Go.Proofs.Ytdbbdfmkglgjdaa.Pi
/- What a node's functions come to. -/
namespace Go.Ab
theorem Tr.set_set (v w:Option zF):∀ (f n:Nat) (t:Tr),Tr.set v f (Tr.set w f t n) n=Tr.set v f t n:=by
 intro f
 induction f with
 | zero=>intro n t;rfl
 | succ f ih =>
  intro n t
  cases n with
  | zero=>cases t<;>rfl
  | succ n =>
   by_cases c:n % 2=0
   ·cases t<;>simp [Tr.set,c,ih]
   ·cases t<;>simp [Tr.set,c,ih]
@[simp] theorem z3.put_put (H:z3) (r:Nat) (v w:Option zF):(H.put r w).put r v=H.put r v:=by
 unfold z3.put
 simp only [Tr.set_set]
end Go.Ab
namespace Go.Proofs.Ytdbbdfmkglgjdaa.Pi
open Go.Ab Go.Feed Go.Kids Go.Tie
set_option maxRecDepth 100000
@[simp] theorem zfm (k:IntKind) (i:Int):AV.one (.int k i)=true:=(Eq.refl _).trans (Eq.refl _)
@[simp] theorem zei (b:Bool):AV.one (.bool b)=true:=(Eq.refl _).trans (Eq.refl _)
@[simp] theorem zfn (s:List UInt8):AV.one (.str s)=true:=(Eq.refl _).trans (Eq.refl _)
@[simp] theorem zg2 (z:Nat) (l:List AV):AV.one (.fz z l)=true:=(Eq.refl _).trans (Eq.refl _)
@[simp] theorem zej:AV.one .nils=true:=(Eq.refl _).trans (Eq.refl _)
@[simp] theorem zfo (l:List AV):AV.cells (.agg l)=l:=(Eq.refl _).trans (Eq.refl _)
@[simp] theorem zfp (k:IntKind) (i:Int):AV.cells (.int k i)=[.int k i]:=(Eq.refl _).trans (Eq.refl _)
@[simp] theorem zg3 (z:Nat) (l:List AV):AV.cells (.fz z l)=[.fz z l]:=(Eq.refl _).trans (Eq.refl _)
@[simp] theorem zek:AV.cells .nils=[.nils]:=(Eq.refl _).trans (Eq.refl _)
@[simp] theorem zg4 (r o n:Nat) (c:kb):AV.cells (.sl r o n c)=[.sl r o n c]:=(Eq.refl _).trans (Eq.refl _)
@[simp] theorem zfq {β:Type} (a0 a1 a2 a3 a4 a5 a6 a7 a8 a9:AV) (k:AV→AV→AV→AV→AV→AV→AV→AV→AV→AV→Option β):bnC (β:=β) 10 (some [a0,a1,a2,a3,a4,a5,a6,a7,a8,a9]) k=k a0 a1 a2 a3 a4 a5 a6 a7 a8 a9:=(Eq.refl _).trans (Eq.refl _)
@[simp] theorem zfr {β:Type} (a0 a1 a2 a3 a4 a5 a6 a7 a8 a9 a10 a11 a12:AV) (k:AV→AV→AV→AV→AV→AV→AV→AV→AV→AV→AV→AV→AV→Option β):bnC (β:=β) 13 (some [a0,a1,a2,a3,a4,a5,a6,a7,a8,a9,a10,a11,a12]) k=k a0 a1 a2 a3 a4 a5 a6 a7 a8 a9 a10 a11 a12:=(Eq.refl _).trans (Eq.refl _)
@[simp] theorem zfs {β:Type} (a0 a1 a2 a3 a4 a5 a6 a7 a8 a9 a10 a11 a12 a13:AV) (k:AV→AV→AV→AV→AV→AV→AV→AV→AV→AV→AV→AV→AV→AV→Option β):bnC (β:=β) 14 (some [a0,a1,a2,a3,a4,a5,a6,a7,a8,a9,a10,a11,a12,a13]) k=k a0 a1 a2 a3 a4 a5 a6 a7 a8 a9 a10 a11 a12 a13:=(Eq.refl _).trans (Eq.refl _)
abbrev ND (t:Tie) (pv kv tv:AV):zF:=.cells .exact 14 [.int .i64 t.id,.int .i64 t.inc,.int .i64 t.now,.int .i64 t.parent,.int .i64 t.pinc,.int .i64 t.grand,pv,.int .i64 t.epoch,.int .i64 t.born,.int .i64 t.asked,.int .i64 t.till,.int .i64 t.step,kv,tv]
abbrev Tv (t:Tie) (pv kv:AV):AV:=.agg [.int .i64 t.id,.int .i64 t.inc,.int .i64 t.now,.int .i64 t.parent,.int .i64 t.pinc,.int .i64 t.grand,pv,.int .i64 t.epoch,.int .i64 t.born,.int .i64 t.asked,.int .i64 t.till,.int .i64 t.step,kv]
def mpv (m:Msg):AV:=if m.kind=2∨m.kind=5 then .fz 1 (ints m.path) else .nils
def Msg.v (m:Msg):AV:=.agg [.int .i64 m.kind,.int .i64 m.frm,.int .i64 m.to,.int .i64 m.inc,.int .i64 m.epoch,.int .i64 m.age,mpv m,.int .i64 m.lo,.int .i64 m.hi,.str m.text]
theorem z0e (m:Msg):Msg.v m=.agg [.int .i64 m.kind,.int .i64 m.frm,.int .i64 m.to,.int .i64 m.inc,.int .i64 m.epoch,.int .i64 m.age,mpv m,.int .i64 m.lo,.int .i64 m.hi,.str m.text]:=rfl
theorem QY (m:Msg):AV.one (mpv m)=true:=by unfold mpv;split<;>rfl
theorem Msg.cells (m:Msg):(AV.cells (Msg.v m)).length=10∧(AV.cells (Msg.v m)).all AV.one=true:=⟨rfl,by simp [Msg.v,QY]⟩
theorem z0f (ms:List Msg):(ka (ms.map Msg.v)).length=ms.length * 10:=by
 induction ms with
 | nil=>rfl
 | cons m ms ih =>
  have:ka ((m::ms).map Msg.v)=AV.cells (Msg.v m)++ka (ms.map Msg.v):=rfl
  rw [this,List.length_append,ih,(Msg.cells m).1,List.length_cons];omega
theorem z8k (ms:List Msg):(ka (ms.map Msg.v)).all AV.one=true:=by
 induction ms with
 | nil=>rfl
 | cons m ms ih =>
  have:ka ((m::ms).map Msg.v)=AV.cells (Msg.v m)++ka (ms.map Msg.v):=rfl
  rw [this,List.all_append,ih,(Msg.cells m).2];rfl
theorem z5a (ms:List Msg):QC 10 ms.length (ka (ms.map Msg.v))=ms.map Msg.v:=by
 induction ms with
 | nil=>rfl
 | cons m ms ih =>
  have e:ka ((m::ms).map Msg.v)=AV.cells (Msg.v m)++ka (ms.map Msg.v):=rfl
  have l:=(Msg.cells m).1
  rw [e,List.length_cons]
  show mkE ((AV.cells (Msg.v m)++_).take 10)::QC 10 ms.length ((AV.cells (Msg.v m)++_).drop 10)=_
  rw [List.take_left' l,List.drop_left' l,ih]
  rfl
def Tl (Q:z3) (r:Nat) (tv:AV) (ms:List Msg):Prop:=(tv=.nils∧ms=[])∨∃ q,r < q∧q < Q.size∧tv=.sl q 0 ms.length (.mi 0)∧Q.get q=some (.cells .opened 10 (ka (ms.map Msg.v)))
theorem Tl.one {Q r tv ms} (h:Tl Q r tv ms):AV.one tv=true:=by rcases h with ⟨rfl,_⟩ | ⟨q,_,_,rfl,_⟩<;>rfl
structure Ab (r:Nat) (Q Q':z3):Prop where
 size:Q.size≤Q'.size
 get:∀ s,s < r→Q'.get s=Q.get s
theorem Ab.refl (r:Nat) (Q:z3):Ab r Q Q:=⟨Nat.le_refl _,fun _ _=>rfl⟩
theorem Ab.trans {r:Nat} {Q Q1 Q2:z3} (a:Ab r Q Q1) (b:Ab r Q1 Q2):Ab r Q Q2:=⟨Nat.le_trans a.size b.size,fun s hs=>(b.get s hs).trans (a.get s hs)⟩
structure Nd (Q:z3) (r:Nat) (t:Tie) (ms:List Msg) (pv kv tv:AV):Prop where
 p:Sl 1 (ints t.path) pv
 k:Sl 3 (t.kids.map Kid.v) kv
 l:Tl Q r tv ms
 lt:r < Q.size
 g:Q.get r=some (ND t pv kv tv)
theorem Nd.put {Q r t ms pv kv tv} (h:Nd Q r t ms pv kv tv) {t':Tie} {pv' kv':AV} (hp:Sl 1 (ints t'.path) pv') (hk:Sl 3 (t'.kids.map Kid.v) kv'):Nd (Q.put r (some (ND t' pv' kv' tv))) r t' ms pv' kv' tv:=by
 refine⟨hp,hk,?_,by simpa using h.lt,by simp⟩
 rcases h.l with h1 | ⟨q,h1,h2,h3,h4⟩
 ·exact Or.inl h1
 ·exact Or.inr ⟨q,h1,by simpa using h2,h3,by rw [z3.get_put,if_neg (by omega)];exact h4⟩
theorem Ab.put {Q:z3} {r:Nat} {o:Option zF}:Ab r Q (Q.put r o):=⟨by simp,fun s hs=>by rw [z3.get_put,if_neg (by omega)]⟩
def wZ (t:Tie) (kind to lo:Int):Msg:=if kind=2∨kind=5 then full t kind to lo else says t kind to lo
theorem z6 {v:AV} (h:AV.one v=true):AV.cells v=[v]:=by cases v<;>first | rfl | cases h
theorem zaL (t:Tie) {kind:Int} (to lo:Int) (c:kind=2∨kind=5):Msg.v (full t kind to lo)=.agg [.int .i64 kind,.int .i64 t.id,.int .i64 to,.int .i64 t.inc,.int .i64 t.epoch,.int .i64 (t.now - t.born),.fz 1 (ints t.path),.int .i64 lo,.int .i64 0,.str []]:=by
 have:mpv (full t kind to lo)=.fz 1 (ints t.path):=if_pos c
 rw [z0e,this];rfl
theorem zaM (t:Tie) {kind:Int} (to lo:Int) (c:¬ (kind=2∨kind=5)):Msg.v (says t kind to lo)=.agg [.int .i64 kind,.int .i64 t.id,.int .i64 to,.int .i64 t.inc,.int .i64 0,.int .i64 0,.nils,.int .i64 lo,.int .i64 0,.str []]:=by
 have:mpv (says t kind to lo)=.nils:=if_neg c
 rw [z0e,this];rfl
theorem Sl.frz {z l v} (h:Sl z l v):Go.Ab.frz v=v:=by rcases h with rfl | ⟨rfl,_⟩<;>rfl
section
variable {Q:z3} {r:Nat} {t:Tie} {ms:List Msg} {pv kv tv:AV}
theorem zcM (hp:Sl 1 (ints t.path) pv) (hk:Sl 3 (t.kids.map Kid.v) kv) {k:Nat} (hb:Bd t k) (hk':k≤100000):zd (z8 P1) 38 [Tv t pv kv] Q=some (.ptr Q.size 0,Q.push (some (ND t (.fz 1 (ints t.path)) (kds t.kids) .nils))):=by
 have c1:=fun(Q:z3)=>z0d (Q:=Q) hp (by have:=hb.path;omega)
 have c2:=fun(Q:z3)=>Kn (Q:=Q) hk (by have:=hb.kids;omega)
 rw [z8A rfl]
 simp [hp.one,hk.one,c1,c2,QS]
theorem Nd.of (hb:r=Q.size):Nd (Q.push (some (ND t (.fz 1 (ints t.path)) (kds t.kids) .nils))) r t [] (.fz 1 (ints t.path)) (kds t.kids) .nils:=by
 subst hb
 exact⟨Sl.fz _ _,Sl.fz _ _,Or.inl ⟨rfl,rfl⟩,by simp,by simp⟩
theorem z2s (h:Nd Q r t ms pv kv tv) (s:Int):zd (z8 P1) 40 [.ptr r 0,.int .i64 s] Q=some (.tup [],Q.put r (some (ND (lets t s) .nils kv tv))):=by
 rw [WG rfl]
 simp [zn,yB,z9,yy,ldQ,ldA,stA,h.g,h.k.one,h.p.one,h.l.one,splice,Go.Tie.lets]
theorem vw (h:Nd Q r t ms pv kv tv) {k:Nat} (hb:Bd t k) (hk:k≤100000) (hm:ms.length≤100000) (kind to lo:Int):∃ tv' Q',zd (z8 P1) 61 [.ptr r 0,.int .i64 kind,.int .i64 to,.int .i64 lo] Q=some (.tup [],Q')∧Nd Q' r t (ms++[wZ t kind to lo]) pv kv tv'∧Ab r Q Q':=by
 have cl:=fun(Q:z3)=>z0d (Q:=Q) h.p (by have:=hb.path;omega)
 have w1:=w64 (i:=t.now - t.born) (by have:=hb.now;have:=hb.born;omega) (by have:=hb.now;have:=hb.born;omega)
 have rm:room 104 (ms.length+1)=true:=by unfold room;rw [decide_eq_true_eq];simp [zp];omega
 have r0:room 104 1=true:=by unfold room;rw [decide_eq_true_eq];simp [zp]
 have e0:=h.g
 have hlt:=h.lt
 have key:∀ (x:AV),x=Msg.v (wZ t kind to lo)→∃ tv' Q1,z5x Q 10 104 tv [x]=some (tv',Q1)∧Q1.get r=some (ND t pv kv tv)∧AV.one tv'=true∧Nd (Q1.put r (some (ND t pv kv tv'))) r t (ms++[wZ t kind to lo]) pv kv tv'∧Ab r Q (Q1.put r (some (ND t pv kv tv'))):=fun x hx=>by
  rcases h.l with ⟨rfl,rfl⟩ | ⟨q,h1,h2,rfl,h4⟩
  ·refine⟨.sl Q.size 0 1 (.mi 0),Q.push (some (.cells .opened 10 (ka [x]))),by simp [z5x,r0],?_,rfl,⟨h.p,h.k,Or.inr ⟨Q.size,hlt,by simp,rfl,?_⟩,by simp;omega,by simp⟩,⟨by simp,fun s hs=>?_⟩⟩
   ·rw [z3.get_push,if_neg (by omega),e0]
   ·rw [z3.get_put,if_neg (by omega),z3.get_push,if_pos rfl,hx];rfl
   ·rw [z3.get_put,if_neg (by omega),z3.get_push,if_neg (by omega)]
  ·have fl:=z0f ms
   have b1:Nat.beq (ka (ms.map Msg.v)).length (ms.length * 10)=true:=by rw [fl];exact Nat.beq_refl _
   refine⟨.sl Q.size 0 (ms.length+1) (.mi 0),(Q.put q none).push (some (.cells .opened 10 (ka (ms.map Msg.v)++ka [x]))),by simp [z5x,h4,b1,rm],?_,rfl,⟨h.p,h.k,Or.inr ⟨Q.size,hlt,by simp,by simp,?_⟩,by simp;omega,by simp⟩,⟨by simp,fun s hs=>?_⟩⟩
   ·rw [z3.get_push,if_neg (by simp;omega),z3.get_put,if_neg (by omega),e0]
   ·rw [z3.get_put,if_neg (by omega),z3.get_push,if_pos (by simp),hx]
    simp [ka]
   ·rw [z3.get_put,if_neg (by omega),z3.get_push,if_neg (by simp;omega),z3.get_put,if_neg (by omega)]
 rw [VC rfl]
 by_cases c:kind=2∨kind=5
 ·obtain⟨tv',Q1,k1,k2,k3,k4,k5⟩:=key _ rfl
  refine⟨tv',_,?_,k4,k5⟩
  unfold wZ at k1
  rw [if_pos c,zaL _ _ _ c] at k1
  rcases c with rfl | rfl
  ·simp [zn,yB,z9,yy,ldQ,ldA,stA,e0,h.k.one,h.p.one,h.l.one,splice,cl,w1,kT,k1,k2,k3,z6 k3,wM,yk,z5z,Zd]
  ·simp [zn,yB,z9,yy,ldQ,ldA,stA,e0,h.k.one,h.p.one,h.l.one,splice,cl,w1,kT,k1,k2,k3,z6 k3,wM,yk,z5z,Zd]
 ·obtain⟨tv',Q1,k1,k2,k3,k4,k5⟩:=key _ rfl
  refine⟨tv',_,?_,k4,k5⟩
  unfold wZ at k1
  rw [if_neg c,zaM _ _ _ c] at k1
  have c1:¬ kind=2:=fun e=>c (Or.inl e)
  have c2:¬ kind=5:=fun e=>c (Or.inr e)
  simp [zn,yB,z9,yy,ldQ,ldA,stA,e0,h.k.one,h.p.one,h.l.one,splice,cl,w1,kT,k1,k2,k3,z6 k3,wM,yk,z5z,Zd,c1,c2]
end
end Go.Proofs.Ytdbbdfmkglgjdaa.Pi
