/- Items, events, feeds: a plain model of what goes down. -/
import Derived.Test.YtdbbdfmkglgjdaaPvE
set_option linter.unusedVariables false
namespace Go.Feed
structure It where
 seq:Int
 text:List UInt8
 deriving DecidableEq,Inhabited
structure Ev where
 kind:Int
 lo:Int
 hi:Int
 text:List UInt8
 why:Int
 deriving DecidableEq,Inhabited
structure Fed where
 next:Int
 top:Int
 ring:List It
 win:List It
 log:List Ev
 tries:Int
 due:Int
 deriving DecidableEq,Inhabited
abbrev Sp:=Int × Int
def told (i:It):Ev:=⟨1,i.seq,i.seq,i.text,0⟩
def zft (lo hi why:Int):Ev:=⟨2,lo,hi,[],why⟩
def QZ (r:List It) (i:It):List It :=
 if 0 < r.length∧i.seq≤(r.getD (r.length - 1) default).seq then r else (r++[i]).drop (r.length+1 - 6)
def wK (w:List It) (s:Int):Nat:=(w.takeWhile fun x=>decide (x.seq < s)).length
def Jn (w:List It) (s:Int):Bool:=w.any fun x=>decide (x.seq=s)
def Xs (w:List It):Prop:=w.Pairwise fun a b=>a.seq < b.seq
def put (w:List It) (next:Int) (x:It):List It × Bool :=
 if Jn w x.seq=true∨x.seq < next∨8≤x.seq - next then (w,false) else (w.take (wK w x.seq)++[x]++w.drop (wK w x.seq),true)
def first (w:List It):Int:=match w with
 | []=>0
 | x::_=>x.seq
def Fed.knows (f:Fed) (t:Int):Fed:=if 0 < f.next∧t≤1000000 then { f with top:=max f.top t } else f
def KQ (f:Fed) (i:It) (rest:List It):Fed:={ f with win:=rest,log:=f.log++[told i],ring:=QZ f.ring i,next:=f.next+1 }
def xD:List It→Fed→Fed × List It
 | [],f=>({ f with win:=[] },[])
 | i::rest,f=>if i.seq=f.next then ((xD rest (KQ f i rest)).1,i::(xD rest (KQ f i rest)).2) else ({ f with win:=i::rest },[])
def Fed.rest (f:Fed):Fed:={ f with tries:=0,due:=0 }
def Fed.tells (f:Fed):Fed × List It:=if (xD f.win f).2=[] then ((xD f.win f).1,[]) else ((xD f.win f).1.rest,(xD f.win f).2)
def kj (f:Fed) (hi:Int):Int × Bool:=match f.win.find? fun x=>decide (f.next≤x.seq) with
 | some x=>if x.seq≤hi then (x.seq - 1,true) else (hi,false)
 | none=>(hi,false)
def XK (f:Fed) (last why:Int):Fed:={ f with log:=f.log++[zft f.next last why],next:=last+1 }
def QB:Nat→Fed→Int→Int→List Sp→Option (Fed × List Sp)
 | 0,_,_,_,_=>none
 | n+1,f,hi,why,out=>if f.next≤hi then
   let a:=kj f hi
   let f1:=if f.next≤a.1 then XK f a.1 why else f
   let o1:=if f.next≤a.1 then out++[(f.next,a.1)] else out
   if a.2=true then if f1.tells.2=[] then some (f1.tells.1,o1) else QB n f1.tells.1 hi why o1 else some (f1,o1)
  else some (f,out)
def z8C (f:Fed):Sp × Bool :=
 let hi:=if f.win=[] then f.top else first f.win - 1
 if f.next=0∨hi < f.next then ((0,0),false) else ((f.next,hi),true)
theorem z2P {α:Type} [Inhabited α] {l:List α} {k:Nat} (h:k < l.length):l[k]? = some (l.getD k default):=by
 rw [List.getD_eq_getElem?_getD,List.getElem?_eq_getElem h];rfl
theorem J0 {w:List It} (h:Xs w) {k m:Nat} (hk:k < m) (hm:m < w.length):(w.getD k default).seq < (w.getD m default).seq:=by
 have:=List.pairwise_iff_getElem.1 h k m (by omega) hm hk
 simpa [List.getD_eq_getElem?_getD,List.getElem?_eq_getElem hm,List.getElem?_eq_getElem (show k < w.length by omega)] using this
theorem z9O (w:List It) (s:Int):wK w s≤w.length:=by
 unfold wK
 induction w with
 | nil=>simp
 | cons x w ih=>rw [List.takeWhile_cons];split<;>simp<;>omega
theorem z5V:∀ {w:List It} {s:Int} {i:Nat},i≤w.length→(∀ k,k < i→(w.getD k default).seq < s)→(i < w.length→¬ (w.getD i default).seq < s)→wK w s=i:=by
 intro w
 induction w with
 | nil=>intro s i h _ _;simp at h;subst h;rfl
 | cons x w ih =>
  intro s i h h1 h2
  unfold wK at ih ⊢
  rw [List.takeWhile_cons]
  cases i with
  | zero =>
   have:¬ x.seq < s:=by simpa using h2 (by simp)
   simp [this]
  | succ i =>
   have h0:x.seq < s:=by simpa using h1 0 (by omega)
   simp only [h0,decide_true,if_true,List.length_cons]
   rw [ih (s:=s) (i:=i) (by simpa using h) (fun k hk=>by simpa using h1 (k+1) (by omega)) (fun hi=>by simpa using h2 (by simpa using hi))]
theorem z9P:∀ {w:List It} {s:Int} {k:Nat},k < wK w s→(w.getD k default).seq < s:=by
 intro w
 induction w with
 | nil=>intro s k h;simp [wK] at h
 | cons x w ih =>
  intro s k h
  unfold wK at h ih
  rw [List.takeWhile_cons] at h
  split at h
  ·rename_i c
   cases k with
   | zero=>simpa using c
   | succ k=>simpa using ih (s:=s) (k:=k) (by simpa using h)
  ·simp at h
theorem z9Q:∀ {w:List It} {s:Int},wK w s < w.length→¬ (w.getD (wK w s) default).seq < s:=by
 intro w
 induction w with
 | nil=>intro s h;simp at h
 | cons x w ih =>
  intro s h
  unfold wK at h ih ⊢
  rw [List.takeWhile_cons] at h ⊢
  split
  ·rename_i c
   rw [if_pos c] at h
   have:=ih (s:=s) (by simpa using h)
   simpa using this
  ·rename_i c;simpa using c
theorem VG {w:List It} (h:Xs w) (s:Int):Jn w s=true↔wK w s < w.length∧(w.getD (wK w s) default).seq=s:=by
 unfold Jn
 rw [List.any_eq_true]
 constructor
 ·rintro ⟨x,hx,e⟩
  have e:x.seq=s:=by simpa using e
  obtain⟨k,hk,rfl⟩:=List.getElem_of_mem hx
  have hg:w.getD k default=w[k]:=by rw [List.getD_eq_getElem?_getD,List.getElem?_eq_getElem hk];rfl
  have:wK w s=k:=z5V (by omega) (fun j hj=>by have:=J0 h hj hk;rw [hg,e] at this;exact this) (fun _=>by rw [hg,e];omega)
  rw [this]
  exact⟨hk,by rw [hg];exact e⟩
 ·rintro ⟨h1,h2⟩
  refine⟨_,List.mem_of_getElem? (z2P h1),by simpa using h2⟩
theorem z3Y (r:List It) (i:It):(QZ r i).length≤r.length+1:=by
 unfold QZ;split<;>simp<;>omega
theorem z3Z:∀ (w:List It) (f:Fed),(xD w f).1.ring.length+(xD w f).1.win.length≤f.ring.length+w.length∧(xD w f).1.log.length+(xD w f).1.win.length=f.log.length+w.length ∧
  (xD w f).2.length+(xD w f).1.win.length=w.length∧(xD w f).1.next=f.next+(xD w f).2.length∧(xD w f).1.top=f.top∧(∀ x ∈ (xD w f).1.win,x ∈ w):=by
 intro w
 induction w with
 | nil=>intro f;simp [xD]
 | cons x w ih =>
  intro f
  unfold xD
  by_cases hx:x.seq=f.next
  ·simp only [if_pos hx]
   obtain⟨a,b,c,d,e,g⟩:=ih (KQ f x w)
   have rl:=z3Y f.ring x
   have t1:(KQ f x w).ring.length=(QZ f.ring x).length:=rfl
   have t2:(KQ f x w).log.length=f.log.length+1:=by simp [KQ]
   have t3:(KQ f x w).next=f.next+1:=rfl
   have t4:(KQ f x w).top=f.top:=rfl
   rw [t1] at a
   rw [t2] at b
   rw [t3] at d
   rw [t4] at e
   simp only [List.length_cons]
   refine⟨?_,?_,?_,?_,e,fun y hy=>List.mem_cons_of_mem _ (g y hy)⟩<;>omega
  ·simp [if_neg hx]
def tired (f:Fed):Bool:=decide (3≤f.tries)
def zcT (f:Fed) (now:Int):Bool:=decide (f.tries=0) || decide (f.due≤now)
structure Bd (f:Fed) (k:Nat):Prop where
 r:f.ring.length+f.win.length≤700000
 l:f.log.length+2 * f.win.length+k≤700000
 n0:-4000000000≤f.next
 n1:f.next+f.win.length≤4000000000
 w:∀ x ∈ f.win,-4000000000≤x.seq∧x.seq≤4000000000
structure zg5 (f:Fed):Prop where
 r:f.ring.length≤1000000
 w:f.win.length≤1000000
 l:f.log.length≤1000000
theorem VH (f:Fed):f.tells.1.ring=(xD f.win f).1.ring∧f.tells.1.win=(xD f.win f).1.win∧f.tells.1.log=(xD f.win f).1.log∧f.tells.1.next=(xD f.win f).1.next∧f.tells.1.top=(xD f.win f).1.top∧f.tells.2=(xD f.win f).2:=by
 unfold Fed.tells
 split
 ·rename_i h;exact⟨rfl,rfl,rfl,rfl,rfl,h.symm⟩
 ·exact⟨rfl,rfl,rfl,rfl,rfl,rfl⟩
theorem Bd.tells {f:Fed} {k:Nat} (h:Bd f k):Bd f.tells.1 (k+f.tells.2.length)∧f.tells.2.length+f.tells.1.win.length=f.win.length:=by
 obtain⟨a,b,c,d,e,g⟩:=z3Z f.win f
 obtain⟨t1,t2,t3,t4,t5,t6⟩:=VH f
 have h1:=h.r
 have h2:=h.l
 have h3:=h.n0
 have h4:=h.n1
 rw [← t1,← t2] at a
 rw [← t3,← t2] at b
 rw [← t6,← t2] at c
 rw [← t4,← t6] at d
 rw [← t2] at g
 exact⟨⟨by omega,by omega,by omega,by omega,fun x hx=>h.w x (g x hx)⟩,c⟩
theorem Bd.skip {f:Fed} {k:Nat} (h:Bd f (k+1)) {last why:Int} (h1:f.next≤last) (h2:last≤1000000):Bd (XK f last why) k:=by
 have a:=h.r
 have b:=h.l
 have c:=h.n0
 have e1:(XK f last why).log.length=f.log.length+1:=by simp [XK]
 have e2:(XK f last why).next=last+1:=rfl
 have e3:(XK f last why).win=f.win:=rfl
 have e4:(XK f last why).ring=f.ring:=rfl
 exact⟨by rw [e3,e4];exact a,by rw [e1,e3];omega,by omega,by rw [e2,e3];omega,h.w⟩
theorem Bd.weaken {f:Fed} {k m:Nat} (h:Bd f k) (hm:m≤k):Bd f m:=⟨h.r,by have:=h.l;omega,h.n0,h.n1,h.w⟩
theorem z6T {f:Fed} {hi:Int}:(kj f hi).1≤hi:=by
 unfold kj
 split
 ·split
  ·simp only;omega
  ·exact Int.le_refl _
 ·exact Int.le_refl _
def skips (f:Fed) (hi why:Int):Fed × List Sp:=if f.next < 1∨1000000 < hi then (f,[]) else match QB (f.win.length+1) f hi why [] with
 | some (g,o)=>(if g.next≠f.next then g.rest else g,o)
 | none=>(f,[])
theorem Wh {hi why:Int}:∀ (n:Nat) (f:Fed) (out:List Sp),f.win.length < n→∃ r,QB n f hi why out=some r:=by
 intro n
 induction n with
 | zero=>intro f out h;omega
 | succ n ih =>
  intro f out h
  unfold QB
  by_cases c:f.next≤hi
  ·rw [if_pos c]
   simp only
   have hf1:(if f.next≤(kj f hi).1 then XK f (kj f hi).1 why else f).win=f.win:=by split<;>rfl
   generalize (if f.next≤(kj f hi).1 then XK f (kj f hi).1 why else f)=g at *
   by_cases c1:(kj f hi).2=true
   ·rw [if_pos c1]
    by_cases c2:g.tells.2=[]
    ·rw [if_pos c2];exact⟨_,rfl⟩
    ·rw [if_neg c2]
     refine ih _ _ ?_
     obtain⟨_,_,c3,_⟩:=z3Z g.win g
     obtain⟨_,t2,_,_,_,t6⟩:=VH g
     rw [← t2,← t6,hf1] at c3
     have:=List.length_pos_iff.2 c2
     omega
   ·rw [if_neg c1];exact⟨_,rfl⟩
  ·rw [if_neg c];exact⟨_,rfl⟩
def Fed.comes (f:Fed) (i:It):Fed:=if f.next=0∨i.seq < 1∨1000000 < i.seq∨12 < i.text.length then f else
 ({ f.knows i.seq with win:=(put (f.knows i.seq).win (f.knows i.seq).next i).1 }:Fed).tells.1
def Fed.tried (f:Fed) (now:Int):Fed:={ f with tries:=f.tries+1,due:=now+2 * 2 ^ (max (min f.tries 3) 0).toNat }
def Fed.tick (f:Fed) (now:Int):Fed × Sp × Bool :=
 if (z8C f).2=false∨zcT f now=false then (f,(0,0),false) else if tired f=true then ((skips f (z8C f).1.2 2).1.tells.1,(0,0),false) else (f.tried now,(z8C f).1,true)
theorem z6U {hi why:Int} (hh:hi≤1000000):∀ (n:Nat) (f:Fed) (out:List Sp) (g:Fed) (o:List Sp),QB n f hi why out=some (g,o)→∀ k,Bd f (k+1)→Bd g k∧g.win.length≤f.win.length:=by
 intro n
 induction n with
 | zero=>intro f out g o h;cases h
 | succ n ih =>
  intro f out g o h k hb
  unfold QB at h
  by_cases c:f.next≤hi
  ·rw [if_pos c] at h
   simp only at h
   have hle:=z6T (f:=f) (hi:=hi)
   generalize kj f hi=a at *
   have b1:∃ f1 o1,(if f.next≤a.1 then XK f a.1 why else f)=f1∧(if f.next≤a.1 then out++[(f.next,a.1)] else out)=o1∧Bd f1 k∧f1.win=f.win:=by
    by_cases c1:f.next≤a.1
    ·exact⟨_,_,rfl,rfl,by rw [if_pos c1];exact hb.skip c1 (by omega),by rw [if_pos c1];rfl⟩
    ·exact⟨_,_,rfl,rfl,by rw [if_neg c1];exact hb.weaken (by omega),by rw [if_neg c1]⟩
   obtain⟨f1,o1,e1,e2,b1,hw⟩:=b1
   rw [e1,e2] at h
   split at h
   ·have tb:=b1.tells
    split at h
    ·simp only [Option.some.injEq,Prod.mk.injEq] at h
     obtain⟨rfl,rfl⟩:=h
     exact⟨tb.1.weaken (by omega),by have:=tb.2;rw [← hw];omega⟩
    ·rename_i hne
     have hpos:=List.length_pos_iff.2 hne
     have:=ih _ _ g o h k (tb.1.weaken (by omega))
     exact⟨this.1,by have:=this.2;have:=tb.2;rw [← hw];omega⟩
   ·simp only [Option.some.injEq,Prod.mk.injEq] at h
    obtain⟨rfl,rfl⟩:=h
    exact⟨b1,by rw [hw];exact Nat.le_refl _⟩
  ·rw [if_neg c] at h
   simp only [Option.some.injEq,Prod.mk.injEq] at h
   obtain⟨rfl,rfl⟩:=h
   exact⟨hb.weaken (by omega),Nat.le_refl _⟩
theorem Bd.skips {f:Fed} {k:Nat} (h:Bd f (k+1)) (hi why:Int):Bd (skips f hi why).1 k:=by
 unfold Go.Feed.skips
 split
 ·exact h.weaken (by omega)
 ·rename_i c
  obtain⟨⟨g,o⟩,e⟩:=Wh (hi:=hi) (why:=why) (f.win.length+1) f [] (by omega)
  rw [e]
  have:=(z6U (by omega) _ _ _ _ _ e k h).1
  simp only
  split
  ·exact⟨this.r,this.l,this.n0,this.n1,this.w⟩
  ·exact this
theorem Bd.knows {f:Fed} {k:Nat} (h:Bd f k) (t:Int):Bd (f.knows t) k:=by
 unfold Fed.knows;split
 ·exact⟨h.r,h.l,h.n0,h.n1,h.w⟩
 ·exact h
theorem z6V {r:List It} (h:r.length≤6) (i:It):(QZ r i).length≤6:=by
 unfold QZ;split
 ·exact h
 ·simp;omega
structure Inv (f:Fed):Prop where
 so:Xs f.win
 ge:∀ x ∈ f.win,f.next≤x.seq
 rg:f.ring.length≤6
 tr:0≤f.tries
theorem z6W:∀ (w:List It) (f:Fed),Xs w→(∀ x ∈ w,f.next≤x.seq)→f.ring.length≤6→Xs (xD w f).1.win∧(∀ x ∈ (xD w f).1.win,(xD w f).1.next < x.seq)∧(xD w f).1.ring.length≤6∧(xD w f).1.tries=f.tries∧(xD w f).1.due=f.due:=by
 intro w
 induction w with
 | nil=>intro f _ _ h;exact⟨List.Pairwise.nil,fun x hx=>by simp [xD] at hx,h,rfl,rfl⟩
 | cons x w ih =>
  intro f hs hg hr
  have hs':=List.pairwise_cons.1 hs
  unfold xD
  by_cases hx:x.seq=f.next
  ·simp only [if_pos hx]
   exact ih (KQ f x w) hs'.2 (fun y hy=>by have:=hs'.1 y hy;show f.next+1≤y.seq;omega) (z6V hr x)
  ·simp only [if_neg hx]
   have h0:=hg x List.mem_cons_self
   refine⟨hs,fun y hy=>?_,hr,by first | trivial | rfl,by first | trivial | rfl⟩
   rcases List.mem_cons.1 hy with rfl | hy
   ·show f.next < y.seq;omega
   ·have:=hs'.1 y hy;show f.next < y.seq;omega
theorem Inv.tells {f:Fed} (h:Inv f):Inv f.tells.1∧∀ x ∈ f.tells.1.win,f.tells.1.next < x.seq:=by
 obtain⟨a,b,c,d,e⟩:=z6W f.win f h.so h.ge h.rg
 obtain⟨t1,t2,t3,t4,t5,t6⟩:=VH f
 refine⟨⟨by rw [t2];exact a,fun x hx=>?_,by rw [t1];exact c,?_⟩,fun x hx=>?_⟩
 ·rw [t2] at hx;rw [t4];exact Int.le_of_lt (b x hx)
 ·unfold Fed.tells;split
  ·show 0≤(xD f.win f).1.tries
   rw [d];exact h.tr
  ·exact Int.le_refl _
 ·rw [t2] at hx;rw [t4];exact b x hx
theorem z5t {w:List It} (h:Xs w) (n:Int) (x:It):Xs (put w n x).1:=by
 unfold put
 split
 ·exact h
 ·rename_i c
  have c1:¬ Jn w x.seq=true:=fun e=>c (Or.inl e)
  have hlt:∀ y ∈ w.take (wK w x.seq),y.seq < x.seq:=fun y hy=>by
   obtain⟨k,hk,rfl⟩:=List.getElem_of_mem hy
   have hk2:k < wK w x.seq:=by simp at hk;omega
   have:=z9P hk2
   simp only [List.getElem_take]
   have hk3:k < w.length:=by simp at hk;omega
   rw [List.getD_eq_getElem?_getD,List.getElem?_eq_getElem hk3] at this
   exact this
  have hgt:∀ y ∈ w.drop (wK w x.seq),x.seq < y.seq:=fun y hy=>by
   obtain⟨k,hk,rfl⟩:=List.getElem_of_mem hy
   simp only [List.getElem_drop]
   simp only [List.length_drop] at hk
   have h0:=z9Q (w:=w) (s:=x.seq) (by omega)
   have hk3:wK w x.seq+k < w.length:=by omega
   have hne:(w.getD (wK w x.seq) default).seq≠x.seq:=fun e=>c1 ((VG h x.seq).2 ⟨by omega,e⟩)
   have h1:x.seq < (w.getD (wK w x.seq) default).seq:=by omega
   have hg:w[wK w x.seq+k]=w.getD (wK w x.seq+k) default:=by rw [List.getD_eq_getElem?_getD,List.getElem?_eq_getElem hk3];rfl
   rw [hg]
   by_cases hk0:k=0
   ·subst hk0;exact h1
   ·have:=J0 h (k:=wK w x.seq) (m:=wK w x.seq+k) (by omega) hk3
    omega
  simp only
  rw [List.append_assoc]
  refine List.pairwise_append.2 ⟨h.sublist (List.take_sublist _ _),List.pairwise_cons.2 ⟨hgt,h.sublist (List.drop_sublist _ _)⟩,fun a ha b hb=>?_⟩
  rcases List.mem_cons.1 hb with rfl | hb
  ·exact hlt a ha
  ·exact Int.lt_trans (hlt a ha) (hgt b hb)
theorem z5u {f:Fed} (h:Inv f) (hi:Int):kj f hi=match f.win with
  | []=>(hi,false)
  | x::_=>if x.seq≤hi then (x.seq - 1,true) else (hi,false):=by
 unfold kj
 cases hw:f.win with
 | nil=>rfl
 | cons x w =>
  have:=h.ge x (by rw [hw];exact List.mem_cons_self)
  simp [this]
theorem Inv.skip {f:Fed} (h:Inv f) {hi:Int} {why:Int} (hh:f.next≤hi):Inv (if f.next≤(kj f hi).1 then XK f (kj f hi).1 why else f):=by
 split
 ·refine⟨h.so,fun x hx=>?_,h.rg,h.tr⟩
  show (kj f hi).1+1≤x.seq
  rw [z5u h]
  have hx:x ∈ f.win:=hx
  cases hw:f.win with
  | nil=>rw [hw] at hx;cases hx
  | cons y w =>
   have hy:y.seq≤x.seq:=by
    rw [hw] at hx
    rcases List.mem_cons.1 hx with rfl | hx
    ·exact Int.le_refl _
    ·have hs:=h.so
     rw [hw] at hs
     exact Int.le_of_lt ((List.pairwise_cons.1 hs).1 x hx)
   simp only
   split
   ·simp only;omega
   ·simp only;omega
 ·exact h
theorem Inv.knows {f:Fed} (h:Inv f) (t:Int):Inv (f.knows t):=by
 unfold Fed.knows;split
 ·exact⟨h.so,h.ge,h.rg,h.tr⟩
 ·exact h
theorem Bd.rest {f:Fed} {k:Nat} (h:Bd f k):Bd f.rest k:=⟨h.r,h.l,h.n0,h.n1,h.w⟩
theorem Inv.skips {f:Fed} (h:Inv f) (hi why:Int):Inv (skips f hi why).1:=by
 unfold Go.Feed.skips
 split
 ·exact h
 ·rename_i c
  have key:∀ (n:Nat) (f:Fed) (out:List Sp) (g:Fed) (o:List Sp),QB n f hi why out=some (g,o)→Inv f→Inv g:=by
   intro n
   induction n with
   | zero=>intro f out g o h;cases h
   | succ n ih =>
    intro f out g o h hv
    unfold QB at h
    by_cases c:f.next≤hi
    ·rw [if_pos c] at h
     have hiv:=hv.skip (why:=why) c
     simp only at h
     generalize (if f.next≤(kj f hi).1 then XK f (kj f hi).1 why else f)=f1 at *
     split at h
     ·split at h
      ·simp only [Option.some.injEq,Prod.mk.injEq] at h
       obtain⟨rfl,rfl⟩:=h
       exact hiv.tells.1
      ·exact ih _ _ _ _ h hiv.tells.1
     ·simp only [Option.some.injEq,Prod.mk.injEq] at h
      obtain⟨rfl,rfl⟩:=h
      exact hiv
    ·rw [if_neg c] at h
     simp only [Option.some.injEq,Prod.mk.injEq] at h
     obtain⟨rfl,rfl⟩:=h
     exact hv
  obtain⟨⟨g,o⟩,e⟩:=Wh (hi:=hi) (why:=why) (f.win.length+1) f [] (by omega)
  rw [e]
  have:=key _ _ _ _ _ e h
  simp only
  split
  ·exact⟨this.so,this.ge,this.rg,Int.le_refl _⟩
  ·exact this
end Go.Feed
