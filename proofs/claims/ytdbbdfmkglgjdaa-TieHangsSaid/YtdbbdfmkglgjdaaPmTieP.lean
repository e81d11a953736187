/- Messages that are made of choices. -/
import Derived.Test.YtdbbdfmkglgjdaaPcTie8
import Derived.Test.YtdbbdfmkglgjdaaPmTie
set_option linter.unusedVariables false
set_option linter.unusedSimpArgs false
namespace Go.Proofs.Ytdbbdfmkglgjdaa.Pi
open Go.Ab Go.Feed Go.Kids Go.Tie
set_option maxRecDepth 100000
def Pq (Q:z3) (p:Nat) (l:List Int):Prop:=Pk Q p l∧p < Q.size
theorem Pq.ab {Q Q':z3} {p:Nat} {l:List Int} (h:Pq Q p l) (a:Ab Q.size Q Q'):Pq Q' p l:=by
 obtain⟨⟨n,hn,hg⟩,hs⟩:=h
 exact⟨⟨n,hn,by rw [a.get p hs];exact hg⟩,Nat.lt_of_lt_of_le hs a.size⟩
structure Ps (l:List Int):Prop where
 len:l.length≤1000
 b:Bs l
section
variable {Q:z3} {p:Nat} {l:List Int}
theorem jQ (h:Pq Q p l) (hl:Ps l) {m:Int} (hm:1≤m∧m≤1000):∃ (v:Int) (Q':z3),zc (z6 P1) 13 [.ptr p 0,.int .i64 m] Q=some (.int .i64 v,Q')∧(0≤v∧v < m)∧Pq Q' p l:=by
 obtain⟨v,Q',e,hv,hp,ho⟩:=zc1 h.1 hl.len hl.b hm
 exact⟨v,Q',e,hv,hp,by rw [ho.1];exact h.2⟩
theorem zcA (h:Pq Q p l) (hl:Ps l):∃ b,zc (z6 P1) 17 [.ptr p 0] Q=some (.bool b,Q):=zcq h.1 hl.len
theorem zaf (l:List Int) (Q:z3):∃ p Q',zc (z6 P1) 12 [.fz 1 (l.map (AV.int .u8))] Q=some (.ptr p 0,Q')∧Pq Q' p l:=by
 obtain⟨Q',e,hp,hs,_⟩:=zcr (l:=l) Q
 exact⟨Q.size,Q',e,hp,by omega⟩
theorem zcB (h:Pq Q p l) (hl:Ps l):∃ (t:List UInt8) (Q':z3),zc (z6 P1) 47 [.ptr p 0] Q=some (.str t,Q')∧t.length≤12∧Pq Q' p l:=by
 obtain⟨t,Q',e,ht,hp,ho⟩:=zcs h.1 hl.len hl.b
 exact⟨t,Q',e,ht,hp,by rw [ho.1];exact h.2⟩
theorem z8z (hl:Ps l):∀ (m:Nat) (Q:z3) (w:List Int),m≤10→Pq Q p l→kj w→w.length+m≤5→∃ (w':List Int) (Q':z3),
  qt P1 (.ptr p 0) (.fz 1 (ints w)) (.int .i64 m) Q=Zw (.fz 1 (ints w')) Q'∧kj w'∧w'.length≤5∧Pq Q' p l:=by
 intro m
 induction m with
 | zero =>
  intro Q w hm h hw hn
  refine⟨w,Q,?_,hw,by omega,h⟩
  rw [jx,kH]
  simp
 | succ m ih =>
  intro Q w hm h hw hn
  obtain⟨v,Q1,e1,hv,h1⟩:=jQ h hl (m:=7) (by omega)
  have w1:=w64 (i:=2+v) (by omega) (by omega)
  have w2:=w64 (i:=(m:Int)+1 - 1) (by omega) (by omega)
  rw [Int.add_sub_cancel] at w2
  have ap:=fun Q=>JP (Q:=Q) (Sl.fz 1 (ints w)) (by omega) (2+v)
  have c0:(0 < (m:Int)+1)=True:=eq_true (by omega)
  rw [jx,kH]
  by_cases c:kj (w++[2+v])
  ·simp only [if_pos c] at ap
   obtain⟨w',Q',lp,k1,k2,k3⟩:=ih Q1 (w++[2+v]) (by omega) h1 c (by simp;omega)
   refine⟨w',Q',?_,k1,k2,k3⟩
   generalize w++[2+v]=W at *
   simp [e1,w1,ap,c0,kG,Int.add_sub_cancel,w2]
   rw [xj,lp]
  ·simp only [if_neg c] at ap
   obtain⟨w',Q',lp,k1,k2,k3⟩:=ih Q1 w (by omega) h1 hw (by omega)
   refine⟨w',Q',?_,k1,k2,k3⟩
   simp [e1,w1,ap,c0,kG,Int.add_sub_cancel,w2]
   rw [xj,lp]
theorem z27 (h:Pq Q p l) (hl:Ps l):∃ (w:List Int) (Q':z3),zc (z6 P1) 21 [.ptr p 0] Q=some (.fz 1 (ints w),Q')∧kj w∧w.length≤5∧Pq Q' p l:=by
 obtain⟨v,Q1,e1,hv,h1⟩:=jQ h hl (m:=4) (by omega)
 obtain⟨w',Q',lp,k1,k2,k3⟩:=z8z hl v.toNat Q1 [1] (by omega) h1 (by decide) (by simp;omega)
 rw [show ((v.toNat:Nat):Int)=v by omega] at lp
 refine⟨w',Q',?_,k1,k2,k3⟩
 rw [Xs rfl]
 simp only [ints,List.map_cons,List.map_nil] at lp
 simp [e1]
 rw [xj,lp]
 simp [Yj]
structure Pm (id:Int) (m:Msg):Prop where
 kind:1≤m.kind∧m.kind≤9
 frm:1≤m.frm∧m.frm≤8
 ne:m.frm≠id
 to:m.to=id
 inc:1≤m.inc∧m.inc≤20
 i3:m.inc≤3
 epoch:0≤m.epoch∧m.epoch≤40
 age:0≤m.age∧m.age≤40
 path:m.path.length≤5
 may:m.kind=2∨m.kind=5→kj m.path
 no:¬ (m.kind=2∨m.kind=5)→m.path=[]
theorem Pm.mb {id:Int} {m:Msg} (h:Pm id m):Mb m:=⟨by have:=h.age;omega,by have:=h.epoch;omega,by have:=h.path;omega⟩
theorem z7a {id:Int} {m:Msg} (h:Pm id m):Sl 1 (ints m.path) (mpv m):=by
 unfold mpv
 by_cases c:m.kind=2∨m.kind=5
 ·rw [if_pos c];exact Sl.fz _ _
 ·rw [if_neg c,h.no c];exact Sl.nil 1
theorem zev (h:Pq Q p l) (hl:Ps l) {id:Int} (hi:1≤id∧id≤8):∃ (m:Msg) (Q':z3),zc (z6 P1) 20 [.ptr p 0,.int .i64 id] Q=some (Msg.v m,Q')∧Pm id m∧Pq Q' p l:=by
 obtain⟨f0,Q1,e1,hf0,h1⟩:=jQ h hl (m:=8) (by omega)
 have w1:=w64 (i:=1+f0) (by omega) (by omega)
 have tm:id.tmod 8=id % 8:=Int.tmod_eq_emod_of_nonneg (by omega)
 have w2:=w64 (i:=id % 8) (by omega) (by omega)
 have w3:=w64 (i:=1+id % 8) (by omega) (by omega)
 obtain⟨k0,Q2,e2,hk,h2⟩:=jQ h1 hl (m:=9) (by omega)
 obtain⟨i0,Q3,e3,hi0,h3⟩:=jQ h2 hl (m:=3) (by omega)
 have w4:=w64 (i:=1+k0) (by omega) (by omega)
 have w5:=w64 (i:=1+i0) (by omega) (by omega)
 have key:∀ (frm:Int),(1≤frm∧frm≤8)→frm≠id→∃ (m:Msg) (Q':z3),z5 (zc (z6 P1)) (zi (z6 P1)) xo [(0,.v (.ptr p 0)),(1,.v (.int .i64 id)),(4,.lp 4 0),(5,.v (.int .i64 frm))] [(4,.cells [.int .i64 0,.int .i64 0,.int .i64 0,.int .i64 0,.int .i64 0,.int .i64 0,.nils,.int .i64 0,.int .i64 0,.str []])] Q1 (zp [.cell 4 (some 10)] [.n])=some (Msg.v m,Q')∧Pm id m∧Pq Q' p l:=fun frm hf hne=>by
  rw [YT]
  have u2:IntKind.i64.wrap 2=2:=w64 (by decide) (by decide)
  have u5:IntKind.i64.wrap 5=5:=w64 (by decide) (by decide)
  have u7:IntKind.i64.wrap 7=7:=w64 (by decide) (by decide)
  have u8:IntKind.i64.wrap 8=8:=w64 (by decide) (by decide)
  have u9:IntKind.i64.wrap 9=9:=w64 (by decide) (by decide)
  by_cases c2:k0=1
  ·subst c2
   obtain⟨x,Q4,e4,hx,h4⟩:=jQ h3 hl (m:=20) (by omega)
   obtain⟨y,Q5,e5,hy,h5⟩:=jQ h4 hl (m:=25) (by omega)
   obtain⟨w,Q6,e6,hw,hwl,h6⟩:=z27 h5 hl
   obtain⟨z,Q7,e7,hz,h7⟩:=jQ h6 hl (m:=9) (by omega)
   refine⟨⟨2,frm,id,1+i0,x,y,w,z,0,[]⟩,Q7,?_,⟨by simp,hf,hne,rfl,by simp;omega,by simp;omega,by simp;omega,by simp;omega,by simpa using hwl,fun _=>hw,fun c=>absurd (Or.inl rfl) c⟩,h7⟩
   simp [Msg.v,mpv,e2,e3,u2,u5,u7,u8,u9,e4,e5,e6,e7,w4,w5,yc]
  by_cases c5:k0=4
  ·subst c5
   obtain⟨x,Q4,e4,hx,h4⟩:=jQ h3 hl (m:=20) (by omega)
   obtain⟨y,Q5,e5,hy,h5⟩:=jQ h4 hl (m:=25) (by omega)
   obtain⟨w,Q6,e6,hw,hwl,h6⟩:=z27 h5 hl
   obtain⟨z,Q7,e7,hz,h7⟩:=jQ h6 hl (m:=12) (by omega)
   refine⟨⟨5,frm,id,1+i0,x,y,w,0,z,[]⟩,Q7,?_,⟨by simp,hf,hne,rfl,by simp;omega,by simp;omega,by simp;omega,by simp;omega,by simpa using hwl,fun _=>hw,fun c=>absurd (Or.inr rfl) c⟩,h7⟩
   simp [Msg.v,mpv,e2,e3,u2,u5,u7,u8,u9,e4,e5,e6,e7,w4,w5,yc]
  by_cases c7:k0=6
  ·subst c7
   obtain⟨x,Q4,e4,hx,h4⟩:=jQ h3 hl (m:=12) (by omega)
   obtain⟨t,Q5,e5,ht,h5⟩:=zcB h4 hl
   have w6:=w64 (i:=1+x) (by omega) (by omega)
   refine⟨⟨7,frm,id,1+i0,0,0,[],1+x,0,t⟩,Q5,?_,⟨by simp,hf,hne,rfl,by simp;omega,by simp;omega,by simp,by simp,by simp,fun c=>by simp at c,fun _=>rfl⟩,h5⟩
   simp [Msg.v,mpv,e2,e3,u2,u5,u7,u8,u9,e4,e5,w4,w5,w6,yc]
  by_cases c8:k0=7∨k0=8
  ·obtain⟨x,Q4,e4,hx,h4⟩:=jQ h3 hl (m:=9) (by omega)
   obtain⟨y,Q5,e5,hy,h5⟩:=jQ h4 hl (m:=6) (by omega)
   have w6:=w64 (i:=1+x) (by omega) (by omega)
   have w7:=w64 (i:=1+x+y) (by omega) (by omega)
   have nk:¬ (1+k0=2∨1+k0=5):=by omega
   refine⟨⟨1+k0,frm,id,1+i0,0,0,[],1+x,1+x+y,[]⟩,Q5,?_,⟨by simp;omega,hf,hne,rfl,by simp;omega,by simp;omega,by simp,by simp,by simp,fun c=>absurd c nk,fun _=>rfl⟩,h5⟩
   rcases c8 with rfl | rfl
   ·simp [Msg.v,mpv,e2,e3,u2,u5,u7,u8,u9,e4,e5,w4,w5,w6,w7,yc,qS]
   ·simp [Msg.v,mpv,e2,e3,u2,u5,u7,u8,u9,e4,e5,w4,w5,w6,w7,yc,qS]
  ·have nk:¬ (1+k0=2∨1+k0=5):=by omega
   have n2:¬ 1+k0=2:=by omega
   have n5:¬ 1+k0=5:=by omega
   have n7:¬ 1+k0=7:=by omega
   have n8:¬ 1+k0=8:=by omega
   have n9:¬ 1+k0=9:=by omega
   refine⟨⟨1+k0,frm,id,1+i0,0,0,[],0,0,[]⟩,Q3,?_,⟨by simp;omega,hf,hne,rfl,by simp;omega,by simp;omega,by simp,by simp,by simp,fun c=>absurd c nk,fun _=>rfl⟩,h3⟩
   simp [Msg.v,mpv,e2,e3,u2,u5,u7,u8,u9,w4,w5,n2,n5,n7,n8,n9,yc,qS]
 rw [Ql rfl]
 by_cases c:1+f0=id
 ·obtain⟨m,Q',e,k1,k2⟩:=key (1+id % 8) (by omega) (by omega)
  refine⟨m,Q',?_,k1,k2⟩
  rw [← e]
  simp [e1,w1,eq_true c,tm,w2,w3]
 ·obtain⟨m,Q',e,k1,k2⟩:=key (1+f0) (by omega) c
  refine⟨m,Q',?_,k1,k2⟩
  rw [← e]
  simp [e1,w1,c]
end
end Go.Proofs.Ytdbbdfmkglgjdaa.Pi
/- The root. -/
namespace Go.Tie
open Go.Feed Go.Kids
structure Ir (t:Tie) (n:Int):Prop where
 id:t.id=1
 pa:t.parent=0
 ask:t.asked=0
 path:t.path=[1]
 now:t.now=n
 epoch:t.epoch=n / 2
 born:t.born=n / 2 * 2
theorem Ir.new (g:Int):Ir (New 1 2 0 g) 0:=⟨rfl,rfl,rfl,rfl,rfl,rfl,rfl⟩
end Go.Tie
/- What holds of a node whatever comes. -/
namespace Go.Tie
open Go.Feed Go.Kids
structure Pt (n:Int) (t:Tie):Prop where
 pa:t.parent=0∨t.asked=0
 bn:t.born≤t.now
 pi:t.pinc≤n
 ki:∀ x ∈ t.kids,x.inc≤n
theorem Pt.new {n id inc now g:Int} (hn:0≤n) (h:0≤now):Pt n (New id inc now g):=by
 unfold New
 split
 ·exact⟨Or.inl rfl,Int.le_refl _,hn,by simp⟩
 ·exact⟨Or.inl rfl,h,hn,by simp⟩
theorem Pt.lets {n:Int} {t:Tie} (hn:0≤n) (h:Pt n t) (s:Int):Pt n (lets t s):=⟨Or.inl rfl,h.bn,hn,h.ki⟩
theorem zby (t:Tie):(tick t).1.id=t.id:=by
 have h1:(turned (later t)).id=t.id:=by
  unfold turned;split
  ·rfl
  ·split<;>rfl
 have h2:(Go.Tie.tired (turned (later t))).id=t.id:=by
  unfold Go.Tie.tired;split<;>exact h1
 show (asks (turned (later t))).1.id=t.id
 unfold asks;split
 ·exact h1
 ·split<;>exact h2
theorem Pt.later {n:Int} {t:Tie} (h:Pt n t):Pt n (later t):=⟨h.pa,by have:=h.bn;show t.born≤t.now+1;omega,h.pi,fun x hx=>h.ki x (WA hx)⟩
theorem Pt.turned {n:Int} {t:Tie} (hn:0≤n) (h:Pt n t):Pt n (turned t):=by
 unfold Go.Tie.turned
 split
 ·exact⟨h.pa,Int.le_refl _,h.pi,h.ki⟩
 ·split
  ·exact h.lets hn 0
  ·exact h
theorem Pt.asks {n:Int} {t:Tie} (h:Pt n t):Pt n (asks t).1:=by
 unfold Go.Tie.asks
 split
 ·exact h
 ·rename_i c
  have hp:t.parent=0:=Decidable.byContradiction fun x=>c (Or.inr x)
  have h2:Pt n (Go.Tie.tired t)∧(Go.Tie.tired t).parent=0:=by
   unfold Go.Tie.tired;split
   ·exact⟨⟨Or.inl hp,h.bn,h.pi,h.ki⟩,hp⟩
   ·exact⟨h,hp⟩
  split
  ·exact h2.1
  ·exact⟨Or.inl h2.2,h2.1.bn,h2.1.pi,h2.1.ki⟩
theorem Pt.tick {n:Int} {t:Tie} (hn:0≤n) (h:Pt n t):Pt n (tick t).1:=(h.later.turned hn).asks
theorem Pt.hears {n:Int} {t:Tie} (h:Pt n t) (hs:KS t.kids) {m:Msg} (hm:m.inc≤n):Pt n (hears t m):=by
 refine⟨h.pa,h.bn,h.pi,fun x hx=>?_⟩
 have hx:x ∈ (hear t.kids ⟨m.frm,m.inc,t.now⟩).1:=hx
 cases hk:(hear t.kids ⟨m.frm,m.inc,t.now⟩).2 with
 | true =>
  rcases(Wx hs _ hk x).1 hx with rfl | ⟨h3,_⟩
  ·exact hm
  ·exact h.ki x h3
 | false=>rw [Wy hk] at hx;exact h.ki x hx
theorem Pt.comesK {n:Int} {t:Tie} (hn:0≤n) (h:Pt n t) (hs:KS t.kids) {m:Msg} (hm:m.inc≤n) (ha:0≤m.age) (lo:Int):Pt n (comesK t m lo).1:=by
 unfold Go.Tie.comesK
 split
 ·unfold attach;split
  ·exact h.hears hs hm
  ·exact h
 ·split
  ·unfold accept;split
   ·exact h
   ·split
    ·exact⟨Or.inr rfl,h.bn,h.pi,h.ki⟩
    ·exact⟨Or.inr rfl,by show t.now - m.age≤t.now;omega,hm,h.ki⟩
  ·split
   ·show Pt n (refuse t m)
    unfold refuse;split
    ·exact⟨Or.inr rfl,h.bn,h.pi,h.ki⟩
    ·split
     ·exact h.lets hn 0
     ·exact h
   ·split
    ·unfold beatUp;split
     ·exact h.hears hs hm
     ·exact h
    ·split
     ·unfold beatDn;split
      ·exact h
      ·split
       ·exact h.lets hn 1
       ·show Pt n (z0Y (way t m (m.path++[t.id])) m)
        unfold z0Y;split
        ·exact⟨h.pa,by show t.now - m.age≤t.now;omega,h.pi,h.ki⟩
        ·exact⟨h.pa,h.bn,h.pi,h.ki⟩
     ·split
      ·exact⟨h.pa,h.bn,h.pi,fun x hx=>h.ki x (WA hx)⟩
      ·exact h
theorem Pt.comes {n:Int} {t:Tie} (hn:0≤n) (h:Pt n t) (hs:KS t.kids) {m:Msg} (hm:m.inc≤n) (ha:0≤m.age) (lo:Int):Pt n (comes t m lo).1:=by
 unfold Go.Tie.comes
 split
 ·exact h
 ·unfold gone;split
  ·exact(h.lets hn 0).comesK hn hs hm ha lo
  ·exact h.comesK hn hs hm ha lo
theorem z8A (t:Tie) (m:Msg) (lo:Int):(comesK t m lo).1.id=t.id:=by
 unfold comesK
 split
 ·unfold attach;split<;>rfl
 ·split
  ·unfold accept;split
   ·rfl
   ·split<;>rfl
  ·split
   ·show (refuse t m).id=_;unfold refuse;split
    ·rfl
    ·split<;>rfl
   ·split
    ·unfold beatUp;split<;>rfl
    ·split
     ·unfold beatDn;split
      ·rfl
      ·split
       ·rfl
       ·show (z0Y (way t m (m.path++[t.id])) m).id=_
        unfold z0Y;split<;>rfl
     ·split<;>rfl
theorem zag (t:Tie) (m:Msg) (lo:Int):(comes t m lo).1.id=t.id:=by
 unfold comes
 split
 ·rfl
 ·rw [z8A]
  unfold gone;split<;>rfl
end Go.Tie
