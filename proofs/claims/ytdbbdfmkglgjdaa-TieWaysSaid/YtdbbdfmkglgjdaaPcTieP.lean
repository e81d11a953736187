/- Messages that are made of choices. -/
import Derived.Test.YtdbbdfmkglgjdaaPcTieS
set_option linter.unusedVariables false
set_option linter.unusedSimpArgs false
namespace Go.Proofs.Ytdbbdfmkglgjdaa.Pi
open Go.Ab Go.Feed Go.Kids Go.Tie
set_option maxRecDepth 100000
def Pq (Q:z3) (p:Nat) (l:List Int):Prop:=Pk Q p l∧p < Q.size
theorem Pq.ab {Q Q':z3} {p:Nat} {l:List Int} (h:Pq Q p l) (a:Ab Q.size Q Q'):Pq Q' p l:=by
 obtain⟨⟨n,hn,hg⟩,hs⟩:=h
 exact⟨⟨n,hn,by rw [a.get p hs];exact hg⟩,Nat.lt_of_lt_of_le hs a.size⟩
structure Ps (l:List Int):Prop where
 len:l.length≤1000
 b:Bs l
section
variable {Q:z3} {p:Nat} {l:List Int}
theorem vN (h:Pq Q p l) (hl:Ps l) {m:Int} (hm:1≤m∧m≤1000):∃ (v:Int) (Q':z3),zd (z8 P1) 13 [.ptr p 0,.int .i64 m] Q=some (.int .i64 v,Q')∧(0≤v∧v < m)∧Pq Q' p l:=by
 obtain⟨v,Q',e,hv,hp,ho⟩:=zai h.1 hl.len hl.b hm
 exact⟨v,Q',e,hv,hp,by rw [ho.1];exact h.2⟩
theorem zaR (h:Pq Q p l) (hl:Ps l):∃ b,zd (z8 P1) 17 [.ptr p 0] Q=some (.bool b,Q):=zaI h.1 hl.len
theorem zaS (l:List Int) (Q:z3):∃ p Q',zd (z8 P1) 12 [.fz 1 (l.map (AV.int .u8))] Q=some (.ptr p 0,Q')∧Pq Q' p l:=by
 obtain⟨Q',e,hp,hs,_⟩:=zaJ (l:=l) Q
 exact⟨Q.size,Q',e,hp,by omega⟩
theorem zaT (h:Pq Q p l) (hl:Ps l):∃ (t:List UInt8) (Q':z3),zd (z8 P1) 47 [.ptr p 0] Q=some (.str t,Q')∧t.length≤12∧Pq Q' p l:=by
 obtain⟨t,Q',e,ht,hp,ho⟩:=zaK h.1 hl.len hl.b
 exact⟨t,Q',e,ht,hp,by rw [ho.1];exact h.2⟩
theorem z6G (hl:Ps l):∀ (m:Nat) (Q:z3) (w:List Int),m≤10→Pq Q p l→jJ w→w.length+m≤5→∃ (w':List Int) (Q':z3),
  qa P1 (.ptr p 0) (.fz 1 (ints w)) (.int .i64 m) Q=wW (.fz 1 (ints w')) Q'∧jJ w'∧w'.length≤5∧Pq Q' p l:=by
 intro m
 induction m with
 | zero =>
  intro Q w hm h hw hn
  refine⟨w,Q,?_,hw,by omega,h⟩
  rw [jh,jX]
  simp
 | succ m ih =>
  intro Q w hm h hw hn
  obtain⟨v,Q1,e1,hv,h1⟩:=vN h hl (m:=7) (by omega)
  have w1:=w64 (i:=2+v) (by omega) (by omega)
  have w2:=w64 (i:=(m:Int)+1 - 1) (by omega) (by omega)
  rw [Int.add_sub_cancel] at w2
  have ap:=fun Q=>z6F (Q:=Q) (Sl.fz 1 (ints w)) (by omega) (2+v)
  have c0:(0 < (m:Int)+1)=True:=eq_true (by omega)
  rw [jh,jX]
  by_cases c:jJ (w++[2+v])
  ·simp only [if_pos c] at ap
   obtain⟨w',Q',lp,k1,k2,k3⟩:=ih Q1 (w++[2+v]) (by omega) h1 c (by simp;omega)
   refine⟨w',Q',?_,k1,k2,k3⟩
   generalize w++[2+v]=W at *
   simp [e1,w1,ap,c0,jW,Int.add_sub_cancel,w2]
   rw [xg,lp]
  ·simp only [if_neg c] at ap
   obtain⟨w',Q',lp,k1,k2,k3⟩:=ih Q1 w (by omega) h1 hw (by omega)
   refine⟨w',Q',?_,k1,k2,k3⟩
   simp [e1,w1,ap,c0,jW,Int.add_sub_cancel,w2]
   rw [xg,lp]
theorem z5b (h:Pq Q p l) (hl:Ps l):∃ (w:List Int) (Q':z3),zd (z8 P1) 21 [.ptr p 0] Q=some (.fz 1 (ints w),Q')∧jJ w∧w.length≤5∧Pq Q' p l:=by
 obtain⟨v,Q1,e1,hv,h1⟩:=vN h hl (m:=4) (by omega)
 obtain⟨w',Q',lp,k1,k2,k3⟩:=z6G hl v.toNat Q1 [1] (by omega) h1 (by decide) (by simp;omega)
 rw [show ((v.toNat:Nat):Int)=v by omega] at lp
 refine⟨w',Q',?_,k1,k2,k3⟩
 rw [YD rfl]
 simp only [ints,List.map_cons,List.map_nil] at lp
 simp [e1]
 rw [xg,lp]
 simp [ZE]
structure Pm (id:Int) (m:Msg):Prop where
 kind:1≤m.kind∧m.kind≤9
 frm:1≤m.frm∧m.frm≤8
 ne:m.frm≠id
 to:m.to=id
 inc:1≤m.inc∧m.inc≤20
 i3:m.inc≤3
 epoch:0≤m.epoch∧m.epoch≤40
 age:0≤m.age∧m.age≤40
 path:m.path.length≤5
 may:m.kind=2∨m.kind=5→jJ m.path
 no:¬ (m.kind=2∨m.kind=5)→m.path=[]
theorem Pm.mb {id:Int} {m:Msg} (h:Pm id m):Mb m:=⟨by have:=h.age;omega,by have:=h.epoch;omega,by have:=h.path;omega⟩
theorem zaU {id:Int} {m:Msg} (h:Pm id m):Sl 1 (ints m.path) (mpv m):=by
 unfold mpv
 by_cases c:m.kind=2∨m.kind=5
 ·rw [if_pos c];exact Sl.fz _ _
 ·rw [if_neg c,h.no c];exact Sl.nil 1
theorem zcQ (h:Pq Q p l) (hl:Ps l) {id:Int} (hi:1≤id∧id≤8):∃ (m:Msg) (Q':z3),zd (z8 P1) 20 [.ptr p 0,.int .i64 id] Q=some (Msg.v m,Q')∧Pm id m∧Pq Q' p l:=by
 obtain⟨f0,Q1,e1,hf0,h1⟩:=vN h hl (m:=8) (by omega)
 have w1:=w64 (i:=1+f0) (by omega) (by omega)
 have tm:id.tmod 8=id % 8:=Int.tmod_eq_emod_of_nonneg (by omega)
 have w2:=w64 (i:=id % 8) (by omega) (by omega)
 have w3:=w64 (i:=1+id % 8) (by omega) (by omega)
 obtain⟨k0,Q2,e2,hk,h2⟩:=vN h1 hl (m:=9) (by omega)
 obtain⟨i0,Q3,e3,hi0,h3⟩:=vN h2 hl (m:=3) (by omega)
 have w4:=w64 (i:=1+k0) (by omega) (by omega)
 have w5:=w64 (i:=1+i0) (by omega) (by omega)
 have key:∀ (frm:Int),(1≤frm∧frm≤8)→frm≠id→∃ (m:Msg) (Q':z3),z5 (zd (z8 P1)) (zj (z8 P1)) xl [(0,.v (.ptr p 0)),(1,.v (.int .i64 id)),(4,.lp 4 0),(5,.v (.int .i64 frm))] [(4,.cells [.int .i64 0,.int .i64 0,.int .i64 0,.int .i64 0,.int .i64 0,.int .i64 0,.nils,.int .i64 0,.int .i64 0,.str []])] Q1 (zu [.cell 4 (some 10)] [.n])=some (Msg.v m,Q')∧Pm id m∧Pq Q' p l:=fun frm hf hne=>by
  rw [Y9]
  have u2:IntKind.i64.wrap 2=2:=w64 (by decide) (by decide)
  have u5:IntKind.i64.wrap 5=5:=w64 (by decide) (by decide)
  have u7:IntKind.i64.wrap 7=7:=w64 (by decide) (by decide)
  have u8:IntKind.i64.wrap 8=8:=w64 (by decide) (by decide)
  have u9:IntKind.i64.wrap 9=9:=w64 (by decide) (by decide)
  by_cases c2:k0=1
  ·subst c2
   obtain⟨x,Q4,e4,hx,h4⟩:=vN h3 hl (m:=20) (by omega)
   obtain⟨y,Q5,e5,hy,h5⟩:=vN h4 hl (m:=25) (by omega)
   obtain⟨w,Q6,e6,hw,hwl,h6⟩:=z5b h5 hl
   obtain⟨z,Q7,e7,hz,h7⟩:=vN h6 hl (m:=9) (by omega)
   refine⟨⟨2,frm,id,1+i0,x,y,w,z,0,[]⟩,Q7,?_,⟨by simp,hf,hne,rfl,by simp;omega,by simp;omega,by simp;omega,by simp;omega,by simpa using hwl,fun _=>hw,fun c=>absurd (Or.inl rfl) c⟩,h7⟩
   simp [Msg.v,mpv,e2,e3,u2,u5,u7,u8,u9,e4,e5,e6,e7,w4,w5,yc]
  by_cases c5:k0=4
  ·subst c5
   obtain⟨x,Q4,e4,hx,h4⟩:=vN h3 hl (m:=20) (by omega)
   obtain⟨y,Q5,e5,hy,h5⟩:=vN h4 hl (m:=25) (by omega)
   obtain⟨w,Q6,e6,hw,hwl,h6⟩:=z5b h5 hl
   obtain⟨z,Q7,e7,hz,h7⟩:=vN h6 hl (m:=12) (by omega)
   refine⟨⟨5,frm,id,1+i0,x,y,w,0,z,[]⟩,Q7,?_,⟨by simp,hf,hne,rfl,by simp;omega,by simp;omega,by simp;omega,by simp;omega,by simpa using hwl,fun _=>hw,fun c=>absurd (Or.inr rfl) c⟩,h7⟩
   simp [Msg.v,mpv,e2,e3,u2,u5,u7,u8,u9,e4,e5,e6,e7,w4,w5,yc]
  by_cases c7:k0=6
  ·subst c7
   obtain⟨x,Q4,e4,hx,h4⟩:=vN h3 hl (m:=12) (by omega)
   obtain⟨t,Q5,e5,ht,h5⟩:=zaT h4 hl
   have w6:=w64 (i:=1+x) (by omega) (by omega)
   refine⟨⟨7,frm,id,1+i0,0,0,[],1+x,0,t⟩,Q5,?_,⟨by simp,hf,hne,rfl,by simp;omega,by simp;omega,by simp,by simp,by simp,fun c=>by simp at c,fun _=>rfl⟩,h5⟩
   simp [Msg.v,mpv,e2,e3,u2,u5,u7,u8,u9,e4,e5,w4,w5,w6,yc]
  by_cases c8:k0=7∨k0=8
  ·obtain⟨x,Q4,e4,hx,h4⟩:=vN h3 hl (m:=9) (by omega)
   obtain⟨y,Q5,e5,hy,h5⟩:=vN h4 hl (m:=6) (by omega)
   have w6:=w64 (i:=1+x) (by omega) (by omega)
   have w7:=w64 (i:=1+x+y) (by omega) (by omega)
   have nk:¬ (1+k0=2∨1+k0=5):=by omega
   refine⟨⟨1+k0,frm,id,1+i0,0,0,[],1+x,1+x+y,[]⟩,Q5,?_,⟨by simp;omega,hf,hne,rfl,by simp;omega,by simp;omega,by simp,by simp,by simp,fun c=>absurd c nk,fun _=>rfl⟩,h5⟩
   rcases c8 with rfl | rfl
   ·simp [Msg.v,mpv,e2,e3,u2,u5,u7,u8,u9,e4,e5,w4,w5,w6,w7,yc,qu]
   ·simp [Msg.v,mpv,e2,e3,u2,u5,u7,u8,u9,e4,e5,w4,w5,w6,w7,yc,qu]
  ·have nk:¬ (1+k0=2∨1+k0=5):=by omega
   have n2:¬ 1+k0=2:=by omega
   have n5:¬ 1+k0=5:=by omega
   have n7:¬ 1+k0=7:=by omega
   have n8:¬ 1+k0=8:=by omega
   have n9:¬ 1+k0=9:=by omega
   refine⟨⟨1+k0,frm,id,1+i0,0,0,[],0,0,[]⟩,Q3,?_,⟨by simp;omega,hf,hne,rfl,by simp;omega,by simp;omega,by simp,by simp,by simp,fun c=>absurd c nk,fun _=>rfl⟩,h3⟩
   simp [Msg.v,mpv,e2,e3,u2,u5,u7,u8,u9,w4,w5,n2,n5,n7,n8,n9,yc,qu]
 rw [Xm rfl]
 by_cases c:1+f0=id
 ·obtain⟨m,Q',e,k1,k2⟩:=key (1+id % 8) (by omega) (by omega)
  refine⟨m,Q',?_,k1,k2⟩
  rw [← e]
  simp [e1,w1,eq_true c,tm,w2,w3]
 ·obtain⟨m,Q',e,k1,k2⟩:=key (1+f0) (by omega) c
  refine⟨m,Q',?_,k1,k2⟩
  rw [← e]
  simp [e1,w1,c]
end
end Go.Proofs.Ytdbbdfmkglgjdaa.Pi
