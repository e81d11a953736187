/- Ways. -/
import Derived.Test.YtdbbdfmkglgjdaaPcTieS
import Derived.Test.YtdbbdfmkglgjdaaPcTieP
set_option linter.unusedVariables false
namespace Go.Tie
open Go.Feed Go.Kids
structure Wy (j:Int) (t:Tie):Prop where
 id:t.id=j
 inc:t.inc=2
 way:(t.path=[]∧t.parent=0∧j≠1)∨(jJ t.path∧t.path.getD (t.path.length - 1) 0=j∧(t.parent≠0∨j=1))
 rt:j=1→t.parent=0∧t.asked=0
 par:t.parent=0∨((1≤t.parent∧t.parent≤8)∧t.parent≠j)
 gr:0≤t.grand∧t.grand≤8
 ep:0≤t.epoch
 bn:t.born≤t.now
 kd:∀ x ∈ t.kids,((1≤x.id∧x.id≤8)∧x.id≠j)∧(1≤x.inc∧x.inc≤3)
 kl:(t.kids.length:Int)≤if j=1 then 8 else 3
structure Om (j:Int) (m:Msg):Prop where
 frm:m.frm=j
 inc:m.inc=2
 to:(1≤m.to∧m.to≤8)∧m.to≠j
 rest:((m.kind=1∨m.kind=3∨m.kind=4∨m.kind=6)∧m.epoch=0∧m.age=0∧m.path=[]∧m.lo=0∧m.hi=0∧m.text=[]) ∨
  ((m.kind=2∨m.kind=5)∧(0≤m.epoch∧m.epoch≤1000000)∧(0≤m.age∧m.age≤1000000)∧jJ m.path∧(m.lo=0∨m.kind=2∧m.lo=1)∧m.hi=0∧m.text=[])
theorem Wy.new {id g:Int} (hg:0≤g∧g≤8):Wy id (New id 2 0 g):=by
 unfold New
 by_cases c:id=1
 ·rw [if_pos c]
  exact⟨rfl,rfl,Or.inr ⟨show jJ [1] by decide,c.symm,Or.inr c⟩,fun _=>⟨rfl,rfl⟩,Or.inl rfl,hg,Int.le_refl _,Int.le_refl _,by simp,by simp;split<;>decide⟩
 ·rw [if_neg c]
  exact⟨rfl,rfl,Or.inl ⟨rfl,rfl,c⟩,fun h=>absurd h c,Or.inl rfl,hg,Int.le_refl _,Int.le_refl _,by simp,by simp;split<;>decide⟩
theorem Wy.lets {id:Int} {t:Tie} (h:Wy id t) (hi:id≠1) (s:Int):Wy id (lets t s):=⟨h.id,h.inc,Or.inl ⟨rfl,rfl,hi⟩,fun c=>absurd c hi,Or.inl rfl,h.gr,h.ep,h.bn,h.kd,h.kl⟩
theorem Wy.ne1 {id:Int} {t:Tie} (h:Wy id t) (hp:t.parent≠0):id≠1:=fun c=>hp (h.rt c).1
theorem Wy.later {id:Int} {t:Tie} (h:Wy id t):Wy id (later t):=by
 refine⟨h.id,h.inc,h.way,h.rt,h.par,h.gr,h.ep,by have:=h.bn;show t.born≤t.now+1;omega,fun x hx=>h.kd x (YI hx),?_⟩
 have:=KV (fun x=>decide (20 < t.now+1 - x.heard)) t.kids
 have:=h.kl
 show ((outs (fun x=>decide (20 < t.now+1 - x.heard)) t.kids).length:Int)≤_
 omega
theorem Wy.turned {id:Int} {t:Tie} (h:Wy id t):Wy id (turned t):=by
 unfold Go.Tie.turned
 split
 ·exact⟨h.id,h.inc,h.way,h.rt,h.par,h.gr,by have:=h.ep;show 0≤t.epoch+1;omega,Int.le_refl _,h.kd,h.kl⟩
 ·split
  ·rename_i c
   exact h.lets (fun e=>c.1 (h.id.trans e)) 0
  ·exact h
theorem z9M {id:Int} {t:Tie} (h:Wy id t) (hi:id≠1):(1≤z1i t∧z1i t≤8)∧z1i t≠id:=by
 have hg:=h.gr
 unfold z1i
 split
 ·rename_i c
  exact⟨by omega,fun e=>c.2.2 (e.trans h.id.symm)⟩
 ·exact⟨by decide,Ne.symm hi⟩
theorem Wy.tired {id:Int} {t:Tie} (h:Wy id t):Wy id (tired t):=by
 unfold Go.Tie.tired
 split
 ·exact⟨h.id,h.inc,h.way,fun e=>⟨(h.rt e).1,rfl⟩,h.par,h.gr,h.ep,h.bn,h.kd,h.kl⟩
 ·exact h
theorem Wy.asks {id:Int} {t:Tie} (h:Wy id t):Wy id (asks t).1∧∀ m ∈ (asks t).2,Om id m∧m.kind≠2:=by
 unfold Go.Tie.asks
 split
 ·exact⟨h,fun m hm=>by cases hm⟩
 ·rename_i c
  have hi:id≠1:=fun e=>c (Or.inl (h.id.trans e))
  have h2:=h.tired
  split
  ·exact⟨h2,fun m hm=>by cases hm⟩
  ·refine⟨⟨h2.id,h2.inc,h2.way,fun e=>absurd e hi,h2.par,h2.gr,h2.ep,h2.bn,h2.kd,h2.kl⟩,fun m hm=>?_⟩
   rw [List.mem_singleton] at hm
   subst hm
   exact⟨⟨h2.id,h2.inc,z9M h2 hi,Or.inl ⟨Or.inl rfl,rfl,rfl,rfl,rfl,rfl,rfl⟩⟩,by show (1:Int)≠2;decide⟩
theorem z5U {id:Int} {t:Tie} (h:Wy id t) {k:Nat} (hb:Bd t k) (hk:k≤100000) (hl:qv t) {kind to lo:Int} (hto:(1≤to∧to≤8)∧to≠id) (hkd:kind=2∨kind=5) (hlo:lo=0∨kind=2∧lo=1):Om id (full t kind to lo):=by
 have hm:jJ t.path:=by
  rcases h.way with ⟨_,h2,h3⟩ | ⟨h1,_⟩
  ·rcases hl with c | c
   ·exact absurd (h.id.symm.trans c) h3
   ·exact absurd h2 c.1
  ·exact h1
 have:=hb.now;have:=hb.born;have:=hb.epoch;have:=h.ep;have:=h.bn
 exact⟨h.id,h.inc,hto,Or.inr ⟨hkd,by show 0≤t.epoch∧t.epoch≤_;omega,by show 0≤t.now - t.born∧t.now - t.born≤_;omega,hm,hlo,rfl,rfl⟩⟩
theorem z8v {id:Int} {t:Tie} (h:Wy id t) {k:Nat} (hb:Bd t k) (hk:k≤100000):∀ m ∈ beats t,Om id m∧m.kind≠2:=fun m hm=>by
 unfold beats at hm
 split at hm
 ·cases hm
 ·rcases List.mem_append.1 hm with hm | hm
  ·split at hm
   ·rename_i c
    rw [List.mem_singleton] at hm;subst hm
    exact⟨⟨h.id,h.inc,h.par.resolve_left c,Or.inl ⟨Or.inr (Or.inr (Or.inl rfl)),rfl,rfl,rfl,rfl,rfl,rfl⟩⟩,by show (4:Int)≠2;decide⟩
   ·cases hm
  ·split at hm
   ·rename_i c
    obtain⟨x,hx,rfl⟩:=List.mem_map.1 hm
    exact⟨z5U h hb hk c (h.kd x hx).1 (Or.inr rfl) (Or.inl rfl),by show (5:Int)≠2;decide⟩
   ·cases hm
theorem Wy.tick {id:Int} {t:Tie} (h:Wy id t) {k:Nat} (hb:Bd t k) (hk:k≤90000):Wy id (tick t).1∧∀ m ∈ (tick t).2,Om id m∧m.kind≠2:=by
 have h1:=h.later.turned.asks
 refine⟨h1.1,fun m hm=>?_⟩
 rcases List.mem_append.1 hm with hm | hm
 ·exact h1.2 m hm
 ·exact z8v h1.1 hb.tick (by omega) m hm
structure Cm (j:Int) (m:Msg):Prop where
 frm:(1≤m.frm∧m.frm≤8)∧m.frm≠j
 inc:1≤m.inc∧m.inc≤3
 epoch:0≤m.epoch
 age:0≤m.age
theorem z9N {id:Int} {t:Tie} (h:Wy id t) {kind to:Int} (hto:(1≤to∧to≤8)∧to≠id) (hk:kind=1∨kind=3∨kind=4∨kind=6):Om id (says t kind to 0)∧(says t kind to 0).kind≠2 :=
 ⟨⟨h.id,h.inc,hto,Or.inl ⟨hk,rfl,rfl,rfl,rfl,rfl,rfl⟩⟩,by show kind≠2;omega⟩
theorem Wy.hears {id:Int} {t:Tie} (h:Wy id t) (hs:KS t.kids) {m:Msg} (hm:Cm id m) (hl:(jA t.kids m.frm).isSome=true∨(t.kids.length:Int) < if id=1 then 8 else 3):Wy id (hears t m):=by
 refine⟨h.id,h.inc,h.way,h.rt,h.par,h.gr,h.ep,h.bn,fun x hx=>?_,?_⟩
 ·have hx:x ∈ (hear t.kids ⟨m.frm,m.inc,t.now⟩).1:=hx
  cases hk:(hear t.kids ⟨m.frm,m.inc,t.now⟩).2 with
  | true =>
   rcases(KT hs _ hk x).1 hx with rfl | ⟨h3,_⟩
   ·exact⟨hm.frm,hm.inc⟩
   ·exact h.kd x h3
  | false=>rw [J2 hk] at hx;exact h.kd x hx
 ·show ((hear t.kids ⟨m.frm,m.inc,t.now⟩).1.length:Int)≤_
  have hkl:=h.kl
  cases hk:(hear t.kids ⟨m.frm,m.inc,t.now⟩).2 with
  | true =>
   have e:=z40 t.kids _ hk
   rcases hl with c | c
   ·rw [if_pos c] at e;omega
   ·split at e
    ·omega
    ·omega
  | false=>rw [J2 hk];exact hkl
theorem z6J {p:List Int} (hp:∀ k,k < p.length→1≤p.getD k 0∧p.getD k 0≤8):0≤Yb p∧Yb p≤8:=by
 have:0≤grand p∧grand p≤8:=by
  unfold grand;split
  ·decide
  ·have:=hp (p.length - 2) (by omega);omega
 unfold Yb;split
 ·decide
 ·exact this
theorem z8w {p:List Int} {id:Int} (h:jJ (p++[id])):(p++[id]).getD ((p++[id]).length - 1) 0=id∧0≤Yb p∧Yb p≤8:=by
 refine⟨?_,z6J fun k hk=>?_⟩
 ·rw [List.length_append,List.length_singleton,Nat.add_sub_cancel,List.getD_eq_getElem?_getD,List.getElem?_append_right (Nat.le_refl _),Nat.sub_self];rfl
 ·have:=(h.2.2.2 k (by rw [List.length_append];omega)).1
  rw [List.getD_eq_getElem?_getD,List.getElem?_append_left hk,← List.getD_eq_getElem?_getD] at this
  exact this
theorem Wy.comesK {id:Int} {t:Tie} (h:Wy id t) {k:Nat} (hb:Bd t k) (hk:k≤90000) {m:Msg} (hm:Cm id m):Wy id (comesK t m 1).1∧∀ x ∈ (comesK t m 1).2,Om id x∧(x.kind=2→qv t∧x.to ∉ t.path∧x.path=t.path):=by
 have no:∀ {kind:Int},(kind=1∨kind=3∨kind=4∨kind=6)→∀ x ∈ [says t kind m.frm 0],Om id x∧(x.kind=2→qv t∧x.to ∉ t.path∧x.path=t.path):=fun hk x hx=>by
  rw [List.mem_singleton] at hx;subst hx
  have:=z9N h hm.frm hk
  exact⟨this.1,fun c=>absurd c this.2⟩
 have nil:∀ x ∈ ([]:List Msg),Om id x∧(x.kind=2→qv t∧x.to ∉ t.path∧x.path=t.path):=fun x hx=>by cases hx
 have hmost:z6X t=if id=1 then 8 else 3:=by unfold z6X;rw [h.id]
 unfold Go.Tie.comesK
 split
 ·unfold attach
  split
  ·rename_i c
   refine⟨h.hears hb.ks hm (by rw [← hmost];exact c.2.2),fun x hx=>?_⟩
   rw [List.mem_singleton] at hx;subst hx
   have hw:=h.hears hb.ks hm (by rw [← hmost];exact c.2.2)
   exact⟨z5U hw (hb.hears m) (by omega) c.1 hm.frm (Or.inl rfl) (Or.inr ⟨rfl,rfl⟩),fun _=>⟨c.1,c.2.1,rfl⟩⟩
  ·exact⟨h,no (Or.inr (Or.inl rfl))⟩
 ·split
  ·unfold accept
   split
   ·refine⟨h,?_⟩
    simp only
    split
    ·exact no (Or.inr (Or.inr (Or.inr rfl)))
    ·exact nil
   ·rename_i c
    have ca:t.asked=m.frm:=Decidable.byContradiction fun x=>c (Or.inl x)
    have hi:id≠1:=fun e=>by
     have:=(h.rt e).2
     have:=hm.frm.1
     omega
    split
    ·exact⟨⟨h.id,h.inc,h.way,fun e=>absurd e hi,h.par,h.gr,h.ep,h.bn,h.kd,h.kl⟩,no (Or.inr (Or.inr (Or.inr rfl)))⟩
    ·rename_i c2
     have cm:jJ (m.path++[t.id]):=Decidable.byContradiction fun x=>c2 (Or.inl x)
     rw [h.id] at cm
     have wo:=z8w cm
     refine⟨⟨h.id,h.inc,Or.inr ⟨by rw [h.id];exact cm,by rw [h.id];exact wo.1,Or.inl (by have:=hm.frm.1;show m.frm≠0;omega)⟩,fun e=>absurd e hi,Or.inr hm.frm,wo.2,hm.epoch,by have:=hm.age;show t.now - m.age≤t.now;omega,h.kd,h.kl⟩,nil⟩
  ·split
   ·show Wy id (refuse t m)∧_
    unfold refuse
    split
    ·rename_i c
     have hi:id≠1:=fun e=>by
      have:=(h.rt e).2
      have:=hm.frm.1
      omega
     exact⟨⟨h.id,h.inc,h.way,fun e=>absurd e hi,h.par,h.gr,h.ep,h.bn,h.kd,h.kl⟩,nil⟩
    ·split
     ·rename_i c
      have hi:id≠1:=fun e=>by
       have:=(h.rt e).1
       have:=hm.frm.1
       omega
      exact⟨h.lets hi 0,nil⟩
     ·exact⟨h,nil⟩
   ·split
    ·unfold beatUp
     split
     ·rename_i c
      exact⟨h.hears hb.ks hm (Or.inl c),nil⟩
     ·exact⟨h,no (Or.inr (Or.inl rfl))⟩
    ·split
     ·unfold beatDn
      split
      ·exact⟨h,no (Or.inr (Or.inr (Or.inr rfl)))⟩
      ·rename_i c
       have cp:m.frm=t.parent:=Decidable.byContradiction c
       have hi:id≠1:=fun e=>by
        have:=(h.rt e).1
        have:=hm.frm.1
        omega
       split
       ·exact⟨h.lets hi 1,no (Or.inr (Or.inr (Or.inr rfl)))⟩
       ·rename_i c2
        have cm:jJ (m.path++[t.id]):=Decidable.byContradiction fun x=>c2 x
        rw [h.id] at cm
        have wo:=z8w cm
        have hp:t.parent≠0:=by have:=hm.frm.1;omega
        have hw:Wy id (Go.Tie.way t m (m.path++[t.id])):=⟨h.id,h.inc,Or.inr ⟨by rw [h.id];exact cm,by rw [h.id];exact wo.1,Or.inl hp⟩,fun e=>absurd e hi,h.par,wo.2,h.ep,h.bn,h.kd,h.kl⟩
        refine⟨?_,nil⟩
        show Wy id (KU (Go.Tie.way t m (m.path++[t.id])) m)
        unfold KU
        split
        ·exact⟨hw.id,hw.inc,hw.way,hw.rt,hw.par,hw.gr,hm.epoch,by have:=hm.age;show t.now - m.age≤t.now;omega,hw.kd,hw.kl⟩
        ·exact hw
     ·split
      ·refine⟨⟨h.id,h.inc,h.way,h.rt,h.par,h.gr,h.ep,h.bn,fun x hx=>h.kd x (YI hx),?_⟩,nil⟩
       have:=KV (fun x=>decide (x.id=m.frm)) t.kids
       have:=h.kl
       show ((outs (fun x=>decide (x.id=m.frm)) t.kids).length:Int)≤_
       omega
      ·exact⟨h,nil⟩
theorem Wy.comes {id:Int} {t:Tie} (h:Wy id t) {k:Nat} (hb:Bd t k) (hk:k≤90000) {m:Msg} (hm:Cm id m):Wy id (comes t m 1).1∧∀ x ∈ (comes t m 1).2,Om id x∧(x.kind=2→qv t∧x.to ∉ t.path∧x.path=t.path):=by
 unfold Go.Tie.comes
 split
 ·exact⟨h,fun x hx=>by cases hx⟩
 ·unfold gone
  split
  ·rename_i c
   have hi:=h.ne1 c.1
   have hw:=(h.lets hi 0).comesK (hb.lets (by omega)) hk hm
   refine⟨hw.1,fun x hx=>⟨(hw.2 x hx).1,fun e=>?_⟩⟩
   have hl:=((hw.2 x hx).2 e).1
   rcases hl with c2 | c2
   ·exact absurd (h.id.symm.trans c2) hi
   ·exact absurd rfl c2.1
  ·exact h.comesK hb hk hm
theorem z5f (t:Tie) (m:Msg) (lo:Int):(comesK t m lo).1.now=t.now:=by
 unfold comesK
 split
 ·unfold attach;split<;>rfl
 ·split
  ·unfold accept;split
   ·rfl
   ·split<;>rfl
  ·split
   ·show (refuse t m).now=_;unfold refuse;split
    ·rfl
    ·split<;>rfl
   ·split
    ·unfold beatUp;split<;>rfl
    ·split
     ·unfold beatDn;split
      ·rfl
      ·split
       ·rfl
       ·show (KU (way t m (m.path++[t.id])) m).now=_
        unfold KU;split<;>rfl
     ·split<;>rfl
theorem z6K (t:Tie) (m:Msg) (lo:Int):(comes t m lo).1.now=t.now:=by
 unfold comes
 split
 ·rfl
 ·rw [z5f]
  unfold gone;split<;>rfl
end Go.Tie
/- Which messages may be. -/
set_option linter.unusedSimpArgs false
namespace Go.Proofs.Ytdbbdfmkglgjdaa.Pi
open Go.Ab Go.Feed Go.Kids Go.Tie
set_option maxRecDepth 100000
section
variable {Q:z3}
theorem z8x {id:Int} (hid:1≤id∧id≤8) {m:Msg} (h:Om id m):zd (z8 P1) 31 [Msg.v m] Q=some (.bool true,Q):=by
 obtain⟨h1,h2,⟨⟨h3,h4⟩,h5⟩,h6⟩:=h
 obtain⟨kind,frm,to,inc,epoch,age,path,lo,hi,text⟩:=m
 simp only at h1 h2 h3 h4 h5 h6
 have f1:(frm < 1)=False:=eq_false (by omega)
 have f2:(8 < frm)=False:=eq_false (by omega)
 have t1:(to < 1)=False:=eq_false (by omega)
 have t2:(8 < to)=False:=eq_false (by omega)
 have ft:(frm=to)=False:=eq_false (by omega)
 have i1:(inc < 1)=False:=eq_false (by omega)
 have i2:(1073741824 < inc)=False:=eq_false (by omega)
 rcases h6 with ⟨hk,e1,e2,e3,e4,e5,e6⟩ | ⟨hk,⟨p1,p2⟩,⟨a1,a2⟩,hm,hlo,e5,e6⟩
 ·have nk:¬ (kind=2∨kind=5):=by omega
  subst e1 e2 e3 e4 e5 e6
  have em:mpv ⟨kind,frm,to,inc,0,0,[],0,0,[]⟩=.nils:=if_neg nk
  have sm:=fun Q=>z1B (Q:=Q) ⟨kind,frm,to,inc,0,0,[],0,0,[]⟩ (va:=.nils) (vb:=.nils) (Sl.nil 1) (Sl.nil 1) (by simp)
  rw [z0e,em,wI rfl]
  rcases hk with rfl | rfl | rfl | rfl
  all_goals
   simp [f1,f2,t1,t2,ft,i1,i2,sm,j7,j6,j8]
 ·subst e5 e6
  have em:mpv ⟨kind,frm,to,inc,epoch,age,path,lo,0,[]⟩=.fz 1 (ints path):=if_pos hk
  have mp:=fun Q=>Vo (Q:=Q) (p:=path) (by have:=hm.2.1;omega)
  rw [decide_eq_true hm] at mp
  have sm:=fun Q=>z1B (Q:=Q) ⟨kind,frm,to,inc,epoch,age,path,lo,0,[]⟩ (Sl.fz 1 _) (Sl.fz 1 _) (by have:=hm.2.1;show path.length≤_;omega)
  have q1:(0≤epoch)=True:=eq_true p1
  have q2:(epoch≤1073741824)=True:=eq_true (by omega)
  have q3:(0≤age)=True:=eq_true a1
  have q4:(age≤1073741824)=True:=eq_true (by omega)
  have sq:∀ (n:Int),0≤n→n≤1000000→∀ Q,zd (z8 P1) 62 [.int .i64 n] Q=some (.bool true,Q):=fun n n0 n1 Q=>by
   rw [KM rfl]
   have n0':=eq_true n0
   have n1':=eq_true n1
   simp [n0',n1']
  have s0:=sq 0 (by decide) (by decide)
  have s1:=sq 1 (by decide) (by decide)
  rw [z0e,em,wI rfl]
  rcases hlo with rfl | ⟨rfl,rfl⟩
  ·rcases hk with rfl | rfl
   all_goals
    simp [f1,f2,t1,t2,ft,i1,i2,sm,mp,q1,q2,q3,q4,s0,j7,j6,j8]
  ·simp [f1,f2,t1,t2,ft,i1,i2,sm,mp,q1,q2,q3,q4,s1,j7,j6,j8]
theorem z6L {l:List Kid} {v:AV} (h:Sl 3 (l.map Kid.v) v) (hs:KS l) (hb:∀ x ∈ l,(1≤x.id∧x.id≤8)∧(1≤x.inc∧x.inc≤3)∧(0≤x.heard∧x.heard≤1000000)) (hl:l.length≤100000):∀ (m i:Nat),i+m=l.length →
  j5 P1 v (.int .i64 i) Q=ZG Q:=by
 intro m
 induction m with
 | zero =>
  intro i hi
  obtain rfl:i=l.length:=by omega
  rw [jZ,vK,h.len]
  simp
 | succ m ih =>
  intro i hi
  have c1:((i:Int) < l.length)=True:=eq_true (by omega)
  have hx:=kAt (l:=l) (i:=i) (by omega)
  have e:=h.get (k:=.i64) hx
  have hb':=hb _ (List.mem_of_getElem? hx)
  have w:=w64 (i:=(i:Int)+1) (by omega) (by omega)
  have ih:=ih (i+1) (by omega)
  rw [show ((i+1:Nat):Int)=(i:Int)+1 by push_cast;rfl] at ih
  have prev:∀ j:Nat,i=j+1→∃ y:Kid,elQ 3 v (.int .i64 (j:Int))=some (.agg [.int .i64 y.id,.int .i64 y.inc,.int .i64 y.heard])∧y.id < (l.getD i default).id:=fun j hj=>by
   have hy:=kAt (l:=l) (i:=j) (by omega)
   have ey:=h.get (k:=.i64) hy
   rw [Zi] at ey
   refine⟨_,ey,?_⟩
   have:=J0 hs.so (k:=j) (m:=i) (by omega) (by simp;omega)
   rwa [wL,wL] at this
  generalize l.getD i default=x at *
  rw [Zi] at e
  have a1:(x.id < 1)=False:=eq_false (by omega)
  have a2:(8 < x.id)=False:=eq_false (by omega)
  have a3:(x.inc < 1)=False:=eq_false (by omega)
  have a4:(1073741824 < x.inc)=False:=eq_false (by omega)
  have a5:(x.heard < 0)=False:=eq_false (by omega)
  have a6:(1073741824 < x.heard)=False:=eq_false (by omega)
  rw [jZ,vK,h.len]
  rcases Nat.eq_zero_or_pos i with hz | hpos
  ·have g1:(0 < (i:Int))=False:=eq_false (by omega)
   have hn:¬ 0 < i:=by omega
   simp [c1,e,a1,a2,a3,a4,a5,a6,w,g1,hn]
   rw [xG,ih]
  ·obtain⟨y,ey,hy⟩:=prev (i - 1) (by omega)
   rw [show ((i - 1:Nat):Int)=(i:Int) - 1 by omega] at ey
   have w2:=w64 (i:=(i:Int) - 1) (by omega) (by omega)
   have g1:(0 < (i:Int))=True:=eq_true (by omega)
   have g2:(x.id≤y.id)=False:=eq_false (by omega)
   simp [c1,e,a1,a2,a3,a4,a5,a6,w,g1,hpos,w2,ey,g2]
   rw [xG,ih]
theorem z6M {l:List Kid} {v:AV} (h:Sl 3 (l.map Kid.v) v) (hs:KS l) (hb:∀ x ∈ l,(1≤x.id∧x.id≤8)∧(1≤x.inc∧x.inc≤3)∧(0≤x.heard∧x.heard≤1000000)) (hl:l.length≤100000):zd (z8 P1) 30 [v] Q=some (.bool true,Q):=by
 have lp:=z6L (Q:=Q) h hs hb hl l.length 0 (by omega)
 rw [show ((0:Nat):Int)=0 from rfl] at lp
 rw [Qy rfl,xG,lp]
 simp [Xo]
end
end Go.Proofs.Ytdbbdfmkglgjdaa.Pi
