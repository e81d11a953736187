/- Each operation's own run against the evaluator's: what makes and writes rows. -/
import Derived.Test.YtdbbdfmkglgjdaaAb8
import Derived.Laws.MakeOwn
import Derived.Lib.ConvBytes
import Derived.Lib.UnsafeStr
import Derived.Lib.AppendZerosOnto
import Derived.Laws.BytesString
set_option linter.unusedVariables false
set_option linter.unusedSimpArgs false
set_option linter.unusedSectionVars false
namespace Go.Ab
open Go.RowKit
section
variable {P:Program} {B:Nat} {ρ:Rho} {w:World} {H H':z3} {v:AV}
theorem Sim.allocAt (h:Sim B ρ w H) (hB:B≤w.heap.size) {w':World} {k:Kd} {z:Nat} {cs:List AV} {L:Loc} {cur:Array Value} {e:TypeId} {fz:Nat × Nat}
  (hsz:w'.heap.size=w.heap.size+1) (hold:∀ i,i < w.heap.size→w'.heap[i]? = w.heap[i]?) (hnew:w'.heap[w.heap.size]? = some (.cells cur e fz))
  (hL:L.blk=w.heap.size) (hL0:L.off=0) (hk:k≠.ro) (hle:cs.length≤cur.size) (hc:zg ρ cs=some (cur.toList.take cs.length)) (hkd:Y1 k z L cur.size fz cs.length) :
  Sim B (ρ.add H.size L) w' (H.push (some (.cells k z cs))):=by
 have hmono:=h.le_add L
 refine⟨fun r M hr=>?_,fun r M o hr hg=>?_,fun r r' M M' o o' hne hr hr' hg hg' ho ho'=>?_⟩
 ·unfold Rho.add at hr
  split at hr
  ·rename_i e1;subst e1;obtain rfl:=Option.some.inj hr;rw [hsz];simp;omega
  ·have:=h.dom r M hr;rw [hsz];simp;omega
 ·rw [z3.get_push] at hg
  unfold Rho.add at hr
  split at hr
  ·rename_i e1
   rw [if_pos e1] at hg
   obtain rfl:=Option.some.inj hr
   obtain rfl:=Option.some.inj hg
   refine(zH hk).2 ⟨by omega,hL0,cur,e,fz,?_,hle,y6 hmono _ _ hc,hkd⟩
   rw [hL];exact hnew
  ·rename_i e1
   rw [if_neg e1] at hg
   exact((h.obj r M o hr hg).same (hold _ (h.dom r M hr).2)).mono hmono
 ·rw [z3.get_push] at hg hg'
  unfold Rho.add at hr hr'
  split at hr
  ·rename_i e1
   obtain rfl:=Option.some.inj hr
   split at hr'
   ·rename_i e2;exact absurd (e1.trans e2.symm) hne
   ·have:=(h.dom r' M' hr').2;omega
  ·rename_i e1
   rw [if_neg e1] at hg
   split at hr'
   ·obtain rfl:=Option.some.inj hr'
    have:=(h.dom r M hr).2;omega
   ·rename_i e2
    rw [if_neg e2] at hg'
    exact h.inj r r' M M' o o' hne hr hr' hg hg' ho ho'
theorem Sim.regrow (h:Sim B ρ w H) {r z:Nat} {L:Loc} {cs cs':List AV} {cur cur':Array Value} {e:TypeId} (hr:ρ r=some L) (hg:H.get r=some (.cells .opened z cs))
  (hrow:w.heap[L.blk]? = some (.cells cur e (0,0))) (hsz:cur'.size=cur.size) (hle:cs'.length≤cur'.size) (hc:zg ρ cs'=some (cur'.toList.take cs'.length)) :
  Sim B (ρ.add H.size L) (w.setRow L.blk cur') ((H.put r none).push (some (.cells .opened z cs'))):=by
 have hmono:=h.le_add L
 obtain⟨h1,h2,cur0,e0,fz0,h3,h4,h5,h6⟩:=(zH (by simp)).1 (h.obj r L _ hr hg)
 rw [h3] at hrow
 obtain⟨rfl,rfl,rfl⟩:cur0=cur∧e0=e∧fz0=(0,0):=by simpa using hrow
 have hnew:=setRow_heap w L.blk cur0 cur' e0 (0,0) h3
 have hother:∀ k,k≠L.blk→(w.setRow L.blk cur').heap[k]? = w.heap[k]? := fun k hk=>setRow_other w _ k _ hk
 have hLd:=h.dom r L hr
 have hne:∀ q M ob,q≠r→ρ q=some M→H.get q=some ob→M.blk≠L.blk:=by
  intro q M ob hqr hq hgq
  by_cases hob:ob.own=true
  ·exact h.inj q r M L ob _ hqr hq hr hgq hg hob rfl
  ·cases ob with
   | iter s p=>simp [zF.own] at hob
   | mapo es=>simp [zF.own] at hob
   | cells k' z' cs' =>
    cases k'<;>first | (simp [zF.own] at hob;done) | skip
    have:=(h.obj q M _ hq hgq).1
    omega
 refine⟨fun q M hq=>?_,fun q M ob hq hgq=>?_,fun q q' M M' ob ob' hqq hq hq' hgq hgq' ho ho'=>?_⟩
 ·unfold Rho.add at hq
  split at hq
  ·rename_i e1;subst e1;obtain rfl:=Option.some.inj hq;simp;omega
  ·have:=h.dom q M hq;simp;omega
 ·rw [z3.get_push,z3.size_put] at hgq
  unfold Rho.add at hq
  split at hq
  ·rename_i e1
   rw [if_pos e1] at hgq
   obtain rfl:=Option.some.inj hq
   obtain rfl:=Option.some.inj hgq
   refine(zH (by simp)).2 ⟨h1,h2,cur',e0,(0,0),hnew,hle,y6 hmono _ _ hc,?_⟩
   simp only [Y1] at h6 ⊢
   exact⟨trivial,by omega,h6.2.2⟩
  ·rename_i e1
   rw [if_neg e1,z3.get_put] at hgq
   split at hgq
   ·cases hgq
   ·rename_i e2
    exact((h.obj q M ob hq hgq).same (hother _ (hne q M ob e2 hq hgq))).mono hmono
 ·rw [z3.get_push,z3.size_put] at hgq hgq'
  unfold Rho.add at hq hq'
  split at hq
  ·rename_i e1
   obtain rfl:=Option.some.inj hq
   split at hq'
   ·rename_i e2;exact absurd (e1.trans e2.symm) hqq
   ·rename_i e2
    rw [if_neg e2,z3.get_put] at hgq'
    split at hgq'
    ·cases hgq'
    ·rename_i e3;exact Ne.symm (hne q' M' ob' e3 hq' hgq')
  ·rename_i e1
   rw [if_neg e1,z3.get_put] at hgq
   split at hgq
   ·cases hgq
   ·rename_i e3
    split at hq'
    ·obtain rfl:=Option.some.inj hq';exact hne q M ob e3 hq hgq
    ·rename_i e2
     rw [if_neg e2,z3.get_put] at hgq'
     split at hgq'
     ·cases hgq'
     ·exact h.inj q q' M M' ob ob' hqq hq hq' hgq hgq' ho ho'
theorem z83 {t e:TypeId} {i:TypeInfo} {z:List AV} {kl kc:IntKind} {l c:Int} {lv cv:Value} (hs:Sim B ρ w H) (hB:B≤w.heap.size) (ht:P.underlying t=some (.slice e))
  (hi:P.info? e=some i) (hz:jC P e=some z) (hl:zb ρ (.int kl l)=some lv) (hc:zb ρ (.int kc c)=some cv)
  (h:0≤l∧l≤c∧c.toNat * i.bytes≤zp∧c≤70368744177664∧i.size≠0∧z.length=i.size∧z.all AV.one) :
  zI P B ρ w H (Instr.makeSlice t lv cv) (.sl H.size 0 l.toNat (.ex c.toNat)) (H.push (some (.cells .exact i.size (yU c.toNat z)))):=by
 obtain⟨h0,hlc,hby,hcm,hsz,hzl,_⟩:=h
 obtain rfl:=y5 hl
 obtain rfl:=y5 hc
 obtain⟨i',zv,hi',hzv,hzc⟩:=qU hz
 rw [hi] at hi'
 obtain rfl:=Option.some.inj hi'
 have hrun:=run_make (P:=P) w t e i zv ht hi hzv kl kc l c h0 hlc (by
  have:((c.toNat * i.bytes:Nat):Int)≤281474976710656:=by unfold zp at hby;omega
  rw [Int.natCast_mul,Int.mul_comm,Int.toNat_of_nonneg (by omega)] at this
  exact this) (by omega)
 have hzs:zv.cells.size=i.size:=by have:=zB (hzc ρ);simp at this;omega
 have hzero:=Qn (hzc ρ) c.toNat (.inl (by intro e;rw [e] at hzl;simp at hzl;omega))
 have hmade:madeCells zv.cells (c.toNat * i.size)=(Array.range (c.toNat * zv.cells.size)).map (zv.cells[· % zv.cells.size]!):=by unfold madeCells;rw [hzs]
 have hlen:(yU c.toNat z).length=c.toNat * i.size:=by rw [wr,hzl]
 have hms:(madeCells zv.cells (c.toNat * i.size)).size=c.toNat * i.size:=size_madeCells _ _
 refine zI.alloc (cap:=c.toNat) hs hB hrun (by simp) ?_ (by omega) ?_ ?_
 ·rw [hzero,← hmade,List.take_of_length_le (by simp [hms,hlen])]
 ·simp only [Y1];simp only [Loc.at_cap];exact⟨trivial,by omega,by omega⟩
 ·rw [yJ (wq _ _ _) (by simp only [yG];omega)]
  simp [xj]

theorem Yk {t u e e' ty:TypeId} {i:TypeInfo} (ht:P.underlying t=some (.slice e)) (hu:P.underlying u=some (.slice e')) (hi:P.info? e=some i) (base:Option Addr) (n c:Nat) (b:Value) (w:World) :
  (Builtin.append_ #[t,u] ty #[.slice base n c,b]).run P w=(Builtin.append_ #[t,t] ty #[.slice base n c,b]).run P w:=by
 simp [Builtin.append_,run_underlying ht,run_underlying hu,sizeOf,typeInfo,hi]
theorem Zh {t u e e' ty:TypeId} {i:TypeInfo} (ht:P.underlying t=some (.slice e)) (hu:P.underlying u=some (.slice e')) (hi:P.info? e=some i) (a b:Option Addr) (n c c':Nat) (hnc:n≤c) (w:World) :
  (Builtin.append_ #[t,u] ty #[.slice a n c,.slice b 0 c']).run P w=.ok (.slice a n c) w:=by
 cases a<;>cases b<;>simp [Builtin.append_,run_underlying ht,run_underlying hu,sizeOf,typeInfo,hi,Builtin.lenOf,hnc,Builtin.firstCells,loadCells,loadCellsFrom,storeCells]
theorem z56 {B:Nat} {a b:World} (h:Below B a.drew b):Below B a b:=⟨h.os,h.tape,h.output,h.size,h.block⟩
theorem Vn {s:Sem Value} {z len:Nat} {cs:List AV} {xs:List Value} {zs:Array Value} {e:TypeId} {old:Nat} (hs:Sim B ρ w H) (hB:B≤w.heap.size) (hc:zg ρ cs=some xs)
  (hlen:xs.length=len * z) (hzs:zs.size=z) (hm:len≤maxLen)
  (h:s.run P w=.ok (.slice (some ⟨w.heap.size,0,none⟩) len (grownCap w len old e)) (w.drew.alloc (.cells (xs.toArray++Builtin.zeroCells zs (grownCap w len old e - len)) e))) :
  zI P B ρ w H s (.sl H.size 0 len (.mi 0)) (H.push (some (.cells .opened z cs))):=by
 have hge:=grownCap_ge w len old e
 have hcm:=grownCap_le_maxLen w len old e hm
 have hl:=zB hc
 have hsize:(xs.toArray++Builtin.zeroCells zs (grownCap w len old e - len)).size=grownCap w len old e * z:=by
  simp only [Array.size_append,List.size_toArray,size_zeroCells,hzs,hlen,← Nat.add_mul]
  congr 1
  omega
 refine⟨ρ.add H.size (Loc.at w.heap.size 0 (grownCap w len old e)),_,_,h,?_,hs.ext_add _,hs.drew.alloc (by simpa using hB) (L:=(Loc.at w.heap.size 0 (grownCap w len old e))) (by simp) rfl (by simp) ?_ ?_ ?_,
  z56 ((Below.refl _ _).alloc (by simpa using hB) _),by simp⟩
 ·rw [yJ (wq _ _ _) (by simp only [yG,Loc.at_cap];omega)]
  simp [xj]
 ·rw [hsize,← hl,hlen];exact Nat.mul_le_mul_right _ hge
 ·rw [hc,← hl]
  simp
 ·rw [hsize];exact⟨rfl,rfl,hcm⟩
theorem z84 {t u e e' ty:TypeId} {i:TypeInfo} {z:List AV} {a b:AV} {av bv:Value} (hs:Sim B ρ w H) (hB:B≤w.heap.size) (ht:P.underlying t=some (.slice e)) (hu:P.underlying u=some (.slice e'))
  (hi:P.info? e=some i) (hz:jC P e=some z) (ha:zb ρ a=some av) (hb:zb ρ b=some bv) (h:X4 H i.size i.bytes a b=some (v,H')) (hzl:z.length=i.size) :
  zI P B ρ w H (Builtin.append_ #[t,u] ty #[av,bv]) v H':=by
 obtain⟨i',zv,hi',hzv,hzc⟩:=qU hz
 rw [hi] at hi'
 obtain rfl:=Option.some.inj hi'
 have hzs:zv.cells.size=i.size:=by have:=zB (hzc ρ);simp at this;omega
 unfold X4 at h
 split at h
 ·cases h
 ·rename_i hsz0
  cases hnews:wS H i.size b with
  | none=>simp [hnews] at h
  | some news =>
   simp only [hnews] at h
   have hsrc:∃ oa c' xs,bv=.slice oa b.slen c'∧zg ρ news=some xs ∧
     (∀ ad,oa=some ad→∀ (j:Nat) (x:Value),xs[j]? = some x→w.cell? (ad.add j)=some x)∧xs.length=b.slen * i.size∧(oa=none→b.slen=0):=by
    cases b<;>simp only [wS] at hnews<;>first | (cases hnews;done) | skip
    ·obtain rfl:=v3 hb
     obtain rfl:=Option.some.inj hnews
     exact⟨none,0,[],rfl,rfl,(fun ad h=>by cases h),by simp [AV.slen],fun _=>rfl⟩
    ·rename_i r o len cap
     obtain⟨L,hr,rfl,_⟩:=xq hb
     obtain⟨xs,hxs,hl,hcell⟩:=hs.row hr hnews
     exact⟨_,_,xs,rfl,hxs,(fun ad h=>by obtain rfl:=Option.some.inj h;exact hcell),hl,fun h=>by cases h⟩
    ·rename_i r o k d
     obtain rfl:=Option.some.inj hnews
     obtain⟨ad,c',rfl⟩:=Kf hb
     exact⟨some ad,c',[],rfl,rfl,(fun ad h j x hj=>by simp at hj),by simp [AV.slen],fun h=>by cases h⟩
   obtain⟨oa,c',xs,rfl,hxs,hcell,hxl,hn0⟩:=hsrc
   have hnl:=zB hxs
   generalize b.slen=n at *
   unfold yF at h
   split at h
   ·-- onto nil
    obtain rfl:=v3 ha
    split at h
    ·rename_i h0
     subst h0
     simp at h
     obtain⟨rfl,rfl⟩:=h
     exact zI.same hs (Zh ht hu hi none oa 0 0 c' (Nat.le_refl _) w) rfl
    ·rename_i h0
     split at h
     ·rename_i hbd
      simp at h
      obtain⟨rfl,rfl⟩:=h
      cases oa with
      | none=>exact absurd (hn0 rfl) h0
      | some ad =>
       unfold zp at hbd
       have hrun:=run_append_nil (P:=P) w t ty e i zv ht hi hzv ad n c' xs hxl (hcell ad rfl) (by omega) (by omega) (by omega)
       exact zI.congr (Yk ht hu hi _ _ _ _ w) (Vn hs hB hxs hxl hzs (by unfold maxLen;omega) hrun)
     ·cases h
   ·rename_i r o len cap
    obtain⟨L,hr,rfl,hfit⟩:=xq ha
    split at h
    ·rename_i h0
     subst h0
     simp at h
     obtain⟨rfl,rfl⟩:=h
     refine zI.same hs (Zh ht hu hi _ oa len _ c' ?_ w) ha
     cases cap<;>simp only [xj,yG] at hfit ⊢<;>omega
    ·rename_i h0
     cases oa with
     | none=>exact absurd (hn0 rfl) h0
     | some ad =>
      have hcell:=hcell ad rfl
      split at h
      ·rename_i hbd
       unfold zp at hbd
       have inplace:∀ (C:Nat) (H1:z3),len+n≤C→H.write r (o+len * i.size) news=some H1 →
         ∃ w',(Builtin.append_ #[t,u] ty #[.slice (some ⟨L.blk,L.off+o,none⟩) len C,.slice (some ad) n c']).run P w=.ok (.slice (some ⟨L.blk,L.off+o,none⟩) (len+n) C) w' ∧
          Sim B ρ w' H1∧Below B w w'∧H1.size=H.size:=by
        intro C H1 hC hw
        obtain⟨w',hst,hs',hbl,hsz⟩:=hs.write P hr hw hxs
        refine⟨w',?_,hs',hbl,hsz⟩
        have hf:=run_firstCells_some (P:=P) w i.size n ad n c' xs hxl hcell
        rw [show L.off+(o+len * i.size)=L.off+o+len * i.size by omega] at hst
        simp [Builtin.append_,run_underlying ht,run_underlying hu,sizeOf,typeInfo,hi,Builtin.lenOf,hC,hf,jE,hst]
       have anew:∀ (C:Nat) (olds:List AV) (H1:z3),C < len+n→H.row r o (len * i.size)=some olds→Sim B ρ w H1→H1.size=H.size →
         zI P B ρ w H1 (Builtin.append_ #[t,u] ty #[.slice (some ⟨L.blk,L.off+o,none⟩) len C,.slice (some ad) n c']) (.sl H1.size 0 (len+n) (.mi 0)) (H1.push (some (.cells .opened i.size (olds++news)))):=by
        intro C olds H1 hC hrow hs1 hsz1
        obtain⟨ys,hys,hyl,hyc⟩:=hs.row hr hrow
        have hrun:=run_append_grow (P:=P) w t ty e i zv ht hi hzv ⟨L.blk,L.off+o,none⟩ len C ys hyl hyc ad n c' xs hxl hcell hC (by omega) (growslice_fits hC (by omega))
        have:ys.toArray++xs.toArray=(ys++xs).toArray:=by simp
        rw [this] at hrun
        exact zI.congr (Yk ht hu hi _ _ _ _ w) (Vn hs1 hB (yf hys hxs) (by rw [List.length_append,hyl,hxl,Nat.add_mul]) hzs (by unfold maxLen;omega) hrun)
       split at h
       ·rename_i k zz cs c hg
        simp only [yG] at hfit
        split at h
        ·rename_i hle
         split at h
         ·obtain⟨H1,hw,hv⟩:=Option.map_eq_some_iff.1 h
          simp at hv
          obtain⟨rfl,rfl⟩:=hv
          obtain⟨w',hrun,hs',hbl,hsz⟩:=inplace c H1 hle hw
          exact⟨ρ,_,w',hrun,yJ hr hle,ρ.ext_refl _,hs',hbl,by omega⟩
         ·cases h
        ·rename_i hle
         split at h
         ·rename_i hlen
          simp at h
          obtain⟨rfl,rfl⟩:=h
          exact anew c _ H (by omega) (by simp [z3.row,hg,hlen]) hs rfl
         ·cases h
       ·rename_i k zz cs m hg
        simp only [yG] at hfit
        split at h
        ·rename_i hcond
         obtain⟨hk,rfl,ho,hroom⟩:=hcond
         obtain⟨H1,hw,hv⟩:=Option.map_eq_some_iff.1 h
         simp at hv
         obtain⟨rfl,rfl⟩:=hv
         have hcap:m+len+n≤L.cap:=by
          have hk':k≠.ro:=by rcases hk with rfl | rfl<;>simp
          obtain⟨_,_,cur,e0,fz,_,h4,_,h6⟩:=(zH hk').1 (hs.obj r L _ hr hg)
          have:cur.size=L.cap * i.size:=by rcases hk with rfl | rfl<;>simp only [Y1] at h6<;>omega
          have h7:(m+len+n) * i.size≤L.cap * i.size:=by omega
          exact Nat.le_of_mul_le_mul_right h7 (by omega)
         obtain⟨w',hrun,hs',hbl,hsz⟩:=inplace (L.cap - m) H1 (by omega) hw
         exact⟨ρ,_,w',hrun,yJ (cap:=.mi m) hr (by simp only [yG];omega),ρ.ext_refl _,hs',hbl,by omega⟩
        ·split at h
         ·rename_i hcond
          obtain⟨rfl,rfl,rfl,rfl,hlen,hall⟩:=hcond
          simp at h
          obtain⟨rfl,rfl⟩:=h
          simp only [xj,Nat.sub_zero]
          by_cases hroom:len+n≤L.cap
          ·obtain⟨h1,h2,cur,e0,fz,h3,h4,h5,h6⟩:=(zH (by simp)).1 (hs.obj r L _ hr hg)
           simp only [Y1] at h6
           obtain⟨rfl,h6,h7⟩:=h6
           have hone:=Y0 hxs hall
           have hfit2:len * i.size+xs.length≤cur.size:=by rw [hxl,h6,← Nat.add_mul];exact Nat.mul_le_mul_right _ hroom
           have h3':w.heap[L.blk]? = some (.cells cur e0 (0,0)):=h3
           have hrun:(Builtin.append_ #[t,u] ty #[.slice (some ⟨L.blk,L.off+0,none⟩) len L.cap,.slice (some ad) n c']).run P w =
             .ok (.slice (some ⟨L.blk,L.off+0,none⟩) (len+n) L.cap) (w.setRow L.blk (cur.toList.take (len * i.size)++xs++cur.toList.drop (len * i.size+xs.length)).toArray):=by
            have hf:=run_firstCells_some (P:=P) w i.size n ad n c' xs hxl hcell
            have hst:=run_storeCells_at P L.blk (len * i.size) e0 xs 0 cur w h3' (by simpa using hfit2) hone
            simp only [Nat.add_zero] at hst
            simp [Builtin.append_,run_underlying ht,run_underlying hu,sizeOf,typeInfo,hi,Builtin.lenOf,hroom,hf,jE,h2,hst]
           have hct:=jD (len * i.size) h5
           rw [List.take_take,Nat.min_eq_left (by omega)] at hct
           refine⟨ρ.add H.size L,_,_,hrun,?_,hs.ext_add L,hs.regrow hr hg h3' (by simp;omega) ?_ ?_,⟨rfl,rfl,rfl,by simp,fun k hk=>setRow_other w _ k _ (by omega)⟩,by simp⟩
           ·rw [yJ (cap:=.mi 0) (wq _ _ _) (by simp only [yG];omega)]
            simp [xj]
           ·simp;omega
           ·rw [yf hct hxs]
            have hcl:(cs.take (len * i.size)++news).length=(cur.toList.take (len * i.size)++xs).length:=by simp;omega
            rw [hcl]
            simp only [List.take_left]
          ·have hg2:=anew L.cap ((cs.drop 0).take (len * i.size)) (H.put r none) (by omega) (by simp [z3.row,hg,hlen]) (hs.kill r) rfl
           simp only [Nat.add_zero,List.drop_zero,z3.size_put] at hg2 ⊢
           exact hg2
         ·cases h
       ·cases h
      ·cases h
   ·cases h

theorem z85 {t u e ty:TypeId} {z:Nat} {a b:AV} {av bv:Value} {m n:Nat} (hs:Sim B ρ w H) (ht:P.underlying t=some (.slice e)) (he:jB P e=some z)
  (ha:zb ρ a=some av) (hb:zb ρ b=some bv) (hm:z03 b=some m) (hn:z03 a=some n)
  (h:(if min m n=0 then some (.int .i64 0,H) else match b,a with
   | .sl r o _ _,.sl r' o' _ _=>match H.row r o (min m n * z) with
    | some cs=>(H.write r' o' cs).map fun H'=>(.int .i64 (min m n:Nat),H')
    | none=>none
   | _,_=>none)=some (v,H')) :
  zI P B ρ w H (Builtin.copy_ #[t,u] ty #[av,bv]) v H':=by
 have hlen:∀ {a:AV} {x:Value} {k:Nat},zb ρ a=some x→z03 a=some k→∃ ad c,x=.slice ad k c∧(∀ r o l cp,a=.sl r o l cp→∃ L,ρ r=some L∧ad=some ⟨L.blk,L.off+o,none⟩):=by
  intro a x k hx hk
  cases a<;>simp only [z03] at hk<;>first | (cases hk;done) | skip
  ·obtain rfl:=v3 hx
   obtain rfl:=Option.some.inj hk
   exact⟨none,0,rfl,fun r o l cp h=>by cases h⟩
  ·obtain⟨L,hr,rfl,_⟩:=xq hx
   obtain rfl:=Option.some.inj hk
   exact⟨_,_,rfl,fun r o l cp h=>by cases h;exact⟨L,hr,rfl⟩⟩
  ·obtain⟨ad,c,rfl⟩:=Kf hx
   obtain rfl:=Option.some.inj hk
   exact⟨_,_,rfl,fun r o l cp h=>by cases h⟩
 obtain⟨ada,ca,rfl,hda⟩:=hlen ha hn
 obtain⟨adb,cb,rfl,hdb⟩:=hlen hb hm
 split at h
 ·rename_i h0
  simp at h
  obtain⟨rfl,rfl⟩:=h
  refine zI.same hs (x:=.int .i64 0) ?_ rfl
  have h0':Nat.min m n=0:=h0
  cases adb<;>cases ada<;>simp [Builtin.copy_,run_underlying ht,Builtin.lenOf,Builtin.firstCells,zM he,h0',loadCells,loadCellsFrom,storeCells,goInt]
 ·rename_i h0
  split at h
  ·rename_i r o l1 c1 r' o' l2 c2
   cases hrow:H.row r o (min m n * z) with
   | none=>simp [hrow] at h
   | some cs =>
    simp only [hrow] at h
    obtain⟨H1,hw,hv⟩:=Option.map_eq_some_iff.1 h
    simp at hv
    obtain⟨rfl,rfl⟩:=hv
    obtain⟨Lb,hrb,rfl⟩:=hdb r o l1 c1 rfl
    obtain⟨La,hra,rfl⟩:=hda r' o' l2 c2 rfl
    obtain⟨xs,hxs,hxl,hcell⟩:=hs.row hrb hrow
    obtain⟨w',hst,hs',hbl,hsz⟩:=hs.write P hra hw hxs
    have hf:=run_firstCells_some (P:=P) w z (Nat.min m n) ⟨Lb.blk,Lb.off+o,none⟩ m cb xs hxl hcell
    refine⟨ρ,.int .i64 (min m n:Nat),w',?_,rfl,ρ.ext_refl _,hs',hbl,by omega⟩
    simp only [Builtin.copy_,Sem.run_bind]
    simp [run_underlying ht,Builtin.lenOf,zM he,hf,hst,goInt]
  ·cases h
theorem Qo {z:List AV} {zs:Array Value} (hz:zg ρ z=some zs.toList) (n:Nat) (hne:z≠[]∨n=0):zg ρ (yU n z)=some (Builtin.zeroCells zs n).toList:=Qn hz n hne
theorem z86 {t e ty:TypeId} {z:List AV} {r o n:Nat} {cap:kb} {av:Value} (hs:Sim B ρ w H) (ht:P.underlying t=some (.slice e)) (hz:jC P e=some z) (hzl:z≠[])
  (ha:zb ρ (.sl r o n cap)=some av) (hw:H.write r o (yU n z)=some H'):zI P B ρ w H (Builtin.clear_ #[t] ty #[av]) z4 H':=by
 obtain⟨L,hr,rfl,_⟩:=xq ha
 obtain⟨i,zv,hi,hzv,hzc⟩:=qU hz
 have hzr:=Qo (hzc ρ) n (.inl hzl)
 obtain⟨w',hst,hs',hbl,hsz⟩:=hs.write P hr hw hzr
 refine⟨ρ,undef,w',?_,qW ρ,ρ.ext_refl _,hs',hbl,by omega⟩
 cases n with
 | zero =>
  have:w'=w:=by simp [Builtin.zeroCells,storeCells] at hst;exact hst.symm
  subst this
  simp [Builtin.clear_,run_underlying ht,undef]
 | succ n=>simp [Builtin.clear_,run_underlying ht,qG hi hzv,hst,undef]
theorem z87 {t u e ty:TypeId} {kn:IntKind} {i:TypeInfo} {z:List AV} {r o len c k:Nat} {olds:List AV} {av:Value} (hs:Sim B ρ w H) (hB:B≤w.heap.size) (ht:P.underlying t=some (.slice e)) (hu:P.underlying u=some (.int kn))
  (hi:P.info? e=some i) (hz:jC P e=some z) (ha:zb ρ (.sl r o len (.ex c))=some av) (hzl:z.length=i.size) (h0:0 < i.size) (hk:0 < k) (hc:c < len+k)
  (hb1:(len+k) * i.bytes≤zp) (hb2:len+k≤zp) (hrow:H.row r o (len * i.size)=some olds) :
  zI P B ρ w H (Builtin.append_ #[t,u] ty #[av,.int .i64 k]) (.sl H.size 0 (len+k) (.mi 0)) (H.push (some (.cells .opened i.size (olds++yU k z)))):=by
 obtain⟨i',zv,hi',hzv,hzc⟩:=qU hz
 rw [hi] at hi'
 obtain rfl:=Option.some.inj hi'
 have hzs:zv.cells.size=i.size:=by have:=zB (hzc ρ);simp at this;omega
 obtain⟨L,hr,rfl,hfit⟩:=xq ha
 simp only [yG] at hfit
 unfold zp at hb1 hb2
 obtain⟨ys,hys,hyl,hyc⟩:=hs.row hr hrow
 have hold:(Builtin.firstCells i.size len (.slice (some ⟨L.blk,L.off+o,none⟩) len c)).run P w.drew=.ok ys.toArray w.drew:=run_firstCells_some (P:=P) w.drew i.size len _ len c ys hyl hyc
 have hkb:k * i.bytes≤281474976710656:=by
  have:k * i.bytes≤(len+k) * i.bytes:=Nat.mul_le_mul_right _ (by omega)
  omega
 have hrun:=Go.Lib.run_append_grow_zeros (P:=P) w t u ty e i zv .i64 kn ht hu hi hzv (some ⟨L.blk,L.off+o,none⟩) len c ys hold k hk h0 hc (by omega) hkb (growslice_fits hc (by omega))
 have hzr:zg ρ (yU k z)=some (Builtin.zeroCells zv.cells k).toList:=Qo (hzc ρ) k (.inl fun e=>by rw [e] at hzl;simp at hzl;omega)
 refine Vn (xs:=ys++(Builtin.zeroCells zv.cells k).toList) (e:=e) (old:=c) hs hB (yf hys hzr) ?_ hzs (by unfold maxLen;omega) ?_
 ·rw [List.length_append,hyl,Array.length_toList,size_zeroCells,hzs,Nat.add_mul]
 ·have:(ys++(Builtin.zeroCells zv.cells k).toList).toArray=ys.toArray++Builtin.zeroCells zv.cells k:=by apply Array.ext';simp
  rw [this]
  exact hrun
theorem z2p {t e ty:TypeId} {av:Value} (hs:Sim B ρ w H) (ht:P.underlying t=some (.slice e)) (ha:zb ρ .nils=some av):zI P B ρ w H (Builtin.clear_ #[t] ty #[av]) z4 H:=by
 obtain rfl:=v3 ha
 exact zI.same hs (x:=undef) (by simp [Builtin.clear_,run_underlying ht,undef]) (qW ρ)

theorem z88 {s d e:TypeId} {b:List UInt8} {xv:Value} (hs:Sim B ρ w H) (hB:B≤w.heap.size) (h1:P.underlying s=some .string) (h2:P.underlying d=some (.slice e)) (h3:P.underlying e=some (.int .u8))
  (hx:zb ρ (.str b)=some xv) :
  zI P B ρ w H (convert s d xv) (.sl H.size 0 b.length (.mi 0)) (H.push (some (.cells .stiff 1 (b.map fun c=>.int .u8 c.toNat)))):=by
 obtain rfl:=jd hx
 have hrun:=Lib.run_convert_string_bytes (P:=P) w s d e ⟨⟨b⟩⟩ h1 h2 h3
 have hge:=grownCap_ge w b.length 0 e
 have hcs:∀ ρ:Rho,zg ρ (b.map fun c=>AV.int .u8 c.toNat)=some (b.map fun c=>Value.int .u8 c.toNat):=by
  intro ρ
  clear hge hrun hx
  induction b with
  | nil=>rfl
  | cons c b ih=>exact yW rfl ih
 have hbc:(Lib.bytesCells w e ⟨⟨b⟩⟩).size=grownCap w b.length 0 e:=by
  simp [Lib.bytesCells,Xc];omega
 refine⟨ρ.add H.size (Loc.at w.heap.size 0 (grownCap w b.length 0 e)),_,_,hrun,?_,hs.ext_add _,
  hs.allocAt hB (Lib.bytesWorld_size w e _) (Lib.bytesWorld_at_old w e _) (Lib.bytesWorld_at_new w e _) rfl rfl (by simp) ?_ ?_ ?_,?_,by simp⟩
 ·rw [yJ (wq _ _ _) (by simp only [yG,Loc.at_cap];omega)]
  simp [xj,Xc]
 ·simp [hbc,hge]
 ·rw [hcs]
  simp [Lib.bytesCells]
 ·simp only [Y1,hbc];simp [hge]
 ·refine⟨rfl,rfl,rfl,by rw [Lib.bytesWorld_size];omega,fun k hk=>Lib.bytesWorld_at_old w e _ k (by omega)⟩
theorem z2q {s d e:TypeId} {xv:Value} (hs:Sim B ρ w H) (h1:P.underlying s=some (.slice e)) (h2:P.underlying d=some .string) (h3:P.underlying e=some (.int .u8))
  (hx:zb ρ .nils=some xv):zI P B ρ w H (convert s d xv) (.str []) H:=by
 obtain rfl:=v3 hx
 exact zI.same hs (x:=.string .empty) (by simp [convert,run_underlying h1,run_underlying h2,run_underlying h3,Conv.bytesToString]) rfl
theorem z3t {s d e:TypeId} {r o k n:Nat} {xv:Value} (hs:Sim B ρ w H) (h1:P.underlying s=some (.slice e)) (h2:P.underlying d=some .string) (h3:P.underlying e=some (.int .u8))
  (hx:zb ρ (.zs r o k n)=some xv):zI P B ρ w H (convert s d xv) (.str []) H:=by
 obtain⟨ad,c,rfl⟩:=Kf hx
 have hl:=run_loadCells_list (P:=P) w ad [] (fun j x hj=>by simp at hj)
 have hb:=run_bytesToString (P:=P) w ad 0 c [] hl
 refine zI.same hs (x:=.string .empty) ?_ rfl
 simp [convert,run_underlying h1,run_underlying h2,run_underlying h3,hb]
theorem z0b:∀ {cs:List AV} {bs:List UInt8} {xs:List Value},zO Zc cs=some bs→zg ρ cs=some xs →
  ∃ ns:List Int,xs=ns.map (Value.int .u8)∧bs=ns.map fun n=>UInt8.ofNat n.toNat
 | [],bs,xs,h,hx=>by simp [zO] at h;simp [zg] at hx;subst h;subst hx;exact⟨[],rfl,rfl⟩
 | c::cs,bs,xs,h,hx=>by
  obtain⟨y,ys,h1,h2,rfl⟩:=jo h
  obtain⟨x,xs',hx1,hx2,rfl⟩:=zT hx
  obtain⟨ns,rfl,rfl⟩:=z0b h2 hx2
  unfold Zc at h1
  split at h1
  ·rename_i n
   obtain rfl:=Option.some.inj h1
   obtain rfl:=y5 hx1
   exact⟨n::ns,rfl,rfl⟩
  ·cases h1
theorem z89 {s d e:TypeId} {r o len:Nat} {cap:kb} {cs:List AV} {bs:List UInt8} {xv:Value} (hs:Sim B ρ w H) (h1:P.underlying s=some (.slice e)) (h2:P.underlying d=some .string) (h3:P.underlying e=some (.int .u8))
  (hx:zb ρ (.sl r o len cap)=some xv) (hrow:H.row r o len=some cs) (hbs:zO Zc cs=some bs) :
  zI P B ρ w H (convert s d xv) (.str bs) H:=by
 obtain⟨L,hr,rfl,_⟩:=xq hx
 obtain⟨xs,hxs,hxl,hcell⟩:=hs.row hr hrow
 obtain⟨ns,rfl,rfl⟩:=z0b hbs hxs
 have hl:=run_loadCells_list (P:=P) w ⟨L.blk,L.off+o,none⟩ _ hcell
 rw [hxl] at hl
 have hb:=run_bytesToString (P:=P) w ⟨L.blk,L.off+o,none⟩ len (xj L cap) ns hl
 rw [foldl_push_bytes] at hb
 refine zI.same hs (x:=.string ⟨(ns.map fun n=>UInt8.ofNat n.toNat).toArray⟩) ?_ (by simp [zb])
 simp [convert,run_underlying h1,run_underlying h2,run_underlying h3,hb]

theorem z8a {t:TypeId} {s:List UInt8} {xv:Value} (hs:Sim B ρ w H) (hB:B≤w.heap.size) (ht:P.underlying t=some .string) (hx:zb ρ (.str s)=some xv) :
  zI P B ρ w H (Instr.range t xv) (.ptr H.size 0) (H.push (some (.iter s 0))):=by
 obtain rfl:=jd hx
 refine⟨ρ.add H.size (Loc.at w.heap.size 0 0),.pointer (some ⟨w.heap.size,0,none⟩),w.alloc (.stringIter ⟨⟨s⟩⟩ 0),?_,v5 (wq _ _ _),hs.ext_add _,hs.allocIter hB,(Below.refl _ _).alloc hB _,by simp⟩
 simp [Instr.range,run_underlying ht]
theorem z8b {r:Nat} {ty:TypeId} {s:List UInt8} {pos:Nat} {xv:Value} (hs:Sim B ρ w H) (hx:zb ρ (.ptr r 0)=some xv) (hg:H.get r=some (.iter s pos))
  (h:(if pos < s.length then some (.tup [.bool true,.int .i64 pos,.int .i32 (Utf8.decode ⟨⟨s⟩⟩ pos).1],H.put r (some (.iter s (pos+(Utf8.decode ⟨⟨s⟩⟩ pos).2)))) else some (.tup [.bool false],H))=some (v,H')) :
  zI P B ρ w H (Instr.next xv true ty) v H':=by
 obtain⟨L,hr,rfl⟩:=vq hx
 obtain⟨h1,h2,h3⟩:=hs.obj r L _ hr hg
 have hget:(getObj L.blk).run P w=.ok (.stringIter ⟨⟨s⟩⟩ pos) w:=by simp [getObj,Sem.run,h3]
 split at h
 ·rename_i hlt
  simp at h
  obtain⟨rfl,rfl⟩:=h
  let q:=pos+(Utf8.decode ⟨⟨s⟩⟩ pos).2
  have hset:(setObj L.blk (.stringIter ⟨⟨s⟩⟩ q)).run P w=.ok () { w with heap:=w.heap.setIfInBounds L.blk (.stringIter ⟨⟨s⟩⟩ q) }:=by simp [setObj,Sem.run,h3]
  have hlt2:L.blk < w.heap.size:=(hs.dom r L hr).2
  have hother:∀ k,k≠L.blk→(w.heap.setIfInBounds L.blk (.stringIter ⟨⟨s⟩⟩ q))[k]? = w.heap[k]? := fun k hk=>by
   rw [Array.getElem?_setIfInBounds_ne (Ne.symm hk)]
  refine⟨ρ,.tuple #[.bool true,.int .i64 pos,.int .i32 (Utf8.decode ⟨⟨s⟩⟩ pos).1],{ w with heap:=w.heap.setIfInBounds L.blk (.stringIter ⟨⟨s⟩⟩ q) },?_,by simp [zb,zg],ρ.ext_refl _,?_,
   ⟨rfl,rfl,rfl,by simp,fun k hk=>hother k (by omega)⟩,by simp⟩
  ·simp only [Instr.next,h2,Nat.zero_add,Sem.run_bind,hget,Result.andThen_ok]
   rw [if_pos (by simpa [Xc] using hlt)]
   simp only [Sem.run_bind]
   show (Result.andThen ((setObj L.blk (.stringIter ⟨⟨s⟩⟩ q)).run P w) _)=_
   rw [hset]
   simp [goInt]
  ·refine⟨fun p M hp=>by have:=hs.dom p M hp;simpa using this,fun p M ob hp hgp=>?_,fun p p' M M' ob ob' hne hp hp' hgp hgp' ho ho'=>?_⟩
   ·rw [z3.get_put] at hgp
    split at hgp
    ·rename_i e1
     subst e1
     obtain rfl:=Option.some.inj hgp
     rw [hr] at hp
     obtain rfl:=Option.some.inj hp
     exact⟨h1,h2,by simp [hlt2,q]⟩
    ·rename_i e1
     refine(hs.obj p M ob hp hgp).same (hother _ fun hb=>?_)
     by_cases hob:ob.own=true
     ·exact hs.inj p r M L ob _ e1 hp hr hgp hg hob rfl hb
     ·cases ob with
      | iter s p=>simp [zF.own] at hob
      | mapo es=>simp [zF.own] at hob
      | cells k' z' cs' =>
       cases k'<;>first | (simp [zF.own] at hob;done) | skip
       have:=(hs.obj p M _ hp hgp).1
       omega
   ·rw [z3.get_put] at hgp hgp'
    have key:∀ {p:Nat} {ob:zF},(if p=r then some (zF.iter s q) else H.get p)=some ob→ob.own=true→∃ ob0,H.get p=some ob0∧ob0.own=true:=by
     intro p ob hgp ho
     split at hgp
     ·rename_i e1;subst e1;exact⟨_,hg,rfl⟩
     ·exact⟨ob,hgp,ho⟩
    obtain⟨b1,g1,o1⟩:=key hgp ho
    obtain⟨b2,g2,o2⟩:=key hgp' ho'
    exact hs.inj p p' M M' b1 b2 hne hp hp' g1 g2 o1 o2
 ·rename_i hlt
  simp at h
  obtain⟨rfl,rfl⟩:=h
  refine zI.same hs (x:=.tuple #[.bool false]) ?_ (by simp [zb,zg])
  simp only [Instr.next,h2,Nat.zero_add,Sem.run_bind,hget,Result.andThen_ok]
  rw [if_neg (by simpa [Xc] using hlt)]
  simp
theorem Sim.turn {w':World} {r:Nat} {L:Loc} {ob ob':zF} (hs:Sim B ρ w H) (hr:ρ r=some L) (hg:H.get r=some ob) (ho:ob.own=true) (ho':ob'.own=true)
  (hsz:w'.heap.size=w.heap.size) (hoth:∀ k,k≠L.blk→w'.heap[k]? = w.heap[k]?) (hB:B≤L.blk) (hok:wn B ρ w' L ob'):Sim B ρ w' (H.put r (some ob')):=by
 refine⟨fun p M hp=>by have:=hs.dom p M hp;rw [hsz];simpa using this,fun p M ob hp hgp=>?_,fun p p' M M' b1 b2 hne hp hp' hgp hgp' o1 o2=>?_⟩
 ·rw [z3.get_put] at hgp
  split at hgp
  ·rename_i e1
   subst e1
   obtain rfl:=Option.some.inj hgp
   rw [hr] at hp
   obtain rfl:=Option.some.inj hp
   exact hok
  ·rename_i e1
   refine(hs.obj p M ob hp hgp).same (hoth _ fun hb=>?_)
   by_cases hob:ob.own=true
   ·exact hs.inj p r M L ob _ e1 hp hr hgp hg hob ho hb
   ·cases ob with
    | iter s p=>simp [zF.own] at hob
    | mapo es=>simp [zF.own] at hob
    | cells k' z' cs' =>
     cases k'<;>first | (simp [zF.own] at hob;done) | skip
     have:=(hs.obj p M _ hp hgp).1
     omega
 ·rw [z3.get_put] at hgp hgp'
  have key:∀ {p:Nat} {ob2:zF},(if p=r then some ob' else H.get p)=some ob2→ob2.own=true→∃ ob0,H.get p=some ob0∧ob0.own=true:=by
   intro p ob2 hgp h2
   split at hgp
   ·rename_i e1;subst e1;exact⟨_,hg,ho⟩
   ·exact⟨ob2,hgp,h2⟩
  obtain⟨c1,g1,q1⟩:=key hgp o1
  obtain⟨c2,g2,q2⟩:=key hgp' o2
  exact hs.inj p p' M M' c1 c2 hne hp hp' g1 g2 q1 q2
theorem z8c {s e:TypeId} {r o len z:Nat} {cap:kb} {k:Kd} {cs:List AV} {xv:Value} (hs:Sim B ρ w H) (h1:P.underlying s=some (.slice e)) (h3:P.underlying e=some (.int .u8))
  (hx:zb ρ (.sl r o len cap)=some xv) (hg:H.get r=some (.cells k z cs)) (hk:k≠.ro) :
  zI P B ρ w H (convert s s xv) (.sl r o len cap) (H.put r (some (.cells .stiff z cs))):=by
 have hx0:=hx
 obtain⟨L,hr,rfl,_⟩:=xq hx
 obtain⟨hb,hoff,cur,t,fz,hcur,hle,hcs,hkd⟩:=(zH hk).1 (hs.obj r L _ hr hg)
 have hsh:w.shape? L.blk=some (t,cur.size):=by unfold World.shape?;rw [hcur]
 have hown:(zF.cells k z cs).own=true:=by cases k<;>first | rfl | exact absurd rfl hk
 have hheap:∀ i,(w.freeze ⟨L.blk,cur.size,none⟩ 1).heap[i]? = if i=L.blk then some (.cells cur t (if fz.1 == fz.2 then (cur.size,cur.size+1) else (min fz.1 cur.size,max fz.2 (cur.size+1)))) else w.heap[i]? := by
  intro i
  unfold World.freeze
  simp only [Nat.succ_ne_zero,if_false,Array.getElem?_modify]
  by_cases hi:L.blk=i
  ·subst hi
   simp [hcur]
  ·rw [if_neg hi,if_neg (fun h=>hi h.symm)]
 refine⟨ρ,_,w.freeze ⟨L.blk,cur.size,none⟩ 1,?_,hx0,ρ.ext_refl _,?_,Go.Lib.below_freeze (Below.refl _ _) hb _,Nat.le_refl _⟩
 ·simp [convert,run_underlying h1,run_underlying h3,markStringish,hsh]
 ·refine hs.turn hr hg hown rfl (by simp [World.freeze]) (fun i hi=>by rw [hheap,if_neg hi]) hb ?_
  refine(zH (by decide)).2 ⟨hb,hoff,cur,t,_,by rw [hheap,if_pos rfl],hle,hcs,?_⟩
  show cs.length≤_
  have:Y1 k z L cur.size fz cs.length:=hkd
  split
  ·exact hle
  ·rename_i hne
   cases k
   case ro=>exact absurd rfl hk
   case exact=>obtain⟨e1,_⟩:=hkd;rw [e1] at hne;simp at hne
   case opened=>obtain⟨e1,_⟩:=hkd;rw [e1] at hne;simp at hne
   case stiff=>simp only [Y1] at hkd;simp only [];omega

def z3u (q:EqT) (d:TypeDesc):Prop:=(q=.i∧∃ k,d=.int k)∨(q=.s∧d=.string)
theorem z5P {t:TypeId} {q:EqT} (h:z6s P t=some q):∃ d,P.underlying t=some d∧z3u q d:=by
 unfold z6s at h
 split at h
 ·rename_i k hk;obtain rfl:=Option.some.inj h;exact⟨_,hk,.inl ⟨rfl,k,rfl⟩⟩
 ·rename_i hk;obtain rfl:=Option.some.inj h;exact⟨_,hk,.inr ⟨rfl,rfl⟩⟩
 ·cases h
theorem z3v {q:EqT} {d:TypeDesc} {a b:AV} {x y:Value} {r:Bool} (hd:z3u q d) (ha:zb ρ a=some x) (hb:zb ρ b=some y) (h:eqA q a b=some r) :
  Instr.sameNow d x y=some r∧(r=true→Instr.sameBits 10000 y x=true):=by
 rcases hd with ⟨rfl,k,rfl⟩ | ⟨rfl,rfl⟩
 ·cases a<;>cases b<;>simp only [eqA] at h<;>first | (cases h;done) | skip
  rename_i k1 n1 k2 n2
  split at h
  ·rename_i hk
   subst hk
   obtain rfl:=Option.some.inj h
   obtain rfl:=y5 ha
   obtain rfl:=y5 hb
   refine⟨by simp [Instr.sameNow],fun h1=>?_⟩
   simp at h1
   subst h1
   simp [Instr.sameBits]
  ·cases h
 ·cases a<;>cases b<;>simp only [eqA] at h<;>first | (cases h;done) | skip
  rename_i s1 s2
  obtain rfl:=Option.some.inj h
  obtain rfl:=jd ha
  obtain rfl:=jd hb
  have e:((⟨⟨s1⟩⟩:ByteArray) == ⟨⟨s2⟩⟩)=(s1 == s2):=by
   show ((⟨s1⟩:Array UInt8) == ⟨s2⟩)=_
   simp
  refine⟨by simp only [Instr.sameNow,e],fun h1=>?_⟩
  simp at h1
  subst h1
  show ((⟨s1⟩:Array UInt8) == ⟨s1⟩)=true
  simp
theorem z3w {q:EqT} {d:TypeDesc} {k:AV} {kv:Value} (hd:z3u q d) (hk:zb ρ k=some kv):∀ {es:List (AV × AV)} {l:List MapEntry} {r:Option AV} (i:Nat),jc ρ es l→z04 q k es=some r →
  (r=none∧Instr.findNow d kv l i=some none)∨∃ v x j,r=some v∧zb ρ v=some x∧Instr.findNow d kv l i=some (some (j,x))
 | [],l,r,i,he,h=>by
  obtain rfl:l=[]:=he
  obtain rfl:=Option.some.inj h
  exact .inl ⟨rfl,rfl⟩
 | (a,v)::es,l,r,i,he,h=>by
  obtain⟨e,l',rfl,h1,h2,h3⟩:=he
  simp only [z04] at h
  cases hq:eqA q k a with
  | none=>simp [hq] at h
  | some b =>
   have hs:=(z3v hd hk h1 hq).1
   simp only [Instr.findNow,hs]
   cases b with
   | true=>simp [hq] at h;subst h;exact .inr ⟨v,e.val,i,rfl,h2,rfl⟩
   | false=>simp [hq] at h;exact z3w hd hk (i+1) h3 h
theorem jc.append {l':List MapEntry} {es':List (AV × AV)}:∀ {es:List (AV × AV)} {l:List MapEntry},jc ρ es l→jc ρ es' l'→jc ρ (es++es') (l++l')
 | [],l,h,h'=>by obtain rfl:l=[]:=h;exact h'
 | (a,v)::es,l,h,h'=>by obtain⟨e,m,rfl,h1,h2,h3⟩:=h;exact⟨e,m++l',rfl,h1,h2,h3.append h'⟩
theorem z5Q {q:EqT} {d:TypeDesc} {k v:AV} {kv vv:Value} (hd:z3u q d) (hk:zb ρ k=some kv) (hv:zb ρ v=some vv):∀ {es:List (AV × AV)} {l:List MapEntry} {es':List (AV × AV)} (i:Nat),jc ρ es l→z4X q k v es=some es' →
  (Instr.findNow d kv l i=some none∧∀ c,jc ρ es' (l++[⟨kv,vv,c⟩])) ∨
   ∃ j e,Instr.findNow d kv l i=some (some (i+j,e.val))∧l[j]? = some e∧Instr.sameBits 10000 e.key kv=true∧jc ρ es' (l.modify j fun e=>{ e with key:=kv,val:=vv })
 | [],l,es',i,he,h=>by
  obtain rfl:l=[]:=he
  obtain rfl:=Option.some.inj h
  exact .inl ⟨rfl,fun c=>⟨_,[],rfl,hk,hv,rfl⟩⟩
 | (a,w)::es,l,es',i,he,h=>by
  obtain⟨e,l',rfl,h1,h2,h3⟩:=he
  simp only [z4X] at h
  cases hq:eqA q k a with
  | none=>simp [hq] at h
  | some b =>
   have hs:=z3v hd hk h1 hq
   simp only [Instr.findNow,hs.1]
   cases b with
   | true =>
    simp [hq] at h
    subst h
    exact .inr ⟨0,e,rfl,rfl,hs.2 rfl,_,l',rfl,hk,hv,h3⟩
   | false =>
    simp only [hq] at h
    obtain⟨es2,h4,rfl⟩:=Option.map_eq_some_iff.1 h
    rcases z5Q hd hk hv (i+1) h3 h4 with ⟨h5,h6⟩ | ⟨j,e2,h5,h6,h7,h8⟩
    ·exact .inl ⟨h5,fun c=>⟨e,_,rfl,h1,h2,h6 c⟩⟩
    ·refine .inr ⟨j+1,e2,by rw [h5,show i+1+j=i+(j+1) by omega],by simpa using h6,h7,?_⟩
     exact⟨e,_,by simp only [List.modify_succ_cons],h1,h2,h8⟩
theorem Km {t:TypeId} {d:TypeDesc} {q:EqT} (ht:P.underlying t=some d) (hd:z3u q d) (em:Bool) (n:Nat) (x:Value) (w:World):(Instr.checkKey em (n+1) t x).run P w=.ok () w:=by
 rcases hd with ⟨rfl,k,rfl⟩ | ⟨rfl,rfl⟩<;>simp [Instr.checkKey,run_underlying ht]
theorem wt {t:TypeId} {d:TypeDesc} {kv:Value} {l:List MapEntry} {r:Option (Nat × Value)} (ht:P.underlying t=some d) (h:Instr.findNow d kv l 0=some r) (w:World):(Instr.findKey t kv l).run P w=.ok r w:=by
 simp [Instr.findKey,run_underlying ht,h]
theorem Sim.allocMap (h:Sim B ρ w H) (hB:B≤w.heap.size):Sim B (ρ.add H.size (Loc.at w.heap.size 0 0)) (w.alloc (.map #[] 0)) (H.push (some (.mapo []))):=by
 have hmono:=h.le_add (Loc.at w.heap.size 0 0)
 have hold:∀ i,i < w.heap.size→(w.alloc (.map #[] 0)).heap[i]? = w.heap[i]? := fun i hi=>Below.heap_alloc w _ i hi
 have hsz:(w.alloc (.map #[] 0)).heap.size=w.heap.size+1:=by simp
 refine⟨fun r M hr=>?_,fun r M o hr hg=>?_,fun r r' M M' o o' hne hr hr' hg hg' ho ho'=>?_⟩
 ·unfold Rho.add at hr
  split at hr
  ·rename_i e;subst e;obtain rfl:=Option.some.inj hr;rw [hsz];simp
  ·have:=h.dom r M hr;rw [hsz];simp;omega
 ·rw [z3.get_push] at hg
  unfold Rho.add at hr
  split at hr
  ·rename_i e
   rw [if_pos e] at hg
   obtain rfl:=Option.some.inj hr
   obtain rfl:=Option.some.inj hg
   exact⟨hB,rfl,#[],0,Go.heap_alloc_new w _,rfl⟩
  ·rename_i e
   rw [if_neg e] at hg
   exact((h.obj r M o hr hg).same (hold _ (h.dom r M hr).2)).mono hmono
 ·rw [z3.get_push] at hg hg'
  unfold Rho.add at hr hr'
  split at hr
  ·rename_i e1
   obtain rfl:=Option.some.inj hr
   split at hr'
   ·rename_i e2;exact absurd (e1.trans e2.symm) hne
   ·have:=(h.dom r' M' hr').2;simp;omega
  ·rename_i e1
   rw [if_neg e1] at hg
   split at hr'
   ·obtain rfl:=Option.some.inj hr'
    have:=(h.dom r M hr).2;simp;omega
   ·rename_i e2
    rw [if_neg e2] at hg'
    exact h.inj r r' M M' o o' hne hr hr' hg hg' ho ho'
theorem z2r {r:Nat} {x:Value} (h:zb ρ (.mp r)=some x):∃ L,ρ r=some L∧x=.map (some L.blk):=by
 simp only [zb] at h
 split at h
 ·rename_i L hr;exact⟨L,hr,(Option.some.inj h).symm⟩
 ·cases h
theorem z8d {t:TypeId} (hs:Sim B ρ w H) (hB:B≤w.heap.size):zI P B ρ w H (Instr.makeMap t none) (.mp H.size) (H.push (some (.mapo []))):=by
 refine⟨ρ.add H.size (Loc.at w.heap.size 0 0),.map (some w.heap.size),w.alloc (.map #[] 0),?_,by simp [zb,wq],hs.ext_add _,hs.allocMap hB,(Below.refl _ _).alloc hB _,by simp⟩
 simp [Instr.makeMap]
theorem Sim.mapo (hs:Sim B ρ w H) {r:Nat} {L:Loc} {es:List (AV × AV)} (hr:ρ r=some L) (hg:H.get r=some (.mapo es)) :
  ∃ ents clock,(getObj L.blk).run P w=.ok (.map ents clock) w∧jc ρ es ents.toList∧w.heap[L.blk]? = some (.map ents clock)∧B≤L.blk∧L.off=0:=by
 obtain⟨h1,h2,ents,clock,h4,h5⟩:=hs.obj r L _ hr hg
 exact⟨ents,clock,by simp [getObj,Sem.run,h4],h5,h4,h1,h2⟩
theorem JA {z:AV} {zv:Value} {ok:Bool} {r:Option AV} {r':Option Value} (hz:zb ρ z=some zv) (h:(r=none∧r'=none)∨∃ v x,r=some v∧r'=some x∧zb ρ v=some x) :
  zb ρ (Ju z ok r)=some (match r' with
   | some x=>if ok then .tuple #[x,.bool true] else x
   | none=>if ok then .tuple #[zv,.bool false] else zv):=by
 rcases h with ⟨rfl,rfl⟩ | ⟨v,x,rfl,rfl,hx⟩
 ·cases ok<;>simp [Ju,zb,zg,hz]
 ·cases ok<;>simp [Ju,zb,zg,hx]
theorem z8e {t k e:TypeId} {q:EqT} {z x i:AV} {xv iv:Value} {ok:Bool} (hs:Sim B ρ w H) (ht:P.underlying t=some (.map k e)) (hq:z6s P k=some q) (hz:X0 P e=some z)
  (hx:zb ρ x=some xv) (hi:zb ρ i=some iv) (h:Vd H q z ok x i=some v):zI P B ρ w H (Instr.lookup t xv iv ok) v H:=by
 obtain⟨d,hd,hk⟩:=z5P hq
 obtain⟨zv,hzv,hzr⟩:∃ zv,zb ρ z=some zv∧∀ w,(zeroValue e).run P w=.ok zv w:=by
  unfold X0 at hz
  split at hz
  ·rename_i inf hinf
   split at hz
   ·rename_i zz hzz
    refine⟨zz,Yg 20 _ _ hz,fun w=>?_⟩
    simp [zeroValue,typeInfo,Sem.run,hinf,hzz]
   ·cases hz
  ·cases hz
 have hc:∀ em w,(Instr.checkKey em 10000 k iv).run P w=.ok () w:=fun em w=>Km hd hk em 9999 iv w
 unfold Vd at h
 split at h
 ·rename_i r
  obtain⟨L,hr,rfl⟩:=z2r hx
  split at h
  ·rename_i es hg
   obtain⟨f,hf,rfl⟩:=Option.map_eq_some_iff.1 h
   obtain⟨ents,clock,hget,hE,_⟩:=hs.mapo (P:=P) hr hg
   rcases z3w hk hi 0 hE hf with ⟨rfl,hfn⟩ | ⟨u,x,j,rfl,hu,hfn⟩
   ·refine zI.same hs ?_ (JA (r':=none) hzv (.inl ⟨rfl,rfl⟩))
    simp [Instr.lookup,run_underlying ht,hget,hc,wt hd hfn,hzr]
   ·refine zI.same hs ?_ (JA (r':=some x) hzv (.inr ⟨u,x,rfl,rfl,hu⟩))
    simp [Instr.lookup,run_underlying ht,hget,hc,wt hd hfn]
  ·cases h
 ·obtain rfl:xv=.map none:=by simpa [zb] using hx.symm
  obtain rfl:=Option.some.inj h
  refine zI.same hs ?_ (JA (r':=none) hzv (.inl ⟨rfl,rfl⟩))
  simp [Instr.lookup,run_underlying ht,hc,wt hd (l:=[]) (r:=none) rfl,hzr]
 ·cases h
theorem z8f {t k e:TypeId} {q:EqT} {x i a:AV} {xv iv av:Value} (hs:Sim B ρ w H) (ht:P.underlying t=some (.map k e)) (hq:z6s P k=some q)
  (hx:zb ρ x=some xv) (hi:zb ρ i=some iv) (ha:zb ρ a=some av) (h:z2c H q x i a=some (v,H')) :
  ∃ w',(Instr.mapUpdate t xv iv av).run P w=.ok () w'∧v=z4∧Sim B ρ w' H'∧Below B w w'∧H.size≤H'.size:=by
 obtain⟨d,hd,hk⟩:=z5P hq
 have hc:∀ em w,(Instr.checkKey em 10000 k iv).run P w=.ok () w:=fun em w=>Km hd hk em 9999 iv w
 unfold z2c at h
 split at h
 ·rename_i r
  obtain⟨L,hr,rfl⟩:=z2r hx
  split at h
  ·rename_i es hg
   obtain⟨es',hp,hv⟩:=Option.map_eq_some_iff.1 h
   simp at hv
   obtain⟨rfl,rfl⟩:=hv
   obtain⟨ents,clock,hget,hE,hh,hB,hoff⟩:=hs.mapo (P:=P) hr hg
   have hlt:L.blk < w.heap.size:=(hs.dom r L hr).2
   have key:∀ (ents':Array MapEntry) (c':Nat),jc ρ es' ents'.toList→Sim B ρ { w with heap:=w.heap.setIfInBounds L.blk (.map ents' c') } (H.put r (some (.mapo es')))∧Below B w { w with heap:=w.heap.setIfInBounds L.blk (.map ents' c') }:=by
    intro ents' c' hE'
    have hother:∀ k,k≠L.blk→(w.heap.setIfInBounds L.blk (.map ents' c'))[k]? = w.heap[k]? := fun k hk=>by
     rw [Array.getElem?_setIfInBounds_ne (Ne.symm hk)]
    exact⟨hs.turn hr hg rfl rfl (by simp) hother hB ⟨hB,hoff,ents',c',by simp [hlt],hE'⟩,⟨rfl,rfl,rfl,by simp,fun k hk=>hother k (by omega)⟩⟩
   have hset:∀ o,(setObj L.blk o).run P w=.ok () { w with heap:=w.heap.setIfInBounds L.blk o }:=by intro o;simp [setObj,Sem.run,hh]
   rcases z5Q hk hi ha 0 hE hp with ⟨hfn,hE'⟩ | ⟨j,en,hfn,hj,hb,hE'⟩
   ·obtain⟨k1,k2⟩:=key (ents.push ⟨iv,av,clock⟩) (clock+1) (by simpa using hE' clock)
    refine⟨_,?_,rfl,k1,k2,by simp⟩
    simp [Instr.mapUpdate,run_underlying ht,hget,hc,wt hd hfn,hset]
   ·obtain⟨k1,k2⟩:=key (ents.modify j fun e=>{ e with key:=iv,val:=av }) clock (by simpa using hE')
    refine⟨_,?_,rfl,k1,k2,by simp⟩
    have hj2:ents[j]? = some en:=by simpa using hj
    simp [Instr.mapUpdate,run_underlying ht,hget,hc,wt hd hfn,hset,hj2,Instr.keyThatStays,hb]
  ·cases h
 ·cases h
theorem z8g {t k e:TypeId} {ty:TypeId} {x:AV} {xv:Value} (hs:Sim B ρ w H) (ht:P.underlying t=some (.map k e)) (hx:zb ρ x=some xv) (h:z10 H x=some v) :
  zI P B ρ w H (Builtin.len_ #[t] ty #[xv]) v H:=by
 unfold z10 at h
 split at h
 ·rename_i r
  obtain⟨L,hr,rfl⟩:=z2r hx
  split at h
  ·rename_i es hg
   obtain rfl:=Option.some.inj h
   obtain⟨ents,clock,hget,hE,_⟩:=hs.mapo (P:=P) hr hg
   have hlen:∀ {es:List (AV × AV)} {l:List MapEntry},jc ρ es l→l.length=es.length:=by
    intro es
    induction es with
    | nil=>intro l h;obtain rfl:l=[]:=h;rfl
    | cons p es ih=>intro l h;obtain⟨_,l',rfl,_,_,h3⟩:=h;simp [ih h3]
   have:=hlen hE
   refine zI.same hs (x:=.int .i64 es.length) ?_ (by simp [zb])
   simp [Builtin.len_,run_underlying ht,hget,goInt]
   rw [← this];simp
  ·cases h
 ·obtain rfl:xv=.map none:=by simpa [zb] using hx.symm
  obtain rfl:=Option.some.inj h
  refine zI.same hs (x:=.int .i64 0) ?_ (by simp [zb])
  simp [Builtin.len_,run_underlying ht,goInt]
 ·cases h
end
end Go.Ab
