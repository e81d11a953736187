/- What a function is shown to come to may be told of it in the callers' stead, with what it leaves behind forgotten and new blocks named anew. -/
import Derived.Test.YtdbbdfmkglgjdaaSh6
set_option linter.unusedVariables false
set_option linter.unusedSimpArgs false
set_option linter.unusedSectionVars false
namespace Go.Ab
open Go.RowKit

mutual
def jQ (f:Nat→Option Nat):AV→Option AV
 | .ptr r o=>(f r).map fun r=>.ptr r o
 | .sl r o n c=>(f r).map fun r=>.sl r o n c
 | .zs r o n c=>(f r).map fun r=>.zs r o n c
 | .raw r=>(f r).map fun r=>.raw r
 | .fn g a b=>match ZD f a,ZD f b with
  | some a,some b=>some (.fn g a b)
  | _,_=>none
 | .ifc t v=>(jQ f v).map fun v=>.ifc t v
 | .agg l=>(ZD f l).map fun l=>.agg l
 | .tup l=>(ZD f l).map fun l=>.tup l
 | .bool b=>some (.bool b)
 | .int k n=>some (.int k n)
 | .str s=>some (.str s)
 | .nilp=>some .nilp
 | .nils=>some .nils
 | .nilfn=>some .nilfn
 | .nilifc=>some .nilifc
 | .nilm=>some .nilm
 | .mp r=>(f r).map fun r=>.mp r
 | .fz _ _=>none
 | .ow _ _=>none
 | .cp _ _=>none
 | .lt _ _=>none
 | .sk=>none
def ZD (f:Nat→Option Nat):List AV→Option (List AV)
 | []=>some []
 | v::l=>match jQ f v,ZD f l with
  | some v,some l=>some (v::l)
  | _,_=>none
end

def z9n (f:Nat→Option Nat):List (AV × AV)→Option (List (AV × AV))
 | []=>some []
 | (k,v)::l=>match jQ f k,jQ f v,z9n f l with
  | some k,some v,some l=>some ((k,v)::l)
  | _,_,_=>none
def z5H (f:Nat→Option Nat):zF→Option zF
 | .iter s p=>some (.iter s p)
 | .mapo es=>(z9n f es).map .mapo
 | .cells k z cs=>(ZD f cs).map fun cs=>.cells k z cs
section
variable {f:Nat→Option Nat} {ρ1 ρ':Rho} (hf:∀ r r',f r=some r'→ρ' r'=ρ1 r)
include hf
mutual
theorem YX:∀ (v v':AV) (x:Value),jQ f v=some v'→zb ρ1 v=some x→zb ρ' v'=some x
 | .ptr r o,v',x,h,hx=>by
  simp only [jQ] at h
  obtain⟨r',hr,rfl⟩:=Option.map_eq_some_iff.1 h
  simp only [zb] at hx ⊢
  rw [hf r r' hr];exact hx
 | .sl r o n c,v',x,h,hx=>by
  simp only [jQ] at h
  obtain⟨r',hr,rfl⟩:=Option.map_eq_some_iff.1 h
  simp only [zb] at hx ⊢
  rw [hf r r' hr];exact hx
 | .zs r o n c,v',x,h,hx=>by
  simp only [jQ] at h
  obtain⟨r',hr,rfl⟩:=Option.map_eq_some_iff.1 h
  simp only [zb] at hx ⊢
  rw [hf r r' hr];exact hx
 | .raw r,v',x,h,hx=>by
  simp only [jQ] at h
  obtain⟨r',hr,rfl⟩:=Option.map_eq_some_iff.1 h
  simp only [zb] at hx ⊢
  rw [hf r r' hr];exact hx
 | .mp r,v',x,h,hx=>by
  simp only [jQ] at h
  obtain⟨r',hr,rfl⟩:=Option.map_eq_some_iff.1 h
  simp only [zb] at hx ⊢
  rw [hf r r' hr];exact hx
 | .fn g a b,v',x,h,hx=>by
  simp only [jQ] at h
  split at h
  ·rename_i a' b' ha hb
   obtain rfl:=Option.some.inj h
   simp only [zb] at hx ⊢
   cases h1:zg ρ1 a with
   | none=>rw [h1] at hx;cases hx
   | some y =>
    cases h2:zg ρ1 b with
    | none=>rw [h1,h2] at hx;cases hx
    | some z =>
     rw [h1,h2] at hx
     rw [Zb a a' y ha h1,Zb b b' z hb h2]
     exact hx
  ·cases h
 | .ifc t v,v',x,h,hx=>by
  simp only [jQ] at h
  obtain⟨u,hu,rfl⟩:=Option.map_eq_some_iff.1 h
  simp only [zb] at hx ⊢
  cases h1:zb ρ1 v with
  | none=>rw [h1] at hx;cases hx
  | some y=>rw [h1] at hx;rw [YX v u y hu h1];exact hx
 | .agg l,v',x,h,hx=>by
  simp only [jQ] at h
  obtain⟨u,hu,rfl⟩:=Option.map_eq_some_iff.1 h
  simp only [zb] at hx ⊢
  cases h1:zg ρ1 l with
  | none=>rw [h1] at hx;cases hx
  | some y=>rw [h1] at hx;rw [Zb l u y hu h1];exact hx
 | .tup l,v',x,h,hx=>by
  simp only [jQ] at h
  obtain⟨u,hu,rfl⟩:=Option.map_eq_some_iff.1 h
  simp only [zb] at hx ⊢
  cases h1:zg ρ1 l with
  | none=>rw [h1] at hx;cases hx
  | some y=>rw [h1] at hx;rw [Zb l u y hu h1];exact hx
 | .bool _,v',x,h,hx | .int _ _,v',x,h,hx | .str _,v',x,h,hx | .nilp,v',x,h,hx | .nils,v',x,h,hx | .nilfn,v',x,h,hx | .nilifc,v',x,h,hx | .nilm,v',x,h,hx=>by
  simp only [jQ,Option.some.injEq] at h
  subst h
  simp only [zb] at hx ⊢
  exact hx
theorem Zb:∀ (l l':List AV) (x:List Value),ZD f l=some l'→zg ρ1 l=some x→zg ρ' l'=some x
 | [],l',x,h,hx=>by
  simp only [ZD,Option.some.injEq] at h
  subst h
  exact hx
 | v::l,l',x,h,hx=>by
  simp only [ZD] at h
  split at h
  ·rename_i v' m h1 h2
   obtain rfl:=Option.some.inj h
   obtain⟨y,ys,hy,hys,rfl⟩:=zT hx
   exact yW (YX v v' y h1 hy) (Zb l m ys h2 hys)
  ·cases h
end

theorem z27:∀ (l l':List (AV × AV)) (x:List MapEntry),z9n f l=some l'→jc ρ1 l x→jc ρ' l' x
 | [],l',x,h,hx=>by
  simp only [z9n,Option.some.injEq] at h
  subst h
  exact hx
 | (k,v)::l,l',x,h,hx=>by
  simp only [z9n] at h
  split at h
  ·rename_i k' v' m h0 h1 h2
   obtain rfl:=Option.some.inj h
   obtain⟨e,y,rfl,hk,hv,hys⟩:=hx
   exact⟨e,y,rfl,YX hf k k' _ h0 hk,YX hf v v' _ h1 hv,z27 l m y h2 hys⟩
  ·cases h
theorem z7o {B:Nat} {w:World} {L:Loc} {o o':zF} (h:z5H f o=some o') (ho:wn B ρ1 w L o):wn B ρ' w L o':=by
 cases o with
 | iter s p=>obtain rfl:=Option.some.inj h;exact ho
 | mapo es =>
  simp only [z5H] at h
  obtain⟨es',hes,rfl⟩:=Option.map_eq_some_iff.1 h
  obtain⟨h1,h2,ents,clock,h3,h4⟩:=ho
  exact⟨h1,h2,ents,clock,h3,z27 hf _ _ _ hes h4⟩
 | cells k z cs =>
  simp only [z5H] at h
  obtain⟨cs',hcs,rfl⟩:=Option.map_eq_some_iff.1 h
  have hlen:cs'.length=cs.length:=by
   have key:∀ (l l':List AV),ZD f l=some l'→l'.length=l.length:=by
    intro l
    induction l with
    | nil=>intro l' h;simp only [ZD,Option.some.injEq] at h;subst h;rfl
    | cons v l ih =>
     intro l' h
     simp only [ZD] at h
     split at h
     ·rename_i v' m h1 h2
      obtain rfl:=Option.some.inj h
      simp [ih m h2]
     ·cases h
   exact key _ _ hcs
  by_cases hk:k=.ro
  ·subst hk
   refine⟨ho.1,fun i v hv=>?_⟩
   have key:∀ (l l':List AV) (i:Nat),ZD f l=some l'→l'[i]? = some v→∃ u,l[i]? = some u∧jQ f u=some v:=by
    intro l
    induction l with
    | nil=>intro l' i h hv;simp only [ZD,Option.some.injEq] at h;subst h;simp at hv
    | cons u l ih =>
     intro l' i h hv
     simp only [ZD] at h
     split at h
     ·rename_i v' m h1 h2
      obtain rfl:=Option.some.inj h
      cases i with
      | zero=>simp at hv;subst hv;exact⟨u,rfl,h1⟩
      | succ i=>simpa using ih m i h2 (by simpa using hv)
     ·cases h
   obtain⟨u,hu,hr⟩:=key _ _ i hcs hv
   obtain⟨x,hx,hc⟩:=ho.2 i u hu
   exact⟨x,YX hf _ _ _ hr hx,hc⟩
  ·obtain⟨h1,h2,cur,e,fz,h3,h4,h5,h6⟩:=(zH hk).1 ho
   refine(zH hk).2 ⟨h1,h2,cur,e,fz,h3,by omega,?_,?_⟩
   ·rw [hlen];exact Zb hf _ _ _ hcs h5
   ·rw [hlen];exact h6
end

def QV (m:Nat) (rs:List Nat) (r':Nat):Option Nat:=if r' < m then some r' else rs[r' - m]?
def z28 (m:Nat) (rs:List Nat) (r:Nat):Option Nat:=if r < m then some r else
 if rs.idxOf r < rs.length then some (m+rs.idxOf r) else none
structure Fgt (H H1 H':z3) (rs:List Nat):Prop where
 size:H'.size=H.size+rs.length
 news:∀ r ∈ rs,H.size≤r
 nodup:rs.Nodup
 obj:∀ r r' o',QV H.size rs r'=some r→H'.get r'=some o'→∃ o,H1.get r=some o∧(z5H (z28 H.size rs) o=some o'∨(r' < H.size∧H.get r=some o∧o'=o))
theorem z4S {m:Nat} {rs:List Nat} {r r':Nat} (h:z28 m rs r=some r'):QV m rs r'=some r:=by
 unfold z28 at h
 unfold QV
 split at h
 ·rename_i hr
  obtain rfl:=Option.some.inj h
  rw [if_pos hr]
 ·split at h
  ·rename_i hr hi
   obtain rfl:=Option.some.inj h
   rw [if_neg (by omega)]
   rw [show m+rs.idxOf r - m=rs.idxOf r by omega]
   rw [List.getElem?_eq_getElem hi,List.getElem_idxOf hi]
  ·cases h
theorem jc.back {ρ ρ2:Rho} (hl:ρ.le ρ2):∀ {es:List (AV × AV)} {l l2:List MapEntry},jc ρ es l→jc ρ2 es l2→jc ρ es l2
 | [],l,l2,_,h2=>h2
 | (k,v)::es,l,l2,⟨e,m,_,h1,h2,h3⟩,⟨e',m',e1,k1,k2,k3⟩=>by
  refine⟨e',m',e1,?_,?_,jc.back hl h3 k3⟩
  ·rw [jm hl _ _ h1] at k1
   rw [h1,Option.some.inj k1]
  ·rw [jm hl _ _ h2] at k2
   rw [h2,Option.some.inj k2]
theorem z4T {f:Nat→Option Nat} {o o':zF} (h:z5H f o=some o'):o'.own=o.own:=by
 cases o with
 | iter s p=>obtain rfl:=Option.some.inj h;rfl
 | mapo es=>simp only [z5H] at h;obtain⟨es',hes,rfl⟩:=Option.map_eq_some_iff.1 h;rfl
 | cells k z cs =>
  simp only [z5H] at h
  obtain⟨cs',hcs,rfl⟩:=Option.map_eq_some_iff.1 h
  cases k<;>rfl
theorem Fgt.post {B:Nat} {ρ:Rho} {w w':World} {H H1 H':z3} {rs:List Nat} {v1 v:AV} {e:Ending} (h:Fgt H H1 H' rs) (hs:Sim B ρ w H) (hv:jQ (z28 H.size rs) v1=some v)
  (hp:z2d B ρ w H v1 H1 e w'):z2d B ρ w H v H' e w':=by
 obtain⟨ρ1,x,he,hx,hext,hs1,hb,hsz⟩:=hp
 let ρ':Rho:=fun r'=>match QV H.size rs r' with
  | some r=>ρ1 r
  | none=>none
 have hof:∀ r' r,QV H.size rs r'=some r→ρ' r'=ρ1 r:=fun r' r e=>by simp only [ρ',e]
 have hlow:∀ r,r < H.size→QV H.size rs r=some r:=fun r hr=>by unfold QV;rw [if_pos hr]
 have hren:∀ r r',z28 H.size rs r=some r'→ρ' r'=ρ1 r:=fun r r' e=>hof _ _ (z4S e)
 have hinv:∀ r' L,ρ' r'=some L→∃ r,QV H.size rs r'=some r∧ρ1 r=some L∧r' < H'.size:=by
  intro r' L hL
  cases ho:QV H.size rs r' with
  | none=>simp only [ρ',ho] at hL;cases hL
  | some r =>
   refine⟨r,rfl,by rw [← hof _ _ ho];exact hL,?_⟩
   rw [h.size]
   unfold QV at ho
   split at ho
   ·omega
   ·have:=(List.getElem?_eq_some_iff.1 ho).1
    omega
 refine⟨ρ',x,he,YX hren _ _ _ hv hx,⟨fun r L hL=>?_,fun r hr=>?_⟩,⟨fun r' L hL=>?_,fun r' L o' hL ho'=>?_,?_⟩,hb,by rw [h.size];omega⟩
 ·have hr:=(hs.dom r L hL).1
  rw [hof r r (hlow r hr),hext.2 r hr]
  exact hL
 ·rw [hof r r (hlow r hr),hext.2 r hr]
 ·obtain⟨r,h1,h2,h3⟩:=hinv r' L hL
  exact⟨h3,(hs1.dom r L h2).2⟩
 ·obtain⟨r,h1,h2,h3⟩:=hinv r' L hL
  obtain⟨o,ho,hd⟩:=h.obj r r' o' h1 ho'
  have hok:=hs1.obj r L o h2 ho
  rcases hd with hd | ⟨hlt,hH,rfl⟩
  ·exact z7o hren hd hok
  ·-- an old block that is as it was
   have hrr:r=r':=by
    rw [hlow r' hlt] at h1
    exact(Option.some.inj h1).symm
   subst hrr
   have hL0:ρ r=some L:=by rw [← hext.2 r hlt];exact h2
   have hok0:=hs.obj r L _ hL0 hH
   have hle:ρ.le ρ':=fun s M hM=>by
    have hs':=(hs.dom s M hM).1
    rw [hof s s (hlow s hs'),hext.2 s hs']
    exact hM
   cases o' with
   | iter s p=>exact hok
   | mapo es =>
    obtain⟨a1,a2,ents,clock,a3,a4⟩:=hok
    obtain⟨_,_,ents0,_,_,b4⟩:=hok0
    exact⟨a1,a2,ents,clock,a3,(jc.back hext.1 b4 a4).mono hle⟩
   | cells k z cs =>
    by_cases hk:k=.ro
    ·subst hk
     refine⟨hok.1,fun i v hv=>?_⟩
     obtain⟨y,hy,hc⟩:=hok.2 i v hv
     obtain⟨y0,hy0,_⟩:=hok0.2 i v hv
     have:y0=y:=by
      have:=jm hext.1 _ _ hy0
      rw [hy] at this
      exact(Option.some.inj this).symm
     subst this
     exact⟨y0,jm hle _ _ hy0,hc⟩
    ·obtain⟨a1,a2,cur,e,fz,a3,a4,a5,a6⟩:=(zH hk).1 hok
     obtain⟨b1,b2,cur0,e0,fz0,b3,b4,b5,b6⟩:=(zH hk).1 hok0
     refine(zH hk).2 ⟨a1,a2,cur,e,fz,a3,a4,?_,a6⟩
     have:=y6 hext.1 _ _ b5
     rw [a5] at this
     rw [Option.some.inj this]
     exact y6 hle _ _ b5
 ·intro r' s' L L' o o' hne hL hL' ho ho' hw hw'
  obtain⟨r,h1,h2,_⟩:=hinv r' L hL
  obtain⟨s,g1,g2,_⟩:=hinv s' L' hL'
  obtain⟨p,hp,hd⟩:=h.obj r r' o h1 ho
  obtain⟨q,hq,hd'⟩:=h.obj s s' o' g1 ho'
  refine hs1.inj r s L L' p q ?_ h2 g2 hp hq ?_ ?_
  ·intro e
   subst e
   unfold QV at h1 g1
   split at h1<;>split at g1
   ·exact hne ((Option.some.inj h1).trans (Option.some.inj g1).symm)
   ·have:=h.news _ (List.mem_of_getElem? g1)
    have:=Option.some.inj h1
    omega
   ·have:=h.news _ (List.mem_of_getElem? h1)
    have:=Option.some.inj g1
    omega
   ·have hi:=(List.getElem?_eq_some_iff.1 h1).1
    have:=(List.getElem?_inj hi h.nodup).1 (h1.trans g1.symm)
    omega
  ·rcases hd with hd | ⟨_,_,rfl⟩
   ·rw [← z4T hd];exact hw
   ·exact hw
  ·rcases hd' with hd | ⟨_,_,rfl⟩
   ·rw [← z4T hd];exact hw'
   ·exact hw'
theorem xM.of {P:Program} {E0 E:Env} (hE:W7 P E0) (hst:W4 E0 E) {f:Nat} (hf:E0.spec f=none) {g:List AV→z3→Option (AV × z3)}
  (h:∀ args H v H',g args H=some (v,H')→∃ v1 H1 rs,zL E f args H=some (v1,H1)∧Fgt H H1 H' rs∧jQ (z28 H.size rs) v1=some v):xM P f g:=by
 intro B ρ w H args xs v H' hB hs hx hg
 obtain⟨v1,H1,rs,hc,hF,hv⟩:=h args H v H' hg
 obtain⟨n,hn⟩:=xK.1 (wQ hst hc)
 obtain⟨h1,h2⟩:=(Jh hE n).1 f args H v1 H1 hf hn
 exact Or.inl ⟨h1,(h2 B ρ w xs hB hs hx).mono fun e w' hp=>hF.post hs hv hp⟩

structure wR (H H1:z3):Prop where
 size:H.size≤H1.size
 get:∀ r,r < H.size→H1.get r=H.get r
theorem wR.refl (H:z3):wR H H:=⟨Nat.le_refl _,fun _ _=>rfl⟩
theorem wR.trans {H H1 H2:z3} (a:wR H H1) (b:wR H1 H2):wR H H2:=⟨Nat.le_trans a.size b.size,fun r hr=>(b.get r (Nat.lt_of_lt_of_le hr a.size)).trans (a.get r hr)⟩
theorem wR.push {H H1:z3} (a:wR H H1) (o:Option zF):wR H (H1.push o) :=
 ⟨Nat.le_succ_of_le a.size,fun r hr=>by rw [z3.get_push,if_neg (by have:=a.size;omega)];exact a.get r hr⟩
theorem wR.put {H H1:z3} (a:wR H H1) {r:Nat} (h:H.size≤r) (o:Option zF):wR H (H1.put r o) :=
 ⟨a.size,fun s hs=>by rw [z3.get_put,if_neg (by omega)];exact a.get s hs⟩
end Go.Ab
