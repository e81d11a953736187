/- Each operation's own run against the evaluator's: slices, strings' bytes. -/
import Derived.Test.YtdbbdfmkglgjdaaAb7
set_option linter.unusedVariables false
set_option linter.unusedSimpArgs false
set_option linter.unusedSectionVars false
namespace Go.Ab
open Go.RowKit
section
variable {P:Program} {B:Nat} {ρ:Rho} {w:World} {H H':z3} {v:AV}
def OX (ρ:Rho) (a:Option AV) (x:Option Value):Prop:=match a,x with
 | none,none=>True
 | some a,some x=>zb ρ a=some x
 | _,_=>False
theorem Kl {a:AV} {x:Value} {top y n:Nat} {code:Go.BoundsCode} (h:bnd a top=some n) (hx:zb ρ a=some x) (hy:top≤y):(Instr.sliceBound x y code).run P w=.ok n w∧n≤top:=by
 unfold bnd at h
 split at h
 ·rename_i k i
  obtain rfl:=y5 hx
  split at h
  ·rename_i hc
   obtain rfl:=Option.some.inj h
   refine⟨?_,by omega⟩
   have:0≤i∧i≤(y:Int):=by omega
   simp [Instr.sliceBound,asIntOf,this]
  ·cases h
 ·cases h
theorem qc {b:Bool} {len cap top h l:Nat} {hi lo:Option AV} {hx lx:Option Value} (hh:yh hi len top=some h) (hl:yh lo 0 h=some l) (hhx:OX ρ hi hx) (hlx:OX ρ lo lx)
  (htop:top≤cap) (hlt:len≤top):(Instr.sliceBounds b len cap lx hx none).run P w=.ok (l,h,cap) w∧l≤h∧h≤top:=by
 have h1:h≤top∧(match hx with | some v=>(Instr.sliceBound v cap (if b then .sliceAcap else .sliceAlen)).run P w=.ok h w | none=>h=len):=by
  cases hi with
  | none=>cases hx with
   | none=>simp [yh] at hh;subst hh;exact⟨hlt,rfl⟩
   | some x=>exact hhx.elim
  | some a=>cases hx with
   | none=>exact hhx.elim
   | some x=>have:=Kl (P:=P) (w:=w) (code:=if b then .sliceAcap else .sliceAlen) hh hhx htop;exact⟨this.2,this.1⟩
 have h2:l≤h∧(match lx with | some v=>(Instr.sliceBound v h .sliceB).run P w=.ok l w | none=>l=0):=by
  cases lo with
  | none=>cases lx with
   | none=>simp [yh] at hl;subst hl;exact⟨Nat.zero_le _,rfl⟩
   | some x=>exact hlx.elim
  | some a=>cases lx with
   | none=>exact hlx.elim
   | some x=>have:=Kl (P:=P) (w:=w) (code:=.sliceB) hl hlx (Nat.le_refl h);exact⟨this.2,this.1⟩
 refine⟨?_,h2.1,h1.1⟩
 cases hx with
 | none =>
  obtain⟨_,rfl⟩:=h1
  cases lx<;>simp only at h2<;>simp [Instr.sliceBounds,h2]
 | some x=>cases lx<;>simp only at h1 h2<;>simp [Instr.sliceBounds,h1,h2]
theorem Vm {b:Bool} {len cap top m h l:Nat} {hi mx:AV} {lo:Option AV} {lx:Option Value} {hx mv:Value} (hm:bnd mx top=some m) (hh:bnd hi m=some h)
  (hl:yh lo 0 h=some l) (hmx:zb ρ mx=some mv) (hhx:zb ρ hi=some hx) (hlx:OX ρ lo lx) (htop:top≤cap) :
  (Instr.sliceBounds b len cap lx (some hx) (some mv)).run P w=.ok (l,h,m) w∧l≤h∧h≤m∧m≤top:=by
 obtain⟨hm1,hm2⟩:=Kl (P:=P) (w:=w) (code:=if b then .slice3Acap else .slice3Alen) hm hmx htop
 obtain⟨h1,h1'⟩:=Kl (P:=P) (w:=w) (code:=.slice3B) hh hhx (Nat.le_refl m)
 have h2:l≤h∧(match lx with | some v=>(Instr.sliceBound v h .slice3C).run P w=.ok l w | none=>l=0):=by
  cases lo with
  | none=>cases lx with
   | none=>simp [yh] at hl;subst hl;exact⟨Nat.zero_le _,rfl⟩
   | some x=>exact hlx.elim
  | some a=>cases lx with
   | none=>exact hlx.elim
   | some x=>have:=Kl (P:=P) (w:=w) (code:=.slice3C) hl hlx (Nat.le_refl h);exact⟨this.2,this.1⟩
 refine⟨?_,h2.1,h1',hm2⟩
 cases lx<;>simp only at h2<;>simp [Instr.sliceBounds,hm1,h1,h2]
theorem z3s (hs:Sim B ρ w H) {r len z:Nat} {cap:kb} {L:Loc} (hr:ρ r=some L) (hf:yG L len cap):yT H z r len cap≤xj L cap∧len≤yT H z r len cap:=by
 cases cap with
 | ex c=>simp only [yT,xj,yG] at hf ⊢;omega
 | mi k =>
  simp only [xj,yG] at hf ⊢
  unfold yT
  simp only
  split
  ·rename_i kd z' cs hg
   split
   ·rename_i hc
    obtain⟨hk,rfl,hz⟩:=hc
    have hk':kd≠.ro:=by rcases hk with rfl | rfl<;>simp
    obtain⟨_,_,cur,e0,fz,_,h4,_,h6⟩:=(zH hk').1 (hs.obj r L _ hr hg)
    have h7:cur.size=L.cap * z':=by rcases hk with rfl | rfl<;>simp only [Y1] at h6<;>omega
    have h8:cs.length / z'≤L.cap:=by
     apply Nat.div_le_of_le_mul
     rw [Nat.mul_comm]
     omega
    omega
   ·omega
  ·omega
theorem z80 {t e:TypeId} {z:Nat} {a:AV} {lo hi mx:Option AV} {xv:Value} {lx hx mv:Option Value} (hs:Sim B ρ w H) (ht:P.underlying t=some (.slice e)) (he:jB P e=some z)
  (hxv:zb ρ a=some xv) (hlx:OX ρ lo lx) (hhx:OX ρ hi hx) (hmx:OX ρ mx mv) (h:ke H z a lo hi mx=some (v,H')) :
  zI P B ρ w H (Instr.sliceAt t xv lx hx mv) v H':=by
 have hsl:∀ x,(Instr.sliceAt t x lx hx mv).run P w=(Instr.slice t x lx hx mv).run P w:=fun x=>by simp [Instr.sliceAt,run_underlying ht]
 refine zI.congr (hsl xv) ?_
 clear hsl
 unfold ke at h
 split at h
 ·-- nil
  obtain rfl:=v3 hxv
  split at h
  ·cases h
  ·rename_i hh
   split at h
   ·cases h
   ·rename_i hl
    simp at h
    obtain⟨rfl,rfl⟩:=h
    cases mv with
    | some _=>exact hmx.elim
    | none =>
     obtain⟨hr,hle,htp⟩:=qc (P:=P) (w:=w) (b:=true) (cap:=0) hh hl hhx hlx (Nat.le_refl _) (Nat.le_refl _)
     refine zI.same hs (x:=.slice none 0 0) ?_ rfl
     simp [run_underlying ht,Instr.slice,hr,zM he]
     omega
 ·-- no elements
  rename_i r o k d
  obtain⟨ad,c,rfl⟩:=Kf hxv
  split at h
  ·cases h
  ·rename_i hb hh
   split at h
   ·cases h
   ·rename_i lb hl
    simp at h
    obtain⟨rfl,rfl⟩:=h
    cases mv with
    | some _=>exact hmx.elim
    | none =>
     obtain⟨hrun,hle,htp⟩:=qc (P:=P) (w:=w) (b:=true) (len:=0) (cap:=c) hh hl hhx hlx (Nat.zero_le _) (Nat.le_refl _)
     obtain rfl:hb=0:=by omega
     obtain rfl:lb=0:=by omega
     refine zI.same hs (x:=.slice (some ad) 0 c) ?_ hxv
     simp only [Instr.slice,Sem.run_bind,run_underlying ht,Result.andThen_ok,hrun,zM he,Sem.run_pure]
     by_cases hc:c=0
     ·simp [hc]
     ·simp [hc,Addr.add]
 ·rename_i r o len cap
  obtain⟨L,hr,rfl,hfit⟩:=xq hxv
  cases mv with
  | some _=>exact hmx.elim
  | none =>
   split at h
   ·cases h
   ·rename_i hb hh
    split at h
    ·cases h
    ·rename_i lb hl
     have hcap:=z3s (z:=z) hs hr hfit
     obtain⟨hrun,hle,htp⟩:=qc (P:=P) (w:=w) (b:=true) (cap:=xj L cap) hh hl hhx hlx hcap.1 hcap.2
     have hrun2:(Instr.slice t (.slice (some ⟨L.blk,L.off+o,none⟩) len (xj L cap)) lx hx none).run P w =
       .ok (.slice (some (if xj L cap=lb then ⟨L.blk,L.off+o,none⟩ else ⟨L.blk,L.off+o+lb * z,none⟩)) (hb - lb) (xj L cap - lb)) w:=by
      simp only [Instr.slice,Sem.run_bind,run_underlying ht,Result.andThen_ok,hrun,zM he,Sem.run_pure]
      by_cases hc:xj L cap=lb<;>simp [hc,jE]
     cases cap with
     | ex c =>
      simp at h
      obtain⟨rfl,rfl⟩:=h
      simp only [xj] at hrun2
      simp only [yT] at htp
      refine zI.same hs hrun2 ?_
      have hcm:=yJ (o:=if c=lb then o else o+lb * z) (len:=hb - lb) (cap:=.ex (c - lb)) hr (by simp only [yG];omega)
      rw [hcm]
      by_cases hc:c=lb<;>simp [hc,xj,Nat.add_assoc]
     | mi k =>
      simp only [xj,yG] at hrun2 hfit hcap
      simp only at h
      split at h
      ·rename_i h0
       subst h0
       simp at h
       obtain⟨rfl,rfl⟩:=h
       refine zI.same hs hrun2 ?_
       rw [yJ (o:=o) (len:=hb) (cap:=.mi k) hr (by simp only [yG];omega)]
       simp [xj]
      ·rename_i h0
       split at h
       ·rename_i hlt
        simp at h
        obtain⟨rfl,rfl⟩:=h
        refine zI.same hs hrun2 ?_
        have hcc:¬ L.cap - k=lb:=by omega
        rw [yJ (o:=o+lb * z) (len:=hb - lb) (cap:=.mi (k+lb)) hr (by simp only [yG];omega)]
        simp [hcc,xj,Nat.add_assoc,Nat.sub_sub]
       ·rename_i hlt
        split at h
        case isFalse=>cases h
        simp at h
        obtain⟨rfl,rfl⟩:=h
        refine zI.same hs hrun2 ?_
        have hz:hb - lb=0:=by omega
        simp only [zb,hr]
        rw [if_pos (by omega),hz]
        by_cases hc:L.cap - k=lb
        ·simp [show L.cap=k+lb by omega]
        ·simp [hc,show ¬ L.cap=k+lb by omega,Nat.sub_sub]
 ·rename_i r o len cap mxa
  obtain⟨L,hr,rfl,hfit⟩:=xq hxv
  cases mv with
  | none=>exact hmx.elim
  | some mvx =>
   split at h
   ·cases h
   ·rename_i m hm
    split at h
    ·cases h
    ·rename_i hv
     split at h
     ·cases h
     ·rename_i hb hh
      split at h
      ·cases h
      ·rename_i lb hl
       cases hx with
       | none=>exact hhx.elim
       | some hxx =>
        have hcap:=(z3s (z:=z) hs hr hfit).1
        obtain⟨hrun,hle,hle2,hle3⟩:=Vm (P:=P) (w:=w) (b:=true) (len:=len) (cap:=xj L cap) hm hh hl hmx hhx hlx hcap
        simp at h
        obtain⟨rfl,rfl⟩:=h
        refine zI.same hs (x:=.slice (some (if m=lb then ⟨L.blk,L.off+o,none⟩ else ⟨L.blk,L.off+o+lb * z,none⟩)) (hb - lb) (m - lb)) ?_ ?_
        ·simp only [Instr.slice,Sem.run_bind,run_underlying ht,Result.andThen_ok,hrun,zM he,Sem.run_pure]
         by_cases hc:m=lb<;>simp [hc,jE]
        ·rw [yJ (o:=if m=lb then o else o+lb * z) (len:=hb - lb) (cap:=.ex (m - lb)) hr (by simp only [yG];omega)]
         by_cases hc:m=lb<;>simp [hc,xj,Nat.add_assoc]
 ·cases h
theorem z81 {t:TypeId} {s:List UInt8} {lo hi:Option AV} {xv:Value} {lx hx:Option Value} {hb lb:Nat} (ht:P.underlying t=some .string)
  (hxv:zb ρ (.str s)=some xv) (hlx:OX ρ lo lx) (hhx:OX ρ hi hx) (hh:yh hi s.length s.length=some hb) (hl:yh lo 0 hb=some lb) :
  Pur P ρ (Instr.sliceAt t xv lx hx none) (.str ((s.take hb).drop lb)):=by
 obtain rfl:=jd hxv
 have hrun:∀ w,(Instr.sliceBounds false s.length s.length lx hx none).run P w=.ok (lb,hb,s.length) w:=fun w=>(qc (P:=P) (w:=w) (b:=false) (cap:=s.length) hh hl hhx hlx (Nat.le_refl _) (Nat.le_refl _)).1
 refine Pur.mk' (x:=.string ((⟨⟨s⟩⟩:ByteArray).extract lb hb)) (fun w=>?_) ?_
 ·simp [Instr.sliceAt,run_underlying ht,Instr.slice,Xc,hrun]
 ·simp only [zb,Option.some.injEq,Value.string.injEq]
  apply ByteArray.ext
  simp [ByteArray.data_extract]
  rw [List.drop_take]
theorem z82 {t e:TypeId} {n z r o:Nat} {lo hi:Option AV} {xv:Value} {lx hx:Option Value} {hb lb:Nat} (ht:P.underlying t=some (.array n e)) (he:jB P e=some z)
  (hxv:zb ρ (.ptr r o)=some xv) (hlx:OX ρ lo lx) (hhx:OX ρ hi hx) (hh:yh hi n n=some hb) (hl:yh lo 0 hb=some lb) :
  Pur P ρ (Instr.sliceAt t xv lx hx none) (.sl r (if n=lb then o else o+lb * z) (hb - lb) (.ex (n - lb))):=by
 obtain⟨L,hr,rfl⟩:=vq hxv
 have hrun:∀ w,(Instr.sliceBounds false n n lx hx none).run P w=.ok (lb,hb,n) w:=fun w=>(qc (P:=P) (w:=w) (b:=false) (cap:=n) hh hl hhx hlx (Nat.le_refl _) (Nat.le_refl _)).1
 obtain⟨_,hle,htp⟩:=qc (P:=P) (w:=default) (b:=false) (cap:=n) hh hl hhx hlx (Nat.le_refl _) (Nat.le_refl _)
 refine Pur.mk' (x:=.slice (some (if n=lb then ⟨L.blk,L.off+o,none⟩ else ⟨L.blk,L.off+o+lb * z,none⟩)) (hb - lb) (n - lb)) (fun w=>?_) ?_
 ·simp only [Instr.sliceAt,Sem.run_bind,run_underlying ht,Result.andThen_ok,Instr.sureAddr,Sem.run_pure,hrun,zM he]
  by_cases hc:n=lb<;>simp [hc,jE]
 ·rw [yJ (o:=if n=lb then o else o+lb * z) (len:=hb - lb) (cap:=.ex (n - lb)) hr (by simp only [yG];omega)]
  by_cases hc:n=lb<;>simp [hc,xj,Nat.add_assoc]
end
end Go.Ab
