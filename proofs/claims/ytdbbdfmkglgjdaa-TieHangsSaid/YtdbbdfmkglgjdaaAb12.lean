/- Steps and rows of operations: the evaluator is Kr. -/
import Derived.Test.YtdbbdfmkglgjdaaAb11
set_option linter.unusedVariables false
set_option linter.unusedSimpArgs false
set_option linter.unusedSectionVars false
namespace Go.Ab
open Go.RowKit
section
variable {P:Program} {B:Nat} {ρ:Rho} {w:World} {H H':z3} {v:AV} {τ τ':Tau} {call:z7}
def WU (P:Program) (call:z7):Prop :=
 ∀ f args H v H',call f args H=some (v,H')→∀ B ρ w xs,B≤w.heap.size→Sim B ρ w H→zh ρ args=some xs→z4O P B ρ w H f xs v H'
theorem z0P {o:Oper} {o':AOp} {a:Act} {K:Act→World→Prop} {Q:Exit→Act→World→Prop} (hc:WU P call) (hd:dOp P o.op=some o') (hs:Sim B ρ w H) (hB:B≤w.heap.size)
  (hx:∀ x ∈ o.op.operands.toList,∀ x',dX x=some x'→za ρ (τ.at x')=some (a.eval x)) (h:xU call τ H o'=some (v,H'))
  (hK:∀ ρ' x w',za ρ' v=some x→Rho.ext H.size ρ ρ'→Sim B ρ' w' H'→Below B w w'→H.size≤H'.size→K (a.put o.dst x) w'):o.wp P a w K Q:=by
 unfold xU at h
 cases ht:yW τ o' with
 | some gv =>
  obtain⟨g,vs⟩:=gv
  rw [ht] at h
  simp only at h
  obtain⟨xs,hxs,hrun⟩:=z6C hd ht hx
  unfold Oper.wp
  rcases hc g vs H v H' h B ρ w xs hB hs hxs with ⟨hcal,hcs⟩ | ⟨ρ',x,w',hrun',h1,h2,h3,h4,h5⟩
  ·rw [hrun w,z3Q hcal w,Oper.upon_enter]
   refine Calls.mono hcs fun e w' hp=>?_
   obtain⟨ρ',x,rfl,h1,h2,h3,h4,h5⟩:=hp
   exact hK ρ' x w' h1 h2 h3 h4 h5
  ·rw [hrun w,hrun',Oper.upon_value]
   exact hK ρ' x w' h1 h2 h3 h4 h5
 | none =>
  rw [ht] at h
  simp only at h
  obtain⟨dst,op,ty,pos,after,gd⟩:=o
  obtain⟨ρ',x,w',hrun,h1,h2,h3,h4,h5⟩:=z31 (dst:=dst) (ty:=ty) (pos:=pos) (after:=after) (gd:=gd) hs hB hd hx h
  unfold Oper.wp
  rcases hrun with hrun | ⟨hrun,rfl⟩
  ·rw [hrun,Oper.upon_value]
   exact hK ρ' x w' h1 h2 h3 h4 h5
  ·rw [hrun,Oper.upon_skip]
   exact hK ρ' undef w' h1 h2 h3 h4 h5
def To (B:Nat) (ρ:Rho) (w:World) (H:z3) (τ':Tau) (H':z3) (K:Act→World→Prop):Prop :=
 ∀ ρ' a' w',Rho.ext H.size ρ ρ'→Sim B ρ' w' H'→zh ρ' τ'=some a'.tmps.toList→a'.defers=[]→Below B w w'→H.size≤H'.size→K a' w'
theorem To.step {ρ1:Rho} {w1:World} {H1:z3} {K:Act→World→Prop} (h:To B ρ w H τ' H' K) (he:Rho.ext H.size ρ ρ1) (hb:Below B w w1) (hsz:H.size≤H1.size):To B ρ1 w1 H1 τ' H' K :=
 fun ρ' a' w' h1 h2 h3 h4 h5 h6=>h ρ' a' w' (Rho.ext_trans he h1 hsz) h2 h3 h4 (hb.trans h5) (Nat.le_trans hsz h6)
theorem XW {a:Act} {x:Value} {dst:Option Nat} (h:a.defers=[]):(a.put dst x).defers=[]:=by
 cases dst<;>exact h
theorem KF {ops:Array Oper} {Q:Exit→Act→World→Prop} (hc:WU P call):∀ (idx:List Nat) (l:List zj) (τ:Tau) (H:z3) (ρ:Rho) (w:World) (a:Act),
  zO (fun i=>match ops[i]? with
   | some o=>vF P ops o
   | none=>none) idx=some l →
  vr call l τ H=some (τ',H')→B≤w.heap.size→Sim B ρ w H→zh ρ τ=some a.tmps.toList→a.defers=[]→To B ρ w H τ' H' (Q .normal)→wpOps P ops Q idx a w
 | [],l,τ,H,ρ,w,a,hl,h,hB,hs,ht,hdf,hto=>by
  simp [zO] at hl
  subst hl
  simp [vr] at h
  obtain⟨rfl,rfl⟩:=h
  simp only [wpOps]
  exact hto ρ a w (ρ.ext_refl _) hs ht hdf (Below.refl _ _) (Nat.le_refl _)
 | i::idx,l,τ,H,ρ,w,a,hl,h,hB,hs,ht,hdf,hto=>by
  obtain⟨ao,l',h1,h2,rfl⟩:=jC hl
  cases ho:ops[i]? with
  | none=>simp [ho] at h1
  | some o =>
   simp only [ho] at h1
   obtain⟨hop,hdst⟩:=qH h1
   have hw:=z32 (a:=a) ht h1
   simp only [wpOps,ho]
   simp only [vr] at h
   rw [hw]
   cases hwa:z8 τ ao.guard with
   | true =>
    simp only [hwa,if_true] at h ⊢
    split at h
    ·rename_i v1 H1 hst
     refine .inl (z0P hc hop hs hB (fun x _=>opd ht x) hst fun ρ' x w' g1 g2 g3 g4 g5=>?_)
     rw [← hdst]
     refine KF hc idx l' _ H1 ρ' w' _ h2 h (by have:=g4.size;omega) g3 (z6B (y7 g2.1 _ _ ht) g1 ao.dst) (XW hdf) (hto.step g2 g4 g5)
    ·cases h
   | false =>
    simp only [hwa,Bool.false_eq_true,if_false] at h ⊢
    rw [← hdst]
    exact KF hc idx l' _ H ρ w _ h2 h hB hs (z6B ht (jm ρ) ao.dst) (XW hdf) hto
theorem zba {t:TypeId} {b:AV} {r o:Nat} {L:Loc} (hs:Sim B ρ w H) (hr:ρ r=some L) (ht:Z2 P t=some none) (hc:H.cell r o=some b) :
  ∃ y,(loadVar t ⟨L.blk,L.off+o,none⟩).run P w=.ok y w∧za ρ b=some y:=by
 obtain⟨y,hy,hcell⟩:=hs.cell hr hc
 exact⟨y,by simp [loadVar,ZP ht,hcell],hy⟩
theorem z94 {t:TypeId} {cs:List AV} {r o n:Nat} {L:Loc} (hs:Sim B ρ w H) (hr:ρ r=some L) (ht:Z2 P t=some (some n)) (hc:H.row r o n=some cs) :
  ∃ y,(loadVar t ⟨L.blk,L.off+o,none⟩).run P w=.ok y w∧za ρ (.agg cs)=some y:=by
 obtain⟨xs,hxs,hlen,hcell⟩:=hs.row hr hc
 have hl:=run_loadCells_list (P:=P) w ⟨L.blk,L.off+o,none⟩ xs hcell
 rw [hlen] at hl
 exact⟨.agg xs.toArray,by simp [loadVar,ZP ht,zN (KJ ht),hl],by simp [za,hxs]⟩
def XX (tmps:Array Value):ResultVar→Sem Value
 | .tmp t=>pure (tmps.getD t undef)
 | .cell q t=>do loadVar t (← asAddr (tmps.getD q undef))
theorem z6D (fn:Func) (tmps:Array Value):results fn tmps=(do
  let vs ← fn.results.mapM (XX tmps)
  pure (if h:vs.size=1 then vs[0] else .tuple vs)):=rfl
theorem z2G {rs:List ResultVar} {l:List vV} {a:Act} (hd:zO (zb8 P) rs=some l) (ht:zh ρ τ=some a.tmps.toList) (hs:Sim B ρ w H) {vs:List AV} (h:zO (jl τ H) l=some vs) :
  ∃ xs,(rs.mapM (XX a.tmps)).run P w=.ok xs w∧zh ρ vs=some xs:=by
 induction rs generalizing l vs with
 | nil =>
  simp [zO] at hd
  subst hd
  simp [zO] at h
  subst h
  exact⟨[],by simp,rfl⟩
 | cons r rs ih =>
  obtain⟨ar,l',h1,h2,rfl⟩:=jC hd
  obtain⟨v0,vs',g1,g2,rfl⟩:=jC h
  obtain⟨xs,hxs,hcs⟩:=ih h2 g2
  have hone:∃ x,(XX a.tmps r).run P w=.ok x w∧za ρ v0=some x:=by
   cases r with
   | tmp t =>
    simp only [zb8,Option.some.injEq] at h1
    subst h1
    simp only [jl] at g1
    obtain⟨x,hx,hx2⟩:=kq ht g1
    simp at hx2
    exact⟨x,by simp [XX,hx2],hx⟩
   | cell q t =>
    simp only [zb8] at h1
    obtain⟨m,hm,rfl⟩:=Option.map_eq_some_iff.1 h1
    simp only [jl] at g1
    split at g1
    ·rename_i r' o hq
     obtain⟨x,hx,hx2⟩:=kq ht hq
     simp at hx2
     obtain⟨L,hr,rfl⟩:=w8 hx
     have hq2:a.tmps.getD q undef=.pointer (some ⟨L.blk,L.off+o,none⟩):=by rw [Array.getD_eq_getD_getElem?,hx2];rfl
     have hld:∀ y:Value,(loadVar t ⟨L.blk,L.off+o,none⟩).run P w=.ok y w→(XX a.tmps (.cell q t)).run P w=.ok y w:=by
      intro y hy
      simp only [XX]
      rw [hq2]
      simpa [asAddr] using hy
     split at g1
     ·obtain⟨y,hy,hcy⟩:=zba (P:=P) hs hr hm g1
      exact⟨y,hld y hy,hcy⟩
     ·rename_i n
      obtain⟨cs,hcs,rfl⟩:=Option.map_eq_some_iff.1 g1
      obtain⟨y,hy,hcy⟩:=z94 (P:=P) hs hr hm hcs
      exact⟨y,hld y hy,hcy⟩
    ·cases g1
  obtain⟨x,hx,hcx⟩:=hone
  refine⟨x::xs,?_,x3 hcx hcs⟩
  simp only [List.mapM_cons,Sem.run_bind,Sem.run_pure]
  rw [hx]
  simp only [Result.andThen_ok,hxs]
end
end Go.Ab
