/- Steps and rows of operations: the evaluator is Jh. -/
import Derived.Test.YtdbbdfmkglgjdaaAb11
set_option linter.unusedVariables false
set_option linter.unusedSimpArgs false
set_option linter.unusedSectionVars false
namespace Go.Ab
open Go.RowKit
section
variable {P:Program} {B:Nat} {ρ:Rho} {w:World} {H H':z3} {v:AV} {τ τ':Tau} {call:z7}
def Ve (P:Program) (call:z7):Prop :=
 ∀ f args H v H',call f args H=some (v,H')→∀ B ρ w xs,B≤w.heap.size→Sim B ρ w H→zg ρ args=some xs→z3e P B ρ w H f xs v H'
theorem W8 {o:Oper} {o':AOp} {a:Act} {K:Act→World→Prop} {Q:Exit→Act→World→Prop} (hc:Ve P call) (hd:dOp P o.op=some o') (hs:Sim B ρ w H) (hB:B≤w.heap.size)
  (hx:∀ x ∈ o.op.operands.toList,∀ x',dX x=some x'→zb ρ (τ.at x')=some (a.eval x)) (h:xL call τ H o'=some (v,H'))
  (hK:∀ ρ' x w',zb ρ' v=some x→Rho.ext H.size ρ ρ'→Sim B ρ' w' H'→Below B w w'→H.size≤H'.size→K (a.put o.dst x) w'):o.wp P a w K Q:=by
 unfold xL at h
 cases ht:yR τ o' with
 | some gv =>
  obtain⟨g,vs⟩:=gv
  rw [ht] at h
  simp only at h
  obtain⟨xs,hxs,hrun⟩:=z50 hd ht hx
  unfold Oper.wp
  rcases hc g vs H v H' h B ρ w xs hB hs hxs with ⟨hcal,hcs⟩ | ⟨ρ',x,w',hrun',h1,h2,h3,h4,h5⟩
  ·rw [hrun w,z2e hcal w,Oper.upon_enter]
   refine Calls.mono hcs fun e w' hp=>?_
   obtain⟨ρ',x,rfl,h1,h2,h3,h4,h5⟩:=hp
   exact hK ρ' x w' h1 h2 h3 h4 h5
  ·rw [hrun w,hrun',Oper.upon_value]
   exact hK ρ' x w' h1 h2 h3 h4 h5
 | none =>
  rw [ht] at h
  simp only at h
  obtain⟨dst,op,ty,pos,after,gd⟩:=o
  obtain⟨ρ',x,w',hrun,h1,h2,h3,h4,h5⟩:=z1o (dst:=dst) (ty:=ty) (pos:=pos) (after:=after) (gd:=gd) hs hB hd hx h
  unfold Oper.wp
  rcases hrun with hrun | ⟨hrun,rfl⟩
  ·rw [hrun,Oper.upon_value]
   exact hK ρ' x w' h1 h2 h3 h4 h5
  ·rw [hrun,Oper.upon_skip]
   exact hK ρ' undef w' h1 h2 h3 h4 h5
def To (B:Nat) (ρ:Rho) (w:World) (H:z3) (τ':Tau) (H':z3) (K:Act→World→Prop):Prop :=
 ∀ ρ' a' w',Rho.ext H.size ρ ρ'→Sim B ρ' w' H'→zg ρ' τ'=some a'.tmps.toList→a'.defers=[]→Below B w w'→H.size≤H'.size→K a' w'
theorem To.step {ρ1:Rho} {w1:World} {H1:z3} {K:Act→World→Prop} (h:To B ρ w H τ' H' K) (he:Rho.ext H.size ρ ρ1) (hb:Below B w w1) (hsz:H.size≤H1.size):To B ρ1 w1 H1 τ' H' K :=
 fun ρ' a' w' h1 h2 h3 h4 h5 h6=>h ρ' a' w' (Rho.ext_trans he h1 hsz) h2 h3 h4 (hb.trans h5) (Nat.le_trans hsz h6)
theorem X5 {a:Act} {x:Value} {dst:Option Nat} (h:a.defers=[]):(a.put dst x).defers=[]:=by
 cases dst<;>exact h
theorem Jv {ops:Array Oper} {Q:Exit→Act→World→Prop} (hc:Ve P call):∀ (idx:List Nat) (l:List zk) (τ:Tau) (H:z3) (ρ:Rho) (w:World) (a:Act),
  zO (fun i=>match ops[i]? with
   | some o=>kZ P ops o
   | none=>none) idx=some l →
  kK call l τ H=some (τ',H')→B≤w.heap.size→Sim B ρ w H→zg ρ τ=some a.tmps.toList→a.defers=[]→To B ρ w H τ' H' (Q .normal)→wpOps P ops Q idx a w
 | [],l,τ,H,ρ,w,a,hl,h,hB,hs,ht,hdf,hto=>by
  simp [zO] at hl
  subst hl
  simp [kK] at h
  obtain⟨rfl,rfl⟩:=h
  simp only [wpOps]
  exact hto ρ a w (ρ.ext_refl _) hs ht hdf (Below.refl _ _) (Nat.le_refl _)
 | i::idx,l,τ,H,ρ,w,a,hl,h,hB,hs,ht,hdf,hto=>by
  obtain⟨ao,l',h1,h2,rfl⟩:=jo hl
  cases ho:ops[i]? with
  | none=>simp [ho] at h1
  | some o =>
   simp only [ho] at h1
   obtain⟨hop,hdst⟩:=qk h1
   have hw:=z1p (a:=a) ht h1
   simp only [wpOps,ho]
   simp only [kK] at h
   rw [hw]
   cases hwa:za τ ao.guard with
   | true =>
    simp only [hwa,if_true] at h ⊢
    split at h
    ·rename_i v1 H1 hst
     refine .inl (W8 hc hop hs hB (fun x _=>opd ht x) hst fun ρ' x w' g1 g2 g3 g4 g5=>?_)
     rw [← hdst]
     refine Jv hc idx l' _ H1 ρ' w' _ h2 h (by have:=g4.size;omega) g3 (z4Z (y6 g2.1 _ _ ht) g1 ao.dst) (X5 hdf) (hto.step g2 g4 g5)
    ·cases h
   | false =>
    simp only [hwa,Bool.false_eq_true,if_false] at h ⊢
    rw [← hdst]
    exact Jv hc idx l' _ H ρ w _ h2 h hB hs (z4Z ht (qW ρ) ao.dst) (X5 hdf) hto
theorem z9w {t:TypeId} {b:AV} {r o:Nat} {L:Loc} (hs:Sim B ρ w H) (hr:ρ r=some L) (ht:wm P t=some none) (hc:H.cell r o=some b) :
  ∃ y,(loadVar t ⟨L.blk,L.off+o,none⟩).run P w=.ok y w∧zb ρ b=some y:=by
 obtain⟨y,hy,hcell⟩:=hs.cell hr hc
 exact⟨y,by simp [loadVar,Z9 ht,hcell],hy⟩
theorem z7t {t:TypeId} {cs:List AV} {r o n:Nat} {L:Loc} (hs:Sim B ρ w H) (hr:ρ r=some L) (ht:wm P t=some (some n)) (hc:H.row r o n=some cs) :
  ∃ y,(loadVar t ⟨L.blk,L.off+o,none⟩).run P w=.ok y w∧zb ρ (.agg cs)=some y:=by
 obtain⟨xs,hxs,hlen,hcell⟩:=hs.row hr hc
 have hl:=run_loadCells_list (P:=P) w ⟨L.blk,L.off+o,none⟩ xs hcell
 rw [hlen] at hl
 exact⟨.agg xs.toArray,by simp [loadVar,Z9 ht,zM (Jz ht),hl],by simp [zb,hxs]⟩
def X6 (tmps:Array Value):ResultVar→Sem Value
 | .tmp t=>pure (tmps.getD t undef)
 | .cell q t=>do loadVar t (← asAddr (tmps.getD q undef))
theorem z51 (fn:Func) (tmps:Array Value):results fn tmps=(do
  let vs ← fn.results.mapM (X6 tmps)
  pure (if h:vs.size=1 then vs[0] else .tuple vs)):=rfl
theorem z12 {rs:List ResultVar} {l:List vl} {a:Act} (hd:zO (z9v P) rs=some l) (ht:zg ρ τ=some a.tmps.toList) (hs:Sim B ρ w H) {vs:List AV} (h:zO (qV τ H) l=some vs) :
  ∃ xs,(rs.mapM (X6 a.tmps)).run P w=.ok xs w∧zg ρ vs=some xs:=by
 induction rs generalizing l vs with
 | nil =>
  simp [zO] at hd
  subst hd
  simp [zO] at h
  subst h
  exact⟨[],by simp,rfl⟩
 | cons r rs ih =>
  obtain⟨ar,l',h1,h2,rfl⟩:=jo hd
  obtain⟨v0,vs',g1,g2,rfl⟩:=jo h
  obtain⟨xs,hxs,hcs⟩:=ih h2 g2
  have hone:∃ x,(X6 a.tmps r).run P w=.ok x w∧zb ρ v0=some x:=by
   cases r with
   | tmp t =>
    simp only [z9v,Option.some.injEq] at h1
    subst h1
    simp only [qV] at g1
    obtain⟨x,hx,hx2⟩:=jM ht g1
    simp at hx2
    exact⟨x,by simp [X6,hx2],hx⟩
   | cell q t =>
    simp only [z9v] at h1
    obtain⟨m,hm,rfl⟩:=Option.map_eq_some_iff.1 h1
    simp only [qV] at g1
    split at g1
    ·rename_i r' o hq
     obtain⟨x,hx,hx2⟩:=jM ht hq
     simp at hx2
     obtain⟨L,hr,rfl⟩:=vq hx
     have hq2:a.tmps.getD q undef=.pointer (some ⟨L.blk,L.off+o,none⟩):=by rw [Array.getD_eq_getD_getElem?,hx2];rfl
     have hld:∀ y:Value,(loadVar t ⟨L.blk,L.off+o,none⟩).run P w=.ok y w→(X6 a.tmps (.cell q t)).run P w=.ok y w:=by
      intro y hy
      simp only [X6]
      rw [hq2]
      simpa [asAddr] using hy
     split at g1
     ·obtain⟨y,hy,hcy⟩:=z9w (P:=P) hs hr hm g1
      exact⟨y,hld y hy,hcy⟩
     ·rename_i n
      obtain⟨cs,hcs,rfl⟩:=Option.map_eq_some_iff.1 g1
      obtain⟨y,hy,hcy⟩:=z7t (P:=P) hs hr hm hcs
      exact⟨y,hld y hy,hcy⟩
    ·cases g1
  obtain⟨x,hx,hcx⟩:=hone
  refine⟨x::xs,?_,yW hcx hcs⟩
  simp only [List.mapM_cons,Sem.run_bind,Sem.run_pure]
  rw [hx]
  simp only [Result.andThen_ok,hxs]
end
end Go.Ab
