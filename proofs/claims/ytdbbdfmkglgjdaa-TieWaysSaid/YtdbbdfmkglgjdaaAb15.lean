/- Code and functions: the evaluator is Jh. -/
import Derived.Test.YtdbbdfmkglgjdaaAb13g
import Derived.KernelRfl
set_option linter.unusedVariables false
set_option linter.unusedSimpArgs false
set_option linter.unusedSectionVars false
namespace Go.Ab
open Go.RowKit
section
variable {P:Program}
def zay:zE→Exit
 | .normal=>.normal
 | .exit i=>.exit i
 | .ret=>.ret
def zaz (P:Program) (E:Env) (n:Nat):Prop :=
 ∀ (c:Code) (ac:x3),XD P c=some ac→∀ τ H ex τ' H',zx E n ac τ H=some (ex,τ',H')→∀ B ρ w a (Q:Exit→Act→World→Prop),
  B≤w.heap.size→Sim B ρ w H→zg ρ τ=some a.tmps.toList→a.defers=[]→To B ρ w H τ' H' (Q (zay ex))→c.wp P Q a w
def z7y (P:Program) (E:Env) (n:Nat):Prop :=
 ∀ (c:Code) (ac:x3),XD P c=some ac→∀ τ H ex τ' H',zx E n (.loop ac) τ H=some (ex,τ',H')→∀ B ρ w a (Q:Exit→Act→World→Prop),
  B≤w.heap.size→Sim B ρ w H→zg ρ τ=some a.tmps.toList→a.defers=[]→To B ρ w H τ' H' (Q (zay ex))→Code.rounds P c Q n a w
theorem z6x {ops:Array Oper} {l:List zk} (h:zO (kZ P ops) ops.toList=some l) :
  zO (fun i=>match ops[i]? with
   | some o=>kZ P ops o
   | none=>none) (List.range ops.size)=some l:=by
 have key:∀ (L:List Oper) (k:Nat) (l:List zk),(∀ j o,L[j]? = some o→ops[k+j]? = some o)→zO (kZ P ops) L=some l →
   zO (fun i=>match ops[i]? with
    | some o=>kZ P ops o
    | none=>none) (List.range' k L.length)=some l:=by
  intro L
  induction L with
  | nil=>intro k l _ h;simpa [zO] using h
  | cons o L ih =>
   intro k l hget h
   obtain⟨y,ys,h1,h2,rfl⟩:=jo h
   have h0:=hget 0 o rfl
   have:=ih (k+1) ys (fun j p hp=>by have:=hget (j+1) p (by simpa using hp);rw [show k+1+j=k+(j+1) by omega];exact this) h2
   simp only [List.length_cons,List.range'_succ,zO]
   simp at h0
   rw [h0]
   simp only [h1,this]
 have:=key ops.toList 0 l (fun j o ho=>by simpa using ho) h
 rw [List.range_eq_range']
 simpa using this
def z7z (P:Program) (E:Env) (n:Nat):Prop :=
 ∀ f args H v H',E.spec f=none→xn E n f args H=some (v,H')→zh P f∧∀ B ρ w xs,B≤w.heap.size→Sim B ρ w H→zg ρ args=some xs→Calls P f xs.toArray w (z2d B ρ w H v H')
theorem Jh {E:Env} (hE:W7 P E):∀ n,z7z P E n∧Ve P (xn E n)∧zaz P E n∧z7y P E n:=by
 intro n
 induction n with
 | zero =>
  refine⟨fun f args H v H' _ h=>by simp [xn] at h,fun f args H v H' h=>by simp [xn] at h,fun c ac _ τ H ex τ' H' h=>by simp [zx] at h,fun c ac _ τ H ex τ' H' h=>by simp [zx] at h⟩
 | succ n ih =>
  obtain⟨_,ihc,ihe,ihl⟩:=ih
  have loopStep:z7y P E (n+1):=by
   intro c ac hd τ H ex τ' H' h B ρ w a Q hB hs ht hdf hto
   rw [rounds_succ]
   simp only [zx] at h
   split at h
   ·rename_i τ1 H1 h1
    refine ihe c ac hd τ H .normal τ1 H1 h1 B ρ w a _ hB hs ht hdf ?_
    intro ρ' a' w' g1 g2 g3 g4 g5 g6
    exact ihl c ac hd τ1 H1 ex τ' H' h B ρ' w' a' Q (by have:=g5.size;omega) g2 g3 g4 (hto.step g1 g5 g6)
   ·rename_i r hne
    refine ihe c ac hd τ H ex τ' H' h B ρ w a _ hB hs ht hdf ?_
    cases ex with
    | normal=>exact absurd h (hne τ' H')
    | exit i=>exact hto
    | ret=>exact hto
  have walkStep:z7z P E (n+1):=by
   intro f args H v H' hnone h
   simp only [xn] at h
   split at h
   ·rename_i g hg
    rw [hnone] at hg;cases hg
   ·split at h
    ·cases h
    ·rename_i af haf
     obtain⟨hcal,fn,hfn,hdig⟩:=hE.fn f af haf
     refine⟨hcal,fun B ρ w xs hB hs hx=>?_⟩
     unfold dFn at hdig
     simp only [Option.bind_eq_bind,Option.bind_eq_some_iff,Option.some.injEq] at hdig
     obtain⟨c,hc,ac,hac,rs,hrs,rfl⟩:=hdig
     have hl:=zB hx
     have ht0:zg ρ (args++List.replicate (fn.ntmps - args.length) z4)=some (xs.toArray++Array.replicate (fn.ntmps - xs.toArray.size) undef).toList:=by
      have:=yf hx (XE (qW ρ) (fn.ntmps - args.length))
      simpa [hl] using this
     have hend:∀ ex τ1 H1,(ex=zE.normal∨ex=zE.ret)→(y4 τ1 H1 rs).map (fun v=>(v,H1))=some (v,H') →
       To B ρ w H τ1 H1 (bodyPost P fn (z2d B ρ w H v H') (zay ex)):=by
      intro ex τ1 H1 hex hr ρ' a' w' g1 g2 g3 g4 g5 g6
      obtain⟨v',hv',hvv⟩:=Option.map_eq_some_iff.1 hr
      simp at hvv
      obtain⟨rfl,rfl⟩:=hvv
      have hres:∃ x,(results fn a'.tmps).run P w'=.ok x w'∧zb ρ' v'=some x:=by
       unfold y4 at hv'
       cases hvs:zO (qV τ1 H1) rs with
       | none=>simp [hvs] at hv'
       | some vs =>
        obtain⟨ys,hys,hcys⟩:=z12 (P:=P) hrs g3 g2 hvs
        have hrun:(fn.results.mapM (X6 a'.tmps)).run P w'=.ok ys.toArray w':=by
         rw [Array.mapM_eq_mapM_toList]
         simp only [Sem.run_map,hys,Result.andThen_ok]
        have hylen:=zB hcys
        rw [hvs] at hv'
        rw [z51]
        simp only [Sem.run_bind,hrun,Result.andThen_ok]
        split at hv'
        ·rename_i v0 hv0
         obtain rfl:=Option.some.inj hv0
         obtain rfl:=Option.some.inj hv'
         obtain⟨x,y,hx1,hy1,rfl⟩:=zT hcys
         have:y=[]:=by simpa [zg] using hy1
         subst this
         exact⟨x,by simp,hx1⟩
        ·rename_i vs' hne hvs'
         obtain rfl:=Option.some.inj hvs'
         obtain rfl:=Option.some.inj hv'
         refine⟨.tuple ys.toArray,?_,by simp [zb,hcys]⟩
         have:ys.toArray.size≠1:=by
          intro h1
          simp at h1
          rw [h1] at hylen
          obtain⟨u,rfl⟩:=List.length_eq_one_iff.1 hylen.symm
          exact hne u rfl
         simp only [Sem.run_pure]
         rw [dif_neg this]
        ·cases hv'
      obtain⟨x,hx1,hx2⟩:=hres
      have:a'.defers=[]∧∃ v,(results fn a'.tmps).run P w'=.ok v w'∧z2d B ρ w H v' H1 (.returned v) w':=⟨g4,x,hx1,ρ',x,rfl,hx2,g1,g2,g5,g6⟩
      rcases hex with rfl | rfl<;>exact this
     refine calls_of_wp hfn hc ?_
     split at h
     ·rename_i τ1 H1 h1
      exact ihe c ac hac _ H .normal τ1 H1 h1 B ρ w _ _ hB hs ht0 rfl (hend .normal τ1 H1 (.inl rfl) h)
     ·rename_i τ1 H1 h1
      exact ihe c ac hac _ H .ret τ1 H1 h1 B ρ w _ _ hB hs ht0 rfl (hend .ret τ1 H1 (.inr rfl) h)
     ·cases h
  refine⟨walkStep,?_,?_,loopStep⟩
  ·intro f args H v H' h B ρ w xs hB hs hx
   cases hsp:E.spec f with
   | some g =>
    simp only [xn,hsp] at h
    exact hE.spec f g hsp B ρ w H args xs v H' hB hs hx h
   | none =>
    obtain⟨h1,h2⟩:=walkStep f args H v H' hsp h
    exact .inl ⟨h1,h2 B ρ w xs hB hs hx⟩
  ·intro c ac hd τ H ex τ' H' h B ρ w a Q hB hs ht hdf hto
   cases c<;>(try simp only [XD] at hd)
   case skip =>
    obtain rfl:=Option.some.inj hd
    simp [zx] at h
    obtain⟨rfl,rfl,rfl⟩:=h
    exact wp_skip (hto ρ a w (ρ.ext_refl _) hs ht hdf (Below.refl _ _) (Nat.le_refl _))
   case label i =>
    obtain rfl:=Option.some.inj hd
    simp [zx] at h
    obtain⟨rfl,rfl,rfl⟩:=h
    exact wp_label (hto ρ a w (ρ.ext_refl _) hs ht hdf (Below.refl _ _) (Nat.le_refl _))
   case ret =>
    obtain rfl:=Option.some.inj hd
    simp [zx] at h
    obtain⟨rfl,rfl,rfl⟩:=h
    exact wp_ret (hto ρ a w (ρ.ext_refl _) hs ht hdf (Below.refl _ _) (Nat.le_refl _))
   case exit i =>
    obtain rfl:=Option.some.inj hd
    simp [zx] at h
    obtain⟨rfl,rfl,rfl⟩:=h
    exact wp_exit (hto ρ a w (ρ.ext_refl _) hs ht hdf (Below.refl _ _) (Nat.le_refl _))
   case region id ops draw =>
    cases draw with
    | false =>
     try simp only [XD] at hd
     obtain⟨l,hl,rfl⟩:=Option.map_eq_some_iff.1 hd
     simp only [zx] at h
     obtain⟨⟨τ1,H1⟩,h1,hv⟩:=Option.map_eq_some_iff.1 h
     simp at hv
     obtain⟨rfl,rfl,rfl⟩:=hv
     exact wp_region (Jv ihc _ l τ H ρ w a (z6x hl) h1 hB hs ht hdf hto)
    | true =>
     try simp only [XD] at hd
     split at hd
     ·rename_i htm
      split at hd
      ·cases hd
      ·rename_i ord hord
       obtain⟨⟨na,l⟩,hl,rfl⟩:=Option.map_eq_some_iff.1 hd
       simp only [zx] at h
       obtain⟨⟨τ1,H1⟩,h1,hv⟩:=Option.map_eq_some_iff.1 h
       simp at hv
       obtain⟨rfl,rfl,rfl⟩:=hv
       exact wp_region_any hE.mixed (z53 ihc htm hord hl h1 hB hs ht hdf hto)
     ·cases hd
   case seq x y =>
    simp only [Option.bind_eq_bind,Option.bind_eq_some_iff,Option.some.injEq] at hd
    obtain⟨ax,hax,ay,hay,rfl⟩:=hd
    simp only [zx] at h
    refine wp_seq ?_
    split at h
    ·rename_i τ1 H1 h1
     refine ihe x ax hax τ H .normal τ1 H1 h1 B ρ w a _ hB hs ht hdf ?_
     intro ρ' a' w' g1 g2 g3 g4 g5 g6
     exact ihe y ay hay τ1 H1 ex τ' H' h B ρ' w' a' Q (by have:=g5.size;omega) g2 g3 g4 (hto.step g1 g5 g6)
    ·rename_i r hne
     refine ihe x ax hax τ H ex τ' H' h B ρ w a _ hB hs ht hdf ?_
     cases ex with
     | normal=>exact absurd h (hne τ' H')
     | exit i=>exact hto
     | ret=>exact hto
   case cond x y z =>
    simp only [Option.bind_eq_bind,Option.bind_eq_some_iff,Option.some.injEq] at hd
    obtain⟨x',hx',ay,hay,az,haz,rfl⟩:=hd
    simp only [zx] at h
    split at h
    ·rename_i t hxt
     have:=opd ht x x' hx'
     rw [hxt] at this
     refine wp_cond (vY this) ?_
     cases t with
     | true=>exact ihe y ay hay τ H ex τ' H' h B ρ w a Q hB hs ht hdf hto
     | false=>exact ihe z az haz τ H ex τ' H' h B ρ w a Q hB hs ht hdf hto
    ·cases h
   case block i x =>
    obtain⟨ax,hax,rfl⟩:=Option.map_eq_some_iff.1 hd
    simp only [zx] at h
    refine wp_block ?_
    split at h
    ·rename_i j τ1 H1 h1
     simp at h
     obtain⟨rfl,rfl,rfl⟩:=h
     refine ihe x ax hax τ H (.exit j) _ _ h1 B ρ w a _ hB hs ht hdf ?_
     intro ρ' a' w' g1 g2 g3 g4 g5 g6
     have:=hto ρ' a' w' g1 g2 g3 g4 g5 g6
     show Exit.inBlock i Q (.exit j) a' w'
     simp only [Exit.inBlock]
     split
     ·rename_i e;rw [if_pos e] at this;exact this
     ·rename_i e;rw [if_neg e] at this;exact this
    ·rename_i r hne
     refine ihe x ax hax τ H ex τ' H' h B ρ w a _ hB hs ht hdf ?_
     cases ex with
     | normal=>exact hto
     | exit j=>exact absurd h (hne j τ' H')
     | ret=>exact hto
   case loop x =>
    obtain⟨ax,hax,rfl⟩:=Option.map_eq_some_iff.1 hd
    exact wp_loop_rounds (n+1) (loopStep x ax hax τ H ex τ' H' h B ρ w a Q hB hs ht hdf hto)
   all_goals (cases hd)
end
end Go.Ab
/- Closed laws: a law without arguments that the evaluator finds true returns true, and leaves all that was Jn as it was. -/
namespace Go.Ab
open Go.RowKit
theorem z6y {ρ:Rho}:zg ρ []=some []:=by simp [zg]
theorem z1u {B:Nat} {w:World}:Sim B (fun _=>none) w z3.empty :=
 ⟨fun r L h=>by simp at h,fun r L o h=>by simp at h,fun r r' L L' o o' _ h=>by simp at h⟩
end Go.Ab
