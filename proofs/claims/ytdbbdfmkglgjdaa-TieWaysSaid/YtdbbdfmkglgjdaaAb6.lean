/- Each operation's own run against the evaluator's: what leaves memory alone. -/
import Derived.Test.YtdbbdfmkglgjdaaAb4
set_option linter.unusedVariables false
set_option linter.unusedSimpArgs false
set_option linter.unusedSectionVars false
namespace Go.Ab
open Go.RowKit
section
variable {P:Program} {B:Nat} {ρ:Rho} {w:World} {H H':z3} {v:AV}
theorem Vk (s:List UInt8):(⟨⟨s⟩⟩:ByteArray).toList=s:=ByteArray.toList_eq _
theorem Xc (s:List UInt8):(⟨⟨s⟩⟩:ByteArray).size=s.length:=rfl
theorem kI (op:BinOp) (t:TypeId) (x y:Operand) (k k':IntKind) (a b:Int):(eqGuard op t x y (.int k a) (.int k' b)).run P w=.ok () w:=by
 unfold eqGuard;cases op<;>simp
theorem Zg (op:BinOp) (t:TypeId) (x y:Operand) (a b:ByteArray):(eqGuard op t x y (.string a) (.string b)).run P w=.ok () w:=by
 unfold eqGuard;cases op<;>simp
theorem Vl (op:BinOp) (t:TypeId) (x y:Operand) (a b:Bool):(eqGuard op t x y (.bool a) (.bool b)).run P w=.ok () w:=by
 unfold eqGuard;cases op<;>simp
theorem z3n {op:BinOp} {t:TypeId} {x y:Operand} {a b:AV} {xv yv:Value} (hx:zb ρ a=some xv) (hy:zb ρ b=some yv) (h:zc op a b=some v) :
  Pur P ρ (do eqGuard op t x y xv yv;binOp op t xv yv) v:=by
 unfold zc at h
 split at h
 ·rename_i k a _ b
  obtain rfl:=y5 hx
  obtain rfl:=y5 hy
  unfold z01 at h
  split at h
  ·cases h
  ·rename_i hneg
   simp only at h
   obtain rfl:=Option.some.inj h
   refine Pur.mk' _ (fun w=>?_) (by simp [zb];rfl)
   simp [kI,binOp,Op.shift,hneg]
 ·rename_i k a _ b
  obtain rfl:=y5 hx
  obtain rfl:=y5 hy
  unfold z01 at h
  split at h
  ·cases h
  ·rename_i hneg
   simp only at h
   obtain rfl:=Option.some.inj h
   refine Pur.mk' _ (fun w=>?_) (by simp [zb];rfl)
   simp [kI,binOp,Op.shift,hneg]
 ·rename_i k a k' b h1 h2
  obtain rfl:=y5 hx
  obtain rfl:=y5 hy
  split at h
  ·rename_i hk
   subst hk
   unfold Yd at h
   cases op<;>simp only at h<;>first
    | (cases h;done)
    | (obtain rfl:=Option.some.inj h;exact Pur.mk' _ (fun w=>by simp [kI,binOp,Op.intArith,Op.intBits,Op.intCmp];rfl) (by simp [zb]))
    | (split at h<;>first | (cases h;done) | (rename_i hb;obtain rfl:=Option.some.inj h;exact Pur.mk' _ (fun w=>by simp [kI,binOp,Op.intDiv,hb];rfl) (by simp [zb])))
  ·cases h
 ·rename_i a b
  obtain rfl:=jd hx
  obtain rfl:=jd hy
  unfold z7q at h
  cases op<;>simp only at h<;>first
   | (cases h;done)
   | (obtain rfl:=Option.some.inj h;exact Pur.mk' _ (fun w=>by simp [Zg,binOp,Op.stringOp,Vk];rfl) (by simp [zb]))
   | skip
  split at h
  ·rename_i hlt
   obtain rfl:=Option.some.inj h
   refine Pur.mk' (x:=.string (⟨⟨a⟩⟩++⟨⟨b⟩⟩)) (fun w=>?_) ?_
   ·have:¬ (((⟨⟨a⟩⟩:ByteArray).size+(⟨⟨b⟩⟩:ByteArray).size:Nat):Int) > IntKind.i64.max:=by
     simp only [Xc,IntKind.max,IntKind.signed,IntKind.bits]
     simp
     omega
    simp only [Sem.run_bind,Zg,Result.andThen_ok,binOp,Op.stringOp,Sem.run_ite,if_neg this,Sem.run_pure]
   ·simp only [zb,Option.some.injEq,Value.string.injEq]
    apply ByteArray.ext
    simp
  ·cases h
 ·cases h
theorem Kh {t:TypeId} {m:Option Nat} {cs:List AV} {xs:List Value} {off:Nat} (ht:wm P t=some m) (hc:zg ρ cs=some xs) (h:jS cs off m=some v) :
  ∃ x,(∀ w:World,(part t xs.toArray off).run P w=.ok x w)∧zb ρ v=some x:=by
 cases m with
 | none =>
  simp only [jS] at h
  obtain⟨x,hx,hx2⟩:=jM hc h
  exact⟨x,fun w=>by simp [part,Z9 ht,hx2],hx⟩
 | some n =>
  simp only [jS] at h
  split at h
  ·rename_i hle
   obtain rfl:=Option.some.inj h
   refine⟨.agg ((xs.drop off).take n).toArray,fun w=>?_,by simp [zb,jD n (Zf off hc)]⟩
   simp only [part,Sem.run_bind,Z9 ht,Result.andThen_ok,Option.isSome_some,if_true,zM (Jz ht),Sem.run_pure]
   congr 2
   simp [List.take_drop]
  ·cases h
theorem jo {α β:Type} {f:α→Option β} {x:α} {l:List α} {m:List β} (h:zO f (x::l)=some m):∃ y ys,f x=some y∧zO f l=some ys∧m=y::ys:=by
 simp only [zO] at h
 cases h1:f x with
 | none=>simp [h1] at h
 | some y=>cases h2:zO f l with
  | none=>simp [h1,h2] at h
  | some ys=>simp [h1,h2] at h;exact⟨y,ys,rfl,rfl,h.symm⟩
theorem z7L:∀ (n:Nat) (t:TypeId) (q:EqT),Jt P n t=some q→∀ (a b:AV) (r:Bool) (x y:Value),eqA q a b=some r→zb ρ a=some x→zb ρ b=some y →
  ∀ (d:Nat) (w:World),(Op.equalIn (d+n) t x y).run P w=.ok r w:=by
 intro n
 induction n with
 | zero=>intro t q h;simp [Jt] at h
 | succ n ih =>
  intro t q h a b r x y hr hx hy d w
  unfold Jt at h
  split at h
  ·rename_i hu
   obtain rfl:=Option.some.inj h
   unfold eqA at hr
   split at hr<;>first | skip | (cases hr;done) | contradiction
   all_goals first | contradiction | skip
   rename_i a b _
   obtain rfl:=vY hx
   obtain rfl:=vY hy
   obtain rfl:=Option.some.inj hr
   exact run_equalIn_bool' w (d+n) t a b hu
  ·rename_i k hu
   obtain rfl:=Option.some.inj h
   unfold eqA at hr
   split at hr<;>first | skip | (cases hr;done) | contradiction
   all_goals first | contradiction | skip
   rename_i k1 a k2 b _
   obtain rfl:=y5 hx
   obtain rfl:=y5 hy
   split at hr
   ·rename_i hk
    subst hk
    obtain rfl:=Option.some.inj hr
    exact run_equalIn_int w (d+n) t k1 k a b hu
   ·cases hr
  ·rename_i hu
   obtain rfl:=Option.some.inj h
   unfold eqA at hr
   split at hr<;>first | skip | (cases hr;done) | contradiction
   all_goals first | contradiction | skip
   rename_i a b _
   obtain rfl:=jd hx
   obtain rfl:=jd hy
   obtain rfl:=Option.some.inj hr
   rw [show d+(n+1)=d+n+1 from rfl,run_equalIn_string w (d+n) t _ _ hu,Vk,Vk]
  ·rename_i fs hu
   split at h
   ·cases h
   ·rename_i hheld
    obtain⟨qs,hm,rfl⟩:=Option.map_eq_some_iff.1 h
    unfold eqA at hr
    split at hr<;>first | skip | (cases hr;done) | contradiction
    all_goals first | contradiction | skip
    rename_i fs0 as bs heq
    obtain rfl:=EqT.st.inj heq
    obtain⟨xs,hxs,rfl⟩:=Yh hx
    obtain⟨ys,hys,rfl⟩:=Yh hy
    have hf:P.fieldsOf t=fs:=by simp [Program.fieldsOf,hu]
    have hrun:=run_equalIn_struct (P:=P) w (d+n) t xs.toArray ys.toArray (by rw [hf];exact hu) (by simpa using hheld)
    rw [show d+(n+1)=d+n+1 by omega,hrun,hf]
    clear hrun hf hu hheld hx hy heq h
    generalize fs.toList=l at hm
    clear fs
    induction l generalizing qs with
    | nil =>
     simp [zO] at hm
     subst hm
     simp [eqF] at hr
     subst hr
     simp [Op.eqFields]
    | cons f l ihl =>
     obtain⟨y,qs',hfy,h3,rfl⟩:=jo hm
     have hname:(f.name == "_")=false:=by
      cases hn:(f.name == "_") with
      | false=>rfl
      | true=>simp [hn] at hfy
     simp only [hname,Bool.false_eq_true,if_false] at hfy
     obtain⟨z,q,h1,h2,rfl⟩:∃ z q,jB P f.type=some z∧Jt P n f.type=some q∧y=(f.offset,z,q):=by
      cases h1:jB P f.type with
      | none=>simp [h1] at hfy
      | some z=>cases h2:Jt P n f.type with
       | none=>simp [h1,h2] at hfy
       | some q=>simp [h1,h2] at hfy;exact⟨z,q,rfl,rfl,hfy.symm⟩
     have hag:wm P f.type=some (q.agg z):=by
      cases n with
      | zero=>simp [Jt] at h2
      | succ n =>
       unfold Jt at h2
       unfold wm
       split at h2
       ·rename_i hu;obtain rfl:=Option.some.inj h2;simp [hu,EqT.agg]
       ·rename_i k hu;obtain rfl:=Option.some.inj h2;simp [hu,EqT.agg]
       ·rename_i hu;obtain rfl:=Option.some.inj h2;simp [hu,EqT.agg]
       ·rename_i fs hu
        split at h2
        ·cases h2
        ·obtain⟨qq,_,rfl⟩:=Option.map_eq_some_iff.1 h2
         simp [hu,h1,EqT.agg]
       ·cases h2
     simp only [eqF] at hr
     have hnm:f.name ≠ "_" := by simpa using hname
     split at hr
     ·rename_i pa pb hpa hpb
      obtain⟨xa,hxa,hca⟩:=Kh (P:=P) hag hxs hpa
      obtain⟨xb,hxb,hcb⟩:=Kh (P:=P) hag hys hpb
      simp only [Op.eqFields,if_pos hnm,Sem.run_bind,hxa,Result.andThen_ok,hxb]
      split at hr
      ·rename_i hq
       rw [ih f.type q h2 pa pb true xa xb hq hca hcb d w]
       simp only [Result.andThen_ok,Bool.not_true,Sem.run_ite,Bool.false_eq_true,if_false]
       exact ihl qs' hr h3
      ·rename_i hq
       obtain rfl:=Option.some.inj hr
       rw [ih f.type q h2 pa pb false xa xb hq hca hcb d w]
       simp
      ·cases hr
     ·cases hr
  ·cases h
end
end Go.Ab
/- Each operation's own run against the evaluator's: comparisons with nil, conversions, interfaces, indices, slices, the built-in functions. -/
namespace Go.Ab
open Go.RowKit
section
variable {P:Program} {B:Nat} {ρ:Rho} {w:World} {H H':z3} {v:AV}

theorem z0a {c:Nat} {x:Operand} (h:z5I c x=true):x=.const (Qe c):=by
 unfold z5I at h
 split at h<;>first | (cases h;done) | rfl
theorem z3o {t:TypeId} {d:TypeDesc} {c:Nat} {a:AV} {xv:Value} {b:Bool} {x y:Operand} (ht:P.underlying t=some d) (hc:z2a d=some c)
  (hx:zb ρ a=some xv) (hn:z02 c a=some b) (hy:z5I c y=true) (op:BinOp) (neg:Bool) (hop:(op=.eql∧neg=false)∨(op=.neq∧neg=true)) :
  Pur P ρ (do eqGuard op t x y xv (Qe c);binOp op t xv (Qe c)) (.bool (b != neg)):=by
 refine Pur.mk' (x:=.bool (b != neg)) (fun w=>?_) rfl
 obtain rfl:=z0a hy
 have hE:∀ (n:Nat) (w:World),(Op.equalIn (n+1) t xv (Qe c)).run P w=.ok b w:=by
  intro n w
  cases d<;>simp only [z2a] at hc<;>first | (cases hc;done) | skip
  all_goals
   obtain rfl:=Option.some.inj hc
   unfold z02 at hn
   split at hn<;>first | (cases hn;done) | contradiction | skip
   all_goals
    first | (rename_i h0;cases h0;done) | skip
    obtain rfl:=Option.some.inj hn
    simp only [zb] at hx
    (repeat' split at hx)<;>first | (cases hx;done) | skip
    all_goals
     obtain rfl:=Option.some.inj hx
     simp [Qe,Op.equalIn,run_underlying ht]
 have hE2:∀ w:World,(Op.equal t xv (Qe c)).run P w=.ok b w:=hE 9999
 clear hE
 cases d<;>simp only [z2a] at hc<;>first | (cases hc;done) | skip
 all_goals
  obtain rfl:=Option.some.inj hc
  unfold z02 at hn
  split at hn<;>first | (cases hn;done) | contradiction | skip
  all_goals
   first | (rename_i h0;cases h0;done) | skip
   obtain rfl:=Option.some.inj hn
   simp only [zb] at hx
   (repeat' split at hx)<;>first | (cases hx;done) | skip
   all_goals
    obtain rfl:=Option.some.inj hx
    rcases hop with ⟨rfl,rfl⟩ | ⟨rfl,rfl⟩<;>simp only [Qe] at hE2 ⊢<;>simp [eqGuard,binOp,hE2]
end
end Go.Ab
