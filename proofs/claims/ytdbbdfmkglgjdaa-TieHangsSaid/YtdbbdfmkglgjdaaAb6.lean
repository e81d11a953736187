/- Each operation's own run against the evaluator's: what leaves memory alone. -/
import Derived.Test.YtdbbdfmkglgjdaaAb4
set_option linter.unusedVariables false
set_option linter.unusedSimpArgs false
set_option linter.unusedSectionVars false
namespace Go.Ab
open Go.RowKit
section
variable {P:Program} {B:Nat} {ρ:Rho} {w:World} {H H':z3} {v:AV}
theorem z00 (s:List UInt8):(⟨⟨s⟩⟩:ByteArray).toList=s:=ByteArray.toList_eq _
theorem Qb (s:List UInt8):(⟨⟨s⟩⟩:ByteArray).size=s.length:=rfl
theorem vo (op:BinOp) (t:TypeId) (x y:Operand) (k k':IntKind) (a b:Int):(eqGuard op t x y (.int k a) (.int k' b)).run P w=.ok () w:=by
 unfold eqGuard;cases op<;>simp
theorem ZW (op:BinOp) (t:TypeId) (x y:Operand) (a b:ByteArray):(eqGuard op t x y (.string a) (.string b)).run P w=.ok () w:=by
 unfold eqGuard;cases op<;>simp
theorem z01 (op:BinOp) (t:TypeId) (x y:Operand) (a b:Bool):(eqGuard op t x y (.bool a) (.bool b)).run P w=.ok () w:=by
 unfold eqGuard;cases op<;>simp
theorem z4X {op:BinOp} {t:TypeId} {x y:Operand} {a b:AV} {xv yv:Value} (hx:za ρ a=some xv) (hy:za ρ b=some yv) (h:z9 op a b=some v) :
  Pur P ρ (do eqGuard op t x y xv yv;binOp op t xv yv) v:=by
 unfold z9 at h
 split at h
 ·rename_i k a _ b
  obtain rfl:=y6 hx
  obtain rfl:=y6 hy
  unfold z1E at h
  split at h
  ·cases h
  ·rename_i hneg
   simp only at h
   obtain rfl:=Option.some.inj h
   refine Pur.mk' _ (fun w=>?_) (by simp [za];rfl)
   simp [vo,binOp,Op.shift,hneg]
 ·rename_i k a _ b
  obtain rfl:=y6 hx
  obtain rfl:=y6 hy
  unfold z1E at h
  split at h
  ·cases h
  ·rename_i hneg
   simp only at h
   obtain rfl:=Option.some.inj h
   refine Pur.mk' _ (fun w=>?_) (by simp [za];rfl)
   simp [vo,binOp,Op.shift,hneg]
 ·rename_i k a k' b h1 h2
  obtain rfl:=y6 hx
  obtain rfl:=y6 hy
  split at h
  ·rename_i hk
   subst hk
   unfold YX at h
   cases op<;>simp only at h<;>first
    | (cases h;done)
    | (obtain rfl:=Option.some.inj h;exact Pur.mk' _ (fun w=>by simp [vo,binOp,Op.intArith,Op.intBits,Op.intCmp];rfl) (by simp [za]))
    | (split at h<;>first | (cases h;done) | (rename_i hb;obtain rfl:=Option.some.inj h;exact Pur.mk' _ (fun w=>by simp [vo,binOp,Op.intDiv,hb];rfl) (by simp [za])))
  ·cases h
 ·rename_i a b
  obtain rfl:=jt hx
  obtain rfl:=jt hy
  unfold zb9 at h
  cases op<;>simp only at h<;>first
   | (cases h;done)
   | (obtain rfl:=Option.some.inj h;exact Pur.mk' _ (fun w=>by simp [ZW,binOp,Op.stringOp,z00];rfl) (by simp [za]))
   | skip
  split at h
  ·rename_i hlt
   obtain rfl:=Option.some.inj h
   refine Pur.mk' (x:=.string (⟨⟨a⟩⟩++⟨⟨b⟩⟩)) (fun w=>?_) ?_
   ·have:¬ (((⟨⟨a⟩⟩:ByteArray).size+(⟨⟨b⟩⟩:ByteArray).size:Nat):Int) > IntKind.i64.max:=by
     simp only [Qb,IntKind.max,IntKind.signed,IntKind.bits]
     simp
     omega
    simp only [Sem.run_bind,ZW,Result.andThen_ok,binOp,Op.stringOp,Sem.run_ite,if_neg this,Sem.run_pure]
   ·simp only [za,Option.some.injEq,Value.string.injEq]
    apply ByteArray.ext
    simp
  ·cases h
 ·cases h
theorem VL {t:TypeId} {m:Option Nat} {cs:List AV} {xs:List Value} {off:Nat} (ht:Z2 P t=some m) (hc:zh ρ cs=some xs) (h:kC cs off m=some v) :
  ∃ x,(∀ w:World,(part t xs.toArray off).run P w=.ok x w)∧za ρ v=some x:=by
 cases m with
 | none =>
  simp only [kC] at h
  obtain⟨x,hx,hx2⟩:=kq hc h
  exact⟨x,fun w=>by simp [part,ZP ht,hx2],hx⟩
 | some n =>
  simp only [kC] at h
  split at h
  ·rename_i hle
   obtain rfl:=Option.some.inj h
   refine⟨.agg ((xs.drop off).take n).toArray,fun w=>?_,by simp [za,jV n (ZV off hc)]⟩
   simp only [part,Sem.run_bind,ZP ht,Result.andThen_ok,Option.isSome_some,if_true,zN (KJ ht),Sem.run_pure]
   congr 2
   simp [List.take_drop]
  ·cases h
theorem jC {α β:Type} {f:α→Option β} {x:α} {l:List α} {m:List β} (h:zO f (x::l)=some m):∃ y ys,f x=some y∧zO f l=some ys∧m=y::ys:=by
 simp only [zO] at h
 cases h1:f x with
 | none=>simp [h1] at h
 | some y=>cases h2:zO f l with
  | none=>simp [h1,h2] at h
  | some ys=>simp [h1,h2] at h;exact⟨y,ys,rfl,rfl,h.symm⟩
theorem z9m:∀ (n:Nat) (t:TypeId) (q:EqT),KD P n t=some q→∀ (a b:AV) (r:Bool) (x y:Value),eqA q a b=some r→za ρ a=some x→za ρ b=some y →
  ∀ (d:Nat) (w:World),(Op.equalIn (d+n) t x y).run P w=.ok r w:=by
 intro n
 induction n with
 | zero=>intro t q h;simp [KD] at h
 | succ n ih =>
  intro t q h a b r x y hr hx hy d w
  unfold KD at h
  split at h
  ·rename_i hu
   obtain rfl:=Option.some.inj h
   unfold eqA at hr
   split at hr<;>first | skip | (cases hr;done) | contradiction
   all_goals first | contradiction | skip
   rename_i a b _
   obtain rfl:=wP hx
   obtain rfl:=wP hy
   obtain rfl:=Option.some.inj hr
   exact run_equalIn_bool' w (d+n) t a b hu
  ·rename_i k hu
   obtain rfl:=Option.some.inj h
   unfold eqA at hr
   split at hr<;>first | skip | (cases hr;done) | contradiction
   all_goals first | contradiction | skip
   rename_i k1 a k2 b _
   obtain rfl:=y6 hx
   obtain rfl:=y6 hy
   split at hr
   ·rename_i hk
    subst hk
    obtain rfl:=Option.some.inj hr
    exact run_equalIn_int w (d+n) t k1 k a b hu
   ·cases hr
  ·rename_i hu
   obtain rfl:=Option.some.inj h
   unfold eqA at hr
   split at hr<;>first | skip | (cases hr;done) | contradiction
   all_goals first | contradiction | skip
   rename_i a b _
   obtain rfl:=jt hx
   obtain rfl:=jt hy
   obtain rfl:=Option.some.inj hr
   rw [show d+(n+1)=d+n+1 from rfl,run_equalIn_string w (d+n) t _ _ hu,z00,z00]
  ·rename_i fs hu
   split at h
   ·cases h
   ·rename_i hheld
    obtain⟨qs,hm,rfl⟩:=Option.map_eq_some_iff.1 h
    unfold eqA at hr
    split at hr<;>first | skip | (cases hr;done) | contradiction
    all_goals first | contradiction | skip
    rename_i fs0 as bs heq
    obtain rfl:=EqT.st.inj heq
    obtain⟨xs,hxs,rfl⟩:=X1 hx
    obtain⟨ys,hys,rfl⟩:=X1 hy
    have hf:P.fieldsOf t=fs:=by simp [Program.fieldsOf,hu]
    have hrun:=run_equalIn_struct (P:=P) w (d+n) t xs.toArray ys.toArray (by rw [hf];exact hu) (by simpa using hheld)
    rw [show d+(n+1)=d+n+1 by omega,hrun,hf]
    clear hrun hf hu hheld hx hy heq h
    generalize fs.toList=l at hm
    clear fs
    induction l generalizing qs with
    | nil =>
     simp [zO] at hm
     subst hm
     simp [eqF] at hr
     subst hr
     simp [Op.eqFields]
    | cons f l ihl =>
     obtain⟨y,qs',hfy,h3,rfl⟩:=jC hm
     have hname:(f.name == "_")=false:=by
      cases hn:(f.name == "_") with
      | false=>rfl
      | true=>simp [hn] at hfy
     simp only [hname,Bool.false_eq_true,if_false] at hfy
     obtain⟨z,q,h1,h2,rfl⟩:∃ z q,jT P f.type=some z∧KD P n f.type=some q∧y=(f.offset,z,q):=by
      cases h1:jT P f.type with
      | none=>simp [h1] at hfy
      | some z=>cases h2:KD P n f.type with
       | none=>simp [h1,h2] at hfy
       | some q=>simp [h1,h2] at hfy;exact⟨z,q,rfl,rfl,hfy.symm⟩
     have hag:Z2 P f.type=some (q.agg z):=by
      cases n with
      | zero=>simp [KD] at h2
      | succ n =>
       unfold KD at h2
       unfold Z2
       split at h2
       ·rename_i hu;obtain rfl:=Option.some.inj h2;simp [hu,EqT.agg]
       ·rename_i k hu;obtain rfl:=Option.some.inj h2;simp [hu,EqT.agg]
       ·rename_i hu;obtain rfl:=Option.some.inj h2;simp [hu,EqT.agg]
       ·rename_i fs hu
        split at h2
        ·cases h2
        ·obtain⟨qq,_,rfl⟩:=Option.map_eq_some_iff.1 h2
         simp [hu,h1,EqT.agg]
       ·cases h2
     simp only [eqF] at hr
     have hnm:f.name ≠ "_" := by simpa using hname
     split at hr
     ·rename_i pa pb hpa hpb
      obtain⟨xa,hxa,hca⟩:=VL (P:=P) hag hxs hpa
      obtain⟨xb,hxb,hcb⟩:=VL (P:=P) hag hys hpb
      simp only [Op.eqFields,if_pos hnm,Sem.run_bind,hxa,Result.andThen_ok,hxb]
      split at hr
      ·rename_i hq
       rw [ih f.type q h2 pa pb true xa xb hq hca hcb d w]
       simp only [Result.andThen_ok,Bool.not_true,Sem.run_ite,Bool.false_eq_true,if_false]
       exact ihl qs' hr h3
      ·rename_i hq
       obtain rfl:=Option.some.inj hr
       rw [ih f.type q h2 pa pb false xa xb hq hca hcb d w]
       simp
      ·cases hr
     ·cases hr
  ·cases h
end
end Go.Ab
/- Each operation's own run against the evaluator's: comparisons with nil, conversions, interfaces, indices, slices, the built-in functions. -/
namespace Go.Ab
open Go.RowKit
section
variable {P:Program} {B:Nat} {ρ:Rho} {w:World} {H H':z3} {v:AV}

theorem z1N {c:Nat} {x:Operand} (h:z7o c x=true):x=.const (J0 c):=by
 unfold z7o at h
 split at h<;>first | (cases h;done) | rfl
theorem z4Y {t:TypeId} {d:TypeDesc} {c:Nat} {a:AV} {xv:Value} {b:Bool} {x y:Operand} (ht:P.underlying t=some d) (hc:z3M d=some c)
  (hx:za ρ a=some xv) (hn:z1F c a=some b) (hy:z7o c y=true) (op:BinOp) (neg:Bool) (hop:(op=.eql∧neg=false)∨(op=.neq∧neg=true)) :
  Pur P ρ (do eqGuard op t x y xv (J0 c);binOp op t xv (J0 c)) (.bool (b != neg)):=by
 refine Pur.mk' (x:=.bool (b != neg)) (fun w=>?_) rfl
 obtain rfl:=z1N hy
 have hE:∀ (n:Nat) (w:World),(Op.equalIn (n+1) t xv (J0 c)).run P w=.ok b w:=by
  intro n w
  cases d<;>simp only [z3M] at hc<;>first | (cases hc;done) | skip
  all_goals
   obtain rfl:=Option.some.inj hc
   unfold z1F at hn
   split at hn<;>first | (cases hn;done) | contradiction | skip
   all_goals
    first | (rename_i h0;cases h0;done) | skip
    obtain rfl:=Option.some.inj hn
    simp only [za] at hx
    (repeat' split at hx)<;>first | (cases hx;done) | skip
    all_goals
     obtain rfl:=Option.some.inj hx
     simp [J0,Op.equalIn,run_underlying ht]
 have hE2:∀ w:World,(Op.equal t xv (J0 c)).run P w=.ok b w:=hE 9999
 clear hE
 cases d<;>simp only [z3M] at hc<;>first | (cases hc;done) | skip
 all_goals
  obtain rfl:=Option.some.inj hc
  unfold z1F at hn
  split at hn<;>first | (cases hn;done) | contradiction | skip
  all_goals
   first | (rename_i h0;cases h0;done) | skip
   obtain rfl:=Option.some.inj hn
   simp only [za] at hx
   (repeat' split at hx)<;>first | (cases hx;done) | skip
   all_goals
    obtain rfl:=Option.some.inj hx
    rcases hop with ⟨rfl,rfl⟩ | ⟨rfl,rfl⟩<;>simp only [J0] at hE2 ⊢<;>simp [eqGuard,binOp,hE2]
end
end Go.Ab
