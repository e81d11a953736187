/- Each operation's own run against the evaluator's: comparisons with nil, conversions, interfaces, indices, slices, the built-in functions. -/
import Derived.Test.YtccgolmdhikdoaaAb5
set_option linter.unusedVariables false
set_option linter.unusedSimpArgs false
set_option linter.unusedSectionVars false
namespace Go.Ab
open Go.RowKit
section
variable {P : Program} {B : Nat} {ρ : Rho} {w : World} {H H' : AHeap} {v : AV}

theorem isNil_spec {c : Nat} {x : Operand} (h : isNil c x = true) : x = .const (nilVal c) := by
  unfold isNil at h
  split at h <;> first | (cases h; done) | rfl
theorem good_eqn {t : TypeId} {d : TypeDesc} {c : Nat} {a : AV} {xv : Value} {b : Bool} {x y : Operand} (ht : P.underlying t = some d) (hc : nilCls d = some c)
    (hx : conc ρ a = some xv) (hn : nilA c a = some b) (hy : isNil c y = true) (op : BinOp) (neg : Bool) (hop : (op = .eql ∧ neg = false) ∨ (op = .neq ∧ neg = true)) :
    Pur P ρ (do eqGuard op t x y xv (nilVal c); binOp op t xv (nilVal c)) (.bool (b != neg)) := by
  refine Pur.mk' (x := .bool (b != neg)) (fun w => ?_) rfl
  obtain rfl := isNil_spec hy
  have hE : ∀ (n : Nat) (w : World), (Op.equalIn (n + 1) t xv (nilVal c)).run P w = .ok b w := by
    intro n w
    cases d <;> simp only [nilCls] at hc <;> first | (cases hc; done) | skip
    all_goals
      obtain rfl := Option.some.inj hc
      unfold nilA at hn
      split at hn <;> first | (cases hn; done) | contradiction | skip
      all_goals
        first | (rename_i h0; cases h0; done) | skip
        obtain rfl := Option.some.inj hn
        simp only [conc] at hx
        (repeat' split at hx) <;> first | (cases hx; done) | skip
        all_goals
          obtain rfl := Option.some.inj hx
          simp [nilVal, Op.equalIn, run_underlying ht]
  have hE2 : ∀ w : World, (Op.equal t xv (nilVal c)).run P w = .ok b w := hE 9999
  clear hE
  cases d <;> simp only [nilCls] at hc <;> first | (cases hc; done) | skip
  all_goals
    obtain rfl := Option.some.inj hc
    unfold nilA at hn
    split at hn <;> first | (cases hn; done) | contradiction | skip
    all_goals
      first | (rename_i h0; cases h0; done) | skip
      obtain rfl := Option.some.inj hn
      simp only [conc] at hx
      (repeat' split at hx) <;> first | (cases hx; done) | skip
      all_goals
        obtain rfl := Option.some.inj hx
        rcases hop with ⟨rfl, rfl⟩ | ⟨rfl, rfl⟩ <;> simp only [nilVal] at hE2 ⊢ <;> simp [eqGuard, binOp, hE2]
end
end Go.Ab
