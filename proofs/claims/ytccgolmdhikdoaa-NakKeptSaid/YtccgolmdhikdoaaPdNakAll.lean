/- A feed that is made of choices. -/
import Derived.Test.YtccgolmdhikdoaaPcFeed2
import Derived.Test.YtccgolmdhikdoaaPcFeed5
import Derived.Test.YtccgolmdhikdoaaPmServ
import Derived.Test.YtccgolmdhikdoaaPcFeed
import Derived.Test.YtccgolmdhikdoaaPcFeed4
set_option linter.unusedVariables false
set_option linter.unusedSimpArgs false
namespace Go.Proofs.Ytccgolmdhikdoaa.Pn
open Go.Ab Go.Feed
set_option maxRecDepth 100000
theorem Md.rw {a : Int} {k : Nat} {f : Fed} (h : Md a k f) : f.ring.length + f.win.length ≤ 600000 ∨ True := Or.inr trivial
section
variable {p : Nat} {L : List Int}
end
end Go.Proofs.Ytccgolmdhikdoaa.Pn
/- What the functions of span, and the document's, come to. -/
set_option linter.unusedVariables false
set_option linter.unusedSimpArgs false
namespace Go.Proofs.Ytccgolmdhikdoaa.Pn
open Go.Ab Go.Feed
set_option maxRecDepth 100000
open Go.Span (add addL radd radL insN insAt lk rlk may has cnt Gd)
theorem Sp_v (a b : Int) : Sp.v (a, b) = .agg [.int .i64 a, .int .i64 b] := rfl
def Ok (s : Sp) : Prop := 0 ≤ s.1 ∧ s.1 ≤ 2000000 ∧ 0 ≤ s.2 ∧ s.2 ≤ 2000000
theorem Gd.ok {l : List Sp} (h : Gd l) : ∀ s ∈ l, Ok s := fun s hs => by have := h.m s hs; unfold Ok; omega
theorem drop_at {l : List Sp} {i : Nat} (hi : i < l.length) : l.drop i = l.getD i default :: l.drop (i + 1) := by
  rw [List.drop_eq_getElem_cons hi, List.getD_eq_getElem?_getD, List.getElem?_eq_getElem hi]; rfl
@[simp] theorem gdN_tt (o : Option Nat) : gdN (.bool true) true o = o := by simp [gdN]
@[simp] theorem gdN_ft (o : Option Nat) : gdN (.bool false) true o = some 0 := by simp [gdN]
section
variable {Q : AHeap}
end
end Go.Proofs.Ytccgolmdhikdoaa.Pn
/- What the functions of span, and the document's, come to: what is there, and lacked. -/
set_option linter.unusedVariables false
set_option linter.unusedSimpArgs false
namespace Go.Proofs.Ytccgolmdhikdoaa.Pn
open Go.Ab Go.Feed
set_option maxRecDepth 100000
open Go.Span (add addL radd radL insN insAt lk rlk may has Gd)
section
variable {Q : AHeap}
theorem loop_dHas {l : List Sp} {v : AV} (h : Sl 2 (l.map Sp.v) v) (hl : l.length ≤ 900000) (n : Int) : ∀ (k i : Nat), i + k = l.length →
    L_pleachref1_HasSpan_0 P1 v (.int .i64 n) (.int .i64 i) Q = if has (l.drop i) n = true then X_pleachref1_HasSpan_0_ret (.bool true) Q else X_pleachref1_HasSpan_0_x0 Q := by
  intro k
  induction k with
  | zero =>
    intro i hi
    have c : ¬ ((i : Int) < l.length) := by omega
    rw [List.drop_of_length_le (by omega), L_pleachref1_HasSpan_0_eq, p_pleachref1_HasSpan_0]
    simp [h.len, c, has]
  | succ k ih =>
    intro i hi
    have c : ((i : Int) < l.length) = True := eq_true (by omega)
    have e := h.get (k := .i64) (getD_at (l := l) (k := i) (by omega))
    have w := w64 (i := (i : Int) + 1) (by omega) (by omega)
    have ih := ih (i + 1) (by omega)
    rw [drop_at (by omega), L_pleachref1_HasSpan_0_eq, p_pleachref1_HasSpan_0]
    generalize l.getD i default = s at *
    rw [Go.Span.has_cons]
    obtain ⟨a, b⟩ := s
    rw [Sp_v] at e
    by_cases c1 : a ≤ n
    · by_cases c2 : n ≤ b
      · simp [h.len, c, e, c1, c2]
      · simp [h.len, c, e, c1, c2, w]
        simpa [L_pleachref1_HasSpan_0_fold] using ih
    · simp [h.len, c, e, c1, w]
      simpa [L_pleachref1_HasSpan_0_fold] using ih
theorem d_Has {l : List Sp} {v : AV} (h : Sl 2 (l.map Sp.v) v) (hl : l.length ≤ 900000) (n : Int) : callP (penv P1) 30 [v, .int .i64 n] Q = some (.bool (has l n), Q) := by
  rw [f_pleachref1_HasSpan rfl]
  have lp := loop_dHas (Q := Q) h hl n l.length 0 (by omega)
  rw [show ((0 : Nat) : Int) = 0 from rfl, List.drop_zero] at lp
  cases hm : has l n with
  | true => rw [hm] at lp; simp [lp, L_pleachref1_HasSpan_0_fold]
  | false => rw [hm] at lp; simp [lp, L_pleachref1_HasSpan_0_fold, p_pleachref1_HasSpan_1]
end
end Go.Proofs.Ytccgolmdhikdoaa.Pn
/- What serves; who has a number. -/
set_option linter.unusedVariables false
set_option linter.unusedSimpArgs false
namespace Go.Proofs.Ytccgolmdhikdoaa.Pn
open Go.Ab Go.Feed
open Go.Span (radd)
set_option maxRecDepth 100000
section
variable {Q : AHeap}
end
end Go.Proofs.Ytccgolmdhikdoaa.Pn
/- The law NakServes: the walk. -/
set_option linter.unusedVariables false
set_option linter.unusedSimpArgs false
namespace Go.Proofs.Ytccgolmdhikdoaa.Pn
open Go.Ab Go.Feed
set_option maxRecDepth 100000
theorem wrapU8 {i : Int} (h : 0 ≤ i) (h2 : i ≤ 255) : IntKind.u8.wrap i = i := by
  have : IntKind.u8.wrap i = i % 256 := rfl
  rw [this]; omega
theorem tmodE {a b : Int} (h : 0 ≤ a) : a.tmod b = a % b := Int.tmod_eq_emod_of_nonneg h
@[simp] theorem binA_neqS (a b : List UInt8) : binA .neq (.str a) (.str b) = some (.bool (!decide (a = b))) := by
  show some (AV.bool (!(a == b))) = _
  congr 3
  by_cases h : a = b <;> simp [h]
section
variable {Q : AHeap}
end
end Go.Proofs.Ytccgolmdhikdoaa.Pn
/- The law NakAll: the walk. -/
set_option linter.unusedVariables false
set_option linter.unusedSimpArgs false
namespace Go.Proofs.Ytccgolmdhikdoaa.Pn
open Go.Ab Go.Feed
set_option maxRecDepth 100000
section
variable {Q : AHeap}
theorem skipsN_len {hi why : Int} : ∀ (n : Nat) (f : Fed) (out : List Sp) (g : Fed) (o : List Sp), skipsN n f hi why out = some (g, o) → o.length ≤ out.length + n := by
  intro n
  induction n with
  | zero => intro f out g o h; cases h
  | succ n ih =>
    intro f out g o h
    unfold skipsN at h
    by_cases c : f.next ≤ hi
    · rw [if_pos c] at h
      simp only at h
      generalize fahead f hi = a at *
      have b1 : ∃ f1 o1, (if f.next ≤ a.1 then skip1 f a.1 why else f) = f1 ∧ (if f.next ≤ a.1 then out ++ [(f.next, a.1)] else out) = o1 ∧ o1.length ≤ out.length + 1 := by
        by_cases c1 : f.next ≤ a.1
        · exact ⟨_, _, rfl, rfl, by rw [if_pos c1]; simp⟩
        · exact ⟨_, _, rfl, rfl, by rw [if_neg c1]; omega⟩
      obtain ⟨f1, o1, e1, e2, b1⟩ := b1
      rw [e1, e2] at h
      split at h
      · split at h
        · simp only [Option.some.injEq, Prod.mk.injEq] at h
          obtain ⟨rfl, rfl⟩ := h
          omega
        · have := ih _ _ g o h
          omega
      · simp only [Option.some.injEq, Prod.mk.injEq] at h
        obtain ⟨rfl, rfl⟩ := h
        omega
    · rw [if_neg c] at h
      simp only [Option.some.injEq, Prod.mk.injEq] at h
      obtain ⟨rfl, rfl⟩ := h
      omega
theorem skips_len {f : Fed} {k : Nat} (h : Bd f (k + 1)) (hi why : Int) : (skips f hi why).2.length ≤ 800000 := by
  unfold skips
  split
  · simp
  · split
    · rename_i g o e
      have := skipsN_len _ _ _ _ _ e
      have := h.l
      simp at *; omega
    · simp
end
end Go.Proofs.Ytccgolmdhikdoaa.Pn
