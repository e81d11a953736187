/- What the document's functions for feed come to: the same. Feeds that are the same. -/
import Derived.Test.YtcledejamnnbmaaPcFeed
set_option linter.unusedVariables false
set_option linter.unusedSimpArgs false
namespace Go.Proofs.Ytcledejamnnbmaa.Ps
open Go.Ab Go.Feed
set_option maxRecDepth 100000
section
variable {Q : AHeap}
theorem drop_eq {α : Type} [Inhabited α] {l m : List α} {i : Nat} (h1 : i < l.length) (h2 : i < m.length) : l.drop i = m.drop i ↔ l.getD i default = m.getD i default ∧ l.drop (i + 1) = m.drop (i + 1) := by
  have key : ∀ {l : List α}, i < l.length → l.drop i = l.getD i default :: l.drop (i + 1) := fun {l} h => by
    rw [List.drop_eq_getElem_cons h, List.getD_eq_getElem?_getD, List.getElem?_eq_getElem h]; rfl
  rw [key h1, key h2]
  exact ⟨fun h => by injection h with a b; exact ⟨a, b⟩, fun ⟨a, b⟩ => by rw [a, b]⟩
theorem loop_dSameI {l m : List It} {v v' : AV} (h : Sl 2 (l.map It.v) v) (h' : Sl 2 (m.map It.v) v') (hl : l.length ≤ 900000) (hm : l.length = m.length) : ∀ (k i : Nat), i + k = l.length →
    (l.drop i = m.drop i → L_pleachref13_SameItems_0 P1 v v' (.int .i64 i) Q = X_pleachref13_SameItems_0_x0 Q) ∧ (¬ l.drop i = m.drop i → L_pleachref13_SameItems_0 P1 v v' (.int .i64 i) Q = X_pleachref13_SameItems_0_ret (.bool false) Q) := by
  intro k
  induction k with
  | zero =>
    intro i hi
    have c : ¬ ((i : Int) < l.length) := by omega
    refine ⟨fun _ => ?_, fun hn => absurd (by rw [List.drop_of_length_le (by omega), List.drop_of_length_le (by omega)]) hn⟩
    rw [L_pleachref13_SameItems_0_eq, p_pleachref13_SameItems_0]
    simp [h.len, c]
  | succ k ih =>
    intro i hi
    have c : ((i : Int) < l.length) = True := eq_true (by omega)
    have e := h.get (k := .i64) (getD_at (l := l) (k := i) (by omega))
    have e' := h'.get (k := .i64) (getD_at (l := m) (k := i) (by omega))
    have w := w64 (i := (i : Int) + 1) (by omega) (by omega)
    have ih := ih (i + 1) (by omega)
    rw [drop_eq (by omega) (by omega), L_pleachref13_SameItems_0_eq, p_pleachref13_SameItems_0]
    generalize l.getD i default = x at *
    generalize m.getD i default = y at *
    obtain ⟨xs, xt⟩ := x
    obtain ⟨ys, yt⟩ := y
    by_cases c1 : xs = ys
    · by_cases c2 : xt = yt
      · subst c1; subst c2
        refine ⟨fun hh => ?_, fun hh => ?_⟩
        · have := ih.1 hh.2
          simp [h.len, c, e, e', w, L_pleachref13_SameItems_0_fold]
          simpa using this
        · have := ih.2 (fun h => hh ⟨rfl, h⟩)
          simp [h.len, c, e, e', w, L_pleachref13_SameItems_0_fold]
          simpa using this
      · refine ⟨fun hh => absurd (congrArg It.text hh.1) c2, fun hh => ?_⟩
        simp [h.len, c, e, e', c1, c2]
    · refine ⟨fun hh => absurd (congrArg It.seq hh.1) c1, fun hh => ?_⟩
      simp [h.len, c, e, e', c1]
theorem d_SameI {l m : List It} {v v' : AV} (h : Sl 2 (l.map It.v) v) (h' : Sl 2 (m.map It.v) v') (hl : l.length ≤ 900000) : callP (penv P1) 25 [v, v'] Q = some (.bool (decide (l = m)), Q) := by
  rw [f_pleachref13_SameItems rfl]
  by_cases hm : l.length = m.length
  · have lp := loop_dSameI (Q := Q) h h' hl hm l.length 0 (by omega)
    rw [show ((0 : Nat) : Int) = 0 from rfl, List.drop_zero, List.drop_zero] at lp
    have hm' : ((l.length : Int) = m.length) = True := eq_true (by omega)
    by_cases c : l = m
    · have lp := lp.1 c
      simp [h.len, h'.len, hm', L_pleachref13_SameItems_0_fold, lp, p_pleachref13_SameItems_1, c]
    · have lp := lp.2 c
      simp [h.len, h'.len, hm', L_pleachref13_SameItems_0_fold, lp, c]
  · have c : l ≠ m := fun e => hm (by rw [e])
    have hm' : ¬ (l.length : Int) = m.length := by omega
    simp [h.len, h'.len, hm', c]
end
end Go.Proofs.Ytcledejamnnbmaa.Ps
