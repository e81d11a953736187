/- What the functions of span, and the document's, come to. -/
import Derived.Test.YtccgolmdhikdoaaPcFeed2
import Derived.Test.YtccgolmdhikdoaaPmSpan
set_option linter.unusedVariables false
set_option linter.unusedSimpArgs false
namespace Go.Proofs.Ytccgolmdhikdoaa.Pn
open Go.Ab Go.Feed
set_option maxRecDepth 100000
open Go.Span (add addL radd radL insN insAt lk rlk may has cnt Gd)
theorem Sp_v (a b : Int) : Sp.v (a, b) = .agg [.int .i64 a, .int .i64 b] := rfl
def Ok (s : Sp) : Prop := 0 ≤ s.1 ∧ s.1 ≤ 2000000 ∧ 0 ≤ s.2 ∧ s.2 ≤ 2000000
theorem Gd.ok {l : List Sp} (h : Gd l) : ∀ s ∈ l, Ok s := fun s hs => by have := h.m s hs; unfold Ok; omega
theorem drop_at {l : List Sp} {i : Nat} (hi : i < l.length) : l.drop i = l.getD i default :: l.drop (i + 1) := by
  rw [List.drop_eq_getElem_cons hi, List.getD_eq_getElem?_getD, List.getElem?_eq_getElem hi]; rfl
@[simp] theorem gdN_tt (o : Option Nat) : gdN (.bool true) true o = o := by simp [gdN]
@[simp] theorem gdN_ft (o : Option Nat) : gdN (.bool false) true o = some 0 := by simp [gdN]
section
variable {Q : AHeap}
theorem d_MaySp (s : Sp) : callP (penv P1) 70 [.agg [.int .i64 s.1, .int .i64 s.2]] Q = some (.bool (may s), Q) := by
  rw [f_pleachref1_MaySpan rfl]
  unfold may
  by_cases h1 : 1 ≤ s.1 <;> by_cases h2 : s.1 ≤ s.2 <;> by_cases h3 : s.2 ≤ 1000000 <;> simp [h1, h2, h3]
end
end Go.Proofs.Ytccgolmdhikdoaa.Pn
/- What the functions of span, and the document's, come to: what is there, and lacked. -/
set_option linter.unusedVariables false
set_option linter.unusedSimpArgs false
namespace Go.Proofs.Ytccgolmdhikdoaa.Pn
open Go.Ab Go.Feed
set_option maxRecDepth 100000
open Go.Span (add addL radd radL insN insAt lk rlk may has Gd)
def maysL : Int → List Sp → Bool
  | _, [] => true
  | last, s :: l => may s && decide (last + 2 ≤ s.1) && maysL s.2 l
theorem gd_mays : ∀ {l : List Sp} {last : Int}, Gd l → (∀ y ∈ l, last + 1 < y.1) → maysL last l = true
  | [], _, _, _ => rfl
  | s :: l, last, h, hl => by
    have h1 := h.m s List.mem_cons_self
    have h2 := hl s List.mem_cons_self
    unfold maysL
    rw [(Go.Span.may_iff s).2 h1, decide_eq_true (show last + 2 ≤ s.1 by omega), gd_mays h.tail h.head]; rfl
theorem gd_may {l : List Sp} (h : Gd l) : maysL (-1) l = true := gd_mays h fun y hy => by have := h.m y hy; omega
section
variable {Q : AHeap}
theorem loop_dMay {l : List Sp} {v : AV} (h : Sl 2 (l.map Sp.v) v) (hl : l.length ≤ 900000) : ∀ (k i : Nat) (last : Int), i + k = l.length → ((i = 0 ∧ last = -1) ∨ ∃ j x, i = j + 1 ∧ l[j]? = some x ∧ x.2 = last ∧ may x = true) →
    L_pleachref1_MaySpans_0 P1 v (.int .i64 i) Q = if maysL last (l.drop i) = true then X_pleachref1_MaySpans_0_x0 Q else X_pleachref1_MaySpans_0_ret (.bool false) Q := by
  intro k
  induction k with
  | zero =>
    intro i last hi hx
    have c : ¬ ((i : Int) < l.length) := by omega
    rw [List.drop_of_length_le (by omega), L_pleachref1_MaySpans_0_eq, p_pleachref1_MaySpans_0]
    simp [h.len, c, maysL]
  | succ k ih =>
    intro i last hi hx
    have c : ((i : Int) < l.length) = True := eq_true (by omega)
    have e0 := getD_at (l := l) (k := i) (by omega)
    have e := h.get (k := .i64) e0
    have w := w64 (i := (i : Int) + 1) (by omega) (by omega)
    rw [drop_at (by omega), L_pleachref1_MaySpans_0_eq, p_pleachref1_MaySpans_0]
    generalize l.getD i default = s at *
    have o := fun (Q : AHeap) => d_MaySp (Q := Q) s
    unfold maysL
    cases hm : may s with
    | false =>
      rw [hm] at o
      obtain ⟨a, b⟩ := s
      rw [Sp_v] at e
      simp [h.len, c, e, o]
    | true =>
      have hs := (Go.Span.may_iff s).1 hm
      have ih := ih (i + 1) s.2 (by omega) (Or.inr ⟨i, s, rfl, e0, rfl, hm⟩)
      rw [hm] at o
      rcases hx with ⟨rfl, rfl⟩ | ⟨j, x, rfl, hx, rfl, hmx⟩
      · obtain ⟨a, b⟩ := s
        rw [Sp_v] at e
        have c2 : (-1 + 2 ≤ a) = True := eq_true (by omega)
        have c0 : (0 < l.length) = True := eq_true (by omega)
        have w0 := w64 (i := 1) (by omega) (by omega)
        simp only [show ((0 : Nat) : Int) = 0 from rfl] at e
        simp [h.len, c0, e, o, w0]
        simpa [L_pleachref1_MaySpans_0_fold, c2, hs] using ih
      · have hxs := (Go.Span.may_iff x).1 hmx
        have ex := h.get (k := .i64) hx
        have w1 := w64 (i := ((j + 1 : Nat) : Int) - 1) (by omega) (by omega)
        rw [show ((j + 1 : Nat) : Int) - 1 = (j : Int) by omega] at w1
        have w2 := w64 (i := x.2 + 1) (by omega) (by omega)
        have p0 : ((0 : Int) < (j : Int) + 1) = True := eq_true (by omega)
        obtain ⟨a, b⟩ := s
        obtain ⟨xa, xb⟩ := x
        rw [Sp_v] at e ex
        simp only [Int.natCast_add, Int.natCast_one] at e w c ih
        by_cases c2 : xb + 2 ≤ a
        · have c2' : (a ≤ xb + 1) = False := eq_false (by omega)
          simp [h.len, c, e, ex, o, w, w1, w2, p0, c2, c2', Int.add_sub_cancel]
          simpa [L_pleachref1_MaySpans_0_fold] using ih
        · have c2' : (a ≤ xb + 1) = True := eq_true (by omega)
          simp [h.len, c, e, ex, o, w, w1, w2, p0, c2, c2', Int.add_sub_cancel]
theorem d_SMay {l : List Sp} {v : AV} (h : Sl 2 (l.map Sp.v) v) (hl : l.length ≤ 900000) : callP (penv P1) 33 [v] Q = some (.bool (maysL (-1) l), Q) := by
  rw [f_pleachref1_MaySpans rfl]
  have lp := loop_dMay (Q := Q) h hl l.length 0 (-1) (by omega) (Or.inl ⟨rfl, rfl⟩)
  rw [show ((0 : Nat) : Int) = 0 from rfl, List.drop_zero] at lp
  cases hm : maysL (-1) l with
  | true => rw [hm] at lp; simp [lp, L_pleachref1_MaySpans_0_fold, p_pleachref1_MaySpans_1]
  | false => rw [hm] at lp; simp [lp, L_pleachref1_MaySpans_0_fold]
theorem loop_dHas {l : List Sp} {v : AV} (h : Sl 2 (l.map Sp.v) v) (hl : l.length ≤ 900000) (n : Int) : ∀ (k i : Nat), i + k = l.length →
    L_pleachref1_HasSpan_0 P1 v (.int .i64 n) (.int .i64 i) Q = if has (l.drop i) n = true then X_pleachref1_HasSpan_0_ret (.bool true) Q else X_pleachref1_HasSpan_0_x0 Q := by
  intro k
  induction k with
  | zero =>
    intro i hi
    have c : ¬ ((i : Int) < l.length) := by omega
    rw [List.drop_of_length_le (by omega), L_pleachref1_HasSpan_0_eq, p_pleachref1_HasSpan_0]
    simp [h.len, c, has]
  | succ k ih =>
    intro i hi
    have c : ((i : Int) < l.length) = True := eq_true (by omega)
    have e := h.get (k := .i64) (getD_at (l := l) (k := i) (by omega))
    have w := w64 (i := (i : Int) + 1) (by omega) (by omega)
    have ih := ih (i + 1) (by omega)
    rw [drop_at (by omega), L_pleachref1_HasSpan_0_eq, p_pleachref1_HasSpan_0]
    generalize l.getD i default = s at *
    rw [Go.Span.has_cons]
    obtain ⟨a, b⟩ := s
    rw [Sp_v] at e
    by_cases c1 : a ≤ n
    · by_cases c2 : n ≤ b
      · simp [h.len, c, e, c1, c2]
      · simp [h.len, c, e, c1, c2, w]
        simpa [L_pleachref1_HasSpan_0_fold] using ih
    · simp [h.len, c, e, c1, w]
      simpa [L_pleachref1_HasSpan_0_fold] using ih
theorem d_Has {l : List Sp} {v : AV} (h : Sl 2 (l.map Sp.v) v) (hl : l.length ≤ 900000) (n : Int) : callP (penv P1) 30 [v, .int .i64 n] Q = some (.bool (has l n), Q) := by
  rw [f_pleachref1_HasSpan rfl]
  have lp := loop_dHas (Q := Q) h hl n l.length 0 (by omega)
  rw [show ((0 : Nat) : Int) = 0 from rfl, List.drop_zero] at lp
  cases hm : has l n with
  | true => rw [hm] at lp; simp [lp, L_pleachref1_HasSpan_0_fold]
  | false => rw [hm] at lp; simp [lp, L_pleachref1_HasSpan_0_fold, p_pleachref1_HasSpan_1]
end
end Go.Proofs.Ytccgolmdhikdoaa.Pn
