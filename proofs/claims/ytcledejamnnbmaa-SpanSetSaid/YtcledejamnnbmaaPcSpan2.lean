/- What the functions of span, and the document's, come to: what is there, and lacked. -/
import Derived.Test.YtcledejamnnbmaaPcSpan
set_option linter.unusedVariables false
set_option linter.unusedSimpArgs false
namespace Go.Proofs.Ytcledejamnnbmaa.Ps
open Go.Ab Go.Feed
set_option maxRecDepth 100000
open Go.Span (add addL radd radL insN insAt lk rlk may has Gd)
def maysL : Int → List Sp → Bool
  | _, [] => true
  | last, s :: l => may s && decide (last + 2 ≤ s.1) && maysL s.2 l
theorem gd_mays : ∀ {l : List Sp} {last : Int}, Gd l → (∀ y ∈ l, last + 1 < y.1) → maysL last l = true
  | [], _, _, _ => rfl
  | s :: l, last, h, hl => by
    have h1 := h.m s List.mem_cons_self
    have h2 := hl s List.mem_cons_self
    unfold maysL
    rw [(Go.Span.may_iff s).2 h1, decide_eq_true (show last + 2 ≤ s.1 by omega), gd_mays h.tail h.head]; rfl
theorem gd_may {l : List Sp} (h : Gd l) : maysL (-1) l = true := gd_mays h fun y hy => by have := h.m y hy; omega
section
variable {Q : AHeap}
theorem loop_SMay {l : List Sp} {v : AV} (h : Sl 2 (l.map Sp.v) v) (hl : l.length ≤ 900000) : ∀ (k i : Nat) (last : Int), i + k = l.length → -1 ≤ last → last ≤ 1000000 →
    L_span_May_0 P1 (.int .i64 last) v (.int .i64 l.length) (.int .i64 i) Q = if maysL last (l.drop i) = true then X_span_May_0_x0 Q else X_span_May_0_ret (.bool false) Q := by
  intro k
  induction k with
  | zero =>
    intro i last hi h1 h2
    have c : ¬ ((i : Int) < l.length) := by omega
    rw [List.drop_of_length_le (by omega), L_span_May_0_eq, p_span_May_0]
    simp [c, maysL]
  | succ k ih =>
    intro i last hi h1 h2
    have c : ((i : Int) < l.length) = True := eq_true (by omega)
    have e := h.get (k := .i64) (getD_at (l := l) (k := i) (by omega))
    have w := w64 (i := (i : Int) + 1) (by omega) (by omega)
    have w2 := w64 (i := last + 2) (by omega) (by omega)
    rw [drop_at (by omega), L_span_May_0_eq, p_span_May_0]
    generalize l.getD i default = s at *
    have o := fun (Q : AHeap) => c_one (Q := Q) s
    unfold maysL
    cases hm : may s with
    | false =>
      rw [hm] at o
      obtain ⟨a, b⟩ := s
      rw [Sp_v] at e
      simp [c, e, o]
    | true =>
      have hs := (Go.Span.may_iff s).1 hm
      have ih := ih (i + 1) s.2 (by omega) (by omega) (by omega)
      rw [hm] at o
      obtain ⟨a, b⟩ := s
      rw [Sp_v] at e
      by_cases c2 : last + 2 ≤ a
      · have c2' : (a < last + 2) = False := eq_false (by omega)
        simp [c, e, o, w2, c2, c2', w]
        simpa [L_span_May_0_fold] using ih
      · have c2' : (a < last + 2) = True := eq_true (by omega)
        simp [c, e, o, w2, c2, c2']
theorem c_SMay {l : List Sp} {v : AV} (h : Sl 2 (l.map Sp.v) v) (hl : l.length ≤ 900000) : callP (penv P1) 19 [v] Q = some (.bool (maysL (-1) l), Q) := by
  rw [f_span_May rfl]
  have lp := loop_SMay (Q := Q) h hl l.length 0 (-1) (by omega) (by omega) (by omega)
  rw [show ((0 : Nat) : Int) = 0 from rfl, List.drop_zero] at lp
  cases hm : maysL (-1) l with
  | true => rw [hm] at lp; simp [h.len, lp, L_span_May_0_fold, p_span_May_1]
  | false => rw [hm] at lp; simp [h.len, lp, L_span_May_0_fold]
theorem c_Has1 (s : Sp) (n : Int) : callP (penv P1) 30 [.agg [.int .i64 s.1, .int .i64 s.2], .cp [.int .i64 n] 0] Q = some (.bool (decide (s.1 ≤ n ∧ n ≤ s.2)), Q) := by
  rw [f_span_Has_1 rfl]
  by_cases h1 : s.1 ≤ n <;> by_cases h2 : n ≤ s.2 <;> simp [ldQ, h1, h2]
theorem loop_SIF {l : List Sp} {v : AV} (h : Sl 2 (l.map Sp.v) v) (hl : l.length ≤ 900000) (n : Int) : ∀ (k i : Nat), i + k = l.length →
    (has (l.drop i) n = true → ∃ j : Nat, L_slices_IndexFunc_api_Span_api_Span_0 P1 v (.fn 30 [] [.cp [.int .i64 n] 0]) (.int .i64 l.length) (.int .i64 i) Q = X_slices_IndexFunc_api_Span_api_Span_0_ret (.int .i64 j) Q) ∧
    (has (l.drop i) n = false → L_slices_IndexFunc_api_Span_api_Span_0 P1 v (.fn 30 [] [.cp [.int .i64 n] 0]) (.int .i64 l.length) (.int .i64 i) Q = X_slices_IndexFunc_api_Span_api_Span_0_x0 Q) := by
  intro k
  induction k with
  | zero =>
    intro i hi
    have c : ¬ ((i : Int) < l.length) := by omega
    rw [List.drop_of_length_le (by omega), L_slices_IndexFunc_api_Span_api_Span_0_eq, p_slices_IndexFunc_api_Span_api_Span_0]
    simp [c, has]
  | succ k ih =>
    intro i hi
    have c : ((i : Int) < l.length) = True := eq_true (by omega)
    have e := h.get (k := .i64) (getD_at (l := l) (k := i) (by omega))
    have w := w64 (i := (i : Int) + 1) (by omega) (by omega)
    have ih := ih (i + 1) (by omega)
    have low : (30 < tkey) = True := eq_true (by decide)
    rw [drop_at (by omega), L_slices_IndexFunc_api_Span_api_Span_0_eq, p_slices_IndexFunc_api_Span_api_Span_0]
    generalize l.getD i default = s at *
    have o := fun (Q : AHeap) => c_Has1 (Q := Q) s n
    rw [Go.Span.has_cons]
    obtain ⟨a, b⟩ := s
    rw [Sp_v] at e
    by_cases c1 : a ≤ n ∧ n ≤ b
    · rw [decide_eq_true c1] at o
      refine ⟨fun _ => ⟨i, ?_⟩, fun hf => by rw [decide_eq_true c1] at hf; cases hf⟩
      simp only at o
      simp [c, e, o, low]
    · rw [decide_eq_false c1] at o
      simp only at o
      rw [decide_eq_false c1, Bool.false_or]
      refine ⟨fun ht => ?_, fun hf => ?_⟩
      · obtain ⟨j, ih⟩ := ih.1 ht
        refine ⟨j, ?_⟩
        simp [c, e, o, low, w]
        simpa [L_slices_IndexFunc_api_Span_api_Span_0_fold] using ih
      · have ih := ih.2 hf
        simp [c, e, o, low, w]
        simpa [L_slices_IndexFunc_api_Span_api_Span_0_fold] using ih
theorem c_Has {l : List Sp} {v : AV} (h : Sl 2 (l.map Sp.v) v) (hl : l.length ≤ 900000) (n : Int) : callP (penv P1) 16 [v, .int .i64 n] Q = some (.bool (has l n), Q) := by
  have lp := loop_SIF (Q := Q) h hl n l.length 0 (by omega)
  rw [show ((0 : Nat) : Int) = 0 from rfl, List.drop_zero] at lp
  have ci : callP (penv P1) 29 [v, .fn 30 [] [.cp [.int .i64 n] 0]] Q = some (.bool (has l n), Q) := by
    rw [f_slices_ContainsFunc_api_Span_api_Span rfl]
    cases hh : has l n with
    | true =>
      obtain ⟨j, lp⟩ := lp.1 hh
      have cf : callP (penv P1) 38 [v, .fn 30 [] [.cp [.int .i64 n] 0]] Q = some (.int .i64 j, Q) := by
        rw [f_slices_IndexFunc_api_Span_api_Span rfl]; simp [h.len, lp, L_slices_IndexFunc_api_Span_api_Span_0_fold]
      have p : (0 ≤ (j : Int)) = True := eq_true (by omega)
      simp [cf, p]
    | false =>
      have lp := lp.2 hh
      have cf : callP (penv P1) 38 [v, .fn 30 [] [.cp [.int .i64 n] 0]] Q = some (.int .i64 (-1), Q) := by
        rw [f_slices_IndexFunc_api_Span_api_Span rfl]; simp [h.len, lp, L_slices_IndexFunc_api_Span_api_Span_0_fold, p_slices_IndexFunc_api_Span_api_Span_1]
      simp [cf]
  rw [f_span_Has rfl]
  simp [ci]
theorem loop_Count {l : List Sp} {v : AV} (h : Sl 2 (l.map Sp.v) v) (hl : l.length ≤ 1000) (hg : Gd l) : ∀ (k i : Nat) (n : Int), i + k = l.length → 0 ≤ n → n ≤ 1000000 * i →
    L_span_Count_0 P1 (.int .i64 n) v (.int .i64 l.length) (.int .i64 i) Q = X_span_Count_0_x0 (.int .i64 (n + Go.Span.cnt (l.drop i))) Q := by
  intro k
  induction k with
  | zero =>
    intro i n hi h1 h2
    have c : ¬ ((i : Int) < l.length) := by omega
    rw [List.drop_of_length_le (by omega), L_span_Count_0_eq, p_span_Count_0]
    simp [c, Go.Span.cnt]
  | succ k ih =>
    intro i n hi h1 h2
    have c : ((i : Int) < l.length) = True := eq_true (by omega)
    have e := h.get (k := .i64) (getD_at (l := l) (k := i) (by omega))
    have w := w64 (i := (i : Int) + 1) (by omega) (by omega)
    have hs : 1 ≤ (l.getD i default).1 ∧ (l.getD i default).1 ≤ (l.getD i default).2 ∧ (l.getD i default).2 ≤ 1000000 := by
      rw [List.getD_eq_getElem?_getD, List.getElem?_eq_getElem (by omega)]; exact hg.m _ (List.getElem_mem _)
    rw [drop_at (by omega), L_span_Count_0_eq, p_span_Count_0]
    generalize l.getD i default = s at *
    obtain ⟨a, b⟩ := s
    simp only at hs
    rw [Sp_v] at e
    have w1 := w64 (i := b - a) (by omega) (by omega)
    have w2 := w64 (i := b - a + 1) (by omega) (by omega)
    have w3 := w64 (i := n + (b - a + 1)) (by omega) (by omega)
    have ih := ih (i + 1) (n + (b - a + 1)) (by omega) (by omega) (by omega)
    simp [c, e, w, w1, w2, w3, Go.Span.cnt]
    rw [Int.add_assoc] at ih
    simpa [L_span_Count_0_fold, Int.add_assoc] using ih
theorem c_Count {l : List Sp} {v : AV} (h : Sl 2 (l.map Sp.v) v) (hl : l.length ≤ 1000) (hg : Gd l) : callP (penv P1) 18 [v] Q = some (.int .i64 (Go.Span.cnt l), Q) := by
  rw [f_span_Count rfl]
  have lp := loop_Count (Q := Q) h hl hg l.length 0 0 (by omega) (by omega) (by omega)
  rw [show ((0 : Nat) : Int) = 0 from rfl, List.drop_zero] at lp
  simp [h.len, lp, L_span_Count_0_fold, p_span_Count_1]
def tail1 (n h : Int) : List Sp := if n ≤ h then [(n, h)] else []
theorem loop_lk {l : List Sp} {v : AV} (h : Sl 2 (l.map Sp.v) v) (hl : l.length ≤ 1000) (hg : Gd l) {lo hi : Int} (hh : 1 ≤ hi ∧ hi ≤ 1000000) : ∀ (k i : Nat) (n : Int) (o : List Sp), i + k = l.length → 1 ≤ n → n ≤ 1000001 → o.length ≤ i →
    ∃ (n' : Int) (o' : List Sp), o'.length ≤ l.length ∧ o' ++ tail1 n' hi = o ++ lk (l.drop i) n hi ∧ L_span_Lacks_2 P1 (.int .i64 n) v (.int .i64 l.length) (.int .i64 i) (.int .i64 lo) (.int .i64 hi) (o.map Sp.v) Q = X_span_Lacks_2_x0 (.int .i64 n') (.int .i64 lo) (.int .i64 hi) (o'.map Sp.v) Q := by
  intro k
  induction k with
  | zero =>
    intro i n o hi' h1 h2 h3
    have c : ¬ ((i : Int) < l.length) := by omega
    refine ⟨n, o, by omega, by rw [List.drop_of_length_le (by omega)]; rfl, ?_⟩
    rw [L_span_Lacks_2_eq, p_span_Lacks_2]
    simp [c]
  | succ k ih =>
    intro i n o hi' h1 h2 h3
    have c : ((i : Int) < l.length) = True := eq_true (by omega)
    have e := h.get (k := .i64) (getD_at (l := l) (k := i) (by omega))
    have w := w64 (i := (i : Int) + 1) (by omega) (by omega)
    have hs : 1 ≤ (l.getD i default).1 ∧ (l.getD i default).1 ≤ (l.getD i default).2 ∧ (l.getD i default).2 ≤ 1000000 := by
      rw [List.getD_eq_getElem?_getD, List.getElem?_eq_getElem (by omega)]; exact hg.m _ (List.getElem_mem _)
    rw [drop_at (by omega)]
    generalize l.getD i default = s at *
    obtain ⟨a, b⟩ := s
    simp only at hs
    rw [Sp_v] at e
    have w1 := w64 (i := a - 1) (by omega) (by omega)
    have w2 := w64 (i := b + 1) (by omega) (by omega)
    have r : room 16 (o.length + 1) = true := room_le (by omega) (by omega)
    unfold lk
    by_cases c1 : n < a ∧ n ≤ hi
    · rw [if_pos c1]
      obtain ⟨n', o', q1, q2, q3⟩ := ih (i + 1) (max n (b + 1)) (o ++ [(n, min (a - 1) hi)]) (by omega) (by omega) (by omega) (by simp; omega)
      refine ⟨n', o', q1, by rw [q2]; simp, ?_⟩
      rw [← q3, L_span_Lacks_2_eq, p_span_Lacks_2]
      simp [c, e, w, w1, w2, c1.1, c1.2, r, p_span_Lacks_0, p_span_Lacks_1, L_span_Lacks_2_fold, Sp.v]
    · rw [if_neg c1]
      obtain ⟨n', o', q1, q2, q3⟩ := ih (i + 1) (max n (b + 1)) o (by omega) (by omega) (by omega) (by omega)
      refine ⟨n', o', q1, by rw [q2]; simp, ?_⟩
      rw [← q3, L_span_Lacks_2_eq, p_span_Lacks_2]
      by_cases c2 : n < a
      · have c3 : ¬ n ≤ hi := fun h => c1 ⟨c2, h⟩
        simp [c, e, w, w1, w2, c2, c3, p_span_Lacks_0, p_span_Lacks_1, L_span_Lacks_2_fold]
      · simp [c, e, w, w1, w2, c2, p_span_Lacks_0, p_span_Lacks_1, L_span_Lacks_2_fold]
theorem c_Lacks {l : List Sp} {v : AV} (h : Sl 2 (l.map Sp.v) v) (hl : l.length ≤ 1000) (hg : Gd l) {lo hi : Int} (hs : 1 ≤ lo ∧ lo ≤ hi ∧ hi ≤ 1000000) : callP (penv P1) 14 [v, .agg [.int .i64 lo, .int .i64 hi]] Q = some (.ow 2 ((lk l lo hi).map Sp.v), Q) := by
  rw [f_span_Lacks rfl]
  obtain ⟨n', o', q1, q2, q3⟩ := loop_lk (Q := Q) h hl hg (lo := lo) (hi := hi) (by omega) l.length 0 lo [] (by omega) (by omega) (by omega) (by simp)
  rw [List.drop_zero, List.nil_append] at q2
  have r : room 16 (o'.length + 1) = true := room_le (by omega) (by omega)
  simp only [show ((0 : Nat) : Int) = 0 from rfl, List.map_nil] at q3
  rw [← q2]
  unfold tail1
  by_cases c : n' ≤ hi
  · simp [h.len, q3, L_span_Lacks_2_fold, p_span_Lacks_4, p_span_Lacks_3, c, r, Sp.v]
  · simp [h.len, q3, L_span_Lacks_2_fold, p_span_Lacks_4, p_span_Lacks_3, c]
end
end Go.Proofs.Ytcledejamnnbmaa.Ps
