/- Logs: the document's contracts. -/
import Derived.Test.YtccgolmdhikdoaaPdLogCut
set_option linter.unusedVariables false
set_option linter.unusedSimpArgs false
namespace Go.Proofs.Ytccgolmdhikdoaa.Pn
open Go.Ab Go.Feed Go.Logs
set_option maxRecDepth 100000
open Go.Span (add radd Gd may)
@[simp] theorem binA_neS (a b : List UInt8) : binA .neq (.str a) (.str b) = some (.bool (!decide (a = b))) := by
  show some (AV.bool (!(a == b))) = _
  by_cases h : a = b <;> simp [h]
section
variable {Q : AHeap}
theorem loop_dMay {l : List Ev} {v : AV} (h : Sl 5 (l.map Ev.v) v) (hl : l.length ≤ 900000) : ∀ (k i : Nat) (n : Int), i + k = l.length → 1 ≤ n →
    L_pleachref13_MayLog_2 P1 v (.int .i64 n) (.int .i64 i) Q = if mayL n (l.drop i) = true then X_pleachref13_MayLog_2_x0 Q else X_pleachref13_MayLog_2_ret (.bool false) Q := by
  intro k
  have hn0 := h.len
  simp only [List.length_map] at hn0
  induction k with
  | zero =>
    intro i n hi hn
    have c : ¬ ((i : Int) < l.length) := by omega
    rw [List.drop_of_length_le (by omega), L_pleachref13_MayLog_2_eq, p_pleachref13_MayLog_2]
    simp [hn0, c, mayL]
  | succ k ih =>
    intro i n hi hn
    have c : ((i : Int) < l.length) = True := eq_true (by omega)
    have e := h.get (k := .i64) (getD_at (l := l) (k := i) (by omega))
    have w := w64 (i := (i : Int) + 1) (by omega) (by omega)
    rw [evDrop (by omega), L_pleachref13_MayLog_2_eq, p_pleachref13_MayLog_2]
    generalize l.getD i default = x at *
    obtain ⟨kd, lo, hi', tx, wy⟩ := x
    rw [Ev_v] at e
    unfold mayL evOk
    simp only at e
    by_cases h2 : lo = n
    · subst h2
      by_cases hlh : hi' < lo
      · have x1 : ¬ lo ≤ hi' := by omega
        have x2 : ¬ hi' = lo := by omega
        simp [hn0, c, e, cut, hlh, x1, x2]
      · by_cases h4 : 1000000 < hi'
        · have h4' : ¬ hi' ≤ 1000000 := by omega
          simp [hn0, c, e, cut, hlh, h4, h4']
        · have h4' : hi' ≤ 1000000 := by omega
          have x1 : lo ≤ hi' := by omega
          have w2 := w64 (i := hi' + 1) (by omega) (by omega)
          have ih := ih (i + 1) (hi' + 1) (by omega) (by omega)
          by_cases h1 : kd = 1
          · subst h1
            by_cases a1 : hi' = lo
            · subst a1
              by_cases a2 : tx.length ≤ 12
              · have a2' : ((12 : Int) < tx.length) = False := eq_false (by omega)
                by_cases a3 : wy = 0
                · simp [hn0, c, e, cut, hlh, h4, h4', a2, a2', a3, w, w2, p_pleachref13_MayLog_0, p_pleachref13_MayLog_1]
                  simpa [L_pleachref13_MayLog_2_fold] using ih
                · simp [hn0, c, e, cut, hlh, h4, h4', a2, a2', a3]
              · have a2' : ((12 : Int) < tx.length) = True := eq_true (by omega)
                simp [hn0, c, e, cut, hlh, h4, h4', a2, a2']
            · simp [hn0, c, e, cut, hlh, h4, h4', a1]
          · by_cases h6 : kd = 2
            · subst h6
              by_cases a1 : tx = []
              · by_cases a2 : wy = 1
                · simp [hn0, c, e, cut, hlh, h4, h4', x1, a1, a2, w, w2, p_pleachref13_MayLog_0, p_pleachref13_MayLog_1]
                  simpa [L_pleachref13_MayLog_2_fold] using ih
                · by_cases a3 : wy = 2
                  · simp [hn0, c, e, cut, hlh, h4, h4', x1, a1, a2, a3, w, w2, p_pleachref13_MayLog_0, p_pleachref13_MayLog_1]
                    simpa [L_pleachref13_MayLog_2_fold] using ih
                  · simp [hn0, c, e, cut, hlh, h4, h4', x1, a1, a2, a3]
              · simp [hn0, c, e, cut, hlh, h4, h4', x1, a1]
            · simp [hn0, c, e, cut, hlh, h4, h4', h1, h6]
    · simp [hn0, c, e, cut, h2]
theorem d_MayLog {l : List Ev} {v : AV} (h : Sl 5 (l.map Ev.v) v) (hl : l.length ≤ 900000) (n : Int) : callP (penv P1) 31 [v, .int .i64 n] Q = some (.bool (mayLog l n), Q) := by
  rw [f_pleachref13_MayLog rfl]
  unfold mayLog
  by_cases hn : 1 ≤ n
  · have hn' : (n < 1) = False := eq_false (by omega)
    have lp := loop_dMay (Q := Q) h hl l.length 0 n (by omega) hn
    rw [show ((0 : Nat) : Int) = 0 from rfl, List.drop_zero] at lp
    cases hm : mayL n l with
    | true => rw [hm] at lp; simp [hn', hn, lp, L_pleachref13_MayLog_2_fold, p_pleachref13_MayLog_3]
    | false => rw [hm] at lp; simp [hn', hn, lp, L_pleachref13_MayLog_2_fold]
  · have hn' : n < 1 := by omega
    simp [hn', hn]
theorem d_NextLog {l : List Ev} {v : AV} (h : Sl 5 (l.map Ev.v) v) (hl : l.length ≤ 900000) (n : Int) (hb : ∀ e ∈ l, 0 ≤ e.hi ∧ e.hi ≤ 1000000) : callP (penv P1) 32 [v, .int .i64 n] Q = some (.int .i64 (nextL l n), Q) := by
  rw [f_pleachref13_NextLog rfl]
  unfold nextL
  cases hg : l.getLast? with
  | none => rw [List.getLast?_eq_none_iff] at hg; subst hg; simp [h.len]
  | some x =>
    have hx : l[l.length - 1]? = some x := by rw [← hg, List.getLast?_eq_getElem?]
    have hp : 0 < l.length := by
      rcases Nat.eq_zero_or_pos l.length with e | e
      · rw [List.length_eq_zero_iff] at e; subst e; simp at hg
      · exact e
    have e := h.get (k := .i64) hx
    have c : ((l.length : Int) = 0) = False := eq_false (by omega)
    have c' : ¬ l = [] := fun e => by subst e; simp at hp
    have w := w64 (i := (l.length : Int) - 1) (by omega) (by omega)
    have hb := hb x (List.mem_of_getElem? hx)
    have w2 := w64 (i := x.hi + 1) (by omega) (by omega)
    rw [show ((l.length - 1 : Nat) : Int) = (l.length : Int) - 1 by omega, Ev_v] at e
    simp [h.len, c, c', w, e, w2]
theorem radd_add {l : List Sp} (h : Gd l) (s : Sp) : radd l s = add l s := by rw [Go.Span.radd_eq h, Go.Span.add_eq h]
theorem loop_dGaps {l : List Ev} {v : AV} (h : Sl 5 (l.map Ev.v) v) (hl : l.length ≤ 90000) : ∀ (k i : Nat) (o : List Sp), i + k = l.length → Gd o → o.length ≤ i →
    L_pleachref13_Gaps_1 P1 v (.int .i64 i) (o.map Sp.v) Q = X_pleachref13_Gaps_1_x0 ((gapsL (l.drop i) o).map Sp.v) Q := by
  intro k
  have hn0 := h.len
  simp only [List.length_map] at hn0
  induction k with
  | zero =>
    intro i o hi ho hoi
    have c : ¬ ((i : Int) < l.length) := by omega
    rw [List.drop_of_length_le (by omega), L_pleachref13_Gaps_1_eq, p_pleachref13_Gaps_1]
    simp [hn0, c, gapsL]
  | succ k ih =>
    intro i o hi ho hoi
    have c : ((i : Int) < l.length) = True := eq_true (by omega)
    have e := h.get (k := .i64) (getD_at (l := l) (k := i) (by omega))
    have w := w64 (i := (i : Int) + 1) (by omega) (by omega)
    rw [evDrop (by omega), L_pleachref13_Gaps_1_eq, p_pleachref13_Gaps_1]
    generalize l.getD i default = x at *
    obtain ⟨kd, lo, hi', tx, wy⟩ := x
    rw [Ev_v] at e
    simp only at e
    unfold gapsL
    by_cases h6 : kd = 2
    · subst h6
      have ca := fun (Q : AHeap) => d_Add (Q := Q) (Sl.fz 2 (o.map Sp.v)) (by omega) (Gd.ok ho) (lo, hi')
      have ih := ih (i + 1) (add o (lo, hi')) (by omega) (Go.Span.add_gd ho _) (by have := add_len ho (lo, hi'); omega)
      simp only [radd_add ho] at ca
      simp [hn0, c, e, ca, w, p_pleachref13_Gaps_0]
      simpa [L_pleachref13_Gaps_1_fold] using ih
    · have ih := ih (i + 1) o (by omega) ho (by omega)
      simp [hn0, c, e, w, h6, p_pleachref13_Gaps_0]
      simpa [L_pleachref13_Gaps_1_fold] using ih
theorem d_Gaps {l : List Ev} {v : AV} (h : Sl 5 (l.map Ev.v) v) (hl : l.length ≤ 90000) : callP (penv P1) 41 [v] Q = some (.ow 2 ((gapsL l []).map Sp.v), Q) := by
  rw [f_pleachref13_Gaps rfl]
  have lp := loop_dGaps (Q := Q) h hl l.length 0 [] (by omega) Go.Span.Gd.nil (by simp)
  rw [show ((0 : Nat) : Int) = 0 from rfl, List.drop_zero, List.map_nil] at lp
  simp [lp, L_pleachref13_Gaps_1_fold, p_pleachref13_Gaps_2]
theorem gaps_len : ∀ (l : List Ev) (o : List Sp), Gd o → (gapsL l o).length ≤ o.length + l.length
  | [], o, _ => by simp [gapsL]
  | e :: l, o, g => by
    unfold gapsL
    split
    · have := gaps_len l (add o (e.lo, e.hi)) (Go.Span.add_gd g _)
      have := add_len g (e.lo, e.hi)
      simp; omega
    · have := gaps_len l o g
      simp; omega
end
end Go.Proofs.Ytccgolmdhikdoaa.Pn
