/- What the functions of log come to. -/
import Derived.Test.YtccgolmdhikdoaaPmLog
set_option linter.unusedVariables false
set_option linter.unusedSimpArgs false
namespace Go.Proofs.Ytccgolmdhikdoaa.Pn
open Go.Ab Go.Feed Go.Logs
set_option maxRecDepth 100000
open Go.Span (add radd Gd may)
def kindV (e : Ev) : AV := if e.kind = 1 then .ifc 132 (.agg []) else if e.kind = 2 then .ifc 115 (.agg []) else .nilifc
theorem Ev_v (e : Ev) : Ev.v e = .agg [.int .i64 e.kind, .int .i64 e.lo, .int .i64 e.hi, .str e.text, .int .i64 e.why] := rfl
theorem evDrop {l : List Ev} {i : Nat} (hi : i < l.length) : l.drop i = l.getD i default :: l.drop (i + 1) := by
  rw [List.drop_eq_getElem_cons hi, List.getD_eq_getElem?_getD, List.getElem?_eq_getElem hi]; rfl
@[simp] theorem binA_eqS (a b : List UInt8) : binA .eql (.str a) (.str b) = some (.bool (decide (a = b))) := by
  show some (AV.bool (a == b)) = _
  congr 2
  by_cases h : a = b <;> simp [h]
@[simp] theorem eqn_ifc (t : Nat) (v : AV) : eqnQ false 1 (.ifc t v) = some (.bool false) := (Eq.refl _).trans (Eq.refl _)
@[simp] theorem eqn_nil : eqnQ false 1 .nilifc = some (.bool true) := (Eq.refl _).trans (Eq.refl _)
@[simp] theorem lk_gap : List.lookup 115 [(115, 122), (132, 123)] = some 122 := (Eq.refl _).trans (Eq.refl _)
@[simp] theorem lk_told : List.lookup 132 [(115, 122), (132, 123)] = some 123 := (Eq.refl _).trans (Eq.refl _)
@[simp] theorem low_gap : (122 < tkey) = True := eq_true (by decide)
@[simp] theorem low_told : (123 < tkey) = True := eq_true (by decide)
@[simp] theorem tas_gap (v : AV) : tasP 115 (.agg []) true (.ifc 115 v) = some (.tup [v, .bool true]) := (Eq.refl _).trans (Eq.refl _)
@[simp] theorem tas_told (v : AV) : tasP 115 (.agg []) true (.ifc 132 v) = some (.tup [.agg [], .bool false]) := (Eq.refl _).trans (Eq.refl _)
@[simp] theorem tas_nil : tasP 115 (.agg []) true .nilifc = some (.tup [.agg [], .bool false]) := (Eq.refl _).trans (Eq.refl _)
section
variable {Q : AHeap}
theorem c_kind (e : Ev) : callP (penv P1) 72 [.agg [.int .i64 e.kind, .int .i64 e.lo, .int .i64 e.hi, .str e.text, .int .i64 e.why]] Q = some (kindV e, Q) := by
  rw [f_log_kind rfl]
  unfold kindV
  by_cases h1 : e.kind = 1
  · simp [h1]
  · by_cases h2 : e.kind = 2 <;> simp [h1, h2]
theorem c_gap (e : Ev) : callP (penv P1) 122 [.agg [], .agg [.int .i64 e.kind, .int .i64 e.lo, .int .i64 e.hi, .str e.text, .int .i64 e.why]] Q = some (.bool (decide (e.lo ≤ e.hi ∧ e.text = [] ∧ (e.why = 1 ∨ e.why = 2))), Q) := by
  rw [f_log_gap_fits rfl]
  by_cases h1 : e.lo ≤ e.hi
  · by_cases h2 : e.text = []
    · by_cases h3 : e.why = 1
      · simp [h1, h2, h3]
      · by_cases h4 : e.why = 2 <;> simp [h1, h2, h3, h4]
    · simp [h1, h2]
  · simp [h1]
theorem c_told (e : Ev) : callP (penv P1) 123 [.agg [], .agg [.int .i64 e.kind, .int .i64 e.lo, .int .i64 e.hi, .str e.text, .int .i64 e.why]] Q = some (.bool (decide (e.hi = e.lo ∧ e.text.length ≤ 12 ∧ e.why = 0)), Q) := by
  rw [f_log_told_fits rfl]
  by_cases h1 : e.hi = e.lo
  · by_cases h2 : e.text.length ≤ 12
    · have h2' : (e.text.length : Int) ≤ 12 := by omega
      by_cases h3 : e.why = 0 <;> simp [h1, h2, h2', h3]
    · have h2' : ¬ (e.text.length : Int) ≤ 12 := by omega
      simp [h1, h2, h2']
  · simp [h1]
theorem loop_May {l : List Ev} {v : AV} (h : Sl 5 (l.map Ev.v) v) (hl : l.length ≤ 900000) : ∀ (k i : Nat) (n : Int), i + k = l.length → 1 ≤ n →
    L_log_May_0 P1 (.int .i64 n) v (.int .i64 l.length) (.int .i64 i) Q = if mayL n (l.drop i) = true then X_log_May_0_x0 Q else X_log_May_0_ret (.bool false) Q := by
  intro k
  induction k with
  | zero =>
    intro i n hi hn
    have c : ¬ ((i : Int) < l.length) := by omega
    rw [List.drop_of_length_le (by omega), L_log_May_0_eq, p_log_May_0]
    simp [c, mayL]
  | succ k ih =>
    intro i n hi hn
    have c : ((i : Int) < l.length) = True := eq_true (by omega)
    have e := h.get (k := .i64) (getD_at (l := l) (k := i) (by omega))
    have w := w64 (i := (i : Int) + 1) (by omega) (by omega)
    rw [evDrop (by omega), L_log_May_0_eq, p_log_May_0]
    generalize l.getD i default = x at *
    obtain ⟨kd, lo, hi', tx, wy⟩ := x
    rw [Ev_v] at e
    have ck := fun (Q : AHeap) => c_kind (Q := Q) ⟨kd, lo, hi', tx, wy⟩
    unfold mayL evOk
    unfold kindV at ck
    simp only at ck e
    by_cases h1 : kd = 1
    · subst h1
      have ct := fun (Q : AHeap) => c_told (Q := Q) ⟨1, lo, hi', tx, wy⟩
      rw [if_pos rfl] at ck
      by_cases h2 : lo = n
      · subst h2
        by_cases h3 : hi' = lo ∧ tx.length ≤ 12 ∧ wy = 0
        · obtain ⟨rfl, h3, rfl⟩ := h3
          by_cases h4 : hi' ≤ 1000000
          · have w2 := w64 (i := hi' + 1) (by omega) (by omega)
            have ih := ih (i + 1) (hi' + 1) (by omega) (by omega)
            have h4' : (1000000 < hi') = False := eq_false (by omega)
            simp [c, e, ck, ct, h3, h4, h4', w, w2]
            simpa [L_log_May_0_fold] using ih
          · have h4' : (1000000 < hi') = True := eq_true (by omega)
            simp [c, e, ck, ct, h3, h4, h4']
        · have h3' : decide (hi' = lo ∧ tx.length ≤ 12 ∧ wy = 0) = false := decide_eq_false h3
          simp only [h3'] at ct
          simp [c, e, ck, ct]
          intro a b d; exact absurd ⟨a, b, d⟩ h3
      · simp [c, e, ck, ct, h2]
    · rw [if_neg h1] at ck
      by_cases h6 : kd = 2
      · subst h6
        have cg := fun (Q : AHeap) => c_gap (Q := Q) ⟨2, lo, hi', tx, wy⟩
        rw [if_pos rfl] at ck
        by_cases h2 : lo = n
        · subst h2
          by_cases h3 : lo ≤ hi' ∧ tx = [] ∧ (wy = 1 ∨ wy = 2)
          · have h3' : decide (lo ≤ hi' ∧ tx = [] ∧ (wy = 1 ∨ wy = 2)) = true := decide_eq_true h3
            simp only [h3'] at cg
            obtain ⟨h3a, rfl, h3b⟩ := h3
            by_cases h4 : hi' ≤ 1000000
            · have w2 := w64 (i := hi' + 1) (by omega) (by omega)
              have ih := ih (i + 1) (hi' + 1) (by omega) (by omega)
              have h4' : (1000000 < hi') = False := eq_false (by omega)
              simp [c, e, ck, cg, h3a, h3b, h4, h4', w, w2]
              simpa [L_log_May_0_fold] using ih
            · have h4' : (1000000 < hi') = True := eq_true (by omega)
              simp [c, e, ck, cg, h3a, h3b, h4, h4']
          · have h3' : decide (lo ≤ hi' ∧ tx = [] ∧ (wy = 1 ∨ wy = 2)) = false := decide_eq_false h3
            simp only [h3'] at cg
            simp [c, e, ck, cg]
            intro a b d; exact absurd ⟨a, b, d⟩ h3
        · simp [c, e, ck, cg, h2]
      · rw [if_neg h6] at ck
        simp [c, e, ck, h1, h6]
theorem c_May {l : List Ev} {v : AV} (h : Sl 5 (l.map Ev.v) v) (hl : l.length ≤ 900000) (n : Int) : callP (penv P1) 38 [v, .int .i64 n] Q = some (.bool (mayLog l n), Q) := by
  rw [f_log_May rfl]
  unfold mayLog
  by_cases hn : 1 ≤ n
  · have hn' : (n < 1) = False := eq_false (by omega)
    have lp := loop_May (Q := Q) h hl l.length 0 n (by omega) hn
    rw [show ((0 : Nat) : Int) = 0 from rfl, List.drop_zero] at lp
    cases hm : mayL n l with
    | true => rw [hm] at lp; simp [h.len, hn', hn, lp, L_log_May_0_fold, p_log_May_1]
    | false => rw [hm] at lp; simp [h.len, hn', hn, lp, L_log_May_0_fold]
  · have hn' : n < 1 := by omega
    simp [hn', hn]
theorem c_Next {l : List Ev} {v : AV} (h : Sl 5 (l.map Ev.v) v) (hl : l.length ≤ 900000) (n : Int) (hb : ∀ e ∈ l, 0 ≤ e.hi ∧ e.hi ≤ 1000000) : callP (penv P1) 39 [v, .int .i64 n] Q = some (.int .i64 (nextL l n), Q) := by
  rw [f_log_Next rfl]
  unfold nextL
  cases hg : l.getLast? with
  | none => rw [List.getLast?_eq_none_iff] at hg; subst hg; simp [h.len]
  | some x =>
    have hx : l[l.length - 1]? = some x := by rw [← hg, List.getLast?_eq_getElem?]
    have hp : 0 < l.length := by
      rcases Nat.eq_zero_or_pos l.length with e | e
      · rw [List.length_eq_zero_iff] at e; subst e; simp at hg
      · exact e
    have e := h.get (k := .i64) hx
    have c : ((l.length : Int) = 0) = False := eq_false (by omega)
    have c' : ¬ l = [] := fun e => by subst e; simp at hp
    have w := w64 (i := (l.length : Int) - 1) (by omega) (by omega)
    have hb := hb x (List.mem_of_getElem? hx)
    have w2 := w64 (i := x.hi + 1) (by omega) (by omega)
    rw [show ((l.length - 1 : Nat) : Int) = (l.length : Int) - 1 by omega, Ev_v] at e
    simp [h.len, c, c', w, e, w2]
theorem ins_len : ∀ (l : List Sp) (s : Sp), (Go.Span.ins l s).length ≤ l.length + 1
  | [], s => by simp [Go.Span.ins]
  | x :: l, s => by
    unfold Go.Span.ins
    split
    · have := ins_len l s; simp; omega
    · split
      · simp
      · have := ins_len l (min s.1 x.1, max s.2 x.2); simp; omega
theorem add_len {l : List Sp} (h : Gd l) (s : Sp) : (add l s).length ≤ l.length + 1 := by
  rw [Go.Span.add_eq h]
  split
  · exact ins_len l s
  · omega
theorem loop_Gaps {l : List Ev} {v : AV} (h : Sl 5 (l.map Ev.v) v) (hl : l.length ≤ 90000) (hb : ∀ e ∈ l, 1 ≤ e.lo ∧ e.lo ≤ e.hi ∧ e.hi ≤ 1000000) : ∀ (k i : Nat) (o : List Sp), i + k = l.length → Gd o → o.length ≤ i →
    L_log_Gaps_1 P1 v (.int .i64 l.length) (.int .i64 i) (o.map Sp.v) Q = X_log_Gaps_1_x0 ((gapsL (l.drop i) o).map Sp.v) Q := by
  intro k
  induction k with
  | zero =>
    intro i o hi ho hoi
    have c : ¬ ((i : Int) < l.length) := by omega
    rw [List.drop_of_length_le (by omega), L_log_Gaps_1_eq, p_log_Gaps_1]
    simp [c, gapsL]
  | succ k ih =>
    intro i o hi ho hoi
    have c : ((i : Int) < l.length) = True := eq_true (by omega)
    have e := h.get (k := .i64) (getD_at (l := l) (k := i) (by omega))
    have w := w64 (i := (i : Int) + 1) (by omega) (by omega)
    rw [evDrop (by omega), L_log_Gaps_1_eq, p_log_Gaps_1]
    generalize l.getD i default = x at *
    obtain ⟨kd, lo, hi', tx, wy⟩ := x
    rw [Ev_v] at e
    have ck := fun (Q : AHeap) => c_kind (Q := Q) ⟨kd, lo, hi', tx, wy⟩
    unfold kindV at ck
    simp only at ck e
    unfold gapsL
    by_cases h1 : kd = 1
    · subst h1
      rw [if_pos rfl] at ck
      have ih := ih (i + 1) o (by omega) ho (by omega)
      simp [c, e, ck, w, p_log_Gaps_0]
      simpa [L_log_Gaps_1_fold] using ih
    · rw [if_neg h1] at ck
      by_cases h6 : kd = 2
      · subst h6
        rw [if_pos rfl] at ck
        have ca := fun (Q : AHeap) => c_Add (Q := Q) (Sl.fz 2 (o.map Sp.v)) (by omega) (Gd.ok ho) (lo, hi')
        have ih := ih (i + 1) (add o (lo, hi')) (by omega) (Go.Span.add_gd ho _) (by have := add_len ho (lo, hi'); omega)
        simp [c, e, ck, ca, w, p_log_Gaps_0]
        simpa [L_log_Gaps_1_fold] using ih
      · rw [if_neg h6] at ck
        have ih := ih (i + 1) o (by omega) ho (by omega)
        simp [c, e, ck, w, h6, p_log_Gaps_0]
        simpa [L_log_Gaps_1_fold] using ih
theorem c_Gaps {l : List Ev} {v : AV} (h : Sl 5 (l.map Ev.v) v) (hl : l.length ≤ 90000) (hb : ∀ e ∈ l, 1 ≤ e.lo ∧ e.lo ≤ e.hi ∧ e.hi ≤ 1000000) : callP (penv P1) 40 [v] Q = some (.ow 2 ((gapsL l []).map Sp.v), Q) := by
  rw [f_log_Gaps rfl]
  have lp := loop_Gaps (Q := Q) h hl hb l.length 0 [] (by omega) Go.Span.Gd.nil (by simp)
  rw [show ((0 : Nat) : Int) = 0 from rfl, List.drop_zero, List.map_nil] at lp
  simp [h.len, lp, L_log_Gaps_1_fold, p_log_Gaps_2]
end
end Go.Proofs.Ytccgolmdhikdoaa.Pn
