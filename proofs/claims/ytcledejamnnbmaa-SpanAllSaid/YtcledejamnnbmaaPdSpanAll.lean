/- The law SpanAll: the walk. -/
import Derived.Test.YtcledejamnnbmaaPcSpan2
set_option linter.unusedVariables false
set_option linter.unusedSimpArgs false
namespace Go.Proofs.Ytcledejamnnbmaa.Ps
open Go.Ab Go.Feed
set_option maxRecDepth 100000
open Go.Span (add radd lk rlk may has Gd)
def pv (p : Int × Int) : AV := .agg [.int .u8 p.1, .int .u8 p.2]
theorem wrapu8 {i : Int} (h : 0 ≤ i) (h2 : i ≤ 255) : IntKind.u8.wrap i = i := by
  have : IntKind.u8.wrap i = i % 256 := rfl
  rw [this]; omega
theorem tmode {a b : Int} (h : 0 ≤ a) : a.tmod b = a % b := Int.tmod_eq_emod_of_nonneg h
def Prs (P : List (Int × Int)) : Prop := ∀ p ∈ P, (0 ≤ p.1 ∧ p.1 ≤ 255) ∧ (0 ≤ p.2 ∧ p.2 ≤ 255)
theorem Prs.get {P : List (Int × Int)} (h : Prs P) {i : Nat} (hi : i < P.length) : ∃ x y, P[i]? = some (x, y) ∧ (0 ≤ x ∧ x ≤ 255) ∧ (0 ≤ y ∧ y ≤ 255) ∧ P.drop i = (x, y) :: P.drop (i + 1) := by
  have := h _ (List.getElem_mem hi)
  exact ⟨P[i].1, P[i].2, by rw [List.getElem?_eq_getElem hi], this.1, this.2, List.drop_eq_getElem_cons hi⟩
theorem insLen : ∀ (l : List Sp) (s : Sp), (Go.Span.ins l s).length ≤ l.length + 1
  | [], s => by simp [Go.Span.ins]
  | x :: l, s => by
    unfold Go.Span.ins
    split
    · have := insLen l s; simp; omega
    · split
      · simp
      · have := insLen l (min s.1 x.1, max s.2 x.2); simp; omega
theorem raddOk {l : List Sp} (h : Gd l) (s : Sp) : Gd (radd l s) ∧ (radd l s).length ≤ l.length + 1 ∧ radd l s = add l s := by
  rw [Go.Span.radd_eq h, Go.Span.add_eq h]
  split
  · rename_i c; exact ⟨(Go.Span.ins_gd h ((Go.Span.may_iff s).1 c)).1, insLen l s, rfl⟩
  · exact ⟨h, by omega, rfl⟩
def spansR : List (Int × Int) → List Sp → List Sp
  | [], o => o
  | p :: l, o => spansR l (radd o (1 + p.1 % 40, 1 + p.1 % 40 + p.2 % 6))
theorem spansR_ok : ∀ (P : List (Int × Int)) {o : List Sp}, Gd o → Gd (spansR P o) ∧ (spansR P o).length ≤ o.length + P.length
  | [], o, h => ⟨h, by simp [spansR]⟩
  | p :: l, o, h => by
    have g := raddOk h (1 + p.1 % 40, 1 + p.1 % 40 + p.2 % 6)
    have := spansR_ok l g.1
    exact ⟨this.1, by have := this.2; simp only [spansR, List.length_cons]; omega⟩
section
variable {Q : AHeap}
theorem loop_Spans {P : List (Int × Int)} (hP : P.length ≤ 1000) (rP : Prs P) : ∀ (k i : Nat) (o : List Sp), i + k = P.length → Gd o → o.length ≤ i →
    L_pleachlaw3_Spans_0 P1 (.fz 2 (P.map pv)) (.int .i64 i) (o.map Sp.v) Q = X_pleachlaw3_Spans_0_x0 ((spansR (P.drop i) o).map Sp.v) Q := by
  intro k
  induction k with
  | zero =>
    intro i o hi ho hl
    obtain rfl : i = P.length := by omega
    rw [List.drop_length, L_pleachlaw3_Spans_0_eq, p_pleachlaw3_Spans_0]
    simp [spansR]
  | succ k ih =>
    intro i o hi ho hl
    have c : ((i : Int) < P.length) = True := eq_true (by omega)
    obtain ⟨x, y, e0, hx, hy, ed⟩ := rP.get (i := i) (by omega)
    have e := elQ_at (z := 2) (f := pv) (k := .i64) e0
    rw [pv] at e
    have w := w64 (i := (i : Int) + 1) (by omega) (by omega)
    have m1 := tmode (a := x) (b := 40) hx.1
    have m2 := tmode (a := y) (b := 6) hy.1
    have w1 := wrapu8 (i := x % 40) (by omega) (by omega)
    have w2 := wrapu8 (i := y % 6) (by omega) (by omega)
    have v1 := w64 (i := x % 40) (by omega) (by omega)
    have v2 := w64 (i := y % 6) (by omega) (by omega)
    have v3 := w64 (i := 1 + x % 40) (by omega) (by omega)
    have v4 := w64 (i := 1 + x % 40 + y % 6) (by omega) (by omega)
    have ad := fun (Q : AHeap) => d_Add (Q := Q) (Sl.fz 2 (o.map Sp.v)) (by omega) (Gd.ok ho) (1 + x % 40, 1 + x % 40 + y % 6)
    have g := raddOk ho (1 + x % 40, 1 + x % 40 + y % 6)
    have ih := ih (i + 1) _ (by omega) g.1 (by omega)
    rw [ed, spansR, ← ih, L_pleachlaw3_Spans_0_eq, p_pleachlaw3_Spans_0]
    simp only at ad
    simp [c, e, m1, m2, w1, w2, v1, v2, v3, v4, ad, w, L_pleachlaw3_Spans_0_fold]
theorem c_Spans {P : List (Int × Int)} (hP : P.length ≤ 1000) (rP : Prs P) : ∃ x, Gd x ∧ x.length ≤ P.length ∧ ∀ Q, callP (penv P1) 9 [.fz 2 (P.map pv)] Q = some (.ow 2 (x.map Sp.v), Q) := by
  refine ⟨spansR P [], (spansR_ok P Go.Span.Gd.nil).1, by simpa using (spansR_ok P Go.Span.Gd.nil).2, fun Q => ?_⟩
  have lp := loop_Spans (Q := Q) hP rP P.length 0 [] (by omega) Go.Span.Gd.nil (by simp)
  rw [f_pleachlaw3_Spans rfl]
  simp only [show ((0 : Nat) : Int) = 0 from rfl, List.map_nil, List.drop_zero] at lp
  simp [lp, L_pleachlaw3_Spans_0_fold, p_pleachlaw3_Spans_1]
theorem loop_SA0 {l : List Sp} (hg : Gd l) (hl : l.length ≤ 8) {lots : List Sp} (hL : lots.length = 3) {c1 c3 : AV} : ∀ (k i : Nat), i + k = 3 →
    L_pleachlaw3_SpanAll_0 P1 c1 c3 (sps l) (sps lots) (.int .i64 i) Q = X_pleachlaw3_SpanAll_0_x0 c1 c3 (sps l) Q := by
  intro k
  induction k with
  | zero =>
    intro i hi
    obtain rfl : i = 3 := by omega
    rw [L_pleachlaw3_SpanAll_0_eq, p_pleachlaw3_SpanAll_0]
    simp
  | succ k ih =>
    intro i hi
    have c : ((i : Int) < 3) = True := eq_true (by omega)
    have e := elQ_at (z := 2) (f := Sp.v) (k := .i64) (getD_at (l := lots) (k := i) (by omega))
    have w := w64 (i := (i : Int) + 1) (by omega) (by omega)
    have ih := ih (i + 1) (by omega)
    rw [L_pleachlaw3_SpanAll_0_eq, p_pleachlaw3_SpanAll_0]
    generalize lots.getD i default = s at *
    have a1 := fun (Q : AHeap) => c_Add (Q := Q) (Sl.fz 2 (l.map Sp.v)) (by omega) (Gd.ok hg) s
    have a2 := fun (Q : AHeap) => d_Add (Q := Q) (Sl.fz 2 (l.map Sp.v)) (by omega) (Gd.ok hg) s
    have g := raddOk hg s
    rw [← g.2.2] at a1
    have a3 := fun (Q : AHeap) => d_SameS (Q := Q) (Sl.fz 2 ((radd l s).map Sp.v)) (Sl.fz 2 ((radd l s).map Sp.v)) (by omega)
    generalize radd l s = r at *
    have o := fun (Q : AHeap) => d_MaySp (Q := Q) s
    cases hm : may s with
    | false =>
      rw [hm] at o
      obtain ⟨a, b⟩ := s
      rw [Sp_v] at e
      simp only at a1 a2 o
      simp [c, e, a1, a2, a3, o, w]
      simpa [L_pleachlaw3_SpanAll_0_fold] using ih
    | true =>
      rw [hm] at o
      have hs := (Go.Span.may_iff s).1 hm
      have b1 := fun (Q : AHeap) => c_Lacks (Q := Q) (Sl.fz 2 (l.map Sp.v)) (by omega) hg hs
      have b2 := fun (Q : AHeap) => d_Lacks (Q := Q) (Sl.fz 2 (l.map Sp.v)) (by omega) hg hs
      have lb : ∀ (l : List Sp) (n h : Int), (lk l n h).length ≤ l.length + 1 := by
        intro l
        induction l with
        | nil => intro n h; unfold lk; split <;> simp
        | cons x l ih => intro n h; unfold lk; have := ih (max n (x.2 + 1)) h; split <;> simp <;> omega
      have lb := lb l s.1 s.2
      have b3 := fun (Q : AHeap) => d_SameS (Q := Q) (Sl.fz 2 ((lk l s.1 s.2).map Sp.v)) (Sl.fz 2 ((lk l s.1 s.2).map Sp.v)) (by omega)
      obtain ⟨a, b⟩ := s
      rw [Sp_v] at e
      simp only at a1 a2 o b1 b2 b3
      generalize lk l a b = d at *
      simp [c, e, a1, a2, a3, o, w, b1, b2, b3]
      simpa [L_pleachlaw3_SpanAll_0_fold] using ih
theorem loop_SA1 {l : List Sp} (hg : Gd l) (hl : l.length ≤ 8) {c1 c3 : AV} : ∀ (k i : Nat) (n : Int), i + k = l.length → 0 ≤ n → n ≤ 1000000 * i →
    L_pleachlaw3_SpanAll_1 P1 c1 c3 (sps l) (.int .i64 n) (.int .i64 i) Q = X_pleachlaw3_SpanAll_1_x2 c1 c3 (sps l) (.int .i64 (n + Go.Span.cnt (l.drop i))) Q := by
  intro k
  induction k with
  | zero =>
    intro i n hi h1 h2
    obtain rfl : i = l.length := by omega
    rw [List.drop_length, L_pleachlaw3_SpanAll_1_eq, p_pleachlaw3_SpanAll_1]
    simp [Go.Span.cnt]
  | succ k ih =>
    intro i n hi h1 h2
    have c : ((i : Int) < l.length) = True := eq_true (by omega)
    have e := elQ_at (z := 2) (f := Sp.v) (k := .i64) (getD_at (l := l) (k := i) (by omega))
    have w := w64 (i := (i : Int) + 1) (by omega) (by omega)
    have hs : 1 ≤ (l.getD i default).1 ∧ (l.getD i default).1 ≤ (l.getD i default).2 ∧ (l.getD i default).2 ≤ 1000000 := by
      rw [List.getD_eq_getElem?_getD, List.getElem?_eq_getElem (by omega)]; exact hg.m _ (List.getElem_mem _)
    rw [drop_at (by omega), L_pleachlaw3_SpanAll_1_eq, p_pleachlaw3_SpanAll_1]
    generalize l.getD i default = s at *
    obtain ⟨a, b⟩ := s
    simp only at hs
    rw [Sp_v] at e
    have w1 := w64 (i := n + b) (by omega) (by omega)
    have w2 := w64 (i := n + b - a) (by omega) (by omega)
    have w3 := w64 (i := n + b - a + 1) (by omega) (by omega)
    have ih := ih (i + 1) (n + b - a + 1) (by omega) (by omega) (by omega)
    have ec : n + Go.Span.cnt ((a, b) :: l.drop (i + 1)) = n + b - a + 1 + Go.Span.cnt (l.drop (i + 1)) := by
      show n + ((b - a + 1) + Go.Span.cnt (l.drop (i + 1))) = _; omega
    rw [ec]
    generalize Go.Span.cnt (l.drop (i + 1)) = N at *
    simp [c, e, w, w1, w2, w3]
    simpa [L_pleachlaw3_SpanAll_1_fold] using ih
theorem sall_true {P : List (Int × Int)} (rP : Prs P) (W : List Sp) (s : Sp) (n : Int) : callP (penv P1) 3 [.fz 2 (P.map pv), sps W, .agg [.int .i64 s.1, .int .i64 s.2], .int .i64 n] Q = some (.bool true, Q) := by
  rw [f_pleachlaw3_SpanAll rfl]
  have hb0 : ∀ Q, callP (penv P1) 8 [] Q = some (.bool true, Q) := fun Q => (callP_spec (E := penv P1) (f := 8) (g := gYes) rfl [] Q).trans (by simp [gYes])
  by_cases hA : 8 < P.length
  · have hA' : (8 : Int) < P.length := by omega
    simp [hb0, hA']
  have hA' : ¬ (8 : Int) < P.length := by omega
  by_cases hB : 8 < W.length
  · have hB' : (8 : Int) < W.length := by omega
    simp [hb0, hA', hB']
  have hB' : ¬ (8 : Int) < W.length := by omega
  obtain ⟨x, hx, hl, cs⟩ := c_Spans (P := P) (by omega) rP
  have lp := fun (Q : AHeap) => loop_SA0 (Q := Q) hx (by omega) (lots := [s, (3, 30), (20, 20)]) rfl (c1 := sps W) (c3 := .int .i64 n) 3 0 rfl
  have lq := fun (Q : AHeap) => loop_SA1 (Q := Q) hx (by omega) (c1 := sps W) (c3 := .int .i64 n) x.length 0 0 (by omega) (by omega) (by omega)
  rw [List.drop_zero] at lq
  have k1 := fun (Q : AHeap) => c_Has (Q := Q) (Sl.fz 2 (x.map Sp.v)) (by omega) n
  have k2 := fun (Q : AHeap) => d_Has (Q := Q) (Sl.fz 2 (x.map Sp.v)) (by omega) n
  have k3 := fun (Q : AHeap) => c_Count (Q := Q) (Sl.fz 2 (x.map Sp.v)) (by omega) hx
  have k4 := fun (Q : AHeap) => c_SMay (Q := Q) (Sl.fz 2 (x.map Sp.v)) (by omega)
  rw [gd_may hx] at k4
  have k5 := fun (Q : AHeap) => c_SMay (Q := Q) (Sl.fz 2 (W.map Sp.v)) (by omega)
  have k6 := fun (Q : AHeap) => d_SMay (Q := Q) (Sl.fz 2 (W.map Sp.v)) (by omega)
  generalize has x n = B1 at *
  generalize maysL (-1) W = B2 at *
  generalize Go.Span.cnt x = N at *
  obtain ⟨a, b⟩ := s
  simp only [show ((0 : Nat) : Int) = 0 from rfl, sps, List.map_cons, List.map_nil, Sp_v, Int.zero_add] at lp lq
  simp [hb0, hA', hB', cs, lp, lq, L_pleachlaw3_SpanAll_0_fold, L_pleachlaw3_SpanAll_1_fold, p_pleachlaw3_SpanAll_3, p_pleachlaw3_SpanAll_2, k1, k2, k3, k4, k5, k6]
end
end Go.Proofs.Ytcledejamnnbmaa.Ps
