/- The law LogWhole: the walk. -/
import Derived.Test.YtccgolmdhikdoaaPcSpan2
import Derived.Test.YtccgolmdhikdoaaPcMap
set_option linter.unusedVariables false
set_option linter.unusedSimpArgs false
namespace Go.Proofs.Ytccgolmdhikdoaa.Pn
open Go.Ab Go.Feed Go.Logs
set_option maxRecDepth 100000
open Go.Span (add radd Gd may has)
structure Wh (f : Int) (i : Nat) (x : List Ev) (n : Int) (T : List (Int × Unit)) : Prop where
  may : mayL f x = true
  nx : nextL x f = n
  len : x.length = i
  le : n ≤ f + 4 * i
  tl : ∀ k, f ≤ k → k < n → (gapHas x k = true ↔ isin T k = false)
  old : ∀ k, isin T k = true → k < n
theorem gapHas_app (x y : List Ev) (k : Int) : gapHas (x ++ y) k = (gapHas x k || gapHas y k) := by simp [gapHas]
theorem gap_lt {f : Int} {x : List Ev} (h : mayL f x = true) {k : Int} (hg : gapHas x k = true) : f ≤ k ∧ k < nextL x f := by
  simp only [gapHas, List.any_eq_true, decide_eq_true_eq] at hg
  obtain ⟨e, he, h1, h2, h3⟩ := hg
  have := (mayL_ge h).2 e he
  omega
theorem Wh.tell {f : Int} (hf : 1 ≤ f) {i : Nat} {x : List Ev} {n : Int} {T : List (Int × Unit)} (h : Wh f i x n T) (hi : n + 4 ≤ 1000000) : Wh f (i + 1) (x ++ [told ⟨n, [116]⟩]) (n + 1) (mput T n ()) := by
  have ge := (mayL_ge h.may).1
  have hn := h.nx
  refine ⟨?_, ?_, by simp [h.len], by have := h.le; push_cast; omega, fun k h1 h2 => ?_, fun k hk => ?_⟩
  · rw [mayL_append, h.may, h.nx]; simp [mayL, evOk, told]; exact decide_eq_true (show n ≤ 1000000 by omega)
  · rw [nextL_append]; rfl
  · rw [gapHas_app, isin_put]
    have e : gapHas [told ⟨n, [116]⟩] k = false := by simp [gapHas, told]
    rw [e, Bool.or_false]
    by_cases hk : k = n
    · subst hk
      have : gapHas x k = false := by
        cases hg : gapHas x k with
        | false => rfl
        | true => have := (gap_lt h.may hg).2; omega
      simp [this]
    · have := h.tl k h1 (by omega)
      simp only [hk, decide_false, Bool.false_or]; exact this
  · rw [isin_put] at hk
    simp only [Bool.or_eq_true, decide_eq_true_eq] at hk
    rcases hk with rfl | hk
    · omega
    · have := h.old k hk; omega
theorem Wh.skip {f : Int} (hf : 1 ≤ f) {i : Nat} {x : List Ev} {n : Int} {T : List (Int × Unit)} (h : Wh f i x n T) (hi : n + 4 ≤ 1000000) {d : Int} (hd : 0 ≤ d ∧ d < 4) : Wh f (i + 1) (x ++ [gapE n (n + d) 2]) (n + d + 1) T := by
  have ge := (mayL_ge h.may).1
  have hn := h.nx
  refine ⟨?_, ?_, by simp [h.len], by have := h.le; push_cast; omega, fun k h1 h2 => ?_, fun k hk => ?_⟩
  · rw [mayL_append, h.may, h.nx]; simp [mayL, evOk, gapE]; exact ⟨by omega, decide_eq_true (show n + d ≤ 1000000 by omega)⟩
  · rw [nextL_append]; rfl
  · rw [gapHas_app]
    have e : gapHas [gapE n (n + d) 2] k = decide (n ≤ k ∧ k ≤ n + d) := by simp [gapHas, gapE]
    rw [e]
    by_cases hk : k < n
    · have := h.tl k h1 hk
      have c : decide (n ≤ k ∧ k ≤ n + d) = false := decide_eq_false (by omega)
      rw [c, Bool.or_false]; exact this
    · have c : decide (n ≤ k ∧ k ≤ n + d) = true := decide_eq_true (by omega)
      rw [c, Bool.or_true]
      cases ht : isin T k with
      | false => simp
      | true => have := h.old k ht; omega
  · have := h.old k hk; omega
theorem Wh.mayLog {f : Int} (hf : 1 ≤ f) {i : Nat} {x : List Ev} {n : Int} {T : List (Int × Unit)} (h : Wh f i x n T) : mayLog x f = true := by simp [Logs.mayLog, hf, h.may]
section
theorem loop_Whole {P : List (Int × Int)} (hP : P.length ≤ 15) (rP : Prs P) {c0 : AV} {f : Int} (hf : 1 ≤ f ∧ f ≤ 10) {r : Nat} : ∀ (k i : Nat) (x : List Ev) (v : AV) (n : Int) (T : List (Int × Unit)) (Q : AHeap), i + k = P.length → Wh f i x n T → Sl 5 (x.map Ev.v) v → Q.get r = some (setI T) →
    ∃ x' v' n' T' Q', L_pleachlaw16_LogWhole_2 P1 (.fz 2 (P.map pv)) c0 (.int .i64 f) v (.int .i64 n) (.mp r) (.int .i64 i) Q = X_pleachlaw16_LogWhole_2_x0 c0 (.int .i64 f) v' (.int .i64 n') (.mp r) Q' ∧ Wh f P.length x' n' T' ∧ Sl 5 (x'.map Ev.v) v' ∧ Q'.get r = some (setI T') := by
  intro k
  induction k with
  | zero =>
    intro i x v n T Q hi hw hv hQ
    obtain rfl : i = P.length := by omega
    refine ⟨x, v, n, T, Q, ?_, hw, hv, hQ⟩
    rw [L_pleachlaw16_LogWhole_2_eq, p_pleachlaw16_LogWhole_2]
    simp
  | succ k ih =>
    intro i x v n T Q hi hw hv hQ
    have c : ((i : Int) < P.length) = True := eq_true (by omega)
    obtain ⟨a, b, e0, ha, hb, ed⟩ := rP.get (i := i) (by omega)
    have e := elQ_at (z := 2) (f := pv) (k := .i64) e0
    rw [pv] at e
    have w := w64 (i := (i : Int) + 1) (by omega) (by omega)
    have ge := (mayL_ge hw.may).1
    rw [hw.nx] at ge
    have hle := hw.le
    have m1 := tmod_e (a := a) (b := 3) ha.1
    have m3 := tmod_e (a := b) (b := 4) hb.1
    have w1 := wrap_u8 (i := a % 3) (by omega) (by omega)
    have w4 := wrap_u8 (i := b % 4) (by omega) (by omega)
    have v1 := w64 (i := b % 4) (by omega) (by omega)
    have v3 := w64 (i := n + 1) (by omega) (by omega)
    have v4 := w64 (i := n + b % 4) (by omega) (by omega)
    have v6 := w64 (i := n + b % 4 + 1) (by omega) (by omega)
    have xl : x.length ≤ 15 := by rw [hw.len]; omega
    rw [L_pleachlaw16_LogWhole_2_eq, p_pleachlaw16_LogWhole_2]
    by_cases c1 : 0 < a % 3
    · have hw' := hw.tell hf.1 (by omega)
      have tl := fun (Q : AHeap) => c_Tell (Q := Q) hv (by omega) ⟨n, [116]⟩
      have up := setI_up hQ n
      have hQ' : (Q.put r (some (setI (mput T n ())))).get r = some (setI (mput T n ())) := get_putS _ _ _
      have hm := hw'.mayLog hf.1
      have hx := hw'.nx
      have gb : ∀ e ∈ x ++ [told ⟨n, [116]⟩], 0 ≤ e.hi ∧ e.hi ≤ 1000000 := fun e he => by have := (mayL_ge hw'.may).2 e he; omega
      have hxl : (x ++ [told ⟨n, [116]⟩]).length ≤ 16 := by simp; omega
      have ih := ih (i + 1) _ (.fz 5 ((x ++ [told ⟨n, [116]⟩]).map Ev.v)) _ _ _ (by omega) hw' (Sl.fz _ _) hQ'
      generalize x ++ [told ⟨n, [116]⟩] = y at *
      generalize Q.put r (some (setI (mput T n ()))) = Q1 at *
      have my := fun (Q : AHeap) => c_May (Q := Q) (Sl.fz 5 (y.map Ev.v)) (by omega) f
      have nx := fun (Q : AHeap) => c_Next (Q := Q) (Sl.fz 5 (y.map Ev.v)) (by omega) f gb
      rw [hm] at my
      rw [hx] at nx
      have c1' : (0 < a % 3) = True := eq_true c1
      obtain ⟨x', v', n', T', Q', g1, g2⟩ := ih
      refine ⟨x', v', n', T', Q', ?_, g2⟩
      rw [show ((i + 1 : Nat) : Int) = (i : Int) + 1 by push_cast; rfl] at g1
      simp only [] at tl
      simp [c, e, m1, w1, c1', tl, up, v3, w, p_pleachlaw16_LogWhole_0, p_pleachlaw16_LogWhole_1, my, nx]
      simpa [L_pleachlaw16_LogWhole_2_fold] using g1
    · have hw' := hw.skip hf.1 (by omega) (d := b % 4) (by omega)
      have tl := fun (Q : AHeap) => c_Skip (Q := Q) hv (by omega) n (n + b % 4) 2
      have hm := hw'.mayLog hf.1
      have hx := hw'.nx
      have gb : ∀ e ∈ x ++ [gapE n (n + b % 4) 2], 0 ≤ e.hi ∧ e.hi ≤ 1000000 := fun e he => by have := (mayL_ge hw'.may).2 e he; omega
      have hxl : (x ++ [gapE n (n + b % 4) 2]).length ≤ 16 := by simp; omega
      have ih := ih (i + 1) _ (.fz 5 ((x ++ [gapE n (n + b % 4) 2]).map Ev.v)) _ _ _ (by omega) hw' (Sl.fz _ _) hQ
      generalize x ++ [gapE n (n + b % 4) 2] = y at *
      have my := fun (Q : AHeap) => c_May (Q := Q) (Sl.fz 5 (y.map Ev.v)) (by omega) f
      have nx := fun (Q : AHeap) => c_Next (Q := Q) (Sl.fz 5 (y.map Ev.v)) (by omega) f gb
      rw [hm] at my
      rw [hx] at nx
      have c1' : (0 < a % 3) = False := eq_false c1
      obtain ⟨x', v', n', T', Q', g1, g2⟩ := ih
      refine ⟨x', v', n', T', Q', ?_, g2⟩
      rw [show ((i + 1 : Nat) : Int) = (i : Int) + 1 by push_cast; rfl] at g1
      simp [c, e, m1, m3, w1, w4, v1, v4, v6, c1', tl, w, p_pleachlaw16_LogWhole_0, p_pleachlaw16_LogWhole_1, my, nx]
      simpa [L_pleachlaw16_LogWhole_2_fold] using g1
theorem loop_Whole2 {c0 v : AV} {f n : Int} {r : Nat} {g : List Sp} {T : List (Int × Unit)} {Q : AHeap} (hg : g.length ≤ 900000) (hQ : Q.get r = some (setI T)) (hk : ∀ k, has g k = decide (f ≤ k ∧ k < n ∧ isin T k = false)) : ∀ (j i : Nat), i + j = 80 →
    L_pleachlaw16_LogWhole_3 P1 c0 (.int .i64 f) v (.int .i64 n) (.mp r) (.fz 2 (g.map Sp.v)) (.int .i64 i) Q = X_pleachlaw16_LogWhole_3_x2 c0 (.int .i64 f) v (.int .i64 n) (.fz 2 (g.map Sp.v)) Q := by
  intro j
  induction j with
  | zero =>
    intro i hi
    obtain rfl : i = 80 := by omega
    rw [L_pleachlaw16_LogWhole_3_eq, p_pleachlaw16_LogWhole_3]
    simp
  | succ j ih =>
    intro i hi
    have c : ((i : Int) < 80) = True := eq_true (by omega)
    have w := w64 (i := (i : Int) + 1) (by omega) (by omega)
    have ih := ih (i + 1) (by omega)
    rw [show ((i + 1 : Nat) : Int) = (i : Int) + 1 by push_cast; rfl] at ih
    have hs := fun (Q : AHeap) => d_Has (Q := Q) (Sl.fz 2 (g.map Sp.v)) hg (i : Int)
    have lk := setI_lk hQ (i : Int)
    rw [hk] at hs
    rw [L_pleachlaw16_LogWhole_3_eq, p_pleachlaw16_LogWhole_3]
    by_cases h1 : f ≤ (i : Int)
    · by_cases h2 : (i : Int) < n
      · cases h3 : isin T i with
        | true =>
          rw [h3] at lk hs
          simp [c, w, h1, h2, hs, lk]
          simpa [L_pleachlaw16_LogWhole_3_fold] using ih
        | false =>
          rw [h3] at lk hs
          simp [c, w, h1, h2, hs, lk]
          simpa [L_pleachlaw16_LogWhole_3_fold] using ih
      · simp [c, w, h1, h2, hs, lk]
        simpa [L_pleachlaw16_LogWhole_3_fold] using ih
    · simp [c, w, h1, hs, lk]
      simpa [L_pleachlaw16_LogWhole_3_fold] using ih
theorem whole_true {P : List (Int × Int)} (rP : Prs P) {a b : Int} (ha : 0 ≤ a ∧ a ≤ 255) (hb : 0 ≤ b ∧ b ≤ 255) (Q : AHeap) : ∃ Q', callP (penv P1) 9 [.fz 2 (P.map pv), .int .u8 a, .int .u8 b] Q = some (.bool true, Q') := by
  rw [f_pleachlaw16_LogWhole rfl]
  have hb0 : ∀ Q, callP (penv P1) 36 [] Q = some (.bool true, Q) := fun Q => (callP_spec (E := penv P1) (f := 36) (g := gYes) rfl [] Q).trans (by simp [gYes])
  by_cases hA : 15 < P.length
  · have hA' : (15 : Int) < P.length := by omega
    exact ⟨_, by simp [hb0, hA']; rfl⟩
  have hA' : ¬ (15 : Int) < P.length := by omega
  have m1 := tmod_e (a := a) (b := 9) ha.1
  have w1 := wrap_u8 (i := a % 9) (by omega) (by omega)
  have w2 := w64 (i := a % 9) (by omega) (by omega)
  have w3 := w64 (i := 1 + a % 9) (by omega) (by omega)
  have hn : 1 ≤ 1 + a % 9 ∧ 1 + a % 9 ≤ 10 := by omega
  generalize hN : 1 + a % 9 = f at *
  have hQ : (Q.push (some (.mapo []))).get Q.size = some (setI []) := by rw [AHeap.get_push, if_pos rfl]; rfl
  have h0 : Wh f 0 [] f [] := ⟨rfl, rfl, rfl, by omega, fun k h1 h2 => by omega, fun k hk => by simp [isin, mget] at hk⟩
  obtain ⟨x, v, n, T, Q', g1, hw, hv, hQ'⟩ := loop_Whole (c0 := .int .u8 b) (by omega) rP hn P.length 0 [] .nils f [] (Q.push (some (.mapo []))) (by omega) h0 (Sl.nil _) hQ
  rw [show ((0 : Nat) : Int) = 0 from rfl] at g1
  have ge := (mayL_ge hw.may)
  rw [hw.nx] at ge
  have hle := hw.le
  have hxl := hw.len
  have gb : ∀ e ∈ x, 1 ≤ e.lo ∧ e.lo ≤ e.hi ∧ e.hi ≤ 1000000 := fun e he => by have := ge.2 e he; omega
  have gp := gaps_ok gb Gd.nil
  have gc := fun (Q : AHeap) => c_Gaps (Q := Q) hv (by omega) gb
  have hgl : (gapsL x []).length ≤ 900000 := by
    have key : ∀ (l : List Ev) (o : List Sp), Gd o → (∀ e ∈ l, 1 ≤ e.lo ∧ e.lo ≤ e.hi ∧ e.hi ≤ 1000000) → (gapsL l o).length ≤ o.length + l.length := by
      intro l
      induction l with
      | nil => intro o _ _; simp [gapsL]
      | cons e l ih =>
        intro o ho hl
        unfold gapsL
        split
        · have := ih (add o (e.lo, e.hi)) (Go.Span.add_gd ho _) fun x hx => hl x (List.mem_cons_of_mem _ hx)
          have := add_len ho (e.lo, e.hi)
          simp only [List.length_cons]; omega
        · have := ih o ho fun x hx => hl x (List.mem_cons_of_mem _ hx)
          simp only [List.length_cons]; omega
    have := key x [] Gd.nil gb
    simp only [List.length_nil] at this; omega
  have hk : ∀ k, has (gapsL x []) k = decide (f ≤ k ∧ k < n ∧ isin T k = false) := fun k => by
    rw [gp.2 k, Go.Span.has_nil, Bool.false_or]
    by_cases h1 : f ≤ k ∧ k < n
    · have := hw.tl k h1.1 h1.2
      cases hg : gapHas x k with
      | true => exact (decide_eq_true ⟨h1.1, h1.2, this.1 hg⟩).symm
      | false => exact (decide_eq_false fun h => by rw [this.2 h.2.2] at hg; cases hg).symm
    · have : gapHas x k = false := by
        cases hg : gapHas x k with
        | false => rfl
        | true => have := gap_lt hw.may hg; rw [hw.nx] at this; omega
      rw [this]
      exact (decide_eq_false fun h => h1 ⟨h.1, h.2.1⟩).symm
  have l2 := loop_Whole2 (c0 := .int .u8 b) (v := v) (f := f) (n := n) hgl hQ' hk 80 0 (by omega)
  rw [show ((0 : Nat) : Int) = 0 from rfl] at l2
  have mm := fun (Q : AHeap) => d_SMay (Q := Q) (Sl.fz 2 ((gapsL x []).map Sp.v)) hgl
  rw [gd_may gp.1] at mm
  generalize gapsL x [] = G at *
  have m5 := tmod_e (a := b) (b := 5) hb.1
  have x1 := wrap_u8 (i := b % 5) (by omega) (by omega)
  have x2 := w64 (i := b % 5) (by omega) (by omega)
  have x3 := w64 (i := n + 1) (by omega) (by omega)
  have x4 := w64 (i := n + 1 + b % 5) (by omega) (by omega)
  have x5 := w64 (i := f + 1) (by omega) (by omega)
  have tl := fun (Q : AHeap) => c_Tell (Q := Q) hv (by omega) ⟨n + 1 + b % 5, [116]⟩
  have my := fun (Q : AHeap) => c_May (Q := Q) (Sl.fz 5 ((x ++ [told ⟨n + 1 + b % 5, [116]⟩]).map Ev.v)) (by simp; omega) f
  have my2 := fun (Q : AHeap) => c_May (Q := Q) hv (by omega) (f + 1)
  have e1 : mayLog (x ++ [told ⟨n + 1 + b % 5, [116]⟩]) f = false := by
    simp only [mayLog, mayL_append, hw.nx, mayL, told]
    have : decide (n + 1 + b % 5 = n) = false := decide_eq_false (by omega)
    rw [this]; simp
  have e2 : mayLog x (f + 1) = decide (x.length = 0) := by
    unfold mayLog
    cases x with
    | nil => simp [mayL]; omega
    | cons e l =>
      have := hw.may
      simp only [mayL, Bool.and_eq_true, decide_eq_true_eq] at this ⊢
      have h2 : decide (e.lo = f + 1) = false := decide_eq_false (by omega)
      simp [h2]
  rw [e1] at my
  rw [e2] at my2
  generalize x ++ [told ⟨n + 1 + b % 5, [116]⟩] = y at *
  have lv := hv.len
  rw [List.length_map] at lv
  have hv' : ∀ v' , lenQ v' = some (.int .i64 x.length) → v' = v → lenQ v = some (.int .i64 x.length) := fun v' h e => e ▸ h
  refine ⟨Q', ?_⟩
  by_cases hx : x.length = 0
  · have hx' : (0 < (x.length : Int)) = False := eq_false (by omega)
    simp [hb0, hA', m1, w1, w2, hN, w3, g1, L_pleachlaw16_LogWhole_2_fold, L_pleachlaw16_LogWhole_3_fold, p_pleachlaw16_LogWhole_5, p_pleachlaw16_LogWhole_4, gc, l2, mm, m5, x1, x2, x3, x4, x5, tl, my, my2, lv, hx, hx']
  · have hx' : (0 < (x.length : Int)) = True := eq_true (by omega)
    simp [hb0, hA', m1, w1, w2, hN, w3, g1, L_pleachlaw16_LogWhole_2_fold, L_pleachlaw16_LogWhole_3_fold, p_pleachlaw16_LogWhole_5, p_pleachlaw16_LogWhole_4, gc, l2, mm, m5, x1, x2, x3, x4, x5, tl, my, my2, lv, hx, hx']
    omega
end
end Go.Proofs.Ytccgolmdhikdoaa.Pn
