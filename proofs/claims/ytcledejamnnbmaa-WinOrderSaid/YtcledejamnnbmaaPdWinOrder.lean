/- The law WinOrder: the walk. -/
import Derived.Test.YtcledejamnnbmaaPmWin
import Derived.Test.YtcledejamnnbmaaPmWinO
set_option linter.unusedVariables false
set_option linter.unusedSimpArgs false
namespace Go.Proofs.Ytcledejamnnbmaa.Ps
open Go.Ab Go.Feed
set_option maxRecDepth 100000
theorem wrap_u8 {i : Int} (h : 0 ≤ i) (h2 : i ≤ 255) : IntKind.u8.wrap i = i := by
  have : IntKind.u8.wrap i = i % 256 := rfl
  rw [this]; omega
theorem tmod_e {a b : Int} (h : 0 ≤ a) : a.tmod b = a % b := Int.tmod_eq_emod_of_nonneg h
theorem u8v {A : List Int} (rA : ∀ n ∈ A, 0 ≤ n ∧ n ≤ 255) {i : Nat} (h : i < A.length) : 0 ≤ A.getD i 0 ∧ A.getD i 0 ≤ 255 := by
  rw [List.getD_eq_getElem?_getD, List.getElem?_eq_getElem h]; exact rA _ (List.getElem_mem _)
theorem add_str (a b : List UInt8) (h : a.length + b.length < 2 ^ 62) : binA .add (.str a) (.str b) = some (.str (a ++ b)) := by simp only [binA, binS]; rw [if_pos h]
@[simp] theorem b2sQ_1 (a : Int) : b2sQ (.fz 1 [.int .u8 a]) = some (.str [UInt8.ofNat a.toNat]) := (Eq.refl _).trans (Eq.refl _)
theorem gotL_len (m : Nat) : (gotL m).length = m := by simp [gotL]
section
theorem loop_Tk {c0 c7 : AV} {r : Nat} {T : List (Int × Unit)} {i : Nat} (hi : i ≤ 40) {Q : AHeap} (hQ : Q.get r = some (setI T)) : ∀ (w : List It) (m : Nat) (v : AV), Wo w m T i → Sl 2 (w.map It.v) v →
    ∃ (w' : List It) (m' : Nat) (v' : AV), L_pleachlaw15_WinOrder_0 P1 c0 v (.int .i64 (5 + (m : Int))) (.str (gotL m)) (.mp r) c7 Q = X_pleachlaw15_WinOrder_0_x2 c0 v' (.int .i64 (5 + (m' : Int))) (.str (gotL m')) (.mp r) c7 Q ∧ Wo w' m' T i ∧ Sl 2 (w'.map It.v) v' ∧ (first w' = 0 ∨ 5 + (m' : Int) < first w') := by
  intro w
  induction w with
  | nil =>
    intro m v hw hv
    have hn := hw.isNext
    have lk := setI_lk hQ (5 + (m : Int))
    rw [hn] at lk
    have tk := fun (Q : AHeap) => c_Take (Q := Q) hv (by simp) (5 + (m : Int))
    refine ⟨[], m, v, ?_, hw, hv, Or.inl rfl⟩
    rw [L_pleachlaw15_WinOrder_0_eq, p_pleachlaw15_WinOrder_0]
    simp [tk, lk]
  | cons x w ih =>
    intro m v hw hv
    have hn := hw.isNext
    have lk := setI_lk hQ (5 + (m : Int))
    rw [hn] at lk
    have hl := hw.len
    have hle := hw.le
    simp only [List.length_cons] at hl hle
    have tk := fun (Q : AHeap) => c_Take (Q := Q) hv (by simp; omega) (5 + (m : Int))
    have ge := hw.ge x List.mem_cons_self
    have lt := hw.lt x List.mem_cons_self
    have tx := hw.tx x List.mem_cons_self
    have lv := hv.len
    rw [List.length_map] at lv
    by_cases hx : x.seq = 5 + (m : Int)
    · obtain ⟨w', m', v', g1, g2⟩ := ih (m + 1) (its w) (hw.take hx) (Sl.fz 2 _)
      refine ⟨w', m', v', ?_, g2⟩
      rw [gotL_succ] at g1
      have a1 := w64 (i := (w.length : Int)) (by omega) (by omega)
      have a2 := w64 (i := 5 + (m : Int) + 1) (by omega) (by omega)
      have ast := add_str (gotL m) [ch (5 + (m : Int))] (by rw [gotL_len]; simp; omega)
      simp only [if_pos hx] at tk
      obtain ⟨sq, tt⟩ := x
      simp only at hx tx
      subst hx tx
      simp only [List.length_cons, Int.natCast_add, Int.natCast_one] at lv
      rw [show ((m + 1 : Nat) : Int) = (m : Int) + 1 by push_cast; rfl, ← Int.add_assoc] at g1
      rw [L_pleachlaw15_WinOrder_0_eq, p_pleachlaw15_WinOrder_0]
      simp [tk, lk, It_v, its, lv, a1, a2, ast]
      simpa [L_pleachlaw15_WinOrder_0_fold, its] using g1
    · refine ⟨x :: w, m, v, ?_, hw, hv, Or.inr (by show 5 + (m : Int) < x.seq; omega)⟩
      simp only [if_neg hx] at tk
      rw [L_pleachlaw15_WinOrder_0_eq, p_pleachlaw15_WinOrder_0]
      simp [tk, lk, hx]
theorem loop_WO {A : List Int} (hA : A.length ≤ 40) (rA : ∀ n ∈ A, 0 ≤ n ∧ n ≤ 255) {r : Nat} : ∀ (k i : Nat) (w : List It) (m : Nat) (v : AV) (T : List (Int × Unit)) (Q : AHeap), i + k = A.length → Wo w m T i → Sl 2 (w.map It.v) v → Q.get r = some (setI T) →
    ∃ (m' : Nat) (Q' : AHeap), m' ≤ 40 ∧ L_pleachlaw15_WinOrder_4 P1 (.fz 1 (A.map (AV.int .u8))) v (.int .i64 (5 + (m : Int))) (.str (gotL m)) (.mp r) (.int .i64 i) Q = X_pleachlaw15_WinOrder_4_x0 (.int .i64 (5 + (m' : Int))) (.str (gotL m')) Q' := by
  intro k
  induction k with
  | zero =>
    intro i w m v T Q hi hw hv hQ
    obtain rfl : i = A.length := by omega
    refine ⟨m, Q, by have := hw.le; omega, ?_⟩
    rw [L_pleachlaw15_WinOrder_4_eq, p_pleachlaw15_WinOrder_4]
    simp
  | succ k ih =>
    intro i w m v T Q hi hw hv hQ
    have h : ((i : Int) < A.length) = True := eq_true (by omega)
    have e := elQ_ints (k := .u8) (kk := .i64) (l := A) (i := (i : Int)) (by omega) (by omega)
    simp only [Int.toNat_natCast] at e
    have hz := u8v rA (i := i) (by omega)
    generalize A.getD i 0 = z at *
    have hle := hw.le
    have hl := hw.len
    have m1 := tmod_e (a := z) (b := 12) hz.1
    have w0 := wrap_u8 (i := z % 12) (by omega) (by omega)
    have w1 := w64 (i := z % 12) (by omega) (by omega)
    have q2 := w64 (i := 5 + (m : Int) - 2) (by omega) (by omega)
    have w3 := w64 (i := 5 + (m : Int) - 2 + z % 12) (by omega) (by omega)
    have w4 := w64 (i := 5 + (m : Int) + 8) (by omega) (by omega)
    have w5 := w64 (i := (i : Int) + 1) (by omega) (by omega)
    obtain ⟨n, hn, hn1, hn2⟩ : ∃ n : Int, 5 + (m : Int) - 2 + z % 12 = n ∧ 5 + (m : Int) - 2 ≤ n ∧ n ≤ 60 := ⟨_, rfl, by omega, by omega⟩
    rw [hn] at w3
    have n2 := tmod_e (a := n) (b := 26) (by omega)
    have x1 := w64 (i := n % 26) (by omega) (by omega)
    have x2 := w64 (i := 97 + n % 26) (by omega) (by omega)
    have x3 := wrap_u8 (i := 97 + n % 26) (by omega) (by omega)
    have hch : UInt8.ofNat (97 + n % 26).toNat = ch n := rfl
    obtain ⟨p1, p2, p3⟩ := hw.put hn1
    have lk := setI_lk hQ n
    have up := setI_up hQ n
    have pc := fun (Q : AHeap) => c_Put (Q := Q) (n := 5 + (m : Int)) (x := ⟨n, [ch n]⟩) hv (by omega) hw.so (by omega) (by simp only; omega)
    simp only [It_v] at pc
    have fin : ∀ (w2 : List It) (T2 : List (Int × Unit)) (Q2 : AHeap), Wo w2 m T2 (i + 1) → Q2.get r = some (setI T2) → ∃ (m' : Nat) (Q' : AHeap), m' ≤ 40 ∧ ∃ (w' : List It) (m2 : Nat) (v' : AV), L_pleachlaw15_WinOrder_0 P1 (.fz 1 (A.map (AV.int .u8))) (its w2) (.int .i64 (5 + (m : Int))) (.str (gotL m)) (.mp r) (.int .i64 i) Q2 = X_pleachlaw15_WinOrder_0_x2 (.fz 1 (A.map (AV.int .u8))) v' (.int .i64 (5 + (m2 : Int))) (.str (gotL m2)) (.mp r) (.int .i64 i) Q2 ∧ Sl 2 (w'.map It.v) v' ∧ (first w' = 0 ∨ 5 + (m2 : Int) < first w') ∧
        L_pleachlaw15_WinOrder_4 P1 (.fz 1 (A.map (AV.int .u8))) v' (.int .i64 (5 + (m2 : Int))) (.str (gotL m2)) (.mp r) (.int .i64 ((i : Int) + 1)) Q2 = X_pleachlaw15_WinOrder_4_x0 (.int .i64 (5 + (m' : Int))) (.str (gotL m')) Q' := by
      intro w2 T2 Q2 hw2 hQ2
      obtain ⟨w', m2, v', g1, g2, g3, g4⟩ := loop_Tk (c0 := .fz 1 (A.map (AV.int .u8))) (c7 := .int .i64 i) (by omega) hQ2 w2 m (its w2) hw2 (Sl.fz 2 _)
      obtain ⟨m', Q', h1, h2⟩ := ih (i + 1) w' m2 v' T2 Q2 (by omega) g2 g3 hQ2
      exact ⟨m', Q', h1, w', m2, v', g1, g3, g4, h2⟩
    rw [L_pleachlaw15_WinOrder_4_eq, p_pleachlaw15_WinOrder_4]
    have cond : (decide (5 + (m : Int) ≤ n) && decide (n < 5 + (m : Int) + 8) && !isin T n) = (put w (5 + m) ⟨n, [ch n]⟩).2 := p1.symm
    generalize put w (5 + (m : Int)) ⟨n, [ch n]⟩ = p at *
    obtain ⟨w2, ok⟩ := p
    simp only at p1 p2 p3 pc cond
    cases ok with
    | true =>
      obtain ⟨m', Q', h1, w', m2, v', g1, g3, g4, g5⟩ := fin w2 _ _ (p2 rfl) (get_putS Q r _)
      generalize Q.put r (some (setI (mput T n ()))) = Q2 at *
      refine ⟨m', Q', h1, ?_⟩
      have ft := fun (Q : AHeap) => c_First (Q := Q) g3
      simp only [Bool.and_eq_true, decide_eq_true_eq, Bool.not_eq_true'] at cond
      obtain ⟨⟨k1, k2⟩, k3⟩ := cond
      rw [k3] at lk
      by_cases f0 : first w' = 0
      · simp [h, e, m1, w0, w1, q2, hn, w3, n2, x1, x2, x3, hch, pc, w4, k1, k2, lk, up, p_pleachlaw15_WinOrder_2, L_pleachlaw15_WinOrder_0_fold, g1, p_pleachlaw15_WinOrder_1, p_pleachlaw15_WinOrder_3, ft, f0, w5]
        simpa [L_pleachlaw15_WinOrder_4_fold] using g5
      · have f1 : ¬ first w' ≤ 5 + (m2 : Int) := by omega
        simp [h, e, m1, w0, w1, q2, hn, w3, n2, x1, x2, x3, hch, pc, w4, k1, k2, lk, up, p_pleachlaw15_WinOrder_2, L_pleachlaw15_WinOrder_0_fold, g1, p_pleachlaw15_WinOrder_1, p_pleachlaw15_WinOrder_3, ft, f0, f1, w5]
        simpa [L_pleachlaw15_WinOrder_4_fold] using g5
    | false =>
      obtain ⟨m', Q', h1, w', m2, v', g1, g3, g4, g5⟩ := fin w2 _ _ (p3 rfl) hQ
      refine ⟨m', Q', h1, ?_⟩
      have ft := fun (Q : AHeap) => c_First (Q := Q) g3
      have key : ∀ b1 b2 b3 : Bool, (b1 && b2 && !b3) = false → b1 = false ∨ (b1 = true ∧ b2 = false) ∨ (b1 = true ∧ b2 = true ∧ b3 = true) := by decide
      rcases key _ _ _ cond with k1 | ⟨k1, k2⟩ | ⟨k1, k2, k3⟩
      · have k1 : ¬ 5 + (m : Int) ≤ n := of_decide_eq_false k1
        by_cases f0 : first w' = 0
        · simp [h, e, m1, w0, w1, q2, hn, w3, n2, x1, x2, x3, hch, pc, w4, k1, p_pleachlaw15_WinOrder_2, L_pleachlaw15_WinOrder_0_fold, g1, p_pleachlaw15_WinOrder_1, p_pleachlaw15_WinOrder_3, ft, f0, w5]
          simpa [L_pleachlaw15_WinOrder_4_fold] using g5
        · have f1 : ¬ first w' ≤ 5 + (m2 : Int) := by omega
          simp [h, e, m1, w0, w1, q2, hn, w3, n2, x1, x2, x3, hch, pc, w4, k1, p_pleachlaw15_WinOrder_2, L_pleachlaw15_WinOrder_0_fold, g1, p_pleachlaw15_WinOrder_1, p_pleachlaw15_WinOrder_3, ft, f0, f1, w5]
          simpa [L_pleachlaw15_WinOrder_4_fold] using g5
      · have k1 : 5 + (m : Int) ≤ n := of_decide_eq_true k1
        have k2 : ¬ n < 5 + (m : Int) + 8 := of_decide_eq_false k2
        by_cases f0 : first w' = 0
        · simp [h, e, m1, w0, w1, q2, hn, w3, n2, x1, x2, x3, hch, pc, w4, k1, k2, p_pleachlaw15_WinOrder_2, L_pleachlaw15_WinOrder_0_fold, g1, p_pleachlaw15_WinOrder_1, p_pleachlaw15_WinOrder_3, ft, f0, w5]
          simpa [L_pleachlaw15_WinOrder_4_fold] using g5
        · have f1 : ¬ first w' ≤ 5 + (m2 : Int) := by omega
          simp [h, e, m1, w0, w1, q2, hn, w3, n2, x1, x2, x3, hch, pc, w4, k1, k2, p_pleachlaw15_WinOrder_2, L_pleachlaw15_WinOrder_0_fold, g1, p_pleachlaw15_WinOrder_1, p_pleachlaw15_WinOrder_3, ft, f0, f1, w5]
          simpa [L_pleachlaw15_WinOrder_4_fold] using g5
      · have k1 : 5 + (m : Int) ≤ n := of_decide_eq_true k1
        have k2 : n < 5 + (m : Int) + 8 := of_decide_eq_true k2
        rw [k3] at lk
        by_cases f0 : first w' = 0
        · simp [h, e, m1, w0, w1, q2, hn, w3, n2, x1, x2, x3, hch, pc, w4, k1, k2, lk, p_pleachlaw15_WinOrder_2, L_pleachlaw15_WinOrder_0_fold, g1, p_pleachlaw15_WinOrder_1, p_pleachlaw15_WinOrder_3, ft, f0, w5]
          simpa [L_pleachlaw15_WinOrder_4_fold] using g5
        · have f1 : ¬ first w' ≤ 5 + (m2 : Int) := by omega
          simp [h, e, m1, w0, w1, q2, hn, w3, n2, x1, x2, x3, hch, pc, w4, k1, k2, lk, p_pleachlaw15_WinOrder_2, L_pleachlaw15_WinOrder_0_fold, g1, p_pleachlaw15_WinOrder_1, p_pleachlaw15_WinOrder_3, ft, f0, f1, w5]
          simpa [L_pleachlaw15_WinOrder_4_fold] using g5
theorem loop_Got {c4 : AV} {m : Nat} (hm : m ≤ 40) {Q : AHeap} : ∀ (k i : Nat), i + k = m →
    L_pleachlaw15_WinOrder_5 P1 c4 (.str (gotL m)) (.int .i64 i) Q = X_pleachlaw15_WinOrder_5_x4 c4 (.str (gotL m)) Q := by
  intro k
  induction k with
  | zero =>
    intro i hi
    obtain rfl : i = m := by omega
    rw [L_pleachlaw15_WinOrder_5_eq, p_pleachlaw15_WinOrder_5]
    simp [gotL_len]
  | succ k ih =>
    intro i hi
    have c : ((i : Int) < m) = True := eq_true (by omega)
    have xs : ixsA (.str (gotL m)) (.int .i64 (i : Int)) = some (.int .u8 (97 + (5 + (i : Int)) % 26)) := by
      have e : (gotL m)[i]? = some (ch (5 + (i : Int))) := by
        simp only [gotL, List.getElem?_map, List.getElem?_range (show i < m by omega), Option.map_some]
      have e2 : ((ch (5 + (i : Int))).toNat : Int) = 97 + (5 + (i : Int)) % 26 := by
        unfold ch
        rw [UInt8.toNat_ofNat']
        omega
      simp [ixsA, e, e2]
    have w := w64 (i := (i : Int) + 1) (by omega) (by omega)
    have w1 := w64 (i := 5 + (i : Int)) (by omega) (by omega)
    have m2 := tmod_e (a := 5 + (i : Int)) (b := 26) (by omega)
    have w2 := w64 (i := (5 + (i : Int)) % 26) (by omega) (by omega)
    have w3 := w64 (i := 97 + (5 + (i : Int)) % 26) (by omega) (by omega)
    have w4 := wrap_u8 (i := 97 + (5 + (i : Int)) % 26) (by omega) (by omega)
    have ih := ih (i + 1) (by omega)
    rw [show ((i + 1 : Nat) : Int) = (i : Int) + 1 by push_cast; rfl] at ih
    rw [L_pleachlaw15_WinOrder_5_eq, p_pleachlaw15_WinOrder_5]
    simp [gotL_len, c, xs, w1, m2, w2, w3, w4, w]
    simpa [L_pleachlaw15_WinOrder_5_fold] using ih
theorem order_true {A : List Int} (rA : ∀ n ∈ A, 0 ≤ n ∧ n ≤ 255) (Q : AHeap) : ∃ Q', callP (penv P1) 6 [.fz 1 (A.map (AV.int .u8))] Q = some (.bool true, Q') := by
  rw [f_pleachlaw15_WinOrder rfl]
  have hb0 : ∀ Q, callP (penv P1) 21 [] Q = some (.bool true, Q) := fun Q => (callP_spec (E := penv P1) (f := 21) (g := gYes) rfl [] Q).trans (by simp [gYes])
  by_cases hA : 40 < A.length
  · have hA' : (40 : Int) < A.length := by omega
    exact ⟨_, by simp [hb0, hA']; rfl⟩
  have hA' : ¬ (40 : Int) < A.length := by omega
  have hQ : (Q.push (some (.mapo []))).get Q.size = some (setI []) := by rw [AHeap.get_push, if_pos rfl]; rfl
  have h0 : Wo [] 0 [] 0 := Wo.zero
  obtain ⟨m, Q', hm, g1⟩ := loop_WO (by omega) rA A.length 0 [] 0 .nils [] (Q.push (some (.mapo []))) (by omega) h0 (Sl.nil _) hQ
  have lg := loop_Got (c4 := .int .i64 (5 + (m : Int))) hm (Q := Q') m 0 (by omega)
  rw [show ((0 : Nat) : Int) = 0 from rfl] at g1 lg
  rw [show gotL 0 = [] from rfl, show (5 : Int) + 0 = 5 from rfl] at g1
  have w1 := w64 (i := 5 + (m : Int) - 5) (by omega) (by omega)
  refine ⟨Q', ?_⟩
  simp [hb0, hA', g1, L_pleachlaw15_WinOrder_4_fold, p_pleachlaw15_WinOrder_7, L_pleachlaw15_WinOrder_5_fold, lg, p_pleachlaw15_WinOrder_6, gotL_len, w1]
  omega
end
end Go.Proofs.Ytcledejamnnbmaa.Ps
