/- The law RingLast. -/
import Derived.Test.YtldehmfhgmmkhaaWdRingTurns
set_option linter.unusedVariables false
set_option linter.unusedSimpArgs false
namespace Go.Proofs.Ytldehmfhgmmkhaa.Bg
open Go.Ab
set_option maxRecDepth 100000

theorem neq_str (a : List UInt8) : binA .neq (.str a) (.str a) = some (.bool false) := by simp [binA, binS]

/-- All that were added; the ring of the last six. -/
def alls (A : List Int) (m : Nat) : List Itm := (List.range m).map fun (i : Nat) => ((i : Int) + 1, lt (A.getD i 0))
def ringL (A : List Int) (m : Nat) : List Itm := (alls A m).drop (m - 6)
theorem alls_len (A : List Int) (m : Nat) : (alls A m).length = m := by simp [alls]
theorem alls_get {A : List Int} {m i : Nat} (h : i < m) : (alls A m)[i]? = some ((i : Int) + 1, lt (A.getD i 0)) := by
  simp [alls, List.getElem?_map, List.getElem?_range h]
theorem alls_succ (A : List Int) (m : Nat) : alls A (m + 1) = alls A m ++ [((m : Int) + 1, lt (A.getD m 0))] := by simp [alls, List.range_succ]
theorem ringL_len (A : List Int) (m : Nat) : (ringL A m).length = m - (m - 6) := by simp [ringL, alls_len]
theorem ringL_get {A : List Int} {m i : Nat} {a : Itm} (h : (ringL A m)[i]? = some a) : m - 6 + i < m ∧ a = (((m - 6 + i : Nat) : Int) + 1, lt (A.getD (m - 6 + i) 0)) := by
  unfold ringL at h
  rw [List.getElem?_drop] at h
  have hl := (List.getElem?_eq_some_iff.1 h).1
  rw [alls_len] at hl
  rw [alls_get hl] at h
  exact ⟨hl, (Option.some.inj h).symm⟩
theorem ringL_succ (A : List Int) (m : Nat) : addR (ringL A m) ((m : Int) + 1, lt (A.getD m 0)) = ringL A (m + 1) := by
  unfold addR
  rw [ringL_len]
  unfold ringL
  rw [alls_succ]
  by_cases h : m ≤ 5
  · rw [show m - 6 = 0 by omega, show m - 0 + 1 - 6 = 0 by omega, show m + 1 - 6 = 0 by omega]; simp
  · rw [show m - (m - 6) + 1 - 6 = 1 by omega, show m + 1 - 6 = (m - 6) + 1 by omega]
    rw [List.drop_append_of_le_length (by rw [List.length_drop, alls_len]; omega), List.drop_append_of_le_length (by rw [alls_len]; omega), List.drop_drop]
theorem ringL_sort (A : List Int) (m : Nat) : ∀ (x y : Nat) (a b : Itm), x < y → (ringL A m)[x]? = some a → (ringL A m)[y]? = some b → a.1 < b.1 := by
  intro x y a b hxy ha hb
  obtain ⟨_, rfl⟩ := ringL_get ha
  obtain ⟨_, rfl⟩ := ringL_get hb
  simp; omega
theorem ringL_lt {A : List Int} {m : Nat} {b : Itm} (h : b ∈ ringL A m) : b.1 < (m : Int) + 1 := by
  obtain ⟨i, hi⟩ := List.getElem?_of_mem h
  obtain ⟨h1, rfl⟩ := ringL_get hi
  simp; omega
theorem getP_ring {A : List Int} {m k : Nat} : getP (ringL A m) ((k : Int) + 1) = if k < m ∧ m - 6 ≤ k then some (lt (A.getD k 0)) else none := by
  unfold getP
  by_cases h : k < m ∧ m - 6 ≤ k
  · rw [if_pos h]
    have hg : (ringL A m)[k - (m - 6)]? = some ((k : Int) + 1, lt (A.getD k 0)) := by
      unfold ringL
      rw [List.getElem?_drop, show m - 6 + (k - (m - 6)) = k by omega, alls_get h.1]
    have : (ringL A m).find? (fun a => decide (a.1 = (k : Int) + 1)) = some ((k : Int) + 1, lt (A.getD k 0)) := by
      obtain ⟨hl, he⟩ := List.getElem?_eq_some_iff.1 hg
      rw [List.find?_eq_some_iff_getElem]
      refine ⟨by simp, _, hl, he, fun j hj => ?_⟩
      obtain ⟨_, hj2⟩ := ringL_get (List.getElem?_eq_getElem (by omega : j < (ringL A m).length))
      rw [hj2]
      simp; omega
    rw [this]; rfl
  · rw [if_neg h, Option.map_eq_none_iff, List.find?_eq_none]
    intro b hb
    obtain ⟨i, hi⟩ := List.getElem?_of_mem hb
    obtain ⟨h1, rfl⟩ := ringL_get hi
    simp; omega

theorem loop_Last0 {v x : AV} {A : List Int} {i : Nat} (hm : A.length ≤ 100) (rA : ∀ n ∈ A, 0 ≤ n ∧ n ≤ 255) (hi : i < A.length) : ∀ (n k : Nat) (H : AHeap), k + n = i + 2 → rdI .u8 H v = some A → RdT EI H x (ringL A (i + 1)) →
    ∃ H', L_pleachlaw14_RingLast_0 S2 v x (.int .i64 i) (.int .i64 k) H = some (.exit 2, X_pleachlaw14_RingLast_0_x2 v x (.int .i64 i), H') ∧ Kept H H' := by
  intro n
  induction n with
  | zero =>
    intro k H hk hA hx
    refine ⟨H, ?_, Kept.refl H⟩
    rw [L_pleachlaw14_RingLast_0_eq, p_pleachlaw14_RingLast_0]
    have h : ¬ ((k : Int) ≤ (i : Int) + 1) := by omega
    have w : IntKind.i64.wrap ((i : Int) + 1) = (i : Int) + 1 := wrap_i64 (by omega) (by omega)
    simp [h, w]
  | succ n ih =>
    intro k H hk hA hx
    have h : ((k : Int) ≤ (i : Int) + 1) = True := eq_true (by omega)
    have w : IntKind.i64.wrap ((i : Int) + 1) = (i : Int) + 1 := wrap_i64 (by omega) (by omega)
    have w2 : IntKind.i64.wrap ((k : Int) + 1) = (k : Int) + 1 := wrap_i64 (by omega) (by omega)
    have w3 : IntKind.i64.wrap ((i : Int) - k) = (i : Int) - k := wrap_i64 (by omega) (by omega)
    obtain ⟨H1, e1, k1⟩ := call_Get (s := S2) rfl rfl rfl S2_cmp_Compare_int hx (by rw [ringL_len]; omega) (ringL_sort A (i + 1)) ((k : Int) + 1)
    rw [getP_ring] at e1
    have hA1 := rdI_kept k1 hA
    by_cases c : k < i + 1 ∧ i + 1 - 6 ≤ k
    · rw [if_pos c] at e1
      simp at e1
      have c1 : ((k : Int) ≤ i) = True := eq_true (by omega)
      have c2 : ((i : Int) - k < 6) = True := eq_true (by omega)
      have a1 := rdI_iad hA1 .i64 (i := (k : Int)) (by omega) (by omega)
      have a2 := rdI_ld hA1 (i := (k : Int)) (by omega) (by omega)
      simp only [Int.toNat_natCast] at a2
      have hin : A.getD k 0 ∈ A := by
        rw [List.getD_eq_getElem?_getD, List.getElem?_eq_getElem (by omega)]; exact List.getElem_mem _
      obtain ⟨t1, t2, t3⟩ := lt_facts (rA _ hin)
      generalize hz : A.getD k 0 = z at *
      rw [List.getD_eq_getElem?_getD] at hz
      rw [hz] at e1
      have k2 : Kept H1 (H1.push (some (.cells .exact 1 [.int .u8 (97 + z.tmod 26)]))) := (Kept.refl _).push _
      obtain ⟨H', e2, k3⟩ := ih (k + 1) _ (by omega) (rdI_kept k2 hA1) ((hx.kept k1).kept k2)
      refine ⟨H', ?_, k1.trans (k2.trans k3)⟩
      rw [L_pleachlaw14_RingLast_0_eq, p_pleachlaw14_RingLast_0]
      simp only [lt] at e1
      simp [h, w, w2, w3, e1, c1, c2, a1, a2, t1, b2sA, mapO, byteA, neq_str, L_pleachlaw14_RingLast_0_fold]
      simpa using e2
    · rw [if_neg c] at e1
      simp at e1
      obtain ⟨H', e2, k3⟩ := ih (k + 1) H1 (by omega) hA1 (hx.kept k1)
      refine ⟨H', ?_, k1.trans k3⟩
      rw [L_pleachlaw14_RingLast_0_eq, p_pleachlaw14_RingLast_0]
      by_cases c1 : (k : Int) ≤ i
      · have c2 : ¬ ((i : Int) - k < 6) := by omega
        simp [h, w, w2, w3, e1, c1, c2, L_pleachlaw14_RingLast_0_fold]
        simpa using e2
      · simp [h, w, w2, w3, e1, c1, L_pleachlaw14_RingLast_0_fold]
        simpa using e2

theorem loop_Last2 {v : AV} {A : List Int} (hm : A.length ≤ 100) (rA : ∀ n ∈ A, 0 ≤ n ∧ n ≤ 255) : ∀ (n i : Nat) (H : AHeap) (x : AV), i + n = A.length → rdI .u8 H v = some A → RdT EI H x (ringL A i) →
    ∃ H', L_pleachlaw14_RingLast_2 S2 v x (.int .i64 i) H = some (.exit 0, X_pleachlaw14_RingLast_2_x0, H') := by
  intro n
  induction n with
  | zero =>
    intro i H x hi hA hx
    refine ⟨H, ?_⟩
    rw [L_pleachlaw14_RingLast_2_eq, p_pleachlaw14_RingLast_2]
    have h : ¬ ((i : Int) < A.length) := by omega
    simp [h, rdI_len hA]
  | succ n ih =>
    intro i H x hi hA hx
    have h : ((i : Int) < A.length) = True := eq_true (by omega)
    have w : IntKind.i64.wrap ((i : Int) + 1) = (i : Int) + 1 := wrap_i64 (by omega) (by omega)
    have a1 := rdI_iad hA .i64 (i := (i : Int)) (by omega) (by omega)
    have a2 := rdI_ld hA (i := (i : Int)) (by omega) (by omega)
    simp only [Int.toNat_natCast] at a2
    have hin : A.getD i 0 ∈ A := by
      rw [List.getD_eq_getElem?_getD, List.getElem?_eq_getElem (by omega)]; exact List.getElem_mem _
    obtain ⟨t1, t2, t3⟩ := lt_facts (rA _ hin)
    have k0 : Kept H (H.push (some (.cells .exact 1 [.int .u8 (97 + (A.getD i 0).tmod 26)]))) := (Kept.refl _).push _
    obtain ⟨x1, H1, e1, q1, _, k1⟩ := call_Add (s := S2) rfl rfl (hx.kept k0) (by rw [ringL_len]; omega) ((i : Int) + 1, lt (A.getD i 0)) (fun b hb => ringL_lt hb)
    rw [ringL_succ] at q1
    have kk := k0.trans k1
    obtain ⟨H2, e2, k2⟩ := loop_Last0 (x := x1) hm rA (by omega : i < A.length) (i + 2) 0 H1 (by omega) (rdI_kept kk hA) q1
    rw [show ((0 : Nat) : Int) = 0 from rfl] at e2
    obtain ⟨H', e3⟩ := ih (i + 1) H2 x1 (by omega) (rdI_kept (kk.trans k2) hA) (q1.kept k2)
    refine ⟨H', ?_⟩
    rw [L_pleachlaw14_RingLast_2_eq, p_pleachlaw14_RingLast_2]
    generalize A.getD i 0 = z at *
    simp only [lt] at e1
    simp [h, rdI_len hA, w, a1, a2, t1, b2sA, mapO, byteA, e1, L_pleachlaw14_RingLast_0_fold, e2, p_pleachlaw14_RingLast_1, L_pleachlaw14_RingLast_2_fold]
    simpa using e3

theorem law_RingLast {H : AHeap} (v : AV) (A : List Int) (hA : rdI .u8 H v = some A) (_ : A.length ≤ maxLen) (rA : ∀ n ∈ A, IntKind.u8.min ≤ n ∧ n ≤ IntKind.u8.max) :
    EndsV (callV (env S2) 14 [v] H) fun v _ => v = .bool true := by
  rw [f_pleachlaw14_RingLast rfl, p_pleachlaw14_RingLast]
  by_cases h1 : (30 : Int) < A.length
  · simp [S2_pleachlaw14_begun, gTrue, rdI_len hA, h1]
  obtain ⟨H', e⟩ := loop_Last2 (by omega) rA A.length 0 H .nils (by omega) hA (RdT.nils H)
  rw [show ((0 : Nat) : Int) = 0 from rfl] at e
  simp [S2_pleachlaw14_begun, gTrue, rdI_len hA, h1, L_pleachlaw14_RingLast_2_fold, e, p_pleachlaw14_RingLast_3]
end Go.Proofs.Ytldehmfhgmmkhaa.Bg
