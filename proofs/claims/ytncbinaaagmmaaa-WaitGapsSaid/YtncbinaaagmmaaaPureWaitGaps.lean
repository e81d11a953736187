/- What WaitGaps computes is true for each time at which it begins: the plain law, with no program in sight. -/
import Derived.Test.YtncbinaaagmmaaaPWaitGapsx2
namespace Go.Proofs.Ytncbinaaagmmaaa.Pure
open Go.RowKit Go.Proofs.Ytncbinaaagmmaaa.PWaitGaps Go.Proofs.YtncbinaaagmmaaaW.PrintWords Go.Proofs.YtncbinaaagmmaaaW.PrintLast

theorem wg_wrap (n : Int) (h1 : -9223372036854775808 ≤ n) (h2 : n < 9223372036854775808) : wrap64 n = n := by unfold wrap64; omega

/-- It is not time. -/
theorem wg_no (k : Nat) (a : Int) (xs : List Int) (i t d : Int) (ha : 0 ≤ a ∧ a ≤ 65535) (hi : 0 ≤ i ∧ i < 40) (ht : t < 3) (h0 : t ≠ 0) (hd : a + i < d) :
    pleachlaw4_WaitGaps.l0 (k + 2) a xs i t d = pleachlaw4_WaitGaps.l0 k a xs (i + 1) t d := by
  have e1 : wrap64 (a + i) = a + i := wg_wrap _ (by omega) (by omega)
  have e2 : wrap64 (i + 1) = i + 1 := wg_wrap _ (by omega) (by omega)
  have e3 : ¬ d ≤ a + i := by omega
  have e4 : ¬ t ≥ 3 := by omega
  simp [pleachlaw4_WaitGaps.l0, pleachlaw4_WaitGaps.j1, wait_Tired.f, wait_Now.f, e1, e2, e3, e4, hi.2, h0]

/-- It is time: t is how often it was asked, g what is waited then. -/
theorem wg_yes (k : Nat) (a : Int) (xs : List Int) (i t d g : Int) (ha : 0 ≤ a ∧ a ≤ 65535) (hi : 0 ≤ i ∧ i < 40) (ht : t < 3) (h0 : 0 ≤ t) (hd : t = 0 ∨ d ≤ a + i) (hx : xs.length < 10)
    (hg : 2 * 2 ^ (mx (mn t 3) 0).toNat = g) (hg1 : 0 ≤ g ∧ g ≤ 100) :
    pleachlaw4_WaitGaps.l0 (k + 2) a xs i t d = pleachlaw4_WaitGaps.l0 k a (xs ++ [i]) (i + 1) (t + 1) (a + i + g) := by
  have e1 : wrap64 (a + i) = a + i := wg_wrap _ (by omega) (by omega)
  have e2 : wrap64 (i + 1) = i + 1 := wg_wrap _ (by omega) (by omega)
  have e3 : wrap64 (t + 1) = t + 1 := wg_wrap _ (by omega) (by omega)
  have e4 : ¬ t ≥ 3 := by omega
  have e5 : wrap64 g = g := wg_wrap _ (by omega) (by omega)
  have e6 : wrap64 (a + i + g) = a + i + g := wg_wrap _ (by omega) (by omega)
  have e7 : xs.length < 17592186044416 := by omega
  have en : wait_Now.f t d (a + i) = some true := by
    unfold wait_Now.f
    by_cases h : t = 0
    · simp [h]
    · have : d ≤ a + i := by omega
      simp [h, this]
  have et : wait_Tried.f t d (a + i) = some (t + 1, a + i + g) := by
    unfold wait_Tried.f
    rw [hg, e5, e6, e3]
  simp [pleachlaw4_WaitGaps.l0, pleachlaw4_WaitGaps.j1, wait_Tired.f, e1, e2, e4, en, et, hi.2, e7]

theorem WaitGaps : pleachlaw4_WaitGaps.Pure := by
  intro a hw
  have ha : 0 ≤ a ∧ a ≤ 65535 := by
    simp [Lit.wf, IntKind.min, IntKind.max, IntKind.signed, IntKind.bits] at hw
    omega
  refine ⟨17, ?_⟩
  have hb : pleachlaw4_begun.f = some true := by decide +kernel
  have w0 : wrap64 a = a := wg_wrap _ (by omega) (by omega)
  unfold pleachlaw4_WaitGaps.f
  rw [hb]
  simp only [Option.bind_some, if_true, wait_Start.f, w0]
  rw [wg_yes 15 a [] 0 0 0 2 ha (by omega) (by omega) (by omega) (by omega) (by simp) (by decide +kernel) (by omega)]
  rw [wg_no 13 a _ _ _ _ ha (by omega) (by omega) (by omega) (by omega)]
  rw [wg_yes 11 a _ _ _ _ 4 ha (by omega) (by omega) (by omega) (by omega) (by simp) (by decide +kernel) (by omega)]
  rw [wg_no 9 a _ _ _ _ ha (by omega) (by omega) (by omega) (by omega)]
  rw [wg_no 7 a _ _ _ _ ha (by omega) (by omega) (by omega) (by omega)]
  rw [wg_no 5 a _ _ _ _ ha (by omega) (by omega) (by omega) (by omega)]
  rw [wg_yes 3 a _ _ _ _ 8 ha (by omega) (by omega) (by omega) (by omega) (by simp) (by decide +kernel) (by omega)]
  have e1 : wrap64 (a + 14) = a + 14 := wg_wrap _ (by omega) (by omega)
  have e2 : wrap64 (a + 13) = a + 13 := wg_wrap _ (by omega) (by omega)
  have e3 : a + 6 + 8 = a + 14 := by omega
  have e4 : ¬ a + 14 ≤ a + 13 := by omega
  simp [pleachlaw4_WaitGaps.l0, pleachlaw4_WaitGaps.j1, wait_Tired.f, wait_Now.f, e1, e2, e3, e4, rd]

end Go.Proofs.Ytncbinaaagmmaaa.Pure
