/- The law RttBetween. -/
import Derived.Test.YtldehmfhgmmkhaaBse
set_option linter.unusedVariables false
set_option linter.unusedSimpArgs false
namespace Go.Proofs.Ytldehmfhgmmkhaa.Bs
open Go.Ab
set_option maxRecDepth 100000

def nearI (v : Int) : Int := max (min v 1000) 0
def smP (old sample : Int) : Int := if nearI old = 0 then nearI sample else (7 * nearI old + nearI sample) / 8
def gNearI (args : List AV) (H : AHeap) : Option (AV × AHeap) := match args with
  | [.int .i64 v] => some (.int .i64 (nearI v), H)
  | _ => none
def gSmooth (args : List AV) (H : AHeap) : Option (AV × AHeap) := match args with
  | [.int .i64 o, .int .i64 s] => some (.int .i64 (smP o s), H)
  | _ => none
section
variable {s : Specs}
theorem ok_gNearI (hs : SpecsOk s) (hn : s.lookup 53 = none) : SpecOk Try.prog 53 gNearI := by
  refine specOk hs hn fun args H v H' h => ?_
  unfold gNearI at h
  split at h
  · simp only [Option.some.injEq, Prod.mk.injEq] at h
    obtain ⟨rfl, rfl⟩ := h
    refine fgt_pure (plainV_int _ _) ?_
    rw [f_rtt_near hn, p_rtt_near]
    simp [nearI]
  · cases h
theorem nearI_range (v : Int) : 0 ≤ nearI v ∧ nearI v ≤ 1000 := by unfold nearI; omega
theorem ok_gSmooth (hs : SpecsOk s) (hn : s.lookup 22 = none) (hc : ∀ args H, callV (env s) 53 args H = gNearI args H) : SpecOk Try.prog 22 gSmooth := by
  refine specOk hs hn fun args H v H' h => ?_
  unfold gSmooth at h
  split at h
  · rename_i o t
    simp only [Option.some.injEq, Prod.mk.injEq] at h
    obtain ⟨rfl, rfl⟩ := h
    refine fgt_pure (plainV_int _ _) ?_
    rw [f_rtt_Smooth hn, p_rtt_Smooth]
    have h1 := nearI_range o
    have h2 := nearI_range t
    have w1 : IntKind.i64.wrap (7 * nearI o) = 7 * nearI o := wrap_i64 (by omega) (by omega)
    have w2 : IntKind.i64.wrap (7 * nearI o + nearI t) = 7 * nearI o + nearI t := wrap_i64 (by omega) (by omega)
    have w3 : (7 * nearI o + nearI t).fdiv (2 ^ min (Int.toNat 3) IntKind.i64.bits) = (7 * nearI o + nearI t) / 8 := by
      show (7 * nearI o + nearI t).fdiv 8 = _
      exact Int.fdiv_eq_ediv_of_nonneg _ (by omega)
    have w4 : ¬ ((3 : Int) < 0) := by omega
    by_cases h0 : nearI o = 0
    · simp [hc, gNearI, smP, h0]
    · simp only [hc, gNearI, bnS_some, bin_eql, bnP_some, cndS_bool, eq_false h0, decide_false, Bool.false_eq_true, if_false, bin_mul, w1, bin_add, w2, bin_shr, w3, w4, retK_ret, results_one, resA_tmp, smP]
      exact (ends_some _ _ _).2 ⟨rfl, Kept.refl _⟩
  · cases h
end

set_option maxRecDepth 1000000 in
theorem begun_runs : tellsTrue ((frun (env []) 100000).1 17 [] AHeap.empty) = true := by kernel_rfl
def S0 : Specs := [(53, gNearI)]
theorem ok_S0 : SpecsOk S0 := (ok_cons (ok_gNearI ok_nil rfl) ok_nil)
theorem S0_rtt_near (args : List AV) (H : AHeap) : callV (env S0) 53 args H = gNearI args H := callV_spec rfl args H
def S1 : Specs := [(17, gTrue), (22, gSmooth)]
theorem ok_S1 : SpecsOk S1 := (ok_cons (closedOk begun_runs) (ok_cons (ok_gSmooth ok_S0 rfl S0_rtt_near) ok_nil))
theorem S1_pleachlaw5_begun (args : List AV) (H : AHeap) : callV (env S1) 17 args H = gTrue args H := callV_spec rfl args H
theorem S1_rtt_Smooth (args : List AV) (H : AHeap) : callV (env S1) 22 args H = gSmooth args H := callV_spec rfl args H

theorem smP_between {v t : Int} (hv : 1 ≤ v ∧ v ≤ 1000) (ht : 0 ≤ t ∧ t ≤ 1000) : min v t ≤ smP v t ∧ smP v t ≤ max v t ∧ (t < v → smP v t ≠ v) ∧ 0 ≤ smP v t ∧ smP v t ≤ 1000 ∧ (smP v t = 0 → t = 0) := by
  unfold smP nearI
  rw [show max (min v 1000) 0 = v by omega, show max (min t 1000) 0 = t by omega, if_neg (by omega)]
  omega
theorem smP_zero {t : Int} (ht : 0 ≤ t ∧ t ≤ 1000) : smP 0 t = t := by
  unfold smP nearI
  rw [if_pos (by omega)]; omega

theorem loop_RttB {H : AHeap} {o t n : Int} (ht : 0 ≤ t ∧ t ≤ 1000) (hn : 0 ≤ n ∧ n ≤ 255) : ∀ (m : Nat) (i v : Int), 0 ≤ i → i + m = n.tmod 60 → (0 ≤ v ∧ v ≤ 1000) → (v = 0 → t = 0) →
    EndsE (L_pleachlaw5_RttBetween_0 S1 (.int .u8 n) (.int .i64 o) (.int .i64 t) (.int .i64 v) (.int .i64 i) H) fun ex τ H' => H' = H ∧ (ex = .ret ∧ τ = X_pleachlaw5_RttBetween_0_ret (.bool true) ∨ ex = .exit 0 ∧ τ = X_pleachlaw5_RttBetween_0_x0 (.int .i64 o) (.int .i64 t)) := by
  have h60 : 0 ≤ n.tmod 60 ∧ n.tmod 60 < 60 := by
    rw [Int.tmod_eq_emod_of_nonneg hn.1]
    exact ⟨Int.emod_nonneg _ (by omega), Int.emod_lt_of_pos _ (by omega)⟩
  have w0 : IntKind.i64.wrap (n.tmod 60) = n.tmod 60 := wrap_i64 (by omega) (by omega)
  intro m
  induction m with
  | zero =>
    intro i v hi hm hv h0
    rw [L_pleachlaw5_RttBetween_0_eq, p_pleachlaw5_RttBetween_0]
    have h : ¬ i < n.tmod 60 := by omega
    simp [w0, h]
  | succ m ih =>
    intro i v hi hm hv h0
    rw [L_pleachlaw5_RttBetween_0_eq, p_pleachlaw5_RttBetween_0]
    have h : i < n.tmod 60 := by omega
    have w5 : IntKind.i64.wrap (i + 1) = i + 1 := wrap_i64 (by omega) (by omega)
    by_cases hz : v = 0
    · subst hz
      have t0 := h0 rfl
      subst t0
      have e := smP_zero (t := 0) (by omega)
      simp [w0, h, S1_rtt_Smooth, gSmooth, e]
    · obtain ⟨a1, a2, a3, a4, a5, a6⟩ := smP_between (v := v) (t := t) (by omega) ht
      have hrec := ih (i + 1) (smP v t) (by omega) (by omega) ⟨a4, a5⟩ a6
      obtain ⟨x, hx⟩ : ∃ x, smP v t = x := ⟨_, rfl⟩
      rw [hx] at a1 a2 a3 a4 a5 a6 hrec
      have c1 : (x < min v t) = False := eq_false (by omega)
      have c2 : (max v t < x) = False := eq_false (by omega)
      by_cases c3 : t < v
      · have c4 : (x = v) = False := eq_false (a3 c3)
        simp [w0, h, S1_rtt_Smooth, gSmooth, hx, c1, c2, c3, c4, hz, w5, L_pleachlaw5_RttBetween_0_fold]
        simpa using hrec
      · simp [w0, h, S1_rtt_Smooth, gSmooth, hx, c1, c2, c3, hz, w5, L_pleachlaw5_RttBetween_0_fold]
        simpa using hrec

theorem law_RttBetween {H : AHeap} (o : Int) (ho : IntKind.u16.min ≤ o ∧ o ≤ IntKind.u16.max) (t : Int) (ht : IntKind.u16.min ≤ t ∧ t ≤ IntKind.u16.max) (n : Int) (hn : IntKind.u8.min ≤ n ∧ n ≤ IntKind.u8.max) :
    EndsV (callV (env S1) 4 [.int .u16 o, .int .u16 t, .int .u8 n] H) fun v _ => v = .bool true := by
  have ho' : 0 ≤ o ∧ o ≤ 65535 := ho
  have ht' : 0 ≤ t ∧ t ≤ 65535 := ht
  have w1 : IntKind.i64.wrap o = o := wrap_i64 (by omega) (by omega)
  have w2 : IntKind.i64.wrap t = t := wrap_i64 (by omega) (by omega)
  have r1 : 0 ≤ o.tmod 1001 ∧ o.tmod 1001 ≤ 1000 := by
    rw [Int.tmod_eq_emod_of_nonneg ho'.1]
    have := Int.emod_nonneg o (show (1001 : Int) ≠ 0 by omega); have := Int.emod_lt_of_pos o (show (0 : Int) < 1001 by omega); omega
  have r2 : 0 ≤ t.tmod 1001 ∧ t.tmod 1001 ≤ 1000 := by
    rw [Int.tmod_eq_emod_of_nonneg ht'.1]
    have := Int.emod_nonneg t (show (1001 : Int) ≠ 0 by omega); have := Int.emod_lt_of_pos t (show (0 : Int) < 1001 by omega); omega
  rw [f_pleachlaw5_RttBetween rfl, p_pleachlaw5_RttBetween]
  simp only [S1_pleachlaw5_begun, gTrue, bnS_some, unA_not, bnP_some, cndS_bool, Bool.not_true, Bool.false_eq_true, if_false, cviA_int, w1, w2, bin_rem]
  rw [if_neg (by decide), if_neg (by decide)]
  generalize o.tmod 1001 = a at *
  generalize t.tmod 1001 = b at *
  by_cases h0 : a = 0
  · subst h0
    simp [S1_rtt_Smooth, gSmooth, smP_zero r2]
  · have h0' := eq_false h0
    simp only [bnP_some, bin_eql, cndS_bool, h0', decide_false, Bool.false_eq_true, if_false, L_pleachlaw5_RttBetween_0_fold]
    have h60 : 0 ≤ n.tmod 60 := by rw [Int.tmod_eq_emod_of_nonneg (show 0 ≤ n from hn.1)]; exact Int.emod_nonneg _ (by omega)
    refine EndsV.bnE ((loop_RttB r2 hn (n.tmod 60).toNat 0 a (by omega) (by omega) r1 (fun h => absurd h h0)).mono fun ex τ H' h => ?_)
    obtain ⟨rfl, ⟨rfl, rfl⟩ | ⟨rfl, rfl⟩⟩ := h
    · simp
    · have e1 : smP (-5) b = b := by unfold smP nearI; rw [if_pos (by omega)]; omega
      have e2 : smP 5000 b = smP 1000 b := rfl
      have e3 : smP a 5000 = smP a 1000 := rfl
      have e4 : smP a (-5) = smP a 0 := rfl
      simp [p_pleachlaw5_RttBetween_1, S1_rtt_Smooth, gSmooth, e1, e2, e3, e4]
end Go.Proofs.Ytldehmfhgmmkhaa.Bs
