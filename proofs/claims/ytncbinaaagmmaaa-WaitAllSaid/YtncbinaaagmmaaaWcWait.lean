/- What the functions of wait, and the answers of the document, come to. -/
import Derived.Test.YtncbinaaagmmaaaBwe
set_option linter.unusedVariables false
set_option linter.unusedSimpArgs false
set_option linter.unusedSectionVars false
namespace Go.Proofs.Ytncbinaaagmmaaa.Bw
open Go.Ab
set_option maxRecDepth 100000

def gNow (args : List AV) (H : AHeap) : Option (AV × AHeap) := match args with
  | [.agg [.int .i64 tries, .int .i64 due], .int .i64 now] => some (.bool (decide (tries = 0) || decide (now ≥ due)), H)
  | _ => none
theorem ok_gNow {s : Specs} (hs : SpecsOk s) (hn : s.lookup 19 = none) : SpecOk Try.prog 19 gNow := by
  refine specOk hs hn fun args H v H' h => ?_
  unfold gNow at h
  split at h
  · rename_i tries due now
    simp only [Option.some.injEq, Prod.mk.injEq] at h
    obtain ⟨rfl, rfl⟩ := h
    refine fgt_pure (plainV_bool _) ?_
    rw [f_wait_Now hn, p_wait_Now]
    by_cases h : tries = 0 <;> simp [h]
  · cases h
theorem ok_gNow' {s : Specs} (hs : SpecsOk s) (hn : s.lookup 20 = none) : SpecOk Try.prog 20 gNow := by
  refine specOk hs hn fun args H v H' h => ?_
  unfold gNow at h
  split at h
  · rename_i tries due now
    simp only [Option.some.injEq, Prod.mk.injEq] at h
    obtain ⟨rfl, rfl⟩ := h
    refine fgt_pure (plainV_bool _) ?_
    rw [f_pleachref1_Now hn, p_pleachref1_Now]
    by_cases h : tries = 0 <;> simp [h]
  · cases h
def gTired (args : List AV) (H : AHeap) : Option (AV × AHeap) := match args with
  | [.agg [.int .i64 tries, .int .i64 _]] => some (.bool (decide (tries ≥ 3)), H)
  | _ => none
theorem ok_gTired {s : Specs} (hs : SpecsOk s) (hn : s.lookup 23 = none) : SpecOk Try.prog 23 gTired := by
  refine specOk hs hn fun args H v H' h => ?_
  unfold gTired at h
  split at h
  · rename_i tries due
    simp only [Option.some.injEq, Prod.mk.injEq] at h
    obtain ⟨rfl, rfl⟩ := h
    refine fgt_pure (plainV_bool _) ?_
    rw [f_wait_Tired hn, p_wait_Tired]
    simp
  · cases h
def gStart (args : List AV) (H : AHeap) : Option (AV × AHeap) := match args with
  | [] => some (.agg [.int .i64 0, .int .i64 0], H)
  | _ => none
theorem ok_gStart {s : Specs} (hs : SpecsOk s) (hn : s.lookup 24 = none) : SpecOk Try.prog 24 gStart := by
  refine specOk hs hn fun args H v H' h => ?_
  unfold gStart at h
  split at h
  · simp only [Option.some.injEq, Prod.mk.injEq] at h
    obtain ⟨rfl, rfl⟩ := h
    refine fgt_pure (fun _ => by simp) ?_
    rw [f_wait_Start hn, p_wait_Start]
    simp
  · cases h

/-- How long it is waited. -/
def gap (tries : Int) : Int := 2 * 2 ^ (max (min tries 3) 0).toNat
def gTried (args : List AV) (H : AHeap) : Option (AV × AHeap) := match args with
  | [.agg [.int .i64 tries, .int .i64 _], .int .i64 now] => some (.agg [.int .i64 (IntKind.i64.wrap (tries + 1)), .int .i64 (IntKind.i64.wrap (now + gap tries))], H)
  | _ => none
theorem gap_cases (tries : Int) : (max (min tries 3) 0).toNat = 0 ∨ (max (min tries 3) 0).toNat = 1 ∨ (max (min tries 3) 0).toNat = 2 ∨ (max (min tries 3) 0).toNat = 3 := by omega
theorem ok_gTried {s : Specs} (hs : SpecsOk s) (hn : s.lookup 21 = none) : SpecOk Try.prog 21 gTried := by
  refine specOk hs hn fun args H v H' h => ?_
  unfold gTried at h
  split at h
  · rename_i tries due now
    simp only [Option.some.injEq, Prod.mk.injEq] at h
    obtain ⟨rfl, rfl⟩ := h
    refine fgt_pure (fun _ => by simp) ?_
    rw [f_wait_Tried hn, p_wait_Tried]
    have h0 : ¬ (max (min tries 3) 0 < 0) := by omega
    have h1 : IntKind.i64.wrap (2 * 2 ^ min (max (min tries 3) 0).toNat IntKind.i64.bits) = gap tries := by
      unfold gap
      rcases gap_cases tries with h | h | h | h <;> rw [h] <;> decide
    simp (maxDischargeDepth := 20) [h0, h1]
  · cases h
theorem loop_Tried {s : Specs} {H : AHeap} {r : Nat} {tries : Int} {d v1 v4 : AV} (hg : H.get r = some (.cells .exact 2 [.int .i64 tries, d])) {m : Nat} (hm : m = (max (min tries 3) 0).toNat) :
    ∀ n i : Nat, i + n = m → L_pleachref1_Tried_0 s v1 (.ptr r 0) v4 (.int .i64 (2 * 2 ^ i)) (.int .i64 i) H = some (.exit 0, X_pleachref1_Tried_0_x0 v1 (.ptr r 0) v4 (.int .i64 (2 * 2 ^ m)), H) := by
  intro n
  induction n with
  | zero =>
    intro i hi
    obtain rfl : i = m := by omega
    rw [L_pleachref1_Tried_0_eq, p_pleachref1_Tried_0]
    by_cases h : (i : Int) < tries
    · have h3 : ¬ ((i : Int) < 3) := by omega
      simp [hg, h, h3]
    · simp [hg, h]
  | succ n ih =>
    intro i hi
    rw [L_pleachref1_Tried_0_eq, p_pleachref1_Tried_0]
    have h : (i : Int) < tries := by omega
    have h3 : (i : Int) < 3 := by omega
    have h4 : IntKind.i64.wrap (2 * 2 ^ i * 2) = 2 * 2 ^ (i + 1) := by
      have : i = 0 ∨ i = 1 ∨ i = 2 := by omega
      rcases this with rfl | rfl | rfl <;> decide
    have h5 : IntKind.i64.wrap ((i : Int) + 1) = ((i + 1 : Nat) : Int) := wrap_i64 (by omega) (by omega)
    have := ih (i + 1) (by omega)
    simpa [hg, h, h3, h4, h5, L_pleachref1_Tried_0_fold] using this
theorem ok_gTried' {s : Specs} (hs : SpecsOk s) (hn : s.lookup 22 = none) : SpecOk Try.prog 22 gTried := by
  refine specOk hs hn fun args H v H' h => ?_
  unfold gTried at h
  split at h
  · rename_i tries due now
    simp only [Option.some.injEq, Prod.mk.injEq] at h
    obtain ⟨rfl, rfl⟩ := h
    refine fgt_pure (fun _ => by simp) ?_
    rw [f_pleachref1_Tried hn, p_pleachref1_Tried]
    have := loop_Tried (s := s) (H := (H.push (some (AObj.cells Kd.exact 2 [AV.int IntKind.i64 tries, AV.int IntKind.i64 due]))).push (some (AObj.cells Kd.exact 2 [AV.int IntKind.i64 0, AV.int IntKind.i64 0])))
      (r := H.size) (tries := tries) (d := .int .i64 due) (v1 := .int .i64 now) (v4 := .ptr (H.size + 1) 0) (by simp) rfl _ 0 (Nat.zero_add _)
    simp at this
    simp (maxDischargeDepth := 20) [L_pleachref1_Tried_0_fold, this, p_pleachref1_Tried_1, gap]
  · cases h
end Go.Proofs.Ytncbinaaagmmaaa.Bw
