/- The law WaitAll: what it comes to at any arguments. -/
import Derived.Test.YtncbinaaagmmaaaWcWait
set_option linter.unusedVariables false
set_option linter.unusedSimpArgs false
set_option linter.unusedSectionVars false
namespace Go.Proofs.Ytncbinaaagmmaaa.Bw
open Go.Ab
set_option maxRecDepth 100000

def gTrue (args : List AV) (H : AHeap) : Option (AV × AHeap) := match args with
  | [] => some (.bool true, H)
  | _ => none

def S0 : Specs := [(19, gNow), (20, gNow), (21, gTried), (22, gTried), (23, gTired), (24, gStart)]
theorem ok_nil : SpecsOk [] := fun p h => by cases h
theorem ok_cons {n : Nat} {g : List AV → AHeap → Option (AV × AHeap)} {s : Specs} (h : SpecOk Try.prog n g) (hs : SpecsOk s) : SpecsOk ((n, g) :: s) := fun p hp => by
  rcases List.mem_cons.1 hp with rfl | hp
  · exact h
  · exact hs p hp
theorem ok_S0 : SpecsOk S0 := ok_cons (ok_gNow ok_nil rfl) (ok_cons (ok_gNow' ok_nil rfl) (ok_cons (ok_gTried ok_nil rfl) (ok_cons (ok_gTried' ok_nil rfl) (ok_cons (ok_gTired ok_nil rfl) (ok_cons (ok_gStart ok_nil rfl) ok_nil)))))

section
variable (args : List AV) (H : AHeap)
theorem s0_Now : callV (env S0) 19 args H = gNow args H := callV_spec rfl args H
theorem s0_Tried : callV (env S0) 21 args H = gTried args H := callV_spec rfl args H
theorem s0_Tired : callV (env S0) 23 args H = gTired args H := callV_spec rfl args H
theorem s0_Start : callV (env S0) 24 args H = gStart args H := callV_spec rfl args H
end

theorem gap_0 : gap 0 = 2 := by decide
theorem ok_begun : SpecOk Try.prog 18 gTrue := by
  refine specOk ok_S0 rfl fun args H v H' h => ?_
  unfold gTrue at h
  split at h
  · simp only [Option.some.injEq, Prod.mk.injEq] at h
    obtain ⟨rfl, rfl⟩ := h
    refine fgt_pure (plainV_bool _) ?_
    rw [f_pleachlaw4_begun rfl, p_pleachlaw4_begun]
    have h1 : IntKind.i64.wrap 1 = 1 := by decide
    have h7 : IntKind.i64.wrap 7 = 7 := by decide
    simp (maxDischargeDepth := 20) [s0_Now, s0_Tried, s0_Tired, s0_Start, gNow, gTried, gTired, gStart, gap_0, h1, h7]
  · cases h

def S1 : Specs := (18, gTrue) :: S0
theorem ok_S1 : SpecsOk S1 := ok_cons ok_begun ok_S0
section
variable (args : List AV) (H : AHeap)
theorem s1_begun : callV (env S1) 18 args H = gTrue args H := callV_spec rfl args H
theorem s1_Now : callV (env S1) 19 args H = gNow args H := callV_spec rfl args H
theorem s1_Now' : callV (env S1) 20 args H = gNow args H := callV_spec rfl args H
theorem s1_Tried : callV (env S1) 21 args H = gTried args H := callV_spec rfl args H
theorem s1_Tried' : callV (env S1) 22 args H = gTried args H := callV_spec rfl args H
theorem s1_Tired : callV (env S1) 23 args H = gTired args H := callV_spec rfl args H
theorem s1_Start : callV (env S1) 24 args H = gStart args H := callV_spec rfl args H
end

theorem loop_WaitAll {g : AV} {gaps : List Int} {r8 r9 : Nat} (h89 : r8 ≠ r9) (hl : gaps.length ≤ 10) :
    ∀ (n i : Nat) (t : Int) (H : AHeap) (a b : Int), i + n = gaps.length → rdI .u8 H g = some gaps → (∀ r o n c, g = .sl r o n c → r ≠ r8 ∧ r ≠ r9) →
      H.get r8 = some (.cells .exact 2 [.int .i64 a, .int .i64 b]) → H.get r9 = some (.cells .exact 2 [.int .i64 a, .int .i64 b]) →
      EndsE (L_pleachlaw4_WaitAll_1 S1 g (.int .i64 t) (.ptr r8 0) (.ptr r9 0) (.int .i64 i) H) fun ex τ H' => ex = .exit 0 ∧ τ = X_pleachlaw4_WaitAll_1_x0 (.ptr r8 0) (.ptr r9 0) ∧
        ∃ a b, H'.get r8 = some (.cells .exact 2 [.int .i64 a, .int .i64 b]) ∧ H'.get r9 = some (.cells .exact 2 [.int .i64 a, .int .i64 b]) := by
  intro n
  induction n with
  | zero =>
    intro i t H a b hi hg hne h8 h9
    rw [L_pleachlaw4_WaitAll_1_eq, p_pleachlaw4_WaitAll_1]
    have h : ¬ ((i : Int) < gaps.length) := by omega
    simp [rdI_len hg, h, h8, h9]
  | succ n ih =>
    intro i t H a b hi hg hne h8 h9
    rw [L_pleachlaw4_WaitAll_1_eq, p_pleachlaw4_WaitAll_1]
    have h : (i : Int) < gaps.length := by omega
    have h0 : (0 : Int) ≤ i := by omega
    have h5 : IntKind.i64.wrap ((i : Int) + 1) = (i : Int) + 1 := wrap_i64 (by omega) (by omega)
    simp [rdI_len hg, h, rdI_iad hg .i64 h0 h, rdI_ld hg h0 h, h8, h9, s1_Now, s1_Now', gNow]
    generalize IntKind.i64.wrap (t + IntKind.i64.wrap ((gaps[i]?.getD 0).tmod 9)) = t'
    by_cases hc : a = 0 ∨ b ≤ t'
    · simp [hc, s1_Tried, s1_Tried', gTried, h8, h9, h89.symm, p_pleachlaw4_WaitAll_0, h5, L_pleachlaw4_WaitAll_1_fold]
      have hp : ∀ (r' : Nat) (o' : Option AObj) (H : AHeap), r' = r8 ∨ r' = r9 → rdI .u8 H g = some gaps → rdI .u8 (H.put r' o') g = some gaps := fun r' o' H e h => rd_put (fun r o n c hc => by have := hne r o n c hc; rcases e with rfl | rfl; exact this.1; exact this.2) h
      refine ih (i + 1) t' _ (IntKind.i64.wrap (a + 1)) (IntKind.i64.wrap (t' + gap a)) (by omega) (hp _ _ _ (Or.inr rfl) (hp _ _ _ (Or.inl rfl) hg)) hne ?_ ?_
      · simp [h89]
      · simp
    · simp [hc, p_pleachlaw4_WaitAll_0, h5, L_pleachlaw4_WaitAll_1_fold]
      exact ih (i + 1) t' _ _ _ (by omega) hg hne h8 h9

/-- The law, at any arguments. -/
theorem law_WaitAll {H : AHeap} (tries : Int) (_ : IntKind.i64.min ≤ tries ∧ tries ≤ IntKind.i64.max) (due : Int) (_ : IntKind.i64.min ≤ due ∧ due ≤ IntKind.i64.max) (now : Int) (_ : IntKind.u16.min ≤ now ∧ now ≤ IntKind.u16.max)
    (g : AV) (gaps : List Int) (hg : rdI .u8 H g = some gaps) (_ : gaps.length ≤ maxLen) (_ : ∀ n ∈ gaps, IntKind.u8.min ≤ n ∧ n ≤ IntKind.u8.max) : EndsV (callV (env S1) 3 [.agg [.int .i64 tries, .int .i64 due], .int .u16 now, g] H) fun v _ => v = .bool true := by
  rw [f_pleachlaw4_WaitAll rfl, p_pleachlaw4_WaitAll]
  simp [s1_begun, gTrue, rdI_len hg]
  by_cases h1 : (10 : Int) < gaps.length
  · simp [h1]
  · by_cases h2 : 1000 < tries
    · simp [h1, h2]
    · by_cases h3 : tries < 0
      · simp [h1, h2, h3]
      · simp [h1, h2, h3, s1_Now, s1_Now', s1_Tried, s1_Tried', s1_Tired, s1_Start, gNow, gTried, gTired, gStart, L_pleachlaw4_WaitAll_1_fold]
        have hne : ∀ r o n c, g = .sl r o n c → r < H.size := fun r o n c e => by
          rcases rdW_cases hg with ⟨rfl, _⟩ | ⟨r', o', c', cs, rfl, hr, _⟩
          · cases e
          · cases e; exact hr
        refine EndsV.bnE ((loop_WaitAll (gaps := gaps) (r8 := H.size + 1) (r9 := H.size + 1 + 1) (by omega) (by omega) gaps.length 0 _ _ 0 0 (by omega) ?_ ?_ ?_ ?_).mono ?_)
        · refine rdI_kept ?_ hg
          (repeat (first | exact Kept.refl _ | assumption | refine Kept.push ?_ _ | refine Kept.put ?_ (by first | omega | simp | (simp; omega)) _))
        · intro r o n c e
          have := hne r o n c e
          omega
        · simp
        · simp
        · rintro ex τ H' ⟨rfl, rfl, a, b, h8, h9⟩
          simp [p_pleachlaw4_WaitAll_2, h8, h9]
end Go.Proofs.Ytncbinaaagmmaaa.Bw
