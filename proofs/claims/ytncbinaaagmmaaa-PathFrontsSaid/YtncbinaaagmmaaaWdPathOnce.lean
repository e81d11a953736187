/- The law PathOnce. -/
import Derived.Test.YtncbinaaagmmaaaWcPath
set_option linter.unusedVariables false
set_option linter.unusedSimpArgs false
namespace Go.Proofs.Ytncbinaaagmmaaa.Bp
open Go.Ab
set_option maxRecDepth 100000

theorem begun_runs : tellsTrue ((frun (env []) 100000).1 39 [] AHeap.empty) = true := by kernel_rfl

def S1 : Specs := [(58, gIndex)]
theorem ok_S1 : SpecsOk S1 := (ok_cons (ok_gIndex ok_nil rfl) ok_nil)
theorem S1_slices_Index_int_int (args : List AV) (H : AHeap) : callV (env S1) 58 args H = gIndex args H := callV_spec rfl args H
def S2 : Specs := [(57, gHas), (48, gGrand)]
theorem ok_S2 : SpecsOk S2 := (ok_cons (ok_gContains ok_S1 rfl S1_slices_Index_int_int) (ok_cons (ok_gGrand ok_S1 rfl) ok_nil))
theorem S2_slices_Contains_int_int (args : List AV) (H : AHeap) : callV (env S2) 57 args H = gHas args H := callV_spec rfl args H
theorem S2_path_Grand (args : List AV) (H : AHeap) : callV (env S2) 48 args H = gGrand args H := callV_spec rfl args H
def S3 : Specs := [(44, gMay), (46, gHas), (48, gGrand), (39, gTrue)]
theorem ok_S3 : SpecsOk S3 := (ok_cons (ok_gMay ok_S2 rfl rfl S2_slices_Contains_int_int) (ok_cons (ok_gHas ok_S2 rfl S2_slices_Contains_int_int) (ok_cons (ok_gGrand ok_S1 rfl) (ok_cons (closedOk begun_runs) ok_nil))))
theorem S3_path_May (args : List AV) (H : AHeap) : callV (env S3) 44 args H = gMay args H := callV_spec rfl args H
theorem S3_path_Has (args : List AV) (H : AHeap) : callV (env S3) 46 args H = gHas args H := callV_spec rfl args H
theorem S3_path_Grand (args : List AV) (H : AHeap) : callV (env S3) 48 args H = gGrand args H := callV_spec rfl args H
theorem S3_pleachlaw2_begun (args : List AV) (H : AHeap) : callV (env S3) 39 args H = gTrue args H := callV_spec rfl args H

theorem loop_Once {v : AV} {A : List Int} (hm : A.length ≤ 100) : ∀ (n i : Nat) (H : AHeap) (p : AV) (P : List Int), i + n = A.length → rdI .u8 H v = some A → (∀ n ∈ A, IntKind.u8.min ≤ n ∧ n ≤ IntKind.u8.max) → rdI .i64 H p = some P → capOk p = true → mayP P = true →
    ∃ H', L_pleachlaw2_PathOnce_2 S3 v p (.int .i64 i) H = some (.exit 0, X_pleachlaw2_PathOnce_2_x0, H') := by
  intro n
  induction n with
  | zero =>
    intro i H p P hi hA rA hP cP mP
    refine ⟨H, ?_⟩
    rw [L_pleachlaw2_PathOnce_2_eq, p_pleachlaw2_PathOnce_2]
    have h : ¬ ((i : Int) < A.length) := by omega
    simp [h, rdI_len hA]
  | succ n ih =>
    intro i H p P hi hA rA hP cP mP
    have h : (i : Int) < A.length := by omega
    have h0 : (0 : Int) ≤ i := by omega
    have h5 : IntKind.i64.wrap ((i : Int) + 1) = (i : Int) + 1 := wrap_i64 (by omega) (by omega)
    have a1 := rdI_iad hA .i64 h0 h
    have a2 := rdI_ld hA h0 h
    simp only [Int.toNat_natCast] at a2
    have hx : A.getD i 0 ∈ A := by
      rw [List.getD_eq_getElem?_getD, List.getElem?_eq_getElem (by omega)]; exact List.getElem_mem _
    have rx := rA _ hx
    generalize A.getD i 0 = y at *
    have ry : 0 ≤ y ∧ y ≤ 255 := rx
    have ry0 : 0 ≤ y ∧ y ≤ 255 := rx
    have et : y.tmod 10 = y % 10 := Int.tmod_eq_emod_of_nonneg (by omega)
    have w2 : IntKind.i64.wrap (y.tmod 10) = y.tmod 10 := by rw [et]; exact wrap_i64 (by omega) (by omega)
    obtain ⟨l1, l2⟩ := mayP_le mP
    have gh := gHas_val hP (by omega) (y.tmod 10)
    obtain ⟨v', H1, e1, q, k1⟩ := call_Add (s := S3) rfl rfl S3_path_May hP (by omega) (y.tmod 10)
    rw [mayP_add mP] at q
    generalize hxy : y.tmod 10 = x at *
    have hP1 := rdI_kept k1 hP
    have hA1 := rdI_kept k1 hA
    have w3 : IntKind.i64.wrap ((P.length : Int) + 1) = (P.length : Int) + 1 := wrap_i64 (by omega) (by omega)
    have w4 : IntKind.i64.wrap ((P.length : Int) - 1) = (P.length : Int) - 1 := wrap_i64 (by omega) (by omega)
    rw [L_pleachlaw2_PathOnce_2_eq, p_pleachlaw2_PathOnce_2]
    rcases q with ⟨m1, q, rfl, hQ, cQ⟩ | ⟨m1, rfl⟩
    · have m2 := m1
      simp only [Bool.not_eq_true', Bool.or_eq_false_iff, decide_eq_false_iff_not] at m2
      obtain ⟨⟨⟨m3, m4⟩, m5⟩, m6⟩ := m2
      rw [m3] at gh
      have g2 := gHas_val hQ (by simp; omega) x
      rw [show (P ++ [x]).contains x = true by simp] at g2
      have mQ : mayP (P ++ [x]) = true := by rw [mayP_add mP, m1]
      have g3 := gGrand_val hQ (by simp; omega)
      have g4 := gMay_val hQ cQ (by simp; omega)
      rw [mQ] at g4
      have eg : grandP (P ++ [x]) = P.getD (P.length - 1) 0 := by
        unfold grandP
        rw [if_neg (by simp; omega)]
        simp only [List.length_append, List.length_singleton, Nat.add_sub_cancel, List.getD_eq_getElem?_getD]
        rw [show P.length + 1 - 2 = P.length - 1 by omega, List.getElem?_append_left (by omega)]
      rw [eg] at g3
      have b1 := rdI_iad hQ .i64 (i := (P.length : Int)) (by omega) (by simp; omega)
      have b2 := rdI_ld hQ (i := (P.length : Int)) (by omega) (by simp; omega)
      have b3 : (P ++ [x]).getD ((P.length : Int)).toNat 0 = x := by simp
      rw [b3] at b2
      have c1 := rdI_iad hP1 .i64 (i := (P.length : Int) - 1) (by omega) (by omega)
      have c2 := rdI_ld hP1 (i := (P.length : Int) - 1) (by omega) (by omega)
      rw [show ((P.length : Int) - 1).toNat = P.length - 1 by omega] at c2
      have d1 := rdI_len hQ
      rw [show ((P ++ [x]).length : Int) = (P.length : Int) + 1 by simp] at d1
      generalize P.getD (P.length - 1) 0 = z at *
      have x1 : (x < 1) = False := eq_false m4
      have x2 : (8 < x) = False := eq_false m5
      have x3 : ((P.length : Int) ≥ 10) = False := eq_false (by omega)
      have x4 : ((10 : Int) ≤ P.length) = False := eq_false (by omega)
      obtain ⟨H', hr⟩ := ih (i + 1) H1 q (P ++ [x]) (by omega) hA1 rA hQ cQ mQ
      refine ⟨H', ?_⟩
      simp [-List.contains_eq_mem, h, rdI_len hA, a1, a2, hxy, w2, S3_path_Has, S3_path_Grand, S3_path_May, gh, e1, x1, x2, x3, x4, rdI_len hP, rdI_len hP1, d1, w3, w4, b1, b2, c1, c2, g2, g3, g4, h5, p_pleachlaw2_PathOnce_0, p_pleachlaw2_PathOnce_1, L_pleachlaw2_PathOnce_2_fold]
      simpa using hr
    · obtain ⟨H', hr⟩ := ih (i + 1) H1 p P (by omega) hA1 rA hP1 cP mP
      have g4 := gMay_val hP1 cP (by omega)
      rw [mP] at g4
      refine ⟨H', ?_⟩
      have key : (P.contains x || decide (x < 1) || decide (x > 8) || decide ((P.length : Int) ≥ 10)) = true := by
        have : decide ((P.length : Int) ≥ 10) = decide (P.length ≥ 10) := decide_eq_decide.2 (by omega)
        rw [this]
        rw [Bool.not_eq_false'] at m1
        exact m1
      cases q1 : P.contains x with
      | true =>
        rw [q1] at gh
        simp [-List.contains_eq_mem, h, rdI_len hA, a1, a2, hxy, w2, S3_path_Has, S3_path_Grand, S3_path_May, gh, e1, rdI_len hP, rdI_len hP1, w3, w4, g4, h5, p_pleachlaw2_PathOnce_0, p_pleachlaw2_PathOnce_1, L_pleachlaw2_PathOnce_2_fold]
        simpa using hr
      | false =>
        rw [q1] at gh key
        rw [Bool.false_or] at key
        by_cases x1 : x < 1
        · simp [-List.contains_eq_mem, h, rdI_len hA, a1, a2, hxy, w2, S3_path_Has, S3_path_Grand, S3_path_May, gh, e1, x1, rdI_len hP, rdI_len hP1, w3, w4, g4, h5, p_pleachlaw2_PathOnce_0, p_pleachlaw2_PathOnce_1, L_pleachlaw2_PathOnce_2_fold]
          simpa using hr
        · by_cases x2 : 8 < x
          · simp [-List.contains_eq_mem, h, rdI_len hA, a1, a2, hxy, w2, S3_path_Has, S3_path_Grand, S3_path_May, gh, e1, x1, x2, rdI_len hP, rdI_len hP1, w3, w4, g4, h5, p_pleachlaw2_PathOnce_0, p_pleachlaw2_PathOnce_1, L_pleachlaw2_PathOnce_2_fold]
            simpa using hr
          · have x3 : (10 : Int) ≤ P.length := by simpa [x1, x2] using key
            simp [-List.contains_eq_mem, h, rdI_len hA, a1, a2, hxy, w2, S3_path_Has, S3_path_Grand, S3_path_May, gh, e1, x1, x2, x3, rdI_len hP, rdI_len hP1, w3, w4, g4, h5, p_pleachlaw2_PathOnce_0, p_pleachlaw2_PathOnce_1, L_pleachlaw2_PathOnce_2_fold]
            simpa using hr

theorem law_PathOnce {H : AHeap} (v : AV) (A : List Int) (hA : rdI .u8 H v = some A) (_ : A.length ≤ maxLen) (rA : ∀ n ∈ A, IntKind.u8.min ≤ n ∧ n ≤ IntKind.u8.max) :
    EndsV (callV (env S3) 15 [v] H) fun v _ => v = .bool true := by
  rw [f_pleachlaw2_PathOnce rfl, p_pleachlaw2_PathOnce]
  by_cases h1 : (12 : Int) < A.length
  · simp [S3_pleachlaw2_begun, gTrue, rdI_len hA, h1]
  have k1 : Kept H (H.push (some (.cells .exact 1 [.int .i64 1]))) := (Kept.refl _).push _
  obtain ⟨H', e⟩ := loop_Once (by omega) A.length 0 (H.push (some (.cells .exact 1 [.int .i64 1]))) (.sl H.size 0 1 (.ex 1)) [1] (by omega) (rdI_kept k1 hA) rA (rdI_mk (l := [1]) (more := []) (kd := .exact) (z := 1) (by simp) (by simp)) rfl rfl
  rw [show ((0 : Nat) : Int) = 0 from rfl] at e
  simp [S3_pleachlaw2_begun, gTrue, rdI_len hA, h1, L_pleachlaw2_PathOnce_2_fold, e, p_pleachlaw2_PathOnce_3]
end Go.Proofs.Ytncbinaaagmmaaa.Bp
