/- The law PathFronts. -/
import Derived.Test.YtncbinaaagmmaaaWdPathAll
set_option linter.unusedVariables false
set_option linter.unusedSimpArgs false
namespace Go.Proofs.Ytncbinaaagmmaaa.Bp
open Go.Ab
set_option maxRecDepth 100000

theorem take_snoc {l : List Int} {i : Nat} (h : i < l.length) : l.take i ++ [l.getD i 0] = l.take (i + 1) := by
  rw [List.take_add_one, List.getD_eq_getElem?_getD, List.getElem?_eq_getElem h]; rfl

theorem loop_Fronts {c p : AV} {P : List Int} (cP : capOk p = true) (mP : mayP P = true) : ∀ (n i : Nat) (H : AHeap) (x : AV), i + n = P.length → 1 ≤ i → rdI .i64 H p = some P → rdI .i64 H x = some (P.take i) →
    ∃ x' H', L_pleachlaw2_PathFronts_0 S5 c p x (.int .i64 i) H = some (.exit 0, X_pleachlaw2_PathFronts_0_x0 c p x', H') ∧ rdI .i64 H' x' = some P ∧ Kept H H' := by
  obtain ⟨m1, m2⟩ := mayP_le mP
  intro n
  induction n with
  | zero =>
    intro i H x hi h1 hP hx
    refine ⟨x, H, ?_, ?_, Kept.refl H⟩
    · rw [L_pleachlaw2_PathFronts_0_eq, p_pleachlaw2_PathFronts_0]
      have h : ¬ ((i : Int) < P.length) := by omega
      simp [h, rdI_len hP]
    · rwa [List.take_of_length_le (by omega)] at hx
  | succ n ih =>
    intro i H x hi h1 hP hx
    have h : (i : Int) < P.length := by omega
    have h0 : (0 : Int) ≤ i := by omega
    have h5 : IntKind.i64.wrap ((i : Int) + 1) = (i : Int) + 1 := wrap_i64 (by omega) (by omega)
    have h6 : IntKind.i64.wrap ((i : Int) - 1) = (i : Int) - 1 := wrap_i64 (by omega) (by omega)
    have a1 := rdI_iad hP .i64 h0 h
    have a2 := rdI_ld hP h0 h
    simp only [Int.toNat_natCast] at a2
    have hlx : (P.take i).length = i := by simp; omega
    obtain ⟨v', H1, e1, q, k1⟩ := call_Add (s := S5) rfl rfl S5_path_May hx (by omega) (P.getD i 0)
    rw [take_snoc (by omega)] at q
    have mq := mayP_take mP (i := i + 1) (by omega) (by omega)
    have mi := mayP_take mP (i := i) (by omega) (by omega)
    have nq := mayP_new mP (i := i) (by omega)
    rcases q with ⟨_, q, rfl, hQ, cQ⟩ | ⟨c1, rfl⟩
    · have hP1 := rdI_kept k1 hP
      obtain ⟨w, s1, s2, s3⟩ := slc_take (kk := .i64) hP1 cP (show i ≤ P.length by omega)
      have g1 := gMay_val s2 s3 (by omega)
      rw [mi] at g1
      have g2 := gHas_val s2 (by omega) (P.getD i 0)
      rw [nq] at g2
      have hlq : (P.take (i + 1)).length = i + 1 := by simp; omega
      have g3 := gGrand_val hQ (by omega)
      have eg : grandP (P.take (i + 1)) = P.getD (i - 1) 0 := by
        unfold grandP
        rw [if_neg (by omega), hlq, show i + 1 - 2 = i - 1 by omega, List.getD_eq_getElem?_getD, List.getD_eq_getElem?_getD, List.getElem?_take_of_lt (by omega)]
      rw [eg] at g3
      have b1 := rdI_iad hP1 .i64 (i := (i : Int) - 1) (by omega) (by omega)
      have b2 := rdI_ld hP1 (i := (i : Int) - 1) (by omega) (by omega)
      rw [show ((i : Int) - 1).toNat = i - 1 by omega] at b2
      have a3 := rdI_iad hP1 .i64 h0 h
      have a4 := rdI_ld hP1 h0 h
      simp only [Int.toNat_natCast] at a4
      obtain ⟨x', H', hr, hx', k'⟩ := ih (i + 1) H1 q (by omega) (by omega) hP1 hQ
      refine ⟨x', H', ?_, hx', k1.trans k'⟩
      rw [L_pleachlaw2_PathFronts_0_eq, p_pleachlaw2_PathFronts_0]
      generalize P.getD i 0 = y at *
      generalize P.getD (i - 1) 0 = z at *
      simp [h, rdI_len hP, a1, a2, a3, a4, e1, s1, S5_path_May, S5_path_Has, S5_path_Grand, g1, g2, g3, h6, b1, b2, h5, L_pleachlaw2_PathFronts_0_fold]
      simpa using hr
    · rw [mq] at c1; cases c1

theorem law_PathFronts {H : AHeap} (v : AV) (B : List Int) (hB : rdI .u8 H v = some B) (_ : B.length ≤ maxLen) (rB : ∀ n ∈ B, IntKind.u8.min ≤ n ∧ n ≤ IntKind.u8.max) (c : Int) (hc : IntKind.u8.min ≤ c ∧ c ≤ IntKind.u8.max) :
    EndsV (callV (env S5) 17 [v, .int .u8 c] H) fun v _ => v = .bool true := by
  rw [f_pleachlaw2_PathFronts rfl, p_pleachlaw2_PathFronts]
  by_cases h2 : (6 : Int) < B.length
  · simp [S5_pleachlaw2_begun, gTrue, rdI_len hB, h2]
  obtain ⟨H1, e1, hp1, k1, _⟩ := call_Made (s := S5) rfl hB (by omega) rB
  obtain ⟨p, H2, e2, P, n', hP, cP, mP, hp2, hs2⟩ := call_Path (s := S5) rfl rfl rfl S5_pleachref1_MayPath hp1
  have k3 : Kept H2 (H2.push (some (.cells .exact 1 [.int .i64 1]))) := (Kept.refl _).push _
  obtain ⟨m1, m2⟩ := mayP_le mP
  have hx : rdI .i64 (H2.push (some (.cells .exact 1 [.int .i64 1]))) (.sl H2.size 0 1 (.ex 1)) = some (P.take 1) := by
    have : P.take 1 = [1] := by
      unfold mayP at mP
      rw [Bool.and_eq_true, decide_eq_true_eq] at mP
      cases P with
      | nil => simp at m1
      | cons a P => have := mP.1.2.2; simp at this; subst this; rfl
    rw [this]
    exact rdI_mk (l := [1]) (more := []) (kd := .exact) (z := 1) (by simp) (by simp)
  obtain ⟨x', H4, e4, hx4, k4⟩ := loop_Fronts (c := .int .u8 c) cP mP (P.length - 1) 1 _ _ (by omega) (by omega) (rdI_kept k3 hP) hx
  rw [show ((1 : Nat) : Int) = 1 from rfl] at e4
  have hP4 : rdI .i64 H4 p = some P := rdI_kept (k3.trans k4) hP
  have hc8 : 0 ≤ c ∧ c ≤ 255 := hc
  have w1 : IntKind.i64.wrap c = c := wrap_i64 (by omega) (by omega)
  have hne : ¬ (P.length : Int) = 0 := by omega
  have hP0 : P ≠ [] := by intro e; subst e; simp at m1
  obtain ⟨k, hk⟩ : ∃ k : Nat, c.tmod P.length = k ∧ k < P.length := by
    rw [Int.tmod_eq_emod_of_nonneg (by omega)]
    have a1 := Int.emod_nonneg c hne
    have a2 := Int.emod_lt_of_pos c (show (0 : Int) < P.length by omega)
    exact ⟨(c % (P.length : Int)).toNat, by omega, by omega⟩
  obtain ⟨hk1, hk2⟩ := hk
  have w2 : IntKind.i64.wrap (1 + (k : Int)) = 1 + k := wrap_i64 (by omega) (by omega)
  have w3 : IntKind.i64.wrap (1 + (k : Int) - 1) = (k : Int) := by rw [show 1 + (k : Int) - 1 = k by omega]; exact wrap_i64 (by omega) (by omega)
  have w4 : IntKind.i64.wrap (k : Int) = (k : Int) := wrap_i64 (by omega) (by omega)
  have g1 := gSame_val hx4 hP4 (by omega) (by omega)
  rw [decide_eq_true rfl] at g1
  obtain ⟨w, s1, s2, s3⟩ := slc_take (kk := .i64) hP4 cP (show 1 + k ≤ P.length by omega)
  have g2 := gMay_val s2 s3 (by simp; omega)
  rw [mayP_take mP (by omega) (by omega)] at g2
  have b1 := rdI_iad hP4 .i64 (i := (k : Int)) (by omega) (by omega)
  have b2 := rdI_ld hP4 (i := (k : Int)) (by omega) (by omega)
  rw [Int.toNat_natCast] at b2
  have hin : P.getD k 0 ∈ P := by
    rw [List.getD_eq_getElem?_getD, List.getElem?_eq_getElem hk2]; exact List.getElem_mem _
  have g3 := gHas_val hP4 (by omega) (P.getD k 0)
  rw [show P.contains (P.getD k 0) = true from List.contains_iff_mem.2 hin] at g3
  obtain ⟨u, t1, t2⟩ := slc_drop (kk := .i64) hP4 cP (show 1 + k ≤ P.length by omega)
  have g4 : gMay [u] H4 = some (.bool false, H4) := by
    rcases t2 with ⟨t2, t3⟩ | ⟨_, r, o, k, d, rfl⟩
    · have := gMay_val t2 t3 (by simp; omega)
      rwa [mayP_drop mP (by omega)] at this
    · rfl
  rw [show ((1 + k : Nat) : Int) = 1 + k by omega] at s1 t1
  generalize P.getD k 0 = y at *
  simp [S5_pleachlaw2_begun, gTrue, rdI_len hB, h2, e1, e2, L_pleachlaw2_PathFronts_0_fold, e4, p_pleachlaw2_PathFronts_1, w1, rdI_len hP4, hne, hP0, hk1, w2, w3, w4, S5_pleachref1_SameInts, S5_path_May, S5_path_Has, g1, s1, g2, b1, b2, g3, t1, g4]
end Go.Proofs.Ytncbinaaagmmaaa.Bp
