/- The law PathAll. -/
import Derived.Test.YtncbinaaagmmaaaWdPathOnce
import Derived.Test.YtncbinaaagmmaaaWcPathRef
set_option linter.unusedVariables false
set_option linter.unusedSimpArgs false
namespace Go.Proofs.Ytncbinaaagmmaaa.Bp
open Go.Ab
set_option maxRecDepth 100000

def S4 : Specs := [(47, gHas)]
theorem ok_S4 : SpecsOk S4 := (ok_cons (ok_gHasR ok_S3 rfl) ok_nil)
theorem S4_pleachref1_Has (args : List AV) (H : AHeap) : callV (env S4) 47 args H = gHas args H := callV_spec rfl args H
def S5 : Specs := [(44, gMay), (46, gHas), (48, gGrand), (39, gTrue), (47, gHas), (43, gSame), (49, gGrand), (45, gMay)]
theorem ok_S5 : SpecsOk S5 := (ok_cons (ok_gMay ok_S2 rfl rfl S2_slices_Contains_int_int) (ok_cons (ok_gHas ok_S2 rfl S2_slices_Contains_int_int) (ok_cons (ok_gGrand ok_S1 rfl) (ok_cons (closedOk begun_runs) (ok_cons (ok_gHasR ok_nil rfl) (ok_cons (ok_gSame ok_nil rfl) (ok_cons (ok_gGrandR ok_nil rfl) (ok_cons (ok_gMayR ok_S4 rfl S4_pleachref1_Has) ok_nil))))))))
theorem S5_path_May (args : List AV) (H : AHeap) : callV (env S5) 44 args H = gMay args H := callV_spec rfl args H
theorem S5_path_Has (args : List AV) (H : AHeap) : callV (env S5) 46 args H = gHas args H := callV_spec rfl args H
theorem S5_path_Grand (args : List AV) (H : AHeap) : callV (env S5) 48 args H = gGrand args H := callV_spec rfl args H
theorem S5_pleachlaw2_begun (args : List AV) (H : AHeap) : callV (env S5) 39 args H = gTrue args H := callV_spec rfl args H
theorem S5_pleachref1_Has (args : List AV) (H : AHeap) : callV (env S5) 47 args H = gHas args H := callV_spec rfl args H
theorem S5_pleachref1_SameInts (args : List AV) (H : AHeap) : callV (env S5) 43 args H = gSame args H := callV_spec rfl args H
theorem S5_pleachref1_Grand (args : List AV) (H : AHeap) : callV (env S5) 49 args H = gGrand args H := callV_spec rfl args H
theorem S5_pleachref1_MayPath (args : List AV) (H : AHeap) : callV (env S5) 45 args H = gMay args H := callV_spec rfl args H

theorem iter_All {t u : AV} {l : List Int} {x : Int} {i : Nat} (hi : i < 2) {H : AHeap} (ht : iadA 1 t (.int .i64 i) = some (elp 1 t i)) (hl : ∀ H', Kept H H' → ldA H' (elp 1 t i) = some u) (hu : rdI .i64 H u = some l) (cu : capOk u = true) (hm : l.length ≤ 14) :
    ∃ H', L_pleachlaw2_PathAll_0 S5 (.int .i64 x) t (.int .i64 i) H = L_pleachlaw2_PathAll_0 S5 (.int .i64 x) t (.int .i64 (i + 1 : Nat)) H' ∧ Kept H H' := by
  have h5 : IntKind.i64.wrap ((i : Int) + 1) = (i : Int) + 1 := wrap_i64 (by omega) (by omega)
  have h : ((i : Int) < 2) = True := eq_true (by omega)
  obtain ⟨a, H1, e1, q1, k1⟩ := call_Add (s := S5) rfl rfl S5_path_May hu (by omega) x
  have hu1 := rdI_kept k1 hu
  obtain ⟨b, H2, e2, q2, k2⟩ := call_AddR (s := S5) rfl S5_pleachref1_MayPath hu1 (by omega) x
  have kk := k1.trans k2
  have hu2 := rdI_kept k2 hu1
  refine ⟨H2, ?_, kk⟩
  have y0 := hl H (Kept.refl H)
  have y1 := hl H1 k1
  have y2 := hl H2 kk
  have m1 := gMay_val hu2 cu (by omega)
  have m2 := gHas_val hu2 (by omega) x
  have m3 := gGrand_val hu2 (by omega)
  rw [L_pleachlaw2_PathAll_0_eq, p_pleachlaw2_PathAll_0]
  rcases q1 with ⟨c1, p1, rfl, r1, s1⟩ | ⟨c1, rfl⟩
  · rcases q2 with ⟨c2, p2, rfl, r2, s2, _⟩ | ⟨c2, rfl⟩
    · have m4 := gSame_val (rdI_kept k2 r1) r2 (by simp; omega) (by simp; omega)
      rw [decide_eq_true rfl] at m4
      simp [h, ht, y0, y1, y2, e1, e2, S5_pleachref1_SameInts, S5_path_May, S5_pleachref1_MayPath, S5_path_Has, S5_pleachref1_Has, S5_path_Grand, S5_pleachref1_Grand, m1, m2, m3, m4, h5, L_pleachlaw2_PathAll_0_fold]
    · rw [c1] at c2; cases c2
  · rcases q2 with ⟨c2, p2, rfl, r2, s2⟩ | ⟨c2, rfl⟩
    · rw [c1] at c2; cases c2
    · have m4 : gSame [.nils, .nils] H2 = some (.bool true, H2) := rfl
      simp [h, ht, y0, y1, y2, e1, e2, S5_pleachref1_SameInts, S5_path_May, S5_pleachref1_MayPath, S5_path_Has, S5_pleachref1_Has, S5_path_Grand, S5_pleachref1_Grand, m1, m2, m3, m4, h5, L_pleachlaw2_PathAll_0_fold]

theorem law_PathAll {H : AHeap} (v : AV) (A : List Int) (hA : rdI .i64 H v = some A) (_ : A.length ≤ maxLen) (rA : ∀ n ∈ A, IntKind.i64.min ≤ n ∧ n ≤ IntKind.i64.max) (cA : capOk v = true)
    (v2 : AV) (B : List Int) (hB : rdI .u8 H v2 = some B) (_ : B.length ≤ maxLen) (rB : ∀ n ∈ B, IntKind.u8.min ≤ n ∧ n ≤ IntKind.u8.max) (x : Int) (hx : IntKind.i64.min ≤ x ∧ x ≤ IntKind.i64.max) :
    EndsV (callV (env S5) 14 [v, v2, .int .i64 x] H) fun v _ => v = .bool true := by
  rw [f_pleachlaw2_PathAll rfl, p_pleachlaw2_PathAll]
  by_cases h1 : (14 : Int) < A.length
  · simp [S5_pleachlaw2_begun, gTrue, rdI_len hA, h1]
  by_cases h2 : (6 : Int) < B.length
  · simp [S5_pleachlaw2_begun, gTrue, rdI_len hA, rdI_len hB, h1, h2]
  obtain ⟨H1, e1, hp1, k1, _⟩ := call_Made (s := S5) rfl hB (by omega) rB
  obtain ⟨p, H2, e2, P, n', hP, cP, mP, hp2, hs2⟩ := call_Path (s := S5) rfl rfl rfl S5_pleachref1_MayPath hp1
  have hr : H.size < H1.size := by obtain ⟨_, _, _, h, _⟩ := hp1; exact h
  have k2 : Kept H H2 := ⟨by have := k1.size; have := hs2.size; omega, fun r hr => by rw [hs2.get r ⟨by omega, by omega⟩, k1.get r hr]⟩
  let H3 := H2.push (some (.cells .exact 1 [v, p]))
  have k3 : Kept H2 H3 := (Kept.refl _).push _
  have hA3 : rdI .i64 H3 v = some A := rdI_kept (k2.trans k3) hA
  have hP3 : rdI .i64 H3 p = some P := rdI_kept k3 hP
  have g3 : H3.get H2.size = some (.cells .exact 1 [v, p]) := by simp [H3]
  have z3 : H2.size < H3.size := by simp [H3]
  have ld : ∀ (i : Nat) (u : AV), [v, p][i]? = some u → ∀ H', Kept H3 H' → ldA H' (elp 1 (.sl H2.size 0 2 (.ex 2)) i) = some u := by
    intro i u hu H' hk
    have := hk.get H2.size z3
    rw [g3] at this
    simp [elp, this, hu]
  have il : ∀ (i : Nat), i < 2 → iadA 1 (.sl H2.size 0 2 (.ex 2)) (.int .i64 i) = some (elp 1 (.sl H2.size 0 2 (.ex 2)) i) := by
    intro i hi
    have a1 : (0 : Int) ≤ i := by omega
    have a2 : (i : Int) < 2 := by omega
    simp [elp, a1, a2]
  obtain ⟨m1, m2⟩ := mayP_le mP
  obtain ⟨H4, e4, k4⟩ := iter_All (x := x) (i := 0) (by omega) (il 0 (by omega)) (ld 0 v rfl) hA3 cA (by omega)
  obtain ⟨H5, e5, k5⟩ := iter_All (x := x) (i := 1) (by omega) (il 1 (by omega)) (fun H' hk => ld 1 p rfl H' (k4.trans hk)) (rdI_kept k4 hP3) cP (by omega)
  have e6 : L_pleachlaw2_PathAll_0 S5 (.int .i64 x) (.sl H2.size 0 2 (.ex 2)) (.int .i64 2) H5 = some (.exit 0, X_pleachlaw2_PathAll_0_x0 (.sl H2.size 0 2 (.ex 2)), H5) := by
    rw [L_pleachlaw2_PathAll_0_eq, p_pleachlaw2_PathAll_0]
    simp
  have e7 : L_pleachlaw2_PathAll_0 S5 (.int .i64 x) (.sl H2.size 0 2 (.ex 2)) (.int .i64 0) H3 = some (.exit 0, X_pleachlaw2_PathAll_0_x0 (.sl H2.size 0 2 (.ex 2)), H5) := by
    rw [show ((0 : Nat) : Int) = 0 from rfl] at e4
    rw [e4, show ((0 + 1 : Nat) : Int) = ((1 : Nat) : Int) from rfl, e5]
    exact e6
  have i1 := il 1 (by omega)
  have l1 := ld 1 p rfl H5 (k4.trans k5)
  rw [show ((1 : Nat) : Int) = 1 from rfl] at i1 l1
  have m1 := gMay_val (rdI_kept (k4.trans k5) hP3) cP (by omega)
  rw [mP] at m1
  simp only [H3] at e7
  obtain ⟨f1, f2, f3⟩ := rd_flat hA
  obtain ⟨f4, f5, f6⟩ := rd_flat hP
  simp [S5_pleachlaw2_begun, gTrue, rdI_len hA, rdI_len hB, h1, h2, e1, e2, L_pleachlaw2_PathAll_0_fold, f1, f2, f3, f4, f5, f6]
  simp [e7, p_pleachlaw2_PathAll_1, i1, l1, S5_path_May, m1]
end Go.Proofs.Ytncbinaaagmmaaa.Bp
