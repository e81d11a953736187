/- The law WinAny: the walk. -/
import Derived.Test.YtcledejamnnbmaaPcFeed5
import Derived.Test.YtcledejamnnbmaaPmWin
set_option linter.unusedVariables false
set_option linter.unusedSimpArgs false
namespace Go.Proofs.Ytcledejamnnbmaa.Ps
open Go.Ab Go.Feed
set_option maxRecDepth 100000
theorem wrap_u8 {i : Int} (h : 0 ≤ i) (h2 : i ≤ 255) : IntKind.u8.wrap i = i := by
  have : IntKind.u8.wrap i = i % 256 := rfl
  rw [this]; omega
theorem tmod_e {a b : Int} (h : 0 ≤ a) : a.tmod b = a % b := Int.tmod_eq_emod_of_nonneg h
theorem u8v {A : List Int} (rA : ∀ n ∈ A, 0 ≤ n ∧ n ≤ 255) {i : Nat} (h : i < A.length) : 0 ≤ A.getD i 0 ∧ A.getD i 0 ≤ 255 := by
  rw [List.getD_eq_getElem?_getD, List.getElem?_eq_getElem h]; exact rA _ (List.getElem_mem _)
structure W3 (w : List It) (v : AV) : Prop where
  sl : Sl 2 (w.map It.v) v
  so : Sorted w
  lo : ∀ y ∈ w, 3 ≤ y.seq
  hi : ∀ y ∈ w, y.seq < 3 + 8
theorem W3.len {w : List It} {v : AV} (h : W3 w v) : w.length ≤ 8 := by
  have := sorted_len h.so h.lo h.hi (by omega); omega
theorem W3.put1 {w : List It} {v : AV} (h : W3 w v) (x : It) : W3 (put w 3 x).1 (its (put w 3 x).1) := ⟨Sl.fz 2 _, put_sorted h.so 3 x, put_ge h.lo, put_lt h.hi⟩
section
variable {Q : AHeap}
theorem W3.call {w : List It} {v : AV} (h : W3 w v) {x : It} (hx : 0 ≤ x.seq ∧ x.seq ≤ 100) : callP (penv P1) 22 [v, .int .i64 3, .agg [.int .i64 x.seq, .str x.text]] Q = some (.tup [its (put w 3 x).1, .bool (put w 3 x).2], Q) :=
  c_Put (n := 3) (x := x) h.sl (by have := h.len; omega) h.so (by omega) (by omega)
theorem loop_WA {A : List Int} (hA : A.length ≤ 20) (rA : ∀ n ∈ A, 0 ≤ n ∧ n ≤ 255) {a b : AV} : ∀ (m i : Nat) (w : List It) (v : AV), i + m = A.length → W3 w v →
    ∃ w' v', W3 w' v' ∧ L_pleachlaw15_WinAny_0 P1 (.fz 1 (A.map (AV.int .u8))) a b v (.int .i64 i) Q = X_pleachlaw15_WinAny_0_x0 a b v' Q := by
  intro m
  induction m with
  | zero =>
    intro i w v hi hw
    obtain rfl : i = A.length := by omega
    refine ⟨w, v, hw, ?_⟩
    rw [L_pleachlaw15_WinAny_0_eq, p_pleachlaw15_WinAny_0]
    simp
  | succ m ih =>
    intro i w v hi hw
    have h : ((i : Int) < A.length) = True := eq_true (by omega)
    have e := elQ_ints (k := .u8) (kk := .i64) (l := A) (i := (i : Int)) (by omega) (by omega)
    simp only [Int.toNat_natCast] at e
    have hv := u8v rA (i := i) (by omega)
    generalize A.getD i 0 = z at *
    have m1 := tmod_e (a := z) (b := 9) hv.1
    have w0 := wrap_u8 (i := z % 9) (by omega) (by omega)
    have w1 := w64 (i := z % 9) (by omega) (by omega)
    have w2 := w64 (i := 3 + z % 9) (by omega) (by omega)
    have w3 := w64 (i := (i : Int) + 1) (by omega) (by omega)
    have c := fun (Q : AHeap) => hw.call (Q := Q) (x := ⟨3 + z % 9, [120]⟩) (by simp only; omega)
    obtain ⟨w', v', h1, ih⟩ := ih (i + 1) _ _ (by omega) (hw.put1 ⟨3 + z % 9, [120]⟩)
    refine ⟨w', v', h1, ?_⟩
    generalize put w 3 ⟨3 + z % 9, [120]⟩ = p at *
    rw [L_pleachlaw15_WinAny_0_eq, p_pleachlaw15_WinAny_0]
    simp [h, e, m1, w0, w1, w2, w3, c, L_pleachlaw15_WinAny_0_fold]
    simpa [its] using ih
theorem any_true {A : List Int} (rA : ∀ n ∈ A, 0 ≤ n ∧ n ≤ 255) {a b : Int} (ha : 0 ≤ a ∧ a ≤ 255) (hb : 0 ≤ b ∧ b ≤ 255) : callP (penv P1) 7 [.fz 1 (A.map (AV.int .u8)), .int .u8 a, .int .u8 b] Q = some (.bool true, Q) := by
  rw [f_pleachlaw15_WinAny rfl]
  have hb0 : ∀ Q, callP (penv P1) 21 [] Q = some (.bool true, Q) := fun Q => (callP_spec (E := penv P1) (f := 21) (g := gYes) rfl [] Q).trans (by simp [gYes])
  by_cases hA : 20 < A.length
  · have hA' : (20 : Int) < A.length := by omega
    simp [hb0, hA']
  have hA' : ¬ (20 : Int) < A.length := by omega
  obtain ⟨w, v, hw, lp⟩ := loop_WA (Q := Q) (a := .int .u8 a) (b := .int .u8 b) (by omega) rA A.length 0 [] .nils (by omega) ⟨Sl.nil 2, List.Pairwise.nil, by simp, by simp⟩
  rw [show ((0 : Nat) : Int) = 0 from rfl] at lp
  have m1 := tmod_e (a := a) (b := 13) ha.1
  have m2 := tmod_e (a := b) (b := 13) hb.1
  have w0 := wrap_u8 (i := a % 13) (by omega) (by omega)
  have w1 := w64 (i := a % 13) (by omega) (by omega)
  have w2 := w64 (i := 1 + a % 13) (by omega) (by omega)
  have u0 := wrap_u8 (i := b % 13) (by omega) (by omega)
  have u1 := w64 (i := b % 13) (by omega) (by omega)
  have u2 := w64 (i := 1 + b % 13) (by omega) (by omega)
  have pa : 0 ≤ 1 + a % 13 ∧ 1 + a % 13 ≤ 100 := by omega
  have pb : 0 ≤ 1 + b % 13 ∧ 1 + b % 13 ≤ 100 := by omega
  generalize hp : 1 + a % 13 = p at *
  generalize hq : 1 + b % 13 = q at *
  by_cases hpq : p = q
  · subst hpq
    simp [hb0, hA', hp, hq, L_pleachlaw15_WinAny_0_fold, lp, p_pleachlaw15_WinAny_1, m1, m2, w0, w1, w2, u0, u1, u2]
  · have c1 := fun (Q : AHeap) => hw.call (Q := Q) (x := ⟨p, [112]⟩) pa
    have c2 := fun (Q : AHeap) => (hw.put1 ⟨p, [112]⟩).call (Q := Q) (x := ⟨q, [113]⟩) pb
    have c3 := fun (Q : AHeap) => hw.call (Q := Q) (x := ⟨q, [113]⟩) pb
    have c4 := fun (Q : AHeap) => (hw.put1 ⟨q, [113]⟩).call (Q := Q) (x := ⟨p, [112]⟩) pa
    have cm := put_comm hw.so 3 (p := ⟨p, [112]⟩) (q := ⟨q, [113]⟩) hpq
    have h2 := (hw.put1 ⟨p, [112]⟩).put1 ⟨q, [113]⟩
    have l1 := put_len2 w 3 ⟨p, [112]⟩
    have l2 := put_len2 (put w 3 ⟨p, [112]⟩).1 3 ⟨q, [113]⟩
    have l8 := h2.len
    have hl := hw.sl.len
    simp only at c1 c2 c3 c4
    rw [← cm] at c4
    generalize put w 3 ⟨p, [112]⟩ = P at *
    generalize put w 3 ⟨q, [113]⟩ = R at *
    generalize (put P.1 3 ⟨q, [113]⟩) = S at *
    generalize (put R.1 3 ⟨p, [112]⟩) = T at *
    have sm := fun (Q : AHeap) => d_SameI (Q := Q) (Sl.fz 2 (S.1.map It.v)) (Sl.fz 2 (S.1.map It.v)) (by omega)
    have g1 : ((w.length : Int) ≤ (S.1.length : Int)) = True := eq_true (by omega)
    have g2 : ((S.1.length : Int) ≤ 8) = True := eq_true (by omega)
    simp only [List.length_map] at hl
    simp [hb0, hA', L_pleachlaw15_WinAny_0_fold, lp, p_pleachlaw15_WinAny_1, m1, m2, w0, w1, w2, u0, u1, u2, hp, hq, hpq, c1, c2, c3, c4, sm, hl, g1, g2]
end
end Go.Proofs.Ytcledejamnnbmaa.Ps
