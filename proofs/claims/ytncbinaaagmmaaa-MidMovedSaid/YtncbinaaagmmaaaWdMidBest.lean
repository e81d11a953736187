/- The law MidBest. -/
import Derived.Test.YtncbinaaagmmaaaWdMid
set_option linter.unusedVariables false
set_option linter.unusedSimpArgs false
namespace Go.Proofs.Ytncbinaaagmmaaa.Bm
open Go.Ab
set_option maxRecDepth 100000

theorem at_ent {D : List (List Int)} (h : Good D) {a b : Int} (ha : 1 ≤ a ∧ a ≤ 8) (hb : 1 ≤ b ∧ b ≤ 8) : ent D a b = ent D b a := by
  have := h.sym (a - 1).toNat (b - 1).toNat (by omega) (by omega)
  simpa [at2, ent] using this

theorem mid_best {D : List (List Int)} {L : List Int} (hf : Fit D L) (h0 : L ≠ []) : IsBest (fun x => farP D x L) L (midP D L) := by
  obtain ⟨b, h⟩ := leastP_best (f := fun x => farP D x L) (q := fun _ => true) hf.2.1
  rcases h with ⟨e, _⟩ | ⟨h, _, _⟩
  · have : L.filter (fun _ => true) = L := by simp
    rw [this] at e; exact absurd e h0
  · have : L.filter (fun _ => true) = L := by simp
    rw [this] at h; exact h
theorem near_best {D : List (List Int)} {L : List Int} {m : Int} (hf : Fit D L) : (nearP D m L = 0 ∧ ∀ x ∈ L, x = m) ∨ IsBest (fun x => ent D m x) (L.filter fun x => decide (x ≠ m)) (nearP D m L) := by
  obtain ⟨b, h⟩ := leastP_best (f := fun x => ent D m x) (q := fun x => decide (x ≠ m)) hf.2.1
  rcases h with ⟨e, h⟩ | ⟨h, _, _⟩
  · refine Or.inl ⟨h, fun x hx => ?_⟩
    refine Classical.byContradiction fun hne => ?_
    have : x ∈ L.filter fun x => decide (x ≠ m) := List.mem_filter.2 ⟨hx, by simpa using hne⟩
    rw [e] at this; simp at this
  · exact Or.inr h

theorem iter_MidBest {H : AHeap} {d l : AV} {D : List (List Int)} {L : List Int} {k c n : Int} (hD : rdD H d = some D) (hL : rdI .i64 H l = some L) (hG : Good D) (hf : Fit D L) (hk : 1 ≤ k ∧ k ≤ 8) (hc : IsBest (fun x => farP D x L) L c)
    (hn : (n = 0 ∧ ∀ x ∈ L, x = k) ∨ IsBest (fun x => ent D k x) (L.filter fun x => decide (x ≠ k)) n) {i : Nat} (hi : i < L.length) (b : Bool) :
    L_pleachlaw7_MidBest_0 S3 d l (.int .i64 k) (.int .i64 c) (.int .i64 n) (.bool b) (.int .i64 i) H = L_pleachlaw7_MidBest_0 S3 d l (.int .i64 k) (.int .i64 c) (.int .i64 n) (.bool (b || decide (L.getD i 0 = c))) (.int .i64 (i + 1 : Nat)) H := by
  have hlen := hf.2.2
  have h : (i : Int) < L.length := by omega
  have h0 : (0 : Int) ≤ i := by omega
  have h5 : IntKind.i64.wrap ((i : Int) + 1) = (i : Int) + 1 := wrap_i64 (by omega) (by omega)
  have a1 := rdI_iad hL .i64 h0 h
  have a2 := rdI_ld hL h0 h
  simp only [Int.toNat_natCast] at a2
  have hm : L.getD i 0 ∈ L := by
    rw [List.getD_eq_getElem?_getD, List.getElem?_eq_getElem hi]; exact List.getElem_mem _
  generalize L.getD i 0 = x at *
  have hx8 := hf.2.1 x hm
  have hc8 := hf.2.1 c hc.1
  have g1 := gFar_val hD hL hf hc8
  have g2 := gFar_val hD hL hf hx8
  have q1 := hc.2 x hm
  simp only at q1
  have q2 : ent D x c ≤ farP D c L := by rw [at_ent hG hx8 hc8]; exact farP_le hm
  obtain ⟨u1, t1, t2, t3, t4, t5⟩ := tab_ent hD hf.1 hx8 hc8
  have w1 : IntKind.i64.wrap (x - 1) = x - 1 := wrap_i64 (by omega) (by omega)
  have w2 : IntKind.i64.wrap (c - 1) = c - 1 := wrap_i64 (by omega) (by omega)
  have w3 : IntKind.i64.wrap (k - 1) = k - 1 := wrap_i64 (by omega) (by omega)
  generalize farP D c L = fx at *
  generalize farP D x L = fy at *
  generalize ent D x c = e1 at *
  have c1 : ¬ fy < fx := by omega
  have c2 : ¬ fx < e1 := by omega
  have c3 : fx = fy → ¬ x < c := by omega
  have em : ∀ p : Prop, p = True ∨ p = False := fun p => by by_cases h : p <;> simp [h]
  have C1 := eq_false c1
  have C2 := eq_false c2
  rw [L_pleachlaw7_MidBest_0_eq, p_pleachlaw7_MidBest_0]
  rcases em (x = k) with hk2 | hk2
  · -- the one asked for
    rcases em (x = c) with e3 | e3 <;> rcases em (fx = fy) with e4 | e4
    · have C3 : (x < c) = False := eq_false (c3 (of_eq_true e4))
      cases b <;> simp [rdI_len hL, h, a1, a2, e3, e4, S3_mid_Far, g1, g2, t1, t2, t4, t5, w1, w2, C1, C2, C3, hk2, h5, L_pleachlaw7_MidBest_0_fold]
    · cases b <;> simp [rdI_len hL, h, a1, a2, e3, e4, S3_mid_Far, g1, g2, t1, t2, t4, t5, w1, w2, C1, C2, hk2, h5, L_pleachlaw7_MidBest_0_fold]
    · have C3 : (x < c) = False := eq_false (c3 (of_eq_true e4))
      cases b <;> simp [rdI_len hL, h, a1, a2, e3, e4, S3_mid_Far, g1, g2, t1, t2, t4, t5, w1, w2, C1, C2, C3, hk2, h5, L_pleachlaw7_MidBest_0_fold]
    · cases b <;> simp [rdI_len hL, h, a1, a2, e3, e4, S3_mid_Far, g1, g2, t1, t2, t4, t5, w1, w2, C1, C2, hk2, h5, L_pleachlaw7_MidBest_0_fold]
  · have hxk : x ≠ k := of_eq_false hk2
    have hn' : IsBest (fun x => ent D k x) (L.filter fun x => decide (x ≠ k)) n := by
      rcases hn with ⟨_, h⟩ | h
      · exact absurd (h x hm) hxk
      · exact h
    have hn8 : 1 ≤ n ∧ n ≤ 8 := hf.2.1 n (List.mem_filter.1 hn'.1).1
    have q3 := hn'.2 x (List.mem_filter.2 ⟨hm, by simpa using hxk⟩)
    simp only at q3
    obtain ⟨u2, s1, s2, s3, s4, s5⟩ := tab_ent hD hf.1 hk hn8
    obtain ⟨u3, r1, r2, r3, r4, r5⟩ := tab_ent hD hf.1 hk hx8
    have hu : u3 = u2 := by rw [s2] at r2; exact (Option.some.inj r2).symm
    subst hu
    have w4 : IntKind.i64.wrap (n - 1) = n - 1 := wrap_i64 (by omega) (by omega)
    generalize ent D k n = en at *
    generalize ent D k x = ex at *
    have D1 : (ex < en) = False := eq_false (by omega)
    have D2 : (n < 1) = False := eq_false (by omega)
    have D3 : (8 < n) = False := eq_false (by omega)
    rcases em (en = ex) with e5 | e5 <;> rcases em (x = c) with e3 | e3 <;> rcases em (fx = fy) with e4 | e4
    · have C3 : (x < c) = False := eq_false (c3 (of_eq_true e4))
      have D4 : (x < n) = False := eq_false (by have := of_eq_true e5; omega)
      cases b <;> simp [rdI_len hL, h, a1, a2, e3, e4, e5, S3_mid_Far, g1, g2, t1, t2, t4, t5, s1, s2, s4, s5, r4, r5, w1, w2, w3, w4, C1, C2, C3, D1, D2, D3, D4, hk2, h5, L_pleachlaw7_MidBest_0_fold]
    · have D4 : (x < n) = False := eq_false (by have := of_eq_true e5; omega)
      cases b <;> simp [rdI_len hL, h, a1, a2, e3, e4, e5, S3_mid_Far, g1, g2, t1, t2, t4, t5, s1, s2, s4, s5, r4, r5, w1, w2, w3, w4, C1, C2, D1, D2, D3, D4, hk2, h5, L_pleachlaw7_MidBest_0_fold]
    · have C3 : (x < c) = False := eq_false (c3 (of_eq_true e4))
      have D4 : (x < n) = False := eq_false (by have := of_eq_true e5; omega)
      cases b <;> simp [rdI_len hL, h, a1, a2, e3, e4, e5, S3_mid_Far, g1, g2, t1, t2, t4, t5, s1, s2, s4, s5, r4, r5, w1, w2, w3, w4, C1, C2, C3, D1, D2, D3, D4, hk2, h5, L_pleachlaw7_MidBest_0_fold]
    · have D4 : (x < n) = False := eq_false (by have := of_eq_true e5; omega)
      cases b <;> simp [rdI_len hL, h, a1, a2, e3, e4, e5, S3_mid_Far, g1, g2, t1, t2, t4, t5, s1, s2, s4, s5, r4, r5, w1, w2, w3, w4, C1, C2, D1, D2, D3, D4, hk2, h5, L_pleachlaw7_MidBest_0_fold]
    · have C3 : (x < c) = False := eq_false (c3 (of_eq_true e4))
      cases b <;> simp [rdI_len hL, h, a1, a2, e3, e4, e5, S3_mid_Far, g1, g2, t1, t2, t4, t5, s1, s2, s4, s5, r4, r5, w1, w2, w3, w4, C1, C2, C3, D1, D2, D3, hk2, h5, L_pleachlaw7_MidBest_0_fold]
    · cases b <;> simp [rdI_len hL, h, a1, a2, e3, e4, e5, S3_mid_Far, g1, g2, t1, t2, t4, t5, s1, s2, s4, s5, r4, r5, w1, w2, w3, w4, C1, C2, D1, D2, D3, hk2, h5, L_pleachlaw7_MidBest_0_fold]
    · have C3 : (x < c) = False := eq_false (c3 (of_eq_true e4))
      cases b <;> simp [rdI_len hL, h, a1, a2, e3, e4, e5, S3_mid_Far, g1, g2, t1, t2, t4, t5, s1, s2, s4, s5, r4, r5, w1, w2, w3, w4, C1, C2, C3, D1, D2, D3, hk2, h5, L_pleachlaw7_MidBest_0_fold]
    · cases b <;> simp [rdI_len hL, h, a1, a2, e3, e4, e5, S3_mid_Far, g1, g2, t1, t2, t4, t5, s1, s2, s4, s5, r4, r5, w1, w2, w3, w4, C1, C2, D1, D2, D3, hk2, h5, L_pleachlaw7_MidBest_0_fold]

theorem loop_MidBest {H : AHeap} {d l : AV} {D : List (List Int)} {L : List Int} {k c n : Int} (hD : rdD H d = some D) (hL : rdI .i64 H l = some L) (hG : Good D) (hf : Fit D L) (hk : 1 ≤ k ∧ k ≤ 8) (hc : IsBest (fun x => farP D x L) L c)
    (hn : (n = 0 ∧ ∀ x ∈ L, x = k) ∨ IsBest (fun x => ent D k x) (L.filter fun x => decide (x ≠ k)) n) : ∀ (m i : Nat) (b : Bool), i + m = L.length →
    L_pleachlaw7_MidBest_0 S3 d l (.int .i64 k) (.int .i64 c) (.int .i64 n) (.bool b) (.int .i64 i) H = some (.exit 0, X_pleachlaw7_MidBest_0_x0 l (.int .i64 k) (.int .i64 n) (.bool (b || (L.drop i).contains c)), H) := by
  intro m
  induction m with
  | zero =>
    intro i b hi
    rw [L_pleachlaw7_MidBest_0_eq, p_pleachlaw7_MidBest_0]
    have h : ¬ ((i : Int) < L.length) := by omega
    have hd : L.drop i = [] := by rw [List.drop_eq_nil_iff]; omega
    simp [h, hd, rdI_len hL]
  | succ m ih =>
    intro i b hi
    have e : decide (L.getD i 0 = c) = (c == L.getD i 0) := by
      rw [beqD]
      by_cases e : L.getD i 0 = c
      · rw [decide_eq_true e, decide_eq_true e.symm]
      · rw [decide_eq_false e, decide_eq_false (Ne.symm e)]
    rw [iter_MidBest hD hL hG hf hk hc hn (by omega) b, ih (i + 1) _ (by omega), drop_cons (by omega : i < L.length), List.contains_cons, Bool.or_assoc, e]

theorem law_MidBest {H : AHeap} (v : AV) (A : List Int) (hA : rdI .u8 H v = some A) (_ : A.length ≤ maxLen) (rA : ∀ n ∈ A, IntKind.u8.min ≤ n ∧ n ≤ IntKind.u8.max)
    (v2 : AV) (B : List Int) (hB : rdI .u8 H v2 = some B) (_ : B.length ≤ maxLen) (rB : ∀ n ∈ B, IntKind.u8.min ≤ n ∧ n ≤ IntKind.u8.max) (m : Int) (hm : IntKind.u8.min ≤ m ∧ m ≤ IntKind.u8.max) :
    EndsV (callV (env S3) 11 [v, v2, .int .u8 m] H) fun v _ => v = .bool true := by
  rw [f_pleachlaw7_MidBest rfl, p_pleachlaw7_MidBest]
  by_cases h1 : (30 : Int) < A.length
  · simp [S3_pleachlaw7_begun, gTrue, rdI_len hA, h1]
  by_cases h2 : (8 : Int) < B.length
  · simp [S3_pleachlaw7_begun, gTrue, rdI_len hA, rdI_len hB, h1, h2]
  obtain ⟨w1, w2, m1, m2⟩ := one_of (u8r hm)
  simp only [S3_pleachlaw7_begun, gTrue, bnS_some, unA_not, bnP_some, cndS_bool, Bool.not_true, Bool.false_eq_true, if_false, rdI_len hA, rdI_len hB, bin_gtr, gt_iff_lt, h1, h2, decide_false, wnt_bool, beq_self_eq_true, gdP_true, pickA_bool]
  refine pickTwo (least := 1) (by omega) hA hB (by omega) (by omega) (fun n hn => u8r (rA n hn)) (fun n hn => u8r (rB n hn)) fun w1' w3' d l D L H' hD hG hL hR hle => ?_
  have hf := rise_fit hG hR
  have hne : L ≠ [] := by intro e; subst e; simp at hle
  have g1 := gMid_val hD hL hf
  have g3 := gNear_val hD hL hf ⟨m1, m2⟩
  have hb := mid_best hf hne
  have hb8 := hf.2.1 _ hb.1
  have hnb := near_best (m := 1 + m.tmod 8) hf
  have hloop := loop_MidBest hD hL hG hf ⟨m1, m2⟩ hb hnb L.length 0 false (by omega)
  rw [List.drop_zero] at hloop
  have hcon : L.contains (midP D L) = true := List.contains_iff_mem.2 hb.1
  rw [hcon] at hloop
  simp only [Bool.false_or] at hloop
  have hz : ((0 : Nat) : Int) = 0 := rfl
  rw [hz] at hloop
  generalize midP D L = c at *
  have b1 : (c < 1) = False := eq_false (by omega)
  have b2 : (8 < c) = False := eq_false (by omega)
  have hend : nearP D (1 + m.tmod 8) L ≠ 1 + m.tmod 8 ∧ (nearP D (1 + m.tmod 8) L ≠ 0 ∨ L.length = 1 ∧ L.getD 0 0 = 1 + m.tmod 8) := by
    rcases hnb with ⟨h0, hall⟩ | h
    · refine ⟨by omega, Or.inr ?_⟩
      match L, hne, hR, hall with
      | [a], _, _, hall => exact ⟨rfl, hall a (by simp)⟩
      | a :: b :: L, _, hR, hall =>
        have h1 := hall a (by simp)
        have h2 := hall b (by simp)
        have := (List.pairwise_cons.1 hR.1).1 b (by simp)
        omega
    · have hm := List.mem_filter.1 h.1
      have := hf.2.1 _ hm.1
      exact ⟨by simpa using hm.2, Or.inl (by omega)⟩
  generalize nearP D (1 + m.tmod 8) L = n at *
  have E1 := eq_false hend.1
  have i0 := rdI_iad hL .i64 (i := 0) (by omega) (by cases L; exact absurd rfl hne; simp)
  have i1 := rdI_ld hL (i := 0) (by omega) (by cases L; exact absurd rfl hne; simp)
  simp only [Int.toNat_zero] at i1
  by_cases n0 : n = 0
  · obtain ⟨l1, l2⟩ := hend.2.resolve_left (fun h => h n0)
    subst n0
    rw [l2] at i1
    simp [w1, w2, S3_mid_Mid, S3_mid_Near, g1, g3, b1, b2, L_pleachlaw7_MidBest_0_fold, hloop, p_pleachlaw7_MidBest_1, rdI_len hL, E1, l1, i0, i1]
  · simp [w1, w2, S3_mid_Mid, S3_mid_Near, g1, g3, b1, b2, L_pleachlaw7_MidBest_0_fold, hloop, p_pleachlaw7_MidBest_1, rdI_len hL, E1, eq_false n0]
end Go.Proofs.Ytncbinaaagmmaaa.Bm
