/- The law TreeEither: the walk. -/
import Derived.Test.YtldehmfhgmmkhaaPdTreeMoved
set_option linter.unusedVariables false
set_option linter.unusedSimpArgs false
namespace Go.Proofs.Ytldehmfhgmmkhaa.Pt
open Go.Ab
set_option maxRecDepth 100000

def upsT (A : List Int) (n : Nat) : List Int := (List.range n).map fun (i : Nat) => (A.getD i 0).tmod ((A.length : Int) + 2)
theorem upsT_succ (A : List Int) (n : Nat) : upsT A (n + 1) = upsT A n ++ [(A.getD n 0).tmod ((A.length : Int) + 2)] := by simp [upsT, List.range_succ]
theorem upsT_len (A : List Int) (n : Nat) : (upsT A n).length = n := by simp [upsT]
theorem loop_ups {A : List Int} (hA : A.length ≤ 12) (rA : ∀ n ∈ A, 0 ≤ n ∧ n ≤ 255) {Q : AHeap} : ∀ (m n : Nat), n + m = A.length →
    L_pleachlaw21_ups_0 P1 (.fz 1 (A.map (AV.int .u8))) (.int .i64 n) ((upsT A n).map (AV.int .i64)) Q = X_pleachlaw21_ups_0_x0 ((upsT A A.length).map (AV.int .i64)) Q := by
  intro m
  induction m with
  | zero =>
    intro n hn
    have h : ¬ ((n : Int) < A.length) := by omega
    rw [L_pleachlaw21_ups_0_eq, p_pleachlaw21_ups_0]
    obtain rfl : n = A.length := by omega
    simp
  | succ m ih =>
    intro n hn
    have h : ((n : Int) < A.length) = True := eq_true (by omega)
    have e := elQ_ints (k := .u8) (kk := .i64) (l := A) (i := (n : Int)) (by omega) (by omega)
    simp only [Int.toNat_natCast] at e
    have hin : A.getD n 0 ∈ A := by
      rw [List.getD_eq_getElem?_getD, List.getElem?_eq_getElem (by omega)]; exact List.getElem_mem _
    have hr := rA _ hin
    have ih := ih (n + 1) (by omega)
    rw [upsT_succ] at ih
    generalize A.getD n 0 = z at *
    have w3 := w1 (i := z) (by omega) (by omega)
    have w4 := w1 (i := (n : Int) + 1) (by omega) (by omega)
    have w5 := w1 (i := (A.length : Int) + 2) (by omega) (by omega)
    have h0 : ((A.length : Int) + 2 = 0) = False := eq_false (by omega)
    have r1 : room 8 (n + 1) = true := room_lt (by simp [maxBytes]; omega)
    rw [L_pleachlaw21_ups_0_eq, p_pleachlaw21_ups_0]
    simp [h, e, w3, w4, w5, h0, upsT_len, r1, L_pleachlaw21_ups_0_fold]
    simpa using ih
theorem c_ups {A : List Int} (hA : A.length ≤ 12) (rA : ∀ n ∈ A, 0 ≤ n ∧ n ≤ 255) {Q : AHeap} : callP (penv P1) 41 [.fz 1 (A.map (AV.int .u8))] Q = some (.ow 1 ((upsT A A.length).map (AV.int .i64)), Q) := by
  rw [f_pleachlaw21_ups rfl]
  have := loop_ups hA rA (Q := Q) A.length 0 (by omega)
  rw [show ((0 : Nat) : Int) = 0 from rfl, show (upsT A 0).map (AV.int .i64) = [] from rfl] at this
  simp [L_pleachlaw21_ups_0_fold, this, p_pleachlaw21_ups_1]

section
variable {u : List Int} (hu : u.length ≤ 12) {Q : AHeap}
include hu
theorem loop_E0 : ∀ (m n : Nat) , n + m = u.length →
    L_pleachlaw21_TreeEither_0 P1 (iv u) (.int .i64 n) ((List.replicate n true ++ List.replicate m false).map AV.bool) Q = X_pleachlaw21_TreeEither_0_x0 (iv u) ((List.replicate u.length true).map AV.bool) Q := by
  intro m
  induction m with
  | zero =>
    intro n hn
    have h : ¬ ((n : Int) < u.length) := by omega
    rw [L_pleachlaw21_TreeEither_0_eq, p_pleachlaw21_TreeEither_0]
    obtain rfl : n = u.length := by omega
    simp [iv]
  | succ m ih =>
    intro n hn
    have h : ((n : Int) < u.length) = True := eq_true (by omega)
    have w4 := w1 (i := (n : Int) + 1) (by omega) (by omega)
    have ih := ih (n + 1) (by omega)
    have hs : ((List.replicate n true ++ List.replicate (m + 1) false).map AV.bool).set n (.bool true) = (List.replicate (n + 1) true ++ List.replicate m false).map AV.bool := by
      rw [List.map_append, List.set_append_right _ _ (by simp), List.map_append, List.map_replicate, List.map_replicate, List.map_replicate, List.map_replicate, List.replicate_succ' (n := n),
        show List.replicate (m + 1) (AV.bool false) = AV.bool false :: List.replicate m (AV.bool false) from rfl]
      simp
    have hg : ((List.replicate n true ++ List.replicate (m + 1) false).map AV.bool)[n]? = some (.bool false) := by
      rw [List.map_append, List.getElem?_append_right (by simp)]
      simp [List.replicate_succ]
    have hl : ((List.replicate n true ++ List.replicate (m + 1) false).map AV.bool).length = n + (m + 1) := by simp
    rw [← hs] at ih
    rw [L_pleachlaw21_TreeEither_0_eq, p_pleachlaw21_TreeEither_0]
    generalize (List.replicate n true ++ List.replicate (m + 1) false).map AV.bool = l at *
    have z : (0 : Int) ≤ n := by omega
    have hgl : ∀ h : n < l.length, l[n]'h = .bool false := fun h => by
      have := List.getElem?_eq_getElem h; rw [hg] at this; exact (Option.some.inj this).symm
    have hl2 : ((n : Int) < (n : Int) + ((m : Int) + 1)) = True := eq_true (by omega)
    simp only [iv] at ih
    simp [h, w4, iv, hl, hl2, z, hgl, L_pleachlaw21_TreeEither_0_fold]
    simpa using ih
def atR (u : List Int) : Nat → Int → Int
  | 0, i => i
  | m + 1, i => if 1 ≤ i ∧ i ≤ u.length then atR u m (nx u i) else i
theorem loop_E1 {b c : AV} : ∀ (m n : Nat) (i : Int), n + m = 30 →
    L_pleachlaw21_TreeEither_1 P1 (iv u) b c (.int .i64 i) (.int .i64 n) Q = X_pleachlaw21_TreeEither_1_x4 (iv u) b c (.int .i64 (atR u m i)) Q := by
  intro m
  induction m with
  | zero =>
    intro n i hn
    obtain rfl : n = 30 := by omega
    rw [L_pleachlaw21_TreeEither_1_eq, p_pleachlaw21_TreeEither_1]
    simp [atR]
  | succ m ih =>
    intro n i hn
    have h : ((n : Int) < 30) = True := eq_true (by omega)
    rw [L_pleachlaw21_TreeEither_1_eq, p_pleachlaw21_TreeEither_1]
    unfold atR
    by_cases h1 : i ≥ 1
    · by_cases h2 : i ≤ u.length
      · have w := w1 (i := i - 1) (by omega) (by omega)
        have w2 := w1 (i := (n : Int) + 1) (by omega) (by omega)
        have e := elQ_ints (k := .i64) (kk := .i64) (l := u) (i := i - 1) (by omega) (by omega)
        have hx : nx u i = u.getD (i - 1).toNat 0 := by unfold nx; rw [if_neg (by omega)]
        have ih := ih (n + 1) (nx u i) (by omega)
        rw [← hx] at e
        simp only [iv] at ih
        simp [h, h1, h2, iv, w, w2, e, L_pleachlaw21_TreeEither_1_fold]
        simpa using ih
      · simp [h, h1, h2, iv]
    · simp [h, h1, iv]
end

section
variable {u : List Int} (hu : u.length ≤ 12) {Q : AHeap}
include hu
def Round (u r : List Int) : Prop := ∀ k : Nat, k < r.length → 1 ≤ r.getD k 0 ∧ r.getD k 0 ≤ u.length ∧ nx u (r.getD k 0) = r.getD ((k + 1) % r.length) 0
theorem loop_E2 {r : List Int} (hr : r.length ≤ 1500) (h : Round u r) {b c : AV} : ∀ (m k : Nat), k + m = r.length →
    L_pleachlaw21_TreeEither_2 P1 (iv u) b c (iv r) (.int .i64 k) Q = X_pleachlaw21_TreeEither_2_x6 (iv u) b c (iv r) Q := by
  intro m
  induction m with
  | zero =>
    intro k hk
    have h : ¬ ((k : Int) < r.length) := by omega
    rw [L_pleachlaw21_TreeEither_2_eq, p_pleachlaw21_TreeEither_2]
    simp [h, iv]
  | succ m ih =>
    intro k hk
    have hk' : ((k : Int) < r.length) = True := eq_true (by omega)
    obtain ⟨h1, h2, h3⟩ := h k (by omega)
    have hmod : (k + 1) % r.length < r.length := Nat.mod_lt _ (by omega)
    have w := w1 (i := (k : Int) + 1) (by omega) (by omega)
    have tm : ((k : Int) + 1).tmod (r.length : Int) = (((k + 1) % r.length : Nat) : Int) := by
      rw [Int.tmod_eq_emod_of_nonneg (by omega)]; simp
    have n0 : (r = []) = False := eq_false (fun e => by rw [e] at hk; simp at hk)
    have e1 := elQ_ints (k := .i64) (kk := .i64) (l := r) (i := (((k + 1) % r.length : Nat) : Int)) (by omega) (by omega)
    have e2 := elQ_ints (k := .i64) (kk := .i64) (l := r) (i := (k : Int)) (by omega) (by omega)
    simp only [Int.toNat_natCast] at e1 e2
    rw [← h3, ← tm] at e1
    have ih := ih (k + 1) (by omega)
    simp only [iv] at ih
    rw [L_pleachlaw21_TreeEither_2_eq, p_pleachlaw21_TreeEither_2]
    clear h3 tm h
    generalize r.getD k 0 = z at *
    have e3 := elQ_ints (k := .i64) (kk := .i64) (l := u) (i := z - 1) (by omega) (by omega)
    have hx : nx u z = u.getD (z - 1).toNat 0 := by unfold nx; rw [if_neg (by omega)]
    rw [← hx] at e3
    have w2 := w1 (i := z - 1) (by omega) (by omega)
    have c1 : ¬ z < 1 := by omega
    have c2 : ¬ z > u.length := by omega
    simp [hk', iv, w, n0, e1, e2, e3, w2, c1, c2, L_pleachlaw21_TreeEither_2_fold]
    simpa using ih
end

section
variable {u : List Int} (hu : u.length ≤ 12) {Q : AHeap}
include hu
abbrev dp (u : List Int) (i : Int) : Int := deepR u (u.length + 1) i 0
attribute [local simp] nodupN renT in
theorem piece3 {β : Type} {rt : Bool} {i : Int} {r : List Int} (h1 : 1 ≤ i) (h2 : i ≤ u.length) (a : rt = true → r = [] ∧ 0 ≤ dp u i ∧ (1 < i → dp u i = dp u (nx u i) + 1)) (b : 1 < i → 0 < dp u i → dp u i = dp u (nx u i) + 1) (k : PK β) :
    evalPK (callP (penv P1)) (loopP (penv P1)) c_pleachlaw21_TreeEither_3 [(3, .v (iv u)), (6, .v (.bool rt)), (7, .v (.int .i64 i)), (10, .v (iv r))] [] Q (finC [] [] [3, 6, 7] [] k) = k .normal [(3, .v (iv u)), (6, .v (.bool rt)), (7, .v (.int .i64 i))] [] Q := by
  have d1 := fun (Q : AHeap) => c_Deep (u := u) (by omega) (Q := Q) i
  have d2 := fun (Q : AHeap) => c_Deep (u := u) (by omega) (Q := Q) (nx u i)
  have bd := deepR_bd u (u.length + 1) (nx u i) 0 (by omega)
  have w := w1 (i := i - 1) (by omega) (by omega)
  have w2 := w1 (i := deepR u (u.length + 1) (nx u i) 0 + 1) (by omega) (by omega)
  have e := elQ_ints (k := .i64) (kk := .i64) (l := u) (i := i - 1) (by omega) (by omega)
  have hx : nx u i = u.getD (i - 1).toNat 0 := by unfold nx; rw [if_neg (by omega)]
  rw [← hx] at e
  simp only [iv] at d1 d2 ⊢
  unfold dp at a b
  generalize deepR u (u.length + 1) i 0 = D at *
  generalize deepR u (u.length + 1) (nx u i) 0 = E at *
  rw [p_pleachlaw21_TreeEither_3]
  cases rt with
  | true =>
    obtain ⟨rfl, a1, a2⟩ := a rfl
    have c1 : (D < 0) = False := eq_false (by omega)
    by_cases h3 : 1 < i
    · have a2 := a2 h3
      subst a2
      by_cases h4 : E + 1 > 0
      · simp [d1, d2, w, w2, e, c1, h3, h4]
      · simp [d1, d2, w, w2, e, c1, h3, h4]
    · simp [d1, d2, w, w2, e, c1, h3]
  | false =>
    by_cases h3 : 1 < i
    · by_cases h4 : 0 < D
      · have a2 := b h3 h4
        subst a2
        simp [d1, d2, w, w2, e, h3, h4]
      · simp [d1, d2, w, w2, e, h3, h4]
    · simp [d1, d2, w, w2, e, h3]
end

section
variable {u : List Int} (hu : u.length ≤ 12) {Q : AHeap}
include hu
def OneOk (u : List Int) (rt : Bool) (i : Int) : Prop := ∃ m r, m ≤ 1500 ∧ r.length ≤ 1500 ∧ loopR u m [] i = some r ∧ (decide (1 ≤ atR u 30 i ∧ atR u 30 i ≤ u.length) = decide (0 < r.length)) ∧ Round u r ∧
  (rt = true → r = [] ∧ 0 ≤ dp u i ∧ (1 < i → dp u i = dp u (nx u i) + 1)) ∧ (1 < i → 0 < dp u i → dp u i = dp u (nx u i) + 1)
theorem loop_E6 {rt : Bool} (h : ∀ i : Int, 1 ≤ i → i ≤ u.length → OneOk u rt i) : ∀ (m n : Nat), n + m = u.length →
    L_pleachlaw21_TreeEither_6 P1 (iv u) (.bool rt) (.int .i64 ((n : Int) + 1)) Q = X_pleachlaw21_TreeEither_6_x2 Q := by
  intro m
  induction m with
  | zero =>
    intro n hn
    have c : ¬ ((n : Int) + 1 ≤ u.length) := by omega
    rw [L_pleachlaw21_TreeEither_6_eq, p_pleachlaw21_TreeEither_6]
    simp [iv, c]
  | succ m ih =>
    intro n hn
    obtain ⟨mm, r, b1, b2, b3, b4, b5, b6, b7⟩ := h ((n : Int) + 1) (by omega) (by omega)
    have c : ((n : Int) + 1 ≤ u.length) = True := eq_true (by omega)
    have e1 := loop_E1 hu (Q := Q) (b := .bool rt) (c := .int .i64 ((n : Int) + 1)) 30 0 ((n : Int) + 1) (by omega)
    have e2 := c_Loop (u := u) (by omega) (Q := Q) b1 b3
    have e3 := loop_E2 hu (Q := Q) b2 b5 (b := .bool rt) (c := .int .i64 ((n : Int) + 1)) r.length 0 (by omega)
    have ih := ih (n + 1) (by omega)
    rw [show ((0 : Nat) : Int) = 0 from rfl] at e1 e3
    rw [L_pleachlaw21_TreeEither_6_eq, p_pleachlaw21_TreeEither_6]
    have w := w1 (i := (n : Int) + 1 + 1) (by omega) (by omega)
    have b4' : (decide (1 ≤ atR u 30 ((n : Int) + 1)) && decide (atR u 30 ((n : Int) + 1) ≤ u.length)) = decide (0 < r.length) := by rw [← b4]; simp
    have l1 : lenQ (iv u) = some (.int .i64 u.length) := by simp [iv]
    simp only [l1, bnP_some, bin_leq, c, decide_true, cndS_bool, if_true, L_pleachlaw21_TreeEither_1_fold, e1, bnX_some, outX_e, goC_n, p_pleachlaw21_TreeEither_4, e2]
    have l2 : lenQ (iv r) = some (.int .i64 r.length) := by simp [iv]
    generalize atR u 30 ((n : Int) + 1) = at_ at *
    have p3 := fun (k : PK PEnd) => piece3 hu (Q := Q) (rt := rt) (i := (n : Int) + 1) (r := r) (by omega) (by omega) b6 b7 k
    have l2' : lenQ (.fz 1 (r.map (AV.int .i64))) = some (.int .i64 r.length) := l2
    have gt : (decide ((r.length : Int) > 0)) = decide (0 < r.length) := by simp
    have hi : iv r = .fz 1 (r.map (AV.int .i64)) := rfl
    have ee : ∀ (x : Bool), (decide (1 ≤ at_) && decide (at_ ≤ (u.length : Int))) = x → (if at_ ≥ 1 then decide (at_ ≤ (u.length : Int)) else false) = x := by
      intro x hx; rw [← hx]; by_cases c : 1 ≤ at_ <;> simp [c]
    rw [hi] at e3 p3
    by_cases c1 : 1 ≤ at_
    · have b4'' : decide (at_ ≤ (u.length : Int)) = decide (0 < r.length) := by rw [← b4']; simp [c1]
      simp [c1, l1, l2', b4'', L_pleachlaw21_TreeEither_2_fold, e3, p3, p_pleachlaw21_TreeEither_5, w, L_pleachlaw21_TreeEither_6_fold]
      simpa using ih
    · have b4'' : (0 < r.length) = False := by have : false = decide (0 < r.length) := by rw [← b4']; simp [c1]
                                               simpa using this.symm
      simp [c1, l1, l2', b4'', L_pleachlaw21_TreeEither_2_fold, e3, p3, p_pleachlaw21_TreeEither_5, w, L_pleachlaw21_TreeEither_6_fold]
      simpa using ih
end

def PlainE : Prop := ∀ A : List Int, A.length ≤ 12 → (∀ n ∈ A, 0 ≤ n ∧ n ≤ 255) → ∀ i : Int, 1 ≤ i → i ≤ (upsT A A.length).length → OneOk (upsT A A.length) (RootedR (upsT A A.length) (List.replicate (upsT A A.length).length true)) i
theorem either_true (plain : PlainE) {A : List Int} (rA : ∀ n ∈ A, 0 ≤ n ∧ n ≤ 255) {Q : AHeap} :
    callP (penv P1) 11 [.fz 1 (A.map (AV.int .u8))] Q = some (.bool true, Q) := by
  rw [f_pleachlaw21_TreeEither rfl, callP_spec (g := gYes) rfl]
  by_cases h7 : (A.length : Int) > 12
  · simp [gYes, h7]
  have h7' : A.length ≤ 12 := by omega
  have e0 := c_ups h7' rA (Q := Q)
  have p := plain A h7' rA
  have hl := upsT_len A A.length
  generalize upsT A A.length = u at *
  have e1 := loop_E0 (u := u) (by omega) (Q := Q) u.length 0 (by omega)
  have c := fun (Q : AHeap) => c_Rooted (u := u) (by omega) (Q := Q) (on := List.replicate u.length true) (by simp; omega)
  have e2 := loop_E6 (u := u) (by omega) (Q := Q) p u.length 0 (by omega)
  rw [show ((0 : Nat) : Int) = 0 from rfl] at e1 e2
  simp only [Int.zero_add] at e2
  have hm : (0 ≤ (u.length : Int) ∧ (u.length : Int) ≤ u.length ∧ (u.length : Int).toNat * (1 + 1) ≤ maxBytes) = True := eq_true ⟨by omega, by omega, by simp [maxBytes]; omega⟩
  have hm2 : mksN 1 (.int .i64 u.length) (.int .i64 u.length) = some u.length := by rw [mksN_int, if_pos (of_eq_true hm)]; simp
  simp only [List.replicate_zero, List.nil_append, List.map_replicate, iv, bv] at e1 c e2
  simp [gYes, h7, e0, hm2, -mksN_int, mkE, L_pleachlaw21_TreeEither_0_fold, e1, p_pleachlaw21_TreeEither_8, c, L_pleachlaw21_TreeEither_6_fold, e2, p_pleachlaw21_TreeEither_7]
end Go.Proofs.Ytldehmfhgmmkhaa.Pt
