/- What the functions of tree come to. -/
import Derived.Test.YtldehmfhgmmkhaaPte
set_option linter.unusedVariables false
set_option linter.unusedSimpArgs false
namespace Go.Proofs.Ytldehmfhgmmkhaa.Pt
open Go.Ab
set_option maxRecDepth 100000

def P1 : PSpecs := [(40, gYes), (57, gClone 1 8)]
def iv (l : List Int) : AV := .fz 1 (l.map (AV.int .i64))
def bv (l : List Bool) : AV := .fz 1 (l.map AV.bool)
/-- Whom one hangs on. -/
def nx (u : List Int) (i : Int) : Int := if i < 1 ∨ i > u.length then 0 else u.getD (i - 1).toNat 0

theorem w1 {i : Int} (h : -1000000 ≤ i) (h2 : i ≤ 1000000) : IntKind.i64.wrap i = i := wrap_i64 (by omega) (by omega)

section
variable {u : List Int} (hu : u.length ≤ 1000) {Q : AHeap}
include hu
theorem c_next (i : Int) : callP (penv P1) 62 [iv u, .int .i64 i] Q = some (.int .i64 (nx u i), Q) := by
  rw [iv, f_tree_next rfl]
  unfold nx
  by_cases h1 : i < 1
  · simp [h1]
  by_cases h2 : i > u.length
  · simp [h1, h2]
  have e := elQ_ints (k := .i64) (kk := .i64) (l := u) (i := i - 1) (by omega) (by omega)
  simp [h1, h2, w1 (i := i - 1) (by omega) (by omega), e]

def deepR (u : List Int) : Nat → Int → Int → Int
  | 0, _, _ => -1
  | m + 1, i, n => if i = 1 ∧ 0 < u.length then n else deepR u m (nx u i) (n + 1)
theorem loop_Deep : ∀ (m n : Nat) (i : Int), n + m = u.length + 1 →
    L_tree_Deep_0 P1 (iv u) (.int .i64 i) (.int .i64 ((u.length : Int) + 1)) (.int .i64 n) Q = X_tree_Deep_0_ret (.int .i64 (deepR u m i n)) Q ∨
    (L_tree_Deep_0 P1 (iv u) (.int .i64 i) (.int .i64 ((u.length : Int) + 1)) (.int .i64 n) Q = X_tree_Deep_0_x0 Q ∧ deepR u m i n = -1) := by
  intro m
  induction m with
  | zero =>
    intro n i hn
    right
    have h : ¬ ((n : Int) < (u.length : Int) + 1) := by omega
    refine ⟨?_, rfl⟩
    rw [L_tree_Deep_0_eq, p_tree_Deep_0]
    simp [h]
  | succ m ih =>
    intro n i hn
    have h : (n : Int) < (u.length : Int) + 1 := by omega
    unfold deepR
    rw [L_tree_Deep_0_eq, p_tree_Deep_0]
    by_cases h1 : i = 1
    · by_cases h2 : 0 < u.length
      · left; simp [h, h1, h2, iv]
      · simp [h, h1, h2, iv]
        rw [← iv, c_next hu]
        have := ih (n + 1) (nx u 1) (by omega)
        simpa [w1 (i := (n : Int) + 1) (by omega) (by omega), L_tree_Deep_0_fold] using this
    · simp [h, h1, c_next hu]
      have := ih (n + 1) (nx u i) (by omega)
      simpa [w1 (i := (n : Int) + 1) (by omega) (by omega), L_tree_Deep_0_fold] using this
theorem c_Deep (i : Int) : callP (penv P1) 44 [iv u, .int .i64 i] Q = some (.int .i64 (deepR u (u.length + 1) i 0), Q) := by
  rw [f_tree_Deep rfl]
  have := loop_Deep hu (Q := Q) (u.length + 1) 0 i (by omega)
  rw [show ((0 : Nat) : Int) = 0 from rfl] at this
  simp [iv, w1 (i := (u.length : Int) + 1) (by omega) (by omega)]
  rw [← iv, L_tree_Deep_0_fold]
  rcases this with e | ⟨e, e2⟩
  · simp [e]
  · simp [e, e2, p_tree_Deep_1]

def rootR (u : List Int) (on : List Bool) : Nat → Int → Bool
  | 0, _ => false
  | m + 1, i => if i < 1 then false else if i > on.length then false else if on.getD (i - 1).toNat false = false then false else if i = 1 then true else rootR u on m (nx u i)
theorem loop_rooted {on : List Bool} (ho : on.length ≤ 1000) : ∀ (m n : Nat) (i : Int), n + m = u.length →
    L_tree_rooted_0 P1 (iv u) (bv on) (.int .i64 i) (.int .i64 (u.length : Int)) (.int .i64 n) Q = X_tree_rooted_0_ret (.bool (rootR u on m i)) Q ∨
    (L_tree_rooted_0 P1 (iv u) (bv on) (.int .i64 i) (.int .i64 (u.length : Int)) (.int .i64 n) Q = X_tree_rooted_0_x0 Q ∧ rootR u on m i = false) := by
  intro m
  induction m with
  | zero =>
    intro n i hn
    right
    have h : ¬ ((n : Int) < (u.length : Int)) := by omega
    refine ⟨?_, rfl⟩
    rw [L_tree_rooted_0_eq, p_tree_rooted_0]
    simp [h]
  | succ m ih =>
    intro n i hn
    have h : ((n : Int) < (u.length : Int)) = True := eq_true (by omega)
    unfold rootR
    rw [L_tree_rooted_0_eq, p_tree_rooted_0]
    by_cases h1 : i < 1
    · left; simp [h, h1]
    by_cases h2 : i > on.length
    · left; simp [h, h1, h2, bv]
    have e := elQ_bools (kk := .i64) (l := on) (i := i - 1) (by omega) (by omega)
    have w := w1 (i := i - 1) (by omega) (by omega)
    cases h3 : on.getD (i - 1).toNat false with
    | false => left; rw [h3] at e; simp [h, h1, h2, bv, e, w]
    | true =>
      rw [h3] at e
      by_cases h4 : i = 1
      · left
        subst h4
        have h2' : ((on.length : Int) < 1) = False := eq_false (by omega)
        rw [show (1 : Int) - 1 = 0 from rfl] at e w
        simp [h, h2', bv, e, w]
      · have := ih (n + 1) (nx u i) (by omega)
        simp only [bv] at this
        simp [h, h1, h2, bv, e, w, h4, c_next hu]
        simpa [w1 (i := (n : Int) + 1) (by omega) (by omega), L_tree_rooted_0_fold] using this
theorem c_rooted {on : List Bool} (ho : on.length ≤ 1000) (i : Int) : callP (penv P1) 61 [iv u, bv on, .int .i64 i] Q = some (.bool (rootR u on u.length i), Q) := by
  rw [f_tree_rooted rfl]
  have := loop_rooted hu (Q := Q) ho u.length 0 i (by omega)
  rw [show ((0 : Nat) : Int) = 0 from rfl] at this
  simp [iv]
  rw [← iv, L_tree_rooted_0_fold]
  rcases this with e | ⟨e, e2⟩
  · simp [e]
  · simp [e, e2, p_tree_rooted_1]
def allR (u : List Int) (on : List Bool) : Nat → Nat → Bool
  | 0, _ => true
  | m + 1, n => if on.getD n false = true ∧ rootR u on u.length ((n : Int) + 1) = false then false else allR u on m (n + 1)
theorem loop_Rooted {on : List Bool} (ho : on.length ≤ 1000) : ∀ (m n : Nat), n + m = on.length →
    L_tree_Rooted_0 P1 (iv u) (bv on) (bv on) (.int .i64 (on.length : Int)) (.int .i64 n) Q = (if allR u on m n = true then X_tree_Rooted_0_x0 Q else X_tree_Rooted_0_ret (.bool false) Q) := by
  intro m
  induction m with
  | zero =>
    intro n hn
    have h : ¬ ((n : Int) < (on.length : Int)) := by omega
    rw [L_tree_Rooted_0_eq, p_tree_Rooted_0]
    simp [h, allR]
  | succ m ih =>
    intro n hn
    have h : ((n : Int) < (on.length : Int)) = True := eq_true (by omega)
    have e := elQ_bools (kk := .i64) (l := on) (i := (n : Int)) (by omega) (by omega)
    simp only [Int.toNat_natCast] at e
    have w := w1 (i := (n : Int) + 1) (by omega) (by omega)
    have := ih (n + 1) (by omega)
    rw [L_tree_Rooted_0_eq, p_tree_Rooted_0]
    unfold allR
    have c := c_rooted hu (Q := Q) ho ((n : Int) + 1)
    simp only [bv] at this c
    cases h3 : on.getD n false with
    | false =>
      rw [h3] at e
      simp [h, bv, e, w]
      simpa [L_tree_Rooted_0_fold] using this
    | true =>
      rw [h3] at e
      cases h4 : rootR u on u.length ((n : Int) + 1) with
      | false => rw [h4] at c; simp [h, bv, e, w, c]
      | true =>
        rw [h4] at c
        simp [h, bv, e, w, c]
        simpa [L_tree_Rooted_0_fold] using this
def RootedR (u : List Int) (on : List Bool) : Bool := if u.length ≠ on.length then false else if u.length < 1 then false else if on.getD 0 false = false then false else if u.getD 0 0 ≠ 0 then false else allR u on on.length 0
theorem c_Rooted {on : List Bool} (ho : on.length ≤ 1000) : callP (penv P1) 42 [iv u, bv on] Q = some (.bool (RootedR u on), Q) := by
  rw [f_tree_Rooted rfl]
  unfold RootedR
  by_cases h1 : u.length = on.length
  · by_cases h2 : u.length < 1
    · have h2' : ((on.length : Int) < 1) = True := eq_true (by omega)
      simp [iv, bv, h1, h2', h1 ▸ h2]
    · have e1 := elQ_bools (kk := .i64) (l := on) (i := 0) (by omega) (by omega)
      have e2 := elQ_ints (k := .i64) (kk := .i64) (l := u) (i := 0) (by omega) (by omega)
      have h2' : ((on.length : Int) < 1) = False := eq_false (by omega)
      have h2'' : (on.length < 1) = False := eq_false (by omega)
      simp only [Int.toNat_zero] at e1 e2
      cases h3 : on.getD 0 false with
      | false => rw [h3] at e1; simp [iv, bv, h1, h2', h2'', e1]
      | true =>
        rw [h3] at e1
        by_cases h4 : u.getD 0 0 = 0
        · rw [h4] at e2
          have := loop_Rooted hu (Q := Q) ho on.length 0 (by omega)
          rw [show ((0 : Nat) : Int) = 0 from rfl] at this
          simp only [iv, bv] at this
          simp [iv, bv, h1, h2', h2'', e1, e2, h4, -List.getD_eq_getElem?_getD, L_tree_Rooted_0_fold, this]
          cases allR u on on.length 0 <;> simp [p_tree_Rooted_1]
        · simp [iv, bv, h1, h2', h2'', e1, e2, h4, -List.getD_eq_getElem?_getD]
  · have h1' : ((u.length : Int) = on.length) = False := eq_false (by omega)
    simp [iv, bv, h1, h1']
end

section
variable {l : List Int} (hl : l.length ≤ 2000) {Q : AHeap}
include hl
def idxR (l : List Int) (x : Int) : Nat → Nat → Int
  | 0, _ => -1
  | m + 1, n => if x = l.getD n 0 then n else idxR l x m (n + 1)
theorem loop_Index (x : Int) : ∀ (m n : Nat), n + m = l.length →
    L_slices_Index_int_int_0 P1 (iv l) (.int .i64 x) (.int .i64 (l.length : Int)) (.int .i64 n) Q = X_slices_Index_int_int_0_ret (.int .i64 (idxR l x m n)) Q ∨
    (L_slices_Index_int_int_0 P1 (iv l) (.int .i64 x) (.int .i64 (l.length : Int)) (.int .i64 n) Q = X_slices_Index_int_int_0_x0 Q ∧ idxR l x m n = -1) := by
  intro m
  induction m with
  | zero =>
    intro n hn
    right
    have h : ¬ ((n : Int) < (l.length : Int)) := by omega
    refine ⟨?_, rfl⟩
    rw [L_slices_Index_int_int_0_eq, p_slices_Index_int_int_0]
    simp [h]
  | succ m ih =>
    intro n hn
    have h : ((n : Int) < (l.length : Int)) = True := eq_true (by omega)
    have e := elQ_ints (k := .i64) (kk := .i64) (l := l) (i := (n : Int)) (by omega) (by omega)
    simp only [Int.toNat_natCast] at e
    unfold idxR
    rw [L_slices_Index_int_int_0_eq, p_slices_Index_int_int_0]
    by_cases h1 : x = l.getD n 0
    · left; rw [← h1] at e; simp only [← h1, if_true]; simp [h, iv, e]
    · have := ih (n + 1) (by omega)
      simp only [iv] at this
      simp only [h1, if_false]
      simp [h, iv, e, -List.getD_eq_getElem?_getD, h1, w1 (i := (n : Int) + 1) (by omega) (by omega)]
      simpa [L_slices_Index_int_int_0_fold] using this
theorem c_Index (x : Int) : callP (penv P1) 64 [iv l, .int .i64 x] Q = some (.int .i64 (idxR l x l.length 0), Q) := by
  rw [f_slices_Index_int_int rfl]
  have := loop_Index hl (Q := Q) x l.length 0 (by omega)
  rw [show ((0 : Nat) : Int) = 0 from rfl] at this
  simp [iv]
  rw [← iv, L_slices_Index_int_int_0_fold]
  rcases this with e | ⟨e, e2⟩
  · simp [e]
  · simp [e, e2, p_slices_Index_int_int_1]
theorem c_Has (x : Int) : callP (penv P1) 63 [iv l, .int .i64 x] Q = some (.bool (decide (0 ≤ idxR l x l.length 0)), Q) := by
  rw [f_path_Has rfl, f_slices_Contains_int_int rfl]
  simp [c_Index hl]
end

section
variable {u : List Int} (hu : u.length ≤ 1000) {Q : AHeap}
include hu
def loopR (u : List Int) : Nat → List Int → Int → Option (List Int)
  | 0, _, _ => none
  | m + 1, met, i => if 1 ≤ i ∧ i ≤ u.length then
      if 0 ≤ idxR met i met.length 0 then some (met.drop (idxR met i met.length 0).toNat) else loopR u m (met ++ [i]) (nx u i)
    else some []
omit hu in
theorem idxR_le (l : List Int) (x : Int) : ∀ (m n : Nat), n + m = l.length → idxR l x m n < l.length := by
  intro m
  induction m with
  | zero => intro n h; unfold idxR; omega
  | succ m ih =>
    intro n h
    unfold idxR
    split
    · omega
    · exact ih (n + 1) (by omega)
omit hu in
theorem slcQ_lo {z : Nat} {l : List AV} {k : IntKind} {i : Int} (hz : 0 < z) (h0 : 0 ≤ i) (h : i ≤ l.length) : slcQ z (.fz z l) (some (.int k i)) none = some (.fz z (l.drop i.toNat)) := by
  have h2 : i.toNat ≤ l.length := by omega
  simp [slcQ, hz, bndo, bnd, h0, h, h2]
theorem loop_Loop : ∀ (m : Nat) (met : List Int) (i : Int) (r : List Int), loopR u m met i = some r → met.length + m ≤ 1500 →
    L_tree_Loop_0 P1 (iv u) (.int .i64 i) (met.map (AV.int .i64)) Q = X_tree_Loop_0_ret (r.map (AV.int .i64)) Q ∨
    (L_tree_Loop_0 P1 (iv u) (.int .i64 i) (met.map (AV.int .i64)) Q = X_tree_Loop_0_x0 Q ∧ r = []) := by
  intro m
  induction m with
  | zero => intro met i r h; cases h
  | succ m ih =>
    intro met i r h hm
    unfold loopR at h
    rw [L_tree_Loop_0_eq, p_tree_Loop_0]
    by_cases h1 : i ≥ 1
    · by_cases h2 : i ≤ u.length
      · rw [if_pos ⟨h1, h2⟩] at h
        have ch := c_Has (l := met) (by omega) (Q := ⟨Q.size, .leaf⟩) i
        have ci := c_Index (l := met) (by omega) (Q := ⟨Q.size, .leaf⟩) i
        have hlt := idxR_le met i met.length 0 (by omega)
        simp only [iv] at ch ci
        by_cases h3 : 0 ≤ idxR met i met.length 0
        · left
          rw [if_pos h3] at h
          obtain rfl := Option.some.inj h
          have hs := slcQ_lo (z := 1) (l := met.map (AV.int .i64)) (k := .i64) (by omega) h3 (by simp; omega)
          have hc : ∀ l : List Int, l.length ≤ 1500 → callP (penv P1) 57 [.fz 1 (l.map (AV.int .i64))] Q = some (.ow 1 (l.map (AV.int .i64)), Q) := fun l hl => by
            rw [callP_spec (g := gClone 1 8) rfl]
            simp [gClone, room_lt (y := 8) (n := l.length) (by simp [maxBytes]; omega)]
          have hc := hc (met.drop (idxR met i met.length 0).toNat) (by simp; omega)
          rw [List.map_drop] at hc
          simp [iv, h1, h2, ch, ci, h3, hs, hc]
        · rw [if_neg h3] at h
          have := ih (met ++ [i]) (nx u i) r h (by simp; omega)
          have hr : room 8 (met.length + 1) = true := room_lt (by simp [maxBytes]; omega)
          have cn := c_next hu (Q := Q) i
          simp only [iv] at cn this
          simp [iv, h1, h2, ch, h3, hr, cn, L_tree_Loop_0_fold]
          simpa using this
      · right
        rw [if_neg (fun c => h2 c.2)] at h
        exact ⟨by simp [iv, h1, h2], (Option.some.inj h).symm⟩
    · right
      rw [if_neg (fun c => h1 c.1)] at h
      exact ⟨by simp [iv, h1], (Option.some.inj h).symm⟩
theorem c_Loop {m : Nat} (hm : m ≤ 1500) {i : Int} {r : List Int} (h : loopR u m [] i = some r) : callP (penv P1) 43 [iv u, .int .i64 i] Q = some (.ow 1 (r.map (AV.int .i64)), Q) := by
  rw [f_tree_Loop rfl]
  have := loop_Loop hu (Q := Q) m [] i r h (by simp; omega)
  simp only [List.map_nil] at this
  rw [L_tree_Loop_0_fold]
  rcases this with e | ⟨e, rfl⟩
  · simp [e]
  · simp [e, p_tree_Loop_1]
end
end Go.Proofs.Ytldehmfhgmmkhaa.Pt
