/- The law TreeMoved: the walk. -/
import Derived.Test.YtldehmfhgmmkhaaPcTree
set_option linter.unusedVariables false
set_option linter.unusedSimpArgs false
namespace Go.Proofs.Ytldehmfhgmmkhaa.Pt
open Go.Ab
set_option maxRecDepth 100000

/-- Whom the first n + 1 hang on. -/
def upT (A : List Int) (n : Nat) : List Int := 0 :: (List.range n).map fun (i : Nat) => 1 + (A.getD i 0).tmod ((i : Int) + 1)
def onT (n : Nat) : List Bool := List.replicate (n + 1) true
theorem upT_succ (A : List Int) (n : Nat) : upT A (n + 1) = upT A n ++ [1 + (A.getD n 0).tmod ((n : Int) + 1)] := by simp [upT, List.range_succ]
theorem onT_succ (n : Nat) : onT (n + 1) = onT n ++ [true] := by simp [onT, List.replicate_succ']
theorem upT_len (A : List Int) (n : Nat) : (upT A n).length = n + 1 := by simp [upT]
theorem onT_len (n : Nat) : (onT n).length = n + 1 := by simp [onT]
theorem loop_M0 {A : List Int} (hA : A.length ≤ 7) (rA : ∀ n ∈ A, 0 ≤ n ∧ n ≤ 255) {v1 v2 : AV} {Q : AHeap} : ∀ (m n : Nat), n + m = A.length →
    L_pleachlaw21_TreeMoved_0 P1 (.fz 1 (A.map (AV.int .u8))) v1 v2 (.int .i64 n) ((upT A n).map (AV.int .i64)) ((onT n).map AV.bool) Q =
      X_pleachlaw21_TreeMoved_0_x0 (.fz 1 (A.map (AV.int .u8))) v1 v2 ((upT A A.length).map (AV.int .i64)) ((onT A.length).map AV.bool) Q := by
  intro m
  induction m with
  | zero =>
    intro n hn
    have h : ¬ ((n : Int) < A.length) := by omega
    rw [L_pleachlaw21_TreeMoved_0_eq, p_pleachlaw21_TreeMoved_0]
    obtain rfl : n = A.length := by omega
    simp
  | succ m ih =>
    intro n hn
    have h : ((n : Int) < A.length) = True := eq_true (by omega)
    have e := elQ_ints (k := .u8) (kk := .i64) (l := A) (i := (n : Int)) (by omega) (by omega)
    simp only [Int.toNat_natCast] at e
    have hin : A.getD n 0 ∈ A := by
      rw [List.getD_eq_getElem?_getD, List.getElem?_eq_getElem (by omega)]; exact List.getElem_mem _
    have hr := rA _ hin
    have ih := ih (n + 1) (by omega)
    rw [upT_succ, onT_succ] at ih
    generalize A.getD n 0 = z at *
    have hm : 0 ≤ z.tmod ((n : Int) + 1) ∧ z.tmod ((n : Int) + 1) ≤ 255 := by
      rw [Int.tmod_eq_emod_of_nonneg hr.1]
      have h1 := Int.emod_nonneg z (show (n : Int) + 1 ≠ 0 by omega)
      have h2 := Int.emod_lt_of_pos z (show 0 < (n : Int) + 1 by omega)
      omega
    have w3 := w1 (i := z) (by omega) (by omega)
    have w4 := w1 (i := (n : Int) + 1) (by omega) (by omega)
    have w5 := w1 (i := 1 + z.tmod ((n : Int) + 1)) (by omega) (by omega)
    have h0 : ((n : Int) + 1 = 0) = False := eq_false (by omega)
    have r1 : room 8 (n + 1 + 1) = true := room_lt (by simp [maxBytes]; omega)
    have r2 : room 1 (n + 1 + 1) = true := room_lt (by simp [maxBytes]; omega)
    rw [L_pleachlaw21_TreeMoved_0_eq, p_pleachlaw21_TreeMoved_0]
    simp [h, e, w3, w4, w5, h0, upT_len, onT_len, r1, r2, L_pleachlaw21_TreeMoved_0_fold]
    simpa using ih
def walkR (u : List Int) (a : Int) : Nat → Bool → Int → Bool
  | 0, un, _ => un
  | m + 1, un, i => if i = 0 then un else walkR u a m (un || decide (i = a)) (nx u i)
theorem loop_M1 {u : List Int} (hu : u.length ≤ 1000) (hb : ∀ i ∈ u, 0 ≤ i ∧ i ≤ u.length) {a : Int} {b : AV} {l8 : List AV} {Q : AHeap} : ∀ (m n : Nat) (un : Bool) (i : Int), n + m = 9 → 0 ≤ i ∧ i ≤ u.length →
    L_pleachlaw21_TreeMoved_1 P1 (.int .i64 a) b (.bool un) (.int .i64 i) (.int .i64 n) (u.map (AV.int .i64)) l8 Q = X_pleachlaw21_TreeMoved_1_x2 (.int .i64 a) b (.bool (walkR u a m un i)) (u.map (AV.int .i64)) l8 Q := by
  intro m
  induction m with
  | zero =>
    intro n un i hn hi
    obtain rfl : n = 9 := by omega
    rw [L_pleachlaw21_TreeMoved_1_eq, p_pleachlaw21_TreeMoved_1]
    by_cases h : i = 0 <;> simp [h, walkR]
  | succ m ih =>
    intro n un i hn hi
    have h : ((n : Int) < 9) = True := eq_true (by omega)
    rw [L_pleachlaw21_TreeMoved_1_eq, p_pleachlaw21_TreeMoved_1]
    unfold walkR
    by_cases h0 : i = 0
    · simp [h0]
    · obtain ⟨j, rfl⟩ : ∃ j : Nat, i = (j : Int) + 1 := ⟨(i - 1).toNat, by omega⟩
      have w := w1 (i := (j : Int)) (by omega) (by omega)
      have w2 := w1 (i := (n : Int) + 1) (by omega) (by omega)
      have hl : j < u.length := by omega
      have hx : nx u ((j : Int) + 1) = u.getD j 0 := by unfold nx; rw [if_neg (by omega)]; congr 1; omega
      have he : u[j]? = some (u.getD j 0) := by rw [List.getD_eq_getElem?_getD, List.getElem?_eq_getElem hl]; rfl
      have ih := fun un => ih (n + 1) un (nx u ((j : Int) + 1)) (by omega) (by rw [hx]; exact hb _ (List.mem_of_getElem? he))
      have c : elC (u.map (AV.int .i64)) j 0 = some (.int .i64 (nx u ((j : Int) + 1))) := by
        rw [hx]; unfold elC; rw [List.getElem?_map, he]; rfl
      have hl2 : ((j : Int) < u.length) = True := eq_true (by omega)
      have z : (0 : Int) ≤ j := by omega
      cases un
      · have := ih (decide ((j : Int) + 1 = a))
        simp [h, h0, w, w2, hl2, hl, z, c, L_pleachlaw21_TreeMoved_1_fold]
        simpa using this
      · have := ih true
        simp [h, h0, w, w2, hl2, hl, z, c, L_pleachlaw21_TreeMoved_1_fold]
        simpa using this

theorem deepR_bd (u : List Int) : ∀ (m : Nat) (i n : Int), 0 ≤ n → -1 ≤ deepR u m i n ∧ deepR u m i n ≤ n + m := by
  intro m
  induction m with
  | zero => intro i n h; unfold deepR; omega
  | succ m ih =>
    intro i n h
    unfold deepR
    split
    · omega
    · have := ih (nx u i) (n + 1) (by omega); omega
theorem last_M {u : List Int} {on : List Bool} (hu : u.length ≤ 1000) (ho : on.length ≤ 1000) {j : Nat} (hj : j < u.length) {b : Int} {un : Bool} {m : Nat} {r : List Int} (hm : m ≤ 1500)
    (h2 : RootedR (u.set j b) on = !un) (h3 : loopR (u.set j b) m [] ((j : Int) + 1) = some r) (h3' : decide (0 < r.length) = un) (h4 : RootedR (u.set j 0) on = false)
    (h5 : deepR (u.set j 0) (u.length + 1) ((j : Int) + 1) 0 = -1) (h6 : un = false → deepR (u.set j b) (u.length + 1) ((j : Int) + 1) 0 = deepR u (u.length + 1) b 0 + 1) {Q : AHeap} :
    evalPK (callP (penv P1)) (loopP (penv P1)) c_pleachlaw21_TreeMoved_2 [(7, .ls 7), (8, .ls 8), (10, .v (.int .i64 ((j : Int) + 1))), (11, .v (.int .i64 b)), (12, .v (.bool un))] [(7, .own 1 (u.map (AV.int .i64))), (8, .own 1 (on.map AV.bool))] Q (retPK [.tmp 6] [.n]) = some (.bool true, Q) := by
  have lx : (u.set j b).length = u.length := List.length_set ..
  have ly : (u.set j 0).length = u.length := List.length_set ..
  have sx : (u.map (AV.int .i64)).set j (.int .i64 b) = (u.set j b).map (AV.int .i64) := by rw [List.map_set]
  have sy : (u.map (AV.int .i64)).set j (.int .i64 0) = (u.set j 0).map (AV.int .i64) := by rw [List.map_set]
  have d1 := fun (Q : AHeap) => c_Rooted (u := u.set j b) (by omega) (Q := Q) (on := on) ho
  have d2 := c_Loop (u := u.set j b) (by omega) (Q := Q) hm h3
  have d3 := c_Rooted (u := u.set j 0) (by omega) (Q := Q) (on := on) ho
  have d4 := c_Deep (u := u.set j 0) (by omega) (Q := Q) ((j : Int) + 1)
  have d5 := c_Deep (u := u.set j b) (by omega) (Q := Q) ((j : Int) + 1)
  have d6 := c_Deep (u := u) (by omega) (Q := Q) b
  rw [h2] at d1
  rw [h4] at d3
  rw [ly, h5] at d4
  rw [lx] at d5
  have bd := deepR_bd u (u.length + 1) b 0 (by omega)
  have w := w1 (i := (j : Int)) (by omega) (by omega)
  have w6 := w1 (i := deepR u (u.length + 1) b 0 + 1) (by omega) (by omega)
  have rm : room 8 u.length = true := room_lt (by simp [maxBytes]; omega)
  have he : u[j]? = some (u.getD j 0) := by rw [List.getD_eq_getElem?_getD, List.getElem?_eq_getElem hj]; rfl
  have z : (0 : Int) ≤ j := by omega
  have hj2 : ((j : Int) < u.length) = True := eq_true (by omega)
  simp only [iv, bv] at d1 d2 d3 d4 d5 d6
  have f1 : ((r.length : Int) > 0) = (un = true) := by rw [← h3']; simp
  rw [p_pleachlaw21_TreeMoved_2]
  cases un with
  | true =>
    have f1 : (0 < r.length) = True := by simpa using h3'
    simp [rm, w, z, hj, hj2, he, sx, sy, d1, d2, d3, d4, f1, -List.map_set]
  | false =>
    rw [h6 rfl] at d5
    have f1 : (0 < r.length) = False := by simpa using h3'
    simp [rm, w, z, hj, hj2, he, sx, sy, d1, d2, d3, d4, d5, d6, w6, f1, -List.map_set]

def Moved (u : List Int) (on : List Bool) (j : Nat) (b : Int) (un : Bool) : Prop :=
  RootedR (u.set j b) on = (!un) ∧ (∃ m r, m ≤ 1500 ∧ loopR (u.set j b) m [] ((j : Int) + 1) = some r ∧ decide (0 < r.length) = un) ∧ RootedR (u.set j 0) on = false ∧
    deepR (u.set j 0) (u.length + 1) ((j : Int) + 1) 0 = -1 ∧ (un = false → deepR (u.set j b) (u.length + 1) ((j : Int) + 1) 0 = deepR u (u.length + 1) b 0 + 1)
def Plain : Prop := ∀ A : List Int, A.length ≤ 7 → (∀ n ∈ A, 0 ≤ n ∧ n ≤ 255) → RootedR (upT A A.length) (onT A.length) = true ∧
  (∀ (j : Nat) (b : Int), 1 ≤ j → j ≤ A.length → 1 ≤ b → b ≤ A.length + 1 → Moved (upT A A.length) (onT A.length) j b (walkR (upT A A.length) ((j : Int) + 1) 9 false b))
theorem upT_bd {A : List Int} {n : Nat} (hn : n ≤ 7) (rA : ∀ n ∈ A, 0 ≤ n ∧ n ≤ 255) (hA : n ≤ A.length) : ∀ i ∈ upT A n, 0 ≤ i ∧ i ≤ (upT A n).length := by
  intro i hi
  rw [upT_len]
  simp only [upT, List.mem_cons, List.mem_map, List.mem_range] at hi
  rcases hi with rfl | ⟨k, hk, rfl⟩
  · omega
  · have hin : A.getD k 0 ∈ A := by
      rw [List.getD_eq_getElem?_getD, List.getElem?_eq_getElem (by omega)]; exact List.getElem_mem _
    have hr := rA _ hin
    rw [Int.tmod_eq_emod_of_nonneg hr.1]
    have h1 := Int.emod_nonneg (A.getD k 0) (show (k : Int) + 1 ≠ 0 by omega)
    have h2 := Int.emod_lt_of_pos (A.getD k 0) (show 0 < (k : Int) + 1 by omega)
    omega
theorem rem_bd {x y : Int} (h : 0 ≤ x) (hy : 0 < y) : 0 ≤ x.tmod y ∧ x.tmod y < y := by
  rw [Int.tmod_eq_emod_of_nonneg h]
  exact ⟨Int.emod_nonneg _ (by omega), Int.emod_lt_of_pos _ hy⟩

theorem moved_true (plain : Plain) {A : List Int} (rA : ∀ n ∈ A, 0 ≤ n ∧ n ≤ 255) {who to : Int} (rw_ : 0 ≤ who ∧ who ≤ 255) (rt : 0 ≤ to ∧ to ≤ 255) {Q : AHeap} :
    callP (penv P1) 13 [.fz 1 (A.map (AV.int .u8)), .int .u8 who, .int .u8 to] Q = some (.bool true, Q) := by
  rw [f_pleachlaw21_TreeMoved rfl, callP_spec (g := gYes) rfl]
  by_cases h7 : (A.length : Int) > 7
  · simp [gYes, h7]
  have h7' : A.length ≤ 7 := by omega
  have e0 := loop_M0 h7' rA (v1 := .int .u8 who) (v2 := .int .u8 to) (Q := Q) A.length 0 (by omega)
  rw [show ((0 : Nat) : Int) = 0 from rfl] at e0
  rw [show (upT A 0).map (AV.int .i64) = [.int .i64 0] from rfl, show (onT 0).map AV.bool = [.bool true] from rfl] at e0
  obtain ⟨p1, p2⟩ := plain A h7' rA
  have hlu := upT_len A A.length
  have hlo := onT_len A.length
  have ub := upT_bd (n := A.length) h7' rA (Nat.le_refl _)
  generalize upT A A.length = u at *
  have c := fun (Q : AHeap) => c_Rooted (u := u) (by omega) (Q := Q) (on := onT A.length) (by omega)
  rw [p1] at c
  simp only [iv, bv] at c
  by_cases h0 : A.length = 0
  · have h0' : (A = []) = True := eq_true (List.length_eq_zero_iff.1 h0)
    simp [gYes, h7, L_pleachlaw21_TreeMoved_0_fold, e0, p_pleachlaw21_TreeMoved_3, c, h0']
  have h0' : (A = []) = False := eq_false (fun e => h0 (by rw [e]; rfl))
  have hu' : (u = []) = False := eq_false (fun e => by rw [e] at hlu; simp at hlu)
  have hw := rem_bd rw_.1 (y := (A.length : Int)) (by omega)
  have ht := rem_bd rt.1 (y := (A.length : Int) + 1) (by omega)
  have w2 := w1 (i := who) (by omega) (by omega)
  have w3 := w1 (i := to) (by omega) (by omega)
  have hj : ∃ j : Nat, who.tmod (A.length : Int) = (j : Int) - 1 ∧ 1 ≤ j ∧ j ≤ A.length := ⟨(who.tmod A.length).toNat + 1, by omega, by omega, by omega⟩
  obtain ⟨j, hj, hj1, hj2⟩ := hj
  have ha : IntKind.i64.wrap (2 + who.tmod (A.length : Int)) = (j : Int) + 1 := by rw [hj, w1 (by omega) (by omega)]; omega
  generalize hbb : 1 + to.tmod ((A.length : Int) + 1) = b at *
  have w4 := w1 (i := b) (by omega) (by omega)
  have m := p2 j b hj1 hj2 (by omega) (by omega)
  have e1 := loop_M1 (u := u) (by omega) ub (a := (j : Int) + 1) (b := .int .i64 b) (l8 := (onT A.length).map AV.bool) (Q := Q) 9 0 false b (by omega) (by omega)
  rw [show ((0 : Nat) : Int) = 0 from rfl] at e1
  obtain ⟨m1, ⟨mm, r, m2, m3, m4⟩, m5, m6, m7⟩ := m
  have e2 := last_M (u := u) (on := onT A.length) (by omega) (by omega) (j := j) (by omega) m2 m1 m3 m4 m5 m6 m7 (Q := Q)
  have n0 : ((A.length : Int) + 1 = 0) = False := eq_false (by omega)
  simp [gYes, h7, L_pleachlaw21_TreeMoved_0_fold, e0, p_pleachlaw21_TreeMoved_3, c, h0', w2, w3, ha, hlu, n0, hu', hbb, w4, L_pleachlaw21_TreeMoved_1_fold, e1, e2]
end Go.Proofs.Ytldehmfhgmmkhaa.Pt
