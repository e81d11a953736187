/- The law RingTurns. -/
import Derived.Test.YtldehmfhgmmkhaaWcRing
set_option linter.unusedVariables false
set_option linter.unusedSimpArgs false
namespace Go.Proofs.Ytldehmfhgmmkhaa.Bg
open Go.Ab
set_option maxRecDepth 100000

theorem begun_runs : tellsTrue ((frun (env []) 100000).1 45 [] AHeap.empty) = true := by kernel_rfl
def S1 : Specs := [(70, gNaN)]
theorem ok_S1 : SpecsOk S1 := (ok_cons (ok_gNaN ok_nil rfl) ok_nil)
theorem S1_cmp_isNaN_int (args : List AV) (H : AHeap) : callV (env S1) 70 args H = gNaN args H := callV_spec rfl args H
def S2 : Specs := [(68, gCmp), (45, gTrue)]
theorem ok_S2 : SpecsOk S2 := (ok_cons (ok_gCmp ok_S1 rfl S1_cmp_isNaN_int) (ok_cons (closedOk begun_runs) ok_nil))
theorem S2_cmp_Compare_int (args : List AV) (H : AHeap) : callV (env S2) 68 args H = gCmp args H := callV_spec rfl args H
theorem S2_pleachlaw14_begun (args : List AV) (H : AHeap) : callV (env S2) 45 args H = gTrue args H := callV_spec rfl args H

/-- A letter. -/
def lt (x : Int) : List UInt8 := [UInt8.ofNat (97 + x.tmod 26).toNat]
theorem lt_facts {x : Int} (h : 0 ≤ x ∧ x ≤ 255) : IntKind.u8.wrap (97 + x.tmod 26) = 97 + x.tmod 26 ∧ 0 ≤ x.tmod 26 ∧ x.tmod 26 < 26 := by
  have e : x.tmod 26 = x % 26 := Int.tmod_eq_emod_of_nonneg h.1
  refine ⟨?_, by omega, by omega⟩
  rw [IntKind.wrap_u8, e]; omega

theorem addR_len (l : List Itm) (a : Itm) : (addR l a).length ≤ 6 := by unfold addR; simp; omega
theorem addR_mem {l : List Itm} {a b : Itm} (h : b ∈ addR l a) : b ∈ l ∨ b = a := by
  have := List.mem_of_mem_drop h
  simpa using this

section
variable {s : Specs}
theorem loop_SameI {v w : AV} {l : List Itm} {H : AHeap} (hv : RdT EI H v l) (hw : RdT EI H w l) (hm : l.length ≤ 1000000) : ∀ (n i : Nat), i + n = l.length →
    L_pleachref13_SameItems_0 s v w (.int .i64 i) H = some (.exit 0, X_pleachref13_SameItems_0_x0, H) := by
  intro n
  induction n with
  | zero =>
    intro i hi
    rw [L_pleachref13_SameItems_0_eq, p_pleachref13_SameItems_0]
    have h : ¬ ((i : Int) < l.length) := by omega
    simp [h, hv.len]
  | succ n ih =>
    intro i hi
    have h : (i : Int) < l.length := by omega
    have h5 : IntKind.i64.wrap ((i : Int) + 1) = (i : Int) + 1 := wrap_i64 (by omega) (by omega)
    have ha : l[i]? = some l[i] := List.getElem?_eq_getElem (by omega)
    have i1 := hv.iad .i64 (i := (i : Int)) (by omega) h
    have i2 := hv.ldn ha
    have i3 := hw.iad .i64 (i := (i : Int)) (by omega) h
    have i4 := hw.ldn ha
    simp only [EI_z, EI_enc] at i1 i2 i3 i4
    have := ih (i + 1) (by omega)
    rw [L_pleachref13_SameItems_0_eq, p_pleachref13_SameItems_0]
    simp [h, hv.len, i1, i2, i3, i4, eqF, h5, L_pleachref13_SameItems_0_fold]
    simpa using this
theorem call_SameI (hn : s.lookup 49 = none) {v w : AV} {l : List Itm} {H : AHeap} (hv : RdT EI H v l) (hw : RdT EI H w l) (hm : l.length ≤ 1000000) : callV (env s) 49 [v, w] H = some (.bool true, H) := by
  have := loop_SameI (s := s) hv hw hm l.length 0 (by omega)
  rw [show ((0 : Nat) : Int) = 0 from rfl] at this
  rw [f_pleachref13_SameItems hn, p_pleachref13_SameItems]
  simp [hv.len, hw.len, L_pleachref13_SameItems_0_fold, this, p_pleachref13_SameItems_1]
end

theorem loop_T0 {v0 v1 p y : AV} {A : List Int} (hm : A.length ≤ 100) (rA : ∀ n ∈ A, 0 ≤ n ∧ n ≤ 255) : ∀ (n i : Nat) (H : AHeap) (x : AV) (l : List Itm), i + n = A.length → rdI .u8 H v0 = some A → RdT EI H x l → l.length ≤ 6 → (∀ b ∈ l, b.1 < 1 + i) →
    ∃ x' l' H', L_pleachlaw14_RingTurns_0 S2 v0 v1 p x y (.int .i64 i) H = some (.exit 0, X_pleachlaw14_RingTurns_0_x0 v1 p x' y, H') ∧ RdT EI H' x' l' ∧ l'.length ≤ 6 ∧ (∀ b ∈ l', b.1 < 1 + A.length) ∧ Kept H H' := by
  intro n
  induction n with
  | zero =>
    intro i H x l hi hA hx hl hb
    refine ⟨x, l, H, ?_, hx, hl, fun b h => by have := hb b h; omega, Kept.refl H⟩
    rw [L_pleachlaw14_RingTurns_0_eq, p_pleachlaw14_RingTurns_0]
    have h : ¬ ((i : Int) < A.length) := by omega
    simp [h, rdI_len hA]
  | succ n ih =>
    intro i H x l hi hA hx hl hb
    have h : (i : Int) < A.length := by omega
    have h0 : (0 : Int) ≤ i := by omega
    have h5 : IntKind.i64.wrap ((i : Int) + 1) = (i : Int) + 1 := wrap_i64 (by omega) (by omega)
    have h6 : IntKind.i64.wrap (1 + (i : Int)) = 1 + (i : Int) := wrap_i64 (by omega) (by omega)
    have a1 := rdI_iad hA .i64 h0 h
    have a2 := rdI_ld hA h0 h
    simp only [Int.toNat_natCast] at a2
    have hin : A.getD i 0 ∈ A := by
      rw [List.getD_eq_getElem?_getD, List.getElem?_eq_getElem (by omega)]; exact List.getElem_mem _
    obtain ⟨t1, t2, t3⟩ := lt_facts (rA _ hin)
    generalize A.getD i 0 = z at *
    have k0 : Kept H (H.push (some (.cells .exact 1 [.int .u8 (97 + z.tmod 26)]))) := (Kept.refl _).push _
    obtain ⟨x1, H1, e1, q1, _, k1⟩ := call_Add (s := S2) rfl rfl (hx.kept k0) (by omega) (1 + (i : Int), lt z) (fun b h => hb b h)
    have kk := k0.trans k1
    obtain ⟨x', l', H', e2, q2, q3, q4, k2⟩ := ih (i + 1) H1 x1 _ (by omega) (rdI_kept kk hA) q1 (addR_len _ _) (fun b h => by
      rcases addR_mem h with h | rfl
      · have := hb b h; omega
      · simp; omega)
    refine ⟨x', l', H', ?_, q2, q3, q4, kk.trans k2⟩
    rw [L_pleachlaw14_RingTurns_0_eq, p_pleachlaw14_RingTurns_0]
    simp only [lt] at e1
    simp [h, rdI_len hA, a1, a2, t1, h5, h6, b2sA, mapO, byteA, e1, L_pleachlaw14_RingTurns_0_fold]
    simpa using e2
theorem loop_T1 {v1 p y : AV} {A : List Int} (hm : A.length ≤ 100) (rA : ∀ n ∈ A, 0 ≤ n ∧ n ≤ 255) : ∀ (n i : Nat) (H : AHeap) (x : AV) (l : List Itm), i + n = A.length → rdI .u8 H v1 = some A → RdT EI H x l → l.length ≤ 6 → (∀ b ∈ l, b.1 < 1 + 2 * i) →
    ∃ x' l' H', L_pleachlaw14_RingTurns_1 S2 v1 p y x (.int .i64 i) H = some (.exit 2, X_pleachlaw14_RingTurns_1_x2 p y x', H') ∧ RdT EI H' x' l' ∧ l'.length ≤ 6 ∧ (∀ b ∈ l', b.1 < 1 + 2 * A.length) ∧ Kept H H' := by
  intro n
  induction n with
  | zero =>
    intro i H x l hi hA hx hl hb
    refine ⟨x, l, H, ?_, hx, hl, fun b h => by have := hb b h; omega, Kept.refl H⟩
    rw [L_pleachlaw14_RingTurns_1_eq, p_pleachlaw14_RingTurns_1]
    have h : ¬ ((i : Int) < A.length) := by omega
    simp [h, rdI_len hA]
  | succ n ih =>
    intro i H x l hi hA hx hl hb
    have h : (i : Int) < A.length := by omega
    have h0 : (0 : Int) ≤ i := by omega
    have h5 : IntKind.i64.wrap ((i : Int) + 1) = (i : Int) + 1 := wrap_i64 (by omega) (by omega)
    have h6 : IntKind.i64.wrap (1 + 2 * (i : Int)) = 1 + 2 * (i : Int) := wrap_i64 (by omega) (by omega)
    have h7 : IntKind.i64.wrap (2 * (i : Int)) = 2 * (i : Int) := wrap_i64 (by omega) (by omega)
    have a1 := rdI_iad hA .i64 h0 h
    have a2 := rdI_ld hA h0 h
    simp only [Int.toNat_natCast] at a2
    have hin : A.getD i 0 ∈ A := by
      rw [List.getD_eq_getElem?_getD, List.getElem?_eq_getElem (by omega)]; exact List.getElem_mem _
    obtain ⟨t1, t2, t3⟩ := lt_facts (rA _ hin)
    generalize A.getD i 0 = z at *
    have k0 : Kept H (H.push (some (.cells .exact 1 [.int .u8 (97 + z.tmod 26)]))) := (Kept.refl _).push _
    obtain ⟨x1, H1, e1, q1, _, k1⟩ := call_Add (s := S2) rfl rfl (hx.kept k0) (by omega) (1 + 2 * (i : Int), lt z) (fun b h => hb b h)
    have kk := k0.trans k1
    obtain ⟨x', l', H', e2, q2, q3, q4, k2⟩ := ih (i + 1) H1 x1 _ (by omega) (rdI_kept kk hA) q1 (addR_len _ _) (fun b h => by
      rcases addR_mem h with h | rfl
      · have := hb b h; omega
      · simp; omega)
    refine ⟨x', l', H', ?_, q2, q3, q4, kk.trans k2⟩
    rw [L_pleachlaw14_RingTurns_1_eq, p_pleachlaw14_RingTurns_1]
    simp only [lt] at e1
    simp [h, rdI_len hA, a1, a2, t1, h5, h6, h7, b2sA, mapO, byteA, e1, L_pleachlaw14_RingTurns_1_fold]
    simpa using e2

/-- The last ones. -/
def mine (Z : List Int) (j : Nat) : List Itm := (List.range j).map fun (i : Nat) => (50 + 3 * (i : Int), lt (Z.getD i 0))
theorem mine_succ (Z : List Int) (j : Nat) : mine Z (j + 1) = mine Z j ++ [(50 + 3 * (j : Int), lt (Z.getD j 0))] := by
  simp [mine, List.range_succ]
theorem mine_len (Z : List Int) (j : Nat) : (mine Z j).length = j := by simp [mine]
theorem mine_lt {Z : List Int} {j : Nat} {b : Itm} (h : b ∈ mine Z j) : b.1 < 50 + 3 * (j : Int) := by
  simp [mine] at h
  obtain ⟨i, hi, rfl⟩ := h
  simp; omega
theorem addR_mine (Z : List Int) {pre : List Itm} {j : Nat} (h : pre.length + j ≤ 6) (hj : j < 6) : ∃ pre', addR (pre ++ mine Z j) (50 + 3 * (j : Int), lt (Z.getD j 0)) = pre' ++ mine Z (j + 1) ∧ pre'.length + (j + 1) ≤ 6 ∧ ∀ b ∈ pre', b ∈ pre := by
  refine ⟨pre.drop (pre.length + j + 1 - 6), ?_, by simp; omega, fun b hb => List.mem_of_mem_drop hb⟩
  unfold addR
  rw [List.append_assoc, ← mine_succ, List.length_append, mine_len, List.drop_append_of_le_length (by omega)]

theorem loop_T2 {r : Nat} {Z : List Int} (hz : Z.length = 6) (rZ : ∀ n ∈ Z, 0 ≤ n ∧ n ≤ 255) : ∀ (n j : Nat) (H : AHeap) (x y : AV) (p1 p2 : List Itm), j + n = 6 → r < H.size → H.get r = some (.cells .exact 6 (Z.map (AV.int .u8))) → RdT EI H x (p1 ++ mine Z j) → RdT EI H y (p2 ++ mine Z j) → p1.length + j ≤ 6 → p2.length + j ≤ 6 → (∀ b ∈ p1, b.1 < 50) → (∀ b ∈ p2, b.1 < 50) →
    ∃ x' y' H', L_pleachlaw14_RingTurns_2 S2 (.ptr r 0) x y (.int .i64 j) H = some (.exit 4, X_pleachlaw14_RingTurns_2_x4 x' y', H') ∧ RdT EI H' x' (mine Z 6) ∧ RdT EI H' y' (mine Z 6) := by
  intro n
  induction n with
  | zero =>
    intro j H x y p1 p2 hj hr hg hx hy h1 h2 b1 b2
    obtain rfl : j = 6 := by omega
    have e1 : p1 = [] := List.length_eq_zero_iff.1 (by omega)
    have e2 : p2 = [] := List.length_eq_zero_iff.1 (by omega)
    subst e1; subst e2
    refine ⟨x, y, H, ?_, hx, hy⟩
    rw [L_pleachlaw14_RingTurns_2_eq, p_pleachlaw14_RingTurns_2]
    simp
  | succ n ih =>
    intro j H x y p1 p2 hj hr hg hx hy h1 h2 b1 b2
    have h : ((j : Int) < 6) = True := eq_true (by omega)
    have h' : j < 6 := by omega
    have h5 : IntKind.i64.wrap ((j : Int) + 1) = (j : Int) + 1 := wrap_i64 (by omega) (by omega)
    have h6 : IntKind.i64.wrap (50 + 3 * (j : Int)) = 50 + 3 * (j : Int) := wrap_i64 (by omega) (by omega)
    have h7 : IntKind.i64.wrap (3 * (j : Int)) = 3 * (j : Int) := wrap_i64 (by omega) (by omega)
    have hin : Z.getD j 0 ∈ Z := by
      rw [List.getD_eq_getElem?_getD, List.getElem?_eq_getElem (by omega)]; exact List.getElem_mem _
    obtain ⟨t1, t2, t3⟩ := lt_facts (rZ _ hin)
    have hcell : objCell (H.get r) j = some (.int .u8 (Z.getD j 0)) := by
      rw [hg, objCell_cells, List.getElem?_map, List.getD_eq_getElem?_getD, List.getElem?_eq_getElem (by omega)]; rfl
    obtain ⟨q1, r1, r2, r3⟩ := addR_mine Z h1 h'
    obtain ⟨q2, r4, r5, r6⟩ := addR_mine Z h2 h'
    generalize Z.getD j 0 = z at *
    let H2 := (H.push (some (.cells .exact 1 [.int .u8 (97 + z.tmod 26)]))).push (some (.cells .exact 2 [.int .i64 0, .str []]))
    let H3 := H2.put (H.size + 1) (some (.cells .exact 2 [.int .i64 (50 + 3 * (j : Int)), .str (lt z)]))
    have k3 : Kept H H3 := by
      refine ⟨by simp [H3, H2]; omega, fun q hq => ?_⟩
      simp only [H3, H2]
      rw [get_put_ne (by omega), get_push_ne (by simp; omega), get_push_ne (by omega)]
    have g3 : H3.get (H.size + 1) = some (.cells .exact 2 [.int .i64 (50 + 3 * (j : Int)), .str (lt z)]) := get_put_same _ _ _
    have s3 : H.size + 1 < H3.size := by simp [H3, H2]
    have bl : ∀ p : List Itm, (∀ b ∈ p, b.1 < 50) → ∀ b ∈ p ++ mine Z j, b.1 < 50 + 3 * (j : Int) := fun p hp b hb => by
      rcases List.mem_append.1 hb with hb | hb
      · have := hp b hb; omega
      · exact mine_lt hb
    obtain ⟨x1, H4, e1, c1, _, k4⟩ := call_Add (s := S2) rfl rfl (hx.kept k3) (by simp [mine_len]; omega) (50 + 3 * (j : Int), lt z) (bl p1 b1)
    obtain ⟨y1, H5, e2, c2, _, k5⟩ := call_Add (s := S2) rfl rfl ((hy.kept k3).kept k4) (by simp [mine_len]; omega) (50 + 3 * (j : Int), lt z) (bl p2 b2)
    have g4 : H4.get (H.size + 1) = some (.cells .exact 2 [.int .i64 (50 + 3 * (j : Int)), .str (lt z)]) := by rw [k4.get _ s3]; exact g3
    have g5 : H5.get (H.size + 1) = some (.cells .exact 2 [.int .i64 (50 + 3 * (j : Int)), .str (lt z)]) := by rw [k5.get _ (Nat.lt_of_lt_of_le s3 k4.size)]; exact g4
    have kk := k3.trans (k4.trans k5)
    rw [r1] at c1
    rw [r4] at c2
    obtain ⟨x', y', H', e3, c3, c4⟩ := ih (j + 1) H5 x1 y1 q1 q2 (by omega) (Nat.lt_of_lt_of_le hr kk.size) (by rw [kk.get r hr]; exact hg) (c1.kept k5) c2 (by omega) (by omega) (fun b hb => b1 b (r3 b hb)) (fun b hb => b2 b (r6 b hb))
    refine ⟨x', y', H', ?_, c3, c4⟩
    rw [L_pleachlaw14_RingTurns_2_eq, p_pleachlaw14_RingTurns_2]
    simp only [lt, H3, H2] at e1 e2 g3 g4 g5
    simp [h, h5, h6, h7, hcell, t1, b2sA, mapO, byteA, e1, g4, e2, g5, L_pleachlaw14_RingTurns_2_fold]
    simpa using e3

theorem law_RingTurns {H : AHeap} (v : AV) (A : List Int) (hA : rdI .u8 H v = some A) (_ : A.length ≤ maxLen) (rA : ∀ n ∈ A, IntKind.u8.min ≤ n ∧ n ≤ IntKind.u8.max)
    (v2 : AV) (B : List Int) (hB : rdI .u8 H v2 = some B) (_ : B.length ≤ maxLen) (rB : ∀ n ∈ B, IntKind.u8.min ≤ n ∧ n ≤ IntKind.u8.max)
    (Z : List Int) (hz : Z.length = 6) (rZ : ∀ n ∈ Z, IntKind.u8.min ≤ n ∧ n ≤ IntKind.u8.max) :
    EndsV (callV (env S2) 16 [v, v2, .agg (Z.map (AV.int .u8))] H) fun v _ => v = .bool true := by
  rw [f_pleachlaw14_RingTurns rfl, p_pleachlaw14_RingTurns]
  have ho := ints_one (k := .u8) Z
  have e0 : newcA H (AV.agg (Z.map (AV.int .u8))).cells = some (.ptr H.size 0, H.push (some (.cells .exact 6 (Z.map (AV.int .u8))))) := by
    simp only [newcA, AV.cells, ho, if_true, List.length_map, hz]
  have k0 : Kept H (H.push (some (.cells .exact 6 (Z.map (AV.int .u8))))) := (Kept.refl _).push _
  have hA0 := rdI_kept k0 hA
  have hB0 := rdI_kept k0 hB
  by_cases h1 : (12 : Int) < A.length
  · simp [e0, S2_pleachlaw14_begun, gTrue, rdI_len hA0, h1]
  by_cases h2 : (12 : Int) < B.length
  · simp [e0, S2_pleachlaw14_begun, gTrue, rdI_len hA0, rdI_len hB0, h1, h2]
  obtain ⟨x1, l1, H1, e1, c1, d1, b1, k1⟩ := loop_T0 (v0 := v) (v1 := v2) (p := .ptr H.size 0) (y := .nils) (by omega) rA A.length 0 (H.push (some (.cells .exact 6 (Z.map (AV.int .u8))))) .nils [] (by omega) hA0 (RdT.nils _) (by simp) (by simp)
  obtain ⟨x2, l2, H2, e2, c2, d2, b2, k2⟩ := loop_T1 (v1 := v2) (p := .ptr H.size 0) (y := x1) (by omega) rB B.length 0 H1 .nils [] (by omega) (rdI_kept k1 hB0) (RdT.nils _) (by simp) (by simp)
  have kk := k1.trans k2
  obtain ⟨x3, y3, H3, e3, c3, c4⟩ := loop_T2 (r := H.size) hz rZ 6 0 H2 x1 x2 l1 l2 (by omega) (by have := kk.size; simp at this; omega) (by rw [kk.get _ (by simp)]; simp) (by simpa [mine] using c1.kept k2) (by simpa [mine] using c2) (by omega) (by omega) (fun b hb => by have := b1 b hb; omega) (fun b hb => by have := b2 b hb; omega)
  rw [show ((0 : Nat) : Int) = 0 from rfl] at e1 e2 e3
  have e4 := call_SameI (s := S2) rfl c3 c4 (by rw [mine_len]; omega)
  have h0 : (mine Z 6)[0]? = some (50, lt (Z.getD 0 0)) := rfl
  have i1 := c3.iad .i64 (i := 0) (by omega) (by rw [mine_len]; omega)
  obtain ⟨p, j2, j3⟩ := c3.fad h0 0
  have j3 := j3 (.int .i64 50) (by simp)
  have ln := c3.len
  rw [mine_len] at ln
  simp only [EI_z] at i1 j2
  simp at j2 ln
  simp [e0, hz, S2_pleachlaw14_begun, gTrue, rdI_len hA0, rdI_len hB0, h1, h2, L_pleachlaw14_RingTurns_0_fold, e1, p_pleachlaw14_RingTurns_5, L_pleachlaw14_RingTurns_1_fold, e2, p_pleachlaw14_RingTurns_4, L_pleachlaw14_RingTurns_2_fold, e3, p_pleachlaw14_RingTurns_3, e4, ln, i1, j2, j3]
end Go.Proofs.Ytldehmfhgmmkhaa.Bg
