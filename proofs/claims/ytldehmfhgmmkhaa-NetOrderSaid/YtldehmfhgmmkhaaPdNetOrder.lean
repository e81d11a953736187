/- The law NetOrder: the walk. -/
import Derived.Test.YtldehmfhgmmkhaaPne
import Derived.Test.YtldehmfhgmmkhaaPvF
set_option linter.unusedVariables false
set_option linter.unusedSimpArgs false
namespace Go.Proofs.Ytldehmfhgmmkhaa.Pn
open Go.Ab
set_option maxRecDepth 100000
def ge (b : List UInt8) : AV := .agg [.int .i64 1, .str b, .bool false]
def Sl (z : Nat) (l : List AV) (v : AV) : Prop := v = .fz z l ∨ (v = .nils ∧ l = [])
theorem Sl.len {z l v} (h : Sl z l v) : lenQ v = some (.int .i64 l.length) := by rcases h with rfl | ⟨rfl, rfl⟩ <;> rfl
theorem Sl.clone {z l v} (h : Sl z l v) {y : Nat} (hr : room y l.length = true) : gClone z y [v] = some (.ow z l) := by
  rcases h with rfl | ⟨rfl, rfl⟩
  · simp [gClone, hr]
  · simp [gClone]
def P1 : PSpecs := [(28, gYes), (58, gClone 3 32), (60 + tkey, gDelP 3 32)]
theorem w64 {i : Int} (h : -9000000000000 ≤ i) (h2 : i ≤ 9000000000000) : IntKind.i64.wrap i = i := wrap_i64 (by omega) (by omega)
theorem wrap_u8 {i : Int} (h : 0 ≤ i) (h2 : i ≤ 255) : IntKind.u8.wrap i = i := by
  have : IntKind.u8.wrap i = i % 256 := rfl
  rw [this]; omega
theorem tmod_e {a b : Int} (h : 0 ≤ a) : a.tmod b = a % b := Int.tmod_eq_emod_of_nonneg h
theorem room_le {y n : Nat} (hy : y ≤ 100) (h : n ≤ 100000000) : room y n = true := room_lt (by
  have : n * (y + 1) ≤ 100000000 * 101 := Nat.mul_le_mul h (by omega)
  simp [maxBytes]; omega)
@[simp] theorem bin_add_s (a b : List UInt8) : binA .add (.str a) (.str b) = if a.length + b.length < 2 ^ 62 then some (.str (a ++ b)) else none := by simp only [binA, binS]
@[simp] theorem bin_eql_s (a b : List UInt8) : binA .eql (.str a) (.str b) = some (.bool (decide (a = b))) := by simp only [binA, binS, beqD]
@[simp] theorem b2sQ_1 (a : Int) : b2sQ (.fz 1 [.int .u8 a]) = some (.str [UInt8.ofNat a.toNat]) := (Eq.refl _).trans (Eq.refl _)
section
variable {Q : AHeap}
theorem c_clone {F : List (List UInt8)} {v : AV} (h : Sl 3 (F.map ge) v) (hl : F.length ≤ 1000) : callP (penv P1) 58 [v] Q = some (.ow 3 (F.map ge), Q) := by
  rw [callP_spec (g := gClone 3 32) rfl, h.clone (room_le (by omega) (by simp; omega))]; rfl
theorem c_Send {F : List (List UInt8)} {v : AV} (h : Sl 3 (F.map ge) v) (hl : F.length < 60) (b : List UInt8) : callP (penv P1) 29 [v, .agg [.int .i64 1, .str b, .bool false]] Q = some (.ow 3 ((F ++ [b]).map ge), Q) := by
  rw [f_net_Send rfl]
  have c : ¬ (60 : Int) ≤ F.length := by omega
  have r : room 32 (F.length + 1) = true := room_le (by omega) (by omega)
  simp [c_clone h (by omega), c, r, ge]
theorem c_there (l : List AV) : callP (penv P1) 59 [.fz 3 l, .int .i64 0] Q = some (.bool (decide (0 < l.length)), Q) := by
  rw [f_net_there rfl]
  have e : ((0 : Int) < l.length) = (0 < l.length) := by apply propext; omega
  simp [e]
theorem c_Comes {F : List (List UInt8)} {v : AV} (h : Sl 3 (F.map ge) v) (hl : F.length ≤ 1000) : callP (penv P1) 31 [v, .int .i64 0] Q = some (match F with
    | [] => .tup [.fz 3 [], .agg [.int .i64 0, .str [], .bool false], .bool false]
    | x :: F => .tup [.fz 3 (F.map ge), ge x, .bool true], Q) := by
  rw [f_net_Comes rfl]
  cases F with
  | nil => simp [c_clone h hl, c_there]
  | cons x F =>
    have r : room 32 (F.length + 1) = true := room_le (by omega) (by simp at hl; omega)
    have d2 : gDelP 3 32 [.ow 3 (ge x :: F.map ge), .int .i64 0, .int .i64 1] = some (.ow 3 (F.map ge)) := by
      simp [gDelP, r]
      omega
    have d : ∀ Q, callP (penv P1) 1000060 [.ow 3 (ge x :: F.map ge), .int .i64 0, .int .i64 1] Q = some (.ow 3 (F.map ge), Q) := fun Q => by
      rw [callP_spec (g := gDelP 3 32) rfl, d2]; rfl
    have el : elN (.agg [.int .i64 1, .str x, .bool false] :: F.map ge) 0 0 3 = some [.int .i64 1, .str x, .bool false] := rfl
    simp [c_clone h hl, c_there, w64, ge] at d ⊢
    simp [el, d]
theorem sl_fz (F : List (List UInt8)) : Sl 3 (F.map ge) (.fz 3 (F.map ge)) := Or.inl rfl
theorem u8v {A : List Int} (rA : ∀ n ∈ A, 0 ≤ n ∧ n ≤ 255) {i : Nat} (h : i < A.length) : 0 ≤ A.getD i 0 ∧ A.getD i 0 ≤ 255 := by
  rw [List.getD_eq_getElem?_getD, List.getElem?_eq_getElem h]; exact rA _ (List.getElem_mem _)
theorem loop_0 {B : List Int} (hB : B.length ≤ 50) (rB : ∀ n ∈ B, 0 ≤ n ∧ n ≤ 255) {t0 : AV} {i : Nat} {sent : List UInt8} : ∀ (m k : Nat) (F : List (List UInt8)) (came : List UInt8) (v : AV), k + m = 2 → Sl 3 (F.map ge) v → F.length ≤ 100 → came.length + F.flatten.length ≤ 1000 →
    ∃ (F' : List (List UInt8)) (came' : List UInt8) (v' : AV), Sl 3 (F'.map ge) v' ∧ came' ++ F'.flatten = came ++ F.flatten ∧ F'.length ≤ F.length ∧
    L_pleachlaw13_NetOrder_0 P1 t0 (.fz 1 (B.map (AV.int .u8))) v (.str sent) (.str came) (.int .i64 i) (.int .i64 k) Q = X_pleachlaw13_NetOrder_0_x2 t0 (.fz 1 (B.map (AV.int .u8))) v' (.str sent) (.str came') (.int .i64 i) Q := by
  intro m
  induction m with
  | zero =>
    intro k F came v hk hs hF hc
    refine ⟨F, came, v, hs, rfl, Nat.le_refl _, ?_⟩
    rw [L_pleachlaw13_NetOrder_0_eq, p_pleachlaw13_NetOrder_0]
    by_cases h : i < B.length
    · have e := elQ_ints (k := .u8) (kk := .i64) (l := B) (i := (i : Int)) (by omega) (by omega)
      simp only [Int.toNat_natCast] at e
      have hv := u8v rB h
      generalize B.getD i 0 = z at *
      have m1 := tmod_e (a := z) (b := 3) hv.1
      have w0 := wrap_u8 (i := z % 3) (by omega) (by omega)
      have w1 := w64 (i := z % 3) (by omega) (by omega)
      have c : ((k : Int) < z % 3) = False := eq_false (by omega)
      simp [h, e, m1, w0, w1, c]
    · simp [h]
  | succ m ih =>
    intro k F came v hk hs hF hc
    by_cases h : i < B.length
    · have e := elQ_ints (k := .u8) (kk := .i64) (l := B) (i := (i : Int)) (by omega) (by omega)
      simp only [Int.toNat_natCast] at e
      have hv := u8v rB h
      generalize B.getD i 0 = z at *
      have m1 := tmod_e (a := z) (b := 3) hv.1
      have w0 := wrap_u8 (i := z % 3) (by omega) (by omega)
      have w1 := w64 (i := z % 3) (by omega) (by omega)
      have w3 := w64 (i := (k : Int) + 1) (by omega) (by omega)
      by_cases c : (k : Int) < z % 3
      · have cc := fun (Q : AHeap) => c_Comes (Q := Q) hs (by omega)
        have hl := hs.len
        simp only [List.length_map] at hl
        cases F with
        | nil =>
          obtain ⟨F', came', v', a1, a2, a3, ih⟩ := ih (k + 1) [] came (.fz 3 []) (by omega) (sl_fz []) (by simp) hc
          refine ⟨F', came', v', a1, a2, a3, ?_⟩
          rw [L_pleachlaw13_NetOrder_0_eq, p_pleachlaw13_NetOrder_0]
          have lc : came.length < 4611686018427387904 := by simp at hc; omega
          simp [h, e, m1, w0, w1, c, cc, hl, w3, lc, L_pleachlaw13_NetOrder_0_fold]
          simpa using ih
        | cons x F =>
          simp only [List.length_cons, List.flatten_cons, List.length_append] at hF hc
          obtain ⟨F', came', v', a1, a2, a3, ih⟩ := ih (k + 1) F (came ++ x) (.fz 3 (F.map ge)) (by omega) (sl_fz F) (by omega) (by rw [List.length_append]; omega)
          refine ⟨F', came', v', a1, by rw [a2]; simp, by simp; omega, ?_⟩
          rw [L_pleachlaw13_NetOrder_0_eq, p_pleachlaw13_NetOrder_0]
          have lc : came.length + x.length < 4611686018427387904 := by omega
          have zz : (0 : Int) < (F.length : Int) + 1 := by omega
          simp [h, e, m1, w0, w1, c, cc, hl, w3, lc, zz, ge, L_pleachlaw13_NetOrder_0_fold]
          simpa using ih
      · refine ⟨F, came, v, hs, rfl, Nat.le_refl _, ?_⟩
        rw [L_pleachlaw13_NetOrder_0_eq, p_pleachlaw13_NetOrder_0]
        simp [h, e, m1, w0, w1, c]
    · refine ⟨F, came, v, hs, rfl, Nat.le_refl _, ?_⟩
      rw [L_pleachlaw13_NetOrder_0_eq, p_pleachlaw13_NetOrder_0]
      simp [h]
theorem loop_3 {sent : List UInt8} : ∀ (F : List (List UInt8)) (j : Nat) (came : List UInt8) (v : AV), Sl 3 (F.map ge) v → j + F.length ≤ 59 → came.length + F.flatten.length ≤ 1000 →
    ∃ v', Sl 3 [] v' ∧ L_pleachlaw13_NetOrder_3 P1 v (.str sent) (.str came) (.int .i64 j) Q = X_pleachlaw13_NetOrder_3_x4 v' (.str sent) (.str (came ++ F.flatten)) Q := by
  intro F
  induction F with
  | nil =>
    intro j came v hs hj hc
    refine ⟨v, hs, ?_⟩
    have hl := hs.len
    have c : ((j : Int) < 60) = True := eq_true (by simp at hj; omega)
    rw [L_pleachlaw13_NetOrder_3_eq, p_pleachlaw13_NetOrder_3]
    simp [c, hl]
  | cons x F ih =>
    intro j came v hs hj hc
    simp only [List.length_cons, List.flatten_cons, List.length_append] at hj hc
    have hl := hs.len
    simp only [List.length_map, List.length_cons] at hl
    have cc := fun (Q : AHeap) => c_Comes (Q := Q) hs (by simp; omega)
    obtain ⟨v', a1, ih⟩ := ih (j + 1) (came ++ x) (.fz 3 (F.map ge)) (sl_fz F) (by omega) (by rw [List.length_append]; omega)
    refine ⟨v', a1, ?_⟩
    have c : ((j : Int) < 60) = True := eq_true (by omega)
    have w3 := w64 (i := (j : Int) + 1) (by omega) (by omega)
    have w4 := w64 (i := (F.length : Int)) (by omega) (by omega)
    have lc : came.length + x.length < 4611686018427387904 := by omega
    have zz : (0 : Int) < (F.length : Int) + 1 := by omega
    rw [L_pleachlaw13_NetOrder_3_eq, p_pleachlaw13_NetOrder_3]
    simp [c, hl, cc, w3, w4, lc, zz, ge, L_pleachlaw13_NetOrder_3_fold]
    simpa using ih
theorem loop_2 {A B : List Int} (hA : A.length ≤ 50) (rA : ∀ n ∈ A, 0 ≤ n ∧ n ≤ 255) (hB : B.length ≤ 50) (rB : ∀ n ∈ B, 0 ≤ n ∧ n ≤ 255) : ∀ (m i : Nat) (F : List (List UInt8)) (came : List UInt8) (v : AV), i + m = A.length → Sl 3 (F.map ge) v → F.length ≤ i → came.length + F.flatten.length ≤ i →
    ∃ (F' : List (List UInt8)) (came' : List UInt8) (v' : AV), Sl 3 (F'.map ge) v' ∧ F'.length ≤ 50 ∧ came'.length + F'.flatten.length ≤ 50 ∧
    L_pleachlaw13_NetOrder_2 P1 (.fz 1 (A.map (AV.int .u8))) (.fz 1 (B.map (AV.int .u8))) v (.str (came ++ F.flatten)) (.str came) (.int .i64 i) Q = X_pleachlaw13_NetOrder_2_x0 v' (.str (came' ++ F'.flatten)) (.str came') Q := by
  intro m
  induction m with
  | zero =>
    intro i F came v hi hs hF hc
    obtain rfl : i = A.length := by omega
    refine ⟨F, came, v, hs, by omega, by omega, ?_⟩
    rw [L_pleachlaw13_NetOrder_2_eq, p_pleachlaw13_NetOrder_2]
    simp
  | succ m ih =>
    intro i F came v hi hs hF hc
    have h : ((i : Int) < A.length) = True := eq_true (by omega)
    have e := elQ_ints (k := .u8) (kk := .i64) (l := A) (i := (i : Int)) (by omega) (by omega)
    simp only [Int.toNat_natCast] at e
    have hv := u8v rA (i := i) (by omega)
    generalize A.getD i 0 = z at *
    have m1 := tmod_e (a := z) (b := 26) hv.1
    have w0 := wrap_u8 (i := z % 26) (by omega) (by omega)
    have w1 := wrap_u8 (i := 97 + z % 26) (by omega) (by omega)
    have w3 := w64 (i := (i : Int) + 1) (by omega) (by omega)
    obtain ⟨b, hb⟩ : ∃ b, b = [UInt8.ofNat (97 + z % 26).toNat] := ⟨_, rfl⟩
    have hbl : b.length = 1 := by rw [hb]; rfl
    have cs := fun (Q : AHeap) => c_Send (Q := Q) hs (by omega) b
    obtain ⟨F1, came1, v1, a1, a2, a3, l0⟩ := loop_0 (Q := Q) hB rB (t0 := .fz 1 (A.map (AV.int .u8))) (i := i) (sent := came ++ F.flatten ++ b) 2 0 (F ++ [b]) came (.fz 3 ((F ++ [b]).map ge)) (by omega) (sl_fz _) (by simp; omega) (by rw [List.flatten_append, List.length_append]; simp only [List.flatten_cons, List.flatten_nil, List.append_nil]; omega)
    have e1 : (came1 ++ F1.flatten).length = came.length + F.flatten.length + 1 := by rw [a2, List.length_append, List.flatten_append, List.length_append]; simp only [List.flatten_cons, List.flatten_nil, List.append_nil]; omega
    have a2' : came ++ F.flatten ++ b = came1 ++ F1.flatten := by rw [a2]; simp
    simp only [List.length_append] at e1
    obtain ⟨F2, came2, v2, q1, q2, q3, ih⟩ := ih (i + 1) F1 came1 v1 (by omega) a1 (by simp at a3; omega) (by omega)
    refine ⟨F2, came2, v2, q1, q2, q3, ?_⟩
    rw [a2'] at l0
    have lc : came.length + F.flatten.length + 1 < 4611686018427387904 := by omega
    have lb : (came ++ F.flatten).length + b.length < 2 ^ 62 := by rw [List.length_append]; omega
    have ba := bin_add_s (came ++ F.flatten) b
    rw [if_pos lb, a2'] at ba
    simp only [show ((0 : Nat) : Int) = 0 from rfl, List.map_append, List.map_cons, List.map_nil] at l0 cs
    rw [L_pleachlaw13_NetOrder_2_eq, p_pleachlaw13_NetOrder_2]
    simp [h, e, m1, w0, w1, ← hb, cs, ba, -bin_add_s, L_pleachlaw13_NetOrder_0_fold, l0, p_pleachlaw13_NetOrder_1, w3, L_pleachlaw13_NetOrder_2_fold]
    simpa using ih
theorem order_true {A B : List Int} (rA : ∀ n ∈ A, 0 ≤ n ∧ n ≤ 255) (rB : ∀ n ∈ B, 0 ≤ n ∧ n ≤ 255) : callP (penv P1) 10 [.fz 1 (A.map (AV.int .u8)), .fz 1 (B.map (AV.int .u8))] Q = some (.bool true, Q) := by
  rw [f_pleachlaw13_NetOrder rfl]
  have hb : ∀ Q, callP (penv P1) 28 [] Q = some (.bool true, Q) := fun Q => (callP_spec (E := penv P1) (f := 28) (g := gYes) rfl [] Q).trans (by simp [gYes])
  by_cases hA : 50 < A.length
  · have hA' : (50 : Int) < A.length := by omega
    simp [hb, hA']
  have hA' : ¬ (50 : Int) < A.length := by omega
  by_cases hB : 50 < B.length
  · have hB' : (50 : Int) < B.length := by omega
    simp [hb, hA', hB']
  have hB' : ¬ (50 : Int) < B.length := by omega
  obtain ⟨F, came, v, q1, q2, q3, l2⟩ := loop_2 (Q := Q) (by omega) rA (by omega) rB A.length 0 [] [] .nils (by omega) (Or.inr ⟨rfl, rfl⟩) (by simp) (by simp)
  obtain ⟨v', r1, l3⟩ := loop_3 (Q := Q) (sent := came ++ F.flatten) F 0 came v q1 (by omega) (by omega)
  have hl := r1.len
  simp only [show ((0 : Nat) : Int) = 0 from rfl, List.flatten_nil, List.append_nil] at l2 l3
  simp [hb, hA', hB', L_pleachlaw13_NetOrder_2_fold, l2, p_pleachlaw13_NetOrder_5, L_pleachlaw13_NetOrder_3_fold, l3, p_pleachlaw13_NetOrder_4, hl]
end
end Go.Proofs.Ytldehmfhgmmkhaa.Pn
