/- The law FeedResumes: the walk. -/
import Derived.Test.YtmogepinpdibdaaPdFeedO
set_option linter.unusedVariables false
set_option linter.unusedSimpArgs false
namespace Go.Proofs.Ytmogepinpdibdaa.Pf
open Go.Ab Go.Feed
set_option maxRecDepth 100000
@[simp] theorem bin_neq_s (a b : List UInt8) : binA .neq (.str a) (.str b) = some (.bool !(decide (a = b))) := by simp only [binA, binS, beqD]
@[simp] theorem bin_eql_s (a b : List UInt8) : binA .eql (.str a) (.str b) = some (.bool (decide (a = b))) := by simp only [binA, binS, beqD]
def resR (c : Int) : List Int → Fed → Fed
  | [], f => f
  | d :: l, f => resR c l (f.comes ⟨1 + d % c, tx (1 + d % c)⟩)
theorem resR_ok {c : Int} (hc : 1 ≤ c ∧ c ≤ 15) : ∀ (l : List Int) (i : Nat) (f : Fed), (∀ n ∈ l, 0 ≤ n ∧ n ≤ 255) → Told1 tx 1 f → f.log.length + f.win.length ≤ i → f.top ≤ 15 →
    Told1 tx 1 (resR c l f) ∧ (resR c l f).log.length + (resR c l f).win.length ≤ i + l.length ∧ (resR c l f).top ≤ 15 ∧ f.next ≤ (resR c l f).next := by
  intro l
  induction l with
  | nil => intro i f _ h hc ht; exact ⟨h, hc, ht, Int.le_refl _⟩
  | cons z l ih =>
    intro i f rl hr hcc ht
    have hv := rl z List.mem_cons_self
    have hm := Int.emod_nonneg z (show c ≠ 0 by omega)
    have hm2 := Int.emod_lt_of_pos z (show 0 < c by omega)
    have rc := hr.comes (by omega) (i := ⟨1 + z % c, tx (1 + z % c)⟩) (by simp only; omega) (by simp only; omega) (by simp [tx]) rfl
    have := ih (i + 1) _ (fun n hn => rl n (List.mem_cons_of_mem _ hn)) rc.1 (by have := rc.2.2.2.2; omega) (by have := rc.2.1; simp only at this; omega)
    simp only [List.length_cons]
    exact ⟨this.1, by have := this.2.1; show (resR c l (f.comes ⟨1 + z % c, tx (1 + z % c)⟩)).log.length + (resR c l (f.comes ⟨1 + z % c, tx (1 + z % c)⟩)).win.length ≤ _; omega, this.2.2.1, Int.le_trans rc.2.2.1 this.2.2.2⟩
section
variable {Q : AHeap}
theorem loop_R0 {A : List Int} (hA : A.length ≤ 20) (rA : ∀ n ∈ A, 0 ≤ n ∧ n ≤ 255) {b2 m2 : AV} (hb2 : AV.one b2 = true) (hm2 : AV.one m2 = true) : ∀ (m i : Nat) (f : Fed), i + m = A.length → Told1 tx 1 f → f.log.length + f.win.length ≤ i → f.top ≤ 15 →
    L_pleachlaw18_FeedResumes_0 P1 (.fz 1 (A.map (AV.int .u8))) b2 m2 (.int .i64 i) (.int .i64 f.next) (.int .i64 f.top) (its f.ring) (its f.win) (evs f.log) (.int .i64 f.tries) (.int .i64 f.due) Q =
      X_pleachlaw18_FeedResumes_0_x0 b2 m2 (.int .i64 (resR 12 (A.drop i) f).next) (.int .i64 (resR 12 (A.drop i) f).top) (its (resR 12 (A.drop i) f).ring) (its (resR 12 (A.drop i) f).win) (evs (resR 12 (A.drop i) f).log) (.int .i64 (resR 12 (A.drop i) f).tries) (.int .i64 (resR 12 (A.drop i) f).due) Q := by
  intro m
  induction m with
  | zero =>
    intro i f hi hr hc ht
    obtain rfl : i = A.length := by omega
    rw [L_pleachlaw18_FeedResumes_0_eq, p_pleachlaw18_FeedResumes_0]
    simp [resR]
  | succ m ih =>
    intro i f hi hr hc ht
    have h : ((i : Int) < A.length) = True := eq_true (by omega)
    have e := elQ_ints (k := .u8) (kk := .i64) (l := A) (i := (i : Int)) (by omega) (by omega)
    simp only [Int.toNat_natCast] at e
    have hv := u8v rA (i := i) (by omega)
    have hd : A.drop i = A.getD i 0 :: A.drop (i + 1) := by
      rw [List.drop_eq_getElem_cons (by omega), List.getD_eq_getElem?_getD, List.getElem?_eq_getElem (by omega)]; rfl
    rw [hd]
    generalize A.getD i 0 = z at *
    have m1 := tmod_e (a := z) (b := 12) hv.1
    have w0 := wrap_u8 (i := z % 12) (by omega) (by omega)
    have w1 := w64 (i := z % 12) (by omega) (by omega)
    have w2 := w64 (i := 1 + z % 12) (by omega) (by omega)
    have w3 := w64 (i := (i : Int) + 1) (by omega) (by omega)
    have co := c_one (Q := Q) (n := 1 + z % 12) (by omega) (by omega)
    have cc := fun (Q : AHeap) => Told1_comes (Q := Q) hr (by omega) (by omega) (by omega) (by omega) ⟨1 + z % 12, tx (1 + z % 12)⟩
    have rc := hr.comes (by omega) (i := ⟨1 + z % 12, tx (1 + z % 12)⟩) (by simp only; omega) (by simp only; omega) (by simp [tx]) rfl
    have ih := ih (i + 1) (f.comes ⟨1 + z % 12, tx (1 + z % 12)⟩) (by omega) rc.1 (by have := rc.2.2.2.2; omega) (by have := rc.2.1; simp only at this; omega)
    have eo : resR 12 (z :: A.drop (i + 1)) f = resR 12 (A.drop (i + 1)) (f.comes ⟨1 + z % 12, tx (1 + z % 12)⟩) := rfl
    rw [eo]
    simp only at cc
    clear rc eo
    generalize f.comes ⟨1 + z % 12, tx (1 + z % 12)⟩ = g at *
    generalize resR 12 (A.drop (i + 1)) g = G at *
    rw [L_pleachlaw18_FeedResumes_0_eq, p_pleachlaw18_FeedResumes_0]
    simp [h, e, m1, w0, w1, w2, w3, co, cc, Fed.z, Fed.v, L_pleachlaw18_FeedResumes_0_fold]
    simpa [its, evs] using ih
theorem loop_R1 {A : List Int} (hA : A.length ≤ 20) (rA : ∀ n ∈ A, 0 ≤ n ∧ n ≤ 255) {t10 : AV} : ∀ (m i : Nat) (f : Fed), i + m = A.length → Told1 tx 1 f → f.log.length + f.win.length ≤ i + 20 → f.top ≤ 15 →
    L_pleachlaw18_FeedResumes_1 P1 (.fz 1 (A.map (AV.int .u8))) t10 (.int .i64 i) (.int .i64 f.next) (.int .i64 f.top) (its f.ring) (its f.win) (evs f.log) (.int .i64 f.tries) (.int .i64 f.due) Q =
      X_pleachlaw18_FeedResumes_1_x2 t10 (.int .i64 (resR 15 (A.drop i) f).next) (.int .i64 (resR 15 (A.drop i) f).top) (its (resR 15 (A.drop i) f).ring) (its (resR 15 (A.drop i) f).win) (evs (resR 15 (A.drop i) f).log) (.int .i64 (resR 15 (A.drop i) f).tries) (.int .i64 (resR 15 (A.drop i) f).due) Q := by
  intro m
  induction m with
  | zero =>
    intro i f hi hr hc ht
    obtain rfl : i = A.length := by omega
    rw [L_pleachlaw18_FeedResumes_1_eq, p_pleachlaw18_FeedResumes_1]
    simp [resR]
  | succ m ih =>
    intro i f hi hr hc ht
    have h : ((i : Int) < A.length) = True := eq_true (by omega)
    have e := elQ_ints (k := .u8) (kk := .i64) (l := A) (i := (i : Int)) (by omega) (by omega)
    simp only [Int.toNat_natCast] at e
    have hv := u8v rA (i := i) (by omega)
    have hd : A.drop i = A.getD i 0 :: A.drop (i + 1) := by
      rw [List.drop_eq_getElem_cons (by omega), List.getD_eq_getElem?_getD, List.getElem?_eq_getElem (by omega)]; rfl
    rw [hd]
    generalize A.getD i 0 = z at *
    have m1 := tmod_e (a := z) (b := 15) hv.1
    have w0 := wrap_u8 (i := z % 15) (by omega) (by omega)
    have w1 := w64 (i := z % 15) (by omega) (by omega)
    have w2 := w64 (i := 1 + z % 15) (by omega) (by omega)
    have w3 := w64 (i := (i : Int) + 1) (by omega) (by omega)
    have co := c_one (Q := Q) (n := 1 + z % 15) (by omega) (by omega)
    have cc := fun (Q : AHeap) => Told1_comes (Q := Q) hr (by omega) (by omega) (by omega) (by omega) ⟨1 + z % 15, tx (1 + z % 15)⟩
    have rc := hr.comes (by omega) (i := ⟨1 + z % 15, tx (1 + z % 15)⟩) (by simp only; omega) (by simp only; omega) (by simp [tx]) rfl
    have ih := ih (i + 1) (f.comes ⟨1 + z % 15, tx (1 + z % 15)⟩) (by omega) rc.1 (by have := rc.2.2.2.2; omega) (by have := rc.2.1; simp only at this; omega)
    have eo : resR 15 (z :: A.drop (i + 1)) f = resR 15 (A.drop (i + 1)) (f.comes ⟨1 + z % 15, tx (1 + z % 15)⟩) := rfl
    rw [eo]
    simp only at cc
    clear rc eo
    generalize f.comes ⟨1 + z % 15, tx (1 + z % 15)⟩ = g at *
    generalize resR 15 (A.drop (i + 1)) g = G at *
    rw [L_pleachlaw18_FeedResumes_1_eq, p_pleachlaw18_FeedResumes_1]
    simp [h, e, m1, w0, w1, w2, w3, co, cc, Fed.z, Fed.v, L_pleachlaw18_FeedResumes_1_fold]
    simpa [its, evs] using ih
theorem loop_R2 {f : Fed} (hr : Told1 tx 1 f) (hc : f.log.length ≤ 10000) : ∀ (m i : Nat), i + m = f.log.length →
    L_pleachlaw18_FeedResumes_2 P1 (.int .i64 i) (.int .i64 f.next) (.int .i64 f.top) (its f.ring) (its f.win) (evs f.log) (.int .i64 f.tries) (.int .i64 f.due) Q =
      X_pleachlaw18_FeedResumes_2_x4 Q := by
  intro m
  induction m with
  | zero =>
    intro i hi
    obtain rfl : i = f.log.length := by omega
    rw [L_pleachlaw18_FeedResumes_2_eq, p_pleachlaw18_FeedResumes_2]
    simp [its, evs]
  | succ m ih =>
    intro i hi
    have h : ((i : Int) < f.log.length) = True := eq_true (by omega)
    have w3 := w64 (i := (i : Int) + 1) (by omega) (by omega)
    have co := c_one (Q := Q) (n := (i : Int) + 1) (by omega) (by omega)
    have e := elQ_at (z := 5) (f := Ev.v) (k := .i64) (hr.row.lg i (by omega))
    have ih := ih (i + 1) (by omega)
    rw [Int.add_comm 1 (i : Int)] at e
    rw [L_pleachlaw18_FeedResumes_2_eq, p_pleachlaw18_FeedResumes_2]
    simp [its, evs, h, w3, co, e, told, Ev.v, L_pleachlaw18_FeedResumes_2_fold]
    simpa [its, evs] using ih
theorem resumes_true {A B : List Int} (rA : ∀ n ∈ A, 0 ≤ n ∧ n ≤ 255) (rB : ∀ n ∈ B, 0 ≤ n ∧ n ≤ 255) {m : Int} (hm : 0 ≤ m ∧ m ≤ 255) : callP (penv P1) 11 [.fz 1 (A.map (AV.int .u8)), .fz 1 (B.map (AV.int .u8)), .int .u8 m] Q = some (.bool true, Q) := by
  rw [f_pleachlaw18_FeedResumes rfl]
  have hb : ∀ Q, callP (penv P1) 13 [] Q = some (.bool true, Q) := fun Q => (callP_spec (E := penv P1) (f := 13) (g := gYes) rfl [] Q).trans (by simp [gYes])
  by_cases hA : 20 < A.length
  · have hA' : (20 : Int) < A.length := by omega
    simp [hb, hA']
  have hA' : ¬ (20 : Int) < A.length := by omega
  by_cases hB : 20 < B.length
  · have hB' : (20 : Int) < B.length := by omega
    simp [hb, hA', hB']
  have hB' : ¬ (20 : Int) < B.length := by omega
  have m1 := tmod_e (a := m) (b := 15) hm.1
  have w1 := wrap_u8 (i := m % 15) (by omega) (by omega)
  have w3 := w64 (i := m % 15) (by omega) (by omega)
  have w5 := w64 (i := 1 + m % 15) (by omega) (by omega)
  have w6 := w64 (i := 1 + m % 15 - 1) (by omega) (by omega)
  have cb := fun (Q : AHeap) => c_Begin (Q := Q) sls0 ⟨by decide, by decide, by decide⟩ 1
  rw [begin0 (by omega) (by omega)] at cb
  have t0 := told0 (a := 1)
  have l0 := loop_R0 (Q := Q) (by omega) rA (b2 := .fz 1 (B.map (AV.int .u8))) (m2 := .int .u8 m) rfl rfl A.length 0 _ (by omega) t0 (by simp [Fed0]) (by simp [Fed0])
  have ok0 := resR_ok (c := 12) (by omega) A 0 _ rA t0 (by simp [Fed0]) (by simp [Fed0])
  simp only [List.drop_zero] at l0
  generalize resR 12 A { Fed0 with next := 1 } = f at *
  obtain ⟨r0, c0, p0, _⟩ := ok0
  have an := r0.row.an
  have rg := r0.row.rl
  have cb2 := fun (Q : AHeap) => c_Begin (Q := Q) (sls_z f) ⟨by omega, by omega, by omega⟩ (1 + m % 15)
  have eb : f.begin_ (1 + m % 15) = f.knows (m % 15) := by
    unfold Fed.begin_
    rw [if_pos (by omega), w6]
    congr 1; omega
  rw [eb] at cb2
  have rk := r0.knows (m % 15)
  have kt := knows_top (f := f) (t := m % 15) (by omega) (by omega)
  obtain ⟨k1, k2, k3, k4⟩ := knows_eq f (m % 15)
  generalize f.knows (m % 15) = K at *
  have l1 := loop_R1 (Q := Q) (A := B) (by omega) rB (t10 := .int .i64 K.next) B.length 0 K (by omega) rk (by rw [k4, k2]; omega) (by omega)
  have ok1 := resR_ok (c := 15) (by omega) B 20 K rB rk (by rw [k4, k2]; omega) (by omega)
  simp only [List.drop_zero] at l1
  generalize resR 15 B K = g at *
  obtain ⟨r1, c1, p1, n1⟩ := ok1
  have l2 := loop_R2 (Q := Q) r1 (by omega) g.log.length 0 (by omega)
  have gl := r1.row.ln
  have gt := r1.row.tp
  have j1 : (g.next < K.next) = False := eq_false (by omega)
  have j2 := w64 (i := g.next - 1) (by omega) (by omega)
  have j3 : (K.top < m % 15) = False := eq_false (by omega)
  simp only [Fed0, its, evs, List.map_nil, Fed.v, Fed.z, show ((0 : Nat) : Int) = 0 from rfl] at cb cb2 l0 l1 l2
  simp [hb, hA', hB', m1, w1, w3, w5, cb, L_pleachlaw18_FeedResumes_0_fold, l0, p_pleachlaw18_FeedResumes_5, cb2, j3, L_pleachlaw18_FeedResumes_1_fold, l1, p_pleachlaw18_FeedResumes_4, j1, j2, gl, L_pleachlaw18_FeedResumes_2_fold, l2, p_pleachlaw18_FeedResumes_3]
end
end Go.Proofs.Ytmogepinpdibdaa.Pf
