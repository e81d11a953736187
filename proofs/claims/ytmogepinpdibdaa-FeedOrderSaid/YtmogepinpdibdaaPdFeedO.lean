/- The laws FeedOrder, FeedResumes: the walks. -/
import Derived.Test.YtmogepinpdibdaaPcFeed2
import Derived.Test.YtmogepinpdibdaaPmFeed2
set_option linter.unusedVariables false
set_option linter.unusedSimpArgs false
namespace Go.Proofs.Ytmogepinpdibdaa.Pf
open Go.Ab Go.Feed
set_option maxRecDepth 100000
def tx (n : Int) : List UInt8 := [UInt8.ofNat (97 + n % 26).toNat, UInt8.ofNat (97 + n / 26 % 26).toNat]
@[simp] theorem b2sQ_2 (a b : Int) : b2sQ (.fz 1 [.int .u8 a, .int .u8 b]) = some (.str [UInt8.ofNat a.toNat, UInt8.ofNat b.toNat]) := (Eq.refl _).trans (Eq.refl _)
theorem wrap_u8 {i : Int} (h : 0 ≤ i) (h2 : i ≤ 255) : IntKind.u8.wrap i = i := by
  have : IntKind.u8.wrap i = i % 256 := rfl
  rw [this]; omega
theorem u8v {A : List Int} (rA : ∀ n ∈ A, 0 ≤ n ∧ n ≤ 255) {i : Nat} (h : i < A.length) : 0 ≤ A.getD i 0 ∧ A.getD i 0 ≤ 255 := by
  rw [List.getD_eq_getElem?_getD, List.getElem?_eq_getElem h]; exact rA _ (List.getElem_mem _)
theorem tmod_e {a b : Int} (h : 0 ≤ a) : a.tmod b = a % b := Int.tmod_eq_emod_of_nonneg h
theorem tdiv_e {a b : Int} (h : 0 ≤ a) : a.tdiv b = a / b := Int.tdiv_eq_ediv_of_nonneg h
section
variable {Q : AHeap}
theorem c_one {n : Int} (h : 0 ≤ n) (h2 : n ≤ 2000000) : callP (penv P1) 31 [.int .i64 n] Q = some (.str (tx n), Q) := by
  rw [f_pleachlaw18_one rfl]
  have m1 := tmod_e (a := n) (b := 26) h
  have d1 := tdiv_e (a := n) (b := 26) h
  have m2 := tmod_e (a := n / 26) (b := 26) (by omega)
  have w1 := w64 (i := n % 26) (by omega) (by omega)
  have w2 := w64 (i := 97 + n % 26) (by omega) (by omega)
  have w3 := wrap_u8 (i := 97 + n % 26) (by omega) (by omega)
  have w4 := w64 (i := n / 26) (by omega) (by omega)
  have w5 := w64 (i := n / 26 % 26) (by omega) (by omega)
  have w6 := w64 (i := 97 + n / 26 % 26) (by omega) (by omega)
  have w7 := wrap_u8 (i := 97 + n / 26 % 26) (by omega) (by omega)
  simp [m1, d1, m2, w1, w2, w3, w4, w5, w6, w7, tx]
theorem Told1_bd {a : Int} {f : Fed} (h : Told1 tx a f) (ha : 1 ≤ a) (ha2 : a ≤ 1000) (hc : f.log.length + f.win.length ≤ 10000) (ht : f.top ≤ 1000000) : Bd f 10 ∧ f.ring.length + f.win.length ≤ 600000 ∧ f.next + f.win.length ≤ 3000000000 := by
  have h1 := h.row.an
  have h2 := h.row.tp
  have h3 := h.row.rl
  exact ⟨⟨by omega, by omega, by omega, by omega, fun x hx => by have := h.gt x hx; have := (h.wt x hx).2; omega⟩, by omega, by omega⟩
theorem Told1_comes {a : Int} {f : Fed} (h : Told1 tx a f) (ha : 1 ≤ a) (ha2 : a ≤ 1000) (hc : f.log.length + f.win.length ≤ 10000) (ht : f.top ≤ 1000000) (i : It) :
    callP (penv P1) 24 [.agg [.int .i64 f.next, .int .i64 f.top, its f.ring, its f.win, evs f.log, .int .i64 f.tries, .int .i64 f.due], .agg [.int .i64 i.seq, .str i.text]] Q = some (Fed.z (f.comes i), Q) := by
  have b := Told1_bd h ha ha2 hc ht
  exact c_Comes (sls_z f) b.1 b.2.1 h.so b.2.2 i
def ordR (a : Int) : List Int → Fed → Fed
  | [], f => f
  | d :: l, f => ordR a l (f.comes ⟨max f.next a + d % 8, tx (max f.next a + d % 8)⟩)
def allR : Nat → Int → Fed → Fed
  | 0, _, f => f
  | m + 1, k, f => allR m (k + 1) (f.comes ⟨k, tx k⟩)
theorem loop_O0 {A : List Int} (hA : A.length ≤ 30) (rA : ∀ n ∈ A, 0 ≤ n ∧ n ≤ 255) {a b : Int} (ha : 1 ≤ a) (ha2 : a ≤ 50) : ∀ (m i : Nat) (f : Fed), i + m = A.length → Told1 tx a f → f.log.length + f.win.length ≤ i → f.top ≤ 60 + 8 * i →
    L_pleachlaw18_FeedOrder_0 P1 (.fz 1 (A.map (AV.int .u8))) (.int .i64 a) (.int .i64 b) (.int .i64 (max f.next a)) (.int .i64 i) (.int .i64 f.next) (.int .i64 f.top) (its f.ring) (its f.win) (evs f.log) (.int .i64 f.tries) (.int .i64 f.due) Q =
      X_pleachlaw18_FeedOrder_0_x0 (.int .i64 a) (.int .i64 b) (.int .i64 (ordR a (A.drop i) f).next) (.int .i64 (ordR a (A.drop i) f).top) (its (ordR a (A.drop i) f).ring) (its (ordR a (A.drop i) f).win) (evs (ordR a (A.drop i) f).log) (.int .i64 (ordR a (A.drop i) f).tries) (.int .i64 (ordR a (A.drop i) f).due) Q := by
  intro m
  induction m with
  | zero =>
    intro i f hi hr hc ht
    obtain rfl : i = A.length := by omega
    rw [L_pleachlaw18_FeedOrder_0_eq, p_pleachlaw18_FeedOrder_0]
    simp [ordR]
  | succ m ih =>
    intro i f hi hr hc ht
    have h : ((i : Int) < A.length) = True := eq_true (by omega)
    have e := elQ_ints (k := .u8) (kk := .i64) (l := A) (i := (i : Int)) (by omega) (by omega)
    simp only [Int.toNat_natCast] at e
    have hv := u8v rA (i := i) (by omega)
    have hd : A.drop i = A.getD i 0 :: A.drop (i + 1) := by
      rw [List.drop_eq_getElem_cons (by omega), List.getD_eq_getElem?_getD, List.getElem?_eq_getElem (by omega)]; rfl
    rw [hd]
    generalize A.getD i 0 = z at *
    have tp := hr.row.tp
    have an := hr.row.an
    have m1 := tmod_e (a := z) (b := 8) hv.1
    have w0 := wrap_u8 (i := z % 8) (by omega) (by omega)
    have w1 := w64 (i := z % 8) (by omega) (by omega)
    have w2 := w64 (i := max f.next a + z % 8) (by omega) (by omega)
    have w3 := w64 (i := (i : Int) + 1) (by omega) (by omega)
    have co := c_one (Q := Q) (n := max f.next a + z % 8) (by omega) (by omega)
    have cc := fun (Q : AHeap) => Told1_comes (Q := Q) hr ha (by omega) (by omega) (by omega) ⟨max f.next a + z % 8, tx (max f.next a + z % 8)⟩
    have rc := hr.comes ha (i := ⟨max f.next a + z % 8, tx (max f.next a + z % 8)⟩) (by simp only; omega) (by simp only; omega) (by simp [tx]) rfl
    have ih := ih (i + 1) (f.comes ⟨max f.next a + z % 8, tx (max f.next a + z % 8)⟩) (by omega) rc.1 (by have := rc.2.2.2.2; omega) (by have := rc.2.1; simp only at this; omega)
    have eo : ordR a (z :: A.drop (i + 1)) f = ordR a (A.drop (i + 1)) (f.comes ⟨max f.next a + z % 8, tx (max f.next a + z % 8)⟩) := rfl
    rw [eo]
    simp only at cc
    clear rc eo
    generalize f.comes ⟨max f.next a + z % 8, tx (max f.next a + z % 8)⟩ = g at *
    generalize ordR a (A.drop (i + 1)) g = G at *
    rw [L_pleachlaw18_FeedOrder_0_eq, p_pleachlaw18_FeedOrder_0]
    simp [h, e, m1, w0, w1, w2, w3, co, cc, Fed.z, Fed.v, L_pleachlaw18_FeedOrder_0_fold]
    simpa [its, evs] using ih
theorem allR_ok {a T : Int} (ha : 1 ≤ a) (hT : T ≤ 1000) : ∀ (m : Nat) (k : Int) (f : Fed), Told1 tx a f → k + m = T + 1 → a ≤ k → k ≤ f.next → f.top ≤ T → Told1 tx a (allR m k f) ∧ T + 1 ≤ (allR m k f).next ∧ (allR m k f).top ≤ T := by
  intro m
  induction m with
  | zero => intro k f h hk _ hn ht; exact ⟨h, by show T + 1 ≤ f.next; omega, ht⟩
  | succ m ih =>
    intro k f h hk hak hn ht
    have rc := h.comes ha (i := ⟨k, tx k⟩) (by simp only; omega) (by simp only; omega) (by simp [tx]) rfl
    have a1 := rc.2.1
    have a2 := rc.2.2.1
    have a3 := rc.2.2.2.1
    simp only at a1 a3
    exact ih (k + 1) _ rc.1 (by omega) (by omega) (by
      by_cases e : k = f.next
      · have := a3 e; omega
      · omega) (by omega)
theorem loop_O1 {a T : Int} (ha : 1 ≤ a) (ha2 : a ≤ 50) (hT : T ≤ 1000) : ∀ (m : Nat) (k : Int) (f : Fed), Told1 tx a f → k + m = T + 1 → a ≤ k → k ≤ f.next → f.top ≤ T → f.log.length + f.win.length + m ≤ 10000 →
    L_pleachlaw18_FeedOrder_1 P1 (.int .i64 a) (.int .i64 T) (.int .i64 k) (.int .i64 f.next) (.int .i64 f.top) (its f.ring) (its f.win) (evs f.log) (.int .i64 f.tries) (.int .i64 f.due) Q =
      X_pleachlaw18_FeedOrder_1_x2 (.int .i64 a) (.int .i64 T) (.int .i64 (allR m k f).next) (.int .i64 (allR m k f).top) (its (allR m k f).ring) (its (allR m k f).win) (evs (allR m k f).log) (.int .i64 (allR m k f).tries) (.int .i64 (allR m k f).due) Q := by
  intro m
  induction m with
  | zero =>
    intro k f hr hk _ _ _ _
    have h : (k ≤ T) = False := eq_false (by omega)
    rw [L_pleachlaw18_FeedOrder_1_eq, p_pleachlaw18_FeedOrder_1]
    simp [allR, h]
  | succ m ih =>
    intro k f hr hk hak hn ht hc
    have h : (k ≤ T) = True := eq_true (by omega)
    have w3 := w64 (i := k + 1) (by omega) (by omega)
    have co := c_one (Q := Q) (n := k) (by omega) (by omega)
    have cc := fun (Q : AHeap) => Told1_comes (Q := Q) hr ha (by omega) (by omega) (by omega) ⟨k, tx k⟩
    have rc := hr.comes ha (i := ⟨k, tx k⟩) (by simp only; omega) (by simp only; omega) (by simp [tx]) rfl
    have ih := ih (k + 1) (f.comes ⟨k, tx k⟩) rc.1 (by omega) (by omega) (by
      have a2 := rc.2.2.1
      have a3 := rc.2.2.2.1
      simp only at a3
      by_cases e : k = f.next
      · have := a3 e; omega
      · omega) (by have := rc.2.1; simp only at this; omega) (by have := rc.2.2.2.2; omega)
    have eo : allR (m + 1) k f = allR m (k + 1) (f.comes ⟨k, tx k⟩) := rfl
    rw [eo]
    simp only at cc
    clear rc eo
    generalize f.comes ⟨k, tx k⟩ = g at *
    generalize allR m (k + 1) g = G at *
    rw [L_pleachlaw18_FeedOrder_1_eq, p_pleachlaw18_FeedOrder_1]
    simp [h, w3, co, cc, Fed.z, Fed.v, L_pleachlaw18_FeedOrder_1_fold]
    simpa [its, evs] using ih
theorem loop_O2 {a : Int} {f : Fed} (ha : 1 ≤ a) (ha2 : a ≤ 1000) (hr : Told1 tx a f) (hc : f.log.length ≤ 10000) : ∀ (m i : Nat), i + m = f.log.length →
    L_pleachlaw18_FeedOrder_2 P1 (.int .i64 a) (.int .i64 i) (.int .i64 f.next) (.int .i64 f.top) (its f.ring) (its f.win) (evs f.log) (.int .i64 f.tries) (.int .i64 f.due) Q =
      X_pleachlaw18_FeedOrder_2_x4 (.int .i64 f.next) (.int .i64 f.top) (its f.ring) (its f.win) (evs f.log) (.int .i64 f.tries) (.int .i64 f.due) Q := by
  intro m
  induction m with
  | zero =>
    intro i hi
    obtain rfl : i = f.log.length := by omega
    rw [L_pleachlaw18_FeedOrder_2_eq, p_pleachlaw18_FeedOrder_2]
    simp [its, evs]
  | succ m ih =>
    intro i hi
    have h : ((i : Int) < f.log.length) = True := eq_true (by omega)
    have w3 := w64 (i := (i : Int) + 1) (by omega) (by omega)
    have w4 := w64 (i := a + (i : Int)) (by omega) (by omega)
    have co := c_one (Q := Q) (n := a + (i : Int)) (by omega) (by omega)
    have e := elQ_at (z := 5) (f := Ev.v) (k := .i64) (hr.row.lg i (by omega))
    have ih := ih (i + 1) (by omega)
    rw [L_pleachlaw18_FeedOrder_2_eq, p_pleachlaw18_FeedOrder_2]
    simp [its, evs, h, w3, w4, co, e, told, Ev.v, eqF, L_pleachlaw18_FeedOrder_2_fold]
    simpa [its, evs] using ih
end
def Fed0 : Fed := ⟨0, 0, [], [], [], 0, 0⟩
theorem sls0 : Sls Fed0 .nils .nils .nils := ⟨Sl.nil 2, Sl.nil 2, Sl.nil 5⟩
theorem begin0 {a : Int} (h : 1 ≤ a) (h2 : a ≤ 1000000) : Fed0.begin_ a = { Fed0 with next := a } := by
  unfold Fed.begin_
  rw [if_neg (by decide), if_pos ⟨h, h2⟩]
theorem told0 {a : Int} : Told1 tx a { Fed0 with next := a } :=
  ⟨⟨Int.le_refl _, by show ((0 : Nat) : Int) = a - a; omega, fun k hk => absurd hk (Nat.not_lt_zero _), rfl, (by simp [Fed0]), Or.inl rfl⟩, List.Pairwise.nil, (by simp [Fed0]), (by simp [Fed0])⟩
theorem ordR_ok {a : Int} (ha : 1 ≤ a) (ha2 : a ≤ 50) : ∀ (l : List Int) (i : Nat) (f : Fed), (∀ n ∈ l, 0 ≤ n ∧ n ≤ 255) → i + l.length ≤ 30 → Told1 tx a f → f.log.length + f.win.length ≤ i → f.top ≤ 60 + 8 * i →
    Told1 tx a (ordR a l f) ∧ (ordR a l f).log.length + (ordR a l f).win.length ≤ 30 ∧ (ordR a l f).top ≤ 300 := by
  intro l
  induction l with
  | nil => intro i f _ hi h hc ht; simp at hi; exact ⟨h, by show f.log.length + f.win.length ≤ 30; omega, by show f.top ≤ 300; omega⟩
  | cons z l ih =>
    intro i f rl hi hr hc ht
    simp only [List.length_cons] at hi
    have hv := rl z List.mem_cons_self
    have tp := hr.row.tp
    have an := hr.row.an
    have rc := hr.comes ha (i := ⟨max f.next a + z % 8, tx (max f.next a + z % 8)⟩) (by simp only; omega) (by simp only; omega) (by simp [tx]) rfl
    exact ih (i + 1) _ (fun n hn => rl n (List.mem_cons_of_mem _ hn)) (by omega) rc.1 (by have := rc.2.2.2.2; omega) (by have := rc.2.1; simp only at this; omega)
section
variable {Q : AHeap}
theorem order_true {A : List Int} (rA : ∀ n ∈ A, 0 ≤ n ∧ n ≤ 255) {n m : Int} (hn : 0 ≤ n ∧ n ≤ 255) (hm : 0 ≤ m ∧ m ≤ 255) : callP (penv P1) 7 [.fz 1 (A.map (AV.int .u8)), .int .u8 n, .int .u8 m] Q = some (.bool true, Q) := by
  rw [f_pleachlaw18_FeedOrder rfl]
  have hb : ∀ Q, callP (penv P1) 13 [] Q = some (.bool true, Q) := fun Q => (callP_spec (E := penv P1) (f := 13) (g := gYes) rfl [] Q).trans (by simp [gYes])
  by_cases hA : 30 < A.length
  · have hA' : (30 : Int) < A.length := by omega
    simp [hb, hA']
  have hA' : ¬ (30 : Int) < A.length := by omega
  have m1 := tmod_e (a := m) (b := 50) hm.1
  have m2 := tmod_e (a := n) (b := 20) hn.1
  have w1 := wrap_u8 (i := m % 50) (by omega) (by omega)
  have w2 := wrap_u8 (i := n % 20) (by omega) (by omega)
  have w3 := w64 (i := m % 50) (by omega) (by omega)
  have w4 := w64 (i := n % 20) (by omega) (by omega)
  have w5 := w64 (i := 1 + m % 50) (by omega) (by omega)
  have w6 := w64 (i := 1 + n % 20) (by omega) (by omega)
  have w7 := w64 (i := 1 + m % 50 + (1 + n % 20)) (by omega) (by omega)
  have w8 := w64 (i := 1 + m % 50 + (1 + n % 20) - 1) (by omega) (by omega)
  obtain ⟨a, ea⟩ : ∃ a, a = 1 + m % 50 := ⟨_, rfl⟩
  obtain ⟨b, eb⟩ : ∃ b, b = 1 + n % 20 := ⟨_, rfl⟩
  rw [← ea, ← eb] at w7 w8
  have ha : 1 ≤ a := by omega
  have ha2 : a ≤ 50 := by omega
  have cb := fun (Q : AHeap) => c_Begin (Q := Q) sls0 ⟨by decide, by decide, by decide⟩ a
  rw [begin0 ha (by omega)] at cb
  have t0 := told0 (a := a)
  have l0 := loop_O0 (Q := Q) (b := b) (by omega) rA ha ha2 A.length 0 _ (by omega) t0 (by simp [Fed0]) (by simp [Fed0])
  have ok0 := ordR_ok ha ha2 A 0 _ rA (by omega) t0 (by simp [Fed0]) (by simp [Fed0])
  simp only [List.drop_zero] at l0
  generalize ordR a A { Fed0 with next := a } = f at *
  obtain ⟨r0, c0, p0⟩ := ok0
  obtain ⟨T, eT⟩ : ∃ T, T = max f.top (a + b - 1) := ⟨_, rfl⟩
  have hT : T ≤ 400 := by omega
  have an := r0.row.an
  have l1 := loop_O1 (Q := Q) (a := a) (T := T) ha ha2 (by omega) (T + 1 - a).toNat a f r0 (by omega) (Int.le_refl _) an (by omega) (by omega)
  have ok1 := allR_ok (a := a) (T := T) ha (by omega) (T + 1 - a).toNat a f r0 (by omega) (Int.le_refl _) an (by omega)
  generalize allR (T + 1 - a).toNat a f = g at *
  obtain ⟨r1, n1, p1⟩ := ok1
  have tp := r1.row.tp
  have hgn : g.next = T + 1 := by omega
  have hgw : g.win = [] := by
    cases hw : g.win with
    | nil => rfl
    | cons x w =>
      have h1 := r1.gt x (by rw [hw]; exact List.mem_cons_self)
      have h2 := (r1.wt x (by rw [hw]; exact List.mem_cons_self)).2
      omega
  have hgl := r1.row.ln
  have hgr := r1.row.rl
  have l2 := loop_O2 (Q := Q) ha (by omega) r1 (by omega) g.log.length 0 (by omega)
  have k1 := w64 (i := T + 1) (by omega) (by omega)
  have k2 := w64 (i := T + 1 - a) (by omega) (by omega)
  have k3 : (g.log.length : Int) = T + 1 - a := by omega
  have k4 : (g.ring.length : Int) = min (g.log.length : Int) 6 := by omega
  rw [hgw, hgn] at l1 l2
  simp only [Fed0, its, evs, List.map_nil] at cb l0 l1 l2
  simp only [Fed.v, Fed.z, its, evs, List.map_nil] at cb
  simp only [show ((0 : Nat) : Int) = 0 from rfl, Int.max_self] at l0 l2
  have k5 := w64 (i := a) (by omega) (by omega)
  have k6 := w64 (i := b) (by omega) (by omega)
  have k7 : ((g.ring.length : Int) = min (g.log.length : Int) 6) = True := eq_true k4
  rw [k3] at k7
  simp [hb, hA', m1, m2, w1, w2, w3, w4, ← ea, ← eb, k5, k6, cb, L_pleachlaw18_FeedOrder_0_fold, l0, p_pleachlaw18_FeedOrder_5, w7, w8, ← eT, L_pleachlaw18_FeedOrder_1_fold, l1, p_pleachlaw18_FeedOrder_4, k1, k2, k3, L_pleachlaw18_FeedOrder_2_fold, l2, p_pleachlaw18_FeedOrder_3, k7]
end
end Go.Proofs.Ytmogepinpdibdaa.Pf
