/- The law NakCatches: the walk. -/
import Derived.Test.YtccgolmdhikdoaaPmWin
import Derived.Test.YtccgolmdhikdoaaPmCatch
set_option linter.unusedVariables false
set_option linter.unusedSimpArgs false
namespace Go.Proofs.Ytccgolmdhikdoaa.Pn
open Go.Ab Go.Feed
set_option maxRecDepth 100000
theorem spD {l : List Sp} {i : Nat} (hi : i < l.length) : l.drop i = l.getD i default :: l.drop (i + 1) := by
  rw [List.drop_eq_getElem_cons hi, List.getD_eq_getElem?_getD, List.getElem?_eq_getElem hi]; rfl
theorem itD {l : List It} {i : Nat} (hi : i < l.length) : l.drop i = l.getD i default :: l.drop (i + 1) := by
  rw [List.drop_eq_getElem_cons hi, List.getD_eq_getElem?_getD, List.getElem?_eq_getElem hi]; rfl
section
variable {Q : AHeap} {a : Int}
theorem loop_NC0 {I : List It} (hI : I.length ≤ 8) {t7 t8 t11 t13 b0 b1 b2 b3 b4 b5 b6 : AV} : ∀ (m i : Nat) (f : Fed) (r w l : AV), i + m = I.length → Sls f r w l → Md a (100 + 3 * m) f →
    ∃ r' w' l', Sls (itemsR (I.drop i) f) r' w' l' ∧ L_pleachlaw17_NakCatches_0 P1 t7 t8 t11 (its I) t13 (.int .i64 i) (.int .i64 f.next) (.int .i64 f.top) r w l (.int .i64 f.tries) (.int .i64 f.due) b0 b1 b2 b3 b4 b5 b6 Q =
      X_pleachlaw17_NakCatches_0_x2 t7 t8 t11 t13 (.int .i64 (itemsR (I.drop i) f).next) (.int .i64 (itemsR (I.drop i) f).top) r' w' l' (.int .i64 (itemsR (I.drop i) f).tries) (.int .i64 (itemsR (I.drop i) f).due) b0 b1 b2 b3 b4 b5 b6 Q := by
  intro m
  induction m with
  | zero =>
    intro i f r w l hi hs hm
    obtain rfl : i = I.length := by omega
    refine ⟨r, w, l, by rw [List.drop_length]; exact hs, ?_⟩
    rw [List.drop_length, L_pleachlaw17_NakCatches_0_eq, p_pleachlaw17_NakCatches_0]
    simp [itemsR]
  | succ m ih =>
    intro i f r w l hi hs hm
    have c : ((i : Int) < I.length) = True := eq_true (by omega)
    have e := elQ_at (z := 2) (f := It.v) (k := .i64) (getD_at (l := I) (k := i) (by omega))
    have w1 := w64 (i := (i : Int) + 1) (by omega) (by omega)
    rw [itD (by omega)]
    generalize I.getD i default = x at *
    have bd := hm.dd.bd
    have bl := bd.l
    have rg := hm.dd.inv.rg
    have bn := bd.n1
    have n1 := hm.dd.n1
    obtain ⟨r2, w2, l2, hs2, dc⟩ := d_Comes hs (bd.weaken (by omega)) (by omega) hm.dd.inv (by omega) x
    have hm2 := Md.comes (k := 100 + 3 * m) (hm.weaken (by omega)) x
    obtain ⟨r3, w3, l3, hs3, ih⟩ := ih (i + 1) (f.comes x) r2 w2 l2 (by omega) hs2 hm2
    refine ⟨r3, w3, l3, hs3, ?_⟩
    have ei : itemsR (x :: I.drop (i + 1)) f = itemsR (I.drop (i + 1)) (f.comes x) := rfl
    rw [ei, ← ih, L_pleachlaw17_NakCatches_0_eq, p_pleachlaw17_NakCatches_0]
    generalize f.comes x = g at *
    rw [It_v] at e
    simp only [Fed.v, It_v] at dc
    simp [c, e, dc, hs2.r.one, hs2.w.one, hs2.l.one, w1, L_pleachlaw17_NakCatches_0_fold]
theorem loop_NC1 {N : List Sp} (hN : N.length ≤ 8) {t7 t8 t11 b0 b1 b2 b3 b4 b5 b6 : AV} : ∀ (m i : Nat) (f : Fed) (r w l : AV), i + m = N.length → Sls f r w l → Md a (100 + 3 * m) f →
    ∃ r' w' l', Sls (notesR (N.drop i) f) r' w' l' ∧ L_pleachlaw17_NakCatches_1 P1 t7 t8 t11 (.fz 2 (N.map Sp.v)) (.int .i64 i) (.int .i64 f.next) (.int .i64 f.top) r w l (.int .i64 f.tries) (.int .i64 f.due) b0 b1 b2 b3 b4 b5 b6 Q =
      X_pleachlaw17_NakCatches_1_x4 t7 t8 t11 (.int .i64 (notesR (N.drop i) f).next) (.int .i64 (notesR (N.drop i) f).top) r' w' l' (.int .i64 (notesR (N.drop i) f).tries) (.int .i64 (notesR (N.drop i) f).due) b0 b1 b2 b3 b4 b5 b6 Q := by
  intro m
  induction m with
  | zero =>
    intro i f r w l hi hs hm
    obtain rfl : i = N.length := by omega
    refine ⟨r, w, l, by rw [List.drop_length]; exact hs, ?_⟩
    rw [List.drop_length, L_pleachlaw17_NakCatches_1_eq, p_pleachlaw17_NakCatches_1]
    simp [notesR]
  | succ m ih =>
    intro i f r w l hi hs hm
    have c : ((i : Int) < N.length) = True := eq_true (by omega)
    have e := elQ_at (z := 2) (f := Sp.v) (k := .i64) (getD_at (l := N) (k := i) (by omega))
    have w1 := w64 (i := (i : Int) + 1) (by omega) (by omega)
    rw [spD (by omega)]
    generalize N.getD i default = x at *
    have bd := hm.dd.bd
    obtain ⟨r2, w2, l2, hs2, dc⟩ := d_Notes hs (bd.weaken (by omega)) hm.dd.inv x.1 x.2
    have hm2 := Md.notes (k := 100 + 3 * m) (hm.weaken (by omega)) x.1 x.2
    obtain ⟨r3, w3, l3, hs3, ih⟩ := ih (i + 1) (f.notes x.1 x.2) r2 w2 l2 (by omega) hs2 hm2
    refine ⟨r3, w3, l3, hs3, ?_⟩
    have ei : notesR (x :: N.drop (i + 1)) f = notesR (N.drop (i + 1)) (f.notes x.1 x.2) := rfl
    rw [ei, ← ih, L_pleachlaw17_NakCatches_1_eq, p_pleachlaw17_NakCatches_1]
    generalize f.notes x.1 x.2 = g at *
    obtain ⟨xa, xb⟩ := x
    rw [Sp_v] at e
    simp only [Fed.v] at dc
    simp [c, e, dc, hs2.r.one, hs2.w.one, hs2.l.one, w1, L_pleachlaw17_NakCatches_1_fold]
theorem loop_NC5 {g : Fed} {gr gw gl : AV} (hg : Sls g gr gw gl) (rg : RingOk g.ring g.next) (g1 : 1 ≤ g.next) (g2 : g.next ≤ 1000) {T : Int} (hT : g.next - 1 ≤ T) (hT2 : T ≤ 100000) {F : Nat} {t7 : AV} : ∀ (m i : Nat) (f : Fed) (r w l : AV), i + m = 40 → Sls f r w l → Ct g.ring g.next T F a (1000 + 48 * m) f → f.win = [] → g.next - f.next ≤ 8 * m →
    ∃ (f' : Fed) (r' w' l' : AV), Ct g.ring g.next T F a 1000 f' ∧ Sls f' r' w' l' ∧ g.next ≤ f'.next ∧
      L_pleachlaw17_NakCatches_5 P1 t7 (.int .i64 i) (.int .i64 f.next) (.int .i64 f.top) r w l (.int .i64 f.tries) (.int .i64 f.due) (.int .i64 g.next) (.int .i64 g.top) gr gw gl (.int .i64 g.tries) (.int .i64 g.due) Q =
      X_pleachlaw17_NakCatches_5_x0 t7 (.int .i64 f'.next) (.int .i64 f'.top) r' w' l' (.int .i64 f'.tries) (.int .i64 f'.due) (.int .i64 g.next) (.int .i64 g.top) gr gw gl (.int .i64 g.tries) (.int .i64 g.due) Q := by
  intro m
  induction m with
  | zero =>
    intro i f r w l hi hs hc hw hd
    obtain rfl : i = 40 := by omega
    refine ⟨f, r, w, l, hc.weaken (by omega), hs, by omega, ?_⟩
    rw [L_pleachlaw17_NakCatches_5_eq, p_pleachlaw17_NakCatches_5]
    simp
  | succ m ih =>
    intro i f r w l hi hs hc hw hd
    have c : ((i : Int) < 40) = True := eq_true (by omega)
    have w1 := w64 (i := (i : Int) + 1) (by omega) (by omega)
    by_cases hn : f.next < g.next
    · have n1 := hc.md.on.n1
      have tp := hc.tp
      obtain ⟨k1, k2, k3⟩ := round_ok (k := 1000 + 48 * m) rg (by omega) hT (hc.weaken (by omega)) hw hn
      have k3' : f.next + 8 ≤ (roundR g.ring g.next f).next ∨ g.next ≤ (roundR g.ring g.next f).next := by
        rw [Int.min_def] at k3; split at k3 <;> omega
      clear k3
      have cw := fun (Q : AHeap) => c_Wants (Q := Q) hs hc.md.dd.bd.w
      have ew : wants f = ((f.next, f.top), true) := by
        unfold wants
        simp only [hw, if_true]
        rw [if_neg (by omega)]
      rw [ew] at cw
      have sv := fun (Q : AHeap) => c_Serves (Q := Q) hg rg g1 (by omega) (lo := f.next) (hi := f.top) (by omega)
      have il := servI_len g.ring 8 f.next (min f.top (g.next - 1))
      have nl := servN_len g.ring 8 f.next (min f.top (g.next - 1)) [] Go.Span.Gd.nil n1 (by omega)
      simp only [List.length_nil, Nat.zero_add] at nl
      obtain ⟨r2, w2, l2, hs2, l0⟩ := loop_NC0 (Q := Q) (a := a) il (t7 := t7) (t8 := .int .i64 i) (t11 := .int .i64 f.next) (t13 := .fz 2 ((servN g.ring 8 f.next (min f.top (g.next - 1)) []).map Sp.v)) (b0 := .int .i64 g.next) (b1 := .int .i64 g.top) (b2 := gr) (b3 := gw) (b4 := gl) (b5 := .int .i64 g.tries) (b6 := .int .i64 g.due) _ 0 f r w l (Nat.zero_add _) hs (hc.md.weaken (by omega))
      rw [List.drop_zero] at hs2 l0
      -- the items' feed
      have hmI : Md a (500 + 48 * m) (itemsR (servI g.ring 8 f.next (min f.top (g.next - 1))) f) := by
        have : ∀ (I : List It) (k : Nat) (f : Fed), Md a (k + 3 * I.length) f → Md a k (itemsR I f) := by
          intro I
          induction I with
          | nil => intro k f h; exact h
          | cons x I ih => intro k f h; exact ih k _ (Md.comes (k := k + 3 * I.length) (h.weaken (by simp only [List.length_cons]; omega)) x)
        exact this _ _ _ (hc.md.weaken (by omega))
      obtain ⟨r3, w3, l3, hs3, l1⟩ := loop_NC1 (Q := Q) (a := a) nl (t7 := t7) (t8 := .int .i64 i) (t11 := .int .i64 f.next) (b0 := .int .i64 g.next) (b1 := .int .i64 g.top) (b2 := gr) (b3 := gw) (b4 := gl) (b5 := .int .i64 g.tries) (b6 := .int .i64 g.due) _ 0 _ r2 w2 l2 (Nat.zero_add _) hs2 (hmI.weaken (by omega))
      rw [List.drop_zero] at hs3 l1
      have er : notesR (servN g.ring 8 f.next (min f.top (g.next - 1)) []) (itemsR (servI g.ring 8 f.next (min f.top (g.next - 1))) f) = roundR g.ring g.next f := rfl
      rw [er] at hs3 l1
      obtain ⟨f', r', w', l', q1, q2, q3, ih⟩ := ih (i + 1) _ r3 w3 l3 (by omega) hs3 k1 k2 (by omega)
      refine ⟨f', r', w', l', q1, q2, q3, ?_⟩
      have past : ((roundR g.ring g.next f).next ≤ f.next) = False := eq_false (by omega)
      rw [← ih, L_pleachlaw17_NakCatches_5_eq, p_pleachlaw17_NakCatches_5]
      clear er hmI k1 k2 k3' ih
      generalize roundR g.ring g.next f = R at *
      generalize itemsR (servI g.ring 8 f.next (min f.top (g.next - 1))) f = IR at *
      generalize servI g.ring 8 f.next (min f.top (g.next - 1)) = I at *
      generalize servN g.ring 8 f.next (min f.top (g.next - 1)) [] = N at *
      simp only [Fed.v, its, Sp_v, show ((0 : Nat) : Int) = 0 from rfl] at cw sv l0 l1
      simp [c, hn, cw, sv, L_pleachlaw17_NakCatches_0_fold, l0, p_pleachlaw17_NakCatches_3, L_pleachlaw17_NakCatches_1_fold, l1, p_pleachlaw17_NakCatches_2, past, p_pleachlaw17_NakCatches_4, w1, L_pleachlaw17_NakCatches_5_fold]
    · refine ⟨f, r, w, l, hc.weaken (by omega), hs, by omega, ?_⟩
      rw [L_pleachlaw17_NakCatches_5_eq, p_pleachlaw17_NakCatches_5]
      simp [c, hn]
theorem loop_NC6 {g : Fed} {gr gw gl : AV} (hg : Sls g gr gw gl) (rg : g.ring.length ≤ 6) {e : Ev} (ge : Ge g.ring e) (h1 : 1 ≤ e.lo) (h2 : e.hi ≤ 1000000) {t16 wy f0 f1 f2 f3 f4 f5 f6 : AV} : ∀ (m : Nat) (n : Int), n + m = e.hi + 1 → e.lo ≤ n →
    L_pleachlaw17_NakCatches_6 P1 t16 (.int .i64 n) f0 f1 f2 f3 f4 f5 f6 (.int .i64 g.next) (.int .i64 g.top) gr gw gl (.int .i64 g.tries) (.int .i64 g.due) (.int .i64 e.kind) (.int .i64 e.lo) (.int .i64 e.hi) (.str e.text) wy Q =
      X_pleachlaw17_NakCatches_6_x8 t16 f0 f1 f2 f3 f4 f5 f6 (.int .i64 g.next) (.int .i64 g.top) gr gw gl (.int .i64 g.tries) (.int .i64 g.due) Q := by
  intro m
  induction m with
  | zero =>
    intro n hn hl
    have c : ¬ n ≤ e.hi := by omega
    rw [L_pleachlaw17_NakCatches_6_eq, p_pleachlaw17_NakCatches_6]
    simp [c]
  | succ m ih =>
    intro n hn hl
    have c : (n ≤ e.hi) = True := eq_true (by omega)
    have w1 := w64 (i := n + 1) (by omega) (by omega)
    have cg := fun (Q : AHeap) => d_Get (Q := Q) hg.r (by omega) n
    have ih := ih (n + 1) (by omega) (by omega)
    rw [L_pleachlaw17_NakCatches_6_eq, p_pleachlaw17_NakCatches_6]
    rcases ge with ⟨k1, k2, k3, k4⟩ | ⟨k1, k2⟩
    · obtain rfl : n = e.lo := by omega
      rw [k3] at cg
      have k1' : (e.kind = 1) = True := eq_true k1
      rw [← k4] at cg
      simp [c, cg, k1, w1]
      rw [k1] at ih
      simpa [L_pleachlaw17_NakCatches_6_fold] using ih
    · rw [k2 n hl (by omega)] at cg
      simp [c, cg, k1, w1]
      rw [k1] at ih
      simpa [L_pleachlaw17_NakCatches_6_fold] using ih
theorem loop_NC8 {f g : Fed} {r w l gr gw gl : AV} (hs : Sls f r w l) (hg : Sls g gr gw gl) (rg : g.ring.length ≤ 6) {F : Nat} (hl0 : f.log.length ≤ 800000) (ge : ∀ e ∈ f.log.drop F, Ge g.ring e ∧ 1 ≤ e.lo ∧ e.lo ≤ e.hi ∧ e.hi ≤ 1000000) : ∀ (m i : Nat), i + m = f.log.length → F ≤ i →
    L_pleachlaw17_NakCatches_8 P1 (.int .i64 i) (.int .i64 f.next) (.int .i64 f.top) r w l (.int .i64 f.tries) (.int .i64 f.due) (.int .i64 g.next) (.int .i64 g.top) gr gw gl (.int .i64 g.tries) (.int .i64 g.due) Q =
      X_pleachlaw17_NakCatches_8_x6 (.int .i64 f.next) (.int .i64 f.top) r w l (.int .i64 f.tries) (.int .i64 f.due) (.int .i64 g.next) (.int .i64 g.top) gr gw gl (.int .i64 g.tries) (.int .i64 g.due) Q := by
  intro m
  have hll := hs.l.len
  simp only [List.length_map] at hll
  induction m with
  | zero =>
    intro i hi hF
    have c : ¬ ((i : Int) < f.log.length) := by omega
    rw [L_pleachlaw17_NakCatches_8_eq, p_pleachlaw17_NakCatches_8]
    simp [hll, c]
  | succ m ih =>
    intro i hi hF
    have c : ((i : Int) < f.log.length) = True := eq_true (by omega)
    have e0 := getD_at (l := f.log) (k := i) (by omega)
    have e := hs.l.get (k := .i64) e0
    have w1 := w64 (i := (i : Int) + 1) (by omega) (by omega)
    have hx := ge (f.log.getD i default) (by
      have : (f.log.drop F)[i - F]? = some (f.log.getD i default) := by rw [List.getElem?_drop, show F + (i - F) = i by omega]; exact e0
      exact List.mem_of_getElem? this)
    have ih := ih (i + 1) (by omega) (by omega)
    generalize f.log.getD i default = x at *
    have l6 := fun (Q : AHeap) => loop_NC6 (Q := Q) hg rg hx.1 hx.2.1 hx.2.2.2 (t16 := .int .i64 i) (wy := .int .i64 x.why) (f0 := .int .i64 f.next) (f1 := .int .i64 f.top) (f2 := r) (f3 := w) (f4 := l) (f5 := .int .i64 f.tries) (f6 := .int .i64 f.due) (x.hi + 1 - x.lo).toNat x.lo (by omega) (Int.le_refl _)
    rw [EvV] at e
    rw [L_pleachlaw17_NakCatches_8_eq, p_pleachlaw17_NakCatches_8]
    simp [hll, c, e, L_pleachlaw17_NakCatches_6_fold, l6, p_pleachlaw17_NakCatches_7, w1]
    simpa [L_pleachlaw17_NakCatches_8_fold] using ih
theorem catches_true {L M : List Int} (rL : Bs L) (rM : Bs M) : ∃ Q', callP (penv P1) 7 [.fz 1 (L.map (AV.int .u8)), .fz 1 (M.map (AV.int .u8))] Q = some (.bool true, Q') := by
  have hb0 : ∀ Q, callP (penv P1) 14 [] Q = some (.bool true, Q) := fun Q => (callP_spec (E := penv P1) (f := 14) (g := gYes) rfl [] Q).trans (by simp [gYes])
  rw [f_pleachlaw17_NakCatches rfl]
  by_cases hA : 60 < L.length
  · have hA' : (60 : Int) < L.length := by omega
    exact ⟨Q, by simp [hb0, hA']⟩
  have hA' : ¬ (60 : Int) < L.length := by omega
  by_cases hB : 60 < M.length
  · have hB' : (60 : Int) < M.length := by omega
    exact ⟨Q, by simp [hb0, hA', hB']⟩
  have hB' : ¬ (60 : Int) < M.length := by omega
  obtain ⟨Q1, em, hp, _⟩ := c_Made (l := L) Q
  obtain ⟨x, f, r, w, l, Q2, hx, hm, hl, hs, _, _, ef⟩ := c_FeedL (p := Q.size) (by omega) rL hp
  obtain ⟨Q3, em2, hp2, _⟩ := c_Made (l := M) Q2
  obtain ⟨y, g, gr, gw, gl, Q4, hy, gm, gl0, gs, _, _, eg⟩ := c_FeedL (p := Q2.size) (by omega) rM hp2
  refine ⟨Q4, ?_⟩
  have n1 := hm.on.n1
  have ln := hl.n
  have m1 := gm.on.n1
  have lm := gl0.n
  have bd := hm.dd.bd
  have bl := bd.l
  have rg := gm.on.rg
  have v1 := w64 (i := max f.next g.next - 1) (by omega) (by omega)
  have hll := hs.l.len
  simp only [List.length_map] at hll
  -- what it has of its own is set aside
  have ct : Ct g.ring g.next (max f.next g.next - 1) f.log.length x 4000 ({ f with win := [], top := max f.next g.next - 1, tries := 0, due := 0 } : Fed) := by
    refine ⟨⟨⟨⟨List.Pairwise.nil, by simp, hm.dd.inv.rg, Int.le_refl _⟩, ⟨?_, ?_, bd.n0, ?_, by simp⟩, hm.dd.n0, hm.dd.n1, by simp, fun e => ?_⟩, hm.on.of rfl rfl rfl, fun z hz => by cases hz⟩, by simp, by simp, by simp, Nat.le_refl _, rfl⟩
    · show f.ring.length + 0 ≤ 700000; have := bd.r; omega
    · show f.log.length + 2 * 0 + 4000 ≤ 700000; omega
    · show f.next + 0 ≤ 4000000000; omega
    · have e : f.next = 0 := e
      omega
  have s0 : Sls ({ f with win := [], top := max f.next g.next - 1, tries := 0, due := 0 } : Fed) r .nils l := ⟨hs.r, Sl.nil 2, hs.l⟩
  obtain ⟨f', r', w', l', c1, c2, c3, lp⟩ := loop_NC5 (Q := Q4) (g := g) gs rg m1 (by omega) (T := max f.next g.next - 1) (by omega) (by omega) (t7 := .int .i64 f.log.length) 40 0 _ r .nils l rfl s0 (ct.weaken (by omega)) rfl (by show g.next - f.next ≤ 8 * (40 : Nat); omega)
  have ch := c1.md.on.ch
  have bl' := c1.md.dd.bd.l
  have l8 := fun (Q : AHeap) => loop_NC8 (Q := Q) (F := f.log.length) c2 gs rg.len (by omega) (fun e he => by
    have ok := Chain.ok ch e (List.mem_of_mem_drop he)
    have a1 := c1.md.on.a1
    exact ⟨c1.lg e he, by omega, ok.1.le, ok.1.hi⟩) (f'.log.length - f.log.length) f.log.length (by have := c1.fl; omega) (Nat.le_refl _)
  have c3' : (g.next ≤ f'.next) = True := eq_true c3
  simp only [Fed.v, show ((0 : Nat) : Int) = 0 from rfl] at ef eg lp
  simp [hb0, hA', hB', em, ef, em2, eg, hs.r.one, hs.w.one, hs.l.one, gs.r.one, gs.w.one, gs.l.one, v1, hll, L_pleachlaw17_NakCatches_5_fold, lp, p_pleachlaw17_NakCatches_10, L_pleachlaw17_NakCatches_8_fold, l8, p_pleachlaw17_NakCatches_9, c3']
end
end Go.Proofs.Ytccgolmdhikdoaa.Pn
