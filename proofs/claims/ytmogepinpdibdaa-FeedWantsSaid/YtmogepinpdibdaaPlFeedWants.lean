/- The law FeedWants: the walk. -/
import Derived.Test.YtmogepinpdibdaaPdFeedTwice
import Derived.Test.YtmogepinpdibdaaPlFeedS
import Derived.Test.YtmogepinpdibdaaPvF
set_option linter.unusedVariables false
set_option linter.unusedSimpArgs false
namespace Go.Feed
theorem tells_topeq (f : Fed) : f.tells.1.top = f.top := by
  obtain ⟨t1, t2, t3, t4, t5, t6⟩ := tells_fst f
  rw [t5, (goesL_bd f.win f).2.2.2.2.1]
theorem knows_topM {f : Fed} {t : Int} (h : f.top ≤ 1000000) : (f.knows t).top ≤ 1000000 := by
  unfold Fed.knows; split
  · show max f.top t ≤ 1000000; omega
  · exact h
theorem deed_topM {f : Fed} (h : f.top ≤ 1000000) (x y z now : Int) : (f.deed x y z now).top ≤ 1000000 := by
  unfold Fed.deed
  split
  · unfold Fed.begin_
    split
    · exact knows_topM h
    · split <;> exact h
  · split
    · unfold Fed.notes
      split
      · exact h
      · split
        · exact knows_topM h
        · rw [tells_topeq]
          show max (skips f (near f y + z % 6 - 1) 1).1.top _ ≤ 1000000
          rw [skips_knows]
          omega
    · split
      · exact knows_topM h
      · split
        · unfold Fed.tick
          split
          · exact h
          · split
            · simp only; rw [tells_topeq, skips_knows]; exact h
            · exact h
        · unfold Fed.comes
          split
          · exact h
          · rw [tells_topeq]
            exact knows_topM h
theorem tick_cases (f : Fed) (now : Int) : (f.tick now).2 = ((0, 0), false) ∨ (f.tick now = (f.tried now, (wants f).1, true) ∧ (wants f).2 = true ∧ f.tries < 3) := by
  unfold Fed.tick
  split
  · exact Or.inl rfl
  · rename_i c
    split
    · exact Or.inl rfl
    · rename_i c2
      right
      refine ⟨rfl, ?_, ?_⟩
      · cases h : (wants f).2 with
        | true => rfl
        | false => exact absurd (Or.inl h) c
      · simp [tired] at c2; omega
theorem wants_is {f : Fed} (hv : Inv f) (ht : Tp f) (h : (wants f).2 = true) : (wants f).1.1 = f.next ∧ f.next ≤ (wants f).1.2 ∧ (wants f).1.2 ≤ f.top ∧ (∀ n, n ≤ (wants f).1.2 → there f.win n = false) ∧ (there f.win ((wants f).1.2 + 1) = true ∨ (wants f).1.2 = f.top) := by
  unfold wants at h ⊢
  simp only at h ⊢
  by_cases c : f.next = 0 ∨ (if f.win = [] then f.top else first f.win - 1) < f.next
  · rw [if_pos c] at h; cases h
  · rw [if_neg c]
    simp only
    cases hw : f.win with
    | nil =>
      rw [hw] at c
      simp only [if_true] at c ⊢
      exact ⟨by trivial, by omega, Int.le_refl _, fun n _ => rfl, Or.inr (by trivial)⟩
    | cons x w =>
      rw [hw] at c
      have hs := hv.so
      rw [hw] at hs
      have hs := (List.pairwise_cons.1 hs).1
      simp only [first, reduceCtorEq, if_false] at c ⊢
      refine ⟨by trivial, by omega, by have := ht x (by rw [hw]; exact List.mem_cons_self); omega, fun n hn => ?_, Or.inl ?_⟩
      · unfold there
        rw [List.any_eq_false]
        intro y hy
        rcases List.mem_cons.1 hy with rfl | hy
        · simp; omega
        · have := hs y hy; simp; omega
      · have : x.seq - 1 + 1 = x.seq := by omega
        rw [this]
        exact there_mem List.mem_cons_self
end Go.Feed
namespace Go.Proofs.Ytmogepinpdibdaa.Pf
open Go.Ab Go.Feed
set_option maxRecDepth 100000
section
variable {Q : AHeap}
theorem loop_W0 {L : List (List Int)} (hL : L.length ≤ 60) (rL : Trip L) {a : AV} (h1 : AV.one a = true) : ∀ (m i : Nat) (f : Fed) (now : Int) (r w l : AV), i + m = L.length → Sls f r w l → Dd (690000 - 3 * i) f → Tp f → f.top ≤ 1000000 → 0 ≤ now ∧ now ≤ 4 * i →
    ∃ (g : Fed) (now' : Int) (r2 w2 l2 : AV), Sls g r2 w2 l2 ∧ Dd 600000 g ∧ Tp g ∧ g.top ≤ 1000000 ∧ (0 ≤ now' ∧ now' ≤ 240) ∧
    L_pleachlaw18_FeedWants_0 P1 (.fz 3 (L.map trip)) a (.int .i64 now) (.int .i64 i) (.int .i64 f.next) (.int .i64 f.top) r w l (.int .i64 f.tries) (.int .i64 f.due) Q =
      X_pleachlaw18_FeedWants_0_x0 a (.int .i64 now') (.int .i64 g.next) (.int .i64 g.top) r2 w2 l2 (.int .i64 g.tries) (.int .i64 g.due) Q := by
  intro m
  induction m with
  | zero =>
    intro i f now r w l hi hs hd ht htm hnow
    obtain rfl : i = L.length := by omega
    refine ⟨f, now, r, w, l, hs, hd.weaken (by omega), ht, htm, by omega, ?_⟩
    rw [L_pleachlaw18_FeedWants_0_eq, p_pleachlaw18_FeedWants_0]
    simp
  | succ m ih =>
    intro i f now r w l hi hs hd ht htm hnow
    have h : ((i : Int) < L.length) = True := eq_true (by omega)
    obtain ⟨x, y, z, e, hx, hy, hz⟩ := rL.get (i := i) (by omega)
    have e := trip_el e
    have m1 := tmod_e (a := z) (b := 4) hz.1
    have w0 := wrap_u8 (i := z % 4) (by omega) (by omega)
    have w1 := w64 (i := z % 4) (by omega) (by omega)
    have w2 := w64 (i := now + z % 4) (by omega) (by omega)
    have w3 := w64 (i := (i : Int) + 1) (by omega) (by omega)
    obtain ⟨r2, w2', l2, hd2, cd⟩ := c_deed (k := 690000 - 3 * (i + 1) - 200000) hs hs (hd.weaken (by omega)) hx hy hz (now := now + z % 4) (by omega)
    have dd := Dd.deed (k := 690000 - 3 * (i + 1)) (hd.weaken (by omega)) x y z (now + z % 4)
    have td := ht.deed hd x y z (now + z % 4)
    have tm := deed_topM htm x y z (now + z % 4)
    generalize f.deed x y z (now + z % 4) = g at *
    obtain ⟨g0, n0, r4, w4, l4, k1, k3, k4, k5, k6, ih⟩ := ih (i + 1) g (now + z % 4) (its g.ring) (its g.win) (evs g.log) (by omega) (sls_z g) dd.1 td tm (by omega)
    refine ⟨g0, n0, r4, w4, l4, k1, k3, k4, k5, k6, ?_⟩
    simp only [Fed.v, Fed.z] at cd
    rw [L_pleachlaw18_FeedWants_0_eq, p_pleachlaw18_FeedWants_0]
    simp [h, e, m1, w0, w1, w2, w3, cd, L_pleachlaw18_FeedWants_0_fold, hs.r.one, hs.w.one, hs.l.one]
    simpa [its, evs] using ih
theorem loop_W1 {g : Fed} {r2 w2 l2 : AV} (hs : Sls g r2 w2 l2) (hl : g.win.length ≤ 900000) {hi : Int} (h1 : hi ≤ g.top) (h2 : hi ≤ 1000000) (h3 : ∀ n, n ≤ hi → there g.win n = false) {t1 t6 s0 s1 s2 s3 s4 s5 s6 s90 : AV} : ∀ (m : Nat) (n : Int), n + m = hi + 1 → g.next ≤ n → 0 ≤ g.next →
    L_pleachlaw18_FeedWants_1 P1 t1 t6 (.int .i64 n) (.int .i64 g.next) (.int .i64 g.top) r2 w2 l2 (.int .i64 g.tries) (.int .i64 g.due) s0 s1 s2 s3 s4 s5 s6 s90 (.int .i64 hi) Q =
      X_pleachlaw18_FeedWants_1_x2 t1 t6 (.int .i64 g.next) (.int .i64 g.top) r2 w2 l2 (.int .i64 g.tries) (.int .i64 g.due) s0 s1 s2 s3 s4 s5 s6 s90 (.int .i64 hi) Q := by
  intro m
  induction m with
  | zero =>
    intro n hn _ _
    have h : (n ≤ hi) = False := eq_false (by omega)
    rw [L_pleachlaw18_FeedWants_1_eq, p_pleachlaw18_FeedWants_1]
    simp [h]
  | succ m ih =>
    intro n hn hg h0
    have h : (n ≤ hi) = True := eq_true (by omega)
    have dg := fun (Q : AHeap) => d_Get (Q := Q) hs.w hl n
    rw [h3 n (by omega)] at dg
    have c1 : (n < g.next) = False := eq_false (by omega)
    have c2 : (g.top < n) = False := eq_false (by omega)
    have w3 := w64 (i := n + 1) (by omega) (by omega)
    have ih := ih (n + 1) (by omega) (by omega) h0
    rw [L_pleachlaw18_FeedWants_1_eq, p_pleachlaw18_FeedWants_1]
    simp [h, dg, c1, c2, w3, L_pleachlaw18_FeedWants_1_fold]
    exact ih
theorem wants_true {L : List (List Int)} (rL : Trip L) {t : Int} (ht : 0 ≤ t ∧ t ≤ 255) : callP (penv P1) 10 [.fz 3 (L.map trip), .int .u8 t] Q = some (.bool true, Q) := by
  rw [f_pleachlaw18_FeedWants rfl]
  have hb : ∀ Q, callP (penv P1) 13 [] Q = some (.bool true, Q) := fun Q => (callP_spec (E := penv P1) (f := 13) (g := gYes) rfl [] Q).trans (by simp [gYes])
  by_cases hA : 60 < L.length
  · have hA' : (60 : Int) < L.length := by omega
    simp [hb, hA']
  have hA' : ¬ (60 : Int) < L.length := by omega
  obtain ⟨g, now, r2, w2, l2, hs, hd, htp, htm, hnow, l0⟩ := loop_W0 (Q := Q) (by omega) rL (a := .int .u8 t) rfl L.length 0 Fed0 0 .nils .nils .nils (by omega) sls0 (dd0.weaken (by omega)) tp0 (by decide) (by omega)
  have hn0 := hd.n0
  have bl := hd.bd.l
  have hb3 : Bd g 3 := hd.bd.weaken (by omega)
  have w0 := w64 (i := t) (by omega) (by omega)
  have w1 := w64 (i := now + t) (by omega) (by omega)
  have ct := fun (Q : AHeap) => c_Tick (Q := Q) hs hb3 hd.inv.tr (now := now + t) (by omega)
  simp only [show ((0 : Nat) : Int) = 0 from rfl] at l0
  rcases tick_cases g (now + t) with e | ⟨e, e2, e3⟩
  · generalize g.tick (now + t) = T at *
    obtain ⟨T, s, b⟩ := T
    simp only [Prod.mk.injEq] at e
    obtain ⟨rfl, rfl⟩ := e
    simp only [Fed.v, Fed.z, Sp.v, Fed0, its, evs] at l0 ct
    simp [hb, hA', L_pleachlaw18_FeedWants_0_fold, l0, p_pleachlaw18_FeedWants_3, w0, w1, ct, eqF]
  · rw [e] at ct
    obtain ⟨q1, q2, q3, q4, q5⟩ := wants_is hd.inv htp e2
    generalize wants g = W at *
    obtain ⟨⟨lo, hi⟩, is⟩ := W
    simp only at q1 q2 q3 q4 q5 e2
    subst q1
    have htr := hd.inv.tr
    have l1 := fun s0 s1 s2 s3 s4 s5 s6 s90 t1 t6 => loop_W1 (Q := Q) hs (by omega) (hi := hi) q3 (by omega) q4 (s0 := s0) (s1 := s1) (s2 := s2) (s3 := s3) (s4 := s4) (s5 := s5) (s6 := s6) (s90 := s90) (t1 := t1) (t6 := t6) (hi + 1 - g.next).toNat g.next (by omega) (Int.le_refl _) hn0
    have w2' := w64 (i := hi + 1) (by omega) (by omega)
    have w3' := w64 (i := g.tries + 1) (by omega) (by omega)
    have dg := fun (Q : AHeap) => d_Get (Q := Q) hs.w (by omega) (hi + 1)
    have se := fun (Q : AHeap) => d_SameE (Q := Q) (Sl.fz 5 (g.log.map Ev.v)) hs.l (by omega)
    have due : (now + t < (g.tried (now + t)).due) = True := eq_true (by
      show now + t < now + t + 2 * 2 ^ (max (min g.tries 3) 0).toNat
      have : (0 : Int) < 2 ^ (max (min g.tries 3) 0).toNat := Int.pow_pos (by omega)
      omega)
    have tr : (g.tried (now + t)).tries = g.tries + 1 := rfl
    have lg : (g.tried (now + t)).log = g.log := rfl
    have q2' : (g.next ≤ hi) = True := eq_true q2
    simp only [Fed.v, Fed.z, Sp.v, Fed0, its, evs, tr, lg] at l0 ct
    generalize (g.tried (now + t)).due = D at *
    rcases q5 with q5 | q5
    · rw [q5] at dg
      simp [hb, hA', L_pleachlaw18_FeedWants_0_fold, l0, p_pleachlaw18_FeedWants_3, w0, w1, ct, L_pleachlaw18_FeedWants_1_fold, l1, p_pleachlaw18_FeedWants_2, w2', w3', dg, due, q2', se]
    · by_cases th : there g.win (hi + 1) = true
      · rw [th] at dg
        simp [hb, hA', L_pleachlaw18_FeedWants_0_fold, l0, p_pleachlaw18_FeedWants_3, w0, w1, ct, L_pleachlaw18_FeedWants_1_fold, l1, p_pleachlaw18_FeedWants_2, w2', w3', dg, due, q2', se]
      · have th : there g.win (hi + 1) = false := by simpa using th
        rw [th] at dg
        have q6 : (hi = g.top) = True := eq_true q5
        simp [hb, hA', L_pleachlaw18_FeedWants_0_fold, l0, p_pleachlaw18_FeedWants_3, w0, w1, ct, L_pleachlaw18_FeedWants_1_fold, l1, p_pleachlaw18_FeedWants_2, w2', w3', dg, due, q2', q6, se]
end
end Go.Proofs.Ytmogepinpdibdaa.Pf
/- The law FeedWants. -/
set_option linter.unusedVariables false
set_option linter.unusedSimpArgs false
namespace Go.Proofs.Ytmogepinpdibdaa.Pf
open Go.Ab
set_option maxRecDepth 100000
theorem law_FeedWants {H : AHeap} (v : AV) (L : List (List Int)) (hL : Els 3 trip H v L) (hl : L.length ≤ maxLen) (rL : ∀ a ∈ L, a.length = 3 ∧ ∀ i ∈ a, IntKind.u8.min ≤ i ∧ i ≤ IntKind.u8.max)
    (t : Int) (ht : IntKind.u8.min ≤ t ∧ t ≤ IntKind.u8.max) :
    EndsV (callV (env S1) 10 [v, .int .u8 t] H) fun v _ => v = .bool true := by
  refine law_ends pe1 (by decide) ⟨_, wants_true (L := L) rL ht⟩ (RL.cons hL.rv (RL.cons RV.int RL.nil'))
end Go.Proofs.Ytmogepinpdibdaa.Pf
