/- The law FeedTold: the walk. -/
import Derived.Test.YtmogepinpdibdaaPdFeedAll
import Derived.Test.YtmogepinpdibdaaPcMap
import Derived.Test.YtmogepinpdibdaaPcMap2
set_option linter.unusedVariables false
set_option linter.unusedSimpArgs false
namespace Go.Proofs.Ytmogepinpdibdaa.Pf
open Go.Ab Go.Feed
set_option maxRecDepth 100000
@[simp] theorem gdN_sk (w : Bool) (o : Option Nat) : gdN .sk w o = some 0 := (Eq.refl _).trans (Eq.refl _)
@[simp] theorem gdN_b (b w : Bool) (o : Option Nat) : gdN (.bool b) w o = if b = w then o else some 0 := (Eq.refl _).trans (Eq.refl _)
section
variable {r1 r2 : Nat} {C : Int → List UInt8 → Bool} {D : Int → Bool}
theorem loop_N {L : List (List Int)} {i : Nat} {x y z : Int} (e : elQ 3 (.fz 3 (L.map trip)) (.int .i64 i) = some (trip [x, y, z])) (hz : 0 ≤ z ∧ z ≤ 255) {n : Int} (hn : 1 ≤ n ∧ n ≤ 2000000) {t6 t10 a0 a1 a2 a3 a4 a5 a6 b0 b1 b2 b3 b4 b5 b6 : AV} : ∀ (m : Nat) (k : Int) (D : Int → Bool) (Q : AHeap), k + m = n + z % 6 → n ≤ k → Hp Q r1 r2 C D →
    ∃ Q', L_pleachlaw18_FeedTold_0 P1 (.fz 3 (L.map trip)) (.mp r1) (.mp r2) t6 (.int .i64 i) (.int .i64 n) t10 (.int .i64 k) a0 a1 a2 a3 a4 a5 a6 b0 b1 b2 b3 b4 b5 b6 Q =
      X_pleachlaw18_FeedTold_0_x3 (.fz 3 (L.map trip)) (.mp r1) (.mp r2) t6 (.int .i64 i) t10 a0 a1 a2 a3 a4 a5 a6 b0 b1 b2 b3 b4 b5 b6 Q' ∧ Hp Q' r1 r2 C (fun j => decide (k ≤ j ∧ j < n + z % 6) || D j) := by
  intro m
  have m1 := tmod_e (a := z) (b := 6) hz.1
  have w0 := wrap_u8 (i := z % 6) (by omega) (by omega)
  have w1 := w64 (i := z % 6) (by omega) (by omega)
  have w2 := w64 (i := n + z % 6) (by omega) (by omega)
  induction m with
  | zero =>
    intro k D Q hk hk2 hp
    have c : ¬ k < n + z % 6 := by omega
    refine ⟨Q, ?_, ?_⟩
    · rw [L_pleachlaw18_FeedTold_0_eq, p_pleachlaw18_FeedTold_0]
      simp [e, trip, m1, w0, w1, w2, c]
    · have : (fun j => decide (k ≤ j ∧ j < n + z % 6) || D j) = D := by
        funext j
        have : ¬ (k ≤ j ∧ j < n + z % 6) := by omega
        simp [this]
      rw [this]; exact hp
  | succ m ih =>
    intro k D Q hk hk2 hp
    have c : k < n + z % 6 := by omega
    have w3 := w64 (i := k + 1) (by omega) (by omega)
    obtain ⟨Q1, e1, h1⟩ := hp.upN k
    obtain ⟨Q', e2, h2⟩ := ih (k + 1) _ Q1 (by omega) (by omega) h1
    refine ⟨Q', ?_, ?_⟩
    · rw [L_pleachlaw18_FeedTold_0_eq, p_pleachlaw18_FeedTold_0]
      simp [e, trip, m1, w0, w1, w2, c, e1, w3]
      simpa [L_pleachlaw18_FeedTold_0_fold, trip] using e2
    · have : (fun j => decide (k + 1 ≤ j ∧ j < n + z % 6) || (decide (j = k) || D j)) = (fun j => decide (k ≤ j ∧ j < n + z % 6) || D j) := by
        funext j
        by_cases hj : j = k
        · subst hj; simp [c]
        · have : (k + 1 ≤ j ∧ j < n + z % 6) ↔ (k ≤ j ∧ j < n + z % 6) := by omega
          simp [hj, this]
      rw [← this]; exact h2
theorem loop_G {Q : AHeap} (hp : Hp Q r1 r2 C D) {e : Ev} {t0 t6 t7 t10 t15 a0 a1 a2 a3 a4 a5 a6 b0 b1 b2 b3 b4 b5 b6 : AV} (hb : e.kind = 2 → 0 ≤ e.lo ∧ e.hi ≤ 1000000) (hd : e.kind = 2 ∧ e.why = 1 → ∀ n, e.lo ≤ n ∧ n ≤ e.hi → D n = true) : ∀ (m : Nat) (n : Int), m = (e.hi + 1 - n).toNat → e.lo ≤ n → (e.kind = 2 → n ≤ e.hi + 1 ∨ n = e.lo) →
    L_pleachlaw18_FeedTold_3 P1 t0 (.mp r1) (.mp r2) t6 t7 t10 t15 (.int .i64 n) a0 a1 a2 a3 a4 a5 a6 b0 b1 b2 b3 b4 b5 b6 (.int .i64 e.kind) (.int .i64 e.lo) (.int .i64 e.hi) (.str e.text) (.int .i64 e.why) Q =
      X_pleachlaw18_FeedTold_3_x7 t0 (.mp r1) (.mp r2) t6 t7 t10 t15 a0 a1 a2 a3 a4 a5 a6 b0 b1 b2 b3 b4 b5 b6 Q := by
  intro m
  induction m with
  | zero =>
    intro n hm hl hn
    have c : ¬ n ≤ e.hi := by omega
    rw [L_pleachlaw18_FeedTold_3_eq, p_pleachlaw18_FeedTold_3]
    simp [c]
  | succ m ih =>
    intro n hm hl hn
    have c : n ≤ e.hi := by omega
    rw [L_pleachlaw18_FeedTold_3_eq, p_pleachlaw18_FeedTold_3]
    by_cases k1 : e.kind = 2
    · have := hb k1
      by_cases k2 : e.why = 1
      · have lk := hp.lkN n
        rw [hd ⟨k1, k2⟩ n ⟨hl, c⟩] at lk
        have w := w64 (i := n + 1) (by omega) (by omega)
        have ih := ih (n + 1) (by omega) (by omega) (fun _ => Or.inl (by omega))
        rw [k1, k2] at ih
        simp [c, k1, k2, lk, w]
        simpa [L_pleachlaw18_FeedTold_3_fold] using ih
      · simp [c, k1, k2]
    · simp [c, k1]
theorem loop_E {Q : AHeap} (hp : Hp Q r1 r2 C D) {L : List (List Int)} {i : Nat} {x y z : Int} (el : elQ 3 (.fz 3 (L.map trip)) (.int .i64 i) = some (trip [x, y, z])) (hx : 0 ≤ x ∧ x ≤ 255) {tries : Int} {g : List Ev} (hg : g.length ≤ 900000) {t6 a0 a1 a2 a3 a4 a5 a6 b0 b1 b2 b3 b5 b6 : AV} {l0 : Nat}
    (hok : ∀ k, l0 ≤ k → ∀ e, g[k]? = some e → okE C D (3 ≤ tries ∧ (x % 8 = 3 ∨ x % 8 = 4)) e) : ∀ (m k : Nat), k + m = g.length → l0 ≤ k →
    L_pleachlaw18_FeedTold_5 P1 (.fz 3 (L.map trip)) (.mp r1) (.mp r2) t6 (.int .i64 i) (.int .i64 tries) (.int .i64 k) a0 a1 a2 a3 a4 a5 a6 b0 b1 b2 b3 (evs g) b5 b6 Q =
      X_pleachlaw18_FeedTold_5_x5 (.fz 3 (L.map trip)) (.mp r1) (.mp r2) t6 (.int .i64 i) a0 a1 a2 a3 a4 a5 a6 b0 b1 b2 b3 (evs g) b5 b6 Q := by
  intro m
  induction m with
  | zero =>
    intro k hk hl
    obtain rfl : k = g.length := by omega
    rw [L_pleachlaw18_FeedTold_5_eq, p_pleachlaw18_FeedTold_5]
    simp [evs]
  | succ m ih =>
    intro k hk hl
    have c : ((k : Int) < g.length) = True := eq_true (by omega)
    have hx0 : g[k]? = some g[k] := List.getElem?_eq_getElem (by omega)
    have e := elQ_at (z := 5) (f := Ev.v) (k := .i64) hx0
    have ok := hok k hl _ hx0
    generalize g[k] = v at *
    have w := w64 (i := (k : Int) + 1) (by omega) (by omega)
    have ih := ih (k + 1) (by omega) (by omega)
    rw [show ((k + 1 : Nat) : Int) = (k : Int) + 1 by push_cast; rfl] at ih
    obtain ⟨o1, o2, o3, o4⟩ := ok
    have lg := fun t10 => loop_G hp (e := v) (t0 := .fz 3 (L.map trip)) (t6 := t6) (t7 := .int .i64 i) (t10 := t10) (t15 := .int .i64 k) (a0 := a0) (a1 := a1) (a2 := a2) (a3 := a3) (a4 := a4) (a5 := a5) (a6 := a6) (b0 := b0) (b1 := b1) (b2 := b2) (b3 := b3) (b4 := evs g) (b5 := b5) (b6 := b6) o4 o3 _ v.lo rfl (Int.le_refl _) (fun _ => Or.inr rfl)
    obtain ⟨kd, lo, hi, tx, wy⟩ := v
    simp only at o1 o2 o3 o4 lg
    rw [L_pleachlaw18_FeedTold_5_eq, p_pleachlaw18_FeedTold_5]
    simp only [evs] at lg ih ⊢
    by_cases k1 : kd = 1
    · obtain ⟨u, lk1, lk2⟩ := hp.lkC lo tx
      rw [o1 k1] at lk2
      subst k1
      simp [c, e, Ev.v, lk1, lk2, L_pleachlaw18_FeedTold_3_fold, lg, p_pleachlaw18_FeedTold_4, w]
      simpa [L_pleachlaw18_FeedTold_5_fold] using ih
    · by_cases k2 : kd = 2
      · by_cases k3 : wy = 2
        · obtain ⟨t1, t2⟩ := o2 ⟨k2, k3⟩
          have t1' : ¬ tries < 3 := by omega
          have m1 := tmod_e (a := x) (b := 8) hx.1
          have w0 := wrap_u8 (i := x % 8) (by omega) (by omega)
          subst k2 k3
          rcases t2 with t2 | t2
          · simp [c, e, Ev.v, t1', el, trip, m1, w0, t2, L_pleachlaw18_FeedTold_3_fold, lg, p_pleachlaw18_FeedTold_4, w]
            simpa [L_pleachlaw18_FeedTold_5_fold, trip] using ih
          · simp [c, e, Ev.v, t1', el, trip, m1, w0, t2, L_pleachlaw18_FeedTold_3_fold, lg, p_pleachlaw18_FeedTold_4, w]
            simpa [L_pleachlaw18_FeedTold_5_fold, trip] using ih
        · subst k2
          simp [c, e, Ev.v, k3, L_pleachlaw18_FeedTold_3_fold, lg, p_pleachlaw18_FeedTold_4, w]
          simpa [L_pleachlaw18_FeedTold_5_fold] using ih
      · simp [c, e, Ev.v, k1, k2, L_pleachlaw18_FeedTold_3_fold, lg, p_pleachlaw18_FeedTold_4, w]
        simpa [L_pleachlaw18_FeedTold_5_fold] using ih
def C' (C : Int → List UInt8 → Bool) (n x : Int) (t : List UInt8) : Int → List UInt8 → Bool := if 5 ≤ x % 8 then fun k' t' => decide (k' = n ∧ t' = t) || C k' t' else C
def D' (D : Int → Bool) (n x z : Int) : Int → Bool := if x % 8 = 1 then fun j => decide (n ≤ j ∧ j < n + z % 6) || D j else D
theorem loop_FT {L : List (List Int)} (hL : L.length ≤ 80) (rL : Trip L) : ∀ (m i : Nat) (f : Fed) (now : Int) (r w l : AV) (C : Int → List UInt8 → Bool) (D : Int → Bool) (Q : AHeap), i + m = L.length → Sls f r w l → Dd (690000 - 3 * i) f → 0 ≤ now ∧ now ≤ 4 * i → WinC C f → Hp Q r1 r2 C D →
    ∃ Q', L_pleachlaw18_FeedTold_9 P1 (.fz 3 (L.map trip)) (.mp r1) (.mp r2) (.int .i64 now) (.int .i64 i) (.int .i64 f.next) (.int .i64 f.top) r w l (.int .i64 f.tries) (.int .i64 f.due) Q = X_pleachlaw18_FeedTold_9_x0 Q' := by
  intro m
  induction m with
  | zero =>
    intro i f now r w l C D Q hi hs hd hnow hw hp
    obtain rfl : i = L.length := by omega
    refine ⟨Q, ?_⟩
    rw [L_pleachlaw18_FeedTold_9_eq, p_pleachlaw18_FeedTold_9]
    simp
  | succ m ih =>
    intro i f now r w l C D Q hi hs hd hnow hw hp
    have h : ((i : Int) < L.length) = True := eq_true (by omega)
    obtain ⟨x, y, z, e, hx, hy, hz⟩ := rL.get (i := i) (by omega)
    have e := trip_el e
    have hn0 := hd.n0
    have hn1 := hd.n1
    have m1 := tmod_e (a := z) (b := 4) hz.1
    have m2 := tmod_e (a := y) (b := 12) hy.1
    have m3 := tmod_e (a := z) (b := 5) hz.1
    have m4 := tmod_e (a := x) (b := 8) hx.1
    have w0 := wrap_u8 (i := z % 4) (by omega) (by omega)
    have w1 := w64 (i := z % 4) (by omega) (by omega)
    have w2 := w64 (i := now + z % 4) (by omega) (by omega)
    have w3 := w64 (i := (i : Int) + 1) (by omega) (by omega)
    have w4 := wrap_u8 (i := y % 12) (by omega) (by omega)
    have w5 := w64 (i := y % 12) (by omega) (by omega)
    have w6 := w64 (i := f.next - 2) (by omega) (by omega)
    have w7 := w64 (i := f.next - 2 + y % 12) (by omega) (by omega)
    have w8 := wrap_u8 (i := z % 5) (by omega) (by omega)
    have w9 := wrap_u8 (i := x % 8) (by omega) (by omega)
    have et := el_text (z := z % 5) (by omega)
    obtain ⟨n, en⟩ : ∃ n, n = near f y := ⟨_, rfl⟩
    have en' : max 1 (f.next - 2 + y % 12) = n := by rw [en]; rfl
    have hn2 : 1 ≤ n ∧ n ≤ 2000000 := by omega
    obtain ⟨t, ht⟩ : ∃ t, t = texts.getD (z % 5).toNat [] := ⟨_, rfl⟩
    rw [← ht] at et
    obtain ⟨r2', w2', l2, hd2, cd⟩ := c_deed (k := 690000 - 3 * (i + 1) - 200000) hs hs (hd.weaken (by omega)) hx hy hz (now := now + z % 4) (by omega)
    have dd := Dd.deed (k := 690000 - 3 * (i + 1)) (hd.weaken (by omega)) x y z (now + z % 4)
    have hw' : WinC (C' C n x t) f := fun v hv => by
      have := hw v hv
      unfold C'
      split
      · simp [this]
      · exact this
    have nk := Nk.deed (C := C' C n x t) (D := D' D n x z) (ti := 3 ≤ f.tries ∧ (x % 8 = 3 ∨ x % 8 = 4)) (x := x) (y := y) (z := z) (now := now + z % 4) hw' (fun q0 q1 q2 q3 => by
        have : 5 ≤ x % 8 := by omega
        rw [← en, ← ht]; unfold C'; rw [if_pos this]; simp) (fun q1 k hk => by rw [← en] at hk; unfold D'; rw [if_pos q1]; simp [hk]) (fun q3 q4 => ⟨q4, q3⟩)
    generalize f.deed x y z (now + z % 4) = g at *
    obtain ⟨dg, gr⟩ := dd
    have bl := dg.bd.l
    have hlen := gr.lg.length_le
    have hl' := hs.l.len
    simp only [List.length_map] at hl'
    obtain ⟨nw, s, ns, nok⟩ := nk
    have hok : ∀ k, f.log.length ≤ k → ∀ e, g.log[k]? = some e → okE (C' C n x t) (D' D n x z) (3 ≤ f.tries ∧ (x % 8 = 3 ∨ x % 8 = 4)) e := fun k hk e he => by
      rw [ns, List.getElem?_append_right hk] at he
      exact nok e (List.mem_of_getElem? he)
    have n3 : (g.log.length < f.log.length) = False := eq_false (by omega)
    have gl : (evs g.log) = .fz 5 (g.log.map Ev.v) := rfl
    -- what is looked at behind the deed
    have key : ∀ Q2, Hp Q2 r1 r2 (C' C n x t) (D' D n x z) → evalPK (callP (penv P1)) (loopP (penv P1)) c_pleachlaw18_FeedTold_7 [(0, .v (.fz 3 (L.map trip))), (3, .lp 3 0), (4, .v (.mp r1)), (5, .v (.mp r2)), (6, .v (.int .i64 (now + z % 4))), (7, .v (.int .i64 i)), (10, .v (.int .i64 f.tries)), (11, .lp 11 0)]
          [(3, .cells [.int .i64 f.next, .int .i64 f.top, r, w, l, .int .i64 f.tries, .int .i64 f.due]), (11, .cells [.int .i64 g.next, .int .i64 g.top, its g.ring, its g.win, evs g.log, .int .i64 g.tries, .int .i64 g.due])] Q2 ret4 =
          some (.normal, [(0, .v (.fz 3 (L.map trip))), (3, .lp 3 0), (4, .v (.mp r1)), (5, .v (.mp r2)), (6, .v (.int .i64 (now + z % 4))), (7, .v (.int .i64 i))], [(3, .cells [.int .i64 g.next, .int .i64 g.top, its g.ring, its g.win, evs g.log, .int .i64 g.tries, .int .i64 g.due])], Q2) := by
      intro Q2 hp2
      have le := loop_E hp2 e hx (tries := f.tries) (g := g.log) (by omega) hok (t6 := .int .i64 (now + z % 4)) (a0 := .int .i64 f.next) (a1 := .int .i64 f.top) (a2 := r) (a3 := w) (a4 := l) (a5 := .int .i64 f.tries) (a6 := .int .i64 f.due) (b0 := .int .i64 g.next) (b1 := .int .i64 g.top) (b2 := its g.ring) (b3 := its g.win) (b5 := .int .i64 g.tries) (b6 := .int .i64 g.due) (g.log.length - f.log.length) f.log.length (by omega) (Nat.le_refl _)
      rw [p_pleachlaw18_FeedTold_7]
      simp only [its, evs] at le ⊢
      simp [hl', n3, L_pleachlaw18_FeedTold_5_fold, le, p_pleachlaw18_FeedTold_6]
    have ih := fun Q2 (hp2 : Hp Q2 r1 r2 (C' C n x t) (D' D n x z)) => ih (i + 1) g (now + z % 4) (its g.ring) (its g.win) (evs g.log) _ _ Q2 (by omega) (sls_z g) dg (by omega) nw hp2
    have e8 : x % 8 = 0 ∨ x % 8 = 1 ∨ x % 8 = 2 ∨ x % 8 = 3 ∨ x % 8 = 4 ∨ x % 8 = 5 ∨ x % 8 = 6 ∨ x % 8 = 7 := by omega
    simp only [Fed.v, Fed.z] at cd
    simp only [its, evs] at cd key ih
    rw [show ((i + 1 : Nat) : Int) = (i : Int) + 1 by push_cast; rfl] at ih
    have one1 := hd2.r.one
    have one2 := hd2.w.one
    have one3 := hd2.l.one
    have one4 := hs.r.one
    have one5 := hs.w.one
    have one6 := hs.l.one
    by_cases c1 : x % 8 = 1
    · obtain ⟨Q1, g1, g2⟩ := loop_N (r1 := r1) (r2 := r2) (C := C) e hz hn2 (t6 := .int .i64 (now + z % 4)) (t10 := .int .i64 f.tries) (a0 := .int .i64 f.next) (a1 := .int .i64 f.top) (a2 := r) (a3 := w) (a4 := l) (a5 := .int .i64 f.tries) (a6 := .int .i64 f.due) (b0 := .int .i64 g.next) (b1 := .int .i64 g.top) (b2 := .fz 2 (g.ring.map It.v)) (b3 := .fz 2 (g.win.map It.v)) (b4 := .fz 5 (g.log.map Ev.v)) (b5 := .int .i64 g.tries) (b6 := .int .i64 g.due) (z % 6).toNat n D Q (by omega) (Int.le_refl _) hp
      have hp2 : Hp Q1 r1 r2 (C' C n x t) (D' D n x z) := by
        unfold C' D'; rw [if_neg (by omega), if_pos c1]; exact g2
      have key := key Q1 hp2
      obtain ⟨Q', ih⟩ := ih Q1 hp2
      refine ⟨Q', ?_⟩
      rw [L_pleachlaw18_FeedTold_9_eq, p_pleachlaw18_FeedTold_9]
      simp [h, e, trip, m1, m2, m3, m4, w0, w1, w2, w3, w4, w5, w6, w7, w8, w9, et, en', cd, one1, one2, one3, one4, one5, one6, c1, L_pleachlaw18_FeedTold_0_fold, g1, key, p_pleachlaw18_FeedTold_8]
      simpa [L_pleachlaw18_FeedTold_9_fold] using ih
    · by_cases c5 : 5 ≤ x % 8
      · obtain ⟨v, k1, k2⟩ := hp.upC n t
        have cC : C' C n x t = fun k' t' => decide (k' = n ∧ t' = t) || C k' t' := by unfold C'; rw [if_pos c5]
        have cD : D' D n x z = D := by unfold D'; rw [if_neg c1]
        rw [cC, cD] at key ih
        rcases k2 with ⟨k2, Q3, v2, Q4, k3, k4, k5, k6⟩ | ⟨k2, Q4, k5, k6⟩
        · have key := key Q4 k6
          obtain ⟨Q', ih⟩ := ih Q4 k6
          refine ⟨Q', ?_⟩
          rcases (show x % 8 = 5 ∨ x % 8 = 6 ∨ x % 8 = 7 by omega) with c | c | c
          all_goals
            rw [L_pleachlaw18_FeedTold_9_eq, p_pleachlaw18_FeedTold_9]
            simp [h, e, trip, m1, m2, m3, m4, w0, w1, w2, w3, w4, w5, w6, w7, w8, w9, et, en', cd, one1, one2, one3, one4, one5, one6, c, p_pleachlaw18_FeedTold_2, p_pleachlaw18_FeedTold_1, k1, k2, k3, k4, k5, key, p_pleachlaw18_FeedTold_8]
            simpa [L_pleachlaw18_FeedTold_9_fold] using ih
        · have key := key Q4 k6
          obtain ⟨Q', ih⟩ := ih Q4 k6
          refine ⟨Q', ?_⟩
          rcases (show x % 8 = 5 ∨ x % 8 = 6 ∨ x % 8 = 7 by omega) with c | c | c
          all_goals
            rw [L_pleachlaw18_FeedTold_9_eq, p_pleachlaw18_FeedTold_9]
            simp [h, e, trip, m1, m2, m3, m4, w0, w1, w2, w3, w4, w5, w6, w7, w8, w9, et, en', cd, one1, one2, one3, one4, one5, one6, c, p_pleachlaw18_FeedTold_2, p_pleachlaw18_FeedTold_1, k1, k2, k5, key, p_pleachlaw18_FeedTold_8]
            simpa [L_pleachlaw18_FeedTold_9_fold] using ih
      · have cC : C' C n x t = C := by unfold C'; rw [if_neg c5]
        have cD : D' D n x z = D := by unfold D'; rw [if_neg c1]
        rw [cC, cD] at key ih
        have key := key Q hp
        obtain ⟨Q', ih⟩ := ih Q hp
        refine ⟨Q', ?_⟩
        rcases (show x % 8 = 0 ∨ x % 8 = 2 ∨ x % 8 = 3 ∨ x % 8 = 4 by omega) with c | c | c | c
        all_goals
          rw [L_pleachlaw18_FeedTold_9_eq, p_pleachlaw18_FeedTold_9]
          simp [h, e, trip, m1, m2, m3, m4, w0, w1, w2, w3, w4, w5, w6, w7, w8, w9, et, en', cd, one1, one2, one3, one4, one5, one6, c, p_pleachlaw18_FeedTold_2, key, p_pleachlaw18_FeedTold_8]
          simpa [L_pleachlaw18_FeedTold_9_fold] using ih
theorem told_true {L : List (List Int)} (rL : Trip L) (Q : AHeap) : ∃ Q', callP (penv P1) 6 [.fz 3 (L.map trip)] Q = some (.bool true, Q') := by
  rw [f_pleachlaw18_FeedTold rfl]
  have hb : ∀ Q, callP (penv P1) 13 [] Q = some (.bool true, Q) := fun Q => (callP_spec (E := penv P1) (f := 13) (g := gYes) rfl [] Q).trans (by simp [gYes])
  by_cases hA : 80 < L.length
  · have hA' : (80 : Int) < L.length := by omega
    exact ⟨_, by simp [hb, hA']; rfl⟩
  have hA' : ¬ (80 : Int) < L.length := by omega
  obtain ⟨Q', l0⟩ := loop_FT (by omega) rL L.length 0 Fed0 0 .nils .nils .nils _ _ _ (by omega) sls0 (dd0.weaken (by omega)) (by omega) (fun x hx => by cases hx) (Hp.start Q)
  simp only [show ((0 : Nat) : Int) = 0 from rfl] at l0
  simp only [Fed0] at l0
  refine ⟨Q', ?_⟩
  simp [hb, hA', L_pleachlaw18_FeedTold_9_fold, l0, p_pleachlaw18_FeedTold_10]
end
end Go.Proofs.Ytmogepinpdibdaa.Pf
