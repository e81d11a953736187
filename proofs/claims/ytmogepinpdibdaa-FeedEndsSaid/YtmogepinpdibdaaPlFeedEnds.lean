/- The law FeedEnds: the walk. -/
import Derived.Test.YtmogepinpdibdaaPdFeedWants
import Derived.Test.YtmogepinpdibdaaPmFeed5
import Derived.Test.YtmogepinpdibdaaPlFeedS
import Derived.Test.YtmogepinpdibdaaPvF
set_option linter.unusedVariables false
set_option linter.unusedSimpArgs false
namespace Go.Feed
theorem wait_pos (f : Fed) (t : Int) : 1 ≤ wait f t := by
  unfold wait
  split
  · omega
  · split
    · omega
    · split <;> omega
end Go.Feed
namespace Go.Proofs.Ytmogepinpdibdaa.Pf
open Go.Ab Go.Feed
set_option maxRecDepth 100000
section
variable {Q : AHeap}
theorem loop_E0 {L : List (List Int)} (hL : L.length ≤ 60) (rL : Trip L) : ∀ (m i : Nat) (f : Fed) (now : Int) (r w l : AV), i + m = L.length → Sls f r w l → Dd (690000 - 3 * i) f → Tp f → f.top ≤ 1000000 → 0 ≤ now ∧ now ≤ 4 * i → Ed now f →
    ∃ (g : Fed) (now' : Int) (r2 w2 l2 : AV), Sls g r2 w2 l2 ∧ Dd 600000 g ∧ Tp g ∧ g.top ≤ 1000000 ∧ (0 ≤ now' ∧ now' ≤ 240) ∧ Ed now' g ∧
    L_pleachlaw18_FeedEnds_0 P1 (.fz 3 (L.map trip)) (.int .i64 now) (.int .i64 i) (.int .i64 f.next) (.int .i64 f.top) r w l (.int .i64 f.tries) (.int .i64 f.due) Q =
      X_pleachlaw18_FeedEnds_0_x0 (.int .i64 now') (.int .i64 g.next) (.int .i64 g.top) r2 w2 l2 (.int .i64 g.tries) (.int .i64 g.due) Q := by
  intro m
  induction m with
  | zero =>
    intro i f now r w l hi hs hd ht htm hnow he
    obtain rfl : i = L.length := by omega
    refine ⟨f, now, r, w, l, hs, hd.weaken (by omega), ht, htm, by omega, he, ?_⟩
    rw [L_pleachlaw18_FeedEnds_0_eq, p_pleachlaw18_FeedEnds_0]
    simp
  | succ m ih =>
    intro i f now r w l hi hs hd ht htm hnow he
    have h : ((i : Int) < L.length) = True := eq_true (by omega)
    obtain ⟨x, y, z, e, hx, hy, hz⟩ := rL.get (i := i) (by omega)
    have e := trip_el e
    have m1 := tmod_e (a := z) (b := 4) hz.1
    have w0 := wrap_u8 (i := z % 4) (by omega) (by omega)
    have w1 := w64 (i := z % 4) (by omega) (by omega)
    have w2 := w64 (i := now + z % 4) (by omega) (by omega)
    have w3 := w64 (i := (i : Int) + 1) (by omega) (by omega)
    obtain ⟨r2, w2', l2, hd2, cd⟩ := c_deed (k := 690000 - 3 * (i + 1) - 200000) hs hs (hd.weaken (by omega)) hx hy hz (now := now + z % 4) (by omega)
    have dd := Dd.deed (k := 690000 - 3 * (i + 1)) (hd.weaken (by omega)) x y z (now + z % 4)
    have td := ht.deed hd x y z (now + z % 4)
    have tm := deed_topM htm x y z (now + z % 4)
    have ed := Ed.deed (k := 690000 - 3 * (i + 1)) (now := now + z % 4) (by omega) (hd.weaken (by omega)) (he.later (by omega)) x y z
    generalize f.deed x y z (now + z % 4) = g at *
    obtain ⟨g0, n0, r4, w4, l4, k1, k3, k4, k5, k6, k7, ih⟩ := ih (i + 1) g (now + z % 4) (its g.ring) (its g.win) (evs g.log) (by omega) (sls_z g) dd.1 td tm (by omega) ed
    refine ⟨g0, n0, r4, w4, l4, k1, k3, k4, k5, k6, k7, ?_⟩
    simp only [Fed.v, Fed.z] at cd
    rw [L_pleachlaw18_FeedEnds_0_eq, p_pleachlaw18_FeedEnds_0]
    simp [h, e, m1, w0, w1, w2, w3, cd, L_pleachlaw18_FeedEnds_0_fold, hs.r.one, hs.w.one, hs.l.one]
    simpa [its, evs] using ih
theorem loop_E4 {now : Int} (hnow : 0 ≤ now ∧ now ≤ 240) : ∀ (N i : Nat) (f : Fed) (asked : Int) (r w l : AV), Sls f r w l → En (500000 - 3 * i) f → 0 ≤ asked → asked ≤ f.tries → i + N ≤ 599 → (f.next ≤ f.top → 15 * (f.win.length : Int) + wait f (now + i) ≤ N) →
    ∃ (g : Fed) (r2 w2 l2 : AV), Sls g r2 w2 l2 ∧ g.top < g.next ∧ g.win = [] ∧
    L_pleachlaw18_FeedEnds_4 P1 (.int .i64 now) (.int .i64 asked) (.int .i64 i) (.int .i64 f.next) (.int .i64 f.top) r w l (.int .i64 f.tries) (.int .i64 f.due) Q =
      X_pleachlaw18_FeedEnds_4_x2 (.int .i64 g.next) (.int .i64 g.top) r2 w2 l2 (.int .i64 g.tries) (.int .i64 g.due) Q := by
  intro N
  induction N with
  | zero =>
    intro i f asked r w l hs he ha hat hi hp
    have hle : ¬ f.next ≤ f.top := fun h => by have := hp h; have := wait_pos f (now + i); omega
    have hi6 : ((i : Int) < 600) = True := eq_true (by omega)
    refine ⟨f, r, w, l, hs, by omega, ?_, ?_⟩
    · cases hw : f.win with
      | nil => rfl
      | cons x w => have h1 := he.st x (by rw [hw]; exact List.mem_cons_self); have h2 := he.tp x (by rw [hw]; exact List.mem_cons_self); omega
    · rw [L_pleachlaw18_FeedEnds_4_eq, p_pleachlaw18_FeedEnds_4]
      simp [hi6, hle]
  | succ N ih =>
    intro i f asked r w l hs he ha hat hi hp
    have hi6 : ((i : Int) < 600) = True := eq_true (by omega)
    by_cases hle : f.next ≤ f.top
    · have hp := hp hle
      have he' : En (500000 - 3 * (i + 1) + 3) f := ⟨he.dd.weaken (by omega), he.tp, he.st, he.tr, he.n1, he.tm⟩
      obtain ⟨d1, d2, d3⟩ := he'.tick hle (now + i)
      have ct := fun (Q : AHeap) => c_Tick (Q := Q) hs (he.dd.bd.weaken (by omega)) he.dd.inv.tr (now := now + i) (by omega)
      have gr := (he'.dd.tick (now + i)).2
      generalize f.tick (now + i) = T at *
      obtain ⟨T, s, b⟩ := T
      simp only at d1 d2 d3 ct gr
      have w1 := w64 (i := now + (i : Int)) (by omega) (by omega)
      have w3 := w64 (i := (i : Int) + 1) (by omega) (by omega)
      have htr := he.tr
      have w4 := w64 (i := asked + 1) (by omega) (by omega)
      have nx := gr.nx
      have hn1 := he.n1
      have htm := he.tm
      simp only [Fed.v, Fed.z, Sp.v] at ct
      have hle' := eq_true hle
      rcases d3 with ⟨b0, n1, t0, tp, st, adv, wp⟩ | ⟨n1, wn, wt, st⟩
      · subst b0
        obtain ⟨g, r2, w2, l2, k1, k2, k3, ih⟩ := ih (i + 1) T 0 (its T.ring) (its T.win) (evs T.log) (sls_z T) ⟨d1, tp, st, by omega, by omega, by omega⟩ (Int.le_refl _) (by omega) (by omega) (fun h => by
          have : wait T (now + ((i + 1 : Nat) : Int)) = 15 := by unfold wait; rw [if_pos t0]
          rcases adv with adv | adv
          · omega
          · omega)
        refine ⟨g, r2, w2, l2, k1, k2, k3, ?_⟩
        have c1 : (f.next < T.next) = True := eq_true n1
        have c2 : (T.top = f.top) = True := eq_true d2
        rw [L_pleachlaw18_FeedEnds_4_eq, p_pleachlaw18_FeedEnds_4]
        simp [hi6, hle', w1, ct, p_pleachlaw18_FeedEnds_2, p_pleachlaw18_FeedEnds_1, p_pleachlaw18_FeedEnds_3, c1, c2, w3, L_pleachlaw18_FeedEnds_4_fold, hs.r.one, hs.w.one, hs.l.one]
        simpa [its, evs] using ih
      · have c1 : (f.next < T.next) = False := eq_false (by omega)
        have c2 : (T.top = f.top) = True := eq_true d2
        have tp : Tp T := fun x hx => by rw [wn] at hx; rw [d2]; exact he.tp x hx
        have stT : ∀ x ∈ T.win, T.next < x.seq := fun x hx => by rw [wn] at hx; rw [n1]; exact he.st x hx
        have wt' : wait T (now + ((i + 1 : Nat) : Int)) + 1 ≤ wait f (now + i) := by
          rw [show now + ((i + 1 : Nat) : Int) = now + i + 1 by omega]; exact wt
        rcases st with ⟨b1, t3, t4⟩ | ⟨b0, tf⟩
        · subst b1
          obtain ⟨g, r2, w2, l2, k1, k2, k3, ih⟩ := ih (i + 1) T (asked + 1) (its T.ring) (its T.win) (evs T.log) (sls_z T) ⟨d1, tp, stT, by omega, by omega, by omega⟩ (by omega) (by omega) (by omega) (fun h => by rw [wn]; omega)
          refine ⟨g, r2, w2, l2, k1, k2, k3, ?_⟩
          have c3 : (3 < asked + 1) = False := eq_false (by omega)
          rw [L_pleachlaw18_FeedEnds_4_eq, p_pleachlaw18_FeedEnds_4]
          simp [hi6, hle', w1, w4, ct, p_pleachlaw18_FeedEnds_2, p_pleachlaw18_FeedEnds_1, p_pleachlaw18_FeedEnds_3, c1, c2, c3, w3, L_pleachlaw18_FeedEnds_4_fold, hs.r.one, hs.w.one, hs.l.one]
          simpa [its, evs] using ih
        · subst b0
          obtain ⟨g, r2, w2, l2, k1, k2, k3, ih⟩ := ih (i + 1) T asked (its T.ring) (its T.win) (evs T.log) (sls_z T) ⟨d1, tp, stT, by rw [tf]; exact htr, by omega, by omega⟩ ha (by rw [tf]; exact hat) (by omega) (fun h => by rw [wn]; omega)
          refine ⟨g, r2, w2, l2, k1, k2, k3, ?_⟩
          have c3 : (3 < asked) = False := eq_false (by omega)
          rw [L_pleachlaw18_FeedEnds_4_eq, p_pleachlaw18_FeedEnds_4]
          simp [hi6, hle', w1, ct, p_pleachlaw18_FeedEnds_2, p_pleachlaw18_FeedEnds_1, p_pleachlaw18_FeedEnds_3, c1, c2, c3, w3, L_pleachlaw18_FeedEnds_4_fold, hs.r.one, hs.w.one, hs.l.one]
          simpa [its, evs] using ih
    · refine ⟨f, r, w, l, hs, by omega, ?_, ?_⟩
      · cases hw : f.win with
        | nil => rfl
        | cons x w => have h1 := he.st x (by rw [hw]; exact List.mem_cons_self); have h2 := he.tp x (by rw [hw]; exact List.mem_cons_self); omega
      · rw [L_pleachlaw18_FeedEnds_4_eq, p_pleachlaw18_FeedEnds_4]
        simp [hi6, hle]
theorem ed0 : Ed 0 Fed0 := ⟨(by simp [Fed0]), (by simp [Fed0]), (by simp [Fed0]), (by simp [Fed0])⟩
theorem ends_true {L : List (List Int)} (rL : Trip L) : callP (penv P1) 12 [.fz 3 (L.map trip)] Q = some (.bool true, Q) := by
  rw [f_pleachlaw18_FeedEnds rfl]
  have hb : ∀ Q, callP (penv P1) 13 [] Q = some (.bool true, Q) := fun Q => (callP_spec (E := penv P1) (f := 13) (g := gYes) rfl [] Q).trans (by simp [gYes])
  by_cases hA : 60 < L.length
  · have hA' : (60 : Int) < L.length := by omega
    simp [hb, hA']
  have hA' : ¬ (60 : Int) < L.length := by omega
  obtain ⟨g, now, r2, w2, l2, hs, hd, htp, htm, hnow, hed, l0⟩ := loop_E0 (Q := Q) (by omega) rL L.length 0 Fed0 0 .nils .nils .nils (by omega) sls0 (dd0.weaken (by omega)) tp0 (by decide) (by omega) ed0
  simp only [show ((0 : Nat) : Int) = 0 from rfl] at l0
  simp only [Fed0] at l0
  by_cases c0 : g.next = 0
  · rw [c0] at l0
    simp [hb, hA', L_pleachlaw18_FeedEnds_0_fold, l0, p_pleachlaw18_FeedEnds_6]
  · have hn0 := hd.n0
    have hlen := hed.len hd.inv
    have hdu := hed.du
    obtain ⟨G, r3, w3, l3, k1, k2, k3, l4⟩ := loop_E4 (Q := Q) hnow 300 0 g 0 r2 w2 l2 hs ⟨hd.weaken (by omega), htp, hed.st, hed.tr, by omega, htm⟩ (Int.le_refl _) hd.inv.tr (by omega) (fun _ => by
      have : wait g (now + ((0 : Nat) : Int)) ≤ 21 := by
        unfold wait
        split
        · omega
        · split
          · omega
          · split <;> omega
      omega)
    simp only [show ((0 : Nat) : Int) = 0 from rfl] at l4
    have hwl := k1.w.len
    rw [k3] at hwl
    have k2' := eq_true k2
    simp at hwl
    simp [hb, hA', L_pleachlaw18_FeedEnds_0_fold, l0, p_pleachlaw18_FeedEnds_6, c0, L_pleachlaw18_FeedEnds_4_fold, l4, p_pleachlaw18_FeedEnds_5, k2', hwl]
end
end Go.Proofs.Ytmogepinpdibdaa.Pf
/- The law FeedEnds. -/
set_option linter.unusedVariables false
set_option linter.unusedSimpArgs false
namespace Go.Proofs.Ytmogepinpdibdaa.Pf
open Go.Ab
set_option maxRecDepth 100000
theorem law_FeedEnds {H : AHeap} (v : AV) (L : List (List Int)) (hL : Els 3 trip H v L) (hl : L.length ≤ maxLen) (rL : ∀ a ∈ L, a.length = 3 ∧ ∀ i ∈ a, IntKind.u8.min ≤ i ∧ i ≤ IntKind.u8.max) :
    EndsV (callV (env S1) 12 [v] H) fun v _ => v = .bool true := by
  refine law_ends pe1 (by decide) ⟨_, ends_true (L := L) rL⟩ (RL.cons hL.rv RL.nil')
end Go.Proofs.Ytmogepinpdibdaa.Pf
