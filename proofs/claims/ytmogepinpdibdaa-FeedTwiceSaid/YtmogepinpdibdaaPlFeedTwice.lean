/- The law FeedTwice: the walk. -/
import Derived.Test.YtmogepinpdibdaaPdFeedAll
import Derived.Test.YtmogepinpdibdaaPmFeed4
import Derived.Test.YtmogepinpdibdaaPlFeedS
import Derived.Test.YtmogepinpdibdaaPvF
set_option linter.unusedVariables false
set_option linter.unusedSimpArgs false
namespace Go.Proofs.Ytmogepinpdibdaa.Pf
open Go.Ab Go.Feed
set_option maxRecDepth 100000
theorem tp0 : Tp Fed0 := by intro x hx; cases hx
section
variable {Q : AHeap}
theorem loop_T0 {L : List (List Int)} (hL : L.length ≤ 60) (rL : Trip L) {a b c : AV} (h1 : AV.one a = true) (h2 : AV.one b = true) (h3 : AV.one c = true) : ∀ (m i : Nat) (f : Fed) (now : Int) (r w l : AV), i + m = L.length → Sls f r w l → Dd (690000 - 3 * i) f → Tp f → 0 ≤ now ∧ now ≤ 4 * i →
    ∃ (g : Fed) (r2 w2 l2 : AV), Sls g r2 w2 l2 ∧ Dd 600000 g ∧ Tp g ∧
    L_pleachlaw18_FeedTwice_0 P1 (.fz 3 (L.map trip)) (.int .i64 now) (.int .i64 i) a b c (.int .i64 f.next) (.int .i64 f.top) r w l (.int .i64 f.tries) (.int .i64 f.due) Q =
      X_pleachlaw18_FeedTwice_0_x0 a b c (.int .i64 g.next) (.int .i64 g.top) r2 w2 l2 (.int .i64 g.tries) (.int .i64 g.due) Q := by
  intro m
  induction m with
  | zero =>
    intro i f now r w l hi hs hd ht hnow
    obtain rfl : i = L.length := by omega
    refine ⟨f, r, w, l, hs, hd.weaken (by omega), ht, ?_⟩
    rw [L_pleachlaw18_FeedTwice_0_eq, p_pleachlaw18_FeedTwice_0]
    simp
  | succ m ih =>
    intro i f now r w l hi hs hd ht hnow
    have h : ((i : Int) < L.length) = True := eq_true (by omega)
    obtain ⟨x, y, z, e, hx, hy, hz⟩ := rL.get (i := i) (by omega)
    have e := trip_el e
    have m1 := tmod_e (a := z) (b := 4) hz.1
    have w0 := wrap_u8 (i := z % 4) (by omega) (by omega)
    have w1 := w64 (i := z % 4) (by omega) (by omega)
    have w2 := w64 (i := now + z % 4) (by omega) (by omega)
    have w3 := w64 (i := (i : Int) + 1) (by omega) (by omega)
    obtain ⟨r2, w2', l2, hd2, cd⟩ := c_deed (k := 690000 - 3 * (i + 1) - 200000) hs hs (hd.weaken (by omega)) hx hy hz (now := now + z % 4) (by omega)
    have dd := Dd.deed (k := 690000 - 3 * (i + 1)) (hd.weaken (by omega)) x y z (now + z % 4)
    have td := ht.deed hd x y z (now + z % 4)
    generalize f.deed x y z (now + z % 4) = g at *
    obtain ⟨g0, r4, w4, l4, k1, k3, k4, ih⟩ := ih (i + 1) g (now + z % 4) (its g.ring) (its g.win) (evs g.log) (by omega) (sls_z g) dd.1 td (by omega)
    refine ⟨g0, r4, w4, l4, k1, k3, k4, ?_⟩
    simp only [Fed.v, Fed.z] at cd
    rw [L_pleachlaw18_FeedTwice_0_eq, p_pleachlaw18_FeedTwice_0]
    simp [h, e, m1, w0, w1, w2, w3, cd, L_pleachlaw18_FeedTwice_0_fold, hs.r.one, hs.w.one, hs.l.one]
    simpa [its, evs] using ih
theorem el_text3 {z : Int} (h : 0 ≤ z ∧ z < 3) : elQ 1 (.fz 1 [.str [], .str [97], .str [98, 99]]) (.int .u8 z) = some (.str (texts.getD z.toNat [])) ∧ (texts.getD z.toNat []).length ≤ 12 := by
  have : z = 0 ∨ z = 1 ∨ z = 2 := by omega
  rcases this with e | e | e <;> subst e <;> exact ⟨rfl, by decide⟩
theorem twice_true {L : List (List Int)} (rL : Trip L) {x y z : Int} (hx : 0 ≤ x ∧ x ≤ 255) (hy : 0 ≤ y ∧ y ≤ 255) (hz : 0 ≤ z ∧ z ≤ 255) : callP (penv P1) 9 [.fz 3 (L.map trip), .agg [.int .u8 x, .int .u8 y, .int .u8 z]] Q = some (.bool true, Q) := by
  rw [f_pleachlaw18_FeedTwice rfl]
  have hb : ∀ Q, callP (penv P1) 13 [] Q = some (.bool true, Q) := fun Q => (callP_spec (E := penv P1) (f := 13) (g := gYes) rfl [] Q).trans (by simp [gYes])
  by_cases hA : 60 < L.length
  · have hA' : (60 : Int) < L.length := by omega
    simp [hb, hA']
  have hA' : ¬ (60 : Int) < L.length := by omega
  obtain ⟨g, r2, w2, l2, hs, hd, htp, l0⟩ := loop_T0 (Q := Q) (by omega) rL (a := .int .u8 x) (b := .int .u8 y) (c := .int .u8 z) rfl rfl rfl L.length 0 Fed0 0 .nils .nils .nils (by omega) sls0 (dd0.weaken (by omega)) tp0 (by omega)
  have hn0 := hd.n0
  have hn1 := hd.n1
  have bl := hd.bd.l
  have hb3 : Bd g 3 := hd.bd.weaken (by omega)
  have hb10 : Bd g 10 := hd.bd.weaken (by omega)
  have hrw : g.ring.length + g.win.length ≤ 600000 := by have := hd.inv.rg; omega
  have hnw : g.next + g.win.length ≤ 3000000000 := by omega
  have m2 := tmod_e (a := y) (b := 12) hy.1
  have m3 := tmod_e (a := z) (b := 3) hz.1
  have v2 := wrap_u8 (i := y % 12) (by omega) (by omega)
  have v3 := wrap_u8 (i := z % 3) (by omega) (by omega)
  have w5 := w64 (i := y % 12) (by omega) (by omega)
  have w7 := w64 (i := g.next - 2) (by omega) (by omega)
  have w8 := w64 (i := g.next - 2 + y % 12) (by omega) (by omega)
  have w9 := w64 (i := g.next + 8) (by omega) (by omega)
  obtain ⟨et, htl⟩ := el_text3 (z := z % 3) (by omega)
  obtain ⟨n, en⟩ : ∃ n, n = max 1 (g.next - 2 + y % 12) := ⟨_, rfl⟩
  have w10 := w64 (i := n + 2) (by omega) (by omega)
  generalize texts.getD (z % 3).toNat [] = t at *
  -- comes, again and again
  have m1 := fun (Q : AHeap) => c_Comes (Q := Q) hs hb10 hrw hd.inv.so hnw ⟨n, t⟩
  have dc := (Dd.comes (k := 500000) (hd.weaken (by omega)) ⟨n, t⟩).1
  have q1 : n < g.next + 8 → (g.comes ⟨n, t⟩).comes ⟨n, t⟩ = g.comes ⟨n, t⟩ := fun h => comes_twice hd rfl htl h
  have q2 : n < g.next + 8 → (g.comes ⟨n, t⟩).comes ⟨n, [111, 116, 104, 101, 114]⟩ = g.comes ⟨n, t⟩ := fun h => comes_twice hd rfl htl h
  generalize g.comes ⟨n, t⟩ = C at *
  have bc := dc.bd.l
  have cn1 := dc.n1
  have cc : C.ring.length + C.win.length ≤ 600000 := by have := dc.inv.rg; omega
  have cw : C.next + C.win.length ≤ 3000000000 := by omega
  have m4 := fun (Q : AHeap) => c_Comes (Q := Q) (sls_z C) (dc.bd.weaken (by omega)) cc dc.inv.so cw ⟨n, t⟩
  have m5 := fun (Q : AHeap) => c_Comes (Q := Q) (sls_z C) (dc.bd.weaken (by omega)) cc dc.inv.so cw ⟨n, [111, 116, 104, 101, 114]⟩
  have n1 := fun (Q : AHeap) => c_Notes (Q := Q) hs hb3 n (n + 2)
  have dn := (Dd.notes (k := 500000) (hd.weaken (by omega)) n (n + 2)).1
  have q3 : (g.notes n (n + 2)).notes n (n + 2) = g.notes n (n + 2) := notes_twice (k := 500000) (hd.weaken (by omega)) n (n + 2)
  generalize g.notes n (n + 2) = N at *
  have n2 := fun (Q : AHeap) => c_Notes (Q := Q) (sls_z N) (dn.bd.weaken (by omega)) n (n + 2)
  rw [q3] at n2
  have n3 := fun (Q : AHeap) => d_SameF (Q := Q) (sls_z N) (sls_z N) dn.bd
  simp only [show ((0 : Nat) : Int) = 0 from rfl] at l0
  by_cases far : g.next + 8 ≤ n
  · generalize C.comes ⟨n, t⟩ = C1 at *
    generalize C.comes ⟨n, [111, 116, 104, 101, 114]⟩ = C2 at *
    simp only [Fed.v, Fed.z, It.v, Fed0, its, evs] at n1 n2 n3 m1 m4 m5 l0
    simp [hb, hA', L_pleachlaw18_FeedTwice_0_fold, l0, p_pleachlaw18_FeedTwice_1, m2, m3, v2, v3, w5, w7, w8, w9, et, ← en, m1, m4, m5, w10, n1, n2, n3, far, hs.r.one, hs.w.one, hs.l.one]
  · rw [q1 (by omega)] at m4
    rw [q2 (by omega)] at m5
    have m6 := fun (Q : AHeap) => d_SameF (Q := Q) (sls_z C) (sls_z C) dc.bd
    simp only [Fed.v, Fed.z, It.v, Fed0, its, evs] at n1 n2 n3 m1 m4 m5 m6 l0
    simp [hb, hA', L_pleachlaw18_FeedTwice_0_fold, l0, p_pleachlaw18_FeedTwice_1, m2, m3, v2, v3, w5, w7, w8, w9, et, ← en, m1, m4, m5, m6, w10, n1, n2, n3, far, hs.r.one, hs.w.one, hs.l.one]
end
end Go.Proofs.Ytmogepinpdibdaa.Pf
/- The law FeedTwice. -/
set_option linter.unusedVariables false
set_option linter.unusedSimpArgs false
namespace Go.Proofs.Ytmogepinpdibdaa.Pf
open Go.Ab
set_option maxRecDepth 100000
theorem law_FeedTwice {H : AHeap} (v : AV) (L : List (List Int)) (hL : Els 3 trip H v L) (hl : L.length ≤ maxLen) (rL : ∀ a ∈ L, a.length = 3 ∧ ∀ i ∈ a, IntKind.u8.min ≤ i ∧ i ≤ IntKind.u8.max)
    (x : Int) (hx : IntKind.u8.min ≤ x ∧ x ≤ IntKind.u8.max) (y : Int) (hy : IntKind.u8.min ≤ y ∧ y ≤ IntKind.u8.max) (z : Int) (hz : IntKind.u8.min ≤ z ∧ z ≤ IntKind.u8.max) :
    EndsV (callV (env S1) 9 [v, .agg [.int .u8 x, .int .u8 y, .int .u8 z]] H) fun v _ => v = .bool true := by
  refine law_ends pe1 (by decide) ⟨_, twice_true (L := L) rL hx hy hz⟩ (RL.cons hL.rv (RL.cons (RV.agg (RL.cons RV.int (RL.cons RV.int (RL.cons RV.int RL.nil')))) RL.nil'))
end Go.Proofs.Ytmogepinpdibdaa.Pf
