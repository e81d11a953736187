/- The law FeedAll: the walk. -/
import Derived.Test.YtmogepinpdibdaaPcFeed6
import Derived.Test.YtmogepinpdibdaaPlFeedS
import Derived.Test.YtmogepinpdibdaaPvF
set_option linter.unusedVariables false
set_option linter.unusedSimpArgs false
namespace Go.Proofs.Ytmogepinpdibdaa.Pf
open Go.Ab Go.Feed
set_option maxRecDepth 100000
abbrev trip (t : List Int) : AV := .agg (t.map (AV.int .u8))
def Trip (L : List (List Int)) : Prop := ∀ a ∈ L, a.length = 3 ∧ ∀ i ∈ a, 0 ≤ i ∧ i ≤ 255
theorem Trip.get {L : List (List Int)} (h : Trip L) {i : Nat} (hi : i < L.length) : ∃ x y z : Int, L[i]? = some [x, y, z] ∧ (0 ≤ x ∧ x ≤ 255) ∧ (0 ≤ y ∧ y ≤ 255) ∧ (0 ≤ z ∧ z ≤ 255) := by
  obtain ⟨h1, h2⟩ := h L[i] (List.getElem_mem _)
  have e : L[i]? = some L[i] := List.getElem?_eq_getElem hi
  generalize L[i] = a at *
  match a, h1 with
  | [x, y, z], _ => exact ⟨x, y, z, e, h2 x (by simp), h2 y (by simp), h2 z (by simp)⟩
theorem trip_el {L : List (List Int)} {i : Nat} {x y z : Int} (h : L[i]? = some [x, y, z]) : elQ 3 (.fz 3 (L.map trip)) (.int .i64 (i : Int)) = some (.agg [.int .u8 x, .int .u8 y, .int .u8 z]) := elQ_at h
def Fed0 : Fed := ⟨0, 0, [], [], [], 0, 0⟩
theorem sls0 : Sls Fed0 .nils .nils .nils := ⟨Sl.nil 2, Sl.nil 2, Sl.nil 5⟩
theorem dd0 : Dd 690000 Fed0 := ⟨⟨List.Pairwise.nil, (by simp [Fed0]), (by simp [Fed0]), (by simp [Fed0])⟩, ⟨(by simp [Fed0]), (by simp [Fed0]), (by simp [Fed0]), (by simp [Fed0]), (by simp [Fed0])⟩, (by simp [Fed0]), (by simp [Fed0]), (by simp [Fed0]), fun _ => ⟨rfl, rfl, rfl⟩⟩
section
variable {Q : AHeap}
theorem since_is {f g : Fed} (h : Gr f g) : since g f = g.log.drop f.log.length := by
  have := h.lg.length_le
  unfold since
  rw [Nat.min_eq_left this]
theorem slc_from {l : List Ev} {v : AV} (h : Sl 5 (l.map Ev.v) v) {n : Nat} (hn : n ≤ l.length) : ∃ v', slcQ 5 v (some (.int .i64 n)) none = some v' ∧ Sl 5 ((l.drop n).map Ev.v) v' := by
  rcases h with rfl | ⟨rfl, e⟩
  · refine ⟨_, ?_, Sl.fz 5 _⟩
    rw [slcQ_fz (by omega)]
    have b : (0 ≤ (n : Int) ∧ (n : Int) ≤ l.length) = True := eq_true (by omega)
    simp only [bndo_none, bndo_int, List.length_map, b, if_true, Int.toNat_natCast]
    rw [List.take_of_length_le (by simp), List.map_drop]
  · have e : l = [] := by simpa using e
    subst e
    obtain rfl : n = 0 := by simpa using hn
    exact ⟨.nils, by simp, Sl.nil 5⟩
theorem loop_A0 {L : List (List Int)} (hL : L.length ≤ 60) (rL : Trip L) {a b s0 s1 : AV} (h1 : AV.one a = true) (h2 : AV.one b = true) (h3 : AV.one s0 = true) (h4 : AV.one s1 = true) : ∀ (m i : Nat) (f : Fed) (now : Int) (r w l r' w' l' : AV), i + m = L.length → Sls f r w l → Sls f r' w' l' → Dd (690000 - 3 * i) f → 0 ≤ now ∧ now ≤ 4 * i →
    ∃ (g : Fed) (r2 w2 l2 r3 w3 l3 : AV), Sls g r2 w2 l2 ∧ Sls g r3 w3 l3 ∧ Dd 600000 g ∧
    L_pleachlaw18_FeedAll_0 P1 (.fz 3 (L.map trip)) a b (.int .i64 now) (.int .i64 i) s0 s1 (.int .i64 f.next) (.int .i64 f.top) r w l (.int .i64 f.tries) (.int .i64 f.due) (.int .i64 f.next) (.int .i64 f.top) r' w' l' (.int .i64 f.tries) (.int .i64 f.due) Q =
      X_pleachlaw18_FeedAll_0_x0 a b s0 s1 (.int .i64 g.next) (.int .i64 g.top) r2 w2 l2 (.int .i64 g.tries) (.int .i64 g.due) (.int .i64 g.next) (.int .i64 g.top) r3 w3 l3 (.int .i64 g.tries) (.int .i64 g.due) Q := by
  intro m
  induction m with
  | zero =>
    intro i f now r w l r' w' l' hi hs hg hd hnow
    obtain rfl : i = L.length := by omega
    refine ⟨f, r, w, l, r', w', l', hs, hg, hd.weaken (by omega), ?_⟩
    rw [L_pleachlaw18_FeedAll_0_eq, p_pleachlaw18_FeedAll_0]
    simp
  | succ m ih =>
    intro i f now r w l r' w' l' hi hs hg hd hnow
    have h : ((i : Int) < L.length) = True := eq_true (by omega)
    obtain ⟨x, y, z, e, hx, hy, hz⟩ := rL.get (i := i) (by omega)
    have e := trip_el e
    have m1 := tmod_e (a := z) (b := 4) hz.1
    have w0 := wrap_u8 (i := z % 4) (by omega) (by omega)
    have w1 := w64 (i := z % 4) (by omega) (by omega)
    have w2 := w64 (i := now + z % 4) (by omega) (by omega)
    have w3 := w64 (i := (i : Int) + 1) (by omega) (by omega)
    obtain ⟨r2, w2', l2, hd2, cd⟩ := c_deed (k := 690000 - 3 * (i + 1) - 200000) hs hg (hd.weaken (by omega)) hx hy hz (now := now + z % 4) (by omega)
    have dd := Dd.deed (k := 690000 - 3 * (i + 1)) (hd.weaken (by omega)) x y z (now + z % 4)
    generalize f.deed x y z (now + z % 4) = g at *
    obtain ⟨g0, r4, w4, l4, r5, w5, l5, k1, k2, k3, ih⟩ := ih (i + 1) g (now + z % 4) (its g.ring) (its g.win) (evs g.log) r2 w2' l2 (by omega) (sls_z g) hd2 dd.1 (by omega)
    refine ⟨g0, r4, w4, l4, r5, w5, l5, k1, k2, k3, ?_⟩
    have hlen := dd.2.lg.length_le
    have gb := dd.1.bd.l
    have sf := fun (Q : AHeap) => d_SameF (Q := Q) (sls_z g) hd2 dd.1.bd
    have sn := fun (Q : AHeap) => c_Since (Q := Q) (f := g) (g := f) (sls_z g) hs (by omega)
    rw [since_is dd.2] at sn
    obtain ⟨v, sv1, sv2⟩ := slc_from hd2.l hlen
    have se := fun (Q : AHeap) => d_SameE (Q := Q) (Sl.fz 5 ((g.log.drop f.log.length).map Ev.v)) sv2 (by simp; omega)
    have hl' := hg.l.len
    simp only [List.length_map] at hl'
    generalize g.log.drop f.log.length = D at *
    simp only [Fed.v, Fed.z] at cd sf sn
    rw [L_pleachlaw18_FeedAll_0_eq, p_pleachlaw18_FeedAll_0]
    simp [h, e, m1, w0, w1, w2, w3, cd, hd2.r.one, hd2.w.one, hd2.l.one, sf, sn, hl', sv1, se, L_pleachlaw18_FeedAll_0_fold, hs.r.one, hs.w.one, hs.l.one, hg.r.one, hg.w.one, hg.l.one]
    simpa [its, evs] using ih
theorem all_true {L : List (List Int)} (rL : Trip L) (a b n : Int) (t : List UInt8) : callP (penv P1) 3 [.fz 3 (L.map trip), .int .i64 a, .int .i64 b, .agg [.int .i64 n, .str t]] Q = some (.bool true, Q) := by
  rw [f_pleachlaw18_FeedAll rfl]
  have hb : ∀ Q, callP (penv P1) 13 [] Q = some (.bool true, Q) := fun Q => (callP_spec (E := penv P1) (f := 13) (g := gYes) rfl [] Q).trans (by simp [gYes])
  by_cases hA : 60 < L.length
  · have hA' : (60 : Int) < L.length := by omega
    simp [hb, hA']
  have hA' : ¬ (60 : Int) < L.length := by omega
  by_cases hB : 30 < t.length
  · have hB' : (30 : Int) < t.length := by omega
    simp [hb, hA', hB']
  have hB' : ¬ (30 : Int) < t.length := by omega
  obtain ⟨g, r2, w2, l2, r3, w3, l3, hs, hg, hd, l0⟩ := loop_A0 (Q := Q) (by omega) rL (a := .int .i64 a) (b := .int .i64 b) (s0 := .int .i64 n) (s1 := .str t) rfl rfl rfl rfl L.length 0 Fed0 0 .nils .nils .nils .nils .nils .nils (by omega) sls0 sls0 (dd0.weaken (by omega)) (by omega)
  have hn1 := hd.n1
  have bl := hd.bd.l
  have hb3 : Bd g 3 := hd.bd.weaken (by omega)
  have hb10 : Bd g 10 := hd.bd.weaken (by omega)
  have hrw : g.ring.length + g.win.length ≤ 600000 := by have := hd.inv.rg; omega
  have hnw : g.next + g.win.length ≤ 3000000000 := by omega
  -- begins
  have e1 : Sls (g.begin_ a) r3 w3 l3 := by
    have e : (g.begin_ a).ring = g.ring ∧ (g.begin_ a).win = g.win ∧ (g.begin_ a).log = g.log := by
      unfold Fed.begin_
      split
      · have := knows_eq g (IntKind.i64.wrap (a - 1)); exact ⟨this.2.2.1, this.2.1, this.2.2.2⟩
      · split <;> exact ⟨rfl, rfl, rfl⟩
    exact ⟨by rw [e.1]; exact hg.r, by rw [e.2.1]; exact hg.w, by rw [e.2.2]; exact hg.l⟩
  have b1 := fun (Q : AHeap) => c_Begin (Q := Q) hs hb3.small a
  have b2 := fun (Q : AHeap) => d_Begin (Q := Q) hg a
  have b3 := fun (Q : AHeap) => d_SameF (Q := Q) (sls_z (g.begin_ a)) e1 ((hd.begin_ a).1.bd)
  generalize g.begin_ a = B at *
  have n1 := fun (Q : AHeap) => c_Notes (Q := Q) hs hb3 a b
  obtain ⟨rn, wn, ln, en, n2⟩ := d_Notes hg hb3 hd.inv a b
  have n3 := fun (Q : AHeap) => d_SameF (Q := Q) (sls_z (g.notes a b)) en ((Dd.notes (k := 500000) (hd.weaken (by omega)) a b).1.bd)
  generalize g.notes a b = N at *
  have ke := knows_eq g a
  have k1 := fun (Q : AHeap) => c_Knows (Q := Q) hs hb3.small a
  have k2 := fun (Q : AHeap) => d_Knows (Q := Q) hg a
  have k3 := fun (Q : AHeap) => d_SameF (Q := Q) (sls_z (g.knows a)) (⟨by rw [ke.2.2.1]; exact hg.r, by rw [ke.2.1]; exact hg.w, by rw [ke.2.2.2]; exact hg.l⟩ : Sls (g.knows a) r3 w3 l3) ((hd.knows a).1.bd)
  generalize g.knows a = K at *
  have m1 := fun (Q : AHeap) => c_Comes (Q := Q) hs hb10 hrw hd.inv.so hnw ⟨n, t⟩
  obtain ⟨rc, wc, lc, ec, m2⟩ := d_Comes hg hb10 hrw hd.inv hnw ⟨n, t⟩
  have m3 := fun (Q : AHeap) => d_SameF (Q := Q) (sls_z (g.comes ⟨n, t⟩)) ec ((Dd.comes (k := 500000) (hd.weaken (by omega)) ⟨n, t⟩).1.bd)
  generalize g.comes ⟨n, t⟩ = C at *
  have z1 := fun (Q : AHeap) => c_Comes (Q := Q) sls0 (dd0.bd.weaken (by omega)) (by decide) dd0.inv.so (by decide) ⟨n, t⟩
  have z0 : Fed0.comes ⟨n, t⟩ = Fed0 := by unfold Fed.comes; exact if_pos (Or.inl (show Fed0.next = 0 from rfl))
  rw [z0] at z1
  have z3 := fun (Q : AHeap) => d_SameF (Q := Q) (sls_z Fed0) sls0 dd0.bd
  simp only [Fed.v, Fed.z, It.v, Fed0, its, evs, List.map_nil] at b1 b2 b3 n1 n2 n3 k1 k2 k3 m1 m2 m3 z1 z3 l0
  simp only [show ((0 : Nat) : Int) = 0 from rfl] at l0
  simp [hb, hA', hB', L_pleachlaw18_FeedAll_0_fold, l0, p_pleachlaw18_FeedAll_1, b1, b2, b3, n1, n2, n3, k1, k2, k3, m1, m2, m3, z1, z3, hs.r.one, hs.w.one, hs.l.one, hg.r.one, hg.w.one, hg.l.one, e1.r.one, en.r.one, en.w.one, en.l.one, ec.r.one, ec.w.one, ec.l.one]
end
end Go.Proofs.Ytmogepinpdibdaa.Pf
/- The law FeedAll. -/
set_option linter.unusedVariables false
set_option linter.unusedSimpArgs false
namespace Go.Proofs.Ytmogepinpdibdaa.Pf
open Go.Ab
set_option maxRecDepth 100000
theorem law_FeedAll {H : AHeap} (v : AV) (L : List (List Int)) (hL : Els 3 trip H v L) (hl : L.length ≤ maxLen) (rL : ∀ a ∈ L, a.length = 3 ∧ ∀ i ∈ a, IntKind.u8.min ≤ i ∧ i ≤ IntKind.u8.max)
    (a : Int) (ha : IntKind.i64.min ≤ a ∧ a ≤ IntKind.i64.max) (b : Int) (hb : IntKind.i64.min ≤ b ∧ b ≤ IntKind.i64.max) (n : Int) (hn : IntKind.i64.min ≤ n ∧ n ≤ IntKind.i64.max) (t : List UInt8) :
    EndsV (callV (env S1) 3 [v, .int .i64 a, .int .i64 b, .agg [.int .i64 n, .str t]] H) fun v _ => v = .bool true := by
  refine law_ends pe1 (by decide) ⟨_, all_true (L := L) rL a b n t⟩ (RL.cons hL.rv (RL.cons RV.int (RL.cons RV.int (RL.cons (RV.agg (RL.cons RV.int (RL.cons RV.str RL.nil'))) RL.nil'))))
end Go.Proofs.Ytmogepinpdibdaa.Pf
