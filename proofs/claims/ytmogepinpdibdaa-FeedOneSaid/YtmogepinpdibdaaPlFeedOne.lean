/- The law FeedOne: the walk. -/
import Derived.Test.YtmogepinpdibdaaPdFeedWants
import Derived.Test.YtmogepinpdibdaaPmFeed6
import Derived.Test.YtmogepinpdibdaaPlFeedS
import Derived.Test.YtmogepinpdibdaaPvF
set_option linter.unusedVariables false
set_option linter.unusedSimpArgs false
namespace Go.Proofs.Ytmogepinpdibdaa.Pf
open Go.Ab Go.Feed
set_option maxRecDepth 100000
@[simp] theorem bin_neq_s (a b : List UInt8) : binA .neq (.str a) (.str b) = some (.bool !(decide (a = b))) := by simp only [binA, binS, beqD]
section
variable {Q : AHeap}
theorem loop_ML {L : List Ev} (hL : L.length ≤ 900000) : ∀ (m i : Nat) (a b : Int), i + m = L.length → 1 ≤ a → Chain a (L.drop i) b →
    L_pleachref13_MayLog_2 P1 (evs L) (.int .i64 a) (.int .i64 i) Q = X_pleachref13_MayLog_2_x0 Q := by
  intro m
  induction m with
  | zero =>
    intro i a b hi _ _
    obtain rfl : i = L.length := by omega
    rw [L_pleachref13_MayLog_2_eq, p_pleachref13_MayLog_2]
    simp [evs]
  | succ m ih =>
    intro i a b hi ha hc
    have h : ((i : Int) < L.length) = True := eq_true (by omega)
    have hx : L[i]? = some L[i] := List.getElem?_eq_getElem (by omega)
    have e := elQ_at (z := 5) (f := Ev.v) (k := .i64) hx
    rw [List.drop_eq_getElem_cons (by omega)] at hc
    generalize L[i] = x at *
    obtain ⟨ok, lo, hc⟩ := hc
    subst lo
    have h1 := ok.le
    have h2 := ok.hi
    have ih := ih (i + 1) (x.hi + 1) b (by omega) (by omega) hc
    have w3 := w64 (i := (i : Int) + 1) (by omega) (by omega)
    have w4 := w64 (i := x.hi + 1) (by omega) (by omega)
    have le1 : (x.hi < x.lo) = False := eq_false (by omega)
    have le2 : (1000000 < x.hi) = False := eq_false (by omega)
    rcases ok.kd with ⟨k1, k2, k3, k4⟩ | ⟨k1, k2, k3⟩
    · have k3' : ((12 : Int) < x.text.length) = False := eq_false (by omega)
      rw [k2] at le2 w4
      rw [L_pleachref13_MayLog_2_eq, p_pleachref13_MayLog_2]
      simp [evs, h, e, Ev.v, le1, le2, k1, k2, k3', k4, p_pleachref13_MayLog_0, p_pleachref13_MayLog_1, w3, w4, L_pleachref13_MayLog_2_fold]
      simpa [evs, k2] using ih
    · rcases k3 with k3 | k3
      · rw [L_pleachref13_MayLog_2_eq, p_pleachref13_MayLog_2]
        simp [evs, h, e, Ev.v, le1, le2, k1, k2, k3, p_pleachref13_MayLog_0, p_pleachref13_MayLog_1, w3, w4, L_pleachref13_MayLog_2_fold]
        simpa [evs] using ih
      · rw [L_pleachref13_MayLog_2_eq, p_pleachref13_MayLog_2]
        simp [evs, h, e, Ev.v, le1, le2, k1, k2, k3, p_pleachref13_MayLog_0, p_pleachref13_MayLog_1, w3, w4, L_pleachref13_MayLog_2_fold]
        simpa [evs] using ih
theorem d_MayLog {L : List Ev} (hL : L.length ≤ 900000) {a b : Int} (ha : 1 ≤ a) (h : Chain a L b) : callP (penv P1) 28 [evs L, .int .i64 a] Q = some (.bool true, Q) := by
  rw [f_pleachref13_MayLog rfl]
  have c : (a < 1) = False := eq_false (by omega)
  have l := loop_ML (Q := Q) hL L.length 0 a b (by omega) ha (by simpa using h)
  simp only [show ((0 : Nat) : Int) = 0 from rfl] at l
  simp [c, L_pleachref13_MayLog_2_fold, l, p_pleachref13_MayLog_3]
theorem d_NextLog {L : List Ev} (hL : L.length ≤ 900000) {a b : Int} (ha : 1 ≤ a) (hb : b ≤ 9000000) (h : Chain a L b) : callP (penv P1) 29 [evs L, .int .i64 a] Q = some (.int .i64 b, Q) := by
  rw [f_pleachref13_NextLog rfl]
  by_cases h0 : L = []
  · subst h0
    have h : a = b := h
    subst h
    simp [evs]
  · have hp := List.length_pos_iff.2 h0
    have hx : L[L.length - 1]? = some (L.getLast h0) := by rw [← List.getLast?_eq_getElem?, List.getLast?_eq_some_getLast h0]
    have hl := h.last (L.getLast h0) (List.getLast?_eq_some_getLast h0)
    have hle := h.le
    have e := elQ_at' (z := 5) (f := Ev.v) (k := .i64) (i := (L.length : Int) - 1) hx (by omega)
    generalize L.getLast h0 = x at *
    have n0 : ((L.length : Int) = 0) = False := eq_false (by omega)
    have w1 := w64 (i := (L.length : Int) - 1) (by omega) (by omega)
    have w2 := w64 (i := x.hi + 1) (by omega) (by omega)
    rw [hl] at w2
    simp [evs, n0, h0, w1, e, Ev.v, w2, hl]
theorem loop_MR {r : List It} {n : Int} (hr : RingOk r n) : ∀ (m i : Nat), i + m = r.length →
    L_pleachref13_MayRing_0 P1 (its r) (.int .i64 i) Q = X_pleachref13_MayRing_0_x0 (its r) Q := by
  intro m
  induction m with
  | zero =>
    intro i hi
    obtain rfl : i = r.length := by omega
    rw [L_pleachref13_MayRing_0_eq, p_pleachref13_MayRing_0]
    simp [its]
  | succ m ih =>
    intro i hi
    have hl6 := hr.len
    have h : ((i : Int) < r.length) = True := eq_true (by omega)
    have hx : r[i]? = some (r.getD i default) := getD_at (by omega)
    have e := elQ_at (z := 2) (f := It.v) (k := .i64) hx
    have hm : r.getD i default ∈ r := List.mem_of_getElem? hx
    obtain ⟨q1, q2, q3, q4⟩ := hr.lt _ hm
    have ih := ih (i + 1) (by omega)
    have w3 := w64 (i := (i : Int) + 1) (by omega) (by omega)
    by_cases h0 : i = 0
    · subst h0
      generalize r.getD 0 default = x at *
      have c1 : (x.seq < 1) = False := eq_false (by omega)
      have c2 : (1000000 < x.seq) = False := eq_false (by omega)
      have c3 : ((12 : Int) < x.text.length) = False := eq_false (by omega)
      have h : 0 < r.length := by omega
      have w3 := w64 (i := 1) (by omega) (by omega)
      simp only [show ((0 : Nat) : Int) = 0 from rfl] at e ⊢
      rw [L_pleachref13_MayRing_0_eq, p_pleachref13_MayRing_0]
      simp [its, h, e, c1, c2, c3, w3, L_pleachref13_MayRing_0_fold]
      simpa [its] using ih
    · have hy : r[i - 1]? = some (r.getD (i - 1) default) := getD_at (by omega)
      have e2 := elQ_at' (z := 2) (f := It.v) (k := .i64) (i := (i : Int) - 1) hy (by omega)
      have so := sorted_le hr.so (k := i - 1) (m := i) (by omega) (by omega)
      generalize r.getD i default = x at *
      generalize r.getD (i - 1) default = y at *
      have c1 : (x.seq < 1) = False := eq_false (by omega)
      have c2 : (1000000 < x.seq) = False := eq_false (by omega)
      have c3 : ((12 : Int) < x.text.length) = False := eq_false (by omega)
      have c4 : (x.seq ≤ y.seq) = False := eq_false (by omega)
      have c5 : (0 < i) = True := eq_true (by omega)
      have w4 := w64 (i := (i : Int) - 1) (by omega) (by omega)
      rw [L_pleachref13_MayRing_0_eq, p_pleachref13_MayRing_0]
      simp [its, h, e, e2, c1, c2, c3, c4, c5, w3, w4, L_pleachref13_MayRing_0_fold]
      simpa [its] using ih
theorem d_MayRing {r : List It} {n : Int} (hr : RingOk r n) : callP (penv P1) 30 [its r] Q = some (.bool true, Q) := by
  rw [f_pleachref13_MayRing rfl]
  have l := loop_MR (Q := Q) hr r.length 0 (by omega)
  simp only [show ((0 : Nat) : Int) = 0 from rfl] at l
  have h6 : ((r.length : Int) ≤ 6) = True := eq_true (by have := hr.len; omega)
  simp [L_pleachref13_MayRing_0_fold, l, p_pleachref13_MayRing_1, h6]
theorem loop_V0 {f : Fed} (hso : Sorted f.win) (hst : ∀ x ∈ f.win, f.next < x.seq) (hwb : ∀ x ∈ f.win, x.seq < f.next + 8) (hl : f.win.length ≤ 900000) (hn : 0 ≤ f.next ∧ f.next ≤ 1000001) {t0 t4 t5 t6 s1 s2 s4 s5 s6 : AV} : ∀ (m i : Nat), i + m = f.win.length →
    L_pleachlaw18_FeedOne_0 P1 t0 t4 t5 t6 (.int .i64 i) (.int .i64 f.next) s1 s2 (its f.win) s4 s5 s6 Q = X_pleachlaw18_FeedOne_0_x2 t0 t4 t5 t6 (.int .i64 f.next) s1 s2 (its f.win) s4 s5 s6 Q := by
  intro m
  induction m with
  | zero =>
    intro i hi
    obtain rfl : i = f.win.length := by omega
    rw [L_pleachlaw18_FeedOne_0_eq, p_pleachlaw18_FeedOne_0]
    simp [its]
  | succ m ih =>
    intro i hi
    have h : ((i : Int) < f.win.length) = True := eq_true (by omega)
    have hx : f.win[i]? = some (f.win.getD i default) := getD_at (by omega)
    have e := elQ_at (z := 2) (f := It.v) (k := .i64) hx
    have hm : f.win.getD i default ∈ f.win := List.mem_of_getElem? hx
    have q1 := hst _ hm
    have q2 := hwb _ hm
    have ih := ih (i + 1) (by omega)
    have w3 := w64 (i := (i : Int) + 1) (by omega) (by omega)
    have w8 := w64 (i := f.next + 8) (by omega) (by omega)
    by_cases h0 : i = 0
    · subst h0
      generalize f.win.getD 0 default = x at *
      have c1 : (x.seq ≤ f.next) = False := eq_false (by omega)
      have c2 : (f.next + 8 ≤ x.seq) = False := eq_false (by omega)
      have h : 0 < f.win.length := by omega
      have w3 := w64 (i := 1) (by omega) (by omega)
      simp only [show ((0 : Nat) : Int) = 0 from rfl] at e ⊢
      rw [L_pleachlaw18_FeedOne_0_eq, p_pleachlaw18_FeedOne_0]
      simp [its, h, e, c1, c2, w3, w8, L_pleachlaw18_FeedOne_0_fold]
      simpa [its] using ih
    · have hy : f.win[i - 1]? = some (f.win.getD (i - 1) default) := getD_at (by omega)
      have e2 := elQ_at' (z := 2) (f := It.v) (k := .i64) (i := (i : Int) - 1) hy (by omega)
      have so := sorted_le hso (k := i - 1) (m := i) (by omega) (by omega)
      generalize f.win.getD i default = x at *
      generalize f.win.getD (i - 1) default = y at *
      have c1 : (x.seq ≤ f.next) = False := eq_false (by omega)
      have c2 : (f.next + 8 ≤ x.seq) = False := eq_false (by omega)
      have c4 : (x.seq ≤ y.seq) = False := eq_false (by omega)
      have c5 : (0 < i) = True := eq_true (by omega)
      have w4 := w64 (i := (i : Int) - 1) (by omega) (by omega)
      rw [L_pleachlaw18_FeedOne_0_eq, p_pleachlaw18_FeedOne_0]
      simp [its, h, e, e2, c1, c2, c4, c5, w3, w4, w8, L_pleachlaw18_FeedOne_0_fold]
      simpa [its] using ih
theorem slc_to {L : List Ev} {n : Nat} (hn : n ≤ L.length) : slcQ 5 (.fz 5 (L.map Ev.v)) none (some (.int .i64 n)) = some (.fz 5 ((L.take n).map Ev.v)) := by
  rw [slcQ_fz (by omega)]
  have b : (0 ≤ (n : Int) ∧ (n : Int) ≤ L.length) = True := eq_true (by omega)
  simp only [bndo_none, bndo_int, List.length_map, b, if_true, Int.toNat_natCast, List.drop_zero]
  rw [List.map_take]
def Oz (fr : Int) (f : Fed) : Prop := (f.next = 0 ∨ On fr f) ∧ Wo f.win
theorem Oz.deed {k : Nat} {fr x y z now : Int} {f : Fed} (hd : Dd k f) (hdd : 0 ≤ (f.deed x y z now).next) (h : Oz fr f) : Oz (if f.next = 0 then (f.deed x y z now).next else fr) (f.deed x y z now) := by
  by_cases c : f.next = 0
  · rw [if_pos c]
    obtain ⟨z1, z2, z3⟩ := deed_0 hd c x y z now
    refine ⟨?_, fun x hx => by rw [z3] at hx; cases hx⟩
    by_cases c2 : (f.deed x y z now).next = 0
    · exact Or.inl c2
    · right
      refine ⟨by omega, by rw [z1]; exact rfl, ?_⟩
      rw [z2]
      exact ⟨List.Pairwise.nil, (by simp), (by simp)⟩
  · rw [if_neg c]
    rcases h.1 with h0 | h0
    · exact absurd h0 c
    · have := h0.deed h.2 x y z now
      exact ⟨Or.inr this.1, this.2⟩
theorem loop_O3 {L : List (List Int)} (hL : L.length ≤ 80) (rL : Trip L) : ∀ (m i : Nat) (f : Fed) (now fr : Int) (r w l : AV), i + m = L.length → Sls f r w l → Dd (690000 - 3 * i) f → 0 ≤ now ∧ now ≤ 4 * i → Ed now f → Oz fr f →
    L_pleachlaw18_FeedOne_3 P1 (.fz 3 (L.map trip)) (.int .i64 now) (.int .i64 fr) (.int .i64 i) (.int .i64 f.next) (.int .i64 f.top) r w l (.int .i64 f.tries) (.int .i64 f.due) Q = X_pleachlaw18_FeedOne_3_x0 Q := by
  intro m
  induction m with
  | zero =>
    intro i f now fr r w l hi hs hd hnow he ho
    obtain rfl : i = L.length := by omega
    rw [L_pleachlaw18_FeedOne_3_eq, p_pleachlaw18_FeedOne_3]
    simp
  | succ m ih =>
    intro i f now fr r w l hi hs hd hnow he ho
    have h : ((i : Int) < L.length) = True := eq_true (by omega)
    obtain ⟨x, y, z, e, hx, hy, hz⟩ := rL.get (i := i) (by omega)
    have e := trip_el e
    have m1 := tmod_e (a := z) (b := 4) hz.1
    have w0 := wrap_u8 (i := z % 4) (by omega) (by omega)
    have w1 := w64 (i := z % 4) (by omega) (by omega)
    have w2 := w64 (i := now + z % 4) (by omega) (by omega)
    have w3 := w64 (i := (i : Int) + 1) (by omega) (by omega)
    obtain ⟨r2, w2', l2, hd2, cd⟩ := c_deed (k := 690000 - 3 * (i + 1) - 200000) hs hs (hd.weaken (by omega)) hx hy hz (now := now + z % 4) (by omega)
    have dd := Dd.deed (k := 690000 - 3 * (i + 1)) (hd.weaken (by omega)) x y z (now + z % 4)
    have ed := Ed.deed (k := 690000 - 3 * (i + 1)) (now := now + z % 4) (by omega) (hd.weaken (by omega)) (he.later (by omega)) x y z
    have oz := Oz.deed (x := x) (y := y) (z := z) (now := now + z % 4) hd dd.1.n0 ho
    generalize f.deed x y z (now + z % 4) = g at *
    have ih := ih (i + 1) g (now + z % 4) (if f.next = 0 then g.next else fr) (its g.ring) (its g.win) (evs g.log) (by omega) (sls_z g) dd.1 (by omega) ed oz
    obtain ⟨dg, gr⟩ := dd
    have bl := dg.bd.l
    have lv := fun Q t0 t4 t5 t6 s1 s2 s4 s5 s6 => loop_V0 (Q := Q) dg.inv.so ed.st ed.wb (by omega) ⟨dg.n0, dg.n1⟩ (t0 := t0) (t4 := t4) (t5 := t5) (t6 := t6) (s1 := s1) (s2 := s2) (s4 := s4) (s5 := s5) (s6 := s6) g.win.length 0 (by omega)
    have hlen := gr.lg.length_le
    have st := slc_to (L := g.log) hlen
    have tk : g.log.take f.log.length = f.log := (List.prefix_iff_eq_take.1 gr.lg).symm
    rw [tk] at st
    have se := fun (Q : AHeap) => d_SameE (Q := Q) (Sl.fz 5 (f.log.map Ev.v)) hs.l (by omega)
    have hl' := hs.l.len
    simp only [List.length_map] at hl'
    have n1 : (g.next < f.next) = False := eq_false (by have := gr.nx; omega)
    have n2 : (g.top < f.top) = False := eq_false (by have := gr.tp; omega)
    have n3 : (g.log.length < f.log.length) = False := eq_false (by omega)
    simp only [Fed.v, Fed.z] at cd
    simp only [its, evs, show ((0 : Nat) : Int) = 0 from rfl] at lv
    have hn0 := dg.n0
    have key : ∀ fr' : Int, (0 < g.next → On fr' g) → L_pleachlaw18_FeedOne_3 P1 (.fz 3 (L.map trip)) (.int .i64 (now + z % 4)) (.int .i64 fr') (.int .i64 ((i + 1 : Nat) : Int)) (.int .i64 g.next) (.int .i64 g.top) (its g.ring) (its g.win) (evs g.log) (.int .i64 g.tries) (.int .i64 g.due) Q = X_pleachlaw18_FeedOne_3_x0 Q →
        evalPK (callP (penv P1)) (loopP (penv P1)) c_pleachlaw18_FeedOne_1 [(0, .v (.fz 3 (L.map trip))), (3, .lp 3 0), (4, .v (.int .i64 (now + z % 4))), (5, .v (.int .i64 fr')), (6, .v (.int .i64 i)), (7, .lp 7 0)]
          [(3, .cells [.int .i64 f.next, .int .i64 f.top, r, w, l, .int .i64 f.tries, .int .i64 f.due]), (7, .cells [.int .i64 g.next, .int .i64 g.top, its g.ring, its g.win, evs g.log, .int .i64 g.tries, .int .i64 g.due])] Q
          (finC [] [] [0, 3, 4, 5, 6] [(3, 3)] ret4) = some (.normal, [(0, .v (.fz 3 (L.map trip))), (3, .lp 3 0), (4, .v (.int .i64 (now + z % 4))), (5, .v (.int .i64 fr')), (6, .v (.int .i64 i))], [(3, .cells [.int .i64 g.next, .int .i64 g.top, its g.ring, its g.win, evs g.log, .int .i64 g.tries, .int .i64 g.due])], Q) := by
      intro fr' hon _
      rw [p_pleachlaw18_FeedOne_1]
      by_cases c : 0 < g.next
      · have on := hon c
        have q1 := fun (Q : AHeap) => d_MayLog (Q := Q) (L := g.log) (by omega) on.a1 on.ch
        have q2 := fun (Q : AHeap) => d_NextLog (Q := Q) (L := g.log) (by omega) on.a1 (by have := dg.n1; omega) on.ch
        have q3 := fun (Q : AHeap) => d_MayRing (Q := Q) on.rg
        simp only [its, evs] at q1 q2 q3
        simp [n1, n2, n3, hl', its, evs, st, se, c, q1, q2, q3, L_pleachlaw18_FeedOne_0_fold, lv]
      · simp [n1, n2, n3, hl', its, evs, st, se, c, L_pleachlaw18_FeedOne_0_fold, lv]
    have on : 0 < g.next → On (if f.next = 0 then g.next else fr) g := fun hp => by
      rcases oz.1 with h0 | h0
      · omega
      · exact h0
    have key := key _ on ih
    rw [L_pleachlaw18_FeedOne_3_eq, p_pleachlaw18_FeedOne_3]
    simp only [its, evs] at key ih cd
    by_cases c : f.next = 0
    · have c := eq_true c
      simp only [c, if_true] at key ih
      simp [h, e, m1, w0, w1, w2, w3, cd, c, key, hd2.r.one, hd2.w.one, hd2.l.one, hs.r.one, hs.w.one, hs.l.one, p_pleachlaw18_FeedOne_2, L_pleachlaw18_FeedOne_3_fold]
      simpa using ih
    · simp only [c, if_false] at key ih
      simp [h, e, m1, w0, w1, w2, w3, cd, c, key, hd2.r.one, hd2.w.one, hd2.l.one, hs.r.one, hs.w.one, hs.l.one, p_pleachlaw18_FeedOne_2, L_pleachlaw18_FeedOne_3_fold]
      simpa using ih
theorem ed00 : Ed 0 Fed0 := ⟨(by simp [Fed0]), (by simp [Fed0]), (by simp [Fed0]), (by simp [Fed0])⟩
theorem one_true {L : List (List Int)} (rL : Trip L) : callP (penv P1) 5 [.fz 3 (L.map trip)] Q = some (.bool true, Q) := by
  rw [f_pleachlaw18_FeedOne rfl]
  have hb : ∀ Q, callP (penv P1) 13 [] Q = some (.bool true, Q) := fun Q => (callP_spec (E := penv P1) (f := 13) (g := gYes) rfl [] Q).trans (by simp [gYes])
  by_cases hA : 80 < L.length
  · have hA' : (80 : Int) < L.length := by omega
    simp [hb, hA']
  have hA' : ¬ (80 : Int) < L.length := by omega
  have l0 := loop_O3 (Q := Q) (by omega) rL L.length 0 Fed0 0 0 .nils .nils .nils (by omega) sls0 (dd0.weaken (by omega)) (by omega) ed00 ⟨Or.inl rfl, fun x hx => by cases hx⟩
  simp only [show ((0 : Nat) : Int) = 0 from rfl] at l0
  simp only [Fed0] at l0
  simp [hb, hA', L_pleachlaw18_FeedOne_3_fold, l0, p_pleachlaw18_FeedOne_4]
end
end Go.Proofs.Ytmogepinpdibdaa.Pf
/- The law FeedOne. -/
set_option linter.unusedVariables false
set_option linter.unusedSimpArgs false
namespace Go.Proofs.Ytmogepinpdibdaa.Pf
open Go.Ab
set_option maxRecDepth 100000
theorem law_FeedOne {H : AHeap} (v : AV) (L : List (List Int)) (hL : Els 3 trip H v L) (hl : L.length ≤ maxLen) (rL : ∀ a ∈ L, a.length = 3 ∧ ∀ i ∈ a, IntKind.u8.min ≤ i ∧ i ≤ IntKind.u8.max) :
    EndsV (callV (env S1) 5 [v] H) fun v _ => v = .bool true := by
  refine law_ends pe1 (by decide) ⟨_, one_true (L := L) rL⟩ (RL.cons hL.rv RL.nil')
end Go.Proofs.Ytmogepinpdibdaa.Pf
