/- The law FeedSays: the walk. -/
import Derived.Test.YtmogepinpdibdaaPcFeed5
set_option linter.unusedVariables false
set_option linter.unusedSimpArgs false
namespace Go.Proofs.Ytmogepinpdibdaa.Pf
open Go.Ab Go.Feed
set_option maxRecDepth 100000
structure Sy (i : Nat) (f : Fed) : Prop where
  w : f.win = []
  r : f.ring.length ≤ 6
  n0 : 0 ≤ f.next
  n1 : f.next ≤ i + 1
  l : f.log.length ≤ i
theorem Sy.bd {i : Nat} {f : Fed} (h : Sy i f) (hi : i ≤ 100) : Bd f 3 := by
  have := h.n0; have := h.n1; have := h.l; have := h.r
  exact ⟨by rw [h.w]; simp; omega, by rw [h.w]; simp; omega, by omega, by rw [h.w]; simp; omega, by rw [h.w]; simp⟩
theorem Sy.say {i : Nat} {f : Fed} (h : Sy i f) (hi : i ≤ 100) (t : List UInt8) : Sy (i + 1) (f.say t).1 ∧ (f.say t).2 = decide (t.length ≤ 12) ∧ (f.say t).1.log.length = f.log.length + (if t.length ≤ 12 then 1 else 0) := by
  have := h.n0; have := h.n1; have := h.l; have hr := h.r
  unfold Fed.say
  by_cases c : 12 < t.length
  · rw [if_pos (Or.inl c)]
    have c2 : ¬ t.length ≤ 12 := by omega
    exact ⟨⟨h.w, h.r, h.n0, by show f.next ≤ _; omega, by show f.log.length ≤ _; omega⟩, by simp [c2], by simp [c2]⟩
  · have c2 : t.length ≤ 12 := by omega
    rw [if_neg (by omega)]
    exact ⟨⟨h.w, ringAdd_6 hr _, by show 0 ≤ max f.next 1 + 1; omega, by show max f.next 1 + 1 ≤ _; omega, by simp; omega⟩, by simp [c2], by simp [c2]⟩
section
variable {Q : AHeap}
theorem loop_Y {L : List (List UInt8)} (hL : L.length ≤ 20) : ∀ (m i : Nat) (f : Fed) (r w l r' w' l' : AV), i + m = L.length → Sls f r w l → Sls f r' w' l' → Sy i f →
    L_pleachlaw18_FeedSays_2 P1 (.fz 1 (L.map AV.str)) (.int .i64 f.log.length) (.int .i64 i) (.int .i64 f.next) (.int .i64 f.top) r w l (.int .i64 f.tries) (.int .i64 f.due) (.int .i64 f.next) (.int .i64 f.top) r' w' l' (.int .i64 f.tries) (.int .i64 f.due) Q = X_pleachlaw18_FeedSays_2_ret (.bool true) Q ∨
    ∃ (g : Fed) (r2 w2 l2 : AV), Sls g r2 w2 l2 ∧ g.log.length ≤ 20 ∧
    L_pleachlaw18_FeedSays_2 P1 (.fz 1 (L.map AV.str)) (.int .i64 f.log.length) (.int .i64 i) (.int .i64 f.next) (.int .i64 f.top) r w l (.int .i64 f.tries) (.int .i64 f.due) (.int .i64 f.next) (.int .i64 f.top) r' w' l' (.int .i64 f.tries) (.int .i64 f.due) Q =
      X_pleachlaw18_FeedSays_2_x0 (.int .i64 g.log.length) (.int .i64 g.next) (.int .i64 g.top) r2 w2 l2 (.int .i64 g.tries) (.int .i64 g.due) Q := by
  intro m
  induction m with
  | zero =>
    intro i f r w l r' w' l' hi hs hg hy
    right
    obtain rfl : i = L.length := by omega
    refine ⟨f, r, w, l, hs, by have := hy.l; omega, ?_⟩
    rw [L_pleachlaw18_FeedSays_2_eq, p_pleachlaw18_FeedSays_2]
    simp
  | succ m ih =>
    intro i f r w l r' w' l' hi hs hg hy
    have h : ((i : Int) < L.length) = True := eq_true (by omega)
    have e : elQ 1 (.fz 1 (L.map AV.str)) (.int .i64 (i : Int)) = some (.str L[i]) := elQ_at (List.getElem?_eq_getElem (by omega))
    generalize L[i] = t at *
    by_cases c40 : (40 : Int) < t.length
    · left
      rw [L_pleachlaw18_FeedSays_2_eq, p_pleachlaw18_FeedSays_2]
      simp [h, e, c40]
    · have hb := hy.bd (by omega)
      have cs := fun (Q : AHeap) => c_Say (Q := Q) hs hb t
      obtain ⟨r2, w2, l2, hd, ds⟩ := d_Say hg hb hy.r t
      obtain ⟨s1, s2, s3⟩ := hy.say (by omega) t
      have hb2 := s1.bd (by omega)
      generalize f.say t = G at *
      obtain ⟨G, p⟩ := G
      simp only at s1 s2 s3 cs ds hd hb2
      have sf := fun (Q : AHeap) => d_SameF (Q := Q) (sls_z G) hd hb2
      have ih := ih (i + 1) G (its G.ring) (its G.win) (evs G.log) r2 w2 l2 (by omega) (sls_z G) hd s1
      have w3 := w64 (i := (i : Int) + 1) (by omega) (by omega)
      have hlf := hy.l
      have w4 := w64 (i := (f.log.length : Int) + 1) (by omega) (by omega)
      have tl : ((t.length : Int) ≤ 12) = (t.length ≤ 12) := by apply propext; omega
      simp only [Fed.v, Fed.z] at cs ds sf
      have key : L_pleachlaw18_FeedSays_2 P1 (.fz 1 (L.map AV.str)) (.int .i64 f.log.length) (.int .i64 i) (.int .i64 f.next) (.int .i64 f.top) r w l (.int .i64 f.tries) (.int .i64 f.due) (.int .i64 f.next) (.int .i64 f.top) r' w' l' (.int .i64 f.tries) (.int .i64 f.due) Q =
          L_pleachlaw18_FeedSays_2 P1 (.fz 1 (L.map AV.str)) (.int .i64 G.log.length) (.int .i64 ((i + 1 : Nat) : Int)) (.int .i64 G.next) (.int .i64 G.top) (its G.ring) (its G.win) (evs G.log) (.int .i64 G.tries) (.int .i64 G.due) (.int .i64 G.next) (.int .i64 G.top) r2 w2 l2 (.int .i64 G.tries) (.int .i64 G.due) Q := by
        rw [L_pleachlaw18_FeedSays_2_eq, p_pleachlaw18_FeedSays_2, s3]
        by_cases c : t.length ≤ 12
        · have s2 : p = true := by simpa [c] using s2
          subst s2
          simp [h, e, c40, cs, ds, sf, w3, w4, tl, c, hd.r.one, hd.w.one, hd.l.one, hs.r.one, hs.w.one, hs.l.one, hg.r.one, hg.w.one, hg.l.one, p_pleachlaw18_FeedSays_0, p_pleachlaw18_FeedSays_1, L_pleachlaw18_FeedSays_2_fold, its, evs]
        · have s2 : p = false := by simpa [c] using s2
          subst s2
          simp [h, e, c40, cs, ds, sf, w3, w4, tl, c, hd.r.one, hd.w.one, hd.l.one, hs.r.one, hs.w.one, hs.l.one, hg.r.one, hg.w.one, hg.l.one, p_pleachlaw18_FeedSays_0, p_pleachlaw18_FeedSays_1, L_pleachlaw18_FeedSays_2_fold, its, evs]
      rw [key]
      exact ih
def Fed0 : Fed := ⟨0, 0, [], [], [], 0, 0⟩
theorem sls0 : Sls Fed0 .nils .nils .nils := ⟨Sl.nil 2, Sl.nil 2, Sl.nil 5⟩
def FedM : Fed := ⟨1000000, 999999, [], [], [], 0, 0⟩
theorem slsM : Sls FedM .nils .nils .nils := ⟨Sl.nil 2, Sl.nil 2, Sl.nil 5⟩
theorem says_true {L : List (List UInt8)} : callP (penv P1) 4 [.fz 1 (L.map AV.str)] Q = some (.bool true, Q) := by
  rw [f_pleachlaw18_FeedSays rfl]
  have hb : ∀ Q, callP (penv P1) 13 [] Q = some (.bool true, Q) := fun Q => (callP_spec (E := penv P1) (f := 13) (g := gYes) rfl [] Q).trans (by simp [gYes])
  by_cases hA : 20 < L.length
  · have hA' : (20 : Int) < L.length := by omega
    simp [hb, hA']
  have hA' : ¬ (20 : Int) < L.length := by omega
  have l0 := loop_Y (Q := Q) (L := L) (by omega) L.length 0 Fed0 _ _ _ _ _ _ (by omega) sls0 sls0 ⟨rfl, (by simp [Fed0]), (by simp [Fed0]), (by simp [Fed0]), (by simp [Fed0])⟩
  have bM : Bd FedM 3 := ⟨(by simp [FedM]), (by simp [FedM]), (by simp [FedM]), (by simp [FedM]), (by simp [FedM])⟩
  have m1 := fun (Q : AHeap) => c_Say (Q := Q) slsM bM [120]
  have e1 : FedM.say [120] = (⟨1000001, 1000000, [⟨1000000, [120]⟩], [], [told ⟨1000000, [120]⟩], 0, 0⟩, true) := by decide
  rw [e1] at m1
  have m2 := fun (Q : AHeap) => c_Say (Q := Q) (sls_z ⟨1000001, 1000000, [⟨1000000, [120]⟩], [], [told ⟨1000000, [120]⟩], 0, 0⟩) (⟨(by simp), (by simp), (by simp), (by simp), (by simp)⟩) [120]
  have e2 : Fed.say ⟨1000001, 1000000, [⟨1000000, [120]⟩], [], [told ⟨1000000, [120]⟩], 0, 0⟩ [120] = (⟨1000001, 1000000, [⟨1000000, [120]⟩], [], [told ⟨1000000, [120]⟩], 0, 0⟩, false) := by decide
  rw [e2] at m2
  simp only [Fed.v, Fed.z, Fed0, FedM, its, evs, List.map_nil, List.map_cons, It.v, Ev.v, told] at m1 m2 l0
  rcases l0 with l0 | ⟨g, r2, w2, l2, hs, hl, l0⟩
  · simp only [show ((([] : List Ev).length : Nat) : Int) = 0 from rfl, show ((0 : Nat) : Int) = 0 from rfl] at l0
    simp [hb, hA', L_pleachlaw18_FeedSays_2_fold, l0]
  · simp only [show ((([] : List Ev).length : Nat) : Int) = 0 from rfl, show ((0 : Nat) : Int) = 0 from rfl] at l0
    have hlen := hs.l.len
    simp only [List.length_map] at hlen
    simp [hb, hA', L_pleachlaw18_FeedSays_2_fold, l0, p_pleachlaw18_FeedSays_3, m1, m2, hlen]
end
end Go.Proofs.Ytmogepinpdibdaa.Pf
