/- What the document's functions for feed come to: the same. Feeds that are the same. -/
import Derived.Test.YtmogepinpdibdaaPcFeed4
set_option linter.unusedVariables false
set_option linter.unusedSimpArgs false
namespace Go.Proofs.Ytmogepinpdibdaa.Pf
open Go.Ab Go.Feed
set_option maxRecDepth 100000
section
variable {Q : AHeap}
theorem d_Say {f : Fed} {r w l : AV} (hs : Sls f r w l) (h : Bd f 3) (hr : f.ring.length ≤ 6) (text : List UInt8) :
    ∃ r' w' l', Sls (f.say text).1 r' w' l' ∧ ∀ Q, callP (penv P1) 27 [Fed.v f r w l, .str text] Q = some (.tup [Fed.v (f.say text).1 r' w' l', .bool (f.say text).2], Q) := by
  by_cases c : 12 < text.length ∨ 1000000 < max f.next 1
  · have e : f.say text = (f, false) := by unfold Fed.say; rw [if_pos c]
    rw [e]
    refine ⟨r, w, l, hs, fun Q => ?_⟩
    unfold Fed.v
    rw [f_pleachref13_Say rfl]
    by_cases c1 : (12 : Int) < text.length
    · simp [hs.r.one, hs.w.one, hs.l.one, c1]
    · have c2 : 1000000 < max f.next 1 := by omega
      simp [hs.r.one, hs.w.one, hs.l.one, c1, c2]
  · have e : f.say text = ({ f with log := f.log ++ [told ⟨max f.next 1, text⟩], ring := ringAdd f.ring ⟨max f.next 1, text⟩, top := max f.next 1, next := max f.next 1 + 1 }, true) := by unfold Fed.say; rw [if_neg c]
    rw [e]
    refine ⟨its (ringAdd f.ring ⟨max f.next 1, text⟩), w, evs (f.log ++ [told ⟨max f.next 1, text⟩]), ⟨Sl.fz 2 _, hs.w, Sl.fz 5 _⟩, fun Q => ?_⟩
    have tl := fun (Q : AHeap) => d_Tell (Q := Q) hs.l (by have := h.l; omega) ⟨max f.next 1, text⟩
    have ra := fun (Q : AHeap) => d_ringAdd (Q := Q) hs.r hr ⟨max f.next 1, text⟩
    have c1 : ¬ (12 : Int) < text.length := fun h => c (Or.inl (by omega))
    have c2 : ¬ 1000000 < max f.next 1 := fun h => c (Or.inr h)
    have wm := w64 (i := max f.next 1 + 1) (by omega) (by omega)
    rw [It_v] at ra
    simp only at tl ra
    unfold Fed.v
    rw [f_pleachref13_Say rfl]
    generalize f.log ++ [told ⟨max f.next 1, text⟩] = L at *
    generalize ringAdd f.ring ⟨max f.next 1, text⟩ = R at *
    simp [hs.r.one, hs.w.one, hs.l.one, c1, c2, tl, ra, wm]
theorem drop_eq {α : Type} [Inhabited α] {l m : List α} {i : Nat} (h1 : i < l.length) (h2 : i < m.length) : l.drop i = m.drop i ↔ l.getD i default = m.getD i default ∧ l.drop (i + 1) = m.drop (i + 1) := by
  have key : ∀ {l : List α}, i < l.length → l.drop i = l.getD i default :: l.drop (i + 1) := fun {l} h => by
    rw [List.drop_eq_getElem_cons h, List.getD_eq_getElem?_getD, List.getElem?_eq_getElem h]; rfl
  rw [key h1, key h2]
  exact ⟨fun h => by injection h with a b; exact ⟨a, b⟩, fun ⟨a, b⟩ => by rw [a, b]⟩
theorem loop_dSameI {l m : List It} {v v' : AV} (h : Sl 2 (l.map It.v) v) (h' : Sl 2 (m.map It.v) v') (hl : l.length ≤ 900000) (hm : l.length = m.length) : ∀ (k i : Nat), i + k = l.length →
    (l.drop i = m.drop i → L_pleachref13_SameItems_0 P1 v v' (.int .i64 i) Q = X_pleachref13_SameItems_0_x0 Q) ∧ (¬ l.drop i = m.drop i → L_pleachref13_SameItems_0 P1 v v' (.int .i64 i) Q = X_pleachref13_SameItems_0_ret (.bool false) Q) := by
  intro k
  induction k with
  | zero =>
    intro i hi
    have c : ¬ ((i : Int) < l.length) := by omega
    refine ⟨fun _ => ?_, fun hn => absurd (by rw [List.drop_of_length_le (by omega), List.drop_of_length_le (by omega)]) hn⟩
    rw [L_pleachref13_SameItems_0_eq, p_pleachref13_SameItems_0]
    simp [h.len, c]
  | succ k ih =>
    intro i hi
    have c : ((i : Int) < l.length) = True := eq_true (by omega)
    have e := h.get (k := .i64) (getD_at (l := l) (k := i) (by omega))
    have e' := h'.get (k := .i64) (getD_at (l := m) (k := i) (by omega))
    have w := w64 (i := (i : Int) + 1) (by omega) (by omega)
    have ih := ih (i + 1) (by omega)
    rw [drop_eq (by omega) (by omega), L_pleachref13_SameItems_0_eq, p_pleachref13_SameItems_0]
    generalize l.getD i default = x at *
    generalize m.getD i default = y at *
    obtain ⟨xs, xt⟩ := x
    obtain ⟨ys, yt⟩ := y
    by_cases c1 : xs = ys
    · by_cases c2 : xt = yt
      · subst c1; subst c2
        refine ⟨fun hh => ?_, fun hh => ?_⟩
        · have := ih.1 hh.2
          simp [h.len, c, e, e', w, L_pleachref13_SameItems_0_fold]
          simpa using this
        · have := ih.2 (fun h => hh ⟨rfl, h⟩)
          simp [h.len, c, e, e', w, L_pleachref13_SameItems_0_fold]
          simpa using this
      · refine ⟨fun hh => absurd (congrArg It.text hh.1) c2, fun hh => ?_⟩
        simp [h.len, c, e, e', c1, c2]
    · refine ⟨fun hh => absurd (congrArg It.seq hh.1) c1, fun hh => ?_⟩
      simp [h.len, c, e, e', c1]
theorem d_SameI {l m : List It} {v v' : AV} (h : Sl 2 (l.map It.v) v) (h' : Sl 2 (m.map It.v) v') (hl : l.length ≤ 900000) : callP (penv P1) 35 [v, v'] Q = some (.bool (decide (l = m)), Q) := by
  rw [f_pleachref13_SameItems rfl]
  by_cases hm : l.length = m.length
  · have lp := loop_dSameI (Q := Q) h h' hl hm l.length 0 (by omega)
    rw [show ((0 : Nat) : Int) = 0 from rfl, List.drop_zero, List.drop_zero] at lp
    have hm' : ((l.length : Int) = m.length) = True := eq_true (by omega)
    by_cases c : l = m
    · have lp := lp.1 c
      simp [h.len, h'.len, hm', L_pleachref13_SameItems_0_fold, lp, p_pleachref13_SameItems_1, c]
    · have lp := lp.2 c
      simp [h.len, h'.len, hm', L_pleachref13_SameItems_0_fold, lp, c]
  · have c : l ≠ m := fun e => hm (by rw [e])
    have hm' : ¬ (l.length : Int) = m.length := by omega
    simp [h.len, h'.len, hm', c]
theorem loop_dSameE {l m : List Ev} {v v' : AV} (h : Sl 5 (l.map Ev.v) v) (h' : Sl 5 (m.map Ev.v) v') (hl : l.length ≤ 900000) (hm : l.length = m.length) : ∀ (k i : Nat), i + k = l.length →
    (l.drop i = m.drop i → L_pleachref13_SameEvents_0 P1 v v' (.int .i64 i) Q = X_pleachref13_SameEvents_0_x0 Q) ∧ (¬ l.drop i = m.drop i → L_pleachref13_SameEvents_0 P1 v v' (.int .i64 i) Q = X_pleachref13_SameEvents_0_ret (.bool false) Q) := by
  intro k
  induction k with
  | zero =>
    intro i hi
    have c : ¬ ((i : Int) < l.length) := by omega
    refine ⟨fun _ => ?_, fun hn => absurd (by rw [List.drop_of_length_le (by omega), List.drop_of_length_le (by omega)]) hn⟩
    rw [L_pleachref13_SameEvents_0_eq, p_pleachref13_SameEvents_0]
    simp [h.len, c]
  | succ k ih =>
    intro i hi
    have c : ((i : Int) < l.length) = True := eq_true (by omega)
    have e := h.get (k := .i64) (getD_at (l := l) (k := i) (by omega))
    have e' := h'.get (k := .i64) (getD_at (l := m) (k := i) (by omega))
    have w := w64 (i := (i : Int) + 1) (by omega) (by omega)
    have ih := ih (i + 1) (by omega)
    rw [drop_eq (by omega) (by omega), L_pleachref13_SameEvents_0_eq, p_pleachref13_SameEvents_0]
    generalize l.getD i default = x at *
    generalize m.getD i default = y at *
    obtain ⟨x1, x2, x3, x4, x5⟩ := x
    obtain ⟨y1, y2, y3, y4, y5⟩ := y
    simp only [Ev.v] at e e'
    by_cases hc : x1 = y1 ∧ x2 = y2 ∧ x3 = y3 ∧ x4 = y4 ∧ x5 = y5
    · obtain ⟨rfl, rfl, rfl, rfl, rfl⟩ := hc
      refine ⟨fun hh => ?_, fun hh => ?_⟩
      · have := ih.1 hh.2
        simp [h.len, c, e, e', w, L_pleachref13_SameEvents_0_fold]
        simpa using this
      · have := ih.2 (fun h => hh ⟨rfl, h⟩)
        simp [h.len, c, e, e', w, L_pleachref13_SameEvents_0_fold]
        simpa using this
    · refine ⟨fun hh => absurd (by simpa using hh.1) hc, fun hh => ?_⟩
      by_cases c1 : x1 = y1
      · by_cases c2 : x2 = y2
        · by_cases c3 : x3 = y3
          · by_cases c4 : x4 = y4
            · have c5 : ¬ x5 = y5 := fun c5 => hc ⟨c1, c2, c3, c4, c5⟩
              simp [h.len, c, e, e', c1, c2, c3, c4, c5]
            · simp [h.len, c, e, e', c1, c2, c3, c4]
          · simp [h.len, c, e, e', c1, c2, c3]
        · simp [h.len, c, e, e', c1, c2]
      · simp [h.len, c, e, e', c1]
theorem d_SameE {l m : List Ev} {v v' : AV} (h : Sl 5 (l.map Ev.v) v) (h' : Sl 5 (m.map Ev.v) v') (hl : l.length ≤ 900000) : callP (penv P1) 16 [v, v'] Q = some (.bool (decide (l = m)), Q) := by
  rw [f_pleachref13_SameEvents rfl]
  by_cases hm : l.length = m.length
  · have lp := loop_dSameE (Q := Q) h h' hl hm l.length 0 (by omega)
    rw [show ((0 : Nat) : Int) = 0 from rfl, List.drop_zero, List.drop_zero] at lp
    have hm' : ((l.length : Int) = m.length) = True := eq_true (by omega)
    by_cases c : l = m
    · have lp := lp.1 c
      simp [h.len, h'.len, hm', L_pleachref13_SameEvents_0_fold, lp, p_pleachref13_SameEvents_1, c]
    · have lp := lp.2 c
      simp [h.len, h'.len, hm', L_pleachref13_SameEvents_0_fold, lp, c]
  · have c : l ≠ m := fun e => hm (by rw [e])
    have hm' : ¬ (l.length : Int) = m.length := by omega
    simp [h.len, h'.len, hm', c]
theorem d_SameF {f g : Fed} {r w l r' w' l' : AV} (hs : Sls f r w l) (hg : Sls g r' w' l') {k : Nat} (h : Bd f k) : callP (penv P1) 15 [Fed.v f r w l, Fed.v g r' w' l'] Q = some (.bool (decide (f = g)), Q) := by
  have a := fun (Q : AHeap) => d_SameI (Q := Q) hs.r hg.r (by have := h.r; omega)
  have b := fun (Q : AHeap) => d_SameI (Q := Q) hs.w hg.w (by have := h.r; omega)
  have d := fun (Q : AHeap) => d_SameE (Q := Q) hs.l hg.l (by have := h.l; omega)
  obtain ⟨f1, f2, f3, f4, f5, f6, f7⟩ := f
  obtain ⟨g1, g2, g3, g4, g5, g6, g7⟩ := g
  unfold Fed.v
  rw [f_pleachref13_SameFeed rfl]
  have o1 := hs.r.one
  have o2 := hs.w.one
  have o3 := hs.l.one
  have o4 := hg.r.one
  have o5 := hg.w.one
  have o6 := hg.l.one
  simp only at a b d
  simp only [Fed.mk.injEq]
  by_cases c1 : f1 = g1
  · by_cases c2 : f2 = g2
    · by_cases c3 : f3 = g3
      · by_cases c4 : f4 = g4
        · by_cases c5 : f5 = g5
          · by_cases c6 : f6 = g6
            · by_cases c7 : f7 = g7 <;> simp [o1, o2, o3, o4, o5, o6, a, b, d, c1, c2, c3, c4, c5, c6, c7]
            · simp [o1, o2, o3, o4, o5, o6, a, b, d, c1, c2, c3, c4, c5, c6]
          · simp [o1, o2, o3, o4, o5, o6, a, b, d, c1, c2, c3, c4, c5]
        · simp [o1, o2, o3, o4, o5, o6, a, b, d, c1, c2, c3, c4]
      · simp [o1, o2, o3, o4, o5, o6, a, b, d, c1, c2, c3]
    · simp [o1, o2, o3, o4, o5, o6, a, b, d, c1, c2]
  · simp [o1, o2, o3, o4, o5, o6, a, b, d, c1]
end
end Go.Proofs.Ytmogepinpdibdaa.Pf
