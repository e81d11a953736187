/- What the functions of span, and the document's, come to. -/
import Derived.Test.YtccgolmdhikdoaaPcFeed
import Derived.Test.YtccgolmdhikdoaaPmSpan
set_option linter.unusedVariables false
set_option linter.unusedSimpArgs false
namespace Go.Proofs.Ytccgolmdhikdoaa.Pn
open Go.Ab Go.Feed
set_option maxRecDepth 100000
open Go.Span (add addL radd radL insN insAt lk rlk may has cnt Gd)
theorem Sp_v (a b : Int) : Sp.v (a, b) = .agg [.int .i64 a, .int .i64 b] := rfl
def Ok (s : Sp) : Prop := 0 ≤ s.1 ∧ s.1 ≤ 2000000 ∧ 0 ≤ s.2 ∧ s.2 ≤ 2000000
theorem Gd.ok {l : List Sp} (h : Gd l) : ∀ s ∈ l, Ok s := fun s hs => by have := h.m s hs; unfold Ok; omega
theorem ok_at {l : List Sp} (h : ∀ s ∈ l, Ok s) {i : Nat} (hi : i < l.length) : Ok (l.getD i default) := by
  rw [List.getD_eq_getElem?_getD, List.getElem?_eq_getElem hi]; exact h _ (List.getElem_mem _)
theorem drop_at {l : List Sp} {i : Nat} (hi : i < l.length) : l.drop i = l.getD i default :: l.drop (i + 1) := by
  rw [List.drop_eq_getElem_cons hi, List.getD_eq_getElem?_getD, List.getElem?_eq_getElem hi]; rfl
@[simp] theorem gdN_tt (o : Option Nat) : gdN (.bool true) true o = o := by simp [gdN]
@[simp] theorem gdN_ft (o : Option Nat) : gdN (.bool false) true o = some 0 := by simp [gdN]
theorem Sl.srcS {z l v} (h : Sl z l v) (ω : PW) : srcT ω z (.v v) = some l := by rcases h with rfl | ⟨rfl, rfl⟩ <;> simp
section
variable {Q : AHeap}
theorem c_cloneS {l : List Sp} {v : AV} (h : Sl 2 (l.map Sp.v) v) (hl : l.length ≤ 1000000) : callP (penv P1) 92 [v] Q = some (.ow 2 (l.map Sp.v), Q) := by
  rw [callP_spec (g := gClone 2 16) rfl, h.clone (room_le (by omega) (by simp; omega))]; rfl
theorem c_one (s : Sp) : callP (penv P1) 91 [.agg [.int .i64 s.1, .int .i64 s.2]] Q = some (.bool (may s), Q) := by
  rw [f_span_one rfl]
  unfold may
  by_cases h1 : 1 ≤ s.1 <;> by_cases h2 : s.1 ≤ s.2 <;> by_cases h3 : s.2 ≤ 1000000 <;> simp [h1, h2, h3]
theorem addL_len : ∀ (l : List Sp) (s : Sp) (o : List Sp), (addL l s o).1.length ≤ o.length + l.length
  | [], s, o => by simp [addL]
  | x :: l, s, o => by
    unfold addL
    split
    · have := addL_len l s (o ++ [x]); simp at this ⊢; omega
    · have := addL_len l (min s.1 x.1, max s.2 x.2) o; simp; omega
theorem loop_add {l : List Sp} {v : AV} (h : Sl 2 (l.map Sp.v) v) (hl : l.length ≤ 100000) (ho : ∀ s ∈ l, Ok s) : ∀ (k i : Nat) (s : Sp) (o : List Sp), i + k = l.length → Ok s → o.length ≤ i →
    L_span_Add_1 P1 v (.int .i64 l.length) (.int .i64 i) (.int .i64 s.1) (.int .i64 s.2) (o.map Sp.v) Q = X_span_Add_1_x0 (.int .i64 (addL (l.drop i) s o).2.1) (.int .i64 (addL (l.drop i) s o).2.2) ((addL (l.drop i) s o).1.map Sp.v) Q := by
  intro k
  induction k with
  | zero =>
    intro i s o hi hs hoi
    have c : ¬ ((i : Int) < l.length) := by omega
    rw [List.drop_of_length_le (by omega), L_span_Add_1_eq, p_span_Add_1]
    simp [c, addL]
  | succ k ih =>
    intro i s o hi hs hoi
    have c : ((i : Int) < l.length) = True := eq_true (by omega)
    have e := h.get (k := .i64) (getD_at (l := l) (k := i) (by omega))
    have hx := ok_at ho (i := i) (by omega)
    rw [drop_at (by omega), L_span_Add_1_eq, p_span_Add_1]
    generalize l.getD i default = x at *
    obtain ⟨a, b⟩ := x
    obtain ⟨p, q⟩ := s
    simp only [Ok] at hx hs
    have w := w64 (i := (i : Int) + 1) (by omega) (by omega)
    have w1 := w64 (i := p - 1) (by omega) (by omega)
    have w2 := w64 (i := q + 1) (by omega) (by omega)
    have r : room 16 (o.length + 1) = true := room_le (by omega) (by omega)
    rw [Sp_v] at e
    unfold addL
    by_cases c1 : b < p - 1 ∨ q + 1 < a
    · have ih := ih (i + 1) (p, q) (o ++ [(a, b)]) (by omega) hs (by simp; omega)
      rw [if_pos c1]
      simp only [List.map_append, List.map_cons, List.map_nil, Sp_v] at ih
      by_cases c2 : b < p - 1
      · simp [c, e, w, w1, w2, c2, r, p_span_Add_0]
        simpa [L_span_Add_1_fold] using ih
      · have c3 : q + 1 < a := c1.resolve_left c2
        simp [c, e, w, w1, w2, c2, c3, r, p_span_Add_0]
        simpa [L_span_Add_1_fold] using ih
    · have ih := ih (i + 1) (min p a, max q b) o (by omega) (by simp only [Ok]; omega) (by omega)
      rw [if_neg c1]
      have c2 : ¬ b < p - 1 := fun h => c1 (Or.inl h)
      have c3 : ¬ q + 1 < a := fun h => c1 (Or.inr h)
      simp [c, e, w, w1, w2, c2, c3, r, p_span_Add_0]
      simpa [L_span_Add_1_fold] using ih
theorem insAt_le (o : List Sp) (s : Sp) : insAt o s ≤ o.length := by
  unfold insAt; exact (List.takeWhile_sublist _).length_le
theorem insAt_lt : ∀ {o : List Sp} {s : Sp} {k : Nat}, k < insAt o s → (o.getD k default).1 < s.1
  | [], s, k, h => by simp [insAt] at h
  | x :: o, s, k, h => by
    unfold insAt at h
    rw [List.takeWhile_cons] at h
    split at h
    · rename_i hx
      cases k with
      | zero => simpa using hx
      | succ k => simp only [List.length_cons] at h; exact insAt_lt (o := o) (k := k) (by unfold insAt; omega)
    · simp at h
theorem insAt_ge : ∀ {o : List Sp} {s : Sp}, insAt o s < o.length → ¬ (o.getD (insAt o s) default).1 < s.1
  | [], s, h => by simp at h
  | x :: o, s, h => by
    have e : insAt (x :: o) s = if x.1 < s.1 then insAt o s + 1 else 0 := by
      unfold insAt; rw [List.takeWhile_cons]; by_cases hx : x.1 < s.1 <;> simp [hx]
    rw [e] at h ⊢
    split
    · rename_i hx
      rw [if_pos hx] at h
      exact insAt_ge (o := o) (by simpa using h)
    · rename_i hx; simpa using hx
theorem loop_at {o : List Sp} (hl : o.length ≤ 200000) (s : Sp) : ∀ (k i : Nat), i + k = insAt o s →
    L_span_Add_2 P1 (.int .i64 i) (.int .i64 s.1) (.int .i64 s.2) (o.map Sp.v) Q = X_span_Add_2_x2 (.int .i64 (insAt o s)) (.int .i64 s.1) (.int .i64 s.2) (o.map Sp.v) Q := by
  intro k
  have hle := insAt_le o s
  induction k with
  | zero =>
    intro i hi
    obtain rfl : i = insAt o s := by omega
    rw [L_span_Add_2_eq, p_span_Add_2]
    by_cases c : insAt o s < o.length
    · have c' : ((insAt o s : Int) < o.length) = True := eq_true (by omega)
      have g := insAt_ge c
      have e : (o.map Sp.v)[insAt o s]? = some (Sp.v (o.getD (insAt o s) default)) := by rw [List.getElem?_map, getD_at c]; rfl
      generalize o.getD (insAt o s) default = x at *
      obtain ⟨a, b⟩ := x
      rw [Sp_v] at e
      simp [c', elC, e, g]
    · have c' : ((insAt o s : Int) < o.length) = False := eq_false (by omega)
      simp [c']
  | succ k ih =>
    intro i hi
    have c : ((i : Int) < o.length) = True := eq_true (by omega)
    have g := insAt_lt (o := o) (s := s) (k := i) (by omega)
    have e : (o.map Sp.v)[i]? = some (Sp.v (o.getD i default)) := by rw [List.getElem?_map, getD_at (by omega)]; rfl
    have w := w64 (i := (i : Int) + 1) (by omega) (by omega)
    have ih := ih (i + 1) (by omega)
    rw [L_span_Add_2_eq, p_span_Add_2]
    generalize o.getD i default = x at *
    obtain ⟨a, b⟩ := x
    rw [Sp_v] at e
    simp only at g
    simp [c, elC, e, g, w]
    simpa [L_span_Add_2_fold] using ih
theorem c_Add {l : List Sp} {v : AV} (h : Sl 2 (l.map Sp.v) v) (hl : l.length ≤ 100000) (ho : ∀ s ∈ l, Ok s) (s : Sp) : callP (penv P1) 73 [v, .agg [.int .i64 s.1, .int .i64 s.2]] Q = some (.ow 2 ((add l s).map Sp.v), Q) := by
  rw [f_span_Add rfl]
  have o := c_one (Q := Q) s
  unfold add
  by_cases c : may s = true
  · have hs := (Go.Span.may_iff s).1 c
    have l1 := loop_add (Q := Q) h hl ho l.length 0 s [] (by omega) (by unfold Ok; omega) (by simp)
    have ln := addL_len l s []
    rw [List.drop_zero] at l1
    generalize addL l s [] = r at *
    obtain ⟨d, t⟩ := r
    simp only [List.length_nil, Nat.zero_add] at ln
    have l2 := loop_at (Q := Q) (o := d) (by omega) t (insAt d t) 0 (by omega)
    have hle := insAt_le d t
    have ri : room 16 (d.length + 1) = true := room_le (by omega) (by omega)
    have hi : gInsP 2 16 [.ow 2 (d.map Sp.v), .int .i64 (insAt d t), .lt 2 [.agg [.int .i64 t.1, .int .i64 t.2]]] = some (.ow 2 ((insN d (insAt d t) t).map Sp.v)) := by
      simp only [gInsP]
      rw [if_pos ⟨trivial, trivial, by simp, by omega, by simpa using hle, by simpa using ri⟩]
      simp [insN, List.map_take, List.map_drop, Sp.v]
    have hc : callP (penv P1) (93 + 1000000) [.ow 2 (d.map Sp.v), .int .i64 (insAt d t), .lt 2 [.agg [.int .i64 t.1, .int .i64 t.2]]] Q = some (.ow 2 ((insN d (insAt d t) t).map Sp.v), Q) := by
      rw [callP_spec (g := gInsP 2 16) rfl, hi]; rfl
    simp only [Nat.reduceAdd] at hc
    simp only [show ((0 : Nat) : Int) = 0 from rfl, List.map_nil] at l1 l2
    simp [o, c, h.len, l1, l2, hc, L_span_Add_1_fold, L_span_Add_2_fold, p_span_Add_4, p_span_Add_3]
  · have c : may s = false := by simpa using c
    simp [o, c, c_cloneS h (by omega)]
theorem d_MaySp (s : Sp) : callP (penv P1) 70 [.agg [.int .i64 s.1, .int .i64 s.2]] Q = some (.bool (may s), Q) := by
  rw [f_pleachref1_MaySpan rfl]
  unfold may
  by_cases h1 : 1 ≤ s.1 <;> by_cases h2 : s.1 ≤ s.2 <;> by_cases h3 : s.2 ≤ 1000000 <;> simp [h1, h2, h3]
theorem radL_len : ∀ (l : List Sp) (s : Sp) (f b : List Sp), (radL l s f b).1.length + (radL l s f b).2.2.length ≤ f.length + b.length + l.length
  | [], s, f, b => by simp [radL]
  | x :: l, s, f, b => by
    unfold radL
    split
    · have := radL_len l s (f ++ [x]) b; simp at this ⊢; omega
    · split
      · have := radL_len l s f (b ++ [x]); simp at this ⊢; omega
      · have := radL_len l (min s.1 x.1, max s.2 x.2) f b; simp; omega
theorem loop_radd {l : List Sp} {v : AV} (h : Sl 2 (l.map Sp.v) v) (hl : l.length ≤ 100000) (ho : ∀ s ∈ l, Ok s) : ∀ (k i : Nat) (s : Sp) (f b : List Sp), i + k = l.length → Ok s → f.length + b.length ≤ i →
    L_pleachref1_AddSpan_1 P1 v (.int .i64 i) (.int .i64 s.1) (.int .i64 s.2) (f.map Sp.v) (b.map Sp.v) Q = X_pleachref1_AddSpan_1_x0 (.int .i64 (radL (l.drop i) s f b).2.1.1) (.int .i64 (radL (l.drop i) s f b).2.1.2) ((radL (l.drop i) s f b).1.map Sp.v) ((radL (l.drop i) s f b).2.2.map Sp.v) Q := by
  intro k
  induction k with
  | zero =>
    intro i s f b hi hs hoi
    have c : ¬ ((i : Int) < l.length) := by omega
    rw [List.drop_of_length_le (by omega), L_pleachref1_AddSpan_1_eq, p_pleachref1_AddSpan_1]
    simp [h.len, c, radL]
  | succ k ih =>
    intro i s f b hi hs hoi
    have c : ((i : Int) < l.length) = True := eq_true (by omega)
    have e := h.get (k := .i64) (getD_at (l := l) (k := i) (by omega))
    have hx := ok_at ho (i := i) (by omega)
    rw [drop_at (by omega), L_pleachref1_AddSpan_1_eq, p_pleachref1_AddSpan_1]
    generalize l.getD i default = x at *
    obtain ⟨a, b'⟩ := x
    obtain ⟨p, q⟩ := s
    simp only [Ok] at hx hs
    have w := w64 (i := (i : Int) + 1) (by omega) (by omega)
    have w1 := w64 (i := b' + 1) (by omega) (by omega)
    have w2 := w64 (i := q + 1) (by omega) (by omega)
    have r : room 16 (f.length + 1) = true := room_le (by omega) (by omega)
    have r2 : room 16 (b.length + 1) = true := room_le (by omega) (by omega)
    rw [Sp_v] at e
    unfold radL
    by_cases c1 : b' + 1 < p
    · have ih := ih (i + 1) (p, q) (f ++ [(a, b')]) b (by omega) hs (by simp; omega)
      rw [if_pos c1]
      simp only [List.map_append, List.map_cons, List.map_nil, Sp_v] at ih
      simp [h.len, c, e, w, w1, w2, c1, r, p_pleachref1_AddSpan_0]
      simpa [L_pleachref1_AddSpan_1_fold] using ih
    · rw [if_neg c1]
      by_cases c2 : q + 1 < a
      · have ih := ih (i + 1) (p, q) f (b ++ [(a, b')]) (by omega) hs (by simp; omega)
        rw [if_pos c2]
        simp only [List.map_append, List.map_cons, List.map_nil, Sp_v] at ih
        simp [h.len, c, e, w, w1, w2, c1, c2, r2, p_pleachref1_AddSpan_0]
        simpa [L_pleachref1_AddSpan_1_fold] using ih
      · have ih := ih (i + 1) (min p a, max q b') f b (by omega) (by simp only [Ok]; omega) (by omega)
        rw [if_neg c2]
        simp [h.len, c, e, w, w1, w2, c1, c2, p_pleachref1_AddSpan_0]
        simpa [L_pleachref1_AddSpan_1_fold] using ih
theorem d_Add {l : List Sp} {v : AV} (h : Sl 2 (l.map Sp.v) v) (hl : l.length ≤ 100000) (ho : ∀ s ∈ l, Ok s) (s : Sp) : callP (penv P1) 46 [v, .agg [.int .i64 s.1, .int .i64 s.2]] Q = some (.ow 2 ((radd l s).map Sp.v), Q) := by
  rw [f_pleachref1_AddSpan rfl]
  have o := d_MaySp (Q := Q) s
  unfold radd
  by_cases c : may s = true
  · have hs := (Go.Span.may_iff s).1 c
    have l1 := loop_radd (Q := Q) h hl ho l.length 0 s [] [] (by omega) (by unfold Ok; omega) (by simp)
    have ln := radL_len l s [] []
    rw [List.drop_zero] at l1
    generalize radL l s [] [] = r at *
    obtain ⟨d, t, b⟩ := r
    simp only [List.length_nil, Nat.zero_add] at ln
    have r1 : room 16 (d.length + 1) = true := room_le (by omega) (by omega)
    have r2 : room 16 (d.length + 1 + b.length) = true := room_le (by omega) (by omega)
    simp only [show ((0 : Nat) : Int) = 0 from rfl, List.map_nil] at l1
    simp [o, c, h.len, l1, r1, r2, L_pleachref1_AddSpan_1_fold, p_pleachref1_AddSpan_2, Sp.v]
  · have c : may s = false := by simpa using c
    have r : room 16 l.length = true := room_le (by omega) (by omega)
    simp [o, c, h.srcS, r]
theorem loop_dSameS {l m : List Sp} {v v' : AV} (h : Sl 2 (l.map Sp.v) v) (h' : Sl 2 (m.map Sp.v) v') (hl : l.length ≤ 900000) (hm : l.length = m.length) : ∀ (k i : Nat), i + k = l.length →
    (l.drop i = m.drop i → L_pleachref1_SameSpans_0 P1 v v' (.int .i64 i) Q = X_pleachref1_SameSpans_0_x0 Q) ∧ (¬ l.drop i = m.drop i → L_pleachref1_SameSpans_0 P1 v v' (.int .i64 i) Q = X_pleachref1_SameSpans_0_ret (.bool false) Q) := by
  intro k
  induction k with
  | zero =>
    intro i hi
    have c : ¬ ((i : Int) < l.length) := by omega
    refine ⟨fun _ => ?_, fun hn => absurd (by rw [List.drop_of_length_le (by omega), List.drop_of_length_le (by omega)]) hn⟩
    rw [L_pleachref1_SameSpans_0_eq, p_pleachref1_SameSpans_0]
    simp [h.len, c]
  | succ k ih =>
    intro i hi
    have c : ((i : Int) < l.length) = True := eq_true (by omega)
    have e := h.get (k := .i64) (getD_at (l := l) (k := i) (by omega))
    have e' := h'.get (k := .i64) (getD_at (l := m) (k := i) (by omega))
    have w := w64 (i := (i : Int) + 1) (by omega) (by omega)
    have ih := ih (i + 1) (by omega)
    rw [drop_at (l := l) (by omega), drop_at (l := m) (by omega), L_pleachref1_SameSpans_0_eq, p_pleachref1_SameSpans_0]
    generalize l.getD i default = x at *
    generalize m.getD i default = y at *
    obtain ⟨xs, xt⟩ := x
    obtain ⟨ys, yt⟩ := y
    rw [Sp_v] at e e'
    by_cases c1 : xs = ys
    · by_cases c2 : xt = yt
      · subst c1; subst c2
        refine ⟨fun hh => ?_, fun hh => ?_⟩
        · have := ih.1 (List.cons.inj hh).2
          simp [h.len, c, e, e', w, L_pleachref1_SameSpans_0_fold]
          simpa using this
        · have := ih.2 (fun h => hh (by rw [h]))
          simp [h.len, c, e, e', w, L_pleachref1_SameSpans_0_fold]
          simpa using this
      · refine ⟨fun hh => absurd (congrArg Prod.snd (List.cons.inj hh).1) c2, fun hh => ?_⟩
        simp [h.len, c, e, e', c1, c2]
    · refine ⟨fun hh => absurd (congrArg Prod.fst (List.cons.inj hh).1) c1, fun hh => ?_⟩
      simp [h.len, c, e, e', c1]
theorem d_SameS {l m : List Sp} {v v' : AV} (h : Sl 2 (l.map Sp.v) v) (h' : Sl 2 (m.map Sp.v) v') (hl : l.length ≤ 900000) : callP (penv P1) 22 [v, v'] Q = some (.bool (decide (l = m)), Q) := by
  rw [f_pleachref1_SameSpans rfl]
  by_cases hm : l.length = m.length
  · have lp := loop_dSameS (Q := Q) h h' hl hm l.length 0 (by omega)
    rw [show ((0 : Nat) : Int) = 0 from rfl, List.drop_zero, List.drop_zero] at lp
    have hm' : ((l.length : Int) = m.length) = True := eq_true (by omega)
    by_cases c : l = m
    · simp [h.len, h'.len, hm', L_pleachref1_SameSpans_0_fold, lp.1 c, c, p_pleachref1_SameSpans_1]
    · simp [h.len, h'.len, hm', L_pleachref1_SameSpans_0_fold, lp.2 c, c]
  · have hm' : ((l.length : Int) = m.length) = False := eq_false (by omega)
    have c : ¬ l = m := fun e => hm (by rw [e])
    simp [h.len, h'.len, hm', c]
end
end Go.Proofs.Ytccgolmdhikdoaa.Pn
