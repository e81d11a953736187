/- What the document's functions for net, ring, win, log, nak, feed come to: the same. -/
import Derived.Test.YtmogepinpdibdaaPcFeed2
set_option linter.unusedVariables false
set_option linter.unusedSimpArgs false
namespace Go.Proofs.Ytmogepinpdibdaa.Pf
open Go.Ab Go.Feed
set_option maxRecDepth 100000
section
variable {Q : AHeap}
theorem Sl.src {z l v} (h : Sl z l v) (ω : PW) : srcT ω z (.v v) = some l := by rcases h with rfl | ⟨rfl, rfl⟩ <;> simp
theorem Sl.rcv {z l v} (h : Sl z l v) : rcv false (.f z) v = some (.fz z l) := by rcases h with rfl | ⟨rfl, rfl⟩ <;> simp
theorem d_First {l : List It} {v : AV} (h : Sl 2 (l.map It.v) v) : callP (penv P1) 62 [v] Q = some (.int .i64 (first l), Q) := by
  rw [f_pleachref13_First rfl, h.len]
  cases l with
  | nil => simp [first]
  | cons x l =>
    have e := h.get (k := .i64) (i := 0) (x := x) rfl
    have n : ((l.length : Int) + 1 = 0) = False := eq_false (by omega)
    simp only [show ((0 : Nat) : Int) = 0 from rfl] at e
    simp [n, e, first]
theorem d_Take {l : List It} {v : AV} (h : Sl 2 (l.map It.v) v) (hl : l.length ≤ 1000000) (n : Int) : callP (penv P1) 64 [v, .int .i64 n] Q = some (match l with
    | [] => .tup [its [], .agg [.int .i64 0, .str []], .bool false]
    | x :: rest => if x.seq = n then .tup [its rest, It.v x, .bool true] else .tup [its (x :: rest), .agg [.int .i64 0, .str []], .bool false], Q) := by
  rw [f_pleachref13_TakeWin rfl]
  have hr := h.rcv
  cases l with
  | nil =>
    simp only [List.map_nil] at hr
    simp [h.len, hr]
  | cons x l =>
    have e := h.get (k := .i64) (i := 0) (x := x) rfl
    simp only [show ((0 : Nat) : Int) = 0 from rfl] at e
    have n0 : ((l.length : Int) + 1 = 0) = False := eq_false (by omega)
    have hv : v = .fz 2 ((x :: l).map It.v) := by rcases h with h | ⟨_, h⟩ <;> first | exact h | simp at h
    have rm : room 24 l.length = true := room_le (by omega) (by simp at hl; omega)
    have hs : slcQ 2 v (some (.int .i64 1)) none = some (.fz 2 (l.map It.v)) := by
      have h1 : (1 : Int) ≤ (l.length : Int) + 1 := by omega
      rw [hv, slcQ_fz (by omega)]; simp [h1, List.take_of_length_le]
    by_cases hx : x.seq = n
    · subst hx
      simp [h.len, n0, e, hs, rm]
    · simp only [List.map_cons, It_v] at hr
      simp [h.len, n0, e, hx, hr]
theorem d_Tell {l : List Ev} {v : AV} (h : Sl 5 (l.map Ev.v) v) (hl : l.length ≤ 900000) (i : It) : callP (penv P1) 47 [v, .int .i64 i.seq, .str i.text] Q = some (.ow 5 ((l ++ [told i]).map Ev.v), Q) := by
  rw [f_pleachref13_Tell rfl]
  have r : room 48 (l.length + 1) = true := room_le (by omega) (by omega)
  have r2 : room 48 l.length = true := room_le (by omega) (by omega)
  simp [h.src, r, r2, Ev.v, told]
theorem d_Skip {l : List Ev} {v : AV} (h : Sl 5 (l.map Ev.v) v) (hl : l.length ≤ 900000) (lo hi why : Int) : callP (penv P1) 63 [v, .int .i64 lo, .int .i64 hi, .int .i64 why] Q = some (.ow 5 ((l ++ [gapE lo hi why]).map Ev.v), Q) := by
  rw [f_pleachref13_Skip rfl]
  have r : room 48 (l.length + 1) = true := room_le (by omega) (by omega)
  have r2 : room 48 l.length = true := room_le (by omega) (by omega)
  simp [h.src, r, r2, Ev.v, gapE]
theorem d_ringAdd {l : List It} {v : AV} (h : Sl 2 (l.map It.v) v) (hl : l.length ≤ 6) (i : It) : callP (penv P1) 48 [v, It.v i] Q = some (.fz 2 ((ringAdd l i).map It.v), Q) := by
  rw [It_v, f_pleachref13_AddRing rfl]
  have r : room 24 (l.length + 1) = true := room_le (by omega) (by omega)
  have r2 : room 24 l.length = true := room_le (by omega) (by omega)
  have tl : (if 6 < (l.length : Int) + 1 then True else True) := by split <;> trivial
  unfold ringAdd
  cases hn : l.length with
  | zero =>
    have : l = [] := List.length_eq_zero_iff.1 hn
    subst this
    simp at r r2
    simp [h.src, h.len, r, r2, p_pleachref13_AddRing_0]
  | succ n =>
    have hx := getD_at (l := l) (k := n) (by omega)
    have e := h.get (k := .i64) hx
    have w1' : IntKind.i64.wrap (n : Int) = n := w64 (by omega) (by omega)
    rw [hn] at r r2
    have z : (0 : Int) < (n : Int) + 1 := by omega
    by_cases c : i.seq ≤ (l.getD n default).seq
    · simp [h.src, h.len, hn, z, w1', e, c, r2, -List.getD_eq_getElem?_getD, p_pleachref13_AddRing_0]
    · by_cases h6 : n = 5
      · subst h6
        have hs : slcQ 2 (.fz 2 (l.map It.v ++ [.agg [.int .i64 i.seq, .str i.text]])) (some (.int .i64 1)) none = some (.fz 2 (((l ++ [i]).drop 1).map It.v)) := by
          rw [slcQ_fz (by omega)]
          simp only [bndo_none, bndo_int, List.length_append, List.length_map, hn, List.length_singleton]
          rw [if_pos (by omega)]
          simp only [show (1 : Int).toNat = 1 from rfl]
          rw [List.take_of_length_le (by simp [hn]), List.map_drop, List.map_append]; rfl
        have hD : (l ++ [i]).drop (5 + 1 + 1 - 6) = (l ++ [i]).drop 1 := rfl
        rw [hD]
        generalize (l ++ [i]).drop 1 = D at *
        have e5 : elQ 2 v (.int .i64 5) = some (It.v (l.getD 5 default)) := e
        have w5 : IntKind.i64.wrap 5 = 5 := w64 (by omega) (by omega)
        simp [h.src, h.len, hn, w5, e5, c, r, r2, -List.getD_eq_getElem?_getD, p_pleachref13_AddRing_0, hs]
      · have h5 : ¬ 6 < (n : Int) + 1 + 1 := by omega
        have hd : n + 1 + 1 - 6 = 0 := by omega
        simp [h.src, h.len, hn, z, w1', e, c, r, r2, h5, hd, -List.getD_eq_getElem?_getD, p_pleachref13_AddRing_0]
theorem loop_dGoes {c0 c1 c2 c3 c4 c5 c6 : AV} : ∀ (w : List It) (f : Fed) (o : List It) (r wv l : AV) (t d : Int), Sl 2 (f.ring.map It.v) r → Sl 2 (w.map It.v) wv → Sl 5 (f.log.map Ev.v) l → f.ring.length ≤ 6 → w.length ≤ 800000 → f.log.length + w.length ≤ 800000 → o.length + w.length ≤ 800000 → -4000000000000 ≤ f.next → f.next + w.length ≤ 4000000000000 →
    ∃ r' w' l', Sls (goesL w f).1 r' w' l' ∧ ∀ Q, L_pleachref13_Goes_0 P1 (.int .i64 f.next) (.int .i64 f.top) r wv l (.int .i64 t) (.int .i64 d) c0 c1 c2 c3 c4 c5 c6 (o.map It.v) Q =
      X_pleachref13_Goes_0_ret (.int .i64 (goesL w f).1.next) (.int .i64 (goesL w f).1.top) r' w' l' (.int .i64 (if (goesL w f).2 = [] then t else 0)) (.int .i64 (if (goesL w f).2 = [] then d else 0)) ((o ++ (goesL w f).2).map It.v) Q := by
  intro w
  induction w with
  | nil =>
    intro f o r wv l t d hr hw hl h1 h2 h3 h4 h5 h6
    refine ⟨r, wv, l, ⟨hr, hw, hl⟩, fun Q => ?_⟩
    have tk := fun (Q : AHeap) => d_Take (Q := Q) hw (by simp) f.next
    rw [L_pleachref13_Goes_0_eq, p_pleachref13_Goes_0]
    simp [tk, goesL, hr.one, hw.one, hl.one]
  | cons x w ih =>
    intro f o r wv l t d hr hw hl h1 h2 h3 h4 h5 h6
    simp only [List.length_cons] at h2 h3 h4 h6
    have tk := fun (Q : AHeap) => d_Take (Q := Q) hw (by simp; omega) f.next
    by_cases hx : x.seq = f.next
    · have tl := fun (Q : AHeap) => d_Tell (Q := Q) hl (by omega) x
      have ra := fun (Q : AHeap) => d_ringAdd (Q := Q) hr h1 x
      rw [It_v] at ra
      have wn := w64 (i := f.next + 1) (by omega) (by omega)
      have rm : room 24 (o.length + 1) = true := room_le (by omega) (by omega)
      obtain ⟨r', w', l', hs, ih⟩ := ih (take1 f x w) (o ++ [x]) (its (ringAdd f.ring x)) (its w) (evs (f.log ++ [told x])) 0 0 (Sl.fz 2 _) (Sl.fz 2 _) (Sl.fz 5 _) (ringAdd_6 h1 x) (by omega) (by simp only [take1, List.length_append, List.length_singleton]; omega) (by simp only [List.length_append, List.length_singleton]; omega) (by simp only [take1]; omega) (by simp only [take1]; omega)
      simp only [goesL, if_pos hx]
      refine ⟨r', w', l', hs, fun Q => ?_⟩
      rw [L_pleachref13_Goes_0_eq, p_pleachref13_Goes_0]
      simp only [if_pos hx, It_v] at tk
      have ih := ih Q
      simp only [List.append_assoc, List.singleton_append] at ih
      generalize goesL w (take1 f x w) = G at *
      simp only [take1] at ih
      have i0 : ∀ (c : Prop) [Decidable c], (if c then (0 : Int) else 0) = 0 := fun c _ => by split <;> rfl
      simp only [i0] at ih
      simp [tk, tl, ra, wn, rm, L_pleachref13_Goes_0_fold]
      simpa [its, evs] using ih
    · refine ⟨r, wv, l, by simp only [goesL, if_neg hx]; exact ⟨hr, hw, hl⟩, fun Q => ?_⟩
      rw [L_pleachref13_Goes_0_eq, p_pleachref13_Goes_0]
      simp only [if_neg hx] at tk
      simp [tk, hx, goesL, hr.one, hw.one, hl.one]
theorem d_Goes {f : Fed} {k : Nat} (h : Bd f k) (hi : f.ring.length ≤ 6) {r w l : AV} (hs : Sls f r w l) : ∃ r' w' l', Sls f.tells.1 r' w' l' ∧ ∀ Q, callP (penv P1) 42 [Fed.v f r w l] Q = some (.tup [Fed.v f.tells.1 r' w' l', its f.tells.2], Q) := by
  have b := h.r
  have b2 := h.l
  have b3 := h.n0
  have b4 := h.n1
  have key : ∀ c0 c1 c2 c3 c4 c5 c6, _ := fun c0 c1 c2 c3 c4 c5 c6 => loop_dGoes (c0 := c0) (c1 := c1) (c2 := c2) (c3 := c3) (c4 := c4) (c5 := c5) (c6 := c6) f.win f [] r w l f.tries f.due hs.r hs.w hs.l hi (by omega) (by omega) (by simp; omega) (by omega) (by omega)
  obtain ⟨r', w', l', h1, lp⟩ := key (.int .i64 0) (.int .i64 0) .nils .nils .nils (.int .i64 0) (.int .i64 0)
  obtain ⟨t1, t2, t3, t4, t5, t6⟩ := tells_fst f
  refine ⟨r', w', l', ⟨by rw [t1]; exact h1.r, by rw [t2]; exact h1.w, by rw [t3]; exact h1.l⟩, fun Q => ?_⟩
  have lp := lp Q
  unfold Fed.v
  rw [f_pleachref13_Goes rfl]
  simp only [List.map_nil, List.nil_append] at lp
  have gd := goesL_tr f.win f
  unfold Fed.tells
  generalize goesL f.win f = G at *
  obtain ⟨g, o⟩ := G
  simp only at lp gd
  cases o with
  | nil => simp [hs.r.one, hs.w.one, hs.l.one, L_pleachref13_Goes_0_fold, lp, gd.1, gd.2]
  | cons x o => simp [hs.r.one, hs.w.one, hs.l.one, L_pleachref13_Goes_0_fold, lp, Fed.rest]
theorem loop_dSkips {hi why : Int} (hh : hi ≤ 1000000) {c0 c1 c2 c3 c4 c5 c6 : AV} : ∀ (n : Nat) (f : Fed) (out : List Sp) (g : Fed) (o : List Sp) (r w l : AV) (t d : Int), skipsN n f hi why out = some (g, o) → Bd f 2 → Inv f → Sls f r w l → out.length + f.win.length + 1 ≤ 800000 →
    ∃ r' w' l', Sls g r' w' l' ∧ ∀ Q, L_pleachref13_Skips_2 P1 (.int .i64 hi) (.int .i64 why) (.int .i64 f.next) (.int .i64 f.top) r w l (.int .i64 t) (.int .i64 d) c0 c1 c2 c3 c4 c5 c6 (out.map Sp.v) Q =
      X_pleachref13_Skips_2_x0 (.int .i64 g.next) (.int .i64 g.top) r' w' l' (.int .i64 (if f.next ≤ hi then 0 else t)) (.int .i64 (if f.next ≤ hi then 0 else d)) c0 c1 c2 c3 c4 c5 c6 (o.map Sp.v) Q := by
  intro n
  induction n with
  | zero => intro f out g o r w l t d h; cases h
  | succ n ih =>
    intro f out g o r w l t d h hb hv hs ho
    unfold skipsN at h
    by_cases c : f.next ≤ hi
    · rw [if_pos c] at h
      have hiv := hv.skip (why := why) c
      have hfa := fahead_inv hv hi
      have hle := fahead_le (f := f) (hi := hi)
      have cf := fun (Q : AHeap) => d_First (Q := Q) hs.w
      have hl := hs.w.len
      simp only [List.length_map] at hl
      have rm : room 16 (out.length + 1) = true := room_le (by omega) (by omega)
      simp only at h
      -- where it goes to
      have hto : ∃ last is, fahead f hi = (last, is) ∧ ((is = true ∧ ∃ x ws, f.win = x :: ws ∧ x.seq ≤ hi ∧ last = x.seq - 1) ∨ (is = false ∧ last = hi ∧ ∀ x ws, f.win = x :: ws → ¬ x.seq ≤ hi)) := by
        rw [hfa]
        cases hw : f.win with
        | nil => exact ⟨hi, false, rfl, Or.inr ⟨rfl, rfl, fun x ws e => by cases e⟩⟩
        | cons x ws =>
          simp only
          split
          · rename_i cx; exact ⟨_, _, rfl, Or.inl ⟨rfl, x, ws, rfl, cx, rfl⟩⟩
          · rename_i cx; exact ⟨_, _, rfl, Or.inr ⟨rfl, rfl, fun y ys e => by cases e; exact cx⟩⟩
      obtain ⟨last, is, e, hto⟩ := hto
      rw [e] at h hiv hle
      simp only at h hiv hle
      have i0 : ∀ (c : Prop) [Decidable c], (if c then (0 : Int) else 0) = 0 := fun c _ => by split <;> rfl
      rcases hto with ⟨rfl, x, ws, hw, cx, hlast⟩ | ⟨rfl, hlast, hwn⟩
      · have hx := hb.w x (by rw [hw]; exact List.mem_cons_self)
        have hxn := hv.ge x (by rw [hw]; exact List.mem_cons_self)
        have wx : IntKind.i64.wrap (x.seq - 1) = last := by rw [hlast]; exact w64 (by omega) (by omega)
        have z : (0 : Int) < (ws.length : Int) + 1 := by omega
        have hl : lenQ w = some (.int .i64 ((ws.length : Int) + 1)) := by rw [hl, hw]; simp
        have cf : ∀ Q, callP (penv P1) 62 [w] Q = some (.int .i64 x.seq, Q) := fun Q => by rw [cf Q, hw]; rfl
        by_cases c1 : f.next ≤ last
        · have sk := fun (Q : AHeap) => d_Skip (Q := Q) hs.l (by have := hb.l; omega) f.next last why
          have w1 : IntKind.i64.wrap (last + 1) = last + 1 := w64 (by have := hb.n0; omega) (by omega)
          have b1 : Bd (skip1 f last why) 1 := hb.skip c1 (by omega)
          rw [if_pos c1] at hiv
          simp only [if_pos c1, if_true] at h
          have hgo : last + 1 ≤ hi := by omega
          have hne : (skip1 f last why).tells.2 ≠ [] := tells_pos (x := x) (w := ws) hw (by show x.seq = last + 1; omega)
          obtain ⟨r1, w1', l1, hs1, cg⟩ := d_Goes b1.rest hiv.rg (r := r) (w := w) (l := evs (skip1 f last why).log) ⟨hs.r, hs.w, Sl.fz 5 _⟩
          rw [rest_tells hne] at hs1 cg
          have tb := b1.tells
          have ti := hiv.tells.1
          rw [show (skip1 f last why).win = f.win from rfl] at tb
          rw [if_neg hne] at h
          have hpos := List.length_pos_iff.2 hne
          have htz := tells_ne hne
          obtain ⟨r', w', l', hs', ih⟩ := ih (skip1 f last why).tells.1 (out ++ [(f.next, last)]) g o r1 w1' l1 0 0 h (tb.1.weaken (by omega)) ti hs1 (by simp only [List.length_append, List.length_singleton]; have := tb.2; omega)
          refine ⟨r', w', l', hs', fun Q => ?_⟩
          have ih := ih Q
          simp only [i0] at ih
          simp only [Fed.v, htz.1, htz.2] at cg
          generalize (skip1 f last why).tells = T at *
          obtain ⟨T, items⟩ := T
          simp only [skip1, Fed.rest] at cg ih
          generalize f.log ++ [gapE f.next last why] = L at *
          rw [L_pleachref13_Skips_2_eq, p_pleachref13_Skips_2]
          simp [c, hl, z, cf, cx, wx, p_pleachref13_Skips_1, c1, sk, rm, w1, p_pleachref13_Skips_0, hgo, cg, hs.r.one, hs.w.one, hs.l.one, hs1.r.one, hs1.w.one, hs1.l.one, L_pleachref13_Skips_2_fold]
          simpa [its, evs, Sp.v] using ih
        · have hgo : f.next = x.seq := by omega
          simp only [if_neg c1, if_true] at h
          have hne : f.tells.2 ≠ [] := tells_pos (x := x) (w := ws) hw hgo.symm
          obtain ⟨r1, w1', l1, hs1, cg⟩ := d_Goes hb.rest hv.rg (r := r) (w := w) (l := l) ⟨hs.r, hs.w, hs.l⟩
          rw [rest_tells hne] at hs1 cg
          have tb := hb.tells
          have ti := hv.tells.1
          rw [if_neg hne] at h
          have hpos := List.length_pos_iff.2 hne
          have htz := tells_ne hne
          obtain ⟨r', w', l', hs', ih⟩ := ih f.tells.1 out g o r1 w1' l1 0 0 h (tb.1.weaken (by omega)) ti hs1 (by have := tb.2; omega)
          refine ⟨r', w', l', hs', fun Q => ?_⟩
          have ih := ih Q
          simp only [i0] at ih
          simp only [Fed.v, htz.1, htz.2] at cg
          generalize f.tells = T at *
          obtain ⟨T, items⟩ := T
          simp only [Fed.rest] at cg ih
          rw [L_pleachref13_Skips_2_eq, p_pleachref13_Skips_2]
          simp [c, hl, z, cf, cx, wx, p_pleachref13_Skips_1, c1, rm, p_pleachref13_Skips_0, cg, hs.r.one, hs.w.one, hs.l.one, hs1.r.one, hs1.w.one, hs1.l.one, L_pleachref13_Skips_2_fold]
          simpa [its, evs, Sp.v] using ih
      · subst hlast
        simp only [if_pos c, Bool.false_eq_true, if_false, Option.some.injEq, Prod.mk.injEq] at h
        obtain ⟨rfl, rfl⟩ := h
        have sk := fun (Q : AHeap) => d_Skip (Q := Q) hs.l (by have := hb.l; omega) f.next last why
        have w1 : IntKind.i64.wrap (last + 1) = last + 1 := w64 (by have := hb.n0; omega) (by omega)
        have hgo : ¬ last + 1 ≤ last := by omega
        refine ⟨r, w, evs (skip1 f last why).log, ⟨hs.r, hs.w, Sl.fz 5 _⟩, fun Q => ?_⟩
        have e2 : ∀ Q, L_pleachref13_Skips_2 P1 (.int .i64 last) (.int .i64 why) (.int .i64 (last + 1)) (.int .i64 f.top) r w (evs (skip1 f last why).log) (.int .i64 0) (.int .i64 0) c0 c1 c2 c3 c4 c5 c6 ((out ++ [(f.next, last)]).map Sp.v) Q =
          X_pleachref13_Skips_2_x0 (.int .i64 (last + 1)) (.int .i64 f.top) r w (evs (skip1 f last why).log) (.int .i64 0) (.int .i64 0) c0 c1 c2 c3 c4 c5 c6 ((out ++ [(f.next, last)]).map Sp.v) Q := fun Q => by
          rw [L_pleachref13_Skips_2_eq, p_pleachref13_Skips_2]
          simp [hgo]
        have e2 := e2 Q
        simp only [skip1] at e2 ⊢
        generalize f.log ++ [gapE f.next last why] = L at *
        rw [L_pleachref13_Skips_2_eq, p_pleachref13_Skips_2]
        cases hw : f.win with
        | nil =>
          rw [hw] at hl cf
          simp [c, hl, p_pleachref13_Skips_1, sk, rm, w1, p_pleachref13_Skips_0, hgo, hs.r.one, hs.w.one, hs.l.one, L_pleachref13_Skips_2_fold]
          simpa [its, evs, Sp.v] using e2
        | cons x ws =>
          have hx := hwn x ws hw
          have z : (0 : Int) < (ws.length : Int) + 1 := by omega
          rw [hw] at hl cf
          simp [c, hl, cf, z, first, hx, p_pleachref13_Skips_1, sk, rm, w1, p_pleachref13_Skips_0, hgo, hs.r.one, hs.w.one, hs.l.one, L_pleachref13_Skips_2_fold]
          simpa [its, evs, Sp.v] using e2
    · rw [if_neg c] at h
      simp only [Option.some.injEq, Prod.mk.injEq] at h
      obtain ⟨rfl, rfl⟩ := h
      refine ⟨r, w, l, hs, fun Q => ?_⟩
      rw [L_pleachref13_Skips_2_eq, p_pleachref13_Skips_2]
      simp [c]
theorem d_Skips {f : Fed} (hb : Bd f 2) (hv : Inv f) {r w l : AV} (hs : Sls f r w l) (hi why : Int) : ∃ r' w' l', Sls (skips f hi why).1 r' w' l' ∧ ∀ Q, callP (penv P1) 41 [Fed.v f r w l, .int .i64 hi, .int .i64 why] Q = some (.tup [Fed.v (skips f hi why).1 r' w' l', .fz 2 ((skips f hi why).2.map Sp.v)], Q) := by
  unfold skips
  by_cases c1 : f.next < 1
  · refine ⟨r, w, l, by simp only [c1, true_or, if_true]; exact hs, fun Q => ?_⟩
    unfold Fed.v
    rw [f_pleachref13_Skips rfl]
    simp [hs.r.one, hs.w.one, hs.l.one, c1]
  by_cases c2 : 1000000 < hi
  · refine ⟨r, w, l, by simp only [c2, or_true, if_true]; exact hs, fun Q => ?_⟩
    unfold Fed.v
    rw [f_pleachref13_Skips rfl]
    simp [hs.r.one, hs.w.one, hs.l.one, c1, c2]
  obtain ⟨⟨g, o⟩, e⟩ := skipsN_some (hi := hi) (why := why) (f.win.length + 1) f [] (by omega)
  obtain ⟨r', w', l', hs', lp⟩ := loop_dSkips (hi := hi) (why := why) (by omega) (c0 := .int .i64 0) (c1 := .int .i64 0) (c2 := .nils) (c3 := .nils) (c4 := .nils) (c5 := .int .i64 0) (c6 := .int .i64 0) (f.win.length + 1) f [] g o r w l f.tries f.due e hb hv hs (by have := hb.r; simp; omega)
  have hiff := skipsN_next (by omega) e hv
  have htr := skipsN_tries e
  have hcond : ¬ (f.next < 1 ∨ 1000000 < hi) := by omega
  simp only [e, if_neg hcond]
  refine ⟨r', w', l', ?_, fun Q => ?_⟩
  · split
    · exact ⟨hs'.r, hs'.w, hs'.l⟩
    · exact hs'
  have lp := lp Q
  simp only [List.map_nil] at lp
  unfold Fed.v
  rw [f_pleachref13_Skips rfl]
  by_cases c3 : f.next ≤ hi
  · have c4 : g.next ≠ f.next := hiff.2 c3
    simp only [if_pos c3] at lp
    simp [hs.r.one, hs.w.one, hs.l.one, hs'.r.one, hs'.w.one, hs'.l.one, c1, c2, L_pleachref13_Skips_2_fold, lp, p_pleachref13_Skips_3, c4, Fed.rest]
  · have c4 : g.next = f.next := by
      refine Decidable.byContradiction fun h => c3 (hiff.1 h)
    simp only [if_neg c3] at lp
    have ht := htr c3
    simp [hs.r.one, hs.w.one, hs.l.one, hs'.r.one, hs'.w.one, hs'.l.one, c1, c2, L_pleachref13_Skips_2_fold, lp, p_pleachref13_Skips_3, c4, ht]
end
end Go.Proofs.Ytmogepinpdibdaa.Pf
