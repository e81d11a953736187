/- What the document's functions for feed come to: the same. -/
import Derived.Test.YtmogepinpdibdaaPcFeed3
set_option linter.unusedVariables false
set_option linter.unusedSimpArgs false
namespace Go.Proofs.Ytmogepinpdibdaa.Pf
open Go.Ab Go.Feed
set_option maxRecDepth 100000
section
variable {Q : AHeap}
theorem d_Wants {f : Fed} {r w l : AV} (hs : Sls f r w l) (hb : ∀ x ∈ f.win, -4000000000 ≤ x.seq ∧ x.seq ≤ 4000000000) : callP (penv P1) 53 [Fed.v f r w l] Q = some (.tup [Sp.v (wants f).1, .bool (wants f).2], Q) := by
  unfold Fed.v
  rw [f_pleachref13_Wants rfl]
  unfold wants
  have cf := fun (Q : AHeap) => d_First (Q := Q) hs.w
  have hl := hs.w.len
  simp only [List.length_map] at hl
  cases hw : f.win with
  | nil =>
    rw [hw] at hl
    by_cases c1 : f.next = 0
    · simp [hs.r.one, hs.w.one, hs.l.one, hl, p_pleachref13_Wants_0, c1, Sp.v]
    · by_cases c2 : f.top < f.next <;> simp [hs.r.one, hs.w.one, hs.l.one, hl, p_pleachref13_Wants_0, c1, c2, Sp.v]
  | cons x win =>
    rw [hw] at hl cf
    have hx := hb x (by rw [hw]; exact List.mem_cons_self)
    have w1 := w64 (i := x.seq - 1) (by omega) (by omega)
    have z : (0 : Int) < (win.length : Int) + 1 := by omega
    by_cases c1 : f.next = 0
    · simp [hs.r.one, hs.w.one, hs.l.one, hl, cf, p_pleachref13_Wants_0, c1, Sp.v, first, w1, z]
    · by_cases c2 : x.seq - 1 < f.next <;> simp [hs.r.one, hs.w.one, hs.l.one, hl, cf, p_pleachref13_Wants_0, c1, c2, Sp.v, first, w1, z]
theorem d_Now (f : Fed) (now : Int) : callP (penv P1) 54 [.agg [.int .i64 f.tries, .int .i64 f.due], .int .i64 now] Q = some (.bool (isNow f now), Q) := by
  rw [f_pleachref1_Now rfl]
  unfold isNow
  by_cases c : f.tries = 0
  · simp [c]
  · by_cases c2 : f.due ≤ now <;> simp [c, c2]
theorem loop_dTried {now d c0 c1 : Int} {t : Nat} (ht : t < 3) : ∀ (m i : Nat), i + m = t →
    L_pleachref1_Tried_0 P1 (.int .i64 now) (.int .i64 (2 * 2 ^ i)) (.int .i64 i) (.int .i64 t) (.int .i64 d) (.int .i64 c0) (.int .i64 c1) Q = X_pleachref1_Tried_0_x0 (.int .i64 now) (.int .i64 (2 * 2 ^ t)) (.int .i64 t) (.int .i64 d) (.int .i64 c0) (.int .i64 c1) Q := by
  intro m
  induction m with
  | zero =>
    intro i hi
    obtain rfl : i = t := by omega
    rw [L_pleachref1_Tried_0_eq, p_pleachref1_Tried_0]
    simp
  | succ m ih =>
    intro i hi
    have c : ((i : Int) < t) = True := eq_true (by omega)
    have c3 : ((i : Int) < 3) = True := eq_true (by omega)
    have w := w64 (i := (i : Int) + 1) (by omega) (by omega)
    have hp : (2 : Int) * 2 ^ i * 2 = 2 * 2 ^ (i + 1) := by rw [Int.pow_succ]; omega
    have hb : (2 : Int) * 2 ^ (i + 1) ≤ 8 := by
      have : i = 0 ∨ i = 1 := by omega
      rcases this with rfl | rfl <;> decide
    have hb0 : (0 : Int) ≤ 2 * 2 ^ (i + 1) := by
      have : i = 0 ∨ i = 1 := by omega
      rcases this with rfl | rfl <;> decide
    have w2 : IntKind.i64.wrap (2 * 2 ^ i * 2) = 2 * 2 ^ (i + 1) := by rw [hp]; exact w64 (by omega) (by omega)
    have ih := ih (i + 1) (by omega)
    rw [L_pleachref1_Tried_0_eq, p_pleachref1_Tried_0]
    simp [c, c3, w, w2, L_pleachref1_Tried_0_fold]
    simpa using ih
theorem d_Tried {f : Fed} {now : Int} (h : 0 ≤ f.tries ∧ f.tries < 3) (hn : -4000000000 ≤ now ∧ now ≤ 4000000000) : callP (penv P1) 55 [.agg [.int .i64 f.tries, .int .i64 f.due], .int .i64 now] Q = some (.agg [.int .i64 (f.tried now).tries, .int .i64 (f.tried now).due], Q) := by
  rw [f_pleachref1_Tried rfl]
  unfold Fed.tried
  obtain ⟨t, ht⟩ : ∃ t : Nat, f.tries = t := ⟨f.tries.toNat, by omega⟩
  rw [ht] at h ⊢
  have lp := loop_dTried (Q := Q) (now := now) (d := f.due) (c0 := 0) (c1 := 0) (t := t) (by omega) t 0 (by omega)
  have e : (max (min (t : Int) 3) 0).toNat = t := by omega
  have hb : (0 : Int) ≤ 2 * 2 ^ t ∧ (2 : Int) * 2 ^ t ≤ 8 := by
    have : t = 0 ∨ t = 1 ∨ t = 2 := by omega
    rcases this with rfl | rfl | rfl <;> decide
  have w1 := w64 (i := (t : Int) + 1) (by omega) (by omega)
  have w2 := w64 (i := now + 2 * 2 ^ t) (by omega) (by omega)
  rw [show (2 : Int) * 2 ^ 0 = 2 from rfl, show ((0 : Nat) : Int) = 0 from rfl] at lp
  simp [L_pleachref1_Tried_0_fold, lp, p_pleachref1_Tried_1, w1, w2, e]
theorem d_Knows {f : Fed} {r w l : AV} (hs : Sls f r w l) (t : Int) : callP (penv P1) 23 [Fed.v f r w l, .int .i64 t] Q = some (Fed.v (f.knows t) r w l, Q) := by
  unfold Fed.v
  rw [f_pleachref13_Knows rfl]
  unfold Fed.knows
  by_cases c1 : 0 < f.next
  · by_cases c2 : t ≤ 1000000 <;> simp [hs.r.one, hs.w.one, hs.l.one, c1, c2, p_pleachref13_Knows_0]
  · simp [hs.r.one, hs.w.one, hs.l.one, c1, p_pleachref13_Knows_0]
theorem sls_knows {f : Fed} {r w l : AV} (hs : Sls f r w l) (t : Int) : Sls (f.knows t) r w l := by
  obtain ⟨_, k2, k3, k4⟩ := knows_eq f t
  exact ⟨by rw [k3]; exact hs.r, by rw [k2]; exact hs.w, by rw [k4]; exact hs.l⟩
theorem d_Begin {f : Fed} {r w l : AV} (hs : Sls f r w l) (n : Int) : callP (penv P1) 19 [Fed.v f r w l, .int .i64 n] Q = some (Fed.v (f.begin_ n) r w l, Q) := by
  have ck := fun (Q : AHeap) => d_Knows (Q := Q) hs (IntKind.i64.wrap (n - 1))
  unfold Fed.v at ck ⊢
  rw [f_pleachref13_Begin rfl]
  unfold Fed.begin_
  generalize f.knows (IntKind.i64.wrap (n - 1)) = K at *
  by_cases c1 : 0 < f.next
  · simp [hs.r.one, hs.w.one, hs.l.one, ck, c1]
  · by_cases c2 : 1 ≤ n
    · by_cases c3 : n ≤ 1000000 <;> simp [hs.r.one, hs.w.one, hs.l.one, c1, c2, c3, p_pleachref13_Begin_0]
    · simp [hs.r.one, hs.w.one, hs.l.one, c1, c2, p_pleachref13_Begin_0]
theorem loop_dGet {l : List It} {v : AV} (h : Sl 2 (l.map It.v) v) (hl : l.length ≤ 900000) (s : Int) : ∀ (m i : Nat), i + m = l.length →
    (∃ x, (l.drop i).find? (fun x => decide (x.seq = s)) = some x ∧ L_pleachref13_Get_0 P1 v (.int .i64 s) (.int .i64 i) Q = X_pleachref13_Get_0_ret (.str x.text) (.bool true) Q) ∨
    ((l.drop i).find? (fun x => decide (x.seq = s)) = none ∧ L_pleachref13_Get_0 P1 v (.int .i64 s) (.int .i64 i) Q = X_pleachref13_Get_0_x0 Q) := by
  intro m
  induction m with
  | zero =>
    intro i hi
    right
    rw [List.drop_of_length_le (by omega)]
    refine ⟨rfl, ?_⟩
    have c : ¬ ((i : Int) < l.length) := by omega
    rw [L_pleachref13_Get_0_eq, p_pleachref13_Get_0]
    simp [h.len, c]
  | succ m ih =>
    intro i hi
    have c : ((i : Int) < l.length) = True := eq_true (by omega)
    have hx := getD_at (l := l) (k := i) (by omega)
    have e := h.get (k := .i64) hx
    have w := w64 (i := (i : Int) + 1) (by omega) (by omega)
    have hd : l.drop i = l.getD i default :: l.drop (i + 1) := by
      rw [List.drop_eq_getElem_cons (by omega), List.getD_eq_getElem?_getD, List.getElem?_eq_getElem (by omega)]; rfl
    rw [hd, L_pleachref13_Get_0_eq, p_pleachref13_Get_0]
    by_cases hc : (l.getD i default).seq = s
    · left
      refine ⟨l.getD i default, by rw [List.find?_cons]; simp only [hc, decide_true], ?_⟩
      subst hc
      simp [h.len, c, e, -List.getD_eq_getElem?_getD]
    · have ih := ih (i + 1) (by omega)
      rw [List.find?_cons]
      simp only [hc, decide_false]
      rcases ih with ⟨x, e1, e2⟩ | ⟨e1, e2⟩
      · left
        refine ⟨x, e1, ?_⟩
        simp [h.len, c, e, hc, w, -List.getD_eq_getElem?_getD, L_pleachref13_Get_0_fold]
        simpa using e2
      · right
        refine ⟨e1, ?_⟩
        simp [h.len, c, e, hc, w, -List.getD_eq_getElem?_getD, L_pleachref13_Get_0_fold]
        simpa using e2
theorem d_Get {l : List It} {v : AV} (h : Sl 2 (l.map It.v) v) (hl : l.length ≤ 900000) (s : Int) : callP (penv P1) 33 [v, .int .i64 s] Q = some (.tup [.str (getR l s), .bool (there l s)], Q) := by
  rw [f_pleachref13_Get rfl]
  have lp := loop_dGet (Q := Q) h hl s l.length 0 (by omega)
  rw [show ((0 : Nat) : Int) = 0 from rfl, List.drop_zero] at lp
  unfold getR there
  rcases lp with ⟨x, e1, e2⟩ | ⟨e1, e2⟩
  · have ha : (l.any fun x => decide (x.seq = s)) = true := by
      rw [List.any_eq_true]
      have hx := List.find?_some e1
      exact ⟨x, List.mem_of_find?_eq_some e1, hx⟩
    rw [e1, ha]
    simp [L_pleachref13_Get_0_fold, e2]
  · have ha : (l.any fun x => decide (x.seq = s)) = false := by
      rw [List.any_eq_false]
      intro x hx
      exact List.find?_eq_none.1 e1 x hx
    rw [e1, ha]
    simp [L_pleachref13_Get_0_fold, e2, p_pleachref13_Get_1]
theorem d_MaySpan (lo hi : Int) : callP (penv P1) 40 [.agg [.int .i64 lo, .int .i64 hi]] Q = some (.bool (decide (1 ≤ lo ∧ lo ≤ hi ∧ hi ≤ 1000000)), Q) := by
  rw [f_pleachref1_MaySpan rfl]
  by_cases c1 : 1 ≤ lo <;> by_cases c2 : lo ≤ hi <;> by_cases c3 : hi ≤ 1000000 <;> simp [c1, c2, c3]
def putT (l : List It) (p : Nat) (x : It) (i : Nat) : List It := if i ≤ p then l.take i else l.take p ++ [x] ++ (l.drop p).take (i - p)
theorem loop_dPut {l : List It} {v : AV} (h : Sl 2 (l.map It.v) v) (hl : l.length ≤ 800000) (x : It) (hs : Sorted l) (hn : there l x.seq = false) : ∀ (m i : Nat), i + m = l.length →
    L_pleachref13_PutWin_2 P1 v (.bool (decide (posn l x.seq < i))) (.int .i64 i) (.int .i64 x.seq) (.str x.text) ((putT l (posn l x.seq) x i).map It.v) Q = X_pleachref13_PutWin_2_x0 (.bool (decide (posn l x.seq < l.length))) (.int .i64 x.seq) (.str x.text) ((putT l (posn l x.seq) x l.length).map It.v) Q := by
  intro m
  induction m with
  | zero =>
    intro i hi
    obtain rfl : i = l.length := by omega
    rw [L_pleachref13_PutWin_2_eq, p_pleachref13_PutWin_2]
    simp [h.len]
  | succ m ih =>
    intro i hi
    have c : ((i : Int) < l.length) = True := eq_true (by omega)
    have hx := getD_at (l := l) (k := i) (by omega)
    have e := h.get (k := .i64) hx
    have w := w64 (i := (i : Int) + 1) (by omega) (by omega)
    have hp := posn_le l x.seq
    have ln : ∀ i, i ≤ l.length → (putT l (posn l x.seq) x i).length ≤ i + 1 := fun i hi => by
      unfold putT; split
      · simp; omega
      · simp; omega
    have ih := ih (i + 1) (by omega)
    have rm : ∀ n, n ≤ 900000 → room 24 n = true := fun n hn => room_le (by omega) (by omega)
    have ln := ln i (by omega)
    have ti : ∀ i, i < l.length → l.take i ++ [l.getD i default] = l.take (i + 1) := fun i hi => by
      rw [List.take_add_one, getD_at hi]; rfl
    rw [L_pleachref13_PutWin_2_eq, p_pleachref13_PutWin_2]
    by_cases c1 : i < posn l x.seq
    · have lt := posn_lt c1
      have n1 : ¬ posn l x.seq < i := by omega
      have n2 : ¬ posn l x.seq < i + 1 := by omega
      have n3 : ¬ x.seq < (l.getD i default).seq := by omega
      have et : putT l (posn l x.seq) x (i + 1) = putT l (posn l x.seq) x i ++ [l.getD i default] := by
        unfold putT; rw [if_pos (by omega), if_pos (by omega), ti i (by omega)]
      rw [et] at ih
      simp only [n2, decide_false] at ih
      generalize putT l (posn l x.seq) x i = T at *
      have r1 := rm (T.length + 1) (by omega)
      simp [h.len, c, e, n1, n3, w, r1, -List.getD_eq_getElem?_getD, p_pleachref13_PutWin_0, p_pleachref13_PutWin_1, L_pleachref13_PutWin_2_fold]
      simpa [-List.getD_eq_getElem?_getD] using ih
    · by_cases c2 : i = posn l x.seq
      · have ge := posn_ge (w := l) (s := x.seq) (by omega)
        have ne : (l.getD (posn l x.seq) default).seq ≠ x.seq := fun e => by
          rw [(there_iff hs x.seq).2 ⟨by omega, e⟩] at hn; cases hn
        rw [← c2] at ge ne
        have n1 : ¬ posn l x.seq < i := by omega
        have n2 : posn l x.seq < i + 1 := by omega
        have n3 : x.seq < (l.getD i default).seq := by omega
        have et : putT l (posn l x.seq) x (i + 1) = putT l (posn l x.seq) x i ++ [x] ++ [l.getD i default] := by
          unfold putT; rw [if_neg (by omega), if_pos (by omega), ← c2, show i + 1 - i = 1 by omega, List.drop_eq_getElem_cons (by omega), List.getD_eq_getElem?_getD, List.getElem?_eq_getElem (by omega)]
          rw [List.append_assoc, List.append_assoc]; rfl
        rw [et] at ih
        simp only [n2, decide_true] at ih
        generalize putT l (posn l x.seq) x i = T at *
        have r1 := rm (T.length + 1) (by omega)
        have r2 := rm (T.length + 1 + 1) (by omega)
        simp [h.len, c, e, n1, n3, w, r1, r2, -List.getD_eq_getElem?_getD, p_pleachref13_PutWin_0, p_pleachref13_PutWin_1, L_pleachref13_PutWin_2_fold]
        simpa [-List.getD_eq_getElem?_getD] using ih
      · have n1 : posn l x.seq < i := by omega
        have n2 : posn l x.seq < i + 1 := by omega
        have et : putT l (posn l x.seq) x (i + 1) = putT l (posn l x.seq) x i ++ [l.getD i default] := by
          unfold putT; rw [if_neg (by omega), if_neg (by omega), show i + 1 - posn l x.seq = i - posn l x.seq + 1 by omega, List.take_add_one, List.getElem?_drop, show posn l x.seq + (i - posn l x.seq) = i by omega, hx]
          simp
        rw [et] at ih
        simp only [n2, decide_true] at ih
        generalize putT l (posn l x.seq) x i = T at *
        have r1 := rm (T.length + 1) (by omega)
        simp [h.len, c, e, n1, w, r1, -List.getD_eq_getElem?_getD, p_pleachref13_PutWin_0, p_pleachref13_PutWin_1, L_pleachref13_PutWin_2_fold]
        simpa [-List.getD_eq_getElem?_getD] using ih
theorem d_Put {l : List It} {v : AV} (h : Sl 2 (l.map It.v) v) (hl : l.length ≤ 700000) (hs : Sorted l) {n : Int} {x : It} (hn : -4000000000000 ≤ n ∧ n ≤ 4000000000000) (hx : -4000000000000 ≤ x.seq ∧ x.seq ≤ 4000000000000) :
    callP (penv P1) 44 [v, .int .i64 n, It.v x] Q = some (.tup [its (put l n x).1, .bool (put l n x).2], Q) := by
  rw [It_v, f_pleachref13_PutWin rfl]
  have g := fun (Q : AHeap) => d_Get (Q := Q) h (by omega) x.seq
  have w := w64 (i := x.seq - n) (by omega) (by omega)
  have hp := posn_le l x.seq
  have hr := h.rcv
  unfold put
  by_cases c2 : x.seq < n
  · simp [g, c2, hr]
  by_cases c3 : 8 ≤ x.seq - n
  · simp [g, c2, w, c3, hr]
  cases c1 : there l x.seq with
  | true => rw [c1] at g; simp [g, c2, w, c3, hr]
  | false =>
    rw [c1] at g
    have lp := loop_dPut (Q := Q) h (by omega) x hs c1 l.length 0 (by omega)
    have e0 : putT l (posn l x.seq) x 0 = [] := by unfold putT; simp
    rw [e0] at lp
    simp only [List.map_nil, show ((0 : Nat) : Int) = 0 from rfl, Nat.not_lt_zero, decide_false] at lp
    have fin : (if posn l x.seq < l.length then putT l (posn l x.seq) x l.length else putT l (posn l x.seq) x l.length ++ [x]) = l.take (posn l x.seq) ++ [x] ++ l.drop (posn l x.seq) := by
      unfold putT
      by_cases c : posn l x.seq < l.length
      · rw [if_pos c, if_neg (by omega), List.take_of_length_le (l := l.drop _) (by simp)]
      · rw [if_neg c, if_pos (by omega), show posn l x.seq = l.length by omega]; simp
    have ln : (putT l (posn l x.seq) x l.length).length ≤ l.length + 1 := by unfold putT; split <;> simp <;> omega
    have cond : ¬ ((false : Bool) = true ∨ x.seq < n ∨ 8 ≤ x.seq - n) := by simp; omega
    rw [if_neg cond, ← fin]
    generalize putT l (posn l x.seq) x l.length = T at *
    have r1 : room 24 (T.length + 1) = true := room_le (by omega) (by omega)
    by_cases c : posn l x.seq < l.length
    · simp [g, c2, w, c3, L_pleachref13_PutWin_2_fold, lp, p_pleachref13_PutWin_4, p_pleachref13_PutWin_3, c]
    · simp [g, c2, w, c3, L_pleachref13_PutWin_2_fold, lp, p_pleachref13_PutWin_4, p_pleachref13_PutWin_3, c, r1]
end
end Go.Proofs.Ytmogepinpdibdaa.Pf
