/- What comes again; what is known (plain). -/
import Derived.Test.YtccgolmdhikdoaaPmFeed3
set_option linter.unusedVariables false
namespace Go.Feed
theorem skipsN_past {hi why : Int} : ∀ (n : Nat) (f : Fed) (out : List Sp) (g : Fed) (o : List Sp), skipsN n f hi why out = some (g, o) → Inv f → hi < g.next := by
  intro n
  induction n with
  | zero => intro f out g o h; cases h
  | succ n ih =>
    intro f out g o h hv
    unfold skipsN at h
    by_cases c : f.next ≤ hi
    · rw [if_pos c] at h
      simp only at h
      have hiv := hv.skip (why := why) c
      have hfa := fahead_inv hv hi
      have hf1 : ((fahead f hi).2 = false ∧ hi < (if f.next ≤ (fahead f hi).1 then skip1 f (fahead f hi).1 why else f).next) ∨
          ((fahead f hi).2 = true ∧ (if f.next ≤ (fahead f hi).1 then skip1 f (fahead f hi).1 why else f).tells.2 ≠ []) := by
        cases hw : f.win with
        | nil =>
          rw [hw] at hfa
          rw [hfa]
          left
          refine ⟨rfl, ?_⟩
          rw [if_pos c]
          show hi < hi + 1; omega
        | cons x w =>
          rw [hw] at hfa
          have hx := hv.ge x (by rw [hw]; exact List.mem_cons_self)
          by_cases cx : x.seq ≤ hi
          · simp only [if_pos cx] at hfa
            rw [hfa]
            right
            refine ⟨rfl, ?_⟩
            split
            · refine tells_pos (x := x) (w := w) hw ?_
              show x.seq = x.seq - 1 + 1; omega
            · rename_i c2
              have c2 : ¬ f.next ≤ x.seq - 1 := c2
              exact tells_pos hw (by omega)
          · simp only [if_neg cx] at hfa
            rw [hfa]
            left
            refine ⟨rfl, ?_⟩
            rw [if_pos c]
            show hi < hi + 1; omega
      generalize (if f.next ≤ (fahead f hi).1 then skip1 f (fahead f hi).1 why else f) = f1 at *
      rcases hf1 with ⟨h1, h2⟩ | ⟨h1, h2⟩
      · rw [h1] at h
        simp only [Bool.false_eq_true, if_false, Option.some.injEq, Prod.mk.injEq] at h
        obtain ⟨rfl, rfl⟩ := h
        exact h2
      · rw [if_pos h1, if_neg h2] at h
        exact ih _ _ _ _ h hiv.tells.1
    · rw [if_neg c] at h
      simp only [Option.some.injEq, Prod.mk.injEq] at h
      obtain ⟨rfl, rfl⟩ := h
      omega
theorem skips_past {f : Fed} (hv : Inv f) {hi why : Int} (h1 : 1 ≤ f.next) (h2 : hi ≤ 1000000) : hi < (skips f hi why).1.next := by
  unfold skips
  rw [if_neg (by omega)]
  obtain ⟨⟨g, o⟩, e⟩ := skipsN_some (hi := hi) (why := why) (f.win.length + 1) f [] (by omega)
  rw [e]
  have := skipsN_past _ _ _ _ _ e hv
  simp only
  split
  · exact this
  · exact this
def Tp (f : Fed) : Prop := ∀ x ∈ f.win, x.seq ≤ f.top
theorem Tp.tells {f : Fed} (h : Tp f) : Tp f.tells.1 := fun x hx => by
  obtain ⟨t1, t2, t3, t4, t5, t6⟩ := tells_fst f
  have gb := goesL_bd f.win f
  rw [t2] at hx
  rw [t5, gb.2.2.2.2.1]
  exact h x (gb.2.2.2.2.2 x hx)
theorem Tp.knows {f : Fed} (h : Tp f) (t : Int) : Tp (f.knows t) := fun x hx => by
  obtain ⟨k1, k2, k3, k4⟩ := knows_eq f t
  rw [k2] at hx
  have := h x hx
  unfold Fed.knows; split
  · show x.seq ≤ max f.top t; omega
  · exact this
theorem skips_mem {f : Fed} (hi why : Int) : ∀ x ∈ (skips f hi why).1.win, x ∈ f.win := by
  unfold skips
  split
  · exact fun x h => h
  · have key : ∀ (n : Nat) (f : Fed) (out : List Sp) (g : Fed) (o : List Sp), skipsN n f hi why out = some (g, o) → ∀ x ∈ g.win, x ∈ f.win := by
      intro n
      induction n with
      | zero => intro f out g o h; cases h
      | succ n ih =>
        intro f out g o h
        unfold skipsN at h
        by_cases c1 : f.next ≤ hi
        · rw [if_pos c1] at h
          simp only at h
          have hw : (if f.next ≤ (fahead f hi).1 then skip1 f (fahead f hi).1 why else f).win = f.win := by split <;> rfl
          generalize (if f.next ≤ (fahead f hi).1 then skip1 f (fahead f hi).1 why else f) = f1 at *
          obtain ⟨t1, t2, t3, t4, t5, t6⟩ := tells_fst f1
          have gb := goesL_bd f1.win f1
          have tm : ∀ x ∈ f1.tells.1.win, x ∈ f.win := fun x hx => by rw [t2] at hx; rw [← hw]; exact gb.2.2.2.2.2 x hx
          split at h
          · split at h
            · simp only [Option.some.injEq, Prod.mk.injEq] at h
              obtain ⟨rfl, rfl⟩ := h
              exact tm
            · exact fun x hx => tm x (ih _ _ _ _ h x hx)
          · simp only [Option.some.injEq, Prod.mk.injEq] at h
            obtain ⟨rfl, rfl⟩ := h
            rw [hw]; exact fun x h => h
        · rw [if_neg c1] at h
          simp only [Option.some.injEq, Prod.mk.injEq] at h
          obtain ⟨rfl, rfl⟩ := h
          exact fun x h => h
    obtain ⟨⟨g, o⟩, e⟩ := skipsN_some (hi := hi) (why := why) (f.win.length + 1) f [] (by omega)
    rw [e]
    have := key _ _ _ _ _ e
    simp only
    split
    · exact this
    · exact this
theorem Tp.skips {f : Fed} (h : Tp f) (hi why : Int) : Tp (skips f hi why).1 := fun x hx => by
  rw [skips_knows]; exact h x (skips_mem hi why x hx)
end Go.Feed
/- Who hears nothing more (plain). -/
set_option linter.unusedVariables false
namespace Go.Feed
structure Ed (now : Int) (f : Fed) : Prop where
  st : ∀ x ∈ f.win, f.next < x.seq
  wb : ∀ x ∈ f.win, x.seq < f.next + 8
  tr : f.tries ≤ 3
  du : f.due ≤ now + 8
theorem tells_td {f : Fed} {c : Int} (hc : 0 ≤ c) (h : f.tries ≤ 3 ∧ f.due ≤ c) : f.tells.1.tries ≤ 3 ∧ f.tells.1.due ≤ c := by
  have g := goesL_tr f.win f
  unfold Fed.tells
  split
  · rw [g.1, g.2]; exact h
  · exact ⟨by show (0 : Int) ≤ 3; omega, hc⟩
theorem wb_tells {f : Fed} (h : ∀ x ∈ f.win, x.seq < f.next + 8) : ∀ x ∈ f.tells.1.win, x.seq < f.tells.1.next + 8 := fun x hx => by
  obtain ⟨t1, t2, t3, t4, t5, t6⟩ := tells_fst f
  have gb := goesL_bd f.win f
  rw [t2] at hx
  have := h x (gb.2.2.2.2.2 x hx)
  rw [t4, gb.2.2.2.1]; omega
theorem Ed.knows {now : Int} {f : Fed} (h : Ed now f) (t : Int) : Ed now (f.knows t) := by
  unfold Fed.knows; split <;> exact ⟨h.st, h.wb, h.tr, h.du⟩
theorem Ed.tells {now : Int} {f : Fed} (hn : 0 ≤ now) (hv : Inv f) (wb : ∀ x ∈ f.win, x.seq < f.next + 8) (tr : f.tries ≤ 3) (du : f.due ≤ now + 8) : Ed now f.tells.1 := by
  have := tells_td (c := now + 8) (by omega) ⟨tr, du⟩
  exact ⟨hv.tells.2, wb_tells wb, this.1, this.2⟩
theorem sorted_in : ∀ (w : List It) (a b : Int), Sorted w → a < b → (∀ x ∈ w, a < x.seq ∧ x.seq < b) → (w.length : Int) ≤ b - a - 1 := by
  intro w
  induction w with
  | nil => intro a b _ h _; simp; omega
  | cons x w ih =>
    intro a b hs hab h
    have h0 := h x List.mem_cons_self
    have hs := List.pairwise_cons.1 hs
    have := ih x.seq b hs.2 h0.2 (fun y hy => ⟨hs.1 y hy, (h y (List.mem_cons_of_mem _ hy)).2⟩)
    simp only [List.length_cons]
    omega
theorem Ed.len {now : Int} {f : Fed} (h : Ed now f) (hv : Inv f) : f.win.length ≤ 7 := by
  have := sorted_in f.win f.next (f.next + 8) hv.so (by omega) (fun x hx => ⟨h.st x hx, h.wb x hx⟩)
  omega
def wait (f : Fed) (t : Int) : Int := if f.tries = 0 then 15 else if f.tries = 1 then max (f.due - t) 0 + 13 else if f.tries = 2 then max (f.due - t) 0 + 9 else max (f.due - t) 0 + 1
theorem skips_gap {f : Fed} (hv : Inv f) {hi why : Int} (h1 : 1 ≤ f.next) (h2 : f.next ≤ hi) (h3 : hi ≤ 1000000) (h4 : ∀ x ∈ f.win, hi < x.seq) : (skips f hi why).1 = (skip1 f hi why).rest := by
  unfold skips
  rw [if_neg (by omega)]
  have e : fahead f hi = (hi, false) := by
    rw [fahead_inv hv]
    cases hw : f.win with
    | nil => rfl
    | cons x w =>
      have := h4 x (by rw [hw]; exact List.mem_cons_self)
      simp only
      rw [if_neg (by omega)]
  unfold skipsN
  rw [if_pos h2, e]
  simp only [Bool.false_eq_true, if_false, if_pos h2]
  rw [if_pos]
  show hi + 1 ≠ f.next
  omega
theorem tried_due {f : Fed} (h : 0 ≤ f.tries ∧ f.tries < 3) (t : Int) : (f.tries = 0 ∧ (f.tried t).due = t + 2) ∨ (f.tries = 1 ∧ (f.tried t).due = t + 4) ∨ (f.tries = 2 ∧ (f.tried t).due = t + 8) := by
  have : f.tries = 0 ∨ f.tries = 1 ∨ f.tries = 2 := by omega
  rcases this with e | e | e
  · exact Or.inl ⟨e, by show t + 2 * 2 ^ (max (min f.tries 3) 0).toNat = _; rw [e]; rfl⟩
  · exact Or.inr (Or.inl ⟨e, by show t + 2 * 2 ^ (max (min f.tries 3) 0).toNat = _; rw [e]; rfl⟩)
  · exact Or.inr (Or.inr ⟨e, by show t + 2 * 2 ^ (max (min f.tries 3) 0).toNat = _; rw [e]; rfl⟩)
structure En (k : Nat) (f : Fed) : Prop where
  dd : Dd k f
  tp : Tp f
  st : ∀ x ∈ f.win, f.next < x.seq
  tr : f.tries ≤ 3
  n1 : 1 ≤ f.next
  tm : f.top ≤ 1000000
theorem En.tick {k : Nat} {f : Fed} (h : En (k + 3) f) (hle : f.next ≤ f.top) (t : Int) : Dd k (f.tick t).1 ∧ (f.tick t).1.top = f.top ∧
    ((f.tick t).2.2 = false ∧ f.next < (f.tick t).1.next ∧ (f.tick t).1.tries = 0 ∧ Tp (f.tick t).1 ∧ (∀ x ∈ (f.tick t).1.win, (f.tick t).1.next < x.seq) ∧ ((f.win = [] ∧ f.top < (f.tick t).1.next) ∨ (f.tick t).1.win.length < f.win.length) ∧ 1 ≤ wait f t ∨
     (f.tick t).1.next = f.next ∧ (f.tick t).1.win = f.win ∧ wait (f.tick t).1 (t + 1) + 1 ≤ wait f t ∧ (((f.tick t).2.2 = true ∧ f.tries < 3 ∧ (f.tick t).1.tries = f.tries + 1) ∨ ((f.tick t).2.2 = false ∧ (f.tick t).1 = f))) := by
  have hd := h.dd.tick t
  refine ⟨hd.1, ?_⟩
  have h0 := h.dd.inv.tr
  have hw : (wants f).2 = true ∧ f.next ≤ (wants f).1.2 ∧ (wants f).1.2 ≤ f.top ∧ (∀ x ∈ f.win, (wants f).1.2 < x.seq) ∧ (f.win = [] → (wants f).1.2 = f.top) ∧ (∀ x w, f.win = x :: w → (wants f).1.2 = x.seq - 1) := by
    unfold wants
    cases hw : f.win with
    | nil =>
      simp only [if_true]
      rw [if_neg (by have := h.n1; omega)]
      exact ⟨rfl, hle, Int.le_refl _, (fun x hx => by cases hx), fun _ => rfl, fun x w e => by cases e⟩
    | cons x w =>
      have hx := h.st x (by rw [hw]; exact List.mem_cons_self)
      have hx2 := h.tp x (by rw [hw]; exact List.mem_cons_self)
      have hs := h.dd.inv.so
      rw [hw] at hs
      have hs := (List.pairwise_cons.1 hs).1
      simp only [first, reduceCtorEq, if_false]
      rw [if_neg (by have := h.n1; omega)]
      refine ⟨rfl, by simp only; omega, by simp only; omega, fun y hy => ?_, (fun e => by cases e), fun y v e => ?_⟩
      · simp only
        rcases List.mem_cons.1 hy with rfl | hy
        · omega
        · have := hs y hy; omega
      · cases e; rfl
  obtain ⟨w1, w2, w3, w4, w5, w6⟩ := hw
  unfold Fed.tick at hd ⊢
  by_cases c1 : isNow f t = false
  · rw [if_pos (Or.inr c1)]
    refine ⟨rfl, Or.inr ⟨rfl, rfl, ?_, Or.inr ⟨rfl, rfl⟩⟩⟩
    simp only
    unfold isNow at c1
    simp only [Bool.or_eq_false_iff, decide_eq_false_iff_not] at c1
    unfold wait
    rw [if_neg c1.1, if_neg c1.1]
    split
    · omega
    · split <;> omega
  · have c0 : ¬ ((wants f).2 = false ∨ isNow f t = false) := by
      rintro (e | e)
      · rw [w1] at e; cases e
      · exact c1 e
    rw [if_neg c0] at hd ⊢
    have c1 : isNow f t = true := by simpa using c1
    unfold isNow at c1
    simp only [Bool.or_eq_true, decide_eq_true_eq] at c1
    by_cases c2 : tired f = true
    · rw [if_pos c2] at hd ⊢
      simp only at hd ⊢
      have c3 : 3 ≤ f.tries := by simpa [tired] using c2
      have e := skips_gap h.dd.inv (why := 2) h.n1 w2 (by have := h.tm; omega) w4
      have hw1 : 1 ≤ wait f t := by
        unfold wait
        rw [if_neg (by omega), if_neg (by omega), if_neg (by omega)]; omega
      have hs := (h.dd.weaken (show k + 1 ≤ k + 3 by omega)).skips (wants f).1.2 2
      rw [e] at hd hs ⊢
      have et : (skip1 f (wants f).1.2 2).rest.tells.1.top = f.top := by
        have := tells_fst (skip1 f (wants f).1.2 2).rest
        rw [this.2.2.2.2.1, (goesL_bd _ _).2.2.2.2.1]; rfl
      refine ⟨et, Or.inl ⟨by first | trivial | rfl, ?_, ?_, ?_, hs.1.inv.tells.2, ?_, hw1⟩⟩
      · have := hs.1.tells.2.nx
        have e2 : (skip1 f (wants f).1.2 2).rest.next = (wants f).1.2 + 1 := rfl
        omega
      · have g := goesL_tr (skip1 f (wants f).1.2 2).rest.win (skip1 f (wants f).1.2 2).rest
        unfold Fed.tells
        split
        · rw [g.1]; rfl
        · rfl
      · exact Tp.tells (fun x hx => h.tp x hx)
      · cases hw : f.win with
        | nil =>
          left
          refine ⟨by first | trivial | rfl, ?_⟩
          have := hs.1.tells.2.nx
          have e2 : (skip1 f (wants f).1.2 2).rest.next = (wants f).1.2 + 1 := rfl
          have := w5 hw
          omega
        | cons x w =>
          right
          have e3 := w6 x w hw
          have hne := tells_pos (f := (skip1 f (wants f).1.2 2).rest) (x := x) (w := w) hw (by show x.seq = (wants f).1.2 + 1; omega)
          have hl := hs.1.bd.tells.2
          have e4 : (skip1 f (wants f).1.2 2).rest.win = f.win := rfl
          rw [e4, hw] at hl
          have := List.length_pos_iff.2 hne
          omega
    · rw [if_neg c2] at hd ⊢
      have c3 : f.tries < 3 := by simp [tired] at c2; omega
      refine ⟨rfl, Or.inr ⟨rfl, rfl, ?_, Or.inl ⟨rfl, c3, rfl⟩⟩⟩
      simp only
      have ht : (f.tried t).tries = f.tries + 1 := rfl
      unfold wait
      rw [ht]
      rcases tried_due ⟨h0, c3⟩ t with ⟨e, d⟩ | ⟨e, d⟩ | ⟨e, d⟩ <;> rw [d, e] <;> simp <;> omega
end Go.Feed
