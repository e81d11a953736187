/- Who hears nothing more (plain). -/
import Derived.Test.YtmogepinpdibdaaPdFeedWants
set_option linter.unusedVariables false
namespace Go.Feed
structure Ed (now : Int) (f : Fed) : Prop where
  st : ∀ x ∈ f.win, f.next < x.seq
  wb : ∀ x ∈ f.win, x.seq < f.next + 8
  tr : f.tries ≤ 3
  du : f.due ≤ now + 8
theorem tells_td {f : Fed} {c : Int} (hc : 0 ≤ c) (h : f.tries ≤ 3 ∧ f.due ≤ c) : f.tells.1.tries ≤ 3 ∧ f.tells.1.due ≤ c := by
  have g := goesL_tr f.win f
  unfold Fed.tells
  split
  · rw [g.1, g.2]; exact h
  · exact ⟨by show (0 : Int) ≤ 3; omega, hc⟩
theorem skips_td {f : Fed} {c : Int} (hc : 0 ≤ c) (h : f.tries ≤ 3 ∧ f.due ≤ c) (hi why : Int) : (skips f hi why).1.tries ≤ 3 ∧ (skips f hi why).1.due ≤ c := by
  unfold skips
  split
  · exact h
  · have key : ∀ (n : Nat) (f : Fed) (out : List Sp) (g : Fed) (o : List Sp), skipsN n f hi why out = some (g, o) → f.tries ≤ 3 ∧ f.due ≤ c → g.tries ≤ 3 ∧ g.due ≤ c := by
      intro n
      induction n with
      | zero => intro f out g o h; cases h
      | succ n ih =>
        intro f out g o h hp
        unfold skipsN at h
        by_cases c1 : f.next ≤ hi
        · rw [if_pos c1] at h
          simp only at h
          have hw : (if f.next ≤ (fahead f hi).1 then skip1 f (fahead f hi).1 why else f).tries ≤ 3 ∧ (if f.next ≤ (fahead f hi).1 then skip1 f (fahead f hi).1 why else f).due ≤ c := by split <;> exact hp
          generalize (if f.next ≤ (fahead f hi).1 then skip1 f (fahead f hi).1 why else f) = f1 at *
          have ht := tells_td hc hw
          split at h
          · split at h
            · simp only [Option.some.injEq, Prod.mk.injEq] at h
              obtain ⟨rfl, rfl⟩ := h
              exact ht
            · exact ih _ _ _ _ h ht
          · simp only [Option.some.injEq, Prod.mk.injEq] at h
            obtain ⟨rfl, rfl⟩ := h
            exact hw
        · rw [if_neg c1] at h
          simp only [Option.some.injEq, Prod.mk.injEq] at h
          obtain ⟨rfl, rfl⟩ := h
          exact hp
    obtain ⟨⟨g, o⟩, e⟩ := skipsN_some (hi := hi) (why := why) (f.win.length + 1) f [] (by omega)
    rw [e]
    have := key _ _ _ _ _ e h
    simp only
    split
    · exact ⟨by show (0 : Int) ≤ 3; omega, hc⟩
    · exact this
theorem wb_tells {f : Fed} (h : ∀ x ∈ f.win, x.seq < f.next + 8) : ∀ x ∈ f.tells.1.win, x.seq < f.tells.1.next + 8 := fun x hx => by
  obtain ⟨t1, t2, t3, t4, t5, t6⟩ := tells_fst f
  have gb := goesL_bd f.win f
  rw [t2] at hx
  have := h x (gb.2.2.2.2.2 x hx)
  rw [t4, gb.2.2.2.1]; omega
theorem Ed.knows {now : Int} {f : Fed} (h : Ed now f) (t : Int) : Ed now (f.knows t) := by
  unfold Fed.knows; split <;> exact ⟨h.st, h.wb, h.tr, h.du⟩
theorem Ed.later {now : Int} {f : Fed} (h : Ed now f) {n2 : Int} (hn : now ≤ n2) : Ed n2 f := ⟨h.st, h.wb, h.tr, by have := h.du; omega⟩
theorem Ed.tells {now : Int} {f : Fed} (hn : 0 ≤ now) (hv : Inv f) (wb : ∀ x ∈ f.win, x.seq < f.next + 8) (tr : f.tries ≤ 3) (du : f.due ≤ now + 8) : Ed now f.tells.1 := by
  have := tells_td (c := now + 8) (by omega) ⟨tr, du⟩
  exact ⟨hv.tells.2, wb_tells wb, this.1, this.2⟩
theorem Ed.deed {k : Nat} {now : Int} {f : Fed} (hn : 0 ≤ now) (hd : Dd (k + 3) f) (h : Ed now f) (x y z : Int) : Ed now (f.deed x y z now) := by
  unfold Fed.deed
  split
  · unfold Fed.begin_
    split
    · exact h.knows _
    · split
      · rename_i c _
        have e0 := (hd.z (by have := hd.n0; omega)).1
        exact ⟨(fun x hx => by have hx : x ∈ f.win := hx; rw [e0] at hx; cases hx), (fun x hx => by have hx : x ∈ f.win := hx; rw [e0] at hx; cases hx), h.tr, h.du⟩
      · exact h
  · split
    · unfold Fed.notes
      split
      · exact h
      · split
        · exact h.knows _
        · have hs := (hd.weaken (show k + 1 ≤ k + 3 by omega)).skips (near f y + z % 6 - 1) 1
          have hm := skips_mem (f := f) (near f y + z % 6 - 1) 1
          have ht := skips_td (c := now + 8) (by omega) ⟨h.tr, h.du⟩ (near f y + z % 6 - 1) 1
          generalize (Go.Feed.skips f (near f y + z % 6 - 1) 1).1 = S at *
          refine Ed.tells hn ⟨hs.1.inv.so, hs.1.inv.ge, hs.1.inv.rg, hs.1.inv.tr⟩ (fun x hx => ?_) ht.1 ht.2
          have := h.wb x (hm x hx)
          have := hs.2.nx
          show x.seq < S.next + 8
          omega
    · split
      · exact h.knows _
      · split
        · unfold Fed.tick
          split
          · exact h
          · split
            · have hs := (hd.weaken (show k + 1 ≤ k + 3 by omega)).skips (wants f).1.2 2
              have hm := skips_mem (f := f) (wants f).1.2 2
              have ht := skips_td (c := now + 8) (by omega) ⟨h.tr, h.du⟩ (wants f).1.2 2
              simp only
              generalize (Go.Feed.skips f (wants f).1.2 2).1 = S at *
              refine Ed.tells hn hs.1.inv (fun x hx => ?_) ht.1 ht.2
              have := h.wb x (hm x hx)
              have := hs.2.nx
              omega
            · rename_i c2
              have c2 : ¬ tired f = true := c2
              have h3 : f.tries < 3 := by simp [tired] at c2; omega
              have h0 := hd.inv.tr
              refine ⟨h.st, h.wb, by show f.tries + 1 ≤ 3; omega, ?_⟩
              show now + 2 * 2 ^ (max (min f.tries 3) 0).toNat ≤ now + 8
              have : f.tries = 0 ∨ f.tries = 1 ∨ f.tries = 2 := by omega
              have q : (2 : Int) * 2 ^ (max (min f.tries 3) 0).toNat ≤ 8 := by rcases this with e | e | e <;> rw [e] <;> decide
              omega
        · unfold Fed.comes
          split
          · exact h
          · have hv := hd.inv.knows (near f y)
            have hk := h.knows (near f y)
            simp only
            generalize f.knows (near f y) = K at *
            refine Ed.tells hn ⟨put_sorted hv.so _ _, put_ge hv.ge, hv.rg, hv.tr⟩ (fun x hx => ?_) hk.tr hk.du
            show x.seq < K.next + 8
            have hx : x ∈ (put K.win K.next ⟨near f y, texts.getD (z % 5).toNat []⟩).1 := hx
            unfold put at hx
            split at hx
            · exact hk.wb x hx
            · rename_i c
              simp only at c
              simp only [List.mem_append, List.mem_singleton] at hx
              rcases hx with (hx | hx) | hx
              · exact hk.wb x (List.mem_of_mem_take hx)
              · subst hx; simp only; omega
              · exact hk.wb x (List.mem_of_mem_drop hx)
theorem sorted_in : ∀ (w : List It) (a b : Int), Sorted w → a < b → (∀ x ∈ w, a < x.seq ∧ x.seq < b) → (w.length : Int) ≤ b - a - 1 := by
  intro w
  induction w with
  | nil => intro a b _ h _; simp; omega
  | cons x w ih =>
    intro a b hs hab h
    have h0 := h x List.mem_cons_self
    have hs := List.pairwise_cons.1 hs
    have := ih x.seq b hs.2 h0.2 (fun y hy => ⟨hs.1 y hy, (h y (List.mem_cons_of_mem _ hy)).2⟩)
    simp only [List.length_cons]
    omega
theorem Ed.len {now : Int} {f : Fed} (h : Ed now f) (hv : Inv f) : f.win.length ≤ 7 := by
  have := sorted_in f.win f.next (f.next + 8) hv.so (by omega) (fun x hx => ⟨h.st x hx, h.wb x hx⟩)
  omega
def wait (f : Fed) (t : Int) : Int := if f.tries = 0 then 15 else if f.tries = 1 then max (f.due - t) 0 + 13 else if f.tries = 2 then max (f.due - t) 0 + 9 else max (f.due - t) 0 + 1
theorem skips_gap {f : Fed} (hv : Inv f) {hi why : Int} (h1 : 1 ≤ f.next) (h2 : f.next ≤ hi) (h3 : hi ≤ 1000000) (h4 : ∀ x ∈ f.win, hi < x.seq) : (skips f hi why).1 = (skip1 f hi why).rest := by
  unfold skips
  rw [if_neg (by omega)]
  have e : fahead f hi = (hi, false) := by
    rw [fahead_inv hv]
    cases hw : f.win with
    | nil => rfl
    | cons x w =>
      have := h4 x (by rw [hw]; exact List.mem_cons_self)
      simp only
      rw [if_neg (by omega)]
  unfold skipsN
  rw [if_pos h2, e]
  simp only [Bool.false_eq_true, if_false, if_pos h2]
  rw [if_pos]
  show hi + 1 ≠ f.next
  omega
theorem tried_due {f : Fed} (h : 0 ≤ f.tries ∧ f.tries < 3) (t : Int) : (f.tries = 0 ∧ (f.tried t).due = t + 2) ∨ (f.tries = 1 ∧ (f.tried t).due = t + 4) ∨ (f.tries = 2 ∧ (f.tried t).due = t + 8) := by
  have : f.tries = 0 ∨ f.tries = 1 ∨ f.tries = 2 := by omega
  rcases this with e | e | e
  · exact Or.inl ⟨e, by show t + 2 * 2 ^ (max (min f.tries 3) 0).toNat = _; rw [e]; rfl⟩
  · exact Or.inr (Or.inl ⟨e, by show t + 2 * 2 ^ (max (min f.tries 3) 0).toNat = _; rw [e]; rfl⟩)
  · exact Or.inr (Or.inr ⟨e, by show t + 2 * 2 ^ (max (min f.tries 3) 0).toNat = _; rw [e]; rfl⟩)
structure En (k : Nat) (f : Fed) : Prop where
  dd : Dd k f
  tp : Tp f
  st : ∀ x ∈ f.win, f.next < x.seq
  tr : f.tries ≤ 3
  n1 : 1 ≤ f.next
  tm : f.top ≤ 1000000
theorem En.tick {k : Nat} {f : Fed} (h : En (k + 3) f) (hle : f.next ≤ f.top) (t : Int) : Dd k (f.tick t).1 ∧ (f.tick t).1.top = f.top ∧
    ((f.tick t).2.2 = false ∧ f.next < (f.tick t).1.next ∧ (f.tick t).1.tries = 0 ∧ Tp (f.tick t).1 ∧ (∀ x ∈ (f.tick t).1.win, (f.tick t).1.next < x.seq) ∧ ((f.win = [] ∧ f.top < (f.tick t).1.next) ∨ (f.tick t).1.win.length < f.win.length) ∧ 1 ≤ wait f t ∨
     (f.tick t).1.next = f.next ∧ (f.tick t).1.win = f.win ∧ wait (f.tick t).1 (t + 1) + 1 ≤ wait f t ∧ (((f.tick t).2.2 = true ∧ f.tries < 3 ∧ (f.tick t).1.tries = f.tries + 1) ∨ ((f.tick t).2.2 = false ∧ (f.tick t).1 = f))) := by
  have hd := h.dd.tick t
  refine ⟨hd.1, ?_⟩
  have h0 := h.dd.inv.tr
  have hw : (wants f).2 = true ∧ f.next ≤ (wants f).1.2 ∧ (wants f).1.2 ≤ f.top ∧ (∀ x ∈ f.win, (wants f).1.2 < x.seq) ∧ (f.win = [] → (wants f).1.2 = f.top) ∧ (∀ x w, f.win = x :: w → (wants f).1.2 = x.seq - 1) := by
    unfold wants
    cases hw : f.win with
    | nil =>
      simp only [if_true]
      rw [if_neg (by have := h.n1; omega)]
      exact ⟨rfl, hle, Int.le_refl _, (fun x hx => by cases hx), fun _ => rfl, fun x w e => by cases e⟩
    | cons x w =>
      have hx := h.st x (by rw [hw]; exact List.mem_cons_self)
      have hx2 := h.tp x (by rw [hw]; exact List.mem_cons_self)
      have hs := h.dd.inv.so
      rw [hw] at hs
      have hs := (List.pairwise_cons.1 hs).1
      simp only [first, reduceCtorEq, if_false]
      rw [if_neg (by have := h.n1; omega)]
      refine ⟨rfl, by simp only; omega, by simp only; omega, fun y hy => ?_, (fun e => by cases e), fun y v e => ?_⟩
      · simp only
        rcases List.mem_cons.1 hy with rfl | hy
        · omega
        · have := hs y hy; omega
      · cases e; rfl
  obtain ⟨w1, w2, w3, w4, w5, w6⟩ := hw
  unfold Fed.tick at hd ⊢
  by_cases c1 : isNow f t = false
  · rw [if_pos (Or.inr c1)]
    refine ⟨rfl, Or.inr ⟨rfl, rfl, ?_, Or.inr ⟨rfl, rfl⟩⟩⟩
    simp only
    unfold isNow at c1
    simp only [Bool.or_eq_false_iff, decide_eq_false_iff_not] at c1
    unfold wait
    rw [if_neg c1.1, if_neg c1.1]
    split
    · omega
    · split <;> omega
  · have c0 : ¬ ((wants f).2 = false ∨ isNow f t = false) := by
      rintro (e | e)
      · rw [w1] at e; cases e
      · exact c1 e
    rw [if_neg c0] at hd ⊢
    have c1 : isNow f t = true := by simpa using c1
    unfold isNow at c1
    simp only [Bool.or_eq_true, decide_eq_true_eq] at c1
    by_cases c2 : tired f = true
    · rw [if_pos c2] at hd ⊢
      simp only at hd ⊢
      have c3 : 3 ≤ f.tries := by simpa [tired] using c2
      have e := skips_gap h.dd.inv (why := 2) h.n1 w2 (by have := h.tm; omega) w4
      have hw1 : 1 ≤ wait f t := by
        unfold wait
        rw [if_neg (by omega), if_neg (by omega), if_neg (by omega)]; omega
      have hs := (h.dd.weaken (show k + 1 ≤ k + 3 by omega)).skips (wants f).1.2 2
      rw [e] at hd hs ⊢
      have et : (skip1 f (wants f).1.2 2).rest.tells.1.top = f.top := by
        have := tells_fst (skip1 f (wants f).1.2 2).rest
        rw [this.2.2.2.2.1, (goesL_bd _ _).2.2.2.2.1]; rfl
      refine ⟨et, Or.inl ⟨by first | trivial | rfl, ?_, ?_, ?_, hs.1.inv.tells.2, ?_, hw1⟩⟩
      · have := hs.1.tells.2.nx
        have e2 : (skip1 f (wants f).1.2 2).rest.next = (wants f).1.2 + 1 := rfl
        omega
      · have g := goesL_tr (skip1 f (wants f).1.2 2).rest.win (skip1 f (wants f).1.2 2).rest
        unfold Fed.tells
        split
        · rw [g.1]; rfl
        · rfl
      · exact Tp.tells (fun x hx => h.tp x hx)
      · cases hw : f.win with
        | nil =>
          left
          refine ⟨by first | trivial | rfl, ?_⟩
          have := hs.1.tells.2.nx
          have e2 : (skip1 f (wants f).1.2 2).rest.next = (wants f).1.2 + 1 := rfl
          have := w5 hw
          omega
        | cons x w =>
          right
          have e3 := w6 x w hw
          have hne := tells_pos (f := (skip1 f (wants f).1.2 2).rest) (x := x) (w := w) hw (by show x.seq = (wants f).1.2 + 1; omega)
          have hl := hs.1.bd.tells.2
          have e4 : (skip1 f (wants f).1.2 2).rest.win = f.win := rfl
          rw [e4, hw] at hl
          have := List.length_pos_iff.2 hne
          omega
    · rw [if_neg c2] at hd ⊢
      have c3 : f.tries < 3 := by simp [tired] at c2; omega
      refine ⟨rfl, Or.inr ⟨rfl, rfl, ?_, Or.inl ⟨rfl, c3, rfl⟩⟩⟩
      simp only
      have ht : (f.tried t).tries = f.tries + 1 := rfl
      unfold wait
      rw [ht]
      rcases tried_due ⟨h0, c3⟩ t with ⟨e, d⟩ | ⟨e, d⟩ | ⟨e, d⟩ <;> rw [d, e] <;> simp <;> omega
end Go.Feed
/- The log is one (plain). -/
set_option linter.unusedVariables false
namespace Go.Feed
structure OkE (e : Ev) : Prop where
  le : e.lo ≤ e.hi
  hi : e.hi ≤ 1000000
  kd : (e.kind = 1 ∧ e.hi = e.lo ∧ e.text.length ≤ 12 ∧ e.why = 0) ∨ (e.kind = 2 ∧ e.text = [] ∧ (e.why = 1 ∨ e.why = 2))
def Chain : Int → List Ev → Int → Prop
  | a, [], b => a = b
  | a, e :: l, b => OkE e ∧ e.lo = a ∧ Chain (e.hi + 1) l b
theorem Chain.snoc : ∀ {l : List Ev} {a b : Int} {e : Ev}, Chain a l b → OkE e → e.lo = b → Chain a (l ++ [e]) (e.hi + 1) := by
  intro l
  induction l with
  | nil => intro a b e h h1 h2; exact ⟨h1, by have h : a = b := h; omega, rfl⟩
  | cons x l ih => intro a b e h h1 h2; exact ⟨h.1, h.2.1, ih h.2.2 h1 h2⟩
theorem Chain.last : ∀ {l : List Ev} {a b : Int}, Chain a l b → ∀ e, l.getLast? = some e → e.hi + 1 = b := by
  intro l
  induction l with
  | nil => intro a b _ e h; cases h
  | cons x l ih =>
    intro a b h e he
    cases l with
    | nil =>
      simp at he
      subst he
      exact h.2.2
    | cons y l =>
      rw [List.getLast?_cons_cons] at he
      exact ih h.2.2 e he
theorem Chain.le : ∀ {l : List Ev} {a b : Int}, Chain a l b → a ≤ b := by
  intro l
  induction l with
  | nil => intro a b h; have h : a = b := h; omega
  | cons x l ih => intro a b h; have := ih h.2.2; have := h.1.le; have := h.2.1; omega
structure RingOk (r : List It) (n : Int) : Prop where
  so : Sorted r
  lt : ∀ x ∈ r, x.seq < n ∧ 1 ≤ x.seq ∧ x.seq ≤ 1000000 ∧ x.text.length ≤ 12
  len : r.length ≤ 6
structure On (a : Int) (f : Fed) : Prop where
  a1 : 1 ≤ a
  ch : Chain a f.log f.next
  rg : RingOk f.ring f.next
theorem On.n1 {a : Int} {f : Fed} (h : On a f) : 1 ≤ f.next := by have := h.ch.le; have := h.a1; omega
def Wo (w : List It) : Prop := ∀ x ∈ w, x.text.length ≤ 12 ∧ x.seq ≤ 1000000
theorem ringAdd_lt {r : List It} {n : Int} (h : ∀ x ∈ r, x.seq < n) (i : It) (hi : i.seq = n) : ringAdd r i = (r ++ [i]).drop (r.length + 1 - 6) := by
  unfold ringAdd
  rw [if_neg]
  rintro ⟨h0, h1⟩
  have : r.getD (r.length - 1) default ∈ r := by
    rw [List.getD_eq_getElem?_getD, List.getElem?_eq_getElem (by omega)]
    exact List.getElem_mem _
  have := h _ this
  omega
theorem On.take {a : Int} {f : Fed} (h : On a f) {x : It} (w : List It) (hx : x.seq = f.next) (ht : x.text.length ≤ 12 ∧ x.seq ≤ 1000000) : On a (take1 f x w) := by
  have hn := h.n1
  refine ⟨h.a1, ?_, ?_⟩
  · show Chain a (f.log ++ [told x]) (f.next + 1)
    have := h.ch.snoc (e := told x) ⟨Int.le_refl _, ht.2, Or.inl ⟨rfl, rfl, ht.1, rfl⟩⟩ hx
    have e : (told x).hi + 1 = f.next + 1 := by show x.seq + 1 = _; omega
    rw [e] at this; exact this
  · show RingOk (ringAdd f.ring x) (f.next + 1)
    have e := ringAdd_lt (fun y hy => (h.rg.lt y hy).1) x hx
    refine ⟨?_, fun y hy => ?_, ringAdd_6 h.rg.len x⟩
    · rw [e]
      refine List.Pairwise.sublist (List.drop_sublist _ _) (List.pairwise_append.2 ⟨h.rg.so, List.pairwise_singleton _ _, fun y hy z hz => ?_⟩)
      rw [List.mem_singleton] at hz
      subst hz
      have := (h.rg.lt y hy).1
      omega
    · rw [e] at hy
      have hy := List.mem_of_mem_drop hy
      simp only [List.mem_append, List.mem_singleton] at hy
      rcases hy with hy | rfl
      · have := h.rg.lt y hy; omega
      · omega
theorem On.of {a : Int} {f g : Fed} (h : On a f) (h1 : g.next = f.next) (h2 : g.log = f.log) (h3 : g.ring = f.ring) : On a g := ⟨h.a1, by rw [h1, h2]; exact h.ch, by rw [h3, h1]; exact h.rg⟩
theorem goesL_on {a : Int} : ∀ (w : List It) (f : Fed), On a f → Wo w → On a (goesL w f).1 := by
  intro w
  induction w with
  | nil => intro f h _; exact h.of rfl rfl rfl
  | cons x w ih =>
    intro f h hw
    unfold goesL
    by_cases hx : x.seq = f.next
    · rw [if_pos hx]
      exact ih _ (h.take w hx (hw x List.mem_cons_self)) (fun y hy => hw y (List.mem_cons_of_mem _ hy))
    · rw [if_neg hx]; exact h.of rfl rfl rfl
theorem On.tells {a : Int} {f : Fed} (h : On a f) (hw : Wo f.win) : On a f.tells.1 ∧ Wo f.tells.1.win := by
  obtain ⟨t1, t2, t3, t4, t5, t6⟩ := tells_fst f
  refine ⟨(goesL_on f.win f h hw).of t4 t3 t1, fun x hx => ?_⟩
  rw [t2] at hx
  exact hw x ((goesL_bd f.win f).2.2.2.2.2 x hx)
theorem On.skips {a : Int} {f : Fed} (h : On a f) (hw : Wo f.win) (hi : Int) {why : Int} (hy : why = 1 ∨ why = 2) : On a (skips f hi why).1 := by
  unfold Go.Feed.skips
  split
  · exact h
  · rename_i c
    have key : ∀ (n : Nat) (f : Fed) (out : List Sp) (g : Fed) (o : List Sp), skipsN n f hi why out = some (g, o) → On a f → Wo f.win → On a g := by
      intro n
      induction n with
      | zero => intro f out g o h; cases h
      | succ n ih =>
        intro f out g o h hp hw
        unfold skipsN at h
        by_cases c1 : f.next ≤ hi
        · rw [if_pos c1] at h
          simp only at h
          have hle := fahead_le (f := f) (hi := hi)
          have h1 : On a (if f.next ≤ (fahead f hi).1 then skip1 f (fahead f hi).1 why else f) ∧ (if f.next ≤ (fahead f hi).1 then skip1 f (fahead f hi).1 why else f).win = f.win := by
            split
            · rename_i c2
              refine ⟨⟨hp.a1, ?_, ⟨hp.rg.so, fun x hx => ?_, hp.rg.len⟩⟩, rfl⟩
              · exact hp.ch.snoc (e := gapE f.next (fahead f hi).1 why) ⟨c2, by show (fahead f hi).1 ≤ 1000000; omega, Or.inr ⟨rfl, rfl, hy⟩⟩ rfl
              · have := hp.rg.lt x hx
                show x.seq < (fahead f hi).1 + 1 ∧ _
                omega
            · exact ⟨hp, rfl⟩
          generalize (if f.next ≤ (fahead f hi).1 then skip1 f (fahead f hi).1 why else f) = f1 at *
          have ht := h1.1.tells (by rw [h1.2]; exact hw)
          split at h
          · split at h
            · simp only [Option.some.injEq, Prod.mk.injEq] at h
              obtain ⟨rfl, rfl⟩ := h
              exact ht.1
            · exact ih _ _ _ _ h ht.1 ht.2
          · simp only [Option.some.injEq, Prod.mk.injEq] at h
            obtain ⟨rfl, rfl⟩ := h
            exact h1.1
        · rw [if_neg c1] at h
          simp only [Option.some.injEq, Prod.mk.injEq] at h
          obtain ⟨rfl, rfl⟩ := h
          exact hp
    obtain ⟨⟨g, o⟩, e⟩ := skipsN_some (hi := hi) (why := why) (f.win.length + 1) f [] (by omega)
    rw [e]
    have := key _ _ _ _ _ e h hw
    simp only
    split
    · exact this.of rfl rfl rfl
    · exact this
theorem On.knows {a : Int} {f : Fed} (h : On a f) (hw : Wo f.win) (t : Int) : On a (f.knows t) ∧ Wo (f.knows t).win := by
  obtain ⟨k1, k2, k3, k4⟩ := knows_eq f t
  exact ⟨h.of k1 k4 k3, by rw [k2]; exact hw⟩
theorem On.deed {a : Int} {f : Fed} (h : On a f) (hw : Wo f.win) (x y z now : Int) : On a (f.deed x y z now) ∧ Wo (f.deed x y z now).win := by
  have hn := h.n1
  unfold Fed.deed
  split
  · unfold Fed.begin_
    rw [if_pos (by omega)]
    exact h.knows hw _
  · split
    · unfold Fed.notes
      split
      · exact ⟨h, hw⟩
      · split
        · exact h.knows hw _
        · have hs := h.skips hw (near f y + z % 6 - 1) (why := 1) (Or.inl rfl)
          have hm := skips_mem (f := f) (near f y + z % 6 - 1) 1
          generalize (Go.Feed.skips f (near f y + z % 6 - 1) 1).1 = S at *
          exact On.tells (f := { S with top := _ }) (hs.of rfl rfl rfl) (fun x hx => hw x (hm x hx))
    · split
      · exact h.knows hw _
      · split
        · unfold Fed.tick
          split
          · exact ⟨h, hw⟩
          · split
            · have hs := h.skips hw (wants f).1.2 (why := 2) (Or.inr rfl)
              have hm := skips_mem (f := f) (wants f).1.2 2
              exact hs.tells (fun x hx => hw x (hm x hx))
            · exact ⟨h.of rfl rfl rfl, hw⟩
        · unfold Fed.comes
          split
          · exact ⟨h, hw⟩
          · rename_i c
            have hk := h.knows hw (near f y)
            simp only at hk c ⊢
            generalize f.knows (near f y) = K at *
            refine On.tells (f := { K with win := _ }) (hk.1.of rfl rfl rfl) (fun x hx => ?_)
            have hx : x ∈ (put K.win K.next ⟨near f y, texts.getD (z % 5).toNat []⟩).1 := hx
            rcases put_mem hx with hx | rfl
            · exact hk.2 x hx
            · simp only; omega
theorem deed_0 {k : Nat} {f : Fed} (hd : Dd k f) (h : f.next = 0) (x y z now : Int) : (f.deed x y z now).log = [] ∧ (f.deed x y z now).ring = [] ∧ (f.deed x y z now).win = [] := by
  obtain ⟨z1, z2, z3⟩ := hd.z h
  have key : f.deed x y z now = f ∨ f.deed x y z now = { f with next := near f y } := by
    unfold Fed.deed
    split
    · unfold Fed.begin_
      rw [if_neg (by omega)]
      split
      · exact Or.inr rfl
      · exact Or.inl rfl
    · left
      split
      · unfold Fed.notes; rw [if_pos (Or.inl h)]
      · split
        · unfold Fed.knows; rw [if_neg (by omega)]
        · split
          · unfold Fed.tick
            rw [if_pos]
            left
            unfold wants
            simp only
            rw [if_pos (Or.inl h)]
          · unfold Fed.comes; rw [if_pos (Or.inl h)]
  rcases key with e | e <;> rw [e] <;> exact ⟨z2, z3, z1⟩
end Go.Feed
