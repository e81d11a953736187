/- The log is one (plain). -/
import Derived.Test.YtccgolmdhikdoaaPmFeed5
set_option linter.unusedVariables false
namespace Go.Feed
structure OkE (e : Ev) : Prop where
  le : e.lo ≤ e.hi
  hi : e.hi ≤ 1000000
  kd : (e.kind = 1 ∧ e.hi = e.lo ∧ e.text.length ≤ 12 ∧ e.why = 0) ∨ (e.kind = 2 ∧ e.text = [] ∧ (e.why = 1 ∨ e.why = 2))
def Chain : Int → List Ev → Int → Prop
  | a, [], b => a = b
  | a, e :: l, b => OkE e ∧ e.lo = a ∧ Chain (e.hi + 1) l b
theorem Chain.snoc : ∀ {l : List Ev} {a b : Int} {e : Ev}, Chain a l b → OkE e → e.lo = b → Chain a (l ++ [e]) (e.hi + 1) := by
  intro l
  induction l with
  | nil => intro a b e h h1 h2; exact ⟨h1, by have h : a = b := h; omega, rfl⟩
  | cons x l ih => intro a b e h h1 h2; exact ⟨h.1, h.2.1, ih h.2.2 h1 h2⟩
theorem Chain.last : ∀ {l : List Ev} {a b : Int}, Chain a l b → ∀ e, l.getLast? = some e → e.hi + 1 = b := by
  intro l
  induction l with
  | nil => intro a b _ e h; cases h
  | cons x l ih =>
    intro a b h e he
    cases l with
    | nil =>
      simp at he
      subst he
      exact h.2.2
    | cons y l =>
      rw [List.getLast?_cons_cons] at he
      exact ih h.2.2 e he
theorem Chain.le : ∀ {l : List Ev} {a b : Int}, Chain a l b → a ≤ b := by
  intro l
  induction l with
  | nil => intro a b h; have h : a = b := h; omega
  | cons x l ih => intro a b h; have := ih h.2.2; have := h.1.le; have := h.2.1; omega
structure RingOk (r : List It) (n : Int) : Prop where
  so : Sorted r
  lt : ∀ x ∈ r, x.seq < n ∧ 1 ≤ x.seq ∧ x.seq ≤ 1000000 ∧ x.text.length ≤ 12
  len : r.length ≤ 6
structure On (a : Int) (f : Fed) : Prop where
  a1 : 1 ≤ a
  ch : Chain a f.log f.next
  rg : RingOk f.ring f.next
theorem On.n1 {a : Int} {f : Fed} (h : On a f) : 1 ≤ f.next := by have := h.ch.le; have := h.a1; omega
def Wo (w : List It) : Prop := ∀ x ∈ w, x.text.length ≤ 12 ∧ x.seq ≤ 1000000
theorem ringAdd_lt {r : List It} {n : Int} (h : ∀ x ∈ r, x.seq < n) (i : It) (hi : i.seq = n) : ringAdd r i = (r ++ [i]).drop (r.length + 1 - 6) := by
  unfold ringAdd
  rw [if_neg]
  rintro ⟨h0, h1⟩
  have : r.getD (r.length - 1) default ∈ r := by
    rw [List.getD_eq_getElem?_getD, List.getElem?_eq_getElem (by omega)]
    exact List.getElem_mem _
  have := h _ this
  omega
theorem On.take {a : Int} {f : Fed} (h : On a f) {x : It} (w : List It) (hx : x.seq = f.next) (ht : x.text.length ≤ 12 ∧ x.seq ≤ 1000000) : On a (take1 f x w) := by
  have hn := h.n1
  refine ⟨h.a1, ?_, ?_⟩
  · show Chain a (f.log ++ [told x]) (f.next + 1)
    have := h.ch.snoc (e := told x) ⟨Int.le_refl _, ht.2, Or.inl ⟨rfl, rfl, ht.1, rfl⟩⟩ hx
    have e : (told x).hi + 1 = f.next + 1 := by show x.seq + 1 = _; omega
    rw [e] at this; exact this
  · show RingOk (ringAdd f.ring x) (f.next + 1)
    have e := ringAdd_lt (fun y hy => (h.rg.lt y hy).1) x hx
    refine ⟨?_, fun y hy => ?_, ringAdd_6 h.rg.len x⟩
    · rw [e]
      refine List.Pairwise.sublist (List.drop_sublist _ _) (List.pairwise_append.2 ⟨h.rg.so, List.pairwise_singleton _ _, fun y hy z hz => ?_⟩)
      rw [List.mem_singleton] at hz
      subst hz
      have := (h.rg.lt y hy).1
      omega
    · rw [e] at hy
      have hy := List.mem_of_mem_drop hy
      simp only [List.mem_append, List.mem_singleton] at hy
      rcases hy with hy | rfl
      · have := h.rg.lt y hy; omega
      · omega
theorem On.of {a : Int} {f g : Fed} (h : On a f) (h1 : g.next = f.next) (h2 : g.log = f.log) (h3 : g.ring = f.ring) : On a g := ⟨h.a1, by rw [h1, h2]; exact h.ch, by rw [h3, h1]; exact h.rg⟩
theorem goesL_on {a : Int} : ∀ (w : List It) (f : Fed), On a f → Wo w → On a (goesL w f).1 := by
  intro w
  induction w with
  | nil => intro f h _; exact h.of rfl rfl rfl
  | cons x w ih =>
    intro f h hw
    unfold goesL
    by_cases hx : x.seq = f.next
    · rw [if_pos hx]
      exact ih _ (h.take w hx (hw x List.mem_cons_self)) (fun y hy => hw y (List.mem_cons_of_mem _ hy))
    · rw [if_neg hx]; exact h.of rfl rfl rfl
theorem On.tells {a : Int} {f : Fed} (h : On a f) (hw : Wo f.win) : On a f.tells.1 ∧ Wo f.tells.1.win := by
  obtain ⟨t1, t2, t3, t4, t5, t6⟩ := tells_fst f
  refine ⟨(goesL_on f.win f h hw).of t4 t3 t1, fun x hx => ?_⟩
  rw [t2] at hx
  exact hw x ((goesL_bd f.win f).2.2.2.2.2 x hx)
theorem On.skips {a : Int} {f : Fed} (h : On a f) (hw : Wo f.win) (hi : Int) {why : Int} (hy : why = 1 ∨ why = 2) : On a (skips f hi why).1 := by
  unfold Go.Feed.skips
  split
  · exact h
  · rename_i c
    have key : ∀ (n : Nat) (f : Fed) (out : List Sp) (g : Fed) (o : List Sp), skipsN n f hi why out = some (g, o) → On a f → Wo f.win → On a g := by
      intro n
      induction n with
      | zero => intro f out g o h; cases h
      | succ n ih =>
        intro f out g o h hp hw
        unfold skipsN at h
        by_cases c1 : f.next ≤ hi
        · rw [if_pos c1] at h
          simp only at h
          have hle := fahead_le (f := f) (hi := hi)
          have h1 : On a (if f.next ≤ (fahead f hi).1 then skip1 f (fahead f hi).1 why else f) ∧ (if f.next ≤ (fahead f hi).1 then skip1 f (fahead f hi).1 why else f).win = f.win := by
            split
            · rename_i c2
              refine ⟨⟨hp.a1, ?_, ⟨hp.rg.so, fun x hx => ?_, hp.rg.len⟩⟩, rfl⟩
              · exact hp.ch.snoc (e := gapE f.next (fahead f hi).1 why) ⟨c2, by show (fahead f hi).1 ≤ 1000000; omega, Or.inr ⟨rfl, rfl, hy⟩⟩ rfl
              · have := hp.rg.lt x hx
                show x.seq < (fahead f hi).1 + 1 ∧ _
                omega
            · exact ⟨hp, rfl⟩
          generalize (if f.next ≤ (fahead f hi).1 then skip1 f (fahead f hi).1 why else f) = f1 at *
          have ht := h1.1.tells (by rw [h1.2]; exact hw)
          split at h
          · split at h
            · simp only [Option.some.injEq, Prod.mk.injEq] at h
              obtain ⟨rfl, rfl⟩ := h
              exact ht.1
            · exact ih _ _ _ _ h ht.1 ht.2
          · simp only [Option.some.injEq, Prod.mk.injEq] at h
            obtain ⟨rfl, rfl⟩ := h
            exact h1.1
        · rw [if_neg c1] at h
          simp only [Option.some.injEq, Prod.mk.injEq] at h
          obtain ⟨rfl, rfl⟩ := h
          exact hp
    obtain ⟨⟨g, o⟩, e⟩ := skipsN_some (hi := hi) (why := why) (f.win.length + 1) f [] (by omega)
    rw [e]
    have := key _ _ _ _ _ e h hw
    simp only
    split
    · exact this.of rfl rfl rfl
    · exact this
theorem On.knows {a : Int} {f : Fed} (h : On a f) (hw : Wo f.win) (t : Int) : On a (f.knows t) ∧ Wo (f.knows t).win := by
  obtain ⟨k1, k2, k3, k4⟩ := knows_eq f t
  exact ⟨h.of k1 k4 k3, by rw [k2]; exact hw⟩
end Go.Feed
/- Feeds that are made of choices (plain). -/
set_option linter.unusedVariables false
namespace Go.Feed
structure Md (a : Int) (k : Nat) (f : Fed) : Prop where
  dd : Dd k f
  on : On a f
  wo : Wo f.win
theorem Md.weaken {a : Int} {k m : Nat} {f : Fed} (h : Md a k f) (hm : m ≤ k) : Md a m f := ⟨h.dd.weaken hm, h.on, h.wo⟩
theorem Md.knows {a : Int} {k : Nat} {f : Fed} (h : Md a k f) (t : Int) : Md a k (f.knows t) := ⟨(h.dd.knows t).1, (h.on.knows h.wo t).1, (h.on.knows h.wo t).2⟩
theorem Md.notes {a : Int} {k : Nat} {f : Fed} (h : Md a (k + 3) f) (lo hi : Int) : Md a k (f.notes lo hi) := by
  suffices key : On a (f.notes lo hi) ∧ Wo (f.notes lo hi).win from ⟨(h.dd.notes lo hi).1, key.1, key.2⟩
  unfold Fed.notes
  split
  · exact ⟨h.on, h.wo⟩
  · split
    · exact h.on.knows h.wo _
    · have hs := h.on.skips h.wo hi (why := 1) (Or.inl rfl)
      have hm := skips_mem (f := f) hi 1
      generalize (Go.Feed.skips f hi 1).1 = S at *
      exact On.tells (f := { S with top := _ }) (hs.of rfl rfl rfl) (fun x hx => h.wo x (hm x hx))
theorem Md.tick {a : Int} {k : Nat} {f : Fed} (h : Md a (k + 3) f) (now : Int) : Md a k (f.tick now).1 := by
  suffices key : On a ((f.tick now).1) ∧ Wo ((f.tick now).1).win from ⟨(h.dd.tick now).1, key.1, key.2⟩
  unfold Fed.tick
  split
  · exact ⟨h.on, h.wo⟩
  · split
    · have hs := h.on.skips h.wo (wants f).1.2 (why := 2) (Or.inr rfl)
      have hm := skips_mem (f := f) (wants f).1.2 2
      exact hs.tells (fun x hx => h.wo x (hm x hx))
    · exact ⟨h.on.of rfl rfl rfl, h.wo⟩
theorem Md.comes {a : Int} {k : Nat} {f : Fed} (h : Md a (k + 3) f) (i : It) : Md a k (f.comes i) := by
  suffices key : On a (f.comes i) ∧ Wo (f.comes i).win from ⟨(h.dd.comes i).1, key.1, key.2⟩
  unfold Fed.comes
  split
  · exact ⟨h.on, h.wo⟩
  · rename_i c
    have hk := h.on.knows h.wo i.seq
    generalize f.knows i.seq = K at *
    refine On.tells (f := { K with win := _ }) (hk.1.of rfl rfl rfl) (fun x hx => ?_)
    have hx : x ∈ (put K.win K.next i).1 := hx
    rcases put_mem hx with hx | rfl
    · exact hk.2 x hx
    · omega
def Fed0 : Fed := ⟨0, 0, [], [], [], 0, 0⟩
theorem Md.start {a : Int} (h : 1 ≤ a ∧ a ≤ 1000) : Md a 690000 { Fed0 with next := a } := by
  refine ⟨⟨⟨List.Pairwise.nil, fun x hx => by simp [Fed0] at hx, by simp [Fed0], by simp [Fed0]⟩, ⟨by simp [Fed0], by simp [Fed0], by simp only; omega, by simp only [Fed0, List.length_nil]; omega, fun x hx => by simp [Fed0] at hx⟩, by simp only; omega, by simp only; omega, fun x hx => by simp [Fed0] at hx, fun e => by simp only at e; omega⟩,
    ⟨h.1, rfl, ⟨List.Pairwise.nil, fun x hx => by simp [Fed0] at hx, by simp [Fed0]⟩⟩, fun x hx => by simp [Fed0] at hx⟩
end Go.Feed
