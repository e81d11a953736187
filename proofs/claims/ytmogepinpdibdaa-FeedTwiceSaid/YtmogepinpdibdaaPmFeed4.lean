/- What comes again; what is known (plain). -/
import Derived.Test.YtmogepinpdibdaaPmFeed3
set_option linter.unusedVariables false
namespace Go.Feed
theorem tells_id {f : Fed} (h : ∀ x ∈ f.win, f.next < x.seq) : f.tells = (f, []) := by
  have e : goesL f.win f = (f, []) := by
    cases hw : f.win with
    | nil =>
      unfold goesL
      have : ({ f with win := [] } : Fed) = f := by rw [← hw]
      rw [this]
    | cons x w =>
      have hx := h x (by rw [hw]; exact List.mem_cons_self)
      unfold goesL
      rw [if_neg (by omega)]
      have : ({ f with win := x :: w } : Fed) = f := by rw [← hw]
      rw [this]
  unfold Fed.tells
  rw [e]; rfl
theorem knows_id {f : Fed} {t : Int} (h : t ≤ f.top) : f.knows t = f := by
  unfold Fed.knows
  split
  · have : max f.top t = f.top := by omega
    rw [this]
  · rfl
theorem goesL_mem : ∀ (w : List It) (f : Fed) (x : It), x ∈ w → x ∈ (goesL w f).1.win ∨ x.seq < (goesL w f).1.next := by
  intro w
  induction w with
  | nil => intro f x h; cases h
  | cons y w ih =>
    intro f x h
    unfold goesL
    by_cases hy : y.seq = f.next
    · rw [if_pos hy]
      rcases List.mem_cons.1 h with rfl | h
      · right
        have := (goesL_bd w (take1 f x w)).2.2.2.1
        have e : (take1 f x w).next = f.next + 1 := rfl
        show x.seq < (goesL w (take1 f x w)).1.next
        omega
      · exact ih _ x h
    · rw [if_neg hy]; exact Or.inl h
theorem there_mem {w : List It} {x : It} (h : x ∈ w) : there w x.seq = true := List.any_eq_true.2 ⟨x, h, by simp⟩
theorem comes_id {f : Fed} {i : It} (h1 : i.seq ≤ f.top) (h2 : i.seq < f.next ∨ there f.win i.seq = true) (h3 : ∀ x ∈ f.win, f.next < x.seq) : f.comes i = f := by
  unfold Fed.comes
  split
  · rfl
  · rw [knows_id h1]
    have e : put f.win f.next i = (f.win, false) := by
      unfold put
      rw [if_pos]
      rcases h2 with h | h
      · exact Or.inr (Or.inl h)
      · exact Or.inl h
    rw [e]
    rw [tells_id h3]
theorem comes_twice {k : Nat} {f : Fed} (h : Dd k f) {i j : It} (hj : j.seq = i.seq) (hi : i.text.length ≤ 12) (hf : i.seq < f.next + 8) : (f.comes i).comes j = f.comes i := by
  by_cases c : f.next = 0 ∨ i.seq < 1 ∨ 1000000 < i.seq ∨ 12 < i.text.length
  · have e : f.comes i = f := by unfold Fed.comes; exact if_pos c
    rw [e]
    unfold Fed.comes
    rw [if_pos]
    rw [hj]
    omega
  · obtain ⟨hk, gk⟩ := h.knows i.seq
    have hn := h.n0
    have kt := knows_top (f := f) (t := i.seq) (by omega) (by omega)
    obtain ⟨k1, k2, k3, k4⟩ := knows_eq f i.seq
    have e : f.comes i = ({ f.knows i.seq with win := (put (f.knows i.seq).win (f.knows i.seq).next i).1 } : Fed).tells.1 := by unfold Fed.comes; exact if_neg c
    rw [e]
    generalize f.knows i.seq = K at *
    have hp : i.seq < K.next ∨ ∃ y ∈ (put K.win K.next i).1, y.seq = i.seq := by
      by_cases c1 : i.seq < K.next
      · exact Or.inl c1
      · right
        unfold put
        split
        · rename_i c2
          rcases c2 with c2 | c2 | c2
          · obtain ⟨y, hy, e⟩ := List.any_eq_true.1 c2
            exact ⟨y, hy, by simpa using e⟩
          · exact absurd c2 c1
          · omega
        · exact ⟨i, by simp, rfl⟩
    have ps := put_sorted hk.inv.so K.next i
    have pg := put_ge (n := K.next) (x := i) (w := K.win) hk.inv.ge
    generalize (put K.win K.next i).1 = W at *
    have hv : Inv ({ K with win := W } : Fed) := ⟨ps, pg, hk.inv.rg, hk.inv.tr⟩
    have hs := hv.tells.2
    obtain ⟨t1, t2, t3, t4, t5, t6⟩ := tells_fst ({ K with win := W } : Fed)
    have gb := goesL_bd W ({ K with win := W } : Fed)
    have gm := goesL_mem W ({ K with win := W } : Fed)
    refine comes_id ?_ ?_ hs
    · rw [t5, gb.2.2.2.2.1, hj]; show i.seq ≤ K.top; omega
    · rw [hj, t4, t2]
      rcases hp with hp | ⟨y, hy, e⟩
      · left
        have := gb.2.2.2.1
        have e0 : ({ K with win := W } : Fed).next = K.next := rfl
        show i.seq < (goesL W { K with win := W }).1.next
        omega
      · rcases gm y hy with h | h
        · right; rw [← e]; exact there_mem h
        · left; rw [← e]; exact h
theorem skipsN_past {hi why : Int} : ∀ (n : Nat) (f : Fed) (out : List Sp) (g : Fed) (o : List Sp), skipsN n f hi why out = some (g, o) → Inv f → hi < g.next := by
  intro n
  induction n with
  | zero => intro f out g o h; cases h
  | succ n ih =>
    intro f out g o h hv
    unfold skipsN at h
    by_cases c : f.next ≤ hi
    · rw [if_pos c] at h
      simp only at h
      have hiv := hv.skip (why := why) c
      have hfa := fahead_inv hv hi
      have hf1 : ((fahead f hi).2 = false ∧ hi < (if f.next ≤ (fahead f hi).1 then skip1 f (fahead f hi).1 why else f).next) ∨
          ((fahead f hi).2 = true ∧ (if f.next ≤ (fahead f hi).1 then skip1 f (fahead f hi).1 why else f).tells.2 ≠ []) := by
        cases hw : f.win with
        | nil =>
          rw [hw] at hfa
          rw [hfa]
          left
          refine ⟨rfl, ?_⟩
          rw [if_pos c]
          show hi < hi + 1; omega
        | cons x w =>
          rw [hw] at hfa
          have hx := hv.ge x (by rw [hw]; exact List.mem_cons_self)
          by_cases cx : x.seq ≤ hi
          · simp only [if_pos cx] at hfa
            rw [hfa]
            right
            refine ⟨rfl, ?_⟩
            split
            · refine tells_pos (x := x) (w := w) hw ?_
              show x.seq = x.seq - 1 + 1; omega
            · rename_i c2
              have c2 : ¬ f.next ≤ x.seq - 1 := c2
              exact tells_pos hw (by omega)
          · simp only [if_neg cx] at hfa
            rw [hfa]
            left
            refine ⟨rfl, ?_⟩
            rw [if_pos c]
            show hi < hi + 1; omega
      generalize (if f.next ≤ (fahead f hi).1 then skip1 f (fahead f hi).1 why else f) = f1 at *
      rcases hf1 with ⟨h1, h2⟩ | ⟨h1, h2⟩
      · rw [h1] at h
        simp only [Bool.false_eq_true, if_false, Option.some.injEq, Prod.mk.injEq] at h
        obtain ⟨rfl, rfl⟩ := h
        exact h2
      · rw [if_pos h1, if_neg h2] at h
        exact ih _ _ _ _ h hiv.tells.1
    · rw [if_neg c] at h
      simp only [Option.some.injEq, Prod.mk.injEq] at h
      obtain ⟨rfl, rfl⟩ := h
      omega
theorem skips_past {f : Fed} (hv : Inv f) {hi why : Int} (h1 : 1 ≤ f.next) (h2 : hi ≤ 1000000) : hi < (skips f hi why).1.next := by
  unfold skips
  rw [if_neg (by omega)]
  obtain ⟨⟨g, o⟩, e⟩ := skipsN_some (hi := hi) (why := why) (f.win.length + 1) f [] (by omega)
  rw [e]
  have := skipsN_past _ _ _ _ _ e hv
  simp only
  split
  · exact this
  · exact this
theorem notes_twice {k : Nat} {f : Fed} (h : Dd (k + 3) f) (lo hi : Int) : (f.notes lo hi).notes lo hi = f.notes lo hi := by
  by_cases c : f.next = 0 ∨ lo < 1 ∨ hi < lo ∨ 1000000 < hi
  · have e : f.notes lo hi = f := by unfold Fed.notes; exact if_pos c
    rw [e, e]
  · have hn := h.n0
    by_cases c2 : f.next < lo ∨ hi < f.next
    · have e : f.notes lo hi = f.knows hi := by unfold Fed.notes; rw [if_neg c, if_pos c2]
      rw [e]
      obtain ⟨k1, _⟩ := knows_eq f hi
      have kt := knows_top (f := f) (t := hi) (by omega) (by omega)
      unfold Fed.notes
      rw [k1, if_neg c, if_pos c2]
      exact knows_id (by omega)
    · have e : f.notes lo hi = ({ (skips f hi 1).1 with top := max (skips f hi 1).1.top hi } : Fed).tells.1 := by unfold Fed.notes; rw [if_neg c, if_neg c2]
      rw [e]
      have hp := skips_past h.inv (hi := hi) (why := 1) (by omega) (by omega)
      have hs := (h.weaken (show k + 1 ≤ k + 3 by omega)).skips hi 1
      generalize (skips f hi 1).1 = S at *
      have ht := (hs.1.setTop (max S.top hi)).tells
      have e1 : max S.top hi ≤ ({ S with top := max S.top hi } : Fed).tells.1.top := ht.2.tp
      have e2 : S.next ≤ ({ S with top := max S.top hi } : Fed).tells.1.next := ht.2.nx
      generalize ({ S with top := max S.top hi } : Fed).tells.1 = T at *
      unfold Fed.notes
      rw [if_neg (by omega), if_pos (Or.inr (by omega))]
      exact knows_id (by omega)
def Tp (f : Fed) : Prop := ∀ x ∈ f.win, x.seq ≤ f.top
theorem Tp.tells {f : Fed} (h : Tp f) : Tp f.tells.1 := fun x hx => by
  obtain ⟨t1, t2, t3, t4, t5, t6⟩ := tells_fst f
  have gb := goesL_bd f.win f
  rw [t2] at hx
  rw [t5, gb.2.2.2.2.1]
  exact h x (gb.2.2.2.2.2 x hx)
theorem Tp.knows {f : Fed} (h : Tp f) (t : Int) : Tp (f.knows t) := fun x hx => by
  obtain ⟨k1, k2, k3, k4⟩ := knows_eq f t
  rw [k2] at hx
  have := h x hx
  unfold Fed.knows; split
  · show x.seq ≤ max f.top t; omega
  · exact this
theorem skips_mem {f : Fed} (hi why : Int) : ∀ x ∈ (skips f hi why).1.win, x ∈ f.win := by
  unfold skips
  split
  · exact fun x h => h
  · have key : ∀ (n : Nat) (f : Fed) (out : List Sp) (g : Fed) (o : List Sp), skipsN n f hi why out = some (g, o) → ∀ x ∈ g.win, x ∈ f.win := by
      intro n
      induction n with
      | zero => intro f out g o h; cases h
      | succ n ih =>
        intro f out g o h
        unfold skipsN at h
        by_cases c1 : f.next ≤ hi
        · rw [if_pos c1] at h
          simp only at h
          have hw : (if f.next ≤ (fahead f hi).1 then skip1 f (fahead f hi).1 why else f).win = f.win := by split <;> rfl
          generalize (if f.next ≤ (fahead f hi).1 then skip1 f (fahead f hi).1 why else f) = f1 at *
          obtain ⟨t1, t2, t3, t4, t5, t6⟩ := tells_fst f1
          have gb := goesL_bd f1.win f1
          have tm : ∀ x ∈ f1.tells.1.win, x ∈ f.win := fun x hx => by rw [t2] at hx; rw [← hw]; exact gb.2.2.2.2.2 x hx
          split at h
          · split at h
            · simp only [Option.some.injEq, Prod.mk.injEq] at h
              obtain ⟨rfl, rfl⟩ := h
              exact tm
            · exact fun x hx => tm x (ih _ _ _ _ h x hx)
          · simp only [Option.some.injEq, Prod.mk.injEq] at h
            obtain ⟨rfl, rfl⟩ := h
            rw [hw]; exact fun x h => h
        · rw [if_neg c1] at h
          simp only [Option.some.injEq, Prod.mk.injEq] at h
          obtain ⟨rfl, rfl⟩ := h
          exact fun x h => h
    obtain ⟨⟨g, o⟩, e⟩ := skipsN_some (hi := hi) (why := why) (f.win.length + 1) f [] (by omega)
    rw [e]
    have := key _ _ _ _ _ e
    simp only
    split
    · exact this
    · exact this
theorem Tp.skips {f : Fed} (h : Tp f) (hi why : Int) : Tp (skips f hi why).1 := fun x hx => by
  rw [skips_knows]; exact h x (skips_mem hi why x hx)
theorem Tp.deed {k : Nat} {f : Fed} (hd : Dd k f) (h : Tp f) (x y z now : Int) : Tp (f.deed x y z now) := by
  unfold Fed.deed
  split
  · unfold Fed.begin_
    split
    · exact h.knows _
    · split <;> exact h
  · split
    · unfold Fed.notes
      split
      · exact h
      · split
        · exact h.knows _
        · have hs := h.skips (near f y + z % 6 - 1) 1
          generalize (Go.Feed.skips f (near f y + z % 6 - 1) 1).1 = S at *
          refine Tp.tells (fun x hx => ?_)
          have := hs x hx
          show x.seq ≤ max S.top _
          omega
    · split
      · exact h.knows _
      · split
        · unfold Fed.tick
          split
          · exact h
          · split
            · exact (h.skips _ _).tells
            · exact h
        · unfold Fed.comes
          split
          · exact h
          · rename_i c
            have hn := hd.n0
            have kt := knows_top (f := f) (t := near f y) (by omega) (by simp only at c; omega)
            have hk := h.knows (near f y)
            simp only at kt hk ⊢
            generalize f.knows (near f y) = K at *
            refine Tp.tells (fun x hx => ?_)
            show x.seq ≤ K.top
            rcases put_mem hx with hx | rfl
            · exact hk x hx
            · simp only; omega
end Go.Feed
