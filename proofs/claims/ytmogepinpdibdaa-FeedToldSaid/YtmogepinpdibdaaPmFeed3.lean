/- Deeds: what they keep (plain). -/
import Derived.Test.YtmogepinpdibdaaPmFeed2
set_option linter.unusedVariables false
namespace Go.Feed
structure Dd (k : Nat) (f : Fed) : Prop where
  inv : Inv f
  bd : Bd f k
  n0 : 0 ≤ f.next
  n1 : f.next ≤ 1000001
  wn : ∀ x ∈ f.win, x.seq ≤ 1000000
  z : f.next = 0 → f.win = [] ∧ f.log = [] ∧ f.ring = []
theorem Dd.weaken {k m : Nat} {f : Fed} (h : Dd k f) (hm : m ≤ k) : Dd m f := ⟨h.inv, h.bd.weaken hm, h.n0, h.n1, h.wn, h.z⟩
structure Gr (f g : Fed) : Prop where
  lg : f.log <+: g.log
  nx : f.next ≤ g.next
  tp : f.top ≤ g.top
theorem Gr.refl (f : Fed) : Gr f f := ⟨List.prefix_rfl, Int.le_refl _, Int.le_refl _⟩
theorem Gr.trans {f g h : Fed} (a : Gr f g) (b : Gr g h) : Gr f h := ⟨a.lg.trans b.lg, Int.le_trans a.nx b.nx, Int.le_trans a.tp b.tp⟩
theorem goesL_gr : ∀ (w : List It) (f : Fed), (∀ x ∈ w, x.seq ≤ 1000000) → f.next ≤ 1000001 → (goesL w f).1.next ≤ 1000001 ∧ f.log <+: (goesL w f).1.log := by
  intro w
  induction w with
  | nil => intro f _ h; exact ⟨h, List.prefix_rfl⟩
  | cons x w ih =>
    intro f hw h
    unfold goesL
    by_cases hx : x.seq = f.next
    · rw [if_pos hx]
      have h0 := hw x List.mem_cons_self
      have := ih (take1 f x w) (fun y hy => hw y (List.mem_cons_of_mem _ hy)) (by show f.next + 1 ≤ 1000001; omega)
      exact ⟨this.1, (List.prefix_append f.log [told x]).trans this.2⟩
    · rw [if_neg hx]; exact ⟨h, List.prefix_rfl⟩
theorem Dd.tells {k : Nat} {f : Fed} (h : Dd k f) : Dd k f.tells.1 ∧ Gr f f.tells.1 := by
  obtain ⟨t1, t2, t3, t4, t5, t6⟩ := tells_fst f
  have g := goesL_gr f.win f h.wn h.n1
  have b := goesL_bd f.win f
  have nx : f.next ≤ f.tells.1.next := by rw [t4, b.2.2.2.1]; omega
  refine ⟨⟨h.inv.tells.1, h.bd.tells.1.weaken (by omega), by have := h.n0; omega, by rw [t4]; exact g.1, fun x hx => ?_, fun e => ?_⟩, ⟨by rw [t3]; exact g.2, nx, by rw [t5, b.2.2.2.2.1]; exact Int.le_refl _⟩⟩
  · rw [t2] at hx
    exact h.wn x (b.2.2.2.2.2 x hx)
  · obtain ⟨z1, z2, z3⟩ := h.z (by have := h.n0; omega)
    rw [t1, t2, t3, z1]
    exact ⟨rfl, z2, z3⟩
theorem Dd.knows {k : Nat} {f : Fed} (h : Dd k f) (t : Int) : Dd k (f.knows t) ∧ Gr f (f.knows t) := by
  obtain ⟨k1, k2, k3, k4⟩ := knows_eq f t
  refine ⟨⟨h.inv.knows t, h.bd.knows t, by rw [k1]; exact h.n0, by rw [k1]; exact h.n1, by rw [k2]; exact h.wn, by rw [k1, k2, k3, k4]; exact h.z⟩, ⟨by rw [k4]; exact List.prefix_rfl, by rw [k1]; exact Int.le_refl _, ?_⟩⟩
  unfold Fed.knows; split
  · show f.top ≤ max f.top t; omega
  · exact Int.le_refl _
theorem Dd.setTop {k : Nat} {f : Fed} (h : Dd k f) (t : Int) : Dd k { f with top := t } :=
  ⟨⟨h.inv.so, h.inv.ge, h.inv.rg, h.inv.tr⟩, ⟨h.bd.r, h.bd.l, h.bd.n0, h.bd.n1, h.bd.w⟩, h.n0, h.n1, h.wn, h.z⟩
theorem Dd.rest {k : Nat} {f : Fed} (h : Dd k f) : Dd k f.rest :=
  ⟨⟨h.inv.so, h.inv.ge, h.inv.rg, Int.le_refl _⟩, ⟨h.bd.r, h.bd.l, h.bd.n0, h.bd.n1, h.bd.w⟩, h.n0, h.n1, h.wn, h.z⟩
theorem Dd.skips {k : Nat} {f : Fed} (h : Dd (k + 1) f) (hi why : Int) : Dd k (skips f hi why).1 ∧ Gr f (skips f hi why).1 := by
  have hb := h.bd.skips hi why
  have hv := h.inv.skips hi why
  have key : (0 ≤ (Go.Feed.skips f hi why).1.next ∧ (Go.Feed.skips f hi why).1.next ≤ 1000001 ∧ ∀ x ∈ (Go.Feed.skips f hi why).1.win, x.seq ≤ 1000000) ∧ f.log <+: (Go.Feed.skips f hi why).1.log ∧ f.next ≤ (Go.Feed.skips f hi why).1.next := by
    unfold Go.Feed.skips
    split
    · exact ⟨⟨h.n0, h.n1, h.wn⟩, List.prefix_rfl, Int.le_refl _⟩
    · rename_i c
      have key : ∀ (n : Nat) (f : Fed) (out : List Sp) (g : Fed) (o : List Sp), skipsN n f hi why out = some (g, o) → (0 ≤ f.next ∧ f.next ≤ 1000001 ∧ ∀ x ∈ f.win, x.seq ≤ 1000000) → (0 ≤ g.next ∧ g.next ≤ 1000001 ∧ ∀ x ∈ g.win, x.seq ≤ 1000000) ∧ f.log <+: g.log ∧ f.next ≤ g.next := by
        intro n
        induction n with
        | zero => intro f out g o h; cases h
        | succ n ih =>
          intro f out g o h hp
          unfold skipsN at h
          by_cases c1 : f.next ≤ hi
          · rw [if_pos c1] at h
            simp only at h
            have hle := fahead_le (f := f) (hi := hi)
            generalize fahead f hi = a at *
            have h1 : ∃ f1, (if f.next ≤ a.1 then skip1 f a.1 why else f) = f1 ∧ (0 ≤ f1.next ∧ f1.next ≤ 1000001 ∧ ∀ x ∈ f1.win, x.seq ≤ 1000000) ∧ f.log <+: f1.log ∧ f.next ≤ f1.next := by
              refine ⟨_, rfl, ?_⟩
              split
              · exact ⟨⟨by show 0 ≤ a.1 + 1; omega, by show a.1 + 1 ≤ 1000001; omega, hp.2.2⟩, List.prefix_append _ _, by show f.next ≤ a.1 + 1; omega⟩
              · exact ⟨hp, List.prefix_rfl, Int.le_refl _⟩
            obtain ⟨f1, e1, p1, l1, n1⟩ := h1
            rw [e1] at h
            have gr := goesL_gr f1.win f1 p1.2.2 p1.2.1
            have gb := goesL_bd f1.win f1
            obtain ⟨t1, t2, t3, t4, t5, t6⟩ := tells_fst f1
            have p2 : (0 ≤ f1.tells.1.next ∧ f1.tells.1.next ≤ 1000001 ∧ ∀ x ∈ f1.tells.1.win, x.seq ≤ 1000000) ∧ f1.log <+: f1.tells.1.log ∧ f1.next ≤ f1.tells.1.next := by
              refine ⟨⟨by rw [t4, gb.2.2.2.1]; omega, by rw [t4]; exact gr.1, fun x hx => ?_⟩, by rw [t3]; exact gr.2, by rw [t4, gb.2.2.2.1]; omega⟩
              rw [t2] at hx
              exact p1.2.2 x (gb.2.2.2.2.2 x hx)
            split at h
            · split at h
              · simp only [Option.some.injEq, Prod.mk.injEq] at h
                obtain ⟨rfl, rfl⟩ := h
                exact ⟨p2.1, l1.trans p2.2.1, Int.le_trans n1 p2.2.2⟩
              · have := ih _ _ _ _ h p2.1
                exact ⟨this.1, (l1.trans p2.2.1).trans this.2.1, by have := this.2.2; have := p2.2.2; omega⟩
            · simp only [Option.some.injEq, Prod.mk.injEq] at h
              obtain ⟨rfl, rfl⟩ := h
              exact ⟨p1, l1, n1⟩
          · rw [if_neg c1] at h
            simp only [Option.some.injEq, Prod.mk.injEq] at h
            obtain ⟨rfl, rfl⟩ := h
            exact ⟨hp, List.prefix_rfl, Int.le_refl _⟩
      obtain ⟨⟨g, o⟩, e⟩ := skipsN_some (hi := hi) (why := why) (f.win.length + 1) f [] (by omega)
      rw [e]
      have := key _ _ _ _ _ e ⟨h.n0, h.n1, h.wn⟩
      simp only
      split
      · exact this
      · exact this
  refine ⟨⟨hv, hb, key.1.1, key.1.2.1, key.1.2.2, fun e => ?_⟩, ⟨key.2.1, key.2.2, by rw [skips_knows]; exact Int.le_refl _⟩⟩
  have e0 : f.next = 0 := by have := key.2.2; have := h.n0; omega
  unfold Go.Feed.skips
  rw [if_pos (by omega)]
  exact h.z e0
theorem Dd.begin_ {k : Nat} {f : Fed} (h : Dd k f) (n : Int) : Dd k (f.begin_ n) ∧ Gr f (f.begin_ n) := by
  unfold Fed.begin_
  split
  · exact h.knows _
  · split
    · rename_i c c2
      have e0 : f.next = 0 := by have := h.n0; omega
      obtain ⟨z1, z2, z3⟩ := h.z e0
      exact ⟨⟨⟨h.inv.so, (fun x hx => by have hx : x ∈ f.win := hx; rw [z1] at hx; cases hx), h.inv.rg, h.inv.tr⟩, ⟨h.bd.r, h.bd.l, by show -4000000000 ≤ n; omega, by show n + (f.win.length : Int) ≤ 4000000000; rw [z1]; simp; omega, h.bd.w⟩, by show 0 ≤ n; omega, by show n ≤ 1000001; omega, h.wn, fun e => by have e : n = 0 := e; omega⟩, ⟨List.prefix_rfl, by show f.next ≤ n; omega, Int.le_refl _⟩⟩
    · exact ⟨h, Gr.refl f⟩
theorem Dd.comes {k : Nat} {f : Fed} (h : Dd (k + 3) f) (i : It) : Dd k (f.comes i) ∧ Gr f (f.comes i) := by
  unfold Fed.comes
  split
  · exact ⟨h.weaken (by omega), Gr.refl f⟩
  · rename_i c
    obtain ⟨hk, gk⟩ := h.knows i.seq
    have hne : (f.knows i.seq).next ≠ 0 := by rw [(knows_eq f i.seq).1]; omega
    generalize f.knows i.seq = K at *
    have pl := put_len K.win K.next i
    have hl := hk.bd.l
    have hr := hk.inv.rg
    have hd : Dd k ({ K with win := (put K.win K.next i).1 } : Fed) := by
      refine ⟨⟨put_sorted hk.inv.so _ _, put_ge hk.inv.ge, hk.inv.rg, hk.inv.tr⟩, ⟨?_, ?_, hk.bd.n0, ?_, fun x hx => ?_⟩, hk.n0, hk.n1, fun x hx => ?_, fun e => absurd e hne⟩
      · show K.ring.length + (put K.win K.next i).1.length ≤ 700000; omega
      · show K.log.length + 2 * (put K.win K.next i).1.length + k ≤ 700000; omega
      · show K.next + ((put K.win K.next i).1.length : Int) ≤ 4000000000; have := hk.n1; omega
      · rcases put_mem hx with h | rfl
        · exact hk.bd.w x h
        · omega
      · rcases put_mem hx with h | rfl
        · exact hk.wn x h
        · omega
    have ht := hd.tells
    exact ⟨ht.1, gk.trans ⟨ht.2.lg, ht.2.nx, ht.2.tp⟩⟩
theorem Dd.notes {k : Nat} {f : Fed} (h : Dd (k + 3) f) (lo hi : Int) : Dd k (f.notes lo hi) ∧ Gr f (f.notes lo hi) := by
  unfold Fed.notes
  split
  · exact ⟨h.weaken (by omega), Gr.refl f⟩
  · split
    · have := h.knows hi
      exact ⟨this.1.weaken (by omega), this.2⟩
    · have hs := (h.weaken (show k + 1 ≤ k + 3 by omega)).skips hi 1
      generalize (Go.Feed.skips f hi 1).1 = S at *
      have ht := (hs.1.setTop (max S.top hi)).tells
      exact ⟨ht.1, hs.2.trans ⟨ht.2.lg, ht.2.nx, Int.le_trans (by show S.top ≤ max S.top hi; omega) ht.2.tp⟩⟩
theorem Dd.tick {k : Nat} {f : Fed} (h : Dd (k + 3) f) (now : Int) : Dd k (f.tick now).1 ∧ Gr f (f.tick now).1 := by
  unfold Fed.tick
  split
  · exact ⟨h.weaken (by omega), Gr.refl f⟩
  · split
    · have hs := (h.weaken (show k + 1 ≤ k + 3 by omega)).skips (wants f).1.2 2
      have ht := hs.1.tells
      exact ⟨ht.1, hs.2.trans ht.2⟩
    · have h := h.weaken (show k ≤ k + 3 by omega)
      exact ⟨⟨⟨h.inv.so, h.inv.ge, h.inv.rg, by show 0 ≤ f.tries + 1; have := h.inv.tr; omega⟩, ⟨h.bd.r, h.bd.l, h.bd.n0, h.bd.n1, h.bd.w⟩, h.n0, h.n1, h.wn, h.z⟩, ⟨List.prefix_rfl, Int.le_refl _, Int.le_refl _⟩⟩
def texts : List (List UInt8) := [[], [97], [98, 99], [104, 101, 108, 108, 111], [116, 104, 105, 114, 116, 101, 101, 110, 32, 98, 121, 116, 101]]
def near (f : Fed) (y : Int) : Int := max 1 (f.next - 2 + y % 12)
def Fed.deed (f : Fed) (x y z now : Int) : Fed :=
  if x % 8 = 0 then f.begin_ (near f y) else if x % 8 = 1 then f.notes (near f y) (near f y + z % 6 - 1) else if x % 8 = 2 then f.knows (near f y)
  else if x % 8 = 3 ∨ x % 8 = 4 then (f.tick now).1 else f.comes ⟨near f y, texts.getD (z % 5).toNat []⟩
theorem Dd.deed {k : Nat} {f : Fed} (h : Dd (k + 3) f) (x y z now : Int) : Dd k (f.deed x y z now) ∧ Gr f (f.deed x y z now) := by
  have hw := h.weaken (show k ≤ k + 3 by omega)
  unfold Fed.deed
  split
  · exact hw.begin_ _
  · split
    · exact h.notes _ _
    · split
      · exact hw.knows _
      · split
        · exact h.tick _
        · exact h.comes _
end Go.Feed
