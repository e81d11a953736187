import Derived.Test.YtmogepinpdibdaaPmFeed
namespace Go.Feed
structure Line1 (tx : Int → List UInt8) (a : Int) (f : Fed) : Prop where
  an : a ≤ f.next
  ln : (f.log.length : Int) = f.next - a
  lg : ∀ k, k < f.log.length → f.log[k]? = some (told ⟨a + k, tx (a + k)⟩)
  rl : f.ring.length = min f.log.length 6
  rb : ∀ x ∈ f.ring, x.seq < f.next
  tp : f.next = a ∨ f.next - 1 ≤ f.top
structure Told1 (tx : Int → List UInt8) (a : Int) (f : Fed) : Prop where
  row : Line1 tx a f
  so : Sorted f.win
  gt : ∀ x ∈ f.win, f.next < x.seq
  wt : ∀ x ∈ f.win, x.text = tx x.seq ∧ x.seq ≤ f.top
theorem ringAdd_row {r : List It} {n : Int} (h : ∀ x ∈ r, x.seq < n) (i : It) (hi : i.seq = n) : ringAdd r i = (r ++ [i]).drop (r.length + 1 - 6) := by
  unfold ringAdd
  rw [if_neg]
  rintro ⟨h0, h1⟩
  have : r.getD (r.length - 1) default ∈ r := by
    rw [List.getD_eq_getElem?_getD, List.getElem?_eq_getElem (by omega)]
    exact List.getElem_mem _
  have := h _ this
  omega
theorem Line1.take {tx a f} (h : Line1 tx a f) {x : It} (rest : List It) (hx : x.seq = f.next) (ht : x.text = tx x.seq) (hp : x.seq ≤ f.top) : Line1 tx a (take1 f x rest) := by
  have e1 : (take1 f x rest).next = f.next + 1 := rfl
  have e2 : (take1 f x rest).log = f.log ++ [told x] := rfl
  have e3 : (take1 f x rest).ring = ringAdd f.ring x := rfl
  have e4 : (take1 f x rest).top = f.top := rfl
  have rr := ringAdd_row h.rb x hx
  have h1 := h.an
  have h2 := h.ln
  have h3 := h.rl
  refine ⟨by omega, ?_, fun k hk => ?_, ?_, fun y hy => ?_, Or.inr (by omega)⟩
  · rw [e2, e1]; simp; omega
  · rw [e2] at hk ⊢
    simp at hk
    by_cases c : k < f.log.length
    · rw [List.getElem?_append_left c]; exact h.lg k c
    · have : k = f.log.length := by omega
      subst this
      have e : a + (f.log.length : Int) = x.seq := by omega
      rw [List.getElem?_append_right (by omega)]
      simp [e, told, ht]
  · rw [e3, e2, rr]; simp; omega
  · rw [e3, rr] at hy
    have hy := List.mem_of_mem_drop hy
    simp only [List.mem_append, List.mem_singleton] at hy
    rw [e1]
    rcases hy with hy | rfl
    · have := h.rb y hy; omega
    · omega
theorem goesL_row {tx a} : ∀ (w : List It) (f : Fed), Line1 tx a f → (∀ x ∈ w, x.text = tx x.seq ∧ x.seq ≤ f.top) → Line1 tx a (goesL w f).1 := by
  intro w
  induction w with
  | nil => intro f h _; exact ⟨h.an, h.ln, h.lg, h.rl, h.rb, h.tp⟩
  | cons x w ih =>
    intro f h hw
    unfold goesL
    have h0 := hw x List.mem_cons_self
    by_cases hx : x.seq = f.next
    · rw [if_pos hx]
      exact ih _ (h.take w hx h0.1 h0.2) (fun y hy => hw y (List.mem_cons_of_mem _ hy))
    · rw [if_neg hx]
      exact ⟨h.an, h.ln, h.lg, h.rl, h.rb, h.tp⟩
theorem Line1.of {tx a f g} (h : Line1 tx a f) (h1 : g.next = f.next) (h2 : g.log = f.log) (h3 : g.ring = f.ring) (h4 : f.top ≤ g.top) : Line1 tx a g :=
  ⟨by rw [h1]; exact h.an, by rw [h1, h2]; exact h.ln, by rw [h2]; exact h.lg, by rw [h3, h2]; exact h.rl, by rw [h3, h1]; exact h.rb, by have := h.tp; omega⟩
theorem tells_rows {tx a} {f : Fed} (h : Line1 tx a f) (hs : Sorted f.win) (hg : ∀ x ∈ f.win, f.next ≤ x.seq) (hw : ∀ x ∈ f.win, x.text = tx x.seq ∧ x.seq ≤ f.top) : Told1 tx a f.tells.1 := by
  obtain ⟨t1, t2, t3, t4, t5, t6⟩ := tells_fst f
  have gr := goesL_row f.win f h hw
  have gb := goesL_bd f.win f
  have gi := goesL_inv f.win f hs hg (by have := h.rl; omega)
  refine ⟨gr.of t4 t3 t1 (by rw [t5]; exact Int.le_refl _), by rw [t2]; exact gi.1, ?_, fun x hx => ?_⟩
  · rw [t2, t4]; exact gi.2.1
  · rw [t2] at hx
    rw [t5, gb.2.2.2.2.1]
    exact hw x (gb.2.2.2.2.2 x hx)
theorem knows_top {f : Fed} {t : Int} (h0 : 0 < f.next) (ht : t ≤ 1000000) : (f.knows t).top = max f.top t := by
  unfold Fed.knows; rw [if_pos ⟨h0, ht⟩]
theorem Told1.knows {tx a f} (h : Told1 tx a f) (t : Int) : Told1 tx a (f.knows t) := by
  obtain ⟨k1, k2, k3, k4⟩ := knows_eq f t
  have kt : f.top ≤ (f.knows t).top := by
    unfold Fed.knows; split
    · show f.top ≤ max f.top t; omega
    · exact Int.le_refl _
  refine ⟨h.row.of k1 k4 k3 kt, by rw [k2]; exact h.so, by rw [k2, k1]; exact h.gt, fun x hx => ?_⟩
  rw [k2] at hx
  have := h.wt x hx
  exact ⟨this.1, by omega⟩
theorem Told1.comes {tx a f} (h : Told1 tx a f) (ha : 1 ≤ a) {i : It} (h1 : 1 ≤ i.seq) (h2 : i.seq ≤ 1000000) (h3 : i.text.length ≤ 12) (ht : i.text = tx i.seq) :
    Told1 tx a (f.comes i) ∧ (f.comes i).top = max f.top i.seq ∧ f.next ≤ (f.comes i).next ∧ (i.seq = f.next → f.next < (f.comes i).next) ∧
    (f.comes i).log.length + (f.comes i).win.length ≤ f.log.length + f.win.length + 1 := by
  have hn := h.row.an
  unfold Fed.comes
  rw [if_neg (by omega)]
  have kh := h.knows i.seq
  have kt := knows_top (f := f) (t := i.seq) (by omega) h2
  obtain ⟨k1, k2, k3, k4⟩ := knows_eq f i.seq
  generalize f.knows i.seq = K at *
  rw [← kt, ← k1, ← k2, ← k4]
  have ps := put_sorted kh.so K.next i
  have pg := put_ge (n := K.next) (x := i) (w := K.win) (fun y hy => Int.le_of_lt (kh.gt y hy))
  have pl := put_len K.win K.next i
  have pm : ∀ y ∈ (put K.win K.next i).1, y.text = tx y.seq ∧ y.seq ≤ K.top := fun y hy => by
    rcases put_mem hy with hy | rfl
    · exact kh.wt y hy
    · exact ⟨ht, by omega⟩
  have pp : i.seq = K.next → ∃ w, (put K.win K.next i).1 = i :: w := fun e => by
    have nt : there K.win i.seq = false := by
      unfold there
      rw [List.any_eq_false]
      intro y hy
      have := kh.gt y hy
      simp; omega
    have np : posn K.win i.seq = 0 := posn_is (by omega) (fun k hk => by omega) (fun h0 => by
      have : K.win.getD 0 default ∈ K.win := by rw [List.getD_eq_getElem?_getD, List.getElem?_eq_getElem h0]; exact List.getElem_mem _
      have := kh.gt _ this
      omega)
    unfold put
    rw [if_neg (by rw [nt]; simp; omega), np]
    exact ⟨_, rfl⟩
  generalize (put K.win K.next i).1 = W at *
  have rr : Line1 tx a ({ K with win := W } : Fed) := kh.row.of rfl rfl rfl (Int.le_refl _)
  have key := tells_rows (f := { K with win := W }) rr ps pg pm
  obtain ⟨t1, t2, t3, t4, t5, t6⟩ := tells_fst { K with win := W }
  obtain ⟨b1, b2, b3, b4, b5, b6⟩ := goesL_bd W { K with win := W }
  refine ⟨key, by rw [t5]; exact b5, ?_, fun e => ?_, ?_⟩
  · rw [t4, b4]; show K.next ≤ K.next + _; omega
  · obtain ⟨w, hw⟩ := pp e
    have := tells_pos (f := { K with win := W }) hw e
    rw [t6] at this
    have this := List.length_pos_iff.2 this
    have e4 := b4
    rw [← t4] at e4
    rw [e4]
    show K.next < K.next + (((goesL W { K with win := W }).2.length : Nat) : Int)
    have this : 0 < (goesL W { K with win := W }).2.length := this
    omega
  · rw [t3, t2, b2]; show K.log.length + _ ≤ _; omega
end Go.Feed
/- Deeds: what they keep (plain). -/
set_option linter.unusedVariables false
namespace Go.Feed
structure Dd (k : Nat) (f : Fed) : Prop where
  inv : Inv f
  bd : Bd f k
  n0 : 0 ≤ f.next
  n1 : f.next ≤ 1000001
  wn : ∀ x ∈ f.win, x.seq ≤ 1000000
  z : f.next = 0 → f.win = [] ∧ f.log = [] ∧ f.ring = []
theorem Dd.weaken {k m : Nat} {f : Fed} (h : Dd k f) (hm : m ≤ k) : Dd m f := ⟨h.inv, h.bd.weaken hm, h.n0, h.n1, h.wn, h.z⟩
structure Gr (f g : Fed) : Prop where
  lg : f.log <+: g.log
  nx : f.next ≤ g.next
  tp : f.top ≤ g.top
theorem Gr.refl (f : Fed) : Gr f f := ⟨List.prefix_rfl, Int.le_refl _, Int.le_refl _⟩
theorem Gr.trans {f g h : Fed} (a : Gr f g) (b : Gr g h) : Gr f h := ⟨a.lg.trans b.lg, Int.le_trans a.nx b.nx, Int.le_trans a.tp b.tp⟩
theorem goesL_gr : ∀ (w : List It) (f : Fed), (∀ x ∈ w, x.seq ≤ 1000000) → f.next ≤ 1000001 → (goesL w f).1.next ≤ 1000001 ∧ f.log <+: (goesL w f).1.log := by
  intro w
  induction w with
  | nil => intro f _ h; exact ⟨h, List.prefix_rfl⟩
  | cons x w ih =>
    intro f hw h
    unfold goesL
    by_cases hx : x.seq = f.next
    · rw [if_pos hx]
      have h0 := hw x List.mem_cons_self
      have := ih (take1 f x w) (fun y hy => hw y (List.mem_cons_of_mem _ hy)) (by show f.next + 1 ≤ 1000001; omega)
      exact ⟨this.1, (List.prefix_append f.log [told x]).trans this.2⟩
    · rw [if_neg hx]; exact ⟨h, List.prefix_rfl⟩
theorem Dd.tells {k : Nat} {f : Fed} (h : Dd k f) : Dd k f.tells.1 ∧ Gr f f.tells.1 := by
  obtain ⟨t1, t2, t3, t4, t5, t6⟩ := tells_fst f
  have g := goesL_gr f.win f h.wn h.n1
  have b := goesL_bd f.win f
  have nx : f.next ≤ f.tells.1.next := by rw [t4, b.2.2.2.1]; omega
  refine ⟨⟨h.inv.tells.1, h.bd.tells.1.weaken (by omega), by have := h.n0; omega, by rw [t4]; exact g.1, fun x hx => ?_, fun e => ?_⟩, ⟨by rw [t3]; exact g.2, nx, by rw [t5, b.2.2.2.2.1]; exact Int.le_refl _⟩⟩
  · rw [t2] at hx
    exact h.wn x (b.2.2.2.2.2 x hx)
  · obtain ⟨z1, z2, z3⟩ := h.z (by have := h.n0; omega)
    rw [t1, t2, t3, z1]
    exact ⟨rfl, z2, z3⟩
theorem Dd.knows {k : Nat} {f : Fed} (h : Dd k f) (t : Int) : Dd k (f.knows t) ∧ Gr f (f.knows t) := by
  obtain ⟨k1, k2, k3, k4⟩ := knows_eq f t
  refine ⟨⟨h.inv.knows t, h.bd.knows t, by rw [k1]; exact h.n0, by rw [k1]; exact h.n1, by rw [k2]; exact h.wn, by rw [k1, k2, k3, k4]; exact h.z⟩, ⟨by rw [k4]; exact List.prefix_rfl, by rw [k1]; exact Int.le_refl _, ?_⟩⟩
  unfold Fed.knows; split
  · show f.top ≤ max f.top t; omega
  · exact Int.le_refl _
theorem Dd.setTop {k : Nat} {f : Fed} (h : Dd k f) (t : Int) : Dd k { f with top := t } :=
  ⟨⟨h.inv.so, h.inv.ge, h.inv.rg, h.inv.tr⟩, ⟨h.bd.r, h.bd.l, h.bd.n0, h.bd.n1, h.bd.w⟩, h.n0, h.n1, h.wn, h.z⟩
theorem Dd.rest {k : Nat} {f : Fed} (h : Dd k f) : Dd k f.rest :=
  ⟨⟨h.inv.so, h.inv.ge, h.inv.rg, Int.le_refl _⟩, ⟨h.bd.r, h.bd.l, h.bd.n0, h.bd.n1, h.bd.w⟩, h.n0, h.n1, h.wn, h.z⟩
theorem Dd.skips {k : Nat} {f : Fed} (h : Dd (k + 1) f) (hi why : Int) : Dd k (skips f hi why).1 ∧ Gr f (skips f hi why).1 := by
  have hb := h.bd.skips hi why
  have hv := h.inv.skips hi why
  have key : (0 ≤ (Go.Feed.skips f hi why).1.next ∧ (Go.Feed.skips f hi why).1.next ≤ 1000001 ∧ ∀ x ∈ (Go.Feed.skips f hi why).1.win, x.seq ≤ 1000000) ∧ f.log <+: (Go.Feed.skips f hi why).1.log ∧ f.next ≤ (Go.Feed.skips f hi why).1.next := by
    unfold Go.Feed.skips
    split
    · exact ⟨⟨h.n0, h.n1, h.wn⟩, List.prefix_rfl, Int.le_refl _⟩
    · rename_i c
      have key : ∀ (n : Nat) (f : Fed) (out : List Sp) (g : Fed) (o : List Sp), skipsN n f hi why out = some (g, o) → (0 ≤ f.next ∧ f.next ≤ 1000001 ∧ ∀ x ∈ f.win, x.seq ≤ 1000000) → (0 ≤ g.next ∧ g.next ≤ 1000001 ∧ ∀ x ∈ g.win, x.seq ≤ 1000000) ∧ f.log <+: g.log ∧ f.next ≤ g.next := by
        intro n
        induction n with
        | zero => intro f out g o h; cases h
        | succ n ih =>
          intro f out g o h hp
          unfold skipsN at h
          by_cases c1 : f.next ≤ hi
          · rw [if_pos c1] at h
            simp only at h
            have hle := fahead_le (f := f) (hi := hi)
            generalize fahead f hi = a at *
            have h1 : ∃ f1, (if f.next ≤ a.1 then skip1 f a.1 why else f) = f1 ∧ (0 ≤ f1.next ∧ f1.next ≤ 1000001 ∧ ∀ x ∈ f1.win, x.seq ≤ 1000000) ∧ f.log <+: f1.log ∧ f.next ≤ f1.next := by
              refine ⟨_, rfl, ?_⟩
              split
              · exact ⟨⟨by show 0 ≤ a.1 + 1; omega, by show a.1 + 1 ≤ 1000001; omega, hp.2.2⟩, List.prefix_append _ _, by show f.next ≤ a.1 + 1; omega⟩
              · exact ⟨hp, List.prefix_rfl, Int.le_refl _⟩
            obtain ⟨f1, e1, p1, l1, n1⟩ := h1
            rw [e1] at h
            have gr := goesL_gr f1.win f1 p1.2.2 p1.2.1
            have gb := goesL_bd f1.win f1
            obtain ⟨t1, t2, t3, t4, t5, t6⟩ := tells_fst f1
            have p2 : (0 ≤ f1.tells.1.next ∧ f1.tells.1.next ≤ 1000001 ∧ ∀ x ∈ f1.tells.1.win, x.seq ≤ 1000000) ∧ f1.log <+: f1.tells.1.log ∧ f1.next ≤ f1.tells.1.next := by
              refine ⟨⟨by rw [t4, gb.2.2.2.1]; omega, by rw [t4]; exact gr.1, fun x hx => ?_⟩, by rw [t3]; exact gr.2, by rw [t4, gb.2.2.2.1]; omega⟩
              rw [t2] at hx
              exact p1.2.2 x (gb.2.2.2.2.2 x hx)
            split at h
            · split at h
              · simp only [Option.some.injEq, Prod.mk.injEq] at h
                obtain ⟨rfl, rfl⟩ := h
                exact ⟨p2.1, l1.trans p2.2.1, Int.le_trans n1 p2.2.2⟩
              · have := ih _ _ _ _ h p2.1
                exact ⟨this.1, (l1.trans p2.2.1).trans this.2.1, by have := this.2.2; have := p2.2.2; omega⟩
            · simp only [Option.some.injEq, Prod.mk.injEq] at h
              obtain ⟨rfl, rfl⟩ := h
              exact ⟨p1, l1, n1⟩
          · rw [if_neg c1] at h
            simp only [Option.some.injEq, Prod.mk.injEq] at h
            obtain ⟨rfl, rfl⟩ := h
            exact ⟨hp, List.prefix_rfl, Int.le_refl _⟩
      obtain ⟨⟨g, o⟩, e⟩ := skipsN_some (hi := hi) (why := why) (f.win.length + 1) f [] (by omega)
      rw [e]
      have := key _ _ _ _ _ e ⟨h.n0, h.n1, h.wn⟩
      simp only
      split
      · exact this
      · exact this
  refine ⟨⟨hv, hb, key.1.1, key.1.2.1, key.1.2.2, fun e => ?_⟩, ⟨key.2.1, key.2.2, by rw [skips_knows]; exact Int.le_refl _⟩⟩
  have e0 : f.next = 0 := by have := key.2.2; have := h.n0; omega
  unfold Go.Feed.skips
  rw [if_pos (by omega)]
  exact h.z e0
theorem Dd.begin_ {k : Nat} {f : Fed} (h : Dd k f) (n : Int) : Dd k (f.begin_ n) ∧ Gr f (f.begin_ n) := by
  unfold Fed.begin_
  split
  · exact h.knows _
  · split
    · rename_i c c2
      have e0 : f.next = 0 := by have := h.n0; omega
      obtain ⟨z1, z2, z3⟩ := h.z e0
      exact ⟨⟨⟨h.inv.so, (fun x hx => by have hx : x ∈ f.win := hx; rw [z1] at hx; cases hx), h.inv.rg, h.inv.tr⟩, ⟨h.bd.r, h.bd.l, by show -4000000000 ≤ n; omega, by show n + (f.win.length : Int) ≤ 4000000000; rw [z1]; simp; omega, h.bd.w⟩, by show 0 ≤ n; omega, by show n ≤ 1000001; omega, h.wn, fun e => by have e : n = 0 := e; omega⟩, ⟨List.prefix_rfl, by show f.next ≤ n; omega, Int.le_refl _⟩⟩
    · exact ⟨h, Gr.refl f⟩
theorem Dd.comes {k : Nat} {f : Fed} (h : Dd (k + 3) f) (i : It) : Dd k (f.comes i) ∧ Gr f (f.comes i) := by
  unfold Fed.comes
  split
  · exact ⟨h.weaken (by omega), Gr.refl f⟩
  · rename_i c
    obtain ⟨hk, gk⟩ := h.knows i.seq
    have hne : (f.knows i.seq).next ≠ 0 := by rw [(knows_eq f i.seq).1]; omega
    generalize f.knows i.seq = K at *
    have pl := put_len K.win K.next i
    have hl := hk.bd.l
    have hr := hk.inv.rg
    have hd : Dd k ({ K with win := (put K.win K.next i).1 } : Fed) := by
      refine ⟨⟨put_sorted hk.inv.so _ _, put_ge hk.inv.ge, hk.inv.rg, hk.inv.tr⟩, ⟨?_, ?_, hk.bd.n0, ?_, fun x hx => ?_⟩, hk.n0, hk.n1, fun x hx => ?_, fun e => absurd e hne⟩
      · show K.ring.length + (put K.win K.next i).1.length ≤ 700000; omega
      · show K.log.length + 2 * (put K.win K.next i).1.length + k ≤ 700000; omega
      · show K.next + ((put K.win K.next i).1.length : Int) ≤ 4000000000; have := hk.n1; omega
      · rcases put_mem hx with h | rfl
        · exact hk.bd.w x h
        · omega
      · rcases put_mem hx with h | rfl
        · exact hk.wn x h
        · omega
    have ht := hd.tells
    exact ⟨ht.1, gk.trans ⟨ht.2.lg, ht.2.nx, ht.2.tp⟩⟩
theorem Dd.notes {k : Nat} {f : Fed} (h : Dd (k + 3) f) (lo hi : Int) : Dd k (f.notes lo hi) ∧ Gr f (f.notes lo hi) := by
  unfold Fed.notes
  split
  · exact ⟨h.weaken (by omega), Gr.refl f⟩
  · split
    · have := h.knows hi
      exact ⟨this.1.weaken (by omega), this.2⟩
    · have hs := (h.weaken (show k + 1 ≤ k + 3 by omega)).skips hi 1
      generalize (Go.Feed.skips f hi 1).1 = S at *
      have ht := (hs.1.setTop (max S.top hi)).tells
      exact ⟨ht.1, hs.2.trans ⟨ht.2.lg, ht.2.nx, Int.le_trans (by show S.top ≤ max S.top hi; omega) ht.2.tp⟩⟩
theorem Dd.tick {k : Nat} {f : Fed} (h : Dd (k + 3) f) (now : Int) : Dd k (f.tick now).1 ∧ Gr f (f.tick now).1 := by
  unfold Fed.tick
  split
  · exact ⟨h.weaken (by omega), Gr.refl f⟩
  · split
    · have hs := (h.weaken (show k + 1 ≤ k + 3 by omega)).skips (wants f).1.2 2
      have ht := hs.1.tells
      exact ⟨ht.1, hs.2.trans ht.2⟩
    · have h := h.weaken (show k ≤ k + 3 by omega)
      exact ⟨⟨⟨h.inv.so, h.inv.ge, h.inv.rg, by show 0 ≤ f.tries + 1; have := h.inv.tr; omega⟩, ⟨h.bd.r, h.bd.l, h.bd.n0, h.bd.n1, h.bd.w⟩, h.n0, h.n1, h.wn, h.z⟩, ⟨List.prefix_rfl, Int.le_refl _, Int.le_refl _⟩⟩
def texts : List (List UInt8) := [[], [97], [98, 99], [104, 101, 108, 108, 111], [116, 104, 105, 114, 116, 101, 101, 110, 32, 98, 121, 116, 101]]
def near (f : Fed) (y : Int) : Int := max 1 (f.next - 2 + y % 12)
def Fed.deed (f : Fed) (x y z now : Int) : Fed :=
  if x % 8 = 0 then f.begin_ (near f y) else if x % 8 = 1 then f.notes (near f y) (near f y + z % 6 - 1) else if x % 8 = 2 then f.knows (near f y)
  else if x % 8 = 3 ∨ x % 8 = 4 then (f.tick now).1 else f.comes ⟨near f y, texts.getD (z % 5).toNat []⟩
theorem Dd.deed {k : Nat} {f : Fed} (h : Dd (k + 3) f) (x y z now : Int) : Dd k (f.deed x y z now) ∧ Gr f (f.deed x y z now) := by
  have hw := h.weaken (show k ≤ k + 3 by omega)
  unfold Fed.deed
  split
  · exact hw.begin_ _
  · split
    · exact h.notes _ _
    · split
      · exact hw.knows _
      · split
        · exact h.tick _
        · exact h.comes _
end Go.Feed
