import Derived.Test.YtmogepinpdibdaaPmFeed
namespace Go.Feed
structure Line1 (tx : Int → List UInt8) (a : Int) (f : Fed) : Prop where
  an : a ≤ f.next
  ln : (f.log.length : Int) = f.next - a
  lg : ∀ k, k < f.log.length → f.log[k]? = some (told ⟨a + k, tx (a + k)⟩)
  rl : f.ring.length = min f.log.length 6
  rb : ∀ x ∈ f.ring, x.seq < f.next
  tp : f.next = a ∨ f.next - 1 ≤ f.top
structure Told1 (tx : Int → List UInt8) (a : Int) (f : Fed) : Prop where
  row : Line1 tx a f
  so : Sorted f.win
  gt : ∀ x ∈ f.win, f.next < x.seq
  wt : ∀ x ∈ f.win, x.text = tx x.seq ∧ x.seq ≤ f.top
theorem ringAdd_row {r : List It} {n : Int} (h : ∀ x ∈ r, x.seq < n) (i : It) (hi : i.seq = n) : ringAdd r i = (r ++ [i]).drop (r.length + 1 - 6) := by
  unfold ringAdd
  rw [if_neg]
  rintro ⟨h0, h1⟩
  have : r.getD (r.length - 1) default ∈ r := by
    rw [List.getD_eq_getElem?_getD, List.getElem?_eq_getElem (by omega)]
    exact List.getElem_mem _
  have := h _ this
  omega
theorem Line1.take {tx a f} (h : Line1 tx a f) {x : It} (rest : List It) (hx : x.seq = f.next) (ht : x.text = tx x.seq) (hp : x.seq ≤ f.top) : Line1 tx a (take1 f x rest) := by
  have e1 : (take1 f x rest).next = f.next + 1 := rfl
  have e2 : (take1 f x rest).log = f.log ++ [told x] := rfl
  have e3 : (take1 f x rest).ring = ringAdd f.ring x := rfl
  have e4 : (take1 f x rest).top = f.top := rfl
  have rr := ringAdd_row h.rb x hx
  have h1 := h.an
  have h2 := h.ln
  have h3 := h.rl
  refine ⟨by omega, ?_, fun k hk => ?_, ?_, fun y hy => ?_, Or.inr (by omega)⟩
  · rw [e2, e1]; simp; omega
  · rw [e2] at hk ⊢
    simp at hk
    by_cases c : k < f.log.length
    · rw [List.getElem?_append_left c]; exact h.lg k c
    · have : k = f.log.length := by omega
      subst this
      have e : a + (f.log.length : Int) = x.seq := by omega
      rw [List.getElem?_append_right (by omega)]
      simp [e, told, ht]
  · rw [e3, e2, rr]; simp; omega
  · rw [e3, rr] at hy
    have hy := List.mem_of_mem_drop hy
    simp only [List.mem_append, List.mem_singleton] at hy
    rw [e1]
    rcases hy with hy | rfl
    · have := h.rb y hy; omega
    · omega
theorem goesL_row {tx a} : ∀ (w : List It) (f : Fed), Line1 tx a f → (∀ x ∈ w, x.text = tx x.seq ∧ x.seq ≤ f.top) → Line1 tx a (goesL w f).1 := by
  intro w
  induction w with
  | nil => intro f h _; exact ⟨h.an, h.ln, h.lg, h.rl, h.rb, h.tp⟩
  | cons x w ih =>
    intro f h hw
    unfold goesL
    have h0 := hw x List.mem_cons_self
    by_cases hx : x.seq = f.next
    · rw [if_pos hx]
      exact ih _ (h.take w hx h0.1 h0.2) (fun y hy => hw y (List.mem_cons_of_mem _ hy))
    · rw [if_neg hx]
      exact ⟨h.an, h.ln, h.lg, h.rl, h.rb, h.tp⟩
theorem Line1.of {tx a f g} (h : Line1 tx a f) (h1 : g.next = f.next) (h2 : g.log = f.log) (h3 : g.ring = f.ring) (h4 : f.top ≤ g.top) : Line1 tx a g :=
  ⟨by rw [h1]; exact h.an, by rw [h1, h2]; exact h.ln, by rw [h2]; exact h.lg, by rw [h3, h2]; exact h.rl, by rw [h3, h1]; exact h.rb, by have := h.tp; omega⟩
theorem tells_rows {tx a} {f : Fed} (h : Line1 tx a f) (hs : Sorted f.win) (hg : ∀ x ∈ f.win, f.next ≤ x.seq) (hw : ∀ x ∈ f.win, x.text = tx x.seq ∧ x.seq ≤ f.top) : Told1 tx a f.tells.1 := by
  obtain ⟨t1, t2, t3, t4, t5, t6⟩ := tells_fst f
  have gr := goesL_row f.win f h hw
  have gb := goesL_bd f.win f
  have gi := goesL_inv f.win f hs hg (by have := h.rl; omega)
  refine ⟨gr.of t4 t3 t1 (by rw [t5]; exact Int.le_refl _), by rw [t2]; exact gi.1, ?_, fun x hx => ?_⟩
  · rw [t2, t4]; exact gi.2.1
  · rw [t2] at hx
    rw [t5, gb.2.2.2.2.1]
    exact hw x (gb.2.2.2.2.2 x hx)
theorem knows_top {f : Fed} {t : Int} (h0 : 0 < f.next) (ht : t ≤ 1000000) : (f.knows t).top = max f.top t := by
  unfold Fed.knows; rw [if_pos ⟨h0, ht⟩]
theorem Told1.knows {tx a f} (h : Told1 tx a f) (t : Int) : Told1 tx a (f.knows t) := by
  obtain ⟨k1, k2, k3, k4⟩ := knows_eq f t
  have kt : f.top ≤ (f.knows t).top := by
    unfold Fed.knows; split
    · show f.top ≤ max f.top t; omega
    · exact Int.le_refl _
  refine ⟨h.row.of k1 k4 k3 kt, by rw [k2]; exact h.so, by rw [k2, k1]; exact h.gt, fun x hx => ?_⟩
  rw [k2] at hx
  have := h.wt x hx
  exact ⟨this.1, by omega⟩
theorem Told1.comes {tx a f} (h : Told1 tx a f) (ha : 1 ≤ a) {i : It} (h1 : 1 ≤ i.seq) (h2 : i.seq ≤ 1000000) (h3 : i.text.length ≤ 12) (ht : i.text = tx i.seq) :
    Told1 tx a (f.comes i) ∧ (f.comes i).top = max f.top i.seq ∧ f.next ≤ (f.comes i).next ∧ (i.seq = f.next → f.next < (f.comes i).next) ∧
    (f.comes i).log.length + (f.comes i).win.length ≤ f.log.length + f.win.length + 1 := by
  have hn := h.row.an
  unfold Fed.comes
  rw [if_neg (by omega)]
  have kh := h.knows i.seq
  have kt := knows_top (f := f) (t := i.seq) (by omega) h2
  obtain ⟨k1, k2, k3, k4⟩ := knows_eq f i.seq
  generalize f.knows i.seq = K at *
  rw [← kt, ← k1, ← k2, ← k4]
  have ps := put_sorted kh.so K.next i
  have pg := put_ge (n := K.next) (x := i) (w := K.win) (fun y hy => Int.le_of_lt (kh.gt y hy))
  have pl := put_len K.win K.next i
  have pm : ∀ y ∈ (put K.win K.next i).1, y.text = tx y.seq ∧ y.seq ≤ K.top := fun y hy => by
    rcases put_mem hy with hy | rfl
    · exact kh.wt y hy
    · exact ⟨ht, by omega⟩
  have pp : i.seq = K.next → ∃ w, (put K.win K.next i).1 = i :: w := fun e => by
    have nt : there K.win i.seq = false := by
      unfold there
      rw [List.any_eq_false]
      intro y hy
      have := kh.gt y hy
      simp; omega
    have np : posn K.win i.seq = 0 := posn_is (by omega) (fun k hk => by omega) (fun h0 => by
      have : K.win.getD 0 default ∈ K.win := by rw [List.getD_eq_getElem?_getD, List.getElem?_eq_getElem h0]; exact List.getElem_mem _
      have := kh.gt _ this
      omega)
    unfold put
    rw [if_neg (by rw [nt]; simp; omega), np]
    exact ⟨_, rfl⟩
  generalize (put K.win K.next i).1 = W at *
  have rr : Line1 tx a ({ K with win := W } : Fed) := kh.row.of rfl rfl rfl (Int.le_refl _)
  have key := tells_rows (f := { K with win := W }) rr ps pg pm
  obtain ⟨t1, t2, t3, t4, t5, t6⟩ := tells_fst { K with win := W }
  obtain ⟨b1, b2, b3, b4, b5, b6⟩ := goesL_bd W { K with win := W }
  refine ⟨key, by rw [t5]; exact b5, ?_, fun e => ?_, ?_⟩
  · rw [t4, b4]; show K.next ≤ K.next + _; omega
  · obtain ⟨w, hw⟩ := pp e
    have := tells_pos (f := { K with win := W }) hw e
    rw [t6] at this
    have this := List.length_pos_iff.2 this
    have e4 := b4
    rw [← t4] at e4
    rw [e4]
    show K.next < K.next + (((goesL W { K with win := W }).2.length : Nat) : Int)
    have this : 0 < (goesL W { K with win := W }).2.length := this
    omega
  · rw [t3, t2, b2]; show K.log.length + _ ≤ _; omega
end Go.Feed
