/- Who is in the middle, who is near: plain laws. -/
import Derived.Test.YtncbinaaagmmaaaSh12
set_option linter.unusedVariables false
set_option linter.unusedSimpArgs false
namespace Go.Ab

/-- How far it is. -/
def ent (D : List (List Int)) (a b : Int) : Int := (D.getD (a - 1).toNat []).getD (b - 1).toNat 0
def Mat (D : List (List Int)) : Prop := D.length = 8 ∧ ∀ row ∈ D, row.length = 8 ∧ ∀ x ∈ row, 0 ≤ x ∧ x ≤ 1000
def In8 (L : List Int) : Prop := ∀ x ∈ L, 1 ≤ x ∧ x ≤ 8
def farP (D : List (List Int)) (m : Int) (L : List Int) : Int := L.foldl (fun n x => max n (ent D m x)) 0

theorem Mat.row {D : List (List Int)} (h : Mat D) {a : Int} (ha : 1 ≤ a ∧ a ≤ 8) : (D.getD (a - 1).toNat []).length = 8 ∧ ∀ x ∈ D.getD (a - 1).toNat [], 0 ≤ x ∧ x ≤ 1000 := by
  have hi : (a - 1).toNat < D.length := by rw [h.1]; omega
  rw [List.getD_eq_getElem?_getD, List.getElem?_eq_getElem hi]
  exact h.2 _ (List.getElem_mem hi)
theorem Mat.ent {D : List (List Int)} (h : Mat D) {a b : Int} (ha : 1 ≤ a ∧ a ≤ 8) (hb : 1 ≤ b ∧ b ≤ 8) : 0 ≤ ent D a b ∧ ent D a b ≤ 1000 := by
  have hr := h.row ha
  have hi : (b - 1).toNat < (D.getD (a - 1).toNat []).length := by rw [hr.1]; omega
  unfold Go.Ab.ent
  rw [List.getD_eq_getElem?_getD (i := (b - 1).toNat), List.getElem?_eq_getElem hi]
  exact hr.2 _ (List.getElem_mem hi)

theorem fold_max (f : Int → Int) : ∀ (L : List Int) (n : Int), n ≤ L.foldl (fun n x => max n (f x)) n ∧ (∀ x ∈ L, f x ≤ L.foldl (fun n x => max n (f x)) n) ∧ (L.foldl (fun n x => max n (f x)) n = n ∨ ∃ x ∈ L, L.foldl (fun n x => max n (f x)) n = f x)
  | [], n => by simp
  | y :: L, n => by
    obtain ⟨h1, h2, h3⟩ := fold_max f L (max n (f y))
    simp only [List.foldl_cons]
    refine ⟨by omega, fun x hx => ?_, ?_⟩
    · rcases List.mem_cons.1 hx with rfl | hx
      · omega
      · exact h2 x hx
    · rcases h3 with h3 | ⟨x, hx, h3⟩
      · by_cases h : f y ≤ n
        · left; rw [h3]; omega
        · right; exact ⟨y, by simp, by rw [h3]; omega⟩
      · right; exact ⟨x, by simp [hx], h3⟩
theorem farP_le {D : List (List Int)} {m : Int} {L : List Int} {x : Int} (hx : x ∈ L) : ent D m x ≤ farP D m L := (fold_max (ent D m) L 0).2.1 x hx
theorem farP_range {D : List (List Int)} (h : Mat D) {m : Int} (hm : 1 ≤ m ∧ m ≤ 8) {L : List Int} (hL : In8 L) : 0 ≤ farP D m L ∧ farP D m L ≤ 1000 := by
  obtain ⟨h1, _, h3⟩ := fold_max (ent D m) L 0
  refine ⟨h1, ?_⟩
  unfold farP
  rcases h3 with h3 | ⟨x, hx, h3⟩
  · rw [h3]; omega
  · rw [h3]; exact (h.ent hm (hL x hx)).2

/-- The best of some. -/
def IsBest (f : Int → Int) (S : List Int) (r : Int) : Prop := r ∈ S ∧ ∀ x ∈ S, f r < f x ∨ f r = f x ∧ r ≤ x
theorem IsBest.unique {f : Int → Int} {S T : List Int} {r t : Int} (h : IsBest f S r) (g : IsBest f T t) (hm : ∀ x, x ∈ S ↔ x ∈ T) : r = t := by
  have h1 := h.2 t ((hm t).2 g.1)
  have h2 := g.2 r ((hm r).1 h.1)
  omega
def Best (f : Int → Int) (S : List Int) (r b : Int) : Prop := (S = [] ∧ r = 0) ∨ (IsBest f S r ∧ b = f r ∧ r ≠ 0)

def stepL (f : Int → Int) (q : Int → Bool) (p : Int × Int) (x : Int) : Int × Int := if q x = true ∧ (p.1 = 0 ∨ f x < p.2 ∨ f x = p.2 ∧ x < p.1) then (x, f x) else p
def leastP (f : Int → Int) (q : Int → Bool) (L : List Int) : Int := (L.foldl (stepL f q) (0, 1001)).1

theorem best_step {f : Int → Int} {q : Int → Bool} {S : List Int} {p : Int × Int} {x : Int} (h : Best f S p.1 p.2) (hx : 1 ≤ x) : Best f (S ++ if q x then [x] else []) (stepL f q p x).1 (stepL f q p x).2 := by
  unfold stepL
  cases hq : q x with
  | false => simp; exact h
  | true =>
    simp only [true_and, if_true]
    rcases h with ⟨rfl, h0⟩ | ⟨⟨h1, h2⟩, h3, h4⟩
    · rw [if_pos (Or.inl h0)]
      exact Or.inr ⟨⟨by simp, fun y hy => by simp at hy; subst hy; exact Or.inr ⟨rfl, Int.le_refl _⟩⟩, rfl, by simp only; omega⟩
    · by_cases hc : f x < p.2 ∨ f x = p.2 ∧ x < p.1
      · rw [if_pos (Or.inr hc)]
        refine Or.inr ⟨⟨by simp, fun y hy => ?_⟩, rfl, by simp only; omega⟩
        rcases List.mem_append.1 hy with hy | hy
        · have := h2 y hy; simp only; omega
        · simp at hy; subst hy; exact Or.inr ⟨rfl, Int.le_refl _⟩
      · rw [if_neg (by intro h; rcases h with h | h; exact h4 h; exact hc h)]
        refine Or.inr ⟨⟨by simp [h1], fun y hy => ?_⟩, h3, h4⟩
        rcases List.mem_append.1 hy with hy | hy
        · exact h2 y hy
        · simp at hy; subst hy; omega
theorem best_fold {f : Int → Int} {q : Int → Bool} : ∀ (L S : List Int) (p : Int × Int), Best f S p.1 p.2 → (∀ x ∈ L, 1 ≤ x) → Best f (S ++ L.filter q) (L.foldl (stepL f q) p).1 (L.foldl (stepL f q) p).2
  | [], S, p, h, _ => by simpa using h
  | x :: L, S, p, h, hL => by
    have h1 := best_step (q := q) h (hL x (by simp))
    have := best_fold (q := q) L _ _ h1 (fun y hy => hL y (by simp [hy]))
    rw [List.foldl_cons]
    rw [List.append_assoc] at this
    have e : (if q x = true then [x] else []) ++ L.filter q = (x :: L).filter q := by
      rw [List.filter_cons]; split <;> simp
    rw [e] at this
    exact this
theorem leastP_best {f : Int → Int} {q : Int → Bool} {L : List Int} (hL : In8 L) : ∃ b, Best f (L.filter q) (leastP f q L) b := by
  have := best_fold (f := f) (q := q) L [] (0, 1001) (Or.inl ⟨rfl, rfl⟩) (fun x hx => (hL x hx).1)
  exact ⟨_, by simpa [leastP] using this⟩

/-- By going over all. -/
def stepR (f : Int → Int) (q : Int → Bool) (best m : Int) : Int := if q m = true ∧ (best = 0 ∨ f m < f best) then m else best
def all8 : List Int := [1, 2, 3, 4, 5, 6, 7, 8]
def overP (f : Int → Int) (q : Int → Bool) : Int := all8.foldl (stepR f q) 0
theorem over_fold {f : Int → Int} {q : Int → Bool} : ∀ (L S : List Int) (r : Int), Best f S r (f r) → L.Pairwise (· < ·) → (∀ x ∈ S, ∀ y ∈ L, x < y) → (∀ x ∈ L, 1 ≤ x) → Best f (S ++ L.filter q) (L.foldl (stepR f q) r) (f (L.foldl (stepR f q) r))
  | [], S, r, h, _, _, _ => by simpa using h
  | x :: L, S, r, h, hp, hs, hL => by
    rw [List.pairwise_cons] at hp
    have hx := hL x (by simp)
    have h1 : Best f (S ++ if q x then [x] else []) (stepR f q r x) (f (stepR f q r x)) := by
      unfold stepR
      cases hq : q x with
      | false => simp; exact h
      | true =>
        simp only [true_and, if_true]
        rcases h with ⟨rfl, h0⟩ | ⟨⟨a1, a2⟩, _, a4⟩
        · rw [if_pos (Or.inl h0)]
          exact Or.inr ⟨⟨by simp, fun y hy => by simp at hy; subst hy; omega⟩, rfl, by omega⟩
        · by_cases hc : f x < f r
          · rw [if_pos (Or.inr hc)]
            refine Or.inr ⟨⟨by simp, fun y hy => ?_⟩, rfl, by omega⟩
            rcases List.mem_append.1 hy with hy | hy
            · have := a2 y hy; omega
            · simp at hy; subst hy; omega
          · rw [if_neg (by intro h; rcases h with h | h; exact a4 h; exact hc h)]
            refine Or.inr ⟨⟨by simp [a1], fun y hy => ?_⟩, rfl, a4⟩
            rcases List.mem_append.1 hy with hy | hy
            · exact a2 y hy
            · simp at hy; subst hy
              have := hs r a1 y (by simp); omega
    have := over_fold (q := q) L _ _ h1 hp.2 (fun y hy z hz => by
      rcases List.mem_append.1 hy with hy | hy
      · exact hs y hy z (by simp [hz])
      · split at hy
        · simp at hy; subst hy; exact hp.1 z hz
        · simp at hy) (fun y hy => hL y (by simp [hy]))
    rw [List.foldl_cons]
    rw [List.append_assoc] at this
    have e : (if q x = true then [x] else []) ++ L.filter q = (x :: L).filter q := by
      rw [List.filter_cons]; split <;> simp
    rw [e] at this
    exact this
theorem over_best {f : Int → Int} {q : Int → Bool} : ∃ b, Best f (all8.filter q) (overP f q) b := by
  have := over_fold (f := f) (q := q) all8 [] 0 (Or.inl ⟨rfl, rfl⟩) (by decide) (by simp) (by decide)
  exact ⟨_, by simpa [overP] using this⟩
theorem mem_all8 {x : Int} : x ∈ all8 ↔ 1 ≤ x ∧ x ≤ 8 := by
  simp [all8]; omega
/-- Both find the same. -/
theorem least_over {f : Int → Int} {q : Int → Bool} {L : List Int} (hL : In8 L) : leastP f q L = overP f (fun m => L.contains m && q m) := by
  obtain ⟨b, h1⟩ := leastP_best (f := f) (q := q) hL
  obtain ⟨c, h2⟩ := over_best (f := f) (q := fun m => L.contains m && q m)
  have hm : ∀ x, x ∈ L.filter q ↔ x ∈ all8.filter (fun m => L.contains m && q m) := fun x => by
    simp only [List.mem_filter, mem_all8, Bool.and_eq_true, List.contains_iff_mem]
    exact ⟨fun ⟨a, b⟩ => ⟨hL x a, a, b⟩, fun ⟨_, a, b⟩ => ⟨a, b⟩⟩
  rcases h1 with ⟨e1, r1⟩ | ⟨b1, _, _⟩
  · rcases h2 with ⟨_, r2⟩ | ⟨b2, _, _⟩
    · rw [r1, r2]
    · have := (hm _).2 b2.1; rw [e1] at this; simp at this
  · rcases h2 with ⟨e2, _⟩ | ⟨b2, _, _⟩
    · have := (hm _).1 b1.1; rw [e2] at this; simp at this
    · exact b1.unique b2 hm
end Go.Ab
