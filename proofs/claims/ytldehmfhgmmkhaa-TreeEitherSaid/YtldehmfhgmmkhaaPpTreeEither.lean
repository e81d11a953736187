/- TreeEither: the plain law. -/
import Derived.Test.YtldehmfhgmmkhaaPdTreeEither
set_option linter.unusedVariables false
set_option linter.unusedSimpArgs false
set_option linter.unusedSectionVars false
namespace Go.Proofs.Ytldehmfhgmmkhaa.Pt
open Go.Ab
set_option maxRecDepth 100000

theorem idxR_mem {l : List Int} {x : Int} {k : Nat} (hk : l.getD k 0 = x) : ∀ (m n : Nat), n ≤ k → k < n + m → 0 ≤ idxR l x m n := by
  intro m
  induction m with
  | zero => intro n h1 h2; omega
  | succ m ih =>
    intro n h1 h2
    unfold idxR
    by_cases e : x = l.getD n 0
    · rw [if_pos e]; omega
    · rw [if_neg e]
      have : n ≠ k := fun c => e (by rw [c, hk])
      exact ih (n + 1) (by omega) (by omega)
theorem nodup_len : ∀ (n : Nat) (l : List Int), l.Nodup → (∀ x ∈ l, 1 ≤ x ∧ x ≤ (n : Int)) → l.length ≤ n := by
  intro n
  induction n with
  | zero =>
    intro l _ h
    cases l with
    | nil => simp
    | cons a l => have := h a (by simp); omega
  | succ n ih =>
    intro l hn h
    by_cases hm : ((n : Int) + 1) ∈ l
    · have := ih (l.erase ((n : Int) + 1)) (hn.erase _) (fun x hx => by
        have h1 := (hn.mem_erase_iff).1 hx
        have := h x h1.2
        have := h1.1
        omega)
      rw [List.length_erase_of_mem hm] at this
      omega
    · have := ih l hn (fun x hx => by
        have := h x hx
        have : x ≠ (n : Int) + 1 := fun e => hm (e ▸ hx)
        omega)
      omega
theorem idxR_get (l : List Int) (x : Int) : ∀ (m n : Nat), 0 ≤ idxR l x m n → n ≤ (idxR l x m n).toNat ∧ l.getD (idxR l x m n).toNat 0 = x := by
  intro m
  induction m with
  | zero => intro n h; unfold idxR at h; omega
  | succ m ih =>
    intro n h
    unfold idxR at h ⊢
    split
    · rename_i e; exact ⟨by omega, by rw [Int.toNat_natCast]; exact e.symm⟩
    · rename_i e
      rw [if_neg e] at h
      have := ih (n + 1) h
      exact ⟨by omega, this.2⟩
def itN (u : List Int) : Nat → Int → Int
  | 0, i => i
  | k + 1, i => itN u k (nx u i)
theorem round_all {u r : List Int} (h : Round u r) : ∀ (k : Nat) (x : Int), (∃ j, j < r.length ∧ r.getD j 0 = x) → ∃ j, j < r.length ∧ r.getD j 0 = itN u k x := by
  intro k
  induction k with
  | zero => intro x h; exact h
  | succ k ih =>
    intro x ⟨j, hj, e⟩
    have := (h j hj).2.2
    rw [e] at this
    refine ih (nx u x) ⟨(j + 1) % r.length, Nat.mod_lt _ (by omega), this.symm⟩
theorem getD_app {l : List Int} {x : Int} {k : Nat} : (l ++ [x]).getD k 0 = if k < l.length then l.getD k 0 else if k = l.length then x else 0 := by
  rw [List.getD_eq_getElem?_getD, List.getD_eq_getElem?_getD]
  by_cases h : k < l.length
  · rw [List.getElem?_append_left h, if_pos h]
  · rw [List.getElem?_append_right (by omega), if_neg h]
    by_cases h2 : k = l.length
    · subst h2; simp
    · rw [if_neg h2]
      have : k - l.length ≠ 0 := by omega
      obtain ⟨t, ht⟩ := Nat.exists_eq_succ_of_ne_zero this
      rw [ht]; rfl
theorem getD_mem {l : List Int} {k : Nat} (h : k < l.length) : l.getD k 0 ∈ l := by
  rw [List.getD_eq_getElem?_getD, List.getElem?_eq_getElem h]; exact List.getElem_mem _
theorem loop_is {u : List Int} : ∀ (m : Nat) (met : List Int) (i : Int), met.Nodup → (∀ x ∈ met, 1 ≤ x ∧ x ≤ (u.length : Int)) →
    (∀ k, k < met.length → nx u (met.getD k 0) = if k + 1 < met.length then met.getD (k + 1) 0 else i) → u.length + 1 ≤ m + met.length →
    ∃ r, loopR u (m + 1) met i = some r ∧ r.length ≤ met.length + m ∧ Round u r ∧ (r = [] → ∃ k, k ≤ m ∧ ¬ (1 ≤ itN u k i ∧ itN u k i ≤ u.length)) ∧ (r ≠ [] → ∀ k, 1 ≤ itN u k i ∧ itN u k i ≤ u.length) := by
  intro m
  induction m with
  | zero =>
    intro met i hn hr _ hl
    have := nodup_len u.length met hn hr
    omega
  | succ m ih =>
    intro met i hn hr hc hl
    unfold loopR
    by_cases h1 : 1 ≤ i ∧ i ≤ u.length
    · rw [if_pos h1]
      by_cases h2 : 0 ≤ idxR met i met.length 0
      · rw [if_pos h2]
        have hlt := idxR_le met i met.length 0 (by omega)
        have hg := (idxR_get met i met.length 0 h2).2
        generalize hp : (idxR met i met.length 0).toNat = p at *
        have hpl : p < met.length := by omega
        have hge : ∀ k, (met.drop p).getD k 0 = met.getD (p + k) 0 := fun k => by
          rw [List.getD_eq_getElem?_getD, List.getElem?_drop, ← List.getD_eq_getElem?_getD]
        have hR : Round u (met.drop p) := by
          intro k hk
          rw [List.length_drop] at hk
          rw [hge, hge, List.length_drop]
          have hb := hr _ (getD_mem (l := met) (k := p + k) (by omega))
          refine ⟨hb.1, hb.2, ?_⟩
          rw [hc _ (by omega)]
          by_cases h3 : p + k + 1 < met.length
          · rw [if_pos h3, Nat.mod_eq_of_lt (by omega)]; rfl
          · rw [if_neg h3, show k + 1 = met.length - p by omega, Nat.mod_self]; exact hg.symm
        refine ⟨_, rfl, by rw [List.length_drop]; omega, hR, fun e => ?_, fun _ k => ?_⟩
        · have : (met.drop p).length = 0 := by rw [e]; rfl
          rw [List.length_drop] at this; omega
        · obtain ⟨j, hj, e⟩ := round_all hR k i ⟨0, by rw [List.length_drop]; omega, by rw [hge]; exact hg⟩
          have := hR j hj
          rw [e] at this
          exact ⟨this.1, this.2.1⟩
      · rw [if_neg h2]
        have hnm : i ∉ met := by
          intro hm
          obtain ⟨k, hk, e⟩ := List.getElem_of_mem hm
          exact h2 (idxR_mem (k := k) (by rw [List.getD_eq_getElem?_getD, List.getElem?_eq_getElem hk, e]; rfl) _ 0 (by omega) (by omega))
        obtain ⟨r, e1, e2, e3, e4, e5⟩ := ih (met ++ [i]) (nx u i) (List.nodup_append.2 ⟨hn, by simp, by
            intro a ha b hb; simp at hb; subst hb; intro e; exact hnm (e ▸ ha)⟩)
          (fun x hx => by
            rcases List.mem_append.1 hx with h | h
            · exact hr x h
            · simp at h; subst h; exact h1)
          (fun k hk => by
            simp only [List.length_append, List.length_singleton] at hk ⊢
            rw [getD_app, getD_app]
            by_cases c : k < met.length
            · rw [if_pos c, hc k c, if_pos (show k + 1 < met.length + 1 by omega)]
              by_cases c2 : k + 1 < met.length
              · simp [c2]
              · simp [c2, show k + 1 = met.length by omega]
            · rw [if_neg c, if_pos (show k = met.length by omega), if_neg (show ¬ k + 1 < met.length + 1 by omega)])
          (by simp; omega)
        refine ⟨r, e1, by simp at e2; omega, e3, fun e => ?_, fun e k => ?_⟩
        · obtain ⟨k, hk, h⟩ := e4 e
          exact ⟨k + 1, by omega, h⟩
        · cases k with
          | zero => exact h1
          | succ k => exact e5 e k
    · rw [if_neg h1]
      exact ⟨[], rfl, by simp, fun k hk => by simp at hk, fun _ => ⟨0, by omega, h1⟩, fun e => absurd rfl e⟩
theorem at_in {u : List Int} : ∀ (m : Nat) (i : Int), (∀ k, 1 ≤ itN u k i ∧ itN u k i ≤ u.length) → 1 ≤ atR u m i ∧ atR u m i ≤ u.length := by
  intro m
  induction m with
  | zero => intro i h; exact h 0
  | succ m ih =>
    intro i h
    unfold atR
    rw [if_pos (show 1 ≤ i ∧ i ≤ (u.length : Int) from h 0)]
    exact ih _ fun k => h (k + 1)
theorem at_out {u : List Int} : ∀ (m k : Nat) (i : Int), k ≤ m → ¬ (1 ≤ itN u k i ∧ itN u k i ≤ u.length) → ¬ (1 ≤ atR u m i ∧ atR u m i ≤ u.length) := by
  intro m
  induction m with
  | zero => intro k i hk h; obtain rfl : k = 0 := by omega
            exact h
  | succ m ih =>
    intro k i hk h
    unfold atR
    by_cases c : 1 ≤ i ∧ i ≤ u.length
    · rw [if_pos c]
      cases k with
      | zero => exact absurd c h
      | succ k => exact ih k _ (by omega) h
    · rw [if_neg c]; exact c
theorem deep_shift (u : List Int) : ∀ (m : Nat) (i k : Int), deepR u m i k = if deepR u m i 0 < 0 then -1 else deepR u m i 0 + k := by
  intro m
  induction m with
  | zero => intro i k; simp [deepR]
  | succ m ih =>
    intro i k
    unfold deepR
    by_cases c : i = 1 ∧ 0 < u.length
    · rw [if_pos c, if_pos c]; simp
    · rw [if_neg c, if_neg c, ih _ (k + 1), ih _ (0 + 1)]
      by_cases c2 : deepR u m (nx u i) 0 < 0
      · simp [c2]
      · rw [if_neg c2, if_neg c2, if_neg (by omega)]; omega
theorem deep_ge (u : List Int) : ∀ (m : Nat) (i : Int), -1 ≤ deepR u m i 0 := by
  intro m
  induction m with
  | zero => intro i; simp [deepR]
  | succ m ih =>
    intro i
    unfold deepR
    split
    · omega
    · rw [deep_shift]; have := ih (nx u i); split <;> omega
theorem deep_more (u : List Int) : ∀ (m : Nat) (i : Int), 0 ≤ deepR u m i 0 → deepR u (m + 1) i 0 = deepR u m i 0 := by
  intro m
  induction m with
  | zero => intro i h; simp [deepR] at h
  | succ m ih =>
    intro i h
    unfold deepR at h ⊢
    by_cases c : i = 1 ∧ 0 < u.length
    · rw [if_pos c, if_pos c]
    · rw [if_neg c] at h ⊢
      rw [if_neg c]
      rw [deep_shift u m] at h
      have h0 : 0 ≤ deepR u m (nx u i) 0 := by
        by_cases c2 : deepR u m (nx u i) 0 < 0
        · rw [if_pos c2] at h; omega
        · omega
      rw [deep_shift u m, deep_shift u (m + 1), ih _ h0]
theorem deep_one {u : List Int} {i : Int} (h1 : 1 < i) (h : 0 < dp u i) : dp u i = dp u (nx u i) + 1 := by
  unfold dp at *
  have e : deepR u (u.length + 1) i 0 = deepR u u.length (nx u i) (0 + 1) := by
    conv => lhs; unfold deepR
    rw [if_neg (by omega)]
  rw [e, deep_shift] at h ⊢
  have h0 : ¬ deepR u u.length (nx u i) 0 < 0 := by
    intro c; rw [if_pos c] at h; omega
  rw [if_neg h0, deep_more u u.length _ (by omega)]
  omega
theorem root_deep {u : List Int} {on : List Bool} (h0 : 0 < u.length) : ∀ (m : Nat) (i : Int), rootR u on m i = true → 0 ≤ deepR u m i 0 := by
  intro m
  induction m with
  | zero => intro i h; simp [rootR] at h
  | succ m ih =>
    intro i h
    unfold rootR at h
    unfold deepR
    by_cases c : i = 1
    · rw [if_pos ⟨c, h0⟩]; omega
    · rw [if_neg (fun e => c e.1), deep_shift]
      split at h
      · cases h
      split at h
      · cases h
      split at h
      · cases h
      have := ih _ h
      rw [if_neg (by omega)]; omega
theorem deep_it {u : List Int} : ∀ (m : Nat) (i : Int), 0 ≤ deepR u m i 0 → ∃ k, itN u k i = 1 := by
  intro m
  induction m with
  | zero => intro i h; simp [deepR] at h
  | succ m ih =>
    intro i h
    unfold deepR at h
    by_cases c : i = 1 ∧ 0 < u.length
    · exact ⟨0, c.1⟩
    · rw [if_neg c, deep_shift] at h
      have h0 : 0 ≤ deepR u m (nx u i) 0 := by
        by_cases c2 : deepR u m (nx u i) 0 < 0
        · rw [if_pos c2] at h; omega
        · omega
      obtain ⟨k, hk⟩ := ih _ h0
      exact ⟨k + 1, hk⟩
theorem it_snoc (u : List Int) : ∀ (k : Nat) (i : Int), itN u (k + 1) i = nx u (itN u k i) := by
  intro k
  induction k with
  | zero => intro i; rfl
  | succ k ih => intro i; exact ih (nx u i)
theorem all_root {u : List Int} {on : List Bool} : ∀ (m n : Nat), allR u on m n = true → ∀ k : Nat, n ≤ k → k < n + m → on.getD k false = true → rootR u on u.length ((k : Int) + 1) = true := by
  intro m
  induction m with
  | zero => intro n _ k h1 h2; omega
  | succ m ih =>
    intro n h k h1 h2 h3
    unfold allR at h
    split at h
    · cases h
    · rename_i c
      by_cases e : k = n
      · subst e
        cases h4 : rootR u on u.length ((k : Int) + 1) with
        | true => rfl
        | false => exact absurd ⟨h3, h4⟩ c
      · exact ih (n + 1) h k (by omega) (by omega) h3
theorem plainE : PlainE := by
  intro A hA rA i h1 h2
  have hl := upsT_len A A.length
  generalize upsT A A.length = u at *
  obtain ⟨r, e1, e2, e3, e4, e5⟩ := loop_is (u := u) (u.length + 1) [] i (by simp) (by simp) (by simp) (by simp)
  refine ⟨u.length + 1 + 1, r, by omega, by simp at e2; omega, e1, ?_, e3, fun rt => ?_, deep_one⟩
  · by_cases c : r = []
    · obtain ⟨k, hk, h⟩ := e4 c
      have := at_out 30 k i (by omega) h
      rw [decide_eq_false this, c]; simp
    · have := at_in 30 i (e5 c)
      rw [decide_eq_true this]
      have : 0 < r.length := List.length_pos_iff.2 c
      simp [this]
  · unfold RootedR at rt
    split at rt
    · cases rt
    split at rt
    · cases rt
    split at rt
    · cases rt
    split at rt
    · cases rt
    rename_i c1 c2 c3 c4
    obtain ⟨j, rfl⟩ : ∃ j : Nat, i = (j : Int) + 1 := ⟨(i - 1).toNat, by omega⟩
    have hr := all_root _ _ rt j (by omega) (by simp; omega) (by
      rw [List.getD_eq_getElem?_getD, List.getElem?_replicate, if_pos (by omega)]; rfl)
    have hd := root_deep (by omega) _ _ hr
    have hd2 : 0 ≤ dp u ((j : Int) + 1) := by unfold dp; rw [deep_more u _ _ hd]; exact hd
    refine ⟨?_, hd2, fun hi => deep_one hi ?_⟩
    · refine Decidable.byContradiction fun c => ?_
      obtain ⟨k, hk⟩ := deep_it _ _ hd
      have := e5 c (k + 1)
      rw [it_snoc, hk] at this
      have e : nx u 1 = 0 := by unfold nx; rw [if_neg (by omega)]; simpa using c4
      omega
    · have : dp u ((j : Int) + 1) ≠ 0 := by
        intro e
        unfold dp deepR at e
        rw [if_neg (by omega), deep_shift] at e
        have := deep_ge u u.length (nx u ((j : Int) + 1))
        split at e <;> omega
      omega
end Go.Proofs.Ytldehmfhgmmkhaa.Pt
