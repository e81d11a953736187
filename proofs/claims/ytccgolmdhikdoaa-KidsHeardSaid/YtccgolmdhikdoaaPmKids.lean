/- Who hangs on one: a plain model. -/
import Derived.Test.YtccgolmdhikdoaaPmFeed
set_option linter.unusedVariables false
namespace Go.Kids
open Go.Feed
structure Kid where
  id : Int
  inc : Int
  heard : Int
  deriving DecidableEq, Inhabited
def kit (k : Kid) : It := ⟨k.id, []⟩
def KS (l : List Kid) : Prop := l.Pairwise fun a b => a.id < b.id
theorem KS.so {l : List Kid} (h : KS l) : Sorted (l.map kit) := List.pairwise_map.2 h
def kpos (l : List Kid) (s : Int) : Nat := posn (l.map kit) s
def kget (l : List Kid) (s : Int) : Option Kid := l.find? fun x => decide (x.id = s)
theorem kit_getD (l : List Kid) (p : Nat) : ((l.map kit).getD p default).seq = (l.getD p default).id := by
  simp only [List.getD_eq_getElem?_getD, List.getElem?_map]
  cases l[p]? <;> rfl
theorem kpos_le (l : List Kid) (s : Int) : kpos l s ≤ l.length := by have := posn_le (l.map kit) s; simpa [kpos] using this
theorem there_kids (l : List Kid) (s : Int) : there (l.map kit) s = (kget l s).isSome := by
  rw [Bool.eq_iff_iff]
  simp only [there, kget, List.find?_isSome, List.any_map, List.any_eq_true, Function.comp, kit]
  exact Iff.rfl
theorem kget_some {l : List Kid} {s : Int} {x : Kid} (h : kget l s = some x) : x ∈ l ∧ x.id = s := by
  unfold kget at h
  exact ⟨List.mem_of_find?_eq_some h, by simpa using List.find?_some h⟩
theorem kget_none {l : List Kid} {s : Int} (h : kget l s = none) : ∀ x ∈ l, x.id ≠ s := by
  unfold kget at h
  intro x hx
  have := List.find?_eq_none.1 h x hx
  simpa using this
theorem KS.inj {l : List Kid} (h : KS l) {x y : Kid} (hx : x ∈ l) (hy : y ∈ l) (e : x.id = y.id) : x = y := by
  obtain ⟨i, hi, rfl⟩ := List.getElem_of_mem hx
  obtain ⟨j, hj, rfl⟩ := List.getElem_of_mem hy
  have hp := List.pairwise_iff_getElem.1 h
  rcases Nat.lt_trichotomy i j with c | c | c
  · have := hp i j hi hj c; omega
  · subst c; rfl
  · have := hp j i hj hi c; omega
theorem kget_is {l : List Kid} (h : KS l) {x : Kid} (hx : x ∈ l) : kget l x.id = some x := by
  cases e : kget l x.id with
  | none => exact absurd rfl (kget_none e x hx)
  | some y =>
    obtain ⟨h1, h2⟩ := kget_some e
    rw [h.inj h1 hx h2]
theorem kget_iff {l : List Kid} (h : KS l) {s : Int} {x : Kid} : kget l s = some x ↔ x ∈ l ∧ x.id = s :=
  ⟨kget_some, fun ⟨h1, h2⟩ => h2 ▸ kget_is h h1⟩
theorem kget_ext {l m : List Kid} (hl : KS l) (hm : KS m) {s : Int} {o : Option Kid} (h : ∀ x, (x ∈ m ∧ x.id = s) ↔ o = some x) : kget m s = o := by
  cases e : kget m s with
  | some x => exact ((h x).1 ((kget_iff hm).1 e)).symm
  | none =>
    cases o with
    | none => rfl
    | some x => exact absurd ((h x).2 rfl).2 (kget_none e x ((h x).2 rfl).1)
theorem kpos_get {l : List Kid} (h : KS l) {s : Int} {x : Kid} (hx : kget l s = some x) : kpos l s < l.length ∧ l[kpos l s]? = some x := by
  have ht : there (l.map kit) s = true := by rw [there_kids, hx]; rfl
  obtain ⟨h1, h2⟩ := (there_iff h.so s).1 ht
  rw [List.length_map] at h1
  rw [kit_getD] at h2
  have hg : l[kpos l s]? = some (l.getD (kpos l s) default) := getD_at h1
  have := kget_is h (List.mem_of_getElem? hg)
  rw [show (l.getD (kpos l s) default).id = s from h2, hx] at this
  exact ⟨h1, by rw [hg]; exact this.symm⟩
def hear (l : List Kid) (k : Kid) : List Kid × Bool := match kget l k.id with
  | some x => if k.inc < x.inc then (l, false) else (l.set (kpos l k.id) k, true)
  | none => (l.take (kpos l k.id) ++ [k] ++ l.drop (kpos l k.id), true)
theorem hear_mem {l : List Kid} (h : KS l) (k : Kid) (hok : (hear l k).2 = true) (y : Kid) : y ∈ (hear l k).1 ↔ y = k ∨ (y ∈ l ∧ y.id ≠ k.id) := by
  unfold hear at hok ⊢
  cases e : kget l k.id with
  | some x =>
    rw [e] at hok
    simp only at hok ⊢
    split at hok
    · cases hok
    · rename_i c
      rw [if_neg c]
      obtain ⟨h1, h2⟩ := kpos_get h e
      have hx := kget_some e
      constructor
      · intro hy
        obtain ⟨i, hi, rfl⟩ := List.getElem_of_mem hy
        rw [List.length_set] at hi
        rw [List.getElem_set]
        by_cases c2 : kpos l k.id = i
        · rw [if_pos c2]; exact Or.inl rfl
        · rw [if_neg c2]
          refine Or.inr ⟨List.getElem_mem _, fun e2 => c2 ?_⟩
          have e3 : l[i] = x := h.inj (List.getElem_mem _) hx.1 (by rw [e2, hx.2])
          have hp := List.pairwise_iff_getElem.1 h
          have h2' : l[kpos l k.id] = x := by rw [List.getElem?_eq_getElem h1] at h2; exact Option.some.inj h2
          rcases Nat.lt_trichotomy i (kpos l k.id) with c3 | c3 | c3
          · have := hp i _ hi h1 c3; rw [e3, h2'] at this; omega
          · exact c3.symm
          · have := hp _ i h1 hi c3; rw [e3, h2'] at this; omega
      · rintro (rfl | ⟨h3, h4⟩)
        · exact List.mem_of_getElem? (i := kpos l y.id) (by rw [List.getElem?_set_self h1])
        · obtain ⟨i, hi, rfl⟩ := List.getElem_of_mem h3
          refine List.mem_of_getElem? (i := i) ?_
          rw [List.getElem?_set_ne (fun c2 => h4 ?_), List.getElem?_eq_getElem hi]
          subst c2
          have h2' : l[kpos l k.id] = x := by rw [List.getElem?_eq_getElem h1] at h2; exact Option.some.inj h2
          rw [h2', hx.2]
  | none =>
    simp only
    have e2 : y ∈ l ↔ y ∈ l.take (kpos l k.id) ∨ y ∈ l.drop (kpos l k.id) := by rw [← List.mem_append, List.take_append_drop]
    have hn := kget_none e
    simp only [List.mem_append, List.mem_singleton]
    constructor
    · rintro ((h1 | h1) | h1)
      · exact Or.inr ⟨e2.2 (Or.inl h1), hn y (e2.2 (Or.inl h1))⟩
      · exact Or.inl h1
      · exact Or.inr ⟨e2.2 (Or.inr h1), hn y (e2.2 (Or.inr h1))⟩
    · rintro (h1 | ⟨h1, _⟩)
      · exact Or.inl (Or.inr h1)
      · rcases e2.1 h1 with h1 | h1
        · exact Or.inl (Or.inl h1)
        · exact Or.inr h1
theorem hear_ks {l : List Kid} (h : KS l) (k : Kid) : KS (hear l k).1 := by
  unfold hear
  cases e : kget l k.id with
  | some x =>
    simp only
    split
    · exact h
    · obtain ⟨h1, h2⟩ := kpos_get h e
      have hx := kget_some e
      have h2' : l[kpos l k.id] = x := by rw [List.getElem?_eq_getElem h1] at h2; exact Option.some.inj h2
      have hp := List.pairwise_iff_getElem.1 h
      refine List.pairwise_iff_getElem.2 fun i j hi hj hij => ?_
      rw [List.length_set] at hi hj
      rw [List.getElem_set, List.getElem_set]
      by_cases c1 : kpos l k.id = i
      · rw [if_pos c1, if_neg (by omega)]
        have := hp _ j h1 hj (by omega); rw [h2', hx.2] at this; exact this
      · rw [if_neg c1]
        by_cases c2 : kpos l k.id = j
        · rw [if_pos c2]
          have := hp i _ hi h1 (by omega); rw [h2', hx.2] at this; exact this
        · rw [if_neg c2]; exact hp i j hi hj hij
  | none =>
    have hn : there (l.map kit) k.id = false := by rw [there_kids, e]; rfl
    -- as a window in which all has room
    have hs := put_sorted (w := l.map kit) h.so (k.id) (kit k)
    unfold put at hs
    rw [if_neg (by
      rintro (c | c | c)
      · rw [show (kit k).seq = k.id from rfl, hn] at c; cases c
      · have : k.id < k.id := c; omega
      · have : 8 ≤ k.id - k.id := c; omega)] at hs
    have hs : Sorted ((l.map kit).take (kpos l k.id) ++ [kit k] ++ (l.map kit).drop (kpos l k.id)) := hs
    have e2 : (l.map kit).take (kpos l k.id) ++ [kit k] ++ (l.map kit).drop (kpos l k.id) = (l.take (kpos l k.id) ++ [k] ++ l.drop (kpos l k.id)).map kit := by simp [List.map_take, List.map_drop]
    rw [e2] at hs
    exact (List.pairwise_map (f := kit) (R := fun a b : It => a.seq < b.seq)).1 hs
theorem hear_get {l : List Kid} (h : KS l) (k : Kid) (hok : (hear l k).2 = true) (m : Int) : kget (hear l k).1 m = if m = k.id then some k else kget l m := by
  refine kget_ext h (hear_ks h k) fun x => ?_
  rw [hear_mem h k hok]
  by_cases c : m = k.id
  · rw [if_pos c]
    constructor
    · rintro ⟨rfl | ⟨_, h2⟩, h3⟩
      · rfl
      · exact absurd (h3.trans c) h2
    · intro e
      obtain rfl := Option.some.inj e
      exact ⟨Or.inl rfl, c.symm⟩
  · rw [if_neg c, kget_iff h]
    constructor
    · rintro ⟨rfl | ⟨h1, h2⟩, h3⟩
      · exact absurd h3.symm c
      · exact ⟨h1, h3⟩
    · rintro ⟨h1, h3⟩
      exact ⟨Or.inr ⟨h1, by rw [h3]; exact c⟩, h3⟩
theorem hear_ok (l : List Kid) (k : Kid) : (hear l k).2 = (match kget l k.id with
    | some x => decide (x.inc ≤ k.inc)
    | none => true) := by
  unfold hear
  cases e : kget l k.id with
  | none => rfl
  | some x =>
    simp only
    split
    · rename_i c; exact (decide_eq_false (by omega)).symm
    · rename_i c; exact (decide_eq_true (by omega)).symm
theorem hear_no {l : List Kid} {k : Kid} (h : (hear l k).2 = false) : (hear l k).1 = l := by
  unfold hear at h ⊢
  cases e : kget l k.id with
  | none => rw [e] at h; cases h
  | some x =>
    rw [e] at h
    simp only at h ⊢
    split
    · rfl
    · rename_i c; rw [if_neg c] at h; cases h
theorem hear_len (l : List Kid) (k : Kid) (hok : (hear l k).2 = true) : (hear l k).1.length = l.length + if (kget l k.id).isSome then 0 else 1 := by
  unfold hear at hok ⊢
  have := kpos_le l k.id
  cases e : kget l k.id with
  | none => simp; omega
  | some x =>
    rw [e] at hok
    simp only at hok ⊢
    split
    · rename_i c; rw [if_pos c] at hok; cases hok
    · simp
def outs (f : Kid → Bool) (l : List Kid) : List Kid := l.filter fun x => !f x
theorem outs_ks {l : List Kid} (h : KS l) (f : Kid → Bool) : KS (outs f l) := List.Pairwise.filter _ h
theorem outs_get {l : List Kid} (h : KS l) (f : Kid → Bool) (m : Int) : kget (outs f l) m = (kget l m).filter fun x => !f x := by
  refine kget_ext h (outs_ks h f) fun x => ?_
  unfold outs
  rw [List.mem_filter]
  cases e : kget l m with
  | none =>
    constructor
    · rintro ⟨⟨h1, _⟩, h2⟩; exact absurd h2 (kget_none e x h1)
    · intro h1; cases h1
  | some y =>
    obtain ⟨h1, h2⟩ := kget_some e
    rw [Option.filter_some]
    constructor
    · rintro ⟨⟨h3, h4⟩, h5⟩
      obtain rfl := h.inj h1 h3 (by rw [h2, h5])
      rw [if_pos h4]
    · intro h3
      split at h3
      · rename_i c
        obtain rfl := Option.some.inj h3
        exact ⟨⟨h1, c⟩, h2⟩
      · cases h3
structure Ok (l : List Kid) : Prop where
  ks : KS l
  b : ∀ x ∈ l, (1 ≤ x.id ∧ x.id ≤ 8) ∧ (1 ≤ x.inc ∧ x.inc ≤ 1073741824) ∧ (0 ≤ x.heard ∧ x.heard ≤ 1073741824)
theorem Ok.outs {l : List Kid} (h : Ok l) (f : Kid → Bool) : Ok (outs f l) := ⟨outs_ks h.ks f, fun x hx => h.b x (List.mem_filter.1 hx).1⟩
theorem Ok.hear {l : List Kid} (h : Ok l) {k : Kid} (hk : (1 ≤ k.id ∧ k.id ≤ 8) ∧ (1 ≤ k.inc ∧ k.inc ≤ 1073741824) ∧ (0 ≤ k.heard ∧ k.heard ≤ 1073741824)) : Ok (hear l k).1 := by
  refine ⟨hear_ks h.ks k, fun x hx => ?_⟩
  cases e : (Go.Kids.hear l k).2 with
  | false => rw [hear_no e] at hx; exact h.b x hx
  | true =>
    rcases (hear_mem h.ks k e x).1 hx with rfl | ⟨h1, _⟩
    · exact hk
    · exact h.b x h1
theorem Ok.len {l : List Kid} (h : Ok l) : l.length ≤ 8 := by
  have key : ∀ (l : List Kid) (a : Int), KS l → (∀ x ∈ l, a < x.id ∧ x.id ≤ 8) → a ≤ 8 → (l.length : Int) ≤ 8 - a := by
    intro l
    induction l with
    | nil => intro a _ _ h; simp; omega
    | cons x l ih =>
      intro a hk hb h
      have hk' := List.pairwise_cons.1 hk
      have h1 := hb x List.mem_cons_self
      have := ih x.id hk'.2 (fun y hy => ⟨hk'.1 y hy, (hb y (List.mem_cons_of_mem _ hy)).2⟩) h1.2
      simp; omega
  have := key l 0 h.ks (fun x hx => by have := (h.b x hx).1; omega) (by omega)
  omega
end Go.Kids
