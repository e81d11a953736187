/- Pieces: a plain model. -/
import Derived.Test.YtccgolmdhikdoaaPvE
set_option linter.unusedVariables false
set_option linter.unusedSimpArgs false
namespace Go.Span
abbrev Sp := Int × Int
def may (s : Sp) : Bool := decide (1 ≤ s.1 ∧ s.1 ≤ s.2 ∧ s.2 ≤ 1000000)
structure Gd (l : List Sp) : Prop where
  m : ∀ s ∈ l, 1 ≤ s.1 ∧ s.1 ≤ s.2 ∧ s.2 ≤ 1000000
  p : l.Pairwise fun a b => a.2 + 1 < b.1
theorem Gd.nil : Gd [] := ⟨fun s h => by simp at h, List.Pairwise.nil⟩
theorem Gd.tail {x : Sp} {l : List Sp} (h : Gd (x :: l)) : Gd l := ⟨fun s hs => h.m s (List.mem_cons_of_mem _ hs), (List.pairwise_cons.1 h.p).2⟩
theorem Gd.head {x : Sp} {l : List Sp} (h : Gd (x :: l)) : ∀ y ∈ l, x.2 + 1 < y.1 := (List.pairwise_cons.1 h.p).1
theorem Gd.cons {x : Sp} {l : List Sp} (h1 : 1 ≤ x.1 ∧ x.1 ≤ x.2 ∧ x.2 ≤ 1000000) (h2 : ∀ y ∈ l, x.2 + 1 < y.1) (h : Gd l) : Gd (x :: l) :=
  ⟨fun s hs => (List.mem_cons.1 hs).elim (fun e => e ▸ h1) (h.m s), List.pairwise_cons.2 ⟨h2, h.p⟩⟩
def has (l : List Sp) (n : Int) : Bool := l.any fun s => decide (s.1 ≤ n ∧ n ≤ s.2)
theorem has_cons (x : Sp) (l : List Sp) (n : Int) : has (x :: l) n = (decide (x.1 ≤ n ∧ n ≤ x.2) || has l n) := rfl
theorem has_nil (n : Int) : has [] n = false := rfl
theorem has_iff {l : List Sp} {n : Int} : has l n = true ↔ ∃ s ∈ l, s.1 ≤ n ∧ n ≤ s.2 := by simp [has]
def ins : List Sp → Sp → List Sp
  | [], s => [s]
  | x :: l, s => if x.2 + 1 < s.1 then x :: ins l s else if s.2 + 1 < x.1 then s :: x :: l else ins l (min s.1 x.1, max s.2 x.2)
theorem ins_gd : ∀ {l : List Sp} {s : Sp}, Gd l → (1 ≤ s.1 ∧ s.1 ≤ s.2 ∧ s.2 ≤ 1000000) → Gd (ins l s) ∧ ∀ b : Int, (∀ y ∈ l, b < y.1) → b < s.1 → ∀ y ∈ ins l s, b < y.1
  | [], s, h, hs => ⟨Gd.cons hs (by simp) Gd.nil, fun b _ hb y hy => by simp [ins] at hy; subst hy; exact hb⟩
  | x :: l, s, h, hs => by
    have hx := h.m x List.mem_cons_self
    unfold ins
    split
    · rename_i c
      obtain ⟨g1, g2⟩ := ins_gd h.tail hs
      refine ⟨Gd.cons hx (g2 _ h.head c) g1, fun b hb hbs y hy => ?_⟩
      rcases List.mem_cons.1 hy with rfl | hy
      · exact hb _ List.mem_cons_self
      · exact g2 b (fun y hy => hb y (List.mem_cons_of_mem _ hy)) hbs y hy
    · split
      · rename_i c1 c2
        refine ⟨Gd.cons hs (fun y hy => ?_) h, fun b hb hbs y hy => ?_⟩
        · rcases List.mem_cons.1 hy with rfl | hy
          · exact c2
          · have := h.head y hy; omega
        · rcases List.mem_cons.1 hy with rfl | hy
          · exact hbs
          · exact hb y hy
      · rename_i c1 c2
        obtain ⟨g1, g2⟩ := ins_gd (s := (min s.1 x.1, max s.2 x.2)) h.tail (by simp only; omega)
        refine ⟨g1, fun b hb hbs y hy => g2 b (fun y hy => hb y (List.mem_cons_of_mem _ hy)) ?_ y hy⟩
        have := hb x List.mem_cons_self
        simp only; omega
theorem ins_has : ∀ {l : List Sp} {s : Sp}, Gd l → (s.1 ≤ s.2) → ∀ n, has (ins l s) n = (has l n || decide (s.1 ≤ n ∧ n ≤ s.2))
  | [], s, h, hs, n => by simp [ins, has]
  | x :: l, s, h, hs, n => by
    have hx := h.m x List.mem_cons_self
    unfold ins
    split
    · rw [has_cons, has_cons, ins_has h.tail hs, Bool.or_assoc]
    · split
      · rw [has_cons, has_cons, Bool.or_comm]
      · rename_i c1 c2
        rw [ins_has h.tail (by simp only; omega), has_cons]
        have : decide (min s.1 x.1 ≤ n ∧ n ≤ max s.2 x.2) = (decide (x.1 ≤ n ∧ n ≤ x.2) || decide (s.1 ≤ n ∧ n ≤ s.2)) := by
          rw [Bool.eq_iff_iff]; simp only [decide_eq_true_eq, Bool.or_eq_true]; omega
        simp only [this]
        cases has l n <;> simp
def addL : List Sp → Sp → List Sp → List Sp × Sp
  | [], s, out => (out, s)
  | x :: l, s, out => if x.2 < s.1 - 1 ∨ s.2 + 1 < x.1 then addL l s (out ++ [x]) else addL l (min s.1 x.1, max s.2 x.2) out
def insAt (out : List Sp) (s : Sp) : Nat := (out.takeWhile fun x => decide (x.1 < s.1)).length
def insN (out : List Sp) (i : Nat) (s : Sp) : List Sp := out.take i ++ s :: out.drop i
theorem insAt_all {out rest : List Sp} {s : Sp} (h : ∀ y ∈ out, y.1 < s.1) (h2 : ∀ y ∈ rest, ¬ y.1 < s.1) : insAt (out ++ rest) s = out.length := by
  unfold insAt
  rw [List.takeWhile_append_of_pos (fun y hy => by simpa using h y hy)]
  cases rest with
  | nil => simp
  | cons y l => simp [h2 y List.mem_cons_self]
theorem addL_back : ∀ {l : List Sp} {s : Sp} {out : List Sp}, (∀ y ∈ l, s.2 + 1 < y.1) → addL l s out = (out ++ l, s)
  | [], s, out, h => by simp [addL]
  | x :: l, s, out, h => by
    unfold addL
    rw [if_pos (Or.inr (h x List.mem_cons_self)), addL_back fun y hy => h y (List.mem_cons_of_mem _ hy)]; simp
theorem addL_ins : ∀ {l : List Sp} {s : Sp} {out : List Sp}, Gd l → (1 ≤ s.1 ∧ s.1 ≤ s.2 ∧ s.2 ≤ 1000000) → (∀ y ∈ out, y.1 ≤ y.2 ∧ y.2 + 1 < s.1) → (∀ y ∈ out, ∀ x ∈ l, y.2 + 1 < x.1) →
    insN (addL l s out).1 (insAt (addL l s out).1 (addL l s out).2) (addL l s out).2 = out ++ ins l s
  | [], s, out, h, hs, ho, hol => by
    simp only [addL, ins]
    have := insAt_all (out := out) (rest := []) (s := s) (fun y hy => by have := ho y hy; omega) (by simp)
    simp only [List.append_nil] at this
    rw [this]; simp [insN]
  | x :: l, s, out, h, hs, ho, hol => by
    have hx := h.m x List.mem_cons_self
    unfold addL ins
    by_cases c1 : x.2 + 1 < s.1
    · rw [if_pos (Or.inl (by omega)), if_pos c1, addL_ins h.tail hs (fun y hy => ?_) (fun y hy z hz => ?_)]
      · simp
      · rcases List.mem_append.1 hy with hy | hy
        · exact ho y hy
        · simp at hy; subst hy; omega
      · rcases List.mem_append.1 hy with hy | hy
        · exact hol y hy z (List.mem_cons_of_mem _ hz)
        · simp at hy; subst hy; exact h.head z hz
    · by_cases c2 : s.2 + 1 < x.1
      · rw [if_pos (Or.inr c2), if_neg c1, if_pos c2, addL_back fun y hy => by have := h.head y hy; omega]
        have := insAt_all (out := out) (rest := x :: l) (s := s) (fun y hy => by have := ho y hy; omega) (fun y hy => by
          rcases List.mem_cons.1 hy with rfl | hy
          · omega
          · have := h.head y hy; omega)
        simp only [List.append_assoc, List.singleton_append]
        rw [this]; simp [insN]
      · rw [if_neg (by omega), if_neg c1, if_neg c2, addL_ins h.tail (by simp only; omega) (fun y hy => ?_) (fun y hy z hz => hol y hy z (List.mem_cons_of_mem _ hz))]
        have h1 := ho y hy
        have h2 := hol y hy x List.mem_cons_self
        refine ⟨h1.1, ?_⟩
        simp only; omega
def add (l : List Sp) (s : Sp) : List Sp := if may s then insN (addL l s []).1 (insAt (addL l s []).1 (addL l s []).2) (addL l s []).2 else l
theorem may_iff (s : Sp) : may s = true ↔ 1 ≤ s.1 ∧ s.1 ≤ s.2 ∧ s.2 ≤ 1000000 := by simp [may]
theorem add_eq {l : List Sp} (h : Gd l) (s : Sp) : add l s = if may s then ins l s else l := by
  unfold add
  split
  · rename_i c
    rw [addL_ins h ((may_iff s).1 c) (by simp) (by simp)]; simp
  · rfl
def radL : List Sp → Sp → List Sp → List Sp → List Sp × Sp × List Sp
  | [], s, f, b => (f, s, b)
  | x :: l, s, f, b => if x.2 + 1 < s.1 then radL l s (f ++ [x]) b else if s.2 + 1 < x.1 then radL l s f (b ++ [x]) else radL l (min s.1 x.1, max s.2 x.2) f b
def radd (l : List Sp) (s : Sp) : List Sp := if may s then (radL l s [] []).1 ++ [(radL l s [] []).2.1] ++ (radL l s [] []).2.2 else l
theorem add_gd {l : List Sp} (h : Gd l) (s : Sp) : Gd (add l s) := by
  rw [add_eq h]
  split
  · rename_i c; exact (ins_gd h ((may_iff s).1 c)).1
  · exact h
def lk : List Sp → Int → Int → List Sp
  | [], n, h => if n ≤ h then [(n, h)] else []
  | x :: l, n, h => (if n < x.1 ∧ n ≤ h then [(n, min (x.1 - 1) h)] else []) ++ lk l (max n (x.2 + 1)) h
def rlk : List Sp → Int → Int → List Sp
  | [], n, h => if n ≤ h then [(n, h)] else []
  | x :: l, n, h => if h < n then [] else if x.2 < n ∨ h < x.1 then rlk l n h else (if n < x.1 then [(n, x.1 - 1)] else []) ++ rlk l (x.2 + 1) h
theorem Gd.ext : ∀ {a b : List Sp}, Gd a → Gd b → (∀ n, has a n = has b n) → a = b
  | [], [], _, _, _ => rfl
  | [], y :: m, _, hb, h => by
    have := h y.1
    have hy := hb.m y List.mem_cons_self
    rw [has_nil, has_cons, decide_eq_true ⟨Int.le_refl _, hy.2.1⟩] at this; simp at this
  | x :: l, [], ha, _, h => by
    have := h x.1
    have hx := ha.m x List.mem_cons_self
    rw [has_nil, has_cons, decide_eq_true ⟨Int.le_refl _, hx.2.1⟩] at this; simp at this
  | x :: l, y :: m, ha, hb, h => by
    have hx := ha.m x List.mem_cons_self
    have hy := hb.m y List.mem_cons_self
    have mem : ∀ {z : Sp} {r : List Sp} {n : Int}, Gd (z :: r) → has (z :: r) n = true → (z.1 ≤ n ∧ n ≤ z.2) ∨ (z.2 + 1 < n ∧ has r n = true) := by
      intro z r n g hh
      rw [has_cons, Bool.or_eq_true] at hh
      rcases hh with hh | hh
      · exact Or.inl (of_decide_eq_true hh)
      · obtain ⟨s, hs, h1, _⟩ := has_iff.1 hh
        have := g.head s hs
        exact Or.inr ⟨by omega, hh⟩
    have self : ∀ {z : Sp} {r : List Sp} {n : Int}, z.1 ≤ n → n ≤ z.2 → has (z :: r) n = true := fun h1 h2 => by
      rw [has_cons, decide_eq_true ⟨h1, h2⟩]; rfl
    have e1 : x.1 = y.1 := by
      have p1 := mem hb ((h x.1).symm.trans (self (Int.le_refl _) hx.2.1))
      have p2 := mem ha ((h y.1).trans (self (Int.le_refl _) hy.2.1))
      omega
    have e2 : x.2 = y.2 := by
      by_cases c : x.2 < y.2
      · have := mem ha ((h (x.2 + 1)).trans (self (by omega) (by omega)))
        omega
      · by_cases c2 : y.2 < x.2
        · have := mem hb ((h (y.2 + 1)).symm.trans (self (by omega) (by omega)))
          omega
        · omega
    have e : x = y := Prod.ext e1 e2
    subst e
    rw [Gd.ext ha.tail hb.tail fun n => ?_]
    have hn := h n
    rw [has_cons, has_cons] at hn
    by_cases c : x.1 ≤ n ∧ n ≤ x.2
    · have far : ∀ {r : List Sp}, Gd (x :: r) → has r n = false := fun g => by
        rw [Bool.eq_false_iff]; intro hh
        obtain ⟨s, hs, h1, _⟩ := has_iff.1 hh
        have := g.head s hs; omega
      rw [far ha, far hb]
    · rw [decide_eq_false c] at hn; simpa using hn
def cnt : List Sp → Int
  | [] => 0
  | x :: l => (x.2 - x.1 + 1) + cnt l
end Go.Span
