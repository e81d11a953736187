/- Pieces: a plain model. -/
import Derived.Test.YtccgolmdhikdoaaPvE
import Derived.Test.YtccgolmdhikdoaaPmNak
set_option linter.unusedVariables false
set_option linter.unusedSimpArgs false
namespace Go.Span
abbrev Sp := Int × Int
def may (s : Sp) : Bool := decide (1 ≤ s.1 ∧ s.1 ≤ s.2 ∧ s.2 ≤ 1000000)
structure Gd (l : List Sp) : Prop where
  m : ∀ s ∈ l, 1 ≤ s.1 ∧ s.1 ≤ s.2 ∧ s.2 ≤ 1000000
  p : l.Pairwise fun a b => a.2 + 1 < b.1
theorem Gd.nil : Gd [] := ⟨fun s h => by simp at h, List.Pairwise.nil⟩
theorem Gd.tail {x : Sp} {l : List Sp} (h : Gd (x :: l)) : Gd l := ⟨fun s hs => h.m s (List.mem_cons_of_mem _ hs), (List.pairwise_cons.1 h.p).2⟩
theorem Gd.head {x : Sp} {l : List Sp} (h : Gd (x :: l)) : ∀ y ∈ l, x.2 + 1 < y.1 := (List.pairwise_cons.1 h.p).1
theorem Gd.cons {x : Sp} {l : List Sp} (h1 : 1 ≤ x.1 ∧ x.1 ≤ x.2 ∧ x.2 ≤ 1000000) (h2 : ∀ y ∈ l, x.2 + 1 < y.1) (h : Gd l) : Gd (x :: l) :=
  ⟨fun s hs => (List.mem_cons.1 hs).elim (fun e => e ▸ h1) (h.m s), List.pairwise_cons.2 ⟨h2, h.p⟩⟩
def has (l : List Sp) (n : Int) : Bool := l.any fun s => decide (s.1 ≤ n ∧ n ≤ s.2)
theorem has_cons (x : Sp) (l : List Sp) (n : Int) : has (x :: l) n = (decide (x.1 ≤ n ∧ n ≤ x.2) || has l n) := rfl
theorem has_nil (n : Int) : has [] n = false := rfl
theorem has_iff {l : List Sp} {n : Int} : has l n = true ↔ ∃ s ∈ l, s.1 ≤ n ∧ n ≤ s.2 := by simp [has]
def ins : List Sp → Sp → List Sp
  | [], s => [s]
  | x :: l, s => if x.2 + 1 < s.1 then x :: ins l s else if s.2 + 1 < x.1 then s :: x :: l else ins l (min s.1 x.1, max s.2 x.2)
theorem ins_gd : ∀ {l : List Sp} {s : Sp}, Gd l → (1 ≤ s.1 ∧ s.1 ≤ s.2 ∧ s.2 ≤ 1000000) → Gd (ins l s) ∧ ∀ b : Int, (∀ y ∈ l, b < y.1) → b < s.1 → ∀ y ∈ ins l s, b < y.1
  | [], s, h, hs => ⟨Gd.cons hs (by simp) Gd.nil, fun b _ hb y hy => by simp [ins] at hy; subst hy; exact hb⟩
  | x :: l, s, h, hs => by
    have hx := h.m x List.mem_cons_self
    unfold ins
    split
    · rename_i c
      obtain ⟨g1, g2⟩ := ins_gd h.tail hs
      refine ⟨Gd.cons hx (g2 _ h.head c) g1, fun b hb hbs y hy => ?_⟩
      rcases List.mem_cons.1 hy with rfl | hy
      · exact hb _ List.mem_cons_self
      · exact g2 b (fun y hy => hb y (List.mem_cons_of_mem _ hy)) hbs y hy
    · split
      · rename_i c1 c2
        refine ⟨Gd.cons hs (fun y hy => ?_) h, fun b hb hbs y hy => ?_⟩
        · rcases List.mem_cons.1 hy with rfl | hy
          · exact c2
          · have := h.head y hy; omega
        · rcases List.mem_cons.1 hy with rfl | hy
          · exact hbs
          · exact hb y hy
      · rename_i c1 c2
        obtain ⟨g1, g2⟩ := ins_gd (s := (min s.1 x.1, max s.2 x.2)) h.tail (by simp only; omega)
        refine ⟨g1, fun b hb hbs y hy => g2 b (fun y hy => hb y (List.mem_cons_of_mem _ hy)) ?_ y hy⟩
        have := hb x List.mem_cons_self
        simp only; omega
theorem ins_has : ∀ {l : List Sp} {s : Sp}, Gd l → (s.1 ≤ s.2) → ∀ n, has (ins l s) n = (has l n || decide (s.1 ≤ n ∧ n ≤ s.2))
  | [], s, h, hs, n => by simp [ins, has]
  | x :: l, s, h, hs, n => by
    have hx := h.m x List.mem_cons_self
    unfold ins
    split
    · rw [has_cons, has_cons, ins_has h.tail hs, Bool.or_assoc]
    · split
      · rw [has_cons, has_cons, Bool.or_comm]
      · rename_i c1 c2
        rw [ins_has h.tail (by simp only; omega), has_cons]
        have : decide (min s.1 x.1 ≤ n ∧ n ≤ max s.2 x.2) = (decide (x.1 ≤ n ∧ n ≤ x.2) || decide (s.1 ≤ n ∧ n ≤ s.2)) := by
          rw [Bool.eq_iff_iff]; simp only [decide_eq_true_eq, Bool.or_eq_true]; omega
        simp only [this]
        cases has l n <;> simp
def addL : List Sp → Sp → List Sp → List Sp × Sp
  | [], s, out => (out, s)
  | x :: l, s, out => if x.2 < s.1 - 1 ∨ s.2 + 1 < x.1 then addL l s (out ++ [x]) else addL l (min s.1 x.1, max s.2 x.2) out
def insAt (out : List Sp) (s : Sp) : Nat := (out.takeWhile fun x => decide (x.1 < s.1)).length
def insN (out : List Sp) (i : Nat) (s : Sp) : List Sp := out.take i ++ s :: out.drop i
def add (l : List Sp) (s : Sp) : List Sp := if may s then insN (addL l s []).1 (insAt (addL l s []).1 (addL l s []).2) (addL l s []).2 else l
theorem may_iff (s : Sp) : may s = true ↔ 1 ≤ s.1 ∧ s.1 ≤ s.2 ∧ s.2 ≤ 1000000 := by simp [may]
def radL : List Sp → Sp → List Sp → List Sp → List Sp × Sp × List Sp
  | [], s, f, b => (f, s, b)
  | x :: l, s, f, b => if x.2 + 1 < s.1 then radL l s (f ++ [x]) b else if s.2 + 1 < x.1 then radL l s f (b ++ [x]) else radL l (min s.1 x.1, max s.2 x.2) f b
def radd (l : List Sp) (s : Sp) : List Sp := if may s then (radL l s [] []).1 ++ [(radL l s [] []).2.1] ++ (radL l s [] []).2.2 else l
theorem radL_back : ∀ {l : List Sp} {s : Sp} {f b : List Sp}, s.1 ≤ s.2 → (∀ y ∈ l, y.1 ≤ y.2 ∧ s.2 + 1 < y.1) → radL l s f b = (f, s, b ++ l)
  | [], s, f, b, _, h => by simp [radL]
  | x :: l, s, f, b, hs, h => by
    have := h x List.mem_cons_self
    unfold radL
    rw [if_neg (by omega), if_pos this.2, radL_back hs fun y hy => h y (List.mem_cons_of_mem _ hy)]; simp
theorem radL_ins : ∀ {l : List Sp} {s : Sp} {f : List Sp}, Gd l → (1 ≤ s.1 ∧ s.1 ≤ s.2 ∧ s.2 ≤ 1000000) → (radL l s f []).1 ++ [(radL l s f []).2.1] ++ (radL l s f []).2.2 = f ++ ins l s
  | [], s, f, h, hs => by simp [radL, ins]
  | x :: l, s, f, h, hs => by
    have hx := h.m x List.mem_cons_self
    unfold radL ins
    by_cases c1 : x.2 + 1 < s.1
    · rw [if_pos c1, if_pos c1, radL_ins h.tail hs]; simp
    · by_cases c2 : s.2 + 1 < x.1
      · rw [if_neg c1, if_pos c2, if_neg c1, if_pos c2, radL_back hs.2.1 fun y hy => by have := h.head y hy; have := h.tail.m y hy; omega]; simp
      · rw [if_neg c1, if_neg c2, if_neg c1, if_neg c2, radL_ins h.tail (by simp only; omega)]
theorem radd_eq {l : List Sp} (h : Gd l) (s : Sp) : radd l s = if may s then ins l s else l := by
  unfold radd
  split
  · rename_i c
    rw [radL_ins h ((may_iff s).1 c)]; simp
  · rfl
def lk : List Sp → Int → Int → List Sp
  | [], n, h => if n ≤ h then [(n, h)] else []
  | x :: l, n, h => (if n < x.1 ∧ n ≤ h then [(n, min (x.1 - 1) h)] else []) ++ lk l (max n (x.2 + 1)) h
def rlk : List Sp → Int → Int → List Sp
  | [], n, h => if n ≤ h then [(n, h)] else []
  | x :: l, n, h => if h < n then [] else if x.2 < n ∨ h < x.1 then rlk l n h else (if n < x.1 then [(n, x.1 - 1)] else []) ++ rlk l (x.2 + 1) h
theorem Gd.ext : ∀ {a b : List Sp}, Gd a → Gd b → (∀ n, has a n = has b n) → a = b
  | [], [], _, _, _ => rfl
  | [], y :: m, _, hb, h => by
    have := h y.1
    have hy := hb.m y List.mem_cons_self
    rw [has_nil, has_cons, decide_eq_true ⟨Int.le_refl _, hy.2.1⟩] at this; simp at this
  | x :: l, [], ha, _, h => by
    have := h x.1
    have hx := ha.m x List.mem_cons_self
    rw [has_nil, has_cons, decide_eq_true ⟨Int.le_refl _, hx.2.1⟩] at this; simp at this
  | x :: l, y :: m, ha, hb, h => by
    have hx := ha.m x List.mem_cons_self
    have hy := hb.m y List.mem_cons_self
    have mem : ∀ {z : Sp} {r : List Sp} {n : Int}, Gd (z :: r) → has (z :: r) n = true → (z.1 ≤ n ∧ n ≤ z.2) ∨ (z.2 + 1 < n ∧ has r n = true) := by
      intro z r n g hh
      rw [has_cons, Bool.or_eq_true] at hh
      rcases hh with hh | hh
      · exact Or.inl (of_decide_eq_true hh)
      · obtain ⟨s, hs, h1, _⟩ := has_iff.1 hh
        have := g.head s hs
        exact Or.inr ⟨by omega, hh⟩
    have self : ∀ {z : Sp} {r : List Sp} {n : Int}, z.1 ≤ n → n ≤ z.2 → has (z :: r) n = true := fun h1 h2 => by
      rw [has_cons, decide_eq_true ⟨h1, h2⟩]; rfl
    have e1 : x.1 = y.1 := by
      have p1 := mem hb ((h x.1).symm.trans (self (Int.le_refl _) hx.2.1))
      have p2 := mem ha ((h y.1).trans (self (Int.le_refl _) hy.2.1))
      omega
    have e2 : x.2 = y.2 := by
      by_cases c : x.2 < y.2
      · have := mem ha ((h (x.2 + 1)).trans (self (by omega) (by omega)))
        omega
      · by_cases c2 : y.2 < x.2
        · have := mem hb ((h (y.2 + 1)).symm.trans (self (by omega) (by omega)))
          omega
        · omega
    have e : x = y := Prod.ext e1 e2
    subst e
    rw [Gd.ext ha.tail hb.tail fun n => ?_]
    have hn := h n
    rw [has_cons, has_cons] at hn
    by_cases c : x.1 ≤ n ∧ n ≤ x.2
    · have far : ∀ {r : List Sp}, Gd (x :: r) → has r n = false := fun g => by
        rw [Bool.eq_false_iff]; intro hh
        obtain ⟨s, hs, h1, _⟩ := has_iff.1 hh
        have := g.head s hs; omega
      rw [far ha, far hb]
    · rw [decide_eq_false c] at hn; simpa using hn
def cnt : List Sp → Int
  | [] => 0
  | x :: l => (x.2 - x.1 + 1) + cnt l
end Go.Span
/- What is served (plain). -/
set_option linter.unusedVariables false
set_option linter.unusedSimpArgs false
namespace Go.Feed
open Go.Span (Gd radd has ins)
def servI (r : List It) : Nat → Int → Int → List It
  | 0, _, _ => []
  | m + 1, n, h => if n ≤ h then (if there r n = true then ⟨n, getR r n⟩ :: servI r m (n + 1) h else servI r m (n + 1) h) else []
def addEnd (l : List Sp) (n : Int) : List Sp := match l.getLast? with
  | some s => if s.2 = n - 1 then l.dropLast ++ [(s.1, n)] else l ++ [(n, n)]
  | none => [(n, n)]
def servN (r : List It) : Nat → Int → Int → List Sp → List Sp
  | 0, _, _, o => o
  | m + 1, n, h, o => if n ≤ h then servN r m (n + 1) h (if there r n = true then o else radd o (n, n)) else o
theorem raddN {o : List Sp} (h : Gd o) {n : Int} (hn : 1 ≤ n ∧ n ≤ 1000000) : Gd (radd o (n, n)) ∧ ∀ k, has (radd o (n, n)) k = (has o k || decide (k = n)) := by
  have hm : Go.Span.may (n, n) = true := (Go.Span.may_iff _).2 (by simp only; omega)
  rw [Go.Span.radd_eq h, if_pos hm]
  refine ⟨(Go.Span.ins_gd h ((Go.Span.may_iff _).1 hm)).1, fun k => ?_⟩
  rw [Go.Span.ins_has h (Int.le_refl _)]
  congr 1
  rw [Bool.eq_iff_iff]; simp only [decide_eq_true_eq]; omega
theorem gd_snoc {l : List Sp} {s : Sp} : Gd (l ++ [s]) ↔ Gd l ∧ (1 ≤ s.1 ∧ s.1 ≤ s.2 ∧ s.2 ≤ 1000000) ∧ ∀ x ∈ l, x.2 + 1 < s.1 := by
  constructor
  · intro h
    refine ⟨⟨fun x hx => h.m x (List.mem_append_left _ hx), (List.pairwise_append.1 h.p).1⟩, h.m s (by simp), fun x hx => (List.pairwise_append.1 h.p).2.2 x hx s (by simp)⟩
  · rintro ⟨h1, h2, h3⟩
    refine ⟨fun x hx => ?_, List.pairwise_append.2 ⟨h1.p, List.pairwise_singleton _ _, fun a ha b hb => by simp at hb; subst hb; exact h3 a ha⟩⟩
    rcases List.mem_append.1 hx with hx | hx
    · exact h1.m x hx
    · simp at hx; subst hx; exact h2
theorem addEnd_eq {o : List Sp} (h : Gd o) {n : Int} (hn : 1 ≤ n ∧ n ≤ 1000000) (hl : ∀ s ∈ o, s.2 < n) : addEnd o n = radd o (n, n) := by
  obtain ⟨g, gh⟩ := raddN h hn
  have app : ∀ (a b : List Sp) (k : Int), has (a ++ b) k = (has a k || has b k) := fun a b k => by simp [has]
  have key : Gd (addEnd o n) ∧ ∀ k, has (addEnd o n) k = (has o k || decide (k = n)) := by
    unfold addEnd
    cases hg : o.getLast? with
    | none =>
      rw [List.getLast?_eq_none_iff] at hg; subst hg
      exact ⟨Go.Span.Gd.cons (by simp only; omega) (by simp) Go.Span.Gd.nil, fun k => by simp only [has, List.any_cons, List.any_nil, Bool.or_false, Bool.false_or]; rw [Bool.eq_iff_iff]; simp only [decide_eq_true_eq]; omega⟩
    | some s =>
      obtain ⟨ys, rfl⟩ := List.getLast?_eq_some_iff.1 hg
      obtain ⟨g1, g2, g3⟩ := gd_snoc.1 h
      have hs := hl s (by simp)
      simp only
      split
      · rename_i e
        rw [List.dropLast_concat]
        refine ⟨gd_snoc.2 ⟨g1, by simp only; omega, g3⟩, fun k => ?_⟩
        rw [app, app, Bool.or_assoc]
        congr 1
        simp only [has, List.any_cons, List.any_nil, Bool.or_false]
        rw [Bool.eq_iff_iff]; simp only [Bool.or_eq_true, decide_eq_true_eq]; omega
      · rename_i e
        refine ⟨gd_snoc.2 ⟨h, by simp only; omega, fun x hx => ?_⟩, fun k => ?_⟩
        · rcases List.mem_append.1 hx with hx | hx
          · have := g3 x hx; simp only; omega
          · simp at hx; subst hx; simp only; omega
        · rw [app (ys ++ [s])]
          congr 1
          simp only [has, List.any_cons, List.any_nil, Bool.or_false]
          rw [Bool.eq_iff_iff]; simp only [decide_eq_true_eq]; omega
  exact Go.Span.Gd.ext key.1 g fun k => by rw [key.2, gh]
theorem servN_ok (r : List It) : ∀ (m : Nat) (n h : Int) (o : List Sp), Gd o → 1 ≤ n → h ≤ 1000000 → Gd (servN r m n h o) ∧ ∀ k, has (servN r m n h o) k = (has o k || (decide (n ≤ k ∧ k < n + m ∧ k ≤ h) && !there r k))
  | 0, n, h, o, g, _, _ => ⟨g, fun k => by
    have : decide (n ≤ k ∧ k < n + (0 : Nat) ∧ k ≤ h) = false := decide_eq_false (by omega)
    rw [this]; simp [servN]⟩
  | m + 1, n, h, o, g, hn, hh => by
    unfold servN
    split
    · rename_i c
      have g' : Gd (if there r n = true then o else radd o (n, n)) := by
        split
        · exact g
        · exact (raddN g (by omega)).1
      obtain ⟨a, b⟩ := servN_ok r m (n + 1) h _ g' (by omega) hh
      refine ⟨a, fun k => ?_⟩
      rw [b]
      cases ht : there r n with
      | true =>
        simp only [if_true]
        congr 1
        by_cases hk : k = n
        · subst hk; rw [ht]; simp
        · congr 1; rw [Bool.eq_iff_iff]; simp only [decide_eq_true_eq]; omega
      | false =>
        rw [if_neg (by simp), (raddN g (by omega)).2, Bool.or_assoc]
        congr 1
        by_cases hk : k = n
        · subst hk; rw [ht]; simp; omega
        · rw [decide_eq_false hk, Bool.false_or]; congr 1; rw [Bool.eq_iff_iff]; simp only [decide_eq_true_eq]; omega
    · rename_i c
      refine ⟨g, fun k => ?_⟩
      have : decide (n ≤ k ∧ k < n + (m + 1 : Nat) ∧ k ≤ h) = false := decide_eq_false (by omega)
      rw [this]; simp
theorem servI_len (r : List It) : ∀ (m : Nat) (n h : Int), (servI r m n h).length ≤ m
  | 0, _, _ => by simp [servI]
  | m + 1, n, h => by
    have := servI_len r m (n + 1) h
    unfold servI
    split
    · split
      · simp; omega
      · omega
    · simp
theorem servN_len (r : List It) : ∀ (m : Nat) (n h : Int) (o : List Sp), Gd o → 1 ≤ n → h ≤ 1000000 → (servN r m n h o).length ≤ o.length + m
  | 0, _, _, o, _, _, _ => by simp [servN]
  | m + 1, n, h, o, g, hn, hh => by
    unfold servN
    split
    · have key : Gd (if there r n = true then o else radd o (n, n)) ∧ (if there r n = true then o else radd o (n, n)).length ≤ o.length + 1 := by
        split
        · exact ⟨g, by omega⟩
        · refine ⟨(raddN g (by omega)).1, ?_⟩
          have hm : Go.Span.may (n, n) = true := (Go.Span.may_iff _).2 (by simp only; omega)
          rw [Go.Span.radd_eq g, if_pos hm]
          have : ∀ (l : List Sp) (s : Sp), (ins l s).length ≤ l.length + 1 := by
            intro l
            induction l with
            | nil => intro s; simp [ins]
            | cons x l ih =>
              intro s
              unfold ins
              split
              · have := ih s; simp; omega
              · split
                · simp
                · have := ih (min s.1 x.1, max s.2 x.2); simp; omega
          exact this o _
      have := servN_len r m (n + 1) h _ key.1 (by omega) hh
      omega
    · omega
end Go.Feed
