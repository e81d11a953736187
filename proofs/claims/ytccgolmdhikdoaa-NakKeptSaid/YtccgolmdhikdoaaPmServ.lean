/- Feeds that are made of choices (plain). -/
import Derived.Test.YtccgolmdhikdoaaPmFeed6
import Derived.Test.YtccgolmdhikdoaaPvE
set_option linter.unusedVariables false
namespace Go.Feed
structure Md (a : Int) (k : Nat) (f : Fed) : Prop where
  dd : Dd k f
  on : On a f
  wo : Wo f.win
theorem Md.weaken {a : Int} {k m : Nat} {f : Fed} (h : Md a k f) (hm : m ≤ k) : Md a m f := ⟨h.dd.weaken hm, h.on, h.wo⟩
theorem Md.knows {a : Int} {k : Nat} {f : Fed} (h : Md a k f) (t : Int) : Md a k (f.knows t) := ⟨(h.dd.knows t).1, (h.on.knows h.wo t).1, (h.on.knows h.wo t).2⟩
theorem Md.notes {a : Int} {k : Nat} {f : Fed} (h : Md a (k + 3) f) (lo hi : Int) : Md a k (f.notes lo hi) := by
  suffices key : On a (f.notes lo hi) ∧ Wo (f.notes lo hi).win from ⟨(h.dd.notes lo hi).1, key.1, key.2⟩
  unfold Fed.notes
  split
  · exact ⟨h.on, h.wo⟩
  · split
    · exact h.on.knows h.wo _
    · have hs := h.on.skips h.wo hi (why := 1) (Or.inl rfl)
      have hm := skips_mem (f := f) hi 1
      generalize (Go.Feed.skips f hi 1).1 = S at *
      exact On.tells (f := { S with top := _ }) (hs.of rfl rfl rfl) (fun x hx => h.wo x (hm x hx))
theorem Md.tick {a : Int} {k : Nat} {f : Fed} (h : Md a (k + 3) f) (now : Int) : Md a k (f.tick now).1 := by
  suffices key : On a ((f.tick now).1) ∧ Wo ((f.tick now).1).win from ⟨(h.dd.tick now).1, key.1, key.2⟩
  unfold Fed.tick
  split
  · exact ⟨h.on, h.wo⟩
  · split
    · have hs := h.on.skips h.wo (wants f).1.2 (why := 2) (Or.inr rfl)
      have hm := skips_mem (f := f) (wants f).1.2 2
      exact hs.tells (fun x hx => h.wo x (hm x hx))
    · exact ⟨h.on.of rfl rfl rfl, h.wo⟩
theorem Md.comes {a : Int} {k : Nat} {f : Fed} (h : Md a (k + 3) f) (i : It) : Md a k (f.comes i) := by
  suffices key : On a (f.comes i) ∧ Wo (f.comes i).win from ⟨(h.dd.comes i).1, key.1, key.2⟩
  unfold Fed.comes
  split
  · exact ⟨h.on, h.wo⟩
  · rename_i c
    have hk := h.on.knows h.wo i.seq
    generalize f.knows i.seq = K at *
    refine On.tells (f := { K with win := _ }) (hk.1.of rfl rfl rfl) (fun x hx => ?_)
    have hx : x ∈ (put K.win K.next i).1 := hx
    rcases put_mem hx with hx | rfl
    · exact hk.2 x hx
    · omega
def Fed0 : Fed := ⟨0, 0, [], [], [], 0, 0⟩
theorem Md.start {a : Int} (h : 1 ≤ a ∧ a ≤ 1000) : Md a 690000 { Fed0 with next := a } := by
  refine ⟨⟨⟨List.Pairwise.nil, fun x hx => by simp [Fed0] at hx, by simp [Fed0], by simp [Fed0]⟩, ⟨by simp [Fed0], by simp [Fed0], by simp only; omega, by simp only [Fed0, List.length_nil]; omega, fun x hx => by simp [Fed0] at hx⟩, by simp only; omega, by simp only; omega, fun x hx => by simp [Fed0] at hx, fun e => by simp only at e; omega⟩,
    ⟨h.1, rfl, ⟨List.Pairwise.nil, fun x hx => by simp [Fed0] at hx, by simp [Fed0]⟩⟩, fun x hx => by simp [Fed0] at hx⟩
end Go.Feed
/- Pieces: a plain model. -/
set_option linter.unusedVariables false
set_option linter.unusedSimpArgs false
namespace Go.Span
abbrev Sp := Int × Int
def may (s : Sp) : Bool := decide (1 ≤ s.1 ∧ s.1 ≤ s.2 ∧ s.2 ≤ 1000000)
structure Gd (l : List Sp) : Prop where
  m : ∀ s ∈ l, 1 ≤ s.1 ∧ s.1 ≤ s.2 ∧ s.2 ≤ 1000000
  p : l.Pairwise fun a b => a.2 + 1 < b.1
theorem Gd.nil : Gd [] := ⟨fun s h => by simp at h, List.Pairwise.nil⟩
theorem Gd.tail {x : Sp} {l : List Sp} (h : Gd (x :: l)) : Gd l := ⟨fun s hs => h.m s (List.mem_cons_of_mem _ hs), (List.pairwise_cons.1 h.p).2⟩
theorem Gd.head {x : Sp} {l : List Sp} (h : Gd (x :: l)) : ∀ y ∈ l, x.2 + 1 < y.1 := (List.pairwise_cons.1 h.p).1
theorem Gd.cons {x : Sp} {l : List Sp} (h1 : 1 ≤ x.1 ∧ x.1 ≤ x.2 ∧ x.2 ≤ 1000000) (h2 : ∀ y ∈ l, x.2 + 1 < y.1) (h : Gd l) : Gd (x :: l) :=
  ⟨fun s hs => (List.mem_cons.1 hs).elim (fun e => e ▸ h1) (h.m s), List.pairwise_cons.2 ⟨h2, h.p⟩⟩
def has (l : List Sp) (n : Int) : Bool := l.any fun s => decide (s.1 ≤ n ∧ n ≤ s.2)
theorem has_cons (x : Sp) (l : List Sp) (n : Int) : has (x :: l) n = (decide (x.1 ≤ n ∧ n ≤ x.2) || has l n) := rfl
theorem has_nil (n : Int) : has [] n = false := rfl
theorem has_iff {l : List Sp} {n : Int} : has l n = true ↔ ∃ s ∈ l, s.1 ≤ n ∧ n ≤ s.2 := by simp [has]
def ins : List Sp → Sp → List Sp
  | [], s => [s]
  | x :: l, s => if x.2 + 1 < s.1 then x :: ins l s else if s.2 + 1 < x.1 then s :: x :: l else ins l (min s.1 x.1, max s.2 x.2)
def addL : List Sp → Sp → List Sp → List Sp × Sp
  | [], s, out => (out, s)
  | x :: l, s, out => if x.2 < s.1 - 1 ∨ s.2 + 1 < x.1 then addL l s (out ++ [x]) else addL l (min s.1 x.1, max s.2 x.2) out
def insAt (out : List Sp) (s : Sp) : Nat := (out.takeWhile fun x => decide (x.1 < s.1)).length
def insN (out : List Sp) (i : Nat) (s : Sp) : List Sp := out.take i ++ s :: out.drop i
def add (l : List Sp) (s : Sp) : List Sp := if may s then insN (addL l s []).1 (insAt (addL l s []).1 (addL l s []).2) (addL l s []).2 else l
def radL : List Sp → Sp → List Sp → List Sp → List Sp × Sp × List Sp
  | [], s, f, b => (f, s, b)
  | x :: l, s, f, b => if x.2 + 1 < s.1 then radL l s (f ++ [x]) b else if s.2 + 1 < x.1 then radL l s f (b ++ [x]) else radL l (min s.1 x.1, max s.2 x.2) f b
def radd (l : List Sp) (s : Sp) : List Sp := if may s then (radL l s [] []).1 ++ [(radL l s [] []).2.1] ++ (radL l s [] []).2.2 else l
def lk : List Sp → Int → Int → List Sp
  | [], n, h => if n ≤ h then [(n, h)] else []
  | x :: l, n, h => (if n < x.1 ∧ n ≤ h then [(n, min (x.1 - 1) h)] else []) ++ lk l (max n (x.2 + 1)) h
def rlk : List Sp → Int → Int → List Sp
  | [], n, h => if n ≤ h then [(n, h)] else []
  | x :: l, n, h => if h < n then [] else if x.2 < n ∨ h < x.1 then rlk l n h else (if n < x.1 then [(n, x.1 - 1)] else []) ++ rlk l (x.2 + 1) h
theorem Gd.ext : ∀ {a b : List Sp}, Gd a → Gd b → (∀ n, has a n = has b n) → a = b
  | [], [], _, _, _ => rfl
  | [], y :: m, _, hb, h => by
    have := h y.1
    have hy := hb.m y List.mem_cons_self
    rw [has_nil, has_cons, decide_eq_true ⟨Int.le_refl _, hy.2.1⟩] at this; simp at this
  | x :: l, [], ha, _, h => by
    have := h x.1
    have hx := ha.m x List.mem_cons_self
    rw [has_nil, has_cons, decide_eq_true ⟨Int.le_refl _, hx.2.1⟩] at this; simp at this
  | x :: l, y :: m, ha, hb, h => by
    have hx := ha.m x List.mem_cons_self
    have hy := hb.m y List.mem_cons_self
    have mem : ∀ {z : Sp} {r : List Sp} {n : Int}, Gd (z :: r) → has (z :: r) n = true → (z.1 ≤ n ∧ n ≤ z.2) ∨ (z.2 + 1 < n ∧ has r n = true) := by
      intro z r n g hh
      rw [has_cons, Bool.or_eq_true] at hh
      rcases hh with hh | hh
      · exact Or.inl (of_decide_eq_true hh)
      · obtain ⟨s, hs, h1, _⟩ := has_iff.1 hh
        have := g.head s hs
        exact Or.inr ⟨by omega, hh⟩
    have self : ∀ {z : Sp} {r : List Sp} {n : Int}, z.1 ≤ n → n ≤ z.2 → has (z :: r) n = true := fun h1 h2 => by
      rw [has_cons, decide_eq_true ⟨h1, h2⟩]; rfl
    have e1 : x.1 = y.1 := by
      have p1 := mem hb ((h x.1).symm.trans (self (Int.le_refl _) hx.2.1))
      have p2 := mem ha ((h y.1).trans (self (Int.le_refl _) hy.2.1))
      omega
    have e2 : x.2 = y.2 := by
      by_cases c : x.2 < y.2
      · have := mem ha ((h (x.2 + 1)).trans (self (by omega) (by omega)))
        omega
      · by_cases c2 : y.2 < x.2
        · have := mem hb ((h (y.2 + 1)).symm.trans (self (by omega) (by omega)))
          omega
        · omega
    have e : x = y := Prod.ext e1 e2
    subst e
    rw [Gd.ext ha.tail hb.tail fun n => ?_]
    have hn := h n
    rw [has_cons, has_cons] at hn
    by_cases c : x.1 ≤ n ∧ n ≤ x.2
    · have far : ∀ {r : List Sp}, Gd (x :: r) → has r n = false := fun g => by
        rw [Bool.eq_false_iff]; intro hh
        obtain ⟨s, hs, h1, _⟩ := has_iff.1 hh
        have := g.head s hs; omega
      rw [far ha, far hb]
    · rw [decide_eq_false c] at hn; simpa using hn
def cnt : List Sp → Int
  | [] => 0
  | x :: l => (x.2 - x.1 + 1) + cnt l
end Go.Span
/- What is served (plain). -/
set_option linter.unusedVariables false
set_option linter.unusedSimpArgs false
namespace Go.Feed
open Go.Span (Gd radd has ins)
end Go.Feed
