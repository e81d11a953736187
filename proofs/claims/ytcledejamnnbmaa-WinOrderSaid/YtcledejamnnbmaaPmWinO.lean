/- A window out of which what is next is taken: what is there, and what was taken. -/
import Derived.Test.YtcledejamnnbmaaPmWin
import Derived.Test.YtcledejamnnbmaaPcMap
set_option linter.unusedVariables false
namespace Go.Feed
open Go.Ab
def ch (k : Int) : UInt8 := UInt8.ofNat (97 + k % 26).toNat
def gotL (m : Nat) : List UInt8 := (List.range m).map fun j : Nat => ch (5 + (j : Int))
theorem gotL_succ (m : Nat) : gotL (m + 1) = gotL m ++ [ch (5 + (m : Int))] := by simp [gotL, List.range_succ]
structure Wo (w : List It) (m : Nat) (T : List (Int × Unit)) (i : Nat) : Prop where
  so : Sorted w
  ge : ∀ y ∈ w, 5 + (m : Int) ≤ y.seq
  lt : ∀ y ∈ w, y.seq < 5 + (m : Int) + 8
  tx : ∀ y ∈ w, y.text = [ch y.seq]
  ca : ∀ k, isin T k = true ↔ (5 ≤ k ∧ k < 5 + (m : Int)) ∨ there w k = true
  le : m + w.length ≤ i
theorem Wo.zero : Wo [] 0 [] 0 := by
  refine ⟨List.Pairwise.nil, fun y hy => absurd hy List.not_mem_nil, fun y hy => absurd hy List.not_mem_nil, fun y hy => absurd hy List.not_mem_nil, fun k => ?_, by simp⟩
  have e : isin [] k = false := rfl
  rw [e]
  simp [there]
theorem Wo.len {w m T i} (h : Wo w m T i) : w.length ≤ 8 := by
  have := sorted_len h.so h.ge h.lt (by omega); omega
theorem Wo.put {w m T i} (h : Wo w m T i) {n : Int} (hn : 5 + (m : Int) - 2 ≤ n) :
    (put w (5 + m) ⟨n, [ch n]⟩).2 = (decide (5 + (m : Int) ≤ n) && decide (n < 5 + (m : Int) + 8) && !isin T n) ∧
    ((put w (5 + m) ⟨n, [ch n]⟩).2 = true → Wo (put w (5 + m) ⟨n, [ch n]⟩).1 m (mput T n ()) (i + 1)) ∧ ((put w (5 + m) ⟨n, [ch n]⟩).2 = false → Wo (put w (5 + m) ⟨n, [ch n]⟩).1 m T (i + 1)) := by
  have hc := h.ca n
  by_cases c : there w n = true ∨ n < 5 + (m : Int) ∨ 8 ≤ n - (5 + (m : Int))
  · have e : Go.Feed.put w (5 + m) ⟨n, [ch n]⟩ = (w, false) := by unfold Go.Feed.put; rw [if_pos c]
    rw [e]
    refine ⟨?_, fun x => (Bool.noConfusion x : _), fun _ => ⟨h.so, h.ge, h.lt, h.tx, h.ca, by have := h.le; show m + w.length ≤ i + 1; omega⟩⟩
    rcases c with c | c | c
    · have := hc.2 (Or.inr c); simp [this]
    · have : decide (5 + (m : Int) ≤ n) = false := decide_eq_false (by omega)
      simp [this]
    · have : decide (n < 5 + (m : Int) + 8) = false := decide_eq_false (by omega)
      simp [this]
  · have e : (Go.Feed.put w (5 + m) ⟨n, [ch n]⟩).2 = true := by unfold Go.Feed.put; rw [if_neg c]
    have c1 : ¬ there w n = true := fun x => c (Or.inl x)
    rw [e]
    refine ⟨?_, fun _ => ?_, fun x => (Bool.noConfusion x : _)⟩
    · have c2 : isin T n = false := by
        cases e2 : isin T n with
        | false => rfl
        | true => rcases hc.1 e2 with h1 | h1
                  · omega
                  · exact absurd h1 c1
      rw [c2, decide_eq_true (show 5 + (m : Int) ≤ n by omega), decide_eq_true (show n < 5 + (m : Int) + 8 by omega)]; rfl
    · have mem := put_iff w (5 + m) ⟨n, [ch n]⟩
      refine ⟨put_sorted h.so _ _, put_ge h.ge, put_lt h.lt, fun y hy => ?_, fun k => ?_, ?_⟩
      · rcases put_mem hy with hy | rfl
        · exact h.tx y hy
        · rfl
      · rw [isin_put]
        by_cases hk : k = n
        · subst hk
          have : there (Go.Feed.put w (5 + m) ⟨k, [ch k]⟩).1 k = true := (there_ex _ _).2 ⟨_, (mem _).2 (Or.inr ⟨rfl, c⟩), rfl⟩
          simp [this]
        · rw [there_put w _ _ (show (⟨n, [ch n]⟩ : It).seq ≠ k from fun x => hk x.symm)]
          simp [hk, h.ca k]
      · have := put_len w (5 + m) ⟨n, [ch n]⟩; have := h.le; omega
theorem Wo.take {x : It} {w m T i} (h : Wo (x :: w) m T i) (hx : x.seq = 5 + (m : Int)) : Wo w (m + 1) T i := by
  have hs := List.pairwise_cons.1 h.so
  refine ⟨hs.2, fun y hy => ?_, fun y hy => ?_, fun y hy => h.tx y (List.mem_cons_of_mem _ hy), fun k => ?_, ?_⟩
  · have := hs.1 y hy; push_cast; omega
  · have := h.lt y (List.mem_cons_of_mem _ hy); push_cast; omega
  · rw [h.ca k]
    have e : there (x :: w) k = true ↔ x.seq = k ∨ there w k = true := by simp [there]
    rw [e]
    push_cast
    constructor
    · rintro (h1 | h1 | h1)
      · left; omega
      · left; omega
      · exact Or.inr h1
    · rintro (h1 | h1)
      · by_cases hk : k < 5 + (m : Int)
        · left; omega
        · right; left; omega
      · exact Or.inr (Or.inr h1)
  · have := h.le; simp only [List.length_cons] at this; omega
theorem Wo.isNext {w m T i} (h : Wo w m T i) : isin T (5 + (m : Int)) = (match w with
    | [] => false
    | x :: _ => decide (x.seq = 5 + (m : Int))) := by
  rw [Bool.eq_iff_iff, h.ca]
  have hs := h.so
  cases w with
  | nil => simp [there]
  | cons x w =>
    have hs := List.pairwise_cons.1 h.so
    have hx := h.ge x List.mem_cons_self
    rw [there_ex]
    simp only [decide_eq_true_eq]
    constructor
    · rintro (h1 | ⟨y, hy, e⟩)
      · omega
      · rcases List.mem_cons.1 hy with rfl | hy
        · exact e
        · have := hs.1 y hy; omega
    · intro e; exact Or.inr ⟨x, List.mem_cons_self, e⟩
end Go.Feed
