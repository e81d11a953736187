/- Logs: a plain model. -/
import Derived.Test.YtccgolmdhikdoaaPcFeed
import Derived.Test.YtccgolmdhikdoaaPmSpan
set_option linter.unusedVariables false
set_option linter.unusedSimpArgs false
namespace Go.Logs
open Go.Feed hiding Sp
open Go.Span
def evOk (e : Ev) : Bool := decide (e.kind = 1 ∧ e.hi = e.lo ∧ e.text.length ≤ 12 ∧ e.why = 0) || decide (e.kind = 2 ∧ e.lo ≤ e.hi ∧ e.text = [] ∧ (e.why = 1 ∨ e.why = 2))
def mayL : Int → List Ev → Bool
  | _, [] => true
  | n, e :: l => decide (e.lo = n) && evOk e && decide (e.hi ≤ 1000000) && mayL (e.hi + 1) l
def mayLog (l : List Ev) (n : Int) : Bool := decide (1 ≤ n) && mayL n l
def nextL (l : List Ev) (n : Int) : Int := match l.getLast? with
  | some e => e.hi + 1
  | none => n
theorem nextL_cons (e : Ev) (l : List Ev) (n : Int) : nextL (e :: l) n = nextL l (e.hi + 1) := by
  unfold nextL
  cases l with
  | nil => rfl
  | cons x l => rw [List.getLast?_cons_cons]; cases h : (x :: l).getLast? with
    | none => simp at h
    | some y => rfl
theorem nextL_append : ∀ (a b : List Ev) (n : Int), nextL (a ++ b) n = nextL b (nextL a n)
  | [], b, n => rfl
  | e :: a, b, n => by rw [List.cons_append, nextL_cons, nextL_cons, nextL_append a b]
theorem mayL_append : ∀ (a b : List Ev) (n : Int), mayL n (a ++ b) = (mayL n a && mayL (nextL a n) b)
  | [], b, n => by simp [mayL, nextL]
  | e :: a, b, n => by rw [List.cons_append, mayL, mayL, mayL_append a b, nextL_cons]; simp only [Bool.and_assoc]
theorem mayL_ge : ∀ {l : List Ev} {n : Int}, mayL n l = true → n ≤ nextL l n ∧ ∀ e ∈ l, n ≤ e.lo ∧ e.lo ≤ e.hi ∧ e.hi ≤ 1000000 ∧ e.hi < nextL l n ∧ evOk e = true
  | [], n, _ => by simp [nextL]
  | e :: l, n, h => by
    simp only [mayL, Bool.and_eq_true, decide_eq_true_eq] at h
    obtain ⟨⟨⟨h1, h2⟩, h3⟩, h4⟩ := h
    obtain ⟨g1, g2⟩ := mayL_ge h4
    rw [nextL_cons]
    have : e.lo ≤ e.hi := by
      simp only [evOk, Bool.or_eq_true, decide_eq_true_eq] at h2
      omega
    refine ⟨by omega, fun x hx => ?_⟩
    rcases List.mem_cons.1 hx with rfl | hx
    · exact ⟨by omega, this, h3, by omega, h2⟩
    · have := g2 x hx; exact ⟨by omega, this.2.1, this.2.2.1, this.2.2.2.1, this.2.2.2.2⟩
def gapsL : List Ev → List Sp → List Sp
  | [], out => out
  | e :: l, out => gapsL l (if e.kind = 2 then add out (e.lo, e.hi) else out)
def gapHas (l : List Ev) (k : Int) : Bool := l.any fun e => decide (e.kind = 2 ∧ e.lo ≤ k ∧ k ≤ e.hi)
theorem gaps_ok : ∀ {l : List Ev} {out : List Sp}, (∀ e ∈ l, 1 ≤ e.lo ∧ e.lo ≤ e.hi ∧ e.hi ≤ 1000000) → Gd out → Gd (gapsL l out) ∧ ∀ k, has (gapsL l out) k = (has out k || gapHas l k)
  | [], out, _, h => ⟨h, fun k => by simp [gapsL, gapHas]⟩
  | e :: l, out, hl, h => by
    have he := hl e List.mem_cons_self
    have hm : Span.may (e.lo, e.hi) = true := (may_iff _).2 he
    have := gaps_ok (l := l) (out := if e.kind = 2 then add out (e.lo, e.hi) else out) (fun x hx => hl x (List.mem_cons_of_mem _ hx)) (by split; exact add_gd h _; exact h)
    refine ⟨this.1, fun k => ?_⟩
    have t2 := this.2 k
    rw [gapsL, t2]
    have : gapHas (e :: l) k = (decide (e.kind = 2 ∧ e.lo ≤ k ∧ k ≤ e.hi) || gapHas l k) := rfl
    rw [this]
    split
    · rename_i c
      rw [add_eq h, if_pos hm, ins_has h (by exact he.2.1), Bool.or_assoc]; simp [c]
    · rename_i c; simp [c]
def allL : List Sp → List Sp → List Sp
  | a, [] => a
  | a, s :: b => allL (radd a s) b
theorem all_ok : ∀ {b a : List Sp}, Gd a → (∀ s ∈ b, 1 ≤ s.1 ∧ s.1 ≤ s.2 ∧ s.2 ≤ 1000000) → Gd (allL a b) ∧ ∀ k, has (allL a b) k = (has a k || has b k)
  | [], a, h, _ => ⟨h, fun k => by simp [allL, has]⟩
  | s :: b, a, h, hb => by
    have hs := hb s List.mem_cons_self
    have e : radd a s = ins a s := by rw [radd_eq h, if_pos ((may_iff _).2 hs)]
    have := all_ok (b := b) (a := radd a s) (by rw [e]; exact (ins_gd h hs).1) (fun x hx => hb x (List.mem_cons_of_mem _ hx))
    refine ⟨this.1, fun k => ?_⟩
    rw [allL, this.2 k, e, ins_has h hs.2.1, has_cons, Bool.or_assoc]
theorem gaps_cut {a b : List Ev} {n : Int} (hn : 1 ≤ n) (h : mayL n (a ++ b) = true) : gapsL (a ++ b) [] = allL (gapsL a []) (gapsL b []) := by
  have h0 := (mayL_ge h).2
  have g : ∀ {l : List Ev}, (∀ e ∈ l, e ∈ a ++ b) → Gd (gapsL l []) ∧ ∀ k, has (gapsL l []) k = (has [] k || gapHas l k) := fun hl => gaps_ok (fun e he => by
    have := h0 e (hl e he); omega) Gd.nil
  have ga := g (l := a) fun e he => List.mem_append_left _ he
  have gb := g (l := b) fun e he => List.mem_append_right _ he
  have gx := g (l := a ++ b) fun e he => he
  have al := all_ok ga.1 gb.1.m
  refine Gd.ext gx.1 al.1 fun k => ?_
  rw [gx.2, al.2, ga.2, gb.2]
  simp [gapHas, has]
theorem mayLog_cut {a b : List Ev} {n : Int} (h : mayLog (a ++ b) n = true) : mayLog a n = true ∧ mayLog b (nextL a n) = true := by
  simp only [mayLog, Bool.and_eq_true, decide_eq_true_eq, mayL_append] at h ⊢
  have := (mayL_ge h.2.1).1
  exact ⟨⟨h.1, h.2.1⟩, by omega, h.2.2⟩
def logs : List (Int × Int) → List Ev → Int → List Ev
  | [], out, _ => out
  | p :: l, out, n => if 0 < p.1 % 3 then logs l (out ++ [⟨1, n, n, [UInt8.ofNat (97 + p.2 % 26).toNat], 0⟩]) (n + 1)
    else logs l (out ++ [⟨2, n, n + p.2 % 4, [], 1 + p.2 / 4 % 2⟩]) (n + p.2 % 4 + 1)
theorem logs_ok : ∀ {l : List (Int × Int)} {out : List Ev} {f n : Int}, (∀ p ∈ l, 0 ≤ p.2) → 1 ≤ f → mayL f out = true → nextL out f = n → n + 4 * l.length ≤ 1000000 → mayL f (logs l out n) = true ∧ (logs l out n).length = out.length + l.length ∧ nextL (logs l out n) f ≤ n + 4 * l.length
  | [], out, f, n, _, _, h, hn, _ => ⟨h, rfl, by simp [logs, hn]⟩
  | p :: l, out, f, n, hp, hf, h, hn, hb => by
    have h0 := hp p List.mem_cons_self
    have hge := (mayL_ge h).1
    simp only [List.length_cons] at hb
    unfold logs
    split
    · obtain ⟨a1, a2, a3⟩ := logs_ok (l := l) (out := out ++ [⟨1, n, n, [UInt8.ofNat (97 + p.2 % 26).toNat], 0⟩]) (f := f) (n := n + 1) (fun q hq => hp q (List.mem_cons_of_mem _ hq)) hf (by
        rw [mayL_append, h, hn]; simp [mayL, evOk]; omega) (by rw [nextL_append]; rfl) (by omega)
      exact ⟨a1, by rw [a2]; simp; omega, by simp; omega⟩
    · obtain ⟨a1, a2, a3⟩ := logs_ok (l := l) (out := out ++ [⟨2, n, n + p.2 % 4, [], 1 + p.2 / 4 % 2⟩]) (f := f) (n := n + p.2 % 4 + 1) (fun q hq => hp q (List.mem_cons_of_mem _ hq)) hf (by
        rw [mayL_append, h, hn]; simp [mayL, evOk]; omega) (by rw [nextL_append]; rfl) (by omega)
      exact ⟨a1, by rw [a2]; simp; omega, by simp; omega⟩
end Go.Logs
