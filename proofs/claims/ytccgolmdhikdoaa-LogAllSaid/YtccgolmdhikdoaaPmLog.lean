/- Logs: a plain model. -/
import Derived.Test.YtccgolmdhikdoaaPmFeed
import Derived.Test.YtccgolmdhikdoaaPmSpan
set_option linter.unusedVariables false
set_option linter.unusedSimpArgs false
namespace Go.Logs
open Go.Feed hiding Sp
open Go.Span
def evOk (e : Ev) : Bool := decide (e.kind = 1 ∧ e.hi = e.lo ∧ e.text.length ≤ 12 ∧ e.why = 0) || decide (e.kind = 2 ∧ e.lo ≤ e.hi ∧ e.text = [] ∧ (e.why = 1 ∨ e.why = 2))
def mayL : Int → List Ev → Bool
  | _, [] => true
  | n, e :: l => decide (e.lo = n) && evOk e && decide (e.hi ≤ 1000000) && mayL (e.hi + 1) l
def mayLog (l : List Ev) (n : Int) : Bool := decide (1 ≤ n) && mayL n l
def nextL (l : List Ev) (n : Int) : Int := match l.getLast? with
  | some e => e.hi + 1
  | none => n
theorem nextL_cons (e : Ev) (l : List Ev) (n : Int) : nextL (e :: l) n = nextL l (e.hi + 1) := by
  unfold nextL
  cases l with
  | nil => rfl
  | cons x l => rw [List.getLast?_cons_cons]; cases h : (x :: l).getLast? with
    | none => simp at h
    | some y => rfl
theorem nextL_append : ∀ (a b : List Ev) (n : Int), nextL (a ++ b) n = nextL b (nextL a n)
  | [], b, n => rfl
  | e :: a, b, n => by rw [List.cons_append, nextL_cons, nextL_cons, nextL_append a b]
theorem mayL_append : ∀ (a b : List Ev) (n : Int), mayL n (a ++ b) = (mayL n a && mayL (nextL a n) b)
  | [], b, n => by simp [mayL, nextL]
  | e :: a, b, n => by rw [List.cons_append, mayL, mayL, mayL_append a b, nextL_cons]; simp only [Bool.and_assoc]
theorem mayL_ge : ∀ {l : List Ev} {n : Int}, mayL n l = true → n ≤ nextL l n ∧ ∀ e ∈ l, n ≤ e.lo ∧ e.lo ≤ e.hi ∧ e.hi ≤ 1000000 ∧ e.hi < nextL l n ∧ evOk e = true
  | [], n, _ => by simp [nextL]
  | e :: l, n, h => by
    simp only [mayL, Bool.and_eq_true, decide_eq_true_eq] at h
    obtain ⟨⟨⟨h1, h2⟩, h3⟩, h4⟩ := h
    obtain ⟨g1, g2⟩ := mayL_ge h4
    rw [nextL_cons]
    have : e.lo ≤ e.hi := by
      simp only [evOk, Bool.or_eq_true, decide_eq_true_eq] at h2
      omega
    refine ⟨by omega, fun x hx => ?_⟩
    rcases List.mem_cons.1 hx with rfl | hx
    · exact ⟨by omega, this, h3, by omega, h2⟩
    · have := g2 x hx; exact ⟨by omega, this.2.1, this.2.2.1, this.2.2.2.1, this.2.2.2.2⟩
def gapsL : List Ev → List Sp → List Sp
  | [], out => out
  | e :: l, out => gapsL l (if e.kind = 2 then add out (e.lo, e.hi) else out)
def logs : List (Int × Int) → List Ev → Int → List Ev
  | [], out, _ => out
  | p :: l, out, n => if 0 < p.1 % 3 then logs l (out ++ [⟨1, n, n, [UInt8.ofNat (97 + p.2 % 26).toNat], 0⟩]) (n + 1)
    else logs l (out ++ [⟨2, n, n + p.2 % 4, [], 1 + p.2 / 4 % 2⟩]) (n + p.2 % 4 + 1)
theorem logs_ok : ∀ {l : List (Int × Int)} {out : List Ev} {f n : Int}, (∀ p ∈ l, 0 ≤ p.2) → 1 ≤ f → mayL f out = true → nextL out f = n → n + 4 * l.length ≤ 1000000 → mayL f (logs l out n) = true ∧ (logs l out n).length = out.length + l.length ∧ nextL (logs l out n) f ≤ n + 4 * l.length
  | [], out, f, n, _, _, h, hn, _ => ⟨h, rfl, by simp [logs, hn]⟩
  | p :: l, out, f, n, hp, hf, h, hn, hb => by
    have h0 := hp p List.mem_cons_self
    have hge := (mayL_ge h).1
    simp only [List.length_cons] at hb
    unfold logs
    split
    · obtain ⟨a1, a2, a3⟩ := logs_ok (l := l) (out := out ++ [⟨1, n, n, [UInt8.ofNat (97 + p.2 % 26).toNat], 0⟩]) (f := f) (n := n + 1) (fun q hq => hp q (List.mem_cons_of_mem _ hq)) hf (by
        rw [mayL_append, h, hn]; simp [mayL, evOk]; omega) (by rw [nextL_append]; rfl) (by omega)
      exact ⟨a1, by rw [a2]; simp; omega, by simp; omega⟩
    · obtain ⟨a1, a2, a3⟩ := logs_ok (l := l) (out := out ++ [⟨2, n, n + p.2 % 4, [], 1 + p.2 / 4 % 2⟩]) (f := f) (n := n + p.2 % 4 + 1) (fun q hq => hp q (List.mem_cons_of_mem _ hq)) hf (by
        rw [mayL_append, h, hn]; simp [mayL, evOk]; omega) (by rw [nextL_append]; rfl) (by omega)
      exact ⟨a1, by rw [a2]; simp; omega, by simp; omega⟩
end Go.Logs
