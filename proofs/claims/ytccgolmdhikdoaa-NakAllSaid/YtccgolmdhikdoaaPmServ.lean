/- What the functions of span, and the document's, come to: what is there, and lacked. -/
import Derived.Test.YtccgolmdhikdoaaPcSpan
import Derived.Test.YtccgolmdhikdoaaPmNak
import Derived.Test.YtccgolmdhikdoaaPmSpan
set_option linter.unusedVariables false
set_option linter.unusedSimpArgs false
namespace Go.Proofs.Ytccgolmdhikdoaa.Pn
open Go.Ab Go.Feed
set_option maxRecDepth 100000
open Go.Span (add addL radd radL insN insAt lk rlk may has Gd)
section
variable {Q : AHeap}
end
end Go.Proofs.Ytccgolmdhikdoaa.Pn
/- What is served (plain). -/
set_option linter.unusedVariables false
set_option linter.unusedSimpArgs false
namespace Go.Feed
open Go.Span (Gd radd has ins)
def servI (r : List It) : Nat → Int → Int → List It
  | 0, _, _ => []
  | m + 1, n, h => if n ≤ h then (if there r n = true then ⟨n, getR r n⟩ :: servI r m (n + 1) h else servI r m (n + 1) h) else []
def addEnd (l : List Sp) (n : Int) : List Sp := match l.getLast? with
  | some s => if s.2 = n - 1 then l.dropLast ++ [(s.1, n)] else l ++ [(n, n)]
  | none => [(n, n)]
def servN (r : List It) : Nat → Int → Int → List Sp → List Sp
  | 0, _, _, o => o
  | m + 1, n, h, o => if n ≤ h then servN r m (n + 1) h (if there r n = true then o else radd o (n, n)) else o
theorem raddN {o : List Sp} (h : Gd o) {n : Int} (hn : 1 ≤ n ∧ n ≤ 1000000) : Gd (radd o (n, n)) ∧ ∀ k, has (radd o (n, n)) k = (has o k || decide (k = n)) := by
  have hm : Go.Span.may (n, n) = true := (Go.Span.may_iff _).2 (by simp only; omega)
  rw [Go.Span.radd_eq h, if_pos hm]
  refine ⟨(Go.Span.ins_gd h ((Go.Span.may_iff _).1 hm)).1, fun k => ?_⟩
  rw [Go.Span.ins_has h (Int.le_refl _)]
  congr 1
  rw [Bool.eq_iff_iff]; simp only [decide_eq_true_eq]; omega
theorem gd_snoc {l : List Sp} {s : Sp} : Gd (l ++ [s]) ↔ Gd l ∧ (1 ≤ s.1 ∧ s.1 ≤ s.2 ∧ s.2 ≤ 1000000) ∧ ∀ x ∈ l, x.2 + 1 < s.1 := by
  constructor
  · intro h
    refine ⟨⟨fun x hx => h.m x (List.mem_append_left _ hx), (List.pairwise_append.1 h.p).1⟩, h.m s (by simp), fun x hx => (List.pairwise_append.1 h.p).2.2 x hx s (by simp)⟩
  · rintro ⟨h1, h2, h3⟩
    refine ⟨fun x hx => ?_, List.pairwise_append.2 ⟨h1.p, List.pairwise_singleton _ _, fun a ha b hb => by simp at hb; subst hb; exact h3 a ha⟩⟩
    rcases List.mem_append.1 hx with hx | hx
    · exact h1.m x hx
    · simp at hx; subst hx; exact h2
theorem addEnd_eq {o : List Sp} (h : Gd o) {n : Int} (hn : 1 ≤ n ∧ n ≤ 1000000) (hl : ∀ s ∈ o, s.2 < n) : addEnd o n = radd o (n, n) := by
  obtain ⟨g, gh⟩ := raddN h hn
  have app : ∀ (a b : List Sp) (k : Int), has (a ++ b) k = (has a k || has b k) := fun a b k => by simp [has]
  have key : Gd (addEnd o n) ∧ ∀ k, has (addEnd o n) k = (has o k || decide (k = n)) := by
    unfold addEnd
    cases hg : o.getLast? with
    | none =>
      rw [List.getLast?_eq_none_iff] at hg; subst hg
      exact ⟨Go.Span.Gd.cons (by simp only; omega) (by simp) Go.Span.Gd.nil, fun k => by simp only [has, List.any_cons, List.any_nil, Bool.or_false, Bool.false_or]; rw [Bool.eq_iff_iff]; simp only [decide_eq_true_eq]; omega⟩
    | some s =>
      obtain ⟨ys, rfl⟩ := List.getLast?_eq_some_iff.1 hg
      obtain ⟨g1, g2, g3⟩ := gd_snoc.1 h
      have hs := hl s (by simp)
      simp only
      split
      · rename_i e
        rw [List.dropLast_concat]
        refine ⟨gd_snoc.2 ⟨g1, by simp only; omega, g3⟩, fun k => ?_⟩
        rw [app, app, Bool.or_assoc]
        congr 1
        simp only [has, List.any_cons, List.any_nil, Bool.or_false]
        rw [Bool.eq_iff_iff]; simp only [Bool.or_eq_true, decide_eq_true_eq]; omega
      · rename_i e
        refine ⟨gd_snoc.2 ⟨h, by simp only; omega, fun x hx => ?_⟩, fun k => ?_⟩
        · rcases List.mem_append.1 hx with hx | hx
          · have := g3 x hx; simp only; omega
          · simp at hx; subst hx; simp only; omega
        · rw [app (ys ++ [s])]
          congr 1
          simp only [has, List.any_cons, List.any_nil, Bool.or_false]
          rw [Bool.eq_iff_iff]; simp only [decide_eq_true_eq]; omega
  exact Go.Span.Gd.ext key.1 g fun k => by rw [key.2, gh]
theorem servI_len (r : List It) : ∀ (m : Nat) (n h : Int), (servI r m n h).length ≤ m
  | 0, _, _ => by simp [servI]
  | m + 1, n, h => by
    have := servI_len r m (n + 1) h
    unfold servI
    split
    · split
      · simp; omega
      · omega
    · simp
theorem servN_len (r : List It) : ∀ (m : Nat) (n h : Int) (o : List Sp), Gd o → 1 ≤ n → h ≤ 1000000 → (servN r m n h o).length ≤ o.length + m
  | 0, _, _, o, _, _, _ => by simp [servN]
  | m + 1, n, h, o, g, hn, hh => by
    unfold servN
    split
    · have key : Gd (if there r n = true then o else radd o (n, n)) ∧ (if there r n = true then o else radd o (n, n)).length ≤ o.length + 1 := by
        split
        · exact ⟨g, by omega⟩
        · refine ⟨(raddN g (by omega)).1, ?_⟩
          have hm : Go.Span.may (n, n) = true := (Go.Span.may_iff _).2 (by simp only; omega)
          rw [Go.Span.radd_eq g, if_pos hm]
          have : ∀ (l : List Sp) (s : Sp), (ins l s).length ≤ l.length + 1 := by
            intro l
            induction l with
            | nil => intro s; simp [ins]
            | cons x l ih =>
              intro s
              unfold ins
              split
              · have := ih s; simp; omega
              · split
                · simp
                · have := ih (min s.1 x.1, max s.2 x.2); simp; omega
          exact this o _
      have := servN_len r m (n + 1) h _ key.1 (by omega) hh
      omega
    · omega
end Go.Feed
