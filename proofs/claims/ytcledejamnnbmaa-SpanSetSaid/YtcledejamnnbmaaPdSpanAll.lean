/- The law SpanAll: the walk. -/
import Derived.Test.YtcledejamnnbmaaPcSpan2
set_option linter.unusedVariables false
set_option linter.unusedSimpArgs false
namespace Go.Proofs.Ytcledejamnnbmaa.Ps
open Go.Ab Go.Feed
set_option maxRecDepth 100000
open Go.Span (add radd lk rlk may has Gd)
def pv (p : Int × Int) : AV := .agg [.int .u8 p.1, .int .u8 p.2]
theorem wrapu8 {i : Int} (h : 0 ≤ i) (h2 : i ≤ 255) : IntKind.u8.wrap i = i := by
  have : IntKind.u8.wrap i = i % 256 := rfl
  rw [this]; omega
theorem tmode {a b : Int} (h : 0 ≤ a) : a.tmod b = a % b := Int.tmod_eq_emod_of_nonneg h
def Prs (P : List (Int × Int)) : Prop := ∀ p ∈ P, (0 ≤ p.1 ∧ p.1 ≤ 255) ∧ (0 ≤ p.2 ∧ p.2 ≤ 255)
theorem Prs.get {P : List (Int × Int)} (h : Prs P) {i : Nat} (hi : i < P.length) : ∃ x y, P[i]? = some (x, y) ∧ (0 ≤ x ∧ x ≤ 255) ∧ (0 ≤ y ∧ y ≤ 255) ∧ P.drop i = (x, y) :: P.drop (i + 1) := by
  have := h _ (List.getElem_mem hi)
  exact ⟨P[i].1, P[i].2, by rw [List.getElem?_eq_getElem hi], this.1, this.2, List.drop_eq_getElem_cons hi⟩
theorem insLen : ∀ (l : List Sp) (s : Sp), (Go.Span.ins l s).length ≤ l.length + 1
  | [], s => by simp [Go.Span.ins]
  | x :: l, s => by
    unfold Go.Span.ins
    split
    · have := insLen l s; simp; omega
    · split
      · simp
      · have := insLen l (min s.1 x.1, max s.2 x.2); simp; omega
section
variable {Q : AHeap}
end
end Go.Proofs.Ytcledejamnnbmaa.Ps
