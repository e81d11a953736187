/- Structs and arrays that came in as arguments. -/
import Derived.Test.YtdbbdfmkglgjdaaSh10
import Derived.Test.YtdbbdfmkglgjdaaAb17
set_option linter.unusedVariables false
set_option linter.unusedSimpArgs false
set_option linter.unusedSectionVars false
namespace Go.Ab
section
variable {P : Program} {w : World} {r : Reach} {base : Nat}
theorem wf_range {k : IntKind} {n : Int} (h : (Lit.int k n).wf = true) : k.min ≤ n ∧ n ≤ k.max := by
  simpa [Lit.wf] using h
end
end Go.Ab
/- Rows of one's own that grow; tables. -/
set_option linter.unusedVariables false
set_option linter.unusedSimpArgs false
namespace Go.Ab
structure Same (Q : Nat → Prop) (H H1 : AHeap) : Prop where
  size : H.size ≤ H1.size
  get : ∀ r, Q r → H1.get r = H.get r
theorem Same.refl (Q : Nat → Prop) (H : AHeap) : Same Q H H := ⟨Nat.le_refl _, fun _ _ => rfl⟩
theorem Same.trans {Q : Nat → Prop} {H H1 H2 : AHeap} (a : Same Q H H1) (b : Same Q H1 H2) : Same Q H H2 := ⟨Nat.le_trans a.size b.size, fun r hr => (b.get r hr).trans (a.get r hr)⟩
theorem Same.push {Q : Nat → Prop} {H H1 : AHeap} (a : Same Q H H1) (hq : ∀ r, Q r → r < H1.size) (o : Option AObj) : Same Q H (H1.push o) :=
  ⟨by rw [AHeap.size_push]; exact Nat.le_succ_of_le a.size, fun r hr => by rw [AHeap.get_push, if_neg (by have := hq r hr; omega)]; exact a.get r hr⟩
theorem Same.put {Q : Nat → Prop} {H H1 : AHeap} (a : Same Q H H1) {r : Nat} (hq : ¬ Q r) (o : Option AObj) : Same Q H (H1.put r o) :=
  ⟨by rw [AHeap.size_put]; exact a.size, fun s hs => by rw [AHeap.get_put, if_neg (by intro e; subst e; exact hq hs)]; exact a.get s hs⟩
theorem Same.weaken {Q Q' : Nat → Prop} {H H1 : AHeap} (a : Same Q H H1) (h : ∀ r, Q' r → Q r) : Same Q' H H1 := ⟨a.size, fun r hr => a.get r (h r hr)⟩
theorem Same.kept {Q : Nat → Prop} {H H1 : AHeap} (a : Same Q H H1) (h : ∀ r, r < H.size → Q r) : Kept H H1 := ⟨a.size, fun r hr => a.get r (h r hr)⟩
theorem Kept.same {Q : Nat → Prop} {H H1 : AHeap} (a : Kept H H1) (h : ∀ r, Q r → r < H.size) : Same Q H H1 := ⟨a.size, fun r hr => a.get r (h r hr)⟩
def OwnR (z lo : Nat) (H : AHeap) (v : AV) (n : Nat) (cs : List AV) : Prop :=
  (v = .nils ∧ n = 0 ∧ cs = []) ∨ ∃ r, v = .sl r 0 n (.mi 0) ∧ lo ≤ r ∧ r < H.size ∧ H.get r = some (.cells .opened z cs) ∧ cs.length = n * z
def notOf (v : AV) (r : Nat) : Prop := ∀ o n c, v ≠ .sl r o n c
theorem OwnR.notOf {z lo n : Nat} {H : AHeap} {v : AV} {cs : List AV} (h : OwnR z lo H v n cs) {r : Nat} (hr : r < lo ∨ H.size ≤ r) : Go.Ab.notOf v r := by
  intro o m c e
  rcases h with ⟨rfl, _⟩ | ⟨q, rfl, h1, h2, _⟩
  · cases e
  · cases e; omega
theorem OwnR.nils (z lo : Nat) (H : AHeap) : OwnR z lo H .nils 0 [] := Or.inl ⟨rfl, rfl, rfl⟩
theorem OwnR.le {z lo lo' n : Nat} {H : AHeap} {v : AV} {cs : List AV} (h : OwnR z lo H v n cs) (hl : lo' ≤ lo) : OwnR z lo' H v n cs := by
  rcases h with h | ⟨r, e, h1, h2⟩
  · exact Or.inl h
  · exact Or.inr ⟨r, e, Nat.le_trans hl h1, h2⟩
theorem OwnR.same {z lo n : Nat} {H H1 : AHeap} {v : AV} {cs : List AV} (h : OwnR z lo H v n cs) (hk : H.size ≤ H1.size) (hg : ∀ r, lo ≤ r → r < H.size → H1.get r = H.get r) : OwnR z lo H1 v n cs := by
  rcases h with h | ⟨r, e, h1, h2, h3, h4⟩
  · exact Or.inl h
  · exact Or.inr ⟨r, e, h1, Nat.lt_of_lt_of_le h2 hk, (hg r h1 h2).trans h3, h4⟩
theorem OwnR.len {z lo n : Nat} {H : AHeap} {v : AV} {cs : List AV} (h : OwnR z lo H v n cs) : lenA v = some (.int .i64 n) := by
  rcases h with ⟨rfl, rfl, _⟩ | ⟨r, rfl, _⟩ <;> rfl
def Own (k : IntKind) (lo : Nat) (H : AHeap) (v : AV) (l : List Int) : Prop := OwnR 1 lo H v l.length (l.map (AV.int k))
theorem Own.nils (k : IntKind) (lo : Nat) (H : AHeap) : Own k lo H .nils [] := OwnR.nils _ _ _
theorem Own.same {k : IntKind} {lo : Nat} {H H1 : AHeap} {v : AV} {l : List Int} (h : Own k lo H v l) (hk : H.size ≤ H1.size) (hg : ∀ r, lo ≤ r → r < H.size → H1.get r = H.get r) : Own k lo H1 v l := OwnR.same h hk hg
section
variable {H : AHeap} {v : AV} {D : List (List Int)}
end
end Go.Ab
/- Closed functions that the evaluator finds true, told of in the callers' stead. -/
set_option linter.unusedVariables false
set_option linter.unusedSimpArgs false
namespace Go.Ab
open Go.RowKit
theorem Sim.below {B : Nat} {ρ : Rho} {w w' : World} {H : AHeap} (h : Sim B ρ w H) (hb : Below w.heap.size w w') : Sim B ρ w' H :=
  ⟨fun r L hr => ⟨(h.dom r L hr).1, Nat.lt_of_lt_of_le (h.dom r L hr).2 hb.size⟩, fun r L o hr ho => (h.obj r L o hr ho).same (hb.block _ (h.dom r L hr).2), h.inj⟩
end Go.Ab
