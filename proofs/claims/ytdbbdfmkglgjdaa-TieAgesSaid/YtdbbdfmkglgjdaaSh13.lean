/- Structs and arrays that came in as arguments. -/
import Derived.Test.YtdbbdfmkglgjdaaSh10
import Derived.Test.YtdbbdfmkglgjdaaAb17
set_option linter.unusedVariables false
set_option linter.unusedSimpArgs false
set_option linter.unusedSectionVars false
namespace Go.Ab
section
variable {P : Program} {w : World} {r : Reach} {base : Nat}
theorem z5f {k : IntKind} {n : Int} (h : (Lit.int k n).wf = true) : k.min ≤ n ∧ n ≤ k.max := by
 simpa [Lit.wf] using h
end
end Go.Ab
/- Rows of one's own that grow; tables. -/
namespace Go.Ab
structure Q9 (Q : Nat → Prop) (H H1 : z3) : Prop where
 size : H.size ≤ H1.size
 get : ∀ r, Q r → H1.get r = H.get r
theorem Q9.refl (Q : Nat → Prop) (H : z3) : Q9 Q H H := ⟨Nat.le_refl _, fun _ _ => rfl⟩
theorem Q9.trans {Q : Nat → Prop} {H H1 H2 : z3} (a : Q9 Q H H1) (b : Q9 Q H1 H2) : Q9 Q H H2 := ⟨Nat.le_trans a.size b.size, fun r hr => (b.get r hr).trans (a.get r hr)⟩
theorem Q9.push {Q : Nat → Prop} {H H1 : z3} (a : Q9 Q H H1) (hq : ∀ r, Q r → r < H1.size) (o : Option zB) : Q9 Q H (H1.push o) :=
 ⟨by rw [z3.size_push]; exact Nat.le_succ_of_le a.size, fun r hr => by rw [z3.get_push, if_neg (by have := hq r hr; omega)]; exact a.get r hr⟩
theorem Q9.put {Q : Nat → Prop} {H H1 : z3} (a : Q9 Q H H1) {r : Nat} (hq : ¬ Q r) (o : Option zB) : Q9 Q H (H1.put r o) :=
 ⟨by rw [z3.size_put]; exact a.size, fun s hs => by rw [z3.get_put, if_neg (by intro e; subst e; exact hq hs)]; exact a.get s hs⟩
theorem Q9.weaken {Q Q' : Nat → Prop} {H H1 : z3} (a : Q9 Q H H1) (h : ∀ r, Q' r → Q r) : Q9 Q' H H1 := ⟨a.size, fun r hr => a.get r (h r hr)⟩
theorem Q9.kept {Q : Nat → Prop} {H H1 : z3} (a : Q9 Q H H1) (h : ∀ r, r < H.size → Q r) : Z5 H H1 := ⟨a.size, fun r hr => a.get r (h r hr)⟩
theorem Z5.same {Q : Nat → Prop} {H H1 : z3} (a : Z5 H H1) (h : ∀ r, Q r → r < H.size) : Q9 Q H H1 := ⟨a.size, fun r hr => a.get r (h r hr)⟩
def Je (z lo : Nat) (H : z3) (v : AV) (n : Nat) (cs : List AV) : Prop :=
 (v = .nils ∧ n = 0 ∧ cs = []) ∨ ∃ r, v = .sl r 0 n (.mi 0) ∧ lo ≤ r ∧ r < H.size ∧ H.get r = some (.cells .opened z cs) ∧ cs.length = n * z
def notOf (v : AV) (r : Nat) : Prop := ∀ o n c, v ≠ .sl r o n c
theorem Je.notOf {z lo n : Nat} {H : z3} {v : AV} {cs : List AV} (h : Je z lo H v n cs) {r : Nat} (hr : r < lo ∨ H.size ≤ r) : Go.Ab.notOf v r := by
 intro o m c e
 rcases h with ⟨rfl, _⟩ | ⟨q, rfl, h1, h2, _⟩
 ·cases e
 ·cases e; omega
theorem Je.nils (z lo : Nat) (H : z3) : Je z lo H .nils 0 [] := Or.inl ⟨rfl, rfl, rfl⟩
theorem Je.le {z lo lo' n : Nat} {H : z3} {v : AV} {cs : List AV} (h : Je z lo H v n cs) (hl : lo' ≤ lo) : Je z lo' H v n cs := by
 rcases h with h | ⟨r, e, h1, h2⟩
 ·exact Or.inl h
 ·exact Or.inr ⟨r, e, Nat.le_trans hl h1, h2⟩
theorem Je.same {z lo n : Nat} {H H1 : z3} {v : AV} {cs : List AV} (h : Je z lo H v n cs) (hk : H.size ≤ H1.size) (hg : ∀ r, lo ≤ r → r < H.size → H1.get r = H.get r) : Je z lo H1 v n cs := by
 rcases h with h | ⟨r, e, h1, h2, h3, h4⟩
 ·exact Or.inl h
 ·exact Or.inr ⟨r, e, h1, Nat.lt_of_lt_of_le h2 hk, (hg r h1 h2).trans h3, h4⟩
theorem Je.len {z lo n : Nat} {H : z3} {v : AV} {cs : List AV} (h : Je z lo H v n cs) : z1y v = some (.int .i64 n) := by
 rcases h with ⟨rfl, rfl, _⟩ | ⟨r, rfl, _⟩ <;> rfl
def Own (k : IntKind) (lo : Nat) (H : z3) (v : AV) (l : List Int) : Prop := Je 1 lo H v l.length (l.map (AV.int k))
theorem Own.nils (k : IntKind) (lo : Nat) (H : z3) : Own k lo H .nils [] := Je.nils _ _ _
theorem Own.same {k : IntKind} {lo : Nat} {H H1 : z3} {v : AV} {l : List Int} (h : Own k lo H v l) (hk : H.size ≤ H1.size) (hg : ∀ r, lo ≤ r → r < H.size → H1.get r = H.get r) : Own k lo H1 v l := Je.same h hk hg
section
variable {H : z3} {v : AV} {D : List (List Int)}
end
end Go.Ab
/- Closed functions that the evaluator finds true, told of in the callers' stead. -/
namespace Go.Ab
open Go.RowKit
theorem Sim.below {B : Nat} {ρ : Rho} {w w' : World} {H : z3} (h : Sim B ρ w H) (hb : Below w.heap.size w w') : Sim B ρ w' H :=
 ⟨fun r L hr => ⟨(h.dom r L hr).1, Nat.lt_of_lt_of_le (h.dom r L hr).2 hb.size⟩, fun r L o hr ho => (h.obj r L o hr ho).same (hb.block _ (h.dom r L hr).2), h.inj⟩
end Go.Ab
