/- The law NakServes: the walk. -/
import Derived.Test.YtccgolmdhikdoaaPcServ
import Derived.Test.YtccgolmdhikdoaaPcSpan2
import Derived.Test.YtccgolmdhikdoaaPmFeed
set_option linter.unusedVariables false
set_option linter.unusedSimpArgs false
namespace Go.Proofs.Ytccgolmdhikdoaa.Pn
open Go.Ab Go.Feed
set_option maxRecDepth 100000
@[simp] theorem binA_neqS (a b : List UInt8) : binA .neq (.str a) (.str b) = some (.bool (!decide (a = b))) := by
  show some (AV.bool (!(a == b))) = _
  congr 3
  by_cases h : a = b <;> simp [h]
section
variable {Q : AHeap}
end
end Go.Proofs.Ytccgolmdhikdoaa.Pn
/- The law NakAll: the walk. -/
set_option linter.unusedVariables false
set_option linter.unusedSimpArgs false
namespace Go.Proofs.Ytccgolmdhikdoaa.Pn
open Go.Ab Go.Feed
set_option maxRecDepth 100000
section
variable {Q : AHeap}
end
end Go.Proofs.Ytccgolmdhikdoaa.Pn
/- The law NakKept: the walk. -/
set_option linter.unusedVariables false
set_option linter.unusedSimpArgs false
namespace Go.Proofs.Ytccgolmdhikdoaa.Pn
open Go.Ab Go.Feed
set_option maxRecDepth 100000
theorem EvV (e : Ev) : Ev.v e = .agg [.int .i64 e.kind, .int .i64 e.lo, .int .i64 e.hi, .str e.text, .int .i64 e.why] := rfl
@[simp] theorem binA_eqlS (a b : List UInt8) : binA .eql (.str a) (.str b) = some (.bool (decide (a = b))) := by
  show some (AV.bool (a == b)) = _
  congr 2
  by_cases h : a = b <;> simp [h]
section
variable {Q : AHeap}
end
end Go.Proofs.Ytccgolmdhikdoaa.Pn
/- A window: what is put in whichever order lies alike. -/
set_option linter.unusedVariables false
namespace Go.Feed
theorem put_iff (w : List It) (n : Int) (x y : It) : y ∈ (put w n x).1 ↔ y ∈ w ∨ (y = x ∧ ¬ (there w x.seq = true ∨ x.seq < n ∨ 8 ≤ x.seq - n)) := by
  unfold put
  split
  · rename_i c; exact ⟨Or.inl, fun h => h.elim id fun h => absurd c h.2⟩
  · rename_i c
    have e : y ∈ w ↔ y ∈ w.take (posn w x.seq) ∨ y ∈ w.drop (posn w x.seq) := by rw [← List.mem_append, List.take_append_drop]
    simp only [List.mem_append, List.mem_singleton, e, c, not_false_eq_true, and_true]
    exact or_right_comm
theorem Sorted.ext : ∀ {a b : List It}, Sorted a → Sorted b → (∀ y, y ∈ a ↔ y ∈ b) → a = b
  | [], [], _, _, _ => rfl
  | [], y :: m, _, _, h => by have := (h y).2 List.mem_cons_self; cases this
  | x :: l, [], _, _, h => by have := (h x).1 List.mem_cons_self; cases this
  | x :: l, y :: m, ha, hb, h => by
    have ha' := List.pairwise_cons.1 ha
    have hb' := List.pairwise_cons.1 hb
    have e : x = y := by
      rcases List.mem_cons.1 ((h x).1 List.mem_cons_self) with e | e
      · exact e
      · rcases List.mem_cons.1 ((h y).2 List.mem_cons_self) with e2 | e2
        · exact e2.symm
        · have h1 := hb'.1 x e
          have h2 := ha'.1 y e2
          omega
    subst e
    rw [Sorted.ext ha'.2 hb'.2 fun y => ⟨fun hy => ?_, fun hy => ?_⟩]
    · rcases List.mem_cons.1 ((h y).1 (List.mem_cons_of_mem _ hy)) with rfl | e
      · exact absurd (ha'.1 y hy) (by omega)
      · exact e
    · rcases List.mem_cons.1 ((h y).2 (List.mem_cons_of_mem _ hy)) with rfl | e
      · exact absurd (hb'.1 y hy) (by omega)
      · exact e
end Go.Feed
