/- A slice that is put into, whose room is not known: both ways told as one. -/
import Derived.Test.YtldehmfhgmmkhaaSh13
set_option linter.unusedVariables false
set_option linter.unusedSimpArgs false
set_option linter.unusedSectionVars false
namespace Go.Ab
open Go.RowKit
def AHeap.pushN (H : AHeap) : Nat → AHeap
  | 0 => H
  | n + 1 => (H.pushN n).push none
theorem ObjOk.back {B : Nat} {ρ ρ2 : Rho} {w w' : World} {L : Loc} {o : AObj} (hle : ρ.le ρ2) (h : ObjOk B ρ w L o) (h2 : ObjOk B ρ2 w' L o) : ObjOk B ρ w' L o := by
  cases o with
  | iter s p => exact h2
  | cells k z cs =>
    cases k
    case ro =>
      refine ⟨h2.1, fun i v hv => ?_⟩
      obtain ⟨x, a1, a2⟩ := h.2 i v hv
      obtain ⟨y, b1, b2⟩ := h2.2 i v hv
      have := conc_mono hle _ _ a1
      rw [this] at b1
      obtain rfl := Option.some.inj b1
      exact ⟨x, a1, b2⟩
    all_goals
      obtain ⟨_, _, cur0, _, _, _, _, a5, _⟩ := h
      obtain ⟨h1, h2', cur, e, fz, h3, h4, h5, h6⟩ := h2
      have := concL_mono hle _ _ a5
      rw [this] at h5
      exact ⟨h1, h2', cur, e, fz, h3, h4, a5.trans h5, h6⟩
structure InsRuns (E : Env) (f : Nat) (H : AHeap) (r n z N : Nat) (cs : List AV) (rest : List AV) (row : List AV) : Prop where
  got : H.get r = some (.cells .opened z cs)
  fits : n * z ≤ cs.length
  nN : n ≤ N
  told : ∀ ρ B w, Sim B ρ w H → (∃ xs, concL ρ (.sl r 0 n (.mi 0) :: rest) = some xs) → ∃ a, concL ρ row = some a
  full : ∀ C, n ≤ C → C < N → ∃ H2 r2, callV E f (.sl r 0 n (.ex C) :: rest) H = some (.sl r2 0 N (.mi 0), H2) ∧ H.size ≤ r2 ∧ (∃ more, H2.get r2 = some (.cells .opened z (row ++ more))) ∧ ∀ q, q < H.size → q ≠ r → H2.get q = H.get q
  room : ∀ C H1 extra, N ≤ C → C ≤ maxLen → H.size ≤ H1.size → H1.get r = some (.cells .opened z (cs ++ extra)) → (cs ++ extra).length = max cs.length (N * z) → (∀ q, q < H.size → q ≠ r → H1.get q = H.get q) →
    ∃ H2, callV E f (.sl r 0 n (.ex C) :: rest) H1 = some (.sl r 0 N (.ex C), H2) ∧ (∃ more, H2.get r = some (.cells .opened z (row ++ more))) ∧ ∀ q, q < H.size → q ≠ r → H2.get q = H1.get q
end Go.Ab
