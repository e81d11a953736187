/- Closed functions that the evaluator finds true, told of in the callers' stead. -/
import Derived.Test.YtldehmfhgmmkhaaSh12
import Derived.Test.YtldehmfhgmmkhaaAb17
set_option linter.unusedVariables false
set_option linter.unusedSimpArgs false
namespace Go.Ab
open Go.RowKit
theorem Sim.below {B : Nat} {ρ : Rho} {w w' : World} {H : AHeap} (h : Sim B ρ w H) (hb : Below w.heap.size w w') : Sim B ρ w' H :=
  ⟨fun r L hr => ⟨(h.dom r L hr).1, Nat.lt_of_lt_of_le (h.dom r L hr).2 hb.size⟩, fun r L o hr ho => (h.obj r L o hr ho).same (hb.block _ (h.dom r L hr).2), h.inj⟩
end Go.Ab
