/- The closed laws RttForms return true, whatever the world, and leave all that was there as it was: by the evaluator, run in the kernel. Printed by mkclosed.py of this repo. -/
import Derived.Test.YtldehmfhgmmkhaaRows
import Derived.Test.YtldehmfhgmmkhaaAcRtt
import Derived.WalkKit
import Derived.ProofKit
import Derived.OpenShut
import Derived.ShutString
import Derived.ChangeOld
import Derived.Below
import Derived.SizedLaws
namespace Go.Proofs.Ytldehmfhgmmkhaa.rttForms
open Go.ChangeShapes Go.WideShapes Go.ChangeAt Go.RowKit Go.Ab
open Go.Proofs.Ytldehmfhgmmkhaa.AcRtt (env envOk fok)
set_option linter.unusedVariables false
theorem own : ownKnob Try.prog.godebug = none := by kernel_rfl
set_option maxRecDepth 1000000 in
theorem quick : tellsTrue ((frun env 100000).1 6 [] AHeap.empty) = true := by kernel_rfl
theorem run : tellsTrue (acall env 100000 6 [] AHeap.empty) = true := tells_F fok quick
set_option maxRecDepth 100000 in
theorem lifted (os : Os) (started : os.Started) (H : Type) (enc : TypeId × Value → H) :
    ReturnsInHanded {} Try.checked os 6 .any (Rows.rttFormsSpec.pre6 enc Try.prog Try.f6 Rows.rttFormsRow.domain false) (Rows.rttFormsSpec.post enc Try.prog Try.f6 false true false false) := by
  refine returnsInHanded_of_change_sized (C := Try.checked) own started (by kernel_rfl) Try.func6
    (ChangeSpec.witness6 (enc := enc) (C := Try.checked) false ⟨#[], #[], []⟩ 8 (by kernel_rfl) (by kernel_rfl) (by kernel_rfl) (by kernel_rfl)) ?_
  intro W base args ds gs before hval0 hW hcnd hsz0 _
  have hW' := hW
  obtain ⟨p, q, hA0, hV, rfl, hfz, hnd⟩ := hW
  have hA : DataW.TrodAll enc Try.prog W 0 (fun _ => true) true Try.f6.params.toList args.toList ds p := hA0
  rw [Try.params6] at hA
  obtain ⟨rfl, rfl, rfl⟩ := trodAll_none hA
  obtain ⟨rfl, rfl⟩ := trodVars_none hV
  refine (closed_calls envOk rfl run W).mono fun e W' ⟨he, bel⟩ => ?_
  subst he
  exact ⟨_, rfl, _, _, _, [], _, [], hW', trodAll_mk1 (shut_bool Try.underlying4 _), trodAll_mk0, rfl, bel.frame _, fun h => by cases h⟩
theorem over : Rows.rttFormsRow.holds Try.pinned (OpenSpec.ofChange Rows.rttFormsSpec) :=
  OpenClaim.holds_of_wide 6 Try.f6 rfl rfl rfl rfl rfl rfl rfl ⟨rfl, rfl, rfl, rfl, rfl⟩ rfl rfl rfl rfl rfl (by kernel_rfl) Try.func6 (by kernel_rfl)
    (of_decide_eq_true (by kernel_rfl)) (by unfold Func.isWrapper; first | (rw [if_pos (by decide +kernel)]; kernel_rfl) | (rw [if_neg (by decide +kernel)]; exact ⟨rfl, rfl⟩))
    (fun os started H enc _ => lifted os started H enc)
theorem proved : Rows.RttFormsSaid := over
end Go.Proofs.Ytldehmfhgmmkhaa.rttForms
namespace Go.Proofs.Ytldehmfhgmmkhaa
/-- The row RttForms, for the claim. -/
theorem rttForms_holds : Rows.RttFormsSaid := rttForms.proved
#print axioms rttForms_holds
end Go.Proofs.Ytldehmfhgmmkhaa
