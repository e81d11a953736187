/- The law FeedTold returns true, whatever its arguments, and leaves all that was there as it was. Printed by mkrow.py of this repo. -/
import Derived.Test.YtmogepinpdibdaaRows
import Derived.Test.YtmogepinpdibdaaPlFeedTold
import Derived.Test.YtmogepinpdibdaaSh13
import Derived.WalkKit
import Derived.ProofKit
import Derived.OpenShut
import Derived.ShutString
import Derived.ChangeOld
import Derived.Below
import Derived.SizedLaws
namespace Go.Proofs.Ytmogepinpdibdaa.feedTold
open Go.ChangeShapes Go.WideShapes Go.ChangeAt Go.RowKit Go.Ab
open Go.ChangeMaps (open_string shut_string)
open Go.Proofs.Ytmogepinpdibdaa.Pf (env envOk law_FeedTold ok_S1)
set_option linter.unusedVariables false
theorem own : ownKnob Try.prog.godebug = none := by kernel_rfl
theorem laidOut : laidOutB Try.prog = true := by kernel_rfl
set_option maxRecDepth 100000 in
theorem lifted (os : Os) (started : os.Started) (H : Type) (enc : TypeId × Value → H) :
    ReturnsInHanded {} Try.checked os 6 .any (Rows.feedToldSpec.pre6 enc Try.prog Try.f6 Rows.feedToldRow.domain false) (Rows.feedToldSpec.post enc Try.prog Try.f6 false true false false) := by
  refine returnsInHanded_of_change_sized (C := Try.checked) own started (by kernel_rfl) Try.func6
    (ChangeSpec.witness6 (enc := enc) (C := Try.checked) false ⟨#[], #[.slice none 0 0], []⟩ 8 (by kernel_rfl) (by kernel_rfl) (by kernel_rfl) (by kernel_rfl)) ?_
  intro W base args ds gs before hval0 hW hcnd hsz0 _
  have hval : ∀ (j : Nat) t v, Try.f6.params[j]? = some t → args[j]? = some v → Value.okWide Try.prog W .any base t v := hval0
  have hW' := hW
  obtain ⟨p, q, hA0, hV, rfl, hfz, hnd⟩ := hW
  have hA : DataW.TrodAll enc Try.prog W 0 (fun _ => true) true Try.f6.params.toList args.toList ds p := hA0
  rw [Try.params6] at hA hval
  obtain ⟨v0, vs0, d0, ds0, p0, q0, hargs, rfl, rfl, h0, r0⟩ := trodAll_cons hA
  obtain ⟨rfl, rfl, rfl⟩ := trodAll_nil r0
  obtain rfl : args = #[v0] := by cases args; simp_all
  obtain ⟨rfl, rfl⟩ := trodVars_none hV
  have k0 := h0
  have lt0 : ∀ x ∈ p0, x.block < W.heap.size := by obtain ⟨m, hm⟩ := k0; exact DataW.trod_lt m _ _ _ hm
  have l0 := laid_nil W
  obtain ⟨av0, zs0, H1, l1, kp0, rd0, ml0, w0⟩ := l0.elems (fun zs : List Int => AV.agg (zs.map (AV.int .u8))) (fun zs => zs.length = 3 ∧ ∀ i ∈ zs, IntKind.u8.min ≤ i ∧ i ≤ IntKind.u8.max) Try.underlying22 (by kernel_rfl) (by decide) (hval 0 22 v0 rfl rfl) h0 (fun a ha => aggInts_ok a ha.1) (fun n cs x hx => trod_ints Try.underlying32 Try.underlying5 (by kernel_rfl) (by kernel_rfl) hx)
  clear hA0 hval0 hsz0
  refine (open_callsP (envOk ok_S1) rfl l1 (law_FeedTold av0 zs0 rd0 ml0 w0)).mono fun e W' ⟨he, bel⟩ => ?_
  subst he
  exact ⟨_, rfl, _, _, _, [], _, [], hW', trodAll_mk1 (shut_bool Try.underlying4 _), (trodAll_cons_mk (Below.trod laidOut (by kernel_rfl) (of_decide_eq_true (by kernel_rfl)) k0 bel lt0) trodAll_mk0), rfl, bel.frame _, fun h => by cases h⟩
theorem over : Rows.feedToldRow.holds Try.pinned (OpenSpec.ofChange Rows.feedToldSpec) :=
  OpenClaim.holds_of_wide 6 Try.f6 rfl rfl rfl rfl rfl rfl rfl ⟨rfl, rfl, rfl, rfl, rfl⟩ rfl rfl rfl rfl rfl (by kernel_rfl) Try.func6 (by kernel_rfl)
    (of_decide_eq_true (by kernel_rfl)) (by unfold Func.isWrapper; first | (rw [if_pos (by decide +kernel)]; kernel_rfl) | (rw [if_neg (by decide +kernel)]; exact ⟨rfl, rfl⟩))
    (fun os started H enc _ => lifted os started H enc)
theorem proved : Rows.FeedToldSaid := over
end Go.Proofs.Ytmogepinpdibdaa.feedTold
namespace Go.Proofs.Ytmogepinpdibdaa
theorem feedTold_holds : Rows.FeedToldSaid := feedTold.proved
#print axioms feedTold_holds
end Go.Proofs.Ytmogepinpdibdaa
