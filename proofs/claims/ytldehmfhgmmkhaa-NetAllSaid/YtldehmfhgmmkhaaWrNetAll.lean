/- The law NetAll returns true, whatever its arguments, and leaves all that was there as it was. Printed by mkrow.py of this repo. -/
import Derived.Test.YtldehmfhgmmkhaaRows
import Derived.Test.YtldehmfhgmmkhaaPlNetAll
import Derived.Test.YtldehmfhgmmkhaaSh11
import Derived.WalkKit
import Derived.ProofKit
import Derived.OpenShut
import Derived.ShutString
import Derived.ChangeOld
import Derived.Below
import Derived.SizedLaws
namespace Go.Proofs.Ytldehmfhgmmkhaa.netAll
open Go.ChangeShapes Go.WideShapes Go.ChangeAt Go.RowKit Go.Ab
open Go.ChangeMaps (open_string shut_string)
open Go.Proofs.Ytldehmfhgmmkhaa.Pn (env envOk law_NetAll ok_S1)
set_option linter.unusedVariables false
theorem own : ownKnob Try.prog.godebug = none := by kernel_rfl
theorem laidOut : laidOutB Try.prog = true := by kernel_rfl
set_option maxRecDepth 100000 in
theorem lifted (os : Os) (started : os.Started) (H : Type) (enc : TypeId × Value → H) :
    ReturnsInHanded {} Try.checked os 7 .any (Rows.netAllSpec.pre6 enc Try.prog Try.f7 Rows.netAllRow.domain false) (Rows.netAllSpec.post enc Try.prog Try.f7 false true false false) := by
  refine returnsInHanded_of_change_sized (C := Try.checked) own started (by kernel_rfl) Try.func7
    (ChangeSpec.witness6 (enc := enc) (C := Try.checked) false ⟨#[], #[.slice none 0 0, .int .i64 0, .agg #[.int .i64 0, .string (ByteArray.mk #[]), .bool false]], []⟩ 8 (by kernel_rfl) (by kernel_rfl) (by kernel_rfl) (by kernel_rfl)) ?_
  intro W base args ds gs before hval0 hW hcnd hsz0 _
  have hval : ∀ (j : Nat) t v, Try.f7.params[j]? = some t → args[j]? = some v → Value.okWide Try.prog W .any base t v := hval0
  have hW' := hW
  obtain ⟨p, q, hA0, hV, rfl, hfz, hnd⟩ := hW
  have hA : DataW.TrodAll enc Try.prog W 0 (fun _ => true) true Try.f7.params.toList args.toList ds p := hA0
  rw [Try.params7] at hA hval
  obtain ⟨v0, vs0, d0, ds0, p0, q0, hargs, rfl, rfl, h0, r0⟩ := trodAll_cons hA
  obtain ⟨v1, vs1, d1, ds1, p1, q1, rfl, rfl, rfl, h1, r1⟩ := trodAll_cons r0
  obtain ⟨v2, vs2, d2, ds2, p2, q2, rfl, rfl, rfl, h2, r2⟩ := trodAll_cons r1
  obtain ⟨rfl, rfl, rfl⟩ := trodAll_nil r2
  obtain rfl : args = #[v0, v1, v2] := by cases args; simp_all
  obtain ⟨rfl, rfl⟩ := trodVars_none hV
  have k0 := h0
  have lt0 : ∀ x ∈ p0, x.block < W.heap.size := by obtain ⟨m, hm⟩ := k0; exact DataW.trod_lt m _ _ _ hm
  have k1 := h1
  have lt1 : ∀ x ∈ p1, x.block < W.heap.size := by obtain ⟨m, hm⟩ := k1; exact DataW.trod_lt m _ _ _ hm
  have k2 := h2
  have lt2 : ∀ x ∈ p2, x.block < W.heap.size := by obtain ⟨m, hm⟩ := k2; exact DataW.trod_lt m _ _ _ hm
  have l0 := laid_nil W
  obtain ⟨av0, zs0, H1, l1, kp0, rd0, ml0, w0⟩ := l0.elems (fun zs : List Int => AV.agg (zs.map (AV.int .u8))) (fun zs => zs.length = 4 ∧ ∀ i ∈ zs, IntKind.u8.min ≤ i ∧ i ≤ IntKind.u8.max) Try.underlying37 (by kernel_rfl) (by decide) (hval 0 37 v0 rfl rfl) h0 (fun a ha => aggInts_ok a ha.1) (fun n cs x hx => trod_ints Try.underlying41 Try.underlying5 (by kernel_rfl) (by kernel_rfl) hx)
  obtain ⟨n1, rfl, rfl, rfl, w1⟩ := open_int Try.underlying3 (hval 1 3 v1 rfl rfl) h1
  have l2 := l1.plain (v := .int .i64 n1) (av := .int .i64 n1) (fun _ => by simp only [conc])
  obtain ⟨x2_0, x2_1, x2_2, rfl, c2_0, c2_1, c2_2⟩ := agg_three (Or.inl ⟨_, Try.underlying39⟩) (by kernel_rfl) (by kernel_rfl) (hval 2 39 v2 rfl rfl)
  obtain ⟨n2_0, rfl, b2_0⟩ := cell_int Try.underlying3 c2_0
  obtain ⟨s2_1, rfl⟩ := cell_str Try.underlying9 c2_1
  obtain ⟨q2_2, rfl⟩ := cell_bool Try.underlying4 c2_2
  have l3 := l2.plain (av := .agg [.int .i64 n2_0, .str s2_1.data.toList, .bool q2_2]) (fun ρ => by simp only [conc, concL]; rfl)
  clear hA0 hval0 hsz0
  refine (open_callsP (envOk ok_S1) rfl l3 (law_NetAll av0 zs0 rd0 ml0 w0 n1 (wf_range w1) n2_0 b2_0 s2_1.data.toList q2_2)).mono fun e W' ⟨he, bel⟩ => ?_
  subst he
  exact ⟨_, rfl, _, _, _, [], _, [], hW', trodAll_mk1 (shut_bool Try.underlying4 _), (trodAll_cons_mk (Below.trod laidOut (by kernel_rfl) (of_decide_eq_true (by kernel_rfl)) k0 bel lt0) (trodAll_cons_mk (Below.trod laidOut (by kernel_rfl) (of_decide_eq_true (by kernel_rfl)) k1 bel lt1) (trodAll_cons_mk (Below.trod laidOut (by kernel_rfl) (of_decide_eq_true (by kernel_rfl)) k2 bel lt2) trodAll_mk0))), rfl, bel.frame _, fun h => by cases h⟩
theorem over : Rows.netAllRow.holds Try.pinned (OpenSpec.ofChange Rows.netAllSpec) :=
  OpenClaim.holds_of_wide 7 Try.f7 rfl rfl rfl rfl rfl rfl rfl ⟨rfl, rfl, rfl, rfl, rfl⟩ rfl rfl rfl rfl rfl (by kernel_rfl) Try.func7 (by kernel_rfl)
    (of_decide_eq_true (by kernel_rfl)) (by unfold Func.isWrapper; first | (rw [if_pos (by decide +kernel)]; kernel_rfl) | (rw [if_neg (by decide +kernel)]; exact ⟨rfl, rfl⟩))
    (fun os started H enc _ => lifted os started H enc)
theorem proved : Rows.NetAllSaid := over
end Go.Proofs.Ytldehmfhgmmkhaa.netAll
namespace Go.Proofs.Ytldehmfhgmmkhaa
theorem netAll_holds : Rows.NetAllSaid := netAll.proved
#print axioms netAll_holds
end Go.Proofs.Ytldehmfhgmmkhaa
