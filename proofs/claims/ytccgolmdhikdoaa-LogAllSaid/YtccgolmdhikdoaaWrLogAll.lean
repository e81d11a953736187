/- The law LogAll returns true, whatever its arguments, and leaves all that was there as it was. Printed by mkrow.py of this repo. -/
import Derived.Test.YtccgolmdhikdoaaRows
import Derived.Test.YtccgolmdhikdoaaPlLogAll
import Derived.Test.YtccgolmdhikdoaaSh13
import Derived.WalkKit
import Derived.ProofKit
import Derived.OpenShut
import Derived.ShutString
import Derived.ChangeOld
import Derived.Below
import Derived.SizedLaws
namespace Go.Proofs.Ytccgolmdhikdoaa.logAll
open Go.ChangeShapes Go.WideShapes Go.ChangeAt Go.RowKit Go.Ab
open Go.ChangeMaps (open_string shut_string)
open Go.Proofs.Ytccgolmdhikdoaa.Pn (env envOk law_LogAll ok_S1)
set_option linter.unusedVariables false
theorem own : ownKnob Try.prog.godebug = none := by kernel_rfl
theorem laidOut : laidOutB Try.prog = true := by kernel_rfl
set_option maxRecDepth 100000 in
theorem lifted (os : Os) (started : os.Started) (H : Type) (enc : TypeId × Value → H) :
    ReturnsInHanded {} Try.checked os 8 .any (Rows.logAllSpec.pre6 enc Try.prog Try.f8 Rows.logAllRow.domain false) (Rows.logAllSpec.post enc Try.prog Try.f8 false true false false) := by
  refine returnsInHanded_of_change_sized (C := Try.checked) own started (by kernel_rfl) Try.func8
    (ChangeSpec.witness6 (enc := enc) (C := Try.checked) false ⟨#[], #[.slice none 0 0, .int .u8 0, .agg #[.int .i64 0, .int .i64 0, .int .i64 0, .string (ByteArray.mk #[]), .int .i64 0], .int .u8 0, .int .i64 0, .int .i64 0, .int .i64 0], []⟩ 8 (by kernel_rfl) (by kernel_rfl) (by kernel_rfl) (by kernel_rfl)) ?_
  intro W base args ds gs before hval0 hW hcnd hsz0 _
  have hval : ∀ (j : Nat) t v, Try.f8.params[j]? = some t → args[j]? = some v → Value.okWide Try.prog W .any base t v := hval0
  have hW' := hW
  obtain ⟨p, q, hA0, hV, rfl, hfz, hnd⟩ := hW
  have hA : DataW.TrodAll enc Try.prog W 0 (fun _ => true) true Try.f8.params.toList args.toList ds p := hA0
  rw [Try.params8] at hA hval
  obtain ⟨v0, vs0, d0, ds0, p0, q0, hargs, rfl, rfl, h0, r0⟩ := trodAll_cons hA
  obtain ⟨v1, vs1, d1, ds1, p1, q1, rfl, rfl, rfl, h1, r1⟩ := trodAll_cons r0
  obtain ⟨v2, vs2, d2, ds2, p2, q2, rfl, rfl, rfl, h2, r2⟩ := trodAll_cons r1
  obtain ⟨v3, vs3, d3, ds3, p3, q3, rfl, rfl, rfl, h3, r3⟩ := trodAll_cons r2
  obtain ⟨v4, vs4, d4, ds4, p4, q4, rfl, rfl, rfl, h4, r4⟩ := trodAll_cons r3
  obtain ⟨v5, vs5, d5, ds5, p5, q5, rfl, rfl, rfl, h5, r5⟩ := trodAll_cons r4
  obtain ⟨v6, vs6, d6, ds6, p6, q6, rfl, rfl, rfl, h6, r6⟩ := trodAll_cons r5
  obtain ⟨rfl, rfl, rfl⟩ := trodAll_nil r6
  obtain rfl : args = #[v0, v1, v2, v3, v4, v5, v6] := by cases args; simp_all
  obtain ⟨rfl, rfl⟩ := trodVars_none hV
  have k0 := h0
  have lt0 : ∀ x ∈ p0, x.block < W.heap.size := by obtain ⟨m, hm⟩ := k0; exact DataW.trod_lt m _ _ _ hm
  have k1 := h1
  have lt1 : ∀ x ∈ p1, x.block < W.heap.size := by obtain ⟨m, hm⟩ := k1; exact DataW.trod_lt m _ _ _ hm
  have k2 := h2
  have lt2 : ∀ x ∈ p2, x.block < W.heap.size := by obtain ⟨m, hm⟩ := k2; exact DataW.trod_lt m _ _ _ hm
  have k3 := h3
  have lt3 : ∀ x ∈ p3, x.block < W.heap.size := by obtain ⟨m, hm⟩ := k3; exact DataW.trod_lt m _ _ _ hm
  have k4 := h4
  have lt4 : ∀ x ∈ p4, x.block < W.heap.size := by obtain ⟨m, hm⟩ := k4; exact DataW.trod_lt m _ _ _ hm
  have k5 := h5
  have lt5 : ∀ x ∈ p5, x.block < W.heap.size := by obtain ⟨m, hm⟩ := k5; exact DataW.trod_lt m _ _ _ hm
  have k6 := h6
  have lt6 : ∀ x ∈ p6, x.block < W.heap.size := by obtain ⟨m, hm⟩ := k6; exact DataW.trod_lt m _ _ _ hm
  have l0 := laid_nil W
  obtain ⟨av0, zs0, H1, l1, kp0, rd0, ml0, w0⟩ := l0.elems (fun zs : List Int => AV.agg (zs.map (AV.int .u8))) (fun zs => zs.length = 2 ∧ ∀ i ∈ zs, IntKind.u8.min ≤ i ∧ i ≤ IntKind.u8.max) Try.underlying65 (by kernel_rfl) (by decide) (hval 0 65 v0 rfl rfl) h0 (fun a ha => aggInts_ok a ha.1) (fun n cs x hx => trod_ints Try.underlying73 Try.underlying5 (by kernel_rfl) (by kernel_rfl) hx)
  obtain ⟨n1, rfl, rfl, rfl, w1⟩ := open_int Try.underlying5 (hval 1 5 v1 rfl rfl) h1
  have l2 := l1.plain (v := .int .u8 n1) (av := .int .u8 n1) (fun _ => by simp only [conc])
  obtain ⟨x2_0, x2_1, x2_2, x2_3, x2_4, rfl, c2_0, c2_1, c2_2, c2_3, c2_4⟩ := agg_five (Or.inl ⟨_, Try.underlying56⟩) (by kernel_rfl) (by kernel_rfl) (hval 2 56 v2 rfl rfl)
  obtain ⟨n2_0, rfl, b2_0⟩ := cell_int Try.underlying3 c2_0
  obtain ⟨n2_1, rfl, b2_1⟩ := cell_int Try.underlying3 c2_1
  obtain ⟨n2_2, rfl, b2_2⟩ := cell_int Try.underlying3 c2_2
  obtain ⟨s2_3, rfl⟩ := cell_str Try.underlying9 c2_3
  obtain ⟨n2_4, rfl, b2_4⟩ := cell_int Try.underlying3 c2_4
  have l3 := l2.plain (av := .agg [.int .i64 n2_0, .int .i64 n2_1, .int .i64 n2_2, .str s2_3.data.toList, .int .i64 n2_4]) (fun ρ => by simp only [conc, concL]; rfl)
  obtain ⟨n3, rfl, rfl, rfl, w3⟩ := open_int Try.underlying5 (hval 3 5 v3 rfl rfl) h3
  have l4 := l3.plain (v := .int .u8 n3) (av := .int .u8 n3) (fun _ => by simp only [conc])
  obtain ⟨n4, rfl, rfl, rfl, w4⟩ := open_int Try.underlying3 (hval 4 3 v4 rfl rfl) h4
  have l5 := l4.plain (v := .int .i64 n4) (av := .int .i64 n4) (fun _ => by simp only [conc])
  obtain ⟨n5, rfl, rfl, rfl, w5⟩ := open_int Try.underlying3 (hval 5 3 v5 rfl rfl) h5
  have l6 := l5.plain (v := .int .i64 n5) (av := .int .i64 n5) (fun _ => by simp only [conc])
  obtain ⟨n6, rfl, rfl, rfl, w6⟩ := open_int Try.underlying3 (hval 6 3 v6 rfl rfl) h6
  have l7 := l6.plain (v := .int .i64 n6) (av := .int .i64 n6) (fun _ => by simp only [conc])
  clear hA0 hval0 hsz0
  refine (open_callsP (envOk ok_S1) rfl l7 (law_LogAll av0 zs0 rd0 ml0 w0 n1 (wf_range w1) n2_0 b2_0 n2_1 b2_1 n2_2 b2_2 s2_3.data.toList n2_4 b2_4 n3 (wf_range w3) n4 (wf_range w4) n5 (wf_range w5) n6 (wf_range w6))).mono fun e W' ⟨he, bel⟩ => ?_
  subst he
  exact ⟨_, rfl, _, _, _, [], _, [], hW', trodAll_mk1 (shut_bool Try.underlying4 _), (trodAll_cons_mk (Below.trod laidOut (by kernel_rfl) (of_decide_eq_true (by kernel_rfl)) k0 bel lt0) (trodAll_cons_mk (Below.trod laidOut (by kernel_rfl) (of_decide_eq_true (by kernel_rfl)) k1 bel lt1) (trodAll_cons_mk (Below.trod laidOut (by kernel_rfl) (of_decide_eq_true (by kernel_rfl)) k2 bel lt2) (trodAll_cons_mk (Below.trod laidOut (by kernel_rfl) (of_decide_eq_true (by kernel_rfl)) k3 bel lt3) (trodAll_cons_mk (Below.trod laidOut (by kernel_rfl) (of_decide_eq_true (by kernel_rfl)) k4 bel lt4) (trodAll_cons_mk (Below.trod laidOut (by kernel_rfl) (of_decide_eq_true (by kernel_rfl)) k5 bel lt5) (trodAll_cons_mk (Below.trod laidOut (by kernel_rfl) (of_decide_eq_true (by kernel_rfl)) k6 bel lt6) trodAll_mk0))))))), rfl, bel.frame _, fun h => by cases h⟩
theorem over : Rows.logAllRow.holds Try.pinned (OpenSpec.ofChange Rows.logAllSpec) :=
  OpenClaim.holds_of_wide 8 Try.f8 rfl rfl rfl rfl rfl rfl rfl ⟨rfl, rfl, rfl, rfl, rfl⟩ rfl rfl rfl rfl rfl (by kernel_rfl) Try.func8 (by kernel_rfl)
    (of_decide_eq_true (by kernel_rfl)) (by unfold Func.isWrapper; first | (rw [if_pos (by decide +kernel)]; kernel_rfl) | (rw [if_neg (by decide +kernel)]; exact ⟨rfl, rfl⟩))
    (fun os started H enc _ => lifted os started H enc)
theorem proved : Rows.LogAllSaid := over
end Go.Proofs.Ytccgolmdhikdoaa.logAll
namespace Go.Proofs.Ytccgolmdhikdoaa
theorem logAll_holds : Rows.LogAllSaid := logAll.proved
#print axioms logAll_holds
end Go.Proofs.Ytccgolmdhikdoaa
