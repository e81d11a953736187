/- What the laws of log and nak lean on: the natives' rules. -/
import Derived.Test.YtccgolmdhikdoaaPcFeed
import Derived.Test.YtccgolmdhikdoaaWcIi0
import Derived.Test.YtccgolmdhikdoaaSh14
set_option linter.unusedVariables false
set_option linter.unusedSimpArgs false
namespace Go.Proofs.Ytccgolmdhikdoaa.Pn
open Go.Ab
set_option maxRecDepth 100000
def S0 : Specs := [(93, exactOr 2 (gInsG 2 16))]
theorem ok_S0 : SpecsOk S0 := ok_cons Bi.WcIi0.ok_gIns ok_nil
theorem begun16_runs : tellsTrue ((frun (env S0) 100000).1 36 [] AHeap.empty) = true := by kernel_rfl
theorem begun16_ok : SpecOk Try.prog 36 gTrue := SpecOk.closedP (envOk ok_S0) rfl (tells_F (fok S0) begun16_runs)
theorem begun17_runs : tellsTrue ((frun (env S0) 100000).1 14 [] AHeap.empty) = true := by kernel_rfl
theorem begun17_ok : SpecOk Try.prog 14 gTrue := SpecOk.closedP (envOk ok_S0) rfl (tells_F (fok S0) begun17_runs)
def S1 : Specs := [(14, gTrue), (36, gTrue), (93, exactOr 2 (gInsG 2 16))]
theorem ok_S1 : SpecsOk S1 := ok_cons begun17_ok (ok_cons begun16_ok ok_S0)
theorem pe1 : PEnvOk (env S1) (penv P1) := by
  refine penvOk (by decide) fun q hq => ?_
  simp only [P1, List.mem_cons, List.not_mem_nil, or_false] at hq
  rcases hq with rfl | rfl | rfl | rfl | rfl | rfl
  · exact yes_ok (by decide) rfl
  · exact clone_slices_Clone_api_Event_api_Event rfl
  · exact clone_slices_Clone_api_Item_api_Item rfl
  · exact yes_ok (by decide) rfl
  · exact clone_slices_Clone_api_Span_api_Span rfl
  · exact ins_okP (by decide) rfl
end Go.Proofs.Ytccgolmdhikdoaa.Pn
/- slices.Delete at the heap: a slice of one's own with elements taken out. -/
set_option linter.unusedVariables false
set_option linter.unusedSimpArgs false
namespace Go.Ab
section
variable {H : AHeap} {r n i j z : Nat} {k : Kd} {c : ACap} {cs : List AV}
end
theorem SpecOk.run {P : Program} {E0 E : Env} (hE : EnvOk P E0) (hst : Strips E0 E) {f : Nat} (hf : E0.spec f = none) {g : List AV → AHeap → Option (AV × AHeap)}
    (h : ∀ args H v H', g args H = some (v, H') → callV E f args H = some (v, H')) : SpecOk P f g := by
  intro B ρ w H args xs v H' hB hs hx hg
  obtain ⟨n, hn⟩ := callV_iff.1 (strips_call hst (h args H v H' hg))
  obtain ⟨h1, h2⟩ := (sound hE n).1 f args H v H' hf hn
  exact Or.inl ⟨h1, h2 B ρ w xs hB hs hx⟩
end Go.Ab
