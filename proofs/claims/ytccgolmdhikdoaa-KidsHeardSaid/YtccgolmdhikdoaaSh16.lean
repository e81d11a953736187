/- slices.Delete at the heap: a slice of one's own with elements taken out. -/
import Derived.Test.YtccgolmdhikdoaaSh14
set_option linter.unusedVariables false
set_option linter.unusedSimpArgs false
namespace Go.Ab
section
variable {H : AHeap} {r n i j z : Nat} {k : Kd} {c : ACap} {cs : List AV}
end
theorem SpecOk.run {P : Program} {E0 E : Env} (hE : EnvOk P E0) (hst : Strips E0 E) {f : Nat} (hf : E0.spec f = none) {g : List AV → AHeap → Option (AV × AHeap)}
    (h : ∀ args H v H', g args H = some (v, H') → callV E f args H = some (v, H')) : SpecOk P f g := by
  intro B ρ w H args xs v H' hB hs hx hg
  obtain ⟨n, hn⟩ := callV_iff.1 (strips_call hst (h args H v H' hg))
  obtain ⟨h1, h2⟩ := (sound hE n).1 f args H v H' hf hn
  exact Or.inl ⟨h1, h2 B ρ w xs hB hs hx⟩
end Go.Ab
