/- The law LogWhole. -/
import Derived.Test.YtccgolmdhikdoaaSh16
import Derived.Test.YtccgolmdhikdoaaPvF
import Derived.Test.YtccgolmdhikdoaaPdLogWhole
set_option linter.unusedVariables false
set_option linter.unusedSimpArgs false
namespace Go.Proofs.Ytccgolmdhikdoaa.Pn
open Go.Ab
set_option maxRecDepth 100000
theorem pairs {L : List (List Int)} (rL : ∀ a ∈ L, a.length = 2 ∧ ∀ i ∈ a, IntKind.u8.min ≤ i ∧ i ≤ IntKind.u8.max) : ∃ P : List (Int × Int), Prs P ∧ L.map (fun zs : List Int => AV.agg (zs.map (AV.int .u8))) = P.map pv := by
  refine ⟨L.map fun a => (a.getD 0 0, a.getD 1 0), fun p hp => ?_, ?_⟩
  · obtain ⟨a, ha, rfl⟩ := List.mem_map.1 hp
    obtain ⟨h1, h2⟩ := rL a ha
    match a, h1 with
    | [x, y], _ => exact ⟨h2 x (by simp), h2 y (by simp)⟩
  · rw [List.map_map]
    refine List.map_congr_left fun a ha => ?_
    obtain ⟨h1, h2⟩ := rL a ha
    match a, h1 with
    | [x, y], _ => rfl
theorem law_LogWhole {H : AHeap} (v : AV) (L : List (List Int)) (hL : Els 2 (fun zs : List Int => AV.agg (zs.map (AV.int .u8))) H v L) (hl : L.length ≤ maxLen) (rL : ∀ a ∈ L, a.length = 2 ∧ ∀ i ∈ a, IntKind.u8.min ≤ i ∧ i ≤ IntKind.u8.max)
    (n : Int) (hn : IntKind.u8.min ≤ n ∧ n ≤ IntKind.u8.max) (m : Int) (hm : IntKind.u8.min ≤ m ∧ m ≤ IntKind.u8.max) :
    EndsV (callV (env S1) 9 [v, .int .u8 n, .int .u8 m] H) fun v _ => v = .bool true := by
  obtain ⟨P, hP, e⟩ := pairs rL
  refine law_ends pe1 (by decide) (whole_true (P := P) hP hn hm _) (RL.cons (e ▸ hL.rv) (RL.cons RV.int (RL.cons RV.int RL.nil')))
end Go.Proofs.Ytccgolmdhikdoaa.Pn
