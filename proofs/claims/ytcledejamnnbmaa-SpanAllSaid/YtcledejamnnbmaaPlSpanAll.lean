/- The law SpanAll. -/
import Derived.Test.YtcledejamnnbmaaSh16
import Derived.Test.YtcledejamnnbmaaPvF
import Derived.Test.YtcledejamnnbmaaPdSpanAll
set_option linter.unusedVariables false
set_option linter.unusedSimpArgs false
namespace Go.Proofs.Ytcledejamnnbmaa.Ps
open Go.Ab
set_option maxRecDepth 100000
theorem pairs {L : List (List Int)} (rL : ∀ a ∈ L, a.length = 2 ∧ ∀ i ∈ a, IntKind.u8.min ≤ i ∧ i ≤ IntKind.u8.max) : ∃ P : List (Int × Int), Prs P ∧ L.map (fun zs : List Int => AV.agg (zs.map (AV.int .u8))) = P.map pv := by
  refine ⟨L.map fun a => (a.getD 0 0, a.getD 1 0), fun p hp => ?_, ?_⟩
  · obtain ⟨a, ha, rfl⟩ := List.mem_map.1 hp
    obtain ⟨h1, h2⟩ := rL a ha
    match a, h1 with
    | [x, y], _ => exact ⟨h2 x (by simp), h2 y (by simp)⟩
  · rw [List.map_map]
    refine List.map_congr_left fun a ha => ?_
    obtain ⟨h1, h2⟩ := rL a ha
    match a, h1 with
    | [x, y], _ => rfl
theorem pairsS {L : List (List Int)} (rL : ∀ a ∈ L, a.length = 2 ∧ ∀ i ∈ a, IntKind.i64.min ≤ i ∧ i ≤ IntKind.i64.max) : ∃ P : List (Int × Int), L.map (fun zs : List Int => AV.agg (zs.map (AV.int .i64))) = P.map Sp.v := by
  refine ⟨L.map fun a => (a.getD 0 0, a.getD 1 0), ?_⟩
  rw [List.map_map]
  refine List.map_congr_left fun a ha => ?_
  obtain ⟨h1, h2⟩ := rL a ha
  match a, h1 with
  | [x, y], _ => rfl
theorem law_SpanAll {H : AHeap} (v : AV) (L : List (List Int)) (hL : Els 2 (fun zs : List Int => AV.agg (zs.map (AV.int .u8))) H v L) (hl : L.length ≤ maxLen) (rL : ∀ a ∈ L, a.length = 2 ∧ ∀ i ∈ a, IntKind.u8.min ≤ i ∧ i ≤ IntKind.u8.max)
    (w : AV) (M : List (List Int)) (hM : Els 2 (fun zs : List Int => AV.agg (zs.map (AV.int .i64))) H w M) (hm : M.length ≤ maxLen) (rM : ∀ a ∈ M, a.length = 2 ∧ ∀ i ∈ a, IntKind.i64.min ≤ i ∧ i ≤ IntKind.i64.max)
    (a : Int) (ha : IntKind.i64.min ≤ a ∧ a ≤ IntKind.i64.max) (b : Int) (hb : IntKind.i64.min ≤ b ∧ b ≤ IntKind.i64.max) (n : Int) (hn : IntKind.i64.min ≤ n ∧ n ≤ IntKind.i64.max) :
    EndsV (callV (env S1) 3 [v, w, .agg [.int .i64 a, .int .i64 b], .int .i64 n] H) fun v _ => v = .bool true := by
  obtain ⟨P, hP, e⟩ := pairs rL
  obtain ⟨W, e2⟩ := pairsS rM
  refine law_ends pe1 (by decide) ⟨_, sall_true (P := P) hP W (a, b) n⟩ (RL.cons (e ▸ hL.rv) (RL.cons (by rw [sps, ← e2]; exact hM.rv) (RL.cons (RV.agg (RL.cons RV.int (RL.cons RV.int RL.nil'))) (RL.cons RV.int RL.nil'))))
end Go.Proofs.Ytcledejamnnbmaa.Ps
