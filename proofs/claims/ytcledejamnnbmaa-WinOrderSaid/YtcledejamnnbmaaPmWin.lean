/- What the laws of span and win lean on: the natives' rules. -/
import Derived.Test.YtcledejamnnbmaaPcFeed
import Derived.Test.YtcledejamnnbmaaWcIi0
import Derived.Test.YtcledejamnnbmaaWcIi1
import Derived.Test.YtcledejamnnbmaaPmFeed
set_option linter.unusedVariables false
set_option linter.unusedSimpArgs false
namespace Go.Proofs.Ytcledejamnnbmaa.Ps
open Go.Ab
set_option maxRecDepth 100000
def S0 : Specs := [(28, exactOr 2 (gInsG 2 16)), (35, exactOr 2 (gInsG 2 24))]
theorem ok_S0 : SpecsOk S0 := ok_cons Bi.WcIi0.ok_gIns (ok_cons Bi.WcIi1.ok_gIns ok_nil)
theorem begun3_runs : tellsTrue ((frun (env S0) 100000).1 8 [] AHeap.empty) = true := by kernel_rfl
theorem begun3_ok : SpecOk Try.prog 8 gTrue := SpecOk.closedP (envOk ok_S0) rfl (tells_F (fok S0) begun3_runs)
theorem begun15_runs : tellsTrue ((frun (env S0) 100000).1 21 [] AHeap.empty) = true := by kernel_rfl
theorem begun15_ok : SpecOk Try.prog 21 gTrue := SpecOk.closedP (envOk ok_S0) rfl (tells_F (fok S0) begun15_runs)
def S1 : Specs := [(8, gTrue), (21, gTrue), (28, exactOr 2 (gInsG 2 16)), (35, exactOr 2 (gInsG 2 24))]
theorem ok_S1 : SpecsOk S1 := ok_cons begun3_ok (ok_cons begun15_ok ok_S0)
theorem pe1 : PEnvOk (env S1) (penv P1) := by
  refine penvOk (by decide) fun q hq => ?_
  simp only [P1, List.mem_cons, List.not_mem_nil, or_false] at hq
  rcases hq with rfl | rfl | rfl | rfl | rfl | rfl
  · exact yes_ok (by decide) rfl
  · exact yes_ok (by decide) rfl
  · exact clone_slices_Clone_api_Item_api_Item rfl
  · exact clone_slices_Clone_api_Span_api_Span rfl
  · exact ins_okP (by decide) rfl
  · exact ins_okP (by decide) rfl
end Go.Proofs.Ytcledejamnnbmaa.Ps
/- What the document's functions for feed come to: the same. Feeds that are the same. -/
set_option linter.unusedVariables false
set_option linter.unusedSimpArgs false
namespace Go.Proofs.Ytcledejamnnbmaa.Ps
open Go.Ab Go.Feed
set_option maxRecDepth 100000
section
variable {Q : AHeap}
end
end Go.Proofs.Ytcledejamnnbmaa.Ps
/- A window: what is put in whichever order lies alike. -/
set_option linter.unusedVariables false
namespace Go.Feed
theorem put_iff (w : List It) (n : Int) (x y : It) : y ∈ (put w n x).1 ↔ y ∈ w ∨ (y = x ∧ ¬ (there w x.seq = true ∨ x.seq < n ∨ 8 ≤ x.seq - n)) := by
  unfold put
  split
  · rename_i c; exact ⟨Or.inl, fun h => h.elim id fun h => absurd c h.2⟩
  · rename_i c
    have e : y ∈ w ↔ y ∈ w.take (posn w x.seq) ∨ y ∈ w.drop (posn w x.seq) := by rw [← List.mem_append, List.take_append_drop]
    simp only [List.mem_append, List.mem_singleton, e, c, not_false_eq_true, and_true]
    exact or_right_comm
theorem there_ex (w : List It) (s : Int) : there w s = true ↔ ∃ x ∈ w, x.seq = s := by simp [there]
theorem there_put (w : List It) (n : Int) (x : It) {s : Int} (hs : x.seq ≠ s) : there (put w n x).1 s = there w s := by
  rw [Bool.eq_iff_iff, there_ex, there_ex]
  constructor
  · rintro ⟨y, hy, e⟩
    rcases (put_iff w n x y).1 hy with h | ⟨rfl, _⟩
    · exact ⟨y, h, e⟩
    · exact absurd e hs
  · rintro ⟨y, hy, e⟩; exact ⟨y, (put_iff w n x y).2 (Or.inl hy), e⟩
theorem Sorted.ext : ∀ {a b : List It}, Sorted a → Sorted b → (∀ y, y ∈ a ↔ y ∈ b) → a = b
  | [], [], _, _, _ => rfl
  | [], y :: m, _, _, h => by have := (h y).2 List.mem_cons_self; cases this
  | x :: l, [], _, _, h => by have := (h x).1 List.mem_cons_self; cases this
  | x :: l, y :: m, ha, hb, h => by
    have ha' := List.pairwise_cons.1 ha
    have hb' := List.pairwise_cons.1 hb
    have e : x = y := by
      rcases List.mem_cons.1 ((h x).1 List.mem_cons_self) with e | e
      · exact e
      · rcases List.mem_cons.1 ((h y).2 List.mem_cons_self) with e2 | e2
        · exact e2.symm
        · have h1 := hb'.1 x e
          have h2 := ha'.1 y e2
          omega
    subst e
    rw [Sorted.ext ha'.2 hb'.2 fun y => ⟨fun hy => ?_, fun hy => ?_⟩]
    · rcases List.mem_cons.1 ((h y).1 (List.mem_cons_of_mem _ hy)) with rfl | e
      · exact absurd (ha'.1 y hy) (by omega)
      · exact e
    · rcases List.mem_cons.1 ((h y).2 (List.mem_cons_of_mem _ hy)) with rfl | e
      · exact absurd (hb'.1 y hy) (by omega)
      · exact e
theorem put_lt {w : List It} {n : Int} {x : It} (h : ∀ y ∈ w, y.seq < n + 8) : ∀ y ∈ (put w n x).1, y.seq < n + 8 := fun y hy => by
  rcases (put_iff w n x y).1 hy with h1 | ⟨rfl, h2⟩
  · exact h y h1
  · omega
theorem sorted_len : ∀ {w : List It} {a b : Int}, Sorted w → (∀ y ∈ w, a ≤ y.seq) → (∀ y ∈ w, y.seq < b) → a ≤ b → (w.length : Int) ≤ b - a
  | [], a, b, _, _, _, h => by simp; omega
  | x :: l, a, b, hs, h1, h2, h => by
    have hs' := List.pairwise_cons.1 hs
    have := h1 x List.mem_cons_self
    have := h2 x List.mem_cons_self
    have := sorted_len (a := x.seq + 1) (b := b) hs'.2 (fun y hy => by have := hs'.1 y hy; omega) (fun y hy => h2 y (List.mem_cons_of_mem _ hy)) (by omega)
    simp; omega
end Go.Feed
