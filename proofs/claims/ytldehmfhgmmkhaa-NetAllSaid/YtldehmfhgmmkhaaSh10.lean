/- Slices as lists: what is read through them; and arguments that came in. -/
import Derived.Test.YtldehmfhgmmkhaaSh9
import Derived.ChangeSlices
import Derived.SliceStrings
set_option linter.unusedVariables false
set_option linter.unusedSimpArgs false
set_option linter.unusedSectionVars false
namespace Go.Ab
open Go.RowKit

def elp (z : Nat) (v : AV) (i : Int) : AV := match v with
  | .sl r o _ _ => .ptr r (o + i.toNat * z)
  | _ => undefA
section
variable {α : Type} {z : Nat} {dec : List AV → Option α} {H : AHeap} {v : AV} {l : List α}
end
section
variable {k : IntKind} {H : AHeap} {v : AV} {l : List Int}
end
theorem splice_one {α : Type} {a : α} : ∀ {l : List α} {i : Nat}, i < l.length → splice l i [a] = l.set i a
  | [], _, h => by simp at h
  | x :: l, 0, _ => by simp [splice]
  | x :: l, i + 1, h => by
    have := splice_one (a := a) (l := l) (i := i) (by simpa using h)
    unfold splice at this ⊢
    simpa using this

def Laid (W : World) (vs : List Value) (avs : List AV) (H : AHeap) : Prop := ∃ ρ, Sim W.heap.size ρ W H ∧ concL ρ avs = some vs
theorem laid_nil (W : World) : Laid W [] [] AHeap.empty := ⟨fun _ => none, sim_empty, rfl⟩
theorem Laid.plain {W : World} {vs : List Value} {avs : List AV} {H : AHeap} (h : Laid W vs avs H) {v : Value} {av : AV} (hv : ∀ ρ, conc ρ av = some v) : Laid W (vs ++ [v]) (avs ++ [av]) H := by
  obtain ⟨ρ, hs, hc⟩ := h
  exact ⟨ρ, hs, concL_append hc (concL_mk (hv ρ) rfl)⟩
theorem Laid.sl {W : World} {vs : List Value} {avs : List AV} {H : AHeap} (h : Laid W vs avs H) {blk off len cap z : Nat} {cs : List AV} (hb : blk < W.heap.size) (hl : len ≤ cap)
    (hcs : ∀ i v, cs[i]? = some v → ∃ x, (∀ ρ, conc ρ v = some x) ∧ W.cell? ⟨blk, off + i, none⟩ = some x) :
    Laid W (vs ++ [.slice (some ⟨blk, off, none⟩) len cap]) (avs ++ [.sl H.size 0 len (.ex cap)]) (H.push (some (.cells .ro z cs))) := by
  obtain ⟨ρ, hs, hc⟩ := h
  have hf := hs.fresh
  have hle : ρ.le (ρ.add H.size (Loc.at blk off cap)) := fun r L hr => by
    have := (hs.dom r L hr).1
    simp only [Rho.add]; rw [if_neg (by omega)]; exact hr
  refine ⟨ρ.add H.size (Loc.at blk off cap), ⟨fun r L hr => ?_, fun r L o hr ho => ?_, ?_⟩, concL_append (concL_mono hle _ _ hc) (concL_mk ?_ rfl)⟩
  · simp only [Rho.add] at hr
    split at hr
    · obtain rfl := Option.some.inj hr
      rename_i e
      exact ⟨by rw [AHeap.size_push]; omega, hb⟩
    · exact ⟨by rw [AHeap.size_push]; have := (hs.dom r L hr).1; omega, (hs.dom r L hr).2⟩
  · simp only [Rho.add] at hr
    rw [AHeap.get_push] at ho
    split at hr
    · rename_i e
      rw [if_pos e] at ho
      obtain rfl := Option.some.inj hr
      obtain rfl := Option.some.inj ho
      refine ⟨hb, fun i v hv => ?_⟩
      obtain ⟨x, h1, h2⟩ := hcs i v hv
      exact ⟨x, h1 _, h2⟩
    · rename_i e
      rw [if_neg e] at ho
      exact (hs.obj r L o hr ho).mono hle
  · intro r r' L L' o o' hne hr hr' ho ho' hw hw'
    simp only [Rho.add] at hr hr'
    rw [AHeap.get_push] at ho ho'
    split at hr
    · rename_i e
      rw [if_pos e] at ho
      obtain rfl := Option.some.inj ho
      cases hw
    · rename_i e
      rw [if_neg e] at ho
      split at hr'
      · rename_i e'
        rw [if_pos e'] at ho'
        obtain rfl := Option.some.inj ho'
        cases hw'
      · rename_i e'
        rw [if_neg e'] at ho'
        exact hs.inj r r' L L' o o' hne hr hr' ho ho' hw hw'
  · simp only [conc, Rho.add, if_pos, Loc.at]
    rw [if_pos hl]
    simp
section
variable {P : Program} {w : World} {r : Reach} {base : Nat}
theorem okWide_sl {t e : TypeId} {v : Value} (ht : P.underlying t = some (.slice e)) (h : Value.okWide P w r base t v) : v = .slice none 0 0 ∨ ∃ blk off len cap, v = .slice (some ⟨blk, off, none⟩) len cap ∧ blk < w.heap.size := by
  simp only [Value.okWide, ht, Cell.okWide] at h
  cases v <;> simp only [Cell.ok, ht] at h
  rename_i a len cap
  cases a with
  | none =>
    cases len <;> cases cap <;> first | exact Or.inl rfl | exact h.elim
  | some a =>
    obtain ⟨blk, off, spot⟩ := a
    obtain ⟨_, _, _, hs, row, n, hsh, _⟩ := h
    simp only at hs hsh
    subst hs
    refine Or.inr ⟨blk, off, len, cap, rfl, Nat.lt_of_not_le fun hge => ?_⟩
    unfold World.shape? at hsh
    rw [Array.getElem?_eq_none hge] at hsh
    cases hsh
def capOk : AV → Bool
  | .sl _ _ n (.ex c) => decide (n ≤ c)
  | _ => true
end
end Go.Ab
