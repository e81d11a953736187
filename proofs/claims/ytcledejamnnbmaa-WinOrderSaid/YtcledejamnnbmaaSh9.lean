/- Where a call, or code, ends: what is told of it. -/
import Derived.Test.YtcledejamnnbmaaSh8
set_option linter.unusedVariables false
set_option linter.unusedSimpArgs false
set_option linter.unusedSectionVars false
namespace Go.Ab
def EndsV (o : Option (AV × AHeap)) (Q : AV → AHeap → Prop) : Prop := ∃ v H, o = some (v, H) ∧ Q v H
def EndsE (o : Option (AExit × Tau × AHeap)) (Q : AExit → Tau → AHeap → Prop) : Prop := ∃ ex τ H, o = some (ex, τ, H) ∧ Q ex τ H
@[simp] theorem ends_some (v : AV) (H : AHeap) (Q : AV → AHeap → Prop) : EndsV (some (v, H)) Q ↔ Q v H :=
  ⟨fun ⟨_, _, e, h⟩ => by obtain ⟨rfl, rfl⟩ := Prod.mk.inj (Option.some.inj e); exact h, fun h => ⟨v, H, rfl, h⟩⟩
@[simp] theorem ends_none (Q : AV → AHeap → Prop) : EndsV none Q ↔ False := ⟨fun ⟨_, _, e, _⟩ => (by cases e), False.elim⟩
@[simp] theorem ends_ite (c : Prop) [Decidable c] (a b : Option (AV × AHeap)) (Q : AV → AHeap → Prop) : EndsV (if c then a else b) Q ↔ if c then EndsV a Q else EndsV b Q := by
  by_cases h : c <;> simp [h]
@[simp] theorem endsE_some (ex : AExit) (τ : Tau) (H : AHeap) (Q : AExit → Tau → AHeap → Prop) : EndsE (some (ex, τ, H)) Q ↔ Q ex τ H :=
  ⟨fun ⟨_, _, _, e, h⟩ => by obtain ⟨rfl, e2⟩ := Prod.mk.inj (Option.some.inj e); obtain ⟨rfl, rfl⟩ := Prod.mk.inj e2; exact h, fun h => ⟨ex, τ, H, rfl, h⟩⟩
@[simp] theorem endsE_none (Q : AExit → Tau → AHeap → Prop) : EndsE none Q ↔ False := ⟨fun ⟨_, _, _, e, _⟩ => (by cases e), False.elim⟩
@[simp] theorem endsE_ite (c : Prop) [Decidable c] (a b : Option (AExit × Tau × AHeap)) (Q : AExit → Tau → AHeap → Prop) : EndsE (if c then a else b) Q ↔ if c then EndsE a Q else EndsE b Q := by
  by_cases h : c <;> simp [h]
@[congr] theorem ends_congr {o o' : Option (AV × AHeap)} {Q : AV → AHeap → Prop} (h : o = o') : EndsV o Q ↔ EndsV o' Q := by rw [h]
@[congr] theorem endsE_congr {o o' : Option (AExit × Tau × AHeap)} {Q : AExit → Tau → AHeap → Prop} (h : o = o') : EndsE o Q ↔ EndsE o' Q := by rw [h]
theorem EndsV.mono {o : Option (AV × AHeap)} {Q R : AV → AHeap → Prop} (h : EndsV o Q) (hq : ∀ v H, Q v H → R v H) : EndsV o R := let ⟨v, H, e, q⟩ := h; ⟨v, H, e, hq v H q⟩
theorem EndsE.mono {o : Option (AExit × Tau × AHeap)} {Q R : AExit → Tau → AHeap → Prop} (h : EndsE o Q) (hq : ∀ ex τ H, Q ex τ H → R ex τ H) : EndsE o R := let ⟨ex, τ, H, e, q⟩ := h; ⟨ex, τ, H, e, hq ex τ H q⟩
theorem EndsV.bnE {o : Option (AExit × Tau × AHeap)} {k : AExit → Tau → AHeap → Option (AV × AHeap)} {Q : AV → AHeap → Prop} (h : EndsE o fun ex τ H => EndsV (k ex τ H) Q) : EndsV (bnE o k) Q := by
  obtain ⟨ex, τ, H, rfl, h⟩ := h; exact h
theorem EndsE.bnE {o : Option (AExit × Tau × AHeap)} {k : AExit → Tau → AHeap → Option (AExit × Tau × AHeap)} {Q : AExit → Tau → AHeap → Prop} (h : EndsE o fun ex τ H => EndsE (k ex τ H) Q) : EndsE (bnE o k) Q := by
  obtain ⟨ex, τ, H, rfl, h⟩ := h; exact h
theorem EndsV.bnS {o : Option (AV × AHeap)} {k : AV → AHeap → Option (AV × AHeap)} {Q : AV → AHeap → Prop} (h : EndsV o fun v H => EndsV (k v H) Q) : EndsV (bnS o k) Q := by
  obtain ⟨v, H, rfl, h⟩ := h; exact h
theorem EndsE.bnS {o : Option (AV × AHeap)} {k : AV → AHeap → Option (AExit × Tau × AHeap)} {Q : AExit → Tau → AHeap → Prop} (h : EndsV o fun v H => EndsE (k v H) Q) : EndsE (bnS o k) Q := by
  obtain ⟨v, H, rfl, h⟩ := h; exact h
@[simp] theorem kept_refl (H : AHeap) : Kept H H := Kept.refl H
@[simp] theorem kept_push {H H1 : AHeap} (o : Option AObj) (a : Kept H H1) : Kept H (H1.push o) := a.push o
@[simp] theorem kept_put {H H1 : AHeap} {r : Nat} (o : Option AObj) (a : Kept H H1) (h : H.size ≤ r) : Kept H (H1.put r o) := a.put h o
def gTrue (args : List AV) (H : AHeap) : Option (AV × AHeap) := match args with
  | [] => some (.bool true, H)
  | _ => none
theorem gTrue_inv {args : List AV} {H H' : AHeap} {v : AV} (h : gTrue args H = some (v, H')) : args = [] ∧ v = .bool true ∧ H' = H := by
  unfold gTrue at h
  split at h
  · simp only [Option.some.injEq, Prod.mk.injEq] at h
    exact ⟨rfl, h.1.symm, h.2.symm⟩
  · cases h
end Go.Ab
