/- slices.overlaps, an entry of the model's: at slices in two blocks of the call's own it says no. -/
import Derived.Test.YtccgolmdhikdoaaAb17
import Derived.Lib.Overlaps
set_option linter.unusedVariables false
set_option linter.unusedSimpArgs false
set_option linter.unusedSectionVars false
namespace Go.Ab
open Go.RowKit
def plainKd : Kd → Bool
  | .exact | .opened => true
  | _ => false
def ovlA : List AV → AHeap → Option (AV × AHeap)
  | [.sl r _ _ _, .sl r' _ _ _], H => match H.get r, H.get r' with
    | some (.cells k _ _), some (.cells k' _ cs') => if r ≠ r' ∧ plainKd k = true ∧ plainKd k' = true ∧ cs' ≠ [] then some (.bool false, H) else none
    | _, _ => none
  | _, _ => none
theorem plain_shape {B : Nat} {ρ : Rho} {w : World} {L : Loc} {k : Kd} {z : Nat} {cs : List AV} (hk : plainKd k = true) (h : OwnOk B ρ w L k z cs) :
    ∃ e cur, w.heap[L.blk]? = some (.cells cur e (0, 0)) ∧ cs.length ≤ cur.size := by
  obtain ⟨_, _, cur, e, fz, hcur, hle, _, hkd⟩ := h
  cases k <;> simp [plainKd] at hk
  · obtain ⟨rfl, _⟩ := hkd; exact ⟨e, cur, hcur, hle⟩
  · obtain ⟨rfl, _⟩ := hkd; exact ⟨e, cur, hcur, hle⟩
theorem spec_ovl {P : Program} {f : Nat} {tS tR e : TypeId} {z : Nat} (ht : P.underlying tS = some (.slice e)) (hz : szOf P e = some z)
    (hf : ∀ (xs : Array Value) (w w' : World) (x : Value), (Extern.SlicesOverlaps.overlaps #[tS, tS] #[tR] xs).run P w = .ok x w' → (callFunc f xs).run P w = .ok (.value x) w') : SpecOk P f ovlA := by
  intro B ρ w H args xs v H' hB hs hx h
  unfold ovlA at h
  split at h
  · rename_i H0 r o n c r' o' n' c'
    split at h
    · rename_i k z1 cs k' z2 cs' hg hg'
      split at h
      · rename_i hcond
        obtain ⟨hne, hk, hk', hcs⟩ := hcond
        simp at h
        obtain ⟨rfl, rfl⟩ := h
        obtain ⟨a, ys, ha, hys, rfl⟩ := concL_cons hx
        obtain ⟨b, zs, hb, hzs, rfl⟩ := concL_cons hys
        have : zs = [] := by simpa [concL] using hzs
        subst this
        obtain ⟨L, hr, rfl, _⟩ := conc_sl ha
        obtain ⟨L', hr', rfl, _⟩ := conc_sl hb
        have hkr : k ≠ .ro := by rintro rfl; simp [plainKd] at hk
        have hkr' : k' ≠ .ro := by rintro rfl; simp [plainKd] at hk'
        have own : (AObj.cells k z1 cs).own = true := by cases k <;> first | rfl | exact absurd rfl hkr
        have own' : (AObj.cells k' z2 cs').own = true := by cases k' <;> first | rfl | exact absurd rfl hkr'
        have hblk := hs.inj r r' L L' _ _ hne hr hr' hg hg' own own'
        obtain ⟨e1, cur1, h1, _⟩ := plain_shape hk ((objOk_own hkr).1 (hs.obj r L _ hr hg))
        obtain ⟨e2, cur2, h2, hl2⟩ := plain_shape hk' ((objOk_own hkr').1 (hs.obj r' L' _ hr' hg'))
        have hpos : cur2.size ≠ 0 := by
          have : 0 < cs'.length := List.length_pos_iff.2 hcs
          omega
        have hrun := Lib.run_overlaps_apart (P := P) w tS tR e ht z (run_sizeOf' hz) ⟨L.blk, L.off + o, none⟩ ⟨L'.blk, L'.off + o', none⟩ n (capOf L c) n' (capOf L' c') hblk e1 e2 cur1.size cur2.size
          (by simp [World.shape?, h1]) (by simp [World.shape?, h2]) hpos (by simp [World.frozen?, h1]) (by simp [World.frozen?, h1])
        exact .inr ⟨ρ, .bool false, w, hf _ _ _ _ hrun, rfl, ρ.ext_refl _, hs, Below.refl _ _, Nat.le_refl _⟩
      · cases h
    · cases h
  · cases h
end Go.Ab
