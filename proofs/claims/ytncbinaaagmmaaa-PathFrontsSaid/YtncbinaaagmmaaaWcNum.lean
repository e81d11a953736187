/- What a number from which choices are read comes to. -/
import Derived.Test.YtncbinaaagmmaaaBpe
import Derived.Test.YtncbinaaagmmaaaSh12
set_option linter.unusedVariables false
set_option linter.unusedSimpArgs false
namespace Go.Proofs.Ytncbinaaagmmaaa.Bp
open Go.Ab
set_option maxRecDepth 100000

/-- Choices at r: of L, n are read. -/
def Pk (H : AHeap) (r : Nat) (L : List Int) (n : Nat) : Prop := ∃ lv, H.get r = some (.cells .exact 2 [lv, .int .i64 n]) ∧ rdI .u8 H lv = some L ∧ r < H.size ∧ n ≤ L.length ∧ L.length ≤ 1000000 ∧ (∀ x ∈ L, 0 ≤ x ∧ x ≤ 255) ∧ ∀ a o m c, lv = .sl a o m c → a < r

theorem Pk.same {Q : Nat → Prop} {H H1 : AHeap} {r : Nat} {L : List Int} {n : Nat} (h : Pk H r L n) (hk : Same Q H H1) (hq : ∀ s, s ≤ r → Q s) : Pk H1 r L n := by
  obtain ⟨lv, h1, h2, h3, h4, h5, h6, h7⟩ := h
  refine ⟨lv, by rw [hk.get r (hq r (Nat.le_refl r))]; exact h1, rd_same hk (fun a o m c e => hq a (Nat.le_of_lt (h7 a o m c e))) h2, Nat.lt_of_lt_of_le h3 hk.size, h4, h5, h6, h7⟩

/-- A choice. -/
def num (L : List Int) (n : Nat) (m : Int) : Int := if n < L.length then (L.getD n 0).tmod m else 0
def nxt (L : List Int) (n : Nat) : Nat := if n < L.length then n + 1 else n
theorem num_range {L : List Int} {n : Nat} {m : Int} (hm : 0 < m) (hr : ∀ x ∈ L, 0 ≤ x ∧ x ≤ 255) : 0 ≤ num L n m ∧ num L n m < m := by
  unfold num
  split
  · rename_i h
    have : 0 ≤ L.getD n 0 := by
      rw [List.getD_eq_getElem?_getD, List.getElem?_eq_getElem h]
      exact (hr _ (List.getElem_mem h)).1
    rw [Int.tmod_eq_emod_of_nonneg this]
    exact ⟨Int.emod_nonneg _ (by omega), Int.emod_lt_of_pos _ hm⟩
  · omega

section
variable {s : Specs} {H : AHeap}

theorem call_Num (hn : s.lookup 50 = none) {r : Nat} {L : List Int} {n : Nat} {m : Int} (h : Pk H r L n) (hm : 0 < m) :
    ∃ H', callV (env s) 50 [.ptr r 0, .int .i64 m] H = some (.int .i64 (num L n m), H') ∧ Pk H' r L (nxt L n) ∧ Same (fun s => s ≠ r) H H' := by
  obtain ⟨lv, h1, h2, h3, h4, h5, h6, h7⟩ := h
  rw [f_pleachmade_Picks_Num hn, p_pleachmade_Picks_Num]
  by_cases hc : n < L.length
  · have e1 : ¬ ((L.length : Int) ≤ n) := by omega
    have e2 : ¬ (m < 1) := by omega
    have e3 : IntKind.i64.wrap ((n : Int) + 1) = (n : Int) + 1 := wrap_i64 (by omega) (by omega)
    have e4 : IntKind.i64.wrap ((n : Int) + 1 - 1) = (n : Int) := by rw [show (n : Int) + 1 - 1 = n by omega]; exact wrap_i64 (by omega) (by omega)
    have e5 : (n : Int) < L.length := by omega
    have e10 : IntKind.i64.wrap (n : Int) = n := wrap_i64 (by omega) (by omega)
    have e6 : ¬ m = 0 := by omega
    have hx : 0 ≤ L.getD n 0 ∧ L.getD n 0 ≤ 255 := by
      rw [List.getD_eq_getElem?_getD, List.getElem?_eq_getElem hc]
      exact h6 _ (List.getElem_mem hc)
    have e7 : IntKind.i64.wrap (L.getD n 0) = L.getD n 0 := wrap_i64 (by omega) (by omega)
    have hk : Same (fun s => s ≠ r) H (H.put r (some (.cells .exact 2 [lv, .int .i64 ((n : Int) + 1)]))) := (Same.refl _ _).put (by simp) _
    have h2' : rdI .u8 (H.put r (some (.cells .exact 2 [lv, .int .i64 ((n : Int) + 1)]))) lv = some L := rd_same hk (fun a o m c e => Nat.ne_of_lt (h7 a o m c e)) h2
    have e8 := rdI_iad h2' .i64 (i := n) (by omega) e5
    have e9 := rdI_ld h2' (i := n) (by omega) e5
    simp only [Int.toNat_natCast] at e9
    refine ⟨H.put r (some (.cells .exact 2 [lv, .int .i64 ((n : Int) + 1)])), ?_, ⟨lv, ?_, h2', by simpa using h3, ?_, h5, h6, h7⟩, hk⟩
    · simp [-List.getD_eq_getElem?_getD, h1, rdI_len h2, e1, e2, e3, e4, e6, e7, e8, e9, e10, num, hc]
    · simp [nxt, hc]
    · simp [nxt, hc]; omega
  · have e1 : (L.length : Int) ≤ n := by omega
    refine ⟨H, ?_, ⟨lv, ?_, h2, h3, ?_, h5, h6, h7⟩, Same.refl _ _⟩
    · simp [h1, rdI_len h2, e1, num, hc]
    · simp [nxt, hc, h1]
    · simpa [nxt, hc] using h4

theorem call_Made (hn : s.lookup 29 = none) {lv : AV} {L : List Int} (h : rdI .u8 H lv = some L) (hl : L.length ≤ 1000000) (hr : ∀ x ∈ L, 0 ≤ x ∧ x ≤ 255) :
    ∃ H', callV (env s) 29 [lv] H = some (.ptr H.size 0, H') ∧ Pk H' H.size L 0 ∧ Kept H H' ∧ H'.size = H.size + 1 := by
  refine ⟨H.push (some (.cells .exact 2 [lv, .int .i64 0])), ?_, ⟨lv, by simp, rdI_kept ((Kept.refl H).push _) h, by simp, by omega, hl, hr, ?_⟩, (Kept.refl H).push _, by simp⟩
  · rw [f_pleachmade_Made hn, p_pleachmade_Made]
    rcases rdI_cases h with ⟨rfl, rfl⟩ | ⟨r, o, c, rfl, _⟩ <;> simp
  · intro a o m c e
    rcases rdI_cases h with ⟨rfl, rfl⟩ | ⟨r, o, c, rfl, hlt, _⟩
    · cases e
    · cases e; exact hlt

end
end Go.Proofs.Ytncbinaaagmmaaa.Bp
