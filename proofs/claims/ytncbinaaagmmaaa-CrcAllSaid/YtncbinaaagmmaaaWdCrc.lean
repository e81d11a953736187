/- The laws of crc: what they come to at any arguments. -/
import Derived.Test.YtncbinaaagmmaaaWcCrc
set_option linter.unusedVariables false
set_option linter.unusedSimpArgs false
namespace Go.Proofs.Ytncbinaaagmmaaa.Bc
open Go.Ab
set_option maxRecDepth 100000

def S0 : Specs := [(26, gSum)]
theorem ok_S0 : SpecsOk S0 := (ok_cons (ok_gSum ok_nil rfl) ok_nil)
theorem S0_crc_Sum (args : List AV) (H : AHeap) : callV (env S0) 26 args H = gSum args H := callV_spec rfl args H

theorem crc_nine : crc [49, 50, 51, 52, 53, 54, 55, 56, 57] = 0xcbf43926#32 := by kernel_rfl
theorem crc_none : crc [] = 0#32 := by kernel_rfl
theorem ok_begun : SpecOk Try.prog 25 gTrue := by
  refine specOk ok_S0 rfl fun args H v H' h => ?_
  obtain ⟨rfl, rfl, rfl⟩ := gTrue_inv h
  refine fgt_pure (plainV_bool _) ?_
  rw [f_pleachlaw10_begun rfl, p_pleachlaw10_begun]
  simp [S0_crc_Sum, gSum, rdI, rdW, chunks, decI, crc_nine, crc_none]
  (repeat (first | exact Kept.refl _ | assumption | refine Kept.push ?_ _ | refine Kept.put ?_ (by first | omega | simp | (simp; omega)) _))

def S1 : Specs := [(25, gTrue), (26, gSum), (27, gSum)]
theorem ok_S1 : SpecsOk S1 := (ok_cons ok_begun (ok_cons (ok_gSum ok_nil rfl) (ok_cons (ok_gSum' ok_nil rfl) ok_nil)))
theorem S1_pleachlaw10_begun (args : List AV) (H : AHeap) : callV (env S1) 25 args H = gTrue args H := callV_spec rfl args H
theorem S1_crc_Sum (args : List AV) (H : AHeap) : callV (env S1) 26 args H = gSum args H := callV_spec rfl args H
theorem S1_pleachref10_Sum (args : List AV) (H : AHeap) : callV (env S1) 27 args H = gSum args H := callV_spec rfl args H

theorem u8r {n : Int} (h : IntKind.u8.min ≤ n ∧ n ≤ IntKind.u8.max) : 0 ≤ n ∧ n ≤ 255 := h

theorem law_CrcAll {H : AHeap} (v : AV) (l : List Int) (hv : rdI .u8 H v = some l) (hm : l.length ≤ maxLen) (hr : ∀ n ∈ l, IntKind.u8.min ≤ n ∧ n ≤ IntKind.u8.max) : EndsV (callV (env S1) 6 [v] H) fun v _ => v = .bool true := by
  rw [f_pleachlaw10_CrcAll rfl, p_pleachlaw10_CrcAll]
  have hc : (∀ n ∈ l, 0 ≤ n ∧ n ≤ 255) ∧ l.length ≤ 9223372036854775807 := ⟨fun n hn => u8r (hr n hn), hm⟩
  have hg : gSum [v] H = some (u32 (crc l), H) := by simp only [gSum, hv]; rw [if_pos hc]
  by_cases h : (300 : Int) < l.length
  · simp [S1_pleachlaw10_begun, gTrue, rdI_len hv, h]
  · simp [S1_pleachlaw10_begun, gTrue, rdI_len hv, h, S1_crc_Sum, S1_pleachref10_Sum, hg]

/-! ### The sums are linear -/
theorem bit_xor (x y : BitVec 32) : bit (x ^^^ y) = bit x ^^^ bit y := by
  unfold bit
  rw [BitVec.getLsbD_xor, BitVec.ushiftRight_xor_distrib]
  cases x.getLsbD 0 <;> cases y.getLsbD 0 <;> simp
  · rw [BitVec.xor_assoc]
  · rw [BitVec.xor_assoc, BitVec.xor_comm (y >>> 1), ← BitVec.xor_assoc]
  · rw [BitVec.xor_assoc, BitVec.xor_comm 3988292384#32, BitVec.xor_assoc, BitVec.xor_self, BitVec.xor_zero]
theorem bits_xor : ∀ (n : Nat) (x y : BitVec 32), bits n (x ^^^ y) = bits n x ^^^ bits n y
  | 0, _, _ => rfl
  | n + 1, x, y => by simp only [bits, bit_xor, bits_xor n]
theorem bit_zero {x : BitVec 32} (h : bit x = 0#32) : x = 0#32 := by
  unfold bit at h
  split at h
  · have h1 : x >>> 1 = 0xEDB88320#32 := by
      have := congrArg (· ^^^ 0xEDB88320#32) h
      simpa [BitVec.xor_assoc] using this
    have := congrArg BitVec.toNat h1
    rw [half] at this
    have hl := x.isLt
    simp at this
    omega
  · rename_i hl
    rw [lsb] at hl
    have := congrArg BitVec.toNat h
    rw [half] at this
    simp at hl this
    apply BitVec.eq_of_toNat_eq
    simp
    omega
theorem bits_zero : ∀ {n : Nat} {x : BitVec 32}, bits n x = 0#32 → x = 0#32
  | 0, _, h => h
  | n + 1, x, h => bit_zero (bits_zero (n := n) h)
theorem bit_none : bit 0#32 = 0#32 := by kernel_rfl
theorem bits_none : ∀ n, bits n 0#32 = 0#32
  | 0 => rfl
  | n + 1 => by rw [bits, bit_none, bits_none n]

end Go.Proofs.Ytncbinaaagmmaaa.Bc
