/- The laws of crc: what they come to at any arguments. -/
import Derived.Test.YtncbinaaagmmaaaWcCrc
set_option linter.unusedVariables false
set_option linter.unusedSimpArgs false
namespace Go.Proofs.Ytncbinaaagmmaaa.Bc
open Go.Ab
set_option maxRecDepth 100000

def S0 : Specs := [(26, gSum)]
theorem ok_S0 : SpecsOk S0 := (ok_cons (ok_gSum ok_nil rfl) ok_nil)
theorem S0_crc_Sum (args : List AV) (H : AHeap) : callV (env S0) 26 args H = gSum args H := callV_spec rfl args H

theorem crc_nine : crc [49, 50, 51, 52, 53, 54, 55, 56, 57] = 0xcbf43926#32 := by kernel_rfl
theorem crc_none : crc [] = 0#32 := by kernel_rfl
theorem ok_begun : SpecOk Try.prog 25 gTrue := by
  refine specOk ok_S0 rfl fun args H v H' h => ?_
  obtain ⟨rfl, rfl, rfl⟩ := gTrue_inv h
  refine fgt_pure (plainV_bool _) ?_
  rw [f_pleachlaw10_begun rfl, p_pleachlaw10_begun]
  simp [S0_crc_Sum, gSum, rdI, rdW, chunks, decI, crc_nine, crc_none]
  (repeat (first | exact Kept.refl _ | assumption | refine Kept.push ?_ _ | refine Kept.put ?_ (by first | omega | simp | (simp; omega)) _))

def S1 : Specs := [(25, gTrue), (26, gSum), (27, gSum)]
theorem ok_S1 : SpecsOk S1 := (ok_cons ok_begun (ok_cons (ok_gSum ok_nil rfl) (ok_cons (ok_gSum' ok_nil rfl) ok_nil)))
theorem S1_pleachlaw10_begun (args : List AV) (H : AHeap) : callV (env S1) 25 args H = gTrue args H := callV_spec rfl args H
theorem S1_crc_Sum (args : List AV) (H : AHeap) : callV (env S1) 26 args H = gSum args H := callV_spec rfl args H
theorem S1_pleachref10_Sum (args : List AV) (H : AHeap) : callV (env S1) 27 args H = gSum args H := callV_spec rfl args H

theorem u8r {n : Int} (h : IntKind.u8.min ≤ n ∧ n ≤ IntKind.u8.max) : 0 ≤ n ∧ n ≤ 255 := h

theorem law_CrcAll {H : AHeap} (v : AV) (l : List Int) (hv : rdI .u8 H v = some l) (hm : l.length ≤ maxLen) (hr : ∀ n ∈ l, IntKind.u8.min ≤ n ∧ n ≤ IntKind.u8.max) : EndsV (callV (env S1) 6 [v] H) fun v _ => v = .bool true := by
  rw [f_pleachlaw10_CrcAll rfl, p_pleachlaw10_CrcAll]
  have hc : (∀ n ∈ l, 0 ≤ n ∧ n ≤ 255) ∧ l.length ≤ 9223372036854775807 := ⟨fun n hn => u8r (hr n hn), hm⟩
  have hg : gSum [v] H = some (u32 (crc l), H) := by simp only [gSum, hv]; rw [if_pos hc]
  by_cases h : (300 : Int) < l.length
  · simp [S1_pleachlaw10_begun, gTrue, rdI_len hv, h]
  · simp [S1_pleachlaw10_begun, gTrue, rdI_len hv, h, S1_crc_Sum, S1_pleachref10_Sum, hg]

/-! ### The sums are linear -/
theorem bit_xor (x y : BitVec 32) : bit (x ^^^ y) = bit x ^^^ bit y := by
  unfold bit
  rw [BitVec.getLsbD_xor, BitVec.ushiftRight_xor_distrib]
  cases x.getLsbD 0 <;> cases y.getLsbD 0 <;> simp
  · rw [BitVec.xor_assoc]
  · rw [BitVec.xor_assoc, BitVec.xor_comm (y >>> 1), ← BitVec.xor_assoc]
  · rw [BitVec.xor_assoc, BitVec.xor_comm 3988292384#32, BitVec.xor_assoc, BitVec.xor_self, BitVec.xor_zero]
theorem bits_xor : ∀ (n : Nat) (x y : BitVec 32), bits n (x ^^^ y) = bits n x ^^^ bits n y
  | 0, _, _ => rfl
  | n + 1, x, y => by simp only [bits, bit_xor, bits_xor n]
theorem bit_zero {x : BitVec 32} (h : bit x = 0#32) : x = 0#32 := by
  unfold bit at h
  split at h
  · have h1 : x >>> 1 = 0xEDB88320#32 := by
      have := congrArg (· ^^^ 0xEDB88320#32) h
      simpa [BitVec.xor_assoc] using this
    have := congrArg BitVec.toNat h1
    rw [half] at this
    have hl := x.isLt
    simp at this
    omega
  · rename_i hl
    rw [lsb] at hl
    have := congrArg BitVec.toNat h
    rw [half] at this
    simp at hl this
    apply BitVec.eq_of_toNat_eq
    simp
    omega
theorem bits_zero : ∀ {n : Nat} {x : BitVec 32}, bits n x = 0#32 → x = 0#32
  | 0, _, h => h
  | n + 1, x, h => bit_zero (bits_zero (n := n) h)
theorem bit_none : bit 0#32 = 0#32 := by kernel_rfl
theorem bits_none : ∀ n, bits n 0#32 = 0#32
  | 0 => rfl
  | n + 1 => by rw [bits, bit_none, bits_none n]

theorem crcS_append : ∀ (a b : List Int) (c : BitVec 32), crcS (a ++ b) c = crcS b (crcS a c)
  | [], _, _ => rfl
  | x :: a, b, c => crcS_append a b _
/-- What is turned behind which nothing else is. -/
def turn : Nat → BitVec 32 → BitVec 32
  | 0, c => c
  | n + 1, c => turn n (bits 8 c)
theorem turn_zero : ∀ {n : Nat} {c : BitVec 32}, turn n c = 0#32 → c = 0#32
  | 0, _, h => h
  | n + 1, _, h => bits_zero (turn_zero (n := n) h)
theorem crcS_xor : ∀ (l : List Int) (c d : BitVec 32), crcS l (c ^^^ d) = crcS l c ^^^ turn l.length d
  | [], _, _ => rfl
  | x :: l, c, d => by
    simp only [crcS, List.length_cons, turn]
    rw [show c ^^^ d ^^^ BitVec.ofInt 32 x = (c ^^^ BitVec.ofInt 32 x) ^^^ d by rw [BitVec.xor_assoc, BitVec.xor_comm d, ← BitVec.xor_assoc], bits_xor, crcS_xor l]

theorem split_nat (a b i : Nat) (hb : b < 2 ^ i) : BitVec.ofNat 32 (2 ^ i * a + b) = BitVec.ofNat 32 b ^^^ (BitVec.ofNat 32 a <<< i) := by
  apply BitVec.eq_of_getLsbD_eq
  intro j hj
  simp only [BitVec.getLsbD_ofNat, BitVec.getLsbD_xor, BitVec.getLsbD_shiftLeft, hj, decide_true, Bool.true_and]
  rw [Nat.testBit_two_pow_mul_add a hb]
  by_cases h : j < i
  · simp [h]
  · have : b.testBit j = false := Nat.testBit_lt_two_pow (Nat.lt_of_lt_of_le hb (Nat.pow_le_pow_right (by omega) (by omega)))
    simp [h, this]
    intro _; omega
theorem bit_shl (y : BitVec 32) (h : y.toNat * 2 < 2 ^ 32) : bit (y <<< 1) = y := by
  have h1 : (y <<< 1).toNat = y.toNat * 2 := by
    rw [BitVec.toNat_shiftLeft, Nat.shiftLeft_eq]; exact Nat.mod_eq_of_lt h
  unfold bit
  rw [if_neg (by rw [lsb, h1]; simp)]
  apply BitVec.eq_of_toNat_eq
  rw [half, h1]; omega
theorem bits_shl : ∀ (n : Nat) (a : Nat), a * 2 ^ n < 2 ^ 32 → bits n (BitVec.ofNat 32 a <<< n) = BitVec.ofNat 32 a
  | 0, a, _ => by simp [bits]
  | n + 1, a, h => by
    have h2 : a * 2 ^ n * 2 < 2 ^ 32 := by rw [Nat.pow_succ] at h; rw [Nat.mul_assoc]; exact h
    have hn : (BitVec.ofNat 32 a <<< n).toNat = a * 2 ^ n := by
      have ha : a ≤ a * 2 ^ n := Nat.le_mul_of_pos_right a (Nat.two_pow_pos n)
      rw [BitVec.toNat_shiftLeft, BitVec.toNat_ofNat, Nat.shiftLeft_eq, Nat.mod_eq_of_lt (a := a) (by omega), Nat.mod_eq_of_lt (by omega)]
    rw [bits, BitVec.shiftLeft_add, bit_shl _ (by rw [hn]; exact h2)]
    exact bits_shl n a (by omega)
theorem absorb (n a b : Nat) (hb : b < 2 ^ n) (ha : a * 2 ^ n < 2 ^ 32) : bits n (BitVec.ofNat 32 (2 ^ n * a + b)) = bits n (BitVec.ofNat 32 b) ^^^ BitVec.ofNat 32 a := by
  rw [split_nat a b n hb, bits_xor, bits_shl n a ha]
theorem bits_add : ∀ (m n : Nat) (x : BitVec 32), bits (m + n) x = bits n (bits m x)
  | 0, n, x => by rw [Nat.zero_add]; rfl
  | m + 1, n, x => by rw [show m + 1 + n = (m + n) + 1 by omega]; exact bits_add m n (bit x)

/-- What is left of bits that were turned within 32. -/
theorem burst (v s w0 w1 w2 w3 w4 bq : Nat) (hs : s < 8) (hb : bq < 2 ^ 32) (hv : v = bq * 2 ^ s) (h0 : w0 = v % 256) (h1 : w1 = v / 256 % 256) (h2 : w2 = v / 65536 % 256) (h3 : w3 = v / 16777216 % 256) (h4 : w4 = v / 4294967296 % 256) :
    bits 8 (bits 8 (bits 8 (bits 8 (bits 8 (BitVec.ofNat 32 w0) ^^^ BitVec.ofNat 32 w1) ^^^ BitVec.ofNat 32 w2) ^^^ BitVec.ofNat 32 w3) ^^^ BitVec.ofNat 32 w4) = bits 8 (bits (32 - s) (BitVec.ofNat 32 bq)) := by
  rw [← absorb 8 w1 w0 (by omega) (by omega), ← bits_add, ← absorb 16 w2 _ (by omega) (by omega), ← bits_add, ← absorb 24 w3 _ (by omega) (by omega), ← bits_add]
  congr 1
  have hs' : s = 0 ∨ s = 1 ∨ s = 2 ∨ s = 3 ∨ s = 4 ∨ s = 5 ∨ s = 6 ∨ s = 7 := by omega
  have key : ∀ m : Nat, s + m = 32 → m = 32 - s → ∀ q : Nat, 2 ^ 24 * w3 + (2 ^ 16 * w2 + (2 ^ 8 * w1 + w0)) = 2 ^ s * q + 0 → q * 2 ^ s < 2 ^ 32 → q < 2 ^ m → bq = 2 ^ m * w4 + q → w4 * 2 ^ m < 2 ^ 32 →
      bits (24 + 8) (BitVec.ofNat 32 (2 ^ 24 * w3 + (2 ^ 16 * w2 + (2 ^ 8 * w1 + w0)))) ^^^ BitVec.ofNat 32 w4 = bits (32 - s) (BitVec.ofNat 32 bq) := by
    intro m hm hm' q hq hq2 hq3 hq4 hq5
    have e0 : bits s (BitVec.ofNat 32 0) = 0#32 := bits_none s
    rw [hq, show 24 + 8 = s + m by omega, bits_add, absorb s q 0 (Nat.two_pow_pos s) hq2, e0, BitVec.zero_xor, ← hm', hq4, absorb m w4 q hq3 hq5]
  rcases hs' with rfl | rfl | rfl | rfl | rfl | rfl | rfl | rfl
  · exact key 32 rfl rfl (bq % 2 ^ 32) (by omega) (by omega) (by omega) (by omega) (by omega)
  · exact key 31 rfl rfl (bq % 2 ^ 31) (by omega) (by omega) (by omega) (by omega) (by omega)
  · exact key 30 rfl rfl (bq % 2 ^ 30) (by omega) (by omega) (by omega) (by omega) (by omega)
  · exact key 29 rfl rfl (bq % 2 ^ 29) (by omega) (by omega) (by omega) (by omega) (by omega)
  · exact key 28 rfl rfl (bq % 2 ^ 28) (by omega) (by omega) (by omega) (by omega) (by omega)
  · exact key 27 rfl rfl (bq % 2 ^ 27) (by omega) (by omega) (by omega) (by omega) (by omega)
  · exact key 26 rfl rfl (bq % 2 ^ 26) (by omega) (by omega) (by omega) (by omega) (by omega)
  · exact key 25 rfl rfl (bq % 2 ^ 25) (by omega) (by omega) (by omega) (by omega) (by omega)

/-- A byte turned. -/
def x8 (a b : Int) : Int := IntKind.u8.wrap ((BitVec.ofInt 8 a ^^^ BitVec.ofInt 8 b).toNat : Int)
theorem of8 {a : Int} (h : 0 ≤ a ∧ a ≤ 255) : BitVec.ofInt 32 a = (BitVec.ofInt 8 a).setWidth 32 := by
  obtain ⟨n, rfl⟩ := Int.eq_ofNat_of_zero_le h.1
  rw [BitVec.ofInt_natCast, BitVec.ofInt_natCast]
  apply BitVec.eq_of_toNat_eq
  simp
  omega
theorem x8_nat (a b : Int) : x8 a b = ((BitVec.ofInt 8 a ^^^ BitVec.ofInt 8 b).toNat : Int) := IntWalk.u8_in _ ⟨by omega, by have := (BitVec.ofInt 8 a ^^^ BitVec.ofInt 8 b).isLt; omega⟩
theorem x8_range (a b : Int) : 0 ≤ x8 a b ∧ x8 a b ≤ 255 := by
  rw [x8_nat]; have := (BitVec.ofInt 8 a ^^^ BitVec.ofInt 8 b).isLt; omega
theorem x8_32 {a b : Int} (ha : 0 ≤ a ∧ a ≤ 255) (hb : 0 ≤ b ∧ b ≤ 255) : BitVec.ofInt 32 (x8 a b) = BitVec.ofInt 32 a ^^^ BitVec.ofInt 32 b := by
  rw [of8 ha, of8 hb, x8_nat, BitVec.ofInt_natCast, BitVec.ofNat_toNat, BitVec.setWidth_xor]

def wq (v : Int) (i : Nat) : Int := IntKind.u8.wrap (v.fdiv (2 ^ (8 * i)))

theorem iter_Turned {H : AHeap} {r : Nat} {l : List Int} {k i : Nat} {vq : Int} {v0 : AV} {c : ACap} (hg : H.get r = some (.cells .opened 1 (l.map (AV.int .u8)))) (hi : i < 5) (hk : k + i < l.length) (hl : l.length ≤ 200) :
    L_pleachlaw10_CrcTurned_0 S1 v0 (.sl r 0 l.length c) (.int .i64 k) (.int .u64 vq) (.int .i64 i) H =
      L_pleachlaw10_CrcTurned_0 S1 v0 (.sl r 0 l.length c) (.int .i64 k) (.int .u64 vq) (.int .i64 (i + 1 : Nat)) (H.put r (some (.cells .opened 1 ((l.set (k + i) (x8 (l.getD (k + i) 0) (wq vq i))).map (AV.int .u8))))) := by
  rw [L_pleachlaw10_CrcTurned_0_eq, p_pleachlaw10_CrcTurned_0]
  have h : (i : Int) < 5 := by omega
  have e1 : IntKind.i64.wrap ((k : Int) + i) = (k : Int) + i := wrap_i64 (by omega) (by omega)
  have e2 : (0 : Int) ≤ (k : Int) + i := by omega
  have e3 : (k : Int) + i < l.length := by omega
  have e4 : ((k : Int) + i).toNat = k + i := by omega
  have e5 : IntKind.i64.wrap ((i : Int) + 1) = (i : Int) + 1 := wrap_i64 (by omega) (by omega)
  have e6 : IntKind.i64.wrap (8 * (i : Int)) = 8 * (i : Int) := wrap_i64 (by omega) (by omega)
  have e7 : ¬ (8 * (i : Int) < 0) := by omega
  have e8 : (min (8 * (i : Int)).toNat IntKind.u64.bits) = 8 * i := by
    show min (8 * (i : Int)).toNat 64 = 8 * i
    omega
  have e9 : (l.map (AV.int .u8))[k + i]? = some (.int .u8 (l.getD (k + i) 0)) := by
    rw [List.getElem?_map, List.getD_eq_getElem?_getD, List.getElem?_eq_getElem hk]; rfl
  have e10 := st_ints (x8 (l.getD (k + i) 0) (wq vq i)) hg (by decide) hk
  have e11 : binA .xor (.int .u8 (l.getD (k + i) 0)) (.int .u8 (wq vq i)) = some (.int .u8 (x8 (l.getD (k + i) 0) (wq vq i))) := bin_xor _ _ _
  have e12 : IntKind.u8.wrap (vq.fdiv (2 ^ (8 * i))) = wq vq i := rfl
  simp [-stA_ptr, -bin_xor, -List.getD_eq_getElem?_getD, -List.getElem?_map, -List.map_set, h, e1, e2, e3, e4, e5, e6, e7, e8, hg, e9, e10, e11, e12, L_pleachlaw10_CrcTurned_0_fold]

theorem five (l : List Int) (k : Nat) (h : k + 5 ≤ l.length) : ∃ a b0 b1 b2 b3 b4 z, l = a ++ b0 :: b1 :: b2 :: b3 :: b4 :: z ∧ a.length = k := by
  refine ⟨l.take k, l[k], l[k + 1], l[k + 2], l[k + 3], l[k + 4], l.drop (k + 5), ?_, by simp; omega⟩
  rw [← List.drop_eq_getElem_cons, ← List.drop_eq_getElem_cons, ← List.drop_eq_getElem_cons, ← List.drop_eq_getElem_cons, ← List.drop_eq_getElem_cons, List.take_append_drop]

/-- Turned bytes have another sum. -/
theorem turned_ne {a z : List Int} {b0 b1 b2 b3 b4 : Int} {s bq : Nat} (hs : s < 8) (hb : bq < 2 ^ 32) (h0 : bq ≠ 0) (hr : ∀ n ∈ [b0, b1, b2, b3, b4], 0 ≤ n ∧ n ≤ 255) (w : Nat → Int) (hw : ∀ i, w i = ((bq * 2 ^ s / 256 ^ i % 256 : Nat) : Int)) :
    crc (a ++ x8 b0 (w 0) :: x8 b1 (w 1) :: x8 b2 (w 2) :: x8 b3 (w 3) :: x8 b4 (w 4) :: z) ≠ crc (a ++ b0 :: b1 :: b2 :: b3 :: b4 :: z) := by
  intro h
  have hwr : ∀ i, 0 ≤ w i ∧ w i ≤ 255 := fun i => by rw [hw]; omega
  have hw32 : ∀ i, BitVec.ofInt 32 (w i) = BitVec.ofNat 32 (bq * 2 ^ s / 256 ^ i % 256) := fun i => by rw [hw, BitVec.ofInt_natCast]
  have h1 : crcS (a ++ x8 b0 (w 0) :: x8 b1 (w 1) :: x8 b2 (w 2) :: x8 b3 (w 3) :: x8 b4 (w 4) :: z) 0xFFFFFFFF#32 = crcS (a ++ b0 :: b1 :: b2 :: b3 :: b4 :: z) 0xFFFFFFFF#32 := by
    have := congrArg (· ^^^ 0xFFFFFFFF#32) h
    simpa [crc, BitVec.xor_assoc] using this
  rw [crcS_append, crcS_append] at h1
  generalize crcS a 0xFFFFFFFF#32 = C at h1
  have step : ∀ (x : BitVec 32) (d : BitVec 32) (b : Int) (i : Nat), 0 ≤ b ∧ b ≤ 255 → bits 8 (x ^^^ d ^^^ BitVec.ofInt 32 (x8 b (w i))) = bits 8 (x ^^^ BitVec.ofInt 32 b) ^^^ bits 8 (d ^^^ BitVec.ofInt 32 (w i)) := by
    intro x d b i hb
    rw [x8_32 hb (hwr i), ← bits_xor]
    congr 1
    rw [BitVec.xor_assoc, BitVec.xor_assoc]
    congr 1
    rw [← BitVec.xor_assoc, BitVec.xor_comm d, BitVec.xor_assoc]
  simp only [crcS] at h1
  have r0 := hr b0 (by simp)
  have r1 := hr b1 (by simp)
  have r2 := hr b2 (by simp)
  have r3 := hr b3 (by simp)
  have r4 := hr b4 (by simp)
  have hz : C ^^^ BitVec.ofInt 32 (x8 b0 (w 0)) = C ^^^ 0#32 ^^^ BitVec.ofInt 32 (x8 b0 (w 0)) := by rw [BitVec.xor_zero]
  rw [hz, step C 0#32 b0 0 r0, step _ _ b1 1 r1, step _ _ b2 2 r2, step _ _ b3 3 r3, step _ _ b4 4 r4, crcS_xor] at h1
  have h2 := congrArg (crcS z (bits 8 (bits 8 (bits 8 (bits 8 (bits 8 (C ^^^ BitVec.ofInt 32 b0) ^^^ BitVec.ofInt 32 b1) ^^^ BitVec.ofInt 32 b2) ^^^ BitVec.ofInt 32 b3) ^^^ BitVec.ofInt 32 b4)) ^^^ ·) h1
  simp only [← BitVec.xor_assoc, BitVec.xor_self, BitVec.zero_xor] at h2
  have h3 := turn_zero h2
  simp only [hw32] at h3
  rw [burst (bq * 2 ^ s) s _ _ _ _ _ bq hs hb rfl (by rw [Nat.pow_zero, Nat.div_one]) (by rw [Nat.pow_one]) rfl rfl rfl] at h3
  have h4 := bits_zero (bits_zero h3)
  have := congrArg BitVec.toNat h4
  rw [BitVec.toNat_ofNat, Nat.mod_eq_of_lt hb] at this
  exact h0 (by simpa using this)

def updN (k : Nat) (w : Nat → Int) : Nat → Nat → List Int → List Int
  | 0, _, m => m
  | n + 1, i, m => updN k w n (i + 1) (m.set (k + i) (x8 (m.getD (k + i) 0) (w i)))
theorem upd5 (a z : List Int) (b0 b1 b2 b3 b4 : Int) (k : Nat) (ha : a.length = k) (w : Nat → Int) : updN k w 5 0 (a ++ b0 :: b1 :: b2 :: b3 :: b4 :: z) =
    a ++ x8 b0 (w 0) :: x8 b1 (w 1) :: x8 b2 (w 2) :: x8 b3 (w 3) :: x8 b4 (w 4) :: z := by
  subst ha
  have h : ∀ (i : Nat) (m : List Int) (y : Int), (a ++ m).set (a.length + i) y = a ++ m.set i y := fun i m y => by
    rw [List.set_append_right _ _ (by omega)]; congr 2; omega
  have g : ∀ (i : Nat) (m : List Int), (a ++ m).getD (a.length + i) 0 = m.getD i 0 := fun i m => by
    rw [List.getD_eq_getElem?_getD, List.getD_eq_getElem?_getD, List.getElem?_append_right (by omega)]; congr 2; omega
  simp only [updN, h, g]
  rfl

theorem law_CrcTurned {H : AHeap} (v : AV) (l : List Int) (hv : rdI .u8 H v = some l) (hm : l.length ≤ maxLen) (hr : ∀ n ∈ l, IntKind.u8.min ≤ n ∧ n ≤ IntKind.u8.max)
    (p : Int) (hp : IntKind.u16.min ≤ p ∧ p ≤ IntKind.u16.max) (q : Int) (hq : IntKind.u32.min ≤ q ∧ q ≤ IntKind.u32.max) : EndsV (callV (env S1) 7 [v, .int .u16 p, .int .u32 q] H) fun v _ => v = .bool true := by
  rw [f_pleachlaw10_CrcTurned rfl, p_pleachlaw10_CrcTurned]
  have hp' : 0 ≤ p ∧ p ≤ 65535 := hp
  have hq' : 0 ≤ q ∧ q ≤ 4294967295 := hq
  by_cases h1 : (200 : Int) < l.length
  · simp [S1_pleachlaw10_begun, gTrue, rdI_len hv, h1]
  by_cases h2 : (l.length : Int) < 5
  · simp [S1_pleachlaw10_begun, gTrue, rdI_len hv, h1, h2]
  by_cases h3 : q = 0
  · simp [S1_pleachlaw10_begun, gTrue, rdI_len hv, h1, h2, h3]
  have e1 : IntKind.i64.wrap p = p := wrap_i64 (by omega) (by omega)
  have e2 : IntKind.i64.wrap ((l.length : Int) - 4) = l.length - 4 := wrap_i64 (by omega) (by omega)
  have e3 : ¬ ((l.length : Int) - 4 = 0) := by omega
  have e4 : IntKind.u64.wrap q = q := IntWalk.u64_in _ ⟨by omega, by omega⟩
  have e5 : ¬ (p.tmod 8 < 0) := by rw [Int.tmod_eq_emod_of_nonneg hp'.1]; omega
  simp [S1_pleachlaw10_begun, gTrue, rdI_len hv, h1, h2, h3, e1, e2, e3, e4, e5]
  have es : ∃ t : Nat, p.tmod 8 = t ∧ t < 8 := ⟨(p.tmod 8).toNat, by rw [Int.tmod_eq_emod_of_nonneg hp'.1]; omega, by rw [Int.tmod_eq_emod_of_nonneg hp'.1]; omega⟩
  have ek : ∃ k : Nat, p.tmod ((l.length : Int) - 4) = k ∧ k + 5 ≤ l.length := by
    refine ⟨(p.tmod ((l.length : Int) - 4)).toNat, ?_, ?_⟩
    · rw [Int.tmod_eq_emod_of_nonneg hp'.1]; have := Int.emod_nonneg p e3; omega
    · rw [Int.tmod_eq_emod_of_nonneg hp'.1]; have := Int.emod_lt_of_pos p (show 0 < (l.length : Int) - 4 by omega); have := Int.emod_nonneg p e3; omega
  obtain ⟨t, et, ht⟩ := es
  obtain ⟨k, ek, hk⟩ := ek
  obtain ⟨bq, rfl⟩ := Int.eq_ofNat_of_zero_le hq'.1
  have hbq : bq < 2 ^ 32 := by omega
  have hvb : bq * 2 ^ t < 2 ^ 40 := by
    have : 2 ^ t ≤ 2 ^ 7 := Nat.pow_le_pow_right (by omega) (by omega)
    have := Nat.mul_lt_mul_of_lt_of_le hbq this (by omega)
    omega
  have ev : IntKind.u64.wrap ((bq : Int) * 2 ^ min ((t : Int)).toNat IntKind.u64.bits) = ((bq * 2 ^ t : Nat) : Int) := by
    have : min ((t : Int)).toNat IntKind.u64.bits = t := by show min ((t : Int)).toNat 64 = t; omega
    have hc : (bq : Int) * 2 ^ t = ((bq * 2 ^ t : Nat) : Int) := by simp [Int.natCast_mul, Int.natCast_pow]
    rw [this, hc]
    generalize bq * 2 ^ t = V at hvb
    exact IntWalk.u64_in _ ⟨by omega, by omega⟩
  have eapp := app_none (bytes := 1) (kd := .exact) (z := 1) (cs := []) (H := H.push (some (.cells .exact 1 []))) (r := H.size) (rdI_kept ((Kept.refl H).push _) hv) (by simp) (by omega) (by simp only [maxBytes]; omega) (by simp only [maxBytes]; omega)
  simp only [et, ek]
  rw [ev]
  simp only [eapp, bnS_some, AHeap.size_push, L_pleachlaw10_CrcTurned_0_fold]
  obtain ⟨a, b0, b1, b2, b3, b4, z, hl, ha⟩ := five l k hk
  have hg0 : ((H.push (some (.cells .exact 1 []))).push (some (.cells .opened 1 (l.map (AV.int .u8))))).get (H.size + 1) = some (.cells .opened 1 (l.map (AV.int .u8))) := by simp
  have key : ∀ (n i : Nat) (m : List Int) (H' : AHeap), i + n = 5 → m.length = l.length → H'.size = H.size + 1 + 1 → Kept H H' → H'.get (H.size + 1) = some (.cells .opened 1 (m.map (AV.int .u8))) →
      ∃ H2, L_pleachlaw10_CrcTurned_0 S1 v (.sl (H.size + 1) 0 l.length (.mi 0)) (.int .i64 k) (.int .u64 (bq * 2 ^ t : Nat)) (.int .i64 i) H' =
        L_pleachlaw10_CrcTurned_0 S1 v (.sl (H.size + 1) 0 l.length (.mi 0)) (.int .i64 k) (.int .u64 (bq * 2 ^ t : Nat)) (.int .i64 5) H2 ∧ H2.size = H.size + 1 + 1 ∧ Kept H H2 ∧
        H2.get (H.size + 1) = some (.cells .opened 1 ((updN k (wq (bq * 2 ^ t : Nat)) n i m).map (AV.int .u8))) := by
    intro n
    induction n with
    | zero =>
      intro i m H' hi hm' hs hk' hg
      obtain rfl : i = 5 := by omega
      exact ⟨H', rfl, hs, hk', hg⟩
    | succ n ih =>
      intro i m H' hi hm' hs hk' hg
      have h := iter_Turned (v0 := v) (c := .mi 0) (vq := (bq * 2 ^ t : Nat)) (k := k) (i := i) hg (by omega) (by omega) (by omega)
      rw [hm'] at h
      rw [h]
      exact ih (i + 1) _ _ (by omega) (by simp [hm']) (by simpa using hs) (hk'.put (by omega) _) (by simp)
  obtain ⟨H2, e, hs2, hk2, hg2⟩ := key 5 0 l _ rfl rfl (by simp) (by (repeat (first | exact Kept.refl _ | assumption | refine Kept.push ?_ _ | refine Kept.put ?_ (by first | omega | simp | (simp; omega)) _))) hg0
  rw [hl, upd5 a z b0 b1 b2 b3 b4 k ha] at hg2
  have e' := e
  simp only [Int.natCast_zero] at e
  rw [show ((0 : Nat) : Int) = 0 from rfl] at e'
  rw [e', L_pleachlaw10_CrcTurned_0_eq, p_pleachlaw10_CrcTurned_0]
  have hlen : l.length = (a ++ x8 b0 (wq (bq * 2 ^ t : Nat) 0) :: x8 b1 (wq (bq * 2 ^ t : Nat) 1) :: x8 b2 (wq (bq * 2 ^ t : Nat) 2) :: x8 b3 (wq (bq * 2 ^ t : Nat) 3) :: x8 b4 (wq (bq * 2 ^ t : Nat) 4) :: z).length := by
    rw [hl]; simp
  have hrd : rdI .u8 H2 (.sl (H.size + 1) 0 l.length (.mi 0)) = some (a ++ x8 b0 (wq (bq * 2 ^ t : Nat) 0) :: x8 b1 (wq (bq * 2 ^ t : Nat) 1) :: x8 b2 (wq (bq * 2 ^ t : Nat) 2) :: x8 b3 (wq (bq * 2 ^ t : Nat) 3) :: x8 b4 (wq (bq * 2 ^ t : Nat) 4) :: z) := by
    rw [hlen]
    exact rdI_mk (more := []) (kd := .opened) (z := 1) (by omega) (by rw [List.append_nil]; exact hg2)
  have hr' : ∀ n ∈ a ++ b0 :: b1 :: b2 :: b3 :: b4 :: z, 0 ≤ n ∧ n ≤ 255 := fun n hn => u8r (hr n (hl ▸ hn))
  have hg1 : gSum [.sl (H.size + 1) 0 l.length (.mi 0)] H2 = some (u32 (crc (a ++ x8 b0 (wq (bq * 2 ^ t : Nat) 0) :: x8 b1 (wq (bq * 2 ^ t : Nat) 1) :: x8 b2 (wq (bq * 2 ^ t : Nat) 2) :: x8 b3 (wq (bq * 2 ^ t : Nat) 3) :: x8 b4 (wq (bq * 2 ^ t : Nat) 4) :: z)), H2) := by
    simp only [gSum, hrd]
    rw [if_pos]
    refine ⟨?_, by rw [← hlen]; omega⟩
    intro n hn
    simp only [List.mem_append, List.mem_cons] at hn
    rcases hn with hn | rfl | rfl | rfl | rfl | rfl | hn
    · exact hr' n (by simp [hn])
    · exact x8_range _ _
    · exact x8_range _ _
    · exact x8_range _ _
    · exact x8_range _ _
    · exact x8_range _ _
    · exact hr' n (by simp [hn])
  have hg2' : gSum [v] H2 = some (u32 (crc (a ++ b0 :: b1 :: b2 :: b3 :: b4 :: z)), H2) := by
    have hv2 := rdI_kept hk2 hv
    rw [hl] at hv2
    simp only [gSum, hv2]
    rw [if_pos ⟨hr', by rw [← hl]; omega⟩]
  have hne := turned_ne (a := a) (z := z) ht hbq (by omega) (fun n hn => hr' n (by simp only [List.mem_cons, List.not_mem_nil, or_false] at hn; rcases hn with rfl | rfl | rfl | rfl | rfl <;> simp)) (fun i => wq (bq * 2 ^ t : Nat) i) (b0 := b0) (b1 := b1) (b2 := b2) (b3 := b3) (b4 := b4) (fun i => by
    unfold wq
    have h2 : (2 : Int) ^ (8 * i) = ((256 ^ i : Nat) : Int) := by rw [Int.pow_mul]; simp
    rw [IntKind.wrap_u8, h2, Int.fdiv_eq_ediv_of_nonneg _ (Int.natCast_nonneg _)]
    simp only [Int.natCast_emod, Int.natCast_ediv]
    rfl)
  have hne2 : ¬ ((crc (a ++ x8 b0 (wq (bq * 2 ^ t : Nat) 0) :: x8 b1 (wq (bq * 2 ^ t : Nat) 1) :: x8 b2 (wq (bq * 2 ^ t : Nat) 2) :: x8 b3 (wq (bq * 2 ^ t : Nat) 3) :: x8 b4 (wq (bq * 2 ^ t : Nat) 4) :: z)).toNat : Int) = ((crc (a ++ b0 :: b1 :: b2 :: b3 :: b4 :: z)).toNat : Int) := by
    intro h
    exact hne (BitVec.eq_of_toNat_eq (by omega))
  simp only [bin_lss, bnP_some, cndS_bool]
  rw [if_neg (by decide)]
  simpa [p_pleachlaw10_CrcTurned_1, S1_crc_Sum, hg1, hg2'] using hne2
end Go.Proofs.Ytncbinaaagmmaaa.Bc
