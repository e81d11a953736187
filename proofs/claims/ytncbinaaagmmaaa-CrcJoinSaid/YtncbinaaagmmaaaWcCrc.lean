/- What the sums come to. -/
import Derived.Test.YtncbinaaagmmaaaBce
set_option linter.unusedVariables false
set_option linter.unusedSimpArgs false
set_option linter.unusedSectionVars false
namespace Go.Proofs.Ytncbinaaagmmaaa.Bc
open Go.Ab
set_option maxRecDepth 100000

/-- One bit, some bits, bytes. -/
def bit (c : BitVec 32) : BitVec 32 := if c.getLsbD 0 then (c >>> 1) ^^^ 0xEDB88320#32 else c >>> 1
def bits : Nat → BitVec 32 → BitVec 32
  | 0, c => c
  | n + 1, c => bits n (bit c)
def crcS : List Int → BitVec 32 → BitVec 32
  | [], c => c
  | x :: l, c => crcS l (bits 8 (c ^^^ BitVec.ofInt 32 x))
def crc (l : List Int) : BitVec 32 := crcS l 0xFFFFFFFF#32 ^^^ 0xFFFFFFFF#32
abbrev u32 (C : BitVec 32) : AV := .int .u32 C.toNat

theorem wrapN (C : BitVec 32) : IntKind.u32.wrap (C.toNat : Int) = C.toNat := IntWalk.u32_in _ ⟨by omega, by have := C.isLt; omega⟩
theorem ofN (C : BitVec 32) : BitVec.ofInt 32 (C.toNat : Int) = C := by
  rw [BitVec.ofInt_natCast, BitVec.ofNat_toNat, BitVec.setWidth_eq]
theorem xor_u32 (C : BitVec 32) (x : Int) : binA .xor (u32 C) (.int .u32 x) = some (u32 (C ^^^ BitVec.ofInt 32 x)) := by
  rw [bin_xor]
  show some (AV.int .u32 (IntKind.u32.wrap ((BitVec.ofInt 32 (C.toNat : Int) ^^^ BitVec.ofInt 32 x).toNat : Int))) = _
  rw [ofN, wrapN]
theorem lsb (C : BitVec 32) : C.getLsbD 0 = decide (C.toNat % 2 = 1) := by
  rw [BitVec.getLsbD, Nat.testBit_zero]
theorem and_u32 (C : BitVec 32) : binA .and (u32 C) (.int .u32 1) = some (.int .u32 (C.toNat % 2 : Nat)) := by
  rw [bin_and]
  show some (AV.int .u32 (IntKind.u32.wrap ((BitVec.ofInt 32 (C.toNat : Int) &&& BitVec.ofInt 32 1).toNat : Int))) = _
  rw [ofN, wrapN]
  congr 3
  rw [BitVec.toNat_and]
  show C.toNat &&& 1 = _
  rw [Nat.and_one_is_mod]
theorem half (C : BitVec 32) : (C >>> 1).toNat = C.toNat / 2 := by
  rw [BitVec.toNat_ushiftRight, Nat.shiftRight_eq_div_pow]
theorem shr_u32 (C : BitVec 32) : binA .shr (u32 C) (.int .u64 1) = some (u32 (C >>> 1)) := by
  rw [bin_shr]
  show (if (1 : Int) < 0 then none else some (AV.int .u32 ((C.toNat : Int).fdiv (2 ^ 1)))) = _
  rw [if_neg (by omega)]
  congr 2
  rw [half, Int.fdiv_eq_ediv_of_nonneg _ (by decide)]
  omega
theorem rem_u32 (C : BitVec 32) : binA .rem (u32 C) (.int .u32 2) = some (.int .u32 (C.toNat % 2 : Nat)) := by
  rw [bin_rem, if_neg (by decide)]
  congr 2
theorem quo_u32 (C : BitVec 32) : binA .quo (u32 C) (.int .u32 2) = some (u32 (C >>> 1)) := by
  rw [bin_quo, if_neg (by decide)]
  have : (C.toNat : Int).tdiv 2 = ((C >>> 1).toNat : Int) := by rw [half]; rfl
  rw [this, wrapN]
theorem not_u32 (C : BitVec 32) : unA .xor (u32 C) = some (u32 (C ^^^ 0xFFFFFFFF#32)) := by
  show binI .xor .u32 _ (C.toNat : Int) = _
  show some (AV.int .u32 (IntKind.u32.wrap ((BitVec.ofInt 32 (IntKind.u32.max) ^^^ BitVec.ofInt 32 (C.toNat : Int)).toNat : Int))) = _
  rw [ofN, wrapN, BitVec.xor_comm]
  rfl

section
variable {s : Specs} {H : AHeap}

theorem loop_Sum1 {v7 v8 v9 : AV} : ∀ (n i : Nat) (C : BitVec 32), i + n = 8 → L_crc_Sum_1 s (u32 C) v7 v8 v9 (.int .i64 i) H = some (.exit 2, X_crc_Sum_1_x2 (u32 (bits n C)) v7 v8 v9, H) := by
  intro n
  induction n with
  | zero =>
    intro i C hi
    rw [L_crc_Sum_1_eq, p_crc_Sum_1]
    have h : ¬ ((i : Int) < 8) := by omega
    simp [h, bits]
  | succ n ih =>
    intro i C hi
    rw [L_crc_Sum_1_eq, p_crc_Sum_1]
    have h : (i : Int) < 8 := by omega
    have h5 : IntKind.i64.wrap ((i : Int) + 1) = (i : Int) + 1 := wrap_i64 (by omega) (by omega)
    have hb : bits (n + 1) C = bits n (bit C) := rfl
    have := ih (i + 1) (bit C) (by omega)
    by_cases h1 : C.toNat % 2 = 1
    · have hx : bit C = (C >>> 1) ^^^ BitVec.ofInt 32 3988292384 := by unfold bit; rw [if_pos (by rw [lsb]; simpa using h1)]; rfl
      rw [hx] at this
      have h2 : ((C.toNat % 2 : Nat) : Int) = 1 := by omega
      simp [-bin_xor, -bin_and, -bin_shr, xor_u32, and_u32, shr_u32, h, h2, h5, p_crc_Sum_0, L_crc_Sum_1_fold, -Int.natCast_emod]
      rw [hb, hx]; simpa using this
    · have hx : bit C = C >>> 1 := by unfold bit; rw [if_neg (by rw [lsb]; simpa using h1)]
      rw [hx] at this
      have h2 : ¬ ((C.toNat % 2 : Nat) : Int) = 1 := by omega
      simp [-bin_xor, -bin_and, -bin_shr, xor_u32, and_u32, shr_u32, h, h2, h5, p_crc_Sum_0, L_crc_Sum_1_fold, -Int.natCast_emod]
      rw [hb, hx]; simpa using this

theorem drop_get {l : List Int} {i : Nat} (h : i < l.length) : l.drop i = l.getD i 0 :: l.drop (i + 1) := by
  rw [List.drop_eq_getElem_cons h, List.getD_eq_getElem?_getD, List.getElem?_eq_getElem h]; rfl

theorem loop_Sum3 {v : AV} {l : List Int} (hv : rdI .u8 H v = some l) (hr : ∀ n ∈ l, 0 ≤ n ∧ n ≤ 255) (hm : l.length ≤ 9223372036854775807) : ∀ (n i : Nat) (C : BitVec 32), i + n = l.length →
    L_crc_Sum_3 s (u32 C) v (.int .i64 l.length) (.int .i64 i) H = some (.exit 0, X_crc_Sum_3_x0 (u32 (crcS (l.drop i) C)), H) := by
  intro n
  induction n with
  | zero =>
    intro i C hi
    rw [L_crc_Sum_3_eq, p_crc_Sum_3]
    have h : ¬ ((i : Int) < l.length) := by omega
    have hd : l.drop i = [] := by rw [List.drop_eq_nil_iff]; omega
    simp [h, hd, crcS]
  | succ n ih =>
    intro i C hi
    rw [L_crc_Sum_3_eq, p_crc_Sum_3]
    have h : (i : Int) < l.length := by omega
    have h0 : (0 : Int) ≤ i := by omega
    have h5 : IntKind.i64.wrap ((i : Int) + 1) = (i : Int) + 1 := wrap_i64 (by omega) (by omega)
    have hx : IntKind.u32.wrap (l.getD i 0) = l.getD i 0 := by
      rw [List.getD_eq_getElem?_getD, List.getElem?_eq_getElem (by omega)]
      have := hr _ (List.getElem_mem (l := l) (n := i) (by omega))
      exact IntWalk.u32_in _ ⟨this.1, by have := this.2; simp at *; omega⟩
    have hl := loop_Sum1 (s := s) (H := H) (v7 := v) (v8 := .int .i64 l.length) (v9 := .int .i64 i) 8 0 (C ^^^ BitVec.ofInt 32 (l.getD i 0)) rfl
    have := ih (i + 1) (bits 8 (C ^^^ BitVec.ofInt 32 (l.getD i 0))) (by omega)
    rw [drop_get (by omega : i < l.length), crcS]
    simp only [List.getD_eq_getElem?_getD] at hl hx this ⊢
    simp at hl
    simp [-bin_xor, rdI_iad hv .i64 h0 h, rdI_ld hv h0 h, hx, xor_u32, h, h5, L_crc_Sum_1_fold, hl, p_crc_Sum_2, L_crc_Sum_3_fold]
    simpa using this

def gSum (args : List AV) (H : AHeap) : Option (AV × AHeap) := match args with
  | [v] => match rdI .u8 H v with
    | some l => if (∀ n ∈ l, 0 ≤ n ∧ n ≤ 255) ∧ l.length ≤ 9223372036854775807 then some (u32 (crc l), H) else none
    | none => none
  | _ => none
theorem ok_gSum (hs : SpecsOk s) (hn : s.lookup 26 = none) : SpecOk Try.prog 26 gSum := by
  refine specOk hs hn fun args H v H' h => ?_
  unfold gSum at h
  split at h
  · rename_i a
    split at h
    · rename_i l hl
      split at h
      · rename_i hc
        simp only [Option.some.injEq, Prod.mk.injEq] at h
        obtain ⟨rfl, rfl⟩ := h
        refine fgt_pure (plainV_int _ _) ?_
        rw [f_crc_Sum hn, p_crc_Sum]
        have : L_crc_Sum_3 s (.int .u32 4294967295) a (.int .i64 l.length) (.int .i64 0) H = some (.exit 0, X_crc_Sum_3_x0 (u32 (crcS l 0xFFFFFFFF#32)), H) := loop_Sum3 (s := s) hl hc.1 hc.2 l.length 0 0xFFFFFFFF#32 (by omega)
        simp [-bin_xor, rdI_len hl, L_crc_Sum_3_fold, this, p_crc_Sum_4, xor_u32]
        rfl
      · cases h
    · cases h
  · cases h

theorem loop_RSum1 {v0 v4 : AV} : ∀ (n i : Nat) (C : BitVec 32), i + n = 8 → L_pleachref10_Sum_1 s v0 (u32 C) v4 (.int .i64 i) H = some (.exit 2, X_pleachref10_Sum_1_x2 v0 (u32 (bits n C)) v4, H) := by
  intro n
  induction n with
  | zero =>
    intro i C hi
    rw [L_pleachref10_Sum_1_eq, p_pleachref10_Sum_1]
    have h : ¬ ((i : Int) < 8) := by omega
    simp [h, bits]
  | succ n ih =>
    intro i C hi
    rw [L_pleachref10_Sum_1_eq, p_pleachref10_Sum_1]
    have h : (i : Int) < 8 := by omega
    have h5 : IntKind.i64.wrap ((i : Int) + 1) = (i : Int) + 1 := wrap_i64 (by omega) (by omega)
    have hb : bits (n + 1) C = bits n (bit C) := rfl
    have := ih (i + 1) (bit C) (by omega)
    by_cases h1 : C.toNat % 2 = 1
    · have hx : bit C = (C >>> 1) ^^^ BitVec.ofInt 32 3988292384 := by unfold bit; rw [if_pos (by rw [lsb]; simpa using h1)]; rfl
      rw [hx] at this
      have h2 : ((C.toNat % 2 : Nat) : Int) = 1 := by omega
      simp [-bin_xor, -bin_rem, -bin_quo, xor_u32, rem_u32, quo_u32, h, h2, h5, p_pleachref10_Sum_0, L_pleachref10_Sum_1_fold, -Int.natCast_emod]
      rw [hb, hx]; simpa using this
    · have hx : bit C = C >>> 1 := by unfold bit; rw [if_neg (by rw [lsb]; simpa using h1)]
      rw [hx] at this
      have h2 : ¬ ((C.toNat % 2 : Nat) : Int) = 1 := by omega
      simp [-bin_xor, -bin_rem, -bin_quo, xor_u32, rem_u32, quo_u32, h, h2, h5, p_pleachref10_Sum_0, L_pleachref10_Sum_1_fold, -Int.natCast_emod]
      rw [hb, hx]; simpa using this

theorem loop_RSum3 {v : AV} {l : List Int} (hv : rdI .u8 H v = some l) (hr : ∀ n ∈ l, 0 ≤ n ∧ n ≤ 255) (hm : l.length ≤ 9223372036854775807) : ∀ (n i : Nat) (C : BitVec 32), i + n = l.length →
    L_pleachref10_Sum_3 s v (u32 C) (.int .i64 i) H = some (.exit 0, X_pleachref10_Sum_3_x0 (u32 (crcS (l.drop i) C)), H) := by
  intro n
  induction n with
  | zero =>
    intro i C hi
    rw [L_pleachref10_Sum_3_eq, p_pleachref10_Sum_3]
    have h : ¬ ((i : Int) < l.length) := by omega
    have hd : l.drop i = [] := by rw [List.drop_eq_nil_iff]; omega
    simp [h, hd, crcS, rdI_len hv]
  | succ n ih =>
    intro i C hi
    rw [L_pleachref10_Sum_3_eq, p_pleachref10_Sum_3]
    have h : (i : Int) < l.length := by omega
    have h0 : (0 : Int) ≤ i := by omega
    have h5 : IntKind.i64.wrap ((i : Int) + 1) = (i : Int) + 1 := wrap_i64 (by omega) (by omega)
    have hx : IntKind.u32.wrap (l.getD i 0) = l.getD i 0 := by
      rw [List.getD_eq_getElem?_getD, List.getElem?_eq_getElem (by omega)]
      have := hr _ (List.getElem_mem (l := l) (n := i) (by omega))
      exact IntWalk.u32_in _ ⟨this.1, by have := this.2; simp at *; omega⟩
    have hl := loop_RSum1 (s := s) (H := H) (v0 := v) (v4 := .int .i64 i) 8 0 (C ^^^ BitVec.ofInt 32 (l.getD i 0)) rfl
    have := ih (i + 1) (bits 8 (C ^^^ BitVec.ofInt 32 (l.getD i 0))) (by omega)
    rw [drop_get (by omega : i < l.length), crcS]
    simp only [List.getD_eq_getElem?_getD] at hl hx this ⊢
    simp at hl
    simp [-bin_xor, rdI_len hv, rdI_iad hv .i64 h0 h, rdI_ld hv h0 h, hx, xor_u32, h, h5, L_pleachref10_Sum_1_fold, hl, p_pleachref10_Sum_2, L_pleachref10_Sum_3_fold]
    simpa using this
theorem ok_gSum' (hs : SpecsOk s) (hn : s.lookup 27 = none) : SpecOk Try.prog 27 gSum := by
  refine specOk hs hn fun args H v H' h => ?_
  unfold gSum at h
  split at h
  · rename_i a
    split at h
    · rename_i l hl
      split at h
      · rename_i hc
        simp only [Option.some.injEq, Prod.mk.injEq] at h
        obtain ⟨rfl, rfl⟩ := h
        refine fgt_pure (plainV_int _ _) ?_
        rw [f_pleachref10_Sum hn, p_pleachref10_Sum]
        have : L_pleachref10_Sum_3 s a (.int .u32 4294967295) (.int .i64 0) H = some (.exit 0, X_pleachref10_Sum_3_x0 (u32 (crcS l 0xFFFFFFFF#32)), H) := loop_RSum3 (s := s) hl hc.1 hc.2 l.length 0 0xFFFFFFFF#32 (by omega)
        simp [L_pleachref10_Sum_3_fold, this, p_pleachref10_Sum_4, not_u32]
        rfl
      · cases h
    · cases h
  · cases h
end
end Go.Proofs.Ytncbinaaagmmaaa.Bc
