/- The law CrcJoin: what it comes to at any arguments. -/
import Derived.Test.YtncbinaaagmmaaaWdCrc
set_option linter.unusedVariables false
set_option linter.unusedSimpArgs false
namespace Go.Proofs.Ytncbinaaagmmaaa.Bc
open Go.Ab
set_option maxRecDepth 100000

theorem all_one {k : IntKind} (zs : List Int) : (zs.map (AV.int k)).all AV.one = true := by
  induction zs with
  | nil => rfl
  | cons z zs ih => simp

/-- Three bytes, turned in one another. -/
def x3 (a b c : Int) : Int := x8 (x8 a b) c
theorem crcS_three : ∀ (a b c : List Int) (x y z : BitVec 32), b.length = a.length → c.length = a.length → (∀ n ∈ a, 0 ≤ n ∧ n ≤ 255) → (∀ n ∈ b, 0 ≤ n ∧ n ≤ 255) → (∀ n ∈ c, 0 ≤ n ∧ n ≤ 255) →
    crcS ((List.range a.length).map fun i => x3 (a.getD i 0) (b.getD i 0) (c.getD i 0)) (x ^^^ y ^^^ z) = crcS a x ^^^ crcS b y ^^^ crcS c z
  | [], [], [], _, _, _, _, _, _, _, _ => rfl
  | p :: a, q :: b, r :: c, x, y, z, hb, hc, h1, h2, h3 => by
    have hp := h1 p (by simp)
    have hq := h2 q (by simp)
    have hr := h3 r (by simp)
    have ih := crcS_three a b c (bits 8 (x ^^^ BitVec.ofInt 32 p)) (bits 8 (y ^^^ BitVec.ofInt 32 q)) (bits 8 (z ^^^ BitVec.ofInt 32 r)) (by simpa using hb) (by simpa using hc) (fun n hn => h1 n (by simp [hn])) (fun n hn => h2 n (by simp [hn])) (fun n hn => h3 n (by simp [hn]))
    rw [List.length_cons, List.range_succ_eq_map]
    simp only [List.map_cons, List.map_map, crcS]
    have e : bits 8 (x ^^^ y ^^^ z ^^^ BitVec.ofInt 32 (x3 ((p :: a).getD 0 0) ((q :: b).getD 0 0) ((r :: c).getD 0 0))) = bits 8 (x ^^^ BitVec.ofInt 32 p) ^^^ bits 8 (y ^^^ BitVec.ofInt 32 q) ^^^ bits 8 (z ^^^ BitVec.ofInt 32 r) := by
      rw [← bits_xor, ← bits_xor]
      congr 1
      show x ^^^ y ^^^ z ^^^ BitVec.ofInt 32 (x8 (x8 p q) r) = _
      rw [x8_32 (x8_range p q) hr, x8_32 hp hq]
      ac_rfl
    rw [e, ← ih]
    rfl
theorem crc_three (a b c : List Int) (hb : b.length = a.length) (hc : c.length = a.length) (h1 : ∀ n ∈ a, 0 ≤ n ∧ n ≤ 255) (h2 : ∀ n ∈ b, 0 ≤ n ∧ n ≤ 255) (h3 : ∀ n ∈ c, 0 ≤ n ∧ n ≤ 255) :
    crc ((List.range a.length).map fun i => x3 (a.getD i 0) (b.getD i 0) (c.getD i 0)) = crc a ^^^ crc b ^^^ crc c := by
  have := crcS_three a b c 0xFFFFFFFF#32 0xFFFFFFFF#32 0xFFFFFFFF#32 hb hc h1 h2 h3
  rw [show 0xFFFFFFFF#32 ^^^ 0xFFFFFFFF#32 ^^^ 0xFFFFFFFF#32 = 0xFFFFFFFF#32 by rfl] at this
  unfold crc
  rw [this]
  generalize crcS a 0xFFFFFFFF#32 = A
  generalize crcS b 0xFFFFFFFF#32 = B
  generalize crcS c 0xFFFFFFFF#32 = C
  have : 0xFFFFFFFF#32 ^^^ 0xFFFFFFFF#32 = 0#32 := by rfl
  rw [show A ^^^ 0xFFFFFFFF#32 ^^^ (B ^^^ 0xFFFFFFFF#32) ^^^ (C ^^^ 0xFFFFFFFF#32) = A ^^^ B ^^^ C ^^^ 0xFFFFFFFF#32 ^^^ (0xFFFFFFFF#32 ^^^ 0xFFFFFFFF#32) by ac_rfl, this, BitVec.xor_zero]

theorem iter_Join {H : AHeap} {r3 r4 r5 r7 : Nat} {a b c m : List Int} (ha : a.length = 20) (hb : b.length = 20) (hc : c.length = 20) (hm : m.length = 20)
    (h3 : H.get r3 = some (.cells .exact 20 (a.map (AV.int .u8)))) (h4 : H.get r4 = some (.cells .exact 20 (b.map (AV.int .u8)))) (h5 : H.get r5 = some (.cells .exact 20 (c.map (AV.int .u8)))) (h7 : H.get r7 = some (.cells .exact 20 (m.map (AV.int .u8)))) {i : Nat} (hi : i < 20) :
    L_pleachlaw10_CrcJoin_0 S1 (.ptr r3 0) (.ptr r4 0) (.ptr r5 0) (.ptr r7 0) (.int .i64 i) H =
      L_pleachlaw10_CrcJoin_0 S1 (.ptr r3 0) (.ptr r4 0) (.ptr r5 0) (.ptr r7 0) (.int .i64 (i + 1 : Nat)) (H.put r7 (some (.cells .exact 20 ((m.set i (x3 (a.getD i 0) (b.getD i 0) (c.getD i 0))).map (AV.int .u8))))) := by
  rw [L_pleachlaw10_CrcJoin_0_eq, p_pleachlaw10_CrcJoin_0]
  have h : (i : Int) < 20 := by omega
  have h0 : (0 : Int) ≤ i := by omega
  have e5 : IntKind.i64.wrap ((i : Int) + 1) = (i : Int) + 1 := wrap_i64 (by omega) (by omega)
  have ea : (a.map (AV.int .u8))[i]? = some (.int .u8 (a.getD i 0)) := by
    rw [List.getElem?_map, List.getD_eq_getElem?_getD, List.getElem?_eq_getElem (by omega)]; rfl
  have eb : (b.map (AV.int .u8))[i]? = some (.int .u8 (b.getD i 0)) := by
    rw [List.getElem?_map, List.getD_eq_getElem?_getD, List.getElem?_eq_getElem (by omega)]; rfl
  have ec : (c.map (AV.int .u8))[i]? = some (.int .u8 (c.getD i 0)) := by
    rw [List.getElem?_map, List.getD_eq_getElem?_getD, List.getElem?_eq_getElem (by omega)]; rfl
  have e10 := st_ints (x3 (a.getD i 0) (b.getD i 0) (c.getD i 0)) h7 (by decide) (show i < m.length by omega)
  have e11 : ∀ x y : Int, binA .xor (.int .u8 x) (.int .u8 y) = some (.int .u8 (x8 x y)) := fun x y => bin_xor _ _ _
  have e12 : x8 (x8 (a.getD i 0) (b.getD i 0)) (c.getD i 0) = x3 (a.getD i 0) (b.getD i 0) (c.getD i 0) := rfl
  simp [-stA_ptr, -bin_xor, -List.getD_eq_getElem?_getD, -List.getElem?_map, -List.map_set, h, h0, e5, h3, h4, h5, ea, eb, ec, e10, e11, e12, L_pleachlaw10_CrcJoin_0_fold]

theorem loop_Join {r3 r4 r5 r7 : Nat} {a b c : List Int} (ha : a.length = 20) (hb : b.length = 20) (hc : c.length = 20) (n3 : r3 ≠ r7) (n4 : r4 ≠ r7) (n5 : r5 ≠ r7) :
    ∀ (n i : Nat) (m : List Int) (H : AHeap), i + n = 20 → m.length = 20 → (∀ j, j < i → m.getD j 0 = x3 (a.getD j 0) (b.getD j 0) (c.getD j 0)) →
      H.get r3 = some (.cells .exact 20 (a.map (AV.int .u8))) → H.get r4 = some (.cells .exact 20 (b.map (AV.int .u8))) → H.get r5 = some (.cells .exact 20 (c.map (AV.int .u8))) → H.get r7 = some (.cells .exact 20 (m.map (AV.int .u8))) →
      EndsE (L_pleachlaw10_CrcJoin_0 S1 (.ptr r3 0) (.ptr r4 0) (.ptr r5 0) (.ptr r7 0) (.int .i64 i) H) fun ex τ H' => ex = .exit 0 ∧ τ = X_pleachlaw10_CrcJoin_0_x0 (.ptr r3 0) (.ptr r4 0) (.ptr r5 0) (.ptr r7 0) ∧ H'.size = H.size ∧
        H'.get r3 = some (.cells .exact 20 (a.map (AV.int .u8))) ∧ H'.get r4 = some (.cells .exact 20 (b.map (AV.int .u8))) ∧ H'.get r5 = some (.cells .exact 20 (c.map (AV.int .u8))) ∧
        H'.get r7 = some (.cells .exact 20 (((List.range 20).map fun i => x3 (a.getD i 0) (b.getD i 0) (c.getD i 0)).map (AV.int .u8))) := by
  intro n
  induction n with
  | zero =>
    intro i m H hi hm hx h3 h4 h5 h7
    obtain rfl : i = 20 := by omega
    have e : m = (List.range 20).map fun i => x3 (a.getD i 0) (b.getD i 0) (c.getD i 0) := by
      apply List.ext_getElem
      · simp [hm]
      · intro j h1 h2
        have := hx j (by omega)
        rw [List.getD_eq_getElem?_getD, List.getElem?_eq_getElem h1] at this
        simpa using this
    rw [L_pleachlaw10_CrcJoin_0_eq, p_pleachlaw10_CrcJoin_0]
    rw [e] at h7
    simp [h3, h4, h5, h7]
  | succ n ih =>
    intro i m H hi hm hx h3 h4 h5 h7
    rw [iter_Join ha hb hc hm h3 h4 h5 h7 (by omega)]
    refine (ih (i + 1) (m.set i (x3 (a.getD i 0) (b.getD i 0) (c.getD i 0))) _ (by omega) (by simpa using hm) ?_ (by simpa [n3] using h3) (by simpa [n4] using h4) (by simpa [n5] using h5) (by simp)).mono fun ex τ H' h => ?_
    · intro j hj
      rw [List.getD_eq_getElem?_getD, List.getElem?_set]
      by_cases e : i = j
      · subst e; simp [hm, show i < 20 by omega]
      · rw [if_neg e, ← List.getD_eq_getElem?_getD]; exact hx j (by omega)
    · simpa using h

theorem law_CrcJoin {H : AHeap} (a : List Int) (ha : a.length = 20) (hra : ∀ n ∈ a, IntKind.u8.min ≤ n ∧ n ≤ IntKind.u8.max) (b : List Int) (hb : b.length = 20) (hrb : ∀ n ∈ b, IntKind.u8.min ≤ n ∧ n ≤ IntKind.u8.max)
    (c : List Int) (hc : c.length = 20) (hrc : ∀ n ∈ c, IntKind.u8.min ≤ n ∧ n ≤ IntKind.u8.max) : EndsV (callV (env S1) 9 [.agg (a.map (AV.int .u8)), .agg (b.map (AV.int .u8)), .agg (c.map (AV.int .u8))] H) fun v _ => v = .bool true := by
  rw [f_pleachlaw10_CrcJoin rfl, p_pleachlaw10_CrcJoin]
  simp [all_one, S1_pleachlaw10_begun, gTrue, L_pleachlaw10_CrcJoin_0_fold, ha, hb, hc]
  refine EndsV.bnE ((loop_Join (r3 := H.size) (r4 := H.size + 1) (r5 := H.size + 1 + 1) (r7 := H.size + 1 + 1 + 1) ha hb hc (by omega) (by omega) (by omega) 20 0 (List.replicate 20 0) _ (by omega) (by simp) (by intro j hj; omega) ?_ ?_ ?_ ?_).mono ?_)
  · simp
  · simp
  · simp
  · simp [List.replicate]
  rintro ex τ H' ⟨rfl, rfl, hs, h3, h4, h5, h7⟩
  simp only [AHeap.size_push] at hs
  generalize hd : (List.range 20).map (fun i => x3 (a.getD i 0) (b.getD i 0) (c.getD i 0)) = d at h7
  have hdl : d.length = 20 := by rw [← hd]; simp
  have hra' : ∀ n ∈ a, 0 ≤ n ∧ n ≤ 255 := fun n hn => u8r (hra n hn)
  have hrb' : ∀ n ∈ b, 0 ≤ n ∧ n ≤ 255 := fun n hn => u8r (hrb n hn)
  have hrc' : ∀ n ∈ c, 0 ≤ n ∧ n ≤ 255 := fun n hn => u8r (hrc n hn)
  have hrd' : ∀ n ∈ d, 0 ≤ n ∧ n ≤ 255 := fun n hn => by
    rw [← hd] at hn
    obtain ⟨i, _, rfl⟩ := List.mem_map.1 hn
    exact x8_range _ _
  have rd : ∀ (r : Nat) (l : List Int), r < H'.size → l.length = 20 → (∀ n ∈ l, 0 ≤ n ∧ n ≤ 255) → H'.get r = some (.cells .exact 20 (l.map (AV.int .u8))) → gSum [.sl r 0 20 (.ex 20)] H' = some (u32 (crc l), H') := by
    intro r l hr hl hn hg
    have := rdI_mk (k := .u8) (l := l) (more := []) (c := .ex 20) hr (by rw [List.append_nil]; exact hg)
    rw [hl] at this
    simp only [gSum, this]
    rw [if_pos ⟨hn, by omega⟩]
  have ga := rd _ a (by omega) ha hra' h3
  have gb := rd _ b (by omega) hb hrb' h4
  have gc := rd _ c (by omega) hc hrc' h5
  have gd := rd _ d (by omega) hdl hrd' h7
  have e : crc d = crc a ^^^ crc b ^^^ crc c := by
    rw [← hd, ← crc_three a b c (by omega) (by omega) hra' hrb' hrc', ha]
  have x : ∀ A B : BitVec 32, binA .xor (u32 A) (u32 B) = some (u32 (A ^^^ B)) := fun A B => by rw [xor_u32, ofN]
  simp [-bin_xor, p_pleachlaw10_CrcJoin_1, S1_crc_Sum, ga, gb, gc, gd, x, e]
end Go.Proofs.Ytncbinaaagmmaaa.Bc
