/- Datagrams on their way: the document's contracts. -/
import Derived.Test.YtldehmfhgmmkhaaPcNet
set_option linter.unusedVariables false
set_option linter.unusedSimpArgs false
namespace Go.Proofs.Ytldehmfhgmmkhaa.Pn
open Go.Ab
set_option maxRecDepth 100000
theorem Sl.src {z l v} (h : Sl z l v) : srcT [] z (.v v) = some l := by
  rcases h with rfl | ⟨rfl, rfl⟩
  · simp
  · rfl
theorem Sl.rcf {z l v} (h : Sl z l v) : rcv false (.f z) v = some (.fz z l) := by
  rcases h with rfl | ⟨rfl, rfl⟩ <;> simp
theorem Sl.hit {F : List Gm} {v : AV} (h : Sl 3 (F.map gr) v) {i : Nat} {g : Gm} (hi : F[i]? = some g) : v = .fz 3 (F.map gr) := by
  rcases h with rfl | ⟨rfl, e⟩
  · rfl
  · have : F = [] := by simpa using e
    subst this; simp at hi
section
variable {Q : AHeap}
theorem r_Send {F : List Gm} {v : AV} (h : Sl 3 (F.map gr) v) (hl : F.length ≤ 1000) (g : Gm) : callP (penv P1) 30 [v, gr g] Q = some (.ow 3 ((sendG F g).map gr), Q) := by
  show callP (penv P1) 30 [v, .agg [.int .i64 g.n, .str g.b, .bool g.t]] Q = _
  rw [f_pleachref13_Send rfl]
  have r : room 32 (F.length + 1) = true := room_le (by omega) (by omega)
  have r0 : room 32 F.length = true := room_le (by omega) (by omega)
  have hn := h.len
  have hs := h.src
  simp only [List.length_map] at hn
  by_cases c : 60 ≤ F.length
  · have c' : ((F.length : Int) < 60) = False := eq_false (by omega)
    simp [hn, hs, c, c', r, r0, sendG, p_pleachref13_Send_0]
  · have c' : ((F.length : Int) < 60) = True := eq_true (by omega)
    simp [hn, hs, c, c', r, r0, sendG, gr, p_pleachref13_Send_0]
theorem r_Gone_hit {F : List Gm} {v : AV} (h : Sl 3 (F.map gr) v) (hl : F.length ≤ 1000) {i : Nat} {g : Gm} (hi : F[i]? = some g) : callP (penv P1) 32 [v, .int .i64 i] Q = some (.tup [.fz 3 ((F.take i ++ F.drop (i + 1)).map gr), gr g, .bool true], Q) := by
  obtain rfl := h.hit hi
  rw [f_pleachref13_Gone rfl]
  have hlt : i < F.length := (List.getElem?_eq_some_iff.1 hi).1
  have c' : ((F.length : Int) ≤ i) = False := eq_false (by omega)
  have w3 := w64 (i := (i : Int) + 1) (by omega) (by omega)
  have s1 : slcQ 3 (.fz 3 (F.map gr)) none (some (.int .i64 i)) = some (.fz 3 ((F.take i).map gr)) := by
    rw [slcQ_fz (by omega)]
    simp only [bndo, bnd, List.length_map]
    simp [show i ≤ F.length by omega, List.map_take]
  have s2 : slcQ 3 (.fz 3 (F.map gr)) (some (.int .i64 ((i : Int) + 1))) none = some (.fz 3 ((F.drop (i + 1)).map gr)) := by
    rw [slcQ_fz (by omega)]
    simp only [bndo, bnd, List.length_map]
    rw [if_pos ⟨by omega, by omega⟩]
    simp only [show ((i : Int) + 1).toNat = i + 1 by omega]
    rw [List.take_of_length_le (by simp), List.map_drop]
  have he : elQ 3 (.fz 3 (F.map gr)) (.int .i64 (i : Int)) = some (gr g) := elQ_at hi
  simp only [gr] at he
  have ra : ∀ n, n ≤ 1000 → room 32 n = true := fun n hn => room_le (by omega) (by omega)
  have r1 : room 32 (F.take i).length = true := ra _ (by simp; omega)
  have r2 : room 32 ((F.take i).length + (F.drop (i + 1)).length) = true := ra _ (by simp; omega)
  generalize F.take i = A at *
  generalize F.drop (i + 1) = B at *
  have hneg : ((i : Int) < 0) = False := eq_false (by omega)
  simp [hneg, c', s1, s2, he, w3, cut, r1, r2, gr]
theorem r_Gone_miss {F : List Gm} {v : AV} (h : Sl 3 (F.map gr) v) {i : Int} (hi : ¬ (0 ≤ i ∧ i < F.length)) : callP (penv P1) 32 [v, .int .i64 i] Q = some (.tup [.fz 3 (F.map gr), .agg [.int .i64 0, .str [], .bool false], .bool false], Q) := by
  rw [f_pleachref13_Gone rfl]
  have hn := h.len
  have hr := h.rcf
  simp only [List.length_map] at hn
  by_cases c : i < 0
  · simp [c, hr]
  · have c' : ((F.length : Int) ≤ i) = True := eq_true (by omega)
    simp [c, c', hn, hr]
theorem r_Twice_miss {F : List Gm} {v : AV} (h : Sl 3 (F.map gr) v) {i : Int} (hi : ¬ (0 ≤ i ∧ i < F.length) ∨ 60 ≤ F.length) : callP (penv P1) 35 [v, .int .i64 i] Q = some (.tup [.fz 3 (F.map gr), .bool false], Q) := by
  rw [f_pleachref13_Twice rfl]
  have hn := h.len
  have hr := h.rcf
  simp only [List.length_map] at hn
  by_cases c : i < 0
  · simp [c, hr]
  · by_cases c' : (F.length : Int) ≤ i
    · simp [c, c', hn, hr]
    · have c'' : ((60 : Int) ≤ F.length) = True := eq_true (by omega)
      simp [c, c', c'', hn, hr]
theorem r_Twice_hit {F : List Gm} {v : AV} (h : Sl 3 (F.map gr) v) {i : Nat} {g : Gm} (hi : F[i]? = some g) (hl : F.length < 60) : callP (penv P1) 35 [v, .int .i64 i] Q = some (.tup [.fz 3 ((F ++ [g]).map gr), .bool true], Q) := by
  rw [f_pleachref13_Twice rfl]
  have hlt : i < F.length := (List.getElem?_eq_some_iff.1 hi).1
  have cs := fun (Q : AHeap) => r_Send (Q := Q) h (by omega) g
  have hn := h.len
  simp only [List.length_map] at hn
  have c' : ((60 : Int) ≤ F.length) = False := eq_false (by omega)
  have c2 : ((F.length : Int) ≤ i) = False := eq_false (by omega)
  have he := h.el hi
  simp only [sendG, show ¬ 60 ≤ F.length by omega, if_false, gr] at cs
  simp only [gr] at he
  generalize hF : (F ++ [g]).map gr = F' at *
  have cs : ∀ Q, callP (penv P1) 30 [v, .agg [.int .i64 g.n, .str g.b, .bool g.t]] Q = some (.ow 3 F', Q) := fun Q => by rw [cs Q, ← hF]
  have hneg : ((i : Int) < 0) = False := eq_false (by omega)
  simp [hneg, hn, c', c2, he, cs, cut]
theorem r_Turned_miss {F : List Gm} {v : AV} (h : Sl 3 (F.map gr) v) {i to : Int} (hi : ¬ (0 ≤ i ∧ i < F.length) ∨ (∃ g, F[i.toNat]? = some g ∧ (g.t = true ∨ g.b = [])) ∨ to < 0 ∨ to % 256 = 0) : callP (penv P1) 37 [v, .int .i64 i, .int .i64 to] Q = some (.tup [.fz 3 (F.map gr), .bool false], Q) := by
  rw [f_pleachref13_Turned rfl]
  have hn := h.len
  have hr := h.rcf
  simp only [List.length_map] at hn
  by_cases c : i < 0
  · simp [c, hr]
  by_cases c' : (F.length : Int) ≤ i
  · simp [c, c', hn, hr]
  obtain ⟨n, rfl⟩ := Int.eq_ofNat_of_zero_le (show 0 ≤ i by omega)
  obtain ⟨g, hg⟩ : ∃ g, F[n]? = some g := ⟨_, List.getElem?_eq_getElem (by omega)⟩
  have he := h.el hg
  simp only [gr] at he
  by_cases ht : g.t = true
  · simp [c, c', hn, hr, he, ht]
  by_cases hb : g.b = []
  · simp [c, c', hn, hr, he, ht, hb]
  have hb' : ((g.b.length : Int) = 0) = False := eq_false fun e => hb (List.eq_nil_of_length_eq_zero (by omega))
  by_cases h0 : to < 0
  · simp [c, c', hn, hr, he, ht, hb, hb', h0]
  have hm : to % 256 = 0 := by
    rcases hi with hi | ⟨g', h1, h2⟩ | hi | hi
    · exact absurd ⟨by omega, by omega⟩ hi
    · simp only [Int.toNat_natCast] at h1
      rw [hg] at h1; cases h1
      rcases h2 with h2 | h2
      · exact absurd h2 ht
      · exact absurd h2 hb
    · exact absurd hi h0
    · exact hi
  have m := tmod_e (a := to) (b := 256) (by omega)
  simp [c, c', hn, hr, he, ht, hb, hb', h0, m, hm]
theorem r_Turned_hit {F : List Gm} {v : AV} (h : Sl 3 (F.map gr) v) (hl : F.length ≤ 1000) {n : Nat} {to : Int} {g : Gm} (hg : F[n]? = some g) (ht : g.t = false) (hb : g.b ≠ []) (hlb : g.b.length ≤ 1000) (h0 : 0 ≤ to) (hm : to % 256 ≠ 0) (hto : to ≤ 9223372036854775807) :
    callP (penv P1) 37 [v, .int .i64 n, .int .i64 to] Q = some (.tup [.fz 3 ((F.set n ⟨g.n, turnB g.b to, true⟩).map gr), .bool true], Q) := by
  rw [f_pleachref13_Turned rfl]
  have hln := h.len
  have hsr := h.src
  have he := h.el hg
  simp only [gr] at he
  simp only [List.length_map] at hln
  have hn : n < F.length := (List.getElem?_eq_some_iff.1 hg).1
  have c2 : ((F.length : Int) ≤ n) = False := eq_false (by omega)
  have h0' : (to < 0) = False := eq_false (by omega)
  have m := tmod_e (a := to) (b := 256) (by omega)
  have d := tdiv_e (a := to) (b := 256) (by omega)
  have wd := w64 (i := to / 256) (by omega) (by omega)
  have lb : 0 < g.b.length := List.length_pos_iff.2 hb
  obtain ⟨p, hp⟩ : ∃ p : Nat, to / 256 % (g.b.length : Int) = p := ⟨(to / 256 % g.b.length).toNat, by rw [Int.toNat_of_nonneg (Int.emod_nonneg _ (by omega))]⟩
  have hpl : p < g.b.length := by have := Int.emod_lt_of_pos (to / 256) (b := (g.b.length : Int)) (by omega); omega
  have m2 := tmod_e (a := to / 256) (b := (g.b.length : Int)) (by omega)
  rw [hp] at m2
  have sc : s2bC (.str g.b) = some (g.b.map fun b => AV.int .u8 b.toNat) := by simp only [s2bC]; rw [if_pos (by simp [maxBytes]; omega)]
  have wm := wrap_u8 (i := to % 256) (by omega) (by omega)
  have tb : turnB g.b to = g.b.set p (UInt8.ofNat (xorU g.b[p] (to % 256)).toNat) := by
    unfold turnB
    simp only [hp, Int.toNat_natCast]
    rw [List.getD_eq_getElem?_getD, List.getElem?_eq_getElem hpl]; rfl
  have ex : binA .xor (.int .u8 g.b[p].toNat) (.int .u8 (to % 256)) = some (.int .u8 (xorU g.b[p] (to % 256))) := bin_xor ..
  generalize hxx : xorU g.b[p] (to % 256) = x at *
  have ms := mapO_set (x := x) hpl
  have ss := splice_one (x := .int .u8 x) (l := g.b.map fun b => AV.int .u8 b.toNat) (p := p) (by simpa using hpl)
  have hz : ((g.b.length : Int) = 0) = False := eq_false (by omega)
  have bl : Nat.ble (p + 1) g.b.length = true := Nat.ble_eq_true_of_le hpl
  rw [← tb] at ms
  generalize turnB g.b to = tbv at *
  have tk : ((g.b.map fun b => AV.int .u8 b.toNat).set p (.int .u8 x)).take g.b.length = (g.b.map fun b => AV.int .u8 b.toNat).set p (.int .u8 x) := List.take_of_length_le (by simp)
  have hgg : F[n] = g := (List.getElem?_eq_some_iff.1 hg).2
  have r0 : room 32 F.length = true := room_le (by omega) (by omega)
  have hneg : ((n : Int) < 0) = False := eq_false (by omega)
  simp [hneg, hln, hsr, he, r0, hn, c2, ht, hb, h0', m, hm, d, wd, sc, m2, hpl, hz, wm, ex, -bin_xor, bl, ss, ms, tk, b2sQ, hgg, setE, gr, splice_set3, splice_set2, -splice_eq]
theorem loop_same {F : List Gm} {v w : AV} (hv : Sl 3 (F.map gr) v) (hw : Sl 3 (F.map gr) w) (hl : F.length ≤ 1000) : ∀ (m i : Nat), i + m = F.length → L_pleachref13_SameGrams_0 P1 v w (.int .i64 i) Q = X_pleachref13_SameGrams_0_x0 Q := by
  intro m
  have hn := hv.len
  simp only [List.length_map] at hn
  induction m with
  | zero =>
    intro i hi
    obtain rfl : i = F.length := by omega
    rw [L_pleachref13_SameGrams_0_eq, p_pleachref13_SameGrams_0]
    simp [hn]
  | succ m ih =>
    intro i hi
    have h : ((i : Int) < F.length) = True := eq_true (by omega)
    obtain ⟨g, hg⟩ : ∃ g, F[i]? = some g := ⟨_, List.getElem?_eq_getElem (by omega)⟩
    have e1 := hv.el hg
    have e2 := hw.el hg
    have w1 := w64 (i := (i : Int) + 1) (by omega) (by omega)
    have ih := ih (i + 1) (by omega)
    simp only [gr] at e1 e2
    rw [L_pleachref13_SameGrams_0_eq, p_pleachref13_SameGrams_0]
    simp [hn, h, e1, e2, w1, cut, L_pleachref13_SameGrams_0_fold]
    simpa using ih
theorem r_Same {F : List Gm} {v w : AV} (hv : Sl 3 (F.map gr) v) (hw : Sl 3 (F.map gr) w) (hl : F.length ≤ 1000) : callP (penv P1) 38 [v, w] Q = some (.bool true, Q) := by
  rw [f_pleachref13_SameGrams rfl]
  have n1 := hv.len
  have n2 := hw.len
  have l := loop_same (Q := Q) hv hw hl F.length 0 (by omega)
  simp only [show ((0 : Nat) : Int) = 0 from rfl] at l
  simp [n1, n2, L_pleachref13_SameGrams_0_fold, l, p_pleachref13_SameGrams_1]
end
end Go.Proofs.Ytldehmfhgmmkhaa.Pn
