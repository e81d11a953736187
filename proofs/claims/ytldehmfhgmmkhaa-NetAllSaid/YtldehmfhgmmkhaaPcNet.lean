/- Datagrams on their way: contracts. -/
import Derived.Test.YtldehmfhgmmkhaaPne
import Derived.Test.YtldehmfhgmmkhaaPvF
set_option linter.unusedVariables false
set_option linter.unusedSimpArgs false
namespace Go.Proofs.Ytldehmfhgmmkhaa.Pn
open Go.Ab
set_option maxRecDepth 100000
structure Gm where
  n : Int
  b : List UInt8
  t : Bool
  deriving DecidableEq
def gr (g : Gm) : AV := .agg [.int .i64 g.n, .str g.b, .bool g.t]
def Sl (z : Nat) (l : List AV) (v : AV) : Prop := v = .fz z l ∨ (v = .nils ∧ l = [])
theorem Sl.len {z l v} (h : Sl z l v) : lenQ v = some (.int .i64 l.length) := by rcases h with rfl | ⟨rfl, rfl⟩ <;> rfl
theorem Sl.clone {z l v} (h : Sl z l v) {y : Nat} (hr : room y l.length = true) : gClone z y [v] = some (.ow z l) := by
  rcases h with rfl | ⟨rfl, rfl⟩
  · simp [gClone, hr]
  · simp [gClone]
theorem Sl.one {z l v} (h : Sl z l v) : AV.one v = true := by rcases h with rfl | ⟨rfl, rfl⟩ <;> rfl
theorem Sl.el {z : Nat} {f : Gm → AV} {F : List Gm} {v : AV} (h : Sl z (F.map f) v) {i : Nat} {g : Gm} (hi : F[i]? = some g) : elQ z v (.int .i64 (i : Int)) = some (f g) := by
  rcases h with rfl | ⟨rfl, e⟩
  · exact elQ_at hi
  · have : F = [] := by simpa using e
    subst this; simp at hi
theorem sl_fz (z : Nat) (l : List AV) : Sl z l (.fz z l) := Or.inl rfl
theorem sl_nil (z : Nat) : Sl z [] .nils := Or.inr ⟨rfl, rfl⟩
def P1 : PSpecs := [(28, gYes), (58, gClone 3 32), (60 + tkey, gDelP 3 32)]
theorem w64 {i : Int} (h : -9000000000000000000 ≤ i) (h2 : i ≤ 9000000000000000000) : IntKind.i64.wrap i = i := wrap_i64 (by omega) (by omega)
theorem wrap_u8 {i : Int} (h : 0 ≤ i) (h2 : i ≤ 255) : IntKind.u8.wrap i = i := by
  have : IntKind.u8.wrap i = i % 256 := rfl
  rw [this]; omega
theorem tmod_e {a b : Int} (h : 0 ≤ a) : a.tmod b = a % b := Int.tmod_eq_emod_of_nonneg h
theorem tdiv_e {a b : Int} (h : 0 ≤ a) : a.tdiv b = a / b := Int.tdiv_eq_ediv_of_nonneg h
theorem room_le {y n : Nat} (hy : y ≤ 100) (h : n ≤ 100000000) : room y n = true := room_lt (by
  have : n * (y + 1) ≤ 100000000 * 101 := Nat.mul_le_mul h (by omega)
  simp [maxBytes]; omega)
@[simp] theorem bin_eql_s (a b : List UInt8) : binA .eql (.str a) (.str b) = some (.bool (decide (a = b))) := by simp only [binA, binS, beqD]
theorem elN_at {F : List Gm} {i : Nat} {g : Gm} (h : F[i]? = some g) : elN (F.map gr) i 0 3 = some [.int .i64 g.n, .str g.b, .bool g.t] := by simp [elN, h, gr]
theorem elC_at {F : List Gm} {i : Nat} {g : Gm} (h : F[i]? = some g) (o : Nat) : elC (F.map gr) i o = [.int .i64 g.n, .str g.b, .bool g.t][o]? := by simp [elC, h, gr]
@[simp] theorem gdN_bool (b w : Bool) (o : Option Nat) : gdN (.bool b) w o = if b = w then o else some 0 := (Eq.refl _).trans (Eq.refl _)
@[simp] theorem gdN_sk (w : Bool) (o : Option Nat) : gdN .sk w o = some 0 := (Eq.refl _).trans (Eq.refl _)
section
variable {Q : AHeap}
theorem c_clone {l : List AV} {v : AV} (h : Sl 3 l v) (hl : l.length ≤ 1000) : callP (penv P1) 58 [v] Q = some (.ow 3 l, Q) := by
  rw [callP_spec (g := gClone 3 32) rfl, h.clone (room_le (by omega) (by omega))]; rfl
def sendG (F : List Gm) (g : Gm) : List Gm := if 60 ≤ F.length then F else F ++ [g]
theorem c_Send {F : List Gm} {v : AV} (h : Sl 3 (F.map gr) v) (hl : F.length ≤ 1000) (g : Gm) : callP (penv P1) 29 [v, gr g] Q = some (.ow 3 ((sendG F g).map gr), Q) := by
  show callP (penv P1) 29 [v, .agg [.int .i64 g.n, .str g.b, .bool g.t]] Q = _
  rw [f_net_Send rfl]
  have r : room 32 (F.length + 1) = true := room_le (by omega) (by omega)
  have cl := fun (Q : AHeap) => c_clone (Q := Q) h (by simpa using hl)
  by_cases c : 60 ≤ F.length
  · have c' : ((60 : Int) ≤ F.length) = True := eq_true (by omega)
    simp [cl, c, c', sendG]
  · have c' : ((60 : Int) ≤ F.length) = False := eq_false (by omega)
    simp [cl, c, c', r, sendG, gr]
theorem c_there {l : List AV} {v : AV} (h : Sl 3 l v) (i : Int) : callP (penv P1) 59 [v, .int .i64 i] Q = some (.bool (decide (0 ≤ i ∧ i < l.length)), Q) := by
  rw [f_net_there rfl]
  have hl := h.len
  by_cases c : (0 : Int) ≤ i
  · by_cases d : i < l.length
    · simp [hl, c, d]
    · simp [hl, c, d]
  · simp [hl, c]
theorem c_Comes_hit {F : List Gm} {v : AV} (h : Sl 3 (F.map gr) v) (hl : F.length ≤ 1000) {i : Nat} {g : Gm} (hi : F[i]? = some g) : callP (penv P1) 31 [v, .int .i64 i] Q = some (.tup [.fz 3 ((F.take i ++ F.drop (i + 1)).map gr), gr g, .bool true], Q) := by
  rw [f_net_Comes rfl]
  have hlt : i < F.length := (List.getElem?_eq_some_iff.1 hi).1
  have cl := fun (Q : AHeap) => c_clone (Q := Q) h (by simpa using hl)
  have ct := fun (Q : AHeap) => c_there (Q := Q) (sl_fz 3 (F.map gr)) (i : Int)
  have e1 : decide ((0 : Int) ≤ i ∧ (i : Int) < (F.map gr).length) = true := by simp; omega
  rw [e1] at ct
  have r : room 32 F.length = true := room_le (by omega) (by omega)
  have w3 := w64 (i := (i : Int) + 1) (by omega) (by omega)
  have d2 : gDelP 3 32 [.ow 3 (F.map gr), .int .i64 i, .int .i64 ((i : Int) + 1)] = some (.ow 3 ((F.take i ++ F.drop (i + 1)).map gr)) := by
    simp only [gDelP, List.length_map, r]
    rw [if_pos ⟨trivial, by omega, by omega, by omega, trivial⟩]
    simp only [List.map_append, List.map_take, List.map_drop, Int.toNat_natCast]
    rw [show ((i : Int) + 1).toNat = i + 1 by omega]
  have d : ∀ Q, callP (penv P1) 1000060 [.ow 3 (F.map gr), .int .i64 i, .int .i64 ((i : Int) + 1)] Q = some (.ow 3 ((F.take i ++ F.drop (i + 1)).map gr), Q) := fun Q => by
    rw [callP_spec (g := gDelP 3 32) rfl, d2]; rfl
  generalize F.take i ++ F.drop (i + 1) = F' at *
  simp [cl, ct, hlt, elN_at hi, w3, d, gr]
theorem c_Comes_miss {F : List Gm} {v : AV} (h : Sl 3 (F.map gr) v) (hl : F.length ≤ 1000) {i : Int} (hi : ¬ (0 ≤ i ∧ i < F.length)) : callP (penv P1) 31 [v, .int .i64 i] Q = some (.tup [.fz 3 (F.map gr), .agg [.int .i64 0, .str [], .bool false], .bool false], Q) := by
  rw [f_net_Comes rfl]
  have cl := fun (Q : AHeap) => c_clone (Q := Q) h (by simpa using hl)
  have ct := fun (Q : AHeap) => c_there (Q := Q) (sl_fz 3 (F.map gr)) i
  have e1 : decide (0 ≤ i ∧ i < (F.map gr).length) = false := by simpa using hi
  rw [e1] at ct
  simp [cl, ct]
theorem c_Lost_hit {F : List Gm} {v : AV} (h : Sl 3 (F.map gr) v) (hl : F.length ≤ 1000) {i : Nat} {g : Gm} (hi : F[i]? = some g) : callP (penv P1) 33 [v, .int .i64 i] Q = some (.tup [.fz 3 ((F.take i ++ F.drop (i + 1)).map gr), .bool true], Q) := by
  rw [f_net_Lost rfl]
  have cc := fun (Q : AHeap) => c_Comes_hit (Q := Q) h hl hi
  generalize F.take i ++ F.drop (i + 1) = F' at *
  simp [cc, gr]
theorem c_Lost_miss {F : List Gm} {v : AV} (h : Sl 3 (F.map gr) v) (hl : F.length ≤ 1000) {i : Int} (hi : ¬ (0 ≤ i ∧ i < F.length)) : callP (penv P1) 33 [v, .int .i64 i] Q = some (.tup [.fz 3 (F.map gr), .bool false], Q) := by
  rw [f_net_Lost rfl]
  have cc := fun (Q : AHeap) => c_Comes_miss (Q := Q) h hl hi
  simp [cc]
theorem c_Twice_miss {F : List Gm} {v : AV} (h : Sl 3 (F.map gr) v) (hl : F.length ≤ 1000) {i : Int} (hi : ¬ (0 ≤ i ∧ i < F.length) ∨ 60 ≤ F.length) : callP (penv P1) 34 [v, .int .i64 i] Q = some (.tup [.fz 3 (F.map gr), .bool false], Q) := by
  rw [f_net_Twice rfl]
  have cl := fun (Q : AHeap) => c_clone (Q := Q) h (by simpa using hl)
  have ct := fun (Q : AHeap) => c_there (Q := Q) h i
  have hn := h.len
  simp only [List.length_map] at ct hn
  by_cases c : 0 ≤ i ∧ i < F.length
  · have c' : ((60 : Int) ≤ F.length) = True := eq_true (by omega)
    rw [decide_eq_true c] at ct
    simp [cl, ct, hn, c']
  · rw [decide_eq_false c] at ct
    simp [cl, ct, hn]
theorem c_Twice_hit {F : List Gm} {v : AV} (h : Sl 3 (F.map gr) v) {i : Nat} {g : Gm} (hi : F[i]? = some g) (hl : F.length < 60) : callP (penv P1) 34 [v, .int .i64 i] Q = some (.tup [.fz 3 ((F ++ [g]).map gr), .bool true], Q) := by
  rw [f_net_Twice rfl]
  have hlt : i < F.length := (List.getElem?_eq_some_iff.1 hi).1
  have ct := fun (Q : AHeap) => c_there (Q := Q) h (i : Int)
  have cs := fun (Q : AHeap) => c_Send (Q := Q) h (by omega) g
  have hn := h.len
  simp only [List.length_map] at ct hn
  rw [decide_eq_true (show (0 : Int) ≤ i ∧ (i : Int) < F.length by omega)] at ct
  have c' : ((60 : Int) ≤ F.length) = False := eq_false (by omega)
  have he := h.el hi
  simp only [sendG, show ¬ 60 ≤ F.length by omega, if_false, gr] at cs
  simp only [gr] at he
  generalize hF : (F ++ [g]).map gr = F' at *
  have cs : ∀ Q, callP (penv P1) 29 [v, .agg [.int .i64 g.n, .str g.b, .bool g.t]] Q = some (.ow 3 F', Q) := fun Q => by rw [cs Q, ← hF]
  simp [ct, hn, c', he, cs, cut]
end
def xorU (b : UInt8) (k : Int) : Int := IntKind.u8.wrap (BitVec.ofInt IntKind.u8.bits b.toNat ^^^ BitVec.ofInt IntKind.u8.bits k).toNat
theorem xorU_r (b : UInt8) (k : Int) : 0 ≤ xorU b k ∧ xorU b k ≤ 255 := by
  have : ∀ x, IntKind.u8.wrap x = x % 256 := fun x => rfl
  unfold xorU
  rw [this]; omega
def turnB (b : List UInt8) (to : Int) : List UInt8 := let p := (to / 256 % b.length).toNat; b.set p (UInt8.ofNat (xorU (b.getD p 0) (to % 256)).toNat)
theorem mapO_bytes : ∀ b : List UInt8, mapO byteA (b.map fun b => AV.int .u8 b.toNat) = some b
  | [] => rfl
  | b :: l => by simp [mapO, byteA, mapO_bytes l]
theorem mapO_set {b : List UInt8} {p : Nat} {x : Int} (h : p < b.length) : mapO byteA ((b.map fun b => AV.int .u8 b.toNat).set p (.int .u8 x)) = some (b.set p (UInt8.ofNat x.toNat)) := by
  induction b generalizing p with
  | nil => simp at h
  | cons c b ih =>
    cases p with
    | zero => simp [mapO, byteA, mapO_bytes b]
    | succ p => simp at h; simp [mapO, byteA, ih h]
theorem splice_set2 (a b c d : AV) : splice [a, b, c] 1 [d] = [a, d, c] := rfl
theorem splice_set3 (a b c d : AV) : splice [a, b, c] 2 [d] = [a, b, d] := rfl
theorem splice_one {l : List AV} {p : Nat} {x : AV} (h : p < l.length) : splice l p [x] = l.set p x := by
  unfold splice
  rw [List.set_eq_take_append_cons_drop, if_pos h]
  simp
section
variable {Q : AHeap}
theorem c_Turned_miss {F : List Gm} {v : AV} (h : Sl 3 (F.map gr) v) (hl : F.length ≤ 1000) {i to : Int} (hi : ¬ (0 ≤ i ∧ i < F.length) ∨ (∃ g, F[i.toNat]? = some g ∧ (g.t = true ∨ g.b = [])) ∨ to < 0 ∨ to % 256 = 0) : callP (penv P1) 36 [v, .int .i64 i, .int .i64 to] Q = some (.tup [.fz 3 (F.map gr), .bool false], Q) := by
  rw [f_net_Turned rfl]
  have cl := fun (Q : AHeap) => c_clone (Q := Q) h (by simpa using hl)
  have ct := fun (Q : AHeap) => c_there (Q := Q) (sl_fz 3 (F.map gr)) i
  simp only [List.length_map] at ct
  by_cases c : 0 ≤ i ∧ i < F.length
  · obtain ⟨n, rfl⟩ := Int.eq_ofNat_of_zero_le c.1
    obtain ⟨g, hg⟩ : ∃ g, F[n]? = some g := ⟨_, List.getElem?_eq_getElem (by omega)⟩
    have hn : n < F.length := by omega
    rw [decide_eq_true c] at ct
    have e2 := elC_at hg 2
    have e1 := elC_at hg 1
    by_cases ht : g.t = true
    · simp [cl, ct, flatR, flatV, hn, e2, e1, ht]
    by_cases hb : g.b = []
    · simp [cl, ct, flatR, flatV, hn, e2, e1, ht, hb]
    by_cases h0 : to < 0
    · simp [cl, ct, flatR, flatV, hn, e2, e1, ht, hb, h0]
    have hm : to % 256 = 0 := by
      rcases hi with hi | ⟨g', h1, h2⟩ | hi | hi
      · exact absurd c hi
      · simp only [Int.toNat_natCast] at h1
        rw [hg] at h1; cases h1
        rcases h2 with h2 | h2
        · exact absurd h2 ht
        · exact absurd h2 hb
      · exact absurd hi h0
      · exact hi
    have m := tmod_e (a := to) (b := 256) (by omega)
    simp [cl, ct, flatR, flatV, hn, e2, e1, ht, hb, h0, m, hm]
  · rw [decide_eq_false c] at ct
    simp [cl, ct, flatR, flatV]
theorem c_Turned_hit {F : List Gm} {v : AV} (h : Sl 3 (F.map gr) v) (hl : F.length ≤ 1000) {n : Nat} {to : Int} {g : Gm} (hg : F[n]? = some g) (ht : g.t = false) (hb : g.b ≠ []) (hlb : g.b.length ≤ 1000) (h0 : 0 ≤ to) (hm : to % 256 ≠ 0) (hto : to ≤ 9223372036854775807) :
    callP (penv P1) 36 [v, .int .i64 n, .int .i64 to] Q = some (.tup [.fz 3 ((F.set n ⟨g.n, turnB g.b to, true⟩).map gr), .bool true], Q) := by
  rw [f_net_Turned rfl]
  have cl := fun (Q : AHeap) => c_clone (Q := Q) h (by simpa using hl)
  have ct := fun (Q : AHeap) => c_there (Q := Q) (sl_fz 3 (F.map gr)) (n : Int)
  have hn : n < F.length := (List.getElem?_eq_some_iff.1 hg).1
  have hn' : n < (F.map gr).length := by simpa using hn
  rw [decide_eq_true (show (0 : Int) ≤ n ∧ (n : Int) < (F.map gr).length by omega)] at ct
  have e2 := elC_at hg 2
  have e1 := elC_at hg 1
  have h0' : (to < 0) = False := eq_false (by omega)
  have m := tmod_e (a := to) (b := 256) (by omega)
  have d := tdiv_e (a := to) (b := 256) (by omega)
  have wd := w64 (i := to / 256) (by omega) (by omega)
  have lb : 0 < g.b.length := List.length_pos_iff.2 hb
  obtain ⟨p, hp⟩ : ∃ p : Nat, to / 256 % (g.b.length : Int) = p := ⟨(to / 256 % g.b.length).toNat, by rw [Int.toNat_of_nonneg (Int.emod_nonneg _ (by omega))]⟩
  have hpl : p < g.b.length := by have := Int.emod_lt_of_pos (to / 256) (b := (g.b.length : Int)) (by omega); omega
  have m2 := tmod_e (a := to / 256) (b := (g.b.length : Int)) (by omega)
  rw [hp] at m2
  have sc : s2bC (.str g.b) = some (g.b.map fun b => AV.int .u8 b.toNat) := by simp only [s2bC]; rw [if_pos (by simp [maxBytes]; omega)]
  have wm := wrap_u8 (i := to % 256) (by omega) (by omega)
  have tb : turnB g.b to = g.b.set p (UInt8.ofNat (xorU g.b[p] (to % 256)).toNat) := by
    unfold turnB
    simp only [hp, Int.toNat_natCast]
    rw [List.getD_eq_getElem?_getD, List.getElem?_eq_getElem hpl]; rfl
  have ex : binA .xor (.int .u8 g.b[p].toNat) (.int .u8 (to % 256)) = some (.int .u8 (xorU g.b[p] (to % 256))) := bin_xor ..
  have hx := xorU_r g.b[p] (to % 256)
  generalize hxx : xorU g.b[p] (to % 256) = x at *
  have ms := mapO_set (x := x) hpl
  have ss := splice_one (x := .int .u8 x) (l := g.b.map fun b => AV.int .u8 b.toNat) (p := p) (by simpa using hpl)
  have hz : ((g.b.length : Int) = 0) = False := eq_false (by omega)
  have bl : Nat.ble (p + 1) g.b.length = true := Nat.ble_eq_true_of_le hpl
  have hgm : (F.map gr)[n]? = some (gr g) := by rw [List.getElem?_map, hg]; rfl
  have set1 : ((F.map gr).set n (.agg [.int .i64 g.n, .str (turnB g.b to), .bool true])) = (F.set n ⟨g.n, turnB g.b to, true⟩).map gr := by rw [List.map_set]; rfl
  rw [← tb] at ms
  generalize turnB g.b to = tbv at *
  have tk : ((g.b.map fun b => AV.int .u8 b.toNat).set p (.int .u8 x)).take g.b.length = (g.b.map fun b => AV.int .u8 b.toNat).set p (.int .u8 x) := List.take_of_length_le (by simp)
  have hgg : F[n] = g := (List.getElem?_eq_some_iff.1 hg).2
  simp [cl, ct, flatR, flatV, hn, e2, e1, ht, hb, h0', m, hm, d, wd, sc, m2, hpl, hz, wm, ex, -bin_xor, bl, ss, ms, tk, b2sQ, hgg, setE, gr, splice_set3, splice_set2, -splice_eq]
end
end Go.Proofs.Ytldehmfhgmmkhaa.Pn
