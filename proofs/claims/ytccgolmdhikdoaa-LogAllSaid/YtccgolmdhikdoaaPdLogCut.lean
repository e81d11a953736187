/- What the functions of feed come to. -/
import Derived.Test.YtccgolmdhikdoaaPcFeed
import Derived.Test.YtccgolmdhikdoaaPcLog
set_option linter.unusedVariables false
set_option linter.unusedSimpArgs false
namespace Go.Proofs.Ytccgolmdhikdoaa.Pn
open Go.Ab Go.Feed
set_option maxRecDepth 100000
section
variable {Q : AHeap}
end
end Go.Proofs.Ytccgolmdhikdoaa.Pn
/- What the document's functions for net, ring, win, log, nak, feed come to: the same. -/
set_option linter.unusedVariables false
set_option linter.unusedSimpArgs false
namespace Go.Proofs.Ytccgolmdhikdoaa.Pn
open Go.Ab Go.Feed
set_option maxRecDepth 100000
section
variable {Q : AHeap}
theorem Sl.src {z l v} (h : Sl z l v) (ω : PW) : srcT ω z (.v v) = some l := by rcases h with rfl | ⟨rfl, rfl⟩ <;> simp
theorem Sl.rcv {z l v} (h : Sl z l v) : rcv false (.f z) v = some (.fz z l) := by rcases h with rfl | ⟨rfl, rfl⟩ <;> simp
theorem d_Tell {l : List Ev} {v : AV} (h : Sl 5 (l.map Ev.v) v) (hl : l.length ≤ 900000) (i : It) : callP (penv P1) 43 [v, .int .i64 i.seq, .str i.text] Q = some (.ow 5 ((l ++ [told i]).map Ev.v), Q) := by
  rw [f_pleachref13_Tell rfl]
  have r : room 48 (l.length + 1) = true := room_le (by omega) (by omega)
  have r2 : room 48 l.length = true := room_le (by omega) (by omega)
  simp [h.src, r, r2, Ev.v, told]
theorem d_Skip {l : List Ev} {v : AV} (h : Sl 5 (l.map Ev.v) v) (hl : l.length ≤ 900000) (lo hi why : Int) : callP (penv P1) 45 [v, .int .i64 lo, .int .i64 hi, .int .i64 why] Q = some (.ow 5 ((l ++ [gapE lo hi why]).map Ev.v), Q) := by
  rw [f_pleachref13_Skip rfl]
  have r : room 48 (l.length + 1) = true := room_le (by omega) (by omega)
  have r2 : room 48 l.length = true := room_le (by omega) (by omega)
  simp [h.src, r, r2, Ev.v, gapE]
end
end Go.Proofs.Ytccgolmdhikdoaa.Pn
/- What the document's functions for feed come to: the same. -/
set_option linter.unusedVariables false
set_option linter.unusedSimpArgs false
namespace Go.Proofs.Ytccgolmdhikdoaa.Pn
open Go.Ab Go.Feed
set_option maxRecDepth 100000
section
variable {Q : AHeap}
def putT (l : List It) (p : Nat) (x : It) (i : Nat) : List It := if i ≤ p then l.take i else l.take p ++ [x] ++ (l.drop p).take (i - p)
end
end Go.Proofs.Ytccgolmdhikdoaa.Pn
/- What the document's functions for feed come to: the same. Feeds that are the same. -/
set_option linter.unusedVariables false
set_option linter.unusedSimpArgs false
namespace Go.Proofs.Ytccgolmdhikdoaa.Pn
open Go.Ab Go.Feed
set_option maxRecDepth 100000
section
variable {Q : AHeap}
theorem drop_eq {α : Type} [Inhabited α] {l m : List α} {i : Nat} (h1 : i < l.length) (h2 : i < m.length) : l.drop i = m.drop i ↔ l.getD i default = m.getD i default ∧ l.drop (i + 1) = m.drop (i + 1) := by
  have key : ∀ {l : List α}, i < l.length → l.drop i = l.getD i default :: l.drop (i + 1) := fun {l} h => by
    rw [List.drop_eq_getElem_cons h, List.getD_eq_getElem?_getD, List.getElem?_eq_getElem h]; rfl
  rw [key h1, key h2]
  exact ⟨fun h => by injection h with a b; exact ⟨a, b⟩, fun ⟨a, b⟩ => by rw [a, b]⟩
theorem loop_dSameE {l m : List Ev} {v v' : AV} (h : Sl 5 (l.map Ev.v) v) (h' : Sl 5 (m.map Ev.v) v') (hl : l.length ≤ 900000) (hm : l.length = m.length) : ∀ (k i : Nat), i + k = l.length →
    (l.drop i = m.drop i → L_pleachref13_SameEvents_0 P1 v v' (.int .i64 i) Q = X_pleachref13_SameEvents_0_x0 Q) ∧ (¬ l.drop i = m.drop i → L_pleachref13_SameEvents_0 P1 v v' (.int .i64 i) Q = X_pleachref13_SameEvents_0_ret (.bool false) Q) := by
  intro k
  induction k with
  | zero =>
    intro i hi
    have c : ¬ ((i : Int) < l.length) := by omega
    refine ⟨fun _ => ?_, fun hn => absurd (by rw [List.drop_of_length_le (by omega), List.drop_of_length_le (by omega)]) hn⟩
    rw [L_pleachref13_SameEvents_0_eq, p_pleachref13_SameEvents_0]
    simp [h.len, c]
  | succ k ih =>
    intro i hi
    have c : ((i : Int) < l.length) = True := eq_true (by omega)
    have e := h.get (k := .i64) (getD_at (l := l) (k := i) (by omega))
    have e' := h'.get (k := .i64) (getD_at (l := m) (k := i) (by omega))
    have w := w64 (i := (i : Int) + 1) (by omega) (by omega)
    have ih := ih (i + 1) (by omega)
    rw [drop_eq (by omega) (by omega), L_pleachref13_SameEvents_0_eq, p_pleachref13_SameEvents_0]
    generalize l.getD i default = x at *
    generalize m.getD i default = y at *
    obtain ⟨x1, x2, x3, x4, x5⟩ := x
    obtain ⟨y1, y2, y3, y4, y5⟩ := y
    simp only [Ev.v] at e e'
    by_cases hc : x1 = y1 ∧ x2 = y2 ∧ x3 = y3 ∧ x4 = y4 ∧ x5 = y5
    · obtain ⟨rfl, rfl, rfl, rfl, rfl⟩ := hc
      refine ⟨fun hh => ?_, fun hh => ?_⟩
      · have := ih.1 hh.2
        simp [h.len, c, e, e', w, L_pleachref13_SameEvents_0_fold]
        simpa using this
      · have := ih.2 (fun h => hh ⟨rfl, h⟩)
        simp [h.len, c, e, e', w, L_pleachref13_SameEvents_0_fold]
        simpa using this
    · refine ⟨fun hh => absurd (by simpa using hh.1) hc, fun hh => ?_⟩
      by_cases c1 : x1 = y1
      · by_cases c2 : x2 = y2
        · by_cases c3 : x3 = y3
          · by_cases c4 : x4 = y4
            · have c5 : ¬ x5 = y5 := fun c5 => hc ⟨c1, c2, c3, c4, c5⟩
              simp [h.len, c, e, e', c1, c2, c3, c4, c5]
            · simp [h.len, c, e, e', c1, c2, c3, c4]
          · simp [h.len, c, e, e', c1, c2, c3]
        · simp [h.len, c, e, e', c1, c2]
      · simp [h.len, c, e, e', c1]
theorem d_SameE {l m : List Ev} {v v' : AV} (h : Sl 5 (l.map Ev.v) v) (h' : Sl 5 (m.map Ev.v) v') (hl : l.length ≤ 900000) : callP (penv P1) 28 [v, v'] Q = some (.bool (decide (l = m)), Q) := by
  rw [f_pleachref13_SameEvents rfl]
  by_cases hm : l.length = m.length
  · have lp := loop_dSameE (Q := Q) h h' hl hm l.length 0 (by omega)
    rw [show ((0 : Nat) : Int) = 0 from rfl, List.drop_zero, List.drop_zero] at lp
    have hm' : ((l.length : Int) = m.length) = True := eq_true (by omega)
    by_cases c : l = m
    · have lp := lp.1 c
      simp [h.len, h'.len, hm', L_pleachref13_SameEvents_0_fold, lp, p_pleachref13_SameEvents_1, c]
    · have lp := lp.2 c
      simp [h.len, h'.len, hm', L_pleachref13_SameEvents_0_fold, lp, c]
  · have c : l ≠ m := fun e => hm (by rw [e])
    have hm' : ¬ (l.length : Int) = m.length := by omega
    simp [h.len, h'.len, hm', c]
end
end Go.Proofs.Ytccgolmdhikdoaa.Pn
/- The law LogCut: the walk. -/
set_option linter.unusedVariables false
set_option linter.unusedSimpArgs false
namespace Go.Proofs.Ytccgolmdhikdoaa.Pn
open Go.Ab Go.Feed Go.Logs
set_option maxRecDepth 100000
open Go.Span (add radd Gd may)
def pv (p : Int × Int) : AV := .agg [.int .u8 p.1, .int .u8 p.2]
@[simp] theorem b2sQ_1 (a : Int) : b2sQ (.fz 1 [.int .u8 a]) = some (.str [UInt8.ofNat a.toNat]) := (Eq.refl _).trans (Eq.refl _)
theorem wrap_u8 {i : Int} (h : 0 ≤ i) (h2 : i ≤ 255) : IntKind.u8.wrap i = i := by
  have : IntKind.u8.wrap i = i % 256 := rfl
  rw [this]; omega
theorem tmod_e {a b : Int} (h : 0 ≤ a) : a.tmod b = a % b := Int.tmod_eq_emod_of_nonneg h
theorem tdiv_e {a b : Int} (h : 0 ≤ a) : a.tdiv b = a / b := Int.tdiv_eq_ediv_of_nonneg h
def Prs (P : List (Int × Int)) : Prop := ∀ p ∈ P, (0 ≤ p.1 ∧ p.1 ≤ 255) ∧ (0 ≤ p.2 ∧ p.2 ≤ 255)
theorem Prs.get {P : List (Int × Int)} (h : Prs P) {i : Nat} (hi : i < P.length) : ∃ x y, P[i]? = some (x, y) ∧ (0 ≤ x ∧ x ≤ 255) ∧ (0 ≤ y ∧ y ≤ 255) ∧ P.drop i = (x, y) :: P.drop (i + 1) := by
  have := h _ (List.getElem_mem hi)
  exact ⟨P[i].1, P[i].2, by rw [List.getElem?_eq_getElem hi], this.1, this.2, List.drop_eq_getElem_cons hi⟩
section
variable {Q : AHeap}
theorem loop_Logs {P : List (Int × Int)} (hP : P.length ≤ 1000) (rP : Prs P) : ∀ (k i : Nat) (n : Int) (o : List Ev), i + k = P.length → 1 ≤ n → n ≤ 100 + 4 * i → o.length ≤ i →
    L_pleachlaw16_Logs_1 P1 (.fz 2 (P.map pv)) (.int .i64 n) (.int .i64 i) (o.map Ev.v) Q = X_pleachlaw16_Logs_1_x0 ((logs (P.drop i) o n).map Ev.v) Q := by
  intro k
  induction k with
  | zero =>
    intro i n o hi hn hn2 ho
    obtain rfl : i = P.length := by omega
    rw [List.drop_length, L_pleachlaw16_Logs_1_eq, p_pleachlaw16_Logs_1]
    simp [logs]
  | succ k ih =>
    intro i n o hi hn hn2 ho
    have c : ((i : Int) < P.length) = True := eq_true (by omega)
    obtain ⟨x, y, e0, hx, hy, ed⟩ := rP.get (i := i) (by omega)
    have e := elQ_at (z := 2) (f := pv) (k := .i64) e0
    rw [pv] at e
    have w := w64 (i := (i : Int) + 1) (by omega) (by omega)
    have m1 := tmod_e (a := x) (b := 3) hx.1
    have m2 := tmod_e (a := y) (b := 26) hy.1
    have m3 := tmod_e (a := y) (b := 4) hy.1
    have d1 := tdiv_e (a := y) (b := 4) hy.1
    have m4 := tmod_e (a := y / 4) (b := 2) (by omega)
    have w1 := wrap_u8 (i := x % 3) (by omega) (by omega)
    have w2 := wrap_u8 (i := y % 26) (by omega) (by omega)
    have w3 := wrap_u8 (i := 97 + y % 26) (by omega) (by omega)
    have w4 := wrap_u8 (i := y % 4) (by omega) (by omega)
    have w5 := wrap_u8 (i := y / 4) (by omega) (by omega)
    have w6 := wrap_u8 (i := y / 4 % 2) (by omega) (by omega)
    have v1 := w64 (i := y % 4) (by omega) (by omega)
    have v2 := w64 (i := y / 4 % 2) (by omega) (by omega)
    have v3 := w64 (i := n + 1) (by omega) (by omega)
    have v4 := w64 (i := n + y % 4) (by omega) (by omega)
    have v5 := w64 (i := 1 + y / 4 % 2) (by omega) (by omega)
    have v6 := w64 (i := n + y % 4 + 1) (by omega) (by omega)
    have tl := fun (Q : AHeap) => d_Tell (Q := Q) (Sl.fz 5 (o.map Ev.v)) (by omega) ⟨n, [UInt8.ofNat (97 + y % 26).toNat]⟩
    have sk := fun (Q : AHeap) => d_Skip (Q := Q) (Sl.fz 5 (o.map Ev.v)) (by omega) n (n + y % 4) (1 + y / 4 % 2)
    simp only [told, gapE] at tl sk
    rw [ed, L_pleachlaw16_Logs_1_eq, p_pleachlaw16_Logs_1]
    unfold logs
    by_cases c1 : 0 < x % 3
    · have ih := ih (i + 1) (n + 1) (o ++ [⟨1, n, n, [UInt8.ofNat (97 + y % 26).toNat], 0⟩]) (by omega) (by omega) (by omega) (by simp; omega)
      have c1' : (0 < x % 3) = True := eq_true c1
      rw [if_pos c1]
      generalize o ++ [⟨1, n, n, [UInt8.ofNat (97 + y % 26).toNat], 0⟩] = O at *
      simp [c, e, m1, m2, w1, w2, w3, c1', tl, v3, w, p_pleachlaw16_Logs_0]
      simpa [L_pleachlaw16_Logs_1_fold] using ih
    · have ih := ih (i + 1) (n + y % 4 + 1) (o ++ [⟨2, n, n + y % 4, [], 1 + y / 4 % 2⟩]) (by omega) (by omega) (by omega) (by simp; omega)
      have c1' : (0 < x % 3) = False := eq_false c1
      rw [if_neg c1]
      generalize o ++ [⟨2, n, n + y % 4, [], 1 + y / 4 % 2⟩] = O at *
      simp [c, e, m1, m3, m4, d1, w1, w4, w5, w6, v1, v2, v4, v5, v6, c1', sk, w, p_pleachlaw16_Logs_0]
      simpa [L_pleachlaw16_Logs_1_fold] using ih
theorem c_Logs {P : List (Int × Int)} (hP : P.length ≤ 1000) (rP : Prs P) {n : Int} (hn : 1 ≤ n ∧ n ≤ 100) : callP (penv P1) 37 [.fz 2 (P.map pv), .int .i64 n] Q = some (.ow 5 ((logs P [] n).map Ev.v), Q) := by
  rw [f_pleachlaw16_Logs rfl]
  have lp := loop_Logs (Q := Q) hP rP P.length 0 n [] (by omega) hn.1 (by omega) (by simp)
  rw [show ((0 : Nat) : Int) = 0 from rfl, List.drop_zero, List.map_nil] at lp
  simp [lp, L_pleachlaw16_Logs_1_fold, p_pleachlaw16_Logs_2]
theorem slc_to {α : Type} {g : α → AV} {l : List α} {z : Nat} (hz : 0 < z) {k : Nat} (hk : k ≤ l.length) : slcQ z (.fz z (l.map g)) none (some (.int .i64 (k : Int))) = some (.fz z ((l.take k).map g)) := by
  have b : (0 ≤ (k : Int) ∧ (k : Int) ≤ (l.length : Int)) = True := eq_true (by omega)
  rw [slcQ_fz hz]
  simp only [bndo_none, bndo_int, List.length_map, b, if_true, Int.toNat_natCast, List.drop_zero, List.map_take]
theorem slc_of {α : Type} {g : α → AV} {l : List α} {z : Nat} (hz : 0 < z) {k : Nat} (hk : k ≤ l.length) : slcQ z (.fz z (l.map g)) (some (.int .i64 (k : Int))) none = some (.fz z ((l.drop k).map g)) := by
  have b : (0 ≤ (k : Int) ∧ (k : Int) ≤ (l.length : Int)) = True := eq_true (by omega)
  rw [slcQ_fz hz]
  simp only [bndo_none, bndo_int, List.length_map, b, if_true, Int.toNat_natCast, List.map_drop]
  rw [List.take_of_length_le (by simp)]
end
end Go.Proofs.Ytccgolmdhikdoaa.Pn
