/- What the functions of feed come to. -/
import Derived.Test.YtccgolmdhikdoaaPcFeed
import Derived.Test.YtccgolmdhikdoaaPcLog
import Derived.Test.YtccgolmdhikdoaaPmLog
set_option linter.unusedVariables false
set_option linter.unusedSimpArgs false
namespace Go.Proofs.Ytccgolmdhikdoaa.Pn
open Go.Ab Go.Feed
set_option maxRecDepth 100000
section
variable {Q : AHeap}
end
end Go.Proofs.Ytccgolmdhikdoaa.Pn
/- What the document's functions for net, ring, win, log, nak, feed come to: the same. -/
set_option linter.unusedVariables false
set_option linter.unusedSimpArgs false
namespace Go.Proofs.Ytccgolmdhikdoaa.Pn
open Go.Ab Go.Feed
set_option maxRecDepth 100000
section
variable {Q : AHeap}
theorem Sl.rcv {z l v} (h : Sl z l v) : rcv false (.f z) v = some (.fz z l) := by rcases h with rfl | ⟨rfl, rfl⟩ <;> simp
end
end Go.Proofs.Ytccgolmdhikdoaa.Pn
/- What the document's functions for feed come to: the same. -/
set_option linter.unusedVariables false
set_option linter.unusedSimpArgs false
namespace Go.Proofs.Ytccgolmdhikdoaa.Pn
open Go.Ab Go.Feed
set_option maxRecDepth 100000
section
variable {Q : AHeap}
def putT (l : List It) (p : Nat) (x : It) (i : Nat) : List It := if i ≤ p then l.take i else l.take p ++ [x] ++ (l.drop p).take (i - p)
end
end Go.Proofs.Ytccgolmdhikdoaa.Pn
/- What the document's functions for feed come to: the same. Feeds that are the same. -/
set_option linter.unusedVariables false
set_option linter.unusedSimpArgs false
namespace Go.Proofs.Ytccgolmdhikdoaa.Pn
open Go.Ab Go.Feed
set_option maxRecDepth 100000
section
variable {Q : AHeap}
end
end Go.Proofs.Ytccgolmdhikdoaa.Pn
/- The law LogCut: the walk. -/
set_option linter.unusedVariables false
set_option linter.unusedSimpArgs false
namespace Go.Proofs.Ytccgolmdhikdoaa.Pn
open Go.Ab Go.Feed Go.Logs
set_option maxRecDepth 100000
open Go.Span (add radd Gd may)
def pv (p : Int × Int) : AV := .agg [.int .u8 p.1, .int .u8 p.2]
@[simp] theorem b2sQ_1 (a : Int) : b2sQ (.fz 1 [.int .u8 a]) = some (.str [UInt8.ofNat a.toNat]) := (Eq.refl _).trans (Eq.refl _)
theorem wrap_u8 {i : Int} (h : 0 ≤ i) (h2 : i ≤ 255) : IntKind.u8.wrap i = i := by
  have : IntKind.u8.wrap i = i % 256 := rfl
  rw [this]; omega
theorem tmod_e {a b : Int} (h : 0 ≤ a) : a.tmod b = a % b := Int.tmod_eq_emod_of_nonneg h
def Prs (P : List (Int × Int)) : Prop := ∀ p ∈ P, (0 ≤ p.1 ∧ p.1 ≤ 255) ∧ (0 ≤ p.2 ∧ p.2 ≤ 255)
theorem Prs.get {P : List (Int × Int)} (h : Prs P) {i : Nat} (hi : i < P.length) : ∃ x y, P[i]? = some (x, y) ∧ (0 ≤ x ∧ x ≤ 255) ∧ (0 ≤ y ∧ y ≤ 255) ∧ P.drop i = (x, y) :: P.drop (i + 1) := by
  have := h _ (List.getElem_mem hi)
  exact ⟨P[i].1, P[i].2, by rw [List.getElem?_eq_getElem hi], this.1, this.2, List.drop_eq_getElem_cons hi⟩
section
variable {Q : AHeap}
theorem slc_to {α : Type} {g : α → AV} {l : List α} {z : Nat} (hz : 0 < z) {k : Nat} (hk : k ≤ l.length) : slcQ z (.fz z (l.map g)) none (some (.int .i64 (k : Int))) = some (.fz z ((l.take k).map g)) := by
  have b : (0 ≤ (k : Int) ∧ (k : Int) ≤ (l.length : Int)) = True := eq_true (by omega)
  rw [slcQ_fz hz]
  simp only [bndo_none, bndo_int, List.length_map, b, if_true, Int.toNat_natCast, List.drop_zero, List.map_take]
end
end Go.Proofs.Ytccgolmdhikdoaa.Pn
/- What the functions of span, and the document's, come to: what is there, and lacked. -/
set_option linter.unusedVariables false
set_option linter.unusedSimpArgs false
namespace Go.Proofs.Ytccgolmdhikdoaa.Pn
open Go.Ab Go.Feed
set_option maxRecDepth 100000
open Go.Span (add addL radd radL insN insAt lk rlk may has Gd)
def maysL : Int → List Sp → Bool
  | _, [] => true
  | last, s :: l => may s && decide (last + 2 ≤ s.1) && maysL s.2 l
theorem gd_mays : ∀ {l : List Sp} {last : Int}, Gd l → (∀ y ∈ l, last + 1 < y.1) → maysL last l = true
  | [], _, _, _ => rfl
  | s :: l, last, h, hl => by
    have h1 := h.m s List.mem_cons_self
    have h2 := hl s List.mem_cons_self
    unfold maysL
    rw [(Go.Span.may_iff s).2 h1, decide_eq_true (show last + 2 ≤ s.1 by omega), gd_mays h.tail h.head]; rfl
theorem gd_may {l : List Sp} (h : Gd l) : maysL (-1) l = true := gd_mays h fun y hy => by have := h.m y hy; omega
section
variable {Q : AHeap}
theorem loop_dMay {l : List Sp} {v : AV} (h : Sl 2 (l.map Sp.v) v) (hl : l.length ≤ 900000) : ∀ (k i : Nat) (last : Int), i + k = l.length → ((i = 0 ∧ last = -1) ∨ ∃ j x, i = j + 1 ∧ l[j]? = some x ∧ x.2 = last ∧ may x = true) →
    L_pleachref1_MaySpans_0 P1 v (.int .i64 i) Q = if maysL last (l.drop i) = true then X_pleachref1_MaySpans_0_x0 Q else X_pleachref1_MaySpans_0_ret (.bool false) Q := by
  intro k
  induction k with
  | zero =>
    intro i last hi hx
    have c : ¬ ((i : Int) < l.length) := by omega
    rw [List.drop_of_length_le (by omega), L_pleachref1_MaySpans_0_eq, p_pleachref1_MaySpans_0]
    simp [h.len, c, maysL]
  | succ k ih =>
    intro i last hi hx
    have c : ((i : Int) < l.length) = True := eq_true (by omega)
    have e0 := getD_at (l := l) (k := i) (by omega)
    have e := h.get (k := .i64) e0
    have w := w64 (i := (i : Int) + 1) (by omega) (by omega)
    rw [drop_at (by omega), L_pleachref1_MaySpans_0_eq, p_pleachref1_MaySpans_0]
    generalize l.getD i default = s at *
    have o := fun (Q : AHeap) => d_MaySp (Q := Q) s
    unfold maysL
    cases hm : may s with
    | false =>
      rw [hm] at o
      obtain ⟨a, b⟩ := s
      rw [Sp_v] at e
      simp [h.len, c, e, o]
    | true =>
      have hs := (Go.Span.may_iff s).1 hm
      have ih := ih (i + 1) s.2 (by omega) (Or.inr ⟨i, s, rfl, e0, rfl, hm⟩)
      rw [hm] at o
      rcases hx with ⟨rfl, rfl⟩ | ⟨j, x, rfl, hx, rfl, hmx⟩
      · obtain ⟨a, b⟩ := s
        rw [Sp_v] at e
        have c2 : (-1 + 2 ≤ a) = True := eq_true (by omega)
        have c0 : (0 < l.length) = True := eq_true (by omega)
        have w0 := w64 (i := 1) (by omega) (by omega)
        simp only [show ((0 : Nat) : Int) = 0 from rfl] at e
        simp [h.len, c0, e, o, w0]
        simpa [L_pleachref1_MaySpans_0_fold, c2, hs] using ih
      · have hxs := (Go.Span.may_iff x).1 hmx
        have ex := h.get (k := .i64) hx
        have w1 := w64 (i := ((j + 1 : Nat) : Int) - 1) (by omega) (by omega)
        rw [show ((j + 1 : Nat) : Int) - 1 = (j : Int) by omega] at w1
        have w2 := w64 (i := x.2 + 1) (by omega) (by omega)
        have p0 : ((0 : Int) < (j : Int) + 1) = True := eq_true (by omega)
        obtain ⟨a, b⟩ := s
        obtain ⟨xa, xb⟩ := x
        rw [Sp_v] at e ex
        simp only [Int.natCast_add, Int.natCast_one] at e w c ih
        by_cases c2 : xb + 2 ≤ a
        · have c2' : (a ≤ xb + 1) = False := eq_false (by omega)
          simp [h.len, c, e, ex, o, w, w1, w2, p0, c2, c2', Int.add_sub_cancel]
          simpa [L_pleachref1_MaySpans_0_fold] using ih
        · have c2' : (a ≤ xb + 1) = True := eq_true (by omega)
          simp [h.len, c, e, ex, o, w, w1, w2, p0, c2, c2', Int.add_sub_cancel]
theorem d_SMay {l : List Sp} {v : AV} (h : Sl 2 (l.map Sp.v) v) (hl : l.length ≤ 900000) : callP (penv P1) 33 [v] Q = some (.bool (maysL (-1) l), Q) := by
  rw [f_pleachref1_MaySpans rfl]
  have lp := loop_dMay (Q := Q) h hl l.length 0 (-1) (by omega) (Or.inl ⟨rfl, rfl⟩)
  rw [show ((0 : Nat) : Int) = 0 from rfl, List.drop_zero] at lp
  cases hm : maysL (-1) l with
  | true => rw [hm] at lp; simp [lp, L_pleachref1_MaySpans_0_fold, p_pleachref1_MaySpans_1]
  | false => rw [hm] at lp; simp [lp, L_pleachref1_MaySpans_0_fold]
theorem loop_dHas {l : List Sp} {v : AV} (h : Sl 2 (l.map Sp.v) v) (hl : l.length ≤ 900000) (n : Int) : ∀ (k i : Nat), i + k = l.length →
    L_pleachref1_HasSpan_0 P1 v (.int .i64 n) (.int .i64 i) Q = if has (l.drop i) n = true then X_pleachref1_HasSpan_0_ret (.bool true) Q else X_pleachref1_HasSpan_0_x0 Q := by
  intro k
  induction k with
  | zero =>
    intro i hi
    have c : ¬ ((i : Int) < l.length) := by omega
    rw [List.drop_of_length_le (by omega), L_pleachref1_HasSpan_0_eq, p_pleachref1_HasSpan_0]
    simp [h.len, c, has]
  | succ k ih =>
    intro i hi
    have c : ((i : Int) < l.length) = True := eq_true (by omega)
    have e := h.get (k := .i64) (getD_at (l := l) (k := i) (by omega))
    have w := w64 (i := (i : Int) + 1) (by omega) (by omega)
    have ih := ih (i + 1) (by omega)
    rw [drop_at (by omega), L_pleachref1_HasSpan_0_eq, p_pleachref1_HasSpan_0]
    generalize l.getD i default = s at *
    rw [Go.Span.has_cons]
    obtain ⟨a, b⟩ := s
    rw [Sp_v] at e
    by_cases c1 : a ≤ n
    · by_cases c2 : n ≤ b
      · simp [h.len, c, e, c1, c2]
      · simp [h.len, c, e, c1, c2, w]
        simpa [L_pleachref1_HasSpan_0_fold] using ih
    · simp [h.len, c, e, c1, w]
      simpa [L_pleachref1_HasSpan_0_fold] using ih
theorem d_Has {l : List Sp} {v : AV} (h : Sl 2 (l.map Sp.v) v) (hl : l.length ≤ 900000) (n : Int) : callP (penv P1) 30 [v, .int .i64 n] Q = some (.bool (has l n), Q) := by
  rw [f_pleachref1_HasSpan rfl]
  have lp := loop_dHas (Q := Q) h hl n l.length 0 (by omega)
  rw [show ((0 : Nat) : Int) = 0 from rfl, List.drop_zero] at lp
  cases hm : has l n with
  | true => rw [hm] at lp; simp [lp, L_pleachref1_HasSpan_0_fold]
  | false => rw [hm] at lp; simp [lp, L_pleachref1_HasSpan_0_fold, p_pleachref1_HasSpan_1]
end
end Go.Proofs.Ytccgolmdhikdoaa.Pn
