/- The law LogCut: the walk. -/
import Derived.Test.YtccgolmdhikdoaaPcLog
import Derived.Test.YtccgolmdhikdoaaPcFeed5
set_option linter.unusedVariables false
set_option linter.unusedSimpArgs false
namespace Go.Proofs.Ytccgolmdhikdoaa.Pn
open Go.Ab Go.Feed Go.Logs
set_option maxRecDepth 100000
open Go.Span (add radd Gd may)
def pv (p : Int × Int) : AV := .agg [.int .u8 p.1, .int .u8 p.2]
@[simp] theorem b2sQ_1 (a : Int) : b2sQ (.fz 1 [.int .u8 a]) = some (.str [UInt8.ofNat a.toNat]) := (Eq.refl _).trans (Eq.refl _)
theorem wrap_u8 {i : Int} (h : 0 ≤ i) (h2 : i ≤ 255) : IntKind.u8.wrap i = i := by
  have : IntKind.u8.wrap i = i % 256 := rfl
  rw [this]; omega
theorem tmod_e {a b : Int} (h : 0 ≤ a) : a.tmod b = a % b := Int.tmod_eq_emod_of_nonneg h
theorem tdiv_e {a b : Int} (h : 0 ≤ a) : a.tdiv b = a / b := Int.tdiv_eq_ediv_of_nonneg h
def Prs (P : List (Int × Int)) : Prop := ∀ p ∈ P, (0 ≤ p.1 ∧ p.1 ≤ 255) ∧ (0 ≤ p.2 ∧ p.2 ≤ 255)
theorem Prs.get {P : List (Int × Int)} (h : Prs P) {i : Nat} (hi : i < P.length) : ∃ x y, P[i]? = some (x, y) ∧ (0 ≤ x ∧ x ≤ 255) ∧ (0 ≤ y ∧ y ≤ 255) ∧ P.drop i = (x, y) :: P.drop (i + 1) := by
  have := h _ (List.getElem_mem hi)
  exact ⟨P[i].1, P[i].2, by rw [List.getElem?_eq_getElem hi], this.1, this.2, List.drop_eq_getElem_cons hi⟩
section
variable {Q : AHeap}
theorem loop_Logs {P : List (Int × Int)} (hP : P.length ≤ 1000) (rP : Prs P) : ∀ (k i : Nat) (n : Int) (o : List Ev), i + k = P.length → 1 ≤ n → n ≤ 100 + 4 * i → o.length ≤ i →
    L_pleachlaw16_Logs_1 P1 (.fz 2 (P.map pv)) (.int .i64 n) (.int .i64 i) (o.map Ev.v) Q = X_pleachlaw16_Logs_1_x0 ((logs (P.drop i) o n).map Ev.v) Q := by
  intro k
  induction k with
  | zero =>
    intro i n o hi hn hn2 ho
    obtain rfl : i = P.length := by omega
    rw [List.drop_length, L_pleachlaw16_Logs_1_eq, p_pleachlaw16_Logs_1]
    simp [logs]
  | succ k ih =>
    intro i n o hi hn hn2 ho
    have c : ((i : Int) < P.length) = True := eq_true (by omega)
    obtain ⟨x, y, e0, hx, hy, ed⟩ := rP.get (i := i) (by omega)
    have e := elQ_at (z := 2) (f := pv) (k := .i64) e0
    rw [pv] at e
    have w := w64 (i := (i : Int) + 1) (by omega) (by omega)
    have m1 := tmod_e (a := x) (b := 3) hx.1
    have m2 := tmod_e (a := y) (b := 26) hy.1
    have m3 := tmod_e (a := y) (b := 4) hy.1
    have d1 := tdiv_e (a := y) (b := 4) hy.1
    have m4 := tmod_e (a := y / 4) (b := 2) (by omega)
    have w1 := wrap_u8 (i := x % 3) (by omega) (by omega)
    have w2 := wrap_u8 (i := y % 26) (by omega) (by omega)
    have w3 := wrap_u8 (i := 97 + y % 26) (by omega) (by omega)
    have w4 := wrap_u8 (i := y % 4) (by omega) (by omega)
    have w5 := wrap_u8 (i := y / 4) (by omega) (by omega)
    have w6 := wrap_u8 (i := y / 4 % 2) (by omega) (by omega)
    have v1 := w64 (i := y % 4) (by omega) (by omega)
    have v2 := w64 (i := y / 4 % 2) (by omega) (by omega)
    have v3 := w64 (i := n + 1) (by omega) (by omega)
    have v4 := w64 (i := n + y % 4) (by omega) (by omega)
    have v5 := w64 (i := 1 + y / 4 % 2) (by omega) (by omega)
    have v6 := w64 (i := n + y % 4 + 1) (by omega) (by omega)
    have tl := fun (Q : AHeap) => d_Tell (Q := Q) (Sl.fz 5 (o.map Ev.v)) (by omega) ⟨n, [UInt8.ofNat (97 + y % 26).toNat]⟩
    have sk := fun (Q : AHeap) => d_Skip (Q := Q) (Sl.fz 5 (o.map Ev.v)) (by omega) n (n + y % 4) (1 + y / 4 % 2)
    simp only [told, gapE] at tl sk
    rw [ed, L_pleachlaw16_Logs_1_eq, p_pleachlaw16_Logs_1]
    unfold logs
    by_cases c1 : 0 < x % 3
    · have ih := ih (i + 1) (n + 1) (o ++ [⟨1, n, n, [UInt8.ofNat (97 + y % 26).toNat], 0⟩]) (by omega) (by omega) (by omega) (by simp; omega)
      have c1' : (0 < x % 3) = True := eq_true c1
      rw [if_pos c1]
      generalize o ++ [⟨1, n, n, [UInt8.ofNat (97 + y % 26).toNat], 0⟩] = O at *
      simp [c, e, m1, m2, w1, w2, w3, c1', tl, v3, w, p_pleachlaw16_Logs_0]
      simpa [L_pleachlaw16_Logs_1_fold] using ih
    · have ih := ih (i + 1) (n + y % 4 + 1) (o ++ [⟨2, n, n + y % 4, [], 1 + y / 4 % 2⟩]) (by omega) (by omega) (by omega) (by simp; omega)
      have c1' : (0 < x % 3) = False := eq_false c1
      rw [if_neg c1]
      generalize o ++ [⟨2, n, n + y % 4, [], 1 + y / 4 % 2⟩] = O at *
      simp [c, e, m1, m3, m4, d1, w1, w4, w5, w6, v1, v2, v4, v5, v6, c1', sk, w, p_pleachlaw16_Logs_0]
      simpa [L_pleachlaw16_Logs_1_fold] using ih
theorem c_Logs {P : List (Int × Int)} (hP : P.length ≤ 1000) (rP : Prs P) {n : Int} (hn : 1 ≤ n ∧ n ≤ 100) : callP (penv P1) 37 [.fz 2 (P.map pv), .int .i64 n] Q = some (.ow 5 ((logs P [] n).map Ev.v), Q) := by
  rw [f_pleachlaw16_Logs rfl]
  have lp := loop_Logs (Q := Q) hP rP P.length 0 n [] (by omega) hn.1 (by omega) (by simp)
  rw [show ((0 : Nat) : Int) = 0 from rfl, List.drop_zero, List.map_nil] at lp
  simp [lp, L_pleachlaw16_Logs_1_fold, p_pleachlaw16_Logs_2]
theorem allL_len : ∀ {b a : List Sp}, Gd a → (∀ s ∈ b, 1 ≤ s.1 ∧ s.1 ≤ s.2 ∧ s.2 ≤ 1000000) → (allL a b).length ≤ a.length + b.length
  | [], a, _, _ => by simp [allL]
  | s :: b, a, h, hb => by
    have hs := hb s List.mem_cons_self
    have e : radd a s = Go.Span.ins a s := by rw [Go.Span.radd_eq h, if_pos ((Go.Span.may_iff _).2 hs)]
    have := allL_len (b := b) (a := radd a s) (by rw [e]; exact (Go.Span.ins_gd h hs).1) (fun x hx => hb x (List.mem_cons_of_mem _ hx))
    have := ins_len a s
    rw [← e] at this
    simp only [allL, List.length_cons]; omega
theorem radd_gd {a : List Sp} (h : Gd a) {s : Sp} (hs : 1 ≤ s.1 ∧ s.1 ≤ s.2 ∧ s.2 ≤ 1000000) : Gd (radd a s) ∧ (radd a s).length ≤ a.length + 1 := by
  have e : radd a s = Go.Span.ins a s := by rw [Go.Span.radd_eq h, if_pos ((Go.Span.may_iff _).2 hs)]
  rw [e]; exact ⟨(Go.Span.ins_gd h hs).1, ins_len a s⟩
theorem loop_Cut {b : List Sp} (hb : b.length ≤ 1000) (rb : ∀ s ∈ b, 1 ≤ s.1 ∧ s.1 ≤ s.2 ∧ s.2 ≤ 1000000) {c0 c1 c2 c3 : AV} : ∀ (k i : Nat) (a : List Sp), i + k = b.length → Gd a → a.length ≤ 1000 + i →
    L_pleachlaw16_LogCut_0 P1 c0 c1 c2 c3 (sps b) (sps a) (.int .i64 i) Q = X_pleachlaw16_LogCut_0_x0 c0 c1 c2 c3 (sps (allL a (b.drop i))) Q := by
  intro k
  induction k with
  | zero =>
    intro i a hi ha hl
    obtain rfl : i = b.length := by omega
    rw [List.drop_length, L_pleachlaw16_LogCut_0_eq, p_pleachlaw16_LogCut_0]
    simp [allL]
  | succ k ih =>
    intro i a hi ha hl
    have c : ((i : Int) < b.length) = True := eq_true (by omega)
    have e := elQ_at (z := 2) (f := Sp.v) (k := .i64) (getD_at (l := b) (k := i) (by omega))
    have w := w64 (i := (i : Int) + 1) (by omega) (by omega)
    have hs : 1 ≤ (b.getD i default).1 ∧ (b.getD i default).1 ≤ (b.getD i default).2 ∧ (b.getD i default).2 ≤ 1000000 := by
      rw [List.getD_eq_getElem?_getD, List.getElem?_eq_getElem (by omega)]; exact rb _ (List.getElem_mem _)
    rw [drop_at (by omega), L_pleachlaw16_LogCut_0_eq, p_pleachlaw16_LogCut_0]
    generalize b.getD i default = s at *
    have ad := fun (Q : AHeap) => d_Add (Q := Q) (Sl.fz 2 (a.map Sp.v)) (by omega) (Gd.ok ha) s
    have g := radd_gd ha hs
    have ih := ih (i + 1) (radd a s) (by omega) g.1 (by omega)
    unfold allL
    generalize radd a s = r at *
    obtain ⟨p, q⟩ := s
    rw [Sp_v] at e
    simp [c, e, ad, w]
    simpa [L_pleachlaw16_LogCut_0_fold] using ih
theorem slc_to {α : Type} {g : α → AV} {l : List α} {z : Nat} (hz : 0 < z) {k : Nat} (hk : k ≤ l.length) : slcQ z (.fz z (l.map g)) none (some (.int .i64 (k : Int))) = some (.fz z ((l.take k).map g)) := by
  have b : (0 ≤ (k : Int) ∧ (k : Int) ≤ (l.length : Int)) = True := eq_true (by omega)
  rw [slcQ_fz hz]
  simp only [bndo_none, bndo_int, List.length_map, b, if_true, Int.toNat_natCast, List.drop_zero, List.map_take]
theorem slc_of {α : Type} {g : α → AV} {l : List α} {z : Nat} (hz : 0 < z) {k : Nat} (hk : k ≤ l.length) : slcQ z (.fz z (l.map g)) (some (.int .i64 (k : Int))) none = some (.fz z ((l.drop k).map g)) := by
  have b : (0 ≤ (k : Int) ∧ (k : Int) ≤ (l.length : Int)) = True := eq_true (by omega)
  rw [slcQ_fz hz]
  simp only [bndo_none, bndo_int, List.length_map, b, if_true, Int.toNat_natCast, List.map_drop]
  rw [List.take_of_length_le (by simp)]
theorem cut_true {P : List (Int × Int)} (rP : Prs P) {a b : Int} (ha : 0 ≤ a ∧ a ≤ 255) (hb : 0 ≤ b ∧ b ≤ 255) : callP (penv P1) 11 [.fz 2 (P.map pv), .int .u8 a, .int .u8 b] Q = some (.bool true, Q) := by
  rw [f_pleachlaw16_LogCut rfl]
  have hb0 : ∀ Q, callP (penv P1) 36 [] Q = some (.bool true, Q) := fun Q => (callP_spec (E := penv P1) (f := 36) (g := gYes) rfl [] Q).trans (by simp [gYes])
  by_cases hA : 15 < P.length
  · have hA' : (15 : Int) < P.length := by omega
    simp [hb0, hA']
  have hA' : ¬ (15 : Int) < P.length := by omega
  have m1 := tmod_e (a := a) (b := 9) ha.1
  have w1 := wrap_u8 (i := a % 9) (by omega) (by omega)
  have w2 := w64 (i := a % 9) (by omega) (by omega)
  have w3 := w64 (i := 1 + a % 9) (by omega) (by omega)
  have w4 := w64 (i := b) (by omega) (by omega)
  have hn : 1 ≤ 1 + a % 9 ∧ 1 + a % 9 ≤ 10 := by omega
  generalize hN : 1 + a % 9 = n at *
  have cl := fun (Q : AHeap) => c_Logs (Q := Q) (P := P) (by omega) rP (n := n) (by omega)
  obtain ⟨o1, o2, o3⟩ := logs_ok (l := P) (out := []) (f := n) (n := n) (fun p hp => (rP p hp).2.1) hn.1 rfl rfl (by omega)
  simp only [List.length_nil, Nat.zero_add] at o2
  generalize logs P [] n = x at *
  have w5 := w64 (i := (x.length : Int) + 1) (by omega) (by omega)
  have m2 := tmod_e (a := b) (b := (x.length : Int) + 1) hb.1
  have z0 : ((x.length : Int) + 1 = 0) = False := eq_false (by omega)
  have l0 := Int.emod_nonneg b (show (x.length : Int) + 1 ≠ 0 by omega)
  have l1 := Int.emod_lt_of_pos b (show 0 < (x.length : Int) + 1 by omega)
  have w6 := w64 (i := b % ((x.length : Int) + 1)) (by omega) (by omega)
  obtain ⟨k, hk⟩ : ∃ k : Nat, b % ((x.length : Int) + 1) = k := ⟨(b % ((x.length : Int) + 1)).toNat, by omega⟩
  rw [hk] at m2 l0 l1 w6
  have hkl : k ≤ x.length := by omega
  have ex : x.take k ++ x.drop k = x := List.take_append_drop k x
  have ge := (mayL_ge o1).2
  have ga : ∀ e ∈ x, 1 ≤ e.lo ∧ e.lo ≤ e.hi ∧ e.hi ≤ 1000000 := fun e he => by have := ge e he; omega
  have gt : ∀ e ∈ x.take k, 1 ≤ e.lo ∧ e.lo ≤ e.hi ∧ e.hi ≤ 1000000 := fun e he => ga e (List.mem_of_mem_take he)
  have gd : ∀ e ∈ x.drop k, 1 ≤ e.lo ∧ e.lo ≤ e.hi ∧ e.hi ≤ 1000000 := fun e he => ga e (List.mem_of_mem_drop he)
  have lt : (x.take k).length ≤ 15 := by simp; omega
  have ld : (x.drop k).length ≤ 15 := by simp; omega
  have s1 := slc_to (g := Ev.v) (l := x) (z := 5) (by omega) hkl
  have s2 := slc_of (g := Ev.v) (l := x) (z := 5) (by omega) hkl
  have hm : mayLog x n = true := by simp [mayLog, o1, hn.1]
  rw [← ex] at hm o1
  have mc := mayLog_cut hm
  have gc := gaps_cut hn.1 o1
  have nx := nextL_append (x.take k) (x.drop k) n
  rw [ex] at gc nx
  have q1 := fun (Q : AHeap) => c_Next (Q := Q) (Sl.fz 5 ((x.take k).map Ev.v)) (by omega) n (fun e he => by have := gt e he; omega)
  have q2 := fun (Q : AHeap) => c_Next (Q := Q) (Sl.fz 5 ((x.drop k).map Ev.v)) (by omega) (nextL (x.take k) n) (fun e he => by have := gd e he; omega)
  have q3 := fun (Q : AHeap) => c_Next (Q := Q) (Sl.fz 5 (x.map Ev.v)) (by omega) n (fun e he => by have := ga e he; omega)
  have p1 := fun (Q : AHeap) => c_May (Q := Q) (Sl.fz 5 ((x.take k).map Ev.v)) (by omega) n
  have p2 := fun (Q : AHeap) => c_May (Q := Q) (Sl.fz 5 ((x.drop k).map Ev.v)) (by omega) (nextL (x.take k) n)
  have g1 := fun (Q : AHeap) => c_Gaps (Q := Q) (Sl.fz 5 ((x.take k).map Ev.v)) (by omega) gt
  have g2 := fun (Q : AHeap) => c_Gaps (Q := Q) (Sl.fz 5 ((x.drop k).map Ev.v)) (by omega) gd
  have g3 := fun (Q : AHeap) => c_Gaps (Q := Q) (Sl.fz 5 (x.map Ev.v)) (by omega) ga
  rw [mc.1] at p1
  rw [mc.2] at p2
  rw [nx] at q3
  rw [gc] at g3
  have gl : ∀ (l : List Ev), (∀ e ∈ l, 1 ≤ e.lo ∧ e.lo ≤ e.hi ∧ e.hi ≤ 1000000) → Gd (gapsL l []) ∧ (gapsL l []).length ≤ l.length := by
    intro l hl
    refine ⟨(gaps_ok hl Go.Span.Gd.nil).1, ?_⟩
    have : ∀ (l : List Ev) (o : List Sp), (∀ e ∈ l, 1 ≤ e.lo ∧ e.lo ≤ e.hi ∧ e.hi ≤ 1000000) → Gd o → (gapsL l o).length ≤ o.length + l.length := by
      intro l
      induction l with
      | nil => intro o _ _; simp [gapsL]
      | cons e l ih =>
        intro o h g
        unfold gapsL
        split
        · have := ih (add o (e.lo, e.hi)) (fun x hx => h x (List.mem_cons_of_mem _ hx)) (Go.Span.add_gd g _)
          have := add_len g (e.lo, e.hi)
          simp; omega
        · have := ih o (fun x hx => h x (List.mem_cons_of_mem _ hx)) g
          simp; omega
    have := this l [] hl Go.Span.Gd.nil
    simpa using this
  obtain ⟨a1, a2⟩ := gl _ gt
  obtain ⟨b1, b2⟩ := gl _ gd
  have lp := fun (Q : AHeap) => loop_Cut (Q := Q) (b := gapsL (x.drop k) []) (by omega) b1.m (c0 := .int .i64 n) (c1 := evs x) (c2 := .int .i64 k) (c3 := .int .i64 (nextL (x.take k) n)) (gapsL (x.drop k) []).length 0 (gapsL (x.take k) []) (by omega) a1 (by omega)
  simp only [show ((0 : Nat) : Int) = 0 from rfl, List.drop_zero, sps] at lp
  have al := allL_len (b := gapsL (x.drop k) []) a1 b1.m
  generalize allL (gapsL (x.take k) []) (gapsL (x.drop k) []) = all at *
  have sm := fun (Q : AHeap) => d_SameS (Q := Q) (Sl.fz 2 (all.map Sp.v)) (Sl.fz 2 (all.map Sp.v)) (by omega)
  generalize gapsL (x.take k) [] = A1 at *
  generalize gapsL (x.drop k) [] = A2 at *
  generalize nextL (x.take k) n = N1 at *
  clear gc nx ex o1 hm lt ld gt gd ge
  generalize x.take k = X1 at *
  generalize x.drop k = X2 at *
  generalize nextL X2 N1 = N2 at *
  simp [hb0, hA', m1, w1, w2, hN, w3, w4, cl, w5, z0, m2, hk, w6, s1, s2, q1, q2, q3, g1, g2, lp, L_pleachlaw16_LogCut_0_fold, p_pleachlaw16_LogCut_1, p1, p2, g3, sm]
end
end Go.Proofs.Ytccgolmdhikdoaa.Pn
