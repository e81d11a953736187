/- The law SpanSet: the walk. -/
import Derived.Test.YtcledejamnnbmaaPdSpanAll
set_option linter.unusedVariables false
set_option linter.unusedSimpArgs false
namespace Go.Proofs.Ytcledejamnnbmaa.Ps
open Go.Ab Go.Feed
set_option maxRecDepth 100000
open Go.Span (add radd lk rlk may has Gd num)
def bts (p : Int → Bool) : List AV := (List.range 60).map fun n : Nat => .bool (p (n : Int))
theorem bts_len (p : Int → Bool) : (bts p).length = 60 := by simp [bts]
theorem bts_at (p : Int → Bool) {n : Nat} (h : n < 60) : (bts p)[n]? = some (.bool (p n)) := by
  unfold bts; rw [List.getElem?_map, List.getElem?_range h]; rfl
theorem bts_set (p : Int → Bool) {n : Nat} (h : n < 60) : splice (bts p) n [.bool true] = bts fun k => p k || decide (k = n) := by
  apply List.ext_getElem?
  intro j
  rw [splice_get (by rw [bts_len]; simp; omega)]
  simp only [List.length_singleton]
  by_cases hj : j < 60
  · by_cases c : j < n
    · rw [if_pos c, bts_at _ hj, bts_at _ hj]
      have : decide ((j : Int) = n) = false := decide_eq_false (by omega)
      rw [this, Bool.or_false]
    · by_cases c2 : j < n + 1
      · obtain rfl : j = n := by omega
        rw [if_neg c, if_pos c2, bts_at _ hj]; simp
      · rw [if_neg c, if_neg c2, bts_at _ hj, bts_at _ hj]
        have : decide ((j : Int) = n) = false := decide_eq_false (by omega)
        rw [this, Bool.or_false]
  · rw [if_neg (by omega), if_neg (by omega), List.getElem?_eq_none (by rw [bts_len]; omega), List.getElem?_eq_none (by rw [bts_len]; omega)]
theorem bts_congr {p q : Int → Bool} (h : ∀ n : Int, p n = q n) : bts p = bts q := by
  unfold bts; exact List.map_congr_left fun n _ => by rw [h]
def sp (p : Int × Int) : Sp := (1 + p.1 % 40, 1 + p.1 % 40 + p.2 % 6)
theorem addOk {l : List Sp} (h : Gd l) (p : Int × Int) (hp : 0 ≤ p.1 ∧ 0 ≤ p.2) : Gd (add l (sp p)) ∧ (add l (sp p)).length ≤ l.length + 1 ∧ (∀ n, has (add l (sp p)) n = (has l n || decide ((sp p).1 ≤ n ∧ n ≤ (sp p).2))) := by
  have hm : may (sp p) = true := (Go.Span.may_iff _).2 (by unfold sp; simp only; omega)
  rw [Go.Span.add_eq h, if_pos hm]
  exact ⟨(Go.Span.ins_gd h ((Go.Span.may_iff _).1 hm)).1, insLen l _, Go.Span.ins_has h ((Go.Span.may_iff _).1 hm).2.1⟩
def inP (P : List (Int × Int)) (n : Int) : Bool := P.any fun p => decide ((sp p).1 ≤ n ∧ n ≤ (sp p).2)
section
variable {Q : AHeap}
theorem loop_SS0 {c0 c1 c2 c3 c9 c10 c12 : AV} {hi : Int} (hh : hi < 60) : ∀ (m : Nat) (n : Int) (p : Int → Bool), n + m = hi + 1 → 0 ≤ n → 
    L_pleachlaw3_SpanSet_0 P1 c0 c1 c2 c3 c9 c10 c12 (.int .i64 hi) (.int .i64 n) (bts p) Q = X_pleachlaw3_SpanSet_0_x2 c0 c1 c2 c3 c9 c10 c12 (bts fun k => p k || decide (n ≤ k ∧ k ≤ hi)) Q := by
  intro m
  induction m with
  | zero =>
    intro n p hn h0
    have c : ¬ n ≤ hi := by omega
    rw [L_pleachlaw3_SpanSet_0_eq, p_pleachlaw3_SpanSet_0, bts_congr (p := fun k => p k || decide (n ≤ k ∧ k ≤ hi)) (q := p) (fun k => by
      rw [decide_eq_false (by omega), Bool.or_false])]
    simp [c]
  | succ m ih =>
    intro n p hn h0
    have c : (n ≤ hi) = True := eq_true (by omega)
    obtain ⟨j, rfl⟩ : ∃ j : Nat, n = j := ⟨n.toNat, by omega⟩
    have hj : j < 60 := by omega
    have i1 : idxN 60 (.int .i64 (j : Int)) = some j := by
      have a : (0 ≤ (j : Int) ∧ (j : Int) < 60) = True := eq_true (by omega)
      simp [idxN]; omega
    have w := w64 (i := (j : Int) + 1) (by omega) (by omega)
    have le : (Nat.ble (j + 1) (bts p).length) = true := by rw [bts_len]; exact Nat.ble_eq_true_of_le (by omega)
    have ih := ih ((j : Int) + 1) (fun k => p k || decide (k = (j : Int))) (by omega) (by omega)
    rw [bts_congr (p := fun k => (p k || decide (k = (j : Int))) || decide ((j : Int) + 1 ≤ k ∧ k ≤ hi)) (q := fun k => p k || decide ((j : Int) ≤ k ∧ k ≤ hi)) (fun k => by
      rw [Bool.or_assoc]; congr 1; rw [Bool.eq_iff_iff]; simp only [Bool.or_eq_true, decide_eq_true_eq]; omega)] at ih
    have st := bts_set p hj
    rw [L_pleachlaw3_SpanSet_0_eq, p_pleachlaw3_SpanSet_0]
    generalize bts p = B at *
    simp [c, i1, le, w, st]
    simpa [L_pleachlaw3_SpanSet_0_fold] using ih
theorem call_Add {l : List Sp} {v : AV} (h : Sl 2 (l.map Sp.v) v) (hl : l.length ≤ 1000) (hg : Gd l) (p : Int × Int) : callP (penv P1) 11 [v, .agg [.int .i64 (1 + p.1 % 40), .int .i64 (1 + p.1 % 40 + p.2 % 6)]] Q = some (.ow 2 ((add l (sp p)).map Sp.v), Q) :=
  c_Add h (by omega) (Gd.ok hg) (sp p)
theorem loop_SS3 {P : List (Int × Int)} (hP : P.length ≤ 15) (rP : Prs P) {c2 c3 : AV} {tn : Nat} (htn : tn ≤ 255) : ∀ (k i : Nat) (a b : List Sp) (va vb : AV) (p : Int → Bool), i + k = P.length → Sl 2 (a.map Sp.v) va → Sl 2 (b.map Sp.v) vb → Gd a → Gd b → a.length ≤ i → b.length ≤ i →
    ∃ (a' b' : List Sp) (va' vb' : AV), Sl 2 (a'.map Sp.v) va' ∧ Sl 2 (b'.map Sp.v) vb' ∧ Gd a' ∧ Gd b' ∧ a'.length ≤ 15 ∧ b'.length ≤ 15 ∧ (∀ n, has a' n = (has a n || inP (P.drop i) n)) ∧
      (∀ n, has b' n = (has b n || inP ((List.range' i k).map fun j => P.getD ((j + tn) % P.length) (0, 0)) n)) ∧
      L_pleachlaw3_SpanSet_3 P1 (.fz 2 (P.map pv)) (.int .u8 tn) c2 c3 va vb (.int .i64 i) (bts p) Q = X_pleachlaw3_SpanSet_3_x0 c2 c3 va' vb' (bts fun n => p n || inP (P.drop i) n) Q := by
  intro k
  induction k with
  | zero =>
    intro i a b va vb p hi sa sb ga gb la lb
    obtain rfl : i = P.length := by omega
    refine ⟨a, b, va, vb, sa, sb, ga, gb, by omega, by omega, fun n => by simp [inP], fun n => by simp [inP], ?_⟩
    rw [L_pleachlaw3_SpanSet_3_eq, p_pleachlaw3_SpanSet_3, bts_congr (p := fun n => p n || inP (P.drop P.length) n) (q := p) (fun n => by simp [inP])]
    simp
  | succ k ih =>
    intro i a b va vb p hi sa sb ga gb la lb
    have c : ((i : Int) < P.length) = True := eq_true (by omega)
    obtain ⟨x, y, e0, hx, hy, ed⟩ := rP.get (i := i) (by omega)
    have e := elQ_at (z := 2) (f := pv) (k := .i64) e0
    rw [pv] at e
    have hlen : 0 < P.length := by omega
    have hr : (i + tn) % P.length < P.length := Nat.mod_lt _ hlen
    obtain ⟨x', y', e1, hx', hy', _⟩ := rP.get hr
    have e' := elQ_at (z := 2) (f := pv) (k := .i64) e1
    rw [pv] at e'
    have eg : P.getD ((i + tn) % P.length) (0, 0) = (x', y') := by rw [List.getD_eq_getElem?_getD, e1]; rfl
    have w := w64 (i := (i : Int) + 1) (by omega) (by omega)
    have m1 := tmode (a := x) (b := 40) hx.1
    have m2 := tmode (a := y) (b := 6) hy.1
    have w1 := wrapu8 (i := x % 40) (by omega) (by omega)
    have w2 := wrapu8 (i := y % 6) (by omega) (by omega)
    have v1 := w64 (i := x % 40) (by omega) (by omega)
    have v2 := w64 (i := y % 6) (by omega) (by omega)
    have v3 := w64 (i := 1 + x % 40) (by omega) (by omega)
    have v4 := w64 (i := 1 + x % 40 + y % 6) (by omega) (by omega)
    have m1' := tmode (a := x') (b := 40) hx'.1
    have m2' := tmode (a := y') (b := 6) hy'.1
    have w1' := wrapu8 (i := x' % 40) (by omega) (by omega)
    have w2' := wrapu8 (i := y' % 6) (by omega) (by omega)
    have v1' := w64 (i := x' % 40) (by omega) (by omega)
    have v2' := w64 (i := y' % 6) (by omega) (by omega)
    have v3' := w64 (i := 1 + x' % 40) (by omega) (by omega)
    have v4' := w64 (i := 1 + x' % 40 + y' % 6) (by omega) (by omega)
    have u1 := w64 (i := (tn : Int)) (by omega) (by omega)
    have u2 := w64 (i := (i : Int) + (tn : Int)) (by omega) (by omega)
    have u3 : ((i : Int) + (tn : Int)).tmod P.length = (((i + tn) % P.length : Nat) : Int) := by
      rw [tmode (by omega)]; norm_cast
    have u4 := w64 (i := (((i + tn) % P.length : Nat) : Int)) (by omega) (by omega)
    have z0 : ¬ ((P.length : Int) = 0) := by omega
    have z1 : ¬ P = [] := fun h => by rw [h] at hlen; simp at hlen
    have ca := fun (Q : AHeap) => call_Add (Q := Q) sa (by omega) ga (x, y)
    have cb := fun (Q : AHeap) => call_Add (Q := Q) sb (by omega) gb (x', y')
    have oa := addOk ga (x, y) ⟨hx.1, hy.1⟩
    have ob := addOk gb (x', y') ⟨hx'.1, hy'.1⟩
    have l0 := fun (Q : AHeap) => loop_SS0 (Q := Q) (c0 := .fz 2 (P.map pv)) (c1 := .int .u8 tn) (c2 := c2) (c3 := c3) (c9 := .fz 2 ((add a (sp (x, y))).map Sp.v)) (c10 := vb) (c12 := .int .i64 i) (hi := 1 + x % 40 + y % 6) (by omega) (y % 6 + 1).toNat (1 + x % 40) p (by omega) (by omega)
    obtain ⟨a', b', va', vb', q1, q2, q3, q4, q5, q6, q7, q8, ih⟩ := ih (i + 1) _ _ _ _ (fun k => p k || decide (1 + x % 40 ≤ k ∧ k ≤ 1 + x % 40 + y % 6)) (by omega) (Sl.fz 2 ((add a (sp (x, y))).map Sp.v)) (Sl.fz 2 ((add b (sp (x', y'))).map Sp.v)) oa.1 ob.1 (by omega) (by omega)
    have eq1 : ∀ n, inP (P.drop i) n = (decide (1 + x % 40 ≤ n ∧ n ≤ 1 + x % 40 + y % 6) || inP (P.drop (i + 1)) n) := fun n => by rw [ed]; rfl
    refine ⟨a', b', va', vb', q1, q2, q3, q4, q5, q6, fun n => ?_, fun n => ?_, ?_⟩
    · rw [q7, oa.2.2, eq1, Bool.or_assoc]; rfl
    · rw [q8, ob.2.2, List.range'_succ, List.map_cons, eg, Bool.or_assoc]; rfl
    · rw [bts_congr (p := fun n => p n || inP (P.drop i) n) (q := fun n => (p n || decide (1 + x % 40 ≤ n ∧ n ≤ 1 + x % 40 + y % 6)) || inP (P.drop (i + 1)) n) (fun n => by rw [eq1, Bool.or_assoc]), ← ih]
      clear ih q7 q8 oa ob
      simp only at ca cb e'
      rw [L_pleachlaw3_SpanSet_3_eq, p_pleachlaw3_SpanSet_3]
      generalize add a (sp (x, y)) = A at *
      generalize add b (sp (x', y')) = B at *
      generalize (i + tn) % P.length = r at *
      generalize (bts fun k => p k || decide (1 + x % 40 ≤ k ∧ k ≤ 1 + x % 40 + y % 6)) = BB at *
      generalize bts p = B0 at *
      simp [c, e, m1, m2, w1, w2, v1, v2, v3, v4, ca, L_pleachlaw3_SpanSet_0_fold, l0, p_pleachlaw3_SpanSet_1, u1, u2, u3, u4, z0, z1, e', m1', m2', w1', w2', v1', v2', v3', v4', cb, p_pleachlaw3_SpanSet_2, w, L_pleachlaw3_SpanSet_3_fold]
theorem num_le (p : Int → Bool) : ∀ N : Nat, 0 ≤ num p N ∧ num p N ≤ N
  | 0 => by simp [num]
  | N + 1 => by
    have := num_le p N
    simp only [num]; split <;> omega
theorem loop_SS6 {l : List Sp} {v : AV} (h : Sl 2 (l.map Sp.v) v) (hl : l.length ≤ 1000) {p : Int → Bool} (hp : ∀ n, has l n = p n) {c2 c3 c10 : AV} : ∀ (m k : Nat), k + m = 60 →
    L_pleachlaw3_SpanSet_6 P1 c2 c3 v c10 (.int .i64 (num p k)) (.int .i64 k) (bts p) Q = X_pleachlaw3_SpanSet_6_x4 c2 c3 v c10 (.int .i64 (num p 60)) (bts p) Q := by
  intro m
  induction m with
  | zero =>
    intro k hk
    obtain rfl : k = 60 := by omega
    rw [L_pleachlaw3_SpanSet_6_eq, p_pleachlaw3_SpanSet_6]
    simp
  | succ m ih =>
    intro k hk
    have c : ((k : Int) < 60) = True := eq_true (by omega)
    have c' : (k < 60) = True := eq_true (by omega)
    have e := bts_at p (n := k) (by omega)
    have w := w64 (i := (k : Int) + 1) (by omega) (by omega)
    have nl := num_le p k
    have w2 := w64 (i := num p k + 1) (by omega) (by omega)
    have hh := fun (Q : AHeap) => c_Has (Q := Q) h (by omega) (k : Int)
    rw [hp] at hh
    have ih := ih (k + 1) (by omega)
    rw [L_pleachlaw3_SpanSet_6_eq, p_pleachlaw3_SpanSet_6]
    have es : num p (k + 1) = num p k + (if p k = true then 1 else 0) := rfl
    rw [es] at ih
    generalize num p 60 = M at *
    generalize bts p = B at *
    generalize num p k = N at *
    cases hb : p k with
    | false =>
      rw [hb] at e hh ih
      simp [c, c', e, hh, w, p_pleachlaw3_SpanSet_4, p_pleachlaw3_SpanSet_5]
      simpa [L_pleachlaw3_SpanSet_6_fold] using ih
    | true =>
      rw [hb] at e hh ih
      simp [c, c', e, hh, w, w2, p_pleachlaw3_SpanSet_4, p_pleachlaw3_SpanSet_5]
      simpa [L_pleachlaw3_SpanSet_6_fold] using ih
theorem loop_SS7 {l : List Sp} {v : AV} (h : Sl 2 (l.map Sp.v) v) (hl : l.length ≤ 1000) {p : Int → Bool} {lo hi : Int} (hp : ∀ n, has l n = (decide (lo ≤ n ∧ n ≤ hi) && !p n)) {c9 c10 c17 : AV} : ∀ (m k : Nat), k + m = 60 →
    L_pleachlaw3_SpanSet_7 P1 c9 c10 c17 v (.int .i64 k) (.int .i64 lo) (.int .i64 hi) (bts p) Q = X_pleachlaw3_SpanSet_7_x6 c9 c10 c17 v Q := by
  intro m
  induction m with
  | zero =>
    intro k hk
    obtain rfl : k = 60 := by omega
    rw [L_pleachlaw3_SpanSet_7_eq, p_pleachlaw3_SpanSet_7]
    simp
  | succ m ih =>
    intro k hk
    have c : ((k : Int) < 60) = True := eq_true (by omega)
    have c' : (k < 60) = True := eq_true (by omega)
    have e := bts_at p (n := k) (by omega)
    have w := w64 (i := (k : Int) + 1) (by omega) (by omega)
    have hh := fun (Q : AHeap) => c_Has (Q := Q) h (by omega) (k : Int)
    rw [hp] at hh
    have ih := ih (k + 1) (by omega)
    rw [L_pleachlaw3_SpanSet_7_eq, p_pleachlaw3_SpanSet_7]
    generalize bts p = B at *
    cases hb : p k with
    | true =>
      rw [hb] at e hh
      simp only [Bool.not_true, Bool.and_false] at hh
      simp [c, c', e, hh, w]
      simpa [L_pleachlaw3_SpanSet_7_fold] using ih
    | false =>
      rw [hb] at e hh
      simp only [Bool.not_false, Bool.and_true] at hh
      by_cases c1 : lo ≤ (k : Int)
      · by_cases c2 : (k : Int) ≤ hi
        · rw [decide_eq_true ⟨c1, c2⟩] at hh
          simp [c, c', e, hh, w, c1, c2]
          simpa [L_pleachlaw3_SpanSet_7_fold] using ih
        · rw [decide_eq_false (fun h => c2 h.2)] at hh
          simp [c, c', e, hh, w, c1, c2]
          simpa [L_pleachlaw3_SpanSet_7_fold] using ih
      · rw [decide_eq_false (fun h => c1 h.1)] at hh
        simp [c, c', e, hh, w, c1]
        simpa [L_pleachlaw3_SpanSet_7_fold] using ih
theorem inP_iff (P : List (Int × Int)) (n : Int) : inP P n = true ↔ ∃ p ∈ P, (sp p).1 ≤ n ∧ n ≤ (sp p).2 := by simp [inP]
theorem rot_in (P : List (Int × Int)) (t : Nat) (n : Int) : inP ((List.range' 0 P.length).map fun j => P.getD ((j + t) % P.length) (0, 0)) n = inP P n := by
  rw [Bool.eq_iff_iff, inP_iff, inP_iff]
  have at' : ∀ {k : Nat}, k < P.length → P.getD k (0, 0) ∈ P := fun {k} hk => by
    rw [List.getD_eq_getElem?_getD, List.getElem?_eq_getElem hk]; exact List.getElem_mem _
  constructor
  · rintro ⟨p, hp, h⟩
    obtain ⟨j, hj, rfl⟩ := List.mem_map.1 hp
    have hj : j < P.length := by
      have := List.mem_range'.1 hj
      obtain ⟨i, hi, rfl⟩ := this; omega
    exact ⟨_, at' (Nat.mod_lt _ (by omega)), h⟩
  · rintro ⟨p, hp, h⟩
    obtain ⟨i, hi, rfl⟩ := List.getElem_of_mem hp
    have hl : 0 < P.length := by omega
    refine ⟨P[i], List.mem_map.2 ⟨(i + (P.length - t % P.length)) % P.length, List.mem_range'.2 ⟨(i + (P.length - t % P.length)) % P.length, Nat.mod_lt _ hl, by rw [Nat.zero_add, Nat.one_mul]⟩, ?_⟩, h⟩
    have e : ((i + (P.length - t % P.length)) % P.length + t) % P.length = i := by
      have ht := Nat.mod_lt t hl
      rw [Nat.add_mod, Nat.mod_mod, ← Nat.add_mod]
      rw [Nat.add_mod, Nat.add_mod i]
      have h1 : ((i + (P.length - t % P.length)) + t) % P.length = i := by
        have : i + (P.length - t % P.length) + t = i + P.length * (1 + t / P.length) := by
          have := Nat.div_add_mod t P.length
          rw [Nat.mul_add, Nat.mul_one]; omega
        rw [this, Nat.add_mul_mod_self_left, Nat.mod_eq_of_lt hi]
      rw [← Nat.add_mod i, ← Nat.add_mod]; exact h1
    rw [e, List.getD_eq_getElem?_getD, List.getElem?_eq_getElem hi]; rfl
theorem set_true {P : List (Int × Int)} (rP : Prs P) {t a n : Int} (ht : 0 ≤ t ∧ t ≤ 255) (ha : 0 ≤ a ∧ a ≤ 255) (hn : 0 ≤ n ∧ n ≤ 255) : callP (penv P1) 4 [.fz 2 (P.map pv), .int .u8 t, .int .u8 a, .int .u8 n] Q = some (.bool true, Q) := by
  rw [f_pleachlaw3_SpanSet rfl]
  have hb0 : ∀ Q, callP (penv P1) 8 [] Q = some (.bool true, Q) := fun Q => (callP_spec (E := penv P1) (f := 8) (g := gYes) rfl [] Q).trans (by simp [gYes])
  by_cases hA : 15 < P.length
  · have hA' : (15 : Int) < P.length := by omega
    simp [hb0, hA']
  have hA' : ¬ (15 : Int) < P.length := by omega
  obtain ⟨tn, rfl⟩ : ∃ tn : Nat, t = tn := ⟨t.toNat, by omega⟩
  obtain ⟨x, y, vx, vy, q1, q2, q3, q4, q5, q6, q7, q8, lp⟩ := loop_SS3 (Q := Q) (P := P) (by omega) rP (c2 := .int .u8 a) (c3 := .int .u8 n) (tn := tn) (by omega) P.length 0 [] [] .nils .nils (fun _ => false) (by omega) (Sl.nil 2) (Sl.nil 2) Go.Span.Gd.nil Go.Span.Gd.nil (by simp) (by simp)
  have hx : ∀ n, has x n = inP P n := fun n => by rw [q7]; simp [has]
  have hy : ∀ n, has y n = inP P n := fun n => by rw [q8, rot_in]; simp [has]
  obtain rfl : x = y := Go.Span.Gd.ext q3 q4 fun n => by rw [hx, hy]
  have l60 : ∀ s ∈ x, s.2 < 60 := fun s hs => by
    have h1 := (hx s.2).symm.trans (Go.Span.has_iff.2 ⟨s, hs, (q3.m s hs).2.1, Int.le_refl _⟩)
    obtain ⟨p, hp, h2⟩ := (inP_iff P _).1 h1
    have := rP p hp
    unfold sp at h2; simp only at h2; omega
  have eb : (bts fun n => (fun _ => false) n || inP (P.drop 0) n) = bts (inP P) := bts_congr fun n => by simp
  rw [eb] at lp
  have z0 : bts (fun _ => false) = [.bool false, .bool false, .bool false, .bool false, .bool false, .bool false, .bool false, .bool false, .bool false, .bool false, .bool false, .bool false, .bool false, .bool false, .bool false, .bool false, .bool false, .bool false, .bool false, .bool false, .bool false, .bool false, .bool false, .bool false, .bool false, .bool false, .bool false, .bool false, .bool false, .bool false, .bool false, .bool false, .bool false, .bool false, .bool false, .bool false, .bool false, .bool false, .bool false, .bool false, .bool false, .bool false, .bool false, .bool false, .bool false, .bool false, .bool false, .bool false, .bool false, .bool false, .bool false, .bool false, .bool false, .bool false, .bool false, .bool false, .bool false, .bool false, .bool false, .bool false] := rfl
  rw [z0] at lp
  have l6 := fun (Q : AHeap) => loop_SS6 (Q := Q) q1 (by omega) hx (c2 := .int .u8 a) (c3 := .int .u8 n) (c10 := vy) 60 0 rfl
  have e0 : num (inP P) 0 = 0 := rfl
  rw [e0] at l6
  have ec : num (inP P) 60 = Go.Span.cnt x := by
    rw [Go.Span.cnt_num q3 l60]
    exact Go.Span.num_congr fun n _ => (hx n).symm
  rw [ec] at l6
  have m1 := tmode (a := a) (b := 40) ha.1
  have m2 := tmode (a := n) (b := 15) hn.1
  have w1 := wrapu8 (i := a % 40) (by omega) (by omega)
  have w2 := wrapu8 (i := n % 15) (by omega) (by omega)
  have v1 := w64 (i := a % 40) (by omega) (by omega)
  have v2 := w64 (i := n % 15) (by omega) (by omega)
  have v3 := w64 (i := 1 + a % 40) (by omega) (by omega)
  have v4 := w64 (i := 1 + a % 40 + n % 15) (by omega) (by omega)
  have hs : 1 ≤ 1 + a % 40 ∧ 1 + a % 40 ≤ 1 + a % 40 + n % 15 ∧ 1 + a % 40 + n % 15 ≤ 1000000 := by omega
  have lc := fun (Q : AHeap) => c_Lacks (Q := Q) q1 (by omega) q3 hs
  have lg := Go.Span.lk_gd (l := x) (n := 1 + a % 40) (h := 1 + a % 40 + n % 15) q3 hs.1 hs.2.2
  have lh : ∀ k, has (lk x (1 + a % 40) (1 + a % 40 + n % 15)) k = (decide (1 + a % 40 ≤ k ∧ k ≤ 1 + a % 40 + n % 15) && !inP P k) := fun k => by rw [Go.Span.lk_has k q3, hx]
  have lb : ∀ (l : List Sp) (n h : Int), (lk l n h).length ≤ l.length + 1 := by
    intro l
    induction l with
    | nil => intro n h; unfold lk; split <;> simp
    | cons x l ih => intro n h; unfold lk; have := ih (max n (x.2 + 1)) h; split <;> simp <;> omega
  have ll := lb x (1 + a % 40) (1 + a % 40 + n % 15)
  have l7 := fun (Q : AHeap) => loop_SS7 (Q := Q) (Sl.fz 2 ((lk x (1 + a % 40) (1 + a % 40 + n % 15)).map Sp.v)) (by omega) lh (c9 := vx) (c10 := vy) (c17 := .int .i64 (Go.Span.cnt x)) 59 1 rfl
  have k1 := fun (Q : AHeap) => d_SameS (Q := Q) q1 q2 (by omega)
  have k2 := fun (Q : AHeap) => c_SMay (Q := Q) q1 (by omega)
  have k3 := fun (Q : AHeap) => c_SMay (Q := Q) (Sl.fz 2 ((lk x (1 + a % 40) (1 + a % 40 + n % 15)).map Sp.v)) (by omega)
  have k4 := fun (Q : AHeap) => c_Count (Q := Q) q1 (by omega) q3
  rw [gd_may q3] at k2
  rw [gd_may lg.1] at k3
  clear lg lh ll lb ec eb z0
  generalize lk x (1 + a % 40) (1 + a % 40 + n % 15) = D at *
  generalize bts (inP P) = B at *
  generalize Go.Span.cnt x = N at *
  simp only [show ((0 : Nat) : Int) = 0 from rfl, show ((1 : Nat) : Int) = 1 from rfl] at lp l6 l7
  simp [hb0, hA', lp, L_pleachlaw3_SpanSet_3_fold, p_pleachlaw3_SpanSet_10, l6, L_pleachlaw3_SpanSet_6_fold, p_pleachlaw3_SpanSet_9, m1, m2, w1, w2, v1, v2, v3, v4, lc, l7, L_pleachlaw3_SpanSet_7_fold, p_pleachlaw3_SpanSet_8, k1, k2, k3, k4]
end
end Go.Proofs.Ytcledejamnnbmaa.Ps
