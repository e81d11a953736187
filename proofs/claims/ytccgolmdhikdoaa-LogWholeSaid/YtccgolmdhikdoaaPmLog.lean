/- What the functions of span, and the document's, come to. -/
import Derived.Test.YtccgolmdhikdoaaPcFeed
import Derived.Test.YtccgolmdhikdoaaPmSpan
import Derived.Test.YtccgolmdhikdoaaPmFeed
set_option linter.unusedVariables false
set_option linter.unusedSimpArgs false
namespace Go.Proofs.Ytccgolmdhikdoaa.Pn
open Go.Ab Go.Feed
set_option maxRecDepth 100000
open Go.Span (add addL radd radL insN insAt lk rlk may has cnt Gd)
theorem Sp_v (a b : Int) : Sp.v (a, b) = .agg [.int .i64 a, .int .i64 b] := rfl
def Ok (s : Sp) : Prop := 0 ≤ s.1 ∧ s.1 ≤ 2000000 ∧ 0 ≤ s.2 ∧ s.2 ≤ 2000000
theorem Gd.ok {l : List Sp} (h : Gd l) : ∀ s ∈ l, Ok s := fun s hs => by have := h.m s hs; unfold Ok; omega
theorem ok_at {l : List Sp} (h : ∀ s ∈ l, Ok s) {i : Nat} (hi : i < l.length) : Ok (l.getD i default) := by
  rw [List.getD_eq_getElem?_getD, List.getElem?_eq_getElem hi]; exact h _ (List.getElem_mem _)
theorem drop_at {l : List Sp} {i : Nat} (hi : i < l.length) : l.drop i = l.getD i default :: l.drop (i + 1) := by
  rw [List.drop_eq_getElem_cons hi, List.getD_eq_getElem?_getD, List.getElem?_eq_getElem hi]; rfl
@[simp] theorem gdN_tt (o : Option Nat) : gdN (.bool true) true o = o := by simp [gdN]
@[simp] theorem gdN_ft (o : Option Nat) : gdN (.bool false) true o = some 0 := by simp [gdN]
section
variable {Q : AHeap}
theorem c_cloneS {l : List Sp} {v : AV} (h : Sl 2 (l.map Sp.v) v) (hl : l.length ≤ 1000000) : callP (penv P1) 92 [v] Q = some (.ow 2 (l.map Sp.v), Q) := by
  rw [callP_spec (g := gClone 2 16) rfl, h.clone (room_le (by omega) (by simp; omega))]; rfl
theorem c_one (s : Sp) : callP (penv P1) 91 [.agg [.int .i64 s.1, .int .i64 s.2]] Q = some (.bool (may s), Q) := by
  rw [f_span_one rfl]
  unfold may
  by_cases h1 : 1 ≤ s.1 <;> by_cases h2 : s.1 ≤ s.2 <;> by_cases h3 : s.2 ≤ 1000000 <;> simp [h1, h2, h3]
theorem addL_len : ∀ (l : List Sp) (s : Sp) (o : List Sp), (addL l s o).1.length ≤ o.length + l.length
  | [], s, o => by simp [addL]
  | x :: l, s, o => by
    unfold addL
    split
    · have := addL_len l s (o ++ [x]); simp at this ⊢; omega
    · have := addL_len l (min s.1 x.1, max s.2 x.2) o; simp; omega
theorem loop_add {l : List Sp} {v : AV} (h : Sl 2 (l.map Sp.v) v) (hl : l.length ≤ 100000) (ho : ∀ s ∈ l, Ok s) : ∀ (k i : Nat) (s : Sp) (o : List Sp), i + k = l.length → Ok s → o.length ≤ i →
    L_span_Add_1 P1 v (.int .i64 l.length) (.int .i64 i) (.int .i64 s.1) (.int .i64 s.2) (o.map Sp.v) Q = X_span_Add_1_x0 (.int .i64 (addL (l.drop i) s o).2.1) (.int .i64 (addL (l.drop i) s o).2.2) ((addL (l.drop i) s o).1.map Sp.v) Q := by
  intro k
  induction k with
  | zero =>
    intro i s o hi hs hoi
    have c : ¬ ((i : Int) < l.length) := by omega
    rw [List.drop_of_length_le (by omega), L_span_Add_1_eq, p_span_Add_1]
    simp [c, addL]
  | succ k ih =>
    intro i s o hi hs hoi
    have c : ((i : Int) < l.length) = True := eq_true (by omega)
    have e := h.get (k := .i64) (getD_at (l := l) (k := i) (by omega))
    have hx := ok_at ho (i := i) (by omega)
    rw [drop_at (by omega), L_span_Add_1_eq, p_span_Add_1]
    generalize l.getD i default = x at *
    obtain ⟨a, b⟩ := x
    obtain ⟨p, q⟩ := s
    simp only [Ok] at hx hs
    have w := w64 (i := (i : Int) + 1) (by omega) (by omega)
    have w1 := w64 (i := p - 1) (by omega) (by omega)
    have w2 := w64 (i := q + 1) (by omega) (by omega)
    have r : room 16 (o.length + 1) = true := room_le (by omega) (by omega)
    rw [Sp_v] at e
    unfold addL
    by_cases c1 : b < p - 1 ∨ q + 1 < a
    · have ih := ih (i + 1) (p, q) (o ++ [(a, b)]) (by omega) hs (by simp; omega)
      rw [if_pos c1]
      simp only [List.map_append, List.map_cons, List.map_nil, Sp_v] at ih
      by_cases c2 : b < p - 1
      · simp [c, e, w, w1, w2, c2, r, p_span_Add_0]
        simpa [L_span_Add_1_fold] using ih
      · have c3 : q + 1 < a := c1.resolve_left c2
        simp [c, e, w, w1, w2, c2, c3, r, p_span_Add_0]
        simpa [L_span_Add_1_fold] using ih
    · have ih := ih (i + 1) (min p a, max q b) o (by omega) (by simp only [Ok]; omega) (by omega)
      rw [if_neg c1]
      have c2 : ¬ b < p - 1 := fun h => c1 (Or.inl h)
      have c3 : ¬ q + 1 < a := fun h => c1 (Or.inr h)
      simp [c, e, w, w1, w2, c2, c3, r, p_span_Add_0]
      simpa [L_span_Add_1_fold] using ih
theorem insAt_le (o : List Sp) (s : Sp) : insAt o s ≤ o.length := by
  unfold insAt; exact (List.takeWhile_sublist _).length_le
theorem insAt_lt : ∀ {o : List Sp} {s : Sp} {k : Nat}, k < insAt o s → (o.getD k default).1 < s.1
  | [], s, k, h => by simp [insAt] at h
  | x :: o, s, k, h => by
    unfold insAt at h
    rw [List.takeWhile_cons] at h
    split at h
    · rename_i hx
      cases k with
      | zero => simpa using hx
      | succ k => simp only [List.length_cons] at h; exact insAt_lt (o := o) (k := k) (by unfold insAt; omega)
    · simp at h
theorem insAt_ge : ∀ {o : List Sp} {s : Sp}, insAt o s < o.length → ¬ (o.getD (insAt o s) default).1 < s.1
  | [], s, h => by simp at h
  | x :: o, s, h => by
    have e : insAt (x :: o) s = if x.1 < s.1 then insAt o s + 1 else 0 := by
      unfold insAt; rw [List.takeWhile_cons]; by_cases hx : x.1 < s.1 <;> simp [hx]
    rw [e] at h ⊢
    split
    · rename_i hx
      rw [if_pos hx] at h
      exact insAt_ge (o := o) (by simpa using h)
    · rename_i hx; simpa using hx
theorem loop_at {o : List Sp} (hl : o.length ≤ 200000) (s : Sp) : ∀ (k i : Nat), i + k = insAt o s →
    L_span_Add_2 P1 (.int .i64 i) (.int .i64 s.1) (.int .i64 s.2) (o.map Sp.v) Q = X_span_Add_2_x2 (.int .i64 (insAt o s)) (.int .i64 s.1) (.int .i64 s.2) (o.map Sp.v) Q := by
  intro k
  have hle := insAt_le o s
  induction k with
  | zero =>
    intro i hi
    obtain rfl : i = insAt o s := by omega
    rw [L_span_Add_2_eq, p_span_Add_2]
    by_cases c : insAt o s < o.length
    · have c' : ((insAt o s : Int) < o.length) = True := eq_true (by omega)
      have g := insAt_ge c
      have e : (o.map Sp.v)[insAt o s]? = some (Sp.v (o.getD (insAt o s) default)) := by rw [List.getElem?_map, getD_at c]; rfl
      generalize o.getD (insAt o s) default = x at *
      obtain ⟨a, b⟩ := x
      rw [Sp_v] at e
      simp [c', elC, e, g]
    · have c' : ((insAt o s : Int) < o.length) = False := eq_false (by omega)
      simp [c']
  | succ k ih =>
    intro i hi
    have c : ((i : Int) < o.length) = True := eq_true (by omega)
    have g := insAt_lt (o := o) (s := s) (k := i) (by omega)
    have e : (o.map Sp.v)[i]? = some (Sp.v (o.getD i default)) := by rw [List.getElem?_map, getD_at (by omega)]; rfl
    have w := w64 (i := (i : Int) + 1) (by omega) (by omega)
    have ih := ih (i + 1) (by omega)
    rw [L_span_Add_2_eq, p_span_Add_2]
    generalize o.getD i default = x at *
    obtain ⟨a, b⟩ := x
    rw [Sp_v] at e
    simp only at g
    simp [c, elC, e, g, w]
    simpa [L_span_Add_2_fold] using ih
theorem c_Add {l : List Sp} {v : AV} (h : Sl 2 (l.map Sp.v) v) (hl : l.length ≤ 100000) (ho : ∀ s ∈ l, Ok s) (s : Sp) : callP (penv P1) 73 [v, .agg [.int .i64 s.1, .int .i64 s.2]] Q = some (.ow 2 ((add l s).map Sp.v), Q) := by
  rw [f_span_Add rfl]
  have o := c_one (Q := Q) s
  unfold add
  by_cases c : may s = true
  · have hs := (Go.Span.may_iff s).1 c
    have l1 := loop_add (Q := Q) h hl ho l.length 0 s [] (by omega) (by unfold Ok; omega) (by simp)
    have ln := addL_len l s []
    rw [List.drop_zero] at l1
    generalize addL l s [] = r at *
    obtain ⟨d, t⟩ := r
    simp only [List.length_nil, Nat.zero_add] at ln
    have l2 := loop_at (Q := Q) (o := d) (by omega) t (insAt d t) 0 (by omega)
    have hle := insAt_le d t
    have ri : room 16 (d.length + 1) = true := room_le (by omega) (by omega)
    have hi : gInsP 2 16 [.ow 2 (d.map Sp.v), .int .i64 (insAt d t), .lt 2 [.agg [.int .i64 t.1, .int .i64 t.2]]] = some (.ow 2 ((insN d (insAt d t) t).map Sp.v)) := by
      simp only [gInsP]
      rw [if_pos ⟨trivial, trivial, by simp, by omega, by simpa using hle, by simpa using ri⟩]
      simp [insN, List.map_take, List.map_drop, Sp.v]
    have hc : callP (penv P1) (93 + 1000000) [.ow 2 (d.map Sp.v), .int .i64 (insAt d t), .lt 2 [.agg [.int .i64 t.1, .int .i64 t.2]]] Q = some (.ow 2 ((insN d (insAt d t) t).map Sp.v), Q) := by
      rw [callP_spec (g := gInsP 2 16) rfl, hi]; rfl
    simp only [Nat.reduceAdd] at hc
    simp only [show ((0 : Nat) : Int) = 0 from rfl, List.map_nil] at l1 l2
    simp [o, c, h.len, l1, l2, hc, L_span_Add_1_fold, L_span_Add_2_fold, p_span_Add_4, p_span_Add_3]
  · have c : may s = false := by simpa using c
    simp [o, c, c_cloneS h (by omega)]
theorem d_MaySp (s : Sp) : callP (penv P1) 70 [.agg [.int .i64 s.1, .int .i64 s.2]] Q = some (.bool (may s), Q) := by
  rw [f_pleachref1_MaySpan rfl]
  unfold may
  by_cases h1 : 1 ≤ s.1 <;> by_cases h2 : s.1 ≤ s.2 <;> by_cases h3 : s.2 ≤ 1000000 <;> simp [h1, h2, h3]
end
end Go.Proofs.Ytccgolmdhikdoaa.Pn
/- Logs: a plain model. -/
set_option linter.unusedVariables false
set_option linter.unusedSimpArgs false
namespace Go.Logs
open Go.Feed hiding Sp
open Go.Span
def evOk (e : Ev) : Bool := decide (e.kind = 1 ∧ e.hi = e.lo ∧ e.text.length ≤ 12 ∧ e.why = 0) || decide (e.kind = 2 ∧ e.lo ≤ e.hi ∧ e.text = [] ∧ (e.why = 1 ∨ e.why = 2))
def mayL : Int → List Ev → Bool
  | _, [] => true
  | n, e :: l => decide (e.lo = n) && evOk e && decide (e.hi ≤ 1000000) && mayL (e.hi + 1) l
def mayLog (l : List Ev) (n : Int) : Bool := decide (1 ≤ n) && mayL n l
def nextL (l : List Ev) (n : Int) : Int := match l.getLast? with
  | some e => e.hi + 1
  | none => n
theorem nextL_cons (e : Ev) (l : List Ev) (n : Int) : nextL (e :: l) n = nextL l (e.hi + 1) := by
  unfold nextL
  cases l with
  | nil => rfl
  | cons x l => rw [List.getLast?_cons_cons]; cases h : (x :: l).getLast? with
    | none => simp at h
    | some y => rfl
theorem nextL_append : ∀ (a b : List Ev) (n : Int), nextL (a ++ b) n = nextL b (nextL a n)
  | [], b, n => rfl
  | e :: a, b, n => by rw [List.cons_append, nextL_cons, nextL_cons, nextL_append a b]
theorem mayL_append : ∀ (a b : List Ev) (n : Int), mayL n (a ++ b) = (mayL n a && mayL (nextL a n) b)
  | [], b, n => by simp [mayL, nextL]
  | e :: a, b, n => by rw [List.cons_append, mayL, mayL, mayL_append a b, nextL_cons]; simp only [Bool.and_assoc]
theorem mayL_ge : ∀ {l : List Ev} {n : Int}, mayL n l = true → n ≤ nextL l n ∧ ∀ e ∈ l, n ≤ e.lo ∧ e.lo ≤ e.hi ∧ e.hi ≤ 1000000 ∧ e.hi < nextL l n ∧ evOk e = true
  | [], n, _ => by simp [nextL]
  | e :: l, n, h => by
    simp only [mayL, Bool.and_eq_true, decide_eq_true_eq] at h
    obtain ⟨⟨⟨h1, h2⟩, h3⟩, h4⟩ := h
    obtain ⟨g1, g2⟩ := mayL_ge h4
    rw [nextL_cons]
    have : e.lo ≤ e.hi := by
      simp only [evOk, Bool.or_eq_true, decide_eq_true_eq] at h2
      omega
    refine ⟨by omega, fun x hx => ?_⟩
    rcases List.mem_cons.1 hx with rfl | hx
    · exact ⟨by omega, this, h3, by omega, h2⟩
    · have := g2 x hx; exact ⟨by omega, this.2.1, this.2.2.1, this.2.2.2.1, this.2.2.2.2⟩
def gapsL : List Ev → List Sp → List Sp
  | [], out => out
  | e :: l, out => gapsL l (if e.kind = 2 then add out (e.lo, e.hi) else out)
def gapHas (l : List Ev) (k : Int) : Bool := l.any fun e => decide (e.kind = 2 ∧ e.lo ≤ k ∧ k ≤ e.hi)
theorem gaps_ok : ∀ {l : List Ev} {out : List Sp}, (∀ e ∈ l, 1 ≤ e.lo ∧ e.lo ≤ e.hi ∧ e.hi ≤ 1000000) → Gd out → Gd (gapsL l out) ∧ ∀ k, has (gapsL l out) k = (has out k || gapHas l k)
  | [], out, _, h => ⟨h, fun k => by simp [gapsL, gapHas]⟩
  | e :: l, out, hl, h => by
    have he := hl e List.mem_cons_self
    have hm : Span.may (e.lo, e.hi) = true := (may_iff _).2 he
    have := gaps_ok (l := l) (out := if e.kind = 2 then add out (e.lo, e.hi) else out) (fun x hx => hl x (List.mem_cons_of_mem _ hx)) (by split; exact add_gd h _; exact h)
    refine ⟨this.1, fun k => ?_⟩
    have t2 := this.2 k
    rw [gapsL, t2]
    have : gapHas (e :: l) k = (decide (e.kind = 2 ∧ e.lo ≤ k ∧ k ≤ e.hi) || gapHas l k) := rfl
    rw [this]
    split
    · rename_i c
      rw [add_eq h, if_pos hm, ins_has h (by exact he.2.1), Bool.or_assoc]; simp [c]
    · rename_i c; simp [c]
end Go.Logs
