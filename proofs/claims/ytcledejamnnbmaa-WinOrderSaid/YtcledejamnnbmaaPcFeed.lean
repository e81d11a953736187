/- What the functions of win, ring, log, nak, feed come to. -/
import Derived.Test.YtcledejamnnbmaaPse
import Derived.Test.YtcledejamnnbmaaPmFeed
set_option linter.unusedVariables false
set_option linter.unusedSimpArgs false
namespace Go.Proofs.Ytcledejamnnbmaa.Ps
open Go.Ab Go.Feed
set_option maxRecDepth 100000
def It.v (i : It) : AV := .agg [.int .i64 i.seq, .str i.text]
def Ev.v (e : Ev) : AV := .agg [.int .i64 e.kind, .int .i64 e.lo, .int .i64 e.hi, .str e.text, .int .i64 e.why]
def Sp.v (s : Sp) : AV := .agg [.int .i64 s.1, .int .i64 s.2]
@[simp] theorem It_v (i : It) : It.v i = .agg [.int .i64 i.seq, .str i.text] := rfl
abbrev its (l : List It) : AV := .fz 2 (l.map It.v)
abbrev evs (l : List Ev) : AV := .fz 5 (l.map Ev.v)
def Sl (z : Nat) (l : List AV) (v : AV) : Prop := v = .fz z l ∨ (v = .nils ∧ l = [])
theorem Sl.one {z l v} (h : Sl z l v) : AV.one v = true := by rcases h with rfl | ⟨rfl, _⟩ <;> rfl
theorem Sl.tup {z l v} (h : Sl z l v) : AV.isTup v = false := by rcases h with rfl | ⟨rfl, _⟩ <;> rfl
theorem Sl.len {z l v} (h : Sl z l v) : lenQ v = some (.int .i64 l.length) := by rcases h with rfl | ⟨rfl, rfl⟩ <;> rfl
theorem Sl.fz (z : Nat) (l : List AV) : Sl z l (.fz z l) := Or.inl rfl
theorem Sl.nil (z : Nat) : Sl z [] .nils := Or.inr ⟨rfl, rfl⟩
theorem Sl.clone {z l v} (h : Sl z l v) {y : Nat} (hr : room y l.length = true) : gClone z y [v] = some (.ow z l) := by
  rcases h with rfl | ⟨rfl, rfl⟩
  · simp [gClone, hr]
  · simp [gClone]
theorem Sl.get {z : Nat} {α : Type} {g : α → AV} {l : List α} {v} (h : Sl z (l.map g) v) {k : IntKind} {i : Nat} {x : α} (hx : l[i]? = some x) : elQ z v (.int k (i : Int)) = some (g x) := by
  rcases h with rfl | ⟨rfl, e⟩
  · exact elQ_at hx
  · have : l = [] := by simpa using e
    subst this; cases hx
def P1 : PSpecs := [(8, gYes), (21, gYes), (31, gClone 2 24), (27, gClone 2 16), (28 + tkey, gInsP 2 16), (35 + tkey, gInsP 2 24)]
theorem w64 {i : Int} (h : -9000000000000 ≤ i) (h2 : i ≤ 9000000000000) : IntKind.i64.wrap i = i := wrap_i64 (by omega) (by omega)
theorem wrap_u64 {i : Int} (h : 0 ≤ i) (h2 : i ≤ 9000000000000) : IntKind.u64.wrap i = i := by
  have : IntKind.u64.wrap i = i % 18446744073709551616 := rfl
  rw [this]; omega
theorem room_le {y n : Nat} (hy : y ≤ 100) (h : n ≤ 100000000) : room y n = true := room_lt (by
  have : n * (y + 1) ≤ 100000000 * 101 := Nat.mul_le_mul h (by omega)
  simp [maxBytes]; omega)
section
variable {Q : AHeap}
theorem c_cloneI {l : List It} {v : AV} (h : Sl 2 (l.map It.v) v) (hl : l.length ≤ 1000000) : callP (penv P1) 31 [v] Q = some (.ow 2 (l.map It.v), Q) := by
  rw [callP_spec (g := gClone 2 24) rfl, h.clone (room_le (by omega) (by simp; omega))]; rfl
def Fed.v (f : Fed) (r w l : AV) : AV := .agg [.int .i64 f.next, .int .i64 f.top, r, w, l, .int .i64 f.tries, .int .i64 f.due]
def Fed.z (f : Fed) : AV := Fed.v f (its f.ring) (its f.win) (evs f.log)
structure Sls (f : Fed) (r w l : AV) : Prop where
  r : Sl 2 (f.ring.map It.v) r
  w : Sl 2 (f.win.map It.v) w
  l : Sl 5 (f.log.map Ev.v) l
theorem c_isNaN (a : Int) : callP (penv P1) 39 [.int .i64 a] Q = some (.bool false, Q) := by
  rw [f_cmp_isNaN_int rfl]; simp
theorem c_Compare (a b : Int) : callP (penv P1) 34 [.int .i64 a, .int .i64 b] Q = some (.int .i64 (if a < b then -1 else if b < a then 1 else 0), Q) := by
  rw [f_cmp_Compare_int rfl]
  by_cases h1 : a < b <;> by_cases h2 : b < a <;> simp [c_isNaN, h1, h2]
theorem c_Put1 (x : It) (s : Int) : callP (penv P1) 33 [It.v x, .int .i64 s] Q = some (.int .i64 (if x.seq < s then -1 else if s < x.seq then 1 else 0), Q) := by
  rw [It_v, f_win_Put_1 rfl]
  simp [c_Compare]
theorem c_First {l : List It} {v : AV} (h : Sl 2 (l.map It.v) v) : callP (penv P1) 24 [v] Q = some (.int .i64 (first l), Q) := by
  rw [f_win_First rfl, h.len]
  cases l with
  | nil => simp [first]
  | cons x l =>
    have e := h.get (k := .i64) (i := 0) (x := x) rfl
    have n : ((l.length : Int) + 1 = 0) = False := eq_false (by omega)
    simp only [show ((0 : Nat) : Int) = 0 from rfl] at e
    simp [n, e, first]
theorem c_Take {l : List It} {v : AV} (h : Sl 2 (l.map It.v) v) (hl : l.length ≤ 1000000) (n : Int) : callP (penv P1) 23 [v, .int .i64 n] Q = some (match l with
    | [] => .tup [its [], .agg [.int .i64 0, .str []], .bool false]
    | x :: rest => if x.seq = n then .tup [its rest, It.v x, .bool true] else .tup [its (x :: rest), .agg [.int .i64 0, .str []], .bool false], Q) := by
  rw [f_win_Take rfl]
  cases l with
  | nil =>
    by_cases h0 : n = 0
    · subst h0; simp [c_cloneI h hl, c_First h, first, h.len]
    · simp [c_cloneI h hl, c_First h, first, h.len, Ne.symm h0]
  | cons x l =>
    have e := h.get (k := .i64) (i := 0) (x := x) rfl
    simp only [show ((0 : Nat) : Int) = 0 from rfl] at e
    have n0 : ((l.length : Int) + 1 = 0) = False := eq_false (by omega)
    have hs : slcQ 2 (.fz 2 (.agg [.int .i64 x.seq, .str x.text] :: l.map It.v)) (some (.int .i64 1)) none = some (.fz 2 (l.map It.v)) := by
      have h1 : (1 : Int) ≤ (l.length : Int) + 1 := by omega
      rw [slcQ_fz (by omega)]; simp [h1, List.take_of_length_le]
    by_cases hx : x.seq = n
    · subst hx
      simp [c_cloneI h hl, c_First h, first, h.len, n0, e, hs]
    · simp [c_cloneI h hl, c_First h, first, h.len, hx]
theorem loop_BS {l : List It} {v : AV} (h : Sl 2 (l.map It.v) v) (hl : l.length ≤ 900000) (hs : Sorted l) (s : Int) : ∀ (m i j : Nat), j - i ≤ m → i ≤ j → j ≤ l.length → (∀ k, k < i → (l.getD k default).seq < s) → (∀ k, j ≤ k → k < l.length → ¬ (l.getD k default).seq < s) →
    L_slices_BinarySearchFunc_api_Item_api_Item_int_0 P1 v (.int .i64 s) (.fn 33 [] []) (.int .i64 l.length) (.int .i64 i) (.int .i64 j) Q = X_slices_BinarySearchFunc_api_Item_api_Item_int_0_x0 v (.int .i64 s) (.fn 33 [] []) (.int .i64 l.length) (.int .i64 (posn l s)) Q := by
  intro m
  induction m with
  | zero =>
    intro i j hm hij hj h1 h2
    obtain rfl : i = j := by omega
    have hp : posn l s = i := posn_is hj h1 (fun hi => h2 i (Nat.le_refl _) hi)
    have c : ¬ ((i : Int) < i) := by omega
    rw [L_slices_BinarySearchFunc_api_Item_api_Item_int_0_eq, p_slices_BinarySearchFunc_api_Item_api_Item_int_0, hp]
    simp
  | succ m ih =>
    intro i j hm hij hj h1 h2
    by_cases hlt : i < j
    · have c : ((i : Int) < j) = True := eq_true (by omega)
      have w1 : IntKind.i64.wrap ((i : Int) + j) = (i : Int) + j := w64 (by omega) (by omega)
      have w2 : IntKind.u64.wrap ((i : Int) + j) = (i : Int) + j := wrap_u64 (by omega) (by omega)
      have hd : ((i : Int) + j).fdiv (2 ^ min 1 IntKind.u64.bits) = (((i + j) / 2 : Nat) : Int) := by
        rw [show (2 : Int) ^ min 1 IntKind.u64.bits = 2 from rfl, Int.fdiv_eq_ediv_of_nonneg _ (by omega)]; omega
      generalize hh : (i + j) / 2 = p at *
      have hp : p < l.length := by omega
      have w3 : IntKind.i64.wrap (p : Int) = p := w64 (by omega) (by omega)
      have w4 : IntKind.i64.wrap ((p : Int) + 1) = ((p + 1 : Nat) : Int) := by rw [w64 (by omega) (by omega)]; rfl
      have hx := getD_at (l := l) (k := p) hp
      have e := h.get (k := .i64) hx
      have cp := fun (Q : AHeap) => c_Put1 (Q := Q) (l.getD p default) s
      rw [It_v] at cp e
      rw [L_slices_BinarySearchFunc_api_Item_api_Item_int_0_eq, p_slices_BinarySearchFunc_api_Item_api_Item_int_0]
      by_cases hc : (l.getD p default).seq < s
      · have ih := ih (p + 1) j (by omega) (by omega) hj (fun k hk => by
          by_cases hk2 : k = p
          · subst hk2; exact hc
          · have := sorted_le hs (k := k) (m := p) (by omega) hp; omega) h2
        simp [c, w1, w2, hd, w3, w4, e, cp, hc, tkey_eq, -List.getD_eq_getElem?_getD, L_slices_BinarySearchFunc_api_Item_api_Item_int_0_fold]
        simpa using ih
      · have ih := ih i p (by omega) (by omega) (by omega) h1 (fun k hk hk2 => by
          by_cases hk3 : k = p
          · subst hk3; exact hc
          · have := sorted_le hs (k := p) (m := k) (by omega) hk2; omega)
        by_cases hc2 : s < (l.getD p default).seq
        · simp [c, w1, w2, hd, w3, w4, e, cp, hc, hc2, tkey_eq, -List.getD_eq_getElem?_getD, L_slices_BinarySearchFunc_api_Item_api_Item_int_0_fold]
          simpa using ih
        · simp [c, w1, w2, hd, w3, w4, e, cp, hc, hc2, tkey_eq, -List.getD_eq_getElem?_getD, L_slices_BinarySearchFunc_api_Item_api_Item_int_0_fold]
          simpa using ih
    · exact ih i j (by omega) hij hj h1 h2
theorem c_BS {l : List It} {v : AV} (h : Sl 2 (l.map It.v) v) (hl : l.length ≤ 900000) (hs : Sorted l) (s : Int) : callP (penv P1) 32 [v, .int .i64 s, .fn 33 [] []] Q = some (.tup [.int .i64 (posn l s), .bool (there l s)], Q) := by
  rw [f_slices_BinarySearchFunc_api_Item_api_Item_int rfl, h.len]
  have lp := loop_BS (Q := Q) h hl hs s l.length 0 l.length (by omega) (by omega) (Nat.le_refl _) (fun k hk => by omega) (fun k hk hk2 => by omega)
  rw [show ((0 : Nat) : Int) = 0 from rfl] at lp
  have ht := there_iff hs s
  simp [L_slices_BinarySearchFunc_api_Item_api_Item_int_0_fold, lp, p_slices_BinarySearchFunc_api_Item_api_Item_int_1]
  by_cases hp : posn l s < l.length
  · have hx := getD_at (l := l) (k := posn l s) hp
    have e := h.get (k := .i64) hx
    have cp := fun (Q : AHeap) => c_Put1 (Q := Q) (l.getD (posn l s) default) s
    rw [It_v] at cp e
    by_cases h1 : (l.getD (posn l s) default).seq = s
    · have ht : there l s = true := ht.2 ⟨hp, h1⟩
      have h2 : ¬ (l.getD (posn l s) default).seq < s := by omega
      have h3 : ¬ s < (l.getD (posn l s) default).seq := by omega
      simp [hp, e, cp, h2, h3, ht, tkey_eq, -List.getD_eq_getElem?_getD]
    · have ht : there l s = false := by
        cases hth : there l s with
        | false => rfl
        | true => exact absurd (ht.1 hth).2 h1
      by_cases h2 : (l.getD (posn l s) default).seq < s
      · simp [hp, e, cp, h2, ht, tkey_eq, -List.getD_eq_getElem?_getD]
      · have h3 : s < (l.getD (posn l s) default).seq := by omega
        simp [hp, e, cp, h2, h3, ht, tkey_eq, -List.getD_eq_getElem?_getD]
  · have ht : there l s = false := by
      cases hth : there l s with
      | false => rfl
      | true => exact absurd (ht.1 hth).1 hp
    simp [hp, ht]
theorem c_Put {l : List It} {v : AV} (h : Sl 2 (l.map It.v) v) (hl : l.length ≤ 800000) (hs : Sorted l) {n : Int} {x : It} (hn : -4000000000000 ≤ n ∧ n ≤ 4000000000000) (hx : -4000000000000 ≤ x.seq ∧ x.seq ≤ 4000000000000) :
    callP (penv P1) 22 [v, .int .i64 n, It.v x] Q = some (.tup [its (put l n x).1, .bool (put l n x).2], Q) := by
  rw [It_v, f_win_Put rfl]
  have bs := c_BS (Q := Q) h (by omega) hs x.seq
  have w := w64 (i := x.seq - n) (by omega) (by omega)
  have hp := posn_le l x.seq
  have ri : room 24 (l.length + 1) = true := room_le (by omega) (by omega)
  have hi : gInsP 2 24 [.ow 2 (l.map It.v), .int .i64 (posn l x.seq), .lt 2 [.agg [.int .i64 x.seq, .str x.text]]] = some (.ow 2 ((l.take (posn l x.seq) ++ [x] ++ l.drop (posn l x.seq)).map It.v)) := by
    simp only [gInsP]
    rw [if_pos ⟨trivial, trivial, by simp, by omega, by simpa using hp, by simpa using ri⟩]
    simp [List.map_take, List.map_drop]
  have hc : callP (penv P1) (35 + 1000000) [.ow 2 (l.map It.v), .int .i64 (posn l x.seq), .lt 2 [.agg [.int .i64 x.seq, .str x.text]]] Q = some (.ow 2 ((l.take (posn l x.seq) ++ [x] ++ l.drop (posn l x.seq)).map It.v), Q) := by
    rw [callP_spec (g := gInsP 2 24) rfl, hi]; rfl
  unfold put
  generalize l.take (posn l x.seq) ++ [x] ++ l.drop (posn l x.seq) = D at *
  by_cases c1 : there l x.seq = true
  · simp [c_cloneI h (by omega), bs, c1]
  · have c1 : there l x.seq = false := by simpa using c1
    by_cases c2 : x.seq < n
    · simp [c_cloneI h (by omega), bs, c1, c2]
    · by_cases c3 : 8 ≤ x.seq - n
      · simp [c_cloneI h (by omega), bs, c1, c2, w, c3]
      · simp only [Nat.reduceAdd] at hc
        simp [c_cloneI h (by omega), bs, c1, c2, w, c3, hc]
end
end Go.Proofs.Ytcledejamnnbmaa.Ps
