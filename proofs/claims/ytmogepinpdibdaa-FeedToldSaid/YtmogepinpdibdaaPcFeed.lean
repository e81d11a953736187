/- What the functions of win, ring, log, nak, feed come to. -/
import Derived.Test.YtmogepinpdibdaaPfe
import Derived.Test.YtmogepinpdibdaaPmFeed
set_option linter.unusedVariables false
set_option linter.unusedSimpArgs false
namespace Go.Proofs.Ytmogepinpdibdaa.Pf
open Go.Ab Go.Feed
set_option maxRecDepth 100000
def It.v (i : It) : AV := .agg [.int .i64 i.seq, .str i.text]
def Ev.v (e : Ev) : AV := .agg [.int .i64 e.kind, .int .i64 e.lo, .int .i64 e.hi, .str e.text, .int .i64 e.why]
def Sp.v (s : Sp) : AV := .agg [.int .i64 s.1, .int .i64 s.2]
@[simp] theorem It_v (i : It) : It.v i = .agg [.int .i64 i.seq, .str i.text] := rfl
abbrev its (l : List It) : AV := .fz 2 (l.map It.v)
abbrev evs (l : List Ev) : AV := .fz 5 (l.map Ev.v)
def Sl (z : Nat) (l : List AV) (v : AV) : Prop := v = .fz z l ∨ (v = .nils ∧ l = [])
theorem Sl.one {z l v} (h : Sl z l v) : AV.one v = true := by rcases h with rfl | ⟨rfl, _⟩ <;> rfl
theorem Sl.tup {z l v} (h : Sl z l v) : AV.isTup v = false := by rcases h with rfl | ⟨rfl, _⟩ <;> rfl
theorem Sl.len {z l v} (h : Sl z l v) : lenQ v = some (.int .i64 l.length) := by rcases h with rfl | ⟨rfl, rfl⟩ <;> rfl
theorem Sl.fz (z : Nat) (l : List AV) : Sl z l (.fz z l) := Or.inl rfl
theorem Sl.nil (z : Nat) : Sl z [] .nils := Or.inr ⟨rfl, rfl⟩
theorem Sl.clone {z l v} (h : Sl z l v) {y : Nat} (hr : room y l.length = true) : gClone z y [v] = some (.ow z l) := by
  rcases h with rfl | ⟨rfl, rfl⟩
  · simp [gClone, hr]
  · simp [gClone]
theorem Sl.get {z : Nat} {α : Type} {g : α → AV} {l : List α} {v} (h : Sl z (l.map g) v) {k : IntKind} {i : Nat} {x : α} (hx : l[i]? = some x) : elQ z v (.int k (i : Int)) = some (g x) := by
  rcases h with rfl | ⟨rfl, e⟩
  · exact elQ_at hx
  · have : l = [] := by simpa using e
    subst this; cases hx
def P1 : PSpecs := [(13, gYes), (36, gClone 5 48), (56, gClone 2 24), (68 + tkey, gInsP 2 24)]
theorem w64 {i : Int} (h : -9000000000000 ≤ i) (h2 : i ≤ 9000000000000) : IntKind.i64.wrap i = i := wrap_i64 (by omega) (by omega)
theorem wrap_u64 {i : Int} (h : 0 ≤ i) (h2 : i ≤ 9000000000000) : IntKind.u64.wrap i = i := by
  have : IntKind.u64.wrap i = i % 18446744073709551616 := rfl
  rw [this]; omega
theorem room_le {y n : Nat} (hy : y ≤ 100) (h : n ≤ 100000000) : room y n = true := room_lt (by
  have : n * (y + 1) ≤ 100000000 * 101 := Nat.mul_le_mul h (by omega)
  simp [maxBytes]; omega)
section
variable {Q : AHeap}
theorem c_cloneI {l : List It} {v : AV} (h : Sl 2 (l.map It.v) v) (hl : l.length ≤ 1000000) : callP (penv P1) 56 [v] Q = some (.ow 2 (l.map It.v), Q) := by
  rw [callP_spec (g := gClone 2 24) rfl, h.clone (room_le (by omega) (by simp; omega))]; rfl
theorem c_cloneE {l : List Ev} {v : AV} (h : Sl 5 (l.map Ev.v) v) (hl : l.length ≤ 1000000) : callP (penv P1) 36 [v] Q = some (.ow 5 (l.map Ev.v), Q) := by
  rw [callP_spec (g := gClone 5 48) rfl, h.clone (room_le (by omega) (by simp; omega))]; rfl
def Fed.v (f : Fed) (r w l : AV) : AV := .agg [.int .i64 f.next, .int .i64 f.top, r, w, l, .int .i64 f.tries, .int .i64 f.due]
def Fed.z (f : Fed) : AV := Fed.v f (its f.ring) (its f.win) (evs f.log)
structure Sls (f : Fed) (r w l : AV) : Prop where
  r : Sl 2 (f.ring.map It.v) r
  w : Sl 2 (f.win.map It.v) w
  l : Sl 5 (f.log.map Ev.v) l
theorem c_twin {f : Fed} {r w l : AV} (h : Sls f r w l) (hs : Small f) : callP (penv P1) 57 [Fed.v f r w l] Q = some (Fed.z f, Q) := by
  unfold Fed.v
  rw [f_nak_twin rfl]
  simp [h.r.one, h.w.one, h.l.one, c_cloneI h.r hs.r, c_cloneI h.w hs.w, c_cloneE h.l hs.l, Fed.z, Fed.v]
theorem c_ftwin {f : Fed} {r w l : AV} (h : Sls f r w l) (hs : Small f) : callP (penv P1) 37 [Fed.v f r w l] Q = some (Fed.z f, Q) := by
  unfold Fed.v
  rw [f_feed_twin rfl]
  simp [h.r.one, h.w.one, h.l.one, c_cloneI h.r hs.r, c_cloneI h.w hs.w, c_cloneE h.l hs.l, Fed.z, Fed.v]
theorem c_isNaN (a : Int) : callP (penv P1) 73 [.int .i64 a] Q = some (.bool false, Q) := by
  rw [f_cmp_isNaN_int rfl]; simp
theorem c_Compare (a b : Int) : callP (penv P1) 67 [.int .i64 a, .int .i64 b] Q = some (.int .i64 (if a < b then -1 else if b < a then 1 else 0), Q) := by
  rw [f_cmp_Compare_int rfl]
  by_cases h1 : a < b <;> by_cases h2 : b < a <;> simp [c_isNaN, h1, h2]
theorem c_Put1 (x : It) (s : Int) : callP (penv P1) 66 [It.v x, .int .i64 s] Q = some (.int .i64 (if x.seq < s then -1 else if s < x.seq then 1 else 0), Q) := by
  rw [It_v, f_win_Put_1 rfl]
  simp [c_Compare]
theorem c_First {l : List It} {v : AV} (h : Sl 2 (l.map It.v) v) : callP (penv P1) 69 [v] Q = some (.int .i64 (first l), Q) := by
  rw [f_win_First rfl, h.len]
  cases l with
  | nil => simp [first]
  | cons x l =>
    have e := h.get (k := .i64) (i := 0) (x := x) rfl
    have n : ((l.length : Int) + 1 = 0) = False := eq_false (by omega)
    simp only [show ((0 : Nat) : Int) = 0 from rfl] at e
    simp [n, e, first]
theorem c_Take {l : List It} {v : AV} (h : Sl 2 (l.map It.v) v) (hl : l.length ≤ 1000000) (n : Int) : callP (penv P1) 72 [v, .int .i64 n] Q = some (match l with
    | [] => .tup [its [], .agg [.int .i64 0, .str []], .bool false]
    | x :: rest => if x.seq = n then .tup [its rest, It.v x, .bool true] else .tup [its (x :: rest), .agg [.int .i64 0, .str []], .bool false], Q) := by
  rw [f_win_Take rfl]
  cases l with
  | nil =>
    by_cases h0 : n = 0
    · subst h0; simp [c_cloneI h hl, c_First h, first, h.len]
    · simp [c_cloneI h hl, c_First h, first, h.len, Ne.symm h0]
  | cons x l =>
    have e := h.get (k := .i64) (i := 0) (x := x) rfl
    simp only [show ((0 : Nat) : Int) = 0 from rfl] at e
    have n0 : ((l.length : Int) + 1 = 0) = False := eq_false (by omega)
    have hs : slcQ 2 (.fz 2 (.agg [.int .i64 x.seq, .str x.text] :: l.map It.v)) (some (.int .i64 1)) none = some (.fz 2 (l.map It.v)) := by
      have h1 : (1 : Int) ≤ (l.length : Int) + 1 := by omega
      rw [slcQ_fz (by omega)]; simp [h1, List.take_of_length_le]
    by_cases hx : x.seq = n
    · subst hx
      simp [c_cloneI h hl, c_First h, first, h.len, n0, e, hs]
    · simp [c_cloneI h hl, c_First h, first, h.len, hx]
theorem c_Tell {l : List Ev} {v : AV} (h : Sl 5 (l.map Ev.v) v) (hl : l.length ≤ 900000) (i : It) : callP (penv P1) 45 [v, .int .i64 i.seq, .str i.text] Q = some (.ow 5 ((l ++ [told i]).map Ev.v), Q) := by
  rw [f_log_Tell rfl]
  have r : room 48 (l.length + 1) = true := room_le (by omega) (by omega)
  simp [c_cloneE h (by omega), r, Ev.v, told]
theorem c_Skip {l : List Ev} {v : AV} (h : Sl 5 (l.map Ev.v) v) (hl : l.length ≤ 900000) (lo hi why : Int) : callP (penv P1) 59 [v, .int .i64 lo, .int .i64 hi, .int .i64 why] Q = some (.ow 5 ((l ++ [gapE lo hi why]).map Ev.v), Q) := by
  rw [f_log_Skip rfl]
  have r : room 48 (l.length + 1) = true := room_le (by omega) (by omega)
  simp [c_cloneE h (by omega), r, Ev.v, gapE]
theorem c_ringAdd {l : List It} {v : AV} (h : Sl 2 (l.map It.v) v) (hl : l.length ≤ 900000) (i : It) : callP (penv P1) 46 [v, It.v i] Q = some (.ow 2 ((ringAdd l i).map It.v), Q) := by
  rw [It_v, f_ring_Add rfl]
  have r : room 24 (l.length + 1) = true := room_le (by omega) (by omega)
  have w6 := w64 (i := (l.length : Int) + 1 - 6) (by omega) (by omega)
  have hs : slcQ 2 (.fz 2 (l.map It.v ++ [.agg [.int .i64 i.seq, .str i.text]])) (some (.int .i64 (max ((l.length : Int) + 1 - 6) 0))) none = some (its ((l ++ [i]).drop (l.length + 1 - 6))) := by
    have b : (0 ≤ max ((l.length : Int) + 1 - 6) 0 ∧ max ((l.length : Int) + 1 - 6) 0 ≤ (l.length : Int) + 1) = True := eq_true (by omega)
    have t : (max ((l.length : Int) + 1 - 6) 0).toNat = l.length + 1 - 6 := by omega
    rw [slcQ_fz (by omega)]
    simp only [bndo_none, bndo_int, List.length_append, List.length_map, List.length_singleton, Int.natCast_add, Int.natCast_one, b, if_true, t]
    rw [List.take_of_length_le (by simp), its, List.map_drop, List.map_append]; rfl
  have hc : callP (penv P1) 56 [its ((l ++ [i]).drop (l.length + 1 - 6))] Q = some (.ow 2 (((l ++ [i]).drop (l.length + 1 - 6)).map It.v), Q) := c_cloneI (Sl.fz 2 _) (by simp; omega)
  unfold ringAdd
  generalize (l ++ [i]).drop (l.length + 1 - 6) = D at *
  cases hn : l.length with
  | zero =>
    have : l = [] := List.length_eq_zero_iff.1 hn
    subst this
    simp at hs r
    simp [c_cloneI h (by omega), h.len, r, w64, hs, hc]
  | succ n =>
    have hx := getD_at (l := l) (k := n) (by omega)
    have e := h.get (k := .i64) hx
    have w1' : IntKind.i64.wrap (n : Int) = n := w64 (by omega) (by omega)
    rw [hn] at r w6 hs
    simp only [Int.natCast_add, Int.natCast_one] at r w6 hs
    have z : (0 : Int) < (n : Int) + 1 := by omega
    by_cases c : i.seq ≤ (l.getD n default).seq
    · simp [c_cloneI h (by omega), h.len, hn, z, w1', e, c, -List.getD_eq_getElem?_getD]
    · simp [c_cloneI h (by omega), h.len, hn, z, w1', e, c, -List.getD_eq_getElem?_getD, r, w6, hs, hc]
theorem loop_BS {l : List It} {v : AV} (h : Sl 2 (l.map It.v) v) (hl : l.length ≤ 900000) (hs : Sorted l) (s : Int) : ∀ (m i j : Nat), j - i ≤ m → i ≤ j → j ≤ l.length → (∀ k, k < i → (l.getD k default).seq < s) → (∀ k, j ≤ k → k < l.length → ¬ (l.getD k default).seq < s) →
    L_slices_BinarySearchFunc_api_Item_api_Item_int_0 P1 v (.int .i64 s) (.fn 66 [] []) (.int .i64 l.length) (.int .i64 i) (.int .i64 j) Q = X_slices_BinarySearchFunc_api_Item_api_Item_int_0_x0 v (.int .i64 s) (.fn 66 [] []) (.int .i64 l.length) (.int .i64 (posn l s)) Q := by
  intro m
  induction m with
  | zero =>
    intro i j hm hij hj h1 h2
    obtain rfl : i = j := by omega
    have hp : posn l s = i := posn_is hj h1 (fun hi => h2 i (Nat.le_refl _) hi)
    have c : ¬ ((i : Int) < i) := by omega
    rw [L_slices_BinarySearchFunc_api_Item_api_Item_int_0_eq, p_slices_BinarySearchFunc_api_Item_api_Item_int_0, hp]
    simp
  | succ m ih =>
    intro i j hm hij hj h1 h2
    by_cases hlt : i < j
    · have c : ((i : Int) < j) = True := eq_true (by omega)
      have w1 : IntKind.i64.wrap ((i : Int) + j) = (i : Int) + j := w64 (by omega) (by omega)
      have w2 : IntKind.u64.wrap ((i : Int) + j) = (i : Int) + j := wrap_u64 (by omega) (by omega)
      have hd : ((i : Int) + j).fdiv (2 ^ min 1 IntKind.u64.bits) = (((i + j) / 2 : Nat) : Int) := by
        rw [show (2 : Int) ^ min 1 IntKind.u64.bits = 2 from rfl, Int.fdiv_eq_ediv_of_nonneg _ (by omega)]; omega
      generalize hh : (i + j) / 2 = p at *
      have hp : p < l.length := by omega
      have w3 : IntKind.i64.wrap (p : Int) = p := w64 (by omega) (by omega)
      have w4 : IntKind.i64.wrap ((p : Int) + 1) = ((p + 1 : Nat) : Int) := by rw [w64 (by omega) (by omega)]; rfl
      have hx := getD_at (l := l) (k := p) hp
      have e := h.get (k := .i64) hx
      have cp := fun (Q : AHeap) => c_Put1 (Q := Q) (l.getD p default) s
      rw [It_v] at cp e
      rw [L_slices_BinarySearchFunc_api_Item_api_Item_int_0_eq, p_slices_BinarySearchFunc_api_Item_api_Item_int_0]
      by_cases hc : (l.getD p default).seq < s
      · have ih := ih (p + 1) j (by omega) (by omega) hj (fun k hk => by
          by_cases hk2 : k = p
          · subst hk2; exact hc
          · have := sorted_le hs (k := k) (m := p) (by omega) hp; omega) h2
        simp [c, w1, w2, hd, w3, w4, e, cp, hc, tkey_eq, -List.getD_eq_getElem?_getD, L_slices_BinarySearchFunc_api_Item_api_Item_int_0_fold]
        simpa using ih
      · have ih := ih i p (by omega) (by omega) (by omega) h1 (fun k hk hk2 => by
          by_cases hk3 : k = p
          · subst hk3; exact hc
          · have := sorted_le hs (k := p) (m := k) (by omega) hk2; omega)
        by_cases hc2 : s < (l.getD p default).seq
        · simp [c, w1, w2, hd, w3, w4, e, cp, hc, hc2, tkey_eq, -List.getD_eq_getElem?_getD, L_slices_BinarySearchFunc_api_Item_api_Item_int_0_fold]
          simpa using ih
        · simp [c, w1, w2, hd, w3, w4, e, cp, hc, hc2, tkey_eq, -List.getD_eq_getElem?_getD, L_slices_BinarySearchFunc_api_Item_api_Item_int_0_fold]
          simpa using ih
    · exact ih i j (by omega) hij hj h1 h2
theorem c_BS {l : List It} {v : AV} (h : Sl 2 (l.map It.v) v) (hl : l.length ≤ 900000) (hs : Sorted l) (s : Int) : callP (penv P1) 65 [v, .int .i64 s, .fn 66 [] []] Q = some (.tup [.int .i64 (posn l s), .bool (there l s)], Q) := by
  rw [f_slices_BinarySearchFunc_api_Item_api_Item_int rfl, h.len]
  have lp := loop_BS (Q := Q) h hl hs s l.length 0 l.length (by omega) (by omega) (Nat.le_refl _) (fun k hk => by omega) (fun k hk hk2 => by omega)
  rw [show ((0 : Nat) : Int) = 0 from rfl] at lp
  have ht := there_iff hs s
  simp [L_slices_BinarySearchFunc_api_Item_api_Item_int_0_fold, lp, p_slices_BinarySearchFunc_api_Item_api_Item_int_1]
  by_cases hp : posn l s < l.length
  · have hx := getD_at (l := l) (k := posn l s) hp
    have e := h.get (k := .i64) hx
    have cp := fun (Q : AHeap) => c_Put1 (Q := Q) (l.getD (posn l s) default) s
    rw [It_v] at cp e
    by_cases h1 : (l.getD (posn l s) default).seq = s
    · have ht : there l s = true := ht.2 ⟨hp, h1⟩
      have h2 : ¬ (l.getD (posn l s) default).seq < s := by omega
      have h3 : ¬ s < (l.getD (posn l s) default).seq := by omega
      simp [hp, e, cp, h2, h3, ht, tkey_eq, -List.getD_eq_getElem?_getD]
    · have ht : there l s = false := by
        cases hth : there l s with
        | false => rfl
        | true => exact absurd (ht.1 hth).2 h1
      by_cases h2 : (l.getD (posn l s) default).seq < s
      · simp [hp, e, cp, h2, ht, tkey_eq, -List.getD_eq_getElem?_getD]
      · have h3 : s < (l.getD (posn l s) default).seq := by omega
        simp [hp, e, cp, h2, h3, ht, tkey_eq, -List.getD_eq_getElem?_getD]
  · have ht : there l s = false := by
      cases hth : there l s with
      | false => rfl
      | true => exact absurd (ht.1 hth).1 hp
    simp [hp, ht]
theorem c_Put {l : List It} {v : AV} (h : Sl 2 (l.map It.v) v) (hl : l.length ≤ 800000) (hs : Sorted l) {n : Int} {x : It} (hn : -4000000000000 ≤ n ∧ n ≤ 4000000000000) (hx : -4000000000000 ≤ x.seq ∧ x.seq ≤ 4000000000000) :
    callP (penv P1) 43 [v, .int .i64 n, It.v x] Q = some (.tup [its (put l n x).1, .bool (put l n x).2], Q) := by
  rw [It_v, f_win_Put rfl]
  have bs := c_BS (Q := Q) h (by omega) hs x.seq
  have w := w64 (i := x.seq - n) (by omega) (by omega)
  have hp := posn_le l x.seq
  have ri : room 24 (l.length + 1) = true := room_le (by omega) (by omega)
  have hi : gInsP 2 24 [.ow 2 (l.map It.v), .int .i64 (posn l x.seq), .lt 2 [.agg [.int .i64 x.seq, .str x.text]]] = some (.ow 2 ((l.take (posn l x.seq) ++ [x] ++ l.drop (posn l x.seq)).map It.v)) := by
    simp only [gInsP]
    rw [if_pos ⟨trivial, trivial, by simp, by omega, by simpa using hp, by simpa using ri⟩]
    simp [List.map_take, List.map_drop]
  have hc : callP (penv P1) (68 + 1000000) [.ow 2 (l.map It.v), .int .i64 (posn l x.seq), .lt 2 [.agg [.int .i64 x.seq, .str x.text]]] Q = some (.ow 2 ((l.take (posn l x.seq) ++ [x] ++ l.drop (posn l x.seq)).map It.v), Q) := by
    rw [callP_spec (g := gInsP 2 24) rfl, hi]; rfl
  unfold put
  generalize l.take (posn l x.seq) ++ [x] ++ l.drop (posn l x.seq) = D at *
  by_cases c1 : there l x.seq = true
  · simp [c_cloneI h (by omega), bs, c1]
  · have c1 : there l x.seq = false := by simpa using c1
    by_cases c2 : x.seq < n
    · simp [c_cloneI h (by omega), bs, c1, c2]
    · by_cases c3 : 8 ≤ x.seq - n
      · simp [c_cloneI h (by omega), bs, c1, c2, w, c3]
      · simp only [Nat.reduceAdd] at hc
        simp [c_cloneI h (by omega), bs, c1, c2, w, c3, hc]
theorem loop_tells {c0 c1 c2 c3 c4 c5 c6 : AV} : ∀ (w : List It) (f : Fed) (o : List It), f.win = w → f.ring.length + w.length ≤ 800000 → f.log.length + w.length ≤ 800000 → o.length + w.length ≤ 800000 → -4000000000000 ≤ f.next → f.next + w.length ≤ 4000000000000 →
    L_nak_tells_0 P1 (.int .i64 f.next) (.int .i64 f.top) (its f.ring) (its w) (evs f.log) (.int .i64 f.tries) (.int .i64 f.due) c0 c1 c2 c3 c4 c5 c6 (o.map It.v) Q =
      X_nak_tells_0_x0 (.int .i64 (goesL w f).1.next) (.int .i64 (goesL w f).1.top) (its (goesL w f).1.ring) (its (goesL w f).1.win) (evs (goesL w f).1.log) (.int .i64 (goesL w f).1.tries) (.int .i64 (goesL w f).1.due) c0 c1 c2 c3 c4 c5 c6 ((o ++ (goesL w f).2).map It.v) Q := by
  intro w
  induction w with
  | nil =>
    intro f o hw h1 h2 h3 h4 h5
    have t := fun (Q : AHeap) => c_Take (Q := Q) (v := its []) (Sl.fz 2 (([] : List It).map It.v)) (by simp) f.next
    rw [L_nak_tells_0_eq, p_nak_tells_0]
    simp [t, goesL]
  | cons x w ih =>
    intro f o hw h1 h2 h3 h4 h5
    simp only [List.length_cons] at h1 h2 h3 h5
    have t := fun (Q : AHeap) => c_Take (Q := Q) (v := its (x :: w)) (Sl.fz 2 ((x :: w).map It.v)) (by simp; omega) f.next
    rw [L_nak_tells_0_eq, p_nak_tells_0]
    simp only [It_v] at t
    by_cases hx : x.seq = f.next
    · have tl := fun (Q : AHeap) => c_Tell (Q := Q) (v := evs f.log) (Sl.fz 5 (f.log.map Ev.v)) (by omega) x
      have ra := fun (Q : AHeap) => c_ringAdd (Q := Q) (v := its f.ring) (Sl.fz 2 (f.ring.map It.v)) (by omega) x
      rw [It_v] at ra
      have wn := w64 (i := f.next + 1) (by omega) (by omega)
      have rm : room 24 (o.length + 1) = true := room_le (by omega) (by omega)
      have rl := ringAdd_len f.ring x
      have ih := ih (take1 f x w) (o ++ [x]) rfl (by simp only [take1]; omega) (by simp only [take1, List.length_append, List.length_singleton]; omega) (by simp only [List.length_append, List.length_singleton]; omega) (by simp only [take1]; omega) (by simp only [take1]; omega)
      simp only [goesL, if_pos hx]
      simp only [if_pos hx] at t
      simp only [List.append_assoc, List.singleton_append] at ih
      rw [show (goesL w (take1 f x w)) = (goesL w (take1 f x w)) from rfl] at ih
      generalize goesL w (take1 f x w) = G at *
      simp only [take1] at ih
      simp [t, tl, ra, wn, rm, L_nak_tells_0_fold]
      simpa [its, evs] using ih
    · simp only [if_neg hx] at t
      simp [t, hx, goesL]
theorem sls_z (f : Fed) : Sls f (its f.ring) (its f.win) (evs f.log) := ⟨Sl.fz 2 _, Sl.fz 2 _, Sl.fz 5 _⟩
theorem c_Start : callP (penv P1) 61 [] Q = some (.agg [.int .i64 0, .int .i64 0], Q) := by rw [f_wait_Start rfl]
theorem c_tells {f : Fed} {k : Nat} (h : Bd f k) : callP (penv P1) 60 [Fed.z f] Q = some (.tup [Fed.z f.tells.1, its f.tells.2], Q) := by
  unfold Fed.z Fed.v
  rw [f_nak_tells rfl]
  have b := h.r
  have b2 := h.l
  have b3 := h.n0
  have b4 := h.n1
  have lp := fun c0 c1 c2 c3 c4 c5 c6 => loop_tells (Q := Q) (c0 := c0) (c1 := c1) (c2 := c2) (c3 := c3) (c4 := c4) (c5 := c5) (c6 := c6) f.win f [] rfl (by omega) (by omega) (by simp; omega) (by omega) (by omega)
  simp only [List.map_nil, List.nil_append] at lp
  unfold Fed.tells
  generalize goesL f.win f = G at *
  obtain ⟨g, o⟩ := G
  simp only at lp
  cases o with
  | nil => simp [L_nak_tells_0_fold, lp, p_nak_tells_2, p_nak_tells_1]
  | cons x o =>
    have c : (0 : Int) < (o.length : Int) + 1 := by omega
    simp [L_nak_tells_0_fold, lp, p_nak_tells_2, p_nak_tells_1, c, c_Start, Fed.rest]
theorem c_Goes {f : Fed} {k : Nat} (h : Bd f k) {r w l : AV} (hs : Sls f r w l) : callP (penv P1) 39 [Fed.v f r w l] Q = some (.tup [Fed.z f.tells.1, its f.tells.2], Q) := by
  have ct := fun (Q : AHeap) => c_twin (Q := Q) hs h.small
  have tl := fun (Q : AHeap) => c_tells (Q := Q) h
  unfold Fed.v at ct ⊢
  rw [f_nak_Goes rfl]
  simp only [Fed.z, Fed.v] at ct tl ⊢
  simp [hs.r.one, hs.w.one, hs.l.one, ct, tl]
theorem loop_IF {l : List It} {v : AV} (h : Sl 2 (l.map It.v) v) (hl : l.length ≤ 900000) {cs : List AV} {n : Int} (hc : cs[0]? = some (.int .i64 n)) : ∀ (m i : Nat), i + m = l.length →
    L_slices_IndexFunc_api_Item_api_Item_0 P1 v (.fn 71 [] [.cp cs 0]) (.int .i64 l.length) (.int .i64 i) Q = X_slices_IndexFunc_api_Item_api_Item_0_ret (.int .i64 (ifR l n m i)) Q ∨
    (L_slices_IndexFunc_api_Item_api_Item_0 P1 v (.fn 71 [] [.cp cs 0]) (.int .i64 l.length) (.int .i64 i) Q = X_slices_IndexFunc_api_Item_api_Item_0_x0 Q ∧ ifR l n m i = -1) := by
  intro m
  induction m with
  | zero =>
    intro i hi
    right
    have c : ¬ ((i : Int) < l.length) := by omega
    refine ⟨?_, rfl⟩
    rw [L_slices_IndexFunc_api_Item_api_Item_0_eq, p_slices_IndexFunc_api_Item_api_Item_0]
    simp [c]
  | succ m ih =>
    intro i hi
    have c : ((i : Int) < l.length) = True := eq_true (by omega)
    have hx := getD_at (l := l) (k := i) (by omega)
    have e := h.get (k := .i64) hx
    have w := w64 (i := (i : Int) + 1) (by omega) (by omega)
    have cc : ∀ (Q : AHeap) (x : It), callP (penv P1) 71 [It.v x, .cp cs 0] Q = some (.bool (decide (n ≤ x.seq)), Q) := fun Q x => by
      rw [It_v, f_nak_ahead_1 rfl]
      simp [hc]
    have cc := fun (Q : AHeap) => cc Q (l.getD i default)
    rw [It_v] at cc e
    unfold ifR
    rw [L_slices_IndexFunc_api_Item_api_Item_0_eq, p_slices_IndexFunc_api_Item_api_Item_0]
    by_cases c1 : n ≤ (l.getD i default).seq
    · left; simp [c, e, cc, c1, tkey_eq, -List.getD_eq_getElem?_getD]
    · have := ih (i + 1) (by omega)
      simp [c, e, cc, c1, tkey_eq, w, -List.getD_eq_getElem?_getD, L_slices_IndexFunc_api_Item_api_Item_0_fold]
      simpa using this
theorem c_IF {l : List It} {v : AV} (h : Sl 2 (l.map It.v) v) (hl : l.length ≤ 900000) {cs : List AV} {n : Int} (hc : cs[0]? = some (.int .i64 n)) : callP (penv P1) 70 [v, .fn 71 [] [.cp cs 0]] Q = some (.int .i64 (ifR l n l.length 0), Q) := by
  rw [f_slices_IndexFunc_api_Item_api_Item rfl, h.len]
  have lp := loop_IF (Q := Q) h hl hc l.length 0 (by omega)
  rw [show ((0 : Nat) : Int) = 0 from rfl] at lp
  simp [L_slices_IndexFunc_api_Item_api_Item_0_fold]
  rcases lp with e | ⟨e, e2⟩
  · simp [e]
  · simp [e, e2, p_slices_IndexFunc_api_Item_api_Item_1]
theorem c_ahead {f : Fed} {r w l : AV} (hs : Sls f r w l) (hw : f.win.length ≤ 900000) (hx : ∀ x ∈ f.win, -4000000000 ≤ x.seq ∧ x.seq ≤ 4000000000) (hi : Int) :
    callP (penv P1) 58 [Fed.v f r w l, .int .i64 hi] Q = some (.tup [.int .i64 (fahead f hi).1, .bool (fahead f hi).2], Q) := by
  unfold Fed.v
  rw [f_nak_ahead rfl]
  have ci := fun (Q : AHeap) => c_IF (Q := Q) hs.w hw (cs := [.int .i64 f.next, .int .i64 f.top, r, w, l, .int .i64 f.tries, .int .i64 f.due]) (n := f.next) rfl
  have hf := ifR_find f.win f.next f.win.length 0 (by omega)
  unfold fahead
  simp only [List.drop_zero] at hf
  rcases hf with ⟨e1, e2⟩ | ⟨k, e1, e2, e3⟩
  · rw [e1] at ci
    simp [hs.r.one, hs.w.one, hs.l.one, ci, e2]
  · rw [e1] at ci
    have hk := getD_at e2
    have e := hs.w.get (k := .i64) hk
    have hm : f.win.getD k default ∈ f.win := List.mem_of_getElem? hk
    have hb := hx _ hm
    have w1 := w64 (i := (f.win.getD k default).seq - 1) (by omega) (by omega)
    have z : ¬ ((k : Int) < 0) := by omega
    by_cases c : (f.win.getD k default).seq ≤ hi
    · simp [hs.r.one, hs.w.one, hs.l.one, ci, e3, e, z, c, w1, -List.getD_eq_getElem?_getD]
    · have c' : hi < (f.win.getD k default).seq := by omega
      simp [hs.r.one, hs.w.one, hs.l.one, ci, e3, e, z, c, c', w1, -List.getD_eq_getElem?_getD]
theorem loop_Skips {hi why : Int} (hh : hi ≤ 1000000) {c0 c1 c2 c3 c4 c5 c6 t9 : AV} : ∀ (n : Nat) (f : Fed) (out : List Sp) (g : Fed) (o : List Sp), skipsN n f hi why out = some (g, o) → Bd f 2 → out.length + f.win.length + 1 ≤ 800000 →
    L_nak_Skips_1 P1 (.int .i64 hi) (.int .i64 why) t9 (.int .i64 f.next) (.int .i64 f.top) (its f.ring) (its f.win) (evs f.log) (.int .i64 f.tries) (.int .i64 f.due) c0 c1 c2 c3 c4 c5 c6 (out.map Sp.v) Q =
      X_nak_Skips_1_x0 t9 (.int .i64 g.next) (.int .i64 g.top) (its g.ring) (its g.win) (evs g.log) (.int .i64 g.tries) (.int .i64 g.due) c0 c1 c2 c3 c4 c5 c6 (o.map Sp.v) Q := by
  intro n
  induction n with
  | zero => intro f out g o h; cases h
  | succ n ih =>
    intro f out g o h hb ho
    unfold skipsN at h
    rw [L_nak_Skips_1_eq, p_nak_Skips_1]
    by_cases c : f.next ≤ hi
    · rw [if_pos c] at h
      have ca := fun (Q : AHeap) => c_ahead (Q := Q) (sls_z f) (by have := hb.r; omega) hb.w hi
      have hle := fahead_le (f := f) (hi := hi)
      simp only at h
      unfold Fed.v at ca
      generalize fahead f hi = a at *
      obtain ⟨last, is⟩ := a
      simp only at h ca hle
      have rm : room 16 (out.length + 1) = true := room_le (by omega) (by omega)
      by_cases c1 : f.next ≤ last
      · have sk := fun (Q : AHeap) => c_Skip (Q := Q) (v := evs f.log) (Sl.fz 5 _) (by have := hb.l; omega) f.next last why
        have w := w64 (i := last + 1) (by have := hb.n0; omega) (by omega)
        have b1 : Bd (skip1 f last why) 1 := hb.skip c1 (by omega)
        simp only [if_pos c1] at h
        cases is with
        | false =>
          simp only [Bool.false_eq_true, if_false, Option.some.injEq, Prod.mk.injEq] at h
          obtain ⟨rfl, rfl⟩ := h
          simp only [skip1]
          generalize f.log ++ [gapE f.next last why] = L at *
          simp [c, ca, c1, sk, rm, w, p_nak_Skips_0, Sp.v]
        | true =>
          have tl := fun (Q : AHeap) => c_tells (Q := Q) b1
          have tb := b1.tells
          simp only [if_true] at h
          simp only [Fed.z, Fed.v] at tl
          rw [show (skip1 f last why).win = f.win from rfl] at tb
          have ih := ih (skip1 f last why).tells.1 (out ++ [(f.next, last)]) g o
          generalize (skip1 f last why).tells = T at *
          obtain ⟨T, items⟩ := T
          simp only [skip1] at tl h tb ih
          generalize f.log ++ [gapE f.next last why] = L at *
          cases items with
          | nil =>
            simp only [if_true, Option.some.injEq, Prod.mk.injEq] at h
            obtain ⟨rfl, rfl⟩ := h
            simp [c, ca, c1, sk, rm, w, p_nak_Skips_0, tl, Sp.v]
          | cons x items =>
            have ne : (x :: items = []) = False := eq_false (by simp)
            simp only [ne, if_false] at h
            have l1 := tb.2
            simp only [List.length_cons] at l1 tb
            have ih := ih h (tb.1.weaken (by omega)) (by simp only [List.length_append, List.length_singleton]; omega)
            have nz : ((items.length : Int) + 1 = 0) = False := eq_false (by omega)
            simp [c, ca, c1, sk, rm, w, p_nak_Skips_0, tl, Sp.v, nz, L_nak_Skips_1_fold]
            simpa [its, evs, Sp.v] using ih
      · simp only [if_neg c1] at h
        cases is with
        | false =>
          simp only [Bool.false_eq_true, if_false, Option.some.injEq, Prod.mk.injEq] at h
          obtain ⟨rfl, rfl⟩ := h
          simp [c, ca, c1, p_nak_Skips_0]
        | true =>
          have tl := fun (Q : AHeap) => c_tells (Q := Q) hb
          have tb := hb.tells
          simp only [if_true] at h
          simp only [Fed.z, Fed.v] at tl
          have ih := ih f.tells.1 out g o
          generalize f.tells = T at *
          obtain ⟨T, items⟩ := T
          simp only at tl h tb ih
          cases items with
          | nil =>
            simp only [if_true, Option.some.injEq, Prod.mk.injEq] at h
            obtain ⟨rfl, rfl⟩ := h
            simp [c, ca, c1, p_nak_Skips_0, tl]
          | cons x items =>
            have ne : (x :: items = []) = False := eq_false (by simp)
            simp only [ne, if_false] at h
            have l1 := tb.2
            simp only [List.length_cons] at l1 tb
            have ih := ih h (tb.1.weaken (by omega)) (by omega)
            have nz : ((items.length : Int) + 1 = 0) = False := eq_false (by omega)
            simp [c, ca, c1, p_nak_Skips_0, tl, nz, L_nak_Skips_1_fold]
            simpa [its, evs, Sp.v] using ih
    · rw [if_neg c] at h
      simp only [Option.some.injEq, Prod.mk.injEq] at h
      obtain ⟨rfl, rfl⟩ := h
      simp [c]
theorem c_Skips {f : Fed} (hb : Bd f 2) {r w l : AV} (hs : Sls f r w l) (hi why : Int) : callP (penv P1) 38 [Fed.v f r w l, .int .i64 hi, .int .i64 why] Q = some (.tup [Fed.z (skips f hi why).1, .fz 2 ((skips f hi why).2.map Sp.v)], Q) := by
  have ct := fun (Q : AHeap) => c_twin (Q := Q) hs hb.small
  unfold Fed.v at ct ⊢
  rw [f_nak_Skips rfl]
  simp only [Fed.z, Fed.v] at ct ⊢
  unfold skips
  by_cases c1 : f.next < 1
  · simp [hs.r.one, hs.w.one, hs.l.one, ct, c1]
  · by_cases c2 : 1000000 < hi
    · simp [hs.r.one, hs.w.one, hs.l.one, ct, c1, c2]
    · obtain ⟨⟨g, o⟩, e⟩ := skipsN_some (hi := hi) (why := why) (f.win.length + 1) f [] (by omega)
      have lp := fun c0 c1 c2 c3 c4 c5 c6 => loop_Skips (Q := Q) (hi := hi) (why := why) (by omega) (t9 := .int .i64 f.next) (c0 := c0) (c1 := c1) (c2 := c2) (c3 := c3) (c4 := c4) (c5 := c5) (c6 := c6) (f.win.length + 1) f [] g o e hb (by have := hb.r; simp; omega)
      simp only [List.map_nil] at lp
      by_cases c3 : g.next = f.next
      · simp [hs.r.one, hs.w.one, hs.l.one, ct, c1, c2, e, L_nak_Skips_1_fold, lp, p_nak_Skips_3, p_nak_Skips_2, c3]
      · simp [hs.r.one, hs.w.one, hs.l.one, ct, c1, c2, e, L_nak_Skips_1_fold, lp, p_nak_Skips_3, p_nak_Skips_2, c3, c_Start, Fed.rest]
end
end Go.Proofs.Ytmogepinpdibdaa.Pf
