/- What serves; who has a number. -/
import Derived.Test.YtccgolmdhikdoaaPcSpan2
import Derived.Test.YtccgolmdhikdoaaPcFeed4
import Derived.Test.YtccgolmdhikdoaaPmServ
set_option linter.unusedVariables false
set_option linter.unusedSimpArgs false
namespace Go.Proofs.Ytccgolmdhikdoaa.Pn
open Go.Ab Go.Feed
open Go.Span (radd)
set_option maxRecDepth 100000
section
variable {Q : AHeap}
theorem c_RG1 (x : It) (s : Int) : callP (penv P1) 84 [It.v x, .int .i64 s] Q = some (.int .i64 (if x.seq < s then -1 else if s < x.seq then 1 else 0), Q) := by
  rw [It_v, f_ring_Get_1 rfl]
  simp [c_Compare]
theorem loop_RBS {l : List It} {v : AV} (h : Sl 2 (l.map It.v) v) (hl : l.length ≤ 900000) (hs : Sorted l) (s : Int) : ∀ (m i j : Nat), j - i ≤ m → i ≤ j → j ≤ l.length → (∀ k, k < i → (l.getD k default).seq < s) → (∀ k, j ≤ k → k < l.length → ¬ (l.getD k default).seq < s) →
    L_slices_BinarySearchFunc_api_Item_api_Item_int_0 P1 v (.int .i64 s) (.fn 84 [] []) (.int .i64 l.length) (.int .i64 i) (.int .i64 j) Q = X_slices_BinarySearchFunc_api_Item_api_Item_int_0_x0 v (.int .i64 s) (.fn 84 [] []) (.int .i64 l.length) (.int .i64 (posn l s)) Q := by
  intro m
  induction m with
  | zero =>
    intro i j hm hij hj h1 h2
    obtain rfl : i = j := by omega
    have hp : posn l s = i := posn_is hj h1 (fun hi => h2 i (Nat.le_refl _) hi)
    have c : ¬ ((i : Int) < i) := by omega
    rw [L_slices_BinarySearchFunc_api_Item_api_Item_int_0_eq, p_slices_BinarySearchFunc_api_Item_api_Item_int_0, hp]
    simp
  | succ m ih =>
    intro i j hm hij hj h1 h2
    by_cases hlt : i < j
    · have c : ((i : Int) < j) = True := eq_true (by omega)
      have w1 : IntKind.i64.wrap ((i : Int) + j) = (i : Int) + j := w64 (by omega) (by omega)
      have w2 : IntKind.u64.wrap ((i : Int) + j) = (i : Int) + j := wrap_u64 (by omega) (by omega)
      have hd : ((i : Int) + j).fdiv (2 ^ min 1 IntKind.u64.bits) = (((i + j) / 2 : Nat) : Int) := by
        rw [show (2 : Int) ^ min 1 IntKind.u64.bits = 2 from rfl, Int.fdiv_eq_ediv_of_nonneg _ (by omega)]; omega
      generalize hh : (i + j) / 2 = p at *
      have hp : p < l.length := by omega
      have w3 : IntKind.i64.wrap (p : Int) = p := w64 (by omega) (by omega)
      have w4 : IntKind.i64.wrap ((p : Int) + 1) = ((p + 1 : Nat) : Int) := by rw [w64 (by omega) (by omega)]; rfl
      have hx := getD_at (l := l) (k := p) hp
      have e := h.get (k := .i64) hx
      have cp := fun (Q : AHeap) => c_RG1 (Q := Q) (l.getD p default) s
      rw [It_v] at cp e
      rw [L_slices_BinarySearchFunc_api_Item_api_Item_int_0_eq, p_slices_BinarySearchFunc_api_Item_api_Item_int_0]
      by_cases hc : (l.getD p default).seq < s
      · have ih := ih (p + 1) j (by omega) (by omega) hj (fun k hk => by
          by_cases hk2 : k = p
          · subst hk2; exact hc
          · have := sorted_le hs (k := k) (m := p) (by omega) hp; omega) h2
        simp [c, w1, w2, hd, w3, w4, e, cp, hc, tkey_eq, -List.getD_eq_getElem?_getD, L_slices_BinarySearchFunc_api_Item_api_Item_int_0_fold]
        simpa using ih
      · have ih := ih i p (by omega) (by omega) (by omega) h1 (fun k hk hk2 => by
          by_cases hk3 : k = p
          · subst hk3; exact hc
          · have := sorted_le hs (k := p) (m := k) (by omega) hk2; omega)
        by_cases hc2 : s < (l.getD p default).seq
        · simp [c, w1, w2, hd, w3, w4, e, cp, hc, hc2, tkey_eq, -List.getD_eq_getElem?_getD, L_slices_BinarySearchFunc_api_Item_api_Item_int_0_fold]
          simpa using ih
        · simp [c, w1, w2, hd, w3, w4, e, cp, hc, hc2, tkey_eq, -List.getD_eq_getElem?_getD, L_slices_BinarySearchFunc_api_Item_api_Item_int_0_fold]
          simpa using ih
    · exact ih i j (by omega) hij hj h1 h2
theorem c_RBS {l : List It} {v : AV} (h : Sl 2 (l.map It.v) v) (hl : l.length ≤ 900000) (hs : Sorted l) (s : Int) : callP (penv P1) 83 [v, .int .i64 s, .fn 84 [] []] Q = some (.tup [.int .i64 (posn l s), .bool (there l s)], Q) := by
  rw [f_slices_BinarySearchFunc_api_Item_api_Item_int rfl, h.len]
  have lp := loop_RBS (Q := Q) h hl hs s l.length 0 l.length (by omega) (by omega) (Nat.le_refl _) (fun k hk => by omega) (fun k hk hk2 => by omega)
  rw [show ((0 : Nat) : Int) = 0 from rfl] at lp
  have ht := there_iff hs s
  simp [L_slices_BinarySearchFunc_api_Item_api_Item_int_0_fold, lp, p_slices_BinarySearchFunc_api_Item_api_Item_int_1]
  by_cases hp : posn l s < l.length
  · have hx := getD_at (l := l) (k := posn l s) hp
    have e := h.get (k := .i64) hx
    have cp := fun (Q : AHeap) => c_RG1 (Q := Q) (l.getD (posn l s) default) s
    rw [It_v] at cp e
    by_cases h1 : (l.getD (posn l s) default).seq = s
    · have ht : there l s = true := ht.2 ⟨hp, h1⟩
      have h2 : ¬ (l.getD (posn l s) default).seq < s := by omega
      have h3 : ¬ s < (l.getD (posn l s) default).seq := by omega
      simp [hp, e, cp, h2, h3, ht, tkey_eq, -List.getD_eq_getElem?_getD]
    · have ht : there l s = false := by
        cases hth : there l s with
        | false => rfl
        | true => exact absurd (ht.1 hth).2 h1
      by_cases h2 : (l.getD (posn l s) default).seq < s
      · simp [hp, e, cp, h2, ht, tkey_eq, -List.getD_eq_getElem?_getD]
      · have h3 : s < (l.getD (posn l s) default).seq := by omega
        simp [hp, e, cp, h2, h3, ht, tkey_eq, -List.getD_eq_getElem?_getD]
  · have ht : there l s = false := by
      cases hth : there l s with
      | false => rfl
      | true => exact absurd (ht.1 hth).1 hp
    simp [hp, ht]
theorem c_RGet {l : List It} {v : AV} (h : Sl 2 (l.map It.v) v) (hl : l.length ≤ 900000) (hs : Sorted l) (s : Int) : callP (penv P1) 63 [v, .int .i64 s] Q = some (.tup [.str (getR l s), .bool (there l s)], Q) := by
  rw [f_ring_Get rfl]
  have bs := c_RBS (Q := Q) h hl hs s
  cases ht : there l s with
  | false =>
    rw [ht] at bs
    have : getR l s = [] := by
      unfold getR
      cases hf : l.find? fun x => decide (x.seq = s) with
      | none => rfl
      | some x =>
        have h1 := List.find?_some hf
        have h2 := List.mem_of_find?_eq_some hf
        have : there l s = true := List.any_eq_true.2 ⟨x, h2, h1⟩
        rw [this] at ht; cases ht
    simp [bs, this]
  | true =>
    rw [ht] at bs
    obtain ⟨h1, h2⟩ := (there_iff hs s).1 ht
    have e := h.get (k := .i64) (getD_at (l := l) (k := posn l s) h1)
    have hg : getR l s = (l.getD (posn l s) default).text := by
      unfold getR
      have hm : l.getD (posn l s) default ∈ l := by
        rw [List.getD_eq_getElem?_getD, List.getElem?_eq_getElem h1]; exact List.getElem_mem _
      cases hf : l.find? fun x => decide (x.seq = s) with
      | none => exact absurd (List.find?_eq_none.1 hf _ hm) (by simpa using h2)
      | some x =>
        have h3 := List.find?_some hf
        have h4 := List.mem_of_find?_eq_some hf
        have h3 : x.seq = s := by simpa using h3
        -- one of a number
        obtain ⟨i, hi, rfl⟩ := List.getElem_of_mem h4
        have key : i = posn l s := by
          rcases Nat.lt_trichotomy i (posn l s) with c | c | c
          · have := sorted_le hs c h1
            rw [List.getD_eq_getElem?_getD, List.getElem?_eq_getElem hi] at this
            simp only [Option.getD_some] at this; omega
          · exact c
          · have := sorted_le hs c hi
            rw [List.getD_eq_getElem?_getD (l := l) (i := i), List.getElem?_eq_getElem hi] at this
            simp only [Option.getD_some] at this; omega
        subst key
        simp only
        rw [List.getD_eq_getElem?_getD, List.getElem?_eq_getElem hi]; rfl
    rw [hg]
    generalize l.getD (posn l s) default = x at *
    rw [It_v] at e
    simp [bs, e]
theorem loop_Serv {f : Fed} {r w l : AV} (hs : Sls f r w l) (hr : RingOk f.ring f.next) (hn : f.next ≤ 1000001) {lo h : Int} (hlo : 1 ≤ lo) (hh : h < f.next) {c0 c1 c3 c4 c5 c6 : AV} : ∀ (m : Nat) (n : Int) (a : List It) (o : List Sp), n + m = lo + 8 → lo ≤ n → a.length + m ≤ 8 → o.length + m ≤ 8 → Go.Span.Gd o → (∀ s ∈ o, s.2 < n) → n ≤ 5000000000000 →
    L_nak_Serves_2 P1 (.int .i64 lo) (.int .i64 h) (.int .i64 n) c0 c1 r c3 c4 c5 c6 (a.map It.v) (o.map Sp.v) Q = X_nak_Serves_2_x0 ((a ++ servI f.ring m n h).map It.v) ((servN f.ring m n h o).map Sp.v) Q := by
  intro m
  induction m with
  | zero =>
    intro n a o hm h1 ha ho hg hl hb
    have c : n - lo = 8 := by omega
    have w := w64 (i := n - lo) (by omega) (by omega)
    rw [c] at w
    rw [L_nak_Serves_2_eq, p_nak_Serves_2]
    by_cases c1 : n ≤ h
    · simp [c1, c, w, servI, servN]
    · simp [c1, servI, servN]
  | succ m ih =>
    intro n a o hm h1 ha ho hg hl hb
    by_cases c1 : n ≤ h
    · have w := w64 (i := n - lo) (by omega) (by omega)
      have c2 : (n - lo < 8) = True := eq_true (by omega)
      have w1 := w64 (i := n + 1) (by omega) (by omega)
      have c3' : (n < 1) = False := eq_false (by omega)
      have c4' : (1000000 < n) = False := eq_false (by omega)
      have cg := fun (Q : AHeap) => c_RGet (Q := Q) hs.r (by have := hr.len; omega) hr.so n
      cases ht : there f.ring n with
      | true =>
        rw [ht] at cg
        have ih := ih (n + 1) (a ++ [⟨n, getR f.ring n⟩]) o (by omega) (by omega) (by simp; omega) (by omega) hg (fun s hs => by have := hl s hs; omega) (by omega)
        have r1 : room 24 (a.length + 1) = true := room_le (by omega) (by omega)
        have e1 : servI f.ring (m + 1) n h = ⟨n, getR f.ring n⟩ :: servI f.ring m (n + 1) h := by show (if n ≤ h then _ else _) = _; rw [if_pos c1, if_pos ht]
        have e2 : servN f.ring (m + 1) n h o = servN f.ring m (n + 1) h o := by show (if n ≤ h then _ else _) = _; rw [if_pos c1, if_pos ht]
        rw [e1, e2, L_nak_Serves_2_eq, p_nak_Serves_2]
        rw [List.append_assoc] at ih
        simp only [List.map_append, List.map_cons, List.map_nil, It_v, List.singleton_append] at ih ⊢
        simp [c1, c2, w, cg, r1, p_nak_Serves_0, p_nak_Serves_1, w1]
        simpa [L_nak_Serves_2_fold] using ih
      | false =>
        rw [ht] at cg
        have ae := addEnd_eq hg (n := n) (by omega) hl
        obtain ⟨g1, g2⟩ := raddN hg (n := n) (by omega)
        have hl2 : ∀ s ∈ radd o (n, n), s.2 < n + 1 := fun s hs => by
          have := (g2 s.2).symm.trans (Go.Span.has_iff.2 ⟨s, hs, (g1.m s hs).2.1, Int.le_refl _⟩)
          rw [Bool.or_eq_true, Go.Span.has_iff, decide_eq_true_eq] at this
          rcases this with ⟨t, ht, _, h2⟩ | h2
          · have := hl t ht; omega
          · omega
        have ll : (radd o (n, n)).length ≤ o.length + 1 := by
          rw [← ae]; unfold addEnd
          split
          · split
            · simp
            · simp
          · simp
        have ih := ih (n + 1) a (radd o (n, n)) (by omega) (by omega) (by omega) (by omega) g1 hl2 (by omega)
        have r2 : room 16 (o.length + 1) = true := room_le (by omega) (by omega)
        have e1 : servI f.ring (m + 1) n h = servI f.ring m (n + 1) h := by show (if n ≤ h then _ else _) = _; rw [if_pos c1, ht]; rfl
        have e2 : servN f.ring (m + 1) n h o = servN f.ring m (n + 1) h (radd o (n, n)) := by show (if n ≤ h then _ else _) = _; rw [if_pos c1, ht]; rfl
        have w2 := w64 (i := n - 1) (by omega) (by omega)
        rw [e1, e2, ← ih, ← ae, L_nak_Serves_2_eq, p_nak_Serves_2]
        unfold addEnd
        cases hgl : o.getLast? with
        | none =>
          rw [List.getLast?_eq_none_iff] at hgl; subst hgl
          have r3 : room 16 1 = true := room_le (by omega) (by omega)
          simp [c1, c2, w, cg, r3, p_nak_Serves_0, c3', c4', p_nak_Serves_1, w1, L_nak_Serves_2_fold, Sp.v]
        | some s =>
          obtain ⟨ys, rfl⟩ := List.getLast?_eq_some_iff.1 hgl
          obtain ⟨sa, sb⟩ := s
          have w3 := w64 (i := (ys.length : Int) + 1 - 1) (by simp at ho; omega) (by simp at ho; omega)
          rw [Int.add_sub_cancel] at w3
          have p0 : ((0 : Int) < (ys.length : Int) + 1) = True := eq_true (by omega)
          have i1 : ((ys.length : Int) < (ys.length : Int) + 1) = True := eq_true (by omega)
          simp only [List.length_append, List.length_singleton] at r2
          have el : ((ys ++ [(sa, sb)]).map Sp.v)[ys.length]? = some (Sp.v (sa, sb)) := by simp
          have st : ((ys ++ [(sa, sb)]).map Sp.v).set ys.length (.agg [.int .i64 sa, .int .i64 n]) = (ys ++ [(sa, n)]).map Sp.v := by
            simp [Sp.v]
          rw [Sp_v] at el
          have ec : elC ((ys ++ [(sa, sb)]).map Sp.v) ys.length 1 = some (.int .i64 sb) := by unfold elC; rw [el]; rfl
          have se : setE (.agg [.int .i64 sa, .int .i64 sb]) 1 [.int .i64 n] = some (.agg [.int .i64 sa, .int .i64 n]) := rfl
          have ln : ((ys ++ [(sa, sb)]).map Sp.v).length = ys.length + 1 := by simp
          simp only [List.dropLast_concat]
          by_cases c5 : sb = n - 1
          · rw [if_pos c5, ← st]
            generalize (ys ++ [(sa, sb)]).map Sp.v = M at *
            subst c5
            have eg : ∀ h : ys.length < M.length, M[ys.length]'h = .agg [.int .i64 sa, .int .i64 (n - 1)] := fun h => (List.getElem?_eq_some_iff.1 el).2
            simp [c1, c2, w, cg, p_nak_Serves_0, c3', c4', ln, p0, i1, w3, ec, w2, eg, se, p_nak_Serves_1, w1, L_nak_Serves_2_fold]
          · rw [if_neg c5]
            have em : (ys ++ [(sa, sb)] ++ [(n, n)]).map Sp.v = (ys ++ [(sa, sb)]).map Sp.v ++ [.agg [.int .i64 n, .int .i64 n]] := by rw [List.map_append]; rfl
            rw [em]
            have c5' : (sb = n - 1) = False := eq_false c5
            generalize (ys ++ [(sa, sb)]).map Sp.v = M at *
            simp [c1, c2, w, cg, p_nak_Serves_0, c3', c4', ln, p0, i1, w3, ec, w2, c5', r2, p_nak_Serves_1, w1, L_nak_Serves_2_fold, Sp.v]
    · have e1 : servI f.ring (m + 1) n h = [] := by show (if n ≤ h then _ else _) = _; rw [if_neg c1]
      have e2 : servN f.ring (m + 1) n h o = o := by show (if n ≤ h then _ else _) = _; rw [if_neg c1]
      rw [e1, e2, L_nak_Serves_2_eq, p_nak_Serves_2]
      simp [c1]
theorem c_Serves {f : Fed} {r w l : AV} (hs : Sls f r w l) (hr : RingOk f.ring f.next) (n1 : 1 ≤ f.next) (hn : f.next ≤ 1000001) {lo hi : Int} (hlo : 1 ≤ lo ∧ lo ≤ 2000000000000) :
    callP (penv P1) 19 [Fed.v f r w l, .int .i64 lo, .int .i64 hi] Q = some (.tup [its (servI f.ring 8 lo (min hi (f.next - 1))), .fz 2 ((servN f.ring 8 lo (min hi (f.next - 1)) []).map Sp.v)], Q) := by
  have lp := loop_Serv (Q := Q) hs hr hn (lo := lo) (h := min hi (f.next - 1)) hlo.1 (by omega) (c0 := .int .i64 f.next) (c1 := .int .i64 f.top) (c3 := w) (c4 := l) (c5 := .int .i64 f.tries) (c6 := .int .i64 f.due) 8 lo [] [] (by omega) (by omega) (by simp) (by simp) Go.Span.Gd.nil (by simp) (by omega)
  have c : (f.next < 1) = False := eq_false (by omega)
  have w1 := w64 (i := f.next - 1) (by omega) (by omega)
  rw [List.nil_append] at lp
  simp only [List.map_nil] at lp
  generalize servI f.ring 8 lo (min hi (f.next - 1)) = I at *
  generalize servN f.ring 8 lo (min hi (f.next - 1)) [] = N at *
  unfold Fed.v
  rw [f_nak_Serves rfl]
  simp [hs.r.one, hs.w.one, hs.l.one, c, w1, L_nak_Serves_2_fold, lp, p_nak_Serves_3]
end
end Go.Proofs.Ytccgolmdhikdoaa.Pn
