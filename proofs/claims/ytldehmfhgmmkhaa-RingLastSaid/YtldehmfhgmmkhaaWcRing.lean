/- Rings: what the functions come to. -/
import Derived.Test.YtldehmfhgmmkhaaBge
set_option linter.unusedVariables false
set_option linter.unusedSimpArgs false
namespace Go.Proofs.Ytldehmfhgmmkhaa.Bg
open Go.Ab
set_option maxRecDepth 100000

abbrev Itm := Int × List UInt8
def EI : Enc Itm := ⟨2, fun a => [.int .i64 a.1, .str a.2], fun _ => rfl, fun _ => rfl, by omega⟩
@[simp] theorem EI_z : EI.z = 2 := rfl
@[simp] theorem EI_enc (a : Itm) : EI.enc a = [.int .i64 a.1, .str a.2] := rfl

section
variable {s : Specs} {H : AHeap}

def gNaN (args : List AV) (H : AHeap) : Option (AV × AHeap) := match args with
  | [.int .i64 _] => some (.bool false, H)
  | _ => none
theorem ok_gNaN (hs : SpecsOk s) (hn : s.lookup 70 = none) : SpecOk Try.prog 70 gNaN := by
  refine specOk hs hn fun args H v H' h => ?_
  unfold gNaN at h
  split at h
  · simp only [Option.some.injEq, Prod.mk.injEq] at h
    obtain ⟨rfl, rfl⟩ := h
    refine fgt_pure (plainV_bool _) ?_
    rw [f_cmp_isNaN_int hn, p_cmp_isNaN_int]
    simp
  · cases h
def cmpP (a b : Int) : Int := if a < b then -1 else if b < a then 1 else 0
def gCmp (args : List AV) (H : AHeap) : Option (AV × AHeap) := match args with
  | [.int .i64 a, .int .i64 b] => some (.int .i64 (cmpP a b), H)
  | _ => none
theorem ok_gCmp (hs : SpecsOk s) (hn : s.lookup 68 = none) (hc : ∀ args H, callV (env s) 70 args H = gNaN args H) : SpecOk Try.prog 68 gCmp := by
  refine specOk hs hn fun args H v H' h => ?_
  unfold gCmp at h
  split at h
  · rename_i a b
    simp only [Option.some.injEq, Prod.mk.injEq] at h
    obtain ⟨rfl, rfl⟩ := h
    refine fgt_pure (plainV_int _ _) ?_
    rw [f_cmp_Compare_int hn, p_cmp_Compare_int]
    unfold cmpP
    by_cases h1 : a < b
    · simp [hc, gNaN, h1]
    · by_cases h2 : b < a
      · simp [hc, gNaN, h1, h2]
      · simp [hc, gNaN, h1, h2]
  · cases h

theorem call_Key (hn : s.lookup 67 = none) (hc : ∀ args H, callV (env s) 68 args H = gCmp args H) (a : Itm) (k : Int) (H : AHeap) :
    callV (env s) 67 [.agg [.int .i64 a.1, .str a.2], .int .i64 k] H = some (.int .i64 (cmpP a.1 k), H.push (some (.cells .exact 2 [.int .i64 a.1, .str a.2]))) := by
  rw [f_ring_Get_1 hn, p_ring_Get_1]
  simp [hc, gCmp]

abbrev BSf : AV := .fn 67 [] []
theorem loop_BS (hn : s.lookup 67 = none) (hc : ∀ args H, callV (env s) 68 args H = gCmp args H) {v : AV} {l : List Itm} (hm : l.length ≤ 1000000) (hsort : ∀ (x y : Nat) (a b : Itm), x < y → l[x]? = some a → l[y]? = some b → a.1 < b.1) (k : Int) : ∀ (d i j : Nat) (H : AHeap), j - i ≤ d → i ≤ j → j ≤ l.length → RdT EI H v l →
    (∀ x a, x < i → l[x]? = some a → a.1 < k) → (∀ x a, j ≤ x → l[x]? = some a → k ≤ a.1) →
    ∃ i' H', L_slices_BinarySearchFunc_api_Item_api_Item_int_0 s v (.int .i64 k) BSf (.int .i64 l.length) (.int .i64 i) (.int .i64 j) H = some (.exit 0, X_slices_BinarySearchFunc_api_Item_api_Item_int_0_x0 v (.int .i64 k) BSf (.int .i64 l.length) (.int .i64 (i' : Nat)), H') ∧ Kept H H' ∧ i' ≤ l.length ∧
      (∀ x a, x < i' → l[x]? = some a → a.1 < k) ∧ (∀ x a, i' ≤ x → l[x]? = some a → k ≤ a.1) := by
  intro d
  induction d with
  | zero =>
    intro i j H hd hij hj hv hlo hhi
    obtain rfl : i = j := by omega
    refine ⟨i, H, ?_, Kept.refl H, hj, hlo, hhi⟩
    rw [L_slices_BinarySearchFunc_api_Item_api_Item_int_0_eq, p_slices_BinarySearchFunc_api_Item_api_Item_int_0]
    simp
  | succ d ih =>
    intro i j H hd hij hj hv hlo hhi
    by_cases h : i = j
    · subst h
      refine ⟨i, H, ?_, Kept.refl H, hj, hlo, hhi⟩
      rw [L_slices_BinarySearchFunc_api_Item_api_Item_int_0_eq, p_slices_BinarySearchFunc_api_Item_api_Item_int_0]
      simp
    · have hlt : ((i : Int) < j) = True := eq_true (by omega)
      have hlt' : i < j := by omega
      obtain ⟨m, hmd⟩ : ∃ m, m = (i + j) / 2 := ⟨_, rfl⟩
      have w1 : IntKind.i64.wrap ((i : Int) + j) = (i : Int) + j := wrap_i64 (by omega) (by omega)
      have w2 : IntKind.u64.wrap ((i : Int) + j) = (i : Int) + j := by
        rw [IntKind.wrap_u64]; exact Int.emod_eq_of_lt (by omega) (by omega)
      have w3 : ((i : Int) + j).fdiv (2 ^ min 1 IntKind.u64.bits) = m := by
        show ((i : Int) + j).fdiv 2 = m
        rw [Int.fdiv_eq_ediv_of_nonneg _ (by omega)]; omega
      have w4 : IntKind.i64.wrap (m : Int) = m := wrap_i64 (by omega) (by omega)
      have w5 : IntKind.i64.wrap ((m : Int) + 1) = (m : Int) + 1 := wrap_i64 (by omega) (by omega)
      have hml : m < l.length := by omega
      have ha : l[m]? = some l[m] := List.getElem?_eq_getElem hml
      have i1 := hv.iad .i64 (i := (m : Int)) (by omega) (by omega)
      have i2 := hv.ldn ha
      simp only [EI_z, EI_enc] at i1 i2
      have e := call_Key hn hc l[m] k H
      have k1 : Kept H (H.push (some (.cells .exact 2 [.int .i64 l[m].1, .str l[m].2]))) := (Kept.refl _).push _
      obtain ⟨a, hla⟩ : ∃ a, a = l[m] := ⟨_, rfl⟩
      rw [← hla] at ha i2 e k1
      by_cases c : a.1 < k
      · have ec : cmpP a.1 k = -1 := by unfold cmpP; rw [if_pos c]
        rw [ec] at e
        obtain ⟨i', H', e', k', r1, r2, r3⟩ := ih (m + 1) j _ (by omega) (by omega) hj (hv.kept k1) (fun x b hx hb => by
          by_cases hxm : x = m
          · subst hxm; rw [ha] at hb; obtain rfl := Option.some.inj hb; exact c
          · have := hsort x m b a (by omega) hb ha; omega) hhi
        refine ⟨i', H', ?_, k1.trans k', r1, r2, r3⟩
        rw [L_slices_BinarySearchFunc_api_Item_api_Item_int_0_eq, p_slices_BinarySearchFunc_api_Item_api_Item_int_0]
        simp [hlt, w1, w2, w3, w4, w5, i1, i2, e, L_slices_BinarySearchFunc_api_Item_api_Item_int_0_fold]
        simpa using e'
      · have ec : ¬ cmpP a.1 k < 0 := by unfold cmpP; rw [if_neg c]; split <;> omega
        generalize cmpP a.1 k = q at *
        obtain ⟨i', H', e', k', r1, r2, r3⟩ := ih i m _ (by omega) (by omega) (by omega) (hv.kept k1) hlo (fun x b hx hb => by
          by_cases hxm : x = m
          · subst hxm; rw [ha] at hb; obtain rfl := Option.some.inj hb; omega
          · have := hsort m x a b (by omega) ha hb; omega)
        refine ⟨i', H', ?_, k1.trans k', r1, r2, r3⟩
        rw [L_slices_BinarySearchFunc_api_Item_api_Item_int_0_eq, p_slices_BinarySearchFunc_api_Item_api_Item_int_0]
        simp [hlt, w1, w2, w3, w4, w5, i1, i2, e, ec, L_slices_BinarySearchFunc_api_Item_api_Item_int_0_fold]
        simpa using e'

/-- What is there of a number. -/
def getP (l : List Itm) (k : Int) : Option (List UInt8) := (l.find? fun a => decide (a.1 = k)).map (·.2)
theorem call_Get (hn : s.lookup 47 = none) (hn1 : s.lookup 66 = none) (hn2 : s.lookup 67 = none) (hc : ∀ args H, callV (env s) 68 args H = gCmp args H) {v : AV} {l : List Itm} (hv : RdT EI H v l) (hm : l.length ≤ 1000000) (hsort : ∀ (x y : Nat) (a b : Itm), x < y → l[x]? = some a → l[y]? = some b → a.1 < b.1) (k : Int) :
    ∃ H', callV (env s) 47 [v, .int .i64 k] H = some (.tup [.str ((getP l k).getD []), .bool (getP l k).isSome], H') ∧ Kept H H' := by
  obtain ⟨i, H1, e1, k1, r1, r2, r3⟩ := loop_BS hn2 hc hm hsort k l.length 0 l.length H (by omega) (by omega) (Nat.le_refl _) hv (fun x a hx => by omega) (fun x a hx ha => by
    have := (List.getElem?_eq_some_iff.1 ha).1; omega)
  rw [show ((0 : Nat) : Int) = 0 from rfl] at e1
  have hv1 := hv.kept k1
  rw [f_ring_Get hn, p_ring_Get, f_slices_BinarySearchFunc_api_Item_api_Item_int hn1, p_slices_BinarySearchFunc_api_Item_api_Item_int]
  by_cases hi : i < l.length
  · have ha : l[i]? = some l[i] := List.getElem?_eq_getElem hi
    obtain ⟨a, hla⟩ : ∃ a, a = l[i] := ⟨_, rfl⟩
    rw [← hla] at ha
    have i1 := hv1.iad .i64 (i := (i : Int)) (by omega) (by omega)
    have i2 := hv1.ldn ha
    simp only [EI_z, EI_enc] at i1 i2
    have e := call_Key hn2 hc a k H1
    have k2 : Kept H1 (H1.push (some (.cells .exact 2 [.int .i64 a.1, .str a.2]))) := (Kept.refl _).push _
    have hlt : ((i : Int) < l.length) = True := eq_true (by omega)
    by_cases c : a.1 = k
    · have ec : cmpP a.1 k = 0 := by unfold cmpP; rw [if_neg (by omega), if_neg (by omega)]
      rw [ec] at e
      have eg : getP l k = some a.2 := by
        unfold getP
        have : l.find? (fun a => decide (a.1 = k)) = some a := by
          rw [List.find?_eq_some_iff_getElem]
          refine ⟨by simpa using c, i, hi, hla.symm, fun j hj => ?_⟩
          have := r2 j _ hj (List.getElem?_eq_getElem (by omega))
          simp; omega
        rw [this]; rfl
      have hv2 := hv1.kept k2
      have j1 := hv2.iad .i64 (i := (i : Int)) (by omega) (by omega)
      obtain ⟨p, j2, j3⟩ := hv2.fad ha 1
      have j3 := j3 (.str a.2) (by simp)
      simp only [EI_z] at j1 j2
      refine ⟨_, ?_, k1.trans k2⟩
      simp [hv.len, L_slices_BinarySearchFunc_api_Item_api_Item_int_0_fold, e1, p_slices_BinarySearchFunc_api_Item_api_Item_int_1, hlt, i1, i2, e, j1, j2, j3, eg]
    · have ec : ¬ cmpP a.1 k = 0 := by
        unfold cmpP
        split
        · omega
        · split <;> omega
      generalize cmpP a.1 k = q at *
      have eg : getP l k = none := by
        unfold getP
        rw [Option.map_eq_none_iff, List.find?_eq_none]
        intro b hb
        obtain ⟨x, hx⟩ := List.getElem?_of_mem hb
        by_cases hxi : x = i
        · subst hxi; rw [ha] at hx; obtain rfl := Option.some.inj hx; simpa using c
        · by_cases hlt : x < i
          · have := r2 x b hlt hx; simp; omega
          · have h3 := hsort i x a b (by omega) ha hx
            have h4 := r3 i a (Nat.le_refl _) ha
            simp; omega
      refine ⟨_, ?_, k1.trans k2⟩
      simp [hv.len, L_slices_BinarySearchFunc_api_Item_api_Item_int_0_fold, e1, p_slices_BinarySearchFunc_api_Item_api_Item_int_1, hlt, i1, i2, e, ec, eg]
  · obtain rfl : i = l.length := by omega
    have eg : getP l k = none := by
      unfold getP
      rw [Option.map_eq_none_iff, List.find?_eq_none]
      intro b hb
      obtain ⟨x, hx⟩ := List.getElem?_of_mem hb
      have := r2 x b (List.getElem?_eq_some_iff.1 hx).1 hx
      simp; omega
    refine ⟨H1, ?_, k1⟩
    simp [hv.len, L_slices_BinarySearchFunc_api_Item_api_Item_int_0_fold, e1, p_slices_BinarySearchFunc_api_Item_api_Item_int_1, eg]

theorem call_CloneT (hn : s.lookup 65 = none) {v : AV} {l : List Itm} (hv : RdT EI H v l) (hm : l.length ≤ 100000) :
    ∃ v' H', callV (env s) 65 [v] H = some (v', H') ∧ RdT EI H' v' l ∧ capOk v' = true ∧ AppT EI 24 H H' v' l ∧ Kept H H' := by
  rw [f_slices_Clone_api_Item_api_Item hn, p_slices_Clone_api_Item_api_Item]
  obtain ⟨v', H', e, h1, h2, _, h3, h4⟩ := copyT (bytes := 24) hv (by simp only [maxBytes]; omega) (by simp only [maxBytes]; omega)
  simp only [EI_z] at e
  rcases hv with ⟨rfl, rfl⟩ | ⟨r, o, c, rfl, hr, hrow⟩
  · exact ⟨.nils, H, by simp, RdT.nils H, rfl, OwnR.appT (l := []) (OwnR.nils _ _ _) (Kept.refl H) (by simp [maxBytes]) (by simp [maxBytes]), Kept.refl H⟩
  · exact ⟨v', H', by simp [appS, e], h1, h2, h3, h4⟩

/-- One more, the first gone if there are too many. -/
def addR (l : List Itm) (a : Itm) : List Itm := (l ++ [a]).drop (l.length + 1 - 6)
theorem call_Add (hn : s.lookup 46 = none) (hn1 : s.lookup 65 = none) {v : AV} {l : List Itm} (hv : RdT EI H v l) (hm : l.length ≤ 1000) (a : Itm) (hlast : ∀ b ∈ l, b.1 < a.1) :
    EndsV (callV (env s) 46 [v, .agg [.int .i64 a.1, .str a.2]] H) fun v' H' => RdT EI H' v' (addR l a) ∧ capOk v' = true ∧ Kept H H' := by
  rw [f_ring_Add hn, p_ring_Add]
  have k0 : Kept H (H.push (some (.cells .exact 2 [.int .i64 a.1, .str a.2]))) := (Kept.refl _).push _
  have g0 : (H.push (some (.cells .exact 2 [.int .i64 a.1, .str a.2]))).get H.size = some (.cells .exact 2 [.int .i64 a.1, .str a.2]) := by simp
  have hv0 := hv.kept k0
  obtain ⟨v1, H1, e1, h1, c1, ap, k1⟩ := call_CloneT (s := s) hn1 hv0 (by omega)
  have g1 : H1.get H.size = some (.cells .exact 2 [.int .i64 a.1, .str a.2]) := by rw [k1.get _ (by simp)]; exact g0
  obtain ⟨q, H2, e2, h2, c2, k2, _⟩ := ap a
  simp only [EI_z, EI_enc] at e2
  have hl2 : (l ++ [a]).length = l.length + 1 := by simp
  obtain ⟨u, e3, h3⟩ := h2.drop (kk := .i64) c2 (i := l.length + 1 - 6) (by omega)
  have h3 : RdT EI H2 u (addR l a) := by
    rcases h3 with h | ⟨x, y, _⟩
    · exact h.1
    · omega
  obtain ⟨v4, H4, e4, h4, c4, _, k4⟩ := call_CloneT (s := s) hn1 h3 (by unfold addR; simp; omega)
  have kk := k0.trans (k2.trans k4)
  simp only [EI_z] at e3
  have w1 : IntKind.i64.wrap ((l.length : Int) + 1 - 6) = (l.length : Int) + 1 - 6 := wrap_i64 (by omega) (by omega)
  have w2 : max ((l.length : Int) + 1 - 6) 0 = ((l.length + 1 - 6 : Nat) : Int) := by omega
  have d2 := h2.len
  rw [show ((l ++ [a]).length : Int) = (l.length : Int) + 1 by simp] at d2
  cases l with
  | nil =>
    have d0 := hv.len
    simp only [List.length_nil] at d0 w1 w2 d2 e3
    have w3 : IntKind.i64.wrap (-5) = -5 := wrap_i64 (by omega) (by omega)
    have w4 : max (-5 : Int) 0 = 0 := by omega
    simp at e3 d2
    simp [e1, d0, g1, appS, e2, d2, w3, w4, e3, e4]
    exact ⟨h4, c4, kk⟩
  | cons b m =>
    have d0 := hv.len
    have hpos : 1 ≤ (b :: m).length := by simp
    have hge : ((0 : Int) < ((b :: m).length : Int)) = True := eq_true (by simp)
    have w0 : IntKind.i64.wrap (((b :: m).length : Int) - 1) = ((b :: m).length : Int) - 1 := wrap_i64 (by omega) (by omega)
    obtain ⟨c, hc⟩ : ∃ c, (b :: m)[(b :: m).length - 1]? = some c := ⟨_, List.getElem?_eq_getElem (by simp)⟩
    have hcl := hlast c (List.mem_of_getElem? hc)
    have hv1 := hv0.kept k1
    have i1 := hv1.iad .i64 (i := (((b :: m).length : Int) - 1)) (by omega) (by omega)
    obtain ⟨p, j2, j3⟩ := hv1.fad hc 0
    have j3 := j3 (.int .i64 c.1) (by simp)
    rw [show (((b :: m).length - 1 : Nat) : Int) = ((b :: m).length : Int) - 1 by simp] at j2
    simp only [EI_z] at i1 j2
    have hle : (a.1 ≤ c.1) = False := eq_false (by omega)
    generalize (b :: m).length = n at *
    have hgn : (0 < n) = True := eq_true (by omega)
    rw [show n + 1 - 6 = n - 5 by omega] at e3 w2
    simp [e1, d0, hgn, g1, w0, i1, j2, j3, hle, appS, e2, d2, w1, w2, e3, e4]
    exact ⟨h4, c4, kk⟩
end
end Go.Proofs.Ytldehmfhgmmkhaa.Bg
