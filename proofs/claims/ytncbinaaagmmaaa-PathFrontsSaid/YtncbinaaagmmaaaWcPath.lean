/- Ways: what the functions come to. -/
import Derived.Test.YtncbinaaagmmaaaBpe
set_option linter.unusedVariables false
set_option linter.unusedSimpArgs false
namespace Go.Proofs.Ytncbinaaagmmaaa.Bp
open Go.Ab
set_option maxRecDepth 100000

theorem drop_cons {l : List Int} {i : Nat} (h : i < l.length) : l.drop i = l.getD i 0 :: l.drop (i + 1) := by
  rw [List.drop_eq_getElem_cons h, List.getD_eq_getElem?_getD, List.getElem?_eq_getElem h]; rfl

theorem slc_take {k kk : IntKind} {H : AHeap} {v : AV} {l : List Int} (hl : rdI k H v = some l) (hc : capOk v = true) {i : Nat} (hi : i ≤ l.length) : ∃ s, slcP H 1 v none (some (.int kk i)) none = some s ∧ rdI k H s = some (l.take i) ∧ capOk s = true := by
  rcases rdI_cases hl with ⟨rfl, rfl⟩ | ⟨r, o, c, rfl, hr, hrow⟩
  · obtain rfl : i = 0 := by simpa using hi
    exact ⟨.nils, by simp [slcP, slcA, bndo, bnd], rfl, rfl⟩
  · have hrd : ∀ c', rdI k H (.sl r o i c') = some (l.take i) := fun c' => by
      have h2 : H.row r o (i * 1) = some ((l.take i).map (AV.int k)) := by
        rw [Nat.mul_one]
        rw [row_eq] at hrow ⊢
        unfold objRow at hrow ⊢
        generalize H.get r = g at *
        cases g with
        | none => cases hrow
        | some b => cases b with
          | cells k z a =>
            dsimp only at hrow ⊢
            split at hrow
            · rename_i hle
              have e := Option.some.inj hrow
              rw [if_pos (by omega), List.map_take, ← e, List.take_take, Nat.min_eq_left hi]
            · cases hrow
          | _ => cases hrow
      simp only [rdI, rdW, if_pos hr, h2]
      have := chunksI_mk (k := k) (l.take i) []
      rw [List.append_nil, List.length_take, Nat.min_eq_left hi] at this
      exact this
    have hcap : i ≤ capLe H 1 r l.length c := by
      cases c with
      | ex c => simp only [capOk, decide_eq_true_eq] at hc; simp only [capLe]; omega
      | mi m =>
        simp only [capLe]
        split
        · split <;> omega
        · exact hi
    have hb : bndo (some (AV.int kk (i : Int))) l.length (capLe H 1 r l.length c) = some i := by
      rw [bndo_int, if_pos ⟨by omega, by omega⟩]; simp
    cases c with
    | ex c =>
      refine ⟨.sl r o i (.ex c), ?_, hrd _, ?_⟩
      · simp only [slcP, slcA, hb, bndo_none]
        by_cases h0 : c = 0
        · simp [h0]
        · simp [h0]
      · simp only [capOk, decide_eq_true_eq] at hc ⊢; omega
    | mi m =>
      refine ⟨.sl r o i (.mi m), ?_, hrd _, rfl⟩
      simp only [slcP, slcA, hb, bndo_none, if_true, Option.map_some]

section
variable {s : Specs} {H : AHeap}

def idxI (l : List Int) (x : Int) : Int := if l.contains x then (l.idxOf x : Int) else -1
theorem loop_Index {v : AV} {l : List Int} (hv : rdI .i64 H v = some l) (hm : l.length ≤ 1000000) (x : Int) : ∀ (n i : Nat), i + n = l.length →
    L_slices_Index_int_int_0 s v (.int .i64 x) (.int .i64 l.length) (.int .i64 i) H = if (l.drop i).contains x then some (.ret, X_slices_Index_int_int_0_ret (.int .i64 ((i + (l.drop i).idxOf x : Nat) : Int)), H) else some (.exit 0, X_slices_Index_int_int_0_x0, H) := by
  intro n
  induction n with
  | zero =>
    intro i hi
    rw [L_slices_Index_int_int_0_eq, p_slices_Index_int_int_0]
    have h : ¬ ((i : Int) < l.length) := by omega
    have hd : l.drop i = [] := by rw [List.drop_eq_nil_iff]; omega
    simp [h, hd]
  | succ n ih =>
    intro i hi
    rw [L_slices_Index_int_int_0_eq, p_slices_Index_int_int_0]
    have h : (i : Int) < l.length := by omega
    have h0 : (0 : Int) ≤ i := by omega
    have h5 : IntKind.i64.wrap ((i : Int) + 1) = (i : Int) + 1 := wrap_i64 (by omega) (by omega)
    have := ih (i + 1) (by omega)
    rw [drop_cons (by omega : i < l.length)]
    have e9 := rdI_ld hv h0 h
    simp only [Int.toNat_natCast] at e9
    by_cases e : x = l.getD i 0
    · have e1 : (l.getD i 0 :: l.drop (i + 1)).contains x = true := by rw [List.contains_cons, e]; simp
      have e2 : (l.getD i 0 :: l.drop (i + 1)).idxOf x = 0 := by rw [List.idxOf_cons, ← e]; simp
      rw [e1, e2]
      simp [-List.getD_eq_getElem?_getD, h, rdI_iad hv .i64 h0 h, e9, e]
    · have e1 : (l.getD i 0 :: l.drop (i + 1)).contains x = (l.drop (i + 1)).contains x := by
        rw [List.contains_cons]
        have : (x == l.getD i 0) = false := by simpa using e
        rw [this, Bool.false_or]
      have e2 : (l.getD i 0 :: l.drop (i + 1)).idxOf x = (l.drop (i + 1)).idxOf x + 1 := by
        rw [List.idxOf_cons]
        have : (l.getD i 0 == x) = false := by simpa using Ne.symm e
        rw [this]; rfl
      rw [e1, e2]
      simp [-List.getD_eq_getElem?_getD, -List.contains_eq_mem, h, rdI_iad hv .i64 h0 h, e9, e, h5, L_slices_Index_int_int_0_fold]
      rw [show ((i : Int) + (((l.drop (i + 1)).idxOf x : Int) + 1)) = ((i + 1 + (l.drop (i + 1)).idxOf x : Nat) : Int) by omega]
      exact this

def gIndex (args : List AV) (H : AHeap) : Option (AV × AHeap) := match args with
  | [v, .int .i64 x] => match rdI .i64 H v with
    | some l => if l.length ≤ 1000000 then some (.int .i64 (idxI l x), H) else none
    | none => none
  | _ => none
theorem ok_gIndex (hs : SpecsOk s) (hn : s.lookup 58 = none) : SpecOk Try.prog 58 gIndex := by
  refine specOk hs hn fun args H v H' h => ?_
  unfold gIndex at h
  split at h
  · rename_i a x
    split at h
    · rename_i l hl
      split at h
      · rename_i hc
        simp only [Option.some.injEq, Prod.mk.injEq] at h
        obtain ⟨rfl, rfl⟩ := h
        refine fgt_pure (plainV_int _ _) ?_
        rw [f_slices_Index_int_int hn, p_slices_Index_int_int]
        have := loop_Index (s := s) hl hc x l.length 0 (by omega)
        rw [List.drop_zero, Nat.zero_add, show ((0 : Nat) : Int) = 0 from rfl] at this
        unfold idxI
        simp only [rdI_len hl, bnP_some, L_slices_Index_int_int_0_fold]
        cases hb : l.contains x with
        | true =>
          rw [hb, if_pos rfl] at this
          rw [this]
          simp
        | false =>
          rw [hb, if_neg (by simp)] at this
          rw [this]
          simp [p_slices_Index_int_int_1]
      · cases h
    · cases h
  · cases h
def gHas (args : List AV) (H : AHeap) : Option (AV × AHeap) := match args with
  | [v, .int .i64 x] => match rdI .i64 H v with
    | some l => if l.length ≤ 1000000 then some (.bool (l.contains x), H) else none
    | none => none
  | _ => none
theorem gHas_val {l : AV} {L : List Int} (hL : rdI .i64 H l = some L) (h : L.length ≤ 1000000) (x : Int) : gHas [l, .int .i64 x] H = some (.bool (L.contains x), H) := by
  simp only [gHas, hL]; rw [if_pos h]
theorem gIndex_val {l : AV} {L : List Int} (hL : rdI .i64 H l = some L) (h : L.length ≤ 1000000) (x : Int) : gIndex [l, .int .i64 x] H = some (.int .i64 (idxI L x), H) := by
  simp only [gIndex, hL]; rw [if_pos h]
theorem idxI_ge (l : List Int) (x : Int) : decide (idxI l x ≥ 0) = l.contains x := by
  unfold idxI
  cases h : l.contains x <;> simp
theorem ok_gContains (hs : SpecsOk s) (hn : s.lookup 57 = none) (hc : ∀ args H, callV (env s) 58 args H = gIndex args H) : SpecOk Try.prog 57 gHas := by
  refine specOk hs hn fun args H v H' h => ?_
  unfold gHas at h
  split at h
  · rename_i a x
    split at h
    · rename_i l hl
      split at h
      · rename_i hh
        simp only [Option.some.injEq, Prod.mk.injEq] at h
        obtain ⟨rfl, rfl⟩ := h
        refine fgt_pure (plainV_bool _) ?_
        rw [f_slices_Contains_int_int hn, p_slices_Contains_int_int]
        simp only [hc, gIndex_val hl hh, bnS_some, bin_geq, bnP_some, idxI_ge, retK_ret, results_one, resA_tmp]
        exact (ends_some _ _ _).2 ⟨rfl, Kept.refl _⟩
      · cases h
    · cases h
  · cases h
theorem ok_gHas (hs : SpecsOk s) (hn : s.lookup 46 = none) (hc : ∀ args H, callV (env s) 57 args H = gHas args H) : SpecOk Try.prog 46 gHas := by
  refine specOk hs hn fun args H v H' h => ?_
  have h0 := h
  unfold gHas at h
  split at h
  · rename_i a x
    split at h
    · rename_i l hl
      split at h
      · rename_i hh
        simp only [Option.some.injEq, Prod.mk.injEq] at h
        obtain ⟨rfl, rfl⟩ := h
        refine fgt_pure (plainV_bool _) ?_
        rw [f_path_Has hn, p_path_Has]
        simp only [hc, gHas_val hl hh, bnS_some, retK_ret, results_one, resA_tmp]
        exact (ends_some _ _ _).2 ⟨rfl, Kept.refl _⟩
      · cases h
    · cases h
  · cases h

/-- Which ways may be. -/
def okP : List Int → List Int → Bool
  | _, [] => true
  | pre, x :: r => decide (1 ≤ x ∧ x ≤ 8) && !pre.contains x && okP (pre ++ [x]) r
def mayP (l : List Int) : Bool := decide (1 ≤ l.length ∧ l.length ≤ 10 ∧ l.getD 0 0 = 1) && okP [] l

theorem loop_walk (hc : ∀ args H, callV (env s) 57 args H = gHas args H) {v : AV} {l : List Int} (hv : rdI .i64 H v = some l) (hcap : capOk v = true) (hm : l.length ≤ 1000000) : ∀ (n i : Nat), i + n = l.length →
    (okP (l.take i) (l.drop i) = true ∧ L_path_walk_0 s v v (.int .i64 l.length) (.int .i64 i) H = some (.exit 0, X_path_walk_0_x0, H)) ∨
    (okP (l.take i) (l.drop i) = false ∧ ∃ k : Int, L_path_walk_0 s v v (.int .i64 l.length) (.int .i64 i) H = some (.ret, X_path_walk_0_ret (.ifc 67 (.agg [.int .i64 k])), H)) := by
  intro n
  induction n with
  | zero =>
    intro i hi
    left
    rw [L_path_walk_0_eq, p_path_walk_0]
    have h : ¬ ((i : Int) < l.length) := by omega
    have hd : l.drop i = [] := by rw [List.drop_eq_nil_iff]; omega
    refine ⟨by rw [hd]; rfl, by simp [h]⟩
  | succ n ih =>
    intro i hi
    rw [L_path_walk_0_eq, p_path_walk_0]
    have h : (i : Int) < l.length := by omega
    have h0 : (0 : Int) ≤ i := by omega
    have h5 : IntKind.i64.wrap ((i : Int) + 1) = (i : Int) + 1 := wrap_i64 (by omega) (by omega)
    have hrec := ih (i + 1) (by omega)
    have e9 := rdI_ld hv h0 h
    simp only [Int.toNat_natCast] at e9
    have et : l.take (i + 1) = l.take i ++ [l.getD i 0] := by
      rw [List.take_add_one, List.getD_eq_getElem?_getD, List.getElem?_eq_getElem (by omega)]; rfl
    rw [drop_cons (by omega : i < l.length), okP, ← et]
    obtain ⟨w, e1, e2, e3⟩ := slc_take (kk := .i64) hv hcap (show i ≤ l.length by omega)
    have g := gHas_val e2 (by simp; omega) (l.getD i 0)
    generalize l.getD i 0 = x at *
    by_cases c1 : x < 1
    · right
      refine ⟨by simp [show ¬ (1 ≤ x) by omega], i, ?_⟩
      simp [h, rdI_iad hv .i64 h0 h, e9, c1]
    · by_cases c2 : 8 < x
      · right
        refine ⟨by simp [show ¬ (x ≤ 8) by omega], i, ?_⟩
        simp [h, rdI_iad hv .i64 h0 h, e9, c1, c2]
      · cases hq : (l.take i).contains x with
        | true =>
          right
          rw [hq] at g
          refine ⟨by simp, i, ?_⟩
          simp [-List.contains_eq_mem, h, rdI_iad hv .i64 h0 h, e9, c1, c2, e1, hc, g]
        | false =>
          rw [hq] at g
          have e : (decide (1 ≤ x ∧ x ≤ 8) && !false && okP (l.take (i + 1)) (l.drop (i + 1))) = okP (l.take (i + 1)) (l.drop (i + 1)) := by
            rw [decide_eq_true (by omega)]; simp
          rw [e]
          rcases hrec with ⟨a, b⟩ | ⟨a, k, b⟩
          · left
            refine ⟨a, ?_⟩
            simp [-List.contains_eq_mem, h, rdI_iad hv .i64 h0 h, e9, c1, c2, e1, hc, g, h5, L_path_walk_0_fold]
            simpa using b
          · right
            refine ⟨a, k, ?_⟩
            simp [-List.contains_eq_mem, h, rdI_iad hv .i64 h0 h, e9, c1, c2, e1, hc, g, h5, L_path_walk_0_fold]
            simpa using b

theorem call_walk (hn : s.lookup 56 = none) (hc : ∀ args H, callV (env s) 57 args H = gHas args H) {v : AV} {l : List Int} (hv : rdI .i64 H v = some l) (hcap : capOk v = true) (hm : l.length ≤ 1000000) :
    (mayP l = true ∧ callV (env s) 56 [v] H = some (.nilifc, H)) ∨ (mayP l = false ∧ ∃ k : Int, callV (env s) 56 [v] H = some (.ifc 67 (.agg [.int .i64 k]), H)) := by
  rw [f_path_walk hn, p_path_walk]
  by_cases c1 : (l.length : Int) < 1
  · right
    refine ⟨by unfold mayP; rw [decide_eq_false (by omega)]; rfl, 0, by simp [rdI_len hv, c1]⟩
  by_cases c2 : (10 : Int) < l.length
  · right
    refine ⟨by unfold mayP; rw [decide_eq_false (by omega)]; rfl, 0, by simp [rdI_len hv, c1, c2]⟩
  have i0 := rdI_iad hv .i64 (i := 0) (by omega) (by omega)
  have i1 := rdI_ld hv (i := 0) (by omega) (by omega)
  simp only [Int.toNat_zero] at i1
  by_cases c3 : l.getD 0 0 = 1
  · have e : mayP l = okP [] l := by unfold mayP; rw [decide_eq_true ⟨by omega, by omega, c3⟩]; rfl
    rw [e]
    rw [c3] at i1
    rcases loop_walk hc hv hcap hm l.length 0 (by omega) with ⟨a, b⟩ | ⟨a, k, b⟩
    · left
      rw [List.take_zero, List.drop_zero] at a
      refine ⟨a, ?_⟩
      rw [show ((0 : Nat) : Int) = 0 from rfl] at b
      simp [rdI_len hv, c1, c2, i0, i1, L_path_walk_0_fold, b, p_path_walk_1]
    · right
      rw [List.take_zero, List.drop_zero] at a
      refine ⟨a, k, ?_⟩
      rw [show ((0 : Nat) : Int) = 0 from rfl] at b
      simp [rdI_len hv, c1, c2, i0, i1, L_path_walk_0_fold, b]
  · right
    refine ⟨by unfold mayP; rw [decide_eq_false (by intro h; exact c3 h.2.2)]; rfl, 0, ?_⟩
    generalize l.getD 0 0 = x at *
    simp [rdI_len hv, c1, c2, i0, i1, c3]

def gMay (args : List AV) (H : AHeap) : Option (AV × AHeap) := match args with
  | [.zs _ _ _ _] => some (.bool false, H)
  | [v] => match rdI .i64 H v with
    | some l => if l.length ≤ 1000000 ∧ capOk v = true then some (.bool (mayP l), H) else none
    | none => none
  | _ => none
theorem gMay_val {v : AV} {l : List Int} (hv : rdI .i64 H v = some l) (hcap : capOk v = true) (hm : l.length ≤ 1000000) : gMay [v] H = some (.bool (mayP l), H) := by
  rcases rdI_cases hv with ⟨rfl, rfl⟩ | ⟨r, o, c, rfl, hr, hrow⟩ <;> (simp only [gMay, hv]; rw [if_pos ⟨hm, hcap⟩])
theorem ok_gMay (hs : SpecsOk s) (hn : s.lookup 44 = none) (hn2 : s.lookup 56 = none) (hc : ∀ args H, callV (env s) 57 args H = gHas args H) : SpecOk Try.prog 44 gMay := by
  refine specOk hs hn fun args H v H' h => ?_
  unfold gMay at h
  split at h
  · simp only [Option.some.injEq, Prod.mk.injEq] at h
    obtain ⟨rfl, rfl⟩ := h
    refine fgt_pure (plainV_bool _) ?_
    rw [f_path_May hn, p_path_May, f_path_walk hn2, p_path_walk]
    simp
  · rename_i a _
    split at h
    · rename_i l hl
      split at h
      · rename_i hh
        simp only [Option.some.injEq, Prod.mk.injEq] at h
        obtain ⟨rfl, rfl⟩ := h
        refine fgt_pure (plainV_bool _) ?_
        rw [f_path_May hn, p_path_May]
        rcases call_walk hn2 hc hl hh.2 hh.1 with ⟨e1, e2⟩ | ⟨e1, k, e2⟩
        · simp [e1, e2]
        · simp [e1, e2]
      · cases h
    · cases h
  · cases h

def grandP (l : List Int) : Int := if l.length < 2 then 0 else l.getD (l.length - 2) 0
def gGrand (args : List AV) (H : AHeap) : Option (AV × AHeap) := match args with
  | [v] => match rdI .i64 H v with
    | some l => if l.length ≤ 1000000 then some (.int .i64 (grandP l), H) else none
    | none => none
  | _ => none
theorem gGrand_val {v : AV} {l : List Int} (hv : rdI .i64 H v = some l) (hm : l.length ≤ 1000000) : gGrand [v] H = some (.int .i64 (grandP l), H) := by
  simp only [gGrand, hv]; rw [if_pos hm]
theorem ok_gGrand (hs : SpecsOk s) (hn : s.lookup 48 = none) : SpecOk Try.prog 48 gGrand := by
  refine specOk hs hn fun args H v H' h => ?_
  unfold gGrand at h
  split at h
  · rename_i a
    split at h
    · rename_i l hl
      split at h
      · rename_i hh
        simp only [Option.some.injEq, Prod.mk.injEq] at h
        obtain ⟨rfl, rfl⟩ := h
        refine fgt_pure (plainV_int _ _) ?_
        rw [f_path_Grand hn, p_path_Grand]
        unfold grandP
        by_cases c : (l.length : Int) < 2
        · simp [rdI_len hl, c, show l.length < 2 by omega]
        · have w : IntKind.i64.wrap ((l.length : Int) - 2) = (l.length : Int) - 2 := wrap_i64 (by omega) (by omega)
          have i0 := rdI_iad hl .i64 (i := (l.length : Int) - 2) (by omega) (by omega)
          have i1 := rdI_ld hl (i := (l.length : Int) - 2) (by omega) (by omega)
          rw [show ((l.length : Int) - 2).toNat = l.length - 2 by omega] at i1
          simp [-List.getD_eq_getElem?_getD, rdI_len hl, c, w, i0, i1, show ¬ l.length < 2 by omega]
      · cases h
    · cases h
  · cases h

/-- One more can be put behind it. -/
def AppOk (H0 H : AHeap) (v : AV) (l : List Int) : Prop := ∀ x : Int, ∃ q H2, appA (H.push (some (.cells .exact 1 [.int .i64 x]))) 1 8 v (.sl H.size 0 1 (.ex 1)) = some (q, H2) ∧ rdI .i64 H2 q = some (l ++ [x]) ∧ capOk q = true ∧ Kept H0 H2 ∧ ∀ r, r < H0.size → notOf q r
theorem Own.capOk {k : IntKind} {lo : Nat} {H : AHeap} {v : AV} {l : List Int} (h : Own k lo H v l) : capOk v = true := by
  rcases h with ⟨rfl, _⟩ | ⟨r, rfl, _⟩ <;> rfl
theorem Own.appOk {H0 H : AHeap} {v : AV} {l : List Int} (h : Own .i64 H0.size H v l) (hk : Kept H0 H) (hm : l.length ≤ 1000000) : AppOk H0 H v l := fun x => by
  obtain ⟨q, H2, e, h2, h3⟩ := app_one (bytes := 8) x h hk.size (by simp only [maxBytes]; omega) (by simp only [maxBytes]; omega)
  exact ⟨q, H2, e, h2.rd, Own.capOk h2, ⟨by have := hk.size; have := h3.size; omega, fun r hr => by rw [h3.get r hr, hk.get r hr]⟩, fun r hr => OwnR.notOf h2 (Or.inl hr)⟩
theorem app_new {H0 H : AHeap} {r : Nat} (hk : Kept H0 H) (hg : H.get r = some (.cells .exact 1 [])) (hr : r < H.size) : AppOk H0 H (.sl r 0 0 (.ex 0)) [] := fun x => by
  have e := app_none (k := .i64) (x := .sl H.size 0 1 (.ex 1)) (l := [x]) (bytes := 8) (kd := .exact) (z := 1) (cs := []) (H := H.push (some (.cells .exact 1 [.int .i64 x]))) (r := r)
    (rdI_mk (l := [x]) (more := []) (kd := .exact) (z := 1) (by simp) (by simp)) (by rw [get_push_ne (by omega)]; exact hg) (by simp) (by simp [maxBytes]) (by simp [maxBytes])
  exact ⟨_, _, e, rdI_mk (l := [x]) (more := []) (kd := .opened) (z := 1) (by simp) (by simp), rfl, (hk.push _).push _, fun r hr a n c e => by cases e; have := hk.size; simp at hr; omega⟩

/-- A copy of one's own. -/
theorem copy_ok {v : AV} {l : List Int} (hv : rdI .i64 H v = some l) (hm : l.length ≤ 1000000) :
    ∃ v' H', appA (H.push (some (.cells .exact 1 []))) 1 8 (.sl H.size 0 0 (.ex 0)) v = some (v', H') ∧ AppOk H H' v' l ∧ Kept H H' := by
  have k1 : Kept H (H.push (some (.cells .exact 1 []))) := (Kept.refl _).push _
  by_cases h0 : l.length = 0
  · obtain rfl := List.length_eq_zero_iff.1 h0
    refine ⟨.sl H.size 0 0 (.ex 0), H.push (some (.cells .exact 1 [])), ?_, app_new k1 (by simp) (by simp), k1⟩
    obtain ⟨hs, hs2⟩ := rdI_src (rdI_kept k1 hv)
    simp only [List.map_nil, List.length_nil] at hs hs2
    simp [appA, hs, hs2, appOnto]
  · have eapp := app_none (bytes := 8) (kd := .exact) (z := 1) (cs := []) (H := H.push (some (.cells .exact 1 []))) (r := H.size) (rdI_kept k1 hv) (by simp) (by omega) (by simp only [maxBytes]; omega) (by simp only [maxBytes]; omega)
    simp only [AHeap.size_push] at eapp
    exact ⟨_, _, eapp, Own.appOk (l := l) (v := .sl (H.size + 1) 0 l.length (.mi 0)) (Or.inr ⟨H.size + 1, rfl, by omega, by simp, by simp, by simp⟩) (k1.push _) hm, k1.push _⟩

theorem call_Clone (hn : s.lookup 55 = none) {v : AV} {l : List Int} (hv : rdI .i64 H v = some l) (hm : l.length ≤ 1000000) :
    ∃ v' H', callV (env s) 55 [v] H = some (v', H') ∧ AppOk H H' v' l ∧ Kept H H' := by
  rw [f_slices_Clone_int_int hn, p_slices_Clone_int_int]
  obtain ⟨v', H', e, h1, h2⟩ := copy_ok hv hm
  rcases rdI_cases hv with ⟨rfl, rfl⟩ | ⟨r, o, c, rfl, hr, hrow⟩
  · exact ⟨.nils, H, by simp, Own.appOk (Own.nils _ _ _) (Kept.refl H) hm, Kept.refl H⟩
  · exact ⟨v', H', by simp [e], h1, h2⟩

/-- What Add tells. -/
def AddQ (H : AHeap) (l : List Int) (v' : AV) (H' : AHeap) : Prop :=
  ((mayP l = true ∧ ∃ q, v' = .tup [q, .bool true] ∧ rdI .i64 H' q = some l ∧ capOk q = true) ∨ (mayP l = false ∧ v' = .tup [.nils, .bool false])) ∧ Kept H H'

theorem call_Add (hn : s.lookup 41 = none) (hn2 : s.lookup 55 = none) (hc : ∀ args H, callV (env s) 44 args H = gMay args H) {v : AV} {l : List Int} (hv : rdI .i64 H v = some l) (hm : l.length ≤ 100000) (x : Int) :
    EndsV (callV (env s) 41 [v, .int .i64 x] H) (AddQ H (l ++ [x])) := by
  rw [f_path_Add hn, p_path_Add]
  obtain ⟨v', H', e, ha, hk⟩ := call_Clone hn2 hv (by omega)
  obtain ⟨q, H2, e2, e3, e4, k2, _⟩ := ha x
  have g := gMay_val e3 e4 (by simp; omega)
  cases hq : mayP (l ++ [x]) with
  | false =>
    rw [hq] at g
    simp [e, e2, hc, g]
    exact ⟨Or.inr ⟨hq, rfl⟩, k2⟩
  | true =>
    rw [hq] at g
    simp [e, e2, hc, g]
    exact ⟨Or.inl ⟨hq, q, rfl, e3, e4⟩, k2⟩
end

theorem slc_drop {k kk : IntKind} {H : AHeap} {v : AV} {l : List Int} (hl : rdI k H v = some l) (hc : capOk v = true) {i : Nat} (hi : i ≤ l.length) : ∃ s, slcP H 1 v (some (.int kk i)) none none = some s ∧ ((rdI k H s = some (l.drop i) ∧ capOk s = true) ∨ (i = l.length ∧ ∃ r o k d, s = .zs r o k d)) := by
  rcases rdI_cases hl with ⟨rfl, rfl⟩ | ⟨r, o, c, rfl, hr, hrow⟩
  · obtain rfl : i = 0 := by simpa using hi
    exact ⟨.nils, by simp [slcP, slcA, bndo, bnd], Or.inl ⟨rfl, rfl⟩⟩
  · have hrd : ∀ o' c', (i = l.length ∨ o' = o + i) → o' ≤ o + i → rdI k H (.sl r o' (l.length - i) c') = some (l.drop i) := fun o' c' hlt ho => by
      have h2 : H.row r o' ((l.length - i) * 1) = some ((l.drop i).map (AV.int k)) := by
        rw [Nat.mul_one]
        rw [row_eq] at hrow ⊢
        unfold objRow at hrow ⊢
        generalize H.get r = g at *
        cases g with
        | none => cases hrow
        | some b => cases b with
          | cells k z a =>
            dsimp only at hrow ⊢
            split at hrow
            · rename_i hle
              have e := Option.some.inj hrow
              rw [if_pos (by omega), List.map_drop, ← e]
              rcases hlt with rfl | rfl
              · simp
              · rw [List.drop_take, List.drop_drop]
            · cases hrow
          | _ => cases hrow
      simp only [rdI, rdW, if_pos hr, h2]
      have := chunksI_mk (k := k) (l.drop i) []
      rw [List.append_nil, List.length_drop] at this
      exact this
    have hcap : l.length ≤ capLe H 1 r l.length c := by
      cases c with
      | ex c => simp only [capOk, decide_eq_true_eq] at hc; simp only [capLe]; omega
      | mi m =>
        simp only [capLe]
        split
        · split <;> omega
        · exact Nat.le_refl _
    have hb : bndo (some (AV.int kk (i : Int))) 0 l.length = some i := by
      rw [bndo_int, if_pos ⟨by omega, by omega⟩]; simp
    cases c with
    | ex c =>
      simp only [capOk, decide_eq_true_eq] at hc
      refine ⟨.sl r (if c = i then o else o + i * 1) (l.length - i) (.ex (c - i)), ?_, Or.inl ⟨hrd _ _ ?_ ?_, ?_⟩⟩
      · simp only [slcP, slcA, hb, bndo_none, Option.map_some]
      · by_cases h : c = i
        · exact Or.inl (by omega)
        · rw [if_neg h]; exact Or.inr (by omega)
      · split <;> omega
      · simp only [capOk, decide_eq_true_eq]; omega
    | mi m =>
      by_cases h0 : i = 0
      · subst h0
        refine ⟨.sl r o l.length (.mi m), ?_, Or.inl ⟨by simpa using hl, rfl⟩⟩
        simp only [slcP, slcA, hb, bndo_none, Option.map_some, if_true]
      · by_cases h1 : i < capLe H 1 r l.length (.mi m)
        · refine ⟨.sl r (o + i * 1) (l.length - i) (.mi (m + i)), ?_, Or.inl ⟨hrd _ _ (Or.inr (by omega)) (by omega), rfl⟩⟩
          simp only [slcP, slcA, hb, bndo_none, Option.map_some, if_neg h0, if_pos h1]
        · have hg : (H.get r).isSome = true := by
            rw [row_eq] at hrow
            cases hq : H.get r with
            | none => rw [hq] at hrow; cases hrow
            | some x => rfl
          refine ⟨.zs r o (m + i) (i * 1), ?_, Or.inr ⟨by omega, _, _, _, _, rfl⟩⟩
          simp only [slcP, slcA, hb, bndo_none, Option.map_some, if_neg h0, if_neg h1, if_pos hg]

/-! What ways are, plainly. -/
theorem okP_append : ∀ (b a pre : List Int), okP pre (a ++ b) = (okP pre a && okP (pre ++ a) b)
  | b, [], pre => by simp [okP]
  | b, x :: a, pre => by simp [okP, okP_append b a (pre ++ [x]), Bool.and_assoc]
theorem mayP_add {l : List Int} (h : mayP l = true) (x : Int) : mayP (l ++ [x]) = (!(l.contains x || decide (x < 1) || decide (x > 8) || decide (l.length ≥ 10))) := by
  unfold mayP at h ⊢
  rw [Bool.and_eq_true, decide_eq_true_eq] at h
  obtain ⟨⟨h1, h2, h3⟩, h4⟩ := h
  rw [okP_append, h4, List.nil_append]
  have e : (l ++ [x]).getD 0 0 = 1 := by
    rw [← h3]
    cases l with
    | nil => simp at h1
    | cons a l => rfl
  rw [e]
  simp only [okP, Bool.and_true, Bool.true_and, List.length_append, List.length_singleton]
  cases l.contains x <;> rw [Bool.eq_iff_iff] <;> simp only [Bool.and_eq_true, Bool.not_eq_true', Bool.or_eq_false_iff, decide_eq_true_eq, decide_eq_false_iff_not, Bool.not_true, Bool.not_false, Bool.true_or, Bool.false_or, Bool.false_eq_true, and_false, false_and, and_true] <;> omega
theorem mayP_take {l : List Int} (h : mayP l = true) {i : Nat} (h1 : 1 ≤ i) (h2 : i ≤ l.length) : mayP (l.take i) = true := by
  unfold mayP at h ⊢
  rw [Bool.and_eq_true, decide_eq_true_eq] at h ⊢
  obtain ⟨⟨a1, a2, a3⟩, h4⟩ := h
  refine ⟨⟨by simp; omega, by simp; omega, ?_⟩, ?_⟩
  · rw [← a3]
    cases l with
    | nil => simp at a1
    | cons a l => cases i with
      | zero => omega
      | succ i => rfl
  · have := okP_append (l.drop i) (l.take i) []
    rw [List.take_append_drop, h4, eq_comm, Bool.and_eq_true] at this
    exact this.1
theorem mayP_new {l : List Int} (h : mayP l = true) {i : Nat} (h2 : i < l.length) : (l.take i).contains (l.getD i 0) = false := by
  unfold mayP at h
  rw [Bool.and_eq_true] at h
  have := okP_append (l.drop i) (l.take i) []
  rw [List.take_append_drop, h.2, eq_comm, Bool.and_eq_true, List.nil_append, drop_cons h2, okP, Bool.and_eq_true, Bool.and_eq_true] at this
  simpa [-List.contains_eq_mem] using this.2.1.2
theorem mayP_drop {l : List Int} (h : mayP l = true) {i : Nat} (h1 : 1 ≤ i) : mayP (l.drop i) = false := by
  cases hq : mayP (l.drop i) with
  | false => rfl
  | true =>
    exfalso
    unfold mayP at hq
    rw [Bool.and_eq_true, decide_eq_true_eq, List.length_drop] at hq
    obtain ⟨⟨a1, _, a3⟩, _⟩ := hq
    have e := mayP_new h (i := i) (by omega)
    unfold mayP at h
    rw [Bool.and_eq_true, decide_eq_true_eq] at h
    have b3 := h.1.2.2
    have : l.getD i 0 = 1 := by rw [← a3, List.getD_eq_getElem?_getD, List.getD_eq_getElem?_getD, List.getElem?_drop, Nat.add_zero]
    rw [this] at e
    cases l with
    | nil => simp at a1
    | cons a l =>
      have : a = 1 := by simpa using b3
      subst this
      obtain ⟨i, rfl⟩ : ∃ j, i = j + 1 := ⟨i - 1, by omega⟩
      simp at e
theorem mayP_le {l : List Int} (h : mayP l = true) : 1 ≤ l.length ∧ l.length ≤ 10 := by
  unfold mayP at h
  rw [Bool.and_eq_true, decide_eq_true_eq] at h
  exact ⟨h.1.1, h.1.2.1⟩
end Go.Proofs.Ytncbinaaagmmaaa.Bp
