/- Who is in the middle, who is near: what the functions, and the answers of the document, come to. -/
import Derived.Test.YtncbinaaagmmaaaWcDist
set_option linter.unusedVariables false
set_option linter.unusedSimpArgs false
namespace Go.Proofs.Ytncbinaaagmmaaa.Bm
open Go.Ab
set_option maxRecDepth 100000

theorem drop_cons {l : List Int} {i : Nat} (h : i < l.length) : l.drop i = l.getD i 0 :: l.drop (i + 1) := by
  rw [List.drop_eq_getElem_cons h, List.getD_eq_getElem?_getD, List.getElem?_eq_getElem h]; rfl

section
variable {s : Specs} {H : AHeap}

theorem loop_Has {v : AV} {l : List Int} (hv : rdI .i64 H v = some l) (hm : l.length ≤ 1000000) (x : Int) : ∀ (n i : Nat), i + n = l.length →
    L_pleachref1_Has_0 s v (.int .i64 x) (.int .i64 i) H = if (l.drop i).contains x then some (.ret, X_pleachref1_Has_0_ret (.bool true), H) else some (.exit 0, X_pleachref1_Has_0_x0, H) := by
  intro n
  induction n with
  | zero =>
    intro i hi
    rw [L_pleachref1_Has_0_eq, p_pleachref1_Has_0]
    have h : ¬ ((i : Int) < l.length) := by omega
    have hd : l.drop i = [] := by rw [List.drop_eq_nil_iff]; omega
    simp [h, hd, rdI_len hv]
  | succ n ih =>
    intro i hi
    rw [L_pleachref1_Has_0_eq, p_pleachref1_Has_0]
    have h : (i : Int) < l.length := by omega
    have h0 : (0 : Int) ≤ i := by omega
    have h5 : IntKind.i64.wrap ((i : Int) + 1) = (i : Int) + 1 := wrap_i64 (by omega) (by omega)
    have := ih (i + 1) (by omega)
    rw [drop_cons (by omega : i < l.length)]
    have e9 := rdI_ld hv h0 h
    simp only [Int.toNat_natCast] at e9
    by_cases e : l.getD i 0 = x
    · have : (l.getD i 0 :: l.drop (i + 1)).contains x = true := by rw [List.contains_cons, e]; simp
      rw [this]
      simp [-List.getD_eq_getElem?_getD, rdI_len hv, h, rdI_iad hv .i64 h0 h, e9, e]
    · have e2 : (l.getD i 0 :: l.drop (i + 1)).contains x = (l.drop (i + 1)).contains x := by
        rw [List.contains_cons]
        have : (x == l.getD i 0) = false := by simpa using Ne.symm e
        rw [this, Bool.false_or]
      rw [e2]
      simp [-List.getD_eq_getElem?_getD, -List.contains_eq_mem, rdI_len hv, h, rdI_iad hv .i64 h0 h, e9, e, h5, L_pleachref1_Has_0_fold]
      simpa [-List.contains_eq_mem] using this

def gHas (args : List AV) (H : AHeap) : Option (AV × AHeap) := match args with
  | [v, .int .i64 x] => match rdI .i64 H v with
    | some l => if l.length ≤ 1000000 then some (.bool (l.contains x), H) else none
    | none => none
  | _ => none
theorem ok_gHas (hs : SpecsOk s) (hn : s.lookup 47 = none) : SpecOk Try.prog 47 gHas := by
  refine specOk hs hn fun args H v H' h => ?_
  unfold gHas at h
  split at h
  · rename_i a x
    split at h
    · rename_i l hl
      split at h
      · rename_i hc
        simp only [Option.some.injEq, Prod.mk.injEq] at h
        obtain ⟨rfl, rfl⟩ := h
        refine fgt_pure (plainV_bool _) ?_
        rw [f_pleachref1_Has hn, p_pleachref1_Has]
        have := loop_Has (s := s) hl hc x l.length 0 (by omega)
        rw [List.drop_zero] at this
        cases hb : l.contains x with
        | true =>
          rw [hb] at this
          simp at this
          simp [-List.contains_eq_mem, L_pleachref1_Has_0_fold, this]
        | false =>
          rw [hb] at this
          simp at this
          simp [-List.contains_eq_mem, L_pleachref1_Has_0_fold, this, p_pleachref1_Has_1]
      · cases h
    · cases h
  · cases h

instance (D : List (List Int)) : Decidable (Mat D) := inferInstanceAs (Decidable (D.length = 8 ∧ ∀ row ∈ D, row.length = 8 ∧ ∀ x ∈ row, 0 ≤ x ∧ x ≤ 1000))
instance (L : List Int) : Decidable (In8 L) := inferInstanceAs (Decidable (∀ x ∈ L, 1 ≤ x ∧ x ≤ 8))

/-- An entry of a table. -/
theorem tab_ent {d : AV} {D : List (List Int)} (hd : rdD H d = some D) (hm : Mat D) {a b : Int} (ha : 1 ≤ a ∧ a ≤ 8) (hb : 1 ≤ b ∧ b ≤ 8) :
    ∃ u, iadA 1 d (.int .i64 (a - 1)) = some (elp 1 d (a - 1)) ∧ ldA H (elp 1 d (a - 1)) = some u ∧ lenA u = some (.int .i64 8) ∧ iadA 1 u (.int .i64 (b - 1)) = some (elp 1 u (b - 1)) ∧ ldA H (elp 1 u (b - 1)) = some (.int .i64 (ent D a b)) := by
  have h1 : (a - 1) < (D.length : Int) := by rw [hm.1]; omega
  obtain ⟨u, hu, hr⟩ := rdD_ld hd (i := a - 1) (by omega) h1
  have hrow := Mat.row hm ha
  have h2 : (b - 1) < ((D.getD (a - 1).toNat []).length : Int) := by rw [hrow.1]; omega
  refine ⟨u, rdD_iad hd .i64 (by omega) h1, hu, by rw [rdI_len hr, hrow.1]; rfl, rdI_iad hr .i64 (by omega) h2, ?_⟩
  rw [rdI_ld hr (by omega) h2]; rfl

def gDist (args : List AV) (H : AHeap) : Option (AV × AHeap) := match args with
  | [d, .int .i64 a, .int .i64 b] => match rdD H d with
    | some D => if Mat D ∧ (1 ≤ a ∧ a ≤ 8) ∧ (1 ≤ b ∧ b ≤ 8) then some (.int .i64 (ent D a b), H) else none
    | none => none
  | _ => none
theorem ok_gDist (hs : SpecsOk s) (hn : s.lookup 53 = none) : SpecOk Try.prog 53 gDist := by
  refine specOk hs hn fun args H v H' h => ?_
  unfold gDist at h
  split at h
  · rename_i d a b
    split at h
    · rename_i D hD
      split at h
      · rename_i hc
        obtain ⟨hm, ha, hb⟩ := hc
        simp only [Option.some.injEq, Prod.mk.injEq] at h
        obtain ⟨rfl, rfl⟩ := h
        refine fgt_pure (plainV_int _ _) ?_
        rw [f_mid_dist hn, p_mid_dist]
        obtain ⟨u, e1, e2, e3, e4, e5⟩ := tab_ent hD hm ha hb
        have h1 : ¬ a < 1 := by omega
        have h2 : ¬ (8 : Int) < a := by omega
        have h3 : ¬ b < 1 := by omega
        have h4 : ¬ (8 : Int) < b := by omega
        have h5 : IntKind.i64.wrap (a - 1) = a - 1 := wrap_i64 (by omega) (by omega)
        have h6 : IntKind.i64.wrap (b - 1) = b - 1 := wrap_i64 (by omega) (by omega)
        have h7 : lenA d = some (.int .i64 8) := by rw [rdD_len hD, hm.1]; rfl
        simp [h1, h2, h3, h4, h5, h6, h7, e1, e2, e3, e4, e5]
      · cases h
    · cases h
  · cases h

def gFar (args : List AV) (H : AHeap) : Option (AV × AHeap) := match args with
  | [d, .int .i64 m, l] => match rdD H d, rdI .i64 H l with
    | some D, some L => if Mat D ∧ (1 ≤ m ∧ m ≤ 8) ∧ In8 L ∧ L.length ≤ 1000000 then some (.int .i64 (farP D m L), H) else none
    | _, _ => none
  | _ => none

theorem loop_Far (hc : ∀ args H, callV (env s) 53 args H = gDist args H) {d l : AV} {D : List (List Int)} {L : List Int} {m : Int} (hD : rdD H d = some D) (hL : rdI .i64 H l = some L) (hm : Mat D) (h8 : 1 ≤ m ∧ m ≤ 8) (hi8 : In8 L) (hlen : L.length ≤ 1000000) :
    ∀ (n i : Nat) (far : Int), i + n = L.length → L_mid_Far_0 s d (.int .i64 m) (.int .i64 far) l (.int .i64 L.length) (.int .i64 i) H = some (.exit 0, X_mid_Far_0_x0 (.int .i64 ((L.drop i).foldl (fun n x => max n (ent D m x)) far)), H) := by
  intro n
  induction n with
  | zero =>
    intro i far hi
    rw [L_mid_Far_0_eq, p_mid_Far_0]
    have h : ¬ ((i : Int) < L.length) := by omega
    have hd : L.drop i = [] := by rw [List.drop_eq_nil_iff]; omega
    simp [h, hd]
  | succ n ih =>
    intro i far hi
    rw [L_mid_Far_0_eq, p_mid_Far_0]
    have h : (i : Int) < L.length := by omega
    have h0 : (0 : Int) ≤ i := by omega
    have h5 : IntKind.i64.wrap ((i : Int) + 1) = (i : Int) + 1 := wrap_i64 (by omega) (by omega)
    have e9 := rdI_ld hL h0 h
    simp only [Int.toNat_natCast] at e9
    have hx : 1 ≤ L.getD i 0 ∧ L.getD i 0 ≤ 8 := by
      rw [List.getD_eq_getElem?_getD, List.getElem?_eq_getElem (by omega)]
      exact hi8 _ (List.getElem_mem _)
    have hg : gDist [d, .int .i64 m, .int .i64 (L.getD i 0)] H = some (.int .i64 (ent D m (L.getD i 0)), H) := by
      simp only [gDist, hD]; rw [if_pos ⟨hm, h8, hx⟩]
    rw [drop_cons (by omega : i < L.length), List.foldl_cons]
    have := ih (i + 1) (max far (ent D m (L.getD i 0))) (by omega)
    simp [-List.getD_eq_getElem?_getD, h, rdI_iad hL .i64 h0 h, e9, hc, hg, h5, L_mid_Far_0_fold]
    simpa [-List.getD_eq_getElem?_getD] using this
theorem ok_gFar (hs : SpecsOk s) (hn : s.lookup 34 = none) (hc : ∀ args H, callV (env s) 53 args H = gDist args H) : SpecOk Try.prog 34 gFar := by
  refine specOk hs hn fun args H v H' h => ?_
  unfold gFar at h
  split at h
  · rename_i d m l
    split at h
    · rename_i D L hD hL
      split at h
      · rename_i hh
        simp only [Option.some.injEq, Prod.mk.injEq] at h
        obtain ⟨rfl, rfl⟩ := h
        refine fgt_pure (plainV_int _ _) ?_
        rw [f_mid_Far hn, p_mid_Far]
        have := loop_Far hc hD hL hh.1 hh.2.1 hh.2.2.1 hh.2.2.2 L.length 0 0 (by omega)
        simp at this
        simp [rdI_len hL, L_mid_Far_0_fold, this, p_mid_Far_1]
        rfl
      · cases h
    · cases h
  · cases h

theorem loop_RFar {d l : AV} {D : List (List Int)} {L : List Int} {m : Int} (hD : rdD H d = some D) (hL : rdI .i64 H l = some L) (hm : Mat D) (h8 : 1 ≤ m ∧ m ≤ 8) (hi8 : In8 L) (hlen : L.length ≤ 1000000) :
    ∀ (n i : Nat) (far : Int), i + n = L.length → L_pleachref7_Far_0 s d (.int .i64 m) l (.int .i64 far) (.int .i64 i) H = some (.exit 0, X_pleachref7_Far_0_x0 (.int .i64 ((L.drop i).foldl (fun n x => max n (ent D m x)) far)), H) := by
  intro n
  induction n with
  | zero =>
    intro i far hi
    rw [L_pleachref7_Far_0_eq, p_pleachref7_Far_0]
    have h : ¬ ((i : Int) < L.length) := by omega
    have hd : L.drop i = [] := by rw [List.drop_eq_nil_iff]; omega
    simp [h, hd, rdI_len hL]
  | succ n ih =>
    intro i far hi
    rw [L_pleachref7_Far_0_eq, p_pleachref7_Far_0]
    have h : (i : Int) < L.length := by omega
    have h0 : (0 : Int) ≤ i := by omega
    have h5 : IntKind.i64.wrap ((i : Int) + 1) = (i : Int) + 1 := wrap_i64 (by omega) (by omega)
    have e9 := rdI_ld hL h0 h
    simp only [Int.toNat_natCast] at e9
    have hx : 1 ≤ L.getD i 0 ∧ L.getD i 0 ≤ 8 := by
      rw [List.getD_eq_getElem?_getD, List.getElem?_eq_getElem (by omega)]
      exact hi8 _ (List.getElem_mem _)
    obtain ⟨u, e1, e2, e3, e4, e5⟩ := tab_ent hD hm h8 hx
    have h6 : IntKind.i64.wrap (m - 1) = m - 1 := wrap_i64 (by omega) (by omega)
    have h7 : IntKind.i64.wrap (L.getD i 0 - 1) = L.getD i 0 - 1 := wrap_i64 (by omega) (by omega)
    rw [drop_cons (by omega : i < L.length), List.foldl_cons]
    have := ih (i + 1) (max far (ent D m (L.getD i 0))) (by omega)
    simp [-List.getD_eq_getElem?_getD, rdI_len hL, h, rdI_iad hL .i64 h0 h, e9, e1, e2, e4, e5, h5, h6, h7, L_pleachref7_Far_0_fold]
    simpa [-List.getD_eq_getElem?_getD] using this
theorem ok_gFar' (hs : SpecsOk s) (hn : s.lookup 35 = none) : SpecOk Try.prog 35 gFar := by
  refine specOk hs hn fun args H v H' h => ?_
  unfold gFar at h
  split at h
  · rename_i d m l
    split at h
    · rename_i D L hD hL
      split at h
      · rename_i hh
        simp only [Option.some.injEq, Prod.mk.injEq] at h
        obtain ⟨rfl, rfl⟩ := h
        refine fgt_pure (plainV_int _ _) ?_
        rw [f_pleachref7_Far hn, p_pleachref7_Far]
        have := loop_RFar (s := s) hD hL hh.1 hh.2.1 hh.2.2.1 hh.2.2.2 L.length 0 0 (by omega)
        simp at this
        simp [L_pleachref7_Far_0_fold, this, p_pleachref7_Far_1]
        rfl
      · cases h
    · cases h
  · cases h

/-- The functions that are handed on: how far, how near. -/
def gMid1 (args : List AV) (H : AHeap) : Option (AV × AHeap) := match args with
  | [x, a, b] => match ldA H a, ldA H b with
    | some d, some l => match gFar [d, x, l] H with
      | some (v, _) => some (.tup [v, .bool true], H)
      | none => none
    | _, _ => none
  | _ => none
theorem gFar_inv {d x l v : AV} {H H' : AHeap} (h : gFar [d, x, l] H = some (v, H')) : (∃ n, v = .int .i64 n) ∧ H' = H := by
  unfold gFar at h
  split at h
  · split at h
    · split at h
      · simp only [Option.some.injEq, Prod.mk.injEq] at h
        exact ⟨⟨_, h.1.symm⟩, h.2.symm⟩
      · cases h
    · cases h
  · cases h
theorem ok_gMid1 (hs : SpecsOk s) (hn : s.lookup 52 = none) (hc : ∀ args H, callV (env s) 34 args H = gFar args H) : SpecOk Try.prog 52 gMid1 := by
  refine specOk hs hn fun args H v H' h => ?_
  unfold gMid1 at h
  split at h
  · rename_i x a b
    split at h
    · rename_i d l hd hl
      split at h
      · rename_i w H2 hg
        simp only [Option.some.injEq, Prod.mk.injEq] at h
        obtain ⟨rfl, rfl⟩ := h
        obtain ⟨⟨n, rfl⟩, rfl⟩ := gFar_inv hg
        refine fgt_pure (fun _ => by simp) ?_
        rw [f_mid_Mid_1 hn, p_mid_Mid_1]
        simp [hd, hl, hc, hg]
      · cases h
    · cases h
  · cases h
def gNear1 (args : List AV) (H : AHeap) : Option (AV × AHeap) := match args with
  | [.int .i64 x, a, b] => match ldA H a, ldA H b with
    | some d, some (.int .i64 m) => match gDist [d, .int .i64 m, .int .i64 x] H with
      | some (v, _) => some (.tup [v, .bool (decide (x ≠ m))], H)
      | none => none
    | _, _ => none
  | _ => none
theorem gDist_inv {d x l v : AV} {H H' : AHeap} (h : gDist [d, x, l] H = some (v, H')) : (∃ n, v = .int .i64 n) ∧ H' = H := by
  unfold gDist at h
  split at h
  · split at h
    · split at h
      · simp only [Option.some.injEq, Prod.mk.injEq] at h
        exact ⟨⟨_, h.1.symm⟩, h.2.symm⟩
      · cases h
    · cases h
  · cases h
theorem ok_gNear1 (hs : SpecsOk s) (hn : s.lookup 54 = none) (hc : ∀ args H, callV (env s) 53 args H = gDist args H) : SpecOk Try.prog 54 gNear1 := by
  refine specOk hs hn fun args H v H' h => ?_
  unfold gNear1 at h
  split at h
  · rename_i x a b
    split at h
    · rename_i d m hd hm
      split at h
      · rename_i w H2 hg
        simp only [Option.some.injEq, Prod.mk.injEq] at h
        obtain ⟨rfl, rfl⟩ := h
        obtain ⟨⟨n, rfl⟩, rfl⟩ := gDist_inv hg
        refine fgt_pure (fun _ => by simp) ?_
        rw [f_mid_Near_1 hn, p_mid_Near_1]
        simp [hd, hm, hc, hg]
      · cases h
    · cases h
  · cases h

theorem loop_least {f : Int → Int} {q : Int → Bool} {c : Nat} {caps : List AV} {l : AV} {L : List Int} (hL : rdI .i64 H l = some L) (hlen : L.length ≤ 1000000) (hcl : ∀ x ∈ L, callV (env s) c (.int .i64 x :: caps) H = some (.tup [.int .i64 (f x), .bool (q x)], H)) :
    ∀ (n i : Nat) (p : Int × Int), i + n = L.length → L_mid_least_1 s (.fn c [] caps) (.int .i64 p.1) (.int .i64 p.2) l (.int .i64 L.length) (.int .i64 i) H = some (.exit 0, X_mid_least_1_x0 (.int .i64 ((L.drop i).foldl (stepL f q) p).1), H) := by
  intro n
  induction n with
  | zero =>
    intro i p hi
    rw [L_mid_least_1_eq, p_mid_least_1]
    have h : ¬ ((i : Int) < L.length) := by omega
    have hd : L.drop i = [] := by rw [List.drop_eq_nil_iff]; omega
    simp [h, hd]
  | succ n ih =>
    intro i p hi
    rw [L_mid_least_1_eq, p_mid_least_1]
    have h : (i : Int) < L.length := by omega
    have h0 : (0 : Int) ≤ i := by omega
    have h5 : IntKind.i64.wrap ((i : Int) + 1) = (i : Int) + 1 := wrap_i64 (by omega) (by omega)
    have e9 := rdI_ld hL h0 h
    simp only [Int.toNat_natCast] at e9
    have hx := hcl (L.getD i 0) (by rw [List.getD_eq_getElem?_getD, List.getElem?_eq_getElem (by omega)]; exact List.getElem_mem _)
    rw [drop_cons (by omega : i < L.length), List.foldl_cons]
    generalize L.getD i 0 = x at *
    have hrec := ih (i + 1) (stepL f q p x) (by omega)
    cases hq : q x with
    | false =>
      have e : stepL f q p x = p := by unfold stepL; rw [hq]; simp
      rw [e] at hrec ⊢
      rw [hq] at hx
      simp [h, rdI_iad hL .i64 h0 h, e9, hx, p_mid_least_0, h5, L_mid_least_1_fold]
      simpa using hrec
    | true =>
      rw [hq] at hx
      by_cases c1 : p.1 = 0
      · have e : stepL f q p x = (x, f x) := by unfold stepL; rw [hq]; simp [c1]
        rw [e] at hrec ⊢
        simp [h, rdI_iad hL .i64 h0 h, e9, hx, c1, p_mid_least_0, h5, L_mid_least_1_fold]
        simpa using hrec
      · by_cases c2 : f x < p.2
        · have e : stepL f q p x = (x, f x) := by unfold stepL; rw [hq]; simp [c2]
          rw [e] at hrec ⊢
          simp [h, rdI_iad hL .i64 h0 h, e9, hx, c1, c2, p_mid_least_0, h5, L_mid_least_1_fold]
          simpa using hrec
        · by_cases c3 : f x = p.2
          · by_cases c4 : x < p.1
            · have e : stepL f q p x = (x, f x) := by unfold stepL; rw [hq]; simp [c3, c4]
              rw [e] at hrec ⊢
              have c2' : ¬ (p.2 < p.2) := by omega
              simp [h, rdI_iad hL .i64 h0 h, e9, hx, c1, c2', c3, c4, p_mid_least_0, h5, L_mid_least_1_fold]
              rw [c3] at hrec
              simpa [c3] using hrec
            · have e : stepL f q p x = p := by unfold stepL; rw [hq]; simp [c1, c3, c4]
              rw [e] at hrec ⊢
              have c2' : ¬ (p.2 < p.2) := by omega
              simp [h, rdI_iad hL .i64 h0 h, e9, hx, c1, c2', c3, c4, p_mid_least_0, h5, L_mid_least_1_fold]
              simpa using hrec
          · have e : stepL f q p x = p := by unfold stepL; rw [hq]; simp [c1, c2, c3]
            rw [e] at hrec ⊢
            simp [h, rdI_iad hL .i64 h0 h, e9, hx, c1, c2, c3, p_mid_least_0, h5, L_mid_least_1_fold]
            simpa using hrec
theorem call_least (hn : s.lookup 51 = none) {f : Int → Int} {q : Int → Bool} {c : Nat} {caps : List AV} {l : AV} {L : List Int} (hL : rdI .i64 H l = some L) (hlen : L.length ≤ 1000000) (hcl : ∀ x ∈ L, callV (env s) c (.int .i64 x :: caps) H = some (.tup [.int .i64 (f x), .bool (q x)], H)) :
    callV (env s) 51 [l, .fn c [] caps] H = some (.int .i64 (leastP f q L), H) := by
  rw [f_mid_least hn, p_mid_least]
  have := loop_least hL hlen hcl L.length 0 (0, 1001) (by omega)
  simp at this
  simp [rdI_len hL, L_mid_least_1_fold, this, p_mid_least_2]
  rfl
end
end Go.Proofs.Ytncbinaaagmmaaa.Bm
