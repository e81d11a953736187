/- Ways: what the document's functions come to. -/
import Derived.Test.YtncbinaaagmmaaaWcPath
import Derived.Test.YtncbinaaagmmaaaWcNum
set_option linter.unusedVariables false
set_option linter.unusedSimpArgs false
namespace Go.Proofs.Ytncbinaaagmmaaa.Bp
open Go.Ab
set_option maxRecDepth 100000
section
variable {s : Specs} {H : AHeap}

theorem loop_HasR {v : AV} {l : List Int} (hv : rdI .i64 H v = some l) (hm : l.length ≤ 1000000) (x : Int) : ∀ (n i : Nat), i + n = l.length →
    L_pleachref1_Has_0 s v (.int .i64 x) (.int .i64 i) H = if (l.drop i).contains x then some (.ret, X_pleachref1_Has_0_ret (.bool true), H) else some (.exit 0, X_pleachref1_Has_0_x0, H) := by
  intro n
  induction n with
  | zero =>
    intro i hi
    rw [L_pleachref1_Has_0_eq, p_pleachref1_Has_0]
    have h : ¬ ((i : Int) < l.length) := by omega
    have hd : l.drop i = [] := by rw [List.drop_eq_nil_iff]; omega
    simp [h, hd, rdI_len hv]
  | succ n ih =>
    intro i hi
    rw [L_pleachref1_Has_0_eq, p_pleachref1_Has_0]
    have h : (i : Int) < l.length := by omega
    have h0 : (0 : Int) ≤ i := by omega
    have h5 : IntKind.i64.wrap ((i : Int) + 1) = (i : Int) + 1 := wrap_i64 (by omega) (by omega)
    have := ih (i + 1) (by omega)
    rw [drop_cons (by omega : i < l.length)]
    have e9 := rdI_ld hv h0 h
    simp only [Int.toNat_natCast] at e9
    generalize l.getD i 0 = y at *
    by_cases e : y = x
    · subst e
      have e1 : (y :: l.drop (i + 1)).contains y = true := by rw [List.contains_cons]; simp
      rw [e1]
      simp [h, rdI_len hv, rdI_iad hv .i64 h0 h, e9]
    · have e1 : (y :: l.drop (i + 1)).contains x = (l.drop (i + 1)).contains x := by
        rw [List.contains_cons]
        have : (x == y) = false := by simpa using Ne.symm e
        rw [this, Bool.false_or]
      rw [e1]
      simp [-List.contains_eq_mem, h, rdI_len hv, rdI_iad hv .i64 h0 h, e9, e, h5, L_pleachref1_Has_0_fold]
      simpa [-List.contains_eq_mem] using this

theorem ok_gHasR (hs : SpecsOk s) (hn : s.lookup 47 = none) : SpecOk Try.prog 47 gHas := by
  refine specOk hs hn fun args H v H' h => ?_
  unfold gHas at h
  split at h
  · rename_i a x
    split at h
    · rename_i l hl
      split at h
      · rename_i hc
        simp only [Option.some.injEq, Prod.mk.injEq] at h
        obtain ⟨rfl, rfl⟩ := h
        refine fgt_pure (plainV_bool _) ?_
        rw [f_pleachref1_Has hn, p_pleachref1_Has]
        have := loop_HasR (s := s) hl hc x l.length 0 (by omega)
        rw [List.drop_zero, show ((0 : Nat) : Int) = 0 from rfl] at this
        simp only [L_pleachref1_Has_0_fold, this]
        cases l.contains x <;> simp [p_pleachref1_Has_1]
      · cases h
    · cases h
  · cases h

def gSame (args : List AV) (H : AHeap) : Option (AV × AHeap) := match args with
  | [v, w] => match rdI .i64 H v, rdI .i64 H w with
    | some l, some m => if l.length ≤ 1000000 ∧ m.length ≤ 1000000 then some (.bool (decide (l = m)), H) else none
    | _, _ => none
  | _ => none
theorem gSame_val {v w : AV} {l m : List Int} (hv : rdI .i64 H v = some l) (hw : rdI .i64 H w = some m) (h1 : l.length ≤ 1000000) (h2 : m.length ≤ 1000000) : gSame [v, w] H = some (.bool (decide (l = m)), H) := by
  simp only [gSame, hv, hw]; rw [if_pos ⟨h1, h2⟩]

theorem loop_Same {v w : AV} {l m : List Int} (hv : rdI .i64 H v = some l) (hw : rdI .i64 H w = some m) (hm : l.length ≤ 1000000) (he : l.length = m.length) : ∀ (n i : Nat), i + n = l.length →
    L_pleachref1_SameInts_0 s v w (.int .i64 i) H = if l.drop i = m.drop i then some (.exit 0, X_pleachref1_SameInts_0_x0, H) else some (.ret, X_pleachref1_SameInts_0_ret (.bool false), H) := by
  intro n
  induction n with
  | zero =>
    intro i hi
    rw [L_pleachref1_SameInts_0_eq, p_pleachref1_SameInts_0]
    have h : ¬ ((i : Int) < l.length) := by omega
    have hd : l.drop i = [] := by rw [List.drop_eq_nil_iff]; omega
    have hd2 : m.drop i = [] := by rw [List.drop_eq_nil_iff]; omega
    simp [h, hd, hd2, rdI_len hv]
  | succ n ih =>
    intro i hi
    rw [L_pleachref1_SameInts_0_eq, p_pleachref1_SameInts_0]
    have h : (i : Int) < l.length := by omega
    have h' : (i : Int) < m.length := by omega
    have h0 : (0 : Int) ≤ i := by omega
    have h5 : IntKind.i64.wrap ((i : Int) + 1) = (i : Int) + 1 := wrap_i64 (by omega) (by omega)
    have := ih (i + 1) (by omega)
    rw [drop_cons (by omega : i < l.length), drop_cons (by omega : i < m.length)]
    have e9 := rdI_ld hv h0 h
    have e8 := rdI_ld hw h0 h'
    simp only [Int.toNat_natCast] at e9 e8
    generalize l.getD i 0 = y at *
    generalize m.getD i 0 = z at *
    by_cases e : y = z
    · subst e
      simp [h, rdI_len hv, rdI_iad hv .i64 h0 h, rdI_iad hw .i64 h0 h', e9, e8, h5, L_pleachref1_SameInts_0_fold]
      simpa using this
    · simp [h, rdI_len hv, rdI_iad hv .i64 h0 h, rdI_iad hw .i64 h0 h', e9, e8, e]
theorem ok_gSame (hs : SpecsOk s) (hn : s.lookup 43 = none) : SpecOk Try.prog 43 gSame := by
  refine specOk hs hn fun args H v H' h => ?_
  unfold gSame at h
  split at h
  · rename_i a b
    split at h
    · rename_i l m hl hm
      split at h
      · rename_i hc
        simp only [Option.some.injEq, Prod.mk.injEq] at h
        obtain ⟨rfl, rfl⟩ := h
        refine fgt_pure (plainV_bool _) ?_
        rw [f_pleachref1_SameInts hn, p_pleachref1_SameInts]
        by_cases he : l.length = m.length
        · have := loop_Same (s := s) hl hm hc.1 he l.length 0 (by omega)
          rw [List.drop_zero, List.drop_zero, show ((0 : Nat) : Int) = 0 from rfl] at this
          by_cases e : l = m
          · rw [if_pos e] at this
            simp [rdI_len hl, rdI_len hm, he, L_pleachref1_SameInts_0_fold, this, p_pleachref1_SameInts_1, e]
          · rw [if_neg e] at this
            simp [rdI_len hl, rdI_len hm, he, L_pleachref1_SameInts_0_fold, this, p_pleachref1_SameInts_1, e]
        · have e : ¬ l = m := fun h => he (by rw [h])
          have e2 : ¬ (l.length : Int) = m.length := by omega
          simp [rdI_len hl, rdI_len hm, e2, e]
      · cases h
    · cases h
  · cases h

theorem ok_gGrandR (hs : SpecsOk s) (hn : s.lookup 49 = none) : SpecOk Try.prog 49 gGrand := by
  refine specOk hs hn fun args H v H' h => ?_
  unfold gGrand at h
  split at h
  · rename_i a
    split at h
    · rename_i l hl
      split at h
      · rename_i hh
        simp only [Option.some.injEq, Prod.mk.injEq] at h
        obtain ⟨rfl, rfl⟩ := h
        refine fgt_pure (plainV_int _ _) ?_
        rw [f_pleachref1_Grand hn, p_pleachref1_Grand]
        unfold grandP
        by_cases c : (l.length : Int) < 2
        · simp [rdI_len hl, c, show l.length < 2 by omega]
        · have w : IntKind.i64.wrap ((l.length : Int) - 2) = (l.length : Int) - 2 := wrap_i64 (by omega) (by omega)
          have i0 := rdI_iad hl .i64 (i := (l.length : Int) - 2) (by omega) (by omega)
          have i1 := rdI_ld hl (i := (l.length : Int) - 2) (by omega) (by omega)
          rw [show ((l.length : Int) - 2).toNat = l.length - 2 by omega] at i1
          simp [-List.getD_eq_getElem?_getD, rdI_len hl, c, w, i0, i1, show ¬ l.length < 2 by omega]
      · cases h
    · cases h
  · cases h

theorem loop_MayR (hc : ∀ args H, callV (env s) 47 args H = gHas args H) {v : AV} {l : List Int} (hv : rdI .i64 H v = some l) (hcap : capOk v = true) (hm : l.length ≤ 1000000) : ∀ (n i : Nat), i + n = l.length →
    L_pleachref1_MayPath_0 s v (.int .i64 i) H = if okP (l.take i) (l.drop i) then some (.exit 0, X_pleachref1_MayPath_0_x0, H) else some (.ret, X_pleachref1_MayPath_0_ret (.bool false), H) := by
  intro n
  induction n with
  | zero =>
    intro i hi
    rw [L_pleachref1_MayPath_0_eq, p_pleachref1_MayPath_0]
    have h : ¬ ((i : Int) < l.length) := by omega
    have hd : l.drop i = [] := by rw [List.drop_eq_nil_iff]; omega
    rw [hd, okP]
    simp [h, rdI_len hv]
  | succ n ih =>
    intro i hi
    rw [L_pleachref1_MayPath_0_eq, p_pleachref1_MayPath_0]
    have h : (i : Int) < l.length := by omega
    have h0 : (0 : Int) ≤ i := by omega
    have h5 : IntKind.i64.wrap ((i : Int) + 1) = (i : Int) + 1 := wrap_i64 (by omega) (by omega)
    have hrec := ih (i + 1) (by omega)
    have e9 := rdI_ld hv h0 h
    simp only [Int.toNat_natCast] at e9
    have et : l.take (i + 1) = l.take i ++ [l.getD i 0] := by
      rw [List.take_add_one, List.getD_eq_getElem?_getD, List.getElem?_eq_getElem (by omega)]; rfl
    rw [drop_cons (by omega : i < l.length), okP, ← et]
    obtain ⟨w, e1, e2, e3⟩ := slc_take (kk := .i64) hv hcap (show i ≤ l.length by omega)
    have g := gHas_val e2 (by simp; omega) (l.getD i 0)
    generalize l.getD i 0 = x at *
    by_cases c1 : x < 1
    · have c1' : (1 ≤ x) = False := eq_false (by omega)
      simp [h, rdI_len hv, rdI_iad hv .i64 h0 h, e9, c1, c1']
    · by_cases c2 : 8 < x
      · have c2' : (x ≤ 8) = False := eq_false (by omega)
        simp [h, rdI_len hv, rdI_iad hv .i64 h0 h, e9, c1, c2, c2']
      · cases hq : (l.take i).contains x with
        | true =>
          rw [hq] at g
          simp [-List.contains_eq_mem, h, rdI_len hv, rdI_iad hv .i64 h0 h, e9, c1, c2, e1, hc, g]
        | false =>
          rw [hq] at g
          have e : (decide (1 ≤ x ∧ x ≤ 8) && !false && okP (l.take (i + 1)) (l.drop (i + 1))) = okP (l.take (i + 1)) (l.drop (i + 1)) := by
            rw [decide_eq_true (by omega)]; simp
          rw [e]
          simp [-List.contains_eq_mem, h, rdI_len hv, rdI_iad hv .i64 h0 h, e9, c1, c2, e1, hc, g, h5, L_pleachref1_MayPath_0_fold]
          simpa using hrec

theorem ok_gMayR (hs : SpecsOk s) (hn : s.lookup 45 = none) (hc : ∀ args H, callV (env s) 47 args H = gHas args H) : SpecOk Try.prog 45 gMay := by
  refine specOk hs hn fun args H v H' h => ?_
  unfold gMay at h
  split at h
  · simp only [Option.some.injEq, Prod.mk.injEq] at h
    obtain ⟨rfl, rfl⟩ := h
    refine fgt_pure (plainV_bool _) ?_
    rw [f_pleachref1_MayPath hn, p_pleachref1_MayPath]
    simp
  · rename_i a _
    split at h
    · rename_i l hl
      split at h
      · rename_i hh
        simp only [Option.some.injEq, Prod.mk.injEq] at h
        obtain ⟨rfl, rfl⟩ := h
        refine fgt_pure (plainV_bool _) ?_
        rw [f_pleachref1_MayPath hn, p_pleachref1_MayPath]
        by_cases c1 : (l.length : Int) < 1
        · have e : mayP l = false := by unfold mayP; rw [decide_eq_false (by omega)]; rfl
          simp [rdI_len hl, c1, e]
        by_cases c2 : (10 : Int) < l.length
        · have e : mayP l = false := by unfold mayP; rw [decide_eq_false (by omega)]; rfl
          simp [rdI_len hl, c1, c2, e]
        have i0 := rdI_iad hl .i64 (i := 0) (by omega) (by omega)
        have i1 := rdI_ld hl (i := 0) (by omega) (by omega)
        simp only [Int.toNat_zero] at i1
        by_cases c3 : l.getD 0 0 = 1
        · have e : mayP l = okP [] l := by unfold mayP; rw [decide_eq_true ⟨by omega, by omega, c3⟩]; rfl
          rw [c3] at i1
          have b := loop_MayR hc hl hh.2 hh.1 l.length 0 (by omega)
          rw [List.take_zero, List.drop_zero, show ((0 : Nat) : Int) = 0 from rfl] at b
          rw [e]
          simp [rdI_len hl, c1, c2, i0, i1, L_pleachref1_MayPath_0_fold, b]
          cases okP [] l <;> simp [p_pleachref1_MayPath_1]
        · have e : mayP l = false := by unfold mayP; rw [decide_eq_false (by intro h; exact c3 h.2.2)]; rfl
          rw [e]
          generalize l.getD 0 0 = x at *
          simp [rdI_len hl, c1, c2, i0, i1, c3]
      · cases h
    · cases h
  · cases h

theorem call_AddR (hn : s.lookup 42 = none) (hc : ∀ args H, callV (env s) 45 args H = gMay args H) {v : AV} {l : List Int} (hv : rdI .i64 H v = some l) (hm : l.length ≤ 100000) (x : Int) :
    EndsV (callV (env s) 42 [v, .int .i64 x] H) fun v' H' => ((mayP (l ++ [x]) = true ∧ ∃ q, v' = .tup [q, .bool true] ∧ rdI .i64 H' q = some (l ++ [x]) ∧ capOk q = true ∧ ∀ r, r < H.size → notOf q r) ∨ (mayP (l ++ [x]) = false ∧ v' = .tup [.nils, .bool false])) ∧ Kept H H' := by
  rw [f_pleachref1_AddPath hn, p_pleachref1_AddPath]
  obtain ⟨v', H', e, ha, hk⟩ := copy_ok hv (by omega)
  obtain ⟨q, H2, e2, e3, e4, k2, e5⟩ := ha x
  have g := gMay_val e3 e4 (by simp; omega)
  cases hq : mayP (l ++ [x]) with
  | false =>
    rw [hq] at g
    simp [e, e2, hc, g]
    exact k2
  | true =>
    rw [hq] at g
    simp [e, e2, hc, g]
    exact ⟨⟨e3, e4, e5⟩, k2⟩

theorem loop_Path (hn : s.lookup 50 = none) (hna : s.lookup 42 = none) (hc : ∀ args H, callV (env s) 45 args H = gMay args H) {r lo : Nat} {L : List Int} (hr : r < lo) : ∀ (k : Nat) (n : Nat) (v : AV) (P : List Int) (H : AHeap), k ≤ 1000 → lo ≤ H.size → Pk H r L n → rdI .i64 H v = some P → capOk v = true → mayP P = true → notOf v r →
    EndsE (L_pleachmade_Picks_Path_1 s (.ptr r 0) v (.int .i64 k) H) fun ex τ H' => ex = .exit 0 ∧ ∃ v' P' n', τ = X_pleachmade_Picks_Path_1_x0 v' ∧ rdI .i64 H' v' = some P' ∧ capOk v' = true ∧ mayP P' = true ∧ Pk H' r L n' ∧ notOf v' r ∧ Same (fun q => q < lo ∧ q ≠ r) H H' := by
  intro k
  induction k with
  | zero =>
    intro n v P H hk hlo hp hP cP mP hv
    have key : L_pleachmade_Picks_Path_1 s (.ptr r 0) v (.int .i64 (0 : Nat)) H = some (.exit 0, X_pleachmade_Picks_Path_1_x0 v, H) := by
      rw [L_pleachmade_Picks_Path_1_eq, p_pleachmade_Picks_Path_1]
      simp
    exact ⟨_, _, _, key, rfl, v, P, n, rfl, hP, cP, mP, hp, hv, Same.refl _ _⟩
  | succ k ih =>
    intro n v P H hk hlo hp hP cP mP hv
    rw [L_pleachmade_Picks_Path_1_eq, p_pleachmade_Picks_Path_1]
    obtain ⟨H1, e, hp1, hs1⟩ := call_Num hn hp (m := 7) (by omega)
    have hLr : ∀ x ∈ L, 0 ≤ x ∧ x ≤ 255 := by obtain ⟨_, _, _, _, _, _, h, _⟩ := hp; exact h
    obtain ⟨n1, n2⟩ := num_range (n := n) (m := 7) (by omega) hLr
    generalize num L n 7 = x at *
    have hP1 : rdI .i64 H1 v = some P := rd_same hs1 (fun a o m c e' he => by subst he; exact hv _ _ _ e') hP
    have h : ((k : Int) + 1 > 0) = True := eq_true (by omega)
    have h2 : ((0 : Int) < (k : Int) + 1) = True := eq_true (by omega)
    have w1 : IntKind.i64.wrap (2 + x) = 2 + x := wrap_i64 (by omega) (by omega)
    have w2 : IntKind.i64.wrap (k : Int) = k := wrap_i64 (by omega) (by omega)
    obtain ⟨l1, l2⟩ := mayP_le mP
    obtain ⟨v', H2, ea, q, k2⟩ := call_AddR hna hc hP1 (by omega) (2 + x)
    have hlo1 : lo ≤ H1.size := Nat.le_trans hlo hs1.size
    have hp2 : Pk H2 r L (nxt L n) := hp1.same (k2.same (Q := fun s => s ≤ r) fun q hq => by omega) fun q hq => hq
    have hq1 : Same (fun q => q < lo ∧ q ≠ r) H H2 := (hs1.weaken fun q hq => hq.2).trans (k2.same fun q hq => by omega)
    rcases q with ⟨m1, q, rfl, hQ, cQ, nQ⟩ | ⟨m1, rfl⟩
    · have := (ih (nxt L n) q (P ++ [2 + x]) H2 (by omega) (Nat.le_trans hlo1 k2.size) hp2 hQ cQ m1 (nQ r (by omega))).mono fun ex τ H' h => by
        obtain ⟨a0, v1, P1, n1, b1, b2, b3, b4, b5, b6, b7⟩ := h
        exact (⟨a0, v1, P1, n1, b1, b2, b3, b4, b5, b6, hq1.trans b7⟩ : ex = .exit 0 ∧ ∃ v' P' n', τ = X_pleachmade_Picks_Path_1_x0 v' ∧ rdI .i64 H' v' = some P' ∧ capOk v' = true ∧ mayP P' = true ∧ Pk H' r L n' ∧ notOf v' r ∧ Same (fun q => q < lo ∧ q ≠ r) H H')
      simp [h, h2, e, w1, w2, ea, p_pleachmade_Picks_Path_0, L_pleachmade_Picks_Path_1_fold]
      simpa using this
    · have := (ih (nxt L n) v P H2 (by omega) (Nat.le_trans hlo1 k2.size) hp2 (rdI_kept k2 hP1) cP mP hv).mono fun ex τ H' h => by
        obtain ⟨a0, v1, P1, n1, b1, b2, b3, b4, b5, b6, b7⟩ := h
        exact (⟨a0, v1, P1, n1, b1, b2, b3, b4, b5, b6, hq1.trans b7⟩ : ex = .exit 0 ∧ ∃ v' P' n', τ = X_pleachmade_Picks_Path_1_x0 v' ∧ rdI .i64 H' v' = some P' ∧ capOk v' = true ∧ mayP P' = true ∧ Pk H' r L n' ∧ notOf v' r ∧ Same (fun q => q < lo ∧ q ≠ r) H H')
      simp [h, h2, e, w1, w2, ea, p_pleachmade_Picks_Path_0, L_pleachmade_Picks_Path_1_fold]
      simpa using this

theorem call_Path (hn : s.lookup 50 = none) (hn2 : s.lookup 40 = none) (hna : s.lookup 42 = none) (hc : ∀ args H, callV (env s) 45 args H = gMay args H) {r n : Nat} {L : List Int} (hp : Pk H r L n) :
    EndsV (callV (env s) 40 [.ptr r 0] H) fun v H' => ∃ P n', rdI .i64 H' v = some P ∧ capOk v = true ∧ mayP P = true ∧ Pk H' r L n' ∧ Same (fun q => q < H.size ∧ q ≠ r) H H' := by
  have hr : r < H.size := by obtain ⟨_, _, _, h, _⟩ := hp; exact h
  rw [f_pleachmade_Picks_Path hn2, p_pleachmade_Picks_Path]
  have k1 : Kept H (H.push (some (.cells .exact 1 [.int .i64 1]))) := (Kept.refl _).push _
  have hp1 : Pk (H.push (some (.cells .exact 1 [.int .i64 1]))) r L n := hp.same (k1.same (Q := fun s => s < H.size) fun q hq => hq) fun q hq => by omega
  have hLr : ∀ x ∈ L, 0 ≤ x ∧ x ≤ 255 := by obtain ⟨_, _, _, _, _, _, h, _⟩ := hp; exact h
  obtain ⟨H2, e, hp2, hs2⟩ := call_Num hn hp1 (m := 4) (by omega)
  obtain ⟨n1, n2⟩ := num_range (n := n) (m := 4) (by omega) hLr
  have h1 : rdI .i64 H2 (.sl H.size 0 1 (.ex 1)) = some [1] := rd_same hs2 (fun a o m c e' => by cases e'; omega) (rdI_mk (l := [1]) (more := []) (kd := .exact) (z := 1) (by simp) (by simp))
  have hsz : H.size ≤ H2.size := by have := hs2.size; simp at this; omega
  have := loop_Path (s := s) (lo := H.size) hn hna hc hr (num L n 4).toNat (nxt L n) (.sl H.size 0 1 (.ex 1)) [1] H2 (by omega) hsz hp2 h1 rfl rfl (fun a m c e => by cases e; omega)
  rw [show (((num L n 4).toNat : Nat) : Int) = num L n 4 by omega] at this
  simp [e, L_pleachmade_Picks_Path_1_fold]
  refine EndsV.bnE (this.mono fun ex τ H' h => ?_)
  obtain ⟨rfl, v', P', n', rfl, a1, a2, a3, a4, a5, a6⟩ := h
  simp [p_pleachmade_Picks_Path_2]
  exact ⟨P', a1, a2, a3, ⟨n', a4⟩, (((Same.refl _ _).push (fun r hr => hr.1) _).trans (hs2.weaken fun q hq => hq.2)).trans a6⟩
end
end Go.Proofs.Ytncbinaaagmmaaa.Bp
