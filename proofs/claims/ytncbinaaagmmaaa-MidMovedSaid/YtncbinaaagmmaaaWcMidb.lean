/- Who is in the middle, who is near: the functions that look for them. -/
import Derived.Test.YtncbinaaagmmaaaWcMid
set_option linter.unusedVariables false
set_option linter.unusedSimpArgs false
namespace Go.Proofs.Ytncbinaaagmmaaa.Bm
open Go.Ab
set_option maxRecDepth 100000

/-- A table and some of it are as they ought to be. -/
def Fit (D : List (List Int)) (L : List Int) : Prop := Mat D ∧ In8 L ∧ L.length ≤ 1000000
instance (D : List (List Int)) (L : List Int) : Decidable (Fit D L) := inferInstanceAs (Decidable (Mat D ∧ In8 L ∧ L.length ≤ 1000000))

def midP (D : List (List Int)) (L : List Int) : Int := leastP (fun x => farP D x L) (fun _ => true) L
def nearP (D : List (List Int)) (m : Int) (L : List Int) : Int := leastP (fun x => ent D m x) (fun x => decide (x ≠ m)) L

def gMid (args : List AV) (H : AHeap) : Option (AV × AHeap) := match args with
  | [d, l] => match rdD H d, rdI .i64 H l with
    | some D, some L => if Fit D L then some (.int .i64 (midP D L), H) else none
    | _, _ => none
  | _ => none
def gNear (args : List AV) (H : AHeap) : Option (AV × AHeap) := match args with
  | [d, .int .i64 m, l] => match rdD H d, rdI .i64 H l with
    | some D, some L => if Fit D L ∧ 1 ≤ m ∧ m ≤ 8 then some (.int .i64 (nearP D m L), H) else none
    | _, _ => none
  | _ => none

section
variable {s : Specs} {H : AHeap}

theorem gFar_val {d l : AV} {D : List (List Int)} {L : List Int} (hD : rdD H d = some D) (hL : rdI .i64 H l = some L) (h : Fit D L) {m : Int} (hm : 1 ≤ m ∧ m ≤ 8) : gFar [d, .int .i64 m, l] H = some (.int .i64 (farP D m L), H) := by
  simp only [gFar, hD, hL]; rw [if_pos ⟨h.1, hm, h.2⟩]
theorem gDist_val {d : AV} {D : List (List Int)} (hD : rdD H d = some D) (h : Mat D) {a b : Int} (ha : 1 ≤ a ∧ a ≤ 8) (hb : 1 ≤ b ∧ b ≤ 8) : gDist [d, .int .i64 a, .int .i64 b] H = some (.int .i64 (ent D a b), H) := by
  simp only [gDist, hD]; rw [if_pos ⟨h, ha, hb⟩]
theorem gHas_val {l : AV} {L : List Int} (hL : rdI .i64 H l = some L) (h : L.length ≤ 1000000) (x : Int) : gHas [l, .int .i64 x] H = some (.bool (L.contains x), H) := by
  simp only [gHas, hL]; rw [if_pos h]

theorem rd_one {α : Type} {z : Nat} {dec : List AV → Option α} {v : AV} {l : List α} (h : rdW z dec H v = some l) : AV.one v = true ∧ v.cells = [v] := by
  rcases rdW_cases h with ⟨rfl, _⟩ | ⟨r, o, c, cs, rfl, _⟩ <;> exact ⟨rfl, rfl⟩

theorem ok_gMid (hs : SpecsOk s) (hn : s.lookup 32 = none) (hn2 : s.lookup 51 = none) (hc : ∀ args H, callV (env s) 52 args H = gMid1 args H) : SpecOk Try.prog 32 gMid := by
  refine specOk hs hn fun args H v H' h => ?_
  unfold gMid at h
  split at h
  · rename_i d l
    split at h
    · rename_i D L hD hL
      split at h
      · rename_i hf
        simp only [Option.some.injEq, Prod.mk.injEq] at h
        obtain ⟨rfl, rfl⟩ := h
        refine fgt_pure (plainV_int _ _) ?_
        let H2 := (H.push (some (.cells .exact 1 [d]))).push (some (.cells .exact 1 [l]))
        have hk : Kept H H2 := ((Kept.refl H).push _).push _
        have hD2 := rdD_kept hk hD
        have hL2 := rdI_kept hk hL
        have ld1 : ldA H2 (.ptr H.size 0) = some d := by simp [H2]
        have ld2 : ldA H2 (.ptr (H.size + 1) 0) = some l := by simp [H2]
        have hcl : ∀ x ∈ L, callV (env s) 52 (.int .i64 x :: [.ptr H.size 0, .ptr (H.size + 1) 0]) H2 = some (.tup [.int .i64 (farP D x L), .bool true], H2) := fun x hx => by
          rw [hc]
          simp only [gMid1, ld1, ld2, gFar_val hD2 hL2 hf (hf.2.1 x hx)]
        have e := call_least hn2 (f := fun x => farP D x L) (q := fun _ => true) hL2 hf.2.2 hcl
        rw [f_mid_Mid hn, p_mid_Mid]
        obtain ⟨d1, d2⟩ := rd_one hD
        obtain ⟨l1, l2⟩ := rd_one hL
        simp only [H2] at e
        simp [d1, d2, l1, l2, e]
        rfl
      · cases h
    · cases h
  · cases h
theorem ok_gNear (hs : SpecsOk s) (hn : s.lookup 36 = none) (hn2 : s.lookup 51 = none) (hc : ∀ args H, callV (env s) 54 args H = gNear1 args H) : SpecOk Try.prog 36 gNear := by
  refine specOk hs hn fun args H v H' h => ?_
  unfold gNear at h
  split at h
  · rename_i d m l
    split at h
    · rename_i D L hD hL
      split at h
      · rename_i hf
        simp only [Option.some.injEq, Prod.mk.injEq] at h
        obtain ⟨rfl, rfl⟩ := h
        refine fgt_pure (plainV_int _ _) ?_
        let H2 := (H.push (some (.cells .exact 1 [d]))).push (some (.cells .exact 1 [.int .i64 m]))
        have hk : Kept H H2 := ((Kept.refl H).push _).push _
        have hD2 := rdD_kept hk hD
        have hL2 := rdI_kept hk hL
        have ld1 : ldA H2 (.ptr H.size 0) = some d := by simp [H2]
        have ld2 : ldA H2 (.ptr (H.size + 1) 0) = some (.int .i64 m) := by simp [H2]
        have hcl : ∀ x ∈ L, callV (env s) 54 (.int .i64 x :: [.ptr H.size 0, .ptr (H.size + 1) 0]) H2 = some (.tup [.int .i64 (ent D m x), .bool (decide (x ≠ m))], H2) := fun x hx => by
          rw [hc]
          simp only [gNear1, ld1, ld2, gDist_val hD2 hf.1.1 hf.2 (hf.1.2.1 x hx)]
        have e := call_least hn2 (f := fun x => ent D m x) (q := fun x => decide (x ≠ m)) hL2 hf.1.2.2 hcl
        rw [f_mid_Near hn, p_mid_Near]
        obtain ⟨d1, d2⟩ := rd_one hD
        simp only [H2] at e
        simp only [newcA_eq, d2, List.all_cons, List.all_nil, d1, Bool.and_true, if_true, bnS_some, cells_int, one_int, AHeap.size_push, List.length_cons, List.length_nil, Nat.zero_add, e, retK_ret, results_one, resA_tmp]
        refine (ends_some _ _ _).2 ⟨rfl, by (repeat (first | exact Kept.refl _ | assumption | refine Kept.push ?_ _ | refine Kept.put ?_ (by first | omega | simp | (simp; omega)) _))⟩
      · cases h
    · cases h
  · cases h

theorem stepR_range {f : Int → Int} {q : Int → Bool} {best m : Int} (hb : best = 0 ∨ 1 ≤ best ∧ best ≤ 8) (hm : 1 ≤ m ∧ m ≤ 8) : stepR f q best m = 0 ∨ 1 ≤ stepR f q best m ∧ stepR f q best m ≤ 8 := by
  unfold stepR
  split
  · exact Or.inr hm
  · exact hb
theorem all8_drop {i : Nat} (h1 : 1 ≤ i) (h8 : i ≤ 8) : all8.drop (i - 1) = (i : Int) :: all8.drop i := by
  have : i = 1 ∨ i = 2 ∨ i = 3 ∨ i = 4 ∨ i = 5 ∨ i = 6 ∨ i = 7 ∨ i = 8 := by omega
  rcases this with rfl | rfl | rfl | rfl | rfl | rfl | rfl | rfl <;> rfl

theorem loop_RMid (hc1 : ∀ args H, callV (env s) 47 args H = gHas args H) (hc2 : ∀ args H, callV (env s) 35 args H = gFar args H) {d l : AV} {D : List (List Int)} {L : List Int} (hD : rdD H d = some D) (hL : rdI .i64 H l = some L) (hf : Fit D L) :
    ∀ (n i : Nat) (best : Int), i + n = 9 → 1 ≤ i → (best = 0 ∨ 1 ≤ best ∧ best ≤ 8) → L_pleachref7_Mid_1 s d l (.int .i64 best) (.int .i64 i) H = some (.exit 0, X_pleachref7_Mid_1_x0 (.int .i64 ((all8.drop (i - 1)).foldl (stepR (fun x => farP D x L) (fun m => L.contains m)) best)), H) := by
  intro n
  induction n with
  | zero =>
    intro i best hi h1 hb
    obtain rfl : i = 9 := by omega
    rw [L_pleachref7_Mid_1_eq, p_pleachref7_Mid_1]
    simp [all8]
  | succ n ih =>
    intro i best hi h1 hb
    rw [L_pleachref7_Mid_1_eq, p_pleachref7_Mid_1]
    have h : (i : Int) ≤ 8 := by omega
    have h5 : IntKind.i64.wrap ((i : Int) + 1) = (i : Int) + 1 := wrap_i64 (by omega) (by omega)
    have hi8 : 1 ≤ (i : Int) ∧ (i : Int) ≤ 8 := by omega
    have g1 := gHas_val hL hf.2.2 (i : Int)
    have g2 := gFar_val hD hL hf hi8
    rw [all8_drop h1 (by omega), List.foldl_cons]
    have hrec := ih (i + 1) (stepR (fun x => farP D x L) (fun m => L.contains m) best i) (by omega) (by omega) (stepR_range hb hi8)
    rw [show i + 1 - 1 = i by omega] at hrec
    cases hq : L.contains (i : Int) with
    | false =>
      have e : stepR (fun x => farP D x L) (fun m => L.contains m) best i = best := by unfold stepR; simp only [hq]; simp
      rw [e] at hrec ⊢
      rw [hq] at g1
      simp [h, hc1, g1, p_pleachref7_Mid_0, h5, L_pleachref7_Mid_1_fold]
      simpa using hrec
    | true =>
      rw [hq] at g1
      by_cases c1 : best = 0
      · have e : stepR (fun x => farP D x L) (fun m => L.contains m) best i = i := by unfold stepR; simp only [hq, c1]; simp
        rw [e] at hrec ⊢
        simp [h, hc1, g1, c1, p_pleachref7_Mid_0, h5, L_pleachref7_Mid_1_fold]
        simpa using hrec
      · have g3 := gFar_val hD hL hf (hb.resolve_left c1)
        by_cases c2 : farP D i L < farP D best L
        · have e : stepR (fun x => farP D x L) (fun m => L.contains m) best i = i := by unfold stepR; simp only [hq, c2]; simp
          rw [e] at hrec ⊢
          simp [h, hc1, g1, c1, hc2, g2, g3, c2, p_pleachref7_Mid_0, h5, L_pleachref7_Mid_1_fold]
          simpa using hrec
        · have e : stepR (fun x => farP D x L) (fun m => L.contains m) best i = best := by unfold stepR; simp only [hq, c2, c1]; simp
          rw [e] at hrec ⊢
          simp [h, hc1, g1, c1, hc2, g2, g3, c2, p_pleachref7_Mid_0, h5, L_pleachref7_Mid_1_fold]
          simpa using hrec
theorem mid_over {D : List (List Int)} {L : List Int} (hf : Fit D L) : midP D L = overP (fun x => farP D x L) (fun m => L.contains m) := by
  unfold midP
  rw [least_over hf.2.1]
  congr 1
  funext m; simp
theorem ok_gMid' (hs : SpecsOk s) (hn : s.lookup 33 = none) (hc1 : ∀ args H, callV (env s) 47 args H = gHas args H) (hc2 : ∀ args H, callV (env s) 35 args H = gFar args H) : SpecOk Try.prog 33 gMid := by
  refine specOk hs hn fun args H v H' h => ?_
  unfold gMid at h
  split at h
  · rename_i d l
    split at h
    · rename_i D L hD hL
      split at h
      · rename_i hf
        simp only [Option.some.injEq, Prod.mk.injEq] at h
        obtain ⟨rfl, rfl⟩ := h
        refine fgt_pure (plainV_int _ _) ?_
        rw [f_pleachref7_Mid hn, p_pleachref7_Mid]
        have := loop_RMid hc1 hc2 hD hL hf 8 1 0 rfl (by omega) (Or.inl rfl)
        simp at this
        simp [L_pleachref7_Mid_1_fold, this, p_pleachref7_Mid_2]
        rw [mid_over hf]
        simp [overP]
      · cases h
    · cases h
  · cases h

theorem loop_RNear (hc1 : ∀ args H, callV (env s) 47 args H = gHas args H) {d l : AV} {D : List (List Int)} {L : List Int} {m : Int} (hD : rdD H d = some D) (hL : rdI .i64 H l = some L) (hf : Fit D L) (hm : 1 ≤ m ∧ m ≤ 8) :
    ∀ (n i : Nat) (best : Int), i + n = 9 → 1 ≤ i → (best = 0 ∨ 1 ≤ best ∧ best ≤ 8) → L_pleachref7_Near_1 s d (.int .i64 m) l (.int .i64 best) (.int .i64 i) H = some (.exit 0, X_pleachref7_Near_1_x0 (.int .i64 ((all8.drop (i - 1)).foldl (stepR (fun x => ent D m x) (fun k => L.contains k && decide (k ≠ m))) best)), H) := by
  intro n
  induction n with
  | zero =>
    intro i best hi h1 hb
    obtain rfl : i = 9 := by omega
    rw [L_pleachref7_Near_1_eq, p_pleachref7_Near_1]
    simp [all8]
  | succ n ih =>
    intro i best hi h1 hb
    rw [L_pleachref7_Near_1_eq, p_pleachref7_Near_1]
    have h : (i : Int) ≤ 8 := by omega
    have h5 : IntKind.i64.wrap ((i : Int) + 1) = (i : Int) + 1 := wrap_i64 (by omega) (by omega)
    have hi8 : 1 ≤ (i : Int) ∧ (i : Int) ≤ 8 := by omega
    have g1 := gHas_val hL hf.2.2 (i : Int)
    have w1 : IntKind.i64.wrap (m - 1) = m - 1 := wrap_i64 (by omega) (by omega)
    have w2 : IntKind.i64.wrap ((i : Int) - 1) = (i : Int) - 1 := wrap_i64 (by omega) (by omega)
    obtain ⟨u, e1, e2, e3, e4, e5⟩ := tab_ent hD hf.1 hm hi8
    rw [all8_drop h1 (by omega), List.foldl_cons]
    have hrec := ih (i + 1) (stepR (fun x => ent D m x) (fun k => L.contains k && decide (k ≠ m)) best i) (by omega) (by omega) (stepR_range hb hi8)
    rw [show i + 1 - 1 = i by omega] at hrec
    by_cases c0 : (i : Int) = m
    · have e : stepR (fun x => ent D m x) (fun k => L.contains k && decide (k ≠ m)) best i = best := by unfold stepR; simp [c0]
      rw [e] at hrec ⊢
      subst c0
      simp [h, p_pleachref7_Near_0, h5, L_pleachref7_Near_1_fold]
      simpa using hrec
    · cases hq : L.contains (i : Int) with
      | false =>
        have e : stepR (fun x => ent D m x) (fun k => L.contains k && decide (k ≠ m)) best i = best := by unfold stepR; simp only [hq]; simp
        rw [e] at hrec ⊢
        rw [hq] at g1
        simp [h, c0, hc1, g1, p_pleachref7_Near_0, h5, L_pleachref7_Near_1_fold]
        simpa using hrec
      | true =>
        rw [hq] at g1
        by_cases c1 : best = 0
        · have e : stepR (fun x => ent D m x) (fun k => L.contains k && decide (k ≠ m)) best i = i := by unfold stepR; simp only [hq, c1]; simp [c0]
          rw [e] at hrec ⊢
          simp [h, c0, hc1, g1, c1, p_pleachref7_Near_0, h5, L_pleachref7_Near_1_fold]
          simpa using hrec
        · have hb8 := hb.resolve_left c1
          have w3 : IntKind.i64.wrap (best - 1) = best - 1 := wrap_i64 (by omega) (by omega)
          obtain ⟨u', e1', e2', e3', e4', e5'⟩ := tab_ent hD hf.1 hm hb8
          have hu : u' = u := by rw [e2] at e2'; exact (Option.some.inj e2').symm
          subst hu
          by_cases c2 : ent D m i < ent D m best
          · have e : stepR (fun x => ent D m x) (fun k => L.contains k && decide (k ≠ m)) best i = i := by unfold stepR; simp only [hq, c2]; simp [c0]
            rw [e] at hrec ⊢
            simp [h, c0, hc1, g1, c1, w1, w2, w3, e1, e2, e4, e5, e4', e5', c2, p_pleachref7_Near_0, h5, L_pleachref7_Near_1_fold]
            simpa using hrec
          · have e : stepR (fun x => ent D m x) (fun k => L.contains k && decide (k ≠ m)) best i = best := by unfold stepR; simp only [hq, c2, c1]; simp
            rw [e] at hrec ⊢
            simp [h, c0, hc1, g1, c1, w1, w2, w3, e1, e2, e4, e5, e4', e5', c2, p_pleachref7_Near_0, h5, L_pleachref7_Near_1_fold]
            simpa using hrec
theorem ok_gNear' (hs : SpecsOk s) (hn : s.lookup 37 = none) (hc1 : ∀ args H, callV (env s) 47 args H = gHas args H) : SpecOk Try.prog 37 gNear := by
  refine specOk hs hn fun args H v H' h => ?_
  unfold gNear at h
  split at h
  · rename_i d m l
    split at h
    · rename_i D L hD hL
      split at h
      · rename_i hf
        simp only [Option.some.injEq, Prod.mk.injEq] at h
        obtain ⟨rfl, rfl⟩ := h
        refine fgt_pure (plainV_int _ _) ?_
        rw [f_pleachref7_Near hn, p_pleachref7_Near]
        have := loop_RNear hc1 hD hL hf.1 hf.2 8 1 0 rfl (by omega) (Or.inl rfl)
        simp only [Nat.sub_self, List.drop_zero] at this
        have hz : ((1 : Nat) : Int) = 1 := rfl
        rw [hz] at this
        simp only [L_pleachref7_Near_1_fold, this, bnE_some, outK_exit, if_true, goOn_normal, p_pleachref7_Near_2, retK_ret, results_one, resA_tmp]
        refine (ends_some _ _ _).2 ⟨?_, Kept.refl _⟩
        unfold nearP
        rw [least_over hf.1.2.1]
        rfl
      · cases h
    · cases h
  · cases h
end
end Go.Proofs.Ytncbinaaagmmaaa.Bm
