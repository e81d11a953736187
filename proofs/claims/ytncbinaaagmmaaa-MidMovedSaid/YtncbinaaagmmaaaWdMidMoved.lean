/- The law MidMoved. -/
import Derived.Test.YtncbinaaagmmaaaWdMidBest
set_option linter.unusedVariables false
set_option linter.unusedSimpArgs false
namespace Go.Proofs.Ytncbinaaagmmaaa.Bm
open Go.Ab
set_option maxRecDepth 100000

/-- The numbers of some, rising, each once. -/
def risP (L : List Int) : List Int := all8.filter fun m => L.contains m
theorem mem_risP {L : List Int} (h : In8 L) {x : Int} : x ∈ risP L ↔ x ∈ L := by
  unfold risP
  rw [List.mem_filter, mem_all8, List.contains_iff_mem]
  exact ⟨fun h => h.2, fun hx => ⟨h x hx, hx⟩⟩

section
variable {s : Specs}
theorem loop_Rising (hc : ∀ args H, callV (env s) 47 args H = gHas args H) {l : AV} {L : List Int} {lo : Nat} (hlen : L.length ≤ 1000000) : ∀ (n i : Nat) (v : AV) (acc : List Int) (H : AHeap), i + n = 9 → 1 ≤ i → lo ≤ H.size → rdI .i64 H l = some L → (∀ r o n c, l = .sl r o n c → r < lo) → Own .i64 lo H v acc → acc.length < i →
    EndsE (L_pleachref7_Rising_1 s l v (.int .i64 i) H) fun ex τ H' => ex = .exit 0 ∧ ∃ v', τ = X_pleachref7_Rising_1_x0 v' ∧ Own .i64 lo H' v' (acc ++ (all8.drop (i - 1)).filter fun m => L.contains m) ∧ Same (fun q => q < lo) H H' := by
  intro n
  induction n with
  | zero =>
    intro i v acc H hi h1 hlo hL hl ho ha
    obtain rfl : i = 9 := by omega
    have key : L_pleachref7_Rising_1 s l v (.int .i64 (9 : Nat)) H = some (.exit 0, X_pleachref7_Rising_1_x0 v, H) := by
      rw [L_pleachref7_Rising_1_eq, p_pleachref7_Rising_1]
      simp
    exact ⟨_, _, _, key, rfl, v, rfl, by simpa [all8] using ho, Same.refl _ _⟩
  | succ n ih =>
    intro i v acc H hi h1 hlo hL hl ho ha
    have h : (i : Int) ≤ 8 := by omega
    have h5 : IntKind.i64.wrap ((i : Int) + 1) = (i : Int) + 1 := wrap_i64 (by omega) (by omega)
    have g1 := gHas_val hL hlen (i : Int)
    rw [all8_drop h1 (by omega), List.filter_cons, L_pleachref7_Rising_1_eq, p_pleachref7_Rising_1]
    cases hq : L.contains (i : Int) with
    | false =>
      rw [hq] at g1
      have := ih (i + 1) v acc H (by omega) (by omega) hlo hL hl ho (by omega)
      rw [show i + 1 - 1 = i by omega] at this
      simp [-List.contains_eq_mem, h, hc, g1, p_pleachref7_Rising_0, h5, L_pleachref7_Rising_1_fold]
      simpa [-List.contains_eq_mem] using this
    | true =>
      rw [hq] at g1
      obtain ⟨v', H2, e, h2, h3⟩ := app_one (bytes := 8) (i : Int) ho hlo (by simp only [maxBytes]; omega) (by simp only [maxBytes]; omega)
      have hL2 : rdI .i64 H2 l = some L := rd_same h3 (fun r o n c e => hl r o n c e) hL
      have := (ih (i + 1) v' (acc ++ [(i : Int)]) H2 (by omega) (by omega) (Nat.le_trans hlo h3.size) hL2 hl h2 (by simp; omega)).mono fun ex τ H' h => by
        obtain ⟨a0, v2, a1, a2, a3⟩ := h
        exact (⟨a0, v2, a1, a2, h3.trans a3⟩ : ex = .exit 0 ∧ ∃ v', τ = X_pleachref7_Rising_1_x0 v' ∧ Own .i64 lo H' v' (acc ++ [(i : Int)] ++ (all8.drop (i + 1 - 1)).filter fun m => L.contains m) ∧ Same (fun q => q < lo) H H')
      rw [show i + 1 - 1 = i by omega] at this
      simp [-List.contains_eq_mem, h, hc, g1, e, p_pleachref7_Rising_0, h5, L_pleachref7_Rising_1_fold]
      simpa [-List.contains_eq_mem] using this

theorem call_Rising (hn : s.lookup 38 = none) (hc : ∀ args H, callV (env s) 47 args H = gHas args H) {H : AHeap} {l : AV} {L : List Int} (hlen : L.length ≤ 1000000) (hL : rdI .i64 H l = some L) :
    EndsV (callV (env s) 38 [l] H) fun v H' => rdI .i64 H' v = some (risP L) ∧ Kept H H' := by
  rw [f_pleachref7_Rising hn, p_pleachref7_Rising]
  simp only [L_pleachref7_Rising_1_fold]
  have hl : ∀ r o n c, l = .sl r o n c → r < H.size := fun r o n c e => by
    rcases rdI_cases hL with ⟨rfl, _⟩ | ⟨r', o', c', rfl, h, _⟩
    · cases e
    · cases e; exact h
  refine EndsV.bnE ((loop_Rising (lo := H.size) hc hlen 8 1 .nils [] H rfl (by omega) (Nat.le_refl _) hL hl (Own.nils _ _ _) (by simp)).mono fun ex τ H' h => ?_)
  obtain ⟨rfl, v', rfl, ho, hs⟩ := h
  have := ho.rd
  simp only [List.nil_append, Nat.sub_self, List.drop_zero] at this
  simp only [outK_exit, if_true, goOn_normal, p_pleachref7_Rising_2, retK_ret, results_one, resA_tmp]
  exact (ends_some _ _ _).2 ⟨this, hs.kept fun r hr => hr⟩
end

theorem far_more {D : List (List Int)} (hm : Mat D) {L W : List Int} {a k : Int} (ha : 1 ≤ a ∧ a ≤ 8) (hW : ∀ x, x ∈ W ↔ x ∈ L ∨ x = k) (hL : In8 L) (hk : 1 ≤ k ∧ k ≤ 8) : farP D a W = max (farP D a L) (ent D a k) := by
  obtain ⟨a1, a2, a3⟩ := fold_max (ent D a) L 0
  obtain ⟨b1, b2, b3⟩ := fold_max (ent D a) W 0
  have e := (hm.ent ha hk).1
  have h1 : ent D a k ≤ farP D a W := b2 k ((hW k).2 (Or.inr rfl))
  have h2 : farP D a L ≤ farP D a W := by
    unfold farP
    rcases a3 with h | ⟨x, hx, h⟩
    · rw [h]; exact b1
    · rw [h]; exact b2 x ((hW x).2 (Or.inl hx))
  have h3 : farP D a W ≤ max (farP D a L) (ent D a k) := by
    unfold farP
    rcases b3 with h | ⟨x, hx, h⟩
    · rw [h]; omega
    · rw [h]
      rcases (hW x).1 hx with hx | rfl
      · have := a2 x hx; omega
      · omega
  omega

theorem iter_MidMoved {H : AHeap} {d l w : AV} {D : List (List Int)} {L W : List Int} {k : Int} {a b : AV} (hD : rdD H d = some D) (hL : rdI .i64 H l = some L) (hW : rdI .i64 H w = some W) (hf : Fit D L) (hg : Fit D W) (hk : 1 ≤ k ∧ k ≤ 8) (hm : ∀ x, x ∈ W ↔ x ∈ L ∨ x = k) {i : Nat} (hi : i < L.length) :
    L_pleachlaw7_MidMoved_0 S3 d l (.int .i64 k) w a b (.int .i64 i) H = L_pleachlaw7_MidMoved_0 S3 d l (.int .i64 k) w a b (.int .i64 (i + 1 : Nat)) H := by
  have hlen := hf.2.2
  have h : (i : Int) < L.length := by omega
  have h0 : (0 : Int) ≤ i := by omega
  have h5 : IntKind.i64.wrap ((i : Int) + 1) = (i : Int) + 1 := wrap_i64 (by omega) (by omega)
  have a1 := rdI_iad hL .i64 h0 h
  have a2 := rdI_ld hL h0 h
  simp only [Int.toNat_natCast] at a2
  have hx : L.getD i 0 ∈ L := by
    rw [List.getD_eq_getElem?_getD, List.getElem?_eq_getElem hi]; exact List.getElem_mem _
  generalize L.getD i 0 = x at *
  have hx8 := hf.2.1 x hx
  have g1 := gFar_val hD hW hg hx8
  have g2 := gFar_val hD hL hf hx8
  have e := far_more hf.1 hx8 hm hf.2.1 hk
  obtain ⟨u1, t1, t2, t3, t4, t5⟩ := tab_ent hD hf.1 hx8 hk
  have w1 : IntKind.i64.wrap (x - 1) = x - 1 := wrap_i64 (by omega) (by omega)
  have w3 : IntKind.i64.wrap (k - 1) = k - 1 := wrap_i64 (by omega) (by omega)
  rw [e] at g1
  rw [L_pleachlaw7_MidMoved_0_eq, p_pleachlaw7_MidMoved_0]
  simp [rdI_len hL, h, a1, a2, S3_mid_Far, g1, g2, t1, t2, t4, t5, w1, w3, h5, L_pleachlaw7_MidMoved_0_fold]
theorem loop_MidMoved {H : AHeap} {d l w : AV} {D : List (List Int)} {L W : List Int} {k : Int} {a b : AV} (hD : rdD H d = some D) (hL : rdI .i64 H l = some L) (hW : rdI .i64 H w = some W) (hf : Fit D L) (hg : Fit D W) (hk : 1 ≤ k ∧ k ≤ 8) (hm : ∀ x, x ∈ W ↔ x ∈ L ∨ x = k) : ∀ (n i : Nat), i + n = L.length →
    L_pleachlaw7_MidMoved_0 S3 d l (.int .i64 k) w a b (.int .i64 i) H = some (.exit 0, X_pleachlaw7_MidMoved_0_x0 d l (.int .i64 k) w a b, H) := by
  intro n
  induction n with
  | zero =>
    intro i hi
    rw [L_pleachlaw7_MidMoved_0_eq, p_pleachlaw7_MidMoved_0]
    have h : ¬ ((i : Int) < L.length) := by omega
    simp [h, rdI_len hL]
  | succ n ih =>
    intro i hi
    rw [iter_MidMoved hD hL hW hf hg hk hm (by omega)]
    exact ih (i + 1) (by omega)

theorem law_MidMoved {H : AHeap} (v : AV) (A : List Int) (hA : rdI .u8 H v = some A) (_ : A.length ≤ maxLen) (rA : ∀ n ∈ A, IntKind.u8.min ≤ n ∧ n ≤ IntKind.u8.max)
    (v2 : AV) (B : List Int) (hB : rdI .u8 H v2 = some B) (_ : B.length ≤ maxLen) (rB : ∀ n ∈ B, IntKind.u8.min ≤ n ∧ n ≤ IntKind.u8.max) (m : Int) (hm : IntKind.u8.min ≤ m ∧ m ≤ IntKind.u8.max) :
    EndsV (callV (env S3) 13 [v, v2, .int .u8 m] H) fun v _ => v = .bool true := by
  rw [f_pleachlaw7_MidMoved rfl, p_pleachlaw7_MidMoved]
  by_cases h1 : (30 : Int) < A.length
  · simp [S3_pleachlaw7_begun, gTrue, rdI_len hA, h1]
  by_cases h2 : (8 : Int) < B.length
  · simp [S3_pleachlaw7_begun, gTrue, rdI_len hA, rdI_len hB, h1, h2]
  obtain ⟨w1, w2, m1, m2⟩ := one_of (u8r hm)
  simp only [S3_pleachlaw7_begun, gTrue, bnS_some, unA_not, bnP_some, cndS_bool, Bool.not_true, Bool.false_eq_true, if_false, rdI_len hA, rdI_len hB, bin_gtr, gt_iff_lt, h1, h2, decide_false, wnt_bool, beq_self_eq_true, gdP_true, pickA_bool]
  refine pickTwo (least := 1) (by omega) hA hB (by omega) (by omega) (fun n hn => u8r (rA n hn)) (fun n hn => u8r (rB n hn)) fun w1' w3' d l D L H' hD hG hL hR hle => ?_
  have hf := rise_fit hG hR
  have hl8 : L.length ≤ 8 := Rise.len (i := 8) hR
  have hne : L ≠ [] := by intro e; subst e; simp at hle
  have k1 : Kept H' (H'.push (some (.cells .exact 1 []))) := (Kept.refl _).push _
  have eapp := app_none (bytes := 8) (kd := .exact) (z := 1) (cs := []) (H := H'.push (some (.cells .exact 1 []))) (r := H'.size) (rdI_kept k1 hL) (by simp) (by omega) (by simp only [maxBytes]; omega) (by simp only [maxBytes]; omega)
  simp only [AHeap.size_push] at eapp
  let H2 := (H'.push (some (.cells .exact 1 []))).push (some (.cells .opened 1 (L.map (AV.int .i64))))
  have k2 : Kept H' H2 := k1.push _
  have ho : Own .i64 (H'.size + 1) H2 (.sl (H'.size + 1) 0 L.length (.mi 0)) L := Or.inr ⟨H'.size + 1, rfl, Nat.le_refl _, by simp [H2], by simp [H2], by simp⟩
  obtain ⟨v', H3, e3, o3, s3⟩ := app_one (bytes := 8) (1 + m.tmod 8) ho (by simp [H2]) (by simp only [maxBytes]; omega) (by simp only [maxBytes]; omega)
  have k3 : Kept H' H3 := ⟨by have := k2.size; have := s3.size; omega, fun r hr => by rw [s3.get r (by omega), k2.get r hr]⟩
  simp only [H2, AHeap.size_push] at e3
  simp [w1, w2, eapp, e3]
  refine EndsV.bnS ((call_Rising (s := S3) rfl S3_pleachref1_Has (by simp; omega) o3.rd).mono fun w H4 ⟨hW, k4⟩ => ?_)
  have kk : Kept H' H4 := k3.trans k4
  have hD4 := rdD_kept kk hD
  have hL4 := rdI_kept kk hL
  have hin : In8 (L ++ [1 + m.tmod 8]) := fun x hx => by
    rcases List.mem_append.1 hx with hx | hx
    · exact hf.2.1 x hx
    · simp at hx; subst hx; exact ⟨m1, m2⟩
  have hmem : ∀ x, x ∈ risP (L ++ [1 + m.tmod 8]) ↔ x ∈ L ∨ x = 1 + m.tmod 8 := fun x => by rw [mem_risP hin]; simp
  have hlr : (risP (L ++ [1 + m.tmod 8])).length ≤ 1000000 := by
    have : (risP (L ++ [1 + m.tmod 8])).length ≤ all8.length := List.length_filter_le _ _
    have h8 : all8.length = 8 := rfl
    omega
  have hg : Fit D (risP (L ++ [1 + m.tmod 8])) := ⟨hf.1, fun x hx => by
    rcases (hmem x).1 hx with h | rfl
    · exact hf.2.1 x h
    · exact ⟨m1, m2⟩, hlr⟩
  generalize risP (L ++ [1 + m.tmod 8]) = W at *
  have hWne : W ≠ [] := by intro e; subst e; have := (hmem _).2 (Or.inr rfl); simp at this
  have ba := mid_best hf hne
  have bb := mid_best hg hWne
  have a8 := hf.2.1 _ ba.1
  have b8 := hg.2.1 _ bb.1
  have ga := gMid_val hD4 hL4 hf
  have gb := gMid_val hD4 hW hg
  have gfa := gFar_val hD4 hL4 hf a8
  have gfb := gFar_val hD4 hW hg b8
  have hloop := loop_MidMoved (a := .int .i64 (midP D L)) (b := .int .i64 (midP D W)) hD4 hL4 hW hf hg ⟨m1, m2⟩ hmem L.length 0 (by omega)
  have hz : ((0 : Nat) : Int) = 0 := rfl
  rw [hz] at hloop
  obtain ⟨u1, t1, t2, t3, t4, t5⟩ := tab_ent hD4 hf.1 a8 (show 1 ≤ 1 + m.tmod 8 ∧ 1 + m.tmod 8 ≤ 8 from ⟨m1, m2⟩)
  have q := bb.2 _ ((hmem _).2 (Or.inl ba.1))
  simp only at q
  rw [far_more hf.1 a8 hmem hf.2.1 ⟨m1, m2⟩] at q
  generalize farP D (midP D W) W = fb at *
  generalize farP D (midP D L) L = fa at *
  generalize midP D L = a at *
  generalize midP D W = b at *
  generalize 1 + m.tmod 8 = k at *
  generalize ent D a k = ea at *
  have wa : IntKind.i64.wrap (a - 1) = a - 1 := wrap_i64 (by omega) (by omega)
  have wk : IntKind.i64.wrap (k - 1) = k - 1 := wrap_i64 (by omega) (by omega)
  have x1 : (a < 1) = False := eq_false (by omega)
  have x2 : (8 < a) = False := eq_false (by omega)
  have x3 : (b < 1) = False := eq_false (by omega)
  have x4 : (8 < b) = False := eq_false (by omega)
  have x5 : fb ≤ max fa ea := by omega
  simp [S3_mid_Mid, ga, gb, x1, x2, x3, x4, L_pleachlaw7_MidMoved_0_fold, hloop, p_pleachlaw7_MidMoved_1, wa, wk, t1, t2, t4, t5, S3_mid_Far, gfa, gfb, x5]
end Go.Proofs.Ytncbinaaagmmaaa.Bm
