/- The law MidAll. -/
import Derived.Test.YtncbinaaagmmaaaWcMidb
set_option linter.unusedVariables false
set_option linter.unusedSimpArgs false
namespace Go.Proofs.Ytncbinaaagmmaaa.Bm
open Go.Ab
set_option maxRecDepth 100000

set_option maxRecDepth 1000000 in
theorem begun_runs : tellsTrue ((frun (env []) 100000).1 28 [] AHeap.empty) = true := by kernel_rfl

def S0 : Specs := [(53, gDist)]
theorem ok_S0 : SpecsOk S0 := (ok_cons (ok_gDist ok_nil rfl) ok_nil)
theorem S0_mid_dist (args : List AV) (H : AHeap) : callV (env S0) 53 args H = gDist args H := callV_spec rfl args H
def S1 : Specs := [(53, gDist), (34, gFar)]
theorem ok_S1 : SpecsOk S1 := (ok_cons (ok_gDist ok_nil rfl) (ok_cons (ok_gFar ok_S0 rfl S0_mid_dist) ok_nil))
theorem S1_mid_dist (args : List AV) (H : AHeap) : callV (env S1) 53 args H = gDist args H := callV_spec rfl args H
theorem S1_mid_Far (args : List AV) (H : AHeap) : callV (env S1) 34 args H = gFar args H := callV_spec rfl args H
def S2 : Specs := [(53, gDist), (34, gFar), (52, gMid1), (54, gNear1)]
theorem ok_S2 : SpecsOk S2 := (ok_cons (ok_gDist ok_nil rfl) (ok_cons (ok_gFar ok_S0 rfl S0_mid_dist) (ok_cons (ok_gMid1 ok_S1 rfl S1_mid_Far) (ok_cons (ok_gNear1 ok_S1 rfl S1_mid_dist) ok_nil))))
theorem S2_mid_dist (args : List AV) (H : AHeap) : callV (env S2) 53 args H = gDist args H := callV_spec rfl args H
theorem S2_mid_Far (args : List AV) (H : AHeap) : callV (env S2) 34 args H = gFar args H := callV_spec rfl args H
theorem S2_mid_Mid_1 (args : List AV) (H : AHeap) : callV (env S2) 52 args H = gMid1 args H := callV_spec rfl args H
theorem S2_mid_Near_1 (args : List AV) (H : AHeap) : callV (env S2) 54 args H = gNear1 args H := callV_spec rfl args H
def R1 : Specs := [(47, gHas), (35, gFar)]
theorem ok_R1 : SpecsOk R1 := (ok_cons (ok_gHas ok_nil rfl) (ok_cons (ok_gFar' ok_nil rfl) ok_nil))
theorem R1_pleachref1_Has (args : List AV) (H : AHeap) : callV (env R1) 47 args H = gHas args H := callV_spec rfl args H
theorem R1_pleachref7_Far (args : List AV) (H : AHeap) : callV (env R1) 35 args H = gFar args H := callV_spec rfl args H
def S3 : Specs := [(28, gTrue), (47, gHas), (34, gFar), (35, gFar), (32, gMid), (33, gMid), (36, gNear), (37, gNear)]
theorem ok_S3 : SpecsOk S3 := (ok_cons (closedOk begun_runs) (ok_cons (ok_gHas ok_nil rfl) (ok_cons (ok_gFar ok_S0 rfl S0_mid_dist) (ok_cons (ok_gFar' ok_nil rfl) (ok_cons (ok_gMid ok_S2 rfl rfl S2_mid_Mid_1) (ok_cons (ok_gMid' ok_R1 rfl R1_pleachref1_Has R1_pleachref7_Far) (ok_cons (ok_gNear ok_S2 rfl rfl S2_mid_Near_1) (ok_cons (ok_gNear' ok_R1 rfl R1_pleachref1_Has) ok_nil))))))))
theorem S3_pleachlaw7_begun (args : List AV) (H : AHeap) : callV (env S3) 28 args H = gTrue args H := callV_spec rfl args H
theorem S3_pleachref1_Has (args : List AV) (H : AHeap) : callV (env S3) 47 args H = gHas args H := callV_spec rfl args H
theorem S3_mid_Far (args : List AV) (H : AHeap) : callV (env S3) 34 args H = gFar args H := callV_spec rfl args H
theorem S3_pleachref7_Far (args : List AV) (H : AHeap) : callV (env S3) 35 args H = gFar args H := callV_spec rfl args H
theorem S3_mid_Mid (args : List AV) (H : AHeap) : callV (env S3) 32 args H = gMid args H := callV_spec rfl args H
theorem S3_pleachref7_Mid (args : List AV) (H : AHeap) : callV (env S3) 33 args H = gMid args H := callV_spec rfl args H
theorem S3_mid_Near (args : List AV) (H : AHeap) : callV (env S3) 36 args H = gNear args H := callV_spec rfl args H
theorem S3_pleachref7_Near (args : List AV) (H : AHeap) : callV (env S3) 37 args H = gNear args H := callV_spec rfl args H

theorem u8r {n : Int} (h : IntKind.u8.min ≤ n ∧ n ≤ IntKind.u8.max) : 0 ≤ n ∧ n ≤ 255 := h

/-- What the laws begin with: a table, some numbers. -/
theorem pickTwo {picks more : AV} {A B : List Int} {least : Int} {H : AHeap} {K : AV → AV → AV → AV → AHeap → Option (AV × AHeap)} {Q : AV → AHeap → Prop} (hl : 0 ≤ least ∧ least ≤ 8) (hA : rdI .u8 H picks = some A) (hB : rdI .u8 H more = some B) (la : A.length ≤ 1000000) (lb : B.length ≤ 1000000)
    (ra : ∀ n ∈ A, 0 ≤ n ∧ n ≤ 255) (rb : ∀ n ∈ B, 0 ≤ n ∧ n ≤ 255)
    (hK : ∀ w1 w3 d l D L H', rdD H' d = some D → Good D → rdI .i64 H' l = some L → Rise 9 L → least ≤ L.length → EndsV (K w1 d w3 l H') Q) :
    EndsV (bnS (callV (env S3) 29 [picks] H) fun w1 H1 => bnS (callV (env S3) 30 [w1] H1) fun w2 H2 => bnS (callV (env S3) 29 [more] H2) fun w3 H3 => bnS (callV (env S3) 31 [w3, .int .i64 least] H3) fun w4 H4 => K w1 w2 w3 w4 H4) Q := by
  obtain ⟨H1, e1, p1, k1, z1⟩ := call_Made (s := S3) rfl hA la ra
  rw [e1, bnS_some]
  refine EndsV.bnS ((call_Dist (s := S3) rfl rfl p1).mono fun d H2 ⟨D, n1, hD, hG, _, s1⟩ => ?_)
  have k2 : Kept H H2 := ⟨by have := k1.size; have := s1.size; omega, fun r hr => by rw [s1.get r ⟨by omega, by omega⟩, k1.get r hr]⟩
  obtain ⟨H3, e3, p3, k3, z3⟩ := call_Made (s := S3) rfl (rdI_kept k2 hB) lb rb
  rw [e3, bnS_some]
  refine EndsV.bnS ((call_Some (s := S3) rfl rfl p3 hl).mono fun l H4 ⟨L, n2, hL, hR, hle, _, s2⟩ => ?_)
  have k4 : Kept H2 H4 := ⟨by have := k3.size; have := s2.size; omega, fun r hr => by rw [s2.get r ⟨by omega, by omega⟩, k3.get r hr]⟩
  exact hK _ _ d l D L H4 (rdD_kept k4 hD) hG hL hR hle

theorem rise_fit {D : List (List Int)} {L : List Int} (hg : Good D) (hr : Rise 9 L) : Fit D L := by
  have h8 : L.length ≤ 8 := Rise.len (i := 8) hr
  exact ⟨hg.mat, fun x hx => by have := hr.2 x hx; omega, by omega⟩

section
variable {H : AHeap} {d l : AV} {D : List (List Int)} {L : List Int}
theorem gMid_val (hD : rdD H d = some D) (hL : rdI .i64 H l = some L) (h : Fit D L) : gMid [d, l] H = some (.int .i64 (midP D L), H) := by
  simp only [gMid, hD, hL]; rw [if_pos h]
theorem gNear_val (hD : rdD H d = some D) (hL : rdI .i64 H l = some L) (h : Fit D L) {m : Int} (hm : 1 ≤ m ∧ m ≤ 8) : gNear [d, .int .i64 m, l] H = some (.int .i64 (nearP D m L), H) := by
  simp only [gNear, hD, hL]; rw [if_pos ⟨h, hm⟩]
end
theorem one_of {m : Int} (hm : 0 ≤ m ∧ m ≤ 255) : IntKind.i64.wrap (m.tmod 8) = m.tmod 8 ∧ IntKind.i64.wrap (1 + m.tmod 8) = 1 + m.tmod 8 ∧ 1 ≤ 1 + m.tmod 8 ∧ 1 + m.tmod 8 ≤ 8 := by
  rw [Int.tmod_eq_emod_of_nonneg hm.1]
  have h1 := Int.emod_nonneg m (show (8 : Int) ≠ 0 by omega)
  have h2 := Int.emod_lt_of_pos m (show (0 : Int) < 8 by omega)
  exact ⟨wrap_i64 (by omega) (by omega), wrap_i64 (by omega) (by omega), by omega, by omega⟩

theorem law_MidAll {H : AHeap} (v : AV) (A : List Int) (hA : rdI .u8 H v = some A) (_ : A.length ≤ maxLen) (rA : ∀ n ∈ A, IntKind.u8.min ≤ n ∧ n ≤ IntKind.u8.max)
    (v2 : AV) (B : List Int) (hB : rdI .u8 H v2 = some B) (_ : B.length ≤ maxLen) (rB : ∀ n ∈ B, IntKind.u8.min ≤ n ∧ n ≤ IntKind.u8.max) (m : Int) (hm : IntKind.u8.min ≤ m ∧ m ≤ IntKind.u8.max) :
    EndsV (callV (env S3) 10 [v, v2, .int .u8 m] H) fun v _ => v = .bool true := by
  rw [f_pleachlaw7_MidAll rfl, p_pleachlaw7_MidAll]
  by_cases h1 : (30 : Int) < A.length
  · simp [S3_pleachlaw7_begun, gTrue, rdI_len hA, h1]
  by_cases h2 : (8 : Int) < B.length
  · simp [S3_pleachlaw7_begun, gTrue, rdI_len hA, rdI_len hB, h1, h2]
  obtain ⟨w1, w2, m1, m2⟩ := one_of (u8r hm)
  simp only [S3_pleachlaw7_begun, gTrue, bnS_some, unA_not, bnP_some, cndS_bool, Bool.not_true, Bool.false_eq_true, if_false, rdI_len hA, rdI_len hB, bin_gtr, gt_iff_lt, h1, h2, decide_false, wnt_bool, beq_self_eq_true, gdP_true, pickA_bool]
  refine pickTwo (least := 0) (by omega) hA hB (by omega) (by omega) (fun n hn => u8r (rA n hn)) (fun n hn => u8r (rB n hn)) fun w1' w3' d l D L H' hD hG hL hR _ => ?_
  have hf := rise_fit hG hR
  have g1 := gMid_val hD hL hf
  have g2 := gFar_val hD hL hf ⟨m1, m2⟩
  have g3 := gNear_val hD hL hf ⟨m1, m2⟩
  have hn : rdI .i64 H' .nils = some [] := rfl
  have hf0 : Fit D [] := ⟨hG.mat, fun x hx => by simp at hx, by simp⟩
  have g4 := gMid_val hD hn hf0
  have g5 := gNear_val hD hn hf0 ⟨m1, m2⟩
  have z4 : midP D [] = 0 := rfl
  have z5 : nearP D (1 + m.tmod 8) [] = 0 := rfl
  rw [z4] at g4
  rw [z5] at g5
  simp [w1, w2, S3_mid_Mid, S3_pleachref7_Mid, S3_mid_Far, S3_pleachref7_Far, S3_mid_Near, S3_pleachref7_Near, g1, g2, g3, g4, g5]
end Go.Proofs.Ytncbinaaagmmaaa.Bm
