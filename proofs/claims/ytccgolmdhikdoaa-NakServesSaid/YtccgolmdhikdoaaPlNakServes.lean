/- The law NakServes: the walk. -/
import Derived.Test.YtccgolmdhikdoaaPcServ
import Derived.Test.YtccgolmdhikdoaaPcFeed2
set_option linter.unusedVariables false
set_option linter.unusedSimpArgs false
namespace Go.Proofs.Ytccgolmdhikdoaa.Pn
open Go.Ab Go.Feed
set_option maxRecDepth 100000
theorem wrapU8 {i : Int} (h : 0 ≤ i) (h2 : i ≤ 255) : IntKind.u8.wrap i = i := by
  have : IntKind.u8.wrap i = i % 256 := rfl
  rw [this]; omega
theorem tmodE {a b : Int} (h : 0 ≤ a) : a.tmod b = a % b := Int.tmod_eq_emod_of_nonneg h
@[simp] theorem binA_neqS (a b : List UInt8) : binA .neq (.str a) (.str b) = some (.bool (!decide (a = b))) := by
  show some (AV.bool (!(a == b))) = _
  congr 3
  by_cases h : a = b <;> simp [h]
theorem servI_out {r : List It} {m : Nat} {n h : Int} (c : h < n) : servI r m n h = [] := by
  cases m with
  | zero => rfl
  | succ m => show (if n ≤ h then _ else _) = _; rw [if_neg (by omega)]
section
variable {Q : AHeap}
theorem loop_NS {f : Fed} {r w l : AV} (hs : Sls f r w l) (hr : RingOk f.ring f.next) {lo hi : Int} (hlo : 1 ≤ lo) (hhi : hi ≤ 1000) {I : List It} (hI : I.length ≤ 8) {N : List Sp} (hN : N.length ≤ 8) (hNh : ∀ k, Go.Span.has N k = (decide (lo ≤ k ∧ k < lo + 8 ∧ k ≤ min hi (f.next - 1)) && !there f.ring k)) : ∀ (m : Nat) (k : Int) (j : Nat), k + m = hi + 1 → lo ≤ k → I.drop j = servI f.ring (lo + 8 - k).toNat k (min hi (f.next - 1)) → j ≤ I.length →
    L_pleachlaw17_NakServes_1 P1 (.int .i64 lo) (.int .i64 hi) (its I) (.fz 2 (N.map Sp.v)) (.int .i64 j) (.int .i64 k) (.int .i64 f.next) (.int .i64 f.top) r w l (.int .i64 f.tries) (.int .i64 f.due) Q =
      X_pleachlaw17_NakServes_1_x0 (.int .i64 lo) (.int .i64 hi) (its I) (.fz 2 (N.map Sp.v)) (.int .i64 I.length) Q := by
  intro m
  induction m with
  | zero =>
    intro k j hk h1 hd hj
    have c : ¬ k ≤ hi := by omega
    have : I.drop j = [] := by rw [hd]; exact servI_out (by omega)
    have := List.drop_eq_nil_iff.1 this
    obtain rfl : j = I.length := by omega
    rw [L_pleachlaw17_NakServes_1_eq, p_pleachlaw17_NakServes_1]
    simp [c]
  | succ m ih =>
    intro k j hk h1 hd hj
    have c : (k ≤ hi) = True := eq_true (by omega)
    have w1 := w64 (i := k + 1) (by omega) (by omega)
    have w2 := w64 (i := lo + 8) (by omega) (by omega)
    have cg := fun (Q : AHeap) => d_Get (Q := Q) hs.r (by have := hr.len; omega) k
    have ch := fun (Q : AHeap) => d_Has (Q := Q) (Sl.fz 2 (N.map Sp.v)) (by omega) k
    rw [hNh] at ch
    have none_at : I.drop j = [] → ((j : Int) < (I.length : Int)) = False := fun h => eq_false (by have := List.drop_eq_nil_iff.1 h; omega)
    by_cases ci : k < f.next ∧ k < lo + 8
    · obtain ⟨ci1, ci2⟩ := ci
      obtain ⟨q, hq⟩ : ∃ q, (lo + 8 - k).toNat = q + 1 := ⟨(lo + 8 - k).toNat - 1, by omega⟩
      have hq' : (lo + 8 - (k + 1)).toNat = q := by omega
      have hle : k ≤ min hi (f.next - 1) := by omega
      have es : servI f.ring (q + 1) k (min hi (f.next - 1)) = (if there f.ring k = true then ⟨k, getR f.ring k⟩ :: servI f.ring q (k + 1) (min hi (f.next - 1)) else servI f.ring q (k + 1) (min hi (f.next - 1))) := by show (if k ≤ min hi (f.next - 1) then _ else _) = _; rw [if_pos hle]
      rw [hq, es] at hd
      rw [decide_eq_true (show lo ≤ k ∧ k < lo + 8 ∧ k ≤ min hi (f.next - 1) by omega)] at ch
      cases ht : there f.ring k with
      | true =>
        rw [ht, if_pos rfl] at hd
        rw [ht] at ch cg
        have hjl : j < I.length := by
          rcases Nat.lt_or_ge j I.length with h | h
          · exact h
          · rw [List.drop_of_length_le h] at hd; cases hd
        have e0 : I[j]? = some ⟨k, getR f.ring k⟩ := by
          have := congrArg (fun l => l[0]?) hd
          simpa using this
        have hd2 : I.drop (j + 1) = servI f.ring q (k + 1) (min hi (f.next - 1)) := by
          have := congrArg List.tail hd
          simpa using this
        have e := elQ_at (z := 2) (f := It.v) (k := .i64) e0
        rw [It_v] at e
        have cj : ((j : Int) < (I.length : Int)) = True := eq_true (by omega)
        have w3 := w64 (i := (j : Int) + 1) (by omega) (by omega)
        have ih := ih (k + 1) (j + 1) (by omega) (by omega) (by rw [hq']; exact hd2) hjl
        simp only [Bool.not_true, Bool.and_false] at ch
        rw [L_pleachlaw17_NakServes_1_eq, p_pleachlaw17_NakServes_1]
        simp [c, cg, ci1, ci2, w2, cj, e, ch, w3, p_pleachlaw17_NakServes_0, w1]
        simpa [L_pleachlaw17_NakServes_1_fold] using ih
      | false =>
        rw [ht, if_neg (by simp)] at hd
        rw [ht] at ch cg
        have ih := ih (k + 1) j (by omega) (by omega) (by rw [hq']; exact hd) hj
        simp only [Bool.not_false, Bool.and_true] at ch
        rw [L_pleachlaw17_NakServes_1_eq, p_pleachlaw17_NakServes_1]
        by_cases hjl : j < I.length
        · have cj : ((j : Int) < (I.length : Int)) = True := eq_true (by omega)
          have e0 := getD_at (l := I) (k := j) hjl
          have hm : I.getD j default ∈ servI f.ring q (k + 1) (min hi (f.next - 1)) := by
            rw [← hd]
            have : (I.drop j)[0]? = some (I.getD j default) := by rw [List.getElem?_drop]; exact e0
            exact List.mem_of_getElem? this
          have hge := servI_ge _ _ _ _ _ hm
          have e := elQ_at (z := 2) (f := It.v) (k := .i64) e0
          generalize I.getD j default = x at *
          rw [It_v] at e
          have hne : ¬ x.seq = k := by omega
          simp [c, cg, ci1, ci2, w2, cj, e, hne, ch, p_pleachlaw17_NakServes_0, w1]
          simpa [L_pleachlaw17_NakServes_1_fold] using ih
        · have cj : ((j : Int) < (I.length : Int)) = False := eq_false (by omega)
          simp [c, cg, ci1, ci2, w2, cj, ch, p_pleachlaw17_NakServes_0, w1]
          simpa [L_pleachlaw17_NakServes_1_fold] using ih
    · have e0 : servI f.ring (lo + 8 - k).toNat k (min hi (f.next - 1)) = [] := by
        by_cases c1 : k < f.next
        · rw [show (lo + 8 - k).toNat = 0 by omega]; rfl
        · exact servI_out (by omega)
      rw [e0] at hd
      have cj := none_at hd
      have e1 : servI f.ring (lo + 8 - (k + 1)).toNat (k + 1) (min hi (f.next - 1)) = [] := by
        by_cases c1 : k < f.next
        · rw [show (lo + 8 - (k + 1)).toNat = 0 by omega]; rfl
        · exact servI_out (by omega)
      have ih := ih (k + 1) j (by omega) (by omega) (by rw [e1]; exact hd) hj
      rw [decide_eq_false (show ¬ (lo ≤ k ∧ k < lo + 8 ∧ k ≤ min hi (f.next - 1)) by omega), Bool.false_and] at ch
      rw [L_pleachlaw17_NakServes_1_eq, p_pleachlaw17_NakServes_1]
      by_cases c1 : k < f.next
      · have c2 : ¬ k < lo + 8 := fun h => ci ⟨c1, h⟩
        simp [c, cg, c1, c2, w2, cj, ch, p_pleachlaw17_NakServes_0, w1]
        simpa [L_pleachlaw17_NakServes_1_fold] using ih
      · simp [c, cg, c1, cj, ch, p_pleachlaw17_NakServes_0, w1]
        simpa [L_pleachlaw17_NakServes_1_fold] using ih
theorem serves_true {L : List Int} (rL : Bs L) {a b : Int} (ha : 0 ≤ a ∧ a ≤ 255) (hb : 0 ≤ b ∧ b ≤ 255) : ∃ Q', callP (penv P1) 5 [.fz 1 (L.map (AV.int .u8)), .int .u8 a, .int .u8 b] Q = some (.bool true, Q') := by
  have hb0 : ∀ Q, callP (penv P1) 14 [] Q = some (.bool true, Q) := fun Q => (callP_spec (E := penv P1) (f := 14) (g := gYes) rfl [] Q).trans (by simp [gYes])
  rw [f_pleachlaw17_NakServes rfl]
  by_cases hA : 60 < L.length
  · have hA' : (60 : Int) < L.length := by omega
    exact ⟨Q, by simp [hb0, hA']⟩
  have hA' : ¬ (60 : Int) < L.length := by omega
  obtain ⟨Q1, em, hp, _⟩ := c_Made (l := L) Q
  obtain ⟨x, f, r, w, l, Q2, hx, hm, hs, _, _, ef⟩ := c_Feed (p := Q.size) (by omega) rL hp
  refine ⟨Q2, ?_⟩
  have n1 := hm.on.n1
  have hn := hm.dd.n1
  have rg := hm.on.rg
  have m1 := tmodE (a := a) (b := 20) ha.1
  have m2 := tmodE (a := b) (b := 12) hb.1
  have w1 := wrapU8 (i := a % 20) (by omega) (by omega)
  have w2 := wrapU8 (i := b % 12) (by omega) (by omega)
  have v1 := w64 (i := a % 20) (by omega) (by omega)
  have v2 := w64 (i := b % 12) (by omega) (by omega)
  have v3 := w64 (i := 1 + a % 20) (by omega) (by omega)
  have v4 := w64 (i := 1 + a % 20 + b % 12) (by omega) (by omega)
  have hlo : 1 ≤ 1 + a % 20 ∧ 1 + a % 20 ≤ 20 := by omega
  have hhi : 1 + a % 20 ≤ 1 + a % 20 + b % 12 ∧ 1 + a % 20 + b % 12 ≤ 40 := by omega
  generalize hA1 : 1 + a % 20 = lo at *
  generalize hA2 : lo + b % 12 = hi at *
  have sv := fun (Q : AHeap) => c_Serves (Q := Q) hs rg n1 hn (lo := lo) (hi := hi) (by omega)
  obtain ⟨g, gh⟩ := servN_ok f.ring 8 lo (min hi (f.next - 1)) [] Go.Span.Gd.nil hlo.1 (by omega)
  have gh : ∀ k, Go.Span.has (servN f.ring 8 lo (min hi (f.next - 1)) []) k = (decide (lo ≤ k ∧ k < lo + 8 ∧ k ≤ min hi (f.next - 1)) && !there f.ring k) := fun k => by rw [gh]; simp [Go.Span.has]
  have l1 := servI_len f.ring 8 lo (min hi (f.next - 1))
  have l2 := servN_len f.ring 8 lo (min hi (f.next - 1)) [] Go.Span.Gd.nil hlo.1 (by omega)
  simp only [List.length_nil, Nat.zero_add] at l2
  have sm := fun (Q : AHeap) => d_SMay (Q := Q) (Sl.fz 2 ((servN f.ring 8 lo (min hi (f.next - 1)) []).map Sp.v)) (by omega)
  rw [gd_may g] at sm
  have lp := fun (Q : AHeap) => loop_NS (Q := Q) hs rg hlo.1 (by omega) l1 l2 gh (hi + 1 - lo).toNat lo 0 (by omega) (by omega) (by rw [show (lo + 8 - lo).toNat = 8 by omega]; rfl) (Nat.zero_le _)
  have h1 := fun (Q : AHeap) => d_Has (Q := Q) (Sl.fz 2 ((servN f.ring 8 lo (min hi (f.next - 1)) []).map Sp.v)) (by omega) (lo - 1)
  have h2 := fun (Q : AHeap) => d_Has (Q := Q) (Sl.fz 2 ((servN f.ring 8 lo (min hi (f.next - 1)) []).map Sp.v)) (by omega) (hi + 1)
  rw [gh, decide_eq_false (by omega), Bool.false_and] at h1 h2
  have w5 := w64 (i := lo - 1) (by omega) (by omega)
  have w6 := w64 (i := hi + 1) (by omega) (by omega)
  generalize servI f.ring 8 lo (min hi (f.next - 1)) = I at *
  generalize servN f.ring 8 lo (min hi (f.next - 1)) [] = N at *
  simp only [Fed.v, its, show ((0 : Nat) : Int) = 0 from rfl] at ef sv lp
  simp [hb0, hA', em, ef, hs.r.one, hs.w.one, hs.l.one, m1, m2, w1, w2, v1, v2, hA1, v3, hA2, v4, sv, sm, L_pleachlaw17_NakServes_1_fold, lp, p_pleachlaw17_NakServes_2, h1, h2, w5, w6]
end
end Go.Proofs.Ytccgolmdhikdoaa.Pn
/- The law NakServes. -/
set_option linter.unusedVariables false
set_option linter.unusedSimpArgs false
namespace Go.Proofs.Ytccgolmdhikdoaa.Pn
open Go.Ab
set_option maxRecDepth 100000
theorem law_NakServes {H : AHeap} (v : AV) (A : List Int) (hA : rdI .u8 H v = some A) (hl : A.length ≤ maxLen) (rA : ∀ n ∈ A, IntKind.u8.min ≤ n ∧ n ≤ IntKind.u8.max) (hc : capOk v = true)
    (n : Int) (hn : IntKind.u8.min ≤ n ∧ n ≤ IntKind.u8.max) (m : Int) (hm : IntKind.u8.min ≤ m ∧ m ≤ IntKind.u8.max) :
    EndsV (callV (env S1) 5 [v, .int .u8 n, .int .u8 m] H) fun v _ => v = .bool true := by
  refine law_ends pe1 (by decide) (serves_true (L := A) rA hn hm) (RL.cons (RV.ints hA hc) (RL.cons RV.int (RL.cons RV.int RL.nil')))
end Go.Proofs.Ytccgolmdhikdoaa.Pn
