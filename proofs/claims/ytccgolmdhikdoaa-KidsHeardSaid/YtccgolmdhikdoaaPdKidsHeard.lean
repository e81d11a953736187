/- The law KidsHeard: the walk. -/
import Derived.Test.YtccgolmdhikdoaaPcKids2
import Derived.Test.YtccgolmdhikdoaaPcMap
set_option linter.unusedVariables false
set_option linter.unusedSimpArgs false
namespace Go.Proofs.Ytccgolmdhikdoaa.Pk
open Go.Ab Go.Feed Go.Kids
set_option maxRecDepth 100000
theorem wrap_u8 {i : Int} (h : 0 ≤ i) (h2 : i ≤ 255) : IntKind.u8.wrap i = i := by
  have : IntKind.u8.wrap i = i % 256 := rfl
  rw [this]; omega
theorem tmod_e {a b : Int} (h : 0 ≤ a) : a.tmod b = a % b := Int.tmod_eq_emod_of_nonneg h
def trip (a : List Int) : AV := .agg (a.map (AV.int .u8))
def Trip (L : List (List Int)) : Prop := ∀ a ∈ L, a.length = 3 ∧ ∀ i ∈ a, 0 ≤ i ∧ i ≤ 255
theorem Trip.get {L : List (List Int)} (h : Trip L) {i : Nat} (hi : i < L.length) : ∃ x y z : Int, L[i]? = some [x, y, z] ∧ (0 ≤ x ∧ x ≤ 255) ∧ (0 ≤ y ∧ y ≤ 255) ∧ (0 ≤ z ∧ z ≤ 255) := by
  obtain ⟨h1, h2⟩ := h L[i] (List.getElem_mem _)
  have e : L[i]? = some L[i] := List.getElem?_eq_getElem hi
  generalize L[i] = a at *
  match a, h1 with
  | [x, y, z], _ => exact ⟨x, y, z, e, h2 x (by simp), h2 y (by simp), h2 z (by simp)⟩
@[simp] theorem gdN_sk (w : Bool) (o : Option Nat) : gdN .sk w o = some 0 := (Eq.refl _).trans (Eq.refl _)
theorem eqsK (b : Bool) (x : Kid) : eqsA b (.st [(0, 1, .i), (1, 1, .i), (2, 1, .i)]) (.agg [.int .i64 x.id, .int .i64 x.inc, .int .i64 x.heard]) (.agg [.int .i64 x.id, .int .i64 x.inc, .int .i64 x.heard]) = some (.bool (true != b)) := by
  simp [eqsA, eqA, eqF, partA, EqT.agg]
structure Ht (x : List Kid) (v : AV) (M : List (Int × Kid)) : Prop where
  ok : Ok x
  sl : Sl 3 (x.map Kid.v) v
  same : ∀ m, mget M m = kget x m
  len : M.length = x.length
  hd : ∀ k ∈ x, k.heard ≤ 49
section
theorem loop_KH {L : List (List Int)} (hL : L.length ≤ 20) (rL : Trip L) {c1 : AV} {r : Nat} : ∀ (m i : Nat) (x : List Kid) (v : AV) (M : List (Int × Kid)) (Q : AHeap), i + m = L.length → Ht x v M → Q.get r = some (.mapo (em kI Kid.v M)) →
    ∃ (x' : List Kid) (v' : AV) (M' : List (Int × Kid)) (Q' : AHeap), L_pleachlaw6_KidsHeard_2 P1 (.fz 3 (L.map trip)) c1 v (.mp r) (.int .i64 i) Q = X_pleachlaw6_KidsHeard_2_x0 c1 v' (.mp r) Q' ∧ Ht x' v' M' ∧ Q'.get r = some (.mapo (em kI Kid.v M')) := by
  intro m
  induction m with
  | zero =>
    intro i x v M Q hi hh hQ
    obtain rfl : i = L.length := by omega
    refine ⟨x, v, M, Q, ?_, hh, hQ⟩
    rw [L_pleachlaw6_KidsHeard_2_eq, p_pleachlaw6_KidsHeard_2]
    simp
  | succ m ih =>
    intro i x v M Q hi hh hQ
    have c : ((i : Int) < L.length) = True := eq_true (by omega)
    obtain ⟨a, b, d, e0, ha, hb, hd⟩ := rL.get (i := i) (by omega)
    have e := elQ_at (z := 3) (f := trip) (k := .i64) e0
    have m1 := tmod_e (a := a) (b := 8) ha.1
    have m2 := tmod_e (a := b) (b := 3) hb.1
    have m3 := tmod_e (a := d) (b := 50) hd.1
    have w1 := wrap_u8 (i := a % 8) (by omega) (by omega)
    have w2 := wrap_u8 (i := b % 3) (by omega) (by omega)
    have w3 := wrap_u8 (i := d % 50) (by omega) (by omega)
    have w4 := w64 (i := a % 8) (by omega) (by omega)
    have w5 := w64 (i := b % 3) (by omega) (by omega)
    have w6 := w64 (i := d % 50) (by omega) (by omega)
    have w7 := w64 (i := 1 + a % 8) (by omega) (by omega)
    have w8 := w64 (i := 1 + b % 3) (by omega) (by omega)
    have w9 := w64 (i := (i : Int) + 1) (by omega) (by omega)
    obtain ⟨k, hk1, hk2, hk3⟩ : ∃ k : Kid, 1 + a % 8 = k.id ∧ 1 + b % 3 = k.inc ∧ d % 50 = k.heard := ⟨⟨1 + a % 8, 1 + b % 3, d % 50⟩, rfl, rfl, rfl⟩
    have hkb : (1 ≤ k.id ∧ k.id ≤ 8) ∧ (1 ≤ k.inc ∧ k.inc ≤ 1073741824) ∧ (0 ≤ k.heard ∧ k.heard ≤ 1073741824) := by omega
    have hl := hh.ok.len
    have hr := fun (Q : AHeap) => c_Hear (Q := Q) hh.sl (by omega) hh.ok.ks k
    have lk := mlk_em kI_eq hQ (.agg [.int .i64 0, .int .i64 0, .int .i64 0]) true k.id
    have up := mup_em (g := Kid.v) (v := k) kI_eq hQ k.id
    rw [show kI k.id = .int .i64 k.id from rfl] at lk up
    rw [hh.same] at lk
    rw [Kid_v] at up
    have ok2 := hear_ok x k
    have hw6 : IntKind.i64.wrap k.heard = k.heard := by rw [← hk3]; exact w6
    have hw7 : IntKind.i64.wrap k.id = k.id := by rw [← hk1]; exact w7
    have hw8 : IntKind.i64.wrap k.inc = k.inc := by rw [← hk2]; exact w8
    cases hok : (hear x k).2 with
    | true =>
      have hh2 : Ht (hear x k).1 (kds (hear x k).1) (mput M k.id k) := by
        refine ⟨hh.ok.hear hkb, Sl.fz 3 _, fun m => ?_, ?_, fun y hy => ?_⟩
        · rw [mget_put, hear_get hh.ok.ks k hok, hh.same]
        · rw [mput_len, hear_len x k hok, hh.len, hh.same]
        · rcases (hear_mem hh.ok.ks k hok y).1 hy with rfl | ⟨h1, _⟩
          · omega
          · exact hh.hd y h1
      obtain ⟨x', v', M', Q', g1, g2⟩ := ih (i + 1) _ _ _ (Q.put r (some (.mapo (em kI Kid.v (mput M k.id k))))) (by omega) hh2 (get_putS _ _ _)
      refine ⟨x', v', M', Q', ?_, g2⟩
      rw [hok] at hr ok2
      generalize (hear x k).1 = y at *
      generalize Q.put r (some (.mapo (em kI Kid.v (mput M k.id k)))) = Q2 at *
      simp only [kds] at hr g1
      rw [L_pleachlaw6_KidsHeard_2_eq, p_pleachlaw6_KidsHeard_2]
      cases eg : kget x k.id with
      | none =>
        rw [eg] at lk
        simp only [Option.map_none, foundA, if_true] at lk
        simp [c, e, trip, m1, m2, m3, w1, w2, w3, w4, w5, hk1, hk2, hk3, hw6, hw7, hw8, lk, hr, up, p_pleachlaw6_KidsHeard_0, p_pleachlaw6_KidsHeard_1, w9]
        simpa [L_pleachlaw6_KidsHeard_2_fold] using g1
      | some z =>
        rw [eg] at lk ok2
        simp only [Option.map_some, foundA, if_true, Kid_v] at lk
        have ok2 : z.inc ≤ k.inc := of_decide_eq_true ok2.symm
        simp [c, e, trip, m1, m2, m3, w1, w2, w3, w4, w5, hk1, hk2, hk3, hw6, hw7, hw8, lk, hr, up, p_pleachlaw6_KidsHeard_0, p_pleachlaw6_KidsHeard_1, w9, ok2]
        simpa [L_pleachlaw6_KidsHeard_2_fold] using g1
    | false =>
      have hno := hear_no hok
      rw [hok, hno] at hr
      rw [hok] at ok2
      have hh2 : Ht x (kds x) M := ⟨hh.ok, Sl.fz 3 _, hh.same, hh.len, hh.hd⟩
      obtain ⟨x', v', M', Q', g1, g2⟩ := ih (i + 1) _ _ _ Q (by omega) hh2 hQ
      refine ⟨x', v', M', Q', ?_, g2⟩
      simp only [kds] at hr g1
      rw [L_pleachlaw6_KidsHeard_2_eq, p_pleachlaw6_KidsHeard_2]
      cases eg : kget x k.id with
      | none => rw [eg] at ok2; cases ok2
      | some z =>
        rw [eg] at lk ok2
        simp only [Option.map_some, foundA, if_true, Kid_v] at lk
        have ok2 : ¬ z.inc ≤ k.inc := of_decide_eq_false ok2.symm
        simp [c, e, trip, m1, m2, m3, w1, w2, w3, w4, w5, hk1, hk2, hk3, hw6, hw7, hw8, lk, hr, p_pleachlaw6_KidsHeard_0, p_pleachlaw6_KidsHeard_1, w9, ok2]
        simpa [L_pleachlaw6_KidsHeard_2_fold] using g1
theorem loop_KH2 {x y : List Kid} {v : AV} {M : List (Int × Kid)} {Q : AHeap} {r : Nat} {now : Int} (hn : 0 ≤ now ∧ now ≤ 255) (hh : Ht x v M) (hQ : Q.get r = some (.mapo (em kI Kid.v M))) (hy : Ok y) (hg : ∀ m, kget y m = (kget x m).filter fun k => !decide (20 < now - k.heard)) : ∀ (m : Nat) (i : Int), i + m = 9 → 1 ≤ i →
    L_pleachlaw6_KidsHeard_3 P1 (.int .u8 now) v (.mp r) (kds y) (.int .i64 i) Q = X_pleachlaw6_KidsHeard_3_x2 (kds y) Q := by
  intro m
  induction m with
  | zero =>
    intro i hi h1
    have c : ¬ i ≤ 8 := by omega
    rw [L_pleachlaw6_KidsHeard_3_eq, p_pleachlaw6_KidsHeard_3]
    simp [c]
  | succ m ih =>
    intro i hi h1
    have c : i ≤ 8 := by omega
    have w := w64 (i := i + 1) (by omega) (by omega)
    have ih := ih (i + 1) (by omega) (by omega)
    have hl := hh.ok.len
    have hly := hy.len
    have lk := mlk_em kI_eq hQ (.agg [.int .i64 0, .int .i64 0, .int .i64 0]) true i
    rw [show kI i = .int .i64 i from rfl, hh.same] at lk
    have f1 := fun (Q : AHeap) => c_Find (Q := Q) hh.sl (by omega) hh.ok.ks i
    have f2 := fun (Q : AHeap) => c_Find (Q := Q) (Sl.fz 3 (y.map Kid.v)) (by omega) hy.ks i
    have hg := hg i
    have w2 := w64 (i := now) (by omega) (by omega)
    rw [L_pleachlaw6_KidsHeard_3_eq, p_pleachlaw6_KidsHeard_3]
    simp only [kds] at ih ⊢
    cases eg : kget x i with
    | none =>
      rw [eg] at lk f1 hg
      simp only [Option.filter_none] at hg
      rw [hg] at f2
      simp only [Option.map_none, foundA, if_true] at lk
      simp [c, lk, f1, f2, Kid.v, w]
      simpa [L_pleachlaw6_KidsHeard_3_fold] using ih
    | some z =>
      have hz := kget_some eg
      have zb := hh.ok.b z hz.1
      have w3 := w64 (i := now - z.heard) (by omega) (by omega)
      rw [eg] at lk f1 hg
      simp only [Option.map_some, foundA, if_true, Kid_v] at lk
      have ek := eqsK true z
      rw [Option.filter_some] at hg
      by_cases c2 : 20 < now - z.heard
      · have c3 : ¬ now - z.heard ≤ 20 := by omega
        rw [if_neg (by simp [c2])] at hg
        rw [hg] at f2
        simp [c, lk, f1, f2, Kid.v, ek, w2, w3, c3, w]
        simpa [L_pleachlaw6_KidsHeard_3_fold] using ih
      · have c3 : now - z.heard ≤ 20 := by omega
        rw [if_pos (by simp [c2])] at hg
        rw [hg] at f2
        simp [c, lk, f1, f2, Kid.v, ek, w2, w3, c3, w]
        simpa [L_pleachlaw6_KidsHeard_3_fold] using ih
theorem heard_true {L : List (List Int)} (rL : Trip L) {now : Int} (hn : 0 ≤ now ∧ now ≤ 255) (Q : AHeap) : ∃ Q', callP (penv P1) 12 [.fz 3 (L.map trip), .int .u8 now] Q = some (.bool true, Q') := by
  rw [f_pleachlaw6_KidsHeard rfl]
  have hb : ∀ Q, callP (penv P1) 47 [] Q = some (.bool true, Q) := fun Q => (callP_spec (E := penv P1) (f := 47) (g := gYes) rfl [] Q).trans (by simp [gYes])
  by_cases hA : 20 < L.length
  · have hA' : (20 : Int) < L.length := by omega
    exact ⟨_, by simp [hb, hA']; rfl⟩
  have hA' : ¬ (20 : Int) < L.length := by omega
  have hQ : (Q.push (some (.mapo []))).get Q.size = some (.mapo (em kI Kid.v [])) := by rw [AHeap.get_push, if_pos rfl]; rfl
  have h0 : Ht [] .nils [] := ⟨⟨List.Pairwise.nil, fun x hx => absurd hx List.not_mem_nil⟩, Sl.nil 3, fun m => rfl, rfl, fun x hx => absurd hx List.not_mem_nil⟩
  obtain ⟨x, v, M, Q', g1, hh, hQ'⟩ := loop_KH (c1 := .int .u8 now) (by omega) rL L.length 0 [] .nils [] (Q.push (some (.mapo []))) (by omega) h0 hQ
  rw [show ((0 : Nat) : Int) = 0 from rfl] at g1
  have hl := hh.ok.len
  have w := w64 (i := now) (by omega) (by omega)
  have my := fun (Q : AHeap) => c_KMay (Q := Q) hh.ok hh.sl
  have ln := lnm_em hQ'
  rw [hh.len] at ln
  have lv := hh.sl.len
  rw [List.length_map] at lv
  have pr := fun (Q : AHeap) => c_Prune (Q := Q) hh.sl (by omega) (now := now) (by omega) (fun k hk => by have := hh.ok.b k hk; omega)
  have hy := hh.ok.outs fun k => decide (20 < now - k.heard)
  have hg := outs_get hh.ok.ks fun k => decide (20 < now - k.heard)
  generalize outs (fun k => decide (20 < now - k.heard)) x = y at *
  have l2 := loop_KH2 hn hh hQ' hy hg 8 1 (by omega) (by omega)
  have my2 := fun (Q : AHeap) => c_KMay (Q := Q) hy (Sl.fz 3 (y.map Kid.v))
  simp only [kds] at l2 pr
  refine ⟨Q', ?_⟩
  simp [hb, hA', L_pleachlaw6_KidsHeard_2_fold, g1, p_pleachlaw6_KidsHeard_5, my, ln, lv, w, pr, L_pleachlaw6_KidsHeard_3_fold, l2, p_pleachlaw6_KidsHeard_4, my2]
end
end Go.Proofs.Ytccgolmdhikdoaa.Pk
