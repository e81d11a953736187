/- The law LogAll: the walk. -/
import Derived.Test.YtccgolmdhikdoaaPcLogA
import Derived.Test.YtccgolmdhikdoaaSh16
import Derived.Test.YtccgolmdhikdoaaPvF
set_option linter.unusedVariables false
set_option linter.unusedSimpArgs false
namespace Go.Proofs.Ytccgolmdhikdoaa.Pn
open Go.Ab Go.Feed Go.Logs
set_option maxRecDepth 100000
open Go.Span (add radd Gd may)
@[simp] theorem elOk_fz (z : Nat) (l : List AV) : elOk 1 (.fz z l) = true := (Eq.refl _).trans (Eq.refl _)
theorem setE_ev (x : Ev) (a b c d e : AV) : setE (.agg [.int .i64 x.kind, .int .i64 x.lo, .int .i64 x.hi, .str x.text, .int .i64 x.why]) 0 [a, b, c, d, e] = some (.agg [a, b, c, d, e]) := rfl
section
variable {Q : AHeap}
theorem step_A {l : List Ev} (hl : l.length ≤ 100) {t19 : AV} {i : Nat} (hi : i < 3) (he : elQ 1 t19 (.int .i64 (i : Int)) = some (.fz 5 (l.map Ev.v))) (lo : Int) {f : Int} (hf : 1 ≤ f) {t5 t6 t16 : AV} :
    L_pleachlaw16_LogAll_0 P1 (.int .i64 lo) t5 t6 (.int .i64 f) t16 t19 (.int .i64 i) Q = L_pleachlaw16_LogAll_0 P1 (.int .i64 lo) t5 t6 (.int .i64 f) t16 t19 (.int .i64 (i + 1 : Nat)) Q := by
  have c : ((i : Int) < 3) = True := eq_true (by omega)
  have w := w64 (i := (i : Int) + 1) (by omega) (by omega)
  have a1 := fun (Q : AHeap) => c_May (Q := Q) (Sl.fz 5 (l.map Ev.v)) (by omega) f
  have a2 := fun (Q : AHeap) => d_MayLog (Q := Q) (Sl.fz 5 (l.map Ev.v)) (by omega) f
  have a3 := fun (Q : AHeap) => c_May (Q := Q) (Sl.fz 5 (l.map Ev.v)) (by omega) lo
  have a4 := fun (Q : AHeap) => d_MayLog (Q := Q) (Sl.fz 5 (l.map Ev.v)) (by omega) lo
  rw [L_pleachlaw16_LogAll_0_eq, p_pleachlaw16_LogAll_0]
  generalize mayLog l lo = ml at *
  cases hm : mayLog l f with
  | false =>
    rw [hm] at a1 a2
    simp [c, he, a1, a2, a3, a4, w, L_pleachlaw16_LogAll_0_fold]
  | true =>
    have hv : mayL f l = true := by
      simp only [mayLog, Bool.and_eq_true] at hm; exact hm.2
    have ge := (mayL_ge hv).2
    have ga : ∀ e ∈ l, 1 ≤ e.lo ∧ e.lo ≤ e.hi ∧ e.hi ≤ 1000000 := fun e he => by have := ge e he; omega
    have gb : ∀ e ∈ l, 0 ≤ e.hi ∧ e.hi ≤ 1000000 := fun e he => by have := ge e he; omega
    rw [hm] at a1 a2
    have b1 := fun (Q : AHeap) => c_Next (Q := Q) (Sl.fz 5 (l.map Ev.v)) (by omega) f gb
    have b2 := fun (Q : AHeap) => d_NextLog (Q := Q) (Sl.fz 5 (l.map Ev.v)) (by omega) f gb
    have g1 := fun (Q : AHeap) => c_Gaps (Q := Q) (Sl.fz 5 (l.map Ev.v)) (by omega) ga
    have g2 := fun (Q : AHeap) => d_Gaps (Q := Q) (Sl.fz 5 (l.map Ev.v)) (by omega)
    have gl := gaps_len l [] Go.Span.Gd.nil
    have sm := fun (Q : AHeap) => d_SameS (Q := Q) (Sl.fz 2 ((gapsL l []).map Sp.v)) (Sl.fz 2 ((gapsL l []).map Sp.v)) (by simp at gl; omega)
    generalize gapsL l [] = G at *
    generalize nextL l f = nx at *
    simp [c, he, a1, a2, a3, a4, b1, b2, g1, g2, sm, w, L_pleachlaw16_LogAll_0_fold]
theorem loop_A {x y z : List Ev} (hx : x.length ≤ 100) (hy : y.length ≤ 100) (hz : z.length ≤ 100) (lo : Int) {f : Int} (hf : 1 ≤ f) {t5 t6 t16 : AV} :
    L_pleachlaw16_LogAll_0 P1 (.int .i64 lo) t5 t6 (.int .i64 f) t16 (.fz 1 [.fz 5 (x.map Ev.v), .fz 5 (y.map Ev.v), .fz 5 (z.map Ev.v)]) (.int .i64 0) Q = X_pleachlaw16_LogAll_0_x0 (.int .i64 lo) t5 t6 (.int .i64 f) t16 Q := by
  have s0 := step_A (Q := Q) hx (t19 := .fz 1 [.fz 5 (x.map Ev.v), .fz 5 (y.map Ev.v), .fz 5 (z.map Ev.v)]) (i := 0) (by omega) rfl lo hf (t5 := t5) (t6 := t6) (t16 := t16)
  have s1 := step_A (Q := Q) hy (t19 := .fz 1 [.fz 5 (x.map Ev.v), .fz 5 (y.map Ev.v), .fz 5 (z.map Ev.v)]) (i := 1) (by omega) rfl lo hf (t5 := t5) (t6 := t6) (t16 := t16)
  have s2 := step_A (Q := Q) hz (t19 := .fz 1 [.fz 5 (x.map Ev.v), .fz 5 (y.map Ev.v), .fz 5 (z.map Ev.v)]) (i := 2) (by omega) rfl lo hf (t5 := t5) (t6 := t6) (t16 := t16)
  refine (s0.trans (s1.trans s2)).trans ?_
  rw [L_pleachlaw16_LogAll_0_eq, p_pleachlaw16_LogAll_0]
  simp
theorem a_1 {x : List Ev} (hx : x.length ≤ 100) {f : Int} (hm : mayLog x f = true) (lo hi why : Int) :
    evalPK (callP (penv P1)) (loopP (penv P1)) c_pleachlaw16_LogAll_1 [(4, .v (.int .i64 lo)), (5, .v (.int .i64 hi)), (6, .v (.int .i64 why)), (15, .v (.int .i64 f)), (16, .v (.fz 5 (x.map Ev.v)))] [] Q (retPK [.tmp 14] [.n]) = some (.bool true, Q) := by
  have a1 := fun (Q : AHeap) => c_May (Q := Q) (Sl.fz 5 (x.map Ev.v)) (by omega) f
  rw [hm] at a1
  have t1 := fun (Q : AHeap) => c_Tell (Q := Q) (Sl.fz 5 (x.map Ev.v)) (by omega) ⟨lo, [116]⟩
  have t2 := fun (Q : AHeap) => d_Tell (Q := Q) (Sl.fz 5 (x.map Ev.v)) (by omega) ⟨lo, [116]⟩
  have k1 := fun (Q : AHeap) => c_Skip (Q := Q) (Sl.fz 5 (x.map Ev.v)) (by omega) lo hi why
  have k2 := fun (Q : AHeap) => d_Skip (Q := Q) (Sl.fz 5 (x.map Ev.v)) (by omega) lo hi why
  have e1 := fun (Q : AHeap) => d_SameE (Q := Q) (Sl.fz 5 ((x ++ [told ⟨lo, [116]⟩]).map Ev.v)) (Sl.fz 5 ((x ++ [told ⟨lo, [116]⟩]).map Ev.v)) (by simp; omega)
  have e2 := fun (Q : AHeap) => d_SameE (Q := Q) (Sl.fz 5 ((x ++ [gapE lo hi why]).map Ev.v)) (Sl.fz 5 ((x ++ [gapE lo hi why]).map Ev.v)) (by simp; omega)
  generalize x ++ [told ⟨lo, [116]⟩] = T1 at *
  generalize x ++ [gapE lo hi why] = T2 at *
  rw [p_pleachlaw16_LogAll_1]
  simp [a1, t1, t2, k1, k2, e1, e2]
theorem a_2 {x y z : List Ev} (hx : x.length ≤ 100) (hy : y.length ≤ 100) (hz : z.length ≤ 100) {f : Int} (hf : 1 ≤ f) (hm : mayLog x f = true) (lo hi why : Int) :
    evalPK (callP (penv P1)) (loopP (penv P1)) c_pleachlaw16_LogAll_2 [(4, .v (.int .i64 lo)), (5, .v (.int .i64 hi)), (6, .v (.int .i64 why)), (15, .v (.int .i64 f)), (16, .v (.fz 5 (x.map Ev.v))), (17, .ls 17), (18, .v (.fz 5 (z.map Ev.v)))] [(17, .own 5 (y.map Ev.v))] Q (retPK [.tmp 14] [.n]) = some (.bool true, Q) := by
  have lp := loop_A (Q := Q) hx hy hz lo hf (t5 := .int .i64 hi) (t6 := .int .i64 why) (t16 := .fz 5 (x.map Ev.v))
  have a1 := a_1 (Q := Q) hx hm lo hi why
  rw [p_pleachlaw16_LogAll_2]
  simp only [elOk_fz, L_pleachlaw16_LogAll_0_fold, lp]
  simpa using a1
theorem logAll_true {P : List (Int × Int)} (rP : Prs P) {a : Int} (ha : 0 ≤ a ∧ a ≤ 255) (e : Ev) {t : Int} (ht : 0 ≤ t ∧ t ≤ 255) (lo hi why : Int) :
    callP (penv P1) 8 [.fz 2 (P.map pv), .int .u8 a, .agg [.int .i64 e.kind, .int .i64 e.lo, .int .i64 e.hi, .str e.text, .int .i64 e.why], .int .u8 t, .int .i64 lo, .int .i64 hi, .int .i64 why] Q = some (.bool true, Q) := by
  rw [f_pleachlaw16_LogAll rfl]
  have hb0 : ∀ Q, callP (penv P1) 36 [] Q = some (.bool true, Q) := fun Q => (callP_spec (E := penv P1) (f := 36) (g := gYes) rfl [] Q).trans (by simp [gYes])
  by_cases hA : 15 < P.length
  · have hA' : (15 : Int) < P.length := by omega
    simp [hb0, hA']
  have hA' : ¬ (15 : Int) < P.length := by omega
  by_cases hB : 30 < e.text.length
  · have hB' : (30 : Int) < e.text.length := by omega
    simp [hb0, hA', hB']
  have hB' : ¬ (30 : Int) < e.text.length := by omega
  have m1 := tmod_e (a := a) (b := 9) ha.1
  have w1 := wrap_u8 (i := a % 9) (by omega) (by omega)
  have w2 := w64 (i := a % 9) (by omega) (by omega)
  have w3 := w64 (i := 1 + a % 9) (by omega) (by omega)
  have w4 := w64 (i := t) (by omega) (by omega)
  have hn : 1 ≤ 1 + a % 9 ∧ 1 + a % 9 ≤ 10 := by omega
  generalize hN : 1 + a % 9 = n at *
  have cl := fun (Q : AHeap) => c_Logs (Q := Q) (P := P) (by omega) rP (n := n) (by omega)
  obtain ⟨o1, o2, o3⟩ := logs_ok (l := P) (out := []) (f := n) (n := n) (fun p hp => (rP p hp).2.1) hn.1 rfl rfl (by omega)
  simp only [List.length_nil, Nat.zero_add] at o2
  generalize logs P [] n = x at *
  have hm : mayLog x n = true := by simp [mayLog, o1, hn.1]
  have rm : room 48 x.length = true := room_le (by omega) (by omega)
  by_cases hx0 : x.length = 0
  · have hx : x = [] := List.eq_nil_of_length_eq_zero hx0
    subst hx
    have a2 := a_2 (Q := Q) (x := []) (y := []) (z := []) (by simp) (by simp) (by simp) hn.1 hm lo hi why
    simp only [List.map_nil] at a2 cl
    have rm0 : room 48 0 = true := room_le (by omega) (by omega)
    simp [hb0, hA', hB', m1, w1, w2, hN, w3, cl, rm0, p_pleachlaw16_LogAll_3]
    simpa using a2
  · have hp : ((0 : Int) < x.length) = True := eq_true (by omega)
    have z0 : ((x.length : Int) = 0) = False := eq_false (by omega)
    have m2 := tmod_e (a := t) (b := (x.length : Int)) ht.1
    have l0 := Int.emod_nonneg t (show (x.length : Int) ≠ 0 by omega)
    have l1 := Int.emod_lt_of_pos t (show 0 < (x.length : Int) by omega)
    obtain ⟨k, hk⟩ : ∃ k : Nat, t % (x.length : Int) = k := ⟨(t % (x.length : Int)).toNat, by omega⟩
    rw [hk] at m2 l0 l1
    have hkl : k < x.length := by omega
    have hpn : 0 < x.length := by omega
    have hne : ¬ x = [] := fun e => hx0 (by rw [e]; rfl)
    have w5 := w64 (i := (k : Int) + 1) (by omega) (by omega)
    have s1 := slc_to (g := Ev.v) (l := x) (z := 5) (by omega) (show k ≤ x.length by omega)
    have s2 := slc_of (g := Ev.v) (l := x) (z := 5) (by omega) (show k + 1 ≤ x.length by omega)
    rw [show ((k + 1 : Nat) : Int) = (k : Int) + 1 by omega] at s2
    have ra : ∀ n, n ≤ 1000 → room 48 n = true := fun n hn => room_le (by omega) (by omega)
    have r1 : room 48 (x.take k).length = true := ra _ (by simp; omega)
    have r2 : room 48 ((x.take k).length + (x.drop (k + 1)).length) = true := ra _ (by simp; omega)
    have a2 := a_2 (Q := Q) (x := x) (y := x.set k e) (z := x.take k ++ x.drop (k + 1)) (by omega) (by simp; omega) (by simp; omega) hn.1 hm lo hi why
    have hg : x[k]? = some x[k] := List.getElem?_eq_getElem hkl
    have hse := fun (c1 c2 c3 c4 c5 : AV) => setE_ev x[k] c1 c2 c3 c4 c5
    simp only [List.map_append, List.map_set, Ev_v] at a2
    generalize x.take k = X1 at *
    generalize x.drop (k + 1) = X2 at *
    simp [hb0, hA', hB', m1, w1, w2, hN, w3, w4, cl, rm, hp, hpn, hne, z0, m2, hkl, Ev_v, hse, p_pleachlaw16_LogAll_3, s1, s2, w5, r1, r2]
    simpa using a2
end
end Go.Proofs.Ytccgolmdhikdoaa.Pn
/- The law LogAll. -/
set_option linter.unusedVariables false
set_option linter.unusedSimpArgs false
namespace Go.Proofs.Ytccgolmdhikdoaa.Pn
open Go.Ab
set_option maxRecDepth 100000
theorem pairs {L : List (List Int)} (rL : ∀ a ∈ L, a.length = 2 ∧ ∀ i ∈ a, IntKind.u8.min ≤ i ∧ i ≤ IntKind.u8.max) : ∃ P : List (Int × Int), Prs P ∧ L.map (fun zs : List Int => AV.agg (zs.map (AV.int .u8))) = P.map pv := by
  refine ⟨L.map fun a => (a.getD 0 0, a.getD 1 0), fun p hp => ?_, ?_⟩
  · obtain ⟨a, ha, rfl⟩ := List.mem_map.1 hp
    obtain ⟨h1, h2⟩ := rL a ha
    match a, h1 with
    | [x, y], _ => exact ⟨h2 x (by simp), h2 y (by simp)⟩
  · rw [List.map_map]
    refine List.map_congr_left fun a ha => ?_
    obtain ⟨h1, h2⟩ := rL a ha
    match a, h1 with
    | [x, y], _ => rfl
theorem law_LogAll {H : AHeap} (v : AV) (L : List (List Int)) (hL : Els 2 (fun zs : List Int => AV.agg (zs.map (AV.int .u8))) H v L) (hl : L.length ≤ maxLen) (rL : ∀ a ∈ L, a.length = 2 ∧ ∀ i ∈ a, IntKind.u8.min ≤ i ∧ i ≤ IntKind.u8.max)
    (n : Int) (hn : IntKind.u8.min ≤ n ∧ n ≤ IntKind.u8.max) (e0 : Int) (h0 : IntKind.i64.min ≤ e0 ∧ e0 ≤ IntKind.i64.max) (e1 : Int) (h1 : IntKind.i64.min ≤ e1 ∧ e1 ≤ IntKind.i64.max) (e2 : Int) (h2 : IntKind.i64.min ≤ e2 ∧ e2 ≤ IntKind.i64.max) (s : List UInt8) (e4 : Int) (h4 : IntKind.i64.min ≤ e4 ∧ e4 ≤ IntKind.i64.max)
    (m : Int) (hm : IntKind.u8.min ≤ m ∧ m ≤ IntKind.u8.max) (lo : Int) (hlo : IntKind.i64.min ≤ lo ∧ lo ≤ IntKind.i64.max) (hi : Int) (hhi : IntKind.i64.min ≤ hi ∧ hi ≤ IntKind.i64.max) (why : Int) (hwhy : IntKind.i64.min ≤ why ∧ why ≤ IntKind.i64.max) :
    EndsV (callV (env S1) 8 [v, .int .u8 n, .agg [.int .i64 e0, .int .i64 e1, .int .i64 e2, .str s, .int .i64 e4], .int .u8 m, .int .i64 lo, .int .i64 hi, .int .i64 why] H) fun v _ => v = .bool true := by
  obtain ⟨P, hP, e⟩ := pairs rL
  refine law_ends pe1 (by decide) ⟨_, logAll_true (P := P) hP hn ⟨e0, e1, e2, s, e4⟩ hm lo hi why⟩ (RL.cons (e ▸ hL.rv) (RL.cons RV.int (RL.cons (RV.agg (RL.cons RV.int (RL.cons RV.int (RL.cons RV.int (RL.cons (RV.flat rfl) (RL.cons RV.int RL.nil')))))) (RL.cons RV.int (RL.cons RV.int (RL.cons RV.int (RL.cons RV.int RL.nil')))))))
end Go.Proofs.Ytccgolmdhikdoaa.Pn
