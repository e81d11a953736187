/- Who hangs on nobody asks: the walk. -/
import Derived.Test.YtdbbdfmkglgjdaaPmTieA
import Derived.Test.YtdbbdfmkglgjdaaPmKids
set_option linter.unusedVariables false
set_option linter.unusedSimpArgs false
namespace Go.Proofs.Ytdbbdfmkglgjdaa.Pi
open Go.Ab Go.Feed Go.Kids Go.Tie
set_option maxRecDepth 100000
theorem tmodE {a b : Int} (h : 0 ≤ a) : a.tmod b = a % b := Int.tmod_eq_emod_of_nonneg h
theorem wrapU8 {i : Int} (h : 0 ≤ i) (h2 : i ≤ 255) : IntKind.u8.wrap i = i := by
  have : IntKind.u8.wrap i = i % 256 := rfl
  rw [this]; omega
section
variable {A : List Int}
theorem two_nil {Q : AHeap} {t x : Tie} {pv kv pv' kv' : AV} (sv : AV) (id g a i : Int) :
    L_pleachlaw19_TieAsks_2 P1 sv (.int .i64 id) (.int .i64 g) (.int .i64 a) (.int .i64 i) (.fz 10 []) (.int .i64 0) (.int .i64 0) (.int .i64 t.id) (.int .i64 t.inc) (.int .i64 t.now) (.int .i64 t.parent) (.int .i64 t.pinc) (.int .i64 t.grand) pv (.int .i64 t.epoch) (.int .i64 t.born) (.int .i64 t.asked) (.int .i64 t.till) (.int .i64 t.step) kv (.int .i64 x.id) (.int .i64 x.inc) (.int .i64 x.now) (.int .i64 x.parent) (.int .i64 x.pinc) (.int .i64 x.grand) pv' (.int .i64 x.epoch) (.int .i64 x.born) (.int .i64 x.asked) (.int .i64 x.till) (.int .i64 x.step) kv' Q =
      X_pleachlaw19_TieAsks_2_x2 sv (.int .i64 id) (.int .i64 g) (.int .i64 a) (.int .i64 i) (.int .i64 0) (.int .i64 t.id) (.int .i64 t.inc) (.int .i64 t.now) (.int .i64 t.parent) (.int .i64 t.pinc) (.int .i64 t.grand) pv (.int .i64 t.epoch) (.int .i64 t.born) (.int .i64 t.asked) (.int .i64 t.till) (.int .i64 t.step) kv (.int .i64 x.id) (.int .i64 x.inc) (.int .i64 x.now) (.int .i64 x.parent) (.int .i64 x.pinc) (.int .i64 x.grand) pv' (.int .i64 x.epoch) (.int .i64 x.born) (.int .i64 x.asked) (.int .i64 x.till) (.int .i64 x.step) kv' Q := by
  rw [L_pleachlaw19_TieAsks_2_eq, p_pleachlaw19_TieAsks_2]
  simp
theorem two_one {Q : AHeap} {t x : Tie} {pv kv pv' kv' : AV} (sv : AV) (id g a i w : Int) (ha : 0 ≤ a ∧ a ≤ 1000) (hx : 0 ≤ x.now ∧ x.now ≤ 100000) (hw : (if a = 0 then g else 1) = w) (h1 : x.asked = w) (h2 : x.till = x.now + 3) :
    L_pleachlaw19_TieAsks_2 P1 sv (.int .i64 id) (.int .i64 g) (.int .i64 a) (.int .i64 i) (.fz 10 [Msg.v (says x 1 w 0)]) (.int .i64 0) (.int .i64 0) (.int .i64 t.id) (.int .i64 t.inc) (.int .i64 t.now) (.int .i64 t.parent) (.int .i64 t.pinc) (.int .i64 t.grand) pv (.int .i64 t.epoch) (.int .i64 t.born) (.int .i64 t.asked) (.int .i64 t.till) (.int .i64 t.step) kv (.int .i64 x.id) (.int .i64 x.inc) (.int .i64 x.now) (.int .i64 x.parent) (.int .i64 x.pinc) (.int .i64 x.grand) pv' (.int .i64 x.epoch) (.int .i64 x.born) (.int .i64 x.asked) (.int .i64 x.till) (.int .i64 x.step) kv' Q =
      X_pleachlaw19_TieAsks_2_x2 sv (.int .i64 id) (.int .i64 g) (.int .i64 (a + 1)) (.int .i64 i) (.int .i64 1) (.int .i64 t.id) (.int .i64 t.inc) (.int .i64 t.now) (.int .i64 t.parent) (.int .i64 t.pinc) (.int .i64 t.grand) pv (.int .i64 t.epoch) (.int .i64 t.born) (.int .i64 t.asked) (.int .i64 t.till) (.int .i64 t.step) kv (.int .i64 x.id) (.int .i64 x.inc) (.int .i64 x.now) (.int .i64 x.parent) (.int .i64 x.pinc) (.int .i64 x.grand) pv' (.int .i64 x.epoch) (.int .i64 x.born) (.int .i64 x.asked) (.int .i64 x.till) (.int .i64 x.step) kv' Q := by
  have v := v_says x w 0 (kind := 1) (by decide)
  have w1 := w64 (i := a + 1) (by omega) (by omega)
  have w2 := w64 (i := x.now + 3) (by omega) (by omega)
  have w3 : IntKind.i64.wrap (0 + 1) = 1 := w64 (i := 1) (by decide) (by decide)
  have w4 : IntKind.i64.wrap 1 = 1 := w64 (i := 1) (by decide) (by decide)
  have e : elQ 10 (.fz 10 [Msg.v (says x 1 w 0)]) (.int .i64 0) = some (Msg.v (says x 1 w 0)) := rfl
  rw [v] at e ⊢
  rw [L_pleachlaw19_TieAsks_2_eq, p_pleachlaw19_TieAsks_2]
  have h1' := eq_true h1
  have h2' := eq_true h2
  by_cases c : a = 0
  · rw [if_pos c] at hw
    subst c
    have hw' := eq_true hw
    simp [e, hw, h1', h2', w1, w2, w3, w4, p_pleachlaw19_TieAsks_0, p_pleachlaw19_TieAsks_1]
    rw [L_pleachlaw19_TieAsks_2_fold, L_pleachlaw19_TieAsks_2_eq, p_pleachlaw19_TieAsks_2]
    simp
  · rw [if_neg c] at hw
    subst hw
    simp [e, c, h1', h2', w1, w2, w3, w4, p_pleachlaw19_TieAsks_0, p_pleachlaw19_TieAsks_1]
    rw [L_pleachlaw19_TieAsks_2_fold, L_pleachlaw19_TieAsks_2_eq, p_pleachlaw19_TieAsks_2]
    simp
theorem loop_Asks (rA : ∀ n ∈ A, IntKind.u8.min ≤ n ∧ n ≤ IntKind.u8.max) (hA : A.length ≤ 12) {id g : Int} (hid : 2 ≤ id ∧ id ≤ 8) (hg : 0 ≤ g ∧ g ≤ 8) : ∀ (m i : Nat) (t : Tie) (pv kv : AV) (a : Int) (Q : AHeap), i + m = A.length → Ia id g t → Aa t a → Bd t (100 + 200 * i) → a ≤ i → (1 ≤ i → 1 ≤ a) → Sl 1 (ints t.path) pv → Sl 3 (t.kids.map Kid.v) kv →
    ∃ a' Q', L_pleachlaw19_TieAsks_6 P1 (.fz 1 (A.map (AV.int .u8))) (.int .i64 id) (.int .i64 (firstA id g)) (.int .i64 a) (.int .i64 i) (.int .i64 t.id) (.int .i64 t.inc) (.int .i64 t.now) (.int .i64 t.parent) (.int .i64 t.pinc) (.int .i64 t.grand) pv (.int .i64 t.epoch) (.int .i64 t.born) (.int .i64 t.asked) (.int .i64 t.till) (.int .i64 t.step) kv Q = X_pleachlaw19_TieAsks_6_x0 (.fz 1 (A.map (AV.int .u8))) (.int .i64 a') Q' ∧ (1 ≤ A.length → 1 ≤ a') := by
  intro m
  induction m with
  | zero =>
    intro i t pv kv a Q hi hI ha hb hai h1a hp hk
    obtain rfl : i = A.length := by omega
    refine ⟨a, Q, ?_, h1a⟩
    rw [L_pleachlaw19_TieAsks_6_eq, p_pleachlaw19_TieAsks_6]
    simp
  | succ m ih =>
    intro i t pv kv a Q hi hI ha hb hai h1a hp hk
    have c1 : ((i : Int) < A.length) = True := eq_true (by omega)
    have a0 := ha.a0
    obtain ⟨pv', kv', Q1, e, hp', hk', _⟩ := c_Tick (Q := Q) hp hk hb (by omega)
    have hb' := hb.tick
    obtain ⟨hJ, hc⟩ := tick_asks hid.1 hI ha
    generalize tick t = T at *
    obtain ⟨x, ms⟩ := T
    simp only at *
    have hxn := hb'.now
    have wi := w64 (i := (i : Int) + 1) (by omega) (by omega)
    have hel : elQ 1 (.fz 1 (A.map (AV.int .u8))) (.int .i64 (i : Int)) = some (.int .u8 (A.getD i 0)) := by
      have := elQ_ints (k := .u8) (kk := .i64) (l := A) (i := (i : Int)) (by omega) (by omega)
      simpa using this
    have hz : 0 ≤ A.getD i 0 ∧ A.getD i 0 ≤ 255 := by
      rw [List.getD_eq_getElem?_getD, List.getElem?_eq_getElem (by omega)]
      exact rA _ (List.getElem_mem _)
    generalize A.getD i 0 = z at *
    have t3 := tmodE (a := z) (b := 3) hz.1
    have u3 := wrapU8 (i := z % 3) (by omega) (by omega)
    -- what comes behind the messages
    have tail : ∀ (a2 : Int), 1 ≤ a2 → a2 ≤ i + 1 → Aa x a2 → x.asked ≠ 0 → ∀ n : Int, (n = 0 ∨ n = 1) →
        ∃ a' Q', bnX (bnX (evalPK (callP (penv P1)) (loopP (penv P1)) c_pleachlaw19_TieAsks_4 [(2, .v (.fz 1 (A.map (AV.int .u8)))), (7, .v (.int .i64 id)), (9, .lp 9 0), (10, .v (.int .i64 (firstA id g))), (11, .v (.int .i64 a2)), (12, .v (.int .i64 i)), (13, .lp 13 0), (15, .v (.int .i64 n))] [(9, .cells [.int .i64 t.id, .int .i64 t.inc, .int .i64 t.now, .int .i64 t.parent, .int .i64 t.pinc, .int .i64 t.grand, pv, .int .i64 t.epoch, .int .i64 t.born, .int .i64 t.asked, .int .i64 t.till, .int .i64 t.step, kv]), (13, .cells [.int .i64 x.id, .int .i64 x.inc, .int .i64 x.now, .int .i64 x.parent, .int .i64 x.pinc, .int .i64 x.grand, pv', .int .i64 x.epoch, .int .i64 x.born, .int .i64 x.asked, .int .i64 x.till, .int .i64 x.step, kv'])] Q1 ret4) (outX 1 ret4))
            (goC (evalPK (callP (penv P1)) (loopP (penv P1)) c_pleachlaw19_TieAsks_5) (goX (fun τ ω Q => loopP (penv P1) c_pleachlaw19_TieAsks_6 τ ω Q) ret4)) = X_pleachlaw19_TieAsks_6_x0 (.fz 1 (A.map (AV.int .u8))) (.int .i64 a') Q' ∧ (1 ≤ A.length → 1 ≤ a') := fun a2 ha2 hai2 hAa hne n hn => by
      have n1 : (1 < n) = False := eq_false (by omega)
      have xa := eq_false hne
      have xp := eq_true hJ.pa
      rw [p_pleachlaw19_TieAsks_4]
      by_cases c3 : z % 3 = 0
      · rcases em2 (x.asked = id) with c4 | c4
        · obtain ⟨a', Q', lp, ra⟩ := ih (i + 1) x pv' kv' a2 Q1 (by omega) hJ hAa (hb'.weaken (by omega)) (by omega) (fun _ => ha2) hp' hk'
          refine ⟨a', Q', ?_, ra⟩
          rw [show ((i + 1 : Nat) : Int) = (i : Int) + 1 by push_cast; rfl] at lp
          rcases hn with rfl | rfl
          · simp [n1, xa, xp, hel, t3, u3, c3, c4, p_pleachlaw19_TieAsks_3, p_pleachlaw19_TieAsks_5, hp'.one, hk'.one, wi]
            rw [L_pleachlaw19_TieAsks_6_fold, lp]
          · simp [n1, xa, xp, hel, t3, u3, c3, c4, p_pleachlaw19_TieAsks_3, p_pleachlaw19_TieAsks_5, hp'.one, hk'.one, wi]
            rw [L_pleachlaw19_TieAsks_6_fold, lp]
        · obtain ⟨pv2, kv2, Q2, e2, hp2, hk2, _⟩ := c_Comes (Q := Q1) hp' hk' hb' (by omega) (m := ⟨3, x.asked, id, 1, 0, 0, [], 0, 0, []⟩) ⟨by simp, by simp, by simp⟩ (v := .nils) (Sl.nil 1) 1
          have hb2 := hb'.comes (m := ⟨3, x.asked, id, 1, 0, 0, [], 0, 0, []⟩) ⟨by simp, by simp, by simp⟩ 1
          obtain ⟨r1, r2, r3⟩ := refused hJ hne ⟨3, x.asked, id, 1, 0, 0, [], 0, 0, []⟩ rfl rfl 1
          generalize comes x ⟨3, x.asked, id, 1, 0, 0, [], 0, 0, []⟩ 1 = Y at *
          obtain ⟨y, ms2⟩ := Y
          simp only at *
          obtain ⟨a', Q', lp, ra⟩ := ih (i + 1) y pv2 kv2 a2 Q2 (by omega) r1 ⟨by omega, fun h => absurd h (by omega), fun _ => Or.inr r3⟩ (hb2.weaken (by omega)) (by omega) (fun _ => ha2) hp2 hk2
          refine ⟨a', Q', ?_, ra⟩
          have r2' := eq_true r2
          rw [show ((i + 1 : Nat) : Int) = (i : Int) + 1 by push_cast; rfl] at lp
          rcases hn with rfl | rfl
          · simp [n1, xa, xp, hel, t3, u3, c3, c4, e2, r2', p_pleachlaw19_TieAsks_3, p_pleachlaw19_TieAsks_5, hp2.one, hk2.one, wi]
            rw [L_pleachlaw19_TieAsks_6_fold, lp]
          · simp [n1, xa, xp, hel, t3, u3, c3, c4, e2, r2', p_pleachlaw19_TieAsks_3, p_pleachlaw19_TieAsks_5, hp2.one, hk2.one, wi]
            rw [L_pleachlaw19_TieAsks_6_fold, lp]
      · obtain ⟨a', Q', lp, ra⟩ := ih (i + 1) x pv' kv' a2 Q1 (by omega) hJ hAa (hb'.weaken (by omega)) (by omega) (fun _ => ha2) hp' hk'
        refine ⟨a', Q', ?_, ra⟩
        rw [show ((i + 1 : Nat) : Int) = (i : Int) + 1 by push_cast; rfl] at lp
        rcases hn with rfl | rfl
        · simp [n1, xa, xp, hel, t3, u3, c3, p_pleachlaw19_TieAsks_3, p_pleachlaw19_TieAsks_5, hp'.one, hk'.one, wi]
          rw [L_pleachlaw19_TieAsks_6_fold, lp]
        · simp [n1, xa, xp, hel, t3, u3, c3, p_pleachlaw19_TieAsks_3, p_pleachlaw19_TieAsks_5, hp'.one, hk'.one, wi]
          rw [L_pleachlaw19_TieAsks_6_fold, lp]
    rw [L_pleachlaw19_TieAsks_6_eq, p_pleachlaw19_TieAsks_6]
    rcases hc with ⟨rfl, a1, n0⟩ | ⟨rfl, asw, tl⟩
    · obtain ⟨a', Q', tl, ra⟩ := tail a a1 (by omega) ⟨a0, fun h => absurd h (by omega), fun _ => Or.inl n0⟩ n0 0 (Or.inl rfl)
      refine ⟨a', Q', ?_, ra⟩
      rw [← tl]
      have lp := two_nil (Q := Q1) (t := t) (x := x) (pv := pv) (kv := kv) (pv' := pv') (kv' := kv') (.fz 1 (A.map (AV.int .u8))) id (firstA id g) a i
      simp only [List.map_nil] at e
      simp [c1, e, hp'.one, hk'.one]
      rw [L_pleachlaw19_TieAsks_2_fold, lp]
      simp
    · have n0 : x.asked ≠ 0 := by rw [asw]; exact wantA_ne _ _ _
      obtain ⟨a', Q', tl2, ra⟩ := tail (a + 1) (by omega) (by omega) ⟨by omega, fun h => absurd h (by omega), fun _ => Or.inl n0⟩ n0 1 (Or.inr rfl)
      refine ⟨a', Q', ?_, ra⟩
      rw [← tl2]
      have lp := two_one (Q := Q1) (t := t) (x := x) (pv := pv) (kv := kv) (pv' := pv') (kv' := kv') (.fz 1 (A.map (AV.int .u8))) id (firstA id g) a i (wantA id g a) (by omega) (by omega) rfl asw tl
      simp only [List.map_cons, List.map_nil] at e
      simp [c1, e, hp'.one, hk'.one]
      rw [L_pleachlaw19_TieAsks_2_fold, lp]
      simp
theorem asks_true (rA : ∀ n ∈ A, IntKind.u8.min ≤ n ∧ n ≤ IntKind.u8.max) {who grand : Int} (hw : IntKind.u8.min ≤ who ∧ who ≤ IntKind.u8.max) (hg : IntKind.u8.min ≤ grand ∧ grand ≤ IntKind.u8.max) :
    ∃ Q', callP (penv P1) 6 [.int .u8 who, .int .u8 grand, .fz 1 (A.map (AV.int .u8))] AHeap.empty = some (.bool true, Q') := by
  have hb0 : ∀ Q, callP (penv P1) 11 [] Q = some (.bool true, Q) := fun Q => by rw [callP_spec (g := gYes) rfl]; rfl
  have hw : 0 ≤ who ∧ who ≤ 255 := hw
  have hg : 0 ≤ grand ∧ grand ≤ 255 := hg
  rw [f_pleachlaw19_TieAsks rfl]
  by_cases hA : 12 < A.length
  · have hA' : (12 : Int) < A.length := by omega
    exact ⟨AHeap.empty, by simp [hb0, hA']⟩
  have hA' : ¬ (12 : Int) < A.length := by omega
  have m1 := tmodE (a := who) (b := 7) hw.1
  have m2 := tmodE (a := grand) (b := 9) hg.1
  have u1 := wrapU8 (i := who % 7) (by omega) (by omega)
  have u2 := wrapU8 (i := grand % 9) (by omega) (by omega)
  have v1 := w64 (i := who % 7) (by omega) (by omega)
  have v2 := w64 (i := grand % 9) (by omega) (by omega)
  have v3 := w64 (i := 2 + who % 7) (by omega) (by omega)
  have hid : 2 ≤ 2 + who % 7 ∧ 2 + who % 7 ≤ 8 := by omega
  have hgg : 0 ≤ grand % 9 ∧ grand % 9 ≤ 8 := by omega
  generalize hE : 2 + who % 7 = id at *
  generalize grand % 9 = g at *
  obtain ⟨pv, hp, en⟩ := c_New (Q := AHeap.empty) id 1 0 g
  obtain ⟨hI, hAa⟩ := Ia.new (g := g) hid.1
  have hbN : Bd (New id 1 0 g) 100 := Bd.new (by decide)
  have hk := New_kids id 1 0 g
  generalize New id 1 0 g = t at *
  obtain ⟨a', Q', lp, ra⟩ := loop_Asks rA (by omega) hid hgg A.length 0 t pv .nils 0 AHeap.empty (by omega) hI hAa (hbN.weaken (by omega)) (by omega) (fun h => absurd h (by decide)) hp (by rw [hk]; exact Sl.nil 3)
  refine ⟨Q', ?_⟩
  rw [show ((0 : Nat) : Int) = 0 from rfl] at lp
  have hfin : ((A.length : Int) = 0) ∨ 1 ≤ a' := by
    by_cases c : A.length = 0
    · left; omega
    · right; exact ra (by omega)
  have fin : evalPK (callP (penv P1)) (loopP (penv P1)) c_pleachlaw19_TieAsks_8 [(2, .v (.fz 1 (A.map (AV.int .u8)))), (7, .v (.int .i64 id)), (9, .lp 9 0), (10, .v (.int .i64 (firstA id g)))] [(9, .cells [.int .i64 t.id, .int .i64 t.inc, .int .i64 t.now, .int .i64 t.parent, .int .i64 t.pinc, .int .i64 t.grand, pv, .int .i64 t.epoch, .int .i64 t.born, .int .i64 t.asked, .int .i64 t.till, .int .i64 t.step, .nils])] AHeap.empty (retPK [.tmp 6] [.n]) = some (.bool true, Q') := by
    rw [p_pleachlaw19_TieAsks_8, L_pleachlaw19_TieAsks_6_fold, lp]
    rcases em2 ((A.length : Int) = 0) with c | c
    · simp only [X_pleachlaw19_TieAsks_6_x0, p_pleachlaw19_TieAsks_7]
      simp [p_pleachlaw19_TieAsks_7]
      have := of_eq_true c
      simp [show A = [] from List.length_eq_zero_iff.1 (by omega)]
    · have hf := hfin.resolve_left (of_eq_false c)
      have : A ≠ [] := fun h => of_eq_false c (by rw [h]; rfl)
      simp [p_pleachlaw19_TieAsks_7, c, hf, this]
  unfold firstA at fin
  by_cases c1 : g = 0
  · rw [if_neg (fun h => h.1 c1)] at fin
    subst c1
    simp [hb0, hA', m1, m2, u1, u2, v1, v2, hE, v3, en, hp.one, fin]
  · by_cases c2 : g = id
    · rw [if_neg (fun h => h.2 c2)] at fin
      have c2' := eq_true c2
      simp [hb0, hA', m1, m2, u1, u2, v1, v2, hE, v3, en, hp.one, c1, c2', fin]
    · rw [if_pos ⟨c1, c2⟩] at fin
      simp [hb0, hA', m1, m2, u1, u2, v1, v2, hE, v3, en, hp.one, c1, c2, fin]
end
end Go.Proofs.Ytdbbdfmkglgjdaa.Pi
/- The law TieAsks. -/
set_option linter.unusedVariables false
set_option linter.unusedSimpArgs false
namespace Go.Proofs.Ytdbbdfmkglgjdaa.Pi
open Go.Ab
set_option maxRecDepth 100000
theorem law_TieAsks {H : AHeap} (n : Int) (hn : IntKind.u8.min ≤ n ∧ n ≤ IntKind.u8.max) (m : Int) (hm : IntKind.u8.min ≤ m ∧ m ≤ IntKind.u8.max)
    (v : AV) (A : List Int) (hA : rdI .u8 H v = some A) (hl : A.length ≤ maxLen) (rA : ∀ n ∈ A, IntKind.u8.min ≤ n ∧ n ≤ IntKind.u8.max) (hc : capOk v = true) :
    EndsV (callV (env S1) 6 [.int .u8 n, .int .u8 m, v] H) fun v _ => v = .bool true := by
  refine law_ends pe1 (by decide) (asks_true (A := A) rA hn hm) (RL.cons RV.int (RL.cons RV.int (RL.cons (RV.ints hA hc) RL.nil')))
end Go.Proofs.Ytdbbdfmkglgjdaa.Pi
