/- The root. -/
import Derived.Test.YtdbbdfmkglgjdaaPmTie
import Derived.Test.YtdbbdfmkglgjdaaPcTieP
import Derived.Test.YtdbbdfmkglgjdaaPmKids
set_option linter.unusedVariables false
namespace Go.Tie
open Go.Feed Go.Kids
theorem asks_len (t : Tie) : (asks t).2.length ≤ 1 := by
  unfold asks; split
  · simp
  · split <;> simp
theorem beats_len (t : Tie) : (beats t).length ≤ t.kids.length + 1 := by
  unfold beats
  split
  · simp
  · rw [List.length_append]
    have : (if t.parent ≠ 0 then [says t 4 t.parent 0] else []).length ≤ 1 := by split <;> simp
    have : (if Lately t then t.kids.map fun k => full t 5 k.id 0 else []).length ≤ t.kids.length := by split <;> simp
    omega
theorem tick_len {t : Tie} {k : Nat} (h : Bd t k) : (tick t).2.length ≤ k + 10 := by
  have h1 := asks_len (turned (later t))
  have h2 := beats_len (asks (turned (later t))).1
  have h3 := h.tick.kids
  unfold tick at h3 ⊢
  simp only at h3 ⊢
  rw [List.length_append]; omega
structure Ir (t : Tie) (n : Int) : Prop where
  id : t.id = 1
  pa : t.parent = 0
  ask : t.asked = 0
  path : t.path = [1]
  now : t.now = n
  epoch : t.epoch = n / 2
  born : t.born = n / 2 * 2
theorem Ir.new (g : Int) : Ir (New 1 2 0 g) 0 := ⟨rfl, rfl, rfl, rfl, rfl, rfl, rfl⟩
theorem tick_root {t : Tie} {n : Int} (hn : 0 ≤ n) (h : Ir t n) : Ir (tick t).1 (n + 1) ∧ ∀ m ∈ (tick t).2, m.kind = 5 ∧ m.age = 0 ∧ m.path.length = 1 ∧ (tick t).1.now % 2 = 0 := by
  have hi : Ir (turned (later t)) (n + 1) := by
    unfold turned
    have hnow : (later t).now = n + 1 := by show t.now + 1 = n + 1; rw [h.now]
    by_cases c : (n + 1) % 2 = 0
    · rw [if_pos ⟨h.id, by rw [hnow]; exact c⟩]
      refine ⟨h.id, h.pa, h.ask, h.path, hnow, ?_, ?_⟩
      · show t.epoch + 1 = _; rw [h.epoch]; omega
      · show (later t).now = _; rw [hnow]; omega
    · rw [if_neg (fun x => c (by have := x.2; rw [hnow] at this; exact this)), if_neg (fun x => x.1 h.id)]
      refine ⟨h.id, h.pa, h.ask, h.path, hnow, ?_, ?_⟩
      · show t.epoch = _; rw [h.epoch]; omega
      · show t.born = _; rw [h.born]; omega
  have ea : asks (turned (later t)) = (turned (later t), []) := by unfold asks; rw [if_pos (Or.inl hi.id)]
  unfold tick
  rw [ea]
  refine ⟨hi, fun m hm => ?_⟩
  simp only [List.nil_append] at hm ⊢
  generalize turned (later t) = x at *
  unfold beats at hm
  split at hm
  · cases hm
  · rename_i c
    have c : x.now % 2 = 0 := Decidable.byContradiction fun h => c h
    rw [if_neg (fun c => c hi.pa), if_pos (Or.inl hi.id), List.nil_append, List.mem_map] at hm
    obtain ⟨k, _, rfl⟩ := hm
    refine ⟨rfl, ?_, ?_, c⟩
    · show x.now - x.born = 0
      rw [hi.now] at c ⊢
      rw [hi.born]; omega
    · show x.path.length = 1
      rw [hi.path]; rfl
theorem comes_root {t : Tie} {n : Int} (h : Ir t n) (m : Msg) (hf : m.frm ≠ 0) (lo : Int) : Ir (comes t m lo).1 n := by
  have hn : m.frm ≠ t.parent := by rw [h.pa]; exact hf
  have ha : ¬ t.asked = m.frm := by rw [h.ask]; exact fun c => hf c.symm
  unfold comes
  split
  · exact h
  · rw [show gone t m = t from if_neg (fun c => hn c.2.1)]
    unfold comesK
    split
    · unfold attach; split
      · exact ⟨h.id, h.pa, h.ask, h.path, h.now, h.epoch, h.born⟩
      · exact h
    · split
      · unfold accept; rw [if_pos (Or.inl ha)]; exact h
      · split
        · show Ir (refuse t m) n
          unfold refuse; rw [if_neg (fun c => ha c.symm), if_neg hn]; exact h
        · split
          · unfold beatUp; split
            · exact ⟨h.id, h.pa, h.ask, h.path, h.now, h.epoch, h.born⟩
            · exact h
          · split
            · unfold beatDn; rw [if_pos hn]; exact h
            · split
              · exact ⟨h.id, h.pa, h.ask, h.path, h.now, h.epoch, h.born⟩
              · exact h
end Go.Tie
/- The root hangs on nobody: the walk. -/
set_option linter.unusedVariables false
set_option linter.unusedSimpArgs false
namespace Go.Proofs.Ytdbbdfmkglgjdaa.Pi
open Go.Ab Go.Feed Go.Kids Go.Tie
set_option maxRecDepth 100000
theorem tmodE {a b : Int} (h : 0 ≤ a) : a.tmod b = a % b := Int.tmod_eq_emod_of_nonneg h
theorem mpv_sl {id : Int} {m : Msg} (h : Pm id m) : Sl 1 (ints m.path) (mpv m) := by
  unfold mpv
  by_cases c : m.kind = 2 ∨ m.kind = 5
  · rw [if_pos c]; exact Sl.fz _ _
  · rw [if_neg c, h.no c]; exact Sl.nil 1
section
theorem loop_msgs {Q : AHeap} {x t : Tie} {pv kv pv' kv' : AV} (p : Nat) (n i : Int) {ms : List Msg} (hl : ms.length ≤ 100000) (hx : 0 ≤ x.now ∧ x.now ≤ 100000) (hm : ∀ m ∈ ms, m.kind = 5 ∧ m.age = 0 ∧ m.path.length = 1 ∧ x.now % 2 = 0) : ∀ (q j : Nat), j + q = ms.length →
    L_pleachlaw19_TieRoot_0 P1 (.ptr p 0) (.int .i64 n) (.int .i64 i) (.fz 10 (ms.map Msg.v)) (.int .i64 j) (.int .i64 t.id) (.int .i64 t.inc) (.int .i64 t.now) (.int .i64 t.parent) (.int .i64 t.pinc) (.int .i64 t.grand) pv (.int .i64 t.epoch) (.int .i64 t.born) (.int .i64 t.asked) (.int .i64 t.till) (.int .i64 t.step) kv (.int .i64 x.id) (.int .i64 x.inc) (.int .i64 x.now) (.int .i64 x.parent) (.int .i64 x.pinc) (.int .i64 x.grand) pv' (.int .i64 x.epoch) (.int .i64 x.born) (.int .i64 x.asked) (.int .i64 x.till) (.int .i64 x.step) kv' Q = X_pleachlaw19_TieRoot_0_x2 (.ptr p 0) (.int .i64 n) (.int .i64 i) (.int .i64 t.id) (.int .i64 t.inc) (.int .i64 t.now) (.int .i64 t.parent) (.int .i64 t.pinc) (.int .i64 t.grand) pv (.int .i64 t.epoch) (.int .i64 t.born) (.int .i64 t.asked) (.int .i64 t.till) (.int .i64 t.step) kv (.int .i64 x.id) (.int .i64 x.inc) (.int .i64 x.now) (.int .i64 x.parent) (.int .i64 x.pinc) (.int .i64 x.grand) pv' (.int .i64 x.epoch) (.int .i64 x.born) (.int .i64 x.asked) (.int .i64 x.till) (.int .i64 x.step) kv' Q := by
  intro q
  induction q with
  | zero =>
    intro j hj
    obtain rfl : j = ms.length := by omega
    rw [L_pleachlaw19_TieRoot_0_eq, p_pleachlaw19_TieRoot_0]
    simp
  | succ q ih =>
    intro j hj
    have c1 : ((j : Int) < ms.length) = True := eq_true (by omega)
    have hj' : j < ms.length := by omega
    have e := elQ_at (z := 10) (f := Msg.v) (k := .i64) (List.getElem?_eq_getElem hj')
    obtain ⟨h1, h2, h3, h4⟩ := hm _ (List.getElem_mem hj')
    generalize ms[j] = m at *
    have em : mpv m = .fz 1 (ints m.path) := if_pos (Or.inr h1)
    rw [Msg_v, em] at e
    have w := w64 (i := (j : Int) + 1) (by omega) (by omega)
    have tm := tmodE (a := x.now) (b := 2) hx.1
    have w0 : IntKind.i64.wrap 0 = 0 := w64 (by decide) (by decide)
    have ih := ih (j + 1) (by omega)
    rw [show ((j + 1 : Nat) : Int) = (j : Int) + 1 by push_cast; rfl] at ih
    rw [L_pleachlaw19_TieRoot_0_eq, p_pleachlaw19_TieRoot_0]
    simp [c1, e, h1, h2, h3, h4, tm, w, w0]
    rw [L_pleachlaw19_TieRoot_0_fold, ih]
theorem loop_Root {p : Nat} {L : List Int} (hL : Ps L) : ∀ (m i : Nat) (t : Tie) (pv kv : AV) (n : Int) (Q : AHeap), i + m = 50 → Ir t n → Bd t (100 + 200 * i) → 0 ≤ n ∧ n ≤ i → Pq Q p L → Sl 1 (ints t.path) pv → Sl 3 (t.kids.map Kid.v) kv →
    ∃ Q', L_pleachlaw19_TieRoot_4 P1 (.ptr p 0) (.int .i64 n) (.int .i64 i) (.int .i64 t.id) (.int .i64 t.inc) (.int .i64 t.now) (.int .i64 t.parent) (.int .i64 t.pinc) (.int .i64 t.grand) pv (.int .i64 t.epoch) (.int .i64 t.born) (.int .i64 t.asked) (.int .i64 t.till) (.int .i64 t.step) kv Q = X_pleachlaw19_TieRoot_4_x0 Q' := by
  intro m
  induction m with
  | zero =>
    intro i t pv kv n Q hi hI hb hn hq hp hk
    obtain rfl : i = 50 := by omega
    refine ⟨Q, ?_⟩
    rw [L_pleachlaw19_TieRoot_4_eq, p_pleachlaw19_TieRoot_4]
    simp
  | succ m ih =>
    intro i t pv kv n Q hi hI hb hn hq hp hk
    have c1 : ((i : Int) < 50) = True := eq_true (by omega)
    have wi := w64 (i := (i : Int) + 1) (by omega) (by omega)
    obtain ⟨b, eo⟩ := q_Over hq hL
    cases b with
    | true =>
      refine ⟨Q, ?_⟩
      rw [L_pleachlaw19_TieRoot_4_eq, p_pleachlaw19_TieRoot_4]
      simp [c1, eo]
    | false =>
      obtain ⟨v, Q1, ev, hv, hq1⟩ := q_Num hq hL (m := 2) (by omega)
      -- what is looked at behind a step
      have tail : ∀ (x : Tie) (pv kv : AV) (n2 : Int) (Q : AHeap), Ir x n2 → Bd x (100 + 200 * i + 150) → 0 ≤ n2 ∧ n2 ≤ i + 1 → Pq Q p L → Sl 1 (ints x.path) pv → Sl 3 (x.kids.map Kid.v) kv →
          ∃ Q', bnX (bnX (evalPK (callP (penv P1)) (loopP (penv P1)) c_pleachlaw19_TieRoot_2 [(3, .v (.ptr p 0)), (4, .lp 4 0), (5, .v (.int .i64 n2)), (6, .v (.int .i64 i))] [(4, .cells [.int .i64 x.id, .int .i64 x.inc, .int .i64 x.now, .int .i64 x.parent, .int .i64 x.pinc, .int .i64 x.grand, pv, .int .i64 x.epoch, .int .i64 x.born, .int .i64 x.asked, .int .i64 x.till, .int .i64 x.step, kv])] Q ret4) (outX 1 ret4))
            (goC (evalPK (callP (penv P1)) (loopP (penv P1)) c_pleachlaw19_TieRoot_3) (goX (fun τ ω Q => loopP (penv P1) c_pleachlaw19_TieRoot_4 τ ω Q) ret4)) = X_pleachlaw19_TieRoot_4_x0 Q' := fun x pv kv n2 Q hx hbx hn2 hqx hpx hkx => by
        obtain ⟨Q', lp⟩ := ih (i + 1) x pv kv n2 Q (by omega) hx (hbx.weaken (by omega)) (by omega) hqx hpx hkx
        refine ⟨Q', ?_⟩
        have fr := fun Q => c_Fresh (Q := Q) hpx hkx hbx (by omega)
        rw [decide_eq_true (show Lately x from Or.inl hx.id)] at fr
        have d1 : n2.tdiv 2 = n2 / 2 := Int.tdiv_eq_ediv_of_nonneg hn2.1
        have w1 := w64 (i := n2 / 2) (by omega) (by omega)
        have w2 := w64 (i := n2 / 2 * 2) (by omega) (by omega)
        have x1 := eq_true hx.pa
        have x2 := eq_true hx.ask
        have x3 := eq_true hx.now
        have x4 := eq_true hx.epoch
        have x5 := eq_true hx.born
        have hpl := hpx.len
        have e0 := hpx.get (k := .i64) (i := 0) (x := 1) (by rw [hx.path]; rfl)
        rw [show ((0 : Nat) : Int) = 0 from rfl] at e0
        rw [hx.path] at hpl
        rw [show ((i + 1 : Nat) : Int) = (i : Int) + 1 by push_cast; rfl] at lp
        rw [p_pleachlaw19_TieRoot_2]
        simp [x1, x2, x3, x4, x5, hpl, e0, fr, d1, w1, w2, p_pleachlaw19_TieRoot_3, wi]
        rw [L_pleachlaw19_TieRoot_4_fold, lp]
      rw [L_pleachlaw19_TieRoot_4_eq, p_pleachlaw19_TieRoot_4]
      by_cases c : v = 0
      · subst c
        obtain ⟨pv', kv', Q2, e, hp', hk', ab⟩ := c_Tick (Q := Q1) hp hk hb (by omega)
        have hb' := hb.tick
        have hlen := tick_len hb
        obtain ⟨hJ, hm⟩ := tick_root hn.1 hI
        generalize tick t = T at *
        obtain ⟨x, ms⟩ := T
        simp only at *
        have hxn := hb'.now
        have wn := w64 (i := n + 1) (by omega) (by omega)
        have lp := loop_msgs (Q := Q2) (t := t) (x := x) (pv := pv) (kv := kv) (pv' := pv') (kv' := kv') p (n + 1) i (ms := ms) (by omega) (by omega) hm ms.length 0 (by omega)
        obtain ⟨Q', tl⟩ := tail x pv' kv' (n + 1) Q2 hJ (hb'.weaken (by omega)) (by omega) (hq1.ab ab) hp' hk'
        refine ⟨Q', ?_⟩
        rw [← tl]
        rw [show ((0 : Nat) : Int) = 0 from rfl] at lp
        simp [c1, eo, ev, wn, e, hp'.one, hk'.one]
        rw [L_pleachlaw19_TieRoot_0_fold, lp]
        simp [p_pleachlaw19_TieRoot_1, hp'.one, hk'.one]
      · obtain ⟨w, Q2, ew, hw, hq2⟩ := q_Msg hq1 hL (id := 1) (by decide)
        obtain ⟨pv', kv', Q3, e, hp', hk', ab⟩ := c_Comes (Q := Q2) hp hk hb (by omega) hw.mb (mpv_sl hw) 1
        have hb' := hb.comes hw.mb 1
        have hJ := comes_root hI w (by have := hw.frm; omega) 1
        generalize comes t w 1 = T at *
        obtain ⟨x, ms⟩ := T
        simp only at *
        obtain ⟨Q', tl⟩ := tail x pv' kv' n Q3 hJ (hb'.weaken (by omega)) (by omega) (hq2.ab ab) hp' hk'
        refine ⟨Q', ?_⟩
        rw [← tl]
        rw [Msg_v] at ew
        simp [c1, eo, ev, c, ew, e, hp'.one, hk'.one]
theorem root_true {A : List Int} (rA : ∀ n ∈ A, IntKind.u8.min ≤ n ∧ n ≤ IntKind.u8.max) :
    ∃ Q', callP (penv P1) 9 [.fz 1 (A.map (AV.int .u8))] AHeap.empty = some (.bool true, Q') := by
  have hb0 : ∀ Q, callP (penv P1) 11 [] Q = some (.bool true, Q) := fun Q => by rw [callP_spec (g := gYes) rfl]; rfl
  rw [f_pleachlaw19_TieRoot rfl]
  by_cases hA : 200 < A.length
  · have hA' : (200 : Int) < A.length := by omega
    exact ⟨AHeap.empty, by simp [hb0, hA']⟩
  have hA' : ¬ (200 : Int) < A.length := by omega
  have hL : Ps A := ⟨by omega, fun n hn => rA n hn⟩
  obtain ⟨p, Q1, em, hq⟩ := q_Made A AHeap.empty
  obtain ⟨g, Q2, eg, hg, hq2⟩ := q_Num hq hL (m := 9) (by omega)
  obtain ⟨pv, hp, en⟩ := c_New (Q := Q2) 1 2 0 g
  have hI := Ir.new g
  have hbN : Bd (New 1 2 0 g) 100 := Bd.new (by decide)
  have hk := New_kids 1 2 0 g
  generalize New 1 2 0 g = t at *
  obtain ⟨Q', lp⟩ := loop_Root hL 50 0 t pv .nils 0 Q2 (by omega) hI (hbN.weaken (by omega)) (by omega) hq2 hp (by rw [hk]; exact Sl.nil 3)
  refine ⟨Q', ?_⟩
  rw [show ((0 : Nat) : Int) = 0 from rfl] at lp
  simp [hb0, hA', em, eg, en, hp.one]
  rw [L_pleachlaw19_TieRoot_4_fold, lp]
  simp [p_pleachlaw19_TieRoot_5]
end
end Go.Proofs.Ytdbbdfmkglgjdaa.Pi
/- The law TieRoot. -/
set_option linter.unusedVariables false
set_option linter.unusedSimpArgs false
namespace Go.Proofs.Ytdbbdfmkglgjdaa.Pi
open Go.Ab
set_option maxRecDepth 100000
theorem law_TieRoot {H : AHeap} (v : AV) (A : List Int) (hA : rdI .u8 H v = some A) (hl : A.length ≤ maxLen) (rA : ∀ n ∈ A, IntKind.u8.min ≤ n ∧ n ≤ IntKind.u8.max) (hc : capOk v = true) :
    EndsV (callV (env S1) 9 [v] H) fun v _ => v = .bool true := by
  refine law_ends pe1 (by decide) (root_true (A := A) rA) (RL.cons (RV.ints hA hc) RL.nil')
end Go.Proofs.Ytdbbdfmkglgjdaa.Pi
