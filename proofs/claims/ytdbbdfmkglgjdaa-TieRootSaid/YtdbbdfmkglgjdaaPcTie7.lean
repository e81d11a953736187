/- What Comes, Leave come to. -/
import Derived.Test.YtdbbdfmkglgjdaaPcTie6
set_option linter.unusedVariables false
set_option linter.unusedSimpArgs false
namespace Go.Proofs.Ytdbbdfmkglgjdaa.Pi
open Go.Ab Go.Feed Go.Kids Go.Tie
set_option maxRecDepth 100000
section
variable {Q : AHeap} {r : Nat} {t : Tie} {ms : List Msg} {pv kv tv : AV}
theorem comes_0 (h : Nd Q r t ms pv kv tv) (s0 s1 s2 s3 s4 s5 s6 s7 s8 s9 s10 s11 s12 : AV) : ∃ Q', evalPK (callP (penv P1)) (loopP (penv P1)) c_tie_Comes_0 [(6, .lp 6 0), (8, .v (.ptr r 0))] [(6, .cells [s0, s1, s2, s3, s4, s5, s6, s7, s8, s9, s10, s11, s12])] Q (retPK [.cell 6 (some 13), .tmp 7] [.n, .f 10]) = some (.tup [Tv t pv kv, .fz 10 (ms.map Msg.v)], Q') ∧ Ab r Q Q' := by
  obtain ⟨mv, Q3, e3, sm, a3⟩ := h.fin
  refine ⟨Q3, ?_, a3⟩
  rw [p_tie_Comes_0]
  simp [nckQ, nckA, fadQ, fadA, ldQ, ldA, stA, splice, rowP, h.g, h.k.one, h.p.one, h.l.one, one_ce h.k.one, one_ce h.p.one, one_ce h.l.one, e3, rcv_sl sm]
def Com (Q : AHeap) (r : Nat) (m : Msg) (v : AV) (lo : Int) (g : Tie × List Msg) : Prop :=
  ∃ pv kv Q', evalPK (callP (penv P1)) (loopP (penv P1)) c_tie_Comes_1 [(2, .v (.int .i64 lo)), (4, .lp 4 0), (6, .lp 6 0), (8, .v (.ptr r 0))] [(4, .cells [.int .i64 m.kind, .int .i64 m.frm, .int .i64 m.to, .int .i64 m.inc, .int .i64 m.epoch, .int .i64 m.age, v, .int .i64 m.lo, .int .i64 m.hi, .str m.text]), (6, .cells [.int .i64 0, .int .i64 0, .int .i64 0, .int .i64 0, .int .i64 0, .int .i64 0, .nils, .int .i64 0, .int .i64 0, .int .i64 0, .int .i64 0, .int .i64 0, .nils])] Q (retPK [.cell 6 (some 13), .tmp 7] [.n, .f 10]) =
    some (.tup [Tv g.1 pv kv, .fz 10 (g.2.map Msg.v)], Q') ∧ Sl 1 (ints g.1.path) pv ∧ Sl 3 (g.1.kids.map Kid.v) kv ∧ Ab r Q Q'
theorem comes_1 (h : Nd Q r t [] pv kv tv) {k : Nat} (hb : Bd t k) (hk : k ≤ 30000) {m : Msg} (hmb : Mb m) {v : AV} (hv : Sl 1 (ints m.path) v) (lo : Int) : Com Q r m v lo (comesK t m lo) := by
  unfold comesK Com
  rw [p_tie_Comes_1]
  rcases em2 (m.kind = 1) with c1 | c1
  · rw [if_pos (of_eq_true c1)]
    obtain ⟨pv', kv', tv', Q1, e, h1, a1⟩ := c_attach h hb (by omega) (by simp) m hv lo
    obtain ⟨Q', e2, a2⟩ := comes_0 h1 (.int .i64 0) (.int .i64 0) (.int .i64 0) (.int .i64 0) (.int .i64 0) (.int .i64 0) .nils (.int .i64 0) (.int .i64 0) (.int .i64 0) (.int .i64 0) (.int .i64 0) .nils
    refine ⟨pv', kv', Q', ?_, h1.p, h1.k, a1.trans a2⟩
    rw [List.nil_append] at e2
    rw [← e2]
    simp [c1, e]
  rw [if_neg (of_eq_false c1)]
  rcases em2 (m.kind = 2) with c2 | c2
  · rw [if_pos (of_eq_true c2)]
    obtain ⟨pv', kv', tv', Q1, e, h1, a1⟩ := c_accept h hb (by omega) (by simp) hmb hv
    obtain ⟨Q', e2, a2⟩ := comes_0 h1 (.int .i64 0) (.int .i64 0) (.int .i64 0) (.int .i64 0) (.int .i64 0) (.int .i64 0) .nils (.int .i64 0) (.int .i64 0) (.int .i64 0) (.int .i64 0) (.int .i64 0) .nils
    refine ⟨pv', kv', Q', ?_, h1.p, h1.k, a1.trans a2⟩
    rw [List.nil_append] at e2
    rw [← e2]
    simp [c1, c2, e]
  rw [if_neg (of_eq_false c2)]
  rcases em2 (m.kind = 3) with c3 | c3
  · rw [if_pos (of_eq_true c3)]
    obtain ⟨pv', kv', tv', Q1, e, h1, a1⟩ := c_refuse h hb (by omega) m hv
    obtain ⟨Q', e2, a2⟩ := comes_0 h1 (.int .i64 0) (.int .i64 0) (.int .i64 0) (.int .i64 0) (.int .i64 0) (.int .i64 0) .nils (.int .i64 0) (.int .i64 0) (.int .i64 0) (.int .i64 0) (.int .i64 0) .nils
    refine ⟨pv', kv', Q', ?_, h1.p, h1.k, a1.trans a2⟩
    rw [List.nil_append] at e2
    rw [← e2]
    simp [c1, c2, c3, e]
  rw [if_neg (of_eq_false c3)]
  rcases em2 (m.kind = 4) with c4 | c4
  · rw [if_pos (of_eq_true c4)]
    obtain ⟨pv', kv', tv', Q1, e, h1, a1⟩ := c_beatUp h hb (by omega) (by simp) m hv
    obtain ⟨Q', e2, a2⟩ := comes_0 h1 (.int .i64 0) (.int .i64 0) (.int .i64 0) (.int .i64 0) (.int .i64 0) (.int .i64 0) .nils (.int .i64 0) (.int .i64 0) (.int .i64 0) (.int .i64 0) (.int .i64 0) .nils
    refine ⟨pv', kv', Q', ?_, h1.p, h1.k, a1.trans a2⟩
    rw [List.nil_append] at e2
    rw [← e2]
    simp [c1, c2, c3, c4, e]
  rw [if_neg (of_eq_false c4)]
  rcases em2 (m.kind = 5) with c5 | c5
  · rw [if_pos (of_eq_true c5)]
    obtain ⟨pv', kv', tv', Q1, e, h1, a1⟩ := c_beatDn h hb (by omega) (by simp) hmb hv
    obtain ⟨Q', e2, a2⟩ := comes_0 h1 (.int .i64 0) (.int .i64 0) (.int .i64 0) (.int .i64 0) (.int .i64 0) (.int .i64 0) .nils (.int .i64 0) (.int .i64 0) (.int .i64 0) (.int .i64 0) (.int .i64 0) .nils
    refine ⟨pv', kv', Q', ?_, h1.p, h1.k, a1.trans a2⟩
    rw [List.nil_append] at e2
    rw [← e2]
    simp [c1, c2, c3, c4, c5, e]
  rw [if_neg (of_eq_false c5)]
  rcases em2 (m.kind = 6) with c6 | c6
  · rw [if_pos (of_eq_true c6)]
    have dr := fun Q => c_Drop (Q := Q) h.k (by have := hb.kids; omega) m.frm
    have h1 := h.put (t' := detach t m) (pv' := pv) (kv' := kds (detach t m).kids) h.p (Sl.fz _ _)
    obtain ⟨Q', e2, a2⟩ := comes_0 h1 (.int .i64 0) (.int .i64 0) (.int .i64 0) (.int .i64 0) (.int .i64 0) (.int .i64 0) .nils (.int .i64 0) (.int .i64 0) (.int .i64 0) (.int .i64 0) (.int .i64 0) .nils
    refine ⟨pv, kds (detach t m).kids, Q', ?_, h1.p, h1.k, Ab.put.trans a2⟩
    rw [← e2]
    simp only [kds] at dr
    simp [nckQ, nckA, fadQ, fadA, ldQ, ldA, stA, splice, rowP, h.g, h.k.one, h.p.one, h.l.one, one_ce h.k.one, one_ce h.p.one, one_ce h.l.one, c1, c2, c3, c4, c5, c6, dr, detach]
  rw [if_neg (of_eq_false c6)]
  obtain ⟨Q', e2, a2⟩ := comes_0 h (.int .i64 0) (.int .i64 0) (.int .i64 0) (.int .i64 0) (.int .i64 0) (.int .i64 0) .nils (.int .i64 0) (.int .i64 0) (.int .i64 0) (.int .i64 0) (.int .i64 0) .nils
  refine ⟨pv, kv, Q', ?_, h.p, h.k, a2⟩
  rw [← e2]
  simp [c1, c2, c3, c4, c5, c6]
theorem c_Comes (hp : Sl 1 (ints t.path) pv) (hk : Sl 3 (t.kids.map Kid.v) kv) {k : Nat} (hb : Bd t k) (hk' : k ≤ 20000) {m : Msg} (hmb : Mb m) {v : AV} (hv : Sl 1 (ints m.path) v) (lo : Int) : Ans 22 [Tv t pv kv, Mv m v, .int .i64 lo] Q (comes t m lo) := by
  have co := c_of (Q := Q) hp hk hb (by omega)
  have h0 := Nd.of (t := t) (Q := Q) rfl
  obtain ⟨r, hr⟩ : ∃ r, Q.size = r := ⟨_, rfl⟩
  have a0 : Ab r Q (Q.push (some (ND t (.fz 1 (ints t.path)) (kds t.kids) .nils))) := ⟨by simp, fun s hs => by rw [AHeap.get_push, if_neg (by omega)]⟩
  generalize Q.push (some (ND t (.fz 1 (ints t.path)) (kds t.kids) .nils)) = Q0 at *
  rw [hr] at co h0
  have ol : ∀ Q, callP (penv P1) 48 [kds t.kids, .int .i64 m.frm, .int .i64 m.inc] Q = some (.bool (oldK t.kids m.frm m.inc), Q) := fun Q => c_Old (Sl.fz _ _) (by have := hb.kids; omega) hb.ks m.frm m.inc
  simp only [kds] at ol
  have le := c_lets h0 0
  have fin : Com Q0 r m v lo (comesK (gone t m) m lo) → ¬ (t.parent ≠ 0 ∧ m.frm = t.parent ∧ t.pinc < m.inc) → Com Q0 r m v lo (comesK t m lo) := fun h c => by
    have : gone t m = t := if_neg c
    rw [this] at h; exact h
  unfold Ans comes
  rw [f_tie_Comes rfl, hr]
  rcases Bool.eq_false_or_eq_true (oldK t.kids m.frm m.inc) with co1 | co1
  · rw [if_pos (Or.inl co1)]
    rw [co1] at ol
    refine ⟨_, _, _, ?_, Sl.fz _ _, Sl.fz _ _, a0⟩
    simp [nckQ, nckA, fadQ, fadA, ldQ, ldA, stA, splice, rowP, h0.g, h0.k.one, h0.p.one, h0.l.one, one_ce h0.k.one, one_ce h0.p.one, one_ce h0.l.one, hp.one, hk.one, hv.one, co, ol]
  · rw [co1] at ol
    by_cases co2 : m.frm = t.parent ∧ m.inc < t.pinc
    · rw [if_pos (Or.inr co2)]
      have c1 := eq_true co2.1
      have c2 := eq_true co2.2
      refine ⟨_, _, _, ?_, Sl.fz _ _, Sl.fz _ _, a0⟩
      simp [nckQ, nckA, fadQ, fadA, ldQ, ldA, stA, splice, rowP, h0.g, h0.k.one, h0.p.one, h0.l.one, one_ce h0.k.one, one_ce h0.p.one, one_ce h0.l.one, hp.one, hk.one, hv.one, co, ol, c1, c2]
    · rw [if_neg (by rintro (c | c); rw [co1] at c; cases c; exact co2 c)]
      by_cases co3 : t.parent ≠ 0 ∧ m.frm = t.parent ∧ t.pinc < m.inc
      · have eg : gone t m = lets t 0 := if_pos co3
        rw [eg]
        have h1 := h0.put (t' := lets t 0) (pv' := .nils) (kv' := kds t.kids) (Sl.nil 1) (Sl.fz _ _)
        obtain ⟨pv', kv', Q', e, k1, k2, a1⟩ := comes_1 h1 (hb.lets (by omega)) (by omega) hmb hv lo
        refine ⟨pv', kv', Q', ?_, k1, k2, a0.trans (Ab.put.trans a1)⟩
        have c1 := eq_false co3.1
        have c2 := eq_true co3.2.1
        have c3 := eq_true co3.2.2
        have c4 : (m.inc < t.pinc) = False := eq_false (by have := co3.2.2; omega)
        rw [← e]
        simp [nckQ, nckA, fadQ, fadA, ldQ, ldA, stA, splice, rowP, h0.g, h0.k.one, h0.p.one, h0.l.one, one_ce h0.k.one, one_ce h0.p.one, one_ce h0.l.one, hp.one, hk.one, hv.one, co, ol, c1, c2, c3, c4, le]
      · obtain ⟨pv', kv', Q', e, k1, k2, a1⟩ := comes_1 h0 hb (by omega) hmb hv lo
        have eg : gone t m = t := if_neg co3
        rw [eg]
        refine ⟨pv', kv', Q', ?_, k1, k2, a0.trans a1⟩
        rw [← e]
        rcases em2 (m.frm = t.parent) with c2 | c2
        · have c4 : (m.inc < t.pinc) = False := eq_false fun c => co2 ⟨of_eq_true c2, c⟩
          rcases em2 (t.parent = 0) with c1 | c1
          · simp [nckQ, nckA, fadQ, fadA, ldQ, ldA, stA, splice, rowP, h0.g, h0.k.one, h0.p.one, h0.l.one, one_ce h0.k.one, one_ce h0.p.one, one_ce h0.l.one, hp.one, hk.one, hv.one, co, ol, c1, c2, c4]
          · have c3 : (t.pinc < m.inc) = False := eq_false fun c => co3 ⟨of_eq_false c1, of_eq_true c2, c⟩
            simp [nckQ, nckA, fadQ, fadA, ldQ, ldA, stA, splice, rowP, h0.g, h0.k.one, h0.p.one, h0.l.one, one_ce h0.k.one, one_ce h0.p.one, one_ce h0.l.one, hp.one, hk.one, hv.one, co, ol, c1, c2, c3, c4]
        · rcases em2 (t.parent = 0) with c1 | c1
          · simp [nckQ, nckA, fadQ, fadA, ldQ, ldA, stA, splice, rowP, h0.g, h0.k.one, h0.p.one, h0.l.one, one_ce h0.k.one, one_ce h0.p.one, one_ce h0.l.one, hp.one, hk.one, hv.one, co, ol, c1, c2]
          · simp [nckQ, nckA, fadQ, fadA, ldQ, ldA, stA, splice, rowP, h0.g, h0.k.one, h0.p.one, h0.l.one, one_ce h0.k.one, one_ce h0.p.one, one_ce h0.l.one, hp.one, hk.one, hv.one, co, ol, c1, c2]
end
end Go.Proofs.Ytdbbdfmkglgjdaa.Pi
