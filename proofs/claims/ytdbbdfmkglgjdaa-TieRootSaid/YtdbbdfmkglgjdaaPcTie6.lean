/- What Tick, Comes, Leave come to. -/
import Derived.Test.YtdbbdfmkglgjdaaPcTie5
set_option linter.unusedVariables false
set_option linter.unusedSimpArgs false
namespace Go.Proofs.Ytdbbdfmkglgjdaa.Pi
open Go.Ab Go.Feed Go.Kids Go.Tie
set_option maxRecDepth 100000
theorem Nd.fin {Q r t ms pv kv tv} (h : Nd Q r t ms pv kv tv) : ∃ mv Q', frzH Q 10 tv = some (mv, Q') ∧ Sl 10 (ms.map Msg.v) mv ∧ Ab r Q Q' := by
  rcases h.l with ⟨rfl, rfl⟩ | ⟨q, h1, h2, rfl, h4⟩
  · exact ⟨.nils, Q, rfl, Sl.nil 10, Ab.refl _ _⟩
  · have fl := flat_len ms
    have b1 : Nat.beq (flatE (ms.map Msg.v)).length (ms.length * 10) = true := by rw [fl]; exact Nat.beq_refl _
    have b2 := flat_one ms
    refine ⟨.fz 10 (ms.map Msg.v), Q.put q none, ?_, Sl.fz _ _, ⟨by simp, fun s hs => by rw [AHeap.get_put, if_neg (by omega)]⟩⟩
    simp only [frzH, h4, b1, b2, Bool.and_true, Nat.beq_refl]
    rw [chunk_flat]
def Ans (f : Nat) (args : List AV) (Q : AHeap) (g : Tie × List Msg) : Prop :=
  ∃ pv kv Q', callP (penv P1) f args Q = some (.tup [Tv g.1 pv kv, .fz 10 (g.2.map Msg.v)], Q') ∧ Sl 1 (ints g.1.path) pv ∧ Sl 3 (g.1.kids.map Kid.v) kv ∧ Ab Q.size Q Q'
@[simp] theorem rcv_f_fz (b : Bool) (z : Nat) (l : List AV) : rcv b (.f z) (.fz z l) = some (.fz z l) := by cases b <;> simp [rcv]
theorem rcv_sl {z : Nat} {l : List AV} {v : AV} (h : Sl z l v) : rcv false (.f z) v = some (.fz z l) := by
  rcases h with rfl | ⟨rfl, rfl⟩
  · simp
  · rfl
section
variable {Q : AHeap} {r : Nat} {t : Tie} {ms : List Msg} {pv kv tv : AV}
theorem tick_0 (h : Nd Q r t [] pv kv tv) {k : Nat} (hb : Bd t k) (hk : k ≤ 30000) (s0 s1 s2 s3 s4 s5 s6 s7 s8 s9 s10 s11 s12 : AV) : ∃ pv' kv' Q', evalPK (callP (penv P1)) (loopP (penv P1)) c_tie_Tick_0 [(2, .lp 2 0), (4, .v (.ptr r 0))] [(2, .cells [s0, s1, s2, s3, s4, s5, s6, s7, s8, s9, s10, s11, s12])] Q (retPK [.cell 2 (some 13), .tmp 3] [.n, .f 10]) = some (.tup [Tv (asks t).1 pv' kv', .fz 10 (((asks t).2 ++ beats (asks t).1).map Msg.v)], Q') ∧ Sl 1 (ints (asks t).1.path) pv' ∧ Sl 3 ((asks t).1.kids.map Kid.v) kv' ∧ Ab r Q Q' := by
  obtain ⟨tv1, Q1, e1, h1, a1⟩ := c_asks h hb (by omega) (by simp)
  have hl : ([] ++ (asks t).2).length ≤ 40000 := by
    unfold asks; split
    · simp
    · split <;> simp
  obtain ⟨tv2, Q2, e2, h2, a2⟩ := c_beats h1 hb.asks (by omega) hl
  obtain ⟨mv, Q3, e3, sm, a3⟩ := h2.fin
  refine ⟨pv, kv, Q3, ?_, h2.p, h2.k, (a1.trans a2).trans a3⟩
  rw [List.nil_append] at sm
  rw [p_tie_Tick_0]
  simp [nckQ, nckA, fadQ, fadA, ldQ, ldA, stA, splice, rowP, h2.g, h2.k.one, h2.p.one, h2.l.one, one_ce h2.k.one, one_ce h2.p.one, one_ce h2.l.one, e1, e2, e3, rcv_sl sm]
theorem c_Tick (hp : Sl 1 (ints t.path) pv) (hk : Sl 3 (t.kids.map Kid.v) kv) {k : Nat} (hb : Bd t k) (hk' : k ≤ 20000) : Ans 18 [Tv t pv kv] Q (tick t) := by
  have hn := hb.now
  have he := hb.epoch
  have co := c_of (Q := Q) hp hk hb (by omega)
  have h0 := Nd.of (t := t) (Q := Q) rfl
  obtain ⟨r, hr⟩ : ∃ r, Q.size = r := ⟨_, rfl⟩
  have a0 : Ab r Q (Q.push (some (ND t (.fz 1 (ints t.path)) (kds t.kids) .nils))) := ⟨by simp, fun s hs => by rw [AHeap.get_push, if_neg (by omega)]⟩
  generalize Q.push (some (ND t (.fz 1 (ints t.path)) (kds t.kids) .nils)) = Q0 at *
  unfold Ans
  rw [hr] at co h0 ⊢
  have w1 := w64 (i := t.now + 1) (by omega) (by omega)
  have w2 := w64 (i := t.epoch + 1) (by omega) (by omega)
  have tm : (t.now + 1).tmod 2 = (t.now + 1) % 2 := Int.tmod_eq_emod_of_nonneg (by omega)
  have w3 := w64 (i := (t.now + 1) % 2) (by omega) (by omega)
  have pr := fun Q => c_Prune (Q := Q) (Sl.fz 3 (t.kids.map Kid.v)) (by have := hb.kids; omega) (now := t.now + 1) (by omega) (fun x hx => by have := hb.heard x hx; omega)
  have bl : Bd (later t) (k + 1) := hb.later
  have h1 := h0.put (t' := later t) (pv' := .fz 1 (ints t.path)) (kv' := kds (later t).kids) (Sl.fz _ _) (Sl.fz _ _)
  have fr := c_Fresh (Q := Q0.put r (some (ND (later t) (.fz 1 (ints t.path)) (kds (later t).kids) .nils))) h1.p h1.k bl (by omega)
  have le := c_lets h1 0
  have bt : Bd (turned (later t)) (k + 2) := bl.turned
  simp only [kds, later] at pr le
  rw [f_tie_Tick rfl]
  unfold tick
  rcases em2 (t.id = 1) with c1 | c1
  · rcases em2 ((t.now + 1) % 2 = 0) with c2 | c2
    · have et : turned (later t) = { later t with epoch := t.epoch + 1, born := t.now + 1 } := if_pos ⟨of_eq_true c1, of_eq_true c2⟩
      have h3 := h0.put (t' := turned (later t)) (pv' := .fz 1 (ints t.path)) (kv' := kds (later t).kids) (by rw [et]; exact Sl.fz _ _) (by rw [et]; exact Sl.fz _ _)
      obtain ⟨pv', kv', Q', e, k1, k2, a3⟩ := tick_0 h3 bt (by omega) (.int .i64 0) (.int .i64 0) (.int .i64 0) (.int .i64 0) (.int .i64 0) (.int .i64 0) .nils (.int .i64 0) (.int .i64 0) (.int .i64 0) (.int .i64 0) (.int .i64 0) .nils
      refine ⟨pv', kv', Q', ?_, k1, k2, a0.trans (Ab.put.trans a3)⟩
      rw [← e, et]
      simp [nckQ, nckA, fadQ, fadA, ldQ, ldA, stA, splice, rowP, h0.g, h0.k.one, h0.p.one, h0.l.one, one_ce h0.k.one, one_ce h0.p.one, one_ce h0.l.one, hp.one, hk.one, co, w1, w2, w3, tm, pr, c1, c2, later]
    · have et : turned (later t) = later t := by
        unfold turned
        rw [if_neg (fun c => of_eq_false c2 c.2), if_neg (fun c => c.1 (of_eq_true c1))]
      have h3 := h0.put (t' := turned (later t)) (pv' := .fz 1 (ints t.path)) (kv' := kds (later t).kids) (by rw [et]; exact Sl.fz _ _) (by rw [et]; exact Sl.fz _ _)
      obtain ⟨pv', kv', Q', e, k1, k2, a3⟩ := tick_0 h3 bt (by omega) (.int .i64 0) (.int .i64 0) (.int .i64 0) (.int .i64 0) (.int .i64 0) (.int .i64 0) .nils (.int .i64 0) (.int .i64 0) (.int .i64 0) (.int .i64 0) (.int .i64 0) .nils
      refine ⟨pv', kv', Q', ?_, k1, k2, a0.trans (Ab.put.trans a3)⟩
      rw [← e, et]
      simp [nckQ, nckA, fadQ, fadA, ldQ, ldA, stA, splice, rowP, h0.g, h0.k.one, h0.p.one, h0.l.one, one_ce h0.k.one, one_ce h0.p.one, one_ce h0.l.one, hp.one, hk.one, co, w1, w2, w3, tm, pr, c1, c2, later]
  · by_cases c3 : t.parent ≠ 0 ∧ ¬ Lately (later t)
    · have et : turned (later t) = lets (later t) 0 := by
        unfold turned
        rw [if_neg (fun c => of_eq_false c1 c.1), if_pos ⟨of_eq_false c1, c3⟩]
      have h3 := h0.put (t' := turned (later t)) (pv' := .nils) (kv' := kds (later t).kids) (by rw [et]; exact Sl.nil 1) (by rw [et]; exact Sl.fz _ _)
      obtain ⟨pv', kv', Q', e, k1, k2, a3⟩ := tick_0 h3 bt (by omega) (.int .i64 0) (.int .i64 0) (.int .i64 0) (.int .i64 0) (.int .i64 0) (.int .i64 0) .nils (.int .i64 0) (.int .i64 0) (.int .i64 0) (.int .i64 0) (.int .i64 0) .nils
      refine ⟨pv', kv', Q', ?_, k1, k2, a0.trans (Ab.put.trans a3)⟩
      have c2 := eq_false c3.1
      have cl := c3.2
      rw [← e, et]
      rw [decide_eq_false cl] at fr
      simp only [kds, later] at fr
      simp [nckQ, nckA, fadQ, fadA, ldQ, ldA, stA, splice, rowP, h0.g, h0.k.one, h0.p.one, h0.l.one, one_ce h0.k.one, one_ce h0.p.one, one_ce h0.l.one, hp.one, hk.one, co, w1, w2, w3, tm, pr, c1, c2, fr, le, later, lets]
    · have et : turned (later t) = later t := by
        unfold turned
        rw [if_neg (fun c => of_eq_false c1 c.1), if_neg (fun c => c3 c.2)]
      have h3 := h0.put (t' := turned (later t)) (pv' := .fz 1 (ints t.path)) (kv' := kds (later t).kids) (by rw [et]; exact Sl.fz _ _) (by rw [et]; exact Sl.fz _ _)
      obtain ⟨pv', kv', Q', e, k1, k2, a3⟩ := tick_0 h3 bt (by omega) (.int .i64 0) (.int .i64 0) (.int .i64 0) (.int .i64 0) (.int .i64 0) (.int .i64 0) .nils (.int .i64 0) (.int .i64 0) (.int .i64 0) (.int .i64 0) (.int .i64 0) .nils
      refine ⟨pv', kv', Q', ?_, k1, k2, a0.trans (Ab.put.trans a3)⟩
      rw [← e, et]
      rcases em2 (t.parent = 0) with c2 | c2
      · simp [nckQ, nckA, fadQ, fadA, ldQ, ldA, stA, splice, rowP, h0.g, h0.k.one, h0.p.one, h0.l.one, one_ce h0.k.one, one_ce h0.p.one, one_ce h0.l.one, hp.one, hk.one, co, w1, w2, w3, tm, pr, c1, c2, later]
      · have cl : Lately (later t) := Decidable.byContradiction fun cl => c3 ⟨of_eq_false c2, cl⟩
        rw [decide_eq_true cl] at fr
        simp only [kds, later] at fr
        simp [nckQ, nckA, fadQ, fadA, ldQ, ldA, stA, splice, rowP, h0.g, h0.k.one, h0.p.one, h0.l.one, one_ce h0.k.one, one_ce h0.p.one, one_ce h0.l.one, hp.one, hk.one, co, w1, w2, w3, tm, pr, c1, c2, fr, later]
end
end Go.Proofs.Ytdbbdfmkglgjdaa.Pi
