/- What a node's functions come to, on. -/
import Derived.Test.YtdbbdfmkglgjdaaPcTie2
import Derived.Test.YtdbbdfmkglgjdaaPcKidsD
set_option linter.unusedVariables false
set_option linter.unusedSimpArgs false
namespace Go.Proofs.Ytdbbdfmkglgjdaa.Pi
open Go.Ab Go.Feed Go.Kids Go.Tie
set_option maxRecDepth 100000
section
variable {Q : z3} {r : Nat} {t : Tie} {ms : List Msg} {pv kv tv : AV}
theorem z10 {k : Nat} (hb : Bd t k) (hk : k ≤ 40000) : ∀ (m i : Nat) (ms : List Msg) (tv : AV) (Q : z3), i + m = t.kids.length → Nd Q r t ms pv kv tv → ms.length + m ≤ 90000 →
  ∃ tv' Q', va P1 (.ptr r 0) kv (.int .i64 t.kids.length) (.int .i64 i) Q = Qv Q' ∧ Nd Q' r t (ms ++ if x7 t then (t.kids.drop i).map fun x => full t 5 x.id 0 else []) pv kv tv' ∧ Ab r Q Q' := by
 intro m
 induction m with
 | zero =>
  intro i ms tv Q hi h hm
  obtain rfl : i = t.kids.length := by omega
  refine ⟨tv, Q, ?_, by simpa using h, Ab.refl _ _⟩
  rw [wd, ZT]
  simp
 | succ m ih =>
  intro i ms tv Q hi h hm
  have hkl := hb.kids
  have c1 : ((i : Int) < t.kids.length) = True := eq_true (by omega)
  have e := h.k.get (k := .i64) (kAt (l := t.kids) (i := i) (by omega))
  have w := w64 (i := (i : Int) + 1) (by omega) (by omega)
  have fr := fun Q => z36 (Q := Q) h.p h.k hb (by omega)
  rw [z4f (show i < t.kids.length by omega)]
  generalize t.kids.getD i default = x at *
  rw [YM] at e
  rw [wd, ZT]
  by_cases c : x7 t
  ·obtain ⟨tv1, Q1, e1, h1, a1⟩ := z35 h hb (by omega) (by omega) 5 x.id 0
   obtain ⟨tv', Q', lp, h2, a2⟩ := ih (i + 1) _ tv1 Q1 (by omega) h1 (by simp; omega)
   rw [show ((i + 1 : Nat) : Int) = (i : Int) + 1 by push_cast; rfl] at lp
   rw [decide_eq_true c] at fr
   rw [if_pos c] at h2 ⊢
   refine ⟨tv', Q', ?_, by simpa [z04, List.append_assoc] using h2, a1.trans a2⟩
   simp [zN, vi, zm, kO, ldQ, ldA, stA, splice, jU, h.g, h.k.one, h.p.one, h.l.one, zo h.k.one, zo h.p.one, zo h.l.one, c1, e, fr, e1, w, ZS]
   rw [xo, lp]
  ·obtain ⟨tv', Q', lp, h2, a2⟩ := ih (i + 1) _ tv Q (by omega) h (by omega)
   rw [show ((i + 1 : Nat) : Int) = (i : Int) + 1 by push_cast; rfl] at lp
   rw [decide_eq_false c] at fr
   rw [if_neg c] at h2 ⊢
   refine ⟨tv', Q', ?_, h2, a2⟩
   simp [zN, vi, zm, kO, ldQ, ldA, stA, splice, jU, h.g, h.k.one, h.p.one, h.l.one, zo h.k.one, zo h.p.one, zo h.l.one, c1, e, fr, w, ZS]
   rw [xo, lp]
theorem zah (h : Nd Q r t ms pv kv tv) {k : Nat} (hb : Bd t k) (hk : k ≤ 40000) (hm : ms.length ≤ 40000) : ∃ tv' Q', zf (za P1) 42 [.ptr r 0] Q = some (.tup [], Q') ∧ Nd Q' r t (ms ++ JY t) pv kv tv' ∧ Ab r Q Q' := by
 have hn := hb.now
 have tm : t.now.tmod 2 = t.now % 2 := Int.tmod_eq_emod_of_nonneg hn.1
 have w1 := w64 (i := t.now % 2) (by omega) (by omega)
 have hkl := hb.kids
 unfold JY
 rw [Wx rfl]
 by_cases c1 : t.now % 2 = 0
 ·rw [if_neg (fun c => c c1)]
  by_cases c2 : t.parent = 0
  ·obtain ⟨tv', Q', lp, h2, a2⟩ := z10 hb hk t.kids.length 0 ms tv Q (by omega) h (by omega)
   rw [show ((0 : Nat) : Int) = 0 from rfl] at lp
   refine ⟨tv', Q', ?_, by simpa [c2] using h2, a2⟩
   simp [zN, vi, zm, kO, ldQ, ldA, stA, splice, jU, h.g, h.k.one, h.p.one, h.l.one, zo h.k.one, zo h.p.one, zo h.l.one, h.k.len, c1, c2, tm, w1, ZU]
   rw [xo, lp]
   simp
  ·obtain ⟨tv1, Q1, e1, h1, a1⟩ := z35 h hb (by omega) (by omega) 4 t.parent 0
   obtain ⟨tv', Q', lp, h2, a2⟩ := z10 hb hk t.kids.length 0 _ tv1 Q1 (by omega) h1 (by simp; omega)
   rw [show ((0 : Nat) : Int) = 0 from rfl] at lp
   refine ⟨tv', Q', ?_, by simpa [c2, z04, List.append_assoc] using h2, a1.trans a2⟩
   simp [zN, vi, zm, kO, ldQ, ldA, stA, splice, jU, h.g, h.k.one, h.p.one, h.l.one, zo h.k.one, zo h.p.one, zo h.l.one, h1.g, h1.k.one, h1.p.one, h1.l.one, zo h1.k.one, zo h1.p.one, zo h1.l.one, h.k.len, c1, c2, tm, w1, e1, ZU]
   rw [xo, lp]
   simp
 ·rw [if_pos c1]
  exact ⟨tv, Q, by simp [zN, vi, zm, kO, ldQ, ldA, stA, splice, jU, h.g, h.k.one, h.p.one, h.l.one, zo h.k.one, zo h.p.one, zo h.l.one, c1, tm, w1], by simpa using h, Ab.refl _ _⟩
abbrev Mv (m : Msg) (v : AV) : AV := .agg [.int .i64 m.kind, .int .i64 m.frm, .int .i64 m.to, .int .i64 m.inc, .int .i64 m.epoch, .int .i64 m.age, v, .int .i64 m.lo, .int .i64 m.hi, .str m.text]
end
end Go.Proofs.Ytdbbdfmkglgjdaa.Pi
/- What a node's functions come to, on. -/
namespace Go.Proofs.Ytdbbdfmkglgjdaa.Pi
open Go.Ab Go.Feed Go.Kids Go.Tie
set_option maxRecDepth 100000
theorem em2 (p : Prop) : p = True ∨ p = False := (Classical.em p).imp eq_true eq_false
@[simp] theorem zbg {β : Type} (call : z6) (lp : ze) (τ : PT) (ω : PW) (Q : z3) (k : PK β) : z5 call lp .ret τ ω Q k = k .ret τ ω Q := (Eq.refl _).trans (Eq.refl _)
def Run (f : Nat) (args : List AV) (Q : z3) (r : Nat) (ms : List Msg) (g : Tie × List Msg) : Prop :=
 ∃ pv kv tv Q', zf (za P1) f args Q = some (.tup [], Q') ∧ Nd Q' r g.1 (ms ++ g.2) pv kv tv ∧ Ab r Q Q'
theorem Nd.nil {Q r t ms pv kv tv} (h : Nd Q r t ms pv kv tv) : Nd Q r t (ms ++ []) pv kv tv := by rw [List.append_nil]; exact h
section
variable {Q : z3} {r : Nat} {t : Tie} {ms : List Msg} {pv kv tv : AV}
end
end Go.Proofs.Ytdbbdfmkglgjdaa.Pi
/- What a node's functions come to, on. -/
namespace Go.Proofs.Ytdbbdfmkglgjdaa.Pi
open Go.Ab Go.Feed Go.Kids Go.Tie
set_option maxRecDepth 100000
section
variable {Q : z3} {r : Nat} {t : Tie} {ms : List Msg} {pv kv tv : AV}
end
end Go.Proofs.Ytdbbdfmkglgjdaa.Pi
/- What Tick, z3U, Leave come to. -/
namespace Go.Proofs.Ytdbbdfmkglgjdaa.Pi
open Go.Ab Go.Feed Go.Kids Go.Tie
set_option maxRecDepth 100000
theorem Nd.fin {Q r t ms pv kv tv} (h : Nd Q r t ms pv kv tv) : ∃ mv Q', z66 Q 10 tv = some (mv, Q') ∧ Sl 10 (ms.map Msg.v) mv ∧ Ab r Q Q' := by
 rcases h.l with ⟨rfl, rfl⟩ | ⟨q, h1, h2, rfl, h4⟩
 ·exact ⟨.nils, Q, rfl, Sl.nil 10, Ab.refl _ _⟩
 ·have fl := z0Y ms
  have b1 : Nat.beq (kh (ms.map Msg.v)).length (ms.length * 10) = true := by rw [fl]; exact Nat.beq_refl _
  have b2 := z8T ms
  refine ⟨.fz 10 (ms.map Msg.v), Q.put q none, ?_, Sl.fz _ _, ⟨by simp, fun s hs => by rw [z3.get_put, if_neg (by omega)]⟩⟩
  simp only [z66, h4, b1, b2, Bool.and_true, Nat.beq_refl]
  rw [z5Q]
def Ans (f : Nat) (args : List AV) (Q : z3) (g : Tie × List Msg) : Prop :=
 ∃ pv kv Q', zf (za P1) f args Q = some (.tup [Tv g.1 pv kv, .fz 10 (g.2.map Msg.v)], Q') ∧ Sl 1 (ints g.1.path) pv ∧ Sl 3 (g.1.kids.map Kid.v) kv ∧ Ab Q.size Q Q'
@[simp] theorem zdb (b : Bool) (z : Nat) (l : List AV) : rcv b (.f z) (.fz z l) = some (.fz z l) := by cases b <;> simp [rcv]
theorem zbh {z : Nat} {l : List AV} {v : AV} (h : Sl z l v) : rcv false (.f z) v = some (.fz z l) := by
 rcases h with rfl | ⟨rfl, rfl⟩
 ·simp
 ·rfl
abbrev Mz (ms : List Msg) : AV := .fz 10 (ms.map Msg.v)
section
variable {Q : z3} {r : Nat} {t : Tie} {ms : List Msg} {pv kv tv : AV}
theorem z38 (h : Nd Q r t [] pv kv tv) {k : Nat} (hb : Bd t k) (hk : k ≤ 30000) (s0 s1 s2 s3 s4 s5 s6 s7 s8 s9 s10 s11 s12 : AV) : ∃ pv' kv' Q', z5 (zf (za P1)) (zh (za P1)) Zk [(2, .lp 2 0), (4, .v (.ptr r 0))] [(2, .cells [s0, s1, s2, s3, s4, s5, s6, s7, s8, s9, s10, s11, s12])] Q (zA [.cell 2 (some 13), .tmp 3] [.n, .f 10]) = some (.tup [Tv (asks t).1 pv' kv', .fz 10 (((asks t).2 ++ JY (asks t).1).map Msg.v)], Q') ∧ Sl 1 (ints (asks t).1.path) pv' ∧ Sl 3 ((asks t).1.kids.map Kid.v) kv' ∧ Ab r Q Q' := by
 obtain ⟨tv1, Q1, e1, h1, a1⟩ := zbf h hb (by omega) (by simp)
 have hl : ([] ++ (asks t).2).length ≤ 40000 := by
  unfold asks; split
  ·simp
  ·split <;> simp
 obtain ⟨tv2, Q2, e2, h2, a2⟩ := zah h1 hb.asks (by omega) hl
 obtain ⟨mv, Q3, e3, sm, a3⟩ := h2.fin
 refine ⟨pv, kv, Q3, ?_, h2.p, h2.k, (a1.trans a2).trans a3⟩
 rw [List.nil_append] at sm
 rw [z3p]
 simp [zN, vi, zm, kO, ldQ, ldA, stA, splice, jU, h2.g, h2.k.one, h2.p.one, h2.l.one, zo h2.k.one, zo h2.p.one, zo h2.l.one, e1, e2, e3, zbh sm]
theorem zbi (hp : Sl 1 (ints t.path) pv) (hk : Sl 3 (t.kids.map Kid.v) kv) {k : Nat} (hb : Bd t k) (hk' : k ≤ 20000) : Ans 18 [Tv t pv kv] Q (tick t) := by
 have hn := hb.now
 have he := hb.epoch
 have co := zfU (Q := Q) hp hk hb (by omega)
 have h0 := Nd.of (t := t) (Q := Q) rfl
 obtain ⟨r, hr⟩ : ∃ r, Q.size = r := ⟨_, rfl⟩
 have a0 : Ab r Q (Q.push (some (ND t (.fz 1 (ints t.path)) (kds t.kids) .nils))) := ⟨by simp, fun s hs => by rw [z3.get_push, if_neg (by omega)]⟩
 generalize Q.push (some (ND t (.fz 1 (ints t.path)) (kds t.kids) .nils)) = Q0 at *
 unfold Ans
 rw [hr] at co h0 ⊢
 have w1 := w64 (i := t.now + 1) (by omega) (by omega)
 have w2 := w64 (i := t.epoch + 1) (by omega) (by omega)
 have tm : (t.now + 1).tmod 2 = (t.now + 1) % 2 := Int.tmod_eq_emod_of_nonneg (by omega)
 have w3 := w64 (i := (t.now + 1) % 2) (by omega) (by omega)
 have pr := fun Q => zae (Q := Q) (Sl.fz 3 (t.kids.map Kid.v)) (by have := hb.kids; omega) (now := t.now + 1) (by omega) (fun x hx => by have := hb.heard x hx; omega)
 have bl : Bd (later t) (k + 1) := hb.later
 have h1 := h0.put (t' := later t) (pv' := .fz 1 (ints t.path)) (kv' := kds (later t).kids) (Sl.fz _ _) (Sl.fz _ _)
 have fr := z36 (Q := Q0.put r (some (ND (later t) (.fz 1 (ints t.path)) (kds (later t).kids) .nils))) h1.p h1.k bl (by omega)
 have le := zbe h1 0
 have bt : Bd (turned (later t)) (k + 2) := bl.turned
 simp only [kds, later] at pr le
 rw [z5Z rfl]
 unfold tick
 rcases em2 (t.id = 1) with c1 | c1
 ·rcases em2 ((t.now + 1) % 2 = 0) with c2 | c2
  ·have et : turned (later t) = { later t with epoch := t.epoch + 1, born := t.now + 1 } := if_pos ⟨of_eq_true c1, of_eq_true c2⟩
   have h3 := h0.put (t' := turned (later t)) (pv' := .fz 1 (ints t.path)) (kv' := kds (later t).kids) (by rw [et]; exact Sl.fz _ _) (by rw [et]; exact Sl.fz _ _)
   obtain ⟨pv', kv', Q', e, k1, k2, a3⟩ := z38 h3 bt (by omega) (.int .i64 0) (.int .i64 0) (.int .i64 0) (.int .i64 0) (.int .i64 0) (.int .i64 0) .nils (.int .i64 0) (.int .i64 0) (.int .i64 0) (.int .i64 0) (.int .i64 0) .nils
   refine ⟨pv', kv', Q', ?_, k1, k2, a0.trans (Ab.put.trans a3)⟩
   rw [← e, et]
   simp [zN, vi, zm, kO, ldQ, ldA, stA, splice, jU, h0.g, h0.k.one, h0.p.one, h0.l.one, zo h0.k.one, zo h0.p.one, zo h0.l.one, hp.one, hk.one, co, w1, w2, w3, tm, pr, c1, c2, later]
  ·have et : turned (later t) = later t := by
    unfold turned
    rw [if_neg (fun c => of_eq_false c2 c.2), if_neg (fun c => c.1 (of_eq_true c1))]
   have h3 := h0.put (t' := turned (later t)) (pv' := .fz 1 (ints t.path)) (kv' := kds (later t).kids) (by rw [et]; exact Sl.fz _ _) (by rw [et]; exact Sl.fz _ _)
   obtain ⟨pv', kv', Q', e, k1, k2, a3⟩ := z38 h3 bt (by omega) (.int .i64 0) (.int .i64 0) (.int .i64 0) (.int .i64 0) (.int .i64 0) (.int .i64 0) .nils (.int .i64 0) (.int .i64 0) (.int .i64 0) (.int .i64 0) (.int .i64 0) .nils
   refine ⟨pv', kv', Q', ?_, k1, k2, a0.trans (Ab.put.trans a3)⟩
   rw [← e, et]
   simp [zN, vi, zm, kO, ldQ, ldA, stA, splice, jU, h0.g, h0.k.one, h0.p.one, h0.l.one, zo h0.k.one, zo h0.p.one, zo h0.l.one, hp.one, hk.one, co, w1, w2, w3, tm, pr, c1, c2, later]
 ·by_cases c3 : t.parent ≠ 0 ∧ ¬ x7 (later t)
  ·have et : turned (later t) = lets (later t) 0 := by
    unfold turned
    rw [if_neg (fun c => of_eq_false c1 c.1), if_pos ⟨of_eq_false c1, c3⟩]
   have h3 := h0.put (t' := turned (later t)) (pv' := .nils) (kv' := kds (later t).kids) (by rw [et]; exact Sl.nil 1) (by rw [et]; exact Sl.fz _ _)
   obtain ⟨pv', kv', Q', e, k1, k2, a3⟩ := z38 h3 bt (by omega) (.int .i64 0) (.int .i64 0) (.int .i64 0) (.int .i64 0) (.int .i64 0) (.int .i64 0) .nils (.int .i64 0) (.int .i64 0) (.int .i64 0) (.int .i64 0) (.int .i64 0) .nils
   refine ⟨pv', kv', Q', ?_, k1, k2, a0.trans (Ab.put.trans a3)⟩
   have c2 := eq_false c3.1
   have cl := c3.2
   rw [← e, et]
   rw [decide_eq_false cl] at fr
   simp only [kds, later] at fr
   simp [zN, vi, zm, kO, ldQ, ldA, stA, splice, jU, h0.g, h0.k.one, h0.p.one, h0.l.one, zo h0.k.one, zo h0.p.one, zo h0.l.one, hp.one, hk.one, co, w1, w2, w3, tm, pr, c1, c2, fr, le, later, lets]
  ·have et : turned (later t) = later t := by
    unfold turned
    rw [if_neg (fun c => of_eq_false c1 c.1), if_neg (fun c => c3 c.2)]
   have h3 := h0.put (t' := turned (later t)) (pv' := .fz 1 (ints t.path)) (kv' := kds (later t).kids) (by rw [et]; exact Sl.fz _ _) (by rw [et]; exact Sl.fz _ _)
   obtain ⟨pv', kv', Q', e, k1, k2, a3⟩ := z38 h3 bt (by omega) (.int .i64 0) (.int .i64 0) (.int .i64 0) (.int .i64 0) (.int .i64 0) (.int .i64 0) .nils (.int .i64 0) (.int .i64 0) (.int .i64 0) (.int .i64 0) (.int .i64 0) .nils
   refine ⟨pv', kv', Q', ?_, k1, k2, a0.trans (Ab.put.trans a3)⟩
   rw [← e, et]
   rcases em2 (t.parent = 0) with c2 | c2
   ·simp [zN, vi, zm, kO, ldQ, ldA, stA, splice, jU, h0.g, h0.k.one, h0.p.one, h0.l.one, zo h0.k.one, zo h0.p.one, zo h0.l.one, hp.one, hk.one, co, w1, w2, w3, tm, pr, c1, c2, later]
   ·have cl : x7 (later t) := Decidable.byContradiction fun cl => c3 ⟨of_eq_false c2, cl⟩
    rw [decide_eq_true cl] at fr
    simp only [kds, later] at fr
    simp [zN, vi, zm, kO, ldQ, ldA, stA, splice, jU, h0.g, h0.k.one, h0.p.one, h0.l.one, zo h0.k.one, zo h0.p.one, zo h0.l.one, hp.one, hk.one, co, w1, w2, w3, tm, pr, c1, c2, fr, later]
end
end Go.Proofs.Ytdbbdfmkglgjdaa.Pi
/- What z3U, Leave come to. -/
namespace Go.Proofs.Ytdbbdfmkglgjdaa.Pi
open Go.Ab Go.Feed Go.Kids Go.Tie
set_option maxRecDepth 100000
section
variable {Q : z3} {r : Nat} {t : Tie} {ms : List Msg} {pv kv tv : AV}
end
end Go.Proofs.Ytdbbdfmkglgjdaa.Pi
/- What Leave, New come to. -/
namespace Go.Proofs.Ytdbbdfmkglgjdaa.Pi
open Go.Ab Go.Feed Go.Kids Go.Tie
set_option maxRecDepth 100000
section
variable {Q : z3} {r : Nat} {t : Tie} {ms : List Msg} {pv kv tv : AV}
theorem zdc (id inc now g : Int) : ∃ pv, Sl 1 (ints (New id inc now g).path) pv ∧ zf (za P1) 15 [.int .i64 id, .int .i64 inc, .int .i64 now, .int .i64 g] Q = some (Tv (New id inc now g) pv .nils, Q) := by
 unfold New
 rw [VC rfl]
 by_cases c : id = 1
 ·rw [if_pos c]
  exact ⟨.fz 1 (ints [1]), Sl.fz _ _, by simp [c, Ze]⟩
 ·rw [if_neg c]
  exact ⟨.nils, Sl.nil 1, by simp [c, Ze]⟩
theorem z8V (id inc now g : Int) : (New id inc now g).kids = [] := by unfold New; split <;> rfl
end
end Go.Proofs.Ytdbbdfmkglgjdaa.Pi
