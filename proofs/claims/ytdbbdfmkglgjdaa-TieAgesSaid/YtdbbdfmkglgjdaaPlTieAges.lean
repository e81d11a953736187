/- How old; who hangs on z19. -/
import Derived.Test.YtdbbdfmkglgjdaaPmTieP
import Derived.Test.YtdbbdfmkglgjdaaPcTieM
import Derived.Test.YtdbbdfmkglgjdaaPmKids
set_option linter.unusedVariables false
namespace Go.Tie
open Go.Feed Go.Kids
theorem z7i {t : Tie} (hi : t.id ≠ 1) (hp : t.parent ≠ 0) : (x7 t → turned t = t) ∧ (¬ x7 t → turned t = lets t 0) := by
 unfold turned
 rw [if_neg (fun c => hi c.1)]
 exact ⟨fun h => if_neg (fun c => c.2.2 h), fun h => if_pos ⟨hi, hp, h⟩⟩
theorem z91 {t : Tie} {m : Msg} (h : m ∈ (asks t).2) : m.kind = 1 := by
 unfold asks at h
 split at h
 ·cases h
 ·split at h
  ·cases h
  ·rw [List.mem_singleton] at h; subst h; rfl
theorem z7j {t : Tie} {m : Msg} (h : m ∈ JY t) : (m.kind = 4 ∧ m.to = t.parent) ∨ (m.kind = 5 ∧ m.age = t.now - t.born) := by
 unfold JY at h
 split at h
 ·cases h
 ·rcases List.mem_append.1 h with h | h
  ·split at h
   ·rw [List.mem_singleton] at h; subst h; exact Or.inl ⟨rfl, rfl⟩
   ·cases h
  ·split at h
   ·obtain ⟨k, _, rfl⟩ := List.mem_map.1 h; exact Or.inr ⟨rfl, rfl⟩
   ·cases h
theorem z7k (t : Tie) : (asks t).1.now = t.now ∧ (asks t).1.born = t.born ∧ (asks t).1.parent = t.parent ∧ (asks t).1.path = t.path := by
 have h : (Go.Tie.tired t).now = t.now ∧ (Go.Tie.tired t).born = t.born ∧ (Go.Tie.tired t).parent = t.parent ∧ (Go.Tie.tired t).path = t.path := by
  unfold Go.Tie.tired; split <;> exact ⟨rfl, rfl, rfl, rfl⟩
 unfold asks
 split
 ·exact ⟨rfl, rfl, rfl, rfl⟩
 ·split <;> exact h
theorem z7l {t : Tie} (hi : t.id ≠ 1) (hp : t.parent ≠ 0) :
  (tick t).1.born = t.born ∧ (tick t).1.now = t.now + 1 ∧
  (∀ m ∈ (tick t).2, (m.kind = 5 → m.age = (tick t).1.now - (tick t).1.born) ∧ (m.kind = 4 → m.to = (tick t).1.parent)) ∧
  ((t.now + 1 - t.born ≤ 20 ∧ (tick t).1.parent ≠ 0) ∨ (20 < t.now + 1 - t.born ∧ (tick t).1.parent = 0)) := by
 obtain ⟨a1, a2, a3, _⟩ := z7k (turned (later t))
 have hm : ∀ m ∈ (tick t).2, (m.kind = 5 → m.age = (tick t).1.now - (tick t).1.born) ∧ (m.kind = 4 → m.to = (tick t).1.parent) := fun m h => by
  rcases List.mem_append.1 h with h | h
  ·have := z91 h
   exact ⟨fun c => by omega, fun c => by omega⟩
  ·rcases z7j h with ⟨h1, h2⟩ | ⟨h1, h2⟩
   ·exact ⟨fun c => by omega, fun _ => h2⟩
   ·exact ⟨fun _ => h2, fun c => by omega⟩
 obtain ⟨t1, t2⟩ := z7i (t := later t) hi hp
 by_cases c : x7 (later t)
 ·have e := t1 c
  rw [e] at a1 a2 a3
  have hc : t.now + 1 - t.born ≤ 20 := (c.resolve_left hi).2
  exact ⟨by show (asks (turned (later t))).1.born = _; rw [e, a2]; rfl, by show (asks (turned (later t))).1.now = _; rw [e, a1]; rfl, hm, Or.inl ⟨hc, by show (asks (turned (later t))).1.parent ≠ 0; rw [e, a3]; exact hp⟩⟩
 ·have e := t2 c
  rw [e] at a1 a2 a3
  have hc : 20 < t.now + 1 - t.born := by
   rcases Int.lt_or_le 20 (t.now + 1 - t.born) with h | h
   ·exact h
   ·exact absurd (Or.inr ⟨hp, h⟩) c
  exact ⟨by show (asks (turned (later t))).1.born = _; rw [e, a2]; rfl, by show (asks (turned (later t))).1.now = _; rw [e, a1]; rfl, hm, Or.inr ⟨hc, by show (asks (turned (later t))).1.parent = 0; rw [e, a3]; rfl⟩⟩
end Go.Tie
/- How old what a node knows is: the walk. -/
set_option linter.unusedSimpArgs false
namespace Go.Proofs.Ytdbbdfmkglgjdaa.Pi
open Go.Ab Go.Feed Go.Kids Go.Tie
set_option maxRecDepth 100000
theorem zdf {a b : Int} (h : 0 ≤ a) : a.tmod b = a % b := Int.tmod_eq_emod_of_nonneg h
theorem zbm {i : Int} (h : 0 ≤ i) (h2 : i ≤ 255) : IntKind.u8.wrap i = i := by
 have : IntKind.u8.wrap i = i % 256 := rfl
 rw [this]; omega
section
theorem z7m {Q : z3} {x t : Tie} {pv kv pv' kv' : AV} (i : Int) {ms : List Msg} (hl : ms.length ≤ 100000) (hx : IntKind.i64.wrap (x.now - x.born) = x.now - x.born) (hm : ∀ m ∈ ms, (m.kind = 5 → m.age = x.now - x.born) ∧ (m.kind = 4 → m.to = x.parent)) : ∀ (q j : Nat), j + q = ms.length →
  qQ P1 (.int .i64 i) (.fz 10 (ms.map Msg.v)) (.int .i64 j) (.int .i64 t.id) (.int .i64 t.inc) (.int .i64 t.now) (.int .i64 t.parent) (.int .i64 t.pinc) (.int .i64 t.grand) pv (.int .i64 t.epoch) (.int .i64 t.born) (.int .i64 t.asked) (.int .i64 t.till) (.int .i64 t.step) kv (.int .i64 x.id) (.int .i64 x.inc) (.int .i64 x.now) (.int .i64 x.parent) (.int .i64 x.pinc) (.int .i64 x.grand) pv' (.int .i64 x.epoch) (.int .i64 x.born) (.int .i64 x.asked) (.int .i64 x.till) (.int .i64 x.step) kv' Q = ZO (.int .i64 i) (.int .i64 t.id) (.int .i64 t.inc) (.int .i64 t.now) (.int .i64 t.parent) (.int .i64 t.pinc) (.int .i64 t.grand) pv (.int .i64 t.epoch) (.int .i64 t.born) (.int .i64 t.asked) (.int .i64 t.till) (.int .i64 t.step) kv (.int .i64 x.id) (.int .i64 x.inc) (.int .i64 x.now) (.int .i64 x.parent) (.int .i64 x.pinc) (.int .i64 x.grand) pv' (.int .i64 x.epoch) (.int .i64 x.born) (.int .i64 x.asked) (.int .i64 x.till) (.int .i64 x.step) kv' Q := by
 intro q
 induction q with
 | zero =>
  intro j hj
  obtain rfl : j = ms.length := by omega
  rw [jL, vt]
  simp
 | succ q ih =>
  intro j hj
  have c1 : ((j : Int) < ms.length) = True := eq_true (by omega)
  have hj' : j < ms.length := by omega
  have e := z9D (z := 10) (f := Msg.v) (k := .i64) (List.getElem?_eq_getElem hj')
  obtain ⟨h1, h2⟩ := hm _ (List.getElem_mem hj')
  generalize ms[j] = m at *
  rw [z03] at e
  have w := w64 (i := (j : Int) + 1) (by omega) (by omega)
  have ih := ih (j + 1) (by omega)
  rw [show ((j + 1 : Nat) : Int) = (j : Int) + 1 by push_cast; rfl] at ih
  rw [jL, vt]
  by_cases c5 : m.kind = 5
  ·have h1' := eq_true (h1 c5)
   simp [c1, e, c5, h1', hx, w]
   rw [y7, ih]
  ·by_cases c4 : m.kind = 4
   ·have h2' := eq_true (h2 c4)
    simp [c1, e, c4, h2', w]
    rw [y7, ih]
   ·simp [c1, e, c5, c4, w]
    rw [y7, ih]
theorem z7n : ∀ (m i : Nat) (t : Tie) (pv kv : AV) (Q : z3), i + m = 21 → t.id ≠ 1 → t.parent ≠ 0 → (i : Int) ≤ t.now - t.born → t.now - t.born ≤ 20 → Bd t (5000 + 100 * i) → Sl 1 (ints t.path) pv → Sl 3 (t.kids.map Kid.v) kv →
  ∃ Q', qR P1 (.int .i64 i) (.int .i64 t.id) (.int .i64 t.inc) (.int .i64 t.now) (.int .i64 t.parent) (.int .i64 t.pinc) (.int .i64 t.grand) pv (.int .i64 t.epoch) (.int .i64 t.born) (.int .i64 t.asked) (.int .i64 t.till) (.int .i64 t.step) kv Q = Zr (.bool true) Q' := by
 intro m
 induction m with
 | zero => intro i t pv kv Q hi h1 h2 h3 h4; omega
 | succ m ih =>
  intro i t pv kv Q hi hid hpar h3 h4 hb hp hk
  have c1 : ((i : Int) ≤ 21) = True := eq_true (by omega)
  have hn := hb.now
  have hbo := hb.born
  have wi := w64 (i := (i : Int) + 1) (by omega) (by omega)
  have wn := w64 (i := t.now - t.born) (by omega) (by omega)
  have wt := w64 (i := t.now + 1) (by omega) (by omega)
  have n20 : (20 < t.now - t.born) = False := eq_false (by omega)
  have c2 := eq_false hpar
  obtain ⟨pv', kv', Q1, e, hp', hk', ab⟩ := zbi (Q := Q) hp hk hb (by omega)
  have hb' := hb.tick
  have hlen := z97 hb
  have tid := z6x t
  obtain ⟨g1, g2, g3, g4⟩ := z7l hid hpar
  generalize tick t = T at *
  obtain ⟨x, ms⟩ := T
  simp only at *
  have hxn := hb'.now
  have hxb := hb'.born
  have wx := w64 (i := x.now - x.born) (by omega) (by omega)
  have wy := w64 (i := x.now - t.born) (by omega) (by omega)
  have lp := z7m (Q := Q1) (t := t) (x := x) (pv := pv) (kv := kv) (pv' := pv') (kv' := kv') i (ms := ms) (by omega) wx g3 ms.length 0 (by omega)
  rw [show ((0 : Nat) : Int) = 0 from rfl] at lp
  have g1' := eq_true g1
  have g2' := eq_true g2
  rw [ZP, X4]
  rcases g4 with ⟨g5, g6⟩ | ⟨g5, g6⟩
  ·obtain ⟨Q', lp2⟩ := ih (i + 1) x pv' kv' Q1 (by omega) (by rw [tid]; exact hid) g6 (by omega) (by omega) (hb'.weaken (by omega)) hp' hk'
   rw [show ((i + 1 : Nat) : Int) = (i : Int) + 1 by push_cast; rfl] at lp2
   refine ⟨Q', ?_⟩
   have g6' := eq_false g6
   simp [c1, c2, wn, n20, e, hp'.one, hk'.one]
   rw [y7, lp]
   simp [vu, g1', g2', wt, g6', hp'.one, hk'.one, X3, wi]
   rw [jc, lp2]
  ·refine ⟨Q1, ?_⟩
   have g6' := eq_true g6
   have g7 : (20 < x.now - t.born) = True := eq_true (by omega)
   simp [c1, c2, wn, n20, e, hp'.one, hk'.one]
   rw [y7, lp]
   simp [vu, g1', g2', wt, g6', wy, g7]
theorem z7o {A : List Int} (rA : ∀ n ∈ A, IntKind.u8.min ≤ n ∧ n ≤ IntKind.u8.max) {who : Int} (hw : IntKind.u8.min ≤ who ∧ who ≤ IntKind.u8.max) :
  ∃ Q', zf (za P1) 5 [.fz 1 (A.map (AV.int .u8)), .int .u8 who] z3.empty = some (.bool true, Q') := by
 have hb0 : ∀ Q, zf (za P1) 11 [] Q = some (.bool true, Q) := fun Q => by rw [KQ (g := zaD) rfl]; rfl
 have hw : 0 ≤ who ∧ who ≤ 255 := hw
 rw [Qs rfl]
 by_cases hA : 200 < A.length
 ·have hA' : (200 : Int) < A.length := by omega
  exact ⟨z3.empty, by simp [hb0, hA']⟩
 have hA' : ¬ (200 : Int) < A.length := by omega
 have hL : Ps A := ⟨by omega, fun n hn => rA n hn⟩
 have m1 := zdf (a := who) (b := 7) hw.1
 have u1 := zbm (i := who % 7) (by omega) (by omega)
 have v1 := w64 (i := who % 7) (by omega) (by omega)
 have v3 := w64 (i := 2 + who % 7) (by omega) (by omega)
 have hid : 2 ≤ 2 + who % 7 ∧ 2 + who % 7 ≤ 8 := by omega
 generalize hE : 2 + who % 7 = id at *
 obtain ⟨p, Q1, em, hq⟩ := zbp A z3.empty
 obtain ⟨t, pv, kv, Q2, et, hM, _⟩ := zde hL (id := id) (by omega) hq
 have fr := fun Q => z36 (Q := Q) hM.p hM.k hM.bd (by omega)
 have hi1 : t.id ≠ 1 := by rw [hM.id]; omega
 have hbn := hM.pt.bn
 have hnow := hM.bd.now
 have hbo := hM.bd.born
 have wn := w64 (i := t.now - t.born) (by omega) (by omega)
 by_cases c : x7 t
 ·obtain ⟨c2, c3⟩ := c.resolve_left hi1
  obtain ⟨Q', lp⟩ := z7n 21 0 t pv kv Q2 (by omega) hi1 c2 (by omega) c3 (hM.bd.weaken (by omega)) hM.p hM.k
  refine ⟨Q', ?_⟩
  rw [decide_eq_true c] at fr
  rw [show ((0 : Nat) : Int) = 0 from rfl] at lp
  simp [hb0, hA', m1, u1, v1, hE, v3, em, et, hM.p.one, hM.k.one, fr]
  rw [jc, lp]
  simp
 ·refine ⟨Q2, ?_⟩
  rw [decide_eq_false c] at fr
  rcases em2 (t.parent = 0) with c2 | c2
  ·simp [hb0, hA', m1, u1, v1, hE, v3, em, et, hM.p.one, hM.k.one, fr, c2]
  ·have c3 : (20 < t.now - t.born) = True := eq_true (by
    rcases Int.lt_or_le 20 (t.now - t.born) with h | h
    ·exact h
    ·exact absurd (Or.inr ⟨of_eq_false c2, h⟩) c)
   simp [hb0, hA', m1, u1, v1, hE, v3, em, et, hM.p.one, hM.k.one, fr, c2, wn, c3]
end
end Go.Proofs.Ytdbbdfmkglgjdaa.Pi
/- The law TieAges. -/
namespace Go.Proofs.Ytdbbdfmkglgjdaa.Pi
open Go.Ab
set_option maxRecDepth 100000
theorem z07 {H : z3} (v : AV) (A : List Int) (hA : rdI .u8 H v = some A) (hl : A.length ≤ maxLen) (rA : ∀ n ∈ A, IntKind.u8.min ≤ n ∧ n ≤ IntKind.u8.max) (hc : capOk v = true)
  (n : Int) (hn : IntKind.u8.min ≤ n ∧ n ≤ IntKind.u8.max) :
  kN (zI (env S1) 5 [v, .int .u8 n] H) fun v _ => v = .bool true := by
 refine z9A pe1 (by decide) (z7o (A := A) rA hn) (RL.cons (RV.ints hA hc) (RL.cons RV.int RL.nil'))
end Go.Proofs.Ytdbbdfmkglgjdaa.Pi
