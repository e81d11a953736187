/- Ways. -/
import Derived.Test.YtdbbdfmkglgjdaaPcKids2
import Derived.Test.YtdbbdfmkglgjdaaPmTie
import Derived.Test.YtdbbdfmkglgjdaaPmKids
set_option linter.unusedVariables false
set_option linter.unusedSimpArgs false
namespace Go.Proofs.Ytdbbdfmkglgjdaa.Pi
open Go.Ab Go.Feed Go.Kids Go.Tie
set_option maxRecDepth 100000
abbrev ints (l : List Int) : List AV := l.map (AV.int .i64)
theorem z6s {l : List Int} {i : Nat} (hi : i < l.length) : l[i]? = some (l.getD i 0) := by
 rw [List.getD_eq_getElem?_getD, List.getElem?_eq_getElem hi]; rfl
@[simp] theorem zb9 (b : Bool) : rcv b .n .nilifc = some .nilifc := (Eq.refl _).trans (Eq.refl _)
@[simp] theorem zeF (t : Nat) (v : AV) : rcv false .n (.ifc t v) = some (.ifc t v) := (Eq.refl _).trans (Eq.refl _)
abbrev Gd (p : List Int) (k : Nat) : Prop := (1 ≤ p.getD k 0 ∧ p.getD k 0 ≤ 8) ∧ p.getD k 0 ∉ p.take k
theorem z8S {p : List Int} {i : Nat} (hi : i ≤ p.length) : QZ 1 (.fz 1 (ints p)) none (some (.int .i64 (i : Int))) = some (.fz 1 (ints (p.take i))) := by
 rw [W1 (by omega)]
 simp [hi, ints, List.map_take]
theorem z7b {p : List Int} {i : Nat} (hi : i < p.length) : p.drop i = p.getD i 0 :: p.drop (i + 1) := by
 rw [List.drop_eq_getElem_cons hi, List.getD_eq_getElem?_getD, List.getElem?_eq_getElem hi]; rfl
section
variable {Q : z3}
theorem z7c {p : List Int} {v : AV} (h : Sl 1 (ints p) v) (hl : p.length ≤ 900000) (x : Int) : ∀ (m i : Nat), i + m = p.length →
  v9 P1 v (.int .i64 x) (.int .i64 i) Q = if x ∈ p.drop i then XS (.bool true) Q else Qu Q := by
 intro m
 induction m with
 | zero =>
  intro i hi
  obtain rfl : i = p.length := by omega
  rw [List.drop_length, wc, ZR, h.len]
  simp
 | succ m ih =>
  intro i hi
  have c1 : ((i : Int) < p.length) = True := eq_true (by omega)
  have e := h.get (k := .i64) (z6s (l := p) (i := i) (by omega))
  have w := w64 (i := (i : Int) + 1) (by omega) (by omega)
  have ih := ih (i + 1) (by omega)
  rw [show ((i + 1 : Nat) : Int) = (i : Int) + 1 by push_cast; rfl] at ih
  rw [z7b (by omega), wc, ZR, h.len]
  generalize p.getD i 0 = y at *
  by_cases c : y = x
  ·simp [c1, e, c]
  ·simp [c1, e, c, Ne.symm c, w]
   rw [qS, ih]
theorem zaP {p : List Int} {v : AV} (h : Sl 1 (ints p) v) (hl : p.length ≤ 900000) (x : Int) : zf (za P1) 32 [v, .int .i64 x] Q = some (.bool (decide (x ∈ p)), Q) := by
 rw [Wv rfl]
 have lp := z7c (Q := Q) h hl x p.length 0 (by omega)
 rw [show ((0 : Nat) : Int) = 0 from rfl, List.drop_zero] at lp
 by_cases c : x ∈ p
 ·rw [if_pos c] at lp; simp [qS, lp, c]
 ·rw [if_neg c] at lp; simp [qS, lp, c, KG]
theorem z7d {p : List Int} (hl : p.length ≤ 900000) : ∀ (m i : Nat), i + m = p.length →
  ((∀ k, i ≤ k → k < p.length → Gd p k) ∧ xD P1 (.fz 1 (ints p)) (.int .i64 i) Q = Y6 Q) ∨
  (¬ (∀ k, i ≤ k → k < p.length → Gd p k) ∧ xD P1 (.fz 1 (ints p)) (.int .i64 i) Q = ZQ (.bool false) Q) := by
 intro m
 induction m with
 | zero =>
  intro i hi
  obtain rfl : i = p.length := by omega
  left
  refine ⟨fun k h1 h2 => by omega, ?_⟩
  rw [kg, vV]
  simp
 | succ m ih =>
  intro i hi
  have c1 : ((i : Int) < p.length) = True := eq_true (by omega)
  have e := (Sl.fz 1 (ints p)).get (k := .i64) (z6s (l := p) (i := i) (by omega))
  have w := w64 (i := (i : Int) + 1) (by omega) (by omega)
  have sl := z8S (p := p) (i := i) (by omega)
  have dh := fun Q => zaP (Q := Q) (Sl.fz 1 (ints (p.take i))) (by rw [List.length_take]; omega) (p.getD i 0)
  obtain ⟨T, hT⟩ : ∃ T, p.take i = T := ⟨_, rfl⟩
  rw [hT] at sl dh
  have ih := ih (i + 1) (by omega)
  rw [show ((i + 1 : Nat) : Int) = (i : Int) + 1 by push_cast; rfl] at ih
  rw [kg, vV]
  by_cases c : Gd p i
  ·have c' := c
   obtain ⟨⟨g1, g2⟩, g3⟩ := c'
   rw [hT] at g3
   have g1' : ¬ p.getD i 0 < 1 := by omega
   have g2' : ¬ 8 < p.getD i 0 := by omega
   rcases ih with ⟨h1, h2⟩ | ⟨h1, h2⟩
   ·left
    refine ⟨fun k k1 k2 => ?_, ?_⟩
    ·by_cases hk : k = i
     ·subst hk; exact c
     ·exact h1 k (by omega) k2
    ·simp [c1, e, g1', g2', sl, dh, g3, w, -List.getD_eq_getElem?_getD]
     rw [yL, h2]
   ·right
    refine ⟨fun h3 => h1 fun k k1 k2 => h3 k (by omega) k2, ?_⟩
    simp [c1, e, g1', g2', sl, dh, g3, w, -List.getD_eq_getElem?_getD]
    rw [yL, h2]
  ·right
   refine ⟨fun h3 => c (h3 i (Nat.le_refl _) (by omega)), ?_⟩
   by_cases g1 : p.getD i 0 < 1
   ·simp [c1, e, g1, -List.getD_eq_getElem?_getD]
   ·by_cases g2 : 8 < p.getD i 0
    ·simp [c1, e, g1, g2, -List.getD_eq_getElem?_getD]
    ·have g3 : p.getD i 0 ∈ T := Decidable.byContradiction fun g3 => c ⟨⟨by omega, by omega⟩, by rw [hT]; exact g3⟩
     simp [c1, e, g1, g2, sl, dh, g3, -List.getD_eq_getElem?_getD]
theorem z7e {p : List Int} (hl : p.length ≤ 900000) : zf (za P1) 29 [.fz 1 (ints p)] Q = some (.bool (decide (Qw p)), Q) := by
 rw [QV rfl]
 by_cases c1 : p.length < 1
 ·have : ¬ Qw p := fun h => by have := h.1; omega
  have : p = [] := List.length_eq_zero_iff.1 (by omega)
  subst this
  simp
 ·have z1 : ((p.length : Int) < 1) = False := eq_false (by omega)
  by_cases c2 : 10 < p.length
  ·have : ¬ Qw p := fun h => by have := h.2.1; omega
   have z2 : (10 < (p.length : Int)) = True := eq_true (by omega)
   simp [z1, z2, this, -not_and]
  ·have z2 : (10 < (p.length : Int)) = False := eq_false (by omega)
   have e := (Sl.fz 1 (ints p)).get (k := .i64) (z6s (l := p) (i := 0) (by omega))
   rw [show ((0 : Nat) : Int) = 0 from rfl] at e
   by_cases c3 : p.getD 0 0 = 1
   ·rw [c3] at e
    have lp := z7d (Q := Q) hl p.length 0 (by omega)
    rw [show ((0 : Nat) : Int) = 0 from rfl] at lp
    rcases lp with ⟨h1, lp⟩ | ⟨h1, lp⟩
    ·have hm : Qw p := ⟨by omega, by omega, c3, fun k hk => h1 k (Nat.zero_le _) hk⟩
     simp [z1, z2, e, yL, lp, XR, decide_eq_true hm, -decide_eq_true_eq, -Bool.decide_and]
    ·have hm : ¬ Qw p := fun h => h1 fun k _ hk => h.2.2.2 k hk
     simp [z1, z2, e, yL, lp, decide_eq_false hm, -Bool.decide_and]
   ·have hm : ¬ Qw p := fun h => c3 h.2.2.1
    simp [z1, z2, e, c3, decide_eq_false hm, -Bool.decide_and, -List.getD_eq_getElem?_getD]
theorem z4h {l : List Int} {v : AV} (h : Sl 1 (ints l) v) (hl : l.length ≤ 1000000) : zf (za P1) 64 [v] Q = some (.ow 1 (ints l), Q) := by
 rw [KQ (g := Za 1 8) rfl, h.clone (by rw [List.length_map]; exact kX (by omega) (by omega))]; rfl
theorem Wj {p : List Int} {v : AV} (h : Sl 1 (ints p) v) (hl : p.length ≤ 100000) (x : Int) : zf (za P1) 35 [v, .int .i64 x] Q = some (.tup (if Qw (p ++ [x]) then [.fz 1 (ints (p ++ [x])), .bool true] else [.fz 1 [], .bool false]), Q) := by
 have my := fun (Q : z3) => z7e (Q := Q) (p := p ++ [x]) (by simp; omega)
 have r0 : room 8 p.length = true := kX (by omega) (by omega)
 have r : room 8 (p.length + 1) = true := kX (by omega) (by omega)
 have ea : ints (p ++ [x]) = ints p ++ [.int .i64 x] := List.map_append
 rw [ea] at my ⊢
 rcases h with rfl | ⟨rfl, e⟩
 ·rw [wU rfl]
  by_cases hm : Qw (p ++ [x])
  ·rw [decide_eq_true hm] at my
   rw [if_pos hm]
   simp [my, r, r0]
  ·rw [decide_eq_false hm] at my
   rw [if_neg hm]
   simp [my, r, r0]
 ·have : p = [] := by simpa using e
  subst this
  rw [wU rfl]
  simp only [ints, List.map_nil, List.nil_append] at my r0 r ⊢
  have q0 : room 8 0 = true := r0
  have q1 : room 8 1 = true := r
  by_cases hm : Qw [x]
  ·rw [decide_eq_true hm] at my
   rw [if_pos hm]
   simp [my, r, r0, q0, q1]
  ·rw [decide_eq_false hm] at my
   rw [if_neg hm]
   simp [my, r, r0, q0, q1]
theorem zag {p : List Int} {v : AV} (h : Sl 1 (ints p) v) (hl : p.length ≤ 100000) : zf (za P1) 74 [v] Q = some (.int .i64 (grand p), Q) := by
 rw [KO rfl]
 unfold grand
 by_cases c : p.length < 2
 ·have c1 : ((p.length : Int) < 2) = True := eq_true (by omega)
  simp [h.len, c1, c]
 ·have c1 : ((p.length : Int) < 2) = False := eq_false (by omega)
  have e := h.get (k := .i64) (z6s (l := p) (i := p.length - 2) (by omega))
  have w := w64 (i := (p.length : Int) - 2) (by omega) (by omega)
  rw [show ((p.length - 2 : Nat) : Int) = (p.length : Int) - 2 by omega] at e
  simp [h.len, c1, c, w, e, -List.getD_eq_getElem?_getD]
end
end Go.Proofs.Ytdbbdfmkglgjdaa.Pi
/- Numbers from which choices are read. -/
namespace Go.Proofs.Ytdbbdfmkglgjdaa.Pi
open Go.Ab Go.Feed
set_option maxRecDepth 100000
def Pk (Q : z3) (r : Nat) (l : List Int) : Prop := ∃ n : Nat, n ≤ l.length ∧ Q.get r = some (.cells .exact 2 [.fz 1 (l.map (AV.int .u8)), .int .i64 n])
def Oth (r : Nat) (Q Q' : z3) : Prop := Q'.size = Q.size ∧ ∀ s, s ≠ r → Q'.get s = Q.get s
theorem Oth.refl (r : Nat) (Q : z3) : Oth r Q Q := ⟨rfl, fun _ _ => rfl⟩
theorem Oth.trans {r : Nat} {Q Q1 Q2 : z3} (a : Oth r Q Q1) (b : Oth r Q1 Q2) : Oth r Q Q2 := ⟨b.1.trans a.1, fun s hs => (b.2 s hs).trans (a.2 s hs)⟩
def Bs (l : List Int) : Prop := ∀ n ∈ l, 0 ≤ n ∧ n ≤ 255
@[simp] theorem zeG (b : Bool) (r o : Nat) : rcv b .n (.ptr r o) = some (.ptr r o) := (Eq.refl _).trans (Eq.refl _)
section
variable {Q : z3} {r : Nat} {l : List Int}
theorem zba {k : Kd} {z : Nat} {a b : AV} (h : Q.get r = some (.cells k z [a, b])) : ldQ Q (.ptr r 0) = some a ∧ ldQ Q (.ptr r 1) = some b := by
 simp [ldQ, ldA, z3.cell, h]
theorem zfM {z : Nat} {a b : AV} {x : Int} (h : Q.get r = some (.cells .exact z [a, b])) : Jl (Q.get r) 1 [.int .i64 x] = some (.cells .exact z [a, .int .i64 x]) := by
 rw [h]; simp [Jl, splice, AV.one]
theorem zaQ (h : Pk Q r l) (hl : l.length ≤ 1000) (rl : Bs l) {m : Int} (hm : 1 ≤ m ∧ m ≤ 1000) :
  ∃ (v : Int) (Q' : z3), zf (za P1) 13 [.ptr r 0, .int .i64 m] Q = some (.int .i64 v, Q') ∧ (0 ≤ v ∧ v < m) ∧ Pk Q' r l ∧ Oth r Q Q' := by
 obtain ⟨n, hn, hg⟩ := h
 obtain ⟨l0, l1⟩ := zba hg
 by_cases c : n = l.length
 ·refine ⟨0, Q, ?_, by omega, ⟨n, hn, hg⟩, Oth.refl r Q⟩
  rw [vU rfl]
  simp [zN, vi, zm, kO, l0, l1, c]
 ·have hlt : n < l.length := by omega
  have c' : ((l.length : Int) ≤ n) = False := eq_false (by omega)
  have w := w64 (i := (n : Int) + 1) (by omega) (by omega)
  have st := zfM (x := (n : Int) + 1) hg
  have hg2 : (Q.put r (some (.cells .exact 2 [.fz 1 (l.map (AV.int .u8)), .int .i64 ((n : Int) + 1)]))).get r = some (.cells .exact 2 [.fz 1 (l.map (AV.int .u8)), .int .i64 ((n : Int) + 1)]) := wC _ _ _
  obtain ⟨l2, l3⟩ := zba hg2
  have e := z9B (k := .u8) (kk := .i64) (l := l) (i := (n : Int)) (by omega) (by omega)
  have hv : 0 ≤ l.getD n 0 ∧ l.getD n 0 ≤ 255 := by
   rw [List.getD_eq_getElem?_getD, List.getElem?_eq_getElem hlt]; exact rl _ (List.getElem_mem _)
  simp only [Int.toNat_natCast] at e
  have m1 : ((m : Int) < 1) = False := eq_false (by omega)
  have m0 : ¬ m = 0 := by omega
  have w1 := w64 (i := l.getD n 0) (by omega) (by omega)
  have w2 := w64 (i := (n : Int) + 1 - 1) (by omega) (by omega)
  rw [Int.add_sub_cancel] at w2
  have tm : (l.getD n 0).tmod m = l.getD n 0 % m := Int.tmod_eq_emod_of_nonneg hv.1
  have r0 := Int.emod_nonneg (l.getD n 0) m0
  have r1 := Int.emod_lt_of_pos (l.getD n 0) (show 0 < m by omega)
  have w3 := w64 (i := l.getD n 0 % m) (by omega) (by omega)
  refine ⟨l.getD n 0 % m, _, ?_, ⟨r0, r1⟩, ⟨n + 1, hlt, hg2⟩, ⟨by simp, fun s hs => x8 Q _ hs⟩⟩
  generalize l.getD n 0 = x at *
  rw [vU rfl]
  simp [zN, vi, zm, kO, l0, l1, l2, l3, c', w, st, m1, m0, w1, w2, tm, w3, e, Int.add_sub_cancel]
theorem zbb (h : Pk Q r l) (hl : l.length ≤ 1000) : ∃ b, zf (za P1) 17 [.ptr r 0] Q = some (.bool b, Q) := by
 obtain ⟨n, hn, hg⟩ := h
 obtain ⟨l0, l1⟩ := zba hg
 refine ⟨decide ((l.length : Int) ≤ n), ?_⟩
 rw [X6 rfl]
 simp [zN, vi, zm, kO, l0, l1]
theorem zbc {l : List Int} (Q : z3) : ∃ Q', zf (za P1) 12 [.fz 1 (l.map (AV.int .u8))] Q = some (.ptr Q.size 0, Q') ∧ Pk Q' Q.size l ∧ Q'.size = Q.size + 1 ∧ ∀ s, s ≠ Q.size → Q'.get s = Q.get s := by
 refine ⟨Q.push (some (.cells .exact 2 [.fz 1 (l.map (AV.int .u8)), .int .i64 0])), ?_, ⟨0, Nat.zero_le _, by rw [z3.get_push]; simp⟩, by simp, fun s hs => by rw [z3.get_push, if_neg hs]⟩
 rw [VA rfl]
 simp [Jh, AV.cells, AV.one]
theorem zbd (h : Pk Q r l) (hl : l.length ≤ 1000) (rl : Bs l) : ∃ (t : List UInt8) (Q' : z3), zf (za P1) 47 [.ptr r 0] Q = some (.str t, Q') ∧ t.length ≤ 12 ∧ Pk Q' r l ∧ Oth r Q Q' := by
 obtain ⟨v, Q', e, hv, hp, ho⟩ := zaQ h hl rl (m := 5) (by omega)
 have key : ∀ (v : Int) (t : List UInt8), t.length ≤ 12 → elQ 1 (.fz 1 [.str [], .str [97], .str [98, 99], .str [104, 101, 108, 108, 111], .str [116, 119, 101, 108, 118, 101, 32, 98, 121, 116, 101, 115]]) (.int .i64 v) = some (.str t) → zf (za P1) 13 [.ptr r 0, .int .i64 5] Q = some (.int .i64 v, Q') →
   ∃ (t : List UInt8) (Q' : z3), zf (za P1) 47 [.ptr r 0] Q = some (.str t, Q') ∧ t.length ≤ 12 ∧ Pk Q' r l ∧ Oth r Q Q' := fun v t ht he e => by
  refine ⟨t, Q', ?_, ht, hp, ho⟩
  rw [Xc rfl]
  simp [e, he]
 have c : v = 0 ∨ v = 1 ∨ v = 2 ∨ v = 3 ∨ v = 4 := by omega
 rcases c with rfl | rfl | rfl | rfl | rfl
 ·exact key 0 [] (by decide) rfl e
 ·exact key 1 [97] (by decide) rfl e
 ·exact key 2 [98, 99] (by decide) rfl e
 ·exact key 3 [104, 101, 108, 108, 111] (by decide) rfl e
 ·exact key 4 [116, 119, 101, 108, 118, 101, 32, 98, 121, 116, 101, 115] (by decide) rfl e
end
end Go.Proofs.Ytdbbdfmkglgjdaa.Pi
