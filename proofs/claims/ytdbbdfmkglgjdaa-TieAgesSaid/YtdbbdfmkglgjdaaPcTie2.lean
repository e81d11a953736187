/- What a node's functions come to. -/
import Derived.Test.YtdbbdfmkglgjdaaPcPicks
set_option linter.unusedVariables false
set_option linter.unusedSimpArgs false
namespace Go.Ab
theorem Tr.set_set (v w : Option zB) : ∀ (f n : Nat) (t : Tr), Tr.set v f (Tr.set w f t n) n = Tr.set v f t n := by
 intro f
 induction f with
 | zero => intro n t; rfl
 | succ f ih =>
  intro n t
  cases n with
  | zero => cases t <;> rfl
  | succ n =>
   by_cases c : n % 2 = 0
   ·cases t <;> simp [Tr.set, c, ih]
   ·cases t <;> simp [Tr.set, c, ih]
@[simp] theorem z3.put_put (H : z3) (r : Nat) (v w : Option zB) : (H.put r w).put r v = H.put r v := by
 unfold z3.put
 simp only [Tr.set_set]
end Go.Ab
namespace Go.Proofs.Ytdbbdfmkglgjdaa.Pi
open Go.Ab Go.Feed Go.Kids Go.Tie
set_option maxRecDepth 100000
@[simp] theorem zfN (k : IntKind) (i : Int) : AV.one (.int k i) = true := (Eq.refl _).trans (Eq.refl _)
@[simp] theorem zeH (b : Bool) : AV.one (.bool b) = true := (Eq.refl _).trans (Eq.refl _)
@[simp] theorem zfO (s : List UInt8) : AV.one (.str s) = true := (Eq.refl _).trans (Eq.refl _)
@[simp] theorem zgu (z : Nat) (l : List AV) : AV.one (.fz z l) = true := (Eq.refl _).trans (Eq.refl _)
@[simp] theorem zeI : AV.one .nils = true := (Eq.refl _).trans (Eq.refl _)
@[simp] theorem zfP (l : List AV) : AV.cells (.agg l) = l := (Eq.refl _).trans (Eq.refl _)
@[simp] theorem zfQ (k : IntKind) (i : Int) : AV.cells (.int k i) = [.int k i] := (Eq.refl _).trans (Eq.refl _)
@[simp] theorem zgv (z : Nat) (l : List AV) : AV.cells (.fz z l) = [.fz z l] := (Eq.refl _).trans (Eq.refl _)
@[simp] theorem zeJ : AV.cells .nils = [.nils] := (Eq.refl _).trans (Eq.refl _)
@[simp] theorem zgw (r o n : Nat) (c : kj) : AV.cells (.sl r o n c) = [.sl r o n c] := (Eq.refl _).trans (Eq.refl _)
@[simp] theorem zfR {β : Type} (a0 a1 a2 a3 a4 a5 a6 a7 a8 a9 : AV) (k : AV → AV → AV → AV → AV → AV → AV → AV → AV → AV → Option β) : bnC (β := β) 10 (some [a0, a1, a2, a3, a4, a5, a6, a7, a8, a9]) k = k a0 a1 a2 a3 a4 a5 a6 a7 a8 a9 := (Eq.refl _).trans (Eq.refl _)
@[simp] theorem zfS {β : Type} (a0 a1 a2 a3 a4 a5 a6 a7 a8 a9 a10 a11 a12 : AV) (k : AV → AV → AV → AV → AV → AV → AV → AV → AV → AV → AV → AV → AV → Option β) : bnC (β := β) 13 (some [a0, a1, a2, a3, a4, a5, a6, a7, a8, a9, a10, a11, a12]) k = k a0 a1 a2 a3 a4 a5 a6 a7 a8 a9 a10 a11 a12 := (Eq.refl _).trans (Eq.refl _)
@[simp] theorem zfT {β : Type} (a0 a1 a2 a3 a4 a5 a6 a7 a8 a9 a10 a11 a12 a13 : AV) (k : AV → AV → AV → AV → AV → AV → AV → AV → AV → AV → AV → AV → AV → AV → Option β) : bnC (β := β) 14 (some [a0, a1, a2, a3, a4, a5, a6, a7, a8, a9, a10, a11, a12, a13]) k = k a0 a1 a2 a3 a4 a5 a6 a7 a8 a9 a10 a11 a12 a13 := (Eq.refl _).trans (Eq.refl _)
abbrev ND (t : Tie) (pv kv tv : AV) : zB := .cells .exact 14 [.int .i64 t.id, .int .i64 t.inc, .int .i64 t.now, .int .i64 t.parent, .int .i64 t.pinc, .int .i64 t.grand, pv, .int .i64 t.epoch, .int .i64 t.born, .int .i64 t.asked, .int .i64 t.till, .int .i64 t.step, kv, tv]
abbrev Tv (t : Tie) (pv kv : AV) : AV := .agg [.int .i64 t.id, .int .i64 t.inc, .int .i64 t.now, .int .i64 t.parent, .int .i64 t.pinc, .int .i64 t.grand, pv, .int .i64 t.epoch, .int .i64 t.born, .int .i64 t.asked, .int .i64 t.till, .int .i64 t.step, kv]
def mpv (m : Msg) : AV := if m.kind = 2 ∨ m.kind = 5 then .fz 1 (ints m.path) else .nils
def Msg.v (m : Msg) : AV := .agg [.int .i64 m.kind, .int .i64 m.frm, .int .i64 m.to, .int .i64 m.inc, .int .i64 m.epoch, .int .i64 m.age, mpv m, .int .i64 m.lo, .int .i64 m.hi, .str m.text]
theorem z03 (m : Msg) : Msg.v m = .agg [.int .i64 m.kind, .int .i64 m.frm, .int .i64 m.to, .int .i64 m.inc, .int .i64 m.epoch, .int .i64 m.age, mpv m, .int .i64 m.lo, .int .i64 m.hi, .str m.text] := rfl
theorem XJ (m : Msg) : AV.one (mpv m) = true := by unfold mpv; split <;> rfl
theorem Msg.cells (m : Msg) : (AV.cells (Msg.v m)).length = 10 ∧ (AV.cells (Msg.v m)).all AV.one = true := ⟨rfl, by simp [Msg.v, XJ]⟩
theorem z0Y (ms : List Msg) : (kh (ms.map Msg.v)).length = ms.length * 10 := by
 induction ms with
 | nil => rfl
 | cons m ms ih =>
  have : kh ((m :: ms).map Msg.v) = AV.cells (Msg.v m) ++ kh (ms.map Msg.v) := rfl
  rw [this, List.length_append, ih, (Msg.cells m).1, List.length_cons]; omega
theorem z8T (ms : List Msg) : (kh (ms.map Msg.v)).all AV.one = true := by
 induction ms with
 | nil => rfl
 | cons m ms ih =>
  have : kh ((m :: ms).map Msg.v) = AV.cells (Msg.v m) ++ kh (ms.map Msg.v) := rfl
  rw [this, List.all_append, ih, (Msg.cells m).2]; rfl
theorem z5Q (ms : List Msg) : J0 10 ms.length (kh (ms.map Msg.v)) = ms.map Msg.v := by
 induction ms with
 | nil => rfl
 | cons m ms ih =>
  have e : kh ((m :: ms).map Msg.v) = AV.cells (Msg.v m) ++ kh (ms.map Msg.v) := rfl
  have l := (Msg.cells m).1
  rw [e, List.length_cons]
  show mkE ((AV.cells (Msg.v m) ++ _).take 10) :: J0 10 ms.length ((AV.cells (Msg.v m) ++ _).drop 10) = _
  rw [List.take_left' l, List.drop_left' l, ih]
  rfl
def Tl (Q : z3) (r : Nat) (tv : AV) (ms : List Msg) : Prop := (tv = .nils ∧ ms = []) ∨ ∃ q, r < q ∧ q < Q.size ∧ tv = .sl q 0 ms.length (.mi 0) ∧ Q.get q = some (.cells .opened 10 (kh (ms.map Msg.v)))
theorem Tl.one {Q r tv ms} (h : Tl Q r tv ms) : AV.one tv = true := by rcases h with ⟨rfl, _⟩ | ⟨q, _, _, rfl, _⟩ <;> rfl
structure Ab (r : Nat) (Q Q' : z3) : Prop where
 size : Q.size ≤ Q'.size
 get : ∀ s, s < r → Q'.get s = Q.get s
theorem Ab.refl (r : Nat) (Q : z3) : Ab r Q Q := ⟨Nat.le_refl _, fun _ _ => rfl⟩
theorem Ab.trans {r : Nat} {Q Q1 Q2 : z3} (a : Ab r Q Q1) (b : Ab r Q1 Q2) : Ab r Q Q2 := ⟨Nat.le_trans a.size b.size, fun s hs => (b.get s hs).trans (a.get s hs)⟩
structure Nd (Q : z3) (r : Nat) (t : Tie) (ms : List Msg) (pv kv tv : AV) : Prop where
 p : Sl 1 (ints t.path) pv
 k : Sl 3 (t.kids.map Kid.v) kv
 l : Tl Q r tv ms
 lt : r < Q.size
 g : Q.get r = some (ND t pv kv tv)
theorem Nd.put {Q r t ms pv kv tv} (h : Nd Q r t ms pv kv tv) {t' : Tie} {pv' kv' : AV} (hp : Sl 1 (ints t'.path) pv') (hk : Sl 3 (t'.kids.map Kid.v) kv') : Nd (Q.put r (some (ND t' pv' kv' tv))) r t' ms pv' kv' tv := by
 refine ⟨hp, hk, ?_, by simpa using h.lt, by simp⟩
 rcases h.l with h1 | ⟨q, h1, h2, h3, h4⟩
 ·exact Or.inl h1
 ·exact Or.inr ⟨q, h1, by simpa using h2, h3, by rw [z3.get_put, if_neg (by omega)]; exact h4⟩
theorem Ab.put {Q : z3} {r : Nat} {o : Option zB} : Ab r Q (Q.put r o) := ⟨by simp, fun s hs => by rw [z3.get_put, if_neg (by omega)]⟩
def z04 (t : Tie) (kind to lo : Int) : Msg := if kind = 2 ∨ kind = 5 then full t kind to lo else Xd t kind to lo
theorem zo {v : AV} (h : AV.one v = true) : AV.cells v = [v] := by cases v <;> first | rfl | cases h
theorem z0Z (t : Tie) {kind : Int} (to lo : Int) (c : kind = 2 ∨ kind = 5) : Msg.v (full t kind to lo) = .agg [.int .i64 kind, .int .i64 t.id, .int .i64 to, .int .i64 t.inc, .int .i64 t.epoch, .int .i64 (t.now - t.born), .fz 1 (ints t.path), .int .i64 lo, .int .i64 0, .str []] := by
 have : mpv (full t kind to lo) = .fz 1 (ints t.path) := if_pos c
 rw [z03, this]; rfl
theorem Wk (t : Tie) {kind : Int} (to lo : Int) (c : ¬ (kind = 2 ∨ kind = 5)) : Msg.v (Xd t kind to lo) = .agg [.int .i64 kind, .int .i64 t.id, .int .i64 to, .int .i64 t.inc, .int .i64 0, .int .i64 0, .nils, .int .i64 lo, .int .i64 0, .str []] := by
 have : mpv (Xd t kind to lo) = .nils := if_neg c
 rw [z03, this]; rfl
theorem Sl.frz {z l v} (h : Sl z l v) : Go.Ab.frz v = v := by rcases h with rfl | ⟨rfl, _⟩ <;> rfl
section
variable {Q : z3} {r : Nat} {t : Tie} {ms : List Msg} {pv kv tv : AV}
theorem zfU (hp : Sl 1 (ints t.path) pv) (hk : Sl 3 (t.kids.map Kid.v) kv) {k : Nat} (hb : Bd t k) (hk' : k ≤ 100000) : zf (za P1) 38 [Tv t pv kv] Q = some (.ptr Q.size 0, Q.push (some (ND t (.fz 1 (ints t.path)) (kds t.kids) .nils))) := by
 have c1 := fun (Q : z3) => z4h (Q := Q) hp (by have := hb.path; omega)
 have c2 := fun (Q : z3) => z4e (Q := Q) hk (by have := hb.kids; omega)
 rw [z90 rfl]
 simp [hp.one, hk.one, c1, c2, Jh]
theorem Nd.of (hb : r = Q.size) : Nd (Q.push (some (ND t (.fz 1 (ints t.path)) (kds t.kids) .nils))) r t [] (.fz 1 (ints t.path)) (kds t.kids) .nils := by
 subst hb
 exact ⟨Sl.fz _ _, Sl.fz _ _, Or.inl ⟨rfl, rfl⟩, by simp, by simp⟩
theorem zbe (h : Nd Q r t ms pv kv tv) (s : Int) : zf (za P1) 40 [.ptr r 0, .int .i64 s] Q = some (.tup [], Q.put r (some (ND (lets t s) .nils kv tv))) := by
 rw [z0x rfl]
 simp [zN, vi, zm, kO, ldQ, ldA, stA, h.g, h.k.one, h.p.one, h.l.one, splice, Go.Tie.lets]
theorem z35 (h : Nd Q r t ms pv kv tv) {k : Nat} (hb : Bd t k) (hk : k ≤ 100000) (hm : ms.length ≤ 100000) (kind to lo : Int) : ∃ tv' Q', zf (za P1) 61 [.ptr r 0, .int .i64 kind, .int .i64 to, .int .i64 lo] Q = some (.tup [], Q') ∧ Nd Q' r t (ms ++ [z04 t kind to lo]) pv kv tv' ∧ Ab r Q Q' := by
 have cl := fun (Q : z3) => z4h (Q := Q) h.p (by have := hb.path; omega)
 have w1 := w64 (i := t.now - t.born) (by have := hb.now; have := hb.born; omega) (by have := hb.now; have := hb.born; omega)
 have rm : room 104 (ms.length + 1) = true := by unfold room; rw [decide_eq_true_eq]; simp [zj]; omega
 have r0 : room 104 1 = true := by unfold room; rw [decide_eq_true_eq]; simp [zj]
 have e0 := h.g
 have hlt := h.lt
 have key : ∀ (x : AV), x = Msg.v (z04 t kind to lo) → ∃ tv' Q1, z65 Q 10 104 tv [x] = some (tv', Q1) ∧ Q1.get r = some (ND t pv kv tv) ∧ AV.one tv' = true ∧ Nd (Q1.put r (some (ND t pv kv tv'))) r t (ms ++ [z04 t kind to lo]) pv kv tv' ∧ Ab r Q (Q1.put r (some (ND t pv kv tv'))) := fun x hx => by
  rcases h.l with ⟨rfl, rfl⟩ | ⟨q, h1, h2, rfl, h4⟩
  ·refine ⟨.sl Q.size 0 1 (.mi 0), Q.push (some (.cells .opened 10 (kh [x]))), by simp [z65, r0], ?_, rfl, ⟨h.p, h.k, Or.inr ⟨Q.size, hlt, by simp, rfl, ?_⟩, by simp; omega, by simp⟩, ⟨by simp, fun s hs => ?_⟩⟩
   ·rw [z3.get_push, if_neg (by omega), e0]
   ·rw [z3.get_put, if_neg (by omega), z3.get_push, if_pos rfl, hx]; rfl
   ·rw [z3.get_put, if_neg (by omega), z3.get_push, if_neg (by omega)]
  ·have fl := z0Y ms
   have b1 : Nat.beq (kh (ms.map Msg.v)).length (ms.length * 10) = true := by rw [fl]; exact Nat.beq_refl _
   refine ⟨.sl Q.size 0 (ms.length + 1) (.mi 0), (Q.put q none).push (some (.cells .opened 10 (kh (ms.map Msg.v) ++ kh [x]))), by simp [z65, h4, b1, rm], ?_, rfl, ⟨h.p, h.k, Or.inr ⟨Q.size, hlt, by simp, by simp, ?_⟩, by simp; omega, by simp⟩, ⟨by simp, fun s hs => ?_⟩⟩
   ·rw [z3.get_push, if_neg (by simp; omega), z3.get_put, if_neg (by omega), e0]
   ·rw [z3.get_put, if_neg (by omega), z3.get_push, if_pos (by simp), hx]
    simp [kh]
   ·rw [z3.get_put, if_neg (by omega), z3.get_push, if_neg (by simp; omega), z3.get_put, if_neg (by omega)]
 rw [WB rfl]
 by_cases c : kind = 2 ∨ kind = 5
 ·obtain ⟨tv', Q1, k1, k2, k3, k4, k5⟩ := key _ rfl
  refine ⟨tv', _, ?_, k4, k5⟩
  unfold z04 at k1
  rw [if_pos c, z0Z _ _ _ c] at k1
  rcases c with rfl | rfl
  ·simp [zN, vi, zm, kO, ldQ, ldA, stA, e0, h.k.one, h.p.one, h.l.one, splice, cl, w1, vb, k1, k2, k3, zo k3, Z0, jU, z68, ZB]
  ·simp [zN, vi, zm, kO, ldQ, ldA, stA, e0, h.k.one, h.p.one, h.l.one, splice, cl, w1, vb, k1, k2, k3, zo k3, Z0, jU, z68, ZB]
 ·obtain ⟨tv', Q1, k1, k2, k3, k4, k5⟩ := key _ rfl
  refine ⟨tv', _, ?_, k4, k5⟩
  unfold z04 at k1
  rw [if_neg c, Wk _ _ _ c] at k1
  have c1 : ¬ kind = 2 := fun e => c (Or.inl e)
  have c2 : ¬ kind = 5 := fun e => c (Or.inr e)
  simp [zN, vi, zm, kO, ldQ, ldA, stA, e0, h.k.one, h.p.one, h.l.one, splice, cl, w1, vb, k1, k2, k3, zo k3, Z0, jU, z68, ZB, c1, c2]
end
end Go.Proofs.Ytdbbdfmkglgjdaa.Pi
/- What a node's functions come to, on. -/
namespace Go.Proofs.Ytdbbdfmkglgjdaa.Pi
open Go.Ab Go.Feed Go.Kids Go.Tie
set_option maxRecDepth 100000
@[simp] theorem zda (a : AV) (l : List AV) : splice (a :: l) 0 [] = a :: l := (Eq.refl _).trans (Eq.refl _)
section
variable {Q : z3} {r : Nat} {t : Tie} {ms : List Msg} {pv kv tv : AV}
theorem z36 (hp : Sl 1 (ints t.path) pv) (hk : Sl 3 (t.kids.map Kid.v) kv) {k : Nat} (hb : Bd t k) (hk' : k ≤ 100000) : zf (za P1) 25 [Tv t pv kv] Q = some (.bool (decide (x7 t)), Q) := by
 have w1 := w64 (i := t.now - t.born) (by have := hb.now; have := hb.born; omega) (by have := hb.now; have := hb.born; omega)
 rw [z4C rfl]
 by_cases c1 : t.id = 1
 ·simp [hp.one, hk.one, c1, x7]
 ·by_cases c2 : t.parent = 0
  ·simp [hp.one, hk.one, c1, c2, x7]
  ·by_cases c3 : t.now - t.born ≤ 20
   ·simp [hp.one, hk.one, c1, c2, c3, w1, x7]
   ·simp [hp.one, hk.one, c1, c2, c3, w1, x7]
theorem z37 (hp : Sl 1 (ints t.path) pv) (hk : Sl 3 (t.kids.map Kid.v) kv) {k : Nat} (hb : Bd t k) (hk' : k ≤ 100000) : zf (za P1) 26 [Tv t pv kv] Q = some (.bool (decide (x7 t)), Q) := by
 have w1 := w64 (i := t.now - t.born) (by have := hb.now; have := hb.born; omega) (by have := hb.now; have := hb.born; omega)
 rw [JK rfl]
 by_cases c1 : t.id = 1
 ·simp [hp.one, hk.one, c1, x7]
 ·by_cases c2 : t.parent = 0
  ·simp [hp.one, hk.one, c1, c2, x7]
  ·by_cases c3 : t.now - t.born ≤ 20
   ·simp [hp.one, hk.one, c1, c2, c3, w1, x7]
   ·simp [hp.one, hk.one, c1, c2, c3, w1, x7]
theorem z8U (h : Nd Q r t ms pv kv tv) {k : Nat} (hb : Bd t k) (hk : k ≤ 90000) (hm : ms.length ≤ 100000) (c : t.asked = 0) : ∃ tv' Q', z5 (zf (za P1)) (zh (za P1)) ju [(0, .v (.ptr r 0))] [] Q (zA [] []) = some (.tup [], Q') ∧ Nd Q' r (asked t) (ms ++ [Xd (asked t) 1 (asked t).asked 0]) pv kv tv' ∧ Ab r Q Q' := by
 have w1 := w64 (i := t.now + 3) (by have := hb.now; omega) (by have := hb.now; omega)
 obtain ⟨tv', Q', e, hn, ha⟩ := z35 (h.put (t' := asked t) (pv' := pv) (kv' := kv) h.p h.k) hb.asked (by omega) hm 1 (asked t).asked 0
 refine ⟨tv', Q', ?_, by simpa [z04] using hn, Ab.put.trans ha⟩
 rw [Yj]
 by_cases c1 : t.step = 0
 ·by_cases c2 : t.grand = 0
  ·simp [asked, z19, c1, c2, ND] at e
   simp [zN, vi, zm, kO, ldQ, ldA, stA, splice, jU, h.g, h.k.one, h.p.one, h.l.one, zo h.k.one, zo h.p.one, zo h.l.one, c, c1, c2, w1, jy, e]
  ·by_cases c3 : t.grand = t.id
   ·have c2' : ¬ t.id = 0 := c3 ▸ c2
    simp [asked, z19, c1, c2, c2', c3, ND] at e
    simp [zN, vi, zm, kO, ldQ, ldA, stA, splice, jU, h.g, h.k.one, h.p.one, h.l.one, zo h.k.one, zo h.p.one, zo h.l.one, c, c1, c2, c2', c3, w1, jy, e]
   ·simp [asked, z19, c1, c2, c3, ND] at e
    simp [zN, vi, zm, kO, ldQ, ldA, stA, splice, jU, h.g, h.k.one, h.p.one, h.l.one, zo h.k.one, zo h.p.one, zo h.l.one, c, c1, c2, c3, w1, jy, e]
 ·simp [asked, z19, c1, ND] at e
  simp [zN, vi, zm, kO, ldQ, ldA, stA, splice, jU, h.g, h.k.one, h.p.one, h.l.one, zo h.k.one, zo h.p.one, zo h.l.one, c, c1, w1, jy, e]
theorem zbf (h : Nd Q r t ms pv kv tv) {k : Nat} (hb : Bd t k) (hk : k ≤ 80000) (hm : ms.length ≤ 100000) : ∃ tv' Q', zf (za P1) 41 [.ptr r 0] Q = some (.tup [], Q') ∧ Nd Q' r (asks t).1 (ms ++ (asks t).2) pv kv tv' ∧ Ab r Q Q' := by
 have hw := hb.step
 have w1 := w64 (i := t.step + 1) (by omega) (by omega)
 unfold asks
 rw [z0z rfl]
 by_cases c1 : t.id = 1
 ·rw [if_pos (Or.inl c1)]
  exact ⟨tv, Q, by simp [zN, vi, zm, kO, ldQ, ldA, stA, splice, jU, h.g, h.k.one, h.p.one, h.l.one, zo h.k.one, zo h.p.one, zo h.l.one, c1], by simpa using h, Ab.refl _ _⟩
 by_cases c2 : t.parent = 0
 ·rw [if_neg (by simp [c1, c2])]
  by_cases c3 : t.asked = 0
  ·obtain ⟨tv', Q', e, hn, ha⟩ := z8U h hb (by omega) hm c3
   have et : Tie.tired t = t := by unfold Tie.tired; rw [if_neg (fun c => c.1 c3)]
   rw [et, if_neg (fun c => c c3)]
   exact ⟨tv', Q', by simp [zN, vi, zm, kO, ldQ, ldA, stA, splice, jU, h.g, h.k.one, h.p.one, h.l.one, zo h.k.one, zo h.p.one, zo h.l.one, c1, c2, c3, e], hn, ha⟩
  ·by_cases c4 : t.till ≤ t.now
   ·have et : Tie.tired t = { t with asked := 0, step := t.step + 1 } := by unfold Tie.tired; rw [if_pos ⟨c3, c4⟩]
    have h1 := h.put (t' := Tie.tired t) (pv' := pv) (kv' := kv) (by rw [et]; exact h.p) (by rw [et]; exact h.k)
    obtain ⟨tv', Q', e, hn, ha⟩ := z8U h1 hb.tired (by omega) hm (by rw [et])
    rw [if_neg (fun c => c (by rw [et]))]
    refine ⟨tv', Q', ?_, hn, Ab.put.trans ha⟩
    rw [et] at e
    simp [ND, c2] at e
    simp [zN, vi, zm, kO, ldQ, ldA, stA, splice, jU, h.g, h.k.one, h.p.one, h.l.one, zo h.k.one, zo h.p.one, zo h.l.one, c1, c2, c3, c4, w1, e]
   ·have et : Tie.tired t = t := by unfold Tie.tired; rw [if_neg (fun c => c4 c.2)]
    rw [et, if_pos c3]
    exact ⟨tv, Q, by simp [zN, vi, zm, kO, ldQ, ldA, stA, splice, jU, h.g, h.k.one, h.p.one, h.l.one, zo h.k.one, zo h.p.one, zo h.l.one, c1, c2, c3, c4, Yj], by simpa using h, Ab.refl _ _⟩
 ·rw [if_pos (Or.inr c2)]
  exact ⟨tv, Q, by simp [zN, vi, zm, kO, ldQ, ldA, stA, splice, jU, h.g, h.k.one, h.p.one, h.l.one, zo h.k.one, zo h.p.one, zo h.l.one, c1, c2], by simpa using h, Ab.refl _ _⟩
end
end Go.Proofs.Ytdbbdfmkglgjdaa.Pi
