/- What the functions of win, ring, log, nak, feed come to. -/
import Derived.Test.YtccgolmdhikdoaaPne
import Derived.Test.YtccgolmdhikdoaaPmFeed
set_option linter.unusedVariables false
set_option linter.unusedSimpArgs false
namespace Go.Proofs.Ytccgolmdhikdoaa.Pn
open Go.Ab Go.Feed
set_option maxRecDepth 100000
def It.v (i : It) : AV := .agg [.int .i64 i.seq, .str i.text]
def Ev.v (e : Ev) : AV := .agg [.int .i64 e.kind, .int .i64 e.lo, .int .i64 e.hi, .str e.text, .int .i64 e.why]
def Sp.v (s : Sp) : AV := .agg [.int .i64 s.1, .int .i64 s.2]
@[simp] theorem It_v (i : It) : It.v i = .agg [.int .i64 i.seq, .str i.text] := rfl
abbrev its (l : List It) : AV := .fz 2 (l.map It.v)
abbrev evs (l : List Ev) : AV := .fz 5 (l.map Ev.v)
def Sl (z : Nat) (l : List AV) (v : AV) : Prop := v = .fz z l ∨ (v = .nils ∧ l = [])
theorem Sl.one {z l v} (h : Sl z l v) : AV.one v = true := by rcases h with rfl | ⟨rfl, _⟩ <;> rfl
theorem Sl.tup {z l v} (h : Sl z l v) : AV.isTup v = false := by rcases h with rfl | ⟨rfl, _⟩ <;> rfl
theorem Sl.len {z l v} (h : Sl z l v) : lenQ v = some (.int .i64 l.length) := by rcases h with rfl | ⟨rfl, rfl⟩ <;> rfl
theorem Sl.fz (z : Nat) (l : List AV) : Sl z l (.fz z l) := Or.inl rfl
theorem Sl.nil (z : Nat) : Sl z [] .nils := Or.inr ⟨rfl, rfl⟩
theorem Sl.get {z : Nat} {α : Type} {g : α → AV} {l : List α} {v} (h : Sl z (l.map g) v) {k : IntKind} {i : Nat} {x : α} (hx : l[i]? = some x) : elQ z v (.int k (i : Int)) = some (g x) := by
  rcases h with rfl | ⟨rfl, e⟩
  · exact elQ_at hx
  · have : l = [] := by simpa using e
    subst this; cases hx
def P1 : PSpecs := [(14, gYes), (74, gClone 5 48), (86, gClone 2 24)]
theorem w64 {i : Int} (h : -9000000000000 ≤ i) (h2 : i ≤ 9000000000000) : IntKind.i64.wrap i = i := wrap_i64 (by omega) (by omega)
theorem wrap_u64 {i : Int} (h : 0 ≤ i) (h2 : i ≤ 9000000000000) : IntKind.u64.wrap i = i := by
  have : IntKind.u64.wrap i = i % 18446744073709551616 := rfl
  rw [this]; omega
theorem room_le {y n : Nat} (hy : y ≤ 100) (h : n ≤ 100000000) : room y n = true := room_lt (by
  have : n * (y + 1) ≤ 100000000 * 101 := Nat.mul_le_mul h (by omega)
  simp [maxBytes]; omega)
section
variable {Q : AHeap}
def Fed.v (f : Fed) (r w l : AV) : AV := .agg [.int .i64 f.next, .int .i64 f.top, r, w, l, .int .i64 f.tries, .int .i64 f.due]
def Fed.z (f : Fed) : AV := Fed.v f (its f.ring) (its f.win) (evs f.log)
structure Sls (f : Fed) (r w l : AV) : Prop where
  r : Sl 2 (f.ring.map It.v) r
  w : Sl 2 (f.win.map It.v) w
  l : Sl 5 (f.log.map Ev.v) l
theorem c_isNaN (a : Int) : callP (penv P1) 99 [.int .i64 a] Q = some (.bool false, Q) := by
  rw [f_cmp_isNaN_int rfl]; simp
theorem c_Compare (a b : Int) : callP (penv P1) 85 [.int .i64 a, .int .i64 b] Q = some (.int .i64 (if a < b then -1 else if b < a then 1 else 0), Q) := by
  rw [f_cmp_Compare_int rfl]
  by_cases h1 : a < b <;> by_cases h2 : b < a <;> simp [c_isNaN, h1, h2]
theorem c_First {l : List It} {v : AV} (h : Sl 2 (l.map It.v) v) : callP (penv P1) 61 [v] Q = some (.int .i64 (first l), Q) := by
  rw [f_win_First rfl, h.len]
  cases l with
  | nil => simp [first]
  | cons x l =>
    have e := h.get (k := .i64) (i := 0) (x := x) rfl
    have n : ((l.length : Int) + 1 = 0) = False := eq_false (by omega)
    simp only [show ((0 : Nat) : Int) = 0 from rfl] at e
    simp [n, e, first]
end
end Go.Proofs.Ytccgolmdhikdoaa.Pn
/- What the laws of nak lean on: the natives' rules. -/
set_option linter.unusedVariables false
set_option linter.unusedSimpArgs false
namespace Go.Proofs.Ytccgolmdhikdoaa.Pn
open Go.Ab
set_option maxRecDepth 100000
theorem begun_runs : tellsTrue ((frun (env []) 100000).1 14 [] AHeap.empty) = true := by kernel_rfl
def S1 : Specs := [(14, gTrue)]
theorem ok_S1 : SpecsOk S1 := ok_cons (closedOk begun_runs) ok_nil
theorem pe1 : PEnvOk (env S1) (penv P1) := by
  refine penvOk (by decide) fun q hq => ?_
  simp only [P1, List.mem_cons, List.not_mem_nil, or_false] at hq
  rcases hq with rfl | rfl | rfl
  · exact yes_ok (by decide) rfl
  · exact clone_slices_Clone_api_Event_api_Event rfl
  · exact clone_slices_Clone_api_Item_api_Item rfl
end Go.Proofs.Ytccgolmdhikdoaa.Pn
/- Numbers from which choices are read. -/
set_option linter.unusedVariables false
set_option linter.unusedSimpArgs false
namespace Go.Proofs.Ytccgolmdhikdoaa.Pn
open Go.Ab Go.Feed
set_option maxRecDepth 100000
def Pk (Q : AHeap) (r : Nat) (l : List Int) : Prop := ∃ n : Nat, n ≤ l.length ∧ Q.get r = some (.cells .exact 2 [.fz 1 (l.map (AV.int .u8)), .int .i64 n])
def Oth (r : Nat) (Q Q' : AHeap) : Prop := Q'.size = Q.size ∧ ∀ s, s ≠ r → Q'.get s = Q.get s
theorem Oth.refl (r : Nat) (Q : AHeap) : Oth r Q Q := ⟨rfl, fun _ _ => rfl⟩
theorem Oth.trans {r : Nat} {Q Q1 Q2 : AHeap} (a : Oth r Q Q1) (b : Oth r Q1 Q2) : Oth r Q Q2 := ⟨b.1.trans a.1, fun s hs => (b.2 s hs).trans (a.2 s hs)⟩
def Bs (l : List Int) : Prop := ∀ n ∈ l, 0 ≤ n ∧ n ≤ 255
@[simp] theorem rcv_ptr (b : Bool) (r o : Nat) : rcv b .n (.ptr r o) = some (.ptr r o) := (Eq.refl _).trans (Eq.refl _)
section
variable {Q : AHeap} {r : Nat} {l : List Int}
theorem ld_2 {k : Kd} {z : Nat} {a b : AV} (h : Q.get r = some (.cells k z [a, b])) : ldQ Q (.ptr r 0) = some a ∧ ldQ Q (.ptr r 1) = some b := by
  simp [ldQ, ldA, AHeap.cell, h]
theorem ow_2 {z : Nat} {a b : AV} {x : Int} (h : Q.get r = some (.cells .exact z [a, b])) : objWrite (Q.get r) 1 [.int .i64 x] = some (.cells .exact z [a, .int .i64 x]) := by
  rw [h]; simp [objWrite, splice, AV.one]
theorem c_Num (h : Pk Q r l) (hl : l.length ≤ 1000) (rl : Bs l) {m : Int} (hm : 1 ≤ m ∧ m ≤ 1000) :
    ∃ (v : Int) (Q' : AHeap), callP (penv P1) 56 [.ptr r 0, .int .i64 m] Q = some (.int .i64 v, Q') ∧ (0 ≤ v ∧ v < m) ∧ Pk Q' r l ∧ Oth r Q Q' := by
  obtain ⟨n, hn, hg⟩ := h
  obtain ⟨l0, l1⟩ := ld_2 hg
  by_cases c : n = l.length
  · refine ⟨0, Q, ?_, by omega, ⟨n, hn, hg⟩, Oth.refl r Q⟩
    rw [f_pleachmade_Picks_Num rfl]
    simp [nckQ, nckA, fadQ, fadA, l0, l1, c]
  · have hlt : n < l.length := by omega
    have c' : ((l.length : Int) ≤ n) = False := eq_false (by omega)
    have w := w64 (i := (n : Int) + 1) (by omega) (by omega)
    have st := ow_2 (x := (n : Int) + 1) hg
    have hg2 : (Q.put r (some (.cells .exact 2 [.fz 1 (l.map (AV.int .u8)), .int .i64 ((n : Int) + 1)]))).get r = some (.cells .exact 2 [.fz 1 (l.map (AV.int .u8)), .int .i64 ((n : Int) + 1)]) := put_get _ _ _
    obtain ⟨l2, l3⟩ := ld_2 hg2
    have e := elQ_ints (k := .u8) (kk := .i64) (l := l) (i := (n : Int)) (by omega) (by omega)
    have hv : 0 ≤ l.getD n 0 ∧ l.getD n 0 ≤ 255 := by
      rw [List.getD_eq_getElem?_getD, List.getElem?_eq_getElem hlt]; exact rl _ (List.getElem_mem _)
    simp only [Int.toNat_natCast] at e
    have m1 : ((m : Int) < 1) = False := eq_false (by omega)
    have m0 : ¬ m = 0 := by omega
    have w1 := w64 (i := l.getD n 0) (by omega) (by omega)
    have w2 := w64 (i := (n : Int) + 1 - 1) (by omega) (by omega)
    rw [Int.add_sub_cancel] at w2
    have tm : (l.getD n 0).tmod m = l.getD n 0 % m := Int.tmod_eq_emod_of_nonneg hv.1
    have r0 := Int.emod_nonneg (l.getD n 0) m0
    have r1 := Int.emod_lt_of_pos (l.getD n 0) (show 0 < m by omega)
    have w3 := w64 (i := l.getD n 0 % m) (by omega) (by omega)
    refine ⟨l.getD n 0 % m, _, ?_, ⟨r0, r1⟩, ⟨n + 1, hlt, hg2⟩, ⟨by simp, fun s hs => put_ne Q _ hs⟩⟩
    generalize l.getD n 0 = x at *
    rw [f_pleachmade_Picks_Num rfl]
    simp [nckQ, nckA, fadQ, fadA, l0, l1, l2, l3, c', w, st, m1, m0, w1, w2, tm, w3, e, Int.add_sub_cancel]
theorem c_Over (h : Pk Q r l) (hl : l.length ≤ 1000) : ∃ b, callP (penv P1) 57 [.ptr r 0] Q = some (.bool b, Q) := by
  obtain ⟨n, hn, hg⟩ := h
  obtain ⟨l0, l1⟩ := ld_2 hg
  refine ⟨decide ((l.length : Int) ≤ n), ?_⟩
  rw [f_pleachmade_Picks_Over rfl]
  simp [nckQ, nckA, fadQ, fadA, l0, l1]
theorem c_Made {l : List Int} (Q : AHeap) : ∃ Q', callP (penv P1) 15 [.fz 1 (l.map (AV.int .u8))] Q = some (.ptr Q.size 0, Q') ∧ Pk Q' Q.size l ∧ Q'.size = Q.size + 1 ∧ ∀ s, s ≠ Q.size → Q'.get s = Q.get s := by
  refine ⟨Q.push (some (.cells .exact 2 [.fz 1 (l.map (AV.int .u8)), .int .i64 0])), ?_, ⟨0, Nat.zero_le _, by rw [AHeap.get_push]; simp⟩, by simp, fun s hs => by rw [AHeap.get_push, if_neg hs]⟩
  rw [f_pleachmade_Made rfl]
  simp [newcA, AV.cells, AV.one]
theorem c_Text (h : Pk Q r l) (hl : l.length ≤ 1000) (rl : Bs l) : ∃ (t : List UInt8) (Q' : AHeap), callP (penv P1) 60 [.ptr r 0] Q = some (.str t, Q') ∧ t.length ≤ 12 ∧ Pk Q' r l ∧ Oth r Q Q' := by
  obtain ⟨v, Q', e, hv, hp, ho⟩ := c_Num h hl rl (m := 5) (by omega)
  have key : ∀ (v : Int) (t : List UInt8), t.length ≤ 12 → elQ 1 (.fz 1 [.str [], .str [97], .str [98, 99], .str [104, 101, 108, 108, 111], .str [116, 119, 101, 108, 118, 101, 32, 98, 121, 116, 101, 115]]) (.int .i64 v) = some (.str t) → callP (penv P1) 56 [.ptr r 0, .int .i64 5] Q = some (.int .i64 v, Q') →
      ∃ (t : List UInt8) (Q' : AHeap), callP (penv P1) 60 [.ptr r 0] Q = some (.str t, Q') ∧ t.length ≤ 12 ∧ Pk Q' r l ∧ Oth r Q Q' := fun v t ht he e => by
    refine ⟨t, Q', ?_, ht, hp, ho⟩
    rw [f_pleachmade_Picks_Text rfl]
    simp [e, he]
  have c : v = 0 ∨ v = 1 ∨ v = 2 ∨ v = 3 ∨ v = 4 := by omega
  rcases c with rfl | rfl | rfl | rfl | rfl
  · exact key 0 [] (by decide) rfl e
  · exact key 1 [97] (by decide) rfl e
  · exact key 2 [98, 99] (by decide) rfl e
  · exact key 3 [104, 101, 108, 108, 111] (by decide) rfl e
  · exact key 4 [116, 119, 101, 108, 118, 101, 32, 98, 121, 116, 101, 115] (by decide) rfl e
end
end Go.Proofs.Ytccgolmdhikdoaa.Pn
/- What the functions of feed come to. -/
set_option linter.unusedVariables false
set_option linter.unusedSimpArgs false
namespace Go.Proofs.Ytccgolmdhikdoaa.Pn
open Go.Ab Go.Feed
set_option maxRecDepth 100000
section
variable {Q : AHeap}
theorem c_Wants {f : Fed} {r w l : AV} (hs : Sls f r w l) (hb : ∀ x ∈ f.win, -4000000000 ≤ x.seq ∧ x.seq ≤ 4000000000) : callP (penv P1) 17 [Fed.v f r w l] Q = some (.tup [Sp.v (wants f).1, .bool (wants f).2], Q) := by
  unfold Fed.v
  rw [f_nak_Wants rfl]
  unfold wants
  have cf := fun (Q : AHeap) => c_First (Q := Q) hs.w
  have hl := hs.w.len
  simp only [List.length_map] at hl
  cases hw : f.win with
  | nil =>
    rw [hw] at hl
    by_cases c1 : f.next = 0
    · simp [hs.r.one, hs.w.one, hs.l.one, hl, p_nak_Wants_0, c1, Sp.v]
    · by_cases c2 : f.top < f.next <;> simp [hs.r.one, hs.w.one, hs.l.one, hl, p_nak_Wants_0, c1, c2, Sp.v]
  | cons x win =>
    rw [hw] at hl cf
    have hx := hb x (by rw [hw]; exact List.mem_cons_self)
    have w1 := w64 (i := x.seq - 1) (by omega) (by omega)
    have z : (0 : Int) < (win.length : Int) + 1 := by omega
    by_cases c1 : f.next = 0
    · simp [hs.r.one, hs.w.one, hs.l.one, hl, cf, p_nak_Wants_0, c1, Sp.v, first, w1, z]
    · by_cases c2 : x.seq - 1 < f.next <;> simp [hs.r.one, hs.w.one, hs.l.one, hl, cf, p_nak_Wants_0, c1, c2, Sp.v, first, w1, z]
end
end Go.Proofs.Ytccgolmdhikdoaa.Pn
