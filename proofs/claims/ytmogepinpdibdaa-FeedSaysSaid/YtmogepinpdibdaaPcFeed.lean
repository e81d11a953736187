/- What the functions of win, ring, log, nak, feed come to. -/
import Derived.Test.YtmogepinpdibdaaPfe
import Derived.Test.YtmogepinpdibdaaPmFeed
set_option linter.unusedVariables false
set_option linter.unusedSimpArgs false
namespace Go.Proofs.Ytmogepinpdibdaa.Pf
open Go.Ab Go.Feed
set_option maxRecDepth 100000
def It.v (i : It) : AV := .agg [.int .i64 i.seq, .str i.text]
def Ev.v (e : Ev) : AV := .agg [.int .i64 e.kind, .int .i64 e.lo, .int .i64 e.hi, .str e.text, .int .i64 e.why]
def Sp.v (s : Sp) : AV := .agg [.int .i64 s.1, .int .i64 s.2]
@[simp] theorem It_v (i : It) : It.v i = .agg [.int .i64 i.seq, .str i.text] := rfl
abbrev its (l : List It) : AV := .fz 2 (l.map It.v)
abbrev evs (l : List Ev) : AV := .fz 5 (l.map Ev.v)
def Sl (z : Nat) (l : List AV) (v : AV) : Prop := v = .fz z l ∨ (v = .nils ∧ l = [])
theorem Sl.one {z l v} (h : Sl z l v) : AV.one v = true := by rcases h with rfl | ⟨rfl, _⟩ <;> rfl
theorem Sl.tup {z l v} (h : Sl z l v) : AV.isTup v = false := by rcases h with rfl | ⟨rfl, _⟩ <;> rfl
theorem Sl.len {z l v} (h : Sl z l v) : lenQ v = some (.int .i64 l.length) := by rcases h with rfl | ⟨rfl, rfl⟩ <;> rfl
theorem Sl.fz (z : Nat) (l : List AV) : Sl z l (.fz z l) := Or.inl rfl
theorem Sl.nil (z : Nat) : Sl z [] .nils := Or.inr ⟨rfl, rfl⟩
theorem Sl.clone {z l v} (h : Sl z l v) {y : Nat} (hr : room y l.length = true) : gClone z y [v] = some (.ow z l) := by
  rcases h with rfl | ⟨rfl, rfl⟩
  · simp [gClone, hr]
  · simp [gClone]
theorem Sl.get {z : Nat} {α : Type} {g : α → AV} {l : List α} {v} (h : Sl z (l.map g) v) {k : IntKind} {i : Nat} {x : α} (hx : l[i]? = some x) : elQ z v (.int k (i : Int)) = some (g x) := by
  rcases h with rfl | ⟨rfl, e⟩
  · exact elQ_at hx
  · have : l = [] := by simpa using e
    subst this; cases hx
def P1 : PSpecs := [(13, gYes), (36, gClone 5 48), (56, gClone 2 24), (68 + tkey, gInsP 2 24)]
theorem w64 {i : Int} (h : -9000000000000 ≤ i) (h2 : i ≤ 9000000000000) : IntKind.i64.wrap i = i := wrap_i64 (by omega) (by omega)
theorem room_le {y n : Nat} (hy : y ≤ 100) (h : n ≤ 100000000) : room y n = true := room_lt (by
  have : n * (y + 1) ≤ 100000000 * 101 := Nat.mul_le_mul h (by omega)
  simp [maxBytes]; omega)
section
variable {Q : AHeap}
theorem c_cloneI {l : List It} {v : AV} (h : Sl 2 (l.map It.v) v) (hl : l.length ≤ 1000000) : callP (penv P1) 56 [v] Q = some (.ow 2 (l.map It.v), Q) := by
  rw [callP_spec (g := gClone 2 24) rfl, h.clone (room_le (by omega) (by simp; omega))]; rfl
theorem c_cloneE {l : List Ev} {v : AV} (h : Sl 5 (l.map Ev.v) v) (hl : l.length ≤ 1000000) : callP (penv P1) 36 [v] Q = some (.ow 5 (l.map Ev.v), Q) := by
  rw [callP_spec (g := gClone 5 48) rfl, h.clone (room_le (by omega) (by simp; omega))]; rfl
def Fed.v (f : Fed) (r w l : AV) : AV := .agg [.int .i64 f.next, .int .i64 f.top, r, w, l, .int .i64 f.tries, .int .i64 f.due]
def Fed.z (f : Fed) : AV := Fed.v f (its f.ring) (its f.win) (evs f.log)
structure Sls (f : Fed) (r w l : AV) : Prop where
  r : Sl 2 (f.ring.map It.v) r
  w : Sl 2 (f.win.map It.v) w
  l : Sl 5 (f.log.map Ev.v) l
theorem c_ftwin {f : Fed} {r w l : AV} (h : Sls f r w l) (hs : Small f) : callP (penv P1) 37 [Fed.v f r w l] Q = some (Fed.z f, Q) := by
  unfold Fed.v
  rw [f_feed_twin rfl]
  simp [h.r.one, h.w.one, h.l.one, c_cloneI h.r hs.r, c_cloneI h.w hs.w, c_cloneE h.l hs.l, Fed.z, Fed.v]
theorem c_Tell {l : List Ev} {v : AV} (h : Sl 5 (l.map Ev.v) v) (hl : l.length ≤ 900000) (i : It) : callP (penv P1) 45 [v, .int .i64 i.seq, .str i.text] Q = some (.ow 5 ((l ++ [told i]).map Ev.v), Q) := by
  rw [f_log_Tell rfl]
  have r : room 48 (l.length + 1) = true := room_le (by omega) (by omega)
  simp [c_cloneE h (by omega), r, Ev.v, told]
theorem c_ringAdd {l : List It} {v : AV} (h : Sl 2 (l.map It.v) v) (hl : l.length ≤ 900000) (i : It) : callP (penv P1) 46 [v, It.v i] Q = some (.ow 2 ((ringAdd l i).map It.v), Q) := by
  rw [It_v, f_ring_Add rfl]
  have r : room 24 (l.length + 1) = true := room_le (by omega) (by omega)
  have w6 := w64 (i := (l.length : Int) + 1 - 6) (by omega) (by omega)
  have hs : slcQ 2 (.fz 2 (l.map It.v ++ [.agg [.int .i64 i.seq, .str i.text]])) (some (.int .i64 (max ((l.length : Int) + 1 - 6) 0))) none = some (its ((l ++ [i]).drop (l.length + 1 - 6))) := by
    have b : (0 ≤ max ((l.length : Int) + 1 - 6) 0 ∧ max ((l.length : Int) + 1 - 6) 0 ≤ (l.length : Int) + 1) = True := eq_true (by omega)
    have t : (max ((l.length : Int) + 1 - 6) 0).toNat = l.length + 1 - 6 := by omega
    rw [slcQ_fz (by omega)]
    simp only [bndo_none, bndo_int, List.length_append, List.length_map, List.length_singleton, Int.natCast_add, Int.natCast_one, b, if_true, t]
    rw [List.take_of_length_le (by simp), its, List.map_drop, List.map_append]; rfl
  have hc : callP (penv P1) 56 [its ((l ++ [i]).drop (l.length + 1 - 6))] Q = some (.ow 2 (((l ++ [i]).drop (l.length + 1 - 6)).map It.v), Q) := c_cloneI (Sl.fz 2 _) (by simp; omega)
  unfold ringAdd
  generalize (l ++ [i]).drop (l.length + 1 - 6) = D at *
  cases hn : l.length with
  | zero =>
    have : l = [] := List.length_eq_zero_iff.1 hn
    subst this
    simp at hs r
    simp [c_cloneI h (by omega), h.len, r, w64, hs, hc]
  | succ n =>
    have hx := getD_at (l := l) (k := n) (by omega)
    have e := h.get (k := .i64) hx
    have w1' : IntKind.i64.wrap (n : Int) = n := w64 (by omega) (by omega)
    rw [hn] at r w6 hs
    simp only [Int.natCast_add, Int.natCast_one] at r w6 hs
    have z : (0 : Int) < (n : Int) + 1 := by omega
    by_cases c : i.seq ≤ (l.getD n default).seq
    · simp [c_cloneI h (by omega), h.len, hn, z, w1', e, c, -List.getD_eq_getElem?_getD]
    · simp [c_cloneI h (by omega), h.len, hn, z, w1', e, c, -List.getD_eq_getElem?_getD, r, w6, hs, hc]
theorem sls_z (f : Fed) : Sls f (its f.ring) (its f.win) (evs f.log) := ⟨Sl.fz 2 _, Sl.fz 2 _, Sl.fz 5 _⟩
end
end Go.Proofs.Ytmogepinpdibdaa.Pf
