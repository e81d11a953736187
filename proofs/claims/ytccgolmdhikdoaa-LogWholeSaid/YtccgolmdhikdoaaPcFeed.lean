/- What the functions of win, ring, log, nak, feed come to. -/
import Derived.Test.YtccgolmdhikdoaaPne
import Derived.Test.YtccgolmdhikdoaaPmFeed
set_option linter.unusedVariables false
set_option linter.unusedSimpArgs false
namespace Go.Proofs.Ytccgolmdhikdoaa.Pn
open Go.Ab Go.Feed
set_option maxRecDepth 100000
def It.v (i : It) : AV := .agg [.int .i64 i.seq, .str i.text]
def Ev.v (e : Ev) : AV := .agg [.int .i64 e.kind, .int .i64 e.lo, .int .i64 e.hi, .str e.text, .int .i64 e.why]
def Sp.v (s : Sp) : AV := .agg [.int .i64 s.1, .int .i64 s.2]
@[simp] theorem It_v (i : It) : It.v i = .agg [.int .i64 i.seq, .str i.text] := rfl
abbrev its (l : List It) : AV := .fz 2 (l.map It.v)
abbrev evs (l : List Ev) : AV := .fz 5 (l.map Ev.v)
def Sl (z : Nat) (l : List AV) (v : AV) : Prop := v = .fz z l ∨ (v = .nils ∧ l = [])
theorem Sl.one {z l v} (h : Sl z l v) : AV.one v = true := by rcases h with rfl | ⟨rfl, _⟩ <;> rfl
theorem Sl.tup {z l v} (h : Sl z l v) : AV.isTup v = false := by rcases h with rfl | ⟨rfl, _⟩ <;> rfl
theorem Sl.len {z l v} (h : Sl z l v) : lenQ v = some (.int .i64 l.length) := by rcases h with rfl | ⟨rfl, rfl⟩ <;> rfl
theorem Sl.fz (z : Nat) (l : List AV) : Sl z l (.fz z l) := Or.inl rfl
theorem Sl.nil (z : Nat) : Sl z [] .nils := Or.inr ⟨rfl, rfl⟩
theorem Sl.clone {z l v} (h : Sl z l v) {y : Nat} (hr : room y l.length = true) : gClone z y [v] = some (.ow z l) := by
  rcases h with rfl | ⟨rfl, rfl⟩
  · simp [gClone, hr]
  · simp [gClone]
theorem Sl.get {z : Nat} {α : Type} {g : α → AV} {l : List α} {v} (h : Sl z (l.map g) v) {k : IntKind} {i : Nat} {x : α} (hx : l[i]? = some x) : elQ z v (.int k (i : Int)) = some (g x) := by
  rcases h with rfl | ⟨rfl, e⟩
  · exact elQ_at hx
  · have : l = [] := by simpa using e
    subst this; cases hx
def P1 : PSpecs := [(14, gYes), (74, gClone 5 48), (86, gClone 2 24), (36, gYes), (92, gClone 2 16), (93 + tkey, gInsP 2 16)]
theorem w64 {i : Int} (h : -9000000000000 ≤ i) (h2 : i ≤ 9000000000000) : IntKind.i64.wrap i = i := wrap_i64 (by omega) (by omega)
theorem room_le {y n : Nat} (hy : y ≤ 100) (h : n ≤ 100000000) : room y n = true := room_lt (by
  have : n * (y + 1) ≤ 100000000 * 101 := Nat.mul_le_mul h (by omega)
  simp [maxBytes]; omega)
section
variable {Q : AHeap}
theorem c_cloneE {l : List Ev} {v : AV} (h : Sl 5 (l.map Ev.v) v) (hl : l.length ≤ 1000000) : callP (penv P1) 74 [v] Q = some (.ow 5 (l.map Ev.v), Q) := by
  rw [callP_spec (g := gClone 5 48) rfl, h.clone (room_le (by omega) (by simp; omega))]; rfl
def Fed.v (f : Fed) (r w l : AV) : AV := .agg [.int .i64 f.next, .int .i64 f.top, r, w, l, .int .i64 f.tries, .int .i64 f.due]
def Fed.z (f : Fed) : AV := Fed.v f (its f.ring) (its f.win) (evs f.log)
structure Sls (f : Fed) (r w l : AV) : Prop where
  r : Sl 2 (f.ring.map It.v) r
  w : Sl 2 (f.win.map It.v) w
  l : Sl 5 (f.log.map Ev.v) l
theorem c_Tell {l : List Ev} {v : AV} (h : Sl 5 (l.map Ev.v) v) (hl : l.length ≤ 900000) (i : It) : callP (penv P1) 42 [v, .int .i64 i.seq, .str i.text] Q = some (.ow 5 ((l ++ [told i]).map Ev.v), Q) := by
  rw [f_log_Tell rfl]
  have r : room 48 (l.length + 1) = true := room_le (by omega) (by omega)
  simp [c_cloneE h (by omega), r, Ev.v, told]
theorem c_Skip {l : List Ev} {v : AV} (h : Sl 5 (l.map Ev.v) v) (hl : l.length ≤ 900000) (lo hi why : Int) : callP (penv P1) 44 [v, .int .i64 lo, .int .i64 hi, .int .i64 why] Q = some (.ow 5 ((l ++ [gapE lo hi why]).map Ev.v), Q) := by
  rw [f_log_Skip rfl]
  have r : room 48 (l.length + 1) = true := room_le (by omega) (by omega)
  simp [c_cloneE h (by omega), r, Ev.v, gapE]
end
end Go.Proofs.Ytccgolmdhikdoaa.Pn
