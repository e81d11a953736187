/- What the functions of feed come to. -/
import Derived.Test.YtccgolmdhikdoaaPcFeed
set_option linter.unusedVariables false
set_option linter.unusedSimpArgs false
namespace Go.Proofs.Ytccgolmdhikdoaa.Pn
open Go.Ab Go.Feed
set_option maxRecDepth 100000
section
variable {Q : AHeap}
end
end Go.Proofs.Ytccgolmdhikdoaa.Pn
/- What the document's functions for net, ring, win, log, nak, feed come to: the same. -/
set_option linter.unusedVariables false
set_option linter.unusedSimpArgs false
namespace Go.Proofs.Ytccgolmdhikdoaa.Pn
open Go.Ab Go.Feed
set_option maxRecDepth 100000
section
variable {Q : AHeap}
theorem Sl.src {z l v} (h : Sl z l v) (ω : PW) : srcT ω z (.v v) = some l := by rcases h with rfl | ⟨rfl, rfl⟩ <;> simp
theorem Sl.rcv {z l v} (h : Sl z l v) : rcv false (.f z) v = some (.fz z l) := by rcases h with rfl | ⟨rfl, rfl⟩ <;> simp
theorem d_Tell {l : List Ev} {v : AV} (h : Sl 5 (l.map Ev.v) v) (hl : l.length ≤ 900000) (i : It) : callP (penv P1) 43 [v, .int .i64 i.seq, .str i.text] Q = some (.ow 5 ((l ++ [told i]).map Ev.v), Q) := by
  rw [f_pleachref13_Tell rfl]
  have r : room 48 (l.length + 1) = true := room_le (by omega) (by omega)
  have r2 : room 48 l.length = true := room_le (by omega) (by omega)
  simp [h.src, r, r2, Ev.v, told]
theorem d_Skip {l : List Ev} {v : AV} (h : Sl 5 (l.map Ev.v) v) (hl : l.length ≤ 900000) (lo hi why : Int) : callP (penv P1) 45 [v, .int .i64 lo, .int .i64 hi, .int .i64 why] Q = some (.ow 5 ((l ++ [gapE lo hi why]).map Ev.v), Q) := by
  rw [f_pleachref13_Skip rfl]
  have r : room 48 (l.length + 1) = true := room_le (by omega) (by omega)
  have r2 : room 48 l.length = true := room_le (by omega) (by omega)
  simp [h.src, r, r2, Ev.v, gapE]
end
end Go.Proofs.Ytccgolmdhikdoaa.Pn
/- What the document's functions for feed come to: the same. -/
set_option linter.unusedVariables false
set_option linter.unusedSimpArgs false
namespace Go.Proofs.Ytccgolmdhikdoaa.Pn
open Go.Ab Go.Feed
set_option maxRecDepth 100000
section
variable {Q : AHeap}
def putT (l : List It) (p : Nat) (x : It) (i : Nat) : List It := if i ≤ p then l.take i else l.take p ++ [x] ++ (l.drop p).take (i - p)
end
end Go.Proofs.Ytccgolmdhikdoaa.Pn
/- What the document's functions for feed come to: the same. Feeds that are the same. -/
set_option linter.unusedVariables false
set_option linter.unusedSimpArgs false
namespace Go.Proofs.Ytccgolmdhikdoaa.Pn
open Go.Ab Go.Feed
set_option maxRecDepth 100000
section
variable {Q : AHeap}
end
end Go.Proofs.Ytccgolmdhikdoaa.Pn
