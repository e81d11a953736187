/- What the document's functions for net, ring, win, log, nak, feed come to: the same. -/
import Derived.Test.YtmogepinpdibdaaPcFeed2
set_option linter.unusedVariables false
set_option linter.unusedSimpArgs false
namespace Go.Proofs.Ytmogepinpdibdaa.Pf
open Go.Ab Go.Feed
set_option maxRecDepth 100000
section
variable {Q : AHeap}
theorem Sl.src {z l v} (h : Sl z l v) (ω : PW) : srcT ω z (.v v) = some l := by rcases h with rfl | ⟨rfl, rfl⟩ <;> simp
theorem Sl.rcv {z l v} (h : Sl z l v) : rcv false (.f z) v = some (.fz z l) := by rcases h with rfl | ⟨rfl, rfl⟩ <;> simp
theorem d_Tell {l : List Ev} {v : AV} (h : Sl 5 (l.map Ev.v) v) (hl : l.length ≤ 900000) (i : It) : callP (penv P1) 47 [v, .int .i64 i.seq, .str i.text] Q = some (.ow 5 ((l ++ [told i]).map Ev.v), Q) := by
  rw [f_pleachref13_Tell rfl]
  have r : room 48 (l.length + 1) = true := room_le (by omega) (by omega)
  have r2 : room 48 l.length = true := room_le (by omega) (by omega)
  simp [h.src, r, r2, Ev.v, told]
theorem d_ringAdd {l : List It} {v : AV} (h : Sl 2 (l.map It.v) v) (hl : l.length ≤ 6) (i : It) : callP (penv P1) 48 [v, It.v i] Q = some (.fz 2 ((ringAdd l i).map It.v), Q) := by
  rw [It_v, f_pleachref13_AddRing rfl]
  have r : room 24 (l.length + 1) = true := room_le (by omega) (by omega)
  have r2 : room 24 l.length = true := room_le (by omega) (by omega)
  have tl : (if 6 < (l.length : Int) + 1 then True else True) := by split <;> trivial
  unfold ringAdd
  cases hn : l.length with
  | zero =>
    have : l = [] := List.length_eq_zero_iff.1 hn
    subst this
    simp at r r2
    simp [h.src, h.len, r, r2, p_pleachref13_AddRing_0]
  | succ n =>
    have hx := getD_at (l := l) (k := n) (by omega)
    have e := h.get (k := .i64) hx
    have w1' : IntKind.i64.wrap (n : Int) = n := w64 (by omega) (by omega)
    rw [hn] at r r2
    have z : (0 : Int) < (n : Int) + 1 := by omega
    by_cases c : i.seq ≤ (l.getD n default).seq
    · simp [h.src, h.len, hn, z, w1', e, c, r2, -List.getD_eq_getElem?_getD, p_pleachref13_AddRing_0]
    · by_cases h6 : n = 5
      · subst h6
        have hs : slcQ 2 (.fz 2 (l.map It.v ++ [.agg [.int .i64 i.seq, .str i.text]])) (some (.int .i64 1)) none = some (.fz 2 (((l ++ [i]).drop 1).map It.v)) := by
          rw [slcQ_fz (by omega)]
          simp only [bndo_none, bndo_int, List.length_append, List.length_map, hn, List.length_singleton]
          rw [if_pos (by omega)]
          simp only [show (1 : Int).toNat = 1 from rfl]
          rw [List.take_of_length_le (by simp [hn]), List.map_drop, List.map_append]; rfl
        have hD : (l ++ [i]).drop (5 + 1 + 1 - 6) = (l ++ [i]).drop 1 := rfl
        rw [hD]
        generalize (l ++ [i]).drop 1 = D at *
        have e5 : elQ 2 v (.int .i64 5) = some (It.v (l.getD 5 default)) := e
        have w5 : IntKind.i64.wrap 5 = 5 := w64 (by omega) (by omega)
        simp [h.src, h.len, hn, w5, e5, c, r, r2, -List.getD_eq_getElem?_getD, p_pleachref13_AddRing_0, hs]
      · have h5 : ¬ 6 < (n : Int) + 1 + 1 := by omega
        have hd : n + 1 + 1 - 6 = 0 := by omega
        simp [h.src, h.len, hn, z, w1', e, c, r, r2, h5, hd, -List.getD_eq_getElem?_getD, p_pleachref13_AddRing_0]
end
end Go.Proofs.Ytmogepinpdibdaa.Pf
