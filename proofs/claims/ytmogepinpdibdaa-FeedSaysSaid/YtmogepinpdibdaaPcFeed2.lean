/- What the functions of feed come to. -/
import Derived.Test.YtmogepinpdibdaaPcFeed
set_option linter.unusedVariables false
set_option linter.unusedSimpArgs false
namespace Go.Proofs.Ytmogepinpdibdaa.Pf
open Go.Ab Go.Feed
set_option maxRecDepth 100000
section
variable {Q : AHeap}
theorem c_Say {f : Fed} {r w l : AV} (hs : Sls f r w l) (h : Bd f 3) (text : List UInt8) : callP (penv P1) 26 [Fed.v f r w l, .str text] Q = some (.tup [Fed.z (f.say text).1, .bool (f.say text).2], Q) := by
  have ct := fun (Q : AHeap) => c_ftwin (Q := Q) hs h.small
  unfold Fed.v at ct ⊢
  rw [f_feed_Say rfl]
  unfold Fed.say
  by_cases c1 : 12 < text.length
  · have c1' : (12 : Int) < text.length := by omega
    simp only [Fed.z, Fed.v] at ct ⊢
    simp [hs.r.one, hs.w.one, hs.l.one, ct, c1, c1']
  have c1' : ¬ (12 : Int) < text.length := by omega
  by_cases c2 : 1000000 < max f.next 1
  · simp only [Fed.z, Fed.v] at ct ⊢
    simp [hs.r.one, hs.w.one, hs.l.one, ct, c1, c1', c2]
  have tl := fun (Q : AHeap) => c_Tell (Q := Q) (v := evs f.log) (Sl.fz 5 (f.log.map Ev.v)) (by have := h.l; omega) ⟨max f.next 1, text⟩
  have ra := fun (Q : AHeap) => c_ringAdd (Q := Q) (v := its f.ring) (Sl.fz 2 (f.ring.map It.v)) (by have := h.r; omega) ⟨max f.next 1, text⟩
  have w := w64 (i := max f.next 1 + 1) (by omega) (by omega)
  rw [It_v] at ra
  simp only at tl ra
  generalize f.log ++ [told ⟨max f.next 1, text⟩] = L at *
  generalize ringAdd f.ring ⟨max f.next 1, text⟩ = R at *
  simp only [Fed.z, Fed.v] at ct ⊢
  simp [hs.r.one, hs.w.one, hs.l.one, ct, c1, c1', c2, tl, ra, w]
end
end Go.Proofs.Ytmogepinpdibdaa.Pf
