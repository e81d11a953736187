/- What the functions of feed come to. -/
import Derived.Test.YtmogepinpdibdaaPcFeed
set_option linter.unusedVariables false
set_option linter.unusedSimpArgs false
namespace Go.Proofs.Ytmogepinpdibdaa.Pf
open Go.Ab Go.Feed
set_option maxRecDepth 100000
section
variable {Q : AHeap}
theorem c_Knows {f : Fed} {r w l : AV} (hs : Sls f r w l) (h : Small f) (t : Int) : callP (penv P1) 22 [Fed.v f r w l, .int .i64 t] Q = some (Fed.z (f.knows t), Q) := by
  have ct := fun (Q : AHeap) => c_ftwin (Q := Q) hs h
  unfold Fed.v at ct ⊢
  rw [f_feed_Knows rfl]
  simp only [Fed.z, Fed.v] at ct ⊢
  unfold Fed.knows
  by_cases c1 : 0 < f.next
  · by_cases c2 : t ≤ 1000000 <;> simp [hs.r.one, hs.w.one, hs.l.one, ct, c1, c2, p_feed_Knows_0]
  · simp [hs.r.one, hs.w.one, hs.l.one, ct, c1, p_feed_Knows_0]
theorem c_Begin {f : Fed} {r w l : AV} (hs : Sls f r w l) (h : Small f) (n : Int) : callP (penv P1) 18 [Fed.v f r w l, .int .i64 n] Q = some (Fed.z (f.begin_ n), Q) := by
  have ct := fun (Q : AHeap) => c_ftwin (Q := Q) hs h
  have ck := fun (Q : AHeap) => c_Knows (Q := Q) hs h (IntKind.i64.wrap (n - 1))
  unfold Fed.v at ct ck ⊢
  rw [f_feed_Begin rfl]
  unfold Fed.begin_
  generalize f.knows (IntKind.i64.wrap (n - 1)) = K at *
  simp only [Fed.z, Fed.v] at ct ck ⊢
  by_cases c1 : 0 < f.next
  · simp [hs.r.one, hs.w.one, hs.l.one, ck, c1]
  · by_cases c2 : 1 ≤ n
    · by_cases c3 : n ≤ 1000000 <;> simp [hs.r.one, hs.w.one, hs.l.one, ct, c1, c2, c3, p_feed_Begin_0]
    · simp [hs.r.one, hs.w.one, hs.l.one, ct, c1, c2, p_feed_Begin_0]
theorem c_Comes {f : Fed} {r w l : AV} (hs : Sls f r w l) (h : Bd f 10) (hr : f.ring.length + f.win.length ≤ 600000) (hso : Sorted f.win) (hn : f.next + f.win.length ≤ 3000000000) (i : It) : callP (penv P1) 24 [Fed.v f r w l, It.v i] Q = some (Fed.z (f.comes i), Q) := by
  have ct := fun (Q : AHeap) => c_ftwin (Q := Q) hs h.small
  have ck := fun (Q : AHeap) => c_Knows (Q := Q) hs h.small i.seq
  unfold Fed.v at ct ck ⊢
  rw [It_v, f_feed_Comes rfl]
  unfold Fed.comes
  by_cases c1 : f.next = 0
  · have c1 := eq_true c1
    simp only [Fed.z, Fed.v] at ct ⊢
    simp [hs.r.one, hs.w.one, hs.l.one, ct, c1]
  by_cases c2 : i.seq < 1
  · simp only [Fed.z, Fed.v] at ct ⊢
    simp [hs.r.one, hs.w.one, hs.l.one, ct, c1, c2]
  by_cases c3 : 1000000 < i.seq
  · simp only [Fed.z, Fed.v] at ct ⊢
    simp [hs.r.one, hs.w.one, hs.l.one, ct, c1, c2, c3]
  by_cases c4 : 12 < i.text.length
  · simp only [Fed.z, Fed.v] at ct ⊢
    have c4' : (12 : Int) < i.text.length := by omega
    simp [hs.r.one, hs.w.one, hs.l.one, ct, c1, c2, c3, c4, c4']
  have c4' : ¬ (12 : Int) < i.text.length := by omega
  have kb := h.knows i.seq
  obtain ⟨k1, k2, k3, k4⟩ := knows_eq f i.seq
  generalize f.knows i.seq = K at *
  have cp := fun (Q : AHeap) => c_Put (Q := Q) (v := its K.win) (Sl.fz 2 (K.win.map It.v)) (by have := kb.r; omega) (by rw [k2]; exact hso) (n := K.next) (x := i) (by have := kb.n0; have := kb.n1; omega) (by omega)
  have pl := put_len K.win K.next i
  have pb : Bd ({ K with win := (put K.win K.next i).1 } : Fed) 1 := by
    have a := kb.r
    have b := kb.l
    have c := kb.n0
    have d := kb.n1
    refine ⟨?_, ?_, c, ?_, fun x hx => ?_⟩
    · show K.ring.length + (put K.win K.next i).1.length ≤ 700000
      rw [k3, k2] at *; omega
    · show K.log.length + 2 * (put K.win K.next i).1.length + 1 ≤ 700000
      omega
    · show K.next + ((put K.win K.next i).1.length : Int) ≤ 4000000000
      rw [k1, k2] at *; omega
    · rcases put_mem hx with h | rfl
      · exact kb.w x h
      · omega
  have cg := fun (Q : AHeap) => c_Goes (Q := Q) pb (sls_z _)
  rw [It_v] at cp
  generalize put K.win K.next i = W at *
  generalize ({ K with win := W.1 } : Fed).tells = T at *
  obtain ⟨W, wb⟩ := W
  obtain ⟨T, ti⟩ := T
  simp only [Fed.z, Fed.v] at ck cg ⊢
  simp [hs.r.one, hs.w.one, hs.l.one, ck, c1, c2, c3, c4, c4', cp, cg]
end
end Go.Proofs.Ytmogepinpdibdaa.Pf
