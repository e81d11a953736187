/- What the functions of feed come to. -/
import Derived.Test.YtmogepinpdibdaaPcFeed
set_option linter.unusedVariables false
set_option linter.unusedSimpArgs false
namespace Go.Proofs.Ytmogepinpdibdaa.Pf
open Go.Ab Go.Feed
set_option maxRecDepth 100000
section
variable {Q : AHeap}
theorem c_Wants {f : Fed} {r w l : AV} (hs : Sls f r w l) (hb : ∀ x ∈ f.win, -4000000000 ≤ x.seq ∧ x.seq ≤ 4000000000) : callP (penv P1) 49 [Fed.v f r w l] Q = some (.tup [Sp.v (wants f).1, .bool (wants f).2], Q) := by
  unfold Fed.v
  rw [f_nak_Wants rfl]
  unfold wants
  have cf := fun (Q : AHeap) => c_First (Q := Q) hs.w
  have hl := hs.w.len
  simp only [List.length_map] at hl
  cases hw : f.win with
  | nil =>
    rw [hw] at hl
    by_cases c1 : f.next = 0
    · simp [hs.r.one, hs.w.one, hs.l.one, hl, p_nak_Wants_0, c1, Sp.v]
    · by_cases c2 : f.top < f.next <;> simp [hs.r.one, hs.w.one, hs.l.one, hl, p_nak_Wants_0, c1, c2, Sp.v]
  | cons x win =>
    rw [hw] at hl cf
    have hx := hb x (by rw [hw]; exact List.mem_cons_self)
    have w1 := w64 (i := x.seq - 1) (by omega) (by omega)
    have z : (0 : Int) < (win.length : Int) + 1 := by omega
    by_cases c1 : f.next = 0
    · simp [hs.r.one, hs.w.one, hs.l.one, hl, cf, p_nak_Wants_0, c1, Sp.v, first, w1, z]
    · by_cases c2 : x.seq - 1 < f.next <;> simp [hs.r.one, hs.w.one, hs.l.one, hl, cf, p_nak_Wants_0, c1, c2, Sp.v, first, w1, z]
theorem c_Now (f : Fed) (now : Int) : callP (penv P1) 50 [.agg [.int .i64 f.tries, .int .i64 f.due], .int .i64 now] Q = some (.bool (isNow f now), Q) := by
  rw [f_wait_Now rfl]
  unfold isNow
  by_cases c : f.tries = 0
  · simp [c]
  · by_cases c2 : f.due ≤ now <;> simp [c, c2]
theorem c_Tired (f : Fed) : callP (penv P1) 51 [.agg [.int .i64 f.tries, .int .i64 f.due]] Q = some (.bool (tired f), Q) := by
  rw [f_wait_Tired rfl]
  unfold tired
  simp
theorem c_Tried {f : Fed} {now : Int} (h : 0 ≤ f.tries ∧ f.tries < 3) (hn : -4000000000 ≤ now ∧ now ≤ 4000000000) : callP (penv P1) 52 [.agg [.int .i64 f.tries, .int .i64 f.due], .int .i64 now] Q = some (.agg [.int .i64 (f.tried now).tries, .int .i64 (f.tried now).due], Q) := by
  rw [f_wait_Tried rfl]
  unfold Fed.tried
  have h3 : f.tries = 0 ∨ f.tries = 1 ∨ f.tries = 2 := by omega
  have w1 := w64 (i := now + 2) (by omega) (by omega)
  have w2 := w64 (i := now + 4) (by omega) (by omega)
  have w3 := w64 (i := now + 8) (by omega) (by omega)
  have m0 : max (min (0 : Int) 3) 0 = 0 := by decide
  have m1 : max (min (1 : Int) 3) 0 = 1 := by decide
  have m2 : max (min (2 : Int) 3) 0 = 2 := by decide
  rcases h3 with e | e | e <;> rw [e] <;> simp [w64, w1, w2, w3, m0, m1, m2, show IntKind.i64.bits = 64 from rfl]
theorem c_Knows {f : Fed} {r w l : AV} (hs : Sls f r w l) (h : Small f) (t : Int) : callP (penv P1) 22 [Fed.v f r w l, .int .i64 t] Q = some (Fed.z (f.knows t), Q) := by
  have ct := fun (Q : AHeap) => c_ftwin (Q := Q) hs h
  unfold Fed.v at ct ⊢
  rw [f_feed_Knows rfl]
  simp only [Fed.z, Fed.v] at ct ⊢
  unfold Fed.knows
  by_cases c1 : 0 < f.next
  · by_cases c2 : t ≤ 1000000 <;> simp [hs.r.one, hs.w.one, hs.l.one, ct, c1, c2, p_feed_Knows_0]
  · simp [hs.r.one, hs.w.one, hs.l.one, ct, c1, p_feed_Knows_0]
theorem c_Begin {f : Fed} {r w l : AV} (hs : Sls f r w l) (h : Small f) (n : Int) : callP (penv P1) 18 [Fed.v f r w l, .int .i64 n] Q = some (Fed.z (f.begin_ n), Q) := by
  have ct := fun (Q : AHeap) => c_ftwin (Q := Q) hs h
  have ck := fun (Q : AHeap) => c_Knows (Q := Q) hs h (IntKind.i64.wrap (n - 1))
  unfold Fed.v at ct ck ⊢
  rw [f_feed_Begin rfl]
  unfold Fed.begin_
  generalize f.knows (IntKind.i64.wrap (n - 1)) = K at *
  simp only [Fed.z, Fed.v] at ct ck ⊢
  by_cases c1 : 0 < f.next
  · simp [hs.r.one, hs.w.one, hs.l.one, ck, c1]
  · by_cases c2 : 1 ≤ n
    · by_cases c3 : n ≤ 1000000 <;> simp [hs.r.one, hs.w.one, hs.l.one, ct, c1, c2, c3, p_feed_Begin_0]
    · simp [hs.r.one, hs.w.one, hs.l.one, ct, c1, c2, p_feed_Begin_0]
theorem c_Comes {f : Fed} {r w l : AV} (hs : Sls f r w l) (h : Bd f 10) (hr : f.ring.length + f.win.length ≤ 600000) (hso : Sorted f.win) (hn : f.next + f.win.length ≤ 3000000000) (i : It) : callP (penv P1) 24 [Fed.v f r w l, It.v i] Q = some (Fed.z (f.comes i), Q) := by
  have ct := fun (Q : AHeap) => c_ftwin (Q := Q) hs h.small
  have ck := fun (Q : AHeap) => c_Knows (Q := Q) hs h.small i.seq
  unfold Fed.v at ct ck ⊢
  rw [It_v, f_feed_Comes rfl]
  unfold Fed.comes
  by_cases c1 : f.next = 0
  · have c1 := eq_true c1
    simp only [Fed.z, Fed.v] at ct ⊢
    simp [hs.r.one, hs.w.one, hs.l.one, ct, c1]
  by_cases c2 : i.seq < 1
  · simp only [Fed.z, Fed.v] at ct ⊢
    simp [hs.r.one, hs.w.one, hs.l.one, ct, c1, c2]
  by_cases c3 : 1000000 < i.seq
  · simp only [Fed.z, Fed.v] at ct ⊢
    simp [hs.r.one, hs.w.one, hs.l.one, ct, c1, c2, c3]
  by_cases c4 : 12 < i.text.length
  · simp only [Fed.z, Fed.v] at ct ⊢
    have c4' : (12 : Int) < i.text.length := by omega
    simp [hs.r.one, hs.w.one, hs.l.one, ct, c1, c2, c3, c4, c4']
  have c4' : ¬ (12 : Int) < i.text.length := by omega
  have kb := h.knows i.seq
  obtain ⟨k1, k2, k3, k4⟩ := knows_eq f i.seq
  generalize f.knows i.seq = K at *
  have cp := fun (Q : AHeap) => c_Put (Q := Q) (v := its K.win) (Sl.fz 2 (K.win.map It.v)) (by have := kb.r; omega) (by rw [k2]; exact hso) (n := K.next) (x := i) (by have := kb.n0; have := kb.n1; omega) (by omega)
  have pl := put_len K.win K.next i
  have pb : Bd ({ K with win := (put K.win K.next i).1 } : Fed) 1 := by
    have a := kb.r
    have b := kb.l
    have c := kb.n0
    have d := kb.n1
    refine ⟨?_, ?_, c, ?_, fun x hx => ?_⟩
    · show K.ring.length + (put K.win K.next i).1.length ≤ 700000
      rw [k3, k2] at *; omega
    · show K.log.length + 2 * (put K.win K.next i).1.length + 1 ≤ 700000
      omega
    · show K.next + ((put K.win K.next i).1.length : Int) ≤ 4000000000
      rw [k1, k2] at *; omega
    · rcases put_mem hx with h | rfl
      · exact kb.w x h
      · omega
  have cg := fun (Q : AHeap) => c_Goes (Q := Q) pb (sls_z _)
  rw [It_v] at cp
  generalize put K.win K.next i = W at *
  generalize ({ K with win := W.1 } : Fed).tells = T at *
  obtain ⟨W, wb⟩ := W
  obtain ⟨T, ti⟩ := T
  simp only [Fed.z, Fed.v] at ck cg ⊢
  simp [hs.r.one, hs.w.one, hs.l.one, ck, c1, c2, c3, c4, c4', cp, cg]
theorem c_Notes {f : Fed} {r w l : AV} (hs : Sls f r w l) (h : Bd f 3) (lo hi : Int) : callP (penv P1) 20 [Fed.v f r w l, .int .i64 lo, .int .i64 hi] Q = some (Fed.z (f.notes lo hi), Q) := by
  have ct := fun (Q : AHeap) => c_ftwin (Q := Q) hs h.small
  have ck := fun (Q : AHeap) => c_Knows (Q := Q) hs h.small hi
  have cs := fun (Q : AHeap) => c_Skips (Q := Q) (h.weaken (by omega)) hs hi 1
  have sb := h.skips hi 1
  unfold Fed.v at ct ck cs ⊢
  rw [f_feed_Notes rfl]
  unfold Fed.notes
  by_cases c1 : f.next = 0
  · have c1 := eq_true c1
    simp only [Fed.z, Fed.v] at ct ⊢
    simp [hs.r.one, hs.w.one, hs.l.one, ct, c1]
  by_cases c2 : lo < 1
  · simp only [Fed.z, Fed.v] at ct ⊢
    simp [hs.r.one, hs.w.one, hs.l.one, ct, c1, c2]
  by_cases c3 : hi < lo
  · simp only [Fed.z, Fed.v] at ct ⊢
    simp [hs.r.one, hs.w.one, hs.l.one, ct, c1, c2, c3]
  by_cases c4 : 1000000 < hi
  · simp only [Fed.z, Fed.v] at ct ⊢
    simp [hs.r.one, hs.w.one, hs.l.one, ct, c1, c2, c3, c4]
  by_cases c5 : f.next < lo
  · generalize f.knows hi = K at *
    simp only [Fed.z, Fed.v] at ck ⊢
    simp [hs.r.one, hs.w.one, hs.l.one, ck, c1, c2, c3, c4, c5]
  by_cases c6 : hi < f.next
  · generalize f.knows hi = K at *
    simp only [Fed.z, Fed.v] at ck ⊢
    simp [hs.r.one, hs.w.one, hs.l.one, ck, c1, c2, c3, c4, c5, c6]
  generalize skips f hi 1 = S at *
  obtain ⟨S, so⟩ := S
  simp only at cs sb
  have sb2 : Bd ({ S with top := max S.top hi } : Fed) 2 := ⟨sb.r, sb.l, sb.n0, sb.n1, sb.w⟩
  have cg := fun (Q : AHeap) => c_Goes (Q := Q) sb2 (sls_z _)
  simp only
  generalize ({ S with top := max S.top hi } : Fed).tells = T at *
  obtain ⟨T, ti⟩ := T
  simp only [Fed.z, Fed.v] at cs cg ⊢
  simp [hs.r.one, hs.w.one, hs.l.one, c1, c2, c3, c4, c5, c6, cs, cg]
theorem c_Tick {f : Fed} {r w l : AV} (hs : Sls f r w l) (h : Bd f 3) (ht : 0 ≤ f.tries) {now : Int} (hn : -4000000000 ≤ now ∧ now ≤ 4000000000) : callP (penv P1) 32 [Fed.v f r w l, .int .i64 now] Q = some (.tup [Fed.z (f.tick now).1, Sp.v (f.tick now).2.1, .bool (f.tick now).2.2], Q) := by
  have ct := fun (Q : AHeap) => c_ftwin (Q := Q) hs h.small
  have cw := fun (Q : AHeap) => c_Wants (Q := Q) hs h.w
  have cn := fun (Q : AHeap) => c_Now (Q := Q) f now
  have cd := fun (Q : AHeap) => c_Tired (Q := Q) f
  have cs := fun (Q : AHeap) => c_Skips (Q := Q) (h.weaken (by omega)) hs (wants f).1.2 2
  have sb := h.skips (wants f).1.2 2
  unfold Fed.v at ct cw cs ⊢
  rw [f_feed_Tick rfl]
  unfold Fed.tick
  generalize wants f = W at *
  obtain ⟨⟨lo, hi⟩, is⟩ := W
  cases is with
  | false =>
    simp only [Fed.z, Fed.v] at ct ⊢
    simp [hs.r.one, hs.w.one, hs.l.one, ct, cw, Sp.v]
  | true =>
    cases hnow : isNow f now with
    | false =>
      rw [hnow] at cn
      simp only [Fed.z, Fed.v] at ct ⊢
      simp [hs.r.one, hs.w.one, hs.l.one, ct, cw, cn, Sp.v]
    | true =>
      rw [hnow] at cn
      cases htd : tired f with
      | true =>
        rw [htd] at cd
        simp only at cs sb
        generalize skips f hi 2 = S at *
        obtain ⟨S, so⟩ := S
        simp only at cs sb
        have cg := fun (Q : AHeap) => c_Goes (Q := Q) sb (sls_z _)
        generalize S.tells = T at *
        obtain ⟨T, ti⟩ := T
        simp only [Fed.z, Fed.v] at cs cg ⊢
        simp [hs.r.one, hs.w.one, hs.l.one, cw, cn, cd, cs, cg, Sp.v]
      | false =>
        rw [htd] at cd
        have ht3 : f.tries < 3 := by simp [tired] at htd; omega
        have cy := fun (Q : AHeap) => c_Tried (Q := Q) (f := f) (now := now) ⟨ht, ht3⟩ hn
        simp only [Fed.z, Fed.v] at ct ⊢
        simp only [Fed.tried] at cy
        simp [hs.r.one, hs.w.one, hs.l.one, ct, cw, cn, cd, cy, Sp.v, Fed.tried]
end
end Go.Proofs.Ytmogepinpdibdaa.Pf
