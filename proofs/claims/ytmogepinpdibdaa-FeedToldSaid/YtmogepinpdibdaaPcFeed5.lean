/- What the document's functions for feed come to: the same. Feeds that are the same. -/
import Derived.Test.YtmogepinpdibdaaPcFeed4
set_option linter.unusedVariables false
set_option linter.unusedSimpArgs false
namespace Go.Proofs.Ytmogepinpdibdaa.Pf
open Go.Ab Go.Feed
set_option maxRecDepth 100000
section
variable {Q : AHeap}
theorem put_bd {K : Fed} {i : It} {k : Nat} (kb : Bd K (k + 2)) (hr : K.ring.length + K.win.length ≤ 600000) (hn : K.next + K.win.length ≤ 3000000000) (hi : -4000000000 ≤ i.seq ∧ i.seq ≤ 4000000000) : Bd ({ K with win := (put K.win K.next i).1 } : Fed) k := by
  have pl := put_len K.win K.next i
  have a := kb.r
  have b := kb.l
  have c := kb.n0
  have d := kb.n1
  refine ⟨?_, ?_, c, ?_, fun x hx => ?_⟩
  · show K.ring.length + (put K.win K.next i).1.length ≤ 700000
    omega
  · show K.log.length + 2 * (put K.win K.next i).1.length + k ≤ 700000
    omega
  · show K.next + ((put K.win K.next i).1.length : Int) ≤ 4000000000
    omega
  · rcases put_mem hx with h | rfl
    · exact kb.w x h
    · exact hi
theorem d_Comes {f : Fed} {r w l : AV} (hs : Sls f r w l) (h : Bd f 10) (hr : f.ring.length + f.win.length ≤ 600000) (hv : Inv f) (hn : f.next + f.win.length ≤ 3000000000) (i : It) :
    ∃ r' w' l', Sls (f.comes i) r' w' l' ∧ ∀ Q, callP (penv P1) 25 [Fed.v f r w l, It.v i] Q = some (Fed.v (f.comes i) r' w' l', Q) := by
  have ck := fun (Q : AHeap) => d_Knows (Q := Q) hs i.seq
  by_cases c : f.next = 0 ∨ i.seq < 1 ∨ 1000000 < i.seq ∨ 12 < i.text.length
  · have e : f.comes i = f := by unfold Fed.comes; rw [if_pos c]
    rw [e]
    refine ⟨r, w, l, hs, fun Q => ?_⟩
    unfold Fed.v
    rw [It_v, f_pleachref13_Comes rfl]
    by_cases c1 : f.next = 0
    · have c1 := eq_true c1
      simp [hs.r.one, hs.w.one, hs.l.one, c1]
    by_cases c2 : i.seq < 1
    · simp [hs.r.one, hs.w.one, hs.l.one, c1, c2]
    by_cases c3 : 1000000 < i.seq
    · simp [hs.r.one, hs.w.one, hs.l.one, c1, c2, c3]
    have c4 : (12 : Int) < i.text.length := by omega
    simp [hs.r.one, hs.w.one, hs.l.one, c1, c2, c3, c4]
  · have kb := h.knows i.seq
    have kv := hv.knows i.seq
    have ks := sls_knows hs i.seq
    obtain ⟨k1, k2, k3, k4⟩ := knows_eq f i.seq
    have e : f.comes i = ({ f.knows i.seq with win := (put (f.knows i.seq).win (f.knows i.seq).next i).1 } : Fed).tells.1 := by unfold Fed.comes; rw [if_neg c]
    rw [e]
    generalize f.knows i.seq = K at *
    have cp := fun (Q : AHeap) => d_Put (Q := Q) ks.w (by have := kb.r; omega) kv.so (n := K.next) (x := i) (by have := kb.n0; have := kb.n1; omega) (by omega)
    have pb := put_bd (k := 8) (i := i) kb (by rw [k3, k2]; exact hr) (by rw [k1, k2]; exact hn) (by omega)
    obtain ⟨r', w', l', hs', cg⟩ := d_Goes pb kv.rg (r := r) (w := its (put K.win K.next i).1) (l := l) ⟨ks.r, Sl.fz 2 _, ks.l⟩
    refine ⟨r', w', l', hs', fun Q => ?_⟩
    have c1 : ¬ f.next = 0 := fun h => c (Or.inl h)
    have c2 : ¬ i.seq < 1 := fun h => c (Or.inr (Or.inl h))
    have c3 : ¬ 1000000 < i.seq := fun h => c (Or.inr (Or.inr (Or.inl h)))
    have c4 : ¬ (12 : Int) < i.text.length := fun h => c (Or.inr (Or.inr (Or.inr (by omega))))
    unfold Fed.v at ck ⊢
    rw [It_v, f_pleachref13_Comes rfl]
    rw [It_v] at cp
    generalize put K.win K.next i = W at *
    generalize ({ K with win := W.1 } : Fed).tells = T at *
    obtain ⟨W, wb⟩ := W
    obtain ⟨T, ti⟩ := T
    simp only [Fed.v] at cg ⊢
    simp [hs.r.one, hs.w.one, hs.l.one, hs'.r.one, hs'.w.one, hs'.l.one, ck, c1, c2, c3, c4, cp, cg]
theorem notes_ref {f : Fed} {lo hi : Int} (h1 : 1 ≤ lo) (h2 : lo ≤ f.next) (h3 : hi ≤ 1000000) : ({ (skips f hi 1).1 with top := max (skips f hi 1).1.top hi } : Fed) = (skips (f.knows hi) hi 1).1 := by
  have e : f.knows hi = f.setTop (max f.top hi) := by unfold Fed.knows; rw [if_pos ⟨by omega, h3⟩]; rfl
  rw [e, skips_top, skips_knows]; rfl
theorem d_Notes {f : Fed} {r w l : AV} (hs : Sls f r w l) (h : Bd f 3) (hv : Inv f) (lo hi : Int) :
    ∃ r' w' l', Sls (f.notes lo hi) r' w' l' ∧ ∀ Q, callP (penv P1) 21 [Fed.v f r w l, .int .i64 lo, .int .i64 hi] Q = some (Fed.v (f.notes lo hi) r' w' l', Q) := by
  have ck := fun (Q : AHeap) => d_Knows (Q := Q) hs hi
  have cm := fun (Q : AHeap) => d_MaySpan (Q := Q) lo hi
  by_cases c : f.next = 0 ∨ lo < 1 ∨ hi < lo ∨ 1000000 < hi
  · have e : f.notes lo hi = f := by unfold Fed.notes; rw [if_pos c]
    rw [e]
    refine ⟨r, w, l, hs, fun Q => ?_⟩
    unfold Fed.v
    rw [f_pleachref13_Notes rfl]
    by_cases c1 : f.next = 0
    · have c1 := eq_true c1
      simp [hs.r.one, hs.w.one, hs.l.one, c1]
    have cc : decide (1 ≤ lo ∧ lo ≤ hi ∧ hi ≤ 1000000) = false := decide_eq_false (by omega)
    rw [cc] at cm
    simp [hs.r.one, hs.w.one, hs.l.one, c1, cm]
  · have cc : decide (1 ≤ lo ∧ lo ≤ hi ∧ hi ≤ 1000000) = true := decide_eq_true (by omega)
    rw [cc] at cm
    have c1 : ¬ f.next = 0 := fun h => c (Or.inl h)
    have kb := h.knows hi
    have kv := hv.knows hi
    have ks := sls_knows hs hi
    obtain ⟨k1, k2, k3, k4⟩ := knows_eq f hi
    by_cases c5 : f.next < lo ∨ hi < f.next
    · have e : f.notes lo hi = f.knows hi := by unfold Fed.notes; rw [if_neg c, if_pos c5]
      rw [e]
      refine ⟨r, w, l, ks, fun Q => ?_⟩
      generalize f.knows hi = K at *
      unfold Fed.v at ck ⊢
      rw [f_pleachref13_Notes rfl]
      by_cases c6 : K.next < lo
      · simp [hs.r.one, hs.w.one, hs.l.one, c1, cm, ck, c6]
      · have c7 : hi < K.next := by omega
        simp [hs.r.one, hs.w.one, hs.l.one, c1, cm, ck, c6, c7]
    · have nr := notes_ref (f := f) (lo := lo) (hi := hi) (by omega) (by omega) (by omega)
      have e : f.notes lo hi = (skips (f.knows hi) hi 1).1.tells.1 := by unfold Fed.notes; rw [if_neg c, if_neg c5, nr]
      rw [e]
      generalize f.knows hi = K at *
      have sb := kb.skips hi 1
      have sv := kv.skips hi 1
      obtain ⟨r1, w1, l1, hs1, csk⟩ := d_Skips (kb.weaken (by omega)) kv ks hi 1
      generalize skips K hi 1 = S at *
      obtain ⟨S, so⟩ := S
      simp only at hs1 csk sb sv ⊢
      obtain ⟨r', w', l', hs', cg⟩ := d_Goes sb sv.rg hs1
      refine ⟨r', w', l', hs', fun Q => ?_⟩
      generalize S.tells = T at *
      obtain ⟨T, ti⟩ := T
      unfold Fed.v at ck ⊢
      rw [f_pleachref13_Notes rfl]
      have c6 : ¬ K.next < lo := by omega
      have c7 : ¬ hi < K.next := by omega
      simp only [Fed.v] at cg csk ⊢
      simp [hs.r.one, hs.w.one, hs.l.one, hs1.r.one, hs1.w.one, hs1.l.one, hs'.r.one, hs'.w.one, hs'.l.one, c1, cm, ck, c6, c7, csk, cg]
theorem d_Tick {f : Fed} {r w l : AV} (hs : Sls f r w l) (h : Bd f 3) (hv : Inv f) {now : Int} (hn : -4000000000 ≤ now ∧ now ≤ 4000000000) :
    ∃ r' w' l', Sls (f.tick now).1 r' w' l' ∧ ∀ Q, callP (penv P1) 34 [Fed.v f r w l, .int .i64 now] Q = some (.tup [Fed.v (f.tick now).1 r' w' l', Sp.v (f.tick now).2.1, .bool (f.tick now).2.2], Q) := by
  have cw := fun (Q : AHeap) => d_Wants (Q := Q) hs h.w
  have cn := fun (Q : AHeap) => d_Now (Q := Q) f now
  have sb := h.skips (wants f).1.2 2
  have sv := hv.skips (wants f).1.2 2
  obtain ⟨r1, w1, l1, hs1, csk⟩ := d_Skips (h.weaken (by omega)) hv hs (wants f).1.2 2
  unfold Fed.tick
  generalize wants f = W at *
  obtain ⟨⟨lo, hi⟩, is⟩ := W
  cases is with
  | false =>
    refine ⟨r, w, l, by simpa using hs, fun Q => ?_⟩
    unfold Fed.v at cw ⊢
    rw [f_pleachref13_Tick rfl]
    simp [hs.r.one, hs.w.one, hs.l.one, cw, Sp.v]
  | true =>
    cases hnow : isNow f now with
    | false =>
      rw [hnow] at cn
      refine ⟨r, w, l, by simpa using hs, fun Q => ?_⟩
      unfold Fed.v at cw ⊢
      rw [f_pleachref13_Tick rfl]
      simp [hs.r.one, hs.w.one, hs.l.one, cw, cn, Sp.v]
    | true =>
      rw [hnow] at cn
      cases htd : tired f with
      | true =>
        have ht3 : (3 : Int) ≤ f.tries := by simpa [tired] using htd
        simp only at csk sb sv hs1
        generalize skips f hi 2 = S at *
        obtain ⟨S, so⟩ := S
        simp only at csk sb sv hs1
        obtain ⟨r', w', l', hs', cg⟩ := d_Goes sb sv.rg hs1
        generalize S.tells = T at *
        obtain ⟨T, ti⟩ := T
        refine ⟨r', w', l', by simpa using hs', fun Q => ?_⟩
        unfold Fed.v at cw ⊢
        rw [f_pleachref13_Tick rfl]
        simp only [Fed.v] at cg csk ⊢
        simp [hs.r.one, hs.w.one, hs.l.one, hs1.r.one, hs1.w.one, hs1.l.one, hs'.r.one, hs'.w.one, hs'.l.one, cw, cn, ht3, csk, cg, Sp.v]
      | false =>
        have ht3 : f.tries < 3 := by simp [tired] at htd; omega
        have ht3' : ¬ (3 : Int) ≤ f.tries := by omega
        have cy := fun (Q : AHeap) => d_Tried (Q := Q) (f := f) (now := now) ⟨hv.tr, ht3⟩ hn
        refine ⟨r, w, l, ⟨hs.r, hs.w, hs.l⟩, fun Q => ?_⟩
        unfold Fed.v at cw ⊢
        rw [f_pleachref13_Tick rfl]
        simp only [Fed.tried] at cy
        simp [hs.r.one, hs.w.one, hs.l.one, cw, cn, ht3', cy, Sp.v, Fed.tried]
end
end Go.Proofs.Ytmogepinpdibdaa.Pf
