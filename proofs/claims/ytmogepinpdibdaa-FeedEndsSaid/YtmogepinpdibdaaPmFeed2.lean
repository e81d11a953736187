/- What the document's functions for feed come to: the same. Feeds that are the same. -/
import Derived.Test.YtmogepinpdibdaaPcFeed4
import Derived.Test.YtmogepinpdibdaaPmFeed
set_option linter.unusedVariables false
set_option linter.unusedSimpArgs false
namespace Go.Proofs.Ytmogepinpdibdaa.Pf
open Go.Ab Go.Feed
set_option maxRecDepth 100000
section
variable {Q : AHeap}
theorem put_bd {K : Fed} {i : It} {k : Nat} (kb : Bd K (k + 2)) (hr : K.ring.length + K.win.length ≤ 600000) (hn : K.next + K.win.length ≤ 3000000000) (hi : -4000000000 ≤ i.seq ∧ i.seq ≤ 4000000000) : Bd ({ K with win := (put K.win K.next i).1 } : Fed) k := by
  have pl := put_len K.win K.next i
  have a := kb.r
  have b := kb.l
  have c := kb.n0
  have d := kb.n1
  refine ⟨?_, ?_, c, ?_, fun x hx => ?_⟩
  · show K.ring.length + (put K.win K.next i).1.length ≤ 700000
    omega
  · show K.log.length + 2 * (put K.win K.next i).1.length + k ≤ 700000
    omega
  · show K.next + ((put K.win K.next i).1.length : Int) ≤ 4000000000
    omega
  · rcases put_mem hx with h | rfl
    · exact kb.w x h
    · exact hi
theorem d_Comes {f : Fed} {r w l : AV} (hs : Sls f r w l) (h : Bd f 10) (hr : f.ring.length + f.win.length ≤ 600000) (hv : Inv f) (hn : f.next + f.win.length ≤ 3000000000) (i : It) :
    ∃ r' w' l', Sls (f.comes i) r' w' l' ∧ ∀ Q, callP (penv P1) 25 [Fed.v f r w l, It.v i] Q = some (Fed.v (f.comes i) r' w' l', Q) := by
  have ck := fun (Q : AHeap) => d_Knows (Q := Q) hs i.seq
  by_cases c : f.next = 0 ∨ i.seq < 1 ∨ 1000000 < i.seq ∨ 12 < i.text.length
  · have e : f.comes i = f := by unfold Fed.comes; rw [if_pos c]
    rw [e]
    refine ⟨r, w, l, hs, fun Q => ?_⟩
    unfold Fed.v
    rw [It_v, f_pleachref13_Comes rfl]
    by_cases c1 : f.next = 0
    · have c1 := eq_true c1
      simp [hs.r.one, hs.w.one, hs.l.one, c1]
    by_cases c2 : i.seq < 1
    · simp [hs.r.one, hs.w.one, hs.l.one, c1, c2]
    by_cases c3 : 1000000 < i.seq
    · simp [hs.r.one, hs.w.one, hs.l.one, c1, c2, c3]
    have c4 : (12 : Int) < i.text.length := by omega
    simp [hs.r.one, hs.w.one, hs.l.one, c1, c2, c3, c4]
  · have kb := h.knows i.seq
    have kv := hv.knows i.seq
    have ks := sls_knows hs i.seq
    obtain ⟨k1, k2, k3, k4⟩ := knows_eq f i.seq
    have e : f.comes i = ({ f.knows i.seq with win := (put (f.knows i.seq).win (f.knows i.seq).next i).1 } : Fed).tells.1 := by unfold Fed.comes; rw [if_neg c]
    rw [e]
    generalize f.knows i.seq = K at *
    have cp := fun (Q : AHeap) => d_Put (Q := Q) ks.w (by have := kb.r; omega) kv.so (n := K.next) (x := i) (by have := kb.n0; have := kb.n1; omega) (by omega)
    have pb := put_bd (k := 8) (i := i) kb (by rw [k3, k2]; exact hr) (by rw [k1, k2]; exact hn) (by omega)
    obtain ⟨r', w', l', hs', cg⟩ := d_Goes pb kv.rg (r := r) (w := its (put K.win K.next i).1) (l := l) ⟨ks.r, Sl.fz 2 _, ks.l⟩
    refine ⟨r', w', l', hs', fun Q => ?_⟩
    have c1 : ¬ f.next = 0 := fun h => c (Or.inl h)
    have c2 : ¬ i.seq < 1 := fun h => c (Or.inr (Or.inl h))
    have c3 : ¬ 1000000 < i.seq := fun h => c (Or.inr (Or.inr (Or.inl h)))
    have c4 : ¬ (12 : Int) < i.text.length := fun h => c (Or.inr (Or.inr (Or.inr (by omega))))
    unfold Fed.v at ck ⊢
    rw [It_v, f_pleachref13_Comes rfl]
    rw [It_v] at cp
    generalize put K.win K.next i = W at *
    generalize ({ K with win := W.1 } : Fed).tells = T at *
    obtain ⟨W, wb⟩ := W
    obtain ⟨T, ti⟩ := T
    simp only [Fed.v] at cg ⊢
    simp [hs.r.one, hs.w.one, hs.l.one, hs'.r.one, hs'.w.one, hs'.l.one, ck, c1, c2, c3, c4, cp, cg]
theorem notes_ref {f : Fed} {lo hi : Int} (h1 : 1 ≤ lo) (h2 : lo ≤ f.next) (h3 : hi ≤ 1000000) : ({ (skips f hi 1).1 with top := max (skips f hi 1).1.top hi } : Fed) = (skips (f.knows hi) hi 1).1 := by
  have e : f.knows hi = f.setTop (max f.top hi) := by unfold Fed.knows; rw [if_pos ⟨by omega, h3⟩]; rfl
  rw [e, skips_top, skips_knows]; rfl
theorem d_Notes {f : Fed} {r w l : AV} (hs : Sls f r w l) (h : Bd f 3) (hv : Inv f) (lo hi : Int) :
    ∃ r' w' l', Sls (f.notes lo hi) r' w' l' ∧ ∀ Q, callP (penv P1) 21 [Fed.v f r w l, .int .i64 lo, .int .i64 hi] Q = some (Fed.v (f.notes lo hi) r' w' l', Q) := by
  have ck := fun (Q : AHeap) => d_Knows (Q := Q) hs hi
  have cm := fun (Q : AHeap) => d_MaySpan (Q := Q) lo hi
  by_cases c : f.next = 0 ∨ lo < 1 ∨ hi < lo ∨ 1000000 < hi
  · have e : f.notes lo hi = f := by unfold Fed.notes; rw [if_pos c]
    rw [e]
    refine ⟨r, w, l, hs, fun Q => ?_⟩
    unfold Fed.v
    rw [f_pleachref13_Notes rfl]
    by_cases c1 : f.next = 0
    · have c1 := eq_true c1
      simp [hs.r.one, hs.w.one, hs.l.one, c1]
    have cc : decide (1 ≤ lo ∧ lo ≤ hi ∧ hi ≤ 1000000) = false := decide_eq_false (by omega)
    rw [cc] at cm
    simp [hs.r.one, hs.w.one, hs.l.one, c1, cm]
  · have cc : decide (1 ≤ lo ∧ lo ≤ hi ∧ hi ≤ 1000000) = true := decide_eq_true (by omega)
    rw [cc] at cm
    have c1 : ¬ f.next = 0 := fun h => c (Or.inl h)
    have kb := h.knows hi
    have kv := hv.knows hi
    have ks := sls_knows hs hi
    obtain ⟨k1, k2, k3, k4⟩ := knows_eq f hi
    by_cases c5 : f.next < lo ∨ hi < f.next
    · have e : f.notes lo hi = f.knows hi := by unfold Fed.notes; rw [if_neg c, if_pos c5]
      rw [e]
      refine ⟨r, w, l, ks, fun Q => ?_⟩
      generalize f.knows hi = K at *
      unfold Fed.v at ck ⊢
      rw [f_pleachref13_Notes rfl]
      by_cases c6 : K.next < lo
      · simp [hs.r.one, hs.w.one, hs.l.one, c1, cm, ck, c6]
      · have c7 : hi < K.next := by omega
        simp [hs.r.one, hs.w.one, hs.l.one, c1, cm, ck, c6, c7]
    · have nr := notes_ref (f := f) (lo := lo) (hi := hi) (by omega) (by omega) (by omega)
      have e : f.notes lo hi = (skips (f.knows hi) hi 1).1.tells.1 := by unfold Fed.notes; rw [if_neg c, if_neg c5, nr]
      rw [e]
      generalize f.knows hi = K at *
      have sb := kb.skips hi 1
      have sv := kv.skips hi 1
      obtain ⟨r1, w1, l1, hs1, csk⟩ := d_Skips (kb.weaken (by omega)) kv ks hi 1
      generalize skips K hi 1 = S at *
      obtain ⟨S, so⟩ := S
      simp only at hs1 csk sb sv ⊢
      obtain ⟨r', w', l', hs', cg⟩ := d_Goes sb sv.rg hs1
      refine ⟨r', w', l', hs', fun Q => ?_⟩
      generalize S.tells = T at *
      obtain ⟨T, ti⟩ := T
      unfold Fed.v at ck ⊢
      rw [f_pleachref13_Notes rfl]
      have c6 : ¬ K.next < lo := by omega
      have c7 : ¬ hi < K.next := by omega
      simp only [Fed.v] at cg csk ⊢
      simp [hs.r.one, hs.w.one, hs.l.one, hs1.r.one, hs1.w.one, hs1.l.one, hs'.r.one, hs'.w.one, hs'.l.one, c1, cm, ck, c6, c7, csk, cg]
theorem d_Tick {f : Fed} {r w l : AV} (hs : Sls f r w l) (h : Bd f 3) (hv : Inv f) {now : Int} (hn : -4000000000 ≤ now ∧ now ≤ 4000000000) :
    ∃ r' w' l', Sls (f.tick now).1 r' w' l' ∧ ∀ Q, callP (penv P1) 34 [Fed.v f r w l, .int .i64 now] Q = some (.tup [Fed.v (f.tick now).1 r' w' l', Sp.v (f.tick now).2.1, .bool (f.tick now).2.2], Q) := by
  have cw := fun (Q : AHeap) => d_Wants (Q := Q) hs h.w
  have cn := fun (Q : AHeap) => d_Now (Q := Q) f now
  have sb := h.skips (wants f).1.2 2
  have sv := hv.skips (wants f).1.2 2
  obtain ⟨r1, w1, l1, hs1, csk⟩ := d_Skips (h.weaken (by omega)) hv hs (wants f).1.2 2
  unfold Fed.tick
  generalize wants f = W at *
  obtain ⟨⟨lo, hi⟩, is⟩ := W
  cases is with
  | false =>
    refine ⟨r, w, l, by simpa using hs, fun Q => ?_⟩
    unfold Fed.v at cw ⊢
    rw [f_pleachref13_Tick rfl]
    simp [hs.r.one, hs.w.one, hs.l.one, cw, Sp.v]
  | true =>
    cases hnow : isNow f now with
    | false =>
      rw [hnow] at cn
      refine ⟨r, w, l, by simpa using hs, fun Q => ?_⟩
      unfold Fed.v at cw ⊢
      rw [f_pleachref13_Tick rfl]
      simp [hs.r.one, hs.w.one, hs.l.one, cw, cn, Sp.v]
    | true =>
      rw [hnow] at cn
      cases htd : tired f with
      | true =>
        have ht3 : (3 : Int) ≤ f.tries := by simpa [tired] using htd
        simp only at csk sb sv hs1
        generalize skips f hi 2 = S at *
        obtain ⟨S, so⟩ := S
        simp only at csk sb sv hs1
        obtain ⟨r', w', l', hs', cg⟩ := d_Goes sb sv.rg hs1
        generalize S.tells = T at *
        obtain ⟨T, ti⟩ := T
        refine ⟨r', w', l', by simpa using hs', fun Q => ?_⟩
        unfold Fed.v at cw ⊢
        rw [f_pleachref13_Tick rfl]
        simp only [Fed.v] at cg csk ⊢
        simp [hs.r.one, hs.w.one, hs.l.one, hs1.r.one, hs1.w.one, hs1.l.one, hs'.r.one, hs'.w.one, hs'.l.one, cw, cn, ht3, csk, cg, Sp.v]
      | false =>
        have ht3 : f.tries < 3 := by simp [tired] at htd; omega
        have ht3' : ¬ (3 : Int) ≤ f.tries := by omega
        have cy := fun (Q : AHeap) => d_Tried (Q := Q) (f := f) (now := now) ⟨hv.tr, ht3⟩ hn
        refine ⟨r, w, l, ⟨hs.r, hs.w, hs.l⟩, fun Q => ?_⟩
        unfold Fed.v at cw ⊢
        rw [f_pleachref13_Tick rfl]
        simp only [Fed.tried] at cy
        simp [hs.r.one, hs.w.one, hs.l.one, cw, cn, ht3', cy, Sp.v, Fed.tried]
end
end Go.Proofs.Ytmogepinpdibdaa.Pf
namespace Go.Feed
structure Line1 (tx : Int → List UInt8) (a : Int) (f : Fed) : Prop where
  an : a ≤ f.next
  ln : (f.log.length : Int) = f.next - a
  lg : ∀ k, k < f.log.length → f.log[k]? = some (told ⟨a + k, tx (a + k)⟩)
  rl : f.ring.length = min f.log.length 6
  rb : ∀ x ∈ f.ring, x.seq < f.next
  tp : f.next = a ∨ f.next - 1 ≤ f.top
structure Told1 (tx : Int → List UInt8) (a : Int) (f : Fed) : Prop where
  row : Line1 tx a f
  so : Sorted f.win
  gt : ∀ x ∈ f.win, f.next < x.seq
  wt : ∀ x ∈ f.win, x.text = tx x.seq ∧ x.seq ≤ f.top
theorem ringAdd_row {r : List It} {n : Int} (h : ∀ x ∈ r, x.seq < n) (i : It) (hi : i.seq = n) : ringAdd r i = (r ++ [i]).drop (r.length + 1 - 6) := by
  unfold ringAdd
  rw [if_neg]
  rintro ⟨h0, h1⟩
  have : r.getD (r.length - 1) default ∈ r := by
    rw [List.getD_eq_getElem?_getD, List.getElem?_eq_getElem (by omega)]
    exact List.getElem_mem _
  have := h _ this
  omega
theorem Line1.take {tx a f} (h : Line1 tx a f) {x : It} (rest : List It) (hx : x.seq = f.next) (ht : x.text = tx x.seq) (hp : x.seq ≤ f.top) : Line1 tx a (take1 f x rest) := by
  have e1 : (take1 f x rest).next = f.next + 1 := rfl
  have e2 : (take1 f x rest).log = f.log ++ [told x] := rfl
  have e3 : (take1 f x rest).ring = ringAdd f.ring x := rfl
  have e4 : (take1 f x rest).top = f.top := rfl
  have rr := ringAdd_row h.rb x hx
  have h1 := h.an
  have h2 := h.ln
  have h3 := h.rl
  refine ⟨by omega, ?_, fun k hk => ?_, ?_, fun y hy => ?_, Or.inr (by omega)⟩
  · rw [e2, e1]; simp; omega
  · rw [e2] at hk ⊢
    simp at hk
    by_cases c : k < f.log.length
    · rw [List.getElem?_append_left c]; exact h.lg k c
    · have : k = f.log.length := by omega
      subst this
      have e : a + (f.log.length : Int) = x.seq := by omega
      rw [List.getElem?_append_right (by omega)]
      simp [e, told, ht]
  · rw [e3, e2, rr]; simp; omega
  · rw [e3, rr] at hy
    have hy := List.mem_of_mem_drop hy
    simp only [List.mem_append, List.mem_singleton] at hy
    rw [e1]
    rcases hy with hy | rfl
    · have := h.rb y hy; omega
    · omega
theorem goesL_row {tx a} : ∀ (w : List It) (f : Fed), Line1 tx a f → (∀ x ∈ w, x.text = tx x.seq ∧ x.seq ≤ f.top) → Line1 tx a (goesL w f).1 := by
  intro w
  induction w with
  | nil => intro f h _; exact ⟨h.an, h.ln, h.lg, h.rl, h.rb, h.tp⟩
  | cons x w ih =>
    intro f h hw
    unfold goesL
    have h0 := hw x List.mem_cons_self
    by_cases hx : x.seq = f.next
    · rw [if_pos hx]
      exact ih _ (h.take w hx h0.1 h0.2) (fun y hy => hw y (List.mem_cons_of_mem _ hy))
    · rw [if_neg hx]
      exact ⟨h.an, h.ln, h.lg, h.rl, h.rb, h.tp⟩
theorem Line1.of {tx a f g} (h : Line1 tx a f) (h1 : g.next = f.next) (h2 : g.log = f.log) (h3 : g.ring = f.ring) (h4 : f.top ≤ g.top) : Line1 tx a g :=
  ⟨by rw [h1]; exact h.an, by rw [h1, h2]; exact h.ln, by rw [h2]; exact h.lg, by rw [h3, h2]; exact h.rl, by rw [h3, h1]; exact h.rb, by have := h.tp; omega⟩
theorem tells_rows {tx a} {f : Fed} (h : Line1 tx a f) (hs : Sorted f.win) (hg : ∀ x ∈ f.win, f.next ≤ x.seq) (hw : ∀ x ∈ f.win, x.text = tx x.seq ∧ x.seq ≤ f.top) : Told1 tx a f.tells.1 := by
  obtain ⟨t1, t2, t3, t4, t5, t6⟩ := tells_fst f
  have gr := goesL_row f.win f h hw
  have gb := goesL_bd f.win f
  have gi := goesL_inv f.win f hs hg (by have := h.rl; omega)
  refine ⟨gr.of t4 t3 t1 (by rw [t5]; exact Int.le_refl _), by rw [t2]; exact gi.1, ?_, fun x hx => ?_⟩
  · rw [t2, t4]; exact gi.2.1
  · rw [t2] at hx
    rw [t5, gb.2.2.2.2.1]
    exact hw x (gb.2.2.2.2.2 x hx)
theorem knows_top {f : Fed} {t : Int} (h0 : 0 < f.next) (ht : t ≤ 1000000) : (f.knows t).top = max f.top t := by
  unfold Fed.knows; rw [if_pos ⟨h0, ht⟩]
theorem Told1.knows {tx a f} (h : Told1 tx a f) (t : Int) : Told1 tx a (f.knows t) := by
  obtain ⟨k1, k2, k3, k4⟩ := knows_eq f t
  have kt : f.top ≤ (f.knows t).top := by
    unfold Fed.knows; split
    · show f.top ≤ max f.top t; omega
    · exact Int.le_refl _
  refine ⟨h.row.of k1 k4 k3 kt, by rw [k2]; exact h.so, by rw [k2, k1]; exact h.gt, fun x hx => ?_⟩
  rw [k2] at hx
  have := h.wt x hx
  exact ⟨this.1, by omega⟩
theorem Told1.comes {tx a f} (h : Told1 tx a f) (ha : 1 ≤ a) {i : It} (h1 : 1 ≤ i.seq) (h2 : i.seq ≤ 1000000) (h3 : i.text.length ≤ 12) (ht : i.text = tx i.seq) :
    Told1 tx a (f.comes i) ∧ (f.comes i).top = max f.top i.seq ∧ f.next ≤ (f.comes i).next ∧ (i.seq = f.next → f.next < (f.comes i).next) ∧
    (f.comes i).log.length + (f.comes i).win.length ≤ f.log.length + f.win.length + 1 := by
  have hn := h.row.an
  unfold Fed.comes
  rw [if_neg (by omega)]
  have kh := h.knows i.seq
  have kt := knows_top (f := f) (t := i.seq) (by omega) h2
  obtain ⟨k1, k2, k3, k4⟩ := knows_eq f i.seq
  generalize f.knows i.seq = K at *
  rw [← kt, ← k1, ← k2, ← k4]
  have ps := put_sorted kh.so K.next i
  have pg := put_ge (n := K.next) (x := i) (w := K.win) (fun y hy => Int.le_of_lt (kh.gt y hy))
  have pl := put_len K.win K.next i
  have pm : ∀ y ∈ (put K.win K.next i).1, y.text = tx y.seq ∧ y.seq ≤ K.top := fun y hy => by
    rcases put_mem hy with hy | rfl
    · exact kh.wt y hy
    · exact ⟨ht, by omega⟩
  have pp : i.seq = K.next → ∃ w, (put K.win K.next i).1 = i :: w := fun e => by
    have nt : there K.win i.seq = false := by
      unfold there
      rw [List.any_eq_false]
      intro y hy
      have := kh.gt y hy
      simp; omega
    have np : posn K.win i.seq = 0 := posn_is (by omega) (fun k hk => by omega) (fun h0 => by
      have : K.win.getD 0 default ∈ K.win := by rw [List.getD_eq_getElem?_getD, List.getElem?_eq_getElem h0]; exact List.getElem_mem _
      have := kh.gt _ this
      omega)
    unfold put
    rw [if_neg (by rw [nt]; simp; omega), np]
    exact ⟨_, rfl⟩
  generalize (put K.win K.next i).1 = W at *
  have rr : Line1 tx a ({ K with win := W } : Fed) := kh.row.of rfl rfl rfl (Int.le_refl _)
  have key := tells_rows (f := { K with win := W }) rr ps pg pm
  obtain ⟨t1, t2, t3, t4, t5, t6⟩ := tells_fst { K with win := W }
  obtain ⟨b1, b2, b3, b4, b5, b6⟩ := goesL_bd W { K with win := W }
  refine ⟨key, by rw [t5]; exact b5, ?_, fun e => ?_, ?_⟩
  · rw [t4, b4]; show K.next ≤ K.next + _; omega
  · obtain ⟨w, hw⟩ := pp e
    have := tells_pos (f := { K with win := W }) hw e
    rw [t6] at this
    have this := List.length_pos_iff.2 this
    have e4 := b4
    rw [← t4] at e4
    rw [e4]
    show K.next < K.next + (((goesL W { K with win := W }).2.length : Nat) : Int)
    have this : 0 < (goesL W { K with win := W }).2.length := this
    omega
  · rw [t3, t2, b2]; show K.log.length + _ ≤ _; omega
end Go.Feed
