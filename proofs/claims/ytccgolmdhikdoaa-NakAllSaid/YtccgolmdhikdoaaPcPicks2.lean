/- A feed that is made of choices. -/
import Derived.Test.YtccgolmdhikdoaaPcFeed2
import Derived.Test.YtccgolmdhikdoaaPcFeed5
import Derived.Test.YtccgolmdhikdoaaPmNak
set_option linter.unusedVariables false
set_option linter.unusedSimpArgs false
namespace Go.Proofs.Ytccgolmdhikdoaa.Pn
open Go.Ab Go.Feed
set_option maxRecDepth 100000
theorem Md.rw {a : Int} {k : Nat} {f : Fed} (h : Md a k f) : f.ring.length + f.win.length ≤ 600000 ∨ True := Or.inr trivial
section
variable {p : Nat} {L : List Int}
theorem loop_Feed (hL : L.length ≤ 1000) (rL : Bs L) {a : Int} : ∀ (m i : Nat) (f : Fed) (now : Int) (Q : AHeap) (r w l : AV), i + m = 15 → Pk Q p L → Sls f r w l → Md a (600000 - 3 * i) f → 0 ≤ now ∧ now ≤ 7 * i →
    ∃ (f' : Fed) (r' w' l' : AV) (Q' : AHeap), Md a 500000 f' ∧ Sls f' r' w' l' ∧ Pk Q' p L ∧ Oth p Q Q' ∧
      L_pleachmade_Picks_Feed_1 P1 (.ptr p 0) (.int .i64 15) (.int .i64 now) (.int .i64 i) (.int .i64 0) (.int .i64 0) .nils .nils .nils (.int .i64 0) (.int .i64 0) (.int .i64 f.next) (.int .i64 f.top) r w l (.int .i64 f.tries) (.int .i64 f.due) Q =
        X_pleachmade_Picks_Feed_1_x0 (.int .i64 0) (.int .i64 0) .nils .nils .nils (.int .i64 0) (.int .i64 0) (.int .i64 f'.next) (.int .i64 f'.top) r' w' l' (.int .i64 f'.tries) (.int .i64 f'.due) Q' := by
  intro m
  induction m with
  | zero =>
    intro i f now Q r w l hi hp hs hm hn
    obtain rfl : i = 15 := by omega
    refine ⟨f, r, w, l, Q, hm.weaken (by omega), hs, hp, Oth.refl p Q, ?_⟩
    rw [L_pleachmade_Picks_Feed_1_eq, p_pleachmade_Picks_Feed_1]
    simp
  | succ m ih =>
    intro i f now Q r w l hi hp hs hm hn
    have c : ((i : Int) < 15) = True := eq_true (by omega)
    have wi := w64 (i := (i : Int) + 1) (by omega) (by omega)
    have n0 := hm.on.n1
    have n1 := hm.dd.n1
    have bd := hm.dd.bd
    have rg := hm.dd.inv.rg
    have bl := bd.l
    obtain ⟨b, ov⟩ := c_Over hp hL
    cases b with
    | true =>
      refine ⟨f, r, w, l, Q, hm.weaken (by omega), hs, hp, Oth.refl p Q, ?_⟩
      rw [L_pleachmade_Picks_Feed_1_eq, p_pleachmade_Picks_Feed_1]
      simp [c, ov]
    | false =>
      obtain ⟨v, Q1, e1, hv, hp1, o1⟩ := c_Num hp hL rL (m := 6) (by omega)
      by_cases v0 : v = 0
      · subst v0
        obtain ⟨x, Q2, e2, hx, hp2, o2⟩ := c_Num hp1 hL rL (m := 3) (by omega)
        obtain ⟨y, Q3, e3, hy, hp3, o3⟩ := c_Num hp2 hL rL (m := 4) (by omega)
        have w1 := w64 (i := f.next - 1) (by omega) (by omega)
        have w2 := w64 (i := f.next - 1 + x) (by omega) (by omega)
        have w3 := w64 (i := max 1 (f.next - 1 + x) + y) (by omega) (by omega)
        obtain ⟨r2, w2', l2, hs2, dn⟩ := d_Notes hs (bd.weaken (by omega)) hm.dd.inv (max 1 (f.next - 1 + x)) (max 1 (f.next - 1 + x) + y)
        have hm2 := Md.notes (k := 600000 - 3 * (i + 1)) (hm.weaken (by omega)) (max 1 (f.next - 1 + x)) (max 1 (f.next - 1 + x) + y)
        generalize f.notes (max 1 (f.next - 1 + x)) (max 1 (f.next - 1 + x) + y) = g at *
        obtain ⟨f', r', w', l', Q', k1, k2, k3, k4, ih⟩ := ih (i + 1) g now Q3 r2 w2' l2 (by omega) hp3 hs2 hm2 (by omega)
        refine ⟨f', r', w', l', Q', k1, k2, k3, (o1.trans (o2.trans o3)).trans k4, ?_⟩
        simp only [Fed.v] at dn
        rw [L_pleachmade_Picks_Feed_1_eq, p_pleachmade_Picks_Feed_1]
        simp [c, ov, e1, e2, e3, w1, w2, w3, dn, hs2.r.one, hs2.w.one, hs2.l.one, p_pleachmade_Picks_Feed_0, wi]
        simpa [L_pleachmade_Picks_Feed_1_fold] using ih
      · by_cases v1 : v = 1
        · subst v1
          obtain ⟨x, Q2, e2, hx, hp2, o2⟩ := c_Num hp1 hL rL (m := 5) (by omega)
          have w1 := w64 (i := f.next + x) (by omega) (by omega)
          have dk := fun Q => d_Knows (Q := Q) hs (f.next + x)
          have ke := knows_eq f (f.next + x)
          have hs2 : Sls (f.knows (f.next + x)) r w l := ⟨by rw [ke.2.2.1]; exact hs.r, by rw [ke.2.1]; exact hs.w, by rw [ke.2.2.2]; exact hs.l⟩
          have hm2 := Md.knows (k := 600000 - 3 * (i + 1)) (hm.weaken (by omega)) (f.next + x)
          clear ke
          generalize f.knows (f.next + x) = g at *
          obtain ⟨f', r', w', l', Q', k1, k2, k3, k4, ih⟩ := ih (i + 1) g now Q2 r w l (by omega) hp2 hs2 hm2 (by omega)
          refine ⟨f', r', w', l', Q', k1, k2, k3, (o1.trans o2).trans k4, ?_⟩
          simp only [Fed.v] at dk
          rw [L_pleachmade_Picks_Feed_1_eq, p_pleachmade_Picks_Feed_1]
          simp [c, ov, e1, e2, w1, dk, hs2.r.one, hs2.w.one, hs2.l.one, p_pleachmade_Picks_Feed_0, wi]
          simpa [L_pleachmade_Picks_Feed_1_fold] using ih
        · by_cases v2 : v = 2
          · subst v2
            obtain ⟨x, Q2, e2, hx, hp2, o2⟩ := c_Num hp1 hL rL (m := 6) (by omega)
            have w1 := w64 (i := now + 1) (by omega) (by omega)
            have w2 := w64 (i := now + 1 + x) (by omega) (by omega)
            obtain ⟨r2, w2', l2, hs2, dt⟩ := d_Tick hs (bd.weaken (by omega)) hm.dd.inv (now := now + 1 + x) (by omega)
            have hm2 := Md.tick (k := 600000 - 3 * (i + 1)) (hm.weaken (by omega)) (now + 1 + x)
            generalize f.tick (now + 1 + x) = G at *
            obtain ⟨g, s, b⟩ := G
            simp only at hs2 dt hm2
            obtain ⟨f', r', w', l', Q', k1, k2, k3, k4, ih⟩ := ih (i + 1) g (now + 1 + x) Q2 r2 w2' l2 (by omega) hp2 hs2 hm2 (by omega)
            refine ⟨f', r', w', l', Q', k1, k2, k3, (o1.trans o2).trans k4, ?_⟩
            simp only [Fed.v] at dt
            rw [L_pleachmade_Picks_Feed_1_eq, p_pleachmade_Picks_Feed_1]
            simp [c, ov, e1, e2, w1, w2, dt, hs2.r.one, hs2.w.one, hs2.l.one, p_pleachmade_Picks_Feed_0, wi]
            simpa [L_pleachmade_Picks_Feed_1_fold] using ih
          · obtain ⟨x, Q2, e2, hx, hp2, o2⟩ := c_Num hp1 hL rL (m := 5) (by omega)
            obtain ⟨t, Q3, e3, ht, hp3, o3⟩ := c_Text hp2 hL rL
            have w1 := w64 (i := f.next - 1) (by omega) (by omega)
            have w2 := w64 (i := f.next - 1 + x) (by omega) (by omega)
            have bw := bd.n1
            obtain ⟨r2, w2', l2, hs2, dc⟩ := d_Comes hs (bd.weaken (by omega)) (by omega) hm.dd.inv (by omega) ⟨max 1 (f.next - 1 + x), t⟩
            have hm2 := Md.comes (k := 600000 - 3 * (i + 1)) (hm.weaken (by omega)) ⟨max 1 (f.next - 1 + x), t⟩
            generalize f.comes ⟨max 1 (f.next - 1 + x), t⟩ = g at *
            obtain ⟨f', r', w', l', Q', k1, k2, k3, k4, ih⟩ := ih (i + 1) g now Q3 r2 w2' l2 (by omega) hp3 hs2 hm2 (by omega)
            refine ⟨f', r', w', l', Q', k1, k2, k3, (o1.trans (o2.trans o3)).trans k4, ?_⟩
            simp only [Fed.v, It.v] at dc
            rw [L_pleachmade_Picks_Feed_1_eq, p_pleachmade_Picks_Feed_1]
            simp [c, ov, e1, v0, v1, v2, e2, e3, w1, w2, dc, hs2.r.one, hs2.w.one, hs2.l.one, p_pleachmade_Picks_Feed_0, wi]
            simpa [L_pleachmade_Picks_Feed_1_fold] using ih
theorem c_Feed (hL : L.length ≤ 1000) (rL : Bs L) {Q : AHeap} (hp : Pk Q p L) :
    ∃ (a : Int) (f : Fed) (r w l : AV) (Q' : AHeap), (1 ≤ a ∧ a ≤ 5) ∧ Md a 500000 f ∧ Sls f r w l ∧ Pk Q' p L ∧ Oth p Q Q' ∧ callP (penv P1) 16 [.ptr p 0, .int .i64 15] Q = some (Fed.v f r w l, Q') := by
  obtain ⟨x, Q1, e1, hx, hp1, o1⟩ := c_Num hp hL rL (m := 5) (by omega)
  have w1 := w64 (i := 1 + x) (by omega) (by omega)
  have s0 : Sls Fed0 .nils .nils .nils := ⟨Sl.nil 2, Sl.nil 2, Sl.nil 5⟩
  have db := fun Q => d_Begin (Q := Q) s0 (1 + x)
  have eb : Fed0.begin_ (1 + x) = { Fed0 with next := 1 + x } := by
    unfold Fed.begin_
    rw [if_neg (by simp [Fed0]), if_pos (by omega)]
  rw [eb] at db
  obtain ⟨f, r, w, l, Q', k1, k2, k3, k4, lp⟩ := loop_Feed (p := p) hL rL (a := 1 + x) 15 0 { Fed0 with next := 1 + x } 0 Q1 .nils .nils .nils rfl hp1 ⟨s0.r, s0.w, s0.l⟩ ((Md.start (by omega)).weaken (by omega)) (by omega)
  refine ⟨1 + x, f, r, w, l, Q', by omega, k1, k2, k3, o1.trans k4, ?_⟩
  rw [f_pleachmade_Picks_Feed rfl]
  simp only [Fed.v, Fed0, show ((0 : Nat) : Int) = 0 from rfl] at db lp ⊢
  simp [e1, w1, db, L_pleachmade_Picks_Feed_1_fold, lp, p_pleachmade_Picks_Feed_2, k2.r.one, k2.w.one, k2.l.one]
end
end Go.Proofs.Ytccgolmdhikdoaa.Pn
