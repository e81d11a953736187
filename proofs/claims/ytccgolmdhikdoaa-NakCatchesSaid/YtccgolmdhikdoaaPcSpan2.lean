/- How far numbers go; logs that are one (plain). -/
import Derived.Test.YtccgolmdhikdoaaPmKept
import Derived.Test.YtccgolmdhikdoaaPcFeed2
import Derived.Test.YtccgolmdhikdoaaPcFeed5
import Derived.Test.YtccgolmdhikdoaaPmNak
import Derived.Test.YtccgolmdhikdoaaPmServ
set_option linter.unusedVariables false
set_option linter.unusedSimpArgs false
namespace Go.Feed
theorem Lim.notes {C lo hi : Int} {f : Fed} (h : Lim C f) (hv : Inv f) (h1 : 1 ≤ f.next) (hh : hi ≤ C) : Lim C (f.notes lo hi) := by
  unfold Fed.notes
  split
  · exact h
  · split
    · exact h.knows hh
    · have hs := h.skips hv h1 1 hh
      have hi' := hv.skips hi 1
      generalize (Go.Feed.skips f hi 1).1 = S at *
      have : Lim C ({ S with top := max S.top hi } : Fed) := ⟨hs.n, by show max S.top hi ≤ C; have := hs.t; omega, hs.w⟩
      exact this.tells ⟨hi'.so, hi'.ge, hi'.rg, hi'.tr⟩
theorem Lim.tick {C : Int} {f : Fed} (h : Lim C f) (hv : Inv f) (h1 : 1 ≤ f.next) (now : Int) : Lim C (f.tick now).1 := by
  unfold Fed.tick
  split
  · exact h
  · split
    · have hw : (wants f).1.2 ≤ C := by
        unfold wants
        have ht := h.t
        have hn := h.n
        have key : (if f.win = [] then f.top else first f.win - 1) ≤ C := by
          split
          · exact ht
          · rename_i hne
            cases hw : f.win with
            | nil => exact absurd hw hne
            | cons x w =>
              have := h.w x (by rw [hw]; exact List.mem_cons_self)
              show x.seq - 1 ≤ C; omega
        show (if f.next = 0 ∨ (if f.win = [] then f.top else first f.win - 1) < f.next then (((0, 0), false) : Sp × Bool) else ((f.next, if f.win = [] then f.top else first f.win - 1), true)).1.2 ≤ C
        generalize (if f.win = [] then f.top else first f.win - 1) = H at *
        split
        · show (0 : Int) ≤ C; omega
        · exact key
      exact (h.skips hv h1 2 hw).tells (hv.skips _ 2)
    · exact ⟨h.n, h.t, h.w⟩
theorem Lim.comes {C : Int} {f : Fed} {i : It} (h : Lim C f) (hv : Inv f) (hi : i.seq ≤ C) : Lim C (f.comes i) := by
  unfold Fed.comes
  split
  · exact h
  · have hk := h.knows hi
    have hvk := hv.knows i.seq
    generalize f.knows i.seq = K at *
    have : Lim C ({ K with win := (put K.win K.next i).1 } : Fed) := ⟨hk.n, hk.t, fun x hx => by
      rcases put_mem (show x ∈ (put K.win K.next i).1 from hx) with hx | rfl
      · exact hk.w x hx
      · exact hi⟩
    exact this.tells ⟨put_sorted hvk.so K.next i, put_ge hvk.ge, hvk.rg, hvk.tr⟩
theorem getR_win {w : List It} (hs : Sorted w) {x : It} (hx : x ∈ w) : getR w x.seq = x.text := by
  unfold getR
  cases hf : w.find? fun y => decide (y.seq = x.seq) with
  | none => exact absurd (List.find?_eq_none.1 hf x hx) (by simp)
  | some y =>
    have h1 : y.seq = x.seq := by simpa using List.find?_some hf
    have h2 := List.mem_of_find?_eq_some hf
    have : y = x := by
      obtain ⟨i, hi, rfl⟩ := List.getElem_of_mem h2
      obtain ⟨j, hj, rfl⟩ := List.getElem_of_mem hx
      rcases Nat.lt_trichotomy i j with c | c | c
      · have := List.pairwise_iff_getElem.1 hs i j hi hj c; omega
      · subst c; rfl
      · have := List.pairwise_iff_getElem.1 hs j i hj hi c; omega
    rw [this]
theorem there_iff' (w : List It) (s : Int) : there w s = true ↔ ∃ x ∈ w, x.seq = s := by simp [there]
end Go.Feed
/- A feed that is made of choices, and goes not far. -/
set_option linter.unusedVariables false
set_option linter.unusedSimpArgs false
namespace Go.Proofs.Ytccgolmdhikdoaa.Pn
open Go.Ab Go.Feed
set_option maxRecDepth 100000
section
variable {p : Nat} {L : List Int}
theorem loop_FeedL (hL : L.length ≤ 1000) (rL : Bs L) {a : Int} : ∀ (m i : Nat) (f : Fed) (now : Int) (Q : AHeap) (r w l : AV), i + m = 15 → Pk Q p L → Sls f r w l → Md a (600000 - 3 * i) f → Lim (10 + 5 * i) f → 0 ≤ now ∧ now ≤ 7 * i →
    ∃ (f' : Fed) (r' w' l' : AV) (Q' : AHeap), Md a 500000 f' ∧ Lim 100 f' ∧ Sls f' r' w' l' ∧ Pk Q' p L ∧ Oth p Q Q' ∧
      L_pleachmade_Picks_Feed_1 P1 (.ptr p 0) (.int .i64 15) (.int .i64 now) (.int .i64 i) (.int .i64 0) (.int .i64 0) .nils .nils .nils (.int .i64 0) (.int .i64 0) (.int .i64 f.next) (.int .i64 f.top) r w l (.int .i64 f.tries) (.int .i64 f.due) Q =
        X_pleachmade_Picks_Feed_1_x0 (.int .i64 0) (.int .i64 0) .nils .nils .nils (.int .i64 0) (.int .i64 0) (.int .i64 f'.next) (.int .i64 f'.top) r' w' l' (.int .i64 f'.tries) (.int .i64 f'.due) Q' := by
  intro m
  induction m with
  | zero =>
    intro i f now Q r w l hi hp hs hm hl hn
    obtain rfl : i = 15 := by omega
    refine ⟨f, r, w, l, Q, hm.weaken (by omega), hl.mono (by omega), hs, hp, Oth.refl p Q, ?_⟩
    rw [L_pleachmade_Picks_Feed_1_eq, p_pleachmade_Picks_Feed_1]
    simp
  | succ m ih =>
    intro i f now Q r w l hi hp hs hm hl hn
    have c : ((i : Int) < 15) = True := eq_true (by omega)
    have wi := w64 (i := (i : Int) + 1) (by omega) (by omega)
    have n0 := hm.on.n1
    have n1 := hm.dd.n1
    have bd := hm.dd.bd
    have rg := hm.dd.inv.rg
    have ln := hl.n
    have hl5 : Lim (10 + 5 * (i + 1 : Nat)) f := hl.mono (by omega)
    have bl := bd.l
    obtain ⟨b, ov⟩ := c_Over hp hL
    cases b with
    | true =>
      refine ⟨f, r, w, l, Q, hm.weaken (by omega), hl.mono (by omega), hs, hp, Oth.refl p Q, ?_⟩
      rw [L_pleachmade_Picks_Feed_1_eq, p_pleachmade_Picks_Feed_1]
      simp [c, ov]
    | false =>
      obtain ⟨v, Q1, e1, hv, hp1, o1⟩ := c_Num hp hL rL (m := 6) (by omega)
      by_cases v0 : v = 0
      · subst v0
        obtain ⟨x, Q2, e2, hx, hp2, o2⟩ := c_Num hp1 hL rL (m := 3) (by omega)
        obtain ⟨y, Q3, e3, hy, hp3, o3⟩ := c_Num hp2 hL rL (m := 4) (by omega)
        have w1 := w64 (i := f.next - 1) (by omega) (by omega)
        have w2 := w64 (i := f.next - 1 + x) (by omega) (by omega)
        have w3 := w64 (i := max 1 (f.next - 1 + x) + y) (by omega) (by omega)
        obtain ⟨r2, w2', l2, hs2, dn⟩ := d_Notes hs (bd.weaken (by omega)) hm.dd.inv (max 1 (f.next - 1 + x)) (max 1 (f.next - 1 + x) + y)
        have hm2 := Md.notes (k := 600000 - 3 * (i + 1)) (hm.weaken (by omega)) (max 1 (f.next - 1 + x)) (max 1 (f.next - 1 + x) + y)
        have hl2 := hl5.notes (lo := max 1 (f.next - 1 + x)) (hi := max 1 (f.next - 1 + x) + y) hm.dd.inv n0 (by omega)
        generalize f.notes (max 1 (f.next - 1 + x)) (max 1 (f.next - 1 + x) + y) = g at *
        obtain ⟨f', r', w', l', Q', k1, kl, k2, k3, k4, ih⟩ := ih (i + 1) g now Q3 r2 w2' l2 (by omega) hp3 hs2 hm2 hl2 (by omega)
        refine ⟨f', r', w', l', Q', k1, kl, k2, k3, (o1.trans (o2.trans o3)).trans k4, ?_⟩
        simp only [Fed.v] at dn
        rw [L_pleachmade_Picks_Feed_1_eq, p_pleachmade_Picks_Feed_1]
        simp [c, ov, e1, e2, e3, w1, w2, w3, dn, hs2.r.one, hs2.w.one, hs2.l.one, p_pleachmade_Picks_Feed_0, wi]
        simpa [L_pleachmade_Picks_Feed_1_fold] using ih
      · by_cases v1 : v = 1
        · subst v1
          obtain ⟨x, Q2, e2, hx, hp2, o2⟩ := c_Num hp1 hL rL (m := 5) (by omega)
          have w1 := w64 (i := f.next + x) (by omega) (by omega)
          have dk := fun Q => d_Knows (Q := Q) hs (f.next + x)
          have ke := knows_eq f (f.next + x)
          have hs2 : Sls (f.knows (f.next + x)) r w l := ⟨by rw [ke.2.2.1]; exact hs.r, by rw [ke.2.1]; exact hs.w, by rw [ke.2.2.2]; exact hs.l⟩
          have hm2 := Md.knows (k := 600000 - 3 * (i + 1)) (hm.weaken (by omega)) (f.next + x)
          have hl2 := hl5.knows (t := f.next + x) (by omega)
          clear ke
          generalize f.knows (f.next + x) = g at *
          obtain ⟨f', r', w', l', Q', k1, kl, k2, k3, k4, ih⟩ := ih (i + 1) g now Q2 r w l (by omega) hp2 hs2 hm2 hl2 (by omega)
          refine ⟨f', r', w', l', Q', k1, kl, k2, k3, (o1.trans o2).trans k4, ?_⟩
          simp only [Fed.v] at dk
          rw [L_pleachmade_Picks_Feed_1_eq, p_pleachmade_Picks_Feed_1]
          simp [c, ov, e1, e2, w1, dk, hs2.r.one, hs2.w.one, hs2.l.one, p_pleachmade_Picks_Feed_0, wi]
          simpa [L_pleachmade_Picks_Feed_1_fold] using ih
        · by_cases v2 : v = 2
          · subst v2
            obtain ⟨x, Q2, e2, hx, hp2, o2⟩ := c_Num hp1 hL rL (m := 6) (by omega)
            have w1 := w64 (i := now + 1) (by omega) (by omega)
            have w2 := w64 (i := now + 1 + x) (by omega) (by omega)
            obtain ⟨r2, w2', l2, hs2, dt⟩ := d_Tick hs (bd.weaken (by omega)) hm.dd.inv (now := now + 1 + x) (by omega)
            have hm2 := Md.tick (k := 600000 - 3 * (i + 1)) (hm.weaken (by omega)) (now + 1 + x)
            have hl2 := hl5.tick hm.dd.inv n0 (now + 1 + x)
            generalize f.tick (now + 1 + x) = G at *
            obtain ⟨g, s, b⟩ := G
            simp only at hs2 dt hm2 hl2
            obtain ⟨f', r', w', l', Q', k1, kl, k2, k3, k4, ih⟩ := ih (i + 1) g (now + 1 + x) Q2 r2 w2' l2 (by omega) hp2 hs2 hm2 hl2 (by omega)
            refine ⟨f', r', w', l', Q', k1, kl, k2, k3, (o1.trans o2).trans k4, ?_⟩
            simp only [Fed.v] at dt
            rw [L_pleachmade_Picks_Feed_1_eq, p_pleachmade_Picks_Feed_1]
            simp [c, ov, e1, e2, w1, w2, dt, hs2.r.one, hs2.w.one, hs2.l.one, p_pleachmade_Picks_Feed_0, wi]
            simpa [L_pleachmade_Picks_Feed_1_fold] using ih
          · obtain ⟨x, Q2, e2, hx, hp2, o2⟩ := c_Num hp1 hL rL (m := 5) (by omega)
            obtain ⟨t, Q3, e3, ht, hp3, o3⟩ := c_Text hp2 hL rL
            have w1 := w64 (i := f.next - 1) (by omega) (by omega)
            have w2 := w64 (i := f.next - 1 + x) (by omega) (by omega)
            have bw := bd.n1
            obtain ⟨r2, w2', l2, hs2, dc⟩ := d_Comes hs (bd.weaken (by omega)) (by omega) hm.dd.inv (by omega) ⟨max 1 (f.next - 1 + x), t⟩
            have hm2 := Md.comes (k := 600000 - 3 * (i + 1)) (hm.weaken (by omega)) ⟨max 1 (f.next - 1 + x), t⟩
            have hl2 := hl5.comes (i := ⟨max 1 (f.next - 1 + x), t⟩) hm.dd.inv (by simp only; omega)
            generalize f.comes ⟨max 1 (f.next - 1 + x), t⟩ = g at *
            obtain ⟨f', r', w', l', Q', k1, kl, k2, k3, k4, ih⟩ := ih (i + 1) g now Q3 r2 w2' l2 (by omega) hp3 hs2 hm2 hl2 (by omega)
            refine ⟨f', r', w', l', Q', k1, kl, k2, k3, (o1.trans (o2.trans o3)).trans k4, ?_⟩
            simp only [Fed.v, It.v] at dc
            rw [L_pleachmade_Picks_Feed_1_eq, p_pleachmade_Picks_Feed_1]
            simp [c, ov, e1, v0, v1, v2, e2, e3, w1, w2, dc, hs2.r.one, hs2.w.one, hs2.l.one, p_pleachmade_Picks_Feed_0, wi]
            simpa [L_pleachmade_Picks_Feed_1_fold] using ih
theorem c_FeedL (hL : L.length ≤ 1000) (rL : Bs L) {Q : AHeap} (hp : Pk Q p L) :
    ∃ (a : Int) (f : Fed) (r w l : AV) (Q' : AHeap), (1 ≤ a ∧ a ≤ 5) ∧ Md a 500000 f ∧ Lim 100 f ∧ Sls f r w l ∧ Pk Q' p L ∧ Oth p Q Q' ∧ callP (penv P1) 16 [.ptr p 0, .int .i64 15] Q = some (Fed.v f r w l, Q') := by
  obtain ⟨x, Q1, e1, hx, hp1, o1⟩ := c_Num hp hL rL (m := 5) (by omega)
  have w1 := w64 (i := 1 + x) (by omega) (by omega)
  have s0 : Sls Fed0 .nils .nils .nils := ⟨Sl.nil 2, Sl.nil 2, Sl.nil 5⟩
  have db := fun Q => d_Begin (Q := Q) s0 (1 + x)
  have eb : Fed0.begin_ (1 + x) = { Fed0 with next := 1 + x } := by
    unfold Fed.begin_
    rw [if_neg (by simp [Fed0]), if_pos (by omega)]
  rw [eb] at db
  obtain ⟨f, r, w, l, Q', k1, kl, k2, k3, k4, lp⟩ := loop_FeedL (p := p) hL rL (a := 1 + x) 15 0 { Fed0 with next := 1 + x } 0 Q1 .nils .nils .nils rfl hp1 ⟨s0.r, s0.w, s0.l⟩ ((Md.start (by omega)).weaken (by omega)) ⟨by simp only; omega, by simp [Fed0], by simp [Fed0]⟩ (by omega)
  refine ⟨1 + x, f, r, w, l, Q', by omega, k1, kl, k2, k3, o1.trans k4, ?_⟩
  rw [f_pleachmade_Picks_Feed rfl]
  simp only [Fed.v, Fed0, show ((0 : Nat) : Int) = 0 from rfl] at db lp ⊢
  simp [e1, w1, db, L_pleachmade_Picks_Feed_1_fold, lp, p_pleachmade_Picks_Feed_2, k2.r.one, k2.w.one, k2.l.one]
end
end Go.Proofs.Ytccgolmdhikdoaa.Pn
/- A feed that is made of choices. -/
set_option linter.unusedVariables false
set_option linter.unusedSimpArgs false
namespace Go.Proofs.Ytccgolmdhikdoaa.Pn
open Go.Ab Go.Feed
set_option maxRecDepth 100000
theorem Md.rw {a : Int} {k : Nat} {f : Fed} (h : Md a k f) : f.ring.length + f.win.length ≤ 600000 ∨ True := Or.inr trivial
section
variable {p : Nat} {L : List Int}
end
end Go.Proofs.Ytccgolmdhikdoaa.Pn
/- What the functions of span, and the document's, come to. -/
set_option linter.unusedVariables false
set_option linter.unusedSimpArgs false
namespace Go.Proofs.Ytccgolmdhikdoaa.Pn
open Go.Ab Go.Feed
set_option maxRecDepth 100000
open Go.Span (add addL radd radL insN insAt lk rlk may has cnt Gd)
theorem Sp_v (a b : Int) : Sp.v (a, b) = .agg [.int .i64 a, .int .i64 b] := rfl
def Ok (s : Sp) : Prop := 0 ≤ s.1 ∧ s.1 ≤ 2000000 ∧ 0 ≤ s.2 ∧ s.2 ≤ 2000000
theorem Gd.ok {l : List Sp} (h : Gd l) : ∀ s ∈ l, Ok s := fun s hs => by have := h.m s hs; unfold Ok; omega
@[simp] theorem gdN_tt (o : Option Nat) : gdN (.bool true) true o = o := by simp [gdN]
@[simp] theorem gdN_ft (o : Option Nat) : gdN (.bool false) true o = some 0 := by simp [gdN]
section
variable {Q : AHeap}
end
end Go.Proofs.Ytccgolmdhikdoaa.Pn
/- What the functions of span, and the document's, come to: what is there, and lacked. -/
set_option linter.unusedVariables false
set_option linter.unusedSimpArgs false
namespace Go.Proofs.Ytccgolmdhikdoaa.Pn
open Go.Ab Go.Feed
set_option maxRecDepth 100000
open Go.Span (add addL radd radL insN insAt lk rlk may has Gd)
section
variable {Q : AHeap}
end
end Go.Proofs.Ytccgolmdhikdoaa.Pn
