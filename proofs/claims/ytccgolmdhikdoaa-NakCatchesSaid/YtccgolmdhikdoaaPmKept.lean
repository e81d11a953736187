/- What skips does (plain). -/
import Derived.Test.YtccgolmdhikdoaaPmServ
set_option linter.unusedVariables false
set_option linter.unusedSimpArgs false
namespace Go.Feed
open Go.Span (has)
structure Sk (hi : Int) (f g : Fed) (D : List Ev) (o : List Sp) : Prop where
  log : g.log = f.log ++ D
  nx : f.next ≤ g.next
  win : ∀ x, x ∈ g.win ↔ x ∈ f.win ∧ g.next ≤ x.seq
  d1 : ∀ e ∈ D, e.kind = 1 → ∃ x ∈ f.win, e = told x ∧ f.next ≤ x.seq ∧ x.seq < g.next
  d2 : ∀ x ∈ f.win, x.seq < g.next → told x ∈ D
  o1 : ∀ n, has o n = true ↔ f.next ≤ n ∧ n < g.next ∧ ∀ x ∈ f.win, x.seq ≠ n
  le : ∀ n, has o n = true → n ≤ hi
  d3 : ∀ e ∈ D, (e.kind = 1 ∨ e.kind = 2) ∧ (e.kind = 2 → ∀ n, e.lo ≤ n → n ≤ e.hi → has o n = true)
theorem has_app (a b : List Sp) (n : Int) : has (a ++ b) n = (has a n || has b n) := by simp [has]
theorem Sk.refl {hi : Int} {f : Fed} (h : ∀ x ∈ f.win, f.next ≤ x.seq) : Sk hi f f [] [] :=
  ⟨by simp, Int.le_refl _, fun x => ⟨fun hx => ⟨hx, h x hx⟩, fun hx => hx.1⟩, fun e he => by simp at he, fun x hx hl => by have := h x hx; omega, fun n => by
    simp [has]; intro h1 h2; omega, fun n hn => by simp [has] at hn, fun e he => by simp at he⟩
theorem Sk.trans {hi : Int} {f g k : Fed} {D E : List Ev} {o p : List Sp} (a : Sk hi f g D o) (b : Sk hi g k E p) : Sk hi f k (D ++ E) (o ++ p) := by
  refine ⟨by rw [b.log, a.log, List.append_assoc], Int.le_trans a.nx b.nx, fun x => ?_, fun e he hk => ?_, fun x hx hl => ?_, fun n => ?_, fun n hn => ?_, fun e he => ?_⟩
  · rw [b.win, a.win]
    have := b.nx
    exact ⟨fun h => ⟨h.1.1, h.2⟩, fun h => ⟨⟨h.1, by have := h.2; omega⟩, h.2⟩⟩
  · have n1 := a.nx
    have n2 := b.nx
    rcases List.mem_append.1 he with he | he
    · obtain ⟨x, hx, h1, h2, h3⟩ := a.d1 e he hk
      exact ⟨x, hx, h1, h2, by omega⟩
    · obtain ⟨x, hx, h1, h2, h3⟩ := b.d1 e he hk
      exact ⟨x, ((a.win x).1 hx).1, h1, by omega, h3⟩
  · by_cases c : x.seq < g.next
    · exact List.mem_append_left _ (a.d2 x hx c)
    · exact List.mem_append_right _ (b.d2 x ((a.win x).2 ⟨hx, by omega⟩) hl)
  · rw [has_app, Bool.or_eq_true, a.o1, b.o1]
    have n1 := a.nx
    have n2 := b.nx
    constructor
    · rintro (⟨h1, h2, h3⟩ | ⟨h1, h2, h3⟩)
      · exact ⟨h1, by omega, h3⟩
      · exact ⟨by omega, h2, fun x hx e => h3 x ((a.win x).2 ⟨hx, by omega⟩) e⟩
    · rintro ⟨h1, h2, h3⟩
      by_cases c : n < g.next
      · exact Or.inl ⟨h1, c, h3⟩
      · exact Or.inr ⟨by omega, h2, fun x hx => h3 x ((a.win x).1 hx).1⟩
  · rw [has_app, Bool.or_eq_true] at hn
    rcases hn with hn | hn
    · exact a.le n hn
    · exact b.le n hn
  · rcases List.mem_append.1 he with he | he
    · exact ⟨(a.d3 e he).1, fun hk n h1 h2 => by rw [has_app, (a.d3 e he).2 hk n h1 h2]; rfl⟩
    · exact ⟨(b.d3 e he).1, fun hk n h1 h2 => by rw [has_app, (b.d3 e he).2 hk n h1 h2, Bool.or_true]⟩
theorem Sk.of {hi : Int} {f g g' : Fed} {D : List Ev} {o : List Sp} (h : Sk hi f g D o) (h1 : g'.log = g.log) (h2 : g'.next = g.next) (h3 : g'.win = g.win) : Sk hi f g' D o :=
  ⟨by rw [h1]; exact h.log, by rw [h2]; exact h.nx, by rw [h2, h3]; exact h.win, by rw [h2]; exact h.d1, by rw [h2]; exact h.d2, by rw [h2]; exact h.o1, h.le, h.d3⟩
theorem goesL_sk {hi : Int} : ∀ (w : List It) (f : Fed), f.win = w → Sorted w → (∀ x ∈ w, f.next ≤ x.seq) → Sk hi f (goesL w f).1 ((goesL w f).2.map told) [] := by
  intro w
  induction w with
  | nil => intro f hw hs hg; exact (Sk.refl (f := f) (by rw [hw]; simp)).of (g' := { f with win := [] }) rfl rfl hw.symm
  | cons x w ih =>
    intro f hw hs hg
    have hs' := List.pairwise_cons.1 hs
    unfold goesL
    by_cases c : x.seq = f.next
    · rw [if_pos c]
      have i := ih (take1 f x w) rfl hs'.2 (fun y hy => by have := hs'.1 y hy; show f.next + 1 ≤ y.seq; omega)
      refine Sk.trans (g := take1 f x w) (D := [told x]) (o := []) ⟨rfl, by show f.next ≤ f.next + 1; omega, fun y => ?_, fun e he hk => ?_, fun y hy hl => ?_, fun n => ?_, fun n hn => by simp [has] at hn, fun e he => by simp at he; subst he; exact ⟨Or.inl rfl, fun hk => by simp [told] at hk⟩⟩ i
      · show y ∈ w ↔ _ ∧ f.next + 1 ≤ y.seq
        rw [hw]
        constructor
        · intro hy; have := hs'.1 y hy; exact ⟨List.mem_cons_of_mem _ hy, by omega⟩
        · rintro ⟨hy, h1⟩
          rcases List.mem_cons.1 hy with rfl | hy
          · omega
          · exact hy
      · simp at he; subst he
        exact ⟨x, by rw [hw]; exact List.mem_cons_self, rfl, by omega, by show x.seq < f.next + 1; omega⟩
      · rw [hw] at hy
        have hl : y.seq < f.next + 1 := hl
        rcases List.mem_cons.1 hy with rfl | hy
        · simp
        · have := hs'.1 y hy; omega
      · constructor
        · intro hn; simp [has] at hn
        · rintro ⟨h1, h2, h3⟩
          have h2 : n < f.next + 1 := h2
          exact absurd (show x.seq = n by omega) (h3 x (by rw [hw]; exact List.mem_cons_self))
    · rw [if_neg c]
      exact (Sk.refl (f := f) (by rw [hw]; exact hg)).of (g' := { f with win := x :: w }) rfl rfl hw.symm
theorem tells_sk {hi : Int} {f : Fed} (h : Inv f) : ∃ D, Sk hi f f.tells.1 D [] := by
  obtain ⟨t1, t2, t3, t4, _⟩ := tells_fst f
  exact ⟨_, (goesL_sk f.win f rfl h.so h.ge).of t3 t4 t2⟩
theorem skip1_sk {hi last why : Int} {f : Fed} (h1 : f.next ≤ last) (h2 : last ≤ hi) (h3 : ∀ x ∈ f.win, last < x.seq) : Sk hi f (skip1 f last why) [gapE f.next last why] [(f.next, last)] := by
  refine ⟨rfl, by show f.next ≤ last + 1; omega, fun x => ⟨fun hx => ⟨hx, by have := h3 x hx; show last + 1 ≤ x.seq; omega⟩, fun hx => hx.1⟩, fun e he hk => ?_, fun x hx hl => ?_, fun n => ?_, fun n hn => ?_, fun e he => by simp at he; subst he; exact ⟨Or.inr rfl, fun _ n h1 h2 => by simp only [gapE] at h1 h2; simp [has]; omega⟩⟩
  · simp at he; subst he; simp [gapE] at hk
  · have := h3 x hx
    have hl : x.seq < last + 1 := hl
    omega
  · simp only [has, List.any_cons, List.any_nil, Bool.or_false, decide_eq_true_eq]
    show _ ↔ f.next ≤ n ∧ n < last + 1 ∧ _
    exact ⟨fun h => ⟨h.1, by omega, fun x hx e => by have := h3 x hx; omega⟩, fun h => ⟨h.1, by omega⟩⟩
  · simp only [has, List.any_cons, List.any_nil, Bool.or_false, decide_eq_true_eq] at hn
    omega
theorem skipsN_sk {hi why : Int} (hh : hi ≤ 1000000) : ∀ (n : Nat) (f : Fed) (out : List Sp) (g : Fed) (o : List Sp), skipsN n f hi why out = some (g, o) → Inv f → ∃ D p, o = out ++ p ∧ Sk hi f g D p := by
  intro n
  induction n with
  | zero => intro f out g o h; cases h
  | succ n ih =>
    intro f out g o h hv
    unfold skipsN at h
    by_cases c : f.next ≤ hi
    · rw [if_pos c] at h
      simp only at h
      have hle := fahead_le (f := f) (hi := hi)
      have hsk := hv.skip (why := why) c
      have fa := fahead_inv hv hi
      have hlt : ∀ x ∈ f.win, f.next ≤ (fahead f hi).1 → (fahead f hi).1 < x.seq := by
        intro x hx _
        rw [fa]
        cases hw : f.win with
        | nil => rw [hw] at hx; cases hx
        | cons y w =>
          have hs := hv.so
          rw [hw] at hs hx
          have hs' := List.pairwise_cons.1 hs
          have hxy : y.seq ≤ x.seq := by
            rcases List.mem_cons.1 hx with rfl | hx
            · exact Int.le_refl _
            · have := hs'.1 x hx; omega
          simp only
          split
          · simp only; omega
          · simp only; omega
      generalize fahead f hi = a at *
      have b1 : ∃ f1 o1 D1 p1, (if f.next ≤ a.1 then skip1 f a.1 why else f) = f1 ∧ (if f.next ≤ a.1 then out ++ [(f.next, a.1)] else out) = o1 ∧ o1 = out ++ p1 ∧ Sk hi f f1 D1 p1 ∧ Inv f1 := by
        by_cases c1 : f.next ≤ a.1
        · rw [if_pos c1] at hsk
          exact ⟨_, _, _, _, rfl, rfl, by rw [if_pos c1], by rw [if_pos c1]; exact skip1_sk c1 hle (fun x hx => hlt x hx c1), by rw [if_pos c1]; exact hsk⟩
        · exact ⟨_, _, [], [], rfl, rfl, by rw [if_neg c1]; simp, by rw [if_neg c1]; exact Sk.refl hv.ge, by rw [if_neg c1]; exact hv⟩
      obtain ⟨f1, o1, D1, p1, e1, e2, e3, s1, v1⟩ := b1
      rw [e1, e2] at h
      split at h
      · obtain ⟨D2, s2⟩ := tells_sk (hi := hi) v1
        split at h
        · simp only [Option.some.injEq, Prod.mk.injEq] at h
          obtain ⟨rfl, rfl⟩ := h
          exact ⟨D1 ++ D2, p1 ++ [], by rw [e3]; simp, s1.trans s2⟩
        · obtain ⟨D3, p3, e4, s3⟩ := ih _ _ g o h v1.tells.1
          exact ⟨D1 ++ D2 ++ D3, p1 ++ [] ++ p3, by rw [e4, e3]; simp, (s1.trans s2).trans s3⟩
      · simp only [Option.some.injEq, Prod.mk.injEq] at h
        obtain ⟨rfl, rfl⟩ := h
        exact ⟨D1, p1, e3, s1⟩
    · rw [if_neg c] at h
      simp only [Option.some.injEq, Prod.mk.injEq] at h
      obtain ⟨rfl, rfl⟩ := h
      exact ⟨[], [], by simp, Sk.refl hv.ge⟩
theorem skips_sk {f : Fed} (hv : Inv f) {hi : Int} (why : Int) (h1 : 1 ≤ f.next) (h2 : hi ≤ 1000000) : ∃ D, Sk hi f (skips f hi why).1 D (skips f hi why).2 := by
  unfold skips
  rw [if_neg (by omega)]
  obtain ⟨r, hr⟩ := skipsN_some (hi := hi) (why := why) (f.win.length + 1) f [] (by omega)
  obtain ⟨g, o⟩ := r
  rw [hr]
  obtain ⟨D, p, e, s⟩ := skipsN_sk h2 _ _ _ _ _ hr hv
  simp only [List.nil_append] at e
  subst e
  refine ⟨D, ?_⟩
  simp only
  split
  · exact s.of rfl rfl rfl
  · exact s
structure Lim (C : Int) (f : Fed) : Prop where
  n : f.next ≤ C + 1
  t : f.top ≤ C
  w : ∀ x ∈ f.win, x.seq ≤ C
theorem Lim.mono {C E : Int} {f : Fed} (h : Lim C f) (hc : C ≤ E) : Lim E f := ⟨by have := h.n; omega, by have := h.t; omega, fun x hx => by have := h.w x hx; omega⟩
theorem Lim.sk {C hi : Int} {f g : Fed} {D : List Ev} {o : List Sp} (h : Lim C f) (s : Sk hi f g D o) (hh : hi ≤ C) (ht : g.top = f.top) : Lim C g := by
  refine ⟨?_, by rw [ht]; exact h.t, fun x hx => h.w x ((s.win x).1 hx).1⟩
  by_cases c : g.next ≤ f.next
  · have := h.n; omega
  · -- the last one is told or skipped
    by_cases k : ∃ x ∈ f.win, x.seq = g.next - 1
    · obtain ⟨x, hx, e⟩ := k
      have := h.w x hx; omega
    · have := s.le (g.next - 1) ((s.o1 _).2 ⟨by omega, by omega, fun x hx e => k ⟨x, hx, e⟩⟩)
      omega
theorem Lim.tells {C : Int} {f : Fed} (h : Lim C f) (hv : Inv f) : Lim C f.tells.1 := by
  obtain ⟨D, s⟩ := tells_sk (hi := C) hv
  obtain ⟨t1, t2, t3, t4, t5, _⟩ := tells_fst f
  exact h.sk s (Int.le_refl _) (by rw [t5]; exact (goesL_bd f.win f).2.2.2.2.1)
theorem Lim.skips {C : Int} {f : Fed} (h : Lim C f) (hv : Inv f) (h1 : 1 ≤ f.next) {hi : Int} (why : Int) (hh : hi ≤ C) : Lim C (skips f hi why).1 := by
  by_cases c : hi ≤ 1000000
  · obtain ⟨D, s⟩ := skips_sk hv why h1 c
    exact h.sk s hh (skips_knows f hi why)
  · have : (Go.Feed.skips f hi why) = (f, []) := by unfold Go.Feed.skips; rw [if_pos (by omega)]
    rw [this]; exact h
theorem Lim.knows {C : Int} {f : Fed} (h : Lim C f) {t : Int} (ht : t ≤ C) : Lim C (f.knows t) := by
  obtain ⟨k1, k2, k3, k4⟩ := knows_eq f t
  refine ⟨by rw [k1]; exact h.n, ?_, by rw [k2]; exact h.w⟩
  unfold Fed.knows; split
  · show max f.top t ≤ C; have := h.t; omega
  · exact h.t
end Go.Feed
