/- Who asks for what it lacks comes to where the other one is (plain). -/
import Derived.Test.YtccgolmdhikdoaaPcSpan2
import Derived.Test.YtccgolmdhikdoaaPmWin
set_option linter.unusedVariables false
set_option linter.unusedSimpArgs false
namespace Go.Feed
open Go.Span (Gd has)
def Ge (r : List It) (e : Ev) : Prop := (e.kind = 1 ∧ e.hi = e.lo ∧ there r e.lo = true ∧ e.text = getR r e.lo) ∨ (e.kind = 2 ∧ ∀ n, e.lo ≤ n → n ≤ e.hi → there r n = false)
structure Ct (r : List It) (E T : Int) (F : Nat) (a : Int) (k : Nat) (f : Fed) : Prop where
  md : Md a k f
  gt : ∀ x ∈ f.win, f.next < x.seq
  gw : ∀ x ∈ f.win, x.seq < E ∧ there r x.seq = true ∧ x.text = getR r x.seq
  lg : ∀ e ∈ f.log.drop F, Ge r e
  fl : F ≤ f.log.length
  tp : f.top = T
theorem Ct.weaken {r : List It} {E T : Int} {F : Nat} {a : Int} {k m : Nat} {f : Fed} (h : Ct r E T F a k f) (hm : m ≤ k) : Ct r E T F a m f := ⟨h.md.weaken hm, h.gt, h.gw, h.lg, h.fl, h.tp⟩
theorem ge_told {r : List It} {x : It} (h1 : there r x.seq = true) (h2 : x.text = getR r x.seq) : Ge r (told x) := Or.inl ⟨rfl, rfl, h1, h2⟩
theorem lg_app {r : List It} {F : Nat} {l D : List Ev} (hl : ∀ e ∈ l.drop F, Ge r e) (hf : F ≤ l.length) (hd : ∀ e ∈ D, Ge r e) : ∀ e ∈ (l ++ D).drop F, Ge r e := by
  intro e he
  rw [List.drop_append_of_le_length hf] at he
  rcases List.mem_append.1 he with he | he
  · exact hl e he
  · exact hd e he
theorem Ct.comes {r : List It} {E T : Int} {F : Nat} {a : Int} {k : Nat} {f : Fed} (h : Ct r E T F a (k + 3) f) {x : It} (h1 : 1 ≤ x.seq ∧ x.seq ≤ 1000000 ∧ x.seq ≤ T) (h2 : x.text.length ≤ 12) (h3 : x.seq < E) (h4 : there r x.seq = true) (h5 : x.text = getR r x.seq) :
    Ct r E T F a k (f.comes x) ∧ f.next ≤ (f.comes x).next ∧ (∀ n, (f.comes x).next ≤ n → there f.win n = true → there (f.comes x).win n = true) ∧ (x.seq < f.next + 8 → (f.comes x).next ≤ x.seq → there (f.comes x).win x.seq = true) := by
  have n1 := h.md.on.n1
  have m2 := h.md.comes x
  have inv := h.md.dd.inv
  obtain ⟨k1, k2, k3, k4⟩ := knows_eq f x.seq
  have kt : (f.knows x.seq).top = T := by
    unfold Fed.knows
    rw [if_pos ⟨by omega, h1.2.1⟩]
    show max f.top x.seq = T
    have := h.tp; omega
  have iv := inv.knows x.seq
  have ec : f.comes x = ({ f.knows x.seq with win := (put (f.knows x.seq).win (f.knows x.seq).next x).1 } : Fed).tells.1 := by
    unfold Fed.comes
    rw [if_neg (by omega)]
  have pi : Inv ({ f.knows x.seq with win := (put (f.knows x.seq).win (f.knows x.seq).next x).1 } : Fed) := ⟨put_sorted iv.so _ x, put_ge iv.ge, iv.rg, iv.tr⟩
  obtain ⟨D, s⟩ := tells_sk (hi := T) pi
  obtain ⟨t1, t2, t3, t4, t5, _⟩ := tells_fst ({ f.knows x.seq with win := (put (f.knows x.seq).win (f.knows x.seq).next x).1 } : Fed)
  have tt := (goesL_bd ({ f.knows x.seq with win := (put (f.knows x.seq).win (f.knows x.seq).next x).1 } : Fed).win ({ f.knows x.seq with win := (put (f.knows x.seq).win (f.knows x.seq).next x).1 } : Fed)).2.2.2.2.1
  have gt := pi.tells.2
  rw [ec] at m2 ⊢
  have pw : ∀ y, y ∈ ({ f.knows x.seq with win := (put (f.knows x.seq).win (f.knows x.seq).next x).1 } : Fed).win ↔ y ∈ f.win ∨ (y = x ∧ ¬ (there f.win x.seq = true ∨ x.seq < f.next ∨ 8 ≤ x.seq - f.next)) := fun y => by
    show y ∈ (put (f.knows x.seq).win (f.knows x.seq).next x).1 ↔ _
    rw [put_iff, k1, k2]
  have pn : ({ f.knows x.seq with win := (put (f.knows x.seq).win (f.knows x.seq).next x).1 } : Fed).next = f.next := k1
  have pl : ({ f.knows x.seq with win := (put (f.knows x.seq).win (f.knows x.seq).next x).1 } : Fed).log = f.log := k4
  have pt : ({ f.knows x.seq with win := (put (f.knows x.seq).win (f.knows x.seq).next x).1 } : Fed).top = T := kt
  generalize ({ f.knows x.seq with win := (put (f.knows x.seq).win (f.knows x.seq).next x).1 } : Fed) = P at *
  have gw : ∀ y ∈ P.win, y.seq < E ∧ there r y.seq = true ∧ y.text = getR r y.seq := fun y hy => by
    rcases (pw y).1 hy with hy | ⟨rfl, _⟩
    · exact h.gw y hy
    · exact ⟨h3, h4, h5⟩
  have nx := s.nx
  refine ⟨⟨m2, gt, fun y hy => gw y ((s.win y).1 hy).1, ?_, ?_, by rw [t5, tt, pt]⟩, by omega, fun n hn ht => ?_, fun h8 hn => ?_⟩
  · rw [s.log, pl]
    refine lg_app h.lg h.fl fun e he => ?_
    rcases (s.d3 e he).1 with c | c
    · obtain ⟨y, hy, rfl, _⟩ := s.d1 e he c
      exact ge_told (gw y hy).2.1 (gw y hy).2.2
    · refine Or.inr ⟨c, fun n g1 g2 => ?_⟩
      have := (s.d3 e he).2 c n g1 g2
      simp [has] at this
  · rw [s.log, pl, List.length_append]; have := h.fl; omega
  · obtain ⟨y, hy, rfl⟩ := (there_iff' _ _).1 ht
    exact (there_iff' _ _).2 ⟨y, (s.win y).2 ⟨(pw y).2 (Or.inl hy), hn⟩, rfl⟩
  · by_cases c : there f.win x.seq = true
    · obtain ⟨y, hy, e⟩ := (there_iff' _ _).1 c
      exact (there_iff' _ _).2 ⟨y, (s.win y).2 ⟨(pw y).2 (Or.inl hy), by omega⟩, e⟩
    · exact (there_iff' _ _).2 ⟨x, (s.win x).2 ⟨(pw x).2 (Or.inr ⟨rfl, by
        rintro (h | h | h)
        · exact c h
        · omega
        · omega⟩), hn⟩, rfl⟩
theorem Ct.notes {r : List It} {E T : Int} {F : Nat} {a : Int} {k : Nat} {f : Fed} (h : Ct r E T F a (k + 3) f) {lo hi : Int} (h1 : 1 ≤ lo ∧ lo ≤ hi ∧ hi ≤ 1000000 ∧ hi ≤ T) (h2 : ∀ n, lo ≤ n → n ≤ hi → there r n = false) :
    Ct r E T F a k (f.notes lo hi) ∧ f.next ≤ (f.notes lo hi).next ∧ (∀ n, (f.notes lo hi).next ≤ n → there f.win n = true → there (f.notes lo hi).win n = true) ∧ (lo ≤ f.next → hi < (f.notes lo hi).next) := by
  have n1 := h.md.on.n1
  have m2 := h.md.notes lo hi
  have inv := h.md.dd.inv
  by_cases c : f.next < lo ∨ hi < f.next
  · have e : f.notes lo hi = f.knows hi := by unfold Fed.notes; rw [if_neg (by omega), if_pos c]
    obtain ⟨k1, k2, k3, k4⟩ := knows_eq f hi
    have kt : (f.knows hi).top = T := by
      unfold Fed.knows
      rw [if_pos ⟨by omega, h1.2.2.1⟩]
      show max f.top hi = T
      have := h.tp; omega
    rw [e] at m2 ⊢
    exact ⟨⟨m2, by rw [k1, k2]; exact h.gt, by rw [k2]; exact h.gw, by rw [k4]; exact h.lg, by rw [k4]; exact h.fl, kt⟩, by rw [k1]; exact Int.le_refl _, fun n _ ht => by rw [k2]; exact ht, fun hl => by rw [k1]; omega⟩
  · have e : f.notes lo hi = ({ (skips f hi 1).1 with top := max (skips f hi 1).1.top hi } : Fed).tells.1 := by unfold Fed.notes; rw [if_neg (by omega), if_neg c]
    obtain ⟨D1, s1⟩ := skips_sk inv (hi := hi) 1 n1 h1.2.2.1
    have past := skips_past inv (why := 1) n1 h1.2.2.1
    have iv := inv.skips hi 1
    have st := skips_knows f hi 1
    have qi : Inv ({ (skips f hi 1).1 with top := max (skips f hi 1).1.top hi } : Fed) := ⟨iv.so, iv.ge, iv.rg, iv.tr⟩
    obtain ⟨D2, s2⟩ := tells_sk (hi := T) qi
    obtain ⟨t1, t2, t3, t4, t5, _⟩ := tells_fst ({ (skips f hi 1).1 with top := max (skips f hi 1).1.top hi } : Fed)
    have tt := (goesL_bd ({ (skips f hi 1).1 with top := max (skips f hi 1).1.top hi } : Fed).win ({ (skips f hi 1).1 with top := max (skips f hi 1).1.top hi } : Fed)).2.2.2.2.1
    have gt := qi.tells.2
    have qw : ({ (skips f hi 1).1 with top := max (skips f hi 1).1.top hi } : Fed).win = (skips f hi 1).1.win := rfl
    have qn : ({ (skips f hi 1).1 with top := max (skips f hi 1).1.top hi } : Fed).next = (skips f hi 1).1.next := rfl
    have ql : ({ (skips f hi 1).1 with top := max (skips f hi 1).1.top hi } : Fed).log = (skips f hi 1).1.log := rfl
    have qt : ({ (skips f hi 1).1 with top := max (skips f hi 1).1.top hi } : Fed).top = T := by
      show max (skips f hi 1).1.top hi = T
      rw [st]; have := h.tp; omega
    rw [e] at m2 ⊢
    generalize ({ (skips f hi 1).1 with top := max (skips f hi 1).1.top hi } : Fed) = P at *
    generalize skips f hi 1 = S at *
    have nx := s2.nx
    have nx1 := s1.nx
    refine ⟨⟨m2, gt, fun y hy => ?_, ?_, ?_, by rw [t5, tt, qt]⟩, by omega, fun n hn ht => ?_, fun _ => by omega⟩
    · have := ((s2.win y).1 hy).1
      rw [qw] at this
      exact h.gw y ((s1.win y).1 this).1
    · rw [s2.log, ql, s1.log, List.append_assoc]
      refine lg_app h.lg h.fl fun e he => ?_
      rcases List.mem_append.1 he with he | he
      · rcases (s1.d3 e he).1 with c1 | c1
        · obtain ⟨y, hy, rfl, _⟩ := s1.d1 e he c1
          exact ge_told (h.gw y hy).2.1 (h.gw y hy).2.2
        · refine Or.inr ⟨c1, fun n g1 g2 => ?_⟩
          have ho := (s1.d3 e he).2 c1 n g1 g2
          have := ((s1.o1 n).1 ho).1
          exact h2 n (by omega) (s1.le n ho)
      · rcases (s2.d3 e he).1 with c1 | c1
        · obtain ⟨y, hy, rfl, _⟩ := s2.d1 e he c1
          rw [qw] at hy
          have hy := ((s1.win y).1 hy).1
          exact ge_told (h.gw y hy).2.1 (h.gw y hy).2.2
        · refine Or.inr ⟨c1, fun n g1 g2 => ?_⟩
          have := (s2.d3 e he).2 c1 n g1 g2
          simp [has] at this
    · rw [s2.log, ql, s1.log]; simp only [List.length_append]; have := h.fl; omega
    · obtain ⟨y, hy, rfl⟩ := (there_iff' _ _).1 ht
      exact (there_iff' _ _).2 ⟨y, (s2.win y).2 ⟨by rw [qw]; exact (s1.win y).2 ⟨hy, by omega⟩, hn⟩, rfl⟩
def itemsR : List It → Fed → Fed
  | [], f => f
  | x :: l, f => itemsR l (f.comes x)
def notesR : List Sp → Fed → Fed
  | [], f => f
  | s :: l, f => notesR l (f.notes s.1 s.2)
def Gi (r : List It) (E T : Int) (x : It) : Prop := (1 ≤ x.seq ∧ x.seq ≤ 1000000 ∧ x.seq ≤ T) ∧ x.text.length ≤ 12 ∧ x.seq < E ∧ there r x.seq = true ∧ x.text = getR r x.seq
theorem Ct.items {r : List It} {E T : Int} {F : Nat} {a : Int} : ∀ {I : List It} {k : Nat} {f : Fed}, Ct r E T F a (k + 3 * I.length) f → (∀ x ∈ I, Gi r E T x) →
    Ct r E T F a k (itemsR I f) ∧ f.next ≤ (itemsR I f).next ∧ (∀ n, (itemsR I f).next ≤ n → there f.win n = true → there (itemsR I f).win n = true) ∧ ∀ x ∈ I, x.seq < f.next + 8 → (itemsR I f).next ≤ x.seq → there (itemsR I f).win x.seq = true
  | [], k, f, h, _ => ⟨h, Int.le_refl _, fun n _ ht => ht, fun x hx => by cases hx⟩
  | x :: I, k, f, h, hi => by
    have hx := hi x List.mem_cons_self
    obtain ⟨c1, c2, c3, c4⟩ := Ct.comes (k := k + 3 * I.length) (h.weaken (by simp only [List.length_cons]; omega)) hx.1 hx.2.1 hx.2.2.1 hx.2.2.2.1 hx.2.2.2.2
    obtain ⟨d1, d2, d3, d4⟩ := Ct.items c1 fun y hy => hi y (List.mem_cons_of_mem _ hy)
    refine ⟨d1, Int.le_trans c2 d2, fun n hn ht => d3 n hn (c3 n (by have : (itemsR (x :: I) f).next = (itemsR I (f.comes x)).next := rfl; omega) ht), fun y hy h8 hn => ?_⟩
    have e : (itemsR (x :: I) f).next = (itemsR I (f.comes x)).next := rfl
    rcases List.mem_cons.1 hy with rfl | hy
    · exact d3 _ hn (c4 h8 (by omega))
    · exact d4 y hy (by omega) hn
theorem Ct.notesL {r : List It} {E T : Int} {F : Nat} {a : Int} : ∀ {N : List Sp} {k : Nat} {f : Fed}, Ct r E T F a (k + 3 * N.length) f → Gd N → (∀ s ∈ N, s.2 ≤ T ∧ ∀ n, s.1 ≤ n → n ≤ s.2 → there r n = false) → (∀ n, f.next ≤ n → n < E → there f.win n = true ∨ has N n = true) →
    Ct r E T F a k (notesR N f) ∧ f.next ≤ (notesR N f).next ∧ E ≤ (notesR N f).next
  | [], k, f, h, _, _, hj => by
    refine ⟨h, Int.le_refl _, ?_⟩
    show E ≤ f.next
    by_cases c : f.next < E
    · rcases hj f.next (Int.le_refl _) c with ht | ht
      · obtain ⟨x, hx, e⟩ := (there_iff' _ _).1 ht
        have := h.gt x hx; omega
      · simp [has] at ht
    · omega
  | s :: N, k, f, h, hg, hn, hj => by
    have hs := hn s List.mem_cons_self
    have hm := hg.m s List.mem_cons_self
    obtain ⟨c1, c2, c3, c4⟩ := Ct.notes (k := k + 3 * N.length) (h.weaken (by simp only [List.length_cons]; omega)) ⟨hm.1, hm.2.1, hm.2.2, hs.1⟩ hs.2
    have hj2 : ∀ n, (f.notes s.1 s.2).next ≤ n → n < E → there (f.notes s.1 s.2).win n = true ∨ has N n = true := by
      intro n h1 h2
      have hlo : s.1 ≤ f.next := by
        rcases hj f.next (Int.le_refl _) (by omega) with ht | ht
        · obtain ⟨x, hx, e⟩ := (there_iff' _ _).1 ht
          have := h.gt x hx; omega
        · obtain ⟨t, ht, g1, g2⟩ := Go.Span.has_iff.1 ht
          rcases List.mem_cons.1 ht with rfl | ht
          · exact g1
          · have := hg.head t ht; omega
      have past := c4 hlo
      rcases hj n (by omega) h2 with ht | ht
      · exact Or.inl (c3 n h1 ht)
      · rw [Go.Span.has_cons, decide_eq_false (by omega), Bool.false_or] at ht
        exact Or.inr ht
    obtain ⟨d1, d2, d3⟩ := Ct.notesL c1 hg.tail (fun t ht => hn t (List.mem_cons_of_mem _ ht)) hj2
    exact ⟨d1, Int.le_trans c2 d2, d3⟩
theorem servI_mem (r : List It) : ∀ (m : Nat) (n h : Int) (x : It), x ∈ servI r m n h ↔ (n ≤ x.seq ∧ x.seq < n + m ∧ x.seq ≤ h) ∧ there r x.seq = true ∧ x.text = getR r x.seq
  | 0, n, h, x => by simp [servI]; omega
  | m + 1, n, h, x => by
    unfold servI
    split
    · rename_i c
      have ih := servI_mem r m (n + 1) h x
      split
      · rename_i ht
        rw [List.mem_cons, ih]
        constructor
        · rintro (rfl | ⟨h1, h2⟩)
          · exact ⟨by simp only; omega, ht, rfl⟩
          · exact ⟨by omega, h2⟩
        · rintro ⟨h1, h2, h3⟩
          by_cases e : x.seq = n
          · left
            obtain ⟨a, b⟩ := x
            simp only at e h3; subst e; rw [h3]
          · exact Or.inr ⟨by omega, h2, h3⟩
      · rename_i ht
        rw [ih]
        constructor
        · rintro ⟨h1, h2⟩; exact ⟨by omega, h2⟩
        · rintro ⟨h1, h2, h3⟩
          have : x.seq ≠ n := fun e => ht (e ▸ h2)
          exact ⟨by omega, h2, h3⟩
    · simp only [List.not_mem_nil, false_iff]
      rintro ⟨h1, _⟩; omega
def roundR (r : List It) (E : Int) (f : Fed) : Fed := notesR (servN r 8 f.next (min f.top (E - 1)) []) (itemsR (servI r 8 f.next (min f.top (E - 1))) f)
theorem ring_text {r : List It} {n : Int} (h : RingOk r n) {s : Int} (ht : there r s = true) : (getR r s).length ≤ 12 ∧ 1 ≤ s ∧ s ≤ 1000000 ∧ s < n := by
  obtain ⟨x, hx, rfl⟩ := (there_iff' _ _).1 ht
  rw [getR_win h.so hx]
  have := h.lt x hx
  exact ⟨this.2.2.2, this.2.1, this.2.2.1, this.1⟩
theorem round_ok {r : List It} {E T : Int} {F : Nat} {a : Int} {k : Nat} {f : Fed} (hr : RingOk r E) (hE : E ≤ 1000001) (hT : E - 1 ≤ T) (h : Ct r E T F a (k + 48) f) (hw : f.win = []) (hn : f.next < E) :
    Ct r E T F a k (roundR r E f) ∧ (roundR r E f).win = [] ∧ min (f.next + 8) E ≤ (roundR r E f).next := by
  have n1 := h.md.on.n1
  have hm : min f.top (E - 1) = E - 1 := by rw [h.tp]; omega
  have e0 : roundR r E f = notesR (servN r 8 f.next (E - 1) []) (itemsR (servI r 8 f.next (E - 1)) f) := by unfold roundR; rw [hm]
  have h' : Ct r (min (f.next + 8) E) T F a (k + 48) f := ⟨h.md, h.gt, by rw [hw]; simp, h.lg, h.fl, h.tp⟩
  have il := servI_len r 8 f.next (E - 1)
  have nl := servN_len r 8 f.next (E - 1) [] Go.Span.Gd.nil n1 (by omega)
  simp only [List.length_nil, Nat.zero_add] at nl
  obtain ⟨c1, c2, c3, c4⟩ := Ct.items (k := k + 24) (I := servI r 8 f.next (E - 1)) (h'.weaken (by omega)) (fun x hx => by
    obtain ⟨g1, g2, g3⟩ := (servI_mem r 8 f.next (E - 1) x).1 hx
    have := ring_text hr g2
    exact ⟨by omega, by rw [g3]; exact this.1, by omega, g2, g3⟩)
  obtain ⟨g, gh⟩ := servN_ok r 8 f.next (E - 1) [] Go.Span.Gd.nil n1 (by omega)
  have gh : ∀ k, has (servN r 8 f.next (E - 1) []) k = (decide (f.next ≤ k ∧ k < f.next + (8 : Nat) ∧ k ≤ E - 1) && !there r k) := fun k => by rw [gh]; simp [has]
  obtain ⟨d1, d2, d3⟩ := Ct.notesL (k := k) (N := servN r 8 f.next (E - 1) []) (c1.weaken (by omega)) g (fun s hs => by
    have hs2 := g.m s hs
    have key : ∀ n, s.1 ≤ n → n ≤ s.2 → n ≤ E - 1 ∧ there r n = false := fun n g1 g2 => by
      have := (gh n).symm.trans (Go.Span.has_iff.2 ⟨s, hs, g1, g2⟩)
      rw [Bool.and_eq_true, decide_eq_true_eq, Bool.not_eq_true'] at this
      exact ⟨by omega, this.2⟩
    exact ⟨by have := (key s.2 hs2.2.1 (Int.le_refl _)).1; omega, fun n g1 g2 => (key n g1 g2).2⟩) (fun n g1 g2 => by
    cases ht : there r n with
    | true =>
      have hx := (servI_mem r 8 f.next (E - 1) ⟨n, getR r n⟩).2 ⟨by simp only; omega, ht, rfl⟩
      exact Or.inl (c4 _ hx (by simp only; omega) g1)
    | false => right; rw [gh, ht, decide_eq_true (by omega)]; rfl)
  rw [e0]
  have we : (notesR (servN r 8 f.next (E - 1) []) (itemsR (servI r 8 f.next (E - 1)) f)).win = [] := by
    rw [List.eq_nil_iff_forall_not_mem]
    intro x hx
    have := d1.gt x hx
    have := (d1.gw x hx).1
    omega
  exact ⟨⟨d1.md, d1.gt, by rw [we]; simp, d1.lg, d1.fl, d1.tp⟩, we, d3⟩
theorem Chain.ok : ∀ {l : List Ev} {a b : Int}, Chain a l b → ∀ e ∈ l, OkE e ∧ a ≤ e.lo
  | [], _, _, _, e, he => by cases he
  | x :: l, a, b, h, e, he => by
    rcases List.mem_cons.1 he with rfl | he
    · exact ⟨h.1, by have := h.2.1; omega⟩
    · have := Chain.ok h.2.2 e he
      have h1 := h.1.le
      have h2 := h.2.1
      exact ⟨this.1, by omega⟩
end Go.Feed
