/- What is told came; what is a gap was noted, or asked for often enough (plain). -/
import Derived.Test.YtmogepinpdibdaaPmFeed3
import Derived.Test.YtmogepinpdibdaaPvF
set_option linter.unusedVariables false
namespace Go.Feed
section
variable {C : Int → List UInt8 → Bool} {D : Int → Bool} {ti : Prop}
def okE (C : Int → List UInt8 → Bool) (D : Int → Bool) (ti : Prop) (e : Ev) : Prop :=
  (e.kind = 1 → C e.lo e.text = true) ∧ (e.kind = 2 ∧ e.why = 2 → ti) ∧ (e.kind = 2 ∧ e.why = 1 → ∀ n, e.lo ≤ n ∧ n ≤ e.hi → D n = true) ∧ (e.kind = 2 → 0 ≤ e.lo ∧ e.hi ≤ 1000000)
def WinC (C : Int → List UInt8 → Bool) (f : Fed) : Prop := ∀ x ∈ f.win, C x.seq x.text = true
structure Nk (C : Int → List UInt8 → Bool) (D : Int → Bool) (ti : Prop) (f g : Fed) : Prop where
  w : WinC C g
  l : ∃ s, g.log = f.log ++ s ∧ ∀ e ∈ s, okE C D ti e
theorem Nk.refl {f : Fed} (h : WinC C f) : Nk C D ti f f := ⟨h, [], by simp, fun e he => absurd he List.not_mem_nil⟩
theorem Nk.same {f g : Fed} (h : WinC C g) (e : g.log = f.log) : Nk C D ti f g := ⟨h, [], by simp [e], fun e he => absurd he List.not_mem_nil⟩
theorem Nk.trans {f g h : Fed} (a : Nk C D ti f g) (b : Nk C D ti g h) : Nk C D ti f h := by
  obtain ⟨s, e1, h1⟩ := a.l
  obtain ⟨t, e2, h2⟩ := b.l
  exact ⟨b.w, s ++ t, by rw [e2, e1, List.append_assoc], fun e he => (List.mem_append.1 he).elim (h1 e) (h2 e)⟩
theorem goesL_nk : ∀ (w : List It) (f : Fed), (∀ x ∈ w, C x.seq x.text = true) → Nk C D ti f (goesL w f).1
  | [], f, h => ⟨fun x hx => by simp [goesL] at hx, [], by simp [goesL], fun e he => absurd he List.not_mem_nil⟩
  | x :: w, f, h => by
    unfold goesL
    by_cases hx : x.seq = f.next
    · rw [if_pos hx]
      refine Nk.trans (g := take1 f x w) ⟨fun y hy => h y (List.mem_cons_of_mem _ hy), [told x], rfl, fun e he => ?_⟩ (goesL_nk w (take1 f x w) fun y hy => h y (List.mem_cons_of_mem _ hy))
      obtain rfl := List.mem_singleton.1 he
      refine ⟨fun _ => h x List.mem_cons_self, fun h => ?_, fun h => ?_, fun h => ?_⟩
      · have := h.1; simp [told] at this
      · have := h.1; simp [told] at this
      · simp [told] at h
    · rw [if_neg hx]; exact ⟨h, [], by simp, fun e he => absurd he List.not_mem_nil⟩
theorem Nk.tells {f : Fed} (h : WinC C f) : Nk C D ti f f.tells.1 := by
  obtain ⟨t1, t2, t3, t4, t5, t6⟩ := tells_fst f
  have g := goesL_nk (D := D) (ti := ti) f.win f h
  exact ⟨fun x hx => by rw [t2] at hx; exact g.w x hx, by rw [t3]; exact g.l⟩
theorem Nk.knows {f : Fed} (h : WinC C f) (t : Int) : Nk C D ti f (f.knows t) := by
  obtain ⟨k1, k2, k3, k4⟩ := knows_eq f t
  exact Nk.same (fun x hx => by rw [k2] at hx; exact h x hx) k4
theorem skipsN_nk {hi why : Int} (hh : hi ≤ 1000000) (h2 : why = 2 → ti) : ∀ (n : Nat) (f : Fed) (out : List Sp) (g : Fed) (o : List Sp), skipsN n f hi why out = some (g, o) → (why = 1 → ∀ k, f.next ≤ k ∧ k ≤ hi → D k = true) → 0 ≤ f.next → WinC C f → Nk C D ti f g
  | 0, f, out, g, o, h, _, _, _ => by cases h
  | n + 1, f, out, g, o, h, h1, h0, hw => by
    unfold skipsN at h
    by_cases c1 : f.next ≤ hi
    · rw [if_pos c1] at h
      simp only at h
      have hle := fahead_le (f := f) (hi := hi)
      generalize fahead f hi = a at *
      have p1 : ∃ f1, (if f.next ≤ a.1 then skip1 f a.1 why else f) = f1 ∧ Nk C D ti f f1 ∧ f.next ≤ f1.next := by
        refine ⟨_, rfl, ?_⟩
        split
        · refine ⟨⟨hw, [gapE f.next a.1 why], rfl, fun e he => ?_⟩, by show f.next ≤ a.1 + 1; omega⟩
          obtain rfl := List.mem_singleton.1 he
          refine ⟨fun h => by simp [gapE] at h, fun h => h2 h.2, fun h k hk => h1 h.2 k ⟨hk.1, by have := hk.2; simp only [gapE] at this; omega⟩, fun _ => ⟨by simp only [gapE]; omega, by simp only [gapE]; omega⟩⟩
        · exact ⟨Nk.refl hw, Int.le_refl _⟩
      obtain ⟨f1, e1, p1, n1⟩ := p1
      rw [e1] at h
      have gb := goesL_bd f1.win f1
      obtain ⟨t1, t2, t3, t4, t5, t6⟩ := tells_fst f1
      have p2 : Nk C D ti f f1.tells.1 := p1.trans (Nk.tells p1.w)
      split at h
      · split at h
        · simp only [Option.some.injEq, Prod.mk.injEq] at h
          obtain ⟨rfl, rfl⟩ := h
          exact p2
        · exact p2.trans (skipsN_nk hh h2 n _ _ _ _ h (fun e k hk => h1 e k ⟨by have := hk.1; rw [t4, gb.2.2.2.1] at this; omega, hk.2⟩) (by rw [t4, gb.2.2.2.1]; omega) p2.w)
      · simp only [Option.some.injEq, Prod.mk.injEq] at h
        obtain ⟨rfl, rfl⟩ := h
        exact p1
    · rw [if_neg c1] at h
      simp only [Option.some.injEq, Prod.mk.injEq] at h
      obtain ⟨rfl, rfl⟩ := h
      exact Nk.refl hw
theorem Nk.skips {f : Fed} (hw : WinC C f) {hi why : Int} (h1 : why = 1 → ∀ k, f.next ≤ k ∧ k ≤ hi → D k = true) (h2 : why = 2 → ti) : Nk C D ti f (skips f hi why).1 := by
  unfold Go.Feed.skips
  split
  · exact Nk.refl hw
  · rename_i c
    obtain ⟨⟨g, o⟩, e⟩ := skipsN_some (hi := hi) (why := why) (f.win.length + 1) f [] (by omega)
    rw [e]
    have := skipsN_nk (C := C) (by omega) h2 _ _ _ _ _ e h1 (by omega) hw
    simp only
    split
    · exact ⟨this.w, this.l⟩
    · exact this
theorem Nk.deed {f : Fed} {x y z now : Int} (hw : WinC C f) (hc : ¬ x % 8 = 0 → ¬ x % 8 = 1 → ¬ x % 8 = 2 → ¬ (x % 8 = 3 ∨ x % 8 = 4) → C (near f y) (texts.getD (z % 5).toNat []) = true)
    (hd : x % 8 = 1 → ∀ k, near f y ≤ k ∧ k < near f y + z % 6 → D k = true) (ht : x % 8 = 3 ∨ x % 8 = 4 → 3 ≤ f.tries → ti) : Nk C D ti f (f.deed x y z now) := by
  unfold Fed.deed
  split
  · unfold Fed.begin_
    split
    · exact Nk.knows hw _
    · split
      · exact Nk.same hw rfl
      · exact Nk.refl hw
  · split
    · rename_i c1
      unfold Fed.notes
      split
      · exact Nk.refl hw
      · split
        · exact Nk.knows hw _
        · rename_i c3
          have hs := Nk.skips (C := C) (D := D) (ti := ti) hw (hi := near f y + z % 6 - 1) (why := 1) (fun _ k hk => hd c1 k (by omega)) (fun h => by cases h)
          generalize (Go.Feed.skips f (near f y + z % 6 - 1) 1).1 = g at *
          exact hs.trans (Nk.trans (g := { g with top := max g.top (near f y + z % 6 - 1) }) (Nk.same hs.w rfl) (Nk.tells hs.w))
    · split
      · exact Nk.knows hw _
      · split
        · rename_i c4
          unfold Fed.tick
          split
          · exact Nk.refl hw
          · split
            · rename_i c5
              have hs := Nk.skips (C := C) (D := D) (ti := ti) hw (hi := (wants f).1.2) (why := 2) (fun h => by cases h) (fun _ => ht c4 (by simpa [tired] using c5))
              exact hs.trans (Nk.tells hs.w)
            · exact Nk.same hw rfl
        · rename_i c1 c2 c3 c4
          have hc := hc c1 c2 c3 c4
          unfold Fed.comes
          split
          · exact Nk.refl hw
          · have hk := Nk.knows (C := C) (D := D) (ti := ti) hw (near f y)
            simp only
            generalize f.knows (near f y) = K at *
            refine hk.trans (Nk.trans (g := { K with win := (put K.win K.next ⟨near f y, texts.getD (z % 5).toNat []⟩).1 }) (Nk.same (fun x hx => ?_) rfl) (Nk.tells (fun x hx => ?_)))
            · rcases put_mem hx with h | rfl
              · exact hk.w x h
              · exact hc
            · rcases put_mem hx with h | rfl
              · exact hk.w x h
              · exact hc
end
end Go.Feed
/- Maps in the heap: what is looked up, what is written. -/
set_option linter.unusedVariables false
set_option linter.unusedSimpArgs false
namespace Go.Ab
section
variable {κ α : Type} [DecidableEq κ]
def mget (M : List (κ × α)) (n : κ) : Option α := match M with
  | [] => none
  | (a, x) :: l => if n = a then some x else mget l n
def mput (M : List (κ × α)) (n : κ) (v : α) : List (κ × α) := match M with
  | [] => [(n, v)]
  | (a, x) :: l => if n = a then (n, v) :: l else (a, x) :: mput l n v
theorem mget_cons (a : κ) (x : α) (l : List (κ × α)) (n : κ) : mget ((a, x) :: l) n = if n = a then some x else mget l n := rfl
theorem mput_cons (a : κ) (x : α) (l : List (κ × α)) (n : κ) (v : α) : mput ((a, x) :: l) n v = if n = a then (n, v) :: l else (a, x) :: mput l n v := rfl
theorem mget_put (n m : κ) (v : α) : ∀ M : List (κ × α), mget (mput M n v) m = if m = n then some v else mget M m
  | [] => rfl
  | (a, x) :: l => by
    unfold mput
    by_cases h : n = a
    · subst h
      rw [if_pos rfl]
      unfold mget
      by_cases h2 : m = n <;> simp [h2]
    · rw [if_neg h]
      unfold mget
      rw [mget_put n m v l]
      by_cases h2 : m = a
      · subst h2; rw [if_pos rfl, if_neg (fun e => h e.symm), if_pos rfl]
      · simp [h2]
def em (kE : κ → AV) (g : α → AV) (M : List (κ × α)) : List (AV × AV) := M.map fun p => (kE p.1, g p.2)
variable {q : EqT} {kE : κ → AV} (hk : ∀ a b, eqA q (kE a) (kE b) = some (decide (a = b)))
include hk
theorem findA_em (g : α → AV) (n : κ) : ∀ M : List (κ × α), findA q (kE n) (em kE g M) = some ((mget M n).map g)
  | [] => rfl
  | (a, x) :: l => by
    show (match eqA q (kE n) (kE a) with
      | some true => some (some (g x))
      | some false => findA q (kE n) (em kE g l)
      | none => none) = _
    rw [hk, findA_em g n l]
    rw [mget_cons]
    by_cases h : n = a <;> simp [h]
theorem putA_em (g : α → AV) (n : κ) (v : α) : ∀ M : List (κ × α), putA q (kE n) (g v) (em kE g M) = some (em kE g (mput M n v))
  | [] => rfl
  | (a, x) :: l => by
    show (match eqA q (kE n) (kE a) with
      | some true => some ((kE n, g v) :: em kE g l)
      | some false => (putA q (kE n) (g v) (em kE g l)).map ((kE a, g x) :: ·)
      | none => none) = _
    rw [hk, putA_em g n v l]
    rw [mput_cons]
    by_cases h : n = a <;> simp [h, em]
theorem mlk_em {g : α → AV} {M : List (κ × α)} {Q : AHeap} {r : Nat} (h : Q.get r = some (.mapo (em kE g M))) (z : AV) (ok : Bool) (n : κ) : mlkA Q q z ok (.mp r) (kE n) = some (foundA z ok ((mget M n).map g)) := by
  show (match Q.get r with
    | some (.mapo es) => (findA q (kE n) es).map (foundA z ok)
    | _ => none) = _
  rw [h]
  simp only [findA_em hk, Option.map_some]
theorem mup_em {g : α → AV} {M : List (κ × α)} {Q : AHeap} {r : Nat} (h : Q.get r = some (.mapo (em kE g M))) (n : κ) (v : α) : mupA Q q (.mp r) (kE n) (g v) = some (undefA, Q.put r (some (.mapo (em kE g (mput M n v))))) := by
  show (match Q.get r with
    | some (.mapo es) => (putA q (kE n) (g v) es).map fun es' => (undefA, Q.put r (some (.mapo es')))
    | _ => none) = _
  rw [h]
  simp only [putA_em hk, Option.map_some]
omit hk
end
def kI (n : Int) : AV := .int .i64 n
def kS (s : List UInt8) : AV := .str s
theorem kI_eq (a b : Int) : eqA .i (kI a) (kI b) = some (decide (a = b)) := by simp [kI, eqA]; rfl
theorem kS_eq (a b : List UInt8) : eqA .s (kS a) (kS b) = some (decide (a = b)) := by
  simp only [kS, eqA]
  by_cases h : a = b <;> simp [h]
def tT : Unit → AV := fun _ => .bool true
abbrev setI (M : List (Int × Unit)) : AObj := .mapo (em kI tT M)
def isin (M : List (Int × Unit)) (n : Int) : Bool := (mget M n).isSome
theorem isin_put (M : List (Int × Unit)) (n m : Int) : isin (mput M n ()) m = (decide (m = n) || isin M m) := by
  unfold isin
  rw [mget_put]
  by_cases h : m = n <;> simp [h]
theorem setI_lk {M : List (Int × Unit)} {Q : AHeap} {r : Nat} (h : Q.get r = some (setI M)) (n : Int) : mlkA Q .i (.bool false) false (.mp r) (.int .i64 n) = some (.bool (isin M n)) := by
  rw [show AV.int .i64 n = kI n from rfl, mlk_em kI_eq h]
  unfold isin
  cases mget M n <;> rfl
theorem setI_up {M : List (Int × Unit)} {Q : AHeap} {r : Nat} (h : Q.get r = some (setI M)) (n : Int) : mupA Q .i (.mp r) (.int .i64 n) (.bool true) = some (undefA, Q.put r (some (setI (mput M n ())))) := mup_em (g := tT) (v := ()) kI_eq h n
theorem get_putS (Q : AHeap) (r : Nat) (o : Option AObj) : (Q.put r o).get r = o := by rw [AHeap.get_put, if_pos rfl]
end Go.Ab
