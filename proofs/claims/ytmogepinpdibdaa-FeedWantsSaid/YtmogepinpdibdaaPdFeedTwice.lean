/- The law FeedAll: the walk. -/
import Derived.Test.YtmogepinpdibdaaPcFeed6
import Derived.Test.YtmogepinpdibdaaPmFeed3
set_option linter.unusedVariables false
set_option linter.unusedSimpArgs false
namespace Go.Proofs.Ytmogepinpdibdaa.Pf
open Go.Ab Go.Feed
set_option maxRecDepth 100000
abbrev trip (t : List Int) : AV := .agg (t.map (AV.int .u8))
def Trip (L : List (List Int)) : Prop := ∀ a ∈ L, a.length = 3 ∧ ∀ i ∈ a, 0 ≤ i ∧ i ≤ 255
theorem Trip.get {L : List (List Int)} (h : Trip L) {i : Nat} (hi : i < L.length) : ∃ x y z : Int, L[i]? = some [x, y, z] ∧ (0 ≤ x ∧ x ≤ 255) ∧ (0 ≤ y ∧ y ≤ 255) ∧ (0 ≤ z ∧ z ≤ 255) := by
  obtain ⟨h1, h2⟩ := h L[i] (List.getElem_mem _)
  have e : L[i]? = some L[i] := List.getElem?_eq_getElem hi
  generalize L[i] = a at *
  match a, h1 with
  | [x, y, z], _ => exact ⟨x, y, z, e, h2 x (by simp), h2 y (by simp), h2 z (by simp)⟩
theorem trip_el {L : List (List Int)} {i : Nat} {x y z : Int} (h : L[i]? = some [x, y, z]) : elQ 3 (.fz 3 (L.map trip)) (.int .i64 (i : Int)) = some (.agg [.int .u8 x, .int .u8 y, .int .u8 z]) := elQ_at h
def Fed0 : Fed := ⟨0, 0, [], [], [], 0, 0⟩
theorem sls0 : Sls Fed0 .nils .nils .nils := ⟨Sl.nil 2, Sl.nil 2, Sl.nil 5⟩
theorem dd0 : Dd 690000 Fed0 := ⟨⟨List.Pairwise.nil, (by simp [Fed0]), (by simp [Fed0]), (by simp [Fed0])⟩, ⟨(by simp [Fed0]), (by simp [Fed0]), (by simp [Fed0]), (by simp [Fed0]), (by simp [Fed0])⟩, (by simp [Fed0]), (by simp [Fed0]), (by simp [Fed0]), fun _ => ⟨rfl, rfl, rfl⟩⟩
section
variable {Q : AHeap}
theorem slc_from {l : List Ev} {v : AV} (h : Sl 5 (l.map Ev.v) v) {n : Nat} (hn : n ≤ l.length) : ∃ v', slcQ 5 v (some (.int .i64 n)) none = some v' ∧ Sl 5 ((l.drop n).map Ev.v) v' := by
  rcases h with rfl | ⟨rfl, e⟩
  · refine ⟨_, ?_, Sl.fz 5 _⟩
    rw [slcQ_fz (by omega)]
    have b : (0 ≤ (n : Int) ∧ (n : Int) ≤ l.length) = True := eq_true (by omega)
    simp only [bndo_none, bndo_int, List.length_map, b, if_true, Int.toNat_natCast]
    rw [List.take_of_length_le (by simp), List.map_drop]
  · have e : l = [] := by simpa using e
    subst e
    obtain rfl : n = 0 := by simpa using hn
    exact ⟨.nils, by simp, Sl.nil 5⟩
end
end Go.Proofs.Ytmogepinpdibdaa.Pf
/- What comes again; what is known (plain). -/
set_option linter.unusedVariables false
namespace Go.Feed
theorem there_mem {w : List It} {x : It} (h : x ∈ w) : there w x.seq = true := List.any_eq_true.2 ⟨x, h, by simp⟩
def Tp (f : Fed) : Prop := ∀ x ∈ f.win, x.seq ≤ f.top
theorem Tp.tells {f : Fed} (h : Tp f) : Tp f.tells.1 := fun x hx => by
  obtain ⟨t1, t2, t3, t4, t5, t6⟩ := tells_fst f
  have gb := goesL_bd f.win f
  rw [t2] at hx
  rw [t5, gb.2.2.2.2.1]
  exact h x (gb.2.2.2.2.2 x hx)
theorem Tp.knows {f : Fed} (h : Tp f) (t : Int) : Tp (f.knows t) := fun x hx => by
  obtain ⟨k1, k2, k3, k4⟩ := knows_eq f t
  rw [k2] at hx
  have := h x hx
  unfold Fed.knows; split
  · show x.seq ≤ max f.top t; omega
  · exact this
theorem skips_mem {f : Fed} (hi why : Int) : ∀ x ∈ (skips f hi why).1.win, x ∈ f.win := by
  unfold skips
  split
  · exact fun x h => h
  · have key : ∀ (n : Nat) (f : Fed) (out : List Sp) (g : Fed) (o : List Sp), skipsN n f hi why out = some (g, o) → ∀ x ∈ g.win, x ∈ f.win := by
      intro n
      induction n with
      | zero => intro f out g o h; cases h
      | succ n ih =>
        intro f out g o h
        unfold skipsN at h
        by_cases c1 : f.next ≤ hi
        · rw [if_pos c1] at h
          simp only at h
          have hw : (if f.next ≤ (fahead f hi).1 then skip1 f (fahead f hi).1 why else f).win = f.win := by split <;> rfl
          generalize (if f.next ≤ (fahead f hi).1 then skip1 f (fahead f hi).1 why else f) = f1 at *
          obtain ⟨t1, t2, t3, t4, t5, t6⟩ := tells_fst f1
          have gb := goesL_bd f1.win f1
          have tm : ∀ x ∈ f1.tells.1.win, x ∈ f.win := fun x hx => by rw [t2] at hx; rw [← hw]; exact gb.2.2.2.2.2 x hx
          split at h
          · split at h
            · simp only [Option.some.injEq, Prod.mk.injEq] at h
              obtain ⟨rfl, rfl⟩ := h
              exact tm
            · exact fun x hx => tm x (ih _ _ _ _ h x hx)
          · simp only [Option.some.injEq, Prod.mk.injEq] at h
            obtain ⟨rfl, rfl⟩ := h
            rw [hw]; exact fun x h => h
        · rw [if_neg c1] at h
          simp only [Option.some.injEq, Prod.mk.injEq] at h
          obtain ⟨rfl, rfl⟩ := h
          exact fun x h => h
    obtain ⟨⟨g, o⟩, e⟩ := skipsN_some (hi := hi) (why := why) (f.win.length + 1) f [] (by omega)
    rw [e]
    have := key _ _ _ _ _ e
    simp only
    split
    · exact this
    · exact this
theorem Tp.skips {f : Fed} (h : Tp f) (hi why : Int) : Tp (skips f hi why).1 := fun x hx => by
  rw [skips_knows]; exact h x (skips_mem hi why x hx)
theorem Tp.deed {k : Nat} {f : Fed} (hd : Dd k f) (h : Tp f) (x y z now : Int) : Tp (f.deed x y z now) := by
  unfold Fed.deed
  split
  · unfold Fed.begin_
    split
    · exact h.knows _
    · split <;> exact h
  · split
    · unfold Fed.notes
      split
      · exact h
      · split
        · exact h.knows _
        · have hs := h.skips (near f y + z % 6 - 1) 1
          generalize (Go.Feed.skips f (near f y + z % 6 - 1) 1).1 = S at *
          refine Tp.tells (fun x hx => ?_)
          have := hs x hx
          show x.seq ≤ max S.top _
          omega
    · split
      · exact h.knows _
      · split
        · unfold Fed.tick
          split
          · exact h
          · split
            · exact (h.skips _ _).tells
            · exact h
        · unfold Fed.comes
          split
          · exact h
          · rename_i c
            have hn := hd.n0
            have kt := knows_top (f := f) (t := near f y) (by omega) (by simp only at c; omega)
            have hk := h.knows (near f y)
            simp only at kt hk ⊢
            generalize f.knows (near f y) = K at *
            refine Tp.tells (fun x hx => ?_)
            show x.seq ≤ K.top
            rcases put_mem hx with hx | rfl
            · exact hk x hx
            · simp only; omega
end Go.Feed
/- The law FeedTwice: the walk. -/
set_option linter.unusedVariables false
set_option linter.unusedSimpArgs false
namespace Go.Proofs.Ytmogepinpdibdaa.Pf
open Go.Ab Go.Feed
set_option maxRecDepth 100000
theorem tp0 : Tp Fed0 := by intro x hx; cases hx
section
variable {Q : AHeap}
end
end Go.Proofs.Ytmogepinpdibdaa.Pf
