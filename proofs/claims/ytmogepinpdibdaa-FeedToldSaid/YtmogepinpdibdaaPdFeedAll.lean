/- What a deed comes to. -/
import Derived.Test.YtmogepinpdibdaaPcFeed5
import Derived.Test.YtmogepinpdibdaaPmFeed3
set_option linter.unusedVariables false
set_option linter.unusedSimpArgs false
namespace Go.Proofs.Ytmogepinpdibdaa.Pf
open Go.Ab Go.Feed
set_option maxRecDepth 100000
theorem tmod_e {a b : Int} (h : 0 ≤ a) : a.tmod b = a % b := Int.tmod_eq_emod_of_nonneg h
theorem wrap_u8 {i : Int} (h : 0 ≤ i) (h2 : i ≤ 255) : IntKind.u8.wrap i = i := by
  have : IntKind.u8.wrap i = i % 256 := rfl
  rw [this]; omega
@[simp] theorem sls_agg {f : Fed} {r w l : AV} : Fed.v f r w l = .agg [.int .i64 f.next, .int .i64 f.top, r, w, l, .int .i64 f.tries, .int .i64 f.due] := rfl
section
variable {Q : AHeap}
theorem el_text {z : Int} (h : 0 ≤ z ∧ z < 5) : elQ 1 (.fz 1 [.str [], .str [97], .str [98, 99], .str [104, 101, 108, 108, 111], .str [116, 104, 105, 114, 116, 101, 101, 110, 32, 98, 121, 116, 101]]) (.int .u8 z) = some (.str (texts.getD z.toNat [])) := by
  have : z = 0 ∨ z = 1 ∨ z = 2 ∨ z = 3 ∨ z = 4 := by omega
  rcases this with e | e | e | e | e <;> subst e <;> rfl
theorem c_deed {k : Nat} {f : Fed} {r w l r' w' l' : AV} (hs : Sls f r w l) (hg : Sls f r' w' l') (h : Dd (k + 200000) f) {x y z now : Int} (hx : 0 ≤ x ∧ x ≤ 255) (hy : 0 ≤ y ∧ y ≤ 255) (hz : 0 ≤ z ∧ z ≤ 255) (hn : -4000000000 ≤ now ∧ now ≤ 4000000000) :
    ∃ r2 w2 l2, Sls (f.deed x y z now) r2 w2 l2 ∧ ∀ Q, callP (penv P1) 14 [Fed.v f r w l, Fed.v f r' w' l', .agg [.int .u8 x, .int .u8 y, .int .u8 z], .int .i64 now] Q =
      some (.tup [Fed.z (f.deed x y z now), Fed.v (f.deed x y z now) r2 w2 l2, .bool true], Q) := by
  have hn0 := h.n0
  have hn1 := h.n1
  have hb : Bd f 10 := h.bd.weaken (by omega)
  have hb3 : Bd f 3 := h.bd.weaken (by omega)
  have hrw : f.ring.length + f.win.length ≤ 600000 := by have := h.bd.l; have := h.inv.rg; omega
  have hnw : f.next + f.win.length ≤ 3000000000 := by omega
  have m1 := tmod_e (a := x) (b := 8) hx.1
  have m2 := tmod_e (a := y) (b := 12) hy.1
  have m3 := tmod_e (a := z) (b := 5) hz.1
  have m4 := tmod_e (a := z) (b := 6) hz.1
  have w1 := wrap_u8 (i := x % 8) (by omega) (by omega)
  have w2 := wrap_u8 (i := y % 12) (by omega) (by omega)
  have w3 := wrap_u8 (i := z % 5) (by omega) (by omega)
  have w4 := wrap_u8 (i := z % 6) (by omega) (by omega)
  have w5 := w64 (i := y % 12) (by omega) (by omega)
  have w6 := w64 (i := z % 6) (by omega) (by omega)
  have w7 := w64 (i := f.next - 2) (by omega) (by omega)
  have w8 := w64 (i := f.next - 2 + y % 12) (by omega) (by omega)
  have et := el_text (z := z % 5) (by omega)
  obtain ⟨n, en⟩ : ∃ n, n = near f y := ⟨_, rfl⟩
  have en' : max 1 (f.next - 2 + y % 12) = n := by rw [en]; rfl
  have hn2 : 1 ≤ n ∧ n ≤ 2000000 := by omega
  have w9 := w64 (i := n + z % 6) (by omega) (by omega)
  have w10 := w64 (i := n + z % 6 - 1) (by omega) (by omega)
  obtain ⟨t, ht⟩ : ∃ t, t = texts.getD (z % 5).toNat [] := ⟨_, rfl⟩
  unfold Fed.deed
  rw [← en, ← ht]
  rw [← ht] at et
  have key := @f_pleachlaw18_deed P1 rfl
  by_cases c0 : x % 8 = 0
  · rw [if_pos c0]
    refine ⟨r', w', l', ?_, fun Q => ?_⟩
    · have e : (f.begin_ n).ring = f.ring ∧ (f.begin_ n).win = f.win ∧ (f.begin_ n).log = f.log := by
        unfold Fed.begin_
        split
        · have := knows_eq f (IntKind.i64.wrap (n - 1)); exact ⟨this.2.2.1, this.2.1, this.2.2.2⟩
        · split <;> exact ⟨rfl, rfl, rfl⟩
      exact ⟨by rw [e.1]; exact hg.r, by rw [e.2.1]; exact hg.w, by rw [e.2.2]; exact hg.l⟩
    · have cb := fun (Q : AHeap) => c_Begin (Q := Q) hs hb.small n
      have db := fun (Q : AHeap) => d_Begin (Q := Q) hg n
      generalize f.begin_ n = G at *
      simp only [Fed.v, Fed.z] at cb db ⊢
      rw [key]
      simp [hs.r.one, hs.w.one, hs.l.one, hg.r.one, hg.w.one, hg.l.one, m1, m2, m3, w1, w2, w3, w5, w7, w8, et, en', c0, cb, db, p_pleachlaw18_deed_1]
  rw [if_neg c0]
  by_cases c1 : x % 8 = 1
  · rw [if_pos c1]
    have cb := fun (Q : AHeap) => c_Notes (Q := Q) hs hb3 n (n + z % 6 - 1)
    obtain ⟨r2, w2', l2, hd, db⟩ := d_Notes hg hb3 h.inv n (n + z % 6 - 1)
    refine ⟨r2, w2', l2, hd, fun Q => ?_⟩
    generalize f.notes n (n + z % 6 - 1) = G at *
    simp only [Fed.v, Fed.z] at cb db ⊢
    rw [key]
    have o1 := hd.r.one
    have o2 := hd.w.one
    have o3 := hd.l.one
    simp [hs.r.one, hs.w.one, hs.l.one, hg.r.one, hg.w.one, hg.l.one, m1, m2, m3, m4, w1, w2, w3, w4, w5, w6, w7, w8, w9, w10, et, en', c0, c1, cb, db, o1, o2, o3, p_pleachlaw18_deed_1, p_pleachlaw18_deed_0]
  rw [if_neg c1]
  by_cases c2 : x % 8 = 2
  · rw [if_pos c2]
    refine ⟨r', w', l', ?_, fun Q => ?_⟩
    · have e := knows_eq f n
      exact ⟨by rw [e.2.2.1]; exact hg.r, by rw [e.2.1]; exact hg.w, by rw [e.2.2.2]; exact hg.l⟩
    · have cb := fun (Q : AHeap) => c_Knows (Q := Q) hs hb.small n
      have db := fun (Q : AHeap) => d_Knows (Q := Q) hg n
      generalize f.knows n = G at *
      simp only [Fed.v, Fed.z] at cb db ⊢
      rw [key]
      simp [hs.r.one, hs.w.one, hs.l.one, hg.r.one, hg.w.one, hg.l.one, m1, m2, m3, m4, w1, w2, w3, w4, w5, w6, w7, w8, w9, w10, et, en', c0, c1, c2, cb, db, p_pleachlaw18_deed_1, p_pleachlaw18_deed_0]
  rw [if_neg c2]
  by_cases c3 : x % 8 = 3 ∨ x % 8 = 4
  · rw [if_pos c3]
    have cb := fun (Q : AHeap) => c_Tick (Q := Q) hs hb3 h.inv.tr hn
    obtain ⟨r2, w2', l2, hd, db⟩ := d_Tick hg hb3 h.inv hn
    refine ⟨r2, w2', l2, hd, fun Q => ?_⟩
    generalize f.tick now = G at *
    obtain ⟨G, sp, b⟩ := G
    simp only [Fed.v, Fed.z, Sp.v] at cb db hd ⊢
    rw [key]
    have o1 := hd.r.one
    have o2 := hd.w.one
    have o3 := hd.l.one
    rcases c3 with c3 | c3
    · simp [hs.r.one, hs.w.one, hs.l.one, hg.r.one, hg.w.one, hg.l.one, m1, m2, m3, m4, w1, w2, w3, w4, w5, w6, w7, w8, w9, w10, et, en', c0, c1, c2, c3, cb, db, o1, o2, o3, eqF, p_pleachlaw18_deed_1, p_pleachlaw18_deed_0]
    · simp [hs.r.one, hs.w.one, hs.l.one, hg.r.one, hg.w.one, hg.l.one, m1, m2, m3, m4, w1, w2, w3, w4, w5, w6, w7, w8, w9, w10, et, en', c0, c1, c2, c3, cb, db, o1, o2, o3, eqF, p_pleachlaw18_deed_1, p_pleachlaw18_deed_0]
  rw [if_neg c3]
  · have c3a : ¬ x % 8 = 3 := fun e => c3 (Or.inl e)
    have c3b : ¬ x % 8 = 4 := fun e => c3 (Or.inr e)
    have cb := fun (Q : AHeap) => c_Comes (Q := Q) hs hb hrw h.inv.so hnw ⟨n, t⟩
    obtain ⟨r2, w2', l2, hd, db⟩ := d_Comes hg hb hrw h.inv hnw ⟨n, t⟩
    refine ⟨r2, w2', l2, hd, fun Q => ?_⟩
    generalize f.comes ⟨n, t⟩ = G at *
    simp only [Fed.v, Fed.z, It.v] at cb db ⊢
    rw [key]
    have o1 := hd.r.one
    have o2 := hd.w.one
    have o3 := hd.l.one
    simp [hs.r.one, hs.w.one, hs.l.one, hg.r.one, hg.w.one, hg.l.one, m1, m2, m3, m4, w1, w2, w3, w4, w5, w6, w7, w8, w9, w10, et, en', c0, c1, c2, c3a, c3b, cb, db, o1, o2, o3, p_pleachlaw18_deed_1, p_pleachlaw18_deed_0]
end
end Go.Proofs.Ytmogepinpdibdaa.Pf
/- The law FeedAll: the walk. -/
set_option linter.unusedVariables false
set_option linter.unusedSimpArgs false
namespace Go.Proofs.Ytmogepinpdibdaa.Pf
open Go.Ab Go.Feed
set_option maxRecDepth 100000
abbrev trip (t : List Int) : AV := .agg (t.map (AV.int .u8))
def Trip (L : List (List Int)) : Prop := ∀ a ∈ L, a.length = 3 ∧ ∀ i ∈ a, 0 ≤ i ∧ i ≤ 255
theorem Trip.get {L : List (List Int)} (h : Trip L) {i : Nat} (hi : i < L.length) : ∃ x y z : Int, L[i]? = some [x, y, z] ∧ (0 ≤ x ∧ x ≤ 255) ∧ (0 ≤ y ∧ y ≤ 255) ∧ (0 ≤ z ∧ z ≤ 255) := by
  obtain ⟨h1, h2⟩ := h L[i] (List.getElem_mem _)
  have e : L[i]? = some L[i] := List.getElem?_eq_getElem hi
  generalize L[i] = a at *
  match a, h1 with
  | [x, y, z], _ => exact ⟨x, y, z, e, h2 x (by simp), h2 y (by simp), h2 z (by simp)⟩
theorem trip_el {L : List (List Int)} {i : Nat} {x y z : Int} (h : L[i]? = some [x, y, z]) : elQ 3 (.fz 3 (L.map trip)) (.int .i64 (i : Int)) = some (.agg [.int .u8 x, .int .u8 y, .int .u8 z]) := elQ_at h
def Fed0 : Fed := ⟨0, 0, [], [], [], 0, 0⟩
theorem sls0 : Sls Fed0 .nils .nils .nils := ⟨Sl.nil 2, Sl.nil 2, Sl.nil 5⟩
theorem dd0 : Dd 690000 Fed0 := ⟨⟨List.Pairwise.nil, (by simp [Fed0]), (by simp [Fed0]), (by simp [Fed0])⟩, ⟨(by simp [Fed0]), (by simp [Fed0]), (by simp [Fed0]), (by simp [Fed0]), (by simp [Fed0])⟩, (by simp [Fed0]), (by simp [Fed0]), (by simp [Fed0]), fun _ => ⟨rfl, rfl, rfl⟩⟩
section
variable {Q : AHeap}
theorem slc_from {l : List Ev} {v : AV} (h : Sl 5 (l.map Ev.v) v) {n : Nat} (hn : n ≤ l.length) : ∃ v', slcQ 5 v (some (.int .i64 n)) none = some v' ∧ Sl 5 ((l.drop n).map Ev.v) v' := by
  rcases h with rfl | ⟨rfl, e⟩
  · refine ⟨_, ?_, Sl.fz 5 _⟩
    rw [slcQ_fz (by omega)]
    have b : (0 ≤ (n : Int) ∧ (n : Int) ≤ l.length) = True := eq_true (by omega)
    simp only [bndo_none, bndo_int, List.length_map, b, if_true, Int.toNat_natCast]
    rw [List.take_of_length_le (by simp), List.map_drop]
  · have e : l = [] := by simpa using e
    subst e
    obtain rfl : n = 0 := by simpa using hn
    exact ⟨.nils, by simp, Sl.nil 5⟩
end
end Go.Proofs.Ytmogepinpdibdaa.Pf
