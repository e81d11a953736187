/- The law NetAll: the walk. -/
import Derived.Test.YtldehmfhgmmkhaaPcNet2
set_option linter.unusedVariables false
set_option linter.unusedSimpArgs false
namespace Go.Proofs.Ytldehmfhgmmkhaa.Pn
open Go.Ab
set_option maxRecDepth 100000
abbrev quad (t : List Int) : AV := .agg (t.map (AV.int .u8))
def Quad (L : List (List Int)) : Prop := ∀ a ∈ L, a.length = 4 ∧ ∀ i ∈ a, 0 ≤ i ∧ i ≤ 255
theorem Quad.get {L : List (List Int)} (h : Quad L) {i : Nat} (hi : i < L.length) : ∃ x y z u : Int, L[i]? = some [x, y, z, u] ∧ (0 ≤ x ∧ x ≤ 255) ∧ (0 ≤ y ∧ y ≤ 255) ∧ (0 ≤ z ∧ z ≤ 255) ∧ (0 ≤ u ∧ u ≤ 255) := by
  obtain ⟨h1, h2⟩ := h L[i] (List.getElem_mem _)
  have e : L[i]? = some L[i] := List.getElem?_eq_getElem hi
  generalize L[i] = a at *
  match a, h1 with
  | [x, y, z, u], _ => exact ⟨x, y, z, u, e, h2 x (by simp), h2 y (by simp), h2 z (by simp), h2 u (by simp)⟩
theorem quad_el {L : List (List Int)} {i : Nat} {x y z u : Int} (h : L[i]? = some [x, y, z, u]) : elQ 4 (.fz 4 (L.map quad)) (.int .i64 (i : Int)) = some (.agg [.int .u8 x, .int .u8 y, .int .u8 z, .int .u8 u]) := elQ_at h
theorem b2sQ_2 (a b : Int) : b2sQ (.fz 1 [.int .u8 a, .int .u8 b]) = some (.str [UInt8.ofNat a.toNat, UInt8.ofNat b.toNat]) := rfl
def Short (F : List Gm) : Prop := F.length ≤ 60 ∧ ∀ g ∈ F, g.b.length ≤ 40
theorem Short.send {F : List Gm} (h : Short F) {g : Gm} (hg : g.b.length ≤ 40) : Short (sendG F g) := by
  unfold sendG
  split
  · exact h
  · refine ⟨by simp; omega, fun x hx => ?_⟩
    rcases List.mem_append.1 hx with hx | hx
    · exact h.2 x hx
    · rw [List.mem_singleton.1 hx]; exact hg
theorem Short.less {F : List Gm} (h : Short F) (n : Nat) : Short (F.take n ++ F.drop (n + 1)) := by
  have := h.1
  refine ⟨by simp; omega, fun x hx => ?_⟩
  rcases List.mem_append.1 hx with hx | hx
  · exact h.2 x (List.mem_of_mem_take hx)
  · exact h.2 x (List.mem_of_mem_drop hx)
theorem Short.set {F : List Gm} (h : Short F) (n : Nat) {g : Gm} (hg : g.b.length ≤ 40) : Short (F.set n g) := by
  refine ⟨by simp; exact h.1, fun x hx => ?_⟩
  rcases List.mem_or_eq_of_mem_set hx with hx | rfl
  · exact h.2 x hx
  · exact hg
theorem turnB_len (b : List UInt8) (to : Int) : (turnB b to).length = b.length := by unfold turnB; simp
theorem at_or (F : List Gm) (i : Int) : (∃ (n : Nat) (g : Gm), i = n ∧ F[n]? = some g) ∨ ¬ (0 ≤ i ∧ i < F.length) := by
  by_cases c : 0 ≤ i ∧ i < F.length
  · obtain ⟨n, rfl⟩ := Int.eq_ofNat_of_zero_le c.1
    exact Or.inl ⟨n, _, rfl, List.getElem?_eq_getElem (by omega)⟩
  · exact Or.inr c
section
variable {Q : AHeap}
theorem c4 {F : List Gm} {v w : AV} (hv : Sl 3 (F.map gr) v) (hw : Sl 3 (F.map gr) w) (hl : Short F) {t0 t1 t9 a b c : AV} (p : Bool) {β : Type} {k : PK β} :
    evalPK (callP (penv P1)) (loopP (penv P1)) c_pleachlaw13_NetAll_4 [(0, .v t0), (1, .v t1), (5, .lp 5 0), (9, .v t9), (11, .v v), (12, .v w), (13, .v (.bool p)), (14, .v (.bool p))] [(5, .cells [a, b, c])] Q k =
      k .normal [(0, .v t0), (1, .v t1), (5, .lp 5 0), (7, .v v), (8, .v w), (9, .v t9)] [(5, .cells [a, b, c])] Q := by
  have hs := r_Same (Q := Q) hv hw (by have := hl.1; omega)
  rw [p_pleachlaw13_NetAll_4]
  cases p <;> simp [hs]
theorem c5 {L : List (List Int)} {i : Nat} {x y z u : Int} (e : L[i]? = some [x, y, z, u]) (hx : 0 ≤ x ∧ x ≤ 255) (hz : 0 ≤ z ∧ z ≤ 255) (hu : 0 ≤ u ∧ u ≤ 255)
    {F : List Gm} {v w : AV} (hv : Sl 3 (F.map gr) v) (hw : Sl 3 (F.map gr) w) (hl : Short F) (m : Gm) (hm : m.b.length ≤ 40) {wild : Int} (hwild : wild ≤ 9223372036854775807) (nn : Int) :
    ∃ (F' : List Gm) (v' w' : AV), Sl 3 (F'.map gr) v' ∧ Sl 3 (F'.map gr) w' ∧ Short F' ∧ ∀ {β : Type} (k : PK β),
      evalPK (callP (penv P1)) (loopP (penv P1)) c_pleachlaw13_NetAll_5 [(0, .v (.fz 4 (L.map quad))), (1, .v (.int .i64 wild)), (5, .lp 5 0), (7, .v v), (8, .v w), (9, .v (.int .i64 i)), (10, .v (.int .i64 nn))] [(5, .cells [.int .i64 m.n, .str m.b, .bool m.t])] Q k =
      k .normal [(0, .v (.fz 4 (L.map quad))), (1, .v (.int .i64 wild)), (5, .lp 5 0), (7, .v v'), (8, .v w'), (9, .v (.int .i64 i))] [(5, .cells [.int .i64 m.n, .str m.b, .bool m.t])] Q := by
  have e := quad_el e
  have hF := hl.1
  have m2 := tmod_e (a := x) (b := 9) hx.1
  have same := fun (p : Bool) {β : Type} {k : PK β} => c4 (Q := Q) (sl_fz 3 (F.map gr)) (sl_fz 3 (F.map gr)) hl (t0 := .fz 4 (L.map quad)) (t1 := .int .i64 wild) (t9 := .int .i64 (i : Int)) (a := .int .i64 m.n) (b := .str m.b) (c := .bool m.t) p (k := k)
  by_cases hsend : x % 9 = 0 ∨ x % 9 = 1 ∨ x % 9 = 2 ∨ x % 9 = 3
  · have mz := tmod_e (a := z) (b := 8) hz.1
    have mu := tmod_e (a := u) (b := 26) hu.1
    have wz := w64 (i := z % 8) (by omega) (by omega)
    have wz1 := w64 (i := 1 + z % 8) (by omega) (by omega)
    have wu := wrap_u8 (i := 97 + u % 26) (by omega) (by omega)
    have bs := b2sQ_2 (97 + u % 26) 122
    obtain ⟨b, hb⟩ : ∃ b, b = [UInt8.ofNat (97 + u % 26).toNat, UInt8.ofNat (122 : Int).toNat] := ⟨_, rfl⟩
    have b3 : b.length = 2 := by rw [hb]; rfl
    rw [← hb] at bs
    clear hb
    by_cases c8 : z % 8 = 0
    · have cs := fun (Q : AHeap) => c_Send (Q := Q) hv (by omega) m
      have rs := fun (Q : AHeap) => r_Send (Q := Q) hw (by omega) m
      have hl' := hl.send hm
      have k4 := fun {β : Type} {k : PK β} => c4 (Q := Q) (sl_fz 3 ((sendG F m).map gr)) (sl_fz 3 ((sendG F m).map gr)) hl' (t0 := .fz 4 (L.map quad)) (t1 := .int .i64 wild) (t9 := .int .i64 (i : Int)) (a := .int .i64 m.n) (b := .str m.b) (c := .bool m.t) false (k := k)
      refine ⟨sendG F m, _, _, sl_fz _ _, sl_fz _ _, hl', fun k => ?_⟩
      generalize sendG F m = F' at *
      simp only [gr] at cs rs
      rw [p_pleachlaw13_NetAll_5]
      rcases hsend with hd | hd | hd | hd <;> rw [hd] at m2 <;>
        simp [e, m2, p_pleachlaw13_NetAll_3, mz, c8, mu, wu, wz, wz1, bs, p_pleachlaw13_NetAll_0, cs, rs, k4]
    · have cs := fun (Q : AHeap) => c_Send (Q := Q) hv (by omega) ⟨1 + z % 8, b, false⟩
      have rs := fun (Q : AHeap) => r_Send (Q := Q) hw (by omega) ⟨1 + z % 8, b, false⟩
      have hl' := hl.send (g := ⟨1 + z % 8, b, false⟩) (by simp only [b3]; omega)
      have k4 := fun {β : Type} {k : PK β} => c4 (Q := Q) (sl_fz 3 ((sendG F ⟨1 + z % 8, b, false⟩).map gr)) (sl_fz 3 ((sendG F ⟨1 + z % 8, b, false⟩).map gr)) hl' (t0 := .fz 4 (L.map quad)) (t1 := .int .i64 wild) (t9 := .int .i64 (i : Int)) (a := .int .i64 m.n) (b := .str m.b) (c := .bool m.t) false (k := k)
      refine ⟨sendG F ⟨1 + z % 8, b, false⟩, _, _, sl_fz _ _, sl_fz _ _, hl', fun k => ?_⟩
      generalize sendG F ⟨1 + z % 8, b, false⟩ = F' at *
      simp only [gr] at cs rs
      rw [p_pleachlaw13_NetAll_5]
      rcases hsend with hd | hd | hd | hd <;> rw [hd] at m2 <;>
        simp [e, m2, p_pleachlaw13_NetAll_3, mz, c8, mu, wu, wz, wz1, bs, p_pleachlaw13_NetAll_0, cs, rs, k4]
  have k4 := fun (F' : List Gm) (hl' : Short F') (p : Bool) {β : Type} {k : PK β} => c4 (Q := Q) (sl_fz 3 (F'.map gr)) (sl_fz 3 (F'.map gr)) hl' (t0 := .fz 4 (L.map quad)) (t1 := .int .i64 wild) (t9 := .int .i64 (i : Int)) (a := .int .i64 m.n) (b := .str m.b) (c := .bool m.t) p (k := k)
  rcases (by omega : x % 9 = 4 ∨ x % 9 = 5 ∨ x % 9 = 6 ∨ x % 9 = 7 ∨ x % 9 = 8) with hd | hd | htw
  · rw [hd] at m2
    obtain ⟨j, hj⟩ : ∃ j, j = nn.tmod 9 := ⟨_, rfl⟩
    rcases at_or F j with ⟨n, g, hn, hg⟩ | hmiss
    · have cc := fun (Q : AHeap) => c_Comes_hit (Q := Q) hv (by omega) hg
      have rc := fun (Q : AHeap) => r_Gone_hit (Q := Q) hw (by omega) hg
      have k4 := fun {β : Type} {k : PK β} => k4 (F.take n ++ F.drop (n + 1)) (hl.less n) true (k := k)
      refine ⟨F.take n ++ F.drop (n + 1), _, _, sl_fz _ _, sl_fz _ _, hl.less n, fun k => ?_⟩
      generalize F.take n ++ F.drop (n + 1) = F' at *
      simp only [gr] at cc rc
      rw [← hn] at cc rc
      rw [p_pleachlaw13_NetAll_5]
      simp [e, m2, p_pleachlaw13_NetAll_3, ← hj, cc, rc, k4]
    · have cc := fun (Q : AHeap) => c_Comes_miss (Q := Q) hv (by omega) hmiss
      have rc := fun (Q : AHeap) => r_Gone_miss (Q := Q) hw hmiss
      refine ⟨F, _, _, sl_fz _ _, sl_fz _ _, hl, fun k => ?_⟩
      rw [p_pleachlaw13_NetAll_5]
      simp [e, m2, p_pleachlaw13_NetAll_3, ← hj, cc, rc, same]
  · rw [hd] at m2
    rcases at_or F nn with ⟨n, g, hn, hg⟩ | hmiss
    · have cc := fun (Q : AHeap) => c_Lost_hit (Q := Q) hv (by omega) hg
      have rc := fun (Q : AHeap) => r_Gone_hit (Q := Q) hw (by omega) hg
      have k4 := fun {β : Type} {k : PK β} => k4 (F.take n ++ F.drop (n + 1)) (hl.less n) true (k := k)
      refine ⟨F.take n ++ F.drop (n + 1), _, _, sl_fz _ _, sl_fz _ _, hl.less n, fun k => ?_⟩
      generalize F.take n ++ F.drop (n + 1) = F' at *
      simp only [gr] at rc
      rw [← hn] at cc rc
      rw [p_pleachlaw13_NetAll_5]
      simp [e, m2, p_pleachlaw13_NetAll_3, cc, rc, k4]
    · have cc := fun (Q : AHeap) => c_Lost_miss (Q := Q) hv (by omega) hmiss
      have rc := fun (Q : AHeap) => r_Gone_miss (Q := Q) hw hmiss
      refine ⟨F, _, _, sl_fz _ _, sl_fz _ _, hl, fun k => ?_⟩
      rw [p_pleachlaw13_NetAll_5]
      simp [e, m2, p_pleachlaw13_NetAll_3, cc, rc, same]
  obtain ⟨j, hj⟩ : ∃ j, j = nn.tmod 20 := ⟨_, rfl⟩
  by_cases htwo : x % 9 = 6 ∨ x % 9 = 7
  · have key : (∃ (n : Nat) (g : Gm), j = n ∧ F[n]? = some g ∧ F.length < 60) ∨ (¬ (0 ≤ j ∧ j < F.length) ∨ 60 ≤ F.length) := by
      rcases at_or F j with ⟨n, g, h1, h2⟩ | h
      · by_cases c : 60 ≤ F.length
        · exact Or.inr (Or.inr c)
        · exact Or.inl ⟨n, g, h1, h2, by omega⟩
      · exact Or.inr (Or.inl h)
    rcases key with ⟨n, g, hn, hg, h60⟩ | hmiss
    · have cc := fun (Q : AHeap) => c_Twice_hit (Q := Q) hv hg h60
      have rc := fun (Q : AHeap) => r_Twice_hit (Q := Q) hw hg h60
      have hl' : Short (F ++ [g]) := by
        have := hl.send (hl.2 g (List.mem_of_getElem? hg))
        unfold sendG at this
        rwa [if_neg (by omega)] at this
      have k4 := fun {β : Type} {k : PK β} => k4 (F ++ [g]) hl' true (k := k)
      refine ⟨F ++ [g], _, _, sl_fz _ _, sl_fz _ _, hl', fun k => ?_⟩
      generalize F ++ [g] = F' at *
      rw [← hn] at cc rc
      rw [p_pleachlaw13_NetAll_5]
      rcases htwo with hd | hd <;> rw [hd] at m2 <;> simp [e, m2, p_pleachlaw13_NetAll_3, p_pleachlaw13_NetAll_2, ← hj, cc, rc, k4]
    · have cc := fun (Q : AHeap) => c_Twice_miss (Q := Q) hv (by omega) hmiss
      have rc := fun (Q : AHeap) => r_Twice_miss (Q := Q) hw hmiss
      refine ⟨F, _, _, sl_fz _ _, sl_fz _ _, hl, fun k => ?_⟩
      rw [p_pleachlaw13_NetAll_5]
      rcases htwo with hd | hd <;> rw [hd] at m2 <;> simp [e, m2, p_pleachlaw13_NetAll_3, p_pleachlaw13_NetAll_2, ← hj, cc, rc, same]
  have hd : x % 9 = 8 := by omega
  rw [hd] at m2
  have wz := w64 (i := z) (by omega) (by omega)
  have wu := w64 (i := u) (by omega) (by omega)
  have wm := w64 (i := z * 256) (by omega) (by omega)
  have wt := w64 (i := z * 256 + u) (by omega) (by omega)
  have mz := tmod_e (a := z) (b := 16) hz.1
  obtain ⟨to, hto⟩ : ∃ to, to = if z % 16 = 1 then wild else z * 256 + u := ⟨_, rfl⟩
  have hto2 : to ≤ 9223372036854775807 := by rw [hto]; split <;> omega
  have key : (∃ (n : Nat) (g : Gm), j = n ∧ F[n]? = some g ∧ g.t = false ∧ g.b ≠ [] ∧ 0 ≤ to ∧ to % 256 ≠ 0) ∨ (¬ (0 ≤ j ∧ j < F.length) ∨ (∃ g, F[j.toNat]? = some g ∧ (g.t = true ∨ g.b = [])) ∨ to < 0 ∨ to % 256 = 0) := by
    rcases at_or F j with ⟨n, g, h1, h2⟩ | h
    · by_cases c1 : g.t = true
      · exact Or.inr (Or.inr (Or.inl ⟨g, by rw [h1]; exact h2, Or.inl c1⟩))
      · by_cases c2 : g.b = []
        · exact Or.inr (Or.inr (Or.inl ⟨g, by rw [h1]; exact h2, Or.inr c2⟩))
        · by_cases c3 : to < 0
          · exact Or.inr (Or.inr (Or.inr (Or.inl c3)))
          · by_cases c4 : to % 256 = 0
            · exact Or.inr (Or.inr (Or.inr (Or.inr c4)))
            · exact Or.inl ⟨n, g, h1, h2, by simpa using c1, c2, by omega, c4⟩
    · exact Or.inr (Or.inl h)
  rcases key with ⟨n, g, hn, hg, ht, hb, h0, hmm⟩ | hmiss
  · have hgb := hl.2 g (List.mem_of_getElem? hg)
    have cc := fun (Q : AHeap) => c_Turned_hit (Q := Q) hv (by omega) hg ht hb (by omega) h0 hmm hto2
    have rc := fun (Q : AHeap) => r_Turned_hit (Q := Q) hw (by omega) hg ht hb (by omega) h0 hmm hto2
    have hl' : Short (F.set n ⟨g.n, turnB g.b to, true⟩) := hl.set n (by simp only [turnB_len]; exact hgb)
    have k4 := fun {β : Type} {k : PK β} => k4 (F.set n ⟨g.n, turnB g.b to, true⟩) hl' true (k := k)
    refine ⟨F.set n ⟨g.n, turnB g.b to, true⟩, _, _, sl_fz _ _, sl_fz _ _, hl', fun k => ?_⟩
    generalize F.set n ⟨g.n, turnB g.b to, true⟩ = F' at *
    rw [← hn] at cc rc
    rw [p_pleachlaw13_NetAll_5]
    by_cases c : z % 16 = 1
    · rw [if_pos c] at hto
      subst hto
      simp [e, m2, p_pleachlaw13_NetAll_3, p_pleachlaw13_NetAll_2, p_pleachlaw13_NetAll_1, ← hj, wz, wu, wm, wt, mz, c, cc, rc, k4]
    · rw [if_neg c] at hto
      subst hto
      simp [e, m2, p_pleachlaw13_NetAll_3, p_pleachlaw13_NetAll_2, p_pleachlaw13_NetAll_1, ← hj, wz, wu, wm, wt, mz, c, cc, rc, k4]
  · have cc := fun (Q : AHeap) => c_Turned_miss (Q := Q) hv (by omega) hmiss
    have rc := fun (Q : AHeap) => r_Turned_miss (Q := Q) hw hmiss
    refine ⟨F, _, _, sl_fz _ _, sl_fz _ _, hl, fun k => ?_⟩
    rw [p_pleachlaw13_NetAll_5]
    by_cases c : z % 16 = 1
    · rw [if_pos c] at hto
      subst hto
      simp [e, m2, p_pleachlaw13_NetAll_3, p_pleachlaw13_NetAll_2, p_pleachlaw13_NetAll_1, ← hj, wz, wu, wm, wt, mz, c, cc, rc, same]
    · rw [if_neg c] at hto
      subst hto
      simp [e, m2, p_pleachlaw13_NetAll_3, p_pleachlaw13_NetAll_2, p_pleachlaw13_NetAll_1, ← hj, wz, wu, wm, wt, mz, c, cc, rc, same]
theorem loop_7 {L : List (List Int)} (rL : Quad L) (hL : L.length ≤ 80) (m : Gm) (hm : m.b.length ≤ 40) {wild : Int} (hwild : wild ≤ 9223372036854775807) : ∀ (d i : Nat) (F : List Gm) (v w : AV), i + d = L.length → Sl 3 (F.map gr) v → Sl 3 (F.map gr) w → Short F →
    L_pleachlaw13_NetAll_7 P1 (.fz 4 (L.map quad)) (.int .i64 wild) v w (.int .i64 i) (.int .i64 m.n) (.str m.b) (.bool m.t) Q = X_pleachlaw13_NetAll_7_x0 Q := by
  intro d
  induction d with
  | zero =>
    intro i F v w hi hv hw hl
    obtain rfl : i = L.length := by omega
    rw [L_pleachlaw13_NetAll_7_eq, p_pleachlaw13_NetAll_7]
    simp
  | succ d ih =>
    intro i F v w hi hv hw hl
    have h : ((i : Int) < L.length) = True := eq_true (by omega)
    obtain ⟨x, y, z, u, e, hx, hy, hz, hu⟩ := rL.get (i := i) (by omega)
    have e0 := e
    have e := quad_el e
    have m1 := tmod_e (a := y) (b := 70) hy.1
    have m2 := tmod_e (a := u) (b := 16) hu.1
    have wy := w64 (i := y) (by omega) (by omega)
    have w1 := w64 (i := (i : Int) + 1) (by omega) (by omega)
    obtain ⟨F', v', w', q1, q2, q3, k5⟩ := c5 (Q := Q) e0 hx hz hu hv hw hl m hm hwild (if u % 16 = 0 then wild else y % 70)
    have ih := ih (i + 1) F' v' w' (by omega) q1 q2 q3
    rw [L_pleachlaw13_NetAll_7_eq, p_pleachlaw13_NetAll_7]
    by_cases c : u % 16 = 0
    · rw [if_pos c] at k5
      simp [h, e, m1, m2, wy, c, k5, p_pleachlaw13_NetAll_6, w1, L_pleachlaw13_NetAll_7_fold]
      simpa using ih
    · rw [if_neg c] at k5
      simp [h, e, m1, m2, wy, c, k5, p_pleachlaw13_NetAll_6, w1, L_pleachlaw13_NetAll_7_fold]
      simpa using ih
theorem all_true {L : List (List Int)} (rL : Quad L) (m : Gm) {wild : Int} (hwild : wild ≤ 9223372036854775807) : callP (penv P1) 7 [.fz 4 (L.map quad), .int .i64 wild, gr m] Q = some (.bool true, Q) := by
  show callP (penv P1) 7 [.fz 4 (L.map quad), .int .i64 wild, .agg [.int .i64 m.n, .str m.b, .bool m.t]] Q = _
  rw [f_pleachlaw13_NetAll rfl]
  have hb : ∀ Q, callP (penv P1) 28 [] Q = some (.bool true, Q) := fun Q => (callP_spec (E := penv P1) (f := 28) (g := gYes) rfl [] Q).trans (by simp [gYes])
  by_cases hA : 80 < L.length
  · have hA' : (80 : Int) < L.length := by omega
    simp [hb, hA']
  have hA' : ¬ (80 : Int) < L.length := by omega
  by_cases hB : 40 < m.b.length
  · have hB' : (40 : Int) < m.b.length := by omega
    simp [hb, hA', hB']
  have hB' : ¬ (40 : Int) < m.b.length := by omega
  have l7 := loop_7 (Q := Q) rL (by omega) m (by omega) hwild L.length 0 [] .nils .nils (by omega) (sl_nil 3) (sl_nil 3) ⟨by simp, by simp⟩
  simp only [show ((0 : Nat) : Int) = 0 from rfl] at l7
  simp [hb, hA', hB', L_pleachlaw13_NetAll_7_fold, l7, p_pleachlaw13_NetAll_8]
end
end Go.Proofs.Ytldehmfhgmmkhaa.Pn
