/- The law NetMade: the walk. -/
import Derived.Test.YtldehmfhgmmkhaaPcNet
set_option linter.unusedVariables false
set_option linter.unusedSimpArgs false
namespace Go.Proofs.Ytldehmfhgmmkhaa.Pn
open Go.Ab
set_option maxRecDepth 100000
def cnt : List UInt8 → List UInt8 → Nat
  | a :: l, b :: m => (if a = b then 0 else 1) + cnt l m
  | _, _ => 0
theorem cnt_self : ∀ l, cnt l l = 0
  | [] => rfl
  | a :: l => by simp [cnt, cnt_self l]
theorem cnt_le : ∀ l m, cnt l m ≤ l.length
  | [], _ => by simp [cnt]
  | a :: l, [] => by simp [cnt]
  | a :: l, b :: m => by have := cnt_le l m; simp only [cnt, List.length_cons]; split <;> omega
theorem cnt_set : ∀ (l : List UInt8) (p : Nat) (x : UInt8) (h : p < l.length), x ≠ l[p] → cnt (l.set p x) l = 1
  | a :: l, 0, x, h, hx => by simp only [List.set_cons_zero, cnt, cnt_self]; rw [if_neg (by simpa using hx)]
  | a :: l, p + 1, x, h, hx => by
    simp only [List.length_cons] at h
    have := cnt_set l p x (by omega) (by simpa using hx)
    simp only [List.set_cons_succ, cnt, this]; simp
theorem cnt_turn {b : List UInt8} {to : Int} (hb : b ≠ []) (hm : to % 256 ≠ 0) : cnt (turnB b to) b = 1 ∧ (turnB b to).length = b.length := by
  have lb : 0 < b.length := List.length_pos_iff.2 hb
  have h1 := Int.emod_lt_of_pos (to / 256) (b := (b.length : Int)) (by omega)
  have h2 := Int.emod_nonneg (to / 256) (b := (b.length : Int)) (by omega)
  have hp : (to / 256 % b.length).toNat < b.length := by omega
  unfold turnB
  refine ⟨cnt_set _ _ _ hp ?_, by simp⟩
  rw [List.getD_eq_getElem?_getD, List.getElem?_eq_getElem hp]
  exact xorU_ne (by omega)
theorem cnt_split {a b : List UInt8} {i : Nat} (ha : i < a.length) (hb : i < b.length) : cnt (a.drop i) (b.drop i) = (if a[i] = b[i] then 0 else 1) + cnt (a.drop (i + 1)) (b.drop (i + 1)) := by
  rw [List.drop_eq_getElem_cons ha, List.drop_eq_getElem_cons hb]; rfl
section
variable {Q : AHeap}
theorem loop_apart {a b : List UInt8} (hl : a.length = b.length) (hs : a.length ≤ 1000) : ∀ (m i n : Nat), i + m = a.length → n ≤ i →
    L_pleachlaw13_apart_1 P1 (.str a) (.str b) (.int .i64 n) (.int .i64 i) Q = X_pleachlaw13_apart_1_x0 (.int .i64 (n + cnt (a.drop i) (b.drop i) : Nat)) Q := by
  intro m
  induction m with
  | zero =>
    intro i n hi hn
    obtain rfl : i = a.length := by omega
    rw [L_pleachlaw13_apart_1_eq, p_pleachlaw13_apart_1]
    simp [hl, cnt]
  | succ m ih =>
    intro i n hi hn
    have h : ((i : Int) < a.length) = True := eq_true (by omega)
    have ia : i < a.length := by omega
    have ib : i < b.length := by omega
    have w1 := w64 (i := (i : Int) + 1) (by omega) (by omega)
    have w2 := w64 (i := (n : Int) + 1) (by omega) (by omega)
    have xa : ixsA (.str a) (.int .i64 (i : Int)) = some (.int .u8 a[i].toNat) := by simp [ixsA, ia]
    have xb : ixsA (.str b) (.int .i64 (i : Int)) = some (.int .u8 b[i].toNat) := by simp [ixsA, ib]
    have cs := cnt_split ia ib
    rw [L_pleachlaw13_apart_1_eq, p_pleachlaw13_apart_1]
    by_cases e : a[i] = b[i]
    · rw [if_pos e] at cs
      have ih := ih (i + 1) n (by omega) (by omega)
      rw [cs]
      simp [h, xa, xb, e, w1, p_pleachlaw13_apart_0, L_pleachlaw13_apart_1_fold]
      simpa using ih
    · rw [if_neg e] at cs
      have ih := ih (i + 1) (n + 1) (by omega) (by omega)
      rw [cs]
      have e' : ((a[i].toNat : Int) = b[i].toNat) = False := eq_false fun x => e (UInt8.toNat_inj.1 (by omega))
      simp [h, xa, xb, e', w1, w2, p_pleachlaw13_apart_0, L_pleachlaw13_apart_1_fold]
      simpa [Nat.add_assoc] using ih
theorem c_apart {a b : List UInt8} (hl : a.length = b.length) (hs : a.length ≤ 1000) : callP (penv P1) 39 [.str a, .str b] Q = some (.int .i64 (cnt a b : Nat), Q) := by
  rw [f_pleachlaw13_apart rfl]
  have l := loop_apart (Q := Q) hl hs a.length 0 0 (by omega) (by omega)
  simp only [List.drop_zero, Nat.zero_add, show ((0 : Nat) : Int) = 0 from rfl] at l
  have e : ((a.length : Int) = b.length) = True := eq_true (by omega)
  simp [e, L_pleachlaw13_apart_1_fold, l, p_pleachlaw13_apart_2]
def Near (S : List (List UInt8)) (g : Gm) : Prop := g.n = 2 ∧ g.b.length = 3 ∧ ∃ s ∈ S, cnt g.b s = if g.t = true then 1 else 0
def ge (b : List UInt8) : AV := .agg [.int .i64 2, .str b, .bool false]
theorem elC_ge {S : List (List UInt8)} {i : Nat} (h : i < S.length) : elC (S.map ge) i 1 = some (.str S[i]) := by simp [elC, h, ge]
theorem loop_1 {S : List (List UInt8)} (hS : ∀ s ∈ S, s.length = 3) (hl : S.length ≤ 1000) {v : AV} {F : List Gm} (hv : Sl 3 (F.map gr) v) {k : Nat} {g : Gm} (hg : F[k]? = some g) (gn : g.n = 2) (gl : g.b.length = 3) {t0 t5 : AV} :
    ∀ (m i : Nat) (near : Bool), i + m = S.length → (near = true ∨ ∃ j, i ≤ j ∧ ∃ (h : j < S.length), cnt g.b S[j] = if g.t = true then 1 else 0) →
    L_pleachlaw13_NetMade_1 P1 t0 v t5 (.int .i64 k) (.bool near) (.int .i64 (if g.t = true then 1 else 0)) (.int .i64 i) (S.map ge) Q = X_pleachlaw13_NetMade_1_x5 t0 v t5 (.int .i64 k) (.bool true) (S.map ge) Q := by
  intro m
  induction m with
  | zero =>
    intro i near hi hn
    obtain rfl : i = S.length := by omega
    have : near = true := by
      rcases hn with hn | ⟨j, h1, h2, _⟩
      · exact hn
      · omega
    rw [this, L_pleachlaw13_NetMade_1_eq, p_pleachlaw13_NetMade_1]
    simp
  | succ m ih =>
    intro i near hi hn
    have h : ((i : Int) < S.length) = True := eq_true (by omega)
    have hi' : i < S.length := by omega
    have w1 := w64 (i := (i : Int) + 1) (by omega) (by omega)
    cases near with
    | true =>
      have ih := ih (i + 1) true (by omega) (Or.inl rfl)
      rw [L_pleachlaw13_NetMade_1_eq, p_pleachlaw13_NetMade_1]
      simp [h, w1, L_pleachlaw13_NetMade_1_fold]
      simpa using ih
    | false =>
      have he := hv.el hg
      have hs := elC_ge hi'
      have ca := fun (Q : AHeap) => c_apart (Q := Q) (a := g.b) (b := S[i]) (by rw [gl, hS _ (List.getElem_mem _)]) (by omega)
      have ih := ih (i + 1) (decide (cnt g.b S[i] = if g.t = true then 1 else 0)) (by omega) (by
        rcases hn with hn | ⟨j, h1, h2, h3⟩
        · cases hn
        · by_cases e : j = i
          · subst e; exact Or.inl (by simp [h3])
          · exact Or.inr ⟨j, by omega, h2, h3⟩)
      simp only [gr] at he
      rw [L_pleachlaw13_NetMade_1_eq, p_pleachlaw13_NetMade_1]
      by_cases e : cnt g.b S[i] = if g.t = true then 1 else 0
      · have e' : ((cnt g.b S[i] : Int) = if g.t = true then 1 else 0) = True := eq_true (by rw [e]; split <;> rfl)
        simp only [e, decide_true] at ih
        simp [h, w1, he, hs, hi', ca, e', gn, L_pleachlaw13_NetMade_1_fold]
        simpa using ih
      · have e' : ((cnt g.b S[i] : Int) = if g.t = true then 1 else 0) = False := eq_false fun x => e (by revert x; split <;> intro x <;> omega)
        simp only [e, decide_false] at ih
        simp [h, w1, he, hs, hi', ca, e', gn, L_pleachlaw13_NetMade_1_fold]
        simpa using ih
theorem loop_5 {S : List (List UInt8)} (hS : ∀ s ∈ S, s.length = 3) (hl : S.length ≤ 1000) {v : AV} {F : List Gm} (hv : Sl 3 (F.map gr) v) (hF : F.length ≤ 60) (hN : ∀ g ∈ F, Near S g) {t0 t5 : AV} :
    ∀ (m k : Nat), k + m = F.length →
    L_pleachlaw13_NetMade_5 P1 t0 v t5 (.int .i64 k) (S.map ge) Q = X_pleachlaw13_NetMade_5_x3 t0 v t5 (S.map ge) Q := by
  intro m
  induction m with
  | zero =>
    intro k hk
    obtain rfl : k = F.length := by omega
    have hn := hv.len
    rw [L_pleachlaw13_NetMade_5_eq, p_pleachlaw13_NetMade_5]
    simp [hn]
  | succ m ih =>
    intro k hk
    have hn := hv.len
    simp only [List.length_map] at hn
    have h : ((k : Int) < F.length) = True := eq_true (by omega)
    obtain ⟨g, hg⟩ : ∃ g, F[k]? = some g := ⟨_, List.getElem?_eq_getElem (by omega)⟩
    have he := hv.el hg
    simp only [gr] at he
    have w1 := w64 (i := (k : Int) + 1) (by omega) (by omega)
    obtain ⟨n1, n2, s, n3, n4⟩ := hN g (List.mem_of_getElem? hg)
    obtain ⟨j, hj, rfl⟩ := List.getElem_of_mem n3
    have l1 := loop_1 (Q := Q) hS hl hv hg n1 n2 (t0 := t0) (t5 := t5) S.length 0 false (by omega) (Or.inr ⟨j, by omega, hj, n4⟩)
    have ih := ih (k + 1) (by omega)
    simp only [show ((0 : Nat) : Int) = 0 from rfl] at l1
    rw [L_pleachlaw13_NetMade_5_eq, p_pleachlaw13_NetMade_5]
    cases ht : g.t with
    | true =>
      simp only [ht, if_true] at l1
      simp [hn, h, he, ht, p_pleachlaw13_NetMade_3, L_pleachlaw13_NetMade_1_fold, l1, p_pleachlaw13_NetMade_2, p_pleachlaw13_NetMade_4, w1, L_pleachlaw13_NetMade_5_fold]
      simpa using ih
    | false =>
      simp only [ht, Bool.false_eq_true, if_false] at l1
      simp [hn, h, he, ht, p_pleachlaw13_NetMade_3, L_pleachlaw13_NetMade_1_fold, l1, p_pleachlaw13_NetMade_2, p_pleachlaw13_NetMade_4, w1, L_pleachlaw13_NetMade_5_fold]
      simpa using ih
theorem c6 {S : List (List UInt8)} (hS : ∀ s ∈ S, s.length = 3) (hl : S.length ≤ 1000) {v : AV} {F : List Gm} (hv : Sl 3 (F.map gr) v) (hF : F.length ≤ 60) (hN : ∀ g ∈ F, Near S g) {t0 t5 : AV} {β : Type} {k : PK β} :
    evalPK (callP (penv P1)) (loopP (penv P1)) c_pleachlaw13_NetMade_6 [(0, .v t0), (3, .v v), (4, .ls 4), (5, .v t5)] [(4, .own 3 (S.map ge))] Q k = k .normal [(0, .v t0), (3, .v v), (4, .ls 4), (5, .v t5)] [(4, .own 3 (S.map ge))] Q := by
  have hn := hv.len
  simp only [List.length_map] at hn
  have c : ((60 : Int) < F.length) = False := eq_false (by omega)
  have l5 := loop_5 (Q := Q) hS hl hv hF hN (t0 := t0) (t5 := t5) F.length 0 (by omega)
  simp only [show ((0 : Nat) : Int) = 0 from rfl] at l5
  rw [p_pleachlaw13_NetMade_6]
  simp [hn, c, L_pleachlaw13_NetMade_5_fold, l5]
theorem cnt_zero : ∀ (a b : List UInt8), a.length = b.length → cnt a b = 0 → a = b
  | [], [], _, _ => rfl
  | [], _ :: _, h, _ => by simp at h
  | _ :: _, [], h, _ => by simp at h
  | a :: l, b :: m, h, hc => by
    simp only [cnt] at hc
    by_cases e : a = b
    · rw [if_pos e] at hc
      rw [e, cnt_zero l m (by simpa using h) (by omega)]
    · rw [if_neg e] at hc; omega
abbrev quad (t : List Int) : AV := .agg (t.map (AV.int .u8))
def Quad (L : List (List Int)) : Prop := ∀ a ∈ L, a.length = 4 ∧ ∀ i ∈ a, 0 ≤ i ∧ i ≤ 255
theorem Quad.get {L : List (List Int)} (h : Quad L) {i : Nat} (hi : i < L.length) : ∃ x y z u : Int, L[i]? = some [x, y, z, u] ∧ (0 ≤ x ∧ x ≤ 255) ∧ (0 ≤ y ∧ y ≤ 255) ∧ (0 ≤ z ∧ z ≤ 255) ∧ (0 ≤ u ∧ u ≤ 255) := by
  obtain ⟨h1, h2⟩ := h L[i] (List.getElem_mem _)
  have e : L[i]? = some L[i] := List.getElem?_eq_getElem hi
  generalize L[i] = a at *
  match a, h1 with
  | [x, y, z, u], _ => exact ⟨x, y, z, u, e, h2 x (by simp), h2 y (by simp), h2 z (by simp), h2 u (by simp)⟩
theorem quad_el {L : List (List Int)} {i : Nat} {x y z u : Int} (h : L[i]? = some [x, y, z, u]) : elQ 4 (.fz 4 (L.map quad)) (.int .i64 (i : Int)) = some (.agg [.int .u8 x, .int .u8 y, .int .u8 z, .int .u8 u]) := elQ_at h
theorem b2sQ_3 (a b c : Int) : b2sQ (.fz 1 [.int .u8 a, .int .u8 b, .int .u8 c]) = some (.str [UInt8.ofNat a.toNat, UInt8.ofNat b.toNat, UInt8.ofNat c.toNat]) := rfl
theorem Near.mono {S : List (List UInt8)} {g : Gm} (h : Near S g) (b : List UInt8) : Near (S ++ [b]) g := by
  obtain ⟨h1, h2, s, h3, h4⟩ := h
  exact ⟨h1, h2, s, List.mem_append_left _ h3, h4⟩
theorem Near.turn {S : List (List UInt8)} (hS : ∀ s ∈ S, s.length = 3) {g : Gm} (h : Near S g) (ht : g.t = false) {to : Int} (hm : to % 256 ≠ 0) : Near S ⟨g.n, turnB g.b to, true⟩ := by
  obtain ⟨h1, h2, s, h3, h4⟩ := h
  rw [ht] at h4
  have e := cnt_zero g.b s (by rw [h2, hS s h3]) (by simpa using h4)
  obtain ⟨c1, c2⟩ := cnt_turn (b := g.b) (to := to) (by intro x; rw [x] at h2; cases h2) hm
  exact ⟨h1, by simp only [c2, h2], s, h3, by simp only [if_true]; rw [← e]; exact c1⟩
theorem loop_8 {L : List (List Int)} (rL : Quad L) (hL : L.length ≤ 80) : ∀ (m i : Nat) (F : List Gm) (S : List (List UInt8)) (v : AV), i + m = L.length → Sl 3 (F.map gr) v → F.length ≤ 60 → S.length ≤ i → (∀ s ∈ S, s.length = 3) → (∀ g ∈ F, Near S g) →
    L_pleachlaw13_NetMade_8 P1 (.fz 4 (L.map quad)) v (.int .i64 i) (S.map ge) Q = X_pleachlaw13_NetMade_8_x0 Q := by
  intro m
  induction m with
  | zero =>
    intro i F S v hi hv hF hSl hS hN
    obtain rfl : i = L.length := by omega
    rw [L_pleachlaw13_NetMade_8_eq, p_pleachlaw13_NetMade_8]
    simp
  | succ m ih =>
    intro i F S v hi hv hF hSl hS hN
    have h : ((i : Int) < L.length) = True := eq_true (by omega)
    obtain ⟨x, y, z, u, e, hx, hy, hz, hu⟩ := rL.get (i := i) (by omega)
    have e := quad_el e
    have m1 := tmod_e (a := y) (b := 24) hy.1
    have m2 := tmod_e (a := x) (b := 7) hx.1
    have wy := w64 (i := y) (by omega) (by omega)
    have w1 := w64 (i := (i : Int) + 1) (by omega) (by omega)
    obtain ⟨n, hn⟩ : ∃ n : Nat, y % 24 = n := ⟨(y % 24).toNat, by omega⟩
    rw [hn] at m1
    have hd : x % 7 = 0 ∨ x % 7 = 1 ∨ x % 7 = 2 ∨ x % 7 = 3 ∨ x % 7 = 4 ∨ x % 7 = 5 ∨ x % 7 = 6 := by omega
    by_cases hsend : x % 7 = 0 ∨ x % 7 = 1 ∨ x % 7 = 2
    · -- one more is sent
      have m3 := tmod_e (a := (i : Int)) (b := 26) (by omega)
      have d3 := tdiv_e (a := (i : Int)) (b := 26) (by omega)
      have wd := w64 (i := (i : Int) / 26) (by omega) (by omega)
      have wa := wrap_u8 (i := (i : Int) % 26) (by omega) (by omega)
      have wb := wrap_u8 (i := (i : Int) / 26) (by omega) (by omega)
      have wc := wrap_u8 (i := 97 + (i : Int) % 26) (by omega) (by omega)
      have we := wrap_u8 (i := 97 + (i : Int) / 26) (by omega) (by omega)
      have bs := b2sQ_3 (97 + (i : Int) % 26) (97 + (i : Int) / 26) 122
      obtain ⟨b, hb⟩ : ∃ b, b = [UInt8.ofNat (97 + (i : Int) % 26).toNat, UInt8.ofNat (97 + (i : Int) / 26).toNat, UInt8.ofNat (122 : Int).toNat] := ⟨_, rfl⟩
      have b3 : b.length = 3 := by rw [hb]; rfl
      rw [← hb] at bs
      clear hb
      have cs := fun (Q : AHeap) => c_Send (Q := Q) hv (by omega) ⟨2, b, false⟩
      have hF' : ((sendG F ⟨2, b, false⟩).length : Int) = min ((F.length : Int) + 1) 60 := by
        unfold sendG
        rw [Int.min_def]
        split <;> split <;> (try simp only [List.length_append, List.length_cons, List.length_nil]) <;> omega
      have hN' : ∀ g ∈ sendG F ⟨2, b, false⟩, Near (S ++ [b]) g := by
        intro g hg
        unfold sendG at hg
        split at hg
        · exact (hN g hg).mono b
        · rcases List.mem_append.1 hg with hg | hg
          · exact (hN g hg).mono b
          · obtain rfl := List.mem_singleton.1 hg
            exact ⟨rfl, b3, b, by simp, by rw [cnt_self]; simp⟩
      have hS' : ∀ s ∈ S ++ [b], s.length = 3 := by
        intro s hs
        rcases List.mem_append.1 hs with hs | hs
        · exact hS s hs
        · obtain rfl := List.mem_singleton.1 hs; exact b3
      have hl := hv.len
      simp only [List.length_map] at hl
      generalize sendG F ⟨2, b, false⟩ = F' at *
      have hF60 : F'.length ≤ 60 := by rw [Int.min_def] at hF'; split at hF' <;> omega
      have ih := ih (i + 1) F' (S ++ [b]) (.fz 3 (F'.map gr)) (by omega) (sl_fz _ _) hF60 (by simp; omega) hS' hN'
      have k6 := fun {β : Type} {k : PK β} => c6 (Q := Q) hS' (by simp; omega) (sl_fz 3 (F'.map gr)) hF60 hN' (t0 := .fz 4 (L.map quad)) (t5 := .int .i64 (i : Int)) (k := k)
      have mn : mniA [.int .i64 ((F.length : Int) + 1), .int .i64 60] = some (.int .i64 F'.length) := by
        rw [hF']
        exact mni_two ..
      have wl := w64 (i := (F.length : Int) + 1) (by omega) (by omega)
      have rm : room 32 (S.length + 1) = true := room_le (by omega) (by omega)
      simp only [gr, List.map_append, List.map_cons, List.map_nil, ge] at cs k6 ih
      rw [L_pleachlaw13_NetMade_8_eq, p_pleachlaw13_NetMade_8]
      rcases hsend with hd | hd | hd
      · rw [hd] at m2
        simp [h, e, m1, m2, wy, p_pleachlaw13_NetMade_0, m3, d3, wd, wa, wb, wc, we, bs, cs, hl, wl, mn, rm, ge, gr, k6, p_pleachlaw13_NetMade_7, w1, L_pleachlaw13_NetMade_8_fold]
        simpa [ge, gr] using ih
      · rw [hd] at m2
        simp [h, e, m1, m2, wy, p_pleachlaw13_NetMade_0, m3, d3, wd, wa, wb, wc, we, bs, cs, hl, wl, mn, rm, ge, gr, k6, p_pleachlaw13_NetMade_7, w1, L_pleachlaw13_NetMade_8_fold]
        simpa [ge, gr] using ih
      · rw [hd] at m2
        simp [h, e, m1, m2, wy, p_pleachlaw13_NetMade_0, m3, d3, wd, wa, wb, wc, we, bs, cs, hl, wl, mn, rm, ge, gr, k6, p_pleachlaw13_NetMade_7, w1, L_pleachlaw13_NetMade_8_fold]
        simpa [ge, gr] using ih
    · have tail : ∀ {F' : List Gm} {v' : AV}, Sl 3 (F'.map gr) v' → F'.length ≤ 60 → (∀ g ∈ F', Near S g) →
          L_pleachlaw13_NetMade_8 P1 (.fz 4 (L.map quad)) v' (.int .i64 (i + 1 : Nat)) (S.map ge) Q = X_pleachlaw13_NetMade_8_x0 Q ∧
          ∀ {β : Type} {k : PK β}, evalPK (callP (penv P1)) (loopP (penv P1)) c_pleachlaw13_NetMade_6 [(0, .v (.fz 4 (L.map quad))), (3, .v v'), (4, .ls 4), (5, .v (.int .i64 (i : Int)))] [(4, .own 3 (S.map ge))] Q k =
            k .normal [(0, .v (.fz 4 (L.map quad))), (3, .v v'), (4, .ls 4), (5, .v (.int .i64 (i : Int)))] [(4, .own 3 (S.map ge))] Q :=
        fun {F' v'} h1 h2 h3 => ⟨ih (i + 1) F' S v' (by omega) h1 h2 (by omega) hS h3, fun {β k} => c6 hS (by omega) h1 h2 h3⟩
      have same := tail (sl_fz 3 (F.map gr)) hF hN
      have gone : ∀ n, ∀ g ∈ F.take n ++ F.drop (n + 1), Near S g := fun n g hg => by
        rcases List.mem_append.1 hg with hg | hg
        · exact hN g (List.mem_of_mem_take hg)
        · exact hN g (List.mem_of_mem_drop hg)
      have less := tail (sl_fz 3 ((F.take n ++ F.drop (n + 1)).map gr)) (by simp; omega) (gone n)
      rw [L_pleachlaw13_NetMade_8_eq, p_pleachlaw13_NetMade_8]
      rcases (by omega : x % 7 = 3 ∨ x % 7 = 4 ∨ x % 7 = 5 ∨ x % 7 = 6) with hd | hd | hd | hd
      · rw [hd] at m2
        by_cases hnl : n < F.length
        · have cc := fun (Q : AHeap) => c_Comes_hit (Q := Q) hv (by omega) (List.getElem?_eq_getElem hnl)
          generalize F.take n ++ F.drop (n + 1) = F' at *
          obtain ⟨ih, k6⟩ := less
          try simp only [gr] at cc
          simp [h, e, m1, m2, wy, p_pleachlaw13_NetMade_0, cc, gr, k6, p_pleachlaw13_NetMade_7, w1, L_pleachlaw13_NetMade_8_fold]
          simpa [gr] using ih
        · have cc := fun (Q : AHeap) => c_Comes_miss (Q := Q) hv (by omega) (i := n) (by omega)
          obtain ⟨ih, k6⟩ := same
          try simp only [gr] at cc
          simp [h, e, m1, m2, wy, p_pleachlaw13_NetMade_0, cc, gr, k6, p_pleachlaw13_NetMade_7, w1, L_pleachlaw13_NetMade_8_fold]
          simpa [gr] using ih
      · rw [hd] at m2
        by_cases hnl : n < F.length
        · have cc := fun (Q : AHeap) => c_Lost_hit (Q := Q) hv (by omega) (List.getElem?_eq_getElem hnl)
          generalize F.take n ++ F.drop (n + 1) = F' at *
          obtain ⟨ih, k6⟩ := less
          try simp only [gr] at cc
          simp [h, e, m1, m2, wy, p_pleachlaw13_NetMade_0, cc, gr, k6, p_pleachlaw13_NetMade_7, w1, L_pleachlaw13_NetMade_8_fold]
          simpa [gr] using ih
        · have cc := fun (Q : AHeap) => c_Lost_miss (Q := Q) hv (by omega) (i := n) (by omega)
          obtain ⟨ih, k6⟩ := same
          try simp only [gr] at cc
          simp [h, e, m1, m2, wy, p_pleachlaw13_NetMade_0, cc, gr, k6, p_pleachlaw13_NetMade_7, w1, L_pleachlaw13_NetMade_8_fold]
          simpa [gr] using ih
      · rw [hd] at m2
        by_cases hnl : n < F.length ∧ F.length < 60
        · have hg := List.getElem?_eq_getElem hnl.1
          have cc := fun (Q : AHeap) => c_Twice_hit (Q := Q) hv hg hnl.2
          have more := tail (sl_fz 3 ((F ++ [F[n]'hnl.1]).map gr)) (by simp; omega) (fun g hg => by
            rcases List.mem_append.1 hg with hg | hg
            · exact hN g hg
            · rw [List.mem_singleton.1 hg]; exact hN _ (List.getElem_mem _))
          generalize F ++ [F[n]'hnl.1] = F' at *
          obtain ⟨ih, k6⟩ := more
          try simp only [gr] at cc
          simp [h, e, m1, m2, wy, p_pleachlaw13_NetMade_0, cc, gr, k6, p_pleachlaw13_NetMade_7, w1, L_pleachlaw13_NetMade_8_fold]
          simpa [gr] using ih
        · have cc := fun (Q : AHeap) => c_Twice_miss (Q := Q) hv (by omega) (i := n) (by omega)
          obtain ⟨ih, k6⟩ := same
          try simp only [gr] at cc
          simp [h, e, m1, m2, wy, p_pleachlaw13_NetMade_0, cc, gr, k6, p_pleachlaw13_NetMade_7, w1, L_pleachlaw13_NetMade_8_fold]
          simpa [gr] using ih
      · rw [hd] at m2
        have wz := w64 (i := z) (by omega) (by omega)
        have wu := w64 (i := u) (by omega) (by omega)
        have wm := w64 (i := z * 256) (by omega) (by omega)
        have wt := w64 (i := z * 256 + u) (by omega) (by omega)
        by_cases hhit : ∃ g, F[n]? = some g ∧ g.t = false ∧ (z * 256 + u) % 256 ≠ 0
        · obtain ⟨g, hg, ht, hm⟩ := hhit
          have hgN := hN g (List.mem_of_getElem? hg)
          have cc := fun (Q : AHeap) => c_Turned_hit (Q := Q) hv (by omega) hg ht (to := z * 256 + u) (by intro e; have := hgN.2.1; rw [e] at this; cases this) (by have := hgN.2.1; omega) (by omega) hm (by omega)
          have trn := tail (sl_fz 3 ((F.set n ⟨g.n, turnB g.b (z * 256 + u), true⟩).map gr)) (by simp; omega) (fun g' hg' => by
            rcases List.mem_or_eq_of_mem_set hg' with hg' | rfl
            · exact hN g' hg'
            · exact hgN.turn hS ht hm)
          generalize F.set n ⟨g.n, turnB g.b (z * 256 + u), true⟩ = F' at *
          obtain ⟨ih, k6⟩ := trn
          try simp only [gr] at cc
          simp [h, e, m1, m2, wy, wz, wu, wm, wt, p_pleachlaw13_NetMade_0, cc, gr, k6, p_pleachlaw13_NetMade_7, w1, L_pleachlaw13_NetMade_8_fold]
          simpa [gr] using ih
        · have cc := fun (Q : AHeap) => c_Turned_miss (Q := Q) hv (by omega) (i := n) (to := z * 256 + u) (by
            by_cases c : n < F.length
            · by_cases ht : (F[n]'c).t = true
              · exact Or.inr (Or.inl ⟨F[n]'c, by simp [c], Or.inl ht⟩)
              · refine Or.inr (Or.inr (Or.inr ?_))
                exact Decidable.byContradiction fun hm => hhit ⟨F[n]'c, List.getElem?_eq_getElem c, by simpa using ht, hm⟩
            · exact Or.inl (by omega))
          obtain ⟨ih, k6⟩ := same
          try simp only [gr] at cc
          simp [h, e, m1, m2, wy, wz, wu, wm, wt, p_pleachlaw13_NetMade_0, cc, gr, k6, p_pleachlaw13_NetMade_7, w1, L_pleachlaw13_NetMade_8_fold]
          simpa [gr] using ih
theorem made_true {L : List (List Int)} (rL : Quad L) : callP (penv P1) 8 [.fz 4 (L.map quad)] Q = some (.bool true, Q) := by
  rw [f_pleachlaw13_NetMade rfl]
  have hb : ∀ Q, callP (penv P1) 28 [] Q = some (.bool true, Q) := fun Q => (callP_spec (E := penv P1) (f := 28) (g := gYes) rfl [] Q).trans (by simp [gYes])
  by_cases hA : 80 < L.length
  · have hA' : (80 : Int) < L.length := by omega
    simp [hb, hA']
  have hA' : ¬ (80 : Int) < L.length := by omega
  have l8 := loop_8 (Q := Q) rL (by omega) L.length 0 [] [] .nils (by omega) (sl_nil 3) (by simp) (by simp) (by simp) (by simp)
  simp only [show ((0 : Nat) : Int) = 0 from rfl, List.map_nil] at l8
  simp [hb, hA', L_pleachlaw13_NetMade_8_fold, l8, p_pleachlaw13_NetMade_9]
end
end Go.Proofs.Ytldehmfhgmmkhaa.Pn
