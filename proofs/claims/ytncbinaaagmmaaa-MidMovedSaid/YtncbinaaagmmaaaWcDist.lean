/- What a table of distances comes to. -/
import Derived.Test.YtncbinaaagmmaaaWcPick
import Derived.Test.YtncbinaaagmmaaaWpMid
set_option linter.unusedVariables false
set_option linter.unusedSimpArgs false
namespace Go.Proofs.Ytncbinaaagmmaaa.Bm
open Go.Ab
set_option maxRecDepth 100000

abbrev row8 (q : Nat) : AV := .sl q 0 8 (.ex 8)
/-- Rows of a table, each in its block. -/
structure Tab (lo : Nat) (H : AHeap) (rs : List Nat) (D : List (List Int)) : Prop where
  nodup : rs.Nodup
  len : rs.length = D.length
  in_ : ∀ q ∈ rs, lo ≤ q ∧ q < H.size
  get : ∀ (i : Nat) q row, rs[i]? = some q → D[i]? = some row → H.get q = some (.cells .exact 1 (row.map (AV.int .i64)))

theorem Tab.same {lo : Nat} {H H1 : AHeap} {rs : List Nat} {D : List (List Int)} (h : Tab lo H rs D) (hs : H.size ≤ H1.size) (hg : ∀ q ∈ rs, H1.get q = H.get q) : Tab lo H1 rs D :=
  ⟨h.nodup, h.len, fun q hq => ⟨(h.in_ q hq).1, Nat.lt_of_lt_of_le (h.in_ q hq).2 hs⟩, fun i q row h1 h2 => (hg q (List.mem_of_getElem? h1)).trans (h.get i q row h1 h2)⟩
theorem Tab.put {lo : Nat} {H : AHeap} {rs : List Nat} {D : List (List Int)} (h : Tab lo H rs D) {i q : Nat} {row : List Int} (hi : rs[i]? = some q) : Tab lo (H.put q (some (.cells .exact 1 (row.map (AV.int .i64))))) rs (D.set i row) := by
  refine ⟨h.nodup, by simp [h.len], fun p hp => by simpa using h.in_ p hp, fun j p row' h1 h2 => ?_⟩
  rw [List.getElem?_set] at h2
  by_cases e : i = j
  · subst e
    rw [hi] at h1
    obtain rfl := Option.some.inj h1
    simp only [if_true] at h2
    split at h2
    · obtain rfl := Option.some.inj h2
      simp
    · cases h2
  · rw [if_neg e] at h2
    have hne : p ≠ q := by
      intro e2
      subst e2
      have hl := (List.getElem?_eq_some_iff.1 hi).1
      exact e ((List.getElem?_inj hl h.nodup).1 (hi.trans h1.symm))
    rw [get_put_ne hne]
    exact h.get j p row' h1 h2

def upd (D : List (List Int)) (i k : Nat) (w : Int) : List (List Int) := (D.set i ((D.getD i []).set k w)).set k ((D.getD k []).set i w)
def at2 (D : List (List Int)) (a b : Nat) : Int := (D.getD a []).getD b 0
/-- Distances: from all to all, alike both ways, none to oneself. -/
structure Good (D : List (List Int)) : Prop where
  mat : Mat D
  sym : ∀ a b, a < 8 → b < 8 → at2 D a b = at2 D b a
  diag : ∀ a, a < 8 → at2 D a a = 0

theorem getD_set {α : Type} (l : List α) (i j : Nat) (x d : α) (hi : i < l.length) : (l.set i x).getD j d = if i = j then x else l.getD j d := by
  rw [List.getD_eq_getElem?_getD, List.getElem?_set]
  by_cases e : i = j
  · subst e; simp [hi]
  · rw [if_neg e, if_neg e, ← List.getD_eq_getElem?_getD]

theorem Mat.getRow {D : List (List Int)} (h : Mat D) {a : Nat} (ha : a < 8) : (D.getD a []).length = 8 ∧ ∀ x ∈ D.getD a [], 0 ≤ x ∧ x ≤ 1000 := by
  have hi : a < D.length := by rw [h.1]; omega
  rw [List.getD_eq_getElem?_getD, List.getElem?_eq_getElem hi]
  exact h.2 _ (List.getElem_mem hi)
theorem at2_upd {D : List (List Int)} (h : Mat D) {i k : Nat} (hi : i < 8) (hk : k < 8) (hne : i ≠ k) (w : Int) (a b : Nat) : at2 (upd D i k w) a b = if a = i ∧ b = k ∨ a = k ∧ b = i then w else at2 D a b := by
  have l1 := (Mat.getRow h hi).1
  have l2 := (Mat.getRow h hk).1
  unfold at2 upd
  rw [getD_set _ _ _ _ _ (by simp [h.1]; omega), getD_set _ _ _ _ _ (by rw [h.1]; omega)]
  by_cases e1 : k = a
  · subst e1
    rw [if_pos rfl, getD_set _ _ _ _ _ (by omega)]
    by_cases e2 : i = b
    · subst e2; simp
    · rw [if_neg e2]
      rw [if_neg (by omega)]
  · rw [if_neg e1]
    by_cases e3 : i = a
    · subst e3
      rw [if_pos rfl, getD_set _ _ _ _ _ (by omega)]
      by_cases e4 : k = b
      · subst e4; simp
      · rw [if_neg e4, if_neg (by omega)]
    · rw [if_neg e3, if_neg (by omega)]
theorem Good.upd {D : List (List Int)} (h : Good D) {i k : Nat} (hi : i < 8) (hk : k < 8) (hne : i ≠ k) {w : Int} (hw : 0 ≤ w ∧ w ≤ 1000) : Good (upd D i k w) := by
  have rowok : ∀ (row : List Int) (j : Nat), (row.length = 8 ∧ ∀ x ∈ row, 0 ≤ x ∧ x ≤ 1000) → ((row.set j w).length = 8 ∧ ∀ x ∈ row.set j w, 0 ≤ x ∧ x ≤ 1000) := fun row j hr =>
    ⟨by simpa using hr.1, fun x hx => by rcases List.mem_or_eq_of_mem_set hx with hx | rfl; exact hr.2 x hx; exact hw⟩
  refine ⟨⟨by simp [Bm.upd, h.mat.1], fun row hr => ?_⟩, fun a b ha hb => ?_, fun a ha => ?_⟩
  · unfold Bm.upd at hr
    rcases List.mem_or_eq_of_mem_set hr with hr | rfl
    · rcases List.mem_or_eq_of_mem_set hr with hr | rfl
      · exact h.mat.2 row hr
      · exact rowok _ _ (Mat.getRow h.mat hi)
    · exact rowok _ _ (Mat.getRow h.mat hk)
  · rw [at2_upd h.mat hi hk hne, at2_upd h.mat hi hk hne, h.sym a b ha hb]
    by_cases e : a = i ∧ b = k ∨ a = k ∧ b = i
    · rw [if_pos e, if_pos (by omega)]
    · rw [if_neg e, if_neg (by omega)]
  · rw [at2_upd h.mat hi hk hne, if_neg (by omega)]
    exact h.diag a ha

def zero8 : List (List Int) := List.replicate 8 (List.replicate 8 0)
theorem good_zero : Good zero8 := by
  have h : ∀ a, a < 8 → ∀ b, b < 8 → at2 zero8 a b = at2 zero8 b a := by decide
  exact ⟨⟨by decide, by decide⟩, fun a b ha hb => h a ha b hb, by decide⟩

/-- The table, its rows. -/
structure Dst (lo : Nat) (H : AHeap) (v : AV) (rs : List Nat) (D : List (List Int)) : Prop where
  own : OwnR 1 lo H v D.length (rs.map row8)
  tab : Tab lo H rs D
  sep : ∀ q ∈ rs, notOf v q

theorem Dst.same {lo : Nat} {H H1 : AHeap} {v : AV} {rs : List Nat} {D : List (List Int)} (h : Dst lo H v rs D) (hs : H.size ≤ H1.size) (hg : ∀ q, lo ≤ q → q < H.size → H1.get q = H.get q) : Dst lo H1 v rs D :=
  ⟨h.own.same hs hg, h.tab.same hs fun q hq => hg q (h.tab.in_ q hq).1 (h.tab.in_ q hq).2, h.sep⟩
theorem Dst.rd {lo : Nat} {H : AHeap} {v : AV} {rs : List Nat} {D : List (List Int)} (h : Dst lo H v rs D) (h8 : ∀ row ∈ D, row.length = 8) : rdD H v = some D := by
  have key : ∀ (rs : List Nat) (D : List (List Int)), rs.length = D.length → (∀ (i : Nat) q row, rs[i]? = some q → D[i]? = some row → rdI .i64 H (row8 q) = some row) → chunks 1 (decD H) D.length (rs.map row8) = some D := by
    intro rs
    induction rs with
    | nil => intro D hl _; obtain rfl := List.length_eq_zero_iff.1 hl.symm; rfl
    | cons q rs ih =>
      intro D hl hx
      match D, hl with
      | row :: D, hl =>
        have h0 := hx 0 q row rfl rfl
        have := ih D (by simpa using hl) (fun i q' row' h1 h2 => hx (i + 1) q' row' (by simpa using h1) (by simpa using h2))
        simp only [List.length_cons, List.map_cons, chunks, List.take_succ_cons, List.take_zero, decD, h0, List.drop_succ_cons, List.drop_zero, this]
  have hk := key rs D h.tab.len fun i q row h1 h2 => by
    have hg := h.tab.get i q row h1 h2
    have := rdI_mk (k := .i64) (l := row) (more := []) (c := .ex 8) (h.tab.in_ q (List.mem_of_getElem? h1)).2 (by rw [List.append_nil]; exact hg)
    rwa [h8 row (List.mem_of_getElem? h2)] at this
  rcases h.own with ⟨rfl, h1, _⟩ | ⟨r, rfl, _, hr, hg, hc⟩
  · obtain rfl := List.length_eq_zero_iff.1 h1
    rfl
  · have hrow : H.row r 0 (D.length * 1) = some (rs.map row8) := by
      simp only [row_eq, hg, objRow_cells, Nat.zero_add, List.drop_zero]
      rw [if_pos (by omega), List.take_of_length_le (by omega)]
    simp only [rdD, rdW, if_pos hr, hrow]
    exact hk

section
variable {s : Specs}

theorem loop_Dist0 {p : AV} {lo : Nat} : ∀ (k i : Nat) (v : AV) (rs : List Nat) (H : AHeap), i + k = 8 → lo ≤ H.size → Dst lo H v rs (List.replicate i (List.replicate 8 0)) →
    EndsE (L_pleachmade_Picks_Dist_0 s p v (.int .i64 i) H) fun ex τ H' => ex = .exit 0 ∧ ∃ v' rs', τ = X_pleachmade_Picks_Dist_0_x0 p v' ∧ Dst lo H' v' rs' zero8 ∧ Same (fun q => q < lo) H H' := by
  intro k
  induction k with
  | zero =>
    intro i v rs H hi hlo hd
    obtain rfl : i = 8 := by omega
    have key : L_pleachmade_Picks_Dist_0 s p v (.int .i64 (8 : Nat)) H = some (.exit 0, X_pleachmade_Picks_Dist_0_x0 p v, H) := by
      rw [L_pleachmade_Picks_Dist_0_eq, p_pleachmade_Picks_Dist_0]
      simp
    exact ⟨_, _, _, key, rfl, v, rs, rfl, hd, Same.refl _ _⟩
  | succ k ih =>
    intro i v rs H hi hlo hd
    have h : (i : Int) < 8 := by omega
    have h5 : IntKind.i64.wrap ((i : Int) + 1) = (i : Int) + 1 := wrap_i64 (by omega) (by omega)
    let H1 := H.push (some (.cells .exact 1 ((List.replicate 8 (0 : Int)).map (AV.int .i64))))
    have hH1 : H1 = H.push (some (.cells .exact 1 ((List.replicate 8 (0 : Int)).map (AV.int .i64)))) := rfl
    have hsz : H1.size = H.size + 1 := by rw [hH1]; simp
    have hd1 : Dst lo H1 v rs (List.replicate i (List.replicate 8 0)) := hd.same (by omega) fun q h1 h2 => by rw [hH1, AHeap.get_push, if_neg (by omega)]
    obtain ⟨v', H2, e, h2, h3, h4⟩ := app_oneR (bytes := 24) (row := [row8 H.size]) (by omega) hd1.own (by omega) rfl rfl (by simp only [maxBytes, List.length_replicate]; omega) (by simp only [maxBytes, List.length_replicate]; omega)
    have hn1 : notOf v H.size := hd.own.notOf (Or.inr (Nat.le_refl _))
    have hd2 : Dst lo H2 v' (rs ++ [H.size]) (List.replicate (i + 1) (List.replicate 8 0)) := by
      have hlen : rs.length = i := by have := hd.tab.len; simpa using this
      refine ⟨?_, ⟨?_, by simp [hlen], fun q hq => ?_, fun j q row hq hrow => ?_⟩, fun q hq => ?_⟩
      · rw [List.map_append]; simpa using h2
      · rw [List.nodup_append]
        exact ⟨hd.tab.nodup, by simp, fun a ha b hb => by simp at hb; subst hb; have := (hd.tab.in_ a ha).2; omega⟩
      · rcases List.mem_append.1 hq with hq | hq
        · have := hd1.tab.in_ q hq; have := h3.size; omega
        · simp at hq; subst hq; have := h3.size; omega
      · have hrow0 : row = List.replicate 8 0 := by
          have := List.mem_of_getElem? hrow
          exact (List.mem_replicate.1 this).2
        subst hrow0
        rcases Nat.lt_or_ge j rs.length with hj | hj
        · rw [List.getElem?_append_left hj] at hq
          have hm := List.mem_of_getElem? hq
          rw [h3.get q ⟨(hd1.tab.in_ q hm).2, hd1.sep q hm⟩]
          exact hd1.tab.get j q _ hq (by rw [List.getElem?_replicate, if_pos (by omega)])
        · rw [List.getElem?_append_right hj] at hq
          have : q = H.size := by
            rw [List.getElem?_singleton] at hq
            split at hq
            · exact (Option.some.inj hq).symm
            · cases hq
          subst this
          rw [h3.get _ ⟨by omega, hn1⟩, hH1, get_push_same]
      · rcases List.mem_append.1 hq with hq | hq
        · exact h4 q (hd1.tab.in_ q hq).2 (hd1.sep q hq)
        · simp at hq; subst hq; exact h4 _ (by omega) hn1
    have hs2 : Same (fun q => q < lo) H H2 := ((Same.refl _ _).push (fun r hr => by omega) _).trans (h3.weaken fun q hq => ⟨by have : q < lo := hq; omega, hd.own.notOf (Or.inl hq)⟩)
    have hrec := (ih (i + 1) v' _ H2 (by omega) (by have := h3.size; omega) hd2).mono fun ex τ H' h => by
      obtain ⟨h0, v2, rs2, a1, a2, a3⟩ := h
      exact (⟨h0, v2, rs2, a1, a2, hs2.trans a3⟩ : ex = .exit 0 ∧ ∃ v' rs', τ = X_pleachmade_Picks_Dist_0_x0 p v' ∧ Dst lo H' v' rs' zero8 ∧ Same (fun q => q < lo) H H')
    rw [L_pleachmade_Picks_Dist_0_eq, p_pleachmade_Picks_Dist_0]
    simp only [hH1, List.replicate, List.map_cons, List.map_nil, AHeap.size_push] at e
    simp [h, e, h5, L_pleachmade_Picks_Dist_0_fold, maxBytes]
    simpa using hrec

theorem table_val (x : Nat) (h : x < 9) : ∃ w : Int, ([.int .i64 1, .int .i64 2, .int .i64 3, .int .i64 5, .int .i64 9, .int .i64 9, .int .i64 20, .int .i64 1000, .int .i64 0] : List AV)[x]? = some (.int .i64 w) ∧ 0 ≤ w ∧ w ≤ 1000 := by
  have : x = 0 ∨ x = 1 ∨ x = 2 ∨ x = 3 ∨ x = 4 ∨ x = 5 ∨ x = 6 ∨ x = 7 ∨ x = 8 := by omega
  rcases this with rfl | rfl | rfl | rfl | rfl | rfl | rfl | rfl | rfl <;> exact ⟨_, rfl, by decide, by decide⟩

theorem Dst.elem {lo : Nat} {H : AHeap} {v : AV} {rs : List Nat} {D : List (List Int)} (h : Dst lo H v rs D) (h8 : D.length = 8) {i : Nat} (hi : i < 8) :
    ∃ q, rs[i]? = some q ∧ iadA 1 v (.int .i64 i) = some (elp 1 v i) ∧ ldA H (elp 1 v i) = some (row8 q) ∧ H.get q = some (.cells .exact 1 ((D.getD i []).map (AV.int .i64))) ∧ lo ≤ q ∧ q < H.size := by
  have hl := h.tab.len
  have hq : rs[i]? = some rs[i] := List.getElem?_eq_getElem (by omega)
  have hrow : D[i]? = some (D.getD i []) := by rw [List.getD_eq_getElem?_getD, List.getElem?_eq_getElem (by omega)]; rfl
  refine ⟨rs[i], hq, ?_, ?_, h.tab.get i _ _ hq hrow, (h.tab.in_ _ (List.getElem_mem _)).1, (h.tab.in_ _ (List.getElem_mem _)).2⟩
  · rcases h.own with ⟨rfl, h1, _⟩ | ⟨r, rfl, _⟩
    · omega
    · simp only [iadA, elp]; rw [if_pos ⟨by omega, by omega⟩]
  · rcases h.own with ⟨rfl, h1, _⟩ | ⟨r, rfl, _, _, hg, _⟩
    · omega
    · simp only [elp, ldA, cell_eq, hg, objCell_cells, Nat.zero_add, Nat.mul_one, Int.toNat_natCast, List.getElem?_map, hq, Option.map_some]

/-- What the numbers still make of the table. -/
theorem iter_Dist {p lo : Nat} {L : List Int} (hn : s.lookup 50 = none) (hp0 : p < lo) {v : AV} {rs : List Nat} {D : List (List Int)} {H : AHeap} {n i k : Nat} (hlo : lo ≤ H.size) (hd : Dst lo H v rs D) (hg : Good D) (hp : Pk H p L n) (hi : i < 8) (hk : k < i) :
    ∃ H' D' n', L_pleachmade_Picks_Dist_1 s (.ptr p 0) v (.int .i64 i) (.int .i64 k) H = L_pleachmade_Picks_Dist_1 s (.ptr p 0) v (.int .i64 i) (.int .i64 (k + 1 : Nat)) H' ∧ Dst lo H' v rs D' ∧ Good D' ∧ Pk H' p L n' ∧ lo ≤ H'.size ∧ Same (fun q => q < lo ∧ q ≠ p) H H' := by
  let T : List AV := [.int .i64 1, .int .i64 2, .int .i64 3, .int .i64 5, .int .i64 9, .int .i64 9, .int .i64 20, .int .i64 1000, .int .i64 0]
  let H1 := H.push (some (.cells .exact 1 T))
  have hs1 : Same (fun q => q < H.size) H H1 := (Same.refl _ _).push (fun r hr => hr) _
  have hz1 : H1.size = H.size + 1 := by simp [H1]
  have hp1 : Pk H1 p L n := hp.same hs1 fun q hq => by omega
  obtain ⟨H2, eN, hp2, hs2⟩ := call_Num hn hp1 (m := 9) (by omega)
  have hnum := num_range (L := L) (n := n) (m := 9) (by omega) (by obtain ⟨_, _, _, _, _, _, h, _⟩ := hp; exact h)
  obtain ⟨x, hx⟩ := Int.eq_ofNat_of_zero_le hnum.1
  obtain ⟨w, hw, hw2⟩ := table_val x (by omega)
  have hT : H2.get H.size = some (.cells .exact 1 T) := by
    rw [hs2.get _ (by omega)]; simp [H1]
  have hd2 : Dst lo H2 v rs D := hd.same (by have := hs2.size; omega) fun q h1 h2 => by rw [hs2.get q (by omega), hs1.get q h2]
  obtain ⟨qi, ri, ai, li, gi, loi, szi⟩ := hd2.elem hg.mat.1 hi
  obtain ⟨qk, rk, ak, lk, gk, lok, szk⟩ := hd2.elem hg.mat.1 (show k < 8 by omega)
  have hqq : qi ≠ qk := by
    intro e
    subst e
    have hl := (List.getElem?_eq_some_iff.1 ri).1
    have := (List.getElem?_inj hl hd2.tab.nodup).1 (ri.trans rk.symm)
    omega
  have st1 := st_ints (r := qi) (i := k) w gi (by decide) (by rw [(Mat.getRow hg.mat hi).1]; omega)
  let H3 := H2.put qi (some (.cells .exact 1 (((D.getD i []).set k w).map (AV.int .i64))))
  have gk3 : H3.get qk = some (.cells .exact 1 ((D.getD k []).map (AV.int .i64))) := by
    simp only [H3]; rw [get_put_ne hqq.symm]; exact gk
  have st2 := st_ints (H := H3) (r := qk) (i := i) w gk3 (by decide) (by rw [(Mat.getRow hg.mat (show k < 8 by omega)).1]; omega)
  let H4 := H3.put qk (some (.cells .exact 1 (((D.getD k []).set i w).map (AV.int .i64))))
  have hd4 : Dst lo H4 v rs (upd D i k w) := by
    have t3 : Tab lo H3 rs (D.set i ((D.getD i []).set k w)) := hd2.tab.put ri
    have t4 : Tab lo H4 rs (upd D i k w) := t3.put rk
    refine ⟨?_, t4, hd2.sep⟩
    have ho := hd2.own
    have hlen : (upd D i k w).length = D.length := by simp [upd]
    rw [hlen]
    rcases ho with ho | ⟨r, e1, e2, e3, e4, e5⟩
    · exact Or.inl ho
    · have n1 : r ≠ qi := fun e => hd2.sep qi (List.mem_of_getElem? ri) _ _ _ (e ▸ e1)
      have n2 : r ≠ qk := fun e => hd2.sep qk (List.mem_of_getElem? rk) _ _ _ (e ▸ e1)
      exact Or.inr ⟨r, e1, e2, by simpa [H4, H3] using e3, by simp only [H4, H3]; rw [get_put_ne n2, get_put_ne n1]; exact e4, e5⟩
  have hs4 : Same (fun q => q < lo ∧ q ≠ p) H H4 :=
    ((hs1.weaken fun q hq => by omega).trans (hs2.weaken fun q hq => hq.2)).trans (((Same.refl _ _).put (by omega) _).put (by omega) _)
  have hp4 : Pk H4 p L (nxt L n) := hp2.same (Q := fun q => q < lo) (((Same.refl _ _).put (by omega) _).put (by omega) _) fun q hq => by omega
  refine ⟨H4, upd D i k w, nxt L n, ?_, hd4, hg.upd hi (by omega) (by omega) hw2, hp4, by have := hs4.size; omega, hs4⟩
  rw [L_pleachmade_Picks_Dist_1_eq, p_pleachmade_Picks_Dist_1]
  have h : (k : Int) < i := by omega
  have h5 : IntKind.i64.wrap ((k : Int) + 1) = (k : Int) + 1 := wrap_i64 (by omega) (by omega)
  have hx9 : (x : Int) < 9 := by omega
  have eN' : callV (env s) 50 [.ptr p 0, .int .i64 9] (H.push (some (.cells .exact 1 [.int .i64 1, .int .i64 2, .int .i64 3, .int .i64 5, .int .i64 9, .int .i64 9, .int .i64 20, .int .i64 1000, .int .i64 0]))) = some (.int .i64 x, H2) := by rw [← hx]; exact eN
  have hk8 : (k : Int) < 8 := by omega
  have hi8 : (i : Int) < 8 := by omega
  have st2' : stA (H2.put qi (some (.cells .exact 1 (((D.getD i []).set k w).map (AV.int .i64))))) 1 (.ptr qk i) (.int .i64 w) = some (undefA, H4) := st2
  simp [-stA_ptr, -List.getD_eq_getElem?_getD, -List.map_set, h, h5, eN', hx9, hT, T, hw, ai, ak, li, lk, hk8, hi8, st1, st2', L_pleachmade_Picks_Dist_1_fold]

theorem loop_Dist1 {p lo : Nat} {L : List Int} (hn : s.lookup 50 = none) (hp0 : p < lo) {v : AV} {rs : List Nat} {i : Nat} (hi : i < 8) : ∀ (m k : Nat) (D : List (List Int)) (H : AHeap) (n : Nat), k + m = i → lo ≤ H.size → Dst lo H v rs D → Good D → Pk H p L n →
    EndsE (L_pleachmade_Picks_Dist_1 s (.ptr p 0) v (.int .i64 i) (.int .i64 k) H) fun ex τ H' => ex = .exit 4 ∧ τ = X_pleachmade_Picks_Dist_1_x4 (.ptr p 0) v (.int .i64 i) ∧ ∃ D' n', Dst lo H' v rs D' ∧ Good D' ∧ Pk H' p L n' ∧ lo ≤ H'.size ∧ Same (fun q => q < lo ∧ q ≠ p) H H' := by
  intro m
  induction m with
  | zero =>
    intro k D H n hk hlo hd hg hp
    obtain rfl : k = i := by omega
    have key : L_pleachmade_Picks_Dist_1 s (.ptr p 0) v (.int .i64 k) (.int .i64 k) H = some (.exit 4, X_pleachmade_Picks_Dist_1_x4 (.ptr p 0) v (.int .i64 k), H) := by
      rw [L_pleachmade_Picks_Dist_1_eq, p_pleachmade_Picks_Dist_1]
      simp
    exact ⟨_, _, _, key, rfl, rfl, D, n, hd, hg, hp, hlo, Same.refl _ _⟩
  | succ m ih =>
    intro k D H n hk hlo hd hg hp
    obtain ⟨H', D', n', e, a1, a2, a3, a4, a5⟩ := iter_Dist hn hp0 hlo hd hg hp hi (show k < i by omega)
    rw [e]
    refine (ih (k + 1) D' H' n' (by omega) a4 a1 a2 a3).mono fun ex τ H2 h => ?_
    obtain ⟨h0, h1, D2, n2, b1, b2, b3, b4, b5⟩ := h
    exact ⟨h0, h1, D2, n2, b1, b2, b3, b4, a5.trans b5⟩

theorem loop_Dist3 {p lo : Nat} {L : List Int} (hn : s.lookup 50 = none) (hp0 : p < lo) {v : AV} {rs : List Nat} : ∀ (m i : Nat) (D : List (List Int)) (H : AHeap) (n : Nat), i + m = 8 → lo ≤ H.size → Dst lo H v rs D → Good D → Pk H p L n →
    EndsE (L_pleachmade_Picks_Dist_3 s (.ptr p 0) v (.int .i64 i) H) fun ex τ H' => ex = .exit 2 ∧ τ = X_pleachmade_Picks_Dist_3_x2 v ∧ ∃ D' n', Dst lo H' v rs D' ∧ Good D' ∧ Pk H' p L n' ∧ lo ≤ H'.size ∧ Same (fun q => q < lo ∧ q ≠ p) H H' := by
  intro m
  induction m with
  | zero =>
    intro i D H n hi hlo hd hg hp
    obtain rfl : i = 8 := by omega
    have key : L_pleachmade_Picks_Dist_3 s (.ptr p 0) v (.int .i64 (8 : Nat)) H = some (.exit 2, X_pleachmade_Picks_Dist_3_x2 v, H) := by
      rw [L_pleachmade_Picks_Dist_3_eq, p_pleachmade_Picks_Dist_3]
      simp
    exact ⟨_, _, _, key, rfl, rfl, D, n, hd, hg, hp, hlo, Same.refl _ _⟩
  | succ m ih =>
    intro i D H n hi hlo hd hg hp
    rw [L_pleachmade_Picks_Dist_3_eq, p_pleachmade_Picks_Dist_3]
    have h : (i : Int) < 8 := by omega
    have h5 : IntKind.i64.wrap ((i : Int) + 1) = (i : Int) + 1 := wrap_i64 (by omega) (by omega)
    simp only [bin_lss, bnP_some, cndS_bool, h, decide_true, if_true, L_pleachmade_Picks_Dist_1_fold]
    refine EndsE.bnE ((loop_Dist1 hn hp0 (by omega) i 0 D H n (by omega) hlo hd hg hp).mono fun ex τ H1 h1 => ?_)
    obtain ⟨rfl, rfl, D1, n1, a1, a2, a3, a4, a5⟩ := h1
    simp [p_pleachmade_Picks_Dist_2, h5, L_pleachmade_Picks_Dist_3_fold]
    refine (ih (i + 1) D1 H1 n1 (by omega) a4 a1 a2 a3).mono fun ex τ H2 h => ?_
    obtain ⟨h0, h1, D2, n2, b1, b2, b3, b4, b5⟩ := h
    exact ⟨h0, h1, D2, b1, b2, ⟨n2, b3⟩, b4, by simpa using a5.trans b5⟩

theorem call_Dist (hn : s.lookup 50 = none) (hn2 : s.lookup 30 = none) {H : AHeap} {r n : Nat} {L : List Int} (hp : Pk H r L n) :
    EndsV (callV (env s) 30 [.ptr r 0] H) fun v H' => ∃ D n', rdD H' v = some D ∧ Good D ∧ Pk H' r L n' ∧ Same (fun q => q < H.size ∧ q ≠ r) H H' := by
  have hr : r < H.size := by obtain ⟨_, _, _, h, _⟩ := hp; exact h
  rw [f_pleachmade_Picks_Dist hn2, p_pleachmade_Picks_Dist]
  simp only [L_pleachmade_Picks_Dist_0_fold]
  have hd0 : Dst H.size H .nils [] (List.replicate 0 (List.replicate 8 0)) := ⟨OwnR.nils _ _ _, ⟨List.nodup_nil, rfl, fun q hq => by simp at hq, fun i q row h => by simp at h⟩, fun q hq => by simp at hq⟩
  refine EndsV.bnE ((loop_Dist0 (p := .ptr r 0) 8 0 .nils [] H rfl (Nat.le_refl _) hd0).mono fun ex τ H1 h => ?_)
  obtain ⟨rfl, v, rs, rfl, hd, hs1⟩ := h
  have hp1 : Pk H1 r L n := hp.same hs1 fun q hq => by omega
  simp [p_pleachmade_Picks_Dist_5, L_pleachmade_Picks_Dist_3_fold]
  refine EndsV.bnE ((loop_Dist3 hn hr 8 0 zero8 H1 n rfl hs1.size hd good_zero hp1).mono fun ex τ H2 h => ?_)
  obtain ⟨rfl, rfl, D, n', a1, a2, a3, a4, a5⟩ := h
  simp [p_pleachmade_Picks_Dist_4]
  exact ⟨D, a1.rd fun row hr => (a2.mat.2 row hr).1, a2, ⟨n', a3⟩, (hs1.weaken fun q hq => hq.1).trans a5⟩
end
end Go.Proofs.Ytncbinaaagmmaaa.Bm
