/- TreeMoved: the plain law. -/
import Derived.Test.YtldehmfhgmmkhaaPdTreeMoved
set_option linter.unusedVariables false
set_option linter.unusedSimpArgs false
set_option linter.unusedSectionVars false
namespace Go.Proofs.Ytldehmfhgmmkhaa.Pt
open Go.Ab
set_option maxRecDepth 100000

structure Tr (u : List Int) (N : Nat) : Prop where
  len : u.length = N
  root : nx u 1 = 0
  dn : ∀ i : Int, 2 ≤ i → i ≤ N → 1 ≤ nx u i ∧ nx u i < i
/-- One comes to a in so many steps. -/
inductive To (u : List Int) (N : Nat) (a : Int) : Nat → Int → Prop
  | here : To u N a 0 a
  | step {n : Nat} {i : Int} : i ≠ a → 2 ≤ i → i ≤ N → To u N a n (nx u i) → To u N a (n + 1) i
/-- One comes to the root in so many steps, and not over a. -/
inductive Off (u : List Int) (N : Nat) (a : Int) : Nat → Int → Prop
  | root : 1 ≠ a → Off u N a 0 1
  | step {n : Nat} {i : Int} : i ≠ a → 2 ≤ i → i ≤ N → Off u N a n (nx u i) → Off u N a (n + 1) i

section
variable {u : List Int} {N : Nat} {a : Int} (t : Tr u N)
include t
theorem either (ha : 2 ≤ a) : ∀ (k : Nat) (i : Int), i ≤ k → 1 ≤ i → i ≤ N → (∃ n, To u N a n i) ∨ ∃ n, Off u N a n i := by
  intro k
  induction k with
  | zero => intro i h h1 _; omega
  | succ k ih =>
    intro i h h1 h2
    by_cases e : i = a
    · exact Or.inl ⟨0, e ▸ To.here⟩
    · by_cases e1 : i = 1
      · subst e1; exact Or.inr ⟨0, Off.root e⟩
      · have := t.dn i (by omega) h2
        rcases ih (nx u i) (by omega) this.1 (by omega) with ⟨n, h⟩ | ⟨n, h⟩
        · exact Or.inl ⟨_, To.step e (by omega) h2 h⟩
        · exact Or.inr ⟨_, Off.step e (by omega) h2 h⟩
theorem To.bd (ha : 2 ≤ a) {n : Nat} {i : Int} (h : To u N a n i) : (n : Int) + 2 ≤ i := by
  induction h with
  | here => omega
  | step h1 h2 h3 _ ih => have := t.dn _ h2 h3; omega
theorem Off.bd {n : Nat} {i : Int} (h : Off u N a n i) : (n : Int) + 1 ≤ i := by
  induction h with
  | root => omega
  | step h1 h2 h3 _ ih => have := t.dn _ h2 h3; omega
omit t in
theorem Off.ne {n : Nat} {i : Int} (h : Off u N a n i) : i ≠ a := by cases h <;> assumption
theorem no_both (ha : 2 ≤ a) {n m : Nat} {i : Int} (h : To u N a n i) : Off u N a m i → False := by
  intro h2
  induction h generalizing m with
  | here => exact h2.ne rfl
  | step h1 h2' h3 _ ih =>
    cases h2 with
    | root => omega
    | step _ _ _ h => exact ih h
theorem both (ha : 2 ≤ a) : ∀ (k : Nat) (n m : Nat) (i b : Int), i ≤ k → b ≤ k → To u N a n i → Off u N a m b → (n : Int) + m + 2 ≤ k := by
  intro k
  induction k with
  | zero => intro n m i b h1 h2 h3 h4; have := Off.bd t h4; omega
  | succ k ih =>
    intro n m i b h1 h2 h3 h4
    have hb := Off.bd t h4
    have hi := To.bd t ha h3
    have hne : i ≠ b := fun e => by subst e; exact no_both t ha h3 h4
    by_cases hlt : b < i
    · cases h3 with
      | here => omega
      | step c1 c2 c3 h =>
        have := t.dn _ c2 c3
        have := ih _ m _ b (by omega) (by omega) h h4
        omega
    · cases h4 with
      | root => omega
      | step c1 c2 c3 h =>
        have := t.dn _ c2 c3
        have := ih n _ i _ (by omega) (by omega) h3 h
        omega

theorem walk_true : ∀ (m : Nat) (i : Int), walkR u a m true i = true := by
  intro m
  induction m with
  | zero => intro i; rfl
  | succ m ih => intro i; unfold walkR; split <;> simp [ih]
theorem walk_To (ha : 2 ≤ a) {n : Nat} {i : Int} (h : To u N a n i) : ∀ m, n < m → walkR u a m false i = true := by
  induction h with
  | here => intro m hm; cases m with
    | zero => omega
    | succ m => unfold walkR; rw [if_neg (by omega)]; simp [walk_true t]
  | step h1 h2 h3 _ ih => intro m hm; cases m with
    | zero => omega
    | succ m => unfold walkR; rw [if_neg (by omega)]; simpa [h1] using ih m (by omega)
theorem walk_Off {n : Nat} {i : Int} (h : Off u N a n i) : ∀ m, walkR u a m false i = false := by
  induction h with
  | root h => intro m; cases m with
    | zero => rfl
    | succ m =>
      unfold walkR; rw [if_neg (by omega), t.root]
      cases m <;> simp [walkR, h]
  | step h1 h2 h3 _ ih => intro m; cases m with
    | zero => rfl
    | succ m => unfold walkR; rw [if_neg (by omega)]; simpa [h1] using ih m

section
variable {x : List Int} {on : List Bool} (hx : ∀ i, i ≠ a → nx x i = nx u i) (hl : x.length = N) (ho : on = List.replicate N true)
include hx hl ho
omit t hx hl in
theorem on_get {i : Int} (h1 : 1 ≤ i) (h2 : i ≤ N) : on.getD (i - 1).toNat false = true := by
  subst ho
  rw [List.getD_eq_getElem?_getD, List.getElem?_replicate, if_pos (by omega)]; rfl
omit t hx in
theorem root_step {m : Nat} {i : Int} (h1 : 2 ≤ i) (h2 : i ≤ N) : rootR x on (m + 1) i = rootR x on m (nx x i) := by
  have hlo : on.length = N := by rw [ho]; simp
  conv => lhs; unfold rootR
  rw [if_neg (by omega), if_neg (by omega), on_get ho (by omega) h2, if_neg (by simp), if_neg (by omega)]
omit t hx in
theorem root_one {m : Nat} (h2 : 1 ≤ N) : rootR x on (m + 1) 1 = true := by
  have hlo : on.length = N := by rw [ho]; simp
  have := on_get ho (i := 1) (by omega) (by omega)
  unfold rootR
  rw [if_neg (by omega), if_neg (by omega), this, if_neg (by simp), if_pos rfl]
theorem root_Off (h1 : 1 ≤ N) {n : Nat} {i : Int} (h : Off u N a n i) : ∀ m, n < m → rootR x on m i = true := by
  induction h with
  | root h => intro m hm; cases m with
    | zero => omega
    | succ m => exact root_one hl ho h1
  | step c1 c2 c3 _ ih => intro m hm; cases m with
    | zero => omega
    | succ m => rw [root_step hl ho c2 c3, hx _ c1]; exact ih m (by omega)
theorem deep_Off {n : Nat} {i : Int} (h0 : 1 ≤ N) (h : Off u N a n i) : ∀ m (k : Int), n < m → deepR x m i k = k + n := by
  induction h with
  | root h => intro m k hm; cases m with
    | zero => omega
    | succ m => unfold deepR; rw [if_pos ⟨rfl, by omega⟩]; simp
  | step c1 c2 c3 _ ih => intro m k hm; cases m with
    | zero => omega
    | succ m => unfold deepR; rw [if_neg (by omega), hx _ c1, ih m (k + 1) (by omega)]; omega
theorem root_To (h1 : 1 ≤ N) (ha : 2 ≤ a) (haN : a ≤ N) {n p : Nat} {i b : Int} (hb : nx x a = b) (h : To u N a n i) (h2 : Off u N a p b) : ∀ m, n + p + 1 < m → rootR x on m i = true := by
  induction h with
  | here => intro m hm; cases m with
    | zero => omega
    | succ m => rw [root_step hl ho ha haN, hb]; exact root_Off t hx hl ho h1 h2 m (by omega)
  | step c1 c2 c3 _ ih => intro m hm; cases m with
    | zero => omega
    | succ m => rw [root_step hl ho c2 c3, hx _ c1]; exact ih m (by omega)
theorem root_round (ha : 2 ≤ a) (haN : a ≤ N) {p : Nat} {b : Int} (hb : nx x a = b) (h2 : To u N a p b) : ∀ (m n : Nat) (i : Int), To u N a n i → rootR x on m i = false := by
  intro m
  induction m with
  | zero => intro n i h; rfl
  | succ m ih =>
    intro n i h
    cases h with
    | here => rw [root_step hl ho ha haN, hb]; exact ih _ _ h2
    | step c1 c2 c3 h => rw [root_step hl ho c2 c3, hx _ c1]; exact ih _ _ h
end
end

theorem idxR_not {l : List Int} {x : Int} (h : x ∉ l) : ∀ (m n : Nat), n + m = l.length → idxR l x m n = -1 := by
  intro m
  induction m with
  | zero => intro n _; rfl
  | succ m ih =>
    intro n hn
    unfold idxR
    have : x ≠ l.getD n 0 := fun e => h (by
      rw [e, List.getD_eq_getElem?_getD, List.getElem?_eq_getElem (by omega)]; exact List.getElem_mem _)
    rw [if_neg this]
    exact ih (n + 1) (by omega)
theorem idxR_mem {l : List Int} {x : Int} {k : Nat} (hk : l.getD k 0 = x) : ∀ (m n : Nat), n ≤ k → k < n + m → 0 ≤ idxR l x m n := by
  intro m
  induction m with
  | zero => intro n h1 h2; omega
  | succ m ih =>
    intro n h1 h2
    unfold idxR
    by_cases e : x = l.getD n 0
    · rw [if_pos e]; omega
    · rw [if_neg e]
      have : n ≠ k := fun c => e (by rw [c, hk])
      exact ih (n + 1) (by omega) (by omega)
section
variable {u : List Int} {N : Nat} {a : Int} (t : Tr u N) {x : List Int} (hx : ∀ i, i ≠ a → nx x i = nx u i) (hl : x.length = N)
include t hx hl
theorem loop_Off (h1 : 1 ≤ N) {n : Nat} {i : Int} (h : Off u N a n i) : ∀ (m : Nat) (met : List Int), n + 2 ≤ m → (∀ z ∈ met, z = a ∨ z > i) → loopR x m met i = some [] := by
  induction h with
  | root h =>
    intro m met hm hz
    obtain ⟨m, rfl⟩ : ∃ k, m = k + 2 := ⟨m - 2, by omega⟩
    have : (1 : Int) ∉ met := fun c => by rcases hz _ c with e | e <;> omega
    unfold loopR
    rw [if_pos ⟨by omega, by omega⟩, idxR_not this _ 0 (by omega), if_neg (by omega), hx _ h, t.root]
    unfold loopR
    rw [if_neg (by omega)]
  | @step n i c1 c2 c3 _ ih =>
    intro m met hm hz
    obtain ⟨m, rfl⟩ : ∃ k, m = k + 1 := ⟨m - 1, by omega⟩
    have hd := t.dn _ c2 c3
    have : i ∉ met := fun c => by rcases hz _ c with e | e <;> omega
    unfold loopR
    rw [if_pos ⟨by omega, by omega⟩, idxR_not this _ 0 (by omega), if_neg (by omega), hx _ c1]
    exact ih m _ (by omega) (fun z hz2 => by
      rcases List.mem_append.1 hz2 with hz2 | hz2
      · rcases hz z hz2 with e | e
        · exact Or.inl e
        · exact Or.inr (by omega)
      · right; simp at hz2; omega)
theorem loop_To (ha : 2 ≤ a) (haN : a ≤ N) {n : Nat} {i : Int} (h : To u N a n i) : ∀ (m : Nat) (met : List Int), n + 1 ≤ m → met.getD 0 0 = a → 0 < met.length → (∀ z ∈ met, z = a ∨ z > i) → ∃ r, loopR x m met i = some r ∧ 0 < r.length := by
  induction h with
  | here =>
    intro m met hm hg h0 hz
    obtain ⟨m, rfl⟩ : ∃ k, m = k + 1 := ⟨m - 1, by omega⟩
    have h1 := idxR_mem hg met.length 0 (by omega) (by omega)
    have h2 := idxR_le met a met.length 0 (by omega)
    refine ⟨met.drop (idxR met a met.length 0).toNat, ?_, by simp; omega⟩
    unfold loopR
    rw [if_pos ⟨by omega, by omega⟩, if_pos h1]
  | @step n i c1 c2 c3 _ ih =>
    intro m met hm hg h0 hz
    obtain ⟨m, rfl⟩ : ∃ k, m = k + 1 := ⟨m - 1, by omega⟩
    have hd := t.dn _ c2 c3
    have : i ∉ met := fun c => by rcases hz _ c with e | e <;> omega
    unfold loopR
    rw [if_pos ⟨by omega, by omega⟩, idxR_not this _ 0 (by omega), if_neg (by omega), hx _ c1]
    refine ih m _ (by omega) ?_ (by simp) (fun z hz2 => by
      rcases List.mem_append.1 hz2 with hz2 | hz2
      · rcases hz z hz2 with e | e
        · exact Or.inl e
        · exact Or.inr (by omega)
      · right; simp at hz2; omega)
    rw [List.getD_eq_getElem?_getD] at hg ⊢
    rw [List.getElem?_append_left h0]; exact hg
end
theorem allR_true {x : List Int} {on : List Bool} : ∀ (m n : Nat), (∀ k : Nat, n ≤ k → k < n + m → rootR x on x.length ((k : Int) + 1) = true) → allR x on m n = true := by
  intro m
  induction m with
  | zero => intro n _; rfl
  | succ m ih =>
    intro n h
    unfold allR
    rw [if_neg (by rw [h n (by omega) (by omega)]; simp)]
    exact ih (n + 1) fun k h1 h2 => h k (by omega) (by omega)
theorem allR_false {x : List Int} {on : List Bool} {k : Nat} (h1 : on.getD k false = true) (h2 : rootR x on x.length ((k : Int) + 1) = false) : ∀ (m n : Nat), n ≤ k → k < n + m → allR x on m n = false := by
  intro m
  induction m with
  | zero => intro n _ _; omega
  | succ m ih =>
    intro n h3 h4
    unfold allR
    by_cases e : n = k
    · subst e; rw [if_pos ⟨h1, h2⟩]
    · split
      · rfl
      · exact ih (n + 1) (by omega) (by omega)
theorem rooted_eq {x : List Int} {on : List Bool} {N : Nat} (hl : x.length = N) (ho : on = List.replicate N true) (h1 : 1 ≤ N) (h0 : x.getD 0 0 = 0) : RootedR x on = allR x on N 0 := by
  have hlo : on.length = N := by rw [ho]; simp
  have := on_get ho (i := 1) (by omega) (by omega)
  simp only [show ((1 : Int) - 1).toNat = 0 from rfl] at this
  unfold RootedR
  rw [if_neg (by omega), if_neg (by omega), this, if_neg (by simp), if_neg (by simpa using h0), hlo]
theorem deep_zero (x : List Int) : ∀ (m : Nat) (n : Int), deepR x m 0 n = -1 := by
  intro m
  induction m with
  | zero => intro n; rfl
  | succ m ih =>
    intro n
    unfold deepR
    rw [if_neg (by omega), show nx x 0 = 0 from by unfold nx; rw [if_pos (by omega)]]
    exact ih _

theorem upT_get {A : List Int} {n k : Nat} (hk : k < n) : (upT A n).getD (k + 1) 0 = 1 + (A.getD k 0).tmod ((k : Int) + 1) := by
  rw [List.getD_eq_getElem?_getD]
  simp [upT, List.getElem?_map, List.getElem?_range hk]
theorem upT_tr {A : List Int} (rA : ∀ n ∈ A, 0 ≤ n ∧ n ≤ 255) : Tr (upT A A.length) (A.length + 1) := by
  refine ⟨upT_len _ _, ?_, fun i h1 h2 => ?_⟩
  · unfold nx
    rw [upT_len, if_neg (by omega)]; rfl
  · obtain ⟨k, rfl⟩ : ∃ k : Nat, i = (k : Int) + 2 := ⟨(i - 2).toNat, by omega⟩
    have hin : A.getD k 0 ∈ A := by
      rw [List.getD_eq_getElem?_getD, List.getElem?_eq_getElem (by omega)]; exact List.getElem_mem _
    have hr := rem_bd (rA _ hin).1 (y := (k : Int) + 1) (by omega)
    unfold nx
    rw [upT_len, if_neg (by omega), show ((k : Int) + 2 - 1).toNat = k + 1 by omega, upT_get (by omega)]
    omega
theorem nx_set {u : List Int} {j : Nat} {b : Int} (hj : j < u.length) : (∀ i, i ≠ (j : Int) + 1 → nx (u.set j b) i = nx u i) ∧ nx (u.set j b) ((j : Int) + 1) = b := by
  refine ⟨fun i hi => ?_, ?_⟩
  · unfold nx
    rw [List.length_set]
    split
    · rfl
    · rw [List.getD_eq_getElem?_getD, List.getD_eq_getElem?_getD, List.getElem?_set_ne (by omega)]
  · unfold nx
    rw [List.length_set, if_neg (by omega), show ((j : Int) + 1 - 1).toNat = j by omega, List.getD_eq_getElem?_getD, List.getElem?_set_self hj]; rfl
theorem plain : Plain := by
  intro A hA rA
  have t := upT_tr rA
  generalize hu : upT A A.length = u at *
  generalize hN : A.length + 1 = N at *
  have ho : onT A.length = List.replicate N true := by rw [onT, hN]
  generalize onT A.length = on at *
  have u0 : u.getD 0 0 = 0 := by rw [← hu]; rfl
  have hlu := t.len
  refine ⟨?_, fun j b h1 h2 h3 h4 => ?_⟩
  · rw [rooted_eq hlu ho (by omega) u0]
    refine allR_true _ _ fun k _ hk => ?_
    rcases either t (a := (N : Int) + 1) (by omega) N ((k : Int) + 1) (by omega) (by omega) (by omega) with ⟨n, h⟩ | ⟨n, h⟩
    · exfalso
      have : ∀ (n : Nat) (i : Int), To u N ((N : Int) + 1) n i → i ≤ N → False := by
        intro n i h
        induction h with
        | here => omega
        | step c1 c2 c3 _ ih => intro _; have := t.dn _ c2 c3; exact ih (by omega)
      exact this n _ h (by omega)
    · have hb := Off.bd t h
      exact root_Off t (x := u) (fun _ _ => rfl) hlu ho (by omega) h _ (by omega)
  · have ha : 2 ≤ (j : Int) + 1 := by omega
    have haN : (j : Int) + 1 ≤ N := by omega
    obtain ⟨hx, hb⟩ := nx_set (u := u) (j := j) (b := b) (by omega)
    obtain ⟨hy, hb0⟩ := nx_set (u := u) (j := j) (b := 0) (by omega)
    have lx : (u.set j b).length = N := by rw [List.length_set, hlu]
    have ly : (u.set j 0).length = N := by rw [List.length_set, hlu]
    have g0 : ∀ b : Int, (u.set j b).getD 0 0 = 0 := fun b => by
      rw [List.getD_eq_getElem?_getD, List.getElem?_set_ne (by omega), ← List.getD_eq_getElem?_getD]; exact u0
    have onj : on.getD j false = true := by
      have := on_get ho (i := (j : Int) + 1) (by omega) (by omega)
      rwa [show ((j : Int) + 1 - 1).toNat = j by omega] at this
    have y1 : ∀ m, rootR (u.set j 0) on (m + 1) ((j : Int) + 1) = false := fun m => by
      rw [root_step ly ho ha haN, hb0]
      cases m <;> simp [rootR]
    have r4 : RootedR (u.set j 0) on = false := by
      rw [rooted_eq ly ho (by omega) (g0 0)]
      refine allR_false (k := j) onj ?_ _ 0 (by omega) (by omega)
      rw [ly, ← hN]; exact y1 _
    have r5 : deepR (u.set j 0) (u.length + 1) ((j : Int) + 1) 0 = -1 := by
      unfold deepR
      rw [if_neg (by omega), hb0]; exact deep_zero _ _ _
    rcases either t ha N b (by omega) h3 (by omega) with ⟨p, h⟩ | ⟨p, h⟩
    · have hp := To.bd t ha h
      rw [walk_To t ha h 9 (by omega)]
      refine ⟨?_, ?_, r4, r5, fun e => by cases e⟩
      · rw [rooted_eq lx ho (by omega) (g0 b)]
        refine allR_false (k := j) onj ?_ _ 0 (by omega) (by omega)
        exact root_round t hx lx ho ha haN hb h _ _ _ To.here
      · obtain ⟨r, e1, e2⟩ := loop_To t hx lx ha haN h 20 [(j : Int) + 1] (by omega) rfl (by simp) (by simp)
        refine ⟨21, r, by omega, ?_, by simp [e2]⟩
        unfold loopR
        rw [if_pos ⟨by omega, by omega⟩, idxR_not (by simp) _ 0 rfl, if_neg (by omega), hb]
        exact e1
    · have hp := Off.bd t h
      rw [walk_Off t h 9]
      refine ⟨?_, ?_, r4, r5, fun _ => ?_⟩
      · rw [rooted_eq lx ho (by omega) (g0 b)]
        refine allR_true _ _ fun k _ hk => ?_
        rw [lx]
        rcases either t ha N ((k : Int) + 1) (by omega) (by omega) (by omega) with ⟨n, g⟩ | ⟨n, g⟩
        · have := both t ha N n p _ _ (by omega) (by omega) g h
          exact root_To t hx lx ho (by omega) ha haN hb g h _ (by omega)
        · have hb := Off.bd t g
          exact root_Off t hx lx ho (by omega) g _ (by omega)
      · refine ⟨21, [], by omega, ?_, rfl⟩
        have e1 := loop_Off t hx lx (by omega) h 20 [(j : Int) + 1] (by omega) (by simp)
        unfold loopR
        rw [if_pos ⟨by omega, by omega⟩, idxR_not (by simp) _ 0 rfl, if_neg (by omega), hb]
        exact e1
      · rw [deep_Off t (x := u) (fun _ _ => rfl) hlu ho (by omega) h _ 0 (by omega)]
        unfold deepR
        rw [if_neg (by omega), hb, deep_Off t hx lx ho (by omega) h _ _ (by omega)]
        omega
end Go.Proofs.Ytldehmfhgmmkhaa.Pt
