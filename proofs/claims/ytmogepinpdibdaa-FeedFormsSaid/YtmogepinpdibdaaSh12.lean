/- Rows of one's own that grow; tables. -/
import Derived.Test.YtmogepinpdibdaaSh11
set_option linter.unusedVariables false
set_option linter.unusedSimpArgs false
namespace Go.Ab

/-- Blocks that are as they were. -/
structure Same (Q : Nat → Prop) (H H1 : AHeap) : Prop where
  size : H.size ≤ H1.size
  get : ∀ r, Q r → H1.get r = H.get r
theorem Same.refl (Q : Nat → Prop) (H : AHeap) : Same Q H H := ⟨Nat.le_refl _, fun _ _ => rfl⟩
theorem Same.trans {Q : Nat → Prop} {H H1 H2 : AHeap} (a : Same Q H H1) (b : Same Q H1 H2) : Same Q H H2 := ⟨Nat.le_trans a.size b.size, fun r hr => (b.get r hr).trans (a.get r hr)⟩
theorem Same.push {Q : Nat → Prop} {H H1 : AHeap} (a : Same Q H H1) (hq : ∀ r, Q r → r < H1.size) (o : Option AObj) : Same Q H (H1.push o) :=
  ⟨by rw [AHeap.size_push]; exact Nat.le_succ_of_le a.size, fun r hr => by rw [AHeap.get_push, if_neg (by have := hq r hr; omega)]; exact a.get r hr⟩
theorem Same.put {Q : Nat → Prop} {H H1 : AHeap} (a : Same Q H H1) {r : Nat} (hq : ¬ Q r) (o : Option AObj) : Same Q H (H1.put r o) :=
  ⟨by rw [AHeap.size_put]; exact a.size, fun s hs => by rw [AHeap.get_put, if_neg (by intro e; subst e; exact hq hs)]; exact a.get s hs⟩
theorem Same.weaken {Q Q' : Nat → Prop} {H H1 : AHeap} (a : Same Q H H1) (h : ∀ r, Q' r → Q r) : Same Q' H H1 := ⟨a.size, fun r hr => a.get r (h r hr)⟩
theorem Same.kept {Q : Nat → Prop} {H H1 : AHeap} (a : Same Q H H1) (h : ∀ r, r < H.size → Q r) : Kept H H1 := ⟨a.size, fun r hr => a.get r (h r hr)⟩
theorem Kept.same {Q : Nat → Prop} {H H1 : AHeap} (a : Kept H H1) (h : ∀ r, Q r → r < H.size) : Same Q H H1 := ⟨a.size, fun r hr => a.get r (h r hr)⟩

theorem rd_same {α : Type} {z : Nat} {dec : List AV → Option α} {Q : Nat → Prop} {H H1 : AHeap} {v : AV} {l : List α} (hk : Same Q H H1) (hq : ∀ r o n c, v = .sl r o n c → Q r) (h : rdW z dec H v = some l) : rdW z dec H1 v = some l := by
  rcases rdW_cases h with ⟨rfl, rfl⟩ | ⟨r, o, c, cs, rfl, hr, hcs, hch⟩
  · rfl
  · simp only [rdW]
    rw [if_pos (Nat.lt_of_lt_of_le hr hk.size)]
    have : H1.row r o (l.length * z) = some cs := by
      rw [← hcs]; unfold AHeap.row; rw [hk.get r (hq r o _ c rfl)]
    rw [this]
    exact hch

/-- A row of one's own (its name is not below lo) that may grow: n elements of z cells. -/
def OwnR (z lo : Nat) (H : AHeap) (v : AV) (n : Nat) (cs : List AV) : Prop :=
  (v = .nils ∧ n = 0 ∧ cs = []) ∨ ∃ r, v = .sl r 0 n (.mi 0) ∧ lo ≤ r ∧ r < H.size ∧ H.get r = some (.cells .opened z cs) ∧ cs.length = n * z
/-- The slice is not of block r. -/
def notOf (v : AV) (r : Nat) : Prop := ∀ o n c, v ≠ .sl r o n c
theorem OwnR.notOf {z lo n : Nat} {H : AHeap} {v : AV} {cs : List AV} (h : OwnR z lo H v n cs) {r : Nat} (hr : r < lo ∨ H.size ≤ r) : Go.Ab.notOf v r := by
  intro o m c e
  rcases h with ⟨rfl, _⟩ | ⟨q, rfl, h1, h2, _⟩
  · cases e
  · cases e; omega
theorem OwnR.nils (z lo : Nat) (H : AHeap) : OwnR z lo H .nils 0 [] := Or.inl ⟨rfl, rfl, rfl⟩
theorem OwnR.le {z lo lo' n : Nat} {H : AHeap} {v : AV} {cs : List AV} (h : OwnR z lo H v n cs) (hl : lo' ≤ lo) : OwnR z lo' H v n cs := by
  rcases h with h | ⟨r, e, h1, h2⟩
  · exact Or.inl h
  · exact Or.inr ⟨r, e, Nat.le_trans hl h1, h2⟩
theorem OwnR.same {z lo n : Nat} {H H1 : AHeap} {v : AV} {cs : List AV} (h : OwnR z lo H v n cs) (hk : H.size ≤ H1.size) (hg : ∀ r, lo ≤ r → r < H.size → H1.get r = H.get r) : OwnR z lo H1 v n cs := by
  rcases h with h | ⟨r, e, h1, h2, h3, h4⟩
  · exact Or.inl h
  · exact Or.inr ⟨r, e, h1, Nat.lt_of_lt_of_le h2 hk, (hg r h1 h2).trans h3, h4⟩
theorem OwnR.len {z lo n : Nat} {H : AHeap} {v : AV} {cs : List AV} (h : OwnR z lo H v n cs) : lenA v = some (.int .i64 n) := by
  rcases h with ⟨rfl, rfl, _⟩ | ⟨r, rfl, _⟩ <;> rfl

/-- Elements behind a row of one's own. -/
theorem app_ownR {z lo bytes n m : Nat} {H : AHeap} {v x : AV} {cs news : List AV} (hz : 0 < z) (h : OwnR z lo H v n cs) (hlo : lo ≤ H.size) (h1 : srcRow H z x = some news) (h2 : x.slen = m) (h3 : news.length = m * z) (hone : news.all AV.one = true)
    (hb : (n + m) * bytes ≤ maxBytes) (hb' : n + m ≤ maxBytes) :
    ∃ v' H', appA H z bytes v x = some (v', H') ∧ OwnR z lo H' v' (n + m) (cs ++ news) ∧ Same (fun r => r < H.size ∧ notOf v r) H H' ∧ ∀ q, q < H.size → notOf v q → notOf v' q := by
  simp only [appA, h1, h2]
  rw [if_neg (by omega)]
  rcases h with ⟨rfl, rfl, rfl⟩ | ⟨r, rfl, hr0, hr, hg, hc⟩
  · simp only [appOnto]
    by_cases h0 : m = 0
    · rw [if_pos h0]
      subst h0
      rw [Nat.zero_mul] at h3
      obtain rfl := List.length_eq_zero_iff.1 h3
      exact ⟨_, _, rfl, Or.inl ⟨rfl, rfl, rfl⟩, Same.refl _ _, fun q _ h => h⟩
    · rw [if_neg h0, if_pos ⟨by simpa using hb, by simpa using hb'⟩]
      refine ⟨_, _, rfl, Or.inr ⟨H.size, by rw [Nat.zero_add], hlo, by rw [AHeap.size_push]; omega, by rw [get_push_same]; rfl, by simpa using h3⟩, (Same.refl _ _).push (fun r hr => hr.1) _, fun q hq _ o n c e => by cases e; omega⟩
  · simp only [appOnto, hg]
    by_cases h0 : m = 0
    · rw [if_pos h0]
      subst h0
      rw [Nat.zero_mul] at h3
      obtain rfl := List.length_eq_zero_iff.1 h3
      rw [List.append_nil]
      exact ⟨_, _, rfl, Or.inr ⟨r, rfl, hr0, hr, hg, hc⟩, Same.refl _ _, fun q _ h => h⟩
    · rw [if_neg h0, if_pos ⟨hb, hb'⟩]
      have hlt : n * z < (0 + n + m) * z := Nat.mul_lt_mul_of_pos_right (by omega) hz
      rw [if_neg (by rw [hc]; omega), if_pos ⟨trivial, trivial, trivial, trivial, by omega, hone⟩]
      refine ⟨_, _, rfl, Or.inr ⟨H.size, rfl, hlo, by rw [AHeap.size_push, AHeap.size_put]; omega, ?_, ?_⟩, ?_, fun q hq _ o n c e => by cases e; omega⟩
      · rw [AHeap.get_push, if_pos (by rw [AHeap.size_put]), List.take_of_length_le (by omega)]
      · rw [List.length_append, hc, h3, Nat.add_mul]
      · exact ((Same.refl _ _).put (fun h => h.2 _ _ _ rfl) _).push (fun s hs => by rw [AHeap.size_put]; exact hs.1) _

/-- One more element. -/
theorem app_oneR {z lo bytes n : Nat} {H : AHeap} {v : AV} {cs row : List AV} (hz : 0 < z) (h : OwnR z lo H v n cs) (hlo : lo ≤ H.size) (hx : row.length = z) (hone : row.all AV.one = true) (hb : (n + 1) * bytes ≤ maxBytes) (hb' : n + 1 ≤ maxBytes) :
    ∃ v' H', appA (H.push (some (.cells .exact z row))) z bytes v (.sl H.size 0 1 (.ex 1)) = some (v', H') ∧ OwnR z lo H' v' (n + 1) (cs ++ row) ∧ Same (fun r => r < H.size ∧ notOf v r) H H' ∧ ∀ q, q < H.size → notOf v q → notOf v' q := by
  have hs := (Same.refl (fun r => r < H.size ∧ notOf v r) H).push (fun r hr => hr.1) (some (.cells .exact z row))
  have ho : OwnR z lo (H.push (some (.cells .exact z row))) v n cs := h.same (by simp) fun r h1 h2 => by rw [AHeap.get_push, if_neg (by omega)]
  have h1 : srcRow (H.push (some (.cells .exact z row))) z (.sl H.size 0 1 (.ex 1)) = some row := by
    simp only [srcRow, row_eq, get_push_same, objRow_cells, Nat.one_mul, Nat.zero_add, List.drop_zero]
    rw [if_pos (by omega), List.take_of_length_le (by omega)]
  obtain ⟨v', H', e, h2, h3⟩ := app_ownR (bytes := bytes) (m := 1) hz ho (by simp; omega) h1 rfl (by omega) hone hb hb'
  exact ⟨v', H', e, h2, hs.trans (h3.1.weaken fun r hr => ⟨by simp; omega, hr.2⟩), fun q hq hn => h3.2 q (by simp; omega) hn⟩

/-- A row of numbers of one's own. -/
def Own (k : IntKind) (lo : Nat) (H : AHeap) (v : AV) (l : List Int) : Prop := OwnR 1 lo H v l.length (l.map (AV.int k))
theorem Own.rd {k : IntKind} {lo : Nat} {H : AHeap} {v : AV} {l : List Int} (h : Own k lo H v l) : rdI k H v = some l := by
  rcases h with ⟨rfl, h, _⟩ | ⟨r, rfl, _, hr, hg, _⟩
  · obtain rfl := List.length_eq_zero_iff.1 h
    rfl
  · exact rdI_mk (more := []) hr (by rw [List.append_nil]; exact hg)
theorem Own.nils (k : IntKind) (lo : Nat) (H : AHeap) : Own k lo H .nils [] := OwnR.nils _ _ _
theorem Own.same {k : IntKind} {lo : Nat} {H H1 : AHeap} {v : AV} {l : List Int} (h : Own k lo H v l) (hk : H.size ≤ H1.size) (hg : ∀ r, lo ≤ r → r < H.size → H1.get r = H.get r) : Own k lo H1 v l := OwnR.same h hk hg
theorem ints_one {k : IntKind} (m : List Int) : (m.map (AV.int k)).all AV.one = true := by
  induction m with
  | nil => rfl
  | cons a m ih => simp
theorem app_own {k : IntKind} {lo bytes : Nat} {H : AHeap} {v x : AV} {l m : List Int} (h : Own k lo H v l) (hlo : lo ≤ H.size) (hx : rdI k H x = some m) (hb : (l.length + m.length) * bytes ≤ maxBytes) (hb' : l.length + m.length ≤ maxBytes) :
    ∃ v' H', appA H 1 bytes v x = some (v', H') ∧ Own k lo H' v' (l ++ m) ∧ Same (fun r => r < lo) H H' := by
  obtain ⟨h1, h2⟩ := rdI_src hx
  obtain ⟨v', H', e, h3, h4⟩ := app_ownR (z := 1) (bytes := bytes) (by omega) h hlo h1 h2 (by simp) (ints_one m) hb hb'
  exact ⟨v', H', e, by unfold Own; rw [List.length_append, List.map_append]; exact h3, h4.1.weaken fun r hr => ⟨by omega, OwnR.notOf h (Or.inl hr)⟩⟩
theorem app_one {k : IntKind} {lo bytes : Nat} {H : AHeap} {v : AV} {l : List Int} (x : Int) (h : Own k lo H v l) (hlo : lo ≤ H.size) (hb : (l.length + 1) * bytes ≤ maxBytes) (hb' : l.length + 1 ≤ maxBytes) :
    ∃ v' H', appA (H.push (some (.cells .exact 1 [.int k x]))) 1 bytes v (.sl H.size 0 1 (.ex 1)) = some (v', H') ∧ Own k lo H' v' (l ++ [x]) ∧ Same (fun r => r < lo) H H' := by
  obtain ⟨v', H', e, h3, h4⟩ := app_oneR (z := 1) (bytes := bytes) (row := [.int k x]) (by omega) h hlo rfl rfl hb hb'
  exact ⟨v', H', e, by unfold Own; rw [List.length_append, List.map_append]; exact h3, h4.1.weaken fun r hr => ⟨by omega, OwnR.notOf h (Or.inl hr)⟩⟩

/-! ### Tables of numbers -/
def decD (H : AHeap) : List AV → Option (List Int)
  | [u] => rdI .i64 H u
  | _ => none
def rdD (H : AHeap) (v : AV) : Option (List (List Int)) := rdW 1 (decD H) H v

theorem rdD_kept {H H1 : AHeap} {v : AV} {D : List (List Int)} (hk : Kept H H1) (h : rdD H v = some D) : rdD H1 v = some D := by
  have h1 : rdW 1 (decD H) H1 v = some D := rd_kept hk h
  have key : ∀ (n : Nat) (cs : List AV) (D : List (List Int)), chunks 1 (decD H) n cs = some D → chunks 1 (decD H1) n cs = some D := by
    intro n
    induction n with
    | zero => intro cs D h; exact h
    | succ n ih =>
      intro cs D h
      simp only [chunks] at h ⊢
      split at h
      · rename_i x l hx hl
        have : decD H1 (cs.take 1) = some x := by
          unfold decD at hx ⊢
          split at hx
          · exact rdI_kept hk hx
          · cases hx
        rw [this, ih _ _ hl]
        exact h
      · cases h
  unfold rdD
  unfold rdW at h1 ⊢
  split at h1
  · exact h1
  · split at h1
    · rename_i hr
      rw [if_pos hr]
      split at h1
      · exact key _ _ _ h1
      · cases h1
    · cases h1
  · cases h1

section
variable {H : AHeap} {v : AV} {D : List (List Int)}
theorem rdD_len (h : rdD H v = some D) : lenA v = some (.int .i64 D.length) := rd_len h
theorem rdD_iad (h : rdD H v = some D) (kk : IntKind) {i : Int} (h0 : 0 ≤ i) (h1 : i < D.length) : iadA 1 v (.int kk i) = some (elp 1 v i) := rd_iad h kk h0 h1
theorem rdD_ld (h : rdD H v = some D) {i : Int} (h0 : 0 ≤ i) (h1 : i < D.length) : ∃ u, ldA H (elp 1 v i) = some u ∧ rdI .i64 H u = some (D.getD i.toNat []) := by
  obtain ⟨r, o, cs, he, _, hr, x, hx, hd⟩ := rd_row h h0 h1
  rw [he]
  unfold decD at hd
  split at hd
  · rename_i u
    refine ⟨u, ?_, ?_⟩
    · have := (row_get hr).2 0 _ rfl
      simpa only [ldA, Nat.add_zero] using this
    · rw [hd, List.getD_eq_getElem?_getD, hx]; rfl
  · cases hd
end
end Go.Ab
