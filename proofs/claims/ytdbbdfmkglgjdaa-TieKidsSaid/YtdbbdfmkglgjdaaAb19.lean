/- A closed law's run, cut in pieces: from one state that is told to the next (for a law whose run is too big for the kernel in one). -/
import Derived.Test.YtdbbdfmkglgjdaaAb18
import Derived.Test.YtdbbdfmkglgjdaaAb17
set_option linter.unusedVariables false
set_option linter.unusedSimpArgs false
set_option linter.unusedSectionVars false
namespace Go.Ab
theorem aops_len {call : CallF} : ∀ (l : List AOper) (τ : Tau) (H : AHeap) {τ' : Tau} {H' : AHeap}, aops call l τ H = some (τ', H') → τ'.length = τ.length
  | [], τ, H, τ', H', h => by
    obtain ⟨rfl, rfl⟩ := Prod.mk.inj (Option.some.inj h); rfl
  | o :: l, τ, H, τ', H', h => by
    unfold aops at h
    split at h
    · split at h
      · exact (aops_len l _ _ h).trans (put_length _ _ _)
      · cases h
    · exact (aops_len l _ _ h).trans (put_length _ _ _)
theorem adops_len {call : CallF} {base : Nat} : ∀ (l : List (AOper × DK)) (recs : List Rec) (τ : Tau) (H : AHeap) {τ' : Tau} {H' : AHeap}, adops call base l recs τ H = some (τ', H') → τ'.length = τ.length
  | [], recs, τ, H, τ', H', h => by
    obtain ⟨rfl, rfl⟩ := Prod.mk.inj (Option.some.inj h); rfl
  | (o, dk) :: l, recs, τ, H, τ', H', h => by
    unfold adops at h
    split at h
    · split at h
      · split at h
        · split at h
          · exact (adops_len l _ _ _ h).trans (put_length _ _ _)
          · cases h
        · cases h
      · split at h
        · split at h
          · exact (adops_len l _ _ _ h).trans (put_length _ _ _)
          · cases h
        · cases h
      · split at h
        · split at h
          · exact (adops_len l _ _ _ h).trans (put_length _ _ _)
          · cases h
        · cases h
    · exact (adops_len l _ _ _ h).trans (put_length _ _ _)
theorem aeval_len {E : Env} : ∀ (n : Nat) (c : ACode) (τ : Tau) (H : AHeap) {ex : AExit} {τ' : Tau} {H' : AHeap}, aeval E n c τ H = some (ex, τ', H') → τ'.length = τ.length := by
  intro n
  induction n with
  | zero => intro c τ H ex τ' H' h; simp [aeval] at h
  | succ n ih =>
    intro c τ H ex τ' H' h
    cases c with
    | skip => simp only [aeval, Option.some.injEq, Prod.mk.injEq] at h; rw [h.2.1]
    | ret => simp only [aeval, Option.some.injEq, Prod.mk.injEq] at h; rw [h.2.1]
    | exit i => simp only [aeval, Option.some.injEq, Prod.mk.injEq] at h; rw [h.2.1]
    | reg ops =>
      simp only [aeval] at h
      obtain ⟨⟨t1, H1⟩, h1, h2⟩ := Option.map_eq_some_iff.1 h
      simp only [Prod.mk.injEq] at h2
      rw [← h2.2.1]; exact aops_len _ _ _ h1
    | dreg na ops =>
      simp only [aeval] at h
      obtain ⟨⟨t1, H1⟩, h1, h2⟩ := Option.map_eq_some_iff.1 h
      simp only [Prod.mk.injEq] at h2
      rw [← h2.2.1]; exact adops_len _ _ _ _ h1
    | seq a b =>
      simp only [aeval] at h
      split at h
      · rename_i t1 H1 h1
        exact (ih _ _ _ h).trans (ih _ _ _ h1)
      · exact ih _ _ _ h
    | cond x a b =>
      simp only [aeval] at h
      split at h
      · exact ih _ _ _ h
      · cases h
    | block i c =>
      simp only [aeval] at h
      split at h
      · rename_i j t1 H1 h1
        simp only [Option.some.injEq, Prod.mk.injEq] at h
        rw [← h.2.1]; exact ih _ _ _ h1
      · exact ih _ _ _ h
    | loop c =>
      simp only [aeval] at h
      split at h
      · rename_i t1 H1 h1
        exact (ih _ _ _ h).trans (ih _ _ _ h1)
      · exact ih _ _ _ h
def beqO : Option AObj → Option AObj → Bool
  | none, none => true
  | some (.cells k z a), some (.cells k' z' b) => decide (k = k') && Nat.beq z z' && beqL a b
  | _, _ => false
def beqTr : Tr → Tr → Bool
  | .leaf, .leaf => true
  | .node v l r, .node w m s => beqO v w && (beqTr l m && beqTr r s)
  | _, _ => false
theorem beqO_eq : ∀ {a b : Option AObj}, beqO a b = true → a = b
  | none, none, _ => rfl
  | some (.cells k z a), some (.cells k' z' b), h => by
    simp only [beqO, Bool.and_eq_true, decide_eq_true_eq] at h
    obtain ⟨⟨rfl, h2⟩, h3⟩ := h
    rw [Nat.eq_of_beq_eq_true h2, beqL_eq _ _ h3]
  | none, some o, h => by simp [beqO] at h
  | some (.cells ..), none, h => by simp [beqO] at h
  | some (.cells ..), some (.iter ..), h => by simp [beqO] at h
  | some (.iter ..), o, h => by simp [beqO] at h
theorem beqTr_eq : ∀ {a b : Tr}, beqTr a b = true → a = b
  | .leaf, .leaf, _ => rfl
  | .node v l r, .node w m s, h => by
    simp only [beqTr, Bool.and_eq_true] at h
    rw [beqO_eq h.1, beqTr_eq h.2.1, beqTr_eq h.2.2]
  | .leaf, .node .., h => by simp [beqTr] at h
  | .node .., .leaf, h => by simp [beqTr] at h
def beqEx : AExit → AExit → Bool
  | .normal, .normal => true
  | .ret, .ret => true
  | .exit i, .exit j => Nat.beq i j
  | _, _ => false
theorem beqEx_eq : ∀ {a b : AExit}, beqEx a b = true → a = b
  | .normal, .normal, _ => rfl
  | .ret, .ret, _ => rfl
  | .exit i, .exit j, h => by rw [Nat.eq_of_beq_eq_true h]
  | .normal, .ret, h => by cases h
  | .normal, .exit _, h => by cases h
  | .ret, .normal, h => by cases h
  | .ret, .exit _, h => by cases h
  | .exit _, .normal, h => by cases h
  | .exit _, .ret, h => by cases h
noncomputable def endsAs (m : Nat) (ex : AExit) (lit : Tau) (H1 : AHeap) : Option (AExit × TT × AHeap) → Bool
  | some (e, t, H) => beqEx e ex && (beqL ((List.range m).map t.get) lit && (Nat.beq H.size H1.size && beqTr H.tr H1.tr))
  | none => false
theorem lit_RT (lit : Tau) {m : Nat} (h : lit.length = m) : RT m lit (argsF lit 0 .leaf) := by
  have := args_RT lit m
  rwa [h, Nat.sub_self, List.replicate_zero, List.append_nil] at this
theorem cut_ok {E : Env} (hE : FOk E) {m n : Nat} {c : ACode} {lit0 lit1 : Tau} {H0 H1 : AHeap} {ex : AExit} (hb : belowC m c = true) (h0 : lit0.length = m) (h : endsAs m ex lit1 H1 ((frun E n).2 c (argsF lit0 0 .leaf) H0) = true) :
    aeval E n c lit0 H0 = some (ex, lit1, H1) := by
  cases hr : (frun E n).2 c (argsF lit0 0 .leaf) H0 with
  | none => rw [hr] at h; cases h
  | some r =>
    obtain ⟨e, t, H⟩ := r
    rw [hr] at h
    simp only [endsAs, Bool.and_eq_true] at h
    obtain ⟨h1, h2, h3, h4⟩ := h
    obtain ⟨τ', g1, g2⟩ := (frun_ok hE n).2 m c lit0 _ H0 _ _ _ hb (lit_RT lit0 h0) hr
    have hl := aeval_len n c lit0 H0 g1
    have e1 : τ' = lit1 := by
      rw [← beqL_eq _ _ h2]
      apply List.ext_getElem
      · rw [List.length_map, List.length_range, hl, h0]
      · intro k k1 k2
        rw [List.getElem_map, List.getElem_range, g2.get k]
        simp [List.getD, List.getElem?_eq_getElem k1]
    have e2 : H = H1 := by
      obtain ⟨s, tr⟩ := H
      obtain ⟨s1, tr1⟩ := H1
      simp only at h3 h4
      rw [Nat.eq_of_beq_eq_true h3, beqTr_eq h4]
    rw [g1, beqEx_eq h1, e1, e2]
noncomputable def retsTrue (res : List ARes) : Option (AExit × TT × AHeap) → Bool
  | some (.normal, t, H) => tellsTrue ((resultsF t H res).map fun v => (v, H))
  | some (.ret, t, H) => tellsTrue ((resultsF t H res).map fun v => (v, H))
  | _ => false
def EndsT (E : Env) (n : Nat) (c : ACode) (τ : Tau) (H : AHeap) (res : List ARes) : Prop :=
  ∃ ex τ' H', aeval E n c τ H = some (ex, τ', H') ∧ (ex = .normal ∨ ex = .ret) ∧ tellsTrue ((resultsA τ' H' res).map fun v => (v, H')) = true
theorem last_ok {E : Env} (hE : FOk E) {m n : Nat} {c : ACode} {lit : Tau} {H0 : AHeap} {res : List ARes} (hb : belowC m c = true) (hr : res.all (belowR m) = true) (h0 : lit.length = m) (h : retsTrue res ((frun E n).2 c (argsF lit 0 .leaf) H0) = true) :
    EndsT E n c lit H0 res := by
  cases hx : (frun E n).2 c (argsF lit 0 .leaf) H0 with
  | none => rw [hx] at h; cases h
  | some r =>
    obtain ⟨e, t, H⟩ := r
    rw [hx] at h
    obtain ⟨τ', g1, g2⟩ := (frun_ok hE n).2 m c lit _ H0 _ _ _ hb (lit_RT lit h0) hx
    cases e with
    | normal => exact ⟨_, τ', H, g1, Or.inl rfl, by rw [← results_F g2 hr]; exact h⟩
    | ret => exact ⟨_, τ', H, g1, Or.inr rfl, by rw [← results_F g2 hr]; exact h⟩
    | exit i => cases h
theorem ends_seq {E : Env} {n : Nat} {a b : ACode} {τ τ1 : Tau} {H H1 : AHeap} {res : List ARes} (h1 : aeval E n a τ H = some (.normal, τ1, H1)) (h2 : EndsT E n b τ1 H1 res) : EndsT E (n + 1) (.seq a b) τ H res := by
  obtain ⟨ex, τ', H', g, h⟩ := h2
  exact ⟨ex, τ', H', by simp only [aeval, h1]; exact g, h⟩
theorem aeval_seq {E : Env} {n : Nat} {a b : ACode} {τ τ1 : Tau} {H H1 : AHeap} {r : Option (AExit × Tau × AHeap)} (h1 : aeval E n a τ H = some (.normal, τ1, H1)) (h2 : aeval E n b τ1 H1 = r) : aeval E (n + 1) (.seq a b) τ H = r := by
  simp only [aeval, h1]; exact h2
theorem aeval_round {E : Env} {n : Nat} {c : ACode} {τ τ1 : Tau} {H H1 : AHeap} {r : Option (AExit × Tau × AHeap)} (h1 : aeval E n c τ H = some (.normal, τ1, H1)) (h2 : aeval E n (.loop c) τ1 H1 = r) : aeval E (n + 1) (.loop c) τ H = r := by
  simp only [aeval, h1]; exact h2
theorem aeval_out {E : Env} {n i : Nat} {c : ACode} {τ τ1 : Tau} {H H1 : AHeap} (h1 : aeval E n c τ H = some (.exit i, τ1, H1)) : aeval E (n + 1) (.block i c) τ H = some (.normal, τ1, H1) := by
  simp only [aeval, h1, if_true]
theorem ends_call {E : Env} {n f : Nat} {fn : AFn} (hs : E.spec f = none) (hf : E.fns f = some fn) (h : EndsT E n fn.code (List.replicate fn.nt undefA) AHeap.empty fn.res) : tellsTrue (acall E (n + 1) f [] AHeap.empty) = true := by
  obtain ⟨ex, τ', H', g, hex, ht⟩ := h
  unfold acall
  rw [hs]
  simp only [hf, List.length_nil, Nat.sub_zero, List.nil_append, g]
  rcases hex with rfl | rfl <;> exact ht
end Go.Ab
