/- A map of sets of texts, and a set of numbers. -/
import Derived.Test.YtmogepinpdibdaaPcMap
set_option linter.unusedVariables false
set_option linter.unusedSimpArgs false
namespace Go.Ab
structure Hp (Q : AHeap) (r1 r2 : Nat) (C : Int → List UInt8 → Bool) (D : Int → Bool) : Prop where
  ne : r1 ≠ r2
  s1 : r1 < Q.size
  s2 : r2 < Q.size
  noted : ∃ T, Q.get r2 = some (setI T) ∧ ∀ n, isin T n = D n
  came : ∃ M : List (Int × Nat), Q.get r1 = some (.mapo (em kI AV.mp M)) ∧ (∀ k, mget M k = none → ∀ t, C k t = false) ∧
    (∀ k ref, mget M k = some ref → ref ≠ r1 ∧ ref ≠ r2 ∧ ref < Q.size ∧ ∃ T : List (List UInt8 × Unit), Q.get ref = some (.mapo (em kS tT T)) ∧ ∀ t, (mget T t).isSome = C k t) ∧
    (∀ k k' ref, mget M k = some ref → mget M k' = some ref → k = k')
section
variable {Q : AHeap} {r1 r2 : Nat} {C : Int → List UInt8 → Bool} {D : Int → Bool}
theorem Hp.start (Q : AHeap) : Hp ((Q.push (some (.mapo []))).push (some (.mapo []))) Q.size (Q.size + 1) (fun _ _ => false) (fun _ => false) := by
  refine ⟨by omega, by simp; omega, by simp, ⟨[], by rw [AHeap.get_push, if_pos (by simp)]; rfl, fun _ => rfl⟩, [], ?_, fun _ _ _ => rfl, fun k ref h => by simp [mget] at h, fun k k' ref h => by simp [mget] at h⟩
  rw [AHeap.get_push, if_neg (by simp), AHeap.get_push, if_pos rfl]; rfl
theorem Hp.lkN (h : Hp Q r1 r2 C D) (n : Int) : mlkA Q .i (.bool false) false (.mp r2) (.int .i64 n) = some (.bool (D n)) := by
  obtain ⟨T, h1, h2⟩ := h.noted
  rw [setI_lk h1, h2]
theorem Hp.lkC (h : Hp Q r1 r2 C D) (k : Int) (t : List UInt8) : ∃ v, mlkA Q .i .nilm false (.mp r1) (.int .i64 k) = some v ∧ mlkA Q .s (.bool false) false v (.str t) = some (.bool (C k t)) := by
  obtain ⟨M, h1, h2, h3, h4⟩ := h.came
  refine ⟨_, mlk_em kI_eq h1 .nilm false k, ?_⟩
  cases hm : mget M k with
  | none => rw [h2 k hm]; rfl
  | some ref =>
    obtain ⟨_, _, _, T, g1, g2⟩ := h3 k ref hm
    show mlkA Q .s (.bool false) false (.mp ref) (kS t) = _
    rw [mlk_em kS_eq g1, ← g2]
    cases mget T t <;> rfl
theorem Hp.upN (h : Hp Q r1 r2 C D) (n : Int) : ∃ Q', mupA Q .i (.mp r2) (.int .i64 n) (.bool true) = some (undefA, Q') ∧ Hp Q' r1 r2 C fun m => decide (m = n) || D m := by
  obtain ⟨T, h1, h2⟩ := h.noted
  obtain ⟨M, c1, c2, c3, c4⟩ := h.came
  refine ⟨_, setI_up h1 n, h.ne, by simpa using h.s1, by simpa using h.s2, ⟨_, get_putS _ _ _, fun m => by rw [isin_put, h2]⟩, M, ?_, c2, fun k ref hm => ?_, c4⟩
  · rw [AHeap.get_put, if_neg h.ne]; exact c1
  · obtain ⟨g1, g2, g3, T', g4, g5⟩ := c3 k ref hm
    exact ⟨g1, g2, by simpa using g3, T', by rw [AHeap.get_put, if_neg g2]; exact g4, g5⟩
theorem Hp.grow (h : Hp Q r1 r2 C D) {k : Int} {ref : Nat} (hm : ∃ M : List (Int × Nat), Q.get r1 = some (.mapo (em kI AV.mp M)) ∧ mget M k = some ref ∧ (∀ k, mget M k = none → ∀ t, C k t = false) ∧
    (∀ k ref, mget M k = some ref → ref ≠ r1 ∧ ref ≠ r2 ∧ ref < Q.size ∧ ∃ T : List (List UInt8 × Unit), Q.get ref = some (.mapo (em kS tT T)) ∧ ∀ t, (mget T t).isSome = C k t) ∧
    (∀ k k' ref, mget M k = some ref → mget M k' = some ref → k = k')) (t : List UInt8) :
    ∃ Q', mupA Q .s (.mp ref) (.str t) (.bool true) = some (undefA, Q') ∧ Hp Q' r1 r2 (fun k' t' => decide (k' = k ∧ t' = t) || C k' t') D := by
  obtain ⟨M, c1, cm, c2, c3, c4⟩ := hm
  obtain ⟨g1, g2, g3, T, g4, g5⟩ := c3 k ref cm
  obtain ⟨T2, n1, n2⟩ := h.noted
  refine ⟨_, mup_em (g := tT) (v := ()) kS_eq g4 t, h.ne, by simpa using h.s1, by simpa using h.s2, ⟨T2, by rw [AHeap.get_put, if_neg (Ne.symm g2)]; exact n1, n2⟩, M, ?_, fun k' hk t' => ?_, fun k' ref' hm => ?_, c4⟩
  · rw [AHeap.get_put, if_neg (Ne.symm g1)]; exact c1
  · have : ¬ (k' = k ∧ t' = t) := fun e => by rw [e.1, cm] at hk; cases hk
    simp [this, c2 k' hk t']
  · obtain ⟨x1, x2, x3, T', x4, x5⟩ := c3 k' ref' hm
    by_cases e : ref' = ref
    · subst e
      obtain rfl := c4 _ _ _ hm cm
      refine ⟨x1, x2, by simpa using x3, _, get_putS _ _ _, fun t' => ?_⟩
      rw [mget_put]
      by_cases ht : t' = t
      · simp [ht]
      · simp [ht, g5]
    · refine ⟨x1, x2, by simpa using x3, T', by rw [AHeap.get_put, if_neg e]; exact x4, fun t' => ?_⟩
      have : ¬ (k' = k ∧ t' = t) := fun e2 => by rw [e2.1, cm] at hm; exact e (Option.some.inj hm).symm
      simp [this, x5]
theorem Hp.upC (h : Hp Q r1 r2 C D) (k : Int) (t : List UInt8) : ∃ v, mlkA Q .i .nilm false (.mp r1) (.int .i64 k) = some v ∧
    ((eqnQ false 4 v = some (.bool true) ∧ ∃ Q3 v2 Q4, mupA (Q.push (some (.mapo []))) .i (.mp r1) (.int .i64 k) (.mp Q.size) = some (undefA, Q3) ∧ mlkA Q3 .i .nilm false (.mp r1) (.int .i64 k) = some v2 ∧ mupA Q3 .s v2 (.str t) (.bool true) = some (undefA, Q4) ∧ Hp Q4 r1 r2 (fun k' t' => decide (k' = k ∧ t' = t) || C k' t') D) ∨
     (eqnQ false 4 v = some (.bool false) ∧ ∃ Q4, mupA Q .s v (.str t) (.bool true) = some (undefA, Q4) ∧ Hp Q4 r1 r2 (fun k' t' => decide (k' = k ∧ t' = t) || C k' t') D)) := by
  obtain ⟨M, c1, c2, c3, c4⟩ := h.came
  refine ⟨_, mlk_em kI_eq c1 .nilm false k, ?_⟩
  cases hm : mget M k with
  | some ref =>
    obtain ⟨Q', e1, e2⟩ := h.grow ⟨M, c1, hm, c2, c3, c4⟩ t
    exact Or.inr ⟨rfl, Q', e1, e2⟩
  | none =>
    have s1 := h.s1
    have s2 := h.s2
    have p1 : (Q.push (some (.mapo []))).get r1 = some (.mapo (em kI AV.mp M)) := by rw [AHeap.get_push, if_neg (by omega)]; exact c1
    have u1 := mup_em (g := AV.mp) (v := Q.size) kI_eq p1 k
    obtain ⟨T2, n1, n2⟩ := h.noted
    have g1 : ((Q.push (some (.mapo []))).put r1 (some (.mapo (em kI AV.mp (mput M k Q.size))))).get r1 = some (.mapo (em kI AV.mp (mput M k Q.size))) := get_putS _ _ _
    have oth : ∀ s, s ≠ r1 → s < Q.size → ((Q.push (some (.mapo []))).put r1 (some (.mapo (em kI AV.mp (mput M k Q.size))))).get s = Q.get s := fun s hs hl => by rw [AHeap.get_put, if_neg hs, AHeap.get_push, if_neg (by omega)]
    have new : ((Q.push (some (.mapo []))).put r1 (some (.mapo (em kI AV.mp (mput M k Q.size))))).get Q.size = some (.mapo (em kS tT [])) := by rw [AHeap.get_put, if_neg (by omega), AHeap.get_push, if_pos rfl]; rfl
    have sz : ((Q.push (some (.mapo []))).put r1 (some (.mapo (em kI AV.mp (mput M k Q.size))))).size = Q.size + 1 := by simp
    generalize (Q.push (some (.mapo []))).put r1 (some (.mapo (em kI AV.mp (mput M k Q.size)))) = Q3 at *
    have k1 : ∀ k', mget (mput M k Q.size) k' = none → ∀ t, C k' t = false := fun k' hk => by
      rw [mget_put] at hk
      split at hk
      · cases hk
      · exact c2 k' hk
    have k2 : ∀ k' ref, mget (mput M k Q.size) k' = some ref → ref ≠ r1 ∧ ref ≠ r2 ∧ ref < Q3.size ∧ ∃ T : List (List UInt8 × Unit), Q3.get ref = some (.mapo (em kS tT T)) ∧ ∀ t, (mget T t).isSome = C k' t := fun k' ref hk => by
      rw [mget_put] at hk
      split at hk
      · rename_i e
        obtain rfl := Option.some.inj hk
        exact ⟨by omega, by omega, by omega, [], new, fun t => by rw [e, c2 k hm t]; rfl⟩
      · obtain ⟨x1, x2, x3, T', x4, x5⟩ := c3 k' ref hk
        exact ⟨x1, x2, by omega, T', by rw [oth ref x1 x3]; exact x4, x5⟩
    have k3 : ∀ k' k'' ref, mget (mput M k Q.size) k' = some ref → mget (mput M k Q.size) k'' = some ref → k' = k'' := fun k' k'' ref h1 h2 => by
      rw [mget_put] at h1 h2
      split at h1
      · split at h2
        · rename_i e1 e2; rw [e1, e2]
        · obtain rfl := Option.some.inj h1
          have := (c3 k'' _ h2).2.2.1; omega
      · split at h2
        · obtain rfl := Option.some.inj h2
          have := (c3 k' _ h1).2.2.1; omega
        · exact c4 k' k'' ref h1 h2
    have h3 : Hp Q3 r1 r2 C D := ⟨h.ne, by omega, by omega, ⟨T2, by rw [oth r2 (Ne.symm h.ne) s2]; exact n1, n2⟩, _, g1, k1, k2, k3⟩
    have hme : mget (mput M k Q.size) k = some Q.size := by rw [mget_put, if_pos rfl]
    obtain ⟨Q4, e1, e2⟩ := h3.grow ⟨_, g1, hme, k1, k2, k3⟩ t
    refine Or.inl ⟨rfl, Q3, .mp Q.size, Q4, u1, ?_, e1, e2⟩
    rw [show AV.int .i64 k = kI k from rfl, mlk_em kI_eq g1, hme]; rfl
end
end Go.Ab
