/- slices.Delete at the heap: a slice of one's own with elements taken out. -/
import Derived.Test.YtldehmfhgmmkhaaSh14
set_option linter.unusedVariables false
set_option linter.unusedSimpArgs false
namespace Go.Ab
def Roomy (k : Kd) (c : ACap) (cs : List AV) (n z : Nat) : Prop := (k = .opened ∧ c = .mi 0) ∨ ∃ q, k = .exact ∧ c = .ex q ∧ n ≤ q ∧ cs.length = q * z
section
variable {H : AHeap} {r n i j z : Nat} {k : Kd} {c : ACap} {cs : List AV}
theorem cap_ge (hz : 0 < z) (hg : H.get r = some (.cells k z cs)) (hr : Roomy k c cs n z) (hn : n * z ≤ cs.length) : n ≤ capLe H z r n c := by
  rcases hr with ⟨rfl, rfl⟩ | ⟨q, rfl, rfl, h1, h2⟩
  · simp only [capLe, hg]
    split <;> omega
  · exact h1
theorem del_to (hr : Roomy k c cs n z) (hg : H.get r = some (.cells k z cs)) (hz : 0 < z) (hn : n * z ≤ cs.length) (hi : i ≤ n) {kk : IntKind} : slcP H z (.sl r 0 n c) none (some (.int kk (i : Int))) none = some (.sl r 0 i c) := by
  have hc := cap_ge hz hg hr hn
  simp only [slcP, slcA, bndo_none, bndo_int]
  rw [if_pos ⟨by omega, by omega⟩]
  rcases hr with ⟨rfl, rfl⟩ | ⟨q, rfl, rfl, h1, h2⟩
  · simp
  · by_cases h0 : q = 0 <;> simp [h0]
theorem del_from (hr : Roomy k c cs n z) (hg : H.get r = some (.cells k z cs)) (hz : 0 < z) (hn : n * z ≤ cs.length) (hj : j ≤ n) {kk : IntKind} {hi : Option AV} (hhi : hi = none ∨ hi = some (.int .i64 (n : Int))) :
    ∃ y, slcP H z (.sl r 0 n c) (some (.int kk (j : Int))) hi none = some y ∧ y.slen = n - j ∧ srcRow H z y = some ((cs.drop (j * z)).take ((n - j) * z)) ∧ (j < n → ∃ c', y = .sl r (j * z) (n - j) c') := by
  have hc := cap_ge hz hg hr hn
  have hb : bndo hi n (capLe H z r n c) = some n := by
    rcases hhi with rfl | rfl
    · rfl
    · simp only [bndo_int]; rw [if_pos ⟨by omega, by omega⟩]; simp
  have hjz : j * z ≤ n * z := Nat.mul_le_mul_right z hj
  have hsub : (n - j) * z = n * z - j * z := Nat.sub_mul n j z
  have hrow : ∀ c', srcRow H z (.sl r (j * z) (n - j) c') = some ((cs.drop (j * z)).take ((n - j) * z)) := fun c' => by
    simp only [srcRow, row_eq, hg, objRow_cells]
    rw [if_pos (by omega)]
  simp only [slcP, slcA, hb, bndo_int]
  rw [if_pos ⟨by omega, by omega⟩]
  simp only [Int.toNat_natCast]
  rcases hr with ⟨rfl, rfl⟩ | ⟨q, rfl, rfl, h1, h2⟩
  · simp only
    by_cases h0 : j = 0
    · subst h0
      rw [if_pos rfl]
      have := hrow (.mi 0)
      simp only [Nat.zero_mul, Nat.sub_zero] at this ⊢
      exact ⟨_, rfl, rfl, this, fun _ => ⟨_, rfl⟩⟩
    · rw [if_neg h0]
      by_cases h3 : j < capLe H z r n (.mi 0)
      · rw [if_pos h3]
        simp only [Nat.zero_add, Option.map_some]
        exact ⟨_, rfl, rfl, hrow _, fun _ => ⟨_, rfl⟩⟩
      · rw [if_neg h3, hg]
        have e : n = j := by omega
        simp only [Option.isSome_some, if_true, Option.map_some]
        refine ⟨_, rfl, by simp [AV.slen]; omega, ?_, fun h => by omega⟩
        simp only [srcRow, e, Nat.sub_self, Nat.zero_mul, List.take_zero]
  · simp only [Option.map_some]
    by_cases h3 : q = j
    · rw [if_pos h3]
      have e : n = j := by omega
      refine ⟨_, rfl, rfl, ?_, fun h => by omega⟩
      simp only [srcRow, row_eq, hg, objRow_cells, e, Nat.sub_self, Nat.zero_mul, List.take_zero, Nat.add_zero, List.drop_zero]
      rw [if_pos (Nat.zero_le _)]
    · rw [if_neg h3, Nat.zero_add]
      exact ⟨_, rfl, rfl, hrow _, fun _ => ⟨_, rfl⟩⟩
theorem del_app (hr : Roomy k c cs n z) (hg : H.get r = some (.cells k z cs)) (hz : 0 < z) (hn : n * z ≤ cs.length) (hij : i ≤ j) (hj : j ≤ n) {bytes : Nat} (hb : n * bytes ≤ maxBytes) (hb2 : n ≤ maxBytes) (ha : (cs.take (n * z)).all AV.one = true) {y : AV} (hy : y.slen = n - j) (hs : srcRow H z y = some ((cs.drop (j * z)).take ((n - j) * z))) :
    appA H z bytes (.sl r 0 i c) y = some (.sl r 0 (i + (n - j)) c, if n = j then H else H.put r (some (.cells k z (splice cs (i * z) ((cs.drop (j * z)).take ((n - j) * z)))))) := by
  have hjz : j * z ≤ n * z := Nat.mul_le_mul_right z hj
  have hiz : i * z ≤ j * z := Nat.mul_le_mul_right z hij
  have hsub : (n - j) * z = n * z - j * z := Nat.sub_mul n j z
  have hl : ((cs.drop (j * z)).take ((n - j) * z)).length = (n - j) * z := by simp; omega
  have hall : ((cs.drop (j * z)).take ((n - j) * z)).all AV.one = true := by
    have e : (cs.drop (j * z)).take ((n - j) * z) = (cs.take (n * z)).drop (j * z) := by rw [List.drop_take]; congr 1
    rw [e]
    rw [List.all_eq_true] at ha ⊢
    exact fun x hx => ha x (List.mem_of_mem_drop hx)
  have hk : k = .exact ∨ k = .opened := by rcases hr with ⟨h, _⟩ | ⟨_, h, _⟩ <;> simp [h]
  have hkr : ¬ k = .ro := by rcases hk with h | h <;> rw [h] <;> simp
  simp only [appA, hs, hy]
  rw [if_neg (by omega)]
  by_cases e : n = j
  · have e0 : n - j = 0 := by omega
    simp only [appOnto, e0]
    simp [e]
  · rw [if_neg e]
    have hbm : (i + (n - j)) * bytes ≤ n * bytes := Nat.mul_le_mul_right _ (by omega)
    have hw : H.write r (i * z) ((cs.drop (j * z)).take ((n - j) * z)) = some (H.put r (some (.cells k z (splice cs (i * z) ((cs.drop (j * z)).take ((n - j) * z)))))) := by
      unfold AHeap.write
      rw [hg]
      simp only
      rw [if_neg hkr, if_pos ⟨by omega, hall⟩]
    have him : (i + (n - j)) * z ≤ n * z := Nat.mul_le_mul_right _ (by omega)
    unfold appOnto
    simp only
    rw [if_neg (by omega), if_pos ⟨by omega, by omega⟩, hg]
    rcases hr with ⟨rfl, rfl⟩ | ⟨q, rfl, rfl, h1, h2⟩
    · simp only
      rw [if_pos ⟨Or.inr (by first | trivial | rfl), by first | trivial | rfl, by omega, by rw [Nat.zero_add]; omega⟩, Nat.zero_add, hw]
      rfl
    · simp only
      rw [if_pos (by omega), if_pos ⟨Or.inl (by first | trivial | rfl), by first | trivial | rfl⟩, Nat.zero_add, hw]
      rfl
theorem repl_all {zs : List AV} (h : zs.all AV.one = true) : ∀ n, (repl n zs).all AV.one = true := by
  intro n
  induction n with
  | zero => rfl
  | succ n ih => simp only [repl_succ, List.all_append, h, ih, Bool.and_self]
theorem del_clr (hr : Roomy k c cs n z) (hg : H.get r = some (.cells k z cs)) (hz : 0 < z) (hn : n * z ≤ cs.length) (hi : i < n) {zs : List AV} (hzs : zs.length = z) (hza : zs.all AV.one = true) {kk kk' : IntKind} :
    ∃ y, slcP H z (.sl r 0 i c) (some (.int kk (i : Int))) (some (.int kk' (n : Int))) none = some y ∧ clrA H z zs y = some (undefA, H.put r (some (.cells k z (splice cs (i * z) (repl (n - i) zs))))) := by
  have hc : n ≤ capLe H z r i c := by
    rcases hr with ⟨rfl, rfl⟩ | ⟨q, rfl, rfl, h1, h2⟩
    · simp only [capLe, hg]
      have : n ≤ cs.length / z := (Nat.le_div_iff_mul_le hz).2 hn
      rw [if_pos (And.intro (Or.inr (by first | trivial | rfl)) ⟨by first | trivial | rfl, hz⟩)]
      omega
    · exact h1
  have hb : bndo (some (.int kk' (n : Int))) i (capLe H z r i c) = some n := by
    simp only [bndo_int]; rw [if_pos ⟨by omega, by omega⟩]; simp
  have hsub : (n - i) * z = n * z - i * z := Nat.sub_mul n i z
  have hiz : i * z ≤ n * z := Nat.mul_le_mul_right z (by omega)
  have hkr : ¬ k = .ro := by rcases hr with ⟨h, _⟩ | ⟨_, h, _⟩ <;> rw [h] <;> simp
  have hne : zs ≠ [] := fun e => by rw [e] at hzs; simp at hzs; omega
  have hclr : ∀ c', clrA H z zs (.sl r (i * z) (n - i) c') = some (undefA, H.put r (some (.cells k z (splice cs (i * z) (repl (n - i) zs))))) := fun c' => by
    have rl := repl_length (n - i) zs
    rw [hzs] at rl
    simp only [clrA]
    rw [if_pos ⟨hzs, hne⟩]
    unfold AHeap.write
    rw [hg]
    simp only
    rw [if_neg hkr, if_pos ⟨by omega, repl_all hza _⟩]
    rfl
  simp only [slcP, slcA, hb, bndo_int]
  rw [if_pos ⟨by omega, by omega⟩]
  simp only [Int.toNat_natCast]
  rcases hr with ⟨rfl, rfl⟩ | ⟨q, rfl, rfl, h1, h2⟩
  · simp only
    by_cases h0 : i = 0
    · subst h0
      rw [if_pos rfl]
      have := hclr (.mi 0)
      simp only [Nat.zero_mul, Nat.sub_zero] at this ⊢
      exact ⟨_, rfl, this⟩
    · rw [if_neg h0, if_pos (by omega)]
      simp only [Nat.zero_add, Option.map_some]
      exact ⟨_, rfl, hclr _⟩
  · simp only [Option.map_some]
    rw [if_neg (by omega), Nat.zero_add]
    exact ⟨_, rfl, hclr _⟩
theorem del_mid (hr : Roomy k c cs n z) (hg : H.get r = some (.cells k z cs)) (hz : 0 < z) (hn : n * z ≤ cs.length) (hij : i ≤ j) (hj : j ≤ n) {k1 k2 k3 : IntKind} :
    ∃ y, slcP H z (.sl r 0 n c) (some (.int k1 (i : Int))) (some (.int k2 (j : Int))) (some (.int k3 (n : Int))) = some y := by
  have hc := cap_ge hz hg hr hn
  simp only [slcP, slcA, bnd]
  rw [if_pos ⟨by omega, by omega⟩]
  simp only [Int.toNat_natCast]
  rw [if_pos ⟨by omega, by omega⟩]
  simp only [Int.toNat_natCast, bndo_int]
  rw [if_pos ⟨by omega, by omega⟩]
  exact ⟨_, rfl⟩
end
def roomyB (k : Kd) (c : ACap) (cs : List AV) (n z : Nat) : Bool := match k, c with
  | .opened, .mi 0 => true
  | .exact, .ex q => decide (n ≤ q ∧ cs.length = q * z)
  | _, _ => false
theorem roomy_of {k : Kd} {c : ACap} {cs : List AV} {n z : Nat} (h : roomyB k c cs n z = true) : Roomy k c cs n z := by
  unfold roomyB at h
  split at h
  · exact Or.inl ⟨rfl, rfl⟩
  · have h := of_decide_eq_true h
    exact Or.inr ⟨_, rfl, rfl, h.1, h.2⟩
  · cases h
def delCs (cs : List AV) (n i j z : Nat) : List AV := if n = j then cs else splice cs (i * z) ((cs.drop (j * z)).take ((n - j) * z))
def delH (H : AHeap) (r : Nat) (k : Kd) (cs zs : List AV) (n i j z : Nat) : AHeap :=
  (if n = j then H else H.put r (some (.cells k z (delCs cs n i j z)))).put r (some (.cells k z (splice (delCs cs n i j z) ((i + (n - j)) * z) (repl (n - (i + (n - j))) zs))))
def gDelG (z bytes : Nat) (zs : List AV) : List AV → AHeap → Option (AV × AHeap)
  | [.sl r 0 n c, .int .i64 i, .int .i64 j], H => match H.get r with
    | some (.cells k z' cs) => if z' = z ∧ 0 < z ∧ zs.length = z ∧ zs.all AV.one = true ∧ roomyB k c cs n z = true ∧ n * z ≤ cs.length ∧ (cs.take (n * z)).all AV.one = true ∧ 0 ≤ i ∧ i ≤ j ∧ j ≤ n ∧ n * bytes ≤ maxBytes ∧ n ≤ maxBytes then
        (if i = j then some (.sl r 0 n c, H) else some (.sl r 0 (i.toNat + (n - j.toNat)) c, delH H r k cs zs n i.toNat j.toNat z)) else none
    | _ => none
  | _, _ => none
theorem del_steps {H : AHeap} {r n i j z bytes : Nat} {k : Kd} {c : ACap} {cs zs : List AV} (hr : Roomy k c cs n z) (hg : H.get r = some (.cells k z cs)) (hz : 0 < z) (hzs : zs.length = z) (hza : zs.all AV.one = true) (hn : n * z ≤ cs.length) (ha : (cs.take (n * z)).all AV.one = true) (hij : i < j) (hj : j ≤ n) (hb : n * bytes ≤ maxBytes) (hb2 : n ≤ maxBytes) {k1 k2 : IntKind} :
    slcP H z (.sl r 0 n c) none (some (.int k1 (i : Int))) none = some (.sl r 0 i c) ∧ ∃ y, slcP H z (.sl r 0 n c) (some (.int k2 (j : Int))) none none = some y ∧
    ∃ H1, appS H z bytes zs (.sl r 0 i c) y = some (.sl r 0 (i + (n - j)) c, H1) ∧
    ∃ y2, slcP H1 z (.sl r 0 (i + (n - j)) c) (some (.int .i64 ((i + (n - j) : Nat) : Int))) (some (.int .i64 (n : Int))) none = some y2 ∧ clrA H1 z zs y2 = some (undefA, delH H r k cs zs n i j z) := by
  refine ⟨del_to hr hg hz hn (by omega), ?_⟩
  obtain ⟨y, y1, y2, y3, _⟩ := del_from (kk := k2) hr hg hz hn hj (Or.inl rfl)
  refine ⟨y, y1, (if n = j then H else H.put r (some (.cells k z (delCs cs n i j z)))), ?_, ?_⟩
  · unfold appS
    rw [if_pos hzs, del_app hr hg hz hn (by omega) hj hb hb2 ha y2 y3]
    by_cases e : n = j
    · rw [if_pos e, if_pos e]
    · rw [if_neg e, if_neg e]; unfold delCs; rw [if_neg e]
  · have hjz : j * z ≤ n * z := Nat.mul_le_mul_right z hj
    have hiz : i * z ≤ j * z := Nat.mul_le_mul_right z (by omega)
    have hsub : (n - j) * z = n * z - j * z := Nat.sub_mul n j z
    have hlen : (delCs cs n i j z).length = cs.length := by
      unfold delCs
      split
      · rfl
      · refine splice_length _ _ _ ?_
        simp only [List.length_take, List.length_drop]
        omega
    have hg1 : (if n = j then H else H.put r (some (.cells k z (delCs cs n i j z)))).get r = some (.cells k z (delCs cs n i j z)) := by
      by_cases e : n = j
      · rw [if_pos e, hg]; unfold delCs; rw [if_pos e]
      · rw [if_neg e, get_put_same]
    have hr1 : Roomy k c (delCs cs n i j z) n z := by
      rcases hr with h | ⟨q, h1, h2, h3, h4⟩
      · exact Or.inl h
      · exact Or.inr ⟨q, h1, h2, h3, by rw [hlen]; exact h4⟩
    exact del_clr (kk := .i64) (kk' := .i64) hr1 hg1 hz (by rw [hlen]; exact hn) (by omega) hzs hza
theorem SpecOk.run {P : Program} {E0 E : Env} (hE : EnvOk P E0) (hst : Strips E0 E) {f : Nat} (hf : E0.spec f = none) {g : List AV → AHeap → Option (AV × AHeap)}
    (h : ∀ args H v H', g args H = some (v, H') → callV E f args H = some (v, H')) : SpecOk P f g := by
  intro B ρ w H args xs v H' hB hs hx hg
  obtain ⟨n, hn⟩ := callV_iff.1 (strips_call hst (h args H v H' hg))
  obtain ⟨h1, h2⟩ := (sound hE n).1 f args H v H' hf hn
  exact Or.inl ⟨h1, h2 B ρ w xs hB hs hx⟩
end Go.Ab
