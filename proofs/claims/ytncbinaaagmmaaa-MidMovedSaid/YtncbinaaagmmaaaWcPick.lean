/- What numbers from which choices are read come to. -/
import Derived.Test.YtncbinaaagmmaaaBme
import Derived.Test.YtncbinaaagmmaaaSh12
set_option linter.unusedVariables false
set_option linter.unusedSimpArgs false
namespace Go.Proofs.Ytncbinaaagmmaaa.Bm
open Go.Ab
set_option maxRecDepth 100000

/-- Choices at r: of L, n are read. -/
def Pk (H : AHeap) (r : Nat) (L : List Int) (n : Nat) : Prop := ∃ lv, H.get r = some (.cells .exact 2 [lv, .int .i64 n]) ∧ rdI .u8 H lv = some L ∧ r < H.size ∧ n ≤ L.length ∧ L.length ≤ 1000000 ∧ (∀ x ∈ L, 0 ≤ x ∧ x ≤ 255) ∧ ∀ a o m c, lv = .sl a o m c → a < r

theorem Pk.same {Q : Nat → Prop} {H H1 : AHeap} {r : Nat} {L : List Int} {n : Nat} (h : Pk H r L n) (hk : Same Q H H1) (hq : ∀ s, s ≤ r → Q s) : Pk H1 r L n := by
  obtain ⟨lv, h1, h2, h3, h4, h5, h6, h7⟩ := h
  refine ⟨lv, by rw [hk.get r (hq r (Nat.le_refl r))]; exact h1, rd_same hk (fun a o m c e => hq a (Nat.le_of_lt (h7 a o m c e))) h2, Nat.lt_of_lt_of_le h3 hk.size, h4, h5, h6, h7⟩

/-- A choice. -/
def num (L : List Int) (n : Nat) (m : Int) : Int := if n < L.length then (L.getD n 0).tmod m else 0
def nxt (L : List Int) (n : Nat) : Nat := if n < L.length then n + 1 else n
theorem num_range {L : List Int} {n : Nat} {m : Int} (hm : 0 < m) (hr : ∀ x ∈ L, 0 ≤ x ∧ x ≤ 255) : 0 ≤ num L n m ∧ num L n m < m := by
  unfold num
  split
  · rename_i h
    have : 0 ≤ L.getD n 0 := by
      rw [List.getD_eq_getElem?_getD, List.getElem?_eq_getElem h]
      exact (hr _ (List.getElem_mem h)).1
    rw [Int.tmod_eq_emod_of_nonneg this]
    exact ⟨Int.emod_nonneg _ (by omega), Int.emod_lt_of_pos _ hm⟩
  · omega

section
variable {s : Specs} {H : AHeap}

theorem call_Num (hn : s.lookup 50 = none) {r : Nat} {L : List Int} {n : Nat} {m : Int} (h : Pk H r L n) (hm : 0 < m) :
    ∃ H', callV (env s) 50 [.ptr r 0, .int .i64 m] H = some (.int .i64 (num L n m), H') ∧ Pk H' r L (nxt L n) ∧ Same (fun s => s ≠ r) H H' := by
  obtain ⟨lv, h1, h2, h3, h4, h5, h6, h7⟩ := h
  rw [f_pleachmade_Picks_Num hn, p_pleachmade_Picks_Num]
  by_cases hc : n < L.length
  · have e1 : ¬ ((L.length : Int) ≤ n) := by omega
    have e2 : ¬ (m < 1) := by omega
    have e3 : IntKind.i64.wrap ((n : Int) + 1) = (n : Int) + 1 := wrap_i64 (by omega) (by omega)
    have e4 : IntKind.i64.wrap ((n : Int) + 1 - 1) = (n : Int) := by rw [show (n : Int) + 1 - 1 = n by omega]; exact wrap_i64 (by omega) (by omega)
    have e5 : (n : Int) < L.length := by omega
    have e10 : IntKind.i64.wrap (n : Int) = n := wrap_i64 (by omega) (by omega)
    have e6 : ¬ m = 0 := by omega
    have hx : 0 ≤ L.getD n 0 ∧ L.getD n 0 ≤ 255 := by
      rw [List.getD_eq_getElem?_getD, List.getElem?_eq_getElem hc]
      exact h6 _ (List.getElem_mem hc)
    have e7 : IntKind.i64.wrap (L.getD n 0) = L.getD n 0 := wrap_i64 (by omega) (by omega)
    have hk : Same (fun s => s ≠ r) H (H.put r (some (.cells .exact 2 [lv, .int .i64 ((n : Int) + 1)]))) := (Same.refl _ _).put (by simp) _
    have h2' : rdI .u8 (H.put r (some (.cells .exact 2 [lv, .int .i64 ((n : Int) + 1)]))) lv = some L := rd_same hk (fun a o m c e => Nat.ne_of_lt (h7 a o m c e)) h2
    have e8 := rdI_iad h2' .i64 (i := n) (by omega) e5
    have e9 := rdI_ld h2' (i := n) (by omega) e5
    simp only [Int.toNat_natCast] at e9
    refine ⟨H.put r (some (.cells .exact 2 [lv, .int .i64 ((n : Int) + 1)])), ?_, ⟨lv, ?_, h2', by simpa using h3, ?_, h5, h6, h7⟩, hk⟩
    · simp [-List.getD_eq_getElem?_getD, h1, rdI_len h2, e1, e2, e3, e4, e6, e7, e8, e9, e10, num, hc]
    · simp [nxt, hc]
    · simp [nxt, hc]; omega
  · have e1 : (L.length : Int) ≤ n := by omega
    refine ⟨H, ?_, ⟨lv, ?_, h2, h3, ?_, h5, h6, h7⟩, Same.refl _ _⟩
    · simp [h1, rdI_len h2, e1, num, hc]
    · simp [nxt, hc, h1]
    · simpa [nxt, hc] using h4

theorem call_Made (hn : s.lookup 29 = none) {lv : AV} {L : List Int} (h : rdI .u8 H lv = some L) (hl : L.length ≤ 1000000) (hr : ∀ x ∈ L, 0 ≤ x ∧ x ≤ 255) :
    ∃ H', callV (env s) 29 [lv] H = some (.ptr H.size 0, H') ∧ Pk H' H.size L 0 ∧ Kept H H' ∧ H'.size = H.size + 1 := by
  refine ⟨H.push (some (.cells .exact 2 [lv, .int .i64 0])), ?_, ⟨lv, by simp, rdI_kept ((Kept.refl H).push _) h, by simp, by omega, hl, hr, ?_⟩, (Kept.refl H).push _, by simp⟩
  · rw [f_pleachmade_Made hn, p_pleachmade_Made]
    rcases rdI_cases h with ⟨rfl, rfl⟩ | ⟨r, o, c, rfl, _⟩ <;> simp
  · intro a o m c e
    rcases rdI_cases h with ⟨rfl, rfl⟩ | ⟨r, o, c, rfl, hlt, _⟩
    · cases e
    · cases e; exact hlt

/-- Some numbers, rising, at least so many. -/
def Rise (i : Int) (l : List Int) : Prop := l.Pairwise (· < ·) ∧ ∀ x ∈ l, 1 ≤ x ∧ x < i
theorem Rise.snoc {i : Int} {l : List Int} (h : Rise i l) (hi : 1 ≤ i) : Rise (i + 1) (l ++ [i]) := by
  refine ⟨?_, fun x hx => ?_⟩
  · rw [List.pairwise_append]
    exact ⟨h.1, by simp, fun a ha b hb => by simp at hb; subst hb; exact (h.2 a ha).2⟩
  · rcases List.mem_append.1 hx with hx | hx
    · have := h.2 x hx; omega
    · simp at hx; omega
theorem Rise.up {i : Int} {l : List Int} (h : Rise i l) : Rise (i + 1) l := ⟨h.1, fun x hx => by have := h.2 x hx; omega⟩
theorem Rise.len {i : Nat} : ∀ {l : List Int}, Rise (i + 1) l → l.length ≤ i := by
  have key : ∀ (l : List Int) (a b : Int), l.Pairwise (· < ·) → (∀ x ∈ l, a ≤ x ∧ x < b) → a ≤ b → (l.length : Int) ≤ b - a := by
    intro l
    induction l with
    | nil => intro a b _ _ h; simp; omega
    | cons x l ih =>
      intro a b hp hr hab
      rw [List.pairwise_cons] at hp
      have hx := hr x (by simp)
      have := ih (x + 1) b hp.2 (fun y hy => ⟨by have := hp.1 y hy; omega, (hr y (by simp [hy])).2⟩) (by omega)
      simp; omega
  intro l h
  have := key l 1 (i + 1) h.1 h.2 (by omega)
  omega

theorem loop_Some (hn : s.lookup 50 = none) {r lo : Nat} {L : List Int} {least : Int} (hr : r < lo) : ∀ (k i : Nat) (n : Nat) (v : AV) (l : List Int) (H : AHeap), i + k = 9 → 1 ≤ i → lo ≤ H.size → Pk H r L n → Own .i64 lo H v l → Rise i l →
      (least ≤ 8 → 8 - ((i : Int) - 1) ≥ least - l.length) → (0 ≤ least ∧ least ≤ 8) →
    EndsE (L_pleachmade_Picks_Some_1 s (.ptr r 0) (.int .i64 least) v (.int .i64 i) H) fun ex τ H' => ex = .exit 0 ∧ ∃ v' l' n', τ = X_pleachmade_Picks_Some_1_x0 v' ∧ Own .i64 lo H' v' l' ∧ Rise 9 l' ∧ least ≤ l'.length ∧ Pk H' r L n' ∧ Same (fun q => q < lo ∧ q ≠ r) H H' := by
  intro k
  induction k with
  | zero =>
    intro i n v l H hi h1 hlo hp ho hri hle h8
    obtain rfl : i = 9 := by omega
    have key : L_pleachmade_Picks_Some_1 s (.ptr r 0) (.int .i64 least) v (.int .i64 (9 : Nat)) H = some (.exit 0, X_pleachmade_Picks_Some_1_x0 v, H) := by
      rw [L_pleachmade_Picks_Some_1_eq, p_pleachmade_Picks_Some_1]
      simp
    exact ⟨_, _, _, key, rfl, v, l, n, rfl, ho, by simpa using hri, by have := hle h8.2; omega, hp, Same.refl _ _⟩
  | succ k ih =>
    intro i n v l H hi h1 hlo hp ho hri hle h8
    rw [L_pleachmade_Picks_Some_1_eq, p_pleachmade_Picks_Some_1]
    obtain ⟨H1, e, hp1, hs1⟩ := call_Num hn hp (m := 2) (by omega)
    have h : (i : Int) ≤ 8 := by omega
    have h5 : IntKind.i64.wrap ((i : Int) + 1) = (i : Int) + 1 := wrap_i64 (by omega) (by omega)
    have e6 : IntKind.i64.wrap (8 - (i : Int)) = 8 - i := wrap_i64 (by omega) (by omega)
    have hll : l.length ≤ 8 := by
      have := Rise.len (i := i - 1) (l := l) (by rw [show ((i - 1 : Nat) : Int) + 1 = i by omega]; exact hri)
      omega
    have e7 : IntKind.i64.wrap (least - (l.length : Int)) = least - l.length := wrap_i64 (by omega) (by omega)
    have ho1 : Own .i64 lo H1 v l := ho.same hs1.size fun q h1 h2 => hs1.get q (by omega)
    have hlo1 : lo ≤ H1.size := Nat.le_trans hlo hs1.size
    have hq1 : Same (fun q => q < lo ∧ q ≠ r) H H1 := hs1.weaken fun q hq => hq.2
    by_cases hc : num L n 2 = 0 ∨ 8 - (i : Int) < least - l.length
    · -- it is taken
      obtain ⟨v', H2, eK, ho2, hs2⟩ := app_one (bytes := 8) (i : Int) ho1 hlo1 (by simp only [maxBytes]; omega) (by simp only [maxBytes]; omega)
      have hp2 : Pk H2 r L (nxt L n) := hp1.same hs2 fun q hq => by omega
      have hrec := ih (i + 1) (nxt L n) v' (l ++ [(i : Int)]) H2 (by omega) (by omega) (Nat.le_trans hlo1 hs2.size) hp2 ho2 (by have := hri.snoc (by omega); simpa using this) (fun h => by have := hle h; simp; omega) h8
      have hfin := hrec.mono fun ex τ H' h => by
        obtain ⟨h0, v2, l2, n2, h1, h2, h3, h4, h5, h6⟩ := h
        exact (⟨h0, v2, l2, n2, h1, h2, h3, h4, h5, (hq1.trans (hs2.weaken fun q hq => hq.1)).trans h6⟩ : ex = .exit 0 ∧ ∃ v' l' n', τ = X_pleachmade_Picks_Some_1_x0 v' ∧ Own .i64 lo H' v' l' ∧ Rise 9 l' ∧ least ≤ l'.length ∧ Pk H' r L n' ∧ Same (fun q => q < lo ∧ q ≠ r) H H')
      by_cases hc1 : num L n 2 = 0
      · simp [h, e, hc1, eK, p_pleachmade_Picks_Some_0, h5, L_pleachmade_Picks_Some_1_fold]
        simpa using hfin
      · have hc2 : 8 - (i : Int) < least - l.length := by omega
        simp [h, e, hc1, OwnR.len ho1, e6, e7, hc2, eK, p_pleachmade_Picks_Some_0, h5, L_pleachmade_Picks_Some_1_fold]
        simpa using hfin
    · have hc1 : ¬ num L n 2 = 0 := fun h => hc (Or.inl h)
      have hc2 : ¬ (8 - (i : Int) < least - l.length) := fun h => hc (Or.inr h)
      have hrec := ih (i + 1) (nxt L n) v l H1 (by omega) (by omega) hlo1 hp1 ho1 (by have := hri.up; simpa using this) (fun h => by have := hle h; omega) h8
      have hfin := hrec.mono fun ex τ H' h => by
        obtain ⟨h0, v2, l2, n2, h1, h2, h3, h4, h5, h6⟩ := h
        exact (⟨h0, v2, l2, n2, h1, h2, h3, h4, h5, hq1.trans h6⟩ : ex = .exit 0 ∧ ∃ v' l' n', τ = X_pleachmade_Picks_Some_1_x0 v' ∧ Own .i64 lo H' v' l' ∧ Rise 9 l' ∧ least ≤ l'.length ∧ Pk H' r L n' ∧ Same (fun q => q < lo ∧ q ≠ r) H H')
      simp [h, e, hc1, OwnR.len ho1, e6, e7, hc2, p_pleachmade_Picks_Some_0, h5, L_pleachmade_Picks_Some_1_fold]
      simpa using hfin

theorem call_Some (hn : s.lookup 50 = none) (hn2 : s.lookup 31 = none) {r n : Nat} {L : List Int} {least : Int} (hp : Pk H r L n) (h8 : 0 ≤ least ∧ least ≤ 8) :
    EndsV (callV (env s) 31 [.ptr r 0, .int .i64 least] H) fun v H' => ∃ l n', rdI .i64 H' v = some l ∧ Rise 9 l ∧ least ≤ l.length ∧ Pk H' r L n' ∧ Same (fun q => q < H.size ∧ q ≠ r) H H' := by
  have hr : r < H.size := by obtain ⟨_, _, _, h, _⟩ := hp; exact h
  rw [f_pleachmade_Picks_Some hn2, p_pleachmade_Picks_Some]
  simp only [L_pleachmade_Picks_Some_1_fold]
  refine EndsV.bnE ((loop_Some (lo := H.size) hn hr 8 1 n .nils [] H rfl (by omega) (Nat.le_refl _) hp (Own.nils _ _ _) ⟨by simp, by simp⟩ (fun _ => by simp; omega) h8).mono ?_)
  rintro ex τ H' ⟨rfl, v', l', n', rfl, ho, hri, hl, hp', hs⟩
  simp [p_pleachmade_Picks_Some_2]
  exact ⟨l', ho.rd, hri, hl, ⟨n', hp'⟩, hs⟩
end
end Go.Proofs.Ytncbinaaagmmaaa.Bm
