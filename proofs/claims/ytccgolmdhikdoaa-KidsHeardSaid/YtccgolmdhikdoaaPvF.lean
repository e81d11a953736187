import Derived.Test.YtccgolmdhikdoaaPvE
import Derived.Test.YtccgolmdhikdoaaSh10
import Derived.OpenShut
import Derived.Deep.Slices
import Derived.ChangeSame
import Derived.SliceStrings
import Derived.Test.YtccgolmdhikdoaaSh16
set_option linter.unusedVariables false
set_option linter.unusedSimpArgs false
namespace Go.Ab
open Go.Deep Go.ChangeShapes
section
variable {α : Type} {β : Type}
theorem flat_get {g : α → List β} {z : Nat} : ∀ (L : List α) (i : Nat) (v : β), (∀ a ∈ L, (g a).length = z) → (L.flatMap g)[i]? = some v → ∃ q a, L[q]? = some a ∧ q * z ≤ i ∧ i < q * z + z ∧ (g a)[i - q * z]? = some v := by
  intro L
  induction L with
  | nil => intro i v _ h; simp at h
  | cons a L ih =>
    intro i v hg h
    have h0 := hg a List.mem_cons_self
    rw [List.flatMap_cons] at h
    by_cases c : i < z
    · rw [List.getElem?_append_left (by omega)] at h
      exact ⟨0, a, rfl, by omega, by omega, by rw [Nat.zero_mul, Nat.sub_zero]; exact h⟩
    · rw [List.getElem?_append_right (by omega), h0] at h
      obtain ⟨q, b, h1, h2, h3, h4⟩ := ih (i - z) v (fun b hb => hg b (List.mem_cons_of_mem _ hb)) h
      refine ⟨q + 1, b, by simpa using h1, ?_, ?_, ?_⟩
      · rw [Nat.succ_mul]; omega
      · rw [Nat.succ_mul]; omega
      · rw [Nat.succ_mul, show i - (q * z + z) = i - z - q * z by omega]; exact h4
theorem flat_take {g : α → List β} {z : Nat} : ∀ (L : List α) (n : Nat), (∀ a ∈ L, (g a).length = z) → n ≤ L.length → (L.flatMap g).take (n * z) = (L.take n).flatMap g := by
  intro L
  induction L with
  | nil => intro n _ h; simp at h; subst h; simp
  | cons a L ih =>
    intro n hg h
    cases n with
    | zero => simp
    | succ n =>
      have h0 := hg a List.mem_cons_self
      rw [List.flatMap_cons, List.take_succ_cons, List.flatMap_cons, ← ih n (fun b hb => hg b (List.mem_cons_of_mem _ hb)) (by simpa using h)]
      rw [Nat.succ_mul, Nat.add_comm, List.take_append, h0, List.take_of_length_le (by omega), Nat.add_sub_cancel_left]
theorem flat_len {g : α → List β} {z : Nat} : ∀ (L : List α), (∀ a ∈ L, (g a).length = z) → (L.flatMap g).length = L.length * z := by
  intro L
  induction L with
  | nil => intro _; simp
  | cons a L ih =>
    intro hg
    rw [List.flatMap_cons, List.length_append, hg a List.mem_cons_self, ih (fun b hb => hg b (List.mem_cons_of_mem _ hb)), List.length_cons, Nat.succ_mul, Nat.add_comm]
theorem pick_list {p : Nat → α → Prop} : ∀ n, (∀ i, i < n → ∃ a, p i a) → ∃ L : List α, L.length = n ∧ ∀ i a, L[i]? = some a → p i a := by
  intro n
  induction n with
  | zero => intro _; exact ⟨[], rfl, fun i a h => by simp at h⟩
  | succ n ih =>
    intro h
    obtain ⟨L, h1, h2⟩ := ih (fun i hi => h i (by omega))
    obtain ⟨a, ha⟩ := h n (by omega)
    refine ⟨L ++ [a], by simp [h1], fun i b hb => ?_⟩
    by_cases c : i < n
    · rw [List.getElem?_append_left (by omega)] at hb; exact h2 i b hb
    · rw [List.getElem?_append_right (by omega)] at hb
      have : i - L.length = 0 := by
        have := (List.getElem?_eq_some_iff.1 hb).1
        simp at this; omega
      rw [this] at hb
      obtain rfl : a = b := by simpa using hb
      obtain rfl : i = n := by omega
      exact ha
def Els (z : Nat) (f : α → AV) (H : AHeap) (av : AV) (l : List α) : Prop := ((av = .nils ∧ l = []) ∨ ∃ r o c, av = .sl r o l.length c ∧ r < H.size ∧ H.row r o (l.length * z) = some (l.flatMap fun a => (f a).cells) ∧ capOk av = true) ∧
  ∀ a ∈ l, (f a).cells.length = z ∧ (f a).cells.all AV.one = true ∧ (f a).isTup = false ∧ cOk (f a) = true
theorem Els.kept {z : Nat} {f : α → AV} {H H1 : AHeap} {av : AV} {l : List α} (hk : Kept H H1) (h : Els z f H av l) : Els z f H1 av l := by
  refine ⟨?_, h.2⟩
  rcases h.1 with e | ⟨r, o, c, e, hr, hrow, hc⟩
  · exact Or.inl e
  · refine Or.inr ⟨r, o, c, e, Nat.lt_of_lt_of_le hr hk.1, ?_, hc⟩
    rw [row_eq] at hrow ⊢
    rw [hk.2 r hr]; exact hrow
theorem Els.rv {ρ : PRho} {z : Nat} {f : α → AV} {H : AHeap} {av : AV} {l : List α} (h : Els z f H av l) : RV ρ (inPhi H) (.fz z (l.map f)) av := by
  have hre : ∀ l : List α, (∀ a ∈ l, (f a).cells.length = z ∧ (f a).cells.all AV.one = true ∧ (f a).isTup = false ∧ cOk (f a) = true) → RE ρ (inPhi H) z (l.map f) (l.flatMap fun a => (f a).cells) := by
    intro l
    induction l with
    | nil => intro _; simp only [List.map_nil, List.flatMap_nil, RE]
    | cons a l ih =>
      intro hl
      obtain ⟨h1, h2, h3, h4⟩ := hl a List.mem_cons_self
      simp only [List.map_cons, List.flatMap_cons, RE]
      exact ⟨f a, _, rfl, h1, h2, h3, RV.flat h4, ih fun b hb => hl b (List.mem_cons_of_mem _ hb)⟩
  refine RV.fz ?_ (hre l h.2)
  rcases h.1 with ⟨rfl, rfl⟩ | ⟨r, o, c, rfl, hr, hrow, hc⟩
  · exact ⟨rfl, rfl⟩
  · refine ⟨by simp, ?_, fun q e => ?_⟩
    · simp only [inPhi, if_pos hr, List.length_map]
      rw [← row_rowO]; exact hrow
    · subst e
      simpa [capOk] using hc
end
section
variable {P : Program} {r : Reach} {base : Nat} {α : Type}
theorem Laid.elems {HH : Type} {enc : TypeId × Value → HH} {held : Bool} {W : World} {t e : TypeId} {z : Nat} {v : Value} {d : DataW HH} {ps : List MemPlace} {vs : List Value} {avs : List AV} {H : AHeap} (hl : Laid W vs avs H)
    (f : α → AV) (good : α → Prop) (ht : P.underlying t = some (.slice e)) (hz : P.cellsOf e = z) (h0 : 0 < z) (hv : Value.okWide P W r base t v) (hd : DataW.Trod enc P W 0 (fun _ => true) held t v d ps)
    (hf : ∀ a, good a → (f a).cells.length = z ∧ (f a).cells.all AV.one = true ∧ (f a).isTup = false ∧ cOk (f a) = true)
    (hdec : ∀ n cs x, DataW.trod enc P W 0 (fun _ => true) held n e cs = some x → ∃ a, good a ∧ ∀ ρ, concL ρ (f a).cells = some cs) :
    ∃ (av : AV) (l : List α) (H' : AHeap), Laid W (vs ++ [v]) (avs ++ [av]) H' ∧ Kept H H' ∧ Els z f H' av l ∧ l.length ≤ maxLen ∧ ∀ a ∈ l, good a := by
  have hlt : ∀ x ∈ ps, x.block < W.heap.size := by obtain ⟨m, hm⟩ := hd; exact DataW.trod_lt m _ _ _ hm
  obtain ⟨fuel, hfu⟩ := hd
  rcases okWide_sl ht hv with rfl | ⟨blk, off, len, cap, rfl, hb⟩
  · exact ⟨.nils, [], H, hl.plain fun _ => by simp [conc], Kept.refl H, ⟨Or.inl ⟨rfl, rfl⟩, by simp⟩, Nat.zero_le _, by simp⟩
  · rcases open_slice ht hfu with ⟨hcs, _⟩ | ⟨a, len', cap', m, n, D, Pl, hcs, _, hle, hm, hmm, _, hall⟩
    · simp [Value.cells] at hcs
    · simp only [Value.cells, List.cons.injEq, Value.slice.injEq, Option.some.injEq, and_true] at hcs
      obtain ⟨rfl, rfl, rfl⟩ := hcs
      simp only [if_true] at hmm
      subst hmm
      rw [hz] at hall
      obtain ⟨L, hL, hp⟩ := pick_list (p := fun i a => good a ∧ ∀ ρ, ∃ cs', concL ρ (f a).cells = some cs' ∧ W.cells? 0 ((⟨blk, off, none⟩ : Addr).add (i * z)) z = some cs') m (fun i hi => by
        obtain ⟨cs', h1, h2⟩ := hall i hi
        obtain ⟨a, ha, hc⟩ := hdec _ _ _ h2
        exact ⟨a, ha, fun ρ => ⟨cs', hc ρ, h1⟩⟩)
      have hg : ∀ a ∈ L, good a := fun a ha => by obtain ⟨i, hi⟩ := List.getElem?_of_mem ha; exact (hp i a hi).1
      have hlen : ∀ a ∈ L, (f a).cells.length = z := fun a ha => (hf a (hg a ha)).1
      have hcs : ∀ (i : Nat) (u : AV), (L.flatMap fun a => (f a).cells)[i]? = some u → ∃ x, (∀ ρ, conc ρ u = some x) ∧ W.cell? ⟨blk, off + i, none⟩ = some x := by
        intro i u hu
        obtain ⟨q, a, h1, h2, h3, h4⟩ := flat_get L i u hlen hu
        have hq := (hp q a h1).2
        have key : ∀ ρ, ∃ x, conc ρ u = some x ∧ W.cell? ⟨blk, off + i, none⟩ = some x := fun ρ => by
          obtain ⟨cs', c1, c2⟩ := hq ρ
          obtain ⟨x, x1, x2⟩ := concL_get c1 h4
          have := (World.cells?_some c2).2.2 (i - q * z) (by omega)
          rw [addr_add, addr_add, show off + q * z + (i - q * z) = off + i by omega] at this
          exact ⟨x, x1, this.trans x2⟩
        obtain ⟨x0, _, x2⟩ := key (fun _ => none)
        refine ⟨x0, fun ρ => ?_, x2⟩
        obtain ⟨x, y1, y2⟩ := key ρ
        rw [x2] at y2
        rw [y1, Option.some.inj y2]
      have htk := List.length_take_le len L
      refine ⟨_, L.take len, _, hl.sl (z := z) hb hle hcs, (Kept.refl H).push _, ⟨Or.inr ⟨H.size, 0, .ex m, ?_, by rw [AHeap.size_push]; omega, ?_, by simpa [capOk] using hle⟩, fun a ha => hf a (hg a (List.mem_of_mem_take ha))⟩, by omega, fun a ha => hg a (List.mem_of_mem_take ha)⟩
      · rw [List.length_take, Nat.min_eq_left (by omega)]
      · rw [row_eq, get_push_same, objRow_cells, flat_len L hlen, List.length_take, Nat.min_eq_left (by omega), if_pos (by rw [Nat.zero_add]; exact Nat.mul_le_mul_right _ (by omega)), List.drop_zero, flat_take L len hlen (by omega)]
theorem trod_ints {HH : Type} {enc : TypeId × Value → HH} {held : Bool} {W : World} {spare : Nat → Bool} {e u : TypeId} {n : Nat} {k : IntKind} {m : Nat} {cs : List Value} {x : DataW HH × List MemPlace} (he : P.underlying e = some (.array n u)) (hu : P.underlying u = some (.int k)) (hc : P.cellsOf u = 1) (hc2 : P.cellsOf e = n)
    (h : DataW.trod enc P W base spare held m e cs = some x) : ∃ zs : List Int, (zs.length = n ∧ ∀ i ∈ zs, k.min ≤ i ∧ i ≤ k.max) ∧ ∀ ρ, concL ρ (AV.agg (zs.map (AV.int k))).cells = some cs := by
  obtain ⟨xs, m', rfl, _, hl, hlen, hall⟩ := DataW.trod_array he h
  rw [hc2] at hl
  rw [hc] at hall
  have key : ∀ (cs : List Value), (∀ i, i < cs.length → ∃ y, DataW.trod enc P W base spare held m' u ((cs.drop i).take 1) = some y) → ∃ zs : List Int, zs.length = cs.length ∧ (∀ i ∈ zs, k.min ≤ i ∧ i ≤ k.max) ∧ cs = zs.map (Value.int k) := by
    intro cs
    induction cs with
    | nil => intro _; exact ⟨[], rfl, by simp, rfl⟩
    | cons c cs ih =>
      intro hi
      obtain ⟨zs, h1, h2, h3⟩ := ih (fun i hil => by simpa using hi (i + 1) (by simpa using hil))
      obtain ⟨y, hy⟩ := hi 0 (by simp)
      simp only [List.drop_zero, List.take_succ_cons, List.take_zero] at hy
      obtain ⟨w, hw, _, hwf⟩ := DataW.trod_int hu hy
      obtain rfl : c = .int k w := by simpa using hw
      refine ⟨w :: zs, by simp [h1], fun i hi => ?_, by simp [h3]⟩
      rcases List.mem_cons.1 hi with rfl | hi
      · exact wf_range hwf
      · exact h2 i hi
  obtain ⟨zs, h1, h2, h3⟩ := key cs (fun i hi => by
    have := hall i (by omega)
    rw [Nat.mul_one] at this
    exact ⟨xs[i]'(by omega), by rw [this, List.getElem?_eq_getElem (by omega)]⟩)
  refine ⟨zs, ⟨by omega, h2⟩, fun ρ => ?_⟩
  rw [h3]
  show concL ρ (zs.map (AV.int k)) = _
  clear h1 h2 h3
  induction zs with
  | nil => rfl
  | cons z zs ih => exact concL_mk (by simp only [conc]) ih
theorem aggInts_ok {k : IntKind} {z : Nat} (zs : List Int) (h : zs.length = z) : (AV.agg (zs.map (AV.int k))).cells.length = z ∧ (AV.agg (zs.map (AV.int k))).cells.all AV.one = true ∧ (AV.agg (zs.map (AV.int k))).isTup = false ∧ cOk (.agg (zs.map (AV.int k))) = true := by
  have h2 : cOkL (zs.map (AV.int k)) = true := by
    clear h
    induction zs with
    | nil => rfl
    | cons z zs ih => simp only [List.map_cons, cOkL, cOk, ih, Bool.and_self]
  refine ⟨by rw [cells_agg, List.length_map]; exact h, by rw [cells_agg]; simp [AV.one], rfl, by simp only [cOk, h2]⟩
end
end Go.Ab
set_option linter.unusedVariables false
set_option linter.unusedSimpArgs false
set_option linter.unusedSectionVars false
namespace Go.Ab
open Go.RowKit
section
variable {E : Env}
end
end Go.Ab
