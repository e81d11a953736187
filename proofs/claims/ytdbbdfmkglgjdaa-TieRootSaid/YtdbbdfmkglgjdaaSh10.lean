/- Where a call, or code, ends: what is told of it. -/
import Derived.Test.YtdbbdfmkglgjdaaSh8
import Derived.ChangeSlices
import Derived.SliceStrings
set_option linter.unusedVariables false
set_option linter.unusedSimpArgs false
set_option linter.unusedSectionVars false
namespace Go.Ab
def EndsV (o : Option (AV × AHeap)) (Q : AV → AHeap → Prop) : Prop := ∃ v H, o = some (v, H) ∧ Q v H
def EndsE (o : Option (AExit × Tau × AHeap)) (Q : AExit → Tau → AHeap → Prop) : Prop := ∃ ex τ H, o = some (ex, τ, H) ∧ Q ex τ H
@[simp] theorem ends_some (v : AV) (H : AHeap) (Q : AV → AHeap → Prop) : EndsV (some (v, H)) Q ↔ Q v H :=
  ⟨fun ⟨_, _, e, h⟩ => by obtain ⟨rfl, rfl⟩ := Prod.mk.inj (Option.some.inj e); exact h, fun h => ⟨v, H, rfl, h⟩⟩
@[simp] theorem ends_none (Q : AV → AHeap → Prop) : EndsV none Q ↔ False := ⟨fun ⟨_, _, e, _⟩ => (by cases e), False.elim⟩
@[simp] theorem ends_ite (c : Prop) [Decidable c] (a b : Option (AV × AHeap)) (Q : AV → AHeap → Prop) : EndsV (if c then a else b) Q ↔ if c then EndsV a Q else EndsV b Q := by
  by_cases h : c <;> simp [h]
@[simp] theorem endsE_some (ex : AExit) (τ : Tau) (H : AHeap) (Q : AExit → Tau → AHeap → Prop) : EndsE (some (ex, τ, H)) Q ↔ Q ex τ H :=
  ⟨fun ⟨_, _, _, e, h⟩ => by obtain ⟨rfl, e2⟩ := Prod.mk.inj (Option.some.inj e); obtain ⟨rfl, rfl⟩ := Prod.mk.inj e2; exact h, fun h => ⟨ex, τ, H, rfl, h⟩⟩
@[simp] theorem endsE_none (Q : AExit → Tau → AHeap → Prop) : EndsE none Q ↔ False := ⟨fun ⟨_, _, _, e, _⟩ => (by cases e), False.elim⟩
@[simp] theorem endsE_ite (c : Prop) [Decidable c] (a b : Option (AExit × Tau × AHeap)) (Q : AExit → Tau → AHeap → Prop) : EndsE (if c then a else b) Q ↔ if c then EndsE a Q else EndsE b Q := by
  by_cases h : c <;> simp [h]
@[congr] theorem ends_congr {o o' : Option (AV × AHeap)} {Q : AV → AHeap → Prop} (h : o = o') : EndsV o Q ↔ EndsV o' Q := by rw [h]
@[congr] theorem endsE_congr {o o' : Option (AExit × Tau × AHeap)} {Q : AExit → Tau → AHeap → Prop} (h : o = o') : EndsE o Q ↔ EndsE o' Q := by rw [h]
theorem EndsV.mono {o : Option (AV × AHeap)} {Q R : AV → AHeap → Prop} (h : EndsV o Q) (hq : ∀ v H, Q v H → R v H) : EndsV o R := let ⟨v, H, e, q⟩ := h; ⟨v, H, e, hq v H q⟩
theorem EndsE.mono {o : Option (AExit × Tau × AHeap)} {Q R : AExit → Tau → AHeap → Prop} (h : EndsE o Q) (hq : ∀ ex τ H, Q ex τ H → R ex τ H) : EndsE o R := let ⟨ex, τ, H, e, q⟩ := h; ⟨ex, τ, H, e, hq ex τ H q⟩
theorem EndsV.bnE {o : Option (AExit × Tau × AHeap)} {k : AExit → Tau → AHeap → Option (AV × AHeap)} {Q : AV → AHeap → Prop} (h : EndsE o fun ex τ H => EndsV (k ex τ H) Q) : EndsV (bnE o k) Q := by
  obtain ⟨ex, τ, H, rfl, h⟩ := h; exact h
theorem EndsE.bnE {o : Option (AExit × Tau × AHeap)} {k : AExit → Tau → AHeap → Option (AExit × Tau × AHeap)} {Q : AExit → Tau → AHeap → Prop} (h : EndsE o fun ex τ H => EndsE (k ex τ H) Q) : EndsE (bnE o k) Q := by
  obtain ⟨ex, τ, H, rfl, h⟩ := h; exact h
theorem EndsV.bnS {o : Option (AV × AHeap)} {k : AV → AHeap → Option (AV × AHeap)} {Q : AV → AHeap → Prop} (h : EndsV o fun v H => EndsV (k v H) Q) : EndsV (bnS o k) Q := by
  obtain ⟨v, H, rfl, h⟩ := h; exact h
theorem EndsE.bnS {o : Option (AV × AHeap)} {k : AV → AHeap → Option (AExit × Tau × AHeap)} {Q : AExit → Tau → AHeap → Prop} (h : EndsV o fun v H => EndsE (k v H) Q) : EndsE (bnS o k) Q := by
  obtain ⟨v, H, rfl, h⟩ := h; exact h
@[simp] theorem kept_refl (H : AHeap) : Kept H H := Kept.refl H
@[simp] theorem kept_push {H H1 : AHeap} (o : Option AObj) (a : Kept H H1) : Kept H (H1.push o) := a.push o
@[simp] theorem kept_put {H H1 : AHeap} {r : Nat} (o : Option AObj) (a : Kept H H1) (h : H.size ≤ r) : Kept H (H1.put r o) := a.put h o
def gTrue (args : List AV) (H : AHeap) : Option (AV × AHeap) := match args with
  | [] => some (.bool true, H)
  | _ => none
theorem gTrue_inv {args : List AV} {H H' : AHeap} {v : AV} (h : gTrue args H = some (v, H')) : args = [] ∧ v = .bool true ∧ H' = H := by
  unfold gTrue at h
  split at h
  · simp only [Option.some.injEq, Prod.mk.injEq] at h
    exact ⟨rfl, h.1.symm, h.2.symm⟩
  · cases h
end Go.Ab
/- Slices as lists: what is read through them; and arguments that came in. -/
set_option linter.unusedVariables false
set_option linter.unusedSimpArgs false
set_option linter.unusedSectionVars false
namespace Go.Ab
open Go.RowKit

def chunks {α : Type} (z : Nat) (dec : List AV → Option α) : Nat → List AV → Option (List α)
  | 0, _ => some []
  | n + 1, cs => match dec (cs.take z), chunks z dec n (cs.drop z) with
    | some x, some l => some (x :: l)
    | _, _ => none
def rdW {α : Type} (z : Nat) (dec : List AV → Option α) (H : AHeap) : AV → Option (List α)
  | .nils => some []
  | .sl r o n _ => if r < H.size then match H.row r o (n * z) with
    | some cs => chunks z dec n cs
    | none => none
    else none
  | _ => none
def elp (z : Nat) (v : AV) (i : Int) : AV := match v with
  | .sl r o _ _ => .ptr r (o + i.toNat * z)
  | _ => undefA
theorem chunks_length {α : Type} {z : Nat} {dec : List AV → Option α} : ∀ {n : Nat} {cs : List AV} {l : List α}, chunks z dec n cs = some l → l.length = n
  | 0, _, _, h => by simp only [chunks, Option.some.injEq] at h; subst h; rfl
  | n + 1, cs, l, h => by
    simp only [chunks] at h
    split at h
    · rename_i x m h1 h2
      obtain rfl := Option.some.inj h
      simp [chunks_length h2]
    · cases h
section
variable {α : Type} {z : Nat} {dec : List AV → Option α} {H : AHeap} {v : AV} {l : List α}
theorem rdW_cases (h : rdW z dec H v = some l) : (v = .nils ∧ l = []) ∨ ∃ r o c cs, v = .sl r o l.length c ∧ r < H.size ∧ H.row r o (l.length * z) = some cs ∧ chunks z dec l.length cs = some l := by
  unfold rdW at h
  split at h
  · exact Or.inl ⟨rfl, (Option.some.inj h).symm⟩
  · rename_i r o n c
    split at h
    · rename_i hr
      split at h
      · rename_i cs hcs
        obtain rfl := chunks_length h
        exact Or.inr ⟨r, o, c, cs, rfl, hr, hcs, h⟩
      · cases h
    · cases h
  · cases h
end
def decI (k : IntKind) : List AV → Option Int
  | [.int k' n] => if k' = k then some n else none
  | _ => none
def rdI (k : IntKind) (H : AHeap) (v : AV) : Option (List Int) := rdW 1 (decI k) H v
section
variable {k : IntKind} {H : AHeap} {v : AV} {l : List Int}
theorem decI_inv {cs : List AV} {n : Int} (h : decI k cs = some n) : cs = [.int k n] := by
  unfold decI at h
  split at h
  · split at h
    · rename_i e; obtain rfl := Option.some.inj h; rw [e]
    · cases h
  · cases h
end
theorem chunksI_inv {k : IntKind} : ∀ {n : Nat} {cs : List AV} {l : List Int}, cs.length = n → chunks 1 (decI k) n cs = some l → cs = l.map (AV.int k)
  | 0, cs, l, hn, h => by
    simp only [chunks, Option.some.injEq] at h
    subst h
    simpa using hn
  | n + 1, cs, l, hn, h => by
    simp only [chunks] at h
    split at h
    · rename_i x m h1 h2
      obtain rfl := Option.some.inj h
      match cs, hn with
      | c :: cs, hn =>
        simp only [List.take_succ_cons, List.take_zero, List.drop_succ_cons, List.drop_zero] at h1 h2
        have := decI_inv h1
        simp only [List.cons.injEq, and_true] at this
        subst this
        simp only [List.map_cons, List.cons.injEq, true_and]
        exact chunksI_inv (by simpa using hn) h2
    · cases h
theorem rdI_cases {k : IntKind} {H : AHeap} {v : AV} {l : List Int} (h : rdI k H v = some l) : (v = .nils ∧ l = []) ∨ ∃ r o c, v = .sl r o l.length c ∧ r < H.size ∧ H.row r o l.length = some (l.map (AV.int k)) := by
  rcases rdW_cases h with ⟨rfl, rfl⟩ | ⟨r, o, c, cs, rfl, hr, hcs, hch⟩
  · exact Or.inl ⟨rfl, rfl⟩
  · rw [Nat.mul_one] at hcs
    obtain rfl := chunksI_inv (row_get hcs).1 hch
    exact Or.inr ⟨r, o, c, rfl, hr, hcs⟩

def Laid (W : World) (vs : List Value) (avs : List AV) (H : AHeap) : Prop := ∃ ρ, Sim W.heap.size ρ W H ∧ concL ρ avs = some vs
theorem laid_nil (W : World) : Laid W [] [] AHeap.empty := ⟨fun _ => none, sim_empty, rfl⟩
theorem Laid.plain {W : World} {vs : List Value} {avs : List AV} {H : AHeap} (h : Laid W vs avs H) {v : Value} {av : AV} (hv : ∀ ρ, conc ρ av = some v) : Laid W (vs ++ [v]) (avs ++ [av]) H := by
  obtain ⟨ρ, hs, hc⟩ := h
  exact ⟨ρ, hs, concL_append hc (concL_mk (hv ρ) rfl)⟩
theorem Laid.sl {W : World} {vs : List Value} {avs : List AV} {H : AHeap} (h : Laid W vs avs H) {blk off len cap z : Nat} {cs : List AV} (hb : blk < W.heap.size) (hl : len ≤ cap)
    (hcs : ∀ i v, cs[i]? = some v → ∃ x, (∀ ρ, conc ρ v = some x) ∧ W.cell? ⟨blk, off + i, none⟩ = some x) :
    Laid W (vs ++ [.slice (some ⟨blk, off, none⟩) len cap]) (avs ++ [.sl H.size 0 len (.ex cap)]) (H.push (some (.cells .ro z cs))) := by
  obtain ⟨ρ, hs, hc⟩ := h
  have hf := hs.fresh
  have hle : ρ.le (ρ.add H.size (Loc.at blk off cap)) := fun r L hr => by
    have := (hs.dom r L hr).1
    simp only [Rho.add]; rw [if_neg (by omega)]; exact hr
  refine ⟨ρ.add H.size (Loc.at blk off cap), ⟨fun r L hr => ?_, fun r L o hr ho => ?_, ?_⟩, concL_append (concL_mono hle _ _ hc) (concL_mk ?_ rfl)⟩
  · simp only [Rho.add] at hr
    split at hr
    · obtain rfl := Option.some.inj hr
      rename_i e
      exact ⟨by rw [AHeap.size_push]; omega, hb⟩
    · exact ⟨by rw [AHeap.size_push]; have := (hs.dom r L hr).1; omega, (hs.dom r L hr).2⟩
  · simp only [Rho.add] at hr
    rw [AHeap.get_push] at ho
    split at hr
    · rename_i e
      rw [if_pos e] at ho
      obtain rfl := Option.some.inj hr
      obtain rfl := Option.some.inj ho
      refine ⟨hb, fun i v hv => ?_⟩
      obtain ⟨x, h1, h2⟩ := hcs i v hv
      exact ⟨x, h1 _, h2⟩
    · rename_i e
      rw [if_neg e] at ho
      exact (hs.obj r L o hr ho).mono hle
  · intro r r' L L' o o' hne hr hr' ho ho' hw hw'
    simp only [Rho.add] at hr hr'
    rw [AHeap.get_push] at ho ho'
    split at hr
    · rename_i e
      rw [if_pos e] at ho
      obtain rfl := Option.some.inj ho
      cases hw
    · rename_i e
      rw [if_neg e] at ho
      split at hr'
      · rename_i e'
        rw [if_pos e'] at ho'
        obtain rfl := Option.some.inj ho'
        cases hw'
      · rename_i e'
        rw [if_neg e'] at ho'
        exact hs.inj r r' L L' o o' hne hr hr' ho ho' hw hw'
  · simp only [conc, Rho.add, if_pos, Loc.at]
    rw [if_pos hl]
    simp
section
variable {P : Program} {w : World} {r : Reach} {base : Nat}
theorem okWide_sl {t e : TypeId} {v : Value} (ht : P.underlying t = some (.slice e)) (h : Value.okWide P w r base t v) : v = .slice none 0 0 ∨ ∃ blk off len cap, v = .slice (some ⟨blk, off, none⟩) len cap ∧ blk < w.heap.size := by
  simp only [Value.okWide, ht, Cell.okWide] at h
  cases v <;> simp only [Cell.ok, ht] at h
  rename_i a len cap
  cases a with
  | none =>
    cases len <;> cases cap <;> first | exact Or.inl rfl | exact h.elim
  | some a =>
    obtain ⟨blk, off, spot⟩ := a
    obtain ⟨_, _, _, hs, row, n, hsh, _⟩ := h
    simp only at hs hsh
    subst hs
    refine Or.inr ⟨blk, off, len, cap, rfl, Nat.lt_of_not_le fun hge => ?_⟩
    unfold World.shape? at hsh
    rw [Array.getElem?_eq_none hge] at hsh
    cases hsh
def capOk : AV → Bool
  | .sl _ _ n (.ex c) => decide (n ≤ c)
  | _ => true
theorem Laid.ints {HH : Type} {enc : TypeId × Value → HH} {held : Bool} {W : World} {t e : TypeId} {k : IntKind} {v : Value} {d : DataW HH} {ps : List MemPlace} {vs : List Value} {avs : List AV} {H : AHeap} (hl : Laid W vs avs H)
    (ht : P.underlying t = some (.slice e)) (he : P.underlying e = some (.int k)) (hc : P.cellsOf e = 1) (hv : Value.okWide P W r base t v) (hd : DataW.Trod enc P W 0 (fun _ => true) held t v d ps) :
    ∃ (av : AV) (zs : List Int) (H' : AHeap), Laid W (vs ++ [v]) (avs ++ [av]) H' ∧ Kept H H' ∧ rdI k H' av = some zs ∧ (zs.length ≤ maxLen) ∧ (∀ n ∈ zs, (Lit.int k n).wf = true) ∧ capOk av = true := by
  have hlt : ∀ x ∈ ps, x.block < W.heap.size := by obtain ⟨m, hm⟩ := hd; exact DataW.trod_lt m _ _ _ hm
  obtain ⟨fuel, hf⟩ := hd
  rcases okWide_sl ht hv with rfl | ⟨blk, off, len, cap, rfl, hb⟩
  · exact ⟨.nils, [], H, hl.plain fun _ => by simp [conc], Kept.refl H, rfl, Nat.zero_le _, by simp, rfl⟩
  · rcases ChangeShapes.open_ints ht he hc hf with ⟨hcs, _⟩ | ⟨x, l, c, zs, hcs, _, hle, hm, hz, hx, hcell, hwz⟩
    · simp [Value.cells] at hcs
    · simp only [Value.cells, List.cons.injEq, Value.slice.injEq, Option.some.injEq, and_true] at hcs
      obtain ⟨rfl, rfl, rfl⟩ := hcs
      simp only [if_true] at hz
      have hcs : ∀ (i : Nat) (u : AV), (zs.map fun n => AV.int k n)[i]? = some u → ∃ x, (∀ ρ, conc ρ u = some x) ∧ W.cell? ⟨blk, off + i, none⟩ = some x := by
        intro i u hu
        rw [List.getElem?_map] at hu
        obtain ⟨n, hn, rfl⟩ := Option.map_eq_some_iff.1 hu
        refine ⟨.int k n, fun ρ => by simp [conc], ?_⟩
        have := hcell i (List.getElem?_eq_some_iff.1 hn).1
        rw [addr_add, List.getD_eq_getElem?_getD, hn] at this
        exact this
      refine ⟨_, zs.take len, _, hl.sl (z := 1) hb hle hcs, (Kept.refl H).push _, ?_, ?_, fun n hn => hwz n (List.mem_of_mem_take hn), ?_⟩
      · unfold rdI rdW
        simp only [AHeap.size_push, Nat.lt_succ_self, if_true, row_eq, get_push_same, objRow_cells, List.length_map, Nat.mul_one, Nat.zero_add, List.drop_zero]
        rw [if_pos (by omega)]
        simp only []
        have key : ∀ (zs : List Int) (n : Nat), n ≤ zs.length → chunks 1 (decI k) n ((zs.map fun n => AV.int k n).take n) = some (zs.take n) := by
          intro zs
          induction zs with
          | nil => intro n hn; obtain rfl : n = 0 := by simpa using hn
                   rfl
          | cons x zs ih =>
            intro n hn
            cases n with
            | zero => rfl
            | succ n =>
              simp only [List.map_cons, List.take_succ_cons, chunks, List.take_zero, decI, if_true, List.drop_succ_cons, List.drop_zero]
              rw [ih n (by simpa using hn)]
        exact key zs len (by omega)
      · have := List.length_take_le len zs
        omega
      · simpa [capOk] using hle
end
end Go.Ab
