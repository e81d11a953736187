/- Where a call, or code, ends: what is told of it. -/
import Derived.Test.YtdbbdfmkglgjdaaSh8
import Derived.ChangeSlices
import Derived.SliceStrings
set_option linter.unusedVariables false
set_option linter.unusedSimpArgs false
set_option linter.unusedSectionVars false
namespace Go.Ab
def kN (o : Option (AV × z3)) (Q : AV → z3 → Prop) : Prop := ∃ v H, o = some (v, H) ∧ Q v H
def wh (o : Option (zy × Tau × z3)) (Q : zy → Tau → z3 → Prop) : Prop := ∃ ex τ H, o = some (ex, τ, H) ∧ Q ex τ H
@[simp] theorem zcy (v : AV) (H : z3) (Q : AV → z3 → Prop) : kN (some (v, H)) Q ↔ Q v H :=
 ⟨fun ⟨_, _, e, h⟩ => by obtain ⟨rfl, rfl⟩ := Prod.mk.inj (Option.some.inj e); exact h, fun h => ⟨v, H, rfl, h⟩⟩
@[simp] theorem zcz (Q : AV → z3 → Prop) : kN none Q ↔ False := ⟨fun ⟨_, _, e, _⟩ => (by cases e), False.elim⟩
@[simp] theorem zdQ (c : Prop) [Decidable c] (a b : Option (AV × z3)) (Q : AV → z3 → Prop) : kN (if c then a else b) Q ↔ if c then kN a Q else kN b Q := by
 by_cases h : c <;> simp [h]
@[simp] theorem zc0 (ex : zy) (τ : Tau) (H : z3) (Q : zy → Tau → z3 → Prop) : wh (some (ex, τ, H)) Q ↔ Q ex τ H :=
 ⟨fun ⟨_, _, _, e, h⟩ => by obtain ⟨rfl, e2⟩ := Prod.mk.inj (Option.some.inj e); obtain ⟨rfl, rfl⟩ := Prod.mk.inj e2; exact h, fun h => ⟨ex, τ, H, rfl, h⟩⟩
@[simp] theorem zc1 (Q : zy → Tau → z3 → Prop) : wh none Q ↔ False := ⟨fun ⟨_, _, _, e, _⟩ => (by cases e), False.elim⟩
@[simp] theorem zcA (c : Prop) [Decidable c] (a b : Option (zy × Tau × z3)) (Q : zy → Tau → z3 → Prop) : wh (if c then a else b) Q ↔ if c then wh a Q else wh b Q := by
 by_cases h : c <;> simp [h]
@[congr] theorem zc2 {o o' : Option (AV × z3)} {Q : AV → z3 → Prop} (h : o = o') : kN o Q ↔ kN o' Q := by rw [h]
@[congr] theorem zaU {o o' : Option (zy × Tau × z3)} {Q : zy → Tau → z3 → Prop} (h : o = o') : wh o Q ↔ wh o' Q := by rw [h]
theorem kN.mono {o : Option (AV × z3)} {Q R : AV → z3 → Prop} (h : kN o Q) (hq : ∀ v H, Q v H → R v H) : kN o R := let ⟨v, H, e, q⟩ := h; ⟨v, H, e, hq v H q⟩
theorem wh.mono {o : Option (zy × Tau × z3)} {Q R : zy → Tau → z3 → Prop} (h : wh o Q) (hq : ∀ ex τ H, Q ex τ H → R ex τ H) : wh o R := let ⟨ex, τ, H, e, q⟩ := h; ⟨ex, τ, H, e, hq ex τ H q⟩
theorem kN.bnE {o : Option (zy × Tau × z3)} {k : zy → Tau → z3 → Option (AV × z3)} {Q : AV → z3 → Prop} (h : wh o fun ex τ H => kN (k ex τ H) Q) : kN (bnE o k) Q := by
 obtain ⟨ex, τ, H, rfl, h⟩ := h; exact h
theorem wh.bnE {o : Option (zy × Tau × z3)} {k : zy → Tau → z3 → Option (zy × Tau × z3)} {Q : zy → Tau → z3 → Prop} (h : wh o fun ex τ H => wh (k ex τ H) Q) : wh (bnE o k) Q := by
 obtain ⟨ex, τ, H, rfl, h⟩ := h; exact h
theorem kN.bnS {o : Option (AV × z3)} {k : AV → z3 → Option (AV × z3)} {Q : AV → z3 → Prop} (h : kN o fun v H => kN (k v H) Q) : kN (bnS o k) Q := by
 obtain ⟨v, H, rfl, h⟩ := h; exact h
theorem wh.bnS {o : Option (AV × z3)} {k : AV → z3 → Option (zy × Tau × z3)} {Q : zy → Tau → z3 → Prop} (h : kN o fun v H => wh (k v H) Q) : wh (bnS o k) Q := by
 obtain ⟨v, H, rfl, h⟩ := h; exact h
@[simp] theorem zcB (H : z3) : Z5 H H := Z5.refl H
@[simp] theorem zcC {H H1 : z3} (o : Option zB) (a : Z5 H H1) : Z5 H (H1.push o) := a.push o
@[simp] theorem zdR {H H1 : z3} {r : Nat} (o : Option zB) (a : Z5 H H1) (h : H.size ≤ r) : Z5 H (H1.put r o) := a.put h o
def z2C (args : List AV) (H : z3) : Option (AV × z3) := match args with
 | [] => some (.bool true, H)
 | _ => none
theorem z7M {args : List AV} {H H' : z3} {v : AV} (h : z2C args H = some (v, H')) : args = [] ∧ v = .bool true ∧ H' = H := by
 unfold z2C at h
 split at h
 ·simp only [Option.some.injEq, Prod.mk.injEq] at h
  exact ⟨rfl, h.1.symm, h.2.symm⟩
 ·cases h
end Go.Ab
/- Slices as lists: what is read through them; and arguments that came in. -/
namespace Go.Ab
open Go.RowKit

def ZZ {α : Type} (z : Nat) (dec : List AV → Option α) : Nat → List AV → Option (List α)
 | 0, _ => some []
 | n + 1, cs => match dec (cs.take z), ZZ z dec n (cs.drop z) with
  | some x, some l => some (x :: l)
  | _, _ => none
def rdW {α : Type} (z : Nat) (dec : List AV → Option α) (H : z3) : AV → Option (List α)
 | .nils => some []
 | .sl r o n _ => if r < H.size then match H.row r o (n * z) with
  | some cs => ZZ z dec n cs
  | none => none
  else none
 | _ => none
def elp (z : Nat) (v : AV) (i : Int) : AV := match v with
 | .sl r o _ _ => .ptr r (o + i.toNat * z)
 | _ => z4
theorem K2 {α : Type} {z : Nat} {dec : List AV → Option α} : ∀ {n : Nat} {cs : List AV} {l : List α}, ZZ z dec n cs = some l → l.length = n
 | 0, _, _, h => by simp only [ZZ, Option.some.injEq] at h; subst h; rfl
 | n + 1, cs, l, h => by
  simp only [ZZ] at h
  split at h
  ·rename_i x m h1 h2
   obtain rfl := Option.some.inj h
   simp [K2 h2]
  ·cases h
section
variable {α : Type} {z : Nat} {dec : List AV → Option α} {H : z3} {v : AV} {l : List α}
theorem z7N (h : rdW z dec H v = some l) : (v = .nils ∧ l = []) ∨ ∃ r o c cs, v = .sl r o l.length c ∧ r < H.size ∧ H.row r o (l.length * z) = some cs ∧ ZZ z dec l.length cs = some l := by
 unfold rdW at h
 split at h
 ·exact Or.inl ⟨rfl, (Option.some.inj h).symm⟩
 ·rename_i r o n c
  split at h
  ·rename_i hr
   split at h
   ·rename_i cs hcs
    obtain rfl := K2 h
    exact Or.inr ⟨r, o, c, cs, rfl, hr, hcs, h⟩
   ·cases h
  ·cases h
 ·cases h
end
def z7O (k : IntKind) : List AV → Option Int
 | [.int k' n] => if k' = k then some n else none
 | _ => none
def rdI (k : IntKind) (H : z3) (v : AV) : Option (List Int) := rdW 1 (z7O k) H v
section
variable {k : IntKind} {H : z3} {v : AV} {l : List Int}
theorem z9E {cs : List AV} {n : Int} (h : z7O k cs = some n) : cs = [.int k n] := by
 unfold z7O at h
 split at h
 ·split at h
  ·rename_i e; obtain rfl := Option.some.inj h; rw [e]
  ·cases h
 ·cases h
end
theorem z0i {k : IntKind} : ∀ {n : Nat} {cs : List AV} {l : List Int}, cs.length = n → ZZ 1 (z7O k) n cs = some l → cs = l.map (AV.int k)
 | 0, cs, l, hn, h => by
  simp only [ZZ, Option.some.injEq] at h
  subst h
  simpa using hn
 | n + 1, cs, l, hn, h => by
  simp only [ZZ] at h
  split at h
  ·rename_i x m h1 h2
   obtain rfl := Option.some.inj h
   match cs, hn with
   | c :: cs, hn =>
    simp only [List.take_succ_cons, List.take_zero, List.drop_succ_cons, List.drop_zero] at h1 h2
    have := z9E h1
    simp only [List.cons.injEq, and_true] at this
    subst this
    simp only [List.map_cons, List.cons.injEq, true_and]
    exact z0i (by simpa using hn) h2
  ·cases h
theorem z7P {k : IntKind} {H : z3} {v : AV} {l : List Int} (h : rdI k H v = some l) : (v = .nils ∧ l = []) ∨ ∃ r o c, v = .sl r o l.length c ∧ r < H.size ∧ H.row r o l.length = some (l.map (AV.int k)) := by
 rcases z7N h with ⟨rfl, rfl⟩ | ⟨r, o, c, cs, rfl, hr, hcs, hch⟩
 ·exact Or.inl ⟨rfl, rfl⟩
 ·rw [Nat.mul_one] at hcs
  obtain rfl := z0i (V8 hcs).1 hch
  exact Or.inr ⟨r, o, c, rfl, hr, hcs⟩

def z1v (W : World) (vs : List Value) (avs : List AV) (H : z3) : Prop := ∃ ρ, Sim W.heap.size ρ W H ∧ zd ρ avs = some vs
theorem z9F (W : World) : z1v W [] [] z3.empty := ⟨fun _ => none, z29, rfl⟩
theorem z1v.plain {W : World} {vs : List Value} {avs : List AV} {H : z3} (h : z1v W vs avs H) {v : Value} {av : AV} (hv : ∀ ρ, z8 ρ av = some v) : z1v W (vs ++ [v]) (avs ++ [av]) H := by
 obtain ⟨ρ, hs, hc⟩ := h
 exact ⟨ρ, hs, yd hc (yR (hv ρ) rfl)⟩
theorem z1v.sl {W : World} {vs : List Value} {avs : List AV} {H : z3} (h : z1v W vs avs H) {blk off len cap z : Nat} {cs : List AV} (hb : blk < W.heap.size) (hl : len ≤ cap)
  (hcs : ∀ i v, cs[i]? = some v → ∃ x, (∀ ρ, z8 ρ v = some x) ∧ W.cell? ⟨blk, off + i, none⟩ = some x) :
  z1v W (vs ++ [.slice (some ⟨blk, off, none⟩) len cap]) (avs ++ [.sl H.size 0 len (.ex cap)]) (H.push (some (.cells .ro z cs))) := by
 obtain ⟨ρ, hs, hc⟩ := h
 have hf := hs.fresh
 have hle : ρ.le (ρ.add H.size (Loc.at blk off cap)) := fun r L hr => by
  have := (hs.dom r L hr).1
  simp only [Rho.add]; rw [if_neg (by omega)]; exact hr
 refine ⟨ρ.add H.size (Loc.at blk off cap), ⟨fun r L hr => ?_, fun r L o hr ho => ?_, ?_⟩, yd (zZ hle _ _ hc) (yR ?_ rfl)⟩
 ·simp only [Rho.add] at hr
  split at hr
  ·obtain rfl := Option.some.inj hr
   rename_i e
   exact ⟨by rw [z3.size_push]; omega, hb⟩
  ·exact ⟨by rw [z3.size_push]; have := (hs.dom r L hr).1; omega, (hs.dom r L hr).2⟩
 ·simp only [Rho.add] at hr
  rw [z3.get_push] at ho
  split at hr
  ·rename_i e
   rw [if_pos e] at ho
   obtain rfl := Option.some.inj hr
   obtain rfl := Option.some.inj ho
   refine ⟨hb, fun i v hv => ?_⟩
   obtain ⟨x, h1, h2⟩ := hcs i v hv
   exact ⟨x, h1 _, h2⟩
  ·rename_i e
   rw [if_neg e] at ho
   exact (hs.obj r L o hr ho).mono hle
 ·intro r r' L L' o o' hne hr hr' ho ho' hw hw'
  simp only [Rho.add] at hr hr'
  rw [z3.get_push] at ho ho'
  split at hr
  ·rename_i e
   rw [if_pos e] at ho
   obtain rfl := Option.some.inj ho
   cases hw
  ·rename_i e
   rw [if_neg e] at ho
   split at hr'
   ·rename_i e'
    rw [if_pos e'] at ho'
    obtain rfl := Option.some.inj ho'
    cases hw'
   ·rename_i e'
    rw [if_neg e'] at ho'
    exact hs.inj r r' L L' o o' hne hr hr' ho ho' hw hw'
 ·simp only [z8, Rho.add, if_pos, Loc.at]
  rw [if_pos hl]
  simp
section
variable {P : Program} {w : World} {r : Reach} {base : Nat}
theorem z7Q {t e : TypeId} {v : Value} (ht : P.underlying t = some (.slice e)) (h : Value.okWide P w r base t v) : v = .slice none 0 0 ∨ ∃ blk off len cap, v = .slice (some ⟨blk, off, none⟩) len cap ∧ blk < w.heap.size := by
 simp only [Value.okWide, ht, Cell.okWide] at h
 cases v <;> simp only [Cell.ok, ht] at h
 rename_i a len cap
 cases a with
 | none =>
  cases len <;> cases cap <;> first | exact Or.inl rfl | exact h.elim
 | some a =>
  obtain ⟨blk, off, spot⟩ := a
  obtain ⟨_, _, _, hs, row, n, hsh, _⟩ := h
  simp only at hs hsh
  subst hs
  refine Or.inr ⟨blk, off, len, cap, rfl, Nat.lt_of_not_le fun hge => ?_⟩
  unfold World.shape? at hsh
  rw [Array.getElem?_eq_none hge] at hsh
  cases hsh
def capOk : AV → Bool
 | .sl _ _ n (.ex c) => decide (n ≤ c)
 | _ => true
theorem z1v.ints {HH : Type} {enc : TypeId × Value → HH} {held : Bool} {W : World} {t e : TypeId} {k : IntKind} {v : Value} {d : DataW HH} {ps : List MemPlace} {vs : List Value} {avs : List AV} {H : z3} (hl : z1v W vs avs H)
    (ht : P.underlying t = some (.slice e)) (he : P.underlying e = some (.int k)) (hc : P.cellsOf e = 1) (hv : Value.okWide P W r base t v) (hd : DataW.Trod enc P W 0 (fun _ => true) held t v d ps) :
    ∃ (av : AV) (zs : List Int) (H' : z3), z1v W (vs ++ [v]) (avs ++ [av]) H' ∧ Z5 H H' ∧ rdI k H' av = some zs ∧ (zs.length ≤ maxLen) ∧ (∀ n ∈ zs, (Lit.int k n).wf = true) ∧ capOk av = true := by
  have hlt : ∀ x ∈ ps, x.block < W.heap.size := by obtain ⟨m, hm⟩ := hd; exact DataW.trod_lt m _ _ _ hm
  obtain ⟨fuel, hf⟩ := hd
  rcases z7Q ht hv with rfl | ⟨blk, off, len, cap, rfl, hb⟩
  · exact ⟨.nils, [], H, hl.plain fun _ => by simp [z8], Z5.refl H, rfl, Nat.zero_le _, by simp, rfl⟩
  · rcases ChangeShapes.open_ints ht he hc hf with ⟨hcs, _⟩ | ⟨x, l, c, zs, hcs, _, hle, hm, hz, hx, hcell, hwz⟩
    · simp [Value.cells] at hcs
    · simp only [Value.cells, List.cons.injEq, Value.slice.injEq, Option.some.injEq, and_true] at hcs
      obtain ⟨rfl, rfl, rfl⟩ := hcs
      simp only [if_true] at hz
      have hcs : ∀ (i : Nat) (u : AV), (zs.map fun n => AV.int k n)[i]? = some u → ∃ x, (∀ ρ, z8 ρ u = some x) ∧ W.cell? ⟨blk, off + i, none⟩ = some x := by
        intro i u hu
        rw [List.getElem?_map] at hu
        obtain ⟨n, hn, rfl⟩ := Option.map_eq_some_iff.1 hu
        refine ⟨.int k n, fun ρ => by simp [z8], ?_⟩
        have := hcell i (List.getElem?_eq_some_iff.1 hn).1
        rw [jF, List.getD_eq_getElem?_getD, hn] at this
        exact this
      refine ⟨_, zs.take len, _, hl.sl (z := 1) hb hle hcs, (Z5.refl H).push _, ?_, ?_, fun n hn => hwz n (List.mem_of_mem_take hn), ?_⟩
      · unfold rdI rdW
        simp only [z3.size_push, Nat.lt_succ_self, if_true, q6, YD, jY, List.length_map, Nat.mul_one, Nat.zero_add, List.drop_zero]
        rw [if_pos (by omega)]
        simp only []
        have key : ∀ (zs : List Int) (n : Nat), n ≤ zs.length → ZZ 1 (z7O k) n ((zs.map fun n => AV.int k n).take n) = some (zs.take n) := by
          intro zs
          induction zs with
          | nil => intro n hn; obtain rfl : n = 0 := by simpa using hn
                   rfl
          | cons x zs ih =>
            intro n hn
            cases n with
            | zero => rfl
            | succ n =>
              simp only [List.map_cons, List.take_succ_cons, ZZ, List.take_zero, z7O, if_true, List.drop_succ_cons, List.drop_zero]
              rw [ih n (by simpa using hn)]
        exact key zs len (by omega)
      · have := List.length_take_le len zs
        omega
      · simpa [capOk] using hle
end
end Go.Ab
