/- slices.Delete at the heap: a slice of one's own with elements taken out. -/
import Derived.Test.YtcledejamnnbmaaSh14
import Derived.Test.YtcledejamnnbmaaPvE
import Derived.Test.YtcledejamnnbmaaSh10
import Derived.OpenShut
import Derived.Deep.Slices
import Derived.ChangeSame
import Derived.SliceStrings
set_option linter.unusedVariables false
set_option linter.unusedSimpArgs false
namespace Go.Ab
section
variable {H : AHeap} {r n i j z : Nat} {k : Kd} {c : ACap} {cs : List AV}
end
theorem SpecOk.run {P : Program} {E0 E : Env} (hE : EnvOk P E0) (hst : Strips E0 E) {f : Nat} (hf : E0.spec f = none) {g : List AV → AHeap → Option (AV × AHeap)}
    (h : ∀ args H v H', g args H = some (v, H') → callV E f args H = some (v, H')) : SpecOk P f g := by
  intro B ρ w H args xs v H' hB hs hx hg
  obtain ⟨n, hn⟩ := callV_iff.1 (strips_call hst (h args H v H' hg))
  obtain ⟨h1, h2⟩ := (sound hE n).1 f args H v H' hf hn
  exact Or.inl ⟨h1, h2 B ρ w xs hB hs hx⟩
end Go.Ab
set_option linter.unusedVariables false
set_option linter.unusedSimpArgs false
namespace Go.Ab
open Go.Deep Go.ChangeShapes
section
variable {α : Type} {β : Type}
def Els (z : Nat) (f : α → AV) (H : AHeap) (av : AV) (l : List α) : Prop := ((av = .nils ∧ l = []) ∨ ∃ r o c, av = .sl r o l.length c ∧ r < H.size ∧ H.row r o (l.length * z) = some (l.flatMap fun a => (f a).cells) ∧ capOk av = true) ∧
  ∀ a ∈ l, (f a).cells.length = z ∧ (f a).cells.all AV.one = true ∧ (f a).isTup = false ∧ cOk (f a) = true
theorem Els.rv {ρ : PRho} {z : Nat} {f : α → AV} {H : AHeap} {av : AV} {l : List α} (h : Els z f H av l) : RV ρ (inPhi H) (.fz z (l.map f)) av := by
  have hre : ∀ l : List α, (∀ a ∈ l, (f a).cells.length = z ∧ (f a).cells.all AV.one = true ∧ (f a).isTup = false ∧ cOk (f a) = true) → RE ρ (inPhi H) z (l.map f) (l.flatMap fun a => (f a).cells) := by
    intro l
    induction l with
    | nil => intro _; simp only [List.map_nil, List.flatMap_nil, RE]
    | cons a l ih =>
      intro hl
      obtain ⟨h1, h2, h3, h4⟩ := hl a List.mem_cons_self
      simp only [List.map_cons, List.flatMap_cons, RE]
      exact ⟨f a, _, rfl, h1, h2, h3, RV.flat h4, ih fun b hb => hl b (List.mem_cons_of_mem _ hb)⟩
  refine RV.fz ?_ (hre l h.2)
  rcases h.1 with ⟨rfl, rfl⟩ | ⟨r, o, c, rfl, hr, hrow, hc⟩
  · exact ⟨rfl, rfl⟩
  · refine ⟨by simp, ?_, fun q e => ?_⟩
    · simp only [inPhi, if_pos hr, List.length_map]
      rw [← row_rowO]; exact hrow
    · subst e
      simpa [capOk] using hc
end
section
variable {P : Program} {r : Reach} {base : Nat} {α : Type}
end
end Go.Ab
set_option linter.unusedVariables false
set_option linter.unusedSimpArgs false
set_option linter.unusedSectionVars false
namespace Go.Ab
open Go.RowKit
section
variable {E : Env}
end
end Go.Ab
/- Maps in the heap: what is looked up, what is written. -/
set_option linter.unusedVariables false
set_option linter.unusedSimpArgs false
namespace Go.Ab
section
variable {κ α : Type} [DecidableEq κ]
def mget (M : List (κ × α)) (n : κ) : Option α := match M with
  | [] => none
  | (a, x) :: l => if n = a then some x else mget l n
def mput (M : List (κ × α)) (n : κ) (v : α) : List (κ × α) := match M with
  | [] => [(n, v)]
  | (a, x) :: l => if n = a then (n, v) :: l else (a, x) :: mput l n v
theorem mget_cons (a : κ) (x : α) (l : List (κ × α)) (n : κ) : mget ((a, x) :: l) n = if n = a then some x else mget l n := rfl
theorem mput_cons (a : κ) (x : α) (l : List (κ × α)) (n : κ) (v : α) : mput ((a, x) :: l) n v = if n = a then (n, v) :: l else (a, x) :: mput l n v := rfl
theorem mget_put (n m : κ) (v : α) : ∀ M : List (κ × α), mget (mput M n v) m = if m = n then some v else mget M m
  | [] => rfl
  | (a, x) :: l => by
    unfold mput
    by_cases h : n = a
    · subst h
      rw [if_pos rfl]
      unfold mget
      by_cases h2 : m = n <;> simp [h2]
    · rw [if_neg h]
      unfold mget
      rw [mget_put n m v l]
      by_cases h2 : m = a
      · subst h2; rw [if_pos rfl, if_neg (fun e => h e.symm), if_pos rfl]
      · simp [h2]
def em (kE : κ → AV) (g : α → AV) (M : List (κ × α)) : List (AV × AV) := M.map fun p => (kE p.1, g p.2)
variable {q : EqT} {kE : κ → AV} (hk : ∀ a b, eqA q (kE a) (kE b) = some (decide (a = b)))
include hk
theorem findA_em (g : α → AV) (n : κ) : ∀ M : List (κ × α), findA q (kE n) (em kE g M) = some ((mget M n).map g)
  | [] => rfl
  | (a, x) :: l => by
    show (match eqA q (kE n) (kE a) with
      | some true => some (some (g x))
      | some false => findA q (kE n) (em kE g l)
      | none => none) = _
    rw [hk, findA_em g n l]
    rw [mget_cons]
    by_cases h : n = a <;> simp [h]
theorem putA_em (g : α → AV) (n : κ) (v : α) : ∀ M : List (κ × α), putA q (kE n) (g v) (em kE g M) = some (em kE g (mput M n v))
  | [] => rfl
  | (a, x) :: l => by
    show (match eqA q (kE n) (kE a) with
      | some true => some ((kE n, g v) :: em kE g l)
      | some false => (putA q (kE n) (g v) (em kE g l)).map ((kE a, g x) :: ·)
      | none => none) = _
    rw [hk, putA_em g n v l]
    rw [mput_cons]
    by_cases h : n = a <;> simp [h, em]
theorem mlk_em {g : α → AV} {M : List (κ × α)} {Q : AHeap} {r : Nat} (h : Q.get r = some (.mapo (em kE g M))) (z : AV) (ok : Bool) (n : κ) : mlkA Q q z ok (.mp r) (kE n) = some (foundA z ok ((mget M n).map g)) := by
  show (match Q.get r with
    | some (.mapo es) => (findA q (kE n) es).map (foundA z ok)
    | _ => none) = _
  rw [h]
  simp only [findA_em hk, Option.map_some]
theorem mup_em {g : α → AV} {M : List (κ × α)} {Q : AHeap} {r : Nat} (h : Q.get r = some (.mapo (em kE g M))) (n : κ) (v : α) : mupA Q q (.mp r) (kE n) (g v) = some (undefA, Q.put r (some (.mapo (em kE g (mput M n v))))) := by
  show (match Q.get r with
    | some (.mapo es) => (putA q (kE n) (g v) es).map fun es' => (undefA, Q.put r (some (.mapo es')))
    | _ => none) = _
  rw [h]
  simp only [putA_em hk, Option.map_some]
omit hk
end
def kI (n : Int) : AV := .int .i64 n
theorem kI_eq (a b : Int) : eqA .i (kI a) (kI b) = some (decide (a = b)) := by simp [kI, eqA]; rfl
def tT : Unit → AV := fun _ => .bool true
abbrev setI (M : List (Int × Unit)) : AObj := .mapo (em kI tT M)
def isin (M : List (Int × Unit)) (n : Int) : Bool := (mget M n).isSome
theorem isin_put (M : List (Int × Unit)) (n m : Int) : isin (mput M n ()) m = (decide (m = n) || isin M m) := by
  unfold isin
  rw [mget_put]
  by_cases h : m = n <;> simp [h]
theorem setI_lk {M : List (Int × Unit)} {Q : AHeap} {r : Nat} (h : Q.get r = some (setI M)) (n : Int) : mlkA Q .i (.bool false) false (.mp r) (.int .i64 n) = some (.bool (isin M n)) := by
  rw [show AV.int .i64 n = kI n from rfl, mlk_em kI_eq h]
  unfold isin
  cases mget M n <;> rfl
theorem setI_up {M : List (Int × Unit)} {Q : AHeap} {r : Nat} (h : Q.get r = some (setI M)) (n : Int) : mupA Q .i (.mp r) (.int .i64 n) (.bool true) = some (undefA, Q.put r (some (setI (mput M n ())))) := mup_em (g := tT) (v := ()) kI_eq h n
theorem get_putS (Q : AHeap) (r : Nat) (o : Option AObj) : (Q.put r o).get r = o := by rw [AHeap.get_put, if_pos rfl]
end Go.Ab
