/- Maps in the heap: what is looked up, what is written. -/
import Derived.Test.YtccgolmdhikdoaaPvF
set_option linter.unusedVariables false
set_option linter.unusedSimpArgs false
namespace Go.Ab
section
variable {κ α : Type} [DecidableEq κ]
def mget (M : List (κ × α)) (n : κ) : Option α := match M with
  | [] => none
  | (a, x) :: l => if n = a then some x else mget l n
def mput (M : List (κ × α)) (n : κ) (v : α) : List (κ × α) := match M with
  | [] => [(n, v)]
  | (a, x) :: l => if n = a then (n, v) :: l else (a, x) :: mput l n v
theorem mget_cons (a : κ) (x : α) (l : List (κ × α)) (n : κ) : mget ((a, x) :: l) n = if n = a then some x else mget l n := rfl
theorem mput_cons (a : κ) (x : α) (l : List (κ × α)) (n : κ) (v : α) : mput ((a, x) :: l) n v = if n = a then (n, v) :: l else (a, x) :: mput l n v := rfl
theorem mget_put (n m : κ) (v : α) : ∀ M : List (κ × α), mget (mput M n v) m = if m = n then some v else mget M m
  | [] => rfl
  | (a, x) :: l => by
    unfold mput
    by_cases h : n = a
    · subst h
      rw [if_pos rfl]
      unfold mget
      by_cases h2 : m = n <;> simp [h2]
    · rw [if_neg h]
      unfold mget
      rw [mget_put n m v l]
      by_cases h2 : m = a
      · subst h2; rw [if_pos rfl, if_neg (fun e => h e.symm), if_pos rfl]
      · simp [h2]
theorem mput_len (n : κ) (v : α) : ∀ M : List (κ × α), (mput M n v).length = M.length + if (mget M n).isSome then 0 else 1
  | [] => rfl
  | (a, x) :: l => by
    unfold mput mget
    by_cases h : n = a
    · simp [h]
    · simp only [h, if_false, List.length_cons, mput_len n v l]; omega
def em (kE : κ → AV) (g : α → AV) (M : List (κ × α)) : List (AV × AV) := M.map fun p => (kE p.1, g p.2)
variable {q : EqT} {kE : κ → AV} (hk : ∀ a b, eqA q (kE a) (kE b) = some (decide (a = b)))
include hk
theorem findA_em (g : α → AV) (n : κ) : ∀ M : List (κ × α), findA q (kE n) (em kE g M) = some ((mget M n).map g)
  | [] => rfl
  | (a, x) :: l => by
    show (match eqA q (kE n) (kE a) with
      | some true => some (some (g x))
      | some false => findA q (kE n) (em kE g l)
      | none => none) = _
    rw [hk, findA_em g n l]
    rw [mget_cons]
    by_cases h : n = a <;> simp [h]
theorem putA_em (g : α → AV) (n : κ) (v : α) : ∀ M : List (κ × α), putA q (kE n) (g v) (em kE g M) = some (em kE g (mput M n v))
  | [] => rfl
  | (a, x) :: l => by
    show (match eqA q (kE n) (kE a) with
      | some true => some ((kE n, g v) :: em kE g l)
      | some false => (putA q (kE n) (g v) (em kE g l)).map ((kE a, g x) :: ·)
      | none => none) = _
    rw [hk, putA_em g n v l]
    rw [mput_cons]
    by_cases h : n = a <;> simp [h, em]
theorem mlk_em {g : α → AV} {M : List (κ × α)} {Q : AHeap} {r : Nat} (h : Q.get r = some (.mapo (em kE g M))) (z : AV) (ok : Bool) (n : κ) : mlkA Q q z ok (.mp r) (kE n) = some (foundA z ok ((mget M n).map g)) := by
  show (match Q.get r with
    | some (.mapo es) => (findA q (kE n) es).map (foundA z ok)
    | _ => none) = _
  rw [h]
  simp only [findA_em hk, Option.map_some]
theorem mup_em {g : α → AV} {M : List (κ × α)} {Q : AHeap} {r : Nat} (h : Q.get r = some (.mapo (em kE g M))) (n : κ) (v : α) : mupA Q q (.mp r) (kE n) (g v) = some (undefA, Q.put r (some (.mapo (em kE g (mput M n v))))) := by
  show (match Q.get r with
    | some (.mapo es) => (putA q (kE n) (g v) es).map fun es' => (undefA, Q.put r (some (.mapo es')))
    | _ => none) = _
  rw [h]
  simp only [putA_em hk, Option.map_some]
omit hk
omit [DecidableEq κ] in
theorem lnm_em {g : α → AV} {M : List (κ × α)} {Q : AHeap} {r : Nat} (h : Q.get r = some (.mapo (em kE g M))) : lnmA Q (.mp r) = some (.int .i64 M.length) := by
  show (match Q.get r with
    | some (.mapo es) => some (AV.int .i64 es.length)
    | _ => none) = _
  rw [h]
  simp [em]
end
def kI (n : Int) : AV := .int .i64 n
theorem kI_eq (a b : Int) : eqA .i (kI a) (kI b) = some (decide (a = b)) := by simp [kI, eqA]; rfl
theorem get_putS (Q : AHeap) (r : Nat) (o : Option AObj) : (Q.put r o).get r = o := by rw [AHeap.get_put, if_pos rfl]
end Go.Ab
