/- Rows of operations in joined form: what a guard leaves out does not double what follows. -/
import Derived.Test.YtcledejamnnbmaaSh1
set_option linter.unusedVariables false
set_option linter.unusedSimpArgs false
set_option linter.unusedSectionVars false
namespace Go.Ab
def bnS {β : Type} (o : Option (AV × AHeap)) (k : AV → AHeap → Option β) : Option β := match o with
  | some (v, H) => k v H
  | none => none
def bnM {β : Type} (o : Option (AV × Rec × AHeap)) (k : AV → Rec → AHeap → Option β) : Option β := match o with
  | some (v, r, H) => k v r H
  | none => none
def gdS (w : Bool) (o : Option (AV × AHeap)) (H : AHeap) : Option (AV × AHeap) := if w then o else some (undefA, H)
def lft (H : AHeap) (o : Option AV) : Option (AV × AHeap) := o.map fun v => (v, H)
def wnt (v : AV) (w : Bool) : Bool := match v with
  | .bool b => b == w
  | _ => false
def makeJ (H : AHeap) (r : Nat) (o : Option (AV × AObj)) : Option (AV × Rec × AHeap) := match o with
  | some (v, ob) => if (H.get r).isNone then some (v, .made r, H.put r (some ob)) else none
  | none => none
mutual
theorem beqA_refl : ∀ (v : AV), beqA v v = true
  | .bool _ | .int _ _ | .str _ | .nilp | .nils | .nilfn | .nilifc | .nilm | .mp _ | .ptr _ _ | .sl _ _ _ _ | .zs _ _ _ _ | .raw _ => by simp [beqA]
  | .fn f a b => by simp [beqA, beqL_refl a, beqL_refl b]
  | .ifc t a => by simp [beqA, beqA_refl a]
  | .agg a => by simp [beqA, beqL_refl a]
  | .tup a => by simp [beqA, beqL_refl a]
  | .fz z a => by simp [beqA, beqL_refl a]
  | .ow z a => by simp [beqA, beqL_refl a]
  | .cp a o => by simp [beqA, beqL_refl a]
  | .lt z a => by simp [beqA, beqL_refl a]
  | .sk => by simp [beqA]
theorem beqL_refl : ∀ (l : List AV), beqL l l = true
  | [] => by simp [beqL]
  | v :: l => by simp [beqL, beqA_refl v, beqL_refl l]
end

end Go.Ab
/- The evaluator with what follows handed on. -/
set_option linter.unusedVariables false
set_option linter.unusedSimpArgs false
set_option linter.unusedSectionVars false
namespace Go.Ab
theorem bnS_bind {β γ : Type} (o : Option (AV × AHeap)) (k : AV → AHeap → Option β) (g : β → Option γ) : (bnS o k).bind g = bnS o fun v H => (k v H).bind g := by
  cases o with
  | none => rfl
  | some x => rfl
def cndS {β : Type} (v : AV) (a b : Unit → Option β) : Option β := match v with
  | .bool true => a ()
  | .bool false => b ()
  | _ => none
end Go.Ab
