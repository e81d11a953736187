/- Rows of operations in joined form: what a guard leaves out does not double what follows. -/
import Derived.Test.YtmogepinpdibdaaSh1
set_option linter.unusedVariables false
set_option linter.unusedSimpArgs false
set_option linter.unusedSectionVars false
namespace Go.Ab

def bnS {β : Type} (o : Option (AV × AHeap)) (k : AV → AHeap → Option β) : Option β := match o with
  | some (v, H) => k v H
  | none => none
def bnR {β : Type} (o : Option (AV × Rec)) (k : AV → Rec → Option β) : Option β := match o with
  | some (v, r) => k v r
  | none => none
def bnM {β : Type} (o : Option (AV × Rec × AHeap)) (k : AV → Rec → AHeap → Option β) : Option β := match o with
  | some (v, r, H) => k v r H
  | none => none
/-- A guarded operation. -/
def gdS (w : Bool) (o : Option (AV × AHeap)) (H : AHeap) : Option (AV × AHeap) := if w then o else some (undefA, H)
def lft (H : AHeap) (o : Option AV) : Option (AV × AHeap) := o.map fun v => (v, H)
def wnt (v : AV) (w : Bool) : Bool := match v with
  | .bool b => b == w
  | _ => false

def aopsJ (call : CallF) : List AOper → Tau → AHeap → Option (Tau × AHeap)
  | [], τ, H => some (τ, H)
  | o :: l, τ, H => match o.guard with
    | none => bnS (astep call τ H o.op) fun v H' => aopsJ call l (τ.put o.dst v) H'
    | some g => bnS (gdS (wantedA τ (some g)) (astep call τ H o.op) H) fun v H' => aopsJ call l (τ.put o.dst v) H'

theorem aopsJ_eq (call : CallF) : ∀ (l : List AOper) (τ : Tau) (H : AHeap), aopsJ call l τ H = aops call l τ H
  | [], _, _ => rfl
  | o :: l, τ, H => by
    have ih := fun v H' => aopsJ_eq call l (τ.put o.dst v) H'
    unfold aopsJ aops
    simp only [ih]
    cases hg : o.guard with
    | none =>
      simp only [wantedA, if_true, bnS]
      rfl
    | some g =>
      simp only [gdS, bnS]
      cases hw : wantedA τ (some g) with
      | true => simp only [if_true]; rfl
      | false => simp only [Bool.false_eq_true, if_false]

/-- What an operation that only looks finds. -/
def lookJ (τ : Tau) (H : AHeap) (op : AOp) (o : Option (AV × AHeap)) : Option (AV × Rec) := match o with
  | some (v, H') => if H'.size = H.size then some (v, .q τ op v) else none
  | none => none
def makeJ (H : AHeap) (r : Nat) (o : Option (AV × AObj)) : Option (AV × Rec × AHeap) := match o with
  | some (v, ob) => if (H.get r).isNone then some (v, .made r, H.put r (some ob)) else none
  | none => none
def pinJ (H : AHeap) (recs : List Rec) (pins : List Nat) (o : Option (AV × AHeap)) : Option (AV × AHeap) := match o with
  | some (v, H') => if recsOk H H' recs pins then some (v, H') else none
  | none => none

def adopsJ (call : CallF) (base : Nat) : List (AOper × DK) → List Rec → Tau → AHeap → Option (Tau × AHeap)
  | [], _, τ, H => some (τ, H)
  | (o, dk) :: l, recs, τ, H => match dk with
    | .q => bnR (if wantedA τ o.guard then lookJ τ H o.op (aop τ H o.op) else some (undefA, .none)) fun v r => adopsJ call base l (recs ++ [r]) (τ.put o.dst v) H
    | .al k => bnM (if wantedA τ o.guard then makeJ H (base + k) (madeA τ (base + k) o.op) else some (undefA, .none, H)) fun v r H' => adopsJ call base l (recs ++ [r]) (τ.put o.dst v) H'
    | .ef pins => bnS (gdS (wantedA τ o.guard) (pinJ H recs pins (astep call τ H o.op)) H) fun v H' => adopsJ call base l (recs ++ [.none]) (τ.put o.dst v) H'

theorem adopsJ_eq (call : CallF) (base : Nat) : ∀ (l : List (AOper × DK)) (recs : List Rec) (τ : Tau) (H : AHeap), adopsJ call base l recs τ H = adops call base l recs τ H
  | [], _, _, _ => rfl
  | (o, dk) :: l, recs, τ, H => by
    have ih := fun r v H' => adopsJ_eq call base l r v H'
    unfold adopsJ adops
    simp only [ih]
    cases hw : wantedA τ o.guard with
    | true =>
      cases dk with
      | q =>
        simp only [if_true]
        cases aop τ H o.op with
        | none => rfl
        | some x =>
          obtain ⟨v, H'⟩ := x
          simp only [lookJ]
          by_cases hz : H'.size = H.size <;> simp [hz, bnR]
      | al k =>
        simp only [if_true]
        cases madeA τ (base + k) o.op with
        | none => rfl
        | some x =>
          obtain ⟨v, ob⟩ := x
          simp only [makeJ]
          cases hz : (H.get (base + k)).isNone <;> simp [bnM]
      | ef pins =>
        simp only [if_true, gdS]
        cases astep call τ H o.op with
        | none => rfl
        | some x =>
          obtain ⟨v, H'⟩ := x
          simp only [pinJ]
          cases hz : recsOk H H' recs pins <;> simp [bnS]
    | false => cases dk <;> simp [bnR, bnM, bnS, gdS]

mutual
theorem beqA_refl : ∀ (v : AV), beqA v v = true
  | .bool _ | .int _ _ | .str _ | .nilp | .nils | .nilfn | .nilifc | .ptr _ _ | .sl _ _ _ _ | .zs _ _ _ _ | .raw _ => by simp [beqA]
  | .fn f a b => by simp [beqA, beqL_refl a, beqL_refl b]
  | .ifc t a => by simp [beqA, beqA_refl a]
  | .agg a => by simp [beqA, beqL_refl a]
  | .tup a => by simp [beqA, beqL_refl a]
  | .fz z a => by simp [beqA, beqL_refl a]
  | .ow z a => by simp [beqA, beqL_refl a]
  | .cp a o => by simp [beqA, beqL_refl a]
  | .lt z a => by simp [beqA, beqL_refl a]
  | .sk => by simp [beqA]
theorem beqL_refl : ∀ (l : List AV), beqL l l = true
  | [] => by simp [beqL]
  | v :: l => by simp [beqL, beqA_refl v, beqL_refl l]
end

end Go.Ab
