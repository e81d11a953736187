/- The evaluator with what follows handed on. -/
import Derived.Test.YtmogepinpdibdaaSh2
set_option linter.unusedVariables false
set_option linter.unusedSimpArgs false
set_option linter.unusedSectionVars false
namespace Go.Ab

def aopsK {β : Type} (call : CallF) : List AOper → Tau → AHeap → (Tau → AHeap → Option β) → Option β
  | [], τ, H, k => k τ H
  | o :: l, τ, H, k => match o.guard with
    | none => bnS (astep call τ H o.op) fun v H' => aopsK call l (τ.put o.dst v) H' k
    | some g => bnS (gdS (wantedA τ (some g)) (astep call τ H o.op) H) fun v H' => aopsK call l (τ.put o.dst v) H' k

theorem bnS_bind {β γ : Type} (o : Option (AV × AHeap)) (k : AV → AHeap → Option β) (g : β → Option γ) : (bnS o k).bind g = bnS o fun v H => (k v H).bind g := by
  cases o with
  | none => rfl
  | some x => rfl
theorem bnR_bind {β γ : Type} (o : Option (AV × Rec)) (k : AV → Rec → Option β) (g : β → Option γ) : (bnR o k).bind g = bnR o fun v H => (k v H).bind g := by
  cases o with
  | none => rfl
  | some x => rfl
theorem bnM_bind {β γ : Type} (o : Option (AV × Rec × AHeap)) (k : AV → Rec → AHeap → Option β) (g : β → Option γ) : (bnM o k).bind g = bnM o fun v r H => (k v r H).bind g := by
  cases o with
  | none => rfl
  | some x => rfl

theorem aopsK_eq {β : Type} (call : CallF) (k : Tau → AHeap → Option β) : ∀ (l : List AOper) (τ : Tau) (H : AHeap), aopsK call l τ H k = (aops call l τ H).bind fun x => k x.1 x.2
  | [], _, _ => rfl
  | o :: l, τ, H => by
    rw [← aopsJ_eq]
    unfold aopsK aopsJ
    cases hg : o.guard with
    | none =>
      simp only [bnS_bind]
      congr; funext v H'
      rw [aopsK_eq call k l, aopsJ_eq]
    | some g =>
      simp only [bnS_bind]
      congr; funext v H'
      rw [aopsK_eq call k l, aopsJ_eq]

def adopsK {β : Type} (call : CallF) (base : Nat) : List (AOper × DK) → List Rec → Tau → AHeap → (Tau → AHeap → Option β) → Option β
  | [], _, τ, H, k => k τ H
  | (o, dk) :: l, recs, τ, H, k => match dk with
    | .q => bnR (if wantedA τ o.guard then lookJ τ H o.op (aop τ H o.op) else some (undefA, .none)) fun v r => adopsK call base l (recs ++ [r]) (τ.put o.dst v) H k
    | .al j => bnM (if wantedA τ o.guard then makeJ H (base + j) (madeA τ (base + j) o.op) else some (undefA, .none, H)) fun v r H' => adopsK call base l (recs ++ [r]) (τ.put o.dst v) H' k
    | .ef pins => bnS (gdS (wantedA τ o.guard) (pinJ H recs pins (astep call τ H o.op)) H) fun v H' => adopsK call base l (recs ++ [.none]) (τ.put o.dst v) H' k

theorem adopsK_eq {β : Type} (call : CallF) (base : Nat) (k : Tau → AHeap → Option β) : ∀ (l : List (AOper × DK)) (recs : List Rec) (τ : Tau) (H : AHeap), adopsK call base l recs τ H k = (adops call base l recs τ H).bind fun x => k x.1 x.2
  | [], _, _, _ => rfl
  | (o, dk) :: l, recs, τ, H => by
    rw [← adopsJ_eq]
    unfold adopsK adopsJ
    cases dk with
    | q =>
      simp only [bnR_bind]
      congr; funext v r
      rw [adopsK_eq call base k l, adopsJ_eq]
    | al j =>
      simp only [bnM_bind]
      congr; funext v r H'
      rw [adopsK_eq call base k l, adopsJ_eq]
    | ef pins =>
      simp only [bnS_bind]
      congr; funext v H'
      rw [adopsK_eq call base k l, adopsJ_eq]

def cndS {β : Type} (v : AV) (a b : Unit → Option β) : Option β := match v with
  | .bool true => a ()
  | .bool false => b ()
  | _ => none
def outB (i : Nat) : AExit → AExit
  | .exit j => if j = i then .normal else .exit j
  | e => e

def aevalK {β : Type} (E : Env) : Nat → ACode → Tau → AHeap → (AExit → Tau → AHeap → Option β) → Option β
  | 0, _, _, _, _ => none
  | n + 1, c, τ, H, k => match c with
    | .skip => k .normal τ H
    | .ret => k .ret τ H
    | .exit i => k (.exit i) τ H
    | .reg ops => aopsK (acall E n) ops τ H (k .normal)
    | .dreg na ops => adopsK (acall E n) H.size ops [] τ (pushN na H) (k .normal)
    | .seq a b => aevalK E n a τ H fun ex τ H => match ex with
      | .normal => aevalK E n b τ H k
      | ex => k ex τ H
    | .cond x a b => cndS (τ.at x) (fun _ => aevalK E n a τ H k) (fun _ => aevalK E n b τ H k)
    | .block i c => aevalK E n c τ H fun ex τ H => k (outB i ex) τ H
    | .loop c => (aeval E (n + 1) (.loop c) τ H).bind fun x => k x.1 x.2.1 x.2.2

theorem aevalK_eq {β : Type} (E : Env) : ∀ (n : Nat) (c : ACode) (τ : Tau) (H : AHeap) (k : AExit → Tau → AHeap → Option β), aevalK E n c τ H k = (aeval E n c τ H).bind fun x => k x.1 x.2.1 x.2.2
  | 0, _, _, _, _ => rfl
  | n + 1, c, τ, H, k => by
    cases c with
    | skip => rfl
    | ret => rfl
    | exit i => rfl
    | reg ops =>
      simp only [aevalK, aeval, aopsK_eq]
      cases aops (acall E n) ops τ H <;> rfl
    | dreg na ops =>
      simp only [aevalK, aeval, adopsK_eq]
      cases adops (acall E n) H.size ops [] τ (pushN na H) <;> rfl
    | seq a b =>
      simp only [aevalK, aeval]
      rw [aevalK_eq E n a]
      cases aeval E n a τ H with
      | none => rfl
      | some x =>
        obtain ⟨ex, τ1, H1⟩ := x
        cases ex with
        | normal => simp only [Option.bind_some, aevalK_eq E n b]
        | exit i => rfl
        | ret => rfl
    | cond x a b =>
      simp only [aevalK, aeval, aevalK_eq E n]
      unfold cndS
      split
      · rename_i h; simp [h]
      · rename_i h; simp [h]
      · rename_i h1 h2
        split
        · rename_i t h
          cases t
          · exact absurd h h2
          · exact absurd h h1
        · rfl
    | block i c =>
      simp only [aevalK, aeval, aevalK_eq E n]
      cases aeval E n c τ H with
      | none => rfl
      | some x =>
        obtain ⟨ex, τ1, H1⟩ := x
        cases ex <;> rfl
    | loop c => rfl

/-- Code comes to an end, told by what it hands on. -/
theorem Run.of_K {E : Env} {n : Nat} {c : ACode} {τ τ' : Tau} {H H' : AHeap} {ex : AExit} (h : aevalK E n c τ H (fun ex τ H => some (ex, τ, H)) = some (ex, τ', H')) : Run E c τ H ex τ' H' := by
  rw [aevalK_eq] at h
  refine ⟨n, ?_⟩
  cases he : aeval E n c τ H with
  | none => rw [he] at h; cases h
  | some x => obtain ⟨a, b, c⟩ := x; rw [he] at h; simpa using h

end Go.Ab
