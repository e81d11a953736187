/- The evaluator without fuel, and with what follows handed on. -/
import Derived.Test.YtdbbdfmkglgjdaaSh4
set_option linter.unusedVariables false
set_option linter.unusedSimpArgs false
set_option linter.unusedSectionVars false
namespace Go.Ab

open Classical in
noncomputable def callV (E : Env) (f : Nat) (args : List AV) (H : AHeap) : Option (AV × AHeap) :=
  if h : ∃ r n, acall E n f args H = some r then some (Classical.choose h) else none
open Classical in
noncomputable def evalV (E : Env) (c : ACode) (τ : Tau) (H : AHeap) : Option (AExit × Tau × AHeap) :=
  if h : ∃ r n, aeval E n c τ H = some r then some (Classical.choose h) else none
theorem callV_iff {E : Env} {f : Nat} {args : List AV} {H : AHeap} {r : AV × AHeap} : callV E f args H = some r ↔ ∃ n, acall E n f args H = some r := by
  unfold callV
  split
  · rename_i h
    constructor
    · intro e
      obtain rfl := Option.some.inj e
      exact Classical.choose_spec h
    · rintro ⟨n, hn⟩
      obtain ⟨m, hm⟩ := Classical.choose_spec h
      have h1 := acall_le (Nat.le_max_left n m) _ _ _ _ hn
      have h2 := acall_le (Nat.le_max_right n m) _ _ _ _ hm
      rw [h1] at h2
      exact h2.symm
  · rename_i h
    exact ⟨fun e => (by cases e), fun ⟨n, hn⟩ => absurd ⟨r, n, hn⟩ h⟩
theorem evalV_iff {E : Env} {c : ACode} {τ : Tau} {H : AHeap} {r : AExit × Tau × AHeap} : evalV E c τ H = some r ↔ ∃ n, aeval E n c τ H = some r := by
  unfold evalV
  split
  · rename_i h
    constructor
    · intro e
      obtain rfl := Option.some.inj e
      exact Classical.choose_spec h
    · rintro ⟨n, hn⟩
      obtain ⟨m, hm⟩ := Classical.choose_spec h
      have h1 := aeval_le (Nat.le_max_left n m) hn
      have h2 := aeval_le (Nat.le_max_right n m) hm
      rw [h1] at h2
      exact h2.symm
  · rename_i h
    exact ⟨fun e => (by cases e), fun ⟨n, hn⟩ => absurd ⟨r, n, hn⟩ h⟩
theorem callV_le {E : Env} (n : Nat) : CallLe (acall E n) (callV E) := fun _ _ _ _ h => callV_iff.2 ⟨n, h⟩
theorem astep_lim {E : Env} {τ : Tau} {H : AHeap} {op : AOp} {r : AV × AHeap} (h : astep (callV E) τ H op = some r) : ∃ n, astep (acall E n) τ H op = some r := by
  unfold astep at h
  cases ht : target τ op with
  | none => rw [ht] at h; exact ⟨0, by unfold astep; rw [ht]; exact h⟩
  | some x =>
    obtain ⟨g, vs⟩ := x
    rw [ht] at h
    obtain ⟨n, hn⟩ := callV_iff.1 h
    exact ⟨n, by unfold astep; rw [ht]; exact hn⟩
theorem aops_lim {E : Env} : ∀ (l : List AOper) (τ : Tau) (H : AHeap) (r : Tau × AHeap), aops (callV E) l τ H = some r → ∃ n, aops (acall E n) l τ H = some r
  | [], _, _, _, e => ⟨0, e⟩
  | o :: l, τ, H, r, e => by
    unfold aops at e
    split at e
    · rename_i hw
      split at e
      · rename_i v H' hs
        obtain ⟨n, hn⟩ := astep_lim hs
        obtain ⟨m, hm⟩ := aops_lim l _ _ _ e
        refine ⟨max n m, ?_⟩
        unfold aops
        rw [if_pos hw, astep_le (acall_le (Nat.le_max_left n m)) hn]
        exact aops_le (acall_le (Nat.le_max_right n m)) l _ _ _ hm
      · cases e
    · rename_i hw
      obtain ⟨m, hm⟩ := aops_lim l _ _ _ e
      refine ⟨m, ?_⟩
      unfold aops
      rw [if_neg hw]
      exact hm
theorem adops_lim {E : Env} (base : Nat) : ∀ (l : List (AOper × DK)) (recs : List Rec) (τ : Tau) (H : AHeap) (r : Tau × AHeap), adops (callV E) base l recs τ H = some r → ∃ n, adops (acall E n) base l recs τ H = some r
  | [], _, _, _, _, e => ⟨0, e⟩
  | (o, dk) :: l, recs, τ, H, r, e => by
    unfold adops at e
    split at e
    · rename_i hw
      cases dk with
      | q =>
        simp only at e
        split at e
        · rename_i v H' hs
          split at e
          · rename_i hz
            obtain ⟨m, hm⟩ := adops_lim base l _ _ _ _ e
            refine ⟨m, ?_⟩
            unfold adops
            rw [if_pos hw]
            simp only [hs]
            rw [if_pos hz]
            exact hm
          · cases e
        · cases e
      | al k =>
        simp only at e
        split at e
        · rename_i v ob hs
          split at e
          · rename_i hz
            obtain ⟨m, hm⟩ := adops_lim base l _ _ _ _ e
            refine ⟨m, ?_⟩
            unfold adops
            rw [if_pos hw]
            simp only [hs]
            rw [if_pos hz]
            exact hm
          · cases e
        · cases e
      | ef pins =>
        simp only at e
        split at e
        · rename_i v H' hs
          split at e
          · rename_i hz
            obtain ⟨n, hn⟩ := astep_lim hs
            obtain ⟨m, hm⟩ := adops_lim base l _ _ _ _ e
            refine ⟨max n m, ?_⟩
            unfold adops
            rw [if_pos hw]
            simp only [astep_le (acall_le (Nat.le_max_left n m)) hn]
            rw [if_pos hz]
            exact adops_le (acall_le (Nat.le_max_right n m)) base l _ _ _ _ hm
          · cases e
        · cases e
    · rename_i hw
      obtain ⟨m, hm⟩ := adops_lim base l _ _ _ _ e
      refine ⟨m, ?_⟩
      unfold adops
      rw [if_neg hw]
      exact hm

inductive RecP where
  | none
  | q (f : AHeap → Option AV) (v : AV)
  | made (r : Nat)
def ckP (H H' : AHeap) : RecP → Bool
  | .none => true
  | .q f v => match f H' with
    | some v' => beqA v v'
    | none => false
  | .made r => match H.get r, H'.get r with
    | some (.cells k z a), some (.cells k' z' b) => k == k' && z == z' && beqL a b
    | _, _ => false
def cksP (H H' : AHeap) (recs : List RecP) : List Nat → Bool
  | [] => true
  | p :: l => (match recs[p]? with
    | some q => ckP H H' q
    | none => false) && cksP H H' recs l
def opQ (τ : Tau) (H : AHeap) (op : AOp) : Option AV := match isLook op with
  | true => opP τ.at H op
  | false => match aop τ H op with
    | some (v, H') => if H'.size = H.size then some v else none
    | none => none
theorem opQ_spec {τ : Tau} {H : AHeap} {op : AOp} : opQ τ H op = match aop τ H op with
    | some (v, H') => if H'.size = H.size then some v else none
    | none => none := by
  unfold opQ
  split
  · rename_i h
    rw [aop_look h]
    cases opP τ.at H op <;> simp
  · rfl
def recP : Rec → RecP
  | .none => .none
  | .q τ op v => .q (fun H => opQ τ H op) v
  | .made r => .made r
theorem ckP_rec (H H' : AHeap) (r : Rec) : ckP H H' (recP r) = recOk H H' r := by
  cases r with
  | none => rfl
  | made r => rfl
  | q τ op v =>
    simp only [recP, ckP, recOk, opQ_spec]
    cases aop τ H' op with
    | none => rfl
    | some x =>
      obtain ⟨v', H2⟩ := x
      simp only []
      by_cases h : H2.size = H'.size <;> simp [h]
theorem cksP_rec (H H' : AHeap) (recs : List Rec) : ∀ l, cksP H H' (recs.map recP) l = recsOk H H' recs l
  | [] => rfl
  | p :: l => by
    simp only [cksP, recsOk, cksP_rec H H' recs l, List.getElem?_map]
    cases recs[p]? with
    | none => rfl
    | some r => simp [ckP_rec]
def pinB {β : Type} (b : Bool) (o : Option β) : Option β := match b with
  | true => o
  | false => none
def madeP (g : AX → AV) (r : Nat) : AOp → Option (AV × AObj)
  | .newc cs => if cs.all AV.one then some (.ptr r 0, .cells .exact cs.length cs) else none
  | .box x => if (g x).cells.all AV.one then some (.ptr r 0, .cells .exact (g x).cells.length (g x).cells) else none
  | .bsl esz z n ps => if esz = 0 ∨ z.length ≠ esz ∨ 16777216 < n * esz then none else
    match fillA (repl n z) (ps.map fun (o, s, x) => (o, s, g x)) with
    | some cs => if cs.all AV.one then some (.sl r 0 n (.ex n), .cells .exact esz cs) else none
    | none => none
  | _ => none
theorem madeP_eq (τ : Tau) (r : Nat) (op : AOp) : madeP τ.at r op = madeA τ r op := by cases op <;> rfl
def bnO {β : Type} (o : Option (AV × AObj)) (k : AV → AObj → Option β) : Option β := match o with
  | some (v, b) => k v b
  | none => none
def forceL {α β : Type} : List α → (List α → β) → β
  | [], k => k []
  | x :: l, k => forceL l fun l => k (x :: l)
theorem forceL_eq {α β : Type} : ∀ (l : List α) (k : List α → β), forceL l k = k l
  | [], _ => rfl
  | x :: l, k => by rw [forceL, forceL_eq l]
def adopsP {β : Type} (call : CallF) (base : Nat) : List (AOper × DK) → List RecP → Tau → AHeap → (Tau → AHeap → Option β) → Option β
  | [], _, τ, H, k => k τ H
  | (o, dk) :: l, recs, τ, H, k => match dk with
    | .q => match o.guard with
      | none => bnP (opQ τ H o.op) fun v => forceL (τ.put o.dst v) fun τ2 => adopsP call base l (recs ++ [.q (fun H => opQ τ H o.op) v]) τ2 H k
      | some g => bnP (gdP (wantedA τ (some g)) (opQ τ H o.op)) fun v => forceL (τ.put o.dst v) fun τ2 => adopsP call base l (recs ++ [if wantedA τ (some g) then .q (fun H => opQ τ H o.op) v else .none]) τ2 H k
    | .al j => match o.guard with
      | none => bnO (madeP τ.at (base + j) o.op) fun v b => pinB (H.get (base + j)).isNone (forceL (τ.put o.dst v) fun τ2 => adopsP call base l (recs ++ [.made (base + j)]) τ2 (H.put (base + j) (some b)) k)
      | some g => bnM (if wantedA τ (some g) then makeJ H (base + j) (madeA τ (base + j) o.op) else some (undefA, .none, H)) fun v r H' => forceL (τ.put o.dst v) fun τ2 => adopsP call base l (recs ++ [recP r]) τ2 H' k
    | .ef pins => match o.guard with
      | none => bnS (match isLook o.op with
        | true => lft H (opP τ.at H o.op)
        | false => opE call τ.at H o.op) fun v H' => pinB (cksP H H' recs pins) (forceL (τ.put o.dst v) fun τ2 => adopsP call base l (recs ++ [.none]) τ2 H' k)
      | some g => bnS (gdS (wantedA τ (some g)) (match isLook o.op with
        | true => lft H (opP τ.at H o.op)
        | false => opE call τ.at H o.op) H) fun v H' => pinB (!wantedA τ (some g) || cksP H H' recs pins) (forceL (τ.put o.dst v) fun τ2 => adopsP call base l (recs ++ [.none]) τ2 H' k)
theorem astep_both (call : CallF) (τ : Tau) (H : AHeap) (op : AOp) : (match isLook op with
        | true => lft H (opP τ.at H op)
        | false => opE call τ.at H op) = astep call τ H op := by
  split
  · rename_i h; rw [astep_look h]; rfl
  · rename_i h; rw [astep_do h]
theorem adopsP_eq {β : Type} (call : CallF) (base : Nat) (k : Tau → AHeap → Option β) : ∀ (l : List (AOper × DK)) (recs : List Rec) (τ : Tau) (H : AHeap),
    adopsP call base l (recs.map recP) τ H k = (adops call base l recs τ H).bind fun x => k x.1 x.2
  | [], _, _, _ => rfl
  | (o, dk) :: l, recs, τ, H => by
    have ih := fun r τ H => adopsP_eq call base k l (recs ++ [r]) τ H
    simp only [List.map_append, List.map_cons, List.map_nil] at ih
    unfold adopsP adops
    simp only [forceL_eq]
    cases dk with
    | q =>
      cases hg : o.guard with
      | none =>
        simp only [wantedA, if_true]
        cases ha : aop τ H o.op with
        | none =>
          have hq : opQ τ H o.op = none := by rw [opQ_spec, ha]
          rw [hq]; rfl
        | some x =>
          obtain ⟨v, H'⟩ := x
          simp only []
          by_cases hz : H'.size = H.size
          · have hq : opQ τ H o.op = some v := by rw [opQ_spec, ha]; exact if_pos hz
            rw [hq, if_pos hz]
            exact ih (.q τ o.op v) _ _
          · have hq : opQ τ H o.op = none := by rw [opQ_spec, ha]; exact if_neg hz
            rw [hq, if_neg hz]; rfl
      | some g =>
        simp only []
        cases hw : wantedA τ (some g) with
        | true =>
          simp only [if_true, gdP]
          cases ha : aop τ H o.op with
          | none =>
            have hq : opQ τ H o.op = none := by rw [opQ_spec, ha]
            rw [hq]; rfl
          | some x =>
            obtain ⟨v, H'⟩ := x
            simp only []
            by_cases hz : H'.size = H.size
            · have hq : opQ τ H o.op = some v := by rw [opQ_spec, ha]; exact if_pos hz
              rw [hq, if_pos hz]
              exact ih (.q τ o.op v) _ _
            · have hq : opQ τ H o.op = none := by rw [opQ_spec, ha]; exact if_neg hz
              rw [hq, if_neg hz]; rfl
        | false =>
          simp only [gdP, Bool.false_eq_true, if_false]
          exact ih .none _ _
    | al j =>
      cases hg : o.guard with
      | none =>
        simp only [wantedA, if_true, madeP_eq]
        cases ha : madeA τ (base + j) o.op with
        | none => rfl
        | some x =>
          obtain ⟨v, b⟩ := x
          simp only [bnO]
          cases hz : (H.get (base + j)).isNone with
          | true => simp only [pinB, if_true]; exact ih (.made (base + j)) _ _
          | false => rfl
      | some g =>
        simp only []
        cases hw : wantedA τ (some g) with
        | true =>
          simp only [if_true]
          cases ha : madeA τ (base + j) o.op with
          | none => rfl
          | some x =>
            obtain ⟨v, b⟩ := x
            simp only [makeJ]
            cases hz : (H.get (base + j)).isNone with
            | true => simp only [if_true, bnM]; exact ih (.made (base + j)) _ _
            | false => rfl
        | false =>
          simp only [Bool.false_eq_true, if_false, bnM]
          exact ih .none _ _
    | ef pins =>
      cases hg : o.guard with
      | none =>
        simp only [wantedA, if_true, astep_both, cksP_rec]
        cases ha : astep call τ H o.op with
        | none => rfl
        | some x =>
          obtain ⟨v, H'⟩ := x
          simp only [bnS]
          cases recsOk H H' recs pins with
          | true => simp only [pinB, if_true]; exact ih .none _ _
          | false => rfl
      | some g =>
        simp only [astep_both, cksP_rec]
        cases hw : wantedA τ (some g) with
        | true =>
          simp only [if_true, gdS]
          cases ha : astep call τ H o.op with
          | none => rfl
          | some x =>
            obtain ⟨v, H'⟩ := x
            simp only [bnS]
            cases recsOk H H' recs pins with
            | true => simp only [pinB, Bool.not_true, Bool.or_true, if_true]; exact ih .none _ _
            | false => rfl
        | false =>
          simp only [Bool.false_eq_true, if_false, gdS, bnS, Bool.not_false, Bool.true_or, pinB]
          exact ih .none _ _
def aopsP {β : Type} (call : CallF) : List AOper → Tau → AHeap → (Tau → AHeap → Option β) → Option β
  | [], τ, H, k => k τ H
  | o :: l, τ, H, k => match o.guard with
    | none => match isLook o.op with
      | true => bnP (opP τ.at H o.op) fun v => forceL (τ.put o.dst v) fun τ => aopsP call l τ H k
      | false => bnS (opE call τ.at H o.op) fun v H' => forceL (τ.put o.dst v) fun τ => aopsP call l τ H' k
    | some g => match isLook o.op with
      | true => bnP (gdP (wantedA τ (some g)) (opP τ.at H o.op)) fun v => forceL (τ.put o.dst v) fun τ => aopsP call l τ H k
      | false => bnS (gdS (wantedA τ (some g)) (opE call τ.at H o.op) H) fun v H' => forceL (τ.put o.dst v) fun τ => aopsP call l τ H' k
theorem aopsP_eq {β : Type} (call : CallF) (k : Tau → AHeap → Option β) : ∀ (l : List AOper) (τ : Tau) (H : AHeap), aopsP call l τ H k = (aops call l τ H).bind fun x => k x.1 x.2
  | [], _, _ => rfl
  | o :: l, τ, H => by
    have ih := fun τ H => aopsP_eq call k l τ H
    unfold aopsP aops
    simp only [forceL_eq]
    cases hg : o.guard with
    | none =>
      simp only [wantedA, if_true]
      cases hl : isLook o.op with
      | true =>
        simp only [astep_look hl]
        cases opP τ.at H o.op with
        | none => rfl
        | some v => exact ih _ _
      | false =>
        simp only [astep_do hl]
        cases opE call τ.at H o.op with
        | none => rfl
        | some x => exact ih _ _
    | some g =>
      simp only []
      cases hw : wantedA τ (some g) with
      | true =>
        cases hl : isLook o.op with
        | true =>
          simp only [astep_look hl, gdP, if_true]
          cases opP τ.at H o.op with
          | none => rfl
          | some v => exact ih _ _
        | false =>
          simp only [astep_do hl, gdS, if_true]
          cases opE call τ.at H o.op with
          | none => rfl
          | some x => exact ih _ _
      | false =>
        cases hl : isLook o.op <;> simp only [gdP, gdS, Bool.false_eq_true, if_false, bnP, bnS] <;> exact ih _ _

def exw (i : Nat) : ACode → Nat
  | .skip | .reg _ | .dreg _ _ | .ret | .loop _ => 0
  | .exit j => if j = i then 1 else 0
  | .seq a b => min 2 (exw i a + exw i b)
  | .cond _ a b => min 2 (exw i a + exw i b)
  | .block _ c => exw i c
def ways : ACode → Nat
  | .skip | .reg _ | .dreg _ _ | .loop _ => 1
  | .ret | .exit _ => 0
  | .seq a b => min 2 (ways a * ways b)
  | .cond _ a b => min 2 (ways a + ways b)
  | .block i c => min 2 (ways c + exw i c)
def bnE {β : Type} (o : Option (AExit × Tau × AHeap)) (k : AExit → Tau → AHeap → Option β) : Option β := match o with
  | some (ex, τ, H) => k ex τ H
  | none => none
def ret3 : AExit → Tau → AHeap → Option (AExit × Tau × AHeap) := fun ex τ H => some (ex, τ, H)
abbrev LoopF := ACode → Tau → AHeap → Option (AExit × Tau × AHeap)
def goOn {β : Type} (k1 : Tau → AHeap → Option β) (k : AExit → Tau → AHeap → Option β) : AExit → Tau → AHeap → Option β := fun ex τ H => match ex with
  | .normal => k1 τ H
  | .exit i => k (.exit i) τ H
  | .ret => k .ret τ H
def outK {β : Type} (i : Nat) (k : AExit → Tau → AHeap → Option β) : AExit → Tau → AHeap → Option β := fun ex τ H => match ex with
  | .normal => k .normal τ H
  | .exit j => k (if j = i then .normal else .exit j) τ H
  | .ret => k .ret τ H
def evalK {β : Type} (call : CallF) (lp : LoopF) : ACode → Tau → AHeap → (AExit → Tau → AHeap → Option β) → Option β
  | .skip, τ, H, k => k .normal τ H
  | .ret, τ, H, k => k .ret τ H
  | .exit i, τ, H, k => k (.exit i) τ H
  | .reg ops, τ, H, k => aopsP call ops τ H (k .normal)
  | .dreg na ops, τ, H, k => adopsP call H.size ops [] τ (pushN na H) (k .normal)
  | .seq a b, τ, H, k => match ways a with
    | 0 | 1 => evalK call lp a τ H (goOn (fun τ H => evalK call lp b τ H k) k)
    | _ => bnE (evalK call lp a τ H ret3) (goOn (fun τ H => evalK call lp b τ H k) k)
  | .cond x a b, τ, H, k => cndS (τ.at x) (fun _ => evalK call lp a τ H k) (fun _ => evalK call lp b τ H k)
  | .block i c, τ, H, k => match ways c + exw i c with
    | 0 | 1 => evalK call lp c τ H (outK i k)
    | _ => bnE (evalK call lp c τ H ret3) (outK i k)
  | .loop c, τ, H, k => bnE (lp c τ H) k
noncomputable abbrev loopV (E : Env) : LoopF := fun c τ H => evalV E (.loop c) τ H
section
variable {E : Env} {τ : Tau} {H : AHeap}
theorem ext_some {α : Type} {a b : Option α} (h : ∀ x, a = some x ↔ b = some x) : a = b := by
  cases a with
  | none => cases b with
    | none => rfl
    | some y => exact absurd ((h y).2 rfl) (by simp)
  | some x => exact ((h x).1 rfl).symm
theorem evalV_skip : evalV E .skip τ H = some (.normal, τ, H) := evalV_iff.2 ⟨1, rfl⟩
theorem evalV_ret : evalV E .ret τ H = some (.ret, τ, H) := evalV_iff.2 ⟨1, rfl⟩
theorem evalV_exit {i : Nat} : evalV E (.exit i) τ H = some (.exit i, τ, H) := evalV_iff.2 ⟨1, rfl⟩
theorem evalV_reg {ops : List AOper} : evalV E (.reg ops) τ H = (aops (callV E) ops τ H).map fun (τ, H) => (.normal, τ, H) := by
  refine ext_some fun x => ?_
  rw [evalV_iff]
  constructor
  · rintro ⟨n, hn⟩
    cases n with
    | zero => simp [aeval] at hn
    | succ n =>
      simp only [aeval] at hn
      obtain ⟨y, hy, rfl⟩ := Option.map_eq_some_iff.1 hn
      rw [aops_le (callV_le n) _ _ _ _ hy]; rfl
  · intro h
    obtain ⟨y, hy, rfl⟩ := Option.map_eq_some_iff.1 h
    obtain ⟨n, hn⟩ := aops_lim _ _ _ _ hy
    exact ⟨n + 1, by simp only [aeval, hn]; rfl⟩
theorem evalV_dreg {na : Nat} {ops : List (AOper × DK)} : evalV E (.dreg na ops) τ H = (adops (callV E) H.size ops [] τ (pushN na H)).map fun (τ, H) => (.normal, τ, H) := by
  refine ext_some fun x => ?_
  rw [evalV_iff]
  constructor
  · rintro ⟨n, hn⟩
    cases n with
    | zero => simp [aeval] at hn
    | succ n =>
      simp only [aeval] at hn
      obtain ⟨y, hy, rfl⟩ := Option.map_eq_some_iff.1 hn
      rw [adops_le (callV_le n) _ _ _ _ _ _ hy]; rfl
  · intro h
    obtain ⟨y, hy, rfl⟩ := Option.map_eq_some_iff.1 h
    obtain ⟨n, hn⟩ := adops_lim _ _ _ _ _ _ hy
    exact ⟨n + 1, by simp only [aeval, hn]; rfl⟩
theorem evalV_seq {a b : ACode} : evalV E (.seq a b) τ H = bnE (evalV E a τ H) (goOn (fun τ H => evalV E b τ H) ret3) := by
  refine ext_some fun x => ?_
  rw [evalV_iff]
  constructor
  · rintro ⟨n, hn⟩
    cases n with
    | zero => simp [aeval] at hn
    | succ n =>
      simp only [aeval] at hn
      cases ha : aeval E n a τ H with
      | none => rw [ha] at hn; cases hn
      | some y =>
        obtain ⟨ex, τ1, H1⟩ := y
        rw [evalV_iff.2 ⟨n, ha⟩]
        rw [ha] at hn
        cases ex with
        | normal => exact evalV_iff.2 ⟨n, hn⟩
        | exit i => exact hn
        | ret => exact hn
  · intro h
    cases ha : evalV E a τ H with
    | none => rw [ha] at h; cases h
    | some y =>
      obtain ⟨ex, τ1, H1⟩ := y
      obtain ⟨n, hn⟩ := evalV_iff.1 ha
      rw [ha] at h
      cases ex with
      | normal =>
        obtain ⟨m, hm⟩ := evalV_iff.1 h
        exact ⟨max n m + 1, by simp only [aeval, aeval_le (Nat.le_max_left n m) hn, aeval_le (Nat.le_max_right n m) hm]⟩
      | exit i => exact ⟨n + 1, by simp only [aeval, hn]; exact h⟩
      | ret => exact ⟨n + 1, by simp only [aeval, hn]; exact h⟩
theorem evalV_cond {x : AX} {a b : ACode} : evalV E (.cond x a b) τ H = cndS (τ.at x) (fun _ => evalV E a τ H) (fun _ => evalV E b τ H) := by
  refine ext_some fun y => ?_
  rw [evalV_iff]
  unfold cndS
  constructor
  · rintro ⟨n, hn⟩
    cases n with
    | zero => simp [aeval] at hn
    | succ n =>
      simp only [aeval] at hn
      split at hn
      · rename_i t ht
        rw [ht]
        cases t
        · exact evalV_iff.2 ⟨n, hn⟩
        · exact evalV_iff.2 ⟨n, hn⟩
      · cases hn
  · intro h
    split at h
    · rename_i ht
      obtain ⟨n, hn⟩ := evalV_iff.1 h
      exact ⟨n + 1, by simp only [aeval, ht, if_true, hn]⟩
    · rename_i ht
      obtain ⟨n, hn⟩ := evalV_iff.1 h
      exact ⟨n + 1, by simp only [aeval, ht, Bool.false_eq_true, if_false, hn]⟩
    · cases h
theorem evalV_block {i : Nat} {c : ACode} : evalV E (.block i c) τ H = bnE (evalV E c τ H) (outK i ret3) := by
  refine ext_some fun y => ?_
  rw [evalV_iff]
  constructor
  · rintro ⟨n, hn⟩
    cases n with
    | zero => simp [aeval] at hn
    | succ n =>
      simp only [aeval] at hn
      cases ha : aeval E n c τ H with
      | none => rw [ha] at hn; cases hn
      | some z =>
        rw [evalV_iff.2 ⟨n, ha⟩]
        rw [ha] at hn
        obtain ⟨ex, τ1, H1⟩ := z
        cases ex <;> exact hn
  · intro h
    cases ha : evalV E c τ H with
    | none => rw [ha] at h; cases h
    | some z =>
      obtain ⟨ex, τ1, H1⟩ := z
      obtain ⟨n, hn⟩ := evalV_iff.1 ha
      rw [ha] at h
      refine ⟨n + 1, ?_⟩
      cases ex <;> (simp only [aeval, hn]; exact h)
theorem loopV_once {c : ACode} : loopV E c τ H = bnE (evalV E c τ H) (goOn (fun τ H => loopV E c τ H) ret3) := by
  refine ext_some fun x => ?_
  simp only [loopV]
  rw [evalV_iff]
  constructor
  · rintro ⟨n, hn⟩
    cases n with
    | zero => simp [aeval] at hn
    | succ n =>
      simp only [aeval] at hn
      cases ha : aeval E n c τ H with
      | none => rw [ha] at hn; cases hn
      | some y =>
        obtain ⟨ex, τ1, H1⟩ := y
        rw [evalV_iff.2 ⟨n, ha⟩]
        rw [ha] at hn
        cases ex with
        | normal => exact evalV_iff.2 ⟨n, hn⟩
        | exit i => exact hn
        | ret => exact hn
  · intro h
    cases ha : evalV E c τ H with
    | none => rw [ha] at h; cases h
    | some y =>
      obtain ⟨ex, τ1, H1⟩ := y
      obtain ⟨n, hn⟩ := evalV_iff.1 ha
      rw [ha] at h
      cases ex with
      | normal =>
        obtain ⟨m, hm⟩ := evalV_iff.1 h
        exact ⟨max n m + 1, by simp only [aeval, aeval_le (Nat.le_max_left n m) hn, aeval_le (Nat.le_max_right n m) hm]⟩
      | exit i => exact ⟨n + 1, by simp only [aeval, hn]; exact h⟩
      | ret => exact ⟨n + 1, by simp only [aeval, hn]; exact h⟩
end
theorem bnE_ret3 (o : Option (AExit × Tau × AHeap)) : bnE o ret3 = o := by
  cases o <;> rfl
theorem evalK_eq {β : Type} (E : Env) : ∀ (c : ACode) (τ : Tau) (H : AHeap) (k : AExit → Tau → AHeap → Option β), evalK (callV E) (loopV E) c τ H k = bnE (evalV E c τ H) k
  | .skip, τ, H, k => by rw [evalV_skip]; rfl
  | .ret, τ, H, k => by rw [evalV_ret]; rfl
  | .exit i, τ, H, k => by rw [evalV_exit]; rfl
  | .reg ops, τ, H, k => by
    rw [evalV_reg]
    simp only [evalK, aopsP_eq]
    cases aops (callV E) ops τ H <;> rfl
  | .dreg na ops, τ, H, k => by
    rw [evalV_dreg]
    have := adopsP_eq (callV E) H.size (k .normal) ops [] τ (pushN na H)
    simp only [evalK]
    rw [List.map_nil] at this
    rw [this]
    cases adops (callV E) H.size ops [] τ (pushN na H) <;> rfl
  | .seq a b, τ, H, k => by
    rw [evalV_seq]
    have h1 : evalK (callV E) (loopV E) (.seq a b) τ H k = bnE (evalV E a τ H) (goOn (fun τ H => evalK (callV E) (loopV E) b τ H k) k) := by
      simp only [evalK]
      split
      · rw [evalK_eq E a]
      · rw [evalK_eq E a]
      · rw [evalK_eq E a, bnE_ret3]
    rw [h1]
    cases evalV E a τ H with
    | none => rfl
    | some x =>
      obtain ⟨ex, τ1, H1⟩ := x
      cases ex with
      | normal => simp only [bnE, goOn]; exact evalK_eq E b τ1 H1 k
      | exit i => rfl
      | ret => rfl
  | .cond x a b, τ, H, k => by
    rw [evalV_cond]
    simp only [evalK, evalK_eq E a, evalK_eq E b]
    unfold cndS
    split <;> rfl
  | .block i c, τ, H, k => by
    rw [evalV_block]
    have h1 : evalK (callV E) (loopV E) (.block i c) τ H k = bnE (evalV E c τ H) (outK i k) := by
      simp only [evalK]
      split
      · rw [evalK_eq E c]
      · rw [evalK_eq E c]
      · rw [evalK_eq E c, bnE_ret3]
    rw [h1]
    cases evalV E c τ H with
    | none => rfl
    | some x =>
      obtain ⟨ex, τ1, H1⟩ := x
      cases ex <;> rfl
  | .loop c, τ, H, k => rfl
def retK (res : List ARes) : AExit → Tau → AHeap → Option (AV × AHeap) := fun ex τ H => match ex with
  | .normal => (resultsA τ H res).map fun v => (v, H)
  | .exit _ => none
  | .ret => (resultsA τ H res).map fun v => (v, H)
theorem callV_fn {E : Env} {f : Nat} {fn : AFn} (hs : E.spec f = none) (hf : E.fns f = some fn) (args : List AV) (H : AHeap) :
    callV E f args H = evalK (callV E) (loopV E) fn.code (args ++ List.replicate (fn.nt - args.length) undefA) H (retK fn.res) := by
  rw [evalK_eq]
  refine ext_some fun x => ?_
  rw [callV_iff]
  constructor
  · rintro ⟨n, hn⟩
    cases n with
    | zero => simp [acall] at hn
    | succ n =>
      simp only [acall, hs, hf] at hn
      cases ha : aeval E n fn.code (args ++ List.replicate (fn.nt - args.length) undefA) H with
      | none => rw [ha] at hn; cases hn
      | some y =>
        obtain ⟨ex, τ1, H1⟩ := y
        rw [evalV_iff.2 ⟨n, ha⟩]
        rw [ha] at hn
        cases ex <;> first | exact hn | cases hn
  · intro h
    cases ha : evalV E fn.code (args ++ List.replicate (fn.nt - args.length) undefA) H with
    | none => rw [ha] at h; cases h
    | some y =>
      obtain ⟨ex, τ1, H1⟩ := y
      obtain ⟨n, hn⟩ := evalV_iff.1 ha
      rw [ha] at h
      refine ⟨n + 1, ?_⟩
      simp only [acall, hs, hf, hn]
      cases ex <;> first | exact h | cases h
theorem callV_spec {E : Env} {f : Nat} {g : List AV → AHeap → Option (AV × AHeap)} (hs : E.spec f = some g) (args : List AV) (H : AHeap) : callV E f args H = g args H := by
  refine ext_some fun x => ?_
  rw [callV_iff]
  constructor
  · rintro ⟨n, hn⟩
    cases n with
    | zero => simp [acall] at hn
    | succ n => simpa only [acall, hs] using hn
  · intro h
    exact ⟨1, by simpa only [acall, hs] using h⟩
end Go.Ab
