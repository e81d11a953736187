/- The evaluator without fuel, and with what follows handed on. -/
import Derived.Test.YtdbbdfmkglgjdaaSh4
set_option linter.unusedVariables false
set_option linter.unusedSimpArgs false
set_option linter.unusedSectionVars false
namespace Go.Ab

open Classical in
noncomputable def zI (E : Env) (f : Nat) (args : List AV) (H : z3) : Option (AV × z3) :=
 if h : ∃ r n, xg E n f args H = some r then some (Classical.choose h) else none
open Classical in
noncomputable def yC (E : Env) (c : yV) (τ : Tau) (H : z3) : Option (zy × Tau × z3) :=
 if h : ∃ r n, zp E n c τ H = some r then some (Classical.choose h) else none
theorem xH {E : Env} {f : Nat} {args : List AV} {H : z3} {r : AV × z3} : zI E f args H = some r ↔ ∃ n, xg E n f args H = some r := by
 unfold zI
 split
 ·rename_i h
  constructor
  ·intro e
   obtain rfl := Option.some.inj e
   exact Classical.choose_spec h
  ·rintro ⟨n, hn⟩
   obtain ⟨m, hm⟩ := Classical.choose_spec h
   have h1 := Xq (Nat.le_max_left n m) _ _ _ _ hn
   have h2 := Xq (Nat.le_max_right n m) _ _ _ _ hm
   rw [h1] at h2
   exact h2.symm
 ·rename_i h
  exact ⟨fun e => (by cases e), fun ⟨n, hn⟩ => absurd ⟨r, n, hn⟩ h⟩
theorem zM {E : Env} {c : yV} {τ : Tau} {H : z3} {r : zy × Tau × z3} : yC E c τ H = some r ↔ ∃ n, zp E n c τ H = some r := by
 unfold yC
 split
 ·rename_i h
  constructor
  ·intro e
   obtain rfl := Option.some.inj e
   exact Classical.choose_spec h
  ·rintro ⟨n, hn⟩
   obtain ⟨m, hm⟩ := Classical.choose_spec h
   have h1 := Z2 (Nat.le_max_left n m) hn
   have h2 := Z2 (Nat.le_max_right n m) hm
   rw [h1] at h2
   exact h2.symm
 ·rename_i h
  exact ⟨fun e => (by cases e), fun ⟨n, hn⟩ => absurd ⟨r, n, hn⟩ h⟩
theorem z5m {E : Env} (n : Nat) : Jg (xg E n) (zI E) := fun _ _ _ _ h => xH.2 ⟨n, h⟩
theorem z2D {E : Env} {τ : Tau} {H : z3} {op : AOp} {r : AV × z3} (h : xI (zI E) τ H op = some r) : ∃ n, xI (xg E n) τ H op = some r := by
 unfold xI at h
 cases ht : yM τ op with
 | none => rw [ht] at h; exact ⟨0, by unfold xI; rw [ht]; exact h⟩
 | some x =>
  obtain ⟨g, vs⟩ := x
  rw [ht] at h
  obtain ⟨n, hn⟩ := xH.1 h
  exact ⟨n, by unfold xI; rw [ht]; exact hn⟩
theorem z1z {E : Env} : ∀ (l : List zg) (τ : Tau) (H : z3) (r : Tau × z3), kY (zI E) l τ H = some r → ∃ n, kY (xg E n) l τ H = some r
 | [], _, _, _, e => ⟨0, e⟩
 | o :: l, τ, H, r, e => by
  unfold kY at e
  split at e
  ·rename_i hw
   split at e
   ·rename_i v H' hs
    obtain ⟨n, hn⟩ := z2D hs
    obtain ⟨m, hm⟩ := z1z l _ _ _ e
    refine ⟨max n m, ?_⟩
    unfold kY
    rw [if_pos hw, W3 (Xq (Nat.le_max_left n m)) hn]
    exact W4 (Xq (Nat.le_max_right n m)) l _ _ _ hm
   ·cases e
  ·rename_i hw
   obtain ⟨m, hm⟩ := z1z l _ _ _ e
   refine ⟨m, ?_⟩
   unfold kY
   rw [if_neg hw]
   exact hm
theorem Xr {E : Env} (base : Nat) : ∀ (l : List (zg × DK)) (recs : List Rec) (τ : Tau) (H : z3) (r : Tau × z3), x3 (zI E) base l recs τ H = some r → ∃ n, x3 (xg E n) base l recs τ H = some r
 | [], _, _, _, _, e => ⟨0, e⟩
 | (o, dk) :: l, recs, τ, H, r, e => by
  unfold x3 at e
  split at e
  ·rename_i hw
   cases dk with
   | q =>
    simp only at e
    split at e
    ·rename_i v H' hs
     split at e
     ·rename_i hz
      obtain ⟨m, hm⟩ := Xr base l _ _ _ _ e
      refine ⟨m, ?_⟩
      unfold x3
      rw [if_pos hw]
      simp only [hs]
      rw [if_pos hz]
      exact hm
     ·cases e
    ·cases e
   | al k =>
    simp only at e
    split at e
    ·rename_i v ob hs
     split at e
     ·rename_i hz
      obtain ⟨m, hm⟩ := Xr base l _ _ _ _ e
      refine ⟨m, ?_⟩
      unfold x3
      rw [if_pos hw]
      simp only [hs]
      rw [if_pos hz]
      exact hm
     ·cases e
    ·cases e
   | ef pins =>
    simp only at e
    split at e
    ·rename_i v H' hs
     split at e
     ·rename_i hz
      obtain ⟨n, hn⟩ := z2D hs
      obtain ⟨m, hm⟩ := Xr base l _ _ _ _ e
      refine ⟨max n m, ?_⟩
      unfold x3
      rw [if_pos hw]
      simp only [W3 (Xq (Nat.le_max_left n m)) hn]
      rw [if_pos hz]
      exact Y0 (Xq (Nat.le_max_right n m)) base l _ _ _ _ hm
     ·cases e
    ·cases e
  ·rename_i hw
   obtain ⟨m, hm⟩ := Xr base l _ _ _ _ e
   refine ⟨m, ?_⟩
   unfold x3
   rw [if_neg hw]
   exact hm

inductive zaJ where
 | none
 | q (f : z3 → Option AV) (v : AV)
 | made (r : Nat)
def ckP (H H' : z3) : zaJ → Bool
 | .none => true
 | .q f v => match f H' with
  | some v' => qE v v'
  | none => false
 | .made r => match H.get r, H'.get r with
  | some (.cells k z a), some (.cells k' z' b) => k == k' && z == z' && ZB a b
  | _, _ => false
def z9M (H H' : z3) (recs : List zaJ) : List Nat → Bool
 | [] => true
 | p :: l => (match recs[p]? with
  | some q => ckP H H' q
  | none => false) && z9M H H' recs l
def opQ (τ : Tau) (H : z3) (op : AOp) : Option AV := match xl op with
 | true => opP τ.at H op
 | false => match aop τ H op with
  | some (v, H') => if H'.size = H.size then some v else none
  | none => none
theorem Y2 {τ : Tau} {H : z3} {op : AOp} : opQ τ H op = match aop τ H op with
  | some (v, H') => if H'.size = H.size then some v else none
  | none => none := by
 unfold opQ
 split
 ·rename_i h
  rw [W5 h]
  cases opP τ.at H op <;> simp
 ·rfl
def z9N : Rec → zaJ
 | .none => .none
 | .q τ op v => .q (fun H => opQ τ H op) v
 | .made r => .made r
theorem zaK (H H' : z3) (r : Rec) : ckP H H' (z9N r) = ka H H' r := by
 cases r with
 | none => rfl
 | made r => rfl
 | q τ op v =>
  simp only [z9N, ckP, ka, Y2]
  cases aop τ H' op with
  | none => rfl
  | some x =>
   obtain ⟨v', H2⟩ := x
   simp only []
   by_cases h : H2.size = H'.size <;> simp [h]
theorem z1A (H H' : z3) (recs : List Rec) : ∀ l, z9M H H' (recs.map z9N) l = jk H H' recs l
 | [] => rfl
 | p :: l => by
  simp only [z9M, jk, z1A H H' recs l, List.getElem?_map]
  cases recs[p]? with
  | none => rfl
  | some r => simp [zaK]
def pinB {β : Type} (b : Bool) (o : Option β) : Option β := match b with
 | true => o
 | false => none
def zaW (g : AX → AV) (r : Nat) : AOp → Option (AV × zB)
 | .newc cs => if cs.all AV.one then some (.ptr r 0, .cells .exact cs.length cs) else none
 | .box x => if (g x).cells.all AV.one then some (.ptr r 0, .cells .exact (g x).cells.length (g x).cells) else none
 | .bsl esz z n ps => if esz = 0 ∨ z.length ≠ esz ∨ 16777216 < n * esz then none else
  match xU (yP n z) (ps.map fun (o, s, x) => (o, s, g x)) with
  | some cs => if cs.all AV.one then some (.sl r 0 n (.ex n), .cells .exact esz cs) else none
  | none => none
 | _ => none
theorem z9O (τ : Tau) (r : Nat) (op : AOp) : zaW τ.at r op = xt τ r op := by cases op <;> rfl
def bnO {β : Type} (o : Option (AV × zB)) (k : AV → zB → Option β) : Option β := match o with
 | some (v, b) => k v b
 | none => none
def wu {α β : Type} : List α → (List α → β) → β
 | [], k => k []
 | x :: l, k => wu l fun l => k (x :: l)
theorem WR {α β : Type} : ∀ (l : List α) (k : List α → β), wu l k = k l
 | [], _ => rfl
 | x :: l, k => by rw [wu, WR l]
def Qd {β : Type} (call : z6) (base : Nat) : List (zg × DK) → List zaJ → Tau → z3 → (Tau → z3 → Option β) → Option β
 | [], _, τ, H, k => k τ H
 | (o, dk) :: l, recs, τ, H, k => match dk with
  | .q => match o.guard with
   | none => bnP (opQ τ H o.op) fun v => wu (τ.put o.dst v) fun τ2 => Qd call base l (recs ++ [.q (fun H => opQ τ H o.op) v]) τ2 H k
   | some g => bnP (gdP (z7 τ (some g)) (opQ τ H o.op)) fun v => wu (τ.put o.dst v) fun τ2 => Qd call base l (recs ++ [if z7 τ (some g) then .q (fun H => opQ τ H o.op) v else .none]) τ2 H k
  | .al j => match o.guard with
   | none => bnO (zaW τ.at (base + j) o.op) fun v b => pinB (H.get (base + j)).isNone (wu (τ.put o.dst v) fun τ2 => Qd call base l (recs ++ [.made (base + j)]) τ2 (H.put (base + j) (some b)) k)
   | some g => bnM (if z7 τ (some g) then zaV H (base + j) (xt τ (base + j) o.op) else some (z4, .none, H)) fun v r H' => wu (τ.put o.dst v) fun τ2 => Qd call base l (recs ++ [z9N r]) τ2 H' k
  | .ef pins => match o.guard with
   | none => bnS (match xl o.op with
    | true => lft H (opP τ.at H o.op)
    | false => opE call τ.at H o.op) fun v H' => pinB (z9M H H' recs pins) (wu (τ.put o.dst v) fun τ2 => Qd call base l (recs ++ [.none]) τ2 H' k)
   | some g => bnS (gdS (z7 τ (some g)) (match xl o.op with
    | true => lft H (opP τ.at H o.op)
    | false => opE call τ.at H o.op) H) fun v H' => pinB (!z7 τ (some g) || z9M H H' recs pins) (wu (τ.put o.dst v) fun τ2 => Qd call base l (recs ++ [.none]) τ2 H' k)
theorem z1B (call : z6) (τ : Tau) (H : z3) (op : AOp) : (match xl op with
    | true => lft H (opP τ.at H op)
    | false => opE call τ.at H op) = xI call τ H op := by
 split
 ·rename_i h; rw [Qc h]; rfl
 ·rename_i h; rw [xS h]
theorem z2E {β : Type} (call : z6) (base : Nat) (k : Tau → z3 → Option β) : ∀ (l : List (zg × DK)) (recs : List Rec) (τ : Tau) (H : z3),
  Qd call base l (recs.map z9N) τ H k = (x3 call base l recs τ H).bind fun x => k x.1 x.2
 | [], _, _, _ => rfl
 | (o, dk) :: l, recs, τ, H => by
  have ih := fun r τ H => z2E call base k l (recs ++ [r]) τ H
  simp only [List.map_append, List.map_cons, List.map_nil] at ih
  unfold Qd x3
  simp only [WR]
  cases dk with
  | q =>
   cases hg : o.guard with
   | none =>
    simp only [z7, if_true]
    cases ha : aop τ H o.op with
    | none =>
     have hq : opQ τ H o.op = none := by rw [Y2, ha]
     rw [hq]; rfl
    | some x =>
     obtain ⟨v, H'⟩ := x
     simp only []
     by_cases hz : H'.size = H.size
     ·have hq : opQ τ H o.op = some v := by rw [Y2, ha]; exact if_pos hz
      rw [hq, if_pos hz]
      exact ih (.q τ o.op v) _ _
     ·have hq : opQ τ H o.op = none := by rw [Y2, ha]; exact if_neg hz
      rw [hq, if_neg hz]; rfl
   | some g =>
    simp only []
    cases hw : z7 τ (some g) with
    | true =>
     simp only [if_true, gdP]
     cases ha : aop τ H o.op with
     | none =>
      have hq : opQ τ H o.op = none := by rw [Y2, ha]
      rw [hq]; rfl
     | some x =>
      obtain ⟨v, H'⟩ := x
      simp only []
      by_cases hz : H'.size = H.size
      ·have hq : opQ τ H o.op = some v := by rw [Y2, ha]; exact if_pos hz
       rw [hq, if_pos hz]
       exact ih (.q τ o.op v) _ _
      ·have hq : opQ τ H o.op = none := by rw [Y2, ha]; exact if_neg hz
       rw [hq, if_neg hz]; rfl
    | false =>
     simp only [gdP, Bool.false_eq_true, if_false]
     exact ih .none _ _
  | al j =>
   cases hg : o.guard with
   | none =>
    simp only [z7, if_true, z9O]
    cases ha : xt τ (base + j) o.op with
    | none => rfl
    | some x =>
     obtain ⟨v, b⟩ := x
     simp only [bnO]
     cases hz : (H.get (base + j)).isNone with
     | true => simp only [pinB, if_true]; exact ih (.made (base + j)) _ _
     | false => rfl
   | some g =>
    simp only []
    cases hw : z7 τ (some g) with
    | true =>
     simp only [if_true]
     cases ha : xt τ (base + j) o.op with
     | none => rfl
     | some x =>
      obtain ⟨v, b⟩ := x
      simp only [zaV]
      cases hz : (H.get (base + j)).isNone with
      | true => simp only [if_true, bnM]; exact ih (.made (base + j)) _ _
      | false => rfl
    | false =>
     simp only [Bool.false_eq_true, if_false, bnM]
     exact ih .none _ _
  | ef pins =>
   cases hg : o.guard with
   | none =>
    simp only [z7, if_true, z1B, z1A]
    cases ha : xI call τ H o.op with
    | none => rfl
    | some x =>
     obtain ⟨v, H'⟩ := x
     simp only [bnS]
     cases jk H H' recs pins with
     | true => simp only [pinB, if_true]; exact ih .none _ _
     | false => rfl
   | some g =>
    simp only [z1B, z1A]
    cases hw : z7 τ (some g) with
    | true =>
     simp only [if_true, gdS]
     cases ha : xI call τ H o.op with
     | none => rfl
     | some x =>
      obtain ⟨v, H'⟩ := x
      simp only [bnS]
      cases jk H H' recs pins with
      | true => simp only [pinB, Bool.not_true, Bool.or_true, if_true]; exact ih .none _ _
      | false => rfl
    | false =>
     simp only [Bool.false_eq_true, if_false, gdS, bnS, Bool.not_false, Bool.true_or, pinB]
     exact ih .none _ _
def z1C {β : Type} (call : z6) : List zg → Tau → z3 → (Tau → z3 → Option β) → Option β
 | [], τ, H, k => k τ H
 | o :: l, τ, H, k => match o.guard with
  | none => match xl o.op with
   | true => bnP (opP τ.at H o.op) fun v => wu (τ.put o.dst v) fun τ => z1C call l τ H k
   | false => bnS (opE call τ.at H o.op) fun v H' => wu (τ.put o.dst v) fun τ => z1C call l τ H' k
  | some g => match xl o.op with
   | true => bnP (gdP (z7 τ (some g)) (opP τ.at H o.op)) fun v => wu (τ.put o.dst v) fun τ => z1C call l τ H k
   | false => bnS (gdS (z7 τ (some g)) (opE call τ.at H o.op) H) fun v H' => wu (τ.put o.dst v) fun τ => z1C call l τ H' k
theorem z5n {β : Type} (call : z6) (k : Tau → z3 → Option β) : ∀ (l : List zg) (τ : Tau) (H : z3), z1C call l τ H k = (kY call l τ H).bind fun x => k x.1 x.2
 | [], _, _ => rfl
 | o :: l, τ, H => by
  have ih := fun τ H => z5n call k l τ H
  unfold z1C kY
  simp only [WR]
  cases hg : o.guard with
  | none =>
   simp only [z7, if_true]
   cases hl : xl o.op with
   | true =>
    simp only [Qc hl]
    cases opP τ.at H o.op with
    | none => rfl
    | some v => exact ih _ _
   | false =>
    simp only [xS hl]
    cases opE call τ.at H o.op with
    | none => rfl
    | some x => exact ih _ _
  | some g =>
   simp only []
   cases hw : z7 τ (some g) with
   | true =>
    cases hl : xl o.op with
    | true =>
     simp only [Qc hl, gdP, if_true]
     cases opP τ.at H o.op with
     | none => rfl
     | some v => exact ih _ _
    | false =>
     simp only [xS hl, gdS, if_true]
     cases opE call τ.at H o.op with
     | none => rfl
     | some x => exact ih _ _
   | false =>
    cases hl : xl o.op <;> simp only [gdP, gdS, Bool.false_eq_true, if_false, bnP, bnS] <;> exact ih _ _

def exw (i : Nat) : yV → Nat
 | .skip | .reg _ | .dreg _ _ | .ret | .loop _ => 0
 | .exit j => if j = i then 1 else 0
 | .seq a b => min 2 (exw i a + exw i b)
 | .cond _ a b => min 2 (exw i a + exw i b)
 | .block _ c => exw i c
def z5o : yV → Nat
 | .skip | .reg _ | .dreg _ _ | .loop _ => 1
 | .ret | .exit _ => 0
 | .seq a b => min 2 (z5o a * z5o b)
 | .cond _ a b => min 2 (z5o a + z5o b)
 | .block i c => min 2 (z5o c + exw i c)
def bnE {β : Type} (o : Option (zy × Tau × z3)) (k : zy → Tau → z3 → Option β) : Option β := match o with
 | some (ex, τ, H) => k ex τ H
 | none => none
def z3P : zy → Tau → z3 → Option (zy × Tau × z3) := fun ex τ H => some (ex, τ, H)
abbrev z9P := yV → Tau → z3 → Option (zy × Tau × z3)
def z0D {β : Type} (k1 : Tau → z3 → Option β) (k : zy → Tau → z3 → Option β) : zy → Tau → z3 → Option β := fun ex τ H => match ex with
 | .normal => k1 τ H
 | .exit i => k (.exit i) τ H
 | .ret => k .ret τ H
def z5p {β : Type} (i : Nat) (k : zy → Tau → z3 → Option β) : zy → Tau → z3 → Option β := fun ex τ H => match ex with
 | .normal => k .normal τ H
 | .exit j => k (if j = i then .normal else .exit j) τ H
 | .ret => k .ret τ H
def vD {β : Type} (call : z6) (lp : z9P) : yV → Tau → z3 → (zy → Tau → z3 → Option β) → Option β
 | .skip, τ, H, k => k .normal τ H
 | .ret, τ, H, k => k .ret τ H
 | .exit i, τ, H, k => k (.exit i) τ H
 | .reg ops, τ, H, k => z1C call ops τ H (k .normal)
 | .dreg na ops, τ, H, k => Qd call H.size ops [] τ (pushN na H) (k .normal)
 | .seq a b, τ, H, k => match z5o a with
  | 0 | 1 => vD call lp a τ H (z0D (fun τ H => vD call lp b τ H k) k)
  | _ => bnE (vD call lp a τ H z3P) (z0D (fun τ H => vD call lp b τ H k) k)
 | .cond x a b, τ, H, k => zF (τ.at x) (fun _ => vD call lp a τ H k) (fun _ => vD call lp b τ H k)
 | .block i c, τ, H, k => match z5o c + exw i c with
  | 0 | 1 => vD call lp c τ H (z5p i k)
  | _ => bnE (vD call lp c τ H z3P) (z5p i k)
 | .loop c, τ, H, k => bnE (lp c τ H) k
noncomputable abbrev K3 (E : Env) : z9P := fun c τ H => yC E (.loop c) τ H
section
variable {E : Env} {τ : Tau} {H : z3}
theorem Z3 {α : Type} {a b : Option α} (h : ∀ x, a = some x ↔ b = some x) : a = b := by
 cases a with
 | none => cases b with
  | none => rfl
  | some y => exact absurd ((h y).2 rfl) (by simp)
 | some x => exact ((h x).1 rfl).symm
theorem KX : yC E .skip τ H = some (.normal, τ, H) := zM.2 ⟨1, rfl⟩
theorem WS : yC E .ret τ H = some (.ret, τ, H) := zM.2 ⟨1, rfl⟩
theorem KY {i : Nat} : yC E (.exit i) τ H = some (.exit i, τ, H) := zM.2 ⟨1, rfl⟩
theorem WT {ops : List zg} : yC E (.reg ops) τ H = (kY (zI E) ops τ H).map fun (τ, H) => (.normal, τ, H) := by
 refine Z3 fun x => ?_
 rw [zM]
 constructor
 ·rintro ⟨n, hn⟩
  cases n with
  | zero => simp [zp] at hn
  | succ n =>
   simp only [zp] at hn
   obtain ⟨y, hy, rfl⟩ := Option.map_eq_some_iff.1 hn
   rw [W4 (z5m n) _ _ _ _ hy]; rfl
 ·intro h
  obtain ⟨y, hy, rfl⟩ := Option.map_eq_some_iff.1 h
  obtain ⟨n, hn⟩ := z1z _ _ _ _ hy
  exact ⟨n + 1, by simp only [zp, hn]; rfl⟩
theorem KZ {na : Nat} {ops : List (zg × DK)} : yC E (.dreg na ops) τ H = (x3 (zI E) H.size ops [] τ (pushN na H)).map fun (τ, H) => (.normal, τ, H) := by
 refine Z3 fun x => ?_
 rw [zM]
 constructor
 ·rintro ⟨n, hn⟩
  cases n with
  | zero => simp [zp] at hn
  | succ n =>
   simp only [zp] at hn
   obtain ⟨y, hy, rfl⟩ := Option.map_eq_some_iff.1 hn
   rw [Y0 (z5m n) _ _ _ _ _ _ hy]; rfl
 ·intro h
  obtain ⟨y, hy, rfl⟩ := Option.map_eq_some_iff.1 h
  obtain ⟨n, hn⟩ := Xr _ _ _ _ _ _ hy
  exact ⟨n + 1, by simp only [zp, hn]; rfl⟩
theorem WU {a b : yV} : yC E (.seq a b) τ H = bnE (yC E a τ H) (z0D (fun τ H => yC E b τ H) z3P) := by
 refine Z3 fun x => ?_
 rw [zM]
 constructor
 ·rintro ⟨n, hn⟩
  cases n with
  | zero => simp [zp] at hn
  | succ n =>
   simp only [zp] at hn
   cases ha : zp E n a τ H with
   | none => rw [ha] at hn; cases hn
   | some y =>
    obtain ⟨ex, τ1, H1⟩ := y
    rw [zM.2 ⟨n, ha⟩]
    rw [ha] at hn
    cases ex with
    | normal => exact zM.2 ⟨n, hn⟩
    | exit i => exact hn
    | ret => exact hn
 ·intro h
  cases ha : yC E a τ H with
  | none => rw [ha] at h; cases h
  | some y =>
   obtain ⟨ex, τ1, H1⟩ := y
   obtain ⟨n, hn⟩ := zM.1 ha
   rw [ha] at h
   cases ex with
   | normal =>
    obtain ⟨m, hm⟩ := zM.1 h
    exact ⟨max n m + 1, by simp only [zp, Z2 (Nat.le_max_left n m) hn, Z2 (Nat.le_max_right n m) hm]⟩
   | exit i => exact ⟨n + 1, by simp only [zp, hn]; exact h⟩
   | ret => exact ⟨n + 1, by simp only [zp, hn]; exact h⟩
theorem Qe {x : AX} {a b : yV} : yC E (.cond x a b) τ H = zF (τ.at x) (fun _ => yC E a τ H) (fun _ => yC E b τ H) := by
 refine Z3 fun y => ?_
 rw [zM]
 unfold zF
 constructor
 ·rintro ⟨n, hn⟩
  cases n with
  | zero => simp [zp] at hn
  | succ n =>
   simp only [zp] at hn
   split at hn
   ·rename_i t ht
    rw [ht]
    cases t
    ·exact zM.2 ⟨n, hn⟩
    ·exact zM.2 ⟨n, hn⟩
   ·cases hn
 ·intro h
  split at h
  ·rename_i ht
   obtain ⟨n, hn⟩ := zM.1 h
   exact ⟨n + 1, by simp only [zp, ht, if_true, hn]⟩
  ·rename_i ht
   obtain ⟨n, hn⟩ := zM.1 h
   exact ⟨n + 1, by simp only [zp, ht, Bool.false_eq_true, if_false, hn]⟩
  ·cases h
theorem Ji {i : Nat} {c : yV} : yC E (.block i c) τ H = bnE (yC E c τ H) (z5p i z3P) := by
 refine Z3 fun y => ?_
 rw [zM]
 constructor
 ·rintro ⟨n, hn⟩
  cases n with
  | zero => simp [zp] at hn
  | succ n =>
   simp only [zp] at hn
   cases ha : zp E n c τ H with
   | none => rw [ha] at hn; cases hn
   | some z =>
    rw [zM.2 ⟨n, ha⟩]
    rw [ha] at hn
    obtain ⟨ex, τ1, H1⟩ := z
    cases ex <;> exact hn
 ·intro h
  cases ha : yC E c τ H with
  | none => rw [ha] at h; cases h
  | some z =>
   obtain ⟨ex, τ1, H1⟩ := z
   obtain ⟨n, hn⟩ := zM.1 ha
   rw [ha] at h
   refine ⟨n + 1, ?_⟩
   cases ex <;> (simp only [zp, hn]; exact h)
theorem z1D {c : yV} : K3 E c τ H = bnE (yC E c τ H) (z0D (fun τ H => K3 E c τ H) z3P) := by
 refine Z3 fun x => ?_
 simp only [K3]
 rw [zM]
 constructor
 ·rintro ⟨n, hn⟩
  cases n with
  | zero => simp [zp] at hn
  | succ n =>
   simp only [zp] at hn
   cases ha : zp E n c τ H with
   | none => rw [ha] at hn; cases hn
   | some y =>
    obtain ⟨ex, τ1, H1⟩ := y
    rw [zM.2 ⟨n, ha⟩]
    rw [ha] at hn
    cases ex with
    | normal => exact zM.2 ⟨n, hn⟩
    | exit i => exact hn
    | ret => exact hn
 ·intro h
  cases ha : yC E c τ H with
  | none => rw [ha] at h; cases h
  | some y =>
   obtain ⟨ex, τ1, H1⟩ := y
   obtain ⟨n, hn⟩ := zM.1 ha
   rw [ha] at h
   cases ex with
   | normal =>
    obtain ⟨m, hm⟩ := zM.1 h
    exact ⟨max n m + 1, by simp only [zp, Z2 (Nat.le_max_left n m) hn, Z2 (Nat.le_max_right n m) hm]⟩
   | exit i => exact ⟨n + 1, by simp only [zp, hn]; exact h⟩
   | ret => exact ⟨n + 1, by simp only [zp, hn]; exact h⟩
end
theorem z5q (o : Option (zy × Tau × z3)) : bnE o z3P = o := by
 cases o <;> rfl
theorem jf {β : Type} (E : Env) : ∀ (c : yV) (τ : Tau) (H : z3) (k : zy → Tau → z3 → Option β), vD (zI E) (K3 E) c τ H k = bnE (yC E c τ H) k
 | .skip, τ, H, k => by rw [KX]; rfl
 | .ret, τ, H, k => by rw [WS]; rfl
 | .exit i, τ, H, k => by rw [KY]; rfl
 | .reg ops, τ, H, k => by
  rw [WT]
  simp only [vD, z5n]
  cases kY (zI E) ops τ H <;> rfl
 | .dreg na ops, τ, H, k => by
  rw [KZ]
  have := z2E (zI E) H.size (k .normal) ops [] τ (pushN na H)
  simp only [vD]
  rw [List.map_nil] at this
  rw [this]
  cases x3 (zI E) H.size ops [] τ (pushN na H) <;> rfl
 | .seq a b, τ, H, k => by
  rw [WU]
  have h1 : vD (zI E) (K3 E) (.seq a b) τ H k = bnE (yC E a τ H) (z0D (fun τ H => vD (zI E) (K3 E) b τ H k) k) := by
   simp only [vD]
   split
   ·rw [jf E a]
   ·rw [jf E a]
   ·rw [jf E a, z5q]
  rw [h1]
  cases yC E a τ H with
  | none => rfl
  | some x =>
   obtain ⟨ex, τ1, H1⟩ := x
   cases ex with
   | normal => simp only [bnE, z0D]; exact jf E b τ1 H1 k
   | exit i => rfl
   | ret => rfl
 | .cond x a b, τ, H, k => by
  rw [Qe]
  simp only [vD, jf E a, jf E b]
  unfold zF
  split <;> rfl
 | .block i c, τ, H, k => by
  rw [Ji]
  have h1 : vD (zI E) (K3 E) (.block i c) τ H k = bnE (yC E c τ H) (z5p i k) := by
   simp only [vD]
   split
   ·rw [jf E c]
   ·rw [jf E c]
   ·rw [jf E c, z5q]
  rw [h1]
  cases yC E c τ H with
  | none => rfl
  | some x =>
   obtain ⟨ex, τ1, H1⟩ := x
   cases ex <;> rfl
 | .loop c, τ, H, k => rfl
def z5r (res : List vE) : zy → Tau → z3 → Option (AV × z3) := fun ex τ H => match ex with
 | .normal => (zX τ H res).map fun v => (v, H)
 | .exit _ => none
 | .ret => (zX τ H res).map fun v => (v, H)
theorem z1E {E : Env} {f : Nat} {fn : AFn} (hs : E.spec f = none) (hf : E.fns f = some fn) (args : List AV) (H : z3) :
  zI E f args H = vD (zI E) (K3 E) fn.code (args ++ List.replicate (fn.nt - args.length) z4) H (z5r fn.res) := by
 rw [jf]
 refine Z3 fun x => ?_
 rw [xH]
 constructor
 ·rintro ⟨n, hn⟩
  cases n with
  | zero => simp [xg] at hn
  | succ n =>
   simp only [xg, hs, hf] at hn
   cases ha : zp E n fn.code (args ++ List.replicate (fn.nt - args.length) z4) H with
   | none => rw [ha] at hn; cases hn
   | some y =>
    obtain ⟨ex, τ1, H1⟩ := y
    rw [zM.2 ⟨n, ha⟩]
    rw [ha] at hn
    cases ex <;> first | exact hn | cases hn
 ·intro h
  cases ha : yC E fn.code (args ++ List.replicate (fn.nt - args.length) z4) H with
  | none => rw [ha] at h; cases h
  | some y =>
   obtain ⟨ex, τ1, H1⟩ := y
   obtain ⟨n, hn⟩ := zM.1 ha
   rw [ha] at h
   refine ⟨n + 1, ?_⟩
   simp only [xg, hs, hf, hn]
   cases ex <;> first | exact h | cases h
theorem ww {E : Env} {f : Nat} {g : List AV → z3 → Option (AV × z3)} (hs : E.spec f = some g) (args : List AV) (H : z3) : zI E f args H = g args H := by
 refine Z3 fun x => ?_
 rw [xH]
 constructor
 ·rintro ⟨n, hn⟩
  cases n with
  | zero => simp [xg] at hn
  | succ n => simpa only [xg, hs] using hn
 ·intro h
  exact ⟨1, by simpa only [xg, hs] using h⟩
end Go.Ab
