/- Temporaries that nothing reads any more may be forgotten: code with such forgetting put in tells what the code tells. -/
import Derived.Test.YtdbbdfmkglgjdaaSh5
set_option linter.unusedVariables false
set_option linter.unusedSimpArgs false
set_option linter.unusedSectionVars false
namespace Go.Ab
def K4 : AOp → List AX
 | .mv x => [x]
 | .pick c a b => [c, a, b]
 | .newc _ => []
 | .box x => [x]
 | .build _ ps => ps.map fun p => p.2.2
 | .bsl _ _ _ ps => ps.map fun p => p.2.2
 | .ld x => [x]
 | .ldn _ x => [x]
 | .st _ a v => [a, v]
 | .nck x => [x]
 | .bin _ x y => [x, y]
 | .eqs _ _ x y => [x, y]
 | .eqn _ _ x => [x]
 | .un _ x => [x]
 | .cvi _ x => [x]
 | .cvs x => [x]
 | .stf x => [x]
 | .s2b x => [x]
 | .b2s x => [x]
 | .mki _ x => [x]
 | .mkf _ fs cs => fs ++ cs
 | .mks _ _ _ l c => [l, c]
 | .slc _ x lo hi mx => x :: (lo.toList ++ hi.toList ++ mx.toList)
 | .sls x lo hi => x :: (lo.toList ++ hi.toList)
 | .sla _ _ x lo hi => x :: (lo.toList ++ hi.toList)
 | .fad _ x => [x]
 | .fld _ _ x => [x]
 | .iad _ x i => [x, i]
 | .iaa _ _ x i => [x, i]
 | .ixs x i => [x, i]
 | .ixa _ _ _ x i => [x, i]
 | .tas _ _ _ x => [x]
 | .ext x _ => [x]
 | .len x => [x]
 | .lens x => [x]
 | .lena _ => []
 | .cap x => [x]
 | .mxi l => l
 | .mni l => l
 | .app _ _ _ s x => [s, x]
 | .apz _ _ _ s n => [s, n]
 | .cpy _ d s => [d, s]
 | .clr _ _ x => [x]
 | .call f args => f :: args
 | .inv _ r args => r :: args
 | .rng x => [x]
 | .nxt x => [x]
 | .mkm => []
 | .mlk _ _ _ x k => [x, k]
 | .mup _ m k v => [m, k, v]
 | .lnm x => [x]
section
variable {τ τ' : Tau} {H : z3}
theorem WV {l : List AX} (h : ∀ x ∈ l, τ.at x = τ'.at x) : l.map τ.at = l.map τ'.at := List.map_congr_left h
theorem Qf {o : Option AX} (h : ∀ x ∈ o.toList, τ.at x = τ'.at x) : o.map τ.at = o.map τ'.at := by
 cases o with
 | none => rfl
 | some x => simp [h x (by simp)]
theorem z1F {ps : List (Nat × Nat × AX)} (h : ∀ x ∈ ps.map (fun p => p.2.2), τ.at x = τ'.at x) :
  ps.map (fun (o, s, x) => (o, s, τ.at x)) = ps.map (fun (o, s, x) => (o, s, τ'.at x)) := by
 refine List.map_congr_left fun p hp => ?_
 obtain ⟨o, s, x⟩ := p
 show (o, s, τ.at x) = (o, s, τ'.at x)
 rw [h x (List.mem_map.2 ⟨_, hp, rfl⟩)]
theorem z2F {op : AOp} (h : ∀ x ∈ K4 op, τ.at x = τ'.at x) : aop τ H op = aop τ' H op := by
 cases op <;> simp only [K4, List.mem_cons, List.not_mem_nil, or_false, forall_eq_or_imp, forall_eq, List.mem_append, false_imp_iff, implies_true] at h <;> simp only [aop]
 case pick c a b =>
  rw [h.1]
  cases τ'.at c with
  | bool t => cases t <;> simp [h.2.1, h.2.2]
  | _ => rfl
 case build z ps => rw [z1F h]
 case bsl a b c ps => rw [z1F h]
 case mkf f fs cs => rw [WV fun x hx => h x (Or.inl hx), WV fun x hx => h x (Or.inr hx)]
 case slc e x lo hi mx => rw [h.1, Qf fun x hx => h.2 x (Or.inl (Or.inl hx)), Qf fun x hx => h.2 x (Or.inl (Or.inr hx)), Qf fun x hx => h.2 x (Or.inr hx)]
 case sls x lo hi => rw [h.1, Qf fun x hx => h.2 x (Or.inl hx), Qf fun x hx => h.2 x (Or.inr hx)]
 case sla n e x lo hi => rw [h.1, Qf fun x hx => h.2 x (Or.inl hx), Qf fun x hx => h.2 x (Or.inr hx)]
 case mxi l => rw [WV h]
 case mni l => rw [WV h]
 case mup q m k v => rw [h.1, h.2.1, h.2.2]
 case mlk q z ok x k => rw [h.1, h.2]
 all_goals first | rw [h] | (rw [h.1]; rw [h.2]; done) | rfl
theorem z3Q {op : AOp} (h : ∀ x ∈ K4 op, τ.at x = τ'.at x) : yM τ op = yM τ' op := by
 cases op <;> try rfl
 case call f args =>
  simp only [K4, List.mem_cons, forall_eq_or_imp] at h
  simp only [yM]
  rw [h.1, WV h.2]
 case inv tab r args =>
  simp only [K4, List.mem_cons, forall_eq_or_imp] at h
  simp only [yM]
  rw [h.1, WV h.2]
theorem z5s {op : AOp} {r : Nat} (h : ∀ x ∈ K4 op, τ.at x = τ'.at x) : xt τ r op = xt τ' r op := by
 cases op <;> try rfl
 case box x =>
  simp only [K4, List.mem_cons, List.not_mem_nil, or_false, forall_eq] at h
  simp only [xt]
  rw [h]
 case bsl a b c ps =>
  simp only [K4] at h
  simp only [xt]
  rw [z1F h]
end

def z9Q : AX → Nat
 | .t n => 2 ^ n
 | .c _ => 0
def z5t : List AX → Nat
 | [] => 0
 | x :: l => z9Q x ||| z5t l
def z9R (s : Nat) : Option Nat → Nat
 | none => s
 | some d => s ^^^ (s &&& 2 ^ d)
def zc6 : Option (Nat × Bool) → Nat
 | none => 0
 | some (t, _) => 2 ^ t
def sub (a b : Nat) : Prop := ∀ t, a.testBit t = true → b.testBit t = true
theorem W6 (a : Nat) : sub a a := fun _ h => h
theorem Zv {a b c : Nat} (h : sub (a ||| b) c) : sub a c := fun t ht => h t (by simp [Nat.testBit_or, ht])
theorem wE {a b c : Nat} (h : sub (a ||| b) c) : sub b c := fun t ht => h t (by simp [Nat.testBit_or, ht])
theorem zaL {a b : Nat} (h : a &&& b = a) : sub a b := fun t ht => by
 rw [← h] at ht
 simp [Nat.testBit_and] at ht
 exact ht.2
def Agr (s : Nat) (τ τ' : Tau) : Prop := τ.length = τ'.length ∧ ∀ t, s.testBit t = true → τ[t]? = τ'[t]?
theorem Agr.sub {s u : Nat} {τ τ' : Tau} (h : Agr s τ τ') (hs : sub u s) : Agr u τ τ' := ⟨h.1, fun t ht => h.2 t (hs t ht)⟩
theorem z5u (n t : Nat) : (2 ^ n).testBit t = decide (n = t) := Nat.testBit_two_pow
theorem Agr.at {s : Nat} {τ τ' : Tau} (h : Agr s τ τ') : ∀ {l : List AX}, Go.Ab.sub (z5t l) s → ∀ x ∈ l, τ.at x = τ'.at x
 | [], _, _, hx => by simp at hx
 | y :: l, hs, x, hx => by
  rcases List.mem_cons.1 hx with rfl | hx
  ·cases x with
   | c v => rfl
   | t n =>
    have := h.2 n (Zv hs n (by simp [z9Q]))
    simp only [Tau.at, List.getD_eq_getElem?_getD, this]
  ·exact Agr.at h (wE hs) x hx
theorem Agr.put {s : Nat} {τ τ' : Tau} {d : Option Nat} (v : AV) (h : Agr (z9R s d) τ τ') : Agr s (τ.put d v) (τ'.put d v) := by
 cases d with
 | none => exact h
 | some d =>
  simp only [Tau.put]
  refine ⟨by simp [h.1], fun t ht => ?_⟩
  rw [List.getElem?_set, List.getElem?_set]
  by_cases hd : d = t
  ·simp [hd, h.1]
  ·simp only [if_neg hd]
   refine h.2 t ?_
   simp only [z9R, Nat.testBit_xor, Nat.testBit_and, z5u, ht, Bool.true_and]
   simp [hd]
theorem Agr.wanted {s : Nat} {τ τ' : Tau} (h : Agr s τ τ') {g : Option (Nat × Bool)} (hs : Go.Ab.sub (zc6 g) s) : z7 τ g = z7 τ' g := by
 cases g with
 | none => rfl
 | some x =>
  obtain ⟨t, w⟩ := x
  simp only [z7]
  rw [h.2 t (hs t (by simp [zc6]))]
theorem Agr.put_dead {s : Nat} {τ τ' : Tau} {d : Nat} (v : AV) (h : Agr s τ τ') (hd : s.testBit d = false) : Agr s τ (τ'.set d v) := by
 refine ⟨by simp [h.1], fun t ht => ?_⟩
 rw [List.getElem?_set]
 by_cases e : d = t
 ·subst e; rw [hd] at ht; cases ht
 ·rw [if_neg e]; exact h.2 t ht

def zaM (o : zg) (s : Nat) : Nat := z5t (K4 o.op) ||| (zc6 o.guard ||| z9R s o.dst)
def z2G : List zg → Nat → Nat
 | [], s => s
 | o :: l, s => zaM o (z2G l s)
def WW : List (zg × DK) → Nat → Nat
 | [], s => s
 | o :: l, s => zaM o.1 (WW l s)
section
variable {call call' : z6} (hc : Jg call' call)
include hc
theorem z2H {s : Nat} {τ τ' : Tau} (h : Agr s τ τ') {op : AOp} (hs : sub (z5t (K4 op)) s) {H : z3} {r : AV × z3} (e : xI call' τ' H op = some r) : xI call τ H op = some r := by
 unfold xI at e ⊢
 rw [z3Q (h.at hs)]
 split at e
 ·exact hc _ _ _ _ e
 ·rw [z2F (h.at hs)]; exact e
theorem z1G : ∀ (l : List zg) (s : Nat) (τ τ' : Tau) (H : z3) (τ1' : Tau) (H1 : z3), Agr (z2G l s) τ τ' → kY call' l τ' H = some (τ1', H1) → ∃ τ1, kY call l τ H = some (τ1, H1) ∧ Agr s τ1 τ1'
 | [], s, τ, τ', H, τ1', H1, h, e => by
  simp only [kY, Option.some.injEq, Prod.mk.injEq] at e
  obtain ⟨rfl, rfl⟩ := e
  exact ⟨τ, rfl, h⟩
 | o :: l, s, τ, τ', H, τ1', H1, h, e => by
  unfold kY at e ⊢
  have hz : sub (zaM o (z2G l s)) (z2G (o :: l) s) := W6 _
  rw [h.wanted (Zv (wE hz))]
  have hp : Agr (z9R (z2G l s) o.dst) τ τ' := h.sub (wE (wE hz))
  split at e
  ·rename_i hw
   rw [if_pos hw]
   split at e
   ·rename_i v H' hs
    rw [z2H hc h (Zv hz) hs]
    exact z1G l s _ _ _ _ _ (hp.put v) e
   ·cases e
  ·rename_i hw
   rw [if_neg hw]
   exact z1G l s _ _ _ _ _ (hp.put _) e
def V0 (a b : List Rec) : Prop := a.length = b.length ∧ ∀ (p : Nat) (H H' : z3), (match a[p]? with
  | some q => ka H H' q
  | none => false) = (match b[p]? with
  | some q => ka H H' q
  | none => false)
omit hc in
theorem V0.push {a b : List Rec} (h : V0 a b) {q r : Rec} (hq : ∀ H H', ka H H' q = ka H H' r) : V0 (a ++ [q]) (b ++ [r]) := by
 refine ⟨by simp [h.1], fun p H H' => ?_⟩
 rcases Nat.lt_trichotomy p a.length with hp | hp | hp
 ·rw [List.getElem?_append_left hp, List.getElem?_append_left (h.1 ▸ hp)]
  exact h.2 p H H'
 ·subst hp
  simp only [List.getElem?_concat_length]
  rw [h.1, List.getElem?_concat_length]
  exact hq H H'
 ·have := h.1
  rw [List.getElem?_eq_none (by simp; omega), List.getElem?_eq_none (by simp; omega)]
omit hc in
theorem V0.pins {a b : List Rec} (h : V0 a b) (H H' : z3) : ∀ pins, jk H H' a pins = jk H H' b pins
 | [] => rfl
 | p :: l => by
  have := congr (congrArg and (h.2 p H H')) (V0.pins h H H' l)
  exact this
theorem Xs (base : Nat) : ∀ (l : List (zg × DK)) (s : Nat) (recs recs' : List Rec) (τ τ' : Tau) (H : z3) (τ1' : Tau) (H1 : z3), V0 recs recs' → Agr (WW l s) τ τ' →
  x3 call' base l recs' τ' H = some (τ1', H1) → ∃ τ1, x3 call base l recs τ H = some (τ1, H1) ∧ Agr s τ1 τ1'
 | [], s, recs, recs', τ, τ', H, τ1', H1, _, h, e => by
  simp only [x3, Option.some.injEq, Prod.mk.injEq] at e
  obtain ⟨rfl, rfl⟩ := e
  exact ⟨τ, rfl, h⟩
 | (o, dk) :: l, s, recs, recs', τ, τ', H, τ1', H1, hr, h, e => by
  unfold x3 at e ⊢
  have hz : sub (zaM o (WW l s)) (WW ((o, dk) :: l) s) := W6 _
  rw [h.wanted (Zv (wE hz))]
  have hp : Agr (z9R (WW l s) o.dst) τ τ' := h.sub (wE (wE hz))
  have ha := fun (H : z3) => z2F (H := H) (h.at (Zv hz))
  split at e
  ·rename_i hw
   rw [if_pos hw]
   cases dk with
   | q =>
    simp only at e ⊢
    rw [ha]
    split at e
    ·rename_i v H' hs
     split at e
     ·rename_i hy
      rw [if_pos hy]
      exact Xs base l s _ _ _ _ _ _ _ (hr.push fun H H' => by simp only [ka, ha]) (hp.put v) e
     ·cases e
    ·cases e
   | al k =>
    simp only at e ⊢
    rw [z5s (h.at (Zv hz))]
    split at e
    ·rename_i v ob hs
     split at e
     ·rename_i hy
      rw [if_pos hy]
      exact Xs base l s _ _ _ _ _ _ _ (hr.push fun H H' => rfl) (hp.put v) e
     ·cases e
    ·cases e
   | ef pins =>
    simp only at e ⊢
    split at e
    ·rename_i v H' hs
     rw [z2H hc h (Zv hz) hs]
     simp only
     split at e
     ·rename_i hy
      rw [hr.pins, if_pos hy]
      exact Xs base l s _ _ _ _ _ _ _ (hr.push fun H H' => rfl) (hp.put v) e
     ·cases e
    ·cases e
  ·rename_i hw
   rw [if_neg hw]
   exact Xs base l s _ _ _ _ _ _ _ (hr.push fun H H' => rfl) (hp.put _) e
end

def z9S : zg → Option Nat
 | ⟨some d, .mv (.c (.tup [])), none⟩ => some d
 | _ => none
def z5v : List zg → Option Nat
 | [] => some 0
 | o :: l => match z9S o, z5v l with
  | some d, some s => some (2 ^ d ||| s)
  | _, _ => none
def W7 : yV → Option Nat
 | .reg ops => z5v ops
 | _ => none
def kP : yV → yV
 | .seq a b => match W7 a with
  | some _ => kP b
  | none => .seq (kP a) (kP b)
 | .cond x a b => .cond x (kP a) (kP b)
 | .block i c => .block i (kP c)
 | .loop c => .loop (kP c)
 | c => c
def lvC (out : Nat) (exs : List (Nat × Nat)) (rt : Nat) : yV → Option Nat
 | .skip => some out
 | .ret => some rt
 | .exit i => exs.lookup i
 | .reg ops => some (z2G ops out)
 | .dreg _ ops => some (WW ops out)
 | .seq a b => match lvC out exs rt b with
  | none => none
  | some s => match W7 a with
   | some k => if k &&& s = 0 then some s else none
   | none => lvC s exs rt a
 | .cond x a b => match lvC out exs rt a, lvC out exs rt b with
  | some s, some t => some (z9Q x ||| (s ||| t))
  | _, _ => none
 | .block i c => lvC out ((i, out) :: exs) rt c
 | .loop c => match lvC 0 exs rt c with
  | none => none
  | some s1 => match lvC s1 exs rt c with
   | none => none
   | some s2 => match lvC s2 exs rt c with
    | none => none
    | some s3 => if s3 &&& s2 = s3 then some s2 else none
def z2I (out : Nat) (exs : List (Nat × Nat)) (rt : Nat) : zy → Nat
 | .normal => out
 | .exit i => (exs.lookup i).getD 0
 | .ret => rt
theorem z2J (call : z6) : ∀ (l : List zg) (k s : Nat) (τ τ' : Tau) (H : z3) (τ1' : Tau) (H1 : z3), z5v l = some k → k &&& s = 0 → Agr s τ τ' → kY call l τ' H = some (τ1', H1) → H1 = H ∧ Agr s τ τ1'
 | [], k, s, τ, τ', H, τ1', H1, _, _, h, e => by
  simp only [kY, Option.some.injEq, Prod.mk.injEq] at e
  obtain ⟨rfl, rfl⟩ := e
  exact ⟨rfl, h⟩
 | o :: l, k, s, τ, τ', H, τ1', H1, hk, hz, h, e => by
  simp only [z5v] at hk
  split at hk
  ·rename_i d k' ho hl
   obtain rfl := Option.some.inj hk
   unfold z9S at ho
   split at ho
   ·obtain rfl := (Option.some.inj ho).symm
    simp only [kY, z7, if_true, xI, yM, aop, Tau.at, Tau.put] at e
    have hd : s.testBit d = false := by
     have := congrArg (fun n => n.testBit d) hz
     simp [Nat.testBit_and, Nat.testBit_or] at this
     simpa using this
    have hz' : k' &&& s = 0 := by
     apply Nat.eq_of_testBit_eq
     intro i
     have := congrArg (fun n => n.testBit i) hz
     simp only [Nat.testBit_and, Nat.testBit_or, Nat.zero_testBit] at this ⊢
     cases h1 : k'.testBit i <;> simp_all
    exact z2J call l k' s τ _ H τ1' H1 hl hz' (h.put_dead _ hd) e
   ·cases ho
  ·cases hk
section
variable {E E' : Env}
def Jj (fn : AFn) : AFn := ⟨fn.nt, kP fn.code, fn.res⟩
def Zw : List vE → Nat
 | [] => 0
 | .tmp t :: l => 2 ^ t ||| Zw l
 | .cell a _ :: l => 2 ^ a ||| Zw l
def WX (fn : AFn) : Bool := (lvC (Zw fn.res) [] (Zw fn.res) fn.code).isSome
theorem z0n {τ τ' : Tau} {H : z3} {l : List vE} (h : Agr (Zw l) τ τ') : zX τ H l = zX τ' H l := by
 have : zK (qW τ H) l = zK (qW τ' H) l := by
  have key : ∀ (l : List vE) (s : Nat), sub (Zw l) s → Agr s τ τ' → zK (qW τ H) l = zK (qW τ' H) l := by
   intro l
   induction l with
   | nil => intro _ _ _; rfl
   | cons r l ih =>
    intro s hs h
    have h1 : qW τ H r = qW τ' H r := by
     cases r with
     | tmp t => simp only [qW]; exact h.2 t (hs t (by simp [Zw, Nat.testBit_or]))
     | cell a n =>
      simp only [qW]
      rw [h.2 a (hs a (by simp [Zw, Nat.testBit_or]))]
    have h2 := ih s (fun t ht => hs t (by cases r <;> simp [Zw, Nat.testBit_or, ht])) h
    simp only [zK, h1, h2]
  exact key l _ (W6 _) h
 simp only [zX, this]
structure WY (E E' : Env) : Prop where
 spec : E'.spec = E.spec
 fns : ∀ f fn, E'.fns f = some fn → E.fns f = some (Jj fn) ∧ WX fn = true
theorem z3R {i j out : Nat} {exs : List (Nat × Nat)} (h : j ≠ i) : ((i, out) :: exs).lookup j = exs.lookup j := by
 simp [List.lookup, show (j == i) = false from by simpa using h]
theorem z5w (hS : WY E E') : ∀ n, Jg (xg E' n) (zI E) ∧
  ∀ c out exs rt s τ τ' H ex τ1' H1, lvC out exs rt c = some s → Agr s τ τ' → zp E' n c τ' H = some (ex, τ1', H1) → ∃ τ1, yC E (kP c) τ H = some (ex, τ1, H1) ∧ Agr (z2I out exs rt ex) τ1 τ1' := by
 intro n
 induction n with
 | zero => exact ⟨fun f args H r h => by simp [xg] at h, fun c out exs rt s τ τ' H ex τ1' H1 _ _ h => by simp [zp] at h⟩
 | succ n ih =>
  obtain ⟨ihc, ihe⟩ := ih
  refine ⟨fun f args H r h => ?_, ?_⟩
  ·unfold xg at h
   split at h
   ·rename_i g hg
    rw [hS.spec] at hg
    rw [ww hg]
    exact h
   ·rename_i hg
    rw [hS.spec] at hg
    split at h
    ·cases h
    ·rename_i fn hfn
     obtain ⟨h1, h2⟩ := hS.fns f fn hfn
     rw [z1E hg h1, jf]
     unfold WX at h2
     obtain ⟨s, hs⟩ := Option.isSome_iff_exists.1 h2
     cases he : zp E' n fn.code (args ++ List.replicate (fn.nt - args.length) z4) H with
     | none => rw [he] at h; cases h
     | some x =>
      obtain ⟨ex, τ1', H1⟩ := x
      obtain ⟨τ1, hτ, hag⟩ := ihe _ _ _ _ _ _ _ _ _ _ _ hs ⟨rfl, fun _ _ => rfl⟩ he
      rw [he] at h
      show bnE (yC E (kP fn.code) (args ++ List.replicate (fn.nt - args.length) z4) H) (z5r fn.res) = some r
      rw [hτ]
      cases ex with
      | normal => simp only [bnE, z5r]; rw [z0n hag]; exact h
      | exit i => cases h
      | ret => simp only [bnE, z5r]; rw [z0n hag]; exact h
  ·intro c out exs rt s τ τ' H ex τ1' H1 hl ha he
   unfold zp at he
   cases c with
   | skip =>
    obtain rfl := Option.some.inj hl
    simp only [Option.some.injEq, Prod.mk.injEq] at he
    obtain ⟨rfl, rfl, rfl⟩ := he
    exact ⟨τ, KX, ha⟩
   | ret =>
    obtain rfl := Option.some.inj hl
    simp only [Option.some.injEq, Prod.mk.injEq] at he
    obtain ⟨rfl, rfl, rfl⟩ := he
    exact ⟨τ, WS, ha⟩
   | exit i =>
    simp only [Option.some.injEq, Prod.mk.injEq] at he
    obtain ⟨rfl, rfl, rfl⟩ := he
    simp only [lvC] at hl
    exact ⟨τ, KY, by simp only [z2I, hl, Option.getD_some]; exact ha⟩
   | reg ops =>
    obtain rfl := Option.some.inj hl
    simp only at he
    obtain ⟨y, hy, he⟩ := Option.map_eq_some_iff.1 he
    obtain ⟨τy, Hy⟩ := y
    simp only [Prod.mk.injEq] at he
    obtain ⟨rfl, rfl, rfl⟩ := he
    obtain ⟨τ1, h1, h2⟩ := z1G ihc _ _ _ _ _ _ _ ha hy
    refine ⟨τ1, ?_, h2⟩
    show yC E (.reg ops) τ H = _
    rw [WT, h1]; rfl
   | dreg na ops =>
    obtain rfl := Option.some.inj hl
    simp only at he
    obtain ⟨y, hy, he⟩ := Option.map_eq_some_iff.1 he
    obtain ⟨τy, Hy⟩ := y
    simp only [Prod.mk.injEq] at he
    obtain ⟨rfl, rfl, rfl⟩ := he
    obtain ⟨τ1, h1, h2⟩ := Xs ihc _ _ _ [] _ _ _ _ _ _ ⟨rfl, fun _ _ _ => rfl⟩ ha hy
    refine ⟨τ1, ?_, h2⟩
    show yC E (.dreg na ops) τ H = _
    rw [KZ, h1]; rfl
   | seq a b =>
    simp only [lvC] at hl
    cases hb : lvC out exs rt b with
    | none => rw [hb] at hl; cases hl
    | some sb =>
     rw [hb] at hl
     simp only at hl he
     have hk : (∃ ops k, a = .reg ops ∧ z5v ops = some k ∧ k &&& sb = 0 ∧ s = sb) ∨ (kP (.seq a b) = .seq (kP a) (kP b) ∧ lvC sb exs rt a = some s) := by
      cases hk : W7 a with
      | some k =>
       rw [hk] at hl
       simp only at hl
       split at hl
       ·rename_i hz
        unfold W7 at hk
        split at hk
        ·exact Or.inl ⟨_, k, rfl, hk, hz, (Option.some.inj hl).symm⟩
        ·cases hk
       ·cases hl
      | none =>
       rw [hk] at hl
       refine Or.inr ⟨?_, hl⟩
       simp only [kP, hk]
     rcases hk with ⟨ops, k, rfl, hk, hz, rfl⟩ | ⟨hst, hla⟩
     ·have hst : kP (.seq (.reg ops) b) = kP b := by simp only [kP, W7, hk]
      rw [hst]
      cases hA : zp E' n (.reg ops) τ' H with
      | none => rw [hA] at he; cases he
      | some y =>
       obtain ⟨ex2, τ2, H2⟩ := y
       rw [hA] at he
       cases n with
       | zero => simp [zp] at hA
       | succ n =>
        simp only [zp] at hA
        obtain ⟨z, hz2, hA⟩ := Option.map_eq_some_iff.1 hA
        obtain ⟨τz, Hz⟩ := z
        simp only [Prod.mk.injEq] at hA
        obtain ⟨rfl, rfl, rfl⟩ := hA
        obtain ⟨rfl, hag⟩ := z2J _ _ _ _ _ _ _ _ _ hk hz ha hz2
        exact ihe _ _ _ _ _ _ _ _ _ _ _ hb hag he
     ·rw [hst, WU]
      cases hA : zp E' n a τ' H with
      | none => rw [hA] at he; cases he
      | some y =>
       obtain ⟨ex2, τ2, H2⟩ := y
       rw [hA] at he
       obtain ⟨τ3, h3, hag⟩ := ihe _ _ _ _ _ _ _ _ _ _ _ hla ha hA
       rw [h3]
       cases ex2 with
       | normal =>
        simp only [bnE, z0D]
        exact ihe _ _ _ _ _ _ _ _ _ _ _ hb hag he
       | exit i =>
        simp only [Option.some.injEq, Prod.mk.injEq] at he
        obtain ⟨rfl, rfl, rfl⟩ := he
        exact ⟨τ3, rfl, hag⟩
       | ret =>
        simp only [Option.some.injEq, Prod.mk.injEq] at he
        obtain ⟨rfl, rfl, rfl⟩ := he
        exact ⟨τ3, rfl, hag⟩
   | cond x a b =>
    simp only [lvC] at hl
    cases hA : lvC out exs rt a with
    | none => rw [hA] at hl; cases hl
    | some sa =>
     cases hB : lvC out exs rt b with
     | none => rw [hA, hB] at hl; cases hl
     | some sb =>
      rw [hA, hB] at hl
      obtain rfl := Option.some.inj hl
      have hz : sub (z9Q x ||| (sa ||| sb)) (z9Q x ||| (sa ||| sb)) := W6 _
      have hx : τ.at x = τ'.at x := ha.at (l := [x]) (by simpa [z5t] using Zv hz) x (by simp)
      simp only at he
      show ∃ τ1, yC E (.cond x (kP a) (kP b)) τ H = _ ∧ _
      rw [Qe, hx]
      split at he
      ·rename_i t ht
       rw [ht]
       cases t with
       | true => exact ihe _ _ _ _ _ _ _ _ _ _ _ hA (ha.sub (Zv (wE hz))) he
       | false => exact ihe _ _ _ _ _ _ _ _ _ _ _ hB (ha.sub (wE (wE hz))) he
      ·cases he
   | block i c =>
    simp only [lvC] at hl
    simp only at he
    show ∃ τ1, yC E (.block i (kP c)) τ H = _ ∧ _
    rw [Ji]
    cases hA : zp E' n c τ' H with
    | none => rw [hA] at he; cases he
    | some y =>
     obtain ⟨ex2, τ2, H2⟩ := y
     rw [hA] at he
     obtain ⟨τ3, h3, hag⟩ := ihe _ _ _ _ _ _ _ _ _ _ _ hl ha hA
     rw [h3]
     cases ex2 with
     | normal =>
      simp only [Option.some.injEq, Prod.mk.injEq] at he
      obtain ⟨rfl, rfl, rfl⟩ := he
      exact ⟨τ3, rfl, hag⟩
     | ret =>
      simp only [Option.some.injEq, Prod.mk.injEq] at he
      obtain ⟨rfl, rfl, rfl⟩ := he
      exact ⟨τ3, rfl, hag⟩
     | exit j =>
      simp only [Option.some.injEq, Prod.mk.injEq] at he
      obtain ⟨rfl, rfl, rfl⟩ := he
      refine ⟨τ3, rfl, ?_⟩
      by_cases hj : j = i
      ·subst hj
       simp only [z2I, List.lookup, beq_self_eq_true, Option.getD_some] at hag
       simpa [z2I] using hag
      ·simp only [z2I, z3R hj] at hag
       simpa [z2I, hj] using hag
   | loop c =>
    have hl0 := hl
    simp only [lvC] at hl
    split at hl
    ·cases hl
    ·rename_i s1 h1
     split at hl
     ·cases hl
     ·rename_i s2 h2
      split at hl
      ·cases hl
      ·rename_i s3 h3
       split at hl
       ·rename_i hz
        obtain rfl := Option.some.inj hl
        simp only at he
        show ∃ τ1, K3 E (kP c) τ H = _ ∧ _
        rw [z1D]
        cases hA : zp E' n c τ' H with
        | none => rw [hA] at he; cases he
        | some y =>
         obtain ⟨ex2, τ2, H2⟩ := y
         rw [hA] at he
         obtain ⟨τ3, h4, hag⟩ := ihe _ _ _ _ _ _ _ _ _ _ _ h3 (ha.sub (zaL hz)) hA
         rw [h4]
         cases ex2 with
         | normal =>
          simp only [bnE, z0D]
          obtain ⟨τ4, h5, hag2⟩ := ihe _ _ _ _ _ _ _ _ _ _ _ hl0 hag he
          exact ⟨τ4, h5, hag2⟩
         | exit i =>
          simp only [Option.some.injEq, Prod.mk.injEq] at he
          obtain ⟨rfl, rfl, rfl⟩ := he
          exact ⟨τ3, rfl, hag⟩
         | ret =>
          simp only [Option.some.injEq, Prod.mk.injEq] at he
          obtain ⟨rfl, rfl, rfl⟩ := he
          exact ⟨τ3, rfl, hag⟩
       ·cases hl
theorem Z4 (hS : WY E E') {f : Nat} {args : List AV} {H : z3} {r : AV × z3} (h : zI E' f args H = some r) : zI E f args H = some r := by
 obtain ⟨n, hn⟩ := xH.1 h
 exact (z5w hS n).1 _ _ _ _ hn
end
end Go.Ab
