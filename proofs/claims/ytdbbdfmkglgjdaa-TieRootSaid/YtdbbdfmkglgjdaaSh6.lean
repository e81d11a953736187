/- Temporaries that nothing reads any more may be forgotten: code with such forgetting put in tells what the code tells. -/
import Derived.Test.YtdbbdfmkglgjdaaSh5
set_option linter.unusedVariables false
set_option linter.unusedSimpArgs false
set_option linter.unusedSectionVars false
namespace Go.Ab
def opnds : AOp → List AX
  | .mv x => [x]
  | .pick c a b => [c, a, b]
  | .newc _ => []
  | .box x => [x]
  | .build _ ps => ps.map fun p => p.2.2
  | .bsl _ _ _ ps => ps.map fun p => p.2.2
  | .ld x => [x]
  | .ldn _ x => [x]
  | .st _ a v => [a, v]
  | .nck x => [x]
  | .bin _ x y => [x, y]
  | .eqs _ _ x y => [x, y]
  | .eqn _ _ x => [x]
  | .un _ x => [x]
  | .cvi _ x => [x]
  | .cvs x => [x]
  | .stf x => [x]
  | .s2b x => [x]
  | .b2s x => [x]
  | .mki _ x => [x]
  | .mkf _ fs cs => fs ++ cs
  | .mks _ _ _ l c => [l, c]
  | .slc _ x lo hi mx => x :: (lo.toList ++ hi.toList ++ mx.toList)
  | .sls x lo hi => x :: (lo.toList ++ hi.toList)
  | .sla _ _ x lo hi => x :: (lo.toList ++ hi.toList)
  | .fad _ x => [x]
  | .fld _ _ x => [x]
  | .iad _ x i => [x, i]
  | .iaa _ _ x i => [x, i]
  | .ixs x i => [x, i]
  | .ixa _ _ _ x i => [x, i]
  | .tas _ _ _ x => [x]
  | .ext x _ => [x]
  | .len x => [x]
  | .lens x => [x]
  | .lena _ => []
  | .cap x => [x]
  | .mxi l => l
  | .mni l => l
  | .app _ _ _ s x => [s, x]
  | .apz _ _ _ s n => [s, n]
  | .cpy _ d s => [d, s]
  | .clr _ _ x => [x]
  | .call f args => f :: args
  | .inv _ r args => r :: args
  | .rng x => [x]
  | .nxt x => [x]
  | .mkm => []
  | .mlk _ _ _ x k => [x, k]
  | .mup _ m k v => [m, k, v]
  | .lnm x => [x]
section
variable {τ τ' : Tau} {H : AHeap}
theorem map_at {l : List AX} (h : ∀ x ∈ l, τ.at x = τ'.at x) : l.map τ.at = l.map τ'.at := List.map_congr_left h
theorem omap_at {o : Option AX} (h : ∀ x ∈ o.toList, τ.at x = τ'.at x) : o.map τ.at = o.map τ'.at := by
  cases o with
  | none => rfl
  | some x => simp [h x (by simp)]
theorem parts_at {ps : List (Nat × Nat × AX)} (h : ∀ x ∈ ps.map (fun p => p.2.2), τ.at x = τ'.at x) :
    ps.map (fun (o, s, x) => (o, s, τ.at x)) = ps.map (fun (o, s, x) => (o, s, τ'.at x)) := by
  refine List.map_congr_left fun p hp => ?_
  obtain ⟨o, s, x⟩ := p
  show (o, s, τ.at x) = (o, s, τ'.at x)
  rw [h x (List.mem_map.2 ⟨_, hp, rfl⟩)]
theorem aop_congr {op : AOp} (h : ∀ x ∈ opnds op, τ.at x = τ'.at x) : aop τ H op = aop τ' H op := by
  cases op <;> simp only [opnds, List.mem_cons, List.not_mem_nil, or_false, forall_eq_or_imp, forall_eq, List.mem_append, false_imp_iff, implies_true] at h <;> simp only [aop]
  case pick c a b =>
    rw [h.1]
    cases τ'.at c with
    | bool t => cases t <;> simp [h.2.1, h.2.2]
    | _ => rfl
  case build z ps => rw [parts_at h]
  case bsl a b c ps => rw [parts_at h]
  case mkf f fs cs => rw [map_at fun x hx => h x (Or.inl hx), map_at fun x hx => h x (Or.inr hx)]
  case slc e x lo hi mx => rw [h.1, omap_at fun x hx => h.2 x (Or.inl (Or.inl hx)), omap_at fun x hx => h.2 x (Or.inl (Or.inr hx)), omap_at fun x hx => h.2 x (Or.inr hx)]
  case sls x lo hi => rw [h.1, omap_at fun x hx => h.2 x (Or.inl hx), omap_at fun x hx => h.2 x (Or.inr hx)]
  case sla n e x lo hi => rw [h.1, omap_at fun x hx => h.2 x (Or.inl hx), omap_at fun x hx => h.2 x (Or.inr hx)]
  case mxi l => rw [map_at h]
  case mni l => rw [map_at h]
  case mup q m k v => rw [h.1, h.2.1, h.2.2]
  case mlk q z ok x k => rw [h.1, h.2]
  all_goals first | rw [h] | (rw [h.1]; rw [h.2]; done) | rfl
theorem target_congr {op : AOp} (h : ∀ x ∈ opnds op, τ.at x = τ'.at x) : target τ op = target τ' op := by
  cases op <;> try rfl
  case call f args =>
    simp only [opnds, List.mem_cons, forall_eq_or_imp] at h
    simp only [target]
    rw [h.1, map_at h.2]
  case inv tab r args =>
    simp only [opnds, List.mem_cons, forall_eq_or_imp] at h
    simp only [target]
    rw [h.1, map_at h.2]
theorem madeA_congr {op : AOp} {r : Nat} (h : ∀ x ∈ opnds op, τ.at x = τ'.at x) : madeA τ r op = madeA τ' r op := by
  cases op <;> try rfl
  case box x =>
    simp only [opnds, List.mem_cons, List.not_mem_nil, or_false, forall_eq] at h
    simp only [madeA]
    rw [h]
  case bsl a b c ps =>
    simp only [opnds] at h
    simp only [madeA]
    rw [parts_at h]
end

def bitX : AX → Nat
  | .t n => 2 ^ n
  | .c _ => 0
def bitsX : List AX → Nat
  | [] => 0
  | x :: l => bitX x ||| bitsX l
def clr1 (s : Nat) : Option Nat → Nat
  | none => s
  | some d => s ^^^ (s &&& 2 ^ d)
def grdX : Option (Nat × Bool) → Nat
  | none => 0
  | some (t, _) => 2 ^ t
def sub (a b : Nat) : Prop := ∀ t, a.testBit t = true → b.testBit t = true
theorem sub_refl (a : Nat) : sub a a := fun _ h => h
theorem sub_orL {a b c : Nat} (h : sub (a ||| b) c) : sub a c := fun t ht => h t (by simp [Nat.testBit_or, ht])
theorem sub_orR {a b c : Nat} (h : sub (a ||| b) c) : sub b c := fun t ht => h t (by simp [Nat.testBit_or, ht])
theorem sub_and {a b : Nat} (h : a &&& b = a) : sub a b := fun t ht => by
  rw [← h] at ht
  simp [Nat.testBit_and] at ht
  exact ht.2
def Agr (s : Nat) (τ τ' : Tau) : Prop := τ.length = τ'.length ∧ ∀ t, s.testBit t = true → τ[t]? = τ'[t]?
theorem Agr.sub {s u : Nat} {τ τ' : Tau} (h : Agr s τ τ') (hs : sub u s) : Agr u τ τ' := ⟨h.1, fun t ht => h.2 t (hs t ht)⟩
theorem testBit_pow (n t : Nat) : (2 ^ n).testBit t = decide (n = t) := Nat.testBit_two_pow
theorem Agr.at {s : Nat} {τ τ' : Tau} (h : Agr s τ τ') : ∀ {l : List AX}, Go.Ab.sub (bitsX l) s → ∀ x ∈ l, τ.at x = τ'.at x
  | [], _, _, hx => by simp at hx
  | y :: l, hs, x, hx => by
    rcases List.mem_cons.1 hx with rfl | hx
    · cases x with
      | c v => rfl
      | t n =>
        have := h.2 n (sub_orL hs n (by simp [bitX]))
        simp only [Tau.at, List.getD_eq_getElem?_getD, this]
    · exact Agr.at h (sub_orR hs) x hx
theorem Agr.put {s : Nat} {τ τ' : Tau} {d : Option Nat} (v : AV) (h : Agr (clr1 s d) τ τ') : Agr s (τ.put d v) (τ'.put d v) := by
  cases d with
  | none => exact h
  | some d =>
    simp only [Tau.put]
    refine ⟨by simp [h.1], fun t ht => ?_⟩
    rw [List.getElem?_set, List.getElem?_set]
    by_cases hd : d = t
    · simp [hd, h.1]
    · simp only [if_neg hd]
      refine h.2 t ?_
      simp only [clr1, Nat.testBit_xor, Nat.testBit_and, testBit_pow, ht, Bool.true_and]
      simp [hd]
theorem Agr.wanted {s : Nat} {τ τ' : Tau} (h : Agr s τ τ') {g : Option (Nat × Bool)} (hs : Go.Ab.sub (grdX g) s) : wantedA τ g = wantedA τ' g := by
  cases g with
  | none => rfl
  | some x =>
    obtain ⟨t, w⟩ := x
    simp only [wantedA]
    rw [h.2 t (hs t (by simp [grdX]))]
theorem Agr.put_dead {s : Nat} {τ τ' : Tau} {d : Nat} (v : AV) (h : Agr s τ τ') (hd : s.testBit d = false) : Agr s τ (τ'.set d v) := by
  refine ⟨by simp [h.1], fun t ht => ?_⟩
  rw [List.getElem?_set]
  by_cases e : d = t
  · subst e; rw [hd] at ht; cases ht
  · rw [if_neg e]; exact h.2 t ht

def lvOp (o : AOper) (s : Nat) : Nat := bitsX (opnds o.op) ||| (grdX o.guard ||| clr1 s o.dst)
def lvOps : List AOper → Nat → Nat
  | [], s => s
  | o :: l, s => lvOp o (lvOps l s)
def lvDops : List (AOper × DK) → Nat → Nat
  | [], s => s
  | o :: l, s => lvOp o.1 (lvDops l s)
section
variable {call call' : CallF} (hc : CallLe call' call)
include hc
theorem astep_agr {s : Nat} {τ τ' : Tau} (h : Agr s τ τ') {op : AOp} (hs : sub (bitsX (opnds op)) s) {H : AHeap} {r : AV × AHeap} (e : astep call' τ' H op = some r) : astep call τ H op = some r := by
  unfold astep at e ⊢
  rw [target_congr (h.at hs)]
  split at e
  · exact hc _ _ _ _ e
  · rw [aop_congr (h.at hs)]; exact e
theorem aops_agr : ∀ (l : List AOper) (s : Nat) (τ τ' : Tau) (H : AHeap) (τ1' : Tau) (H1 : AHeap), Agr (lvOps l s) τ τ' → aops call' l τ' H = some (τ1', H1) → ∃ τ1, aops call l τ H = some (τ1, H1) ∧ Agr s τ1 τ1'
  | [], s, τ, τ', H, τ1', H1, h, e => by
    simp only [aops, Option.some.injEq, Prod.mk.injEq] at e
    obtain ⟨rfl, rfl⟩ := e
    exact ⟨τ, rfl, h⟩
  | o :: l, s, τ, τ', H, τ1', H1, h, e => by
    unfold aops at e ⊢
    have hz : sub (lvOp o (lvOps l s)) (lvOps (o :: l) s) := sub_refl _
    rw [h.wanted (sub_orL (sub_orR hz))]
    have hp : Agr (clr1 (lvOps l s) o.dst) τ τ' := h.sub (sub_orR (sub_orR hz))
    split at e
    · rename_i hw
      rw [if_pos hw]
      split at e
      · rename_i v H' hs
        rw [astep_agr hc h (sub_orL hz) hs]
        exact aops_agr l s _ _ _ _ _ (hp.put v) e
      · cases e
    · rename_i hw
      rw [if_neg hw]
      exact aops_agr l s _ _ _ _ _ (hp.put _) e
def RecsEq (a b : List Rec) : Prop := a.length = b.length ∧ ∀ (p : Nat) (H H' : AHeap), (match a[p]? with
    | some q => recOk H H' q
    | none => false) = (match b[p]? with
    | some q => recOk H H' q
    | none => false)
omit hc in
theorem RecsEq.push {a b : List Rec} (h : RecsEq a b) {q r : Rec} (hq : ∀ H H', recOk H H' q = recOk H H' r) : RecsEq (a ++ [q]) (b ++ [r]) := by
  refine ⟨by simp [h.1], fun p H H' => ?_⟩
  rcases Nat.lt_trichotomy p a.length with hp | hp | hp
  · rw [List.getElem?_append_left hp, List.getElem?_append_left (h.1 ▸ hp)]
    exact h.2 p H H'
  · subst hp
    simp only [List.getElem?_concat_length]
    rw [h.1, List.getElem?_concat_length]
    exact hq H H'
  · have := h.1
    rw [List.getElem?_eq_none (by simp; omega), List.getElem?_eq_none (by simp; omega)]
omit hc in
theorem RecsEq.pins {a b : List Rec} (h : RecsEq a b) (H H' : AHeap) : ∀ pins, recsOk H H' a pins = recsOk H H' b pins
  | [] => rfl
  | p :: l => by
    have := congr (congrArg and (h.2 p H H')) (RecsEq.pins h H H' l)
    exact this
theorem adops_agr (base : Nat) : ∀ (l : List (AOper × DK)) (s : Nat) (recs recs' : List Rec) (τ τ' : Tau) (H : AHeap) (τ1' : Tau) (H1 : AHeap), RecsEq recs recs' → Agr (lvDops l s) τ τ' →
    adops call' base l recs' τ' H = some (τ1', H1) → ∃ τ1, adops call base l recs τ H = some (τ1, H1) ∧ Agr s τ1 τ1'
  | [], s, recs, recs', τ, τ', H, τ1', H1, _, h, e => by
    simp only [adops, Option.some.injEq, Prod.mk.injEq] at e
    obtain ⟨rfl, rfl⟩ := e
    exact ⟨τ, rfl, h⟩
  | (o, dk) :: l, s, recs, recs', τ, τ', H, τ1', H1, hr, h, e => by
    unfold adops at e ⊢
    have hz : sub (lvOp o (lvDops l s)) (lvDops ((o, dk) :: l) s) := sub_refl _
    rw [h.wanted (sub_orL (sub_orR hz))]
    have hp : Agr (clr1 (lvDops l s) o.dst) τ τ' := h.sub (sub_orR (sub_orR hz))
    have ha := fun (H : AHeap) => aop_congr (H := H) (h.at (sub_orL hz))
    split at e
    · rename_i hw
      rw [if_pos hw]
      cases dk with
      | q =>
        simp only at e ⊢
        rw [ha]
        split at e
        · rename_i v H' hs
          split at e
          · rename_i hy
            rw [if_pos hy]
            exact adops_agr base l s _ _ _ _ _ _ _ (hr.push fun H H' => by simp only [recOk, ha]) (hp.put v) e
          · cases e
        · cases e
      | al k =>
        simp only at e ⊢
        rw [madeA_congr (h.at (sub_orL hz))]
        split at e
        · rename_i v ob hs
          split at e
          · rename_i hy
            rw [if_pos hy]
            exact adops_agr base l s _ _ _ _ _ _ _ (hr.push fun H H' => rfl) (hp.put v) e
          · cases e
        · cases e
      | ef pins =>
        simp only at e ⊢
        split at e
        · rename_i v H' hs
          rw [astep_agr hc h (sub_orL hz) hs]
          simp only
          split at e
          · rename_i hy
            rw [hr.pins, if_pos hy]
            exact adops_agr base l s _ _ _ _ _ _ _ (hr.push fun H H' => rfl) (hp.put v) e
          · cases e
        · cases e
    · rename_i hw
      rw [if_neg hw]
      exact adops_agr base l s _ _ _ _ _ _ _ (hr.push fun H H' => rfl) (hp.put _) e
end

def isKill : AOper → Option Nat
  | ⟨some d, .mv (.c (.tup [])), none⟩ => some d
  | _ => none
def kills : List AOper → Option Nat
  | [] => some 0
  | o :: l => match isKill o, kills l with
    | some d, some s => some (2 ^ d ||| s)
    | _, _ => none
def killsOf : ACode → Option Nat
  | .reg ops => kills ops
  | _ => none
def strip : ACode → ACode
  | .seq a b => match killsOf a with
    | some _ => strip b
    | none => .seq (strip a) (strip b)
  | .cond x a b => .cond x (strip a) (strip b)
  | .block i c => .block i (strip c)
  | .loop c => .loop (strip c)
  | c => c
def lvC (out : Nat) (exs : List (Nat × Nat)) (rt : Nat) : ACode → Option Nat
  | .skip => some out
  | .ret => some rt
  | .exit i => exs.lookup i
  | .reg ops => some (lvOps ops out)
  | .dreg _ ops => some (lvDops ops out)
  | .seq a b => match lvC out exs rt b with
    | none => none
    | some s => match killsOf a with
      | some k => if k &&& s = 0 then some s else none
      | none => lvC s exs rt a
  | .cond x a b => match lvC out exs rt a, lvC out exs rt b with
    | some s, some t => some (bitX x ||| (s ||| t))
    | _, _ => none
  | .block i c => lvC out ((i, out) :: exs) rt c
  | .loop c => match lvC 0 exs rt c with
    | none => none
    | some s1 => match lvC s1 exs rt c with
      | none => none
      | some s2 => match lvC s2 exs rt c with
        | none => none
        | some s3 => if s3 &&& s2 = s3 then some s2 else none
def outOf (out : Nat) (exs : List (Nat × Nat)) (rt : Nat) : AExit → Nat
  | .normal => out
  | .exit i => (exs.lookup i).getD 0
  | .ret => rt
theorem kills_agr (call : CallF) : ∀ (l : List AOper) (k s : Nat) (τ τ' : Tau) (H : AHeap) (τ1' : Tau) (H1 : AHeap), kills l = some k → k &&& s = 0 → Agr s τ τ' → aops call l τ' H = some (τ1', H1) → H1 = H ∧ Agr s τ τ1'
  | [], k, s, τ, τ', H, τ1', H1, _, _, h, e => by
    simp only [aops, Option.some.injEq, Prod.mk.injEq] at e
    obtain ⟨rfl, rfl⟩ := e
    exact ⟨rfl, h⟩
  | o :: l, k, s, τ, τ', H, τ1', H1, hk, hz, h, e => by
    simp only [kills] at hk
    split at hk
    · rename_i d k' ho hl
      obtain rfl := Option.some.inj hk
      unfold isKill at ho
      split at ho
      · obtain rfl := (Option.some.inj ho).symm
        simp only [aops, wantedA, if_true, astep, target, aop, Tau.at, Tau.put] at e
        have hd : s.testBit d = false := by
          have := congrArg (fun n => n.testBit d) hz
          simp [Nat.testBit_and, Nat.testBit_or] at this
          simpa using this
        have hz' : k' &&& s = 0 := by
          apply Nat.eq_of_testBit_eq
          intro i
          have := congrArg (fun n => n.testBit i) hz
          simp only [Nat.testBit_and, Nat.testBit_or, Nat.zero_testBit] at this ⊢
          cases h1 : k'.testBit i <;> simp_all
        exact kills_agr call l k' s τ _ H τ1' H1 hl hz' (h.put_dead _ hd) e
      · cases ho
    · cases hk
section
variable {E E' : Env}
def unkill (fn : AFn) : AFn := ⟨fn.nt, strip fn.code, fn.res⟩
def resBits : List ARes → Nat
  | [] => 0
  | .tmp t :: l => 2 ^ t ||| resBits l
  | .cell a _ :: l => 2 ^ a ||| resBits l
def liveOk (fn : AFn) : Bool := (lvC (resBits fn.res) [] (resBits fn.res) fn.code).isSome
theorem results_agr {τ τ' : Tau} {H : AHeap} {l : List ARes} (h : Agr (resBits l) τ τ') : resultsA τ H l = resultsA τ' H l := by
  have : mapO (resA τ H) l = mapO (resA τ' H) l := by
    have key : ∀ (l : List ARes) (s : Nat), sub (resBits l) s → Agr s τ τ' → mapO (resA τ H) l = mapO (resA τ' H) l := by
      intro l
      induction l with
      | nil => intro _ _ _; rfl
      | cons r l ih =>
        intro s hs h
        have h1 : resA τ H r = resA τ' H r := by
          cases r with
          | tmp t => simp only [resA]; exact h.2 t (hs t (by simp [resBits, Nat.testBit_or]))
          | cell a n =>
            simp only [resA]
            rw [h.2 a (hs a (by simp [resBits, Nat.testBit_or]))]
        have h2 := ih s (fun t ht => hs t (by cases r <;> simp [resBits, Nat.testBit_or, ht])) h
        simp only [mapO, h1, h2]
    exact key l _ (sub_refl _) h
  simp only [resultsA, this]
structure Strips (E E' : Env) : Prop where
  spec : E'.spec = E.spec
  fns : ∀ f fn, E'.fns f = some fn → E.fns f = some (unkill fn) ∧ liveOk fn = true
theorem lookup_block {i j out : Nat} {exs : List (Nat × Nat)} (h : j ≠ i) : ((i, out) :: exs).lookup j = exs.lookup j := by
  simp [List.lookup, show (j == i) = false from by simpa using h]
theorem strips_main (hS : Strips E E') : ∀ n, CallLe (acall E' n) (callV E) ∧
    ∀ c out exs rt s τ τ' H ex τ1' H1, lvC out exs rt c = some s → Agr s τ τ' → aeval E' n c τ' H = some (ex, τ1', H1) → ∃ τ1, evalV E (strip c) τ H = some (ex, τ1, H1) ∧ Agr (outOf out exs rt ex) τ1 τ1' := by
  intro n
  induction n with
  | zero => exact ⟨fun f args H r h => by simp [acall] at h, fun c out exs rt s τ τ' H ex τ1' H1 _ _ h => by simp [aeval] at h⟩
  | succ n ih =>
    obtain ⟨ihc, ihe⟩ := ih
    refine ⟨fun f args H r h => ?_, ?_⟩
    · unfold acall at h
      split at h
      · rename_i g hg
        rw [hS.spec] at hg
        rw [callV_spec hg]
        exact h
      · rename_i hg
        rw [hS.spec] at hg
        split at h
        · cases h
        · rename_i fn hfn
          obtain ⟨h1, h2⟩ := hS.fns f fn hfn
          rw [callV_fn hg h1, evalK_eq]
          unfold liveOk at h2
          obtain ⟨s, hs⟩ := Option.isSome_iff_exists.1 h2
          cases he : aeval E' n fn.code (args ++ List.replicate (fn.nt - args.length) undefA) H with
          | none => rw [he] at h; cases h
          | some x =>
            obtain ⟨ex, τ1', H1⟩ := x
            obtain ⟨τ1, hτ, hag⟩ := ihe _ _ _ _ _ _ _ _ _ _ _ hs ⟨rfl, fun _ _ => rfl⟩ he
            rw [he] at h
            show bnE (evalV E (strip fn.code) (args ++ List.replicate (fn.nt - args.length) undefA) H) (retK fn.res) = some r
            rw [hτ]
            cases ex with
            | normal => simp only [bnE, retK]; rw [results_agr hag]; exact h
            | exit i => cases h
            | ret => simp only [bnE, retK]; rw [results_agr hag]; exact h
    · intro c out exs rt s τ τ' H ex τ1' H1 hl ha he
      unfold aeval at he
      cases c with
      | skip =>
        obtain rfl := Option.some.inj hl
        simp only [Option.some.injEq, Prod.mk.injEq] at he
        obtain ⟨rfl, rfl, rfl⟩ := he
        exact ⟨τ, evalV_skip, ha⟩
      | ret =>
        obtain rfl := Option.some.inj hl
        simp only [Option.some.injEq, Prod.mk.injEq] at he
        obtain ⟨rfl, rfl, rfl⟩ := he
        exact ⟨τ, evalV_ret, ha⟩
      | exit i =>
        simp only [Option.some.injEq, Prod.mk.injEq] at he
        obtain ⟨rfl, rfl, rfl⟩ := he
        simp only [lvC] at hl
        exact ⟨τ, evalV_exit, by simp only [outOf, hl, Option.getD_some]; exact ha⟩
      | reg ops =>
        obtain rfl := Option.some.inj hl
        simp only at he
        obtain ⟨y, hy, he⟩ := Option.map_eq_some_iff.1 he
        obtain ⟨τy, Hy⟩ := y
        simp only [Prod.mk.injEq] at he
        obtain ⟨rfl, rfl, rfl⟩ := he
        obtain ⟨τ1, h1, h2⟩ := aops_agr ihc _ _ _ _ _ _ _ ha hy
        refine ⟨τ1, ?_, h2⟩
        show evalV E (.reg ops) τ H = _
        rw [evalV_reg, h1]; rfl
      | dreg na ops =>
        obtain rfl := Option.some.inj hl
        simp only at he
        obtain ⟨y, hy, he⟩ := Option.map_eq_some_iff.1 he
        obtain ⟨τy, Hy⟩ := y
        simp only [Prod.mk.injEq] at he
        obtain ⟨rfl, rfl, rfl⟩ := he
        obtain ⟨τ1, h1, h2⟩ := adops_agr ihc _ _ _ [] _ _ _ _ _ _ ⟨rfl, fun _ _ _ => rfl⟩ ha hy
        refine ⟨τ1, ?_, h2⟩
        show evalV E (.dreg na ops) τ H = _
        rw [evalV_dreg, h1]; rfl
      | seq a b =>
        simp only [lvC] at hl
        cases hb : lvC out exs rt b with
        | none => rw [hb] at hl; cases hl
        | some sb =>
          rw [hb] at hl
          simp only at hl he
          have hk : (∃ ops k, a = .reg ops ∧ kills ops = some k ∧ k &&& sb = 0 ∧ s = sb) ∨ (strip (.seq a b) = .seq (strip a) (strip b) ∧ lvC sb exs rt a = some s) := by
            cases hk : killsOf a with
            | some k =>
              rw [hk] at hl
              simp only at hl
              split at hl
              · rename_i hz
                unfold killsOf at hk
                split at hk
                · exact Or.inl ⟨_, k, rfl, hk, hz, (Option.some.inj hl).symm⟩
                · cases hk
              · cases hl
            | none =>
              rw [hk] at hl
              refine Or.inr ⟨?_, hl⟩
              simp only [strip, hk]
          rcases hk with ⟨ops, k, rfl, hk, hz, rfl⟩ | ⟨hst, hla⟩
          · have hst : strip (.seq (.reg ops) b) = strip b := by simp only [strip, killsOf, hk]
            rw [hst]
            cases hA : aeval E' n (.reg ops) τ' H with
            | none => rw [hA] at he; cases he
            | some y =>
              obtain ⟨ex2, τ2, H2⟩ := y
              rw [hA] at he
              cases n with
              | zero => simp [aeval] at hA
              | succ n =>
                simp only [aeval] at hA
                obtain ⟨z, hz2, hA⟩ := Option.map_eq_some_iff.1 hA
                obtain ⟨τz, Hz⟩ := z
                simp only [Prod.mk.injEq] at hA
                obtain ⟨rfl, rfl, rfl⟩ := hA
                obtain ⟨rfl, hag⟩ := kills_agr _ _ _ _ _ _ _ _ _ hk hz ha hz2
                exact ihe _ _ _ _ _ _ _ _ _ _ _ hb hag he
          · rw [hst, evalV_seq]
            cases hA : aeval E' n a τ' H with
            | none => rw [hA] at he; cases he
            | some y =>
              obtain ⟨ex2, τ2, H2⟩ := y
              rw [hA] at he
              obtain ⟨τ3, h3, hag⟩ := ihe _ _ _ _ _ _ _ _ _ _ _ hla ha hA
              rw [h3]
              cases ex2 with
              | normal =>
                simp only [bnE, goOn]
                exact ihe _ _ _ _ _ _ _ _ _ _ _ hb hag he
              | exit i =>
                simp only [Option.some.injEq, Prod.mk.injEq] at he
                obtain ⟨rfl, rfl, rfl⟩ := he
                exact ⟨τ3, rfl, hag⟩
              | ret =>
                simp only [Option.some.injEq, Prod.mk.injEq] at he
                obtain ⟨rfl, rfl, rfl⟩ := he
                exact ⟨τ3, rfl, hag⟩
      | cond x a b =>
        simp only [lvC] at hl
        cases hA : lvC out exs rt a with
        | none => rw [hA] at hl; cases hl
        | some sa =>
          cases hB : lvC out exs rt b with
          | none => rw [hA, hB] at hl; cases hl
          | some sb =>
            rw [hA, hB] at hl
            obtain rfl := Option.some.inj hl
            have hz : sub (bitX x ||| (sa ||| sb)) (bitX x ||| (sa ||| sb)) := sub_refl _
            have hx : τ.at x = τ'.at x := ha.at (l := [x]) (by simpa [bitsX] using sub_orL hz) x (by simp)
            simp only at he
            show ∃ τ1, evalV E (.cond x (strip a) (strip b)) τ H = _ ∧ _
            rw [evalV_cond, hx]
            split at he
            · rename_i t ht
              rw [ht]
              cases t with
              | true => exact ihe _ _ _ _ _ _ _ _ _ _ _ hA (ha.sub (sub_orL (sub_orR hz))) he
              | false => exact ihe _ _ _ _ _ _ _ _ _ _ _ hB (ha.sub (sub_orR (sub_orR hz))) he
            · cases he
      | block i c =>
        simp only [lvC] at hl
        simp only at he
        show ∃ τ1, evalV E (.block i (strip c)) τ H = _ ∧ _
        rw [evalV_block]
        cases hA : aeval E' n c τ' H with
        | none => rw [hA] at he; cases he
        | some y =>
          obtain ⟨ex2, τ2, H2⟩ := y
          rw [hA] at he
          obtain ⟨τ3, h3, hag⟩ := ihe _ _ _ _ _ _ _ _ _ _ _ hl ha hA
          rw [h3]
          cases ex2 with
          | normal =>
            simp only [Option.some.injEq, Prod.mk.injEq] at he
            obtain ⟨rfl, rfl, rfl⟩ := he
            exact ⟨τ3, rfl, hag⟩
          | ret =>
            simp only [Option.some.injEq, Prod.mk.injEq] at he
            obtain ⟨rfl, rfl, rfl⟩ := he
            exact ⟨τ3, rfl, hag⟩
          | exit j =>
            simp only [Option.some.injEq, Prod.mk.injEq] at he
            obtain ⟨rfl, rfl, rfl⟩ := he
            refine ⟨τ3, rfl, ?_⟩
            by_cases hj : j = i
            · subst hj
              simp only [outOf, List.lookup, beq_self_eq_true, Option.getD_some] at hag
              simpa [outOf] using hag
            · simp only [outOf, lookup_block hj] at hag
              simpa [outOf, hj] using hag
      | loop c =>
        have hl0 := hl
        simp only [lvC] at hl
        split at hl
        · cases hl
        · rename_i s1 h1
          split at hl
          · cases hl
          · rename_i s2 h2
            split at hl
            · cases hl
            · rename_i s3 h3
              split at hl
              · rename_i hz
                obtain rfl := Option.some.inj hl
                simp only at he
                show ∃ τ1, loopV E (strip c) τ H = _ ∧ _
                rw [loopV_once]
                cases hA : aeval E' n c τ' H with
                | none => rw [hA] at he; cases he
                | some y =>
                  obtain ⟨ex2, τ2, H2⟩ := y
                  rw [hA] at he
                  obtain ⟨τ3, h4, hag⟩ := ihe _ _ _ _ _ _ _ _ _ _ _ h3 (ha.sub (sub_and hz)) hA
                  rw [h4]
                  cases ex2 with
                  | normal =>
                    simp only [bnE, goOn]
                    obtain ⟨τ4, h5, hag2⟩ := ihe _ _ _ _ _ _ _ _ _ _ _ hl0 hag he
                    exact ⟨τ4, h5, hag2⟩
                  | exit i =>
                    simp only [Option.some.injEq, Prod.mk.injEq] at he
                    obtain ⟨rfl, rfl, rfl⟩ := he
                    exact ⟨τ3, rfl, hag⟩
                  | ret =>
                    simp only [Option.some.injEq, Prod.mk.injEq] at he
                    obtain ⟨rfl, rfl, rfl⟩ := he
                    exact ⟨τ3, rfl, hag⟩
              · cases hl
theorem strips_call (hS : Strips E E') {f : Nat} {args : List AV} {H : AHeap} {r : AV × AHeap} (h : callV E' f args H = some r) : callV E f args H = some r := by
  obtain ⟨n, hn⟩ := callV_iff.1 h
  exact (strips_main hS n).1 _ _ _ _ hn
end
end Go.Ab
