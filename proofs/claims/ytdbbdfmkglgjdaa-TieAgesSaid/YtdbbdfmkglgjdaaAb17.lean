/- The quicker evaluator tells what the evaluator tells. -/
import Derived.Test.YtdbbdfmkglgjdaaAb16
set_option linter.unusedVariables false
set_option linter.unusedSimpArgs false
set_option linter.unusedSectionVars false
namespace Go.Ab
noncomputable def TT.at (t : TT) : AX → AV
 | .t n => t.get n
 | .c v => v
noncomputable def TT.put (t : TT) (d : Option Nat) (v : AV) : TT := match d with
 | some d => TT.set v (d + 1) t d
 | none => t
noncomputable def Jm (t : TT) : Option (Nat × Bool) → Bool
 | none => true
 | some (k, w) => match t.get k with
  | .bool b => b == w
  | _ => false
noncomputable def z8a (t : TT) (H : z3) : vE → Option AV
 | .tmp k => some (t.get k)
 | .cell a n => match t.get a with
  | .ptr r o => match n with
   | none => H.cell r o
   | some n => (H.row r o n).map .agg
  | _ => none
noncomputable def V4 (t : TT) (H : z3) (l : List vE) : Option AV := match zK (z8a t H) l with
 | some [v] => some v
 | some vs => some (.tup vs)
 | none => none
noncomputable def z2a (call : z6) (t : TT) (H : z3) (op : AOp) : Option (AV × z3) := match z6k t.at op with
 | some (g, vs) => call g vs H
 | none => z87 t.at H op
noncomputable def z8b (call : z6) (l : List zg) : TT → z3 → Option (TT × z3) :=
 List.rec (motive := fun _ => TT → z3 → Option (TT × z3)) (fun t H => some (t, H))
  (fun o _ ih t H => match Jm t o.guard with
   | true => match z2a call t H o.op with
    | some (v, H') => ih (t.put o.dst v) H'
    | none => none
   | false => ih (t.put o.dst z4) H) l
inductive Jv where
 | none
 | q (t : TT) (op : AOp) (v : AV)
 | made (r : Nat)
noncomputable def z5J (H H' : z3) : Jv → Bool
 | .none => true
 | .q t op v => match z87 t.at H' op with
  | some (v', H2) => H2.size == H'.size && qE v v'
  | none => false
 | .made r => match H.get r, H'.get r with
  | some (.cells k z a), some (.cells k' z' b) => k == k' && z == z' && ZB a b
  | _, _ => false
noncomputable def V5 (H H' : z3) (recs : List Jv) : List Nat → Bool
 | [] => true
 | p :: l => (match recs[p]? with
  | some q => z5J H H' q
  | none => false) && V5 H H' recs l
noncomputable def z8c (g : AX → AV) (r : Nat) : AOp → Option (AV × zB)
 | .newc cs => if cs.all AV.one then some (.ptr r 0, .cells .exact cs.length cs) else none
 | .box x => if (g x).cells.all AV.one then some (.ptr r 0, .cells .exact (g x).cells.length (g x).cells) else none
 | .bsl esz z n ps => if esz = 0 ∨ z.length ≠ esz ∨ 16777216 < n * esz then none else
  match xU (yP n z) (ps.map fun (o, s, x) => (o, s, g x)) with
  | some cs => if cs.all AV.one then some (.sl r 0 n (.ex n), .cells .exact esz cs) else none
  | none => none
 | _ => none
noncomputable def z0U (call : z6) (base : Nat) (l : List (zg × DK)) : List Jv → TT → z3 → Option (TT × z3) :=
 List.rec (motive := fun _ => List Jv → TT → z3 → Option (TT × z3)) (fun _ t H => some (t, H))
  (fun o _ ih recs t H => match Jm t o.1.guard with
   | true => match o.2 with
    | .q => match z87 t.at H o.1.op with
     | some (v, H') => if H'.size = H.size then ih (recs ++ [.q t o.1.op v]) (t.put o.1.dst v) H else none
     | none => none
    | .al k => match z8c t.at (base + k) o.1.op with
     | some (v, ob) => if (H.get (base + k)).isNone then ih (recs ++ [.made (base + k)]) (t.put o.1.dst v) (H.put (base + k) (some ob)) else none
     | none => none
    | .ef pins => match z2a call t H o.1.op with
     | some (v, H') => if V5 H H' recs pins then ih (recs ++ [.none]) (t.put o.1.dst v) H' else none
     | none => none
   | false => ih (recs ++ [.none]) (t.put o.1.dst z4) H) l
noncomputable def z0V : List AV → Nat → TT → TT
 | [], _, t => t
 | a :: l, k, t => z0V l (k + 1) (TT.set a (k + 1) t k)
noncomputable def QG (E : Env) (n : Nat) : z6 × (yV → TT → z3 → Option (zy × TT × z3)) :=
 Nat.rec (motive := fun _ => z6 × (yV → TT → z3 → Option (zy × TT × z3))) (fun _ _ _ => none, fun _ _ _ => none)
  (fun _ ih => (fun f args H => match E.spec f with
    | some g => g args H
    | none => match E.fns f with
     | none => none
     | some fn => match ih.2 fn.code (z0V args 0 .leaf) H with
      | some (.normal, t, H') | some (.ret, t, H') => (V4 t H' fn.res).map fun v => (v, H')
      | _ => none,
   fun c t H => match c with
    | .skip => some (.normal, t, H)
    | .ret => some (.ret, t, H)
    | .exit i => some (.exit i, t, H)
    | .reg ops => (z8b ih.1 ops t H).map fun (t, H) => (.normal, t, H)
    | .dreg na ops => (z0U ih.1 H.size ops [] t (pushN na H)).map fun (t, H) => (.normal, t, H)
    | .seq a b => match ih.2 a t H with
     | some (.normal, t, H) => ih.2 b t H
     | r => r
    | .cond x a b => match t.at x with
     | .bool w => ih.2 (if w then a else b) t H
     | _ => none
    | .block i c => match ih.2 c t H with
     | some (.exit j, t, H) => some (if j = i then .normal else .exit j, t, H)
     | r => r
    | .loop c => match ih.2 c t H with
     | some (.normal, t, H) => ih.2 (.loop c) t H
     | r => r)) n

def Wc (n : Nat) (o : zg) : Bool := match o.dst with
 | some d => decide (d < n)
 | none => true
def Yp (n : Nat) : yV → Bool
 | .reg ops => ops.all (Wc n)
 | .dreg _ ops => ops.all fun o => Wc n o.1
 | .seq a b => Yp n a && Yp n b
 | .cond _ a b => Yp n a && Yp n b
 | .block _ c => Yp n c
 | .loop c => Yp n c
 | _ => true
def z2U (n : Nat) : vE → Bool
 | .tmp k => decide (k < n)
 | .cell k _ => decide (k < n)
def z8d (fn : AFn) : Bool := Yp fn.nt fn.code && fn.res.all (z2U fn.nt)
structure RT (n : Nat) (τ : Tau) (t : TT) : Prop where
 len : n ≤ τ.length
 get : ∀ k, t.get k = τ.getD k z4
theorem RT.at {n : Nat} {τ : Tau} {t : TT} (h : RT n τ t) : t.at = τ.at := by
 funext x
 cases x with
 | t k => exact h.get k
 | c v => rfl
theorem RT.put {n : Nat} {τ : Tau} {t : TT} (h : RT n τ t) {o : zg} (hb : Wc n o = true) (v : AV) : RT n (τ.put o.dst v) (t.put o.dst v) := by
 unfold Wc at hb
 cases hd : o.dst with
 | none => exact h
 | some d =>
  rw [hd] at hb
  have hlt : d < n := by simpa using hb
  refine ⟨by simp [Tau.put, h.len], fun k => ?_⟩
  simp only [TT.put, Tau.put]
  rw [TT.get_set _ _ _ _ _ (Nat.lt_succ_self d), h.get]
  have := h.len
  by_cases e : k = d
  ·subst e
   simp [List.getD, show k < τ.length by omega]
  ·simp [List.getD, e, show ¬ d = k from fun x => e x.symm]
theorem RT.wanted {n : Nat} {τ : Tau} {t : TT} (h : RT n τ t) (g : Option (Nat × Bool)) : Jm t g = z7 τ g := by
 cases g with
 | none => rfl
 | some kw =>
  obtain ⟨k, w⟩ := kw
  simp only [Jm, z7, h.get, List.getD]
  cases τ[k]? with
  | none => rfl
  | some v => cases v <;> rfl
theorem RT.step {n : Nat} {τ : Tau} {t : TT} (h : RT n τ t) {call call' : z6} (hc : ∀ f args H r, call f args H = some r → call' f args H = some r) {H : z3} {op : AOp} {r : AV × z3} (hs : z2a call t H op = some r) :
  xI call' τ H op = some r := by
 unfold z2a at hs
 unfold xI
 rw [z89, ← h.at]
 split at hs
 ·rename_i g vs hg
  rw [hg]
  exact hc _ _ _ _ hs
 ·rename_i hg
  rw [hg]
  simp only
  rw [z88, ← h.at]
  exact hs
theorem z2V {n : Nat} {call call' : z6} (hc : ∀ f args H r, call f args H = some r → call' f args H = some r) : ∀ (l : List zg) (τ : Tau) (t : TT) (H : z3) (t' : TT) (H' : z3),
  l.all (Wc n) = true → RT n τ t → z8b call l t H = some (t', H') → ∃ τ', kY call' l τ H = some (τ', H') ∧ RT n τ' t'
 | [], τ, t, H, t', H', _, h, e => by
  obtain ⟨rfl, rfl⟩ := Prod.mk.inj (Option.some.inj e)
  exact ⟨τ, rfl, h⟩
 | o :: l, τ, t, H, t', H', hb, h, e => by
  simp only [List.all_cons, Bool.and_eq_true] at hb
  change (match Jm t o.guard with
   | true => match z2a call t H o.op with
    | some (v, H') => z8b call l (t.put o.dst v) H'
    | none => none
   | false => z8b call l (t.put o.dst z4) H) = _ at e
  rw [h.wanted] at e
  unfold kY
  cases hw : z7 τ o.guard with
  | true =>
   rw [hw] at e
   simp only [if_true] at e ⊢
   split at e
   ·rename_i v H1 hs
    rw [h.step hc hs]
    exact z2V hc l _ _ _ _ _ hb.2 (h.put hb.1 v) e
   ·cases e
  | false =>
   rw [hw] at e
   simp only [Bool.false_eq_true, if_false] at e ⊢
   exact z2V hc l _ _ _ _ _ hb.2 (h.put hb.1 _) e
inductive z78 : Rec → Jv → Prop where
 | none : z78 .none .none
 | q {n : Nat} {τ : Tau} {t : TT} (h : RT n τ t) (op : AOp) (v : AV) : z78 (.q τ op v) (.q t op v)
 | made (r : Nat) : z78 (.made r) (.made r)
def z3W (a : List Rec) (b : List Jv) : Prop := a.length = b.length ∧ ∀ (p : Nat) (x : Jv), b[p]? = some x → ∃ y, a[p]? = some y ∧ z78 y x
theorem z3W.snoc {a : List Rec} {b : List Jv} (h : z3W a b) {y : Rec} {x : Jv} (hr : z78 y x) : z3W (a ++ [y]) (b ++ [x]) := by
 refine ⟨by simp [h.1], fun p x' hx => ?_⟩
 by_cases hp : p < b.length
 ·rw [List.getElem?_append_left hp] at hx
  rw [List.getElem?_append_left (by rw [h.1]; exact hp)]
  exact h.2 p x' hx
 ·rw [List.getElem?_append_right (by omega)] at hx
  rw [List.getElem?_append_right (by rw [h.1]; omega), h.1]
  cases hq : p - b.length with
  | zero => rw [hq] at hx; simp at hx; subst hx; exact ⟨y, by simp, hr⟩
  | succ q => rw [hq] at hx; simp at hx
theorem za6 {H H' : z3} {y : Rec} {x : Jv} (h : z78 y x) : z5J H H' x = ka H H' y := by
 cases h with
 | none => rfl
 | q h op v => simp only [z5J, ka, z88, h.at]; rfl
 | made r => rfl
theorem z3X {H H' : z3} {a : List Rec} {b : List Jv} (h : z3W a b) : ∀ (l : List Nat), V5 H H' b l = true → jk H H' a l = true
 | [], _ => rfl
 | p :: l, e => by
  simp only [V5, jk, Bool.and_eq_true] at e ⊢
  refine ⟨?_, z3X h l e.2⟩
  have e1 := e.1
  split at e1
  ·rename_i q hq
   obtain ⟨y, hy, hr⟩ := h.2 p q hq
   rw [hy]
   rw [za6 hr] at e1
   exact e1
  ·cases e1
theorem zb6 (τ : Tau) (r : Nat) (o : AOp) : xt τ r o = z8c τ.at r o := by cases o <;> rfl
theorem QH {n : Nat} {call call' : z6} (hc : ∀ f args H r, call f args H = some r → call' f args H = some r) (base : Nat) : ∀ (l : List (zg × DK)) (recs : List Rec) (recf : List Jv) (τ : Tau) (t : TT) (H : z3) (t' : TT) (H' : z3),
  (l.all fun o => Wc n o.1) = true → z3W recs recf → RT n τ t → z0U call base l recf t H = some (t', H') → ∃ τ', x3 call' base l recs τ H = some (τ', H') ∧ RT n τ' t'
 | [], recs, recf, τ, t, H, t', H', _, _, h, e => by
  obtain ⟨rfl, rfl⟩ := Prod.mk.inj (Option.some.inj e)
  exact ⟨τ, rfl, h⟩
 | (o, dk) :: l, recs, recf, τ, t, H, t', H', hb, hrec, h, e => by
  simp only [List.all_cons, Bool.and_eq_true] at hb
  change (match Jm t o.guard with
   | true => match dk with
    | .q => match z87 t.at H o.op with
     | some (v, H') => if H'.size = H.size then z0U call base l (recf ++ [Jv.q t o.op v]) (t.put o.dst v) H else none
     | none => none
    | .al k => match z8c t.at (base + k) o.op with
     | some (v, ob) => if (H.get (base + k)).isNone then z0U call base l (recf ++ [Jv.made (base + k)]) (t.put o.dst v) (H.put (base + k) (some ob)) else none
     | none => none
    | .ef pins => match z2a call t H o.op with
     | some (v, H') => if V5 H H' recf pins then z0U call base l (recf ++ [Jv.none]) (t.put o.dst v) H' else none
     | none => none
   | false => z0U call base l (recf ++ [Jv.none]) (t.put o.dst z4) H) = _ at e
  rw [h.wanted] at e
  unfold x3
  cases hw : z7 τ o.guard with
  | true =>
   rw [hw] at e
   simp only [if_true] at e ⊢
   cases dk with
   | q =>
    simp only at e ⊢
    rw [h.at, ← z88] at e
    split at e
    ·rename_i v H1 hs
     rw [hs]
     simp only
     split at e
     ·rename_i hsz
      rw [if_pos hsz]
      exact QH hc base l _ _ _ _ _ _ _ hb.2 (hrec.snoc (.q h _ _)) (h.put hb.1 v) e
     ·cases e
    ·cases e
   | al k =>
    simp only at e ⊢
    rw [h.at, ← zb6] at e
    split at e
    ·rename_i v ob hs
     rw [hs]
     simp only
     split at e
     ·rename_i hsz
      rw [if_pos hsz]
      exact QH hc base l _ _ _ _ _ _ _ hb.2 (hrec.snoc (.made _)) (h.put hb.1 v) e
     ·cases e
    ·cases e
   | ef pins =>
    simp only at e ⊢
    split at e
    ·rename_i v H1 hs
     rw [h.step hc hs]
     simp only
     split at e
     ·rename_i hr
      rw [if_pos (z3X hrec _ hr)]
      exact QH hc base l _ _ _ _ _ _ _ hb.2 (hrec.snoc .none) (h.put hb.1 v) e
     ·cases e
    ·cases e
  | false =>
   rw [hw] at e
   simp only [Bool.false_eq_true, if_false] at e ⊢
   exact QH hc base l _ _ _ _ _ _ _ hb.2 (hrec.snoc .none) (h.put hb.1 _) e
theorem z2b : ∀ (l : List AV) (k : Nat) (t : TT) (m : Nat), (z0V l k t).get m = if k ≤ m ∧ m < k + l.length then l.getD (m - k) z4 else t.get m
 | [], k, t, m => by simp [z0V]; intro h1 h2; omega
 | a :: l, k, t, m => by
  rw [z0V, z2b l (k + 1), TT.get_set _ _ _ _ _ (Nat.lt_succ_self k)]
  simp only [List.length_cons]
  by_cases h1 : m = k
  ·subst h1
   rw [if_neg (by omega), if_pos rfl, if_pos (by omega)]
   simp
  ·by_cases h2 : k + 1 ≤ m ∧ m < k + 1 + l.length
   ·rw [if_pos h2, if_pos (by omega)]
    obtain ⟨d, rfl⟩ : ∃ d, m = k + 1 + d := ⟨m - (k + 1), by omega⟩
    simp [show k + 1 + d - k = d + 1 by omega]
   ·rw [if_neg h2, if_neg h1, if_neg (by omega)]
theorem z6l (args : List AV) (n : Nat) : RT n (args ++ List.replicate (n - args.length) z4) (z0V args 0 .leaf) := by
 refine ⟨by simp; omega, fun k => ?_⟩
 rw [z2b]
 simp only [Nat.zero_le, true_and, Nat.zero_add, Nat.sub_zero, TT.get_leaf, List.getD]
 by_cases h : k < args.length
 ·rw [if_pos h, List.getElem?_append_left h]
 ·rw [if_neg h, List.getElem?_append_right (by omega), List.getElem?_replicate]
  split <;> rfl
theorem z2c {n : Nat} {τ : Tau} {t : TT} (h : RT n τ t) {H : z3} {l : List vE} (hb : l.all (z2U n) = true) : V4 t H l = zX τ H l := by
 have key : ∀ r ∈ l, z8a t H r = qW τ H r := by
  intro r hr
  have hb := List.all_eq_true.1 hb r hr
  cases r with
  | tmp k =>
   have hk : k < n := by simpa [z2U] using hb
   have := h.len
   simp [z8a, qW, h.get, List.getD, List.getElem?_eq_getElem (show k < τ.length by omega)]
  | cell k m =>
   have hk : k < n := by simpa [z2U] using hb
   have := h.len
   simp only [z8a, qW, h.get, List.getD, List.getElem?_eq_getElem (show k < τ.length by omega), Option.getD_some]
   generalize τ[k] = u
   cases u <;> rfl
 have : zK (z8a t H) l = zK (qW τ H) l := by
  clear hb
  induction l with
  | nil => rfl
  | cons r l ih =>
   simp only [zK]
   rw [key r (by simp), ih (fun r hr => key r (by simp [hr]))]
 unfold V4 zX
 rw [this]
 rfl
def FOk (E : Env) : Prop := ∀ f fn, E.fns f = some fn → z8d fn = true
theorem za7 {E : Env} (hE : FOk E) : ∀ n, (∀ f args H r, (QG E n).1 f args H = some r → xg E n f args H = some r) ∧
  (∀ m c τ t H ex t' H', Yp m c = true → RT m τ t → (QG E n).2 c t H = some (ex, t', H') → ∃ τ', zp E n c τ H = some (ex, τ', H') ∧ RT m τ' t') := by
 intro n
 induction n with
 | zero =>
  refine ⟨fun f args H r h => ?_, fun m c τ t H ex t' H' _ _ h => ?_⟩
  ·cases h
  ·cases h
 | succ n ih =>
  obtain ⟨ih1, ih2⟩ := ih
  refine ⟨fun f args H r h => ?_, fun m c τ t H ex t' H' hb hr h => ?_⟩
  ·change (match E.spec f with
    | some g => g args H
    | none => match E.fns f with
     | none => none
     | some fn => match (QG E n).2 fn.code (z0V args 0 .leaf) H with
      | some (.normal, t, H') | some (.ret, t, H') => (V4 t H' fn.res).map fun v => (v, H')
      | _ => none) = _ at h
   unfold xg
   split at h
   ·rename_i g hg
    rw [hg]
    exact h
   ·rename_i hg
    rw [hg]
    simp only
    split at h
    ·cases h
    ·rename_i fn hfn
     rw [hfn]
     simp only
     have hbf := hE f fn hfn
     unfold z8d at hbf
     rw [Bool.and_eq_true] at hbf
     split at h
     ·rename_i t' H' he
      obtain ⟨τ', h1, h2⟩ := ih2 fn.nt fn.code _ _ H _ _ _ hbf.1 (z6l args fn.nt) he
      rw [h1]
      simp only
      rw [← z2c h2 hbf.2]
      exact h
     ·rename_i t' H' he
      obtain ⟨τ', h1, h2⟩ := ih2 fn.nt fn.code _ _ H _ _ _ hbf.1 (z6l args fn.nt) he
      rw [h1]
      simp only
      rw [← z2c h2 hbf.2]
      exact h
     ·cases h
  ·cases c with
   | skip =>
    obtain ⟨rfl, rfl, rfl⟩ : zy.normal = ex ∧ t = t' ∧ H = H' := by simpa [QG] using h
    exact ⟨τ, rfl, hr⟩
   | ret =>
    obtain ⟨rfl, rfl, rfl⟩ : zy.ret = ex ∧ t = t' ∧ H = H' := by simpa [QG] using h
    exact ⟨τ, rfl, hr⟩
   | exit i =>
    obtain ⟨rfl, rfl, rfl⟩ : zy.exit i = ex ∧ t = t' ∧ H = H' := by simpa [QG] using h
    exact ⟨τ, rfl, hr⟩
   | reg ops =>
    change (z8b (QG E n).1 ops t H).map (fun (t, H) => (zy.normal, t, H)) = _ at h
    obtain ⟨⟨t1, H1⟩, h1, h2⟩ := Option.map_eq_some_iff.1 h
    obtain ⟨rfl, rfl, rfl⟩ : zy.normal = ex ∧ t1 = t' ∧ H1 = H' := by simpa using h2
    obtain ⟨τ', h3, h4⟩ := z2V ih1 ops τ t H t1 H1 hb hr h1
    exact ⟨τ', by simp [zp, h3], h4⟩
   | dreg na ops =>
    change (z0U (QG E n).1 H.size ops [] t (pushN na H)).map (fun (t, H) => (zy.normal, t, H)) = _ at h
    obtain ⟨⟨t1, H1⟩, h1, h2⟩ := Option.map_eq_some_iff.1 h
    obtain ⟨rfl, rfl, rfl⟩ : zy.normal = ex ∧ t1 = t' ∧ H1 = H' := by simpa using h2
    obtain ⟨τ', h3, h4⟩ := QH ih1 H.size ops [] [] τ t _ t1 H1 hb ⟨rfl, fun p x hx => by simp at hx⟩ hr h1
    exact ⟨τ', by simp [zp, h3], h4⟩
   | seq a b =>
    simp only [Yp, Bool.and_eq_true] at hb
    change (match (QG E n).2 a t H with
     | some (.normal, t, H) => (QG E n).2 b t H
     | r => r) = _ at h
    simp only [zp]
    split at h
    ·rename_i t1 H1 h1
     obtain ⟨τ1, h2, h3⟩ := ih2 m a τ t H _ _ _ hb.1 hr h1
     rw [h2]
     exact ih2 m b τ1 t1 H1 _ _ _ hb.2 h3 h
    ·rename_i hne
     obtain ⟨τ1, h2, h3⟩ := ih2 m a τ t H _ _ _ hb.1 hr h
     rw [h2]
     refine ⟨τ1, ?_, h3⟩
     cases ex with
     | normal => exact absurd h (hne _ _)
     | exit i => rfl
     | ret => rfl
   | cond x a b =>
    simp only [Yp, Bool.and_eq_true] at hb
    change (match t.at x with
     | .bool w => (QG E n).2 (if w then a else b) t H
     | _ => none) = _ at h
    simp only [zp]
    rw [hr.at] at h
    split at h
    ·rename_i w hw
     rw [hw]
     refine ih2 m _ τ t H _ _ _ ?_ hr h
     cases w
     ·exact hb.2
     ·exact hb.1
    ·cases h
   | block i c =>
    change (match (QG E n).2 c t H with
     | some (.exit j, t, H) => some (if j = i then zy.normal else .exit j, t, H)
     | r => r) = _ at h
    simp only [zp]
    split at h
    ·rename_i j t1 H1 h1
     obtain ⟨τ1, h2, h3⟩ := ih2 m c τ t H _ _ _ hb hr h1
     rw [h2]
     obtain ⟨rfl, rfl, rfl⟩ : (if j = i then zy.normal else .exit j) = ex ∧ t1 = t' ∧ H1 = H' := by simpa using h
     exact ⟨τ1, rfl, h3⟩
    ·rename_i hne
     obtain ⟨τ1, h2, h3⟩ := ih2 m c τ t H _ _ _ hb hr h
     rw [h2]
     refine ⟨τ1, ?_, h3⟩
     cases ex with
     | exit j => exact absurd h (hne _ _ _)
     | normal => rfl
     | ret => rfl
   | loop c =>
    change (match (QG E n).2 c t H with
     | some (.normal, t, H) => (QG E n).2 (.loop c) t H
     | r => r) = _ at h
    simp only [zp]
    split at h
    ·rename_i t1 H1 h1
     obtain ⟨τ1, h2, h3⟩ := ih2 m c τ t H _ _ _ hb hr h1
     rw [h2]
     exact ih2 m (.loop c) τ1 t1 H1 _ _ _ hb h3 h
    ·rename_i hne
     obtain ⟨τ1, h2, h3⟩ := ih2 m c τ t H _ _ _ hb hr h
     rw [h2]
     refine ⟨τ1, ?_, h3⟩
     cases ex with
     | normal => exact absurd h (hne _ _)
     | exit i => rfl
     | ret => rfl
theorem za8 {E : Env} (hE : FOk E) {n f : Nat} (h : YF ((QG E n).1 f [] z3.empty) = true) : YF (xg E n f [] z3.empty) = true := by
 cases hr : (QG E n).1 f [] z3.empty with
 | none => rw [hr] at h; cases h
 | some r => rw [(za7 hE n).1 _ _ _ _ hr, ← hr]; exact h
end Go.Ab
