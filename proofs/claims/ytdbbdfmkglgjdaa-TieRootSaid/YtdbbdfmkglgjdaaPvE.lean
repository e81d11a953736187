import Derived.Test.YtdbbdfmkglgjdaaPvD
import Derived.Test.YtdbbdfmkglgjdaaSh8
import Derived.Test.YtdbbdfmkglgjdaaSh13
import Derived.Test.YtdbbdfmkglgjdaaAb17
import Derived.Test.YtdbbdfmkglgjdaaSh14
set_option linter.unusedVariables false
set_option linter.unusedSimpArgs false
namespace Go.Ab
section
variable {β : Type}
def goC (r : PT → PW → AHeap → PK β → Option β) (k : PK β) : PK β := goX (fun τ ω Q => r τ ω Q k) k
def finC (own : List (Nat × Nat)) (fr ts : List Nat) (ks : List (Nat × Nat)) (k : PK β) : PK β := goX (fun τ ω Q => finK own fr ts ks τ ω Q k) k
@[simp] theorem bnX_some (ex : AExit) (τ : PT) (ω : PW) (Q : AHeap) (k : PK β) : bnX (some (ex, τ, ω, Q)) k = k ex τ ω Q := (Eq.refl _).trans (Eq.refl _)
@[simp] theorem bnX_none (k : PK β) : bnX none k = none := (Eq.refl _).trans (Eq.refl _)
@[simp] theorem bnL_some (l : List AV) (k : List AV → Option β) : bnL (some l) k = k l := (Eq.refl _).trans (Eq.refl _)
@[simp] theorem bnL_none (k : List AV → Option β) : bnL none k = none := (Eq.refl _).trans (Eq.refl _)
@[simp] theorem bnN_some (l : Nat) (k : Nat → Option β) : bnN (some l) k = k l := (Eq.refl _).trans (Eq.refl _)
@[simp] theorem bnN_none (k : Nat → Option β) : bnN none k = none := (Eq.refl _).trans (Eq.refl _)
@[simp] theorem bnC_none (n : Nat) (k : Cur β n) : bnC n none k = none := (Eq.refl _).trans (Eq.refl _)
@[simp] theorem bnC_0 (k : Option β) : bnC (β := β) 0 (some []) k = k := (Eq.refl _).trans (Eq.refl _)
@[simp] theorem bnC_1 (a : AV) (k : AV → Option β) : bnC (β := β) 1 (some [a]) k = k a := (Eq.refl _).trans (Eq.refl _)
@[simp] theorem bnC_2 (a b : AV) (k : AV → AV → Option β) : bnC (β := β) 2 (some [a, b]) k = k a b := (Eq.refl _).trans (Eq.refl _)
@[simp] theorem bnC_3 (a b c : AV) (k : AV → AV → AV → Option β) : bnC (β := β) 3 (some [a, b, c]) k = k a b c := (Eq.refl _).trans (Eq.refl _)
@[simp] theorem bnC_4 (a b c d : AV) (k : AV → AV → AV → AV → Option β) : bnC (β := β) 4 (some [a, b, c, d]) k = k a b c d := (Eq.refl _).trans (Eq.refl _)
@[simp] theorem bnC_5 (a b c d e : AV) (k : AV → AV → AV → AV → AV → Option β) : bnC (β := β) 5 (some [a, b, c, d, e]) k = k a b c d e := (Eq.refl _).trans (Eq.refl _)
@[simp] theorem bnC_6 (a b c d e f : AV) (k : AV → AV → AV → AV → AV → AV → Option β) : bnC (β := β) 6 (some [a, b, c, d, e, f]) k = k a b c d e f := (Eq.refl _).trans (Eq.refl _)
@[simp] theorem bnC_7 (a b c d e f g : AV) (k : AV → AV → AV → AV → AV → AV → AV → Option β) : bnC (β := β) 7 (some [a, b, c, d, e, f, g]) k = k a b c d e f g := (Eq.refl _).trans (Eq.refl _)
@[congr] theorem bnX_congr {o o' : Option PEnd} {k : PK β} (h : o = o') : bnX o k = bnX o' k := by rw [h]
@[congr] theorem bnL_congr {o o' : Option (List AV)} {k : List AV → Option β} (h : o = o') : bnL o k = bnL o' k := by rw [h]
@[congr] theorem bnN_congr {o o' : Option Nat} {k : Nat → Option β} (h : o = o') : bnN o k = bnN o' k := by rw [h]
@[congr] theorem bnC_congr {n : Nat} {o o' : Option (List AV)} {k : Cur β n} (h : o = o') : bnC n o k = bnC n o' k := by rw [h]
variable (k1 : PT → PW → AHeap → Option β) (r : PT → PW → AHeap → PK β → Option β) (k : PK β) (τ : PT) (ω : PW) (Q : AHeap) (i j : Nat)
@[simp] theorem ret4_eq (ex : AExit) : ret4 ex τ ω Q = some (ex, τ, ω, Q) := (Eq.refl _).trans (Eq.refl _)
@[simp] theorem goX_n : goX k1 k .normal τ ω Q = k1 τ ω Q := (Eq.refl _).trans (Eq.refl _)
@[simp] theorem goX_e : goX k1 k (.exit i) τ ω Q = k (.exit i) τ ω Q := (Eq.refl _).trans (Eq.refl _)
@[simp] theorem goX_r : goX k1 k .ret τ ω Q = k .ret τ ω Q := (Eq.refl _).trans (Eq.refl _)
@[simp] theorem goC_n : goC r k .normal τ ω Q = r τ ω Q k := (Eq.refl _).trans (Eq.refl _)
@[simp] theorem goC_e : goC r k (.exit i) τ ω Q = k (.exit i) τ ω Q := (Eq.refl _).trans (Eq.refl _)
@[simp] theorem goC_r : goC r k .ret τ ω Q = k .ret τ ω Q := (Eq.refl _).trans (Eq.refl _)
@[simp] theorem finC_n (own fr ts ks) : finC own fr ts ks k .normal τ ω Q = finK own fr ts ks τ ω Q k := (Eq.refl _).trans (Eq.refl _)
@[simp] theorem finC_e (own fr ts ks) : finC own fr ts ks k (.exit i) τ ω Q = k (.exit i) τ ω Q := (Eq.refl _).trans (Eq.refl _)
@[simp] theorem finC_r (own fr ts ks) : finC own fr ts ks k .ret τ ω Q = k .ret τ ω Q := (Eq.refl _).trans (Eq.refl _)
@[simp] theorem outX_n : outX i k .normal τ ω Q = k .normal τ ω Q := (Eq.refl _).trans (Eq.refl _)
@[simp] theorem outX_e : outX i k (.exit j) τ ω Q = k (if j = i then .normal else .exit j) τ ω Q := by
  show k (match Nat.beq j i with | true => .normal | false => .exit j) τ ω Q = _
  by_cases h : j = i
  · subst h; rw [show Nat.beq j j = true from Nat.beq_refl j]; simp
  · rw [show Nat.beq j i = false by cases e : Nat.beq j i with | false => rfl | true => exact absurd (Nat.eq_of_beq_eq_true e) h]; simp [h]
@[simp] theorem outX_r : outX i k .ret τ ω Q = k .ret τ ω Q := (Eq.refl _).trans (Eq.refl _)
end
@[simp] theorem lkp_nil' {α : Type} (k : Nat) : lkp ([] : List (Nat × α)) k = none := (Eq.refl _).trans (Eq.refl _)
@[simp] theorem lkp_cons' {α : Type} (a : Nat) (x : α) (l : List (Nat × α)) (k : Nat) : lkp ((a, x) :: l) k = if a = k then some x else lkp l k := by
  show (match Nat.beq a k with | true => some x | false => lkp l k) = _
  by_cases h : a = k
  · subst h; rw [show Nat.beq a a = true from Nat.beq_refl a]; simp
  · rw [show Nat.beq a k = false by cases e : Nat.beq a k with | false => rfl | true => exact absurd (Nat.eq_of_beq_eq_true e) h]; simp [h]
@[simp] theorem rmv_nil' {α : Type} (k : Nat) : rmv ([] : List (Nat × α)) k = [] := (Eq.refl _).trans (Eq.refl _)
@[simp] theorem rmv_cons' {α : Type} (a : Nat) (x : α) (l : List (Nat × α)) (k : Nat) : rmv ((a, x) :: l) k = if a = k then rmv l k else (a, x) :: rmv l k := by
  show (match Nat.beq a k with | true => rmv l k | false => (a, x) :: rmv l k) = _
  by_cases h : a = k
  · subst h; rw [show Nat.beq a a = true from Nat.beq_refl a]; simp
  · rw [show Nat.beq a k = false by cases e : Nat.beq a k with | false => rfl | true => exact absurd (Nat.eq_of_beq_eq_true e) h]; simp [h]
attribute [simp] finK ownsK ownK frzK keepT keepW purge TV.of retPK retP resV isLs ressK TV.val owZ frz nodupN renT
@[simp] theorem getT_eq (τ : PT) (t : Nat) : getT τ t = match lkp τ t with
    | some x => x
    | none => .v undefA := rfl
section
variable (b w : Bool) (o : Option AV) (Q : AHeap) (k : IntKind) (i : Int) (z : Nat) (l : List AV)
@[simp] theorem gdQ_bool : gdQ (.bool b) w o = if b = w then o else some .sk := (Eq.refl _).trans (Eq.refl _)
@[simp] theorem gdQ_sk : gdQ .sk w o = some .sk := (Eq.refl _).trans (Eq.refl _)
@[simp] theorem gdH_sk (o : Option (AV × AHeap)) : gdH .sk w o Q = some (.sk, Q) := (Eq.refl _).trans (Eq.refl _)
@[simp] theorem gdH_bool (o : Option (AV × AHeap)) : gdH (.bool b) w o Q = if b = w then o else some (.sk, Q) := (Eq.refl _).trans (Eq.refl _)
@[congr] theorem gdQ_congr {v v' : AV} {w : Bool} {o : Option AV} (h : v = v') : gdQ v w o = gdQ v' w o := by rw [h]
@[congr] theorem gdH_congr {v v' : AV} {w : Bool} {o : Option (AV × AHeap)} {Q : AHeap} (h : v = v') : gdH v w o Q = gdH v' w o Q := by rw [h]
@[simp] theorem lenQ_nils : lenQ .nils = some (.int .i64 0) := (Eq.refl _).trans (Eq.refl _)
@[simp] theorem lenQ_fz : lenQ (.fz z l) = some (.int .i64 l.length) := (Eq.refl _).trans (Eq.refl _)
theorem elQ_fz (h : 0 ≤ i) : elQ z (.fz z l) (.int k i) = l[i.toNat]? := by simp [elQ, h]
theorem elQ_nat (n : Nat) : elQ z (.fz z l) (.int k (n : Int)) = l[n]? := by simp [elQ]
@[simp] theorem idxN_nat (n m : Nat) : idxN n (.int k (m : Int)) = if m < n then some m else none := by simp [idxN]
@[simp] theorem idxN_int (n : Nat) : idxN n (.int k i) = if 0 ≤ i ∧ i < n then some i.toNat else none := (Eq.refl _).trans (Eq.refl _)
@[simp] theorem setE_int (n : Int) (v : AV) : setE (.int k n) 0 [v] = some v := (Eq.refl _).trans (Eq.refl _)
@[simp] theorem setE_bool (n : Bool) (v : AV) : setE (.bool n) 0 [v] = some v := (Eq.refl _).trans (Eq.refl _)
@[simp] theorem setE_str (n : List UInt8) (v : AV) : setE (.str n) 0 [v] = some v := (Eq.refl _).trans (Eq.refl _)
@[simp] theorem cells_fz : (AV.fz z l).cells = [.fz z l] := (Eq.refl _).trans (Eq.refl _)
@[simp] theorem one_fz : AV.one (.fz z l) = true := (Eq.refl _).trans (Eq.refl _)
@[simp] theorem stC_int (n : Int) : stC 1 (.int k n) = some [.int k n] := (Eq.refl _).trans (Eq.refl _)
@[simp] theorem stC_bool (n : Bool) : stC 1 (.bool n) = some [.bool n] := (Eq.refl _).trans (Eq.refl _)
@[simp] theorem stC_str (n : List UInt8) : stC 1 (.str n) = some [.str n] := (Eq.refl _).trans (Eq.refl _)
@[simp] theorem rcv_int (n : Int) (c : Bool) : rcv c .n (.int k n) = some (.int k n) := (Eq.refl _).trans (Eq.refl _)
@[simp] theorem rcv_bool (n : Bool) (c : Bool) : rcv c .n (.bool n) = some (.bool n) := (Eq.refl _).trans (Eq.refl _)
@[simp] theorem rcv_str (n : List UInt8) (c : Bool) : rcv c .n (.str n) = some (.str n) := (Eq.refl _).trans (Eq.refl _)
@[simp] theorem rcv_agg (n : List AV) (c : Bool) : rcv c .n (.agg n) = some (.agg n) := (Eq.refl _).trans (Eq.refl _)
@[simp] theorem rcv_fz (c : Bool) : rcv c .n (.fz z l) = some (.fz z l) := (Eq.refl _).trans (Eq.refl _)
@[simp] theorem rcv_nils (c : Bool) : rcv c .n .nils = some .nils := (Eq.refl _).trans (Eq.refl _)
@[simp] theorem rcv_own : rcv true .n (.ow z l) = some (.ow z l) := (Eq.refl _).trans (Eq.refl _)
@[simp] theorem rcv_onil (c : Bool) : rcv c (.o z) .nils = some (.ow z []) := (Eq.refl _).trans (Eq.refl _)
@[simp] theorem rcv_oow : rcv true (.o z) (.ow z l) = some (.ow z l) := by simp [rcv]
@[simp] theorem rcv_fnil (c : Bool) : rcv c (.f z) .nils = some (.fz z []) := (Eq.refl _).trans (Eq.refl _)
@[simp] theorem rcv_fow : rcv true (.f z) (.ow z l) = some (.fz z l) := by simp [rcv]
@[simp] theorem rcv_ffz (c : Bool) : rcv c (.f z) (.fz z l) = some (.fz z l) := by cases c <;> simp [rcv]
@[simp] theorem mksN_int (y : Nat) (n m : Int) : mksN y (.int k n) (.int k m) = if 0 ≤ n ∧ n ≤ m ∧ m.toNat * (y + 1) ≤ maxBytes then some n.toNat else none := (Eq.refl _).trans (Eq.refl _)
theorem room_lt {y n : Nat} (h : n * (y + 1) ≤ maxBytes) : room y n = true := by simp [room, h]
end
end Go.Ab
set_option linter.unusedVariables false
set_option linter.unusedSimpArgs false
namespace Go.Ab
open Go.RowKit
theorem open_callsP {P : Program} {E : Env} (hE : EnvOk P E) {f : Nat} (hf : E.spec f = none) {W : World} {vs : List Value} {avs : List AV} {H : AHeap} (hl : Laid W vs avs H)
    (h : EndsV (callV E f avs H) fun v _ => v = .bool true) : Calls P f vs.toArray W fun e W' => e = .returned (.bool true) ∧ Below W.heap.size W W' := by
  obtain ⟨v, H1, hc, rfl⟩ := h
  obtain ⟨n, hn⟩ := callV_iff.1 hc
  obtain ⟨ρ, hs, hx⟩ := hl
  refine (((sound hE n).1 f avs H _ _ hf hn).2 W.heap.size ρ W vs (Nat.le_refl _) hs hx).mono fun e W' ⟨ρ', x, he, hx, _, _, hb, _⟩ => ?_
  simp [conc] at hx
  subst hx
  exact ⟨he, hb⟩
theorem SpecOk.closedP {P : Program} {E : Env} (hE : EnvOk P E) {f n : Nat} (hf : E.spec f = none) (h : tellsTrue (acall E n f [] AHeap.empty) = true) : SpecOk P f gTrue := by
  intro B ρ w H args xs v H' hB hs hx hg
  obtain ⟨rfl, rfl, rfl⟩ := gTrue_inv hg
  have hxs : xs = [] := by simpa [concL] using hx.symm
  subst hxs
  unfold tellsTrue at h
  split at h
  · rename_i H1 hH
    obtain ⟨h1, h2⟩ := (sound hE n).1 f [] _ _ _ hf hH
    refine Or.inl ⟨h1, (h2 w.heap.size (fun _ => none) w [] (Nat.le_refl _) sim_empty concL_nil).mono fun e w' ⟨ρ', x, he, hx, _, _, hb, _⟩ => ?_⟩
    simp [conc] at hx
    subst hx
    exact ⟨ρ, _, he, by simp [conc], Rho.ext_refl _ _, hs.below hb, ⟨hb.os, hb.tape, hb.output, hb.size, fun k hk => hb.block k (Nat.lt_of_lt_of_le hk hB)⟩, Nat.le_refl _⟩
  · cases h
def gYes (args : List AV) : Option AV := match args with
  | [] => some (.bool true)
  | _ => none
theorem yes_ok {E : Env} {f : Nat} (hf : f < tkey) (hs : E.spec f = some gTrue) : SpecOkP E f gYes := by
  refine ⟨fun _ args v hg ρ Φ A Q H args' hr ha => ?_, fun f0 e z' l args v hg => ?_⟩
  · unfold gYes at hg
    split at hg
    · obtain rfl := Option.some.inj hg
      obtain rfl := ha.nil
      exact ⟨.bool true, H, ρ, Φ, by rw [callV_spec hs]; rfl, hr, Ext.refl, by simp only [ResV, RV]⟩
    · cases hg
  · cases hg
theorem law_ends {E : Env} {PE : PEnv} (hE : PEnvOk E PE) {f : Nat} (hf : f < tkey) {args args' : List AV} {H : AHeap} (h : ∃ Q', callP PE f args AHeap.empty = some (.bool true, Q')) (ha : RL (fun _ => none) (inPhi H) args args') :
    EndsV (callV E f args' H) fun v _ => v = .bool true := by
  obtain ⟨Q', h⟩ := h
  obtain ⟨H1, e⟩ := law_true hE hf h ha
  exact ⟨_, _, e, rfl⟩
section
variable {ρ : PRho} {Φ : PPhi}
theorem RV.int {k : IntKind} {n : Int} : RV ρ Φ (.int k n) (.int k n) := by simp only [RV]
theorem RV.bool {b : Bool} : RV ρ Φ (.bool b) (.bool b) := by simp only [RV]
theorem RV.str {b : List UInt8} : RV ρ Φ (.str b) (.str b) := by simp only [RV]
theorem RE.ints (k : IntKind) (l : List Int) : RE ρ Φ 1 (l.map (AV.int k)) (l.map (AV.int k)) := by
  induction l with
  | nil => simp only [List.map_nil, RE]
  | cons n l ih =>
    simp only [List.map_cons, RE]
    exact ⟨.int k n, l.map (AV.int k), rfl, rfl, rfl, rfl, RV.int, ih⟩
theorem RV.ints {k : IntKind} {H : AHeap} {v : AV} {l : List Int} (h : rdI k H v = some l) (hc : capOk v = true) : RV ρ (inPhi H) (.fz 1 (l.map (AV.int k))) v := by
  simp only [RV]
  refine ⟨l.map (AV.int k), ?_, RE.ints k l⟩
  rcases rdI_cases h with ⟨rfl, rfl⟩ | ⟨r, o, c, rfl, hr, hrow⟩
  · exact ⟨rfl, rfl⟩
  · refine ⟨by simp, ?_, fun q e => ?_⟩
    · simp only [inPhi, if_pos hr, List.length_map, Nat.mul_one]
      rw [← row_rowO]; exact hrow
    · subst e
      simpa [capOk] using hc
end
theorem elQ_ints {k kk : IntKind} {l : List Int} {i : Int} (h0 : 0 ≤ i) (h1 : i < l.length) : elQ 1 (.fz 1 (l.map (AV.int k))) (.int kk i) = some (.int k (l.getD i.toNat 0)) := by
  rw [elQ_fz _ _ _ _ h0, List.getElem?_map, List.getD_eq_getElem?_getD, List.getElem?_eq_getElem (by omega)]; rfl
@[simp] theorem flatR_int (k : IntKind) (n : Int) : flatR (.int k n) = true := (Eq.refl _).trans (Eq.refl _)
@[simp] theorem flatR_bool (b : Bool) : flatR (.bool b) = true := (Eq.refl _).trans (Eq.refl _)
@[simp] theorem elOk_int (k : IntKind) (n : Int) : elOk 1 (.int k n) = true := (Eq.refl _).trans (Eq.refl _)
@[simp] theorem elOk_bool (b : Bool) : elOk 1 (.bool b) = true := (Eq.refl _).trans (Eq.refl _)
@[simp] theorem elOk_str (b : List UInt8) : elOk 1 (.str b) = true := (Eq.refl _).trans (Eq.refl _)
end Go.Ab
set_option linter.unusedVariables false
set_option linter.unusedSimpArgs false
set_option linter.unusedSectionVars false
namespace Go.Ab
open Go.RowKit
section
variable {E : Env} {ρ : PRho} {Φ : PPhi} {A : Nat → Prop} {Q H H1 : AHeap}
theorem take_end {f z : Nat} {l l' : List AV} {x x' : AV} {args' : List AV} (hr : Rel ρ Φ A Q H) (ho : OwnV ρ Φ H z l x) (hf : Free ρ Φ A Q H x) (hc : callV E f (x :: args') H = some (x', H1)) (hsz : H.size ≤ H1.size)
    (hold : ∀ s, s < H.size → blk x ≠ some s → H1.get s = H.get s) (hown : OwnV ρ Φ H1 z l' x') (hblk : ∀ r, blk x' = some r → (blk x = some r ∨ H.size ≤ r) ∧ r < H1.size) : CallEnd E ρ Φ A H f (x :: args') (.ow z l') Q := by
  have hne : ∀ s, (∃ o, Φ s = some o) ∨ A s ∨ (∃ q o, Q.get q = some o ∧ ρ q = some s) → blk x ≠ some s := fun s hs e => by
    obtain ⟨_, h2, h3, h4⟩ := hf s e
    rcases hs with ⟨o, ho⟩ | ha | ⟨q, o, hq, hr⟩
    · rw [h2] at ho; cases ho
    · exact h3 ha
    · exact h4 q o hq hr
  refine ⟨x', H1, ρ, Φ, hc, ⟨fun q r' e => ?_, fun q o hq => ?_, hr.inj, hr.sep, fun s o e => ?_, fun s a => ?_⟩, ⟨ρ.refl, Φ.refl, fun s a => hold s (hr.res s a).1 (hne s (Or.inr (Or.inl a))), hsz⟩, hown, fun s e => ?_⟩
  · have := hr.dom q r' e; exact ⟨this.1, by omega⟩
  · obtain ⟨r', o', g1, g4, g5⟩ := hr.obj q o hq
    exact ⟨r', o', g1, by rw [hold r' (hr.dom q r' g1).2 (hne r' (Or.inr (Or.inr ⟨q, o, hq, g1⟩)))]; exact g4, g5⟩
  · have := hr.fro s o e; exact ⟨by omega, by rw [hold s this.1 (hne s (Or.inl ⟨o, e⟩))]; exact this.2⟩
  · have := hr.res s a; exact ⟨by omega, this.2⟩
  · obtain ⟨h1, h2⟩ := hblk s e
    rcases h1 with h1 | h1
    · obtain ⟨p1, p2, p3, p4⟩ := hf s h1
      exact ⟨h2, p2, p3, p4⟩
    · refine ⟨h2, ?_, fun a => by have := (hr.res _ a).1; omega, fun q o hq e => by have := (hr.dom q _ e).2; omega⟩
      cases e : Φ s with
      | none => rfl
      | some o => have := (hr.fro s o e).1; omega
def gInsP (z bytes : Nat) : List AV → Option AV
  | [.ow z' l, .int .i64 i, .lt z2 vs] => if z' = z ∧ z2 = z ∧ 0 < vs.length ∧ 0 ≤ i ∧ i ≤ l.length ∧ room bytes (l.length + vs.length) = true then some (.ow z (l.take i.toNat ++ vs ++ l.drop i.toNat)) else none
  | _ => none
theorem ins_okP {f z bytes : Nat} (hz : 0 < z) (hs : E.spec f = some (exactOr z (gInsG z bytes))) : SpecOkP E (f + tkey) (gInsP z bytes) := by
  refine ⟨fun h => by omega, fun f0 e z0 l args v hg ρ Φ A Q H x args' hr ho hf ha => ?_⟩
  obtain rfl : f = f0 := by omega
  unfold gInsP at hg
  split at hg
  case h_2 => cases hg
  rename_i z' l i z2 vs heq
  simp only [List.cons.injEq, AV.ow.injEq] at heq
  obtain ⟨⟨rfl, rfl⟩, rfl⟩ := heq
  split at hg
  case isFalse => cases hg
  rename_i hc
  obtain ⟨rfl, rfl, hm, hi0, hil, hroom⟩ := hc
  cases hg
  obtain ⟨j, rfl⟩ : ∃ j : Nat, i = j := ⟨i.toNat, by omega⟩
  rw [Int.toNat_natCast]
  have hj : j ≤ l.length := by omega
  obtain ⟨r1, r2⟩ := room_some hroom
  obtain ⟨y1, m1, rfl, hy1, ha1⟩ := ha.uncons
  obtain ⟨y2, m2, rfl, hy2, ha2⟩ := ha1.uncons
  obtain rfl := ha2.nil
  simp only [RV] at hy1 hy2
  subst hy1
  obtain ⟨rv, vcs, rfl, hrv, hre⟩ := hy2
  obtain ⟨hltv, hgv⟩ := hr.fro rv _ hrv
  have hvl := hre.length
  have hrow : H.row rv 0 (vs.length * z2) = some vcs := by
    unfold AHeap.row
    rw [hgv]
    simp only [Nat.zero_add]
    rw [if_pos (by omega), List.drop_zero, ← hvl, List.take_length]
  -- what is there behind it
  have hlist : ∀ cs : List AV, l.length * z2 ≤ cs.length → RE ρ Φ z2 l (cs.take (l.length * z2)) → RE ρ Φ z2 (l.take j ++ vs ++ l.drop j) (cs.take (j * z2) ++ vcs ++ (cs.drop (j * z2)).take ((l.length - j) * z2)) := fun cs hl he => by
    have a1 := he.take j
    rw [List.take_take, Nat.min_eq_left (Nat.mul_le_mul_right z2 hj)] at a1
    have a2 := he.drop j
    rw [List.drop_take, ← Nat.sub_mul] at a2
    exact (a1.append hre).append a2
  have hlen : (l.take j ++ vs ++ l.drop j).length = l.length + vs.length := by simp; omega
  have fin : ∀ (H0 : AHeap) (r : Nat) (c : ACap) (cs : List AV), x = .sl r 0 l.length c → r < H.size → H0.size = H.size → (∀ s, s < H.size → s ≠ r → H0.get s = H.get s) → H0.get r = some (.cells .opened z2 cs) → l.length * z2 ≤ cs.length → RE ρ Φ z2 l (cs.take (l.length * z2)) →
      callV E f [x, .int .i64 j, .sl rv 0 vs.length (.ex vs.length)] H = gInsG z2 bytes [.sl r 0 l.length (.mi 0), .int .i64 j, .sl rv 0 vs.length (.ex vs.length)] H0 → CallEnd E ρ Φ A H f [x, .int .i64 j, .sl rv 0 vs.length (.ex vs.length)] (.ow z2 (l.take j ++ vs ++ l.drop j)) Q := by
    intro H0 r c cs hx hlt hsz hkeep hg hl he hcall
    have hne : rv ≠ r := fun e => by
      have := (hf r (by rw [hx]; rfl)).2.1
      rw [e, this] at hrv; cases hrv
    have hg0 : H0.get rv = some (.cells .exact z2 vcs) := by rw [hkeep rv hltv hne]; exact hgv
    have hrow0 : H0.row rv 0 (vs.length * z2) = some vcs := by
      rw [row_rowO, hg0, ← hgv, ← row_rowO]; exact hrow
    have e1 : gInsG z2 bytes [.sl r 0 l.length (.mi 0), .int .i64 j, .sl rv 0 vs.length (.ex vs.length)] H0 = some (.sl H0.size 0 (l.length + vs.length) (.mi 0), (H0.put r none).push (some (.cells .opened z2 (cs.take (j * z2) ++ vcs ++ (cs.drop (j * z2)).take ((l.length - j) * z2))))) := by
      simp only [gInsG, hg, hg0, hrow0]
      rw [if_pos ⟨trivial, hm, by omega, by omega, hl, he.all, hre.all, hne, Or.inl (by first | trivial | rfl), by omega, by omega, r1, r2⟩]
      simp only [Int.toNat_natCast]
    rw [e1] at hcall
    refine take_end hr ho hf hcall (by rw [AHeap.size_push, AHeap.size_put]; omega) (fun s hs hb => ?_) ⟨hz, Or.inr ⟨H0.size, .mi 0, .opened, _, by rw [hlen], by rw [AHeap.get_push, AHeap.size_put, if_pos rfl], ?_, ?_, Or.inl ⟨rfl, rfl⟩⟩⟩ (fun r' e => ?_)
    · have hsr : s ≠ r := fun e => hb (by rw [hx, e]; rfl)
      rw [AHeap.get_push, AHeap.size_put, if_neg (by omega), AHeap.get_put, if_neg hsr]
      exact hkeep s hs hsr
    · have := (hlist cs hl he).length
      omega
    · rw [← (hlist cs hl he).length, List.take_length]; exact hlist cs hl he
    · simp only [blk, Option.some.injEq] at e
      subst e
      exact ⟨Or.inr (by omega), by rw [AHeap.size_push, AHeap.size_put]; omega⟩
  rcases ho.2 with ⟨rfl, rfl⟩ | ⟨r, c, k, cs, hx, hg, hl, he, hk⟩
  · obtain rfl : j = 0 := by simpa using hj
    have hcall : callV E f [.nils, .int .i64 ((0 : Nat) : Int), .sl rv 0 vs.length (.ex vs.length)] H = some (.sl H.size 0 vs.length (.mi 0), H.push (some (.cells .opened z2 vcs))) := by
      rw [callV_spec hs]
      simp only [List.length_nil, Nat.zero_add] at r1 r2
      have h1 : ¬ z2 = 0 := by omega
      have h2 : ¬ vs.length = 0 := by omega
      have h3 : appA H z2 bytes .nils (.sl rv 0 vs.length (.ex vs.length)) = some (.sl H.size 0 vs.length (.mi 0), H.push (some (.cells .opened z2 vcs))) := by
        have h2' : ¬ vs = [] := fun e => h2 (by rw [e]; rfl)
        have hrow' := hrow
        rw [row_eq] at hrow'
        simp [appA, appOnto, srcRow, hrow', AV.slen, h1, h2', r1, r2]
      exact h3
    refine take_end hr ho hf hcall (by simp) (fun s hs _ => by rw [AHeap.get_push, if_neg (by omega)]) ⟨hz, Or.inr ⟨H.size, .mi 0, .opened, vcs, by simp, by rw [AHeap.get_push, if_pos rfl], by simp; omega, ?_, Or.inl ⟨rfl, rfl⟩⟩⟩ (fun r' e => ?_)
    · simp only [List.take_zero, List.nil_append, List.drop_zero, List.append_nil]
      rw [← hvl, List.take_length]; exact hre
    · simp only [blk, Option.some.injEq] at e
      subst e
      exact ⟨Or.inr (Nat.le_refl _), by simp⟩
  · have hlt : r < H.size := (hf r (by rw [hx]; rfl)).1
    rcases hk with ⟨rfl, rfl⟩ | ⟨q, rfl, rfl, hq1, hq2, hq3⟩
    · refine fin H r (.mi 0) cs hx hlt rfl (fun _ _ _ => rfl) hg hl he ?_
      rw [callV_spec hs, hx]
      rfl
    · refine fin (H.put r (some (.cells .opened z2 cs))) r (.ex q) cs hx hlt (by rw [AHeap.size_put]) (fun s _ hs => by rw [AHeap.get_put, if_neg hs]) (by rw [AHeap.get_put, if_pos rfl]) hl he ?_
      rw [callV_spec hs, hx]
      simp only [exactOr, hg]
      rw [if_pos ⟨trivial, hq2, by have : maxBytes = 70368744177664 := rfl; have : maxLen = 9223372036854775807 := rfl; omega, hq1⟩]
end
end Go.Ab
set_option linter.unusedVariables false
set_option linter.unusedSimpArgs false
namespace Go.Ab
section
variable {α : Type}
@[simp] theorem stC_agg (n : Nat) (l : List AV) : stC n (.agg l) = if l.length = n ∧ l.all AV.one = true then some l else none := by
  simp only [stC, cells_agg, beqN]
  by_cases h : l.length = n <;> cases h2 : l.all AV.one <;> simp [h]
@[simp] theorem stC_nils : stC 1 .nils = some [.nils] := (Eq.refl _).trans (Eq.refl _)
@[simp] theorem stC_fz (z : Nat) (l : List AV) : stC 1 (.fz z l) = some [.fz z l] := (Eq.refl _).trans (Eq.refl _)
@[simp] theorem elOk_agg (z : Nat) (l : List AV) : elOk z (.agg l) = (decide (l.length = z) && l.all AV.one) := by simp only [elOk, cells_agg, beqN]
@[simp] theorem tup_int (k : IntKind) (n : Int) : AV.isTup (.int k n) = false := (Eq.refl _).trans (Eq.refl _)
@[simp] theorem tup_bool (b : Bool) : AV.isTup (.bool b) = false := (Eq.refl _).trans (Eq.refl _)
@[simp] theorem tup_str (b : List UInt8) : AV.isTup (.str b) = false := (Eq.refl _).trans (Eq.refl _)
@[simp] theorem tup_nils : AV.isTup .nils = false := (Eq.refl _).trans (Eq.refl _)
@[simp] theorem tup_fz (z : Nat) (l : List AV) : AV.isTup (.fz z l) = false := (Eq.refl _).trans (Eq.refl _)
@[simp] theorem tup_agg (l : List AV) : AV.isTup (.agg l) = false := (Eq.refl _).trans (Eq.refl _)
@[simp] theorem fillP_nil (cs : List AV) : fillP cs [] = some cs := (Eq.refl _).trans (Eq.refl _)
@[simp] theorem fillP_cons (cs : List AV) (off s : Nat) (v : AV) (l : List (Nat × Nat × AV)) : fillP cs ((off, s, v) :: l) = if v.isTup = true then none else if v.cells.length = s ∧ off + s ≤ cs.length then fillP (splice cs off v.cells) l else none := by
  simp only [fillP]; cases v.isTup <;> simp
@[simp] theorem cut_eq (cs : List AV) (o n : Nat) : cut cs o n = if o + n ≤ cs.length then some ((cs.drop o).take n) else none := by
  unfold cut
  cases h : Nat.ble (o + n) cs.length with
  | true => simp [Nat.le_of_ble_eq_true h]
  | false => rw [if_neg (fun c => by rw [Nat.ble_eq_true_of_le c] at h; cases h)]
@[simp] theorem lowF_eq (call : CallF) (f : Nat) (args : List AV) (Q : AHeap) : lowF call f args Q = if f < tkey then call f args Q else none := by
  unfold lowF
  by_cases h : f < tkey
  · rw [show Nat.blt f tkey = true from Nat.ble_eq_true_of_le h]; simp [h]
  · cases e : Nat.blt f tkey with
    | true => exact absurd (Nat.le_of_ble_eq_true e) h
    | false => simp [h]
theorem tkey_eq : tkey = 1000000 := rfl
@[simp] theorem bnF_fn {β : Type} (f : Nat) (a b : List AV) (k : Nat → List AV → List AV → Option β) : bnF (.fn f a b) k = k f a b := (Eq.refl _).trans (Eq.refl _)
@[simp] theorem fadQ_cp (n o : Nat) (cs : List AV) : fadQ n (.cp cs o) = some (.cp cs (o + n)) := (Eq.refl _).trans (Eq.refl _)
@[simp] theorem ldQ_cp (Q : AHeap) (o : Nat) (cs : List AV) : ldQ Q (.cp cs o) = cs[o]? := (Eq.refl _).trans (Eq.refl _)
@[simp] theorem slcQ_nils (z : Nat) (lo hi : Option AV) : slcQ z .nils lo hi = match bndo hi 0 0 with
    | none => none
    | some h => match bndo lo 0 h with
      | none => none
      | some _ => some .nils := rfl
theorem slcQ_fz {z : Nat} (hz : 0 < z) (l : List AV) (lo hi : Option AV) : slcQ z (.fz z l) lo hi = match bndo hi l.length l.length with
    | none => none
    | some h => match bndo lo 0 h with
      | none => none
      | some j => some (.fz z ((l.take h).drop j)) := by
  unfold slcQ
  exact if_pos ⟨rfl, hz⟩
@[simp] theorem ldnT_lp (ω : PW) (Q : AHeap) (n k o : Nat) : ldnT ω Q n (.lp k o) = match lkp ω k with
    | some (.cells cs) => cut cs o n
    | _ => none := (Eq.refl _).trans (Eq.refl _)
@[simp] theorem ldT_lp (ω : PW) (Q : AHeap) (k o : Nat) : ldT ω Q (.lp k o) = match lkp ω k with
    | some (.cells cs) => cs[o]?
    | _ => none := (Eq.refl _).trans (Eq.refl _)
@[simp] theorem ldnT_v (ω : PW) (Q : AHeap) (n : Nat) (a : AV) : ldnT ω Q n (.v a) = rowP Q n a := (Eq.refl _).trans (Eq.refl _)
@[simp] theorem ldT_v (ω : PW) (Q : AHeap) (a : AV) : ldT ω Q (.v a) = ldQ Q a := (Eq.refl _).trans (Eq.refl _)
@[simp] theorem rowP_cp (Q : AHeap) (n o : Nat) (cs : List AV) : rowP Q n (.cp cs o) = cut cs o n := (Eq.refl _).trans (Eq.refl _)
@[simp] theorem srcT_nils (ω : PW) (z : Nat) : srcT ω z (.v .nils) = some [] := (Eq.refl _).trans (Eq.refl _)
@[simp] theorem srcT_fz (ω : PW) (z z' : Nat) (l : List AV) : srcT ω z (.v (.fz z' l)) = if z' = z then some l else none := by
  show (match Nat.beq z' z with | true => some l | false => none) = _
  rw [beqN]; by_cases h : z' = z <;> simp [h]
theorem elQ_at {z : Nat} {f : α → AV} {l : List α} {i : Nat} {x : α} {k : IntKind} (h : l[i]? = some x) : elQ z (.fz z (l.map f)) (.int k (i : Int)) = some (f x) := by
  rw [elQ_nat, List.getElem?_map, h]; rfl
end
end Go.Ab
