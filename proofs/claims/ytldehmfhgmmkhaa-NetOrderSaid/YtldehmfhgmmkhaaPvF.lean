import Derived.Test.YtldehmfhgmmkhaaPvE
import Derived.Test.YtldehmfhgmmkhaaSh10
import Derived.OpenShut
import Derived.Deep.Slices
import Derived.ChangeSame
import Derived.SliceStrings
import Derived.Test.YtldehmfhgmmkhaaSh16
set_option linter.unusedVariables false
set_option linter.unusedSimpArgs false
namespace Go.Ab
open Go.Deep Go.ChangeShapes
section
variable {α : Type} {β : Type}
end
section
variable {P : Program} {r : Reach} {base : Nat} {α : Type}
end
end Go.Ab
set_option linter.unusedVariables false
set_option linter.unusedSimpArgs false
set_option linter.unusedSectionVars false
namespace Go.Ab
open Go.RowKit
section
variable {E : Env}
def gDelP (z bytes : Nat) : List AV → Option AV
  | [.ow z' l, .int .i64 i, .int .i64 j] => if z' = z ∧ 0 ≤ i ∧ i < j ∧ j ≤ l.length ∧ room bytes l.length = true then some (.ow z (l.take i.toNat ++ l.drop j.toNat)) else none
  | _ => none
theorem del_take {cs ws : List AV} {n i j z : Nat} (hn : n * z ≤ cs.length) (hij : i ≤ j) (hj : j ≤ n) : (splice (delCs cs n i j z) ((i + (n - j)) * z) ws).take ((i + (n - j)) * z) = cs.take (i * z) ++ (cs.drop (j * z)).take ((n - j) * z) := by
  have hjz : j * z ≤ n * z := Nat.mul_le_mul_right z hj
  have hiz : i * z ≤ j * z := Nat.mul_le_mul_right z hij
  have hsub : (n - j) * z = n * z - j * z := Nat.sub_mul n j z
  have hadd : (i + (n - j)) * z = i * z + (n - j) * z := Nat.add_mul i (n - j) z
  have hl1 : (cs.take (i * z)).length = i * z := by simp; omega
  have hl2 : ((cs.drop (j * z)).take ((n - j) * z)).length = (n - j) * z := by simp; omega
  have hd : (delCs cs n i j z).take ((i + (n - j)) * z) = cs.take (i * z) ++ (cs.drop (j * z)).take ((n - j) * z) := by
    unfold delCs
    split
    · rename_i e
      subst e
      simp
    · unfold splice
      rw [hadd, List.take_append_of_le_length (by simp only [List.length_append, hl1, hl2]; omega), List.take_of_length_le (by simp only [List.length_append, hl1, hl2]; omega)]
  have hdl : ((delCs cs n i j z).take ((i + (n - j)) * z)).length = (i + (n - j)) * z := by rw [hd, List.length_append, hl1, hl2, hadd]
  show ((delCs cs n i j z).take ((i + (n - j)) * z) ++ ws ++ (delCs cs n i j z).drop ((i + (n - j)) * z + ws.length)).take ((i + (n - j)) * z) = _
  rw [List.append_assoc, List.take_append_of_le_length (by omega), List.take_of_length_le (by omega)]
  exact hd
theorem delCs_len {cs : List AV} {n i j z : Nat} (hn : n * z ≤ cs.length) (hij : i ≤ j) (hj : j ≤ n) : (delCs cs n i j z).length = cs.length := by
  have hjz : j * z ≤ n * z := Nat.mul_le_mul_right z hj
  have hiz : i * z ≤ j * z := Nat.mul_le_mul_right z hij
  have hsub : (n - j) * z = n * z - j * z := Nat.sub_mul n j z
  unfold delCs
  split
  · rfl
  · refine splice_length _ _ _ ?_
    simp only [List.length_take, List.length_drop]
    omega
theorem del_okP {f z bytes : Nat} {zs : List AV} (hz : 0 < z) (hzs : zs.length = z) (hza : zs.all AV.one = true) (hs : E.spec f = some (gDelG z bytes zs)) : SpecOkP E (f + tkey) (gDelP z bytes) := by
  refine ⟨fun h => by omega, fun f0 e z0 l args v hg ρ Φ A Q H x args' hr ho hf ha => ?_⟩
  obtain rfl : f = f0 := by omega
  unfold gDelP at hg
  split at hg
  case h_2 => cases hg
  rename_i z' l i j heq
  simp only [List.cons.injEq, AV.ow.injEq] at heq
  obtain ⟨⟨rfl, rfl⟩, rfl⟩ := heq
  split at hg
  case isFalse => cases hg
  rename_i hc
  obtain ⟨rfl, hi0, hij, hjl, hroom⟩ := hc
  cases hg
  obtain ⟨i, rfl⟩ : ∃ a : Nat, i = a := ⟨i.toNat, by omega⟩
  obtain ⟨j, rfl⟩ : ∃ a : Nat, j = a := ⟨j.toNat, by omega⟩
  simp only [Int.toNat_natCast]
  obtain ⟨r1, r2⟩ := room_some hroom
  obtain ⟨y1, m1, rfl, hy1, ha1⟩ := ha.uncons
  obtain ⟨y2, m2, rfl, hy2, ha2⟩ := ha1.uncons
  obtain rfl := ha2.nil
  simp only [RV] at hy1 hy2
  subst hy1 hy2
  rcases ho.2 with ⟨_, rfl⟩ | ⟨r, c, k, cs, rfl, hg, hl, he, hk⟩
  · simp at hjl; omega
  · have hroomy : roomyB k c cs l.length z0 = true := by
      rcases hk with ⟨rfl, rfl⟩ | ⟨q, rfl, rfl, h1, h2, _⟩
      · rfl
      · exact decide_eq_true ⟨h1, h2⟩
    have hall := he.all
    have hlt : r < H.size := (hf r rfl).1
    have hcall : callV E f [.sl r 0 l.length c, .int .i64 i, .int .i64 j] H = some (.sl r 0 (i + (l.length - j)) c, delH H r k cs zs l.length i j z0) := by
      rw [callV_spec hs]
      simp only [gDelG, hg]
      rw [if_pos ⟨by first | trivial | rfl, hz, hzs, hza, hroomy, hl, hall, by omega, by omega, by omega, r1, r2⟩, if_neg (by omega)]
      simp only [Int.toNat_natCast]
    have hlen : (l.take i ++ l.drop j).length = i + (l.length - j) := by simp; omega
    have hcl := delCs_len (cs := cs) (n := l.length) (i := i) (j := j) (z := z0) hl (by omega) (by omega)
    have hrl := repl_length (l.length - (i + (l.length - j))) zs
    rw [hzs] at hrl
    have hmul : (i + (l.length - j)) * z0 + (l.length - (i + (l.length - j))) * z0 = l.length * z0 := by rw [← Nat.add_mul]; congr 1; omega
    have hfl : (splice (delCs cs l.length i j z0) ((i + (l.length - j)) * z0) (repl (l.length - (i + (l.length - j))) zs)).length = cs.length := by
      rw [splice_length _ _ _ (by omega)]; exact hcl
    refine take_end hr ho hf hcall ?_ (fun s hs hb => ?_) ⟨hz, Or.inr ⟨r, c, k, _, by rw [hlen], by unfold delH; rw [get_put_same], ?_, ?_, ?_⟩⟩ (fun r' e => ?_)
    · unfold delH
      rw [AHeap.size_put]
      split
      · exact Nat.le_refl _
      · rw [AHeap.size_put]; exact Nat.le_refl _
    · have hsr : s ≠ r := fun e => hb (by rw [e]; rfl)
      unfold delH
      rw [get_put_ne hsr]
      split
      · rfl
      · rw [get_put_ne hsr]
    · rw [hlen, hfl]
      omega
    · rw [hlen, del_take hl (by omega) (by omega)]
      have a1 := he.take i
      rw [List.take_take, Nat.min_eq_left (Nat.mul_le_mul_right z0 (by omega))] at a1
      have a2 := he.drop j
      rw [List.drop_take, ← Nat.sub_mul] at a2
      exact a1.append a2
    · rw [hlen, hfl]
      rcases hk with h | ⟨q, h1, h2, h3, h4, h5⟩
      · exact Or.inl h
      · exact Or.inr ⟨q, h1, h2, by omega, h4, h5⟩
    · simp only [blk, Option.some.injEq] at e
      subst e
      refine ⟨Or.inl rfl, ?_⟩
      unfold delH
      rw [AHeap.size_put]
      split
      · exact hlt
      · rw [AHeap.size_put]; exact hlt
end
end Go.Ab
