/- What operations come to at plain values: rules for simp. -/
import Derived.Test.YtdbbdfmkglgjdaaSh7
import Derived.IntWalk
set_option linter.unusedVariables false
set_option linter.unusedSimpArgs false
set_option linter.unusedSectionVars false
namespace Go.Ab
theorem beqD {α : Type} [BEq α] [LawfulBEq α] [DecidableEq α] (a b : α) : (a == b) = decide (a = b) := by by_cases h : a = b <;> simp [h]
section
variable {β : Type}
@[simp] theorem bnP_some (v : AV) (k : AV → Option β) : bnP (some v) k = k v := (Eq.refl _).trans (Eq.refl _)
@[simp] theorem bnP_none (k : AV → Option β) : bnP none k = none := (Eq.refl _).trans (Eq.refl _)
@[simp] theorem bnS_some (v : AV) (H : AHeap) (k : AV → AHeap → Option β) : bnS (some (v, H)) k = k v H := (Eq.refl _).trans (Eq.refl _)
@[simp] theorem bnS_none (k : AV → AHeap → Option β) : bnS none k = none := (Eq.refl _).trans (Eq.refl _)
@[simp] theorem bnE_some (ex : AExit) (τ : Tau) (H : AHeap) (k : AExit → Tau → AHeap → Option β) : bnE (some (ex, τ, H)) k = k ex τ H := (Eq.refl _).trans (Eq.refl _)
@[simp] theorem bnE_none (k : AExit → Tau → AHeap → Option β) : bnE none k = none := (Eq.refl _).trans (Eq.refl _)
@[simp] theorem bnO_some (v : AV) (o : AObj) (k : AV → AObj → Option β) : bnO (some (v, o)) k = k v o := (Eq.refl _).trans (Eq.refl _)
@[simp] theorem pinB_true (o : Option β) : pinB true o = o := (Eq.refl _).trans (Eq.refl _)
@[simp] theorem pinB_false (o : Option β) : pinB false o = none := (Eq.refl _).trans (Eq.refl _)
@[simp] theorem gdP_true (o : Option AV) : gdP true o = o := (Eq.refl _).trans (Eq.refl _)
@[simp] theorem gdP_false (o : Option AV) : gdP false o = some undefA := (Eq.refl _).trans (Eq.refl _)
@[simp] theorem gdS_true (o : Option (AV × AHeap)) (H : AHeap) : gdS true o H = o := (Eq.refl _).trans (Eq.refl _)
@[simp] theorem gdS_false (o : Option (AV × AHeap)) (H : AHeap) : gdS false o H = some (undefA, H) := (Eq.refl _).trans (Eq.refl _)
@[simp] theorem wnt_bool (b w : Bool) : wnt (.bool b) w = (b == w) := (Eq.refl _).trans (Eq.refl _)
@[simp] theorem wnt_undef (w : Bool) : wnt undefA w = false := (Eq.refl _).trans (Eq.refl _)
@[simp] theorem cndS_bool (b : Bool) (x y : Unit → Option β) : cndS (.bool b) x y = if b = true then x () else y () := by cases b <;> rfl
@[simp] theorem goOn_normal (k1 : Tau → AHeap → Option β) (k : AExit → Tau → AHeap → Option β) (τ : Tau) (H : AHeap) : goOn k1 k .normal τ H = k1 τ H := (Eq.refl _).trans (Eq.refl _)
@[simp] theorem goOn_exit (k1 : Tau → AHeap → Option β) (k : AExit → Tau → AHeap → Option β) (i : Nat) (τ : Tau) (H : AHeap) : goOn k1 k (.exit i) τ H = k (.exit i) τ H := (Eq.refl _).trans (Eq.refl _)
@[simp] theorem goOn_ret (k1 : Tau → AHeap → Option β) (k : AExit → Tau → AHeap → Option β) (τ : Tau) (H : AHeap) : goOn k1 k .ret τ H = k .ret τ H := (Eq.refl _).trans (Eq.refl _)
@[simp] theorem outK_normal (i : Nat) (k : AExit → Tau → AHeap → Option β) (τ : Tau) (H : AHeap) : outK i k .normal τ H = k .normal τ H := (Eq.refl _).trans (Eq.refl _)
@[simp] theorem outK_exit (i j : Nat) (k : AExit → Tau → AHeap → Option β) (τ : Tau) (H : AHeap) : outK i k (.exit j) τ H = k (if j = i then .normal else .exit j) τ H := (Eq.refl _).trans (Eq.refl _)
@[simp] theorem outK_ret (i : Nat) (k : AExit → Tau → AHeap → Option β) (τ : Tau) (H : AHeap) : outK i k .ret τ H = k .ret τ H := (Eq.refl _).trans (Eq.refl _)
@[simp] theorem ret3_eq (ex : AExit) (τ : Tau) (H : AHeap) : ret3 ex τ H = some (ex, τ, H) := (Eq.refl _).trans (Eq.refl _)
@[simp] theorem retK_ret (res : List ARes) (τ : Tau) (H : AHeap) : retK res .ret τ H = (resultsA τ H res).map fun v => (v, H) := (Eq.refl _).trans (Eq.refl _)
@[simp] theorem retK_normal (res : List ARes) (τ : Tau) (H : AHeap) : retK res .normal τ H = (resultsA τ H res).map fun v => (v, H) := (Eq.refl _).trans (Eq.refl _)
@[simp] theorem lft_some (H : AHeap) (v : AV) : lft H (some v) = some (v, H) := (Eq.refl _).trans (Eq.refl _)
@[congr] theorem bnP_congr {o o' : Option AV} {k : AV → Option β} (h : o = o') : bnP o k = bnP o' k := by rw [h]
@[congr] theorem bnS_congr {o o' : Option (AV × AHeap)} {k : AV → AHeap → Option β} (h : o = o') : bnS o k = bnS o' k := by rw [h]
@[congr] theorem bnE_congr {o o' : Option (AExit × Tau × AHeap)} {k : AExit → Tau → AHeap → Option β} (h : o = o') : bnE o k = bnE o' k := by rw [h]
@[congr] theorem bnO_congr {o o' : Option (AV × AObj)} {k : AV → AObj → Option β} (h : o = o') : bnO o k = bnO o' k := by rw [h]
@[congr] theorem pinB_congr {b b' : Bool} {k : Option β} (h : b = b') : pinB b k = pinB b' k := by rw [h]
@[congr] theorem cndS_congr {v v' : AV} {x y : Unit → Option β} (h : v = v') : cndS v x y = cndS v' x y := by rw [h]
@[congr] theorem gdP_congr {w w' : Bool} {o : Option AV} (h : w = w') : gdP w o = gdP w' o := by rw [h]
@[congr] theorem gdS_congr {w w' : Bool} {o : Option (AV × AHeap)} {H : AHeap} (h : w = w') : gdS w o H = gdS w' o H := by rw [h]
end
@[simp] theorem results_one (τ : Tau) (H : AHeap) (r : ARes) : resultsA τ H [r] = resA τ H r := by
  unfold resultsA mapO
  cases resA τ H r <;> rfl
@[simp] theorem results_two (τ : Tau) (H : AHeap) (r s : ARes) : resultsA τ H [r, s] = (resA τ H r).bind fun x => (resA τ H s).map fun y => .tup [x, y] := by
  simp only [resultsA, mapO]
  cases resA τ H r <;> cases resA τ H s <;> rfl
@[simp] theorem results_three (τ : Tau) (H : AHeap) (r s t : ARes) : resultsA τ H [r, s, t] = (resA τ H r).bind fun x => (resA τ H s).bind fun y => (resA τ H t).map fun z => .tup [x, y, z] := by
  simp only [resultsA, mapO]
  cases resA τ H r <;> cases resA τ H s <;> cases resA τ H t <;> rfl
@[simp] theorem resA_tmp (τ : Tau) (H : AHeap) (t : Nat) : resA τ H (.tmp t) = τ[t]? := (Eq.refl _).trans (Eq.refl _)
@[simp] theorem resA_cell (τ : Tau) (H : AHeap) (t : Nat) (n : Option Nat) : resA τ H (.cell t n) = (τ[t]?).bind fun a => match n with
    | none => ldA H a
    | some n => ldnA H n a := by
  simp only [resA]
  cases τ[t]? with
  | none => rfl
  | some a => cases a <;> cases n <;> rfl
@[simp] theorem pickA_bool (b : Bool) (x y : AV) : pickA (.bool b) x y = some (if b = true then x else y) := by cases b <;> rfl
@[simp] theorem ldA_ptr (H : AHeap) (r o : Nat) : ldA H (.ptr r o) = H.cell r o := (Eq.refl _).trans (Eq.refl _)
@[simp] theorem ldnA_ptr (H : AHeap) (n r o : Nat) : ldnA H n (.ptr r o) = (H.row r o n).map .agg := (Eq.refl _).trans (Eq.refl _)
@[simp] theorem nckA_ptr (r o : Nat) : nckA (.ptr r o) = some (.ptr r o) := (Eq.refl _).trans (Eq.refl _)
@[simp] theorem fadA_ptr (n r o : Nat) : fadA n (.ptr r o) = some (.ptr r (o + n)) := (Eq.refl _).trans (Eq.refl _)
@[simp] theorem lenA_sl (r o n : Nat) (c : ACap) : lenA (.sl r o n c) = some (.int .i64 n) := (Eq.refl _).trans (Eq.refl _)
@[simp] theorem lenA_zs (r o k d : Nat) : lenA (.zs r o k d) = some (.int .i64 0) := (Eq.refl _).trans (Eq.refl _)
@[simp] theorem lenA_nils : lenA .nils = some (.int .i64 0) := (Eq.refl _).trans (Eq.refl _)
@[simp] theorem lensA_str (s : List UInt8) : lensA (.str s) = some (.int .i64 s.length) := (Eq.refl _).trans (Eq.refl _)
@[simp] theorem iadA_sl (z r o n : Nat) (c : ACap) (k : IntKind) (i : Int) : iadA z (.sl r o n c) (.int k i) = if 0 ≤ i ∧ i < n then some (.ptr r (o + i.toNat * z)) else none := (Eq.refl _).trans (Eq.refl _)
@[simp] theorem iaaA_ptr (n z r o : Nat) (k : IntKind) (i : Int) : iaaA n z (.ptr r o) (.int k i) = if 0 ≤ i ∧ i < n then some (.ptr r (o + i.toNat * z)) else none := (Eq.refl _).trans (Eq.refl _)
@[simp] theorem cviA_int (k l : IntKind) (n : Int) : cviA k (.int l n) = some (.int k (k.wrap n)) := (Eq.refl _).trans (Eq.refl _)
@[simp] theorem extA_tup (l : List AV) (i : Nat) : extA (.tup l) i = l[i]? := (Eq.refl _).trans (Eq.refl _)
@[simp] theorem fldA_agg (o : Nat) (n : Option Nat) (l : List AV) : fldA o n (.agg l) = partA l o n := (Eq.refl _).trans (Eq.refl _)
@[simp] theorem partA_none (l : List AV) (o : Nat) : partA l o none = l[o]? := (Eq.refl _).trans (Eq.refl _)
@[simp] theorem partA_some (l : List AV) (o n : Nat) : partA l o (some n) = if o + n ≤ l.length then some (.agg ((l.drop o).take n)) else none := (Eq.refl _).trans (Eq.refl _)
@[simp] theorem unA_not (b : Bool) : unA .not (.bool b) = some (.bool !b) := (Eq.refl _).trans (Eq.refl _)
@[simp] theorem unA_neg (k : IntKind) (n : Int) : unA .neg (.int k n) = some (.int k (k.wrap (0 - n))) := (Eq.refl _).trans (Eq.refl _)
@[simp] theorem eqnA_slsl (neg : Bool) (r o n : Nat) (c : ACap) : eqnA neg 0 (.sl r o n c) = some (.bool (false != neg)) := (Eq.refl _).trans (Eq.refl _)
@[simp] theorem eqnA_nils (neg : Bool) : eqnA neg 0 .nils = some (.bool (true != neg)) := (Eq.refl _).trans (Eq.refl _)
@[simp] theorem eqnA_nilifc (neg : Bool) : eqnA neg 1 .nilifc = some (.bool (true != neg)) := (Eq.refl _).trans (Eq.refl _)
@[simp] theorem eqnA_ifc (neg : Bool) (t : Nat) (v : AV) : eqnA neg 1 (.ifc t v) = some (.bool (false != neg)) := (Eq.refl _).trans (Eq.refl _)
@[simp] theorem eqnA_nilp (neg : Bool) : eqnA neg 2 .nilp = some (.bool (true != neg)) := (Eq.refl _).trans (Eq.refl _)
@[simp] theorem eqnA_ptr (neg : Bool) (r o : Nat) : eqnA neg 2 (.ptr r o) = some (.bool (false != neg)) := (Eq.refl _).trans (Eq.refl _)
@[simp] theorem eqsA_b (neg a b : Bool) : eqsA neg .b (.bool a) (.bool b) = some (.bool ((a == b) != neg)) := (Eq.refl _).trans (Eq.refl _)
@[simp] theorem eqsA_i (neg : Bool) (k : IntKind) (a b : Int) : eqsA neg .i (.int k a) (.int k b) = some (.bool (decide (a = b) != neg)) := by
  simp [eqsA, eqA, beqD]
@[simp] theorem eqsA_s (neg : Bool) (a b : List UInt8) : eqsA neg .s (.str a) (.str b) = some (.bool (decide (a = b) != neg)) := by simp [eqsA, eqA, beqD]
@[simp] theorem eqsA_st (neg : Bool) (fs : List (Nat × Nat × EqT)) (a b : List AV) : eqsA neg (.st fs) (.agg a) (.agg b) = (eqF fs a b).map fun b => .bool (b != neg) := by
  simp only [eqsA, eqA]
@[simp] theorem eqF_nil (a b : List AV) : eqF [] a b = some true := by simp only [eqF]
@[simp] theorem eqF_cons (o n : Nat) (q : EqT) (l : List (Nat × Nat × EqT)) (xs ys : List AV) : eqF ((o, n, q) :: l) xs ys = match partA xs o (q.agg n), partA ys o (q.agg n) with
    | some a, some b => match eqA q a b with
      | some true => eqF l xs ys
      | some false => some false
      | none => none
    | _, _ => none := by
  conv => lhs; unfold eqF
  rfl
@[simp] theorem agg_b (n : Nat) : EqT.agg .b n = none := (Eq.refl _).trans (Eq.refl _)
@[simp] theorem agg_i (n : Nat) : EqT.agg .i n = none := (Eq.refl _).trans (Eq.refl _)
@[simp] theorem agg_s (n : Nat) : EqT.agg .s n = none := (Eq.refl _).trans (Eq.refl _)
@[simp] theorem agg_st (fs : List (Nat × Nat × EqT)) (n : Nat) : EqT.agg (.st fs) n = some n := (Eq.refl _).trans (Eq.refl _)
@[simp] theorem eqA_i (k : IntKind) (a b : Int) : eqA .i (.int k a) (.int k b) = some (decide (a = b)) := by simp [eqA, beqD]
@[simp] theorem eqA_b (a b : Bool) : eqA .b (.bool a) (.bool b) = some (a == b) := by simp [eqA]
@[simp] theorem eqA_s (a b : List UInt8) : eqA .s (.str a) (.str b) = some (decide (a = b)) := by simp [eqA, beqD]
section
variable (k : IntKind) (a b : Int)
@[simp] theorem bin_add : binA .add (.int k a) (.int k b) = some (.int k (k.wrap (a + b))) := by simp [binA, binI]
@[simp] theorem bin_sub : binA .sub (.int k a) (.int k b) = some (.int k (k.wrap (a - b))) := by simp [binA, binI]
@[simp] theorem bin_mul : binA .mul (.int k a) (.int k b) = some (.int k (k.wrap (a * b))) := by simp [binA, binI]
@[simp] theorem bin_quo : binA .quo (.int k a) (.int k b) = if b = 0 then none else some (.int k (k.wrap (a.tdiv b))) := by simp [binA, binI]
@[simp] theorem bin_rem : binA .rem (.int k a) (.int k b) = if b = 0 then none else some (.int k (a.tmod b)) := by simp [binA, binI]
@[simp] theorem bin_eql : binA .eql (.int k a) (.int k b) = some (.bool (decide (a = b))) := by simp only [binA, binI, if_true, Option.some.injEq, AV.bool.injEq]; exact beqD a b
@[simp] theorem bin_neq : binA .neq (.int k a) (.int k b) = some (.bool (decide (a ≠ b))) := by simp only [binA, binI, if_true, Option.some.injEq, AV.bool.injEq]; simp [bne, beqD]
@[simp] theorem bin_lss : binA .lss (.int k a) (.int k b) = some (.bool (a < b)) := by simp [binA, binI]
@[simp] theorem bin_leq : binA .leq (.int k a) (.int k b) = some (.bool (a ≤ b)) := by simp [binA, binI]
@[simp] theorem bin_gtr : binA .gtr (.int k a) (.int k b) = some (.bool (a > b)) := by simp [binA, binI]
@[simp] theorem bin_geq : binA .geq (.int k a) (.int k b) = some (.bool (a ≥ b)) := by simp [binA, binI]
@[simp] theorem bin_and : binA .and (.int k a) (.int k b) = some (.int k (k.wrap (BitVec.ofInt k.bits a &&& BitVec.ofInt k.bits b).toNat)) := by simp [binA, binI]
@[simp] theorem bin_or : binA .or (.int k a) (.int k b) = some (.int k (k.wrap (BitVec.ofInt k.bits a ||| BitVec.ofInt k.bits b).toNat)) := by simp [binA, binI]
@[simp] theorem bin_xor : binA .xor (.int k a) (.int k b) = some (.int k (k.wrap (BitVec.ofInt k.bits a ^^^ BitVec.ofInt k.bits b).toNat)) := by simp [binA, binI]
@[simp] theorem bin_shl (l : IntKind) : binA .shl (.int k a) (.int l b) = if b < 0 then none else some (.int k (k.wrap (a * 2 ^ (min b.toNat k.bits)))) := (Eq.refl _).trans (Eq.refl _)
@[simp] theorem bin_shr (l : IntKind) : binA .shr (.int k a) (.int l b) = if b < 0 then none else some (.int k (a.fdiv (2 ^ (min b.toNat k.bits)))) := (Eq.refl _).trans (Eq.refl _)
theorem stepMax_int (l : IntKind) : stepMax (some (.int k a)) (.int l b) = some (.int k (max a b)) := by
  simp only [stepMax]
  by_cases h : b > a
  · rw [if_pos h]; congr 2; omega
  · rw [if_neg h]; congr 2; omega
theorem stepMin_int (l : IntKind) : stepMin (some (.int k a)) (.int l b) = some (.int k (min a b)) := by
  simp only [stepMin]
  by_cases h : b < a
  · rw [if_pos h]; congr 2; omega
  · rw [if_neg h]; congr 2; omega
@[simp] theorem mxi_two (l : IntKind) : mxiA [.int k a, .int l b] = some (.int k (max a b)) := stepMax_int k a b l
@[simp] theorem mni_two (l : IntKind) : mniA [.int k a, .int l b] = some (.int k (min a b)) := stepMin_int k a b l
end
@[simp] theorem one_int (k : IntKind) (n : Int) : AV.one (.int k n) = true := (Eq.refl _).trans (Eq.refl _)
@[simp] theorem one_bool (b : Bool) : AV.one (.bool b) = true := (Eq.refl _).trans (Eq.refl _)
@[simp] theorem one_str (s : List UInt8) : AV.one (.str s) = true := (Eq.refl _).trans (Eq.refl _)
@[simp] theorem one_sl (r o n : Nat) (c : ACap) : AV.one (.sl r o n c) = true := (Eq.refl _).trans (Eq.refl _)
@[simp] theorem one_ptr (r o : Nat) : AV.one (.ptr r o) = true := (Eq.refl _).trans (Eq.refl _)
@[simp] theorem one_nils : AV.one .nils = true := (Eq.refl _).trans (Eq.refl _)
@[simp] theorem one_nilp : AV.one .nilp = true := (Eq.refl _).trans (Eq.refl _)
@[simp] theorem one_fn (f : Nat) (a b : List AV) : AV.one (.fn f a b) = true := (Eq.refl _).trans (Eq.refl _)
@[simp] theorem one_ifc (t : Nat) (v : AV) : AV.one (.ifc t v) = true := (Eq.refl _).trans (Eq.refl _)
@[simp] theorem one_nilifc : AV.one .nilifc = true := (Eq.refl _).trans (Eq.refl _)
@[simp] theorem cells_agg (l : List AV) : AV.cells (.agg l) = l := (Eq.refl _).trans (Eq.refl _)
@[simp] theorem cells_int (k : IntKind) (n : Int) : AV.cells (.int k n) = [.int k n] := (Eq.refl _).trans (Eq.refl _)
@[simp] theorem cells_bool (b : Bool) : AV.cells (.bool b) = [.bool b] := (Eq.refl _).trans (Eq.refl _)
@[simp] theorem cells_str (s : List UInt8) : AV.cells (.str s) = [.str s] := (Eq.refl _).trans (Eq.refl _)
@[simp] theorem cells_sl (r o n : Nat) (c : ACap) : AV.cells (.sl r o n c) = [.sl r o n c] := (Eq.refl _).trans (Eq.refl _)
@[simp] theorem cells_ptr (r o : Nat) : AV.cells (.ptr r o) = [.ptr r o] := (Eq.refl _).trans (Eq.refl _)
@[simp] theorem cells_nils : AV.cells .nils = [.nils] := (Eq.refl _).trans (Eq.refl _)
@[simp] theorem cells_nilp : AV.cells .nilp = [.nilp] := (Eq.refl _).trans (Eq.refl _)
@[simp] theorem cells_fn (f : Nat) (a b : List AV) : AV.cells (.fn f a b) = [.fn f a b] := (Eq.refl _).trans (Eq.refl _)
@[simp] theorem cells_ifc (t : Nat) (v : AV) : AV.cells (.ifc t v) = [.ifc t v] := (Eq.refl _).trans (Eq.refl _)
@[simp] theorem raw_int (k : IntKind) (n : Int) : AV.isRaw (.int k n) = false := (Eq.refl _).trans (Eq.refl _)
@[simp] theorem raw_bool (b : Bool) : AV.isRaw (.bool b) = false := (Eq.refl _).trans (Eq.refl _)
@[simp] theorem raw_str (s : List UInt8) : AV.isRaw (.str s) = false := (Eq.refl _).trans (Eq.refl _)
@[simp] theorem raw_sl (r o n : Nat) (c : ACap) : AV.isRaw (.sl r o n c) = false := (Eq.refl _).trans (Eq.refl _)
@[simp] theorem raw_agg (l : List AV) : AV.isRaw (.agg l) = false := (Eq.refl _).trans (Eq.refl _)
@[simp] theorem raw_nils : AV.isRaw .nils = false := (Eq.refl _).trans (Eq.refl _)
@[simp] theorem raw_ptr (r o : Nat) : AV.isRaw (.ptr r o) = false := (Eq.refl _).trans (Eq.refl _)
@[simp] theorem fillA_nil (cs : List AV) : fillA cs [] = some cs := (Eq.refl _).trans (Eq.refl _)
@[simp] theorem fillA_cons (cs : List AV) (o s : Nat) (v : AV) (l : List (Nat × Nat × AV)) : fillA cs ((o, s, v) :: l) = if v.cells.length = s ∧ o + s ≤ cs.length ∧ v.isRaw = false then fillA (splice cs o v.cells) l else none := (Eq.refl _).trans (Eq.refl _)
@[simp] theorem splice_eq (cs : List AV) (o : Nat) (vs : List AV) : splice cs o vs = cs.take o ++ vs ++ cs.drop (o + vs.length) := (Eq.refl _).trans (Eq.refl _)
def objCell : Option AObj → Nat → Option AV
  | some (.cells _ _ cs), o => cs[o]?
  | _, _ => none
def objRow : Option AObj → Nat → Nat → Option (List AV)
  | some (.cells _ _ cs), o, n => if o + n ≤ cs.length then some ((cs.drop o).take n) else none
  | _, _, _ => none
def objWrite : Option AObj → Nat → List AV → Option AObj
  | some (.cells k z cs), o, vs => if k = .ro then none else if o + vs.length ≤ cs.length ∧ vs.all AV.one then some (.cells k z (splice cs o vs)) else none
  | _, _, _ => none
@[simp] theorem objCell_cells (k : Kd) (z : Nat) (cs : List AV) (o : Nat) : objCell (some (.cells k z cs)) o = cs[o]? := (Eq.refl _).trans (Eq.refl _)
@[simp] theorem objRow_cells (k : Kd) (z : Nat) (cs : List AV) (o n : Nat) : objRow (some (.cells k z cs)) o n = if o + n ≤ cs.length then some ((cs.drop o).take n) else none := (Eq.refl _).trans (Eq.refl _)
@[simp] theorem objWrite_cells (k : Kd) (z : Nat) (cs : List AV) (o : Nat) (vs : List AV) : objWrite (some (.cells k z cs)) o vs = if k = .ro then none else if o + vs.length ≤ cs.length ∧ vs.all AV.one then some (.cells k z (splice cs o vs)) else none := (Eq.refl _).trans (Eq.refl _)
@[simp] theorem cell_eq (H : AHeap) (r o : Nat) : H.cell r o = objCell (H.get r) o := by
  unfold AHeap.cell objCell
  cases H.get r with
  | none => rfl
  | some x => cases x <;> rfl
@[simp] theorem row_eq (H : AHeap) (r o n : Nat) : H.row r o n = objRow (H.get r) o n := by
  unfold AHeap.row objRow
  cases H.get r with
  | none => rfl
  | some x => cases x <;> rfl
@[simp] theorem write_eq (H : AHeap) (r o : Nat) (vs : List AV) : H.write r o vs = (objWrite (H.get r) o vs).map fun b => H.put r (some b) := by
  unfold AHeap.write objWrite
  cases H.get r with
  | none => rfl
  | some x =>
    cases x with
    | iter s p => rfl
    | mapo es => rfl
    | cells k z cs =>
      simp only []
      split
      · rfl
      · split <;> rfl
@[simp] theorem newcA_eq (H : AHeap) (cs : List AV) : newcA H cs = if cs.all AV.one then some (.ptr H.size 0, H.push (some (.cells .exact cs.length cs))) else none := (Eq.refl _).trans (Eq.refl _)
@[simp] theorem stA_ptr (H : AHeap) (n r o : Nat) (v : AV) : stA H n (.ptr r o) v = if v.cells.length = n then (H.write r o v.cells).map fun H' => (undefA, H') else none := (Eq.refl _).trans (Eq.refl _)
@[simp] theorem bslA_eq (H : AHeap) (esz : Nat) (z : List AV) (n : Nat) (ps : List (Nat × Nat × AV)) : bslA H esz z n ps = if esz = 0 ∨ z.length ≠ esz ∨ 16777216 < n * esz then none else
    match fillA (repl n z) ps with
    | some cs => if cs.all AV.one then some (.sl H.size 0 n (.ex n), H.push (some (.cells .exact esz cs))) else none
    | none => none := (Eq.refl _).trans (Eq.refl _)
@[simp] theorem mksA_int (H : AHeap) (esz bytes : Nat) (z : List AV) (k k' : IntKind) (l c : Int) : mksA H esz bytes z (.int k l) (.int k' c) = if 0 ≤ l ∧ l ≤ c ∧ c.toNat * bytes ≤ maxBytes ∧ c ≤ 70368744177664 ∧ esz ≠ 0 ∧ z.length = esz ∧ z.all AV.one then
      some (.sl H.size 0 l.toNat (.ex c.toNat), H.push (some (.cells .exact esz (repl c.toNat z)))) else none := (Eq.refl _).trans (Eq.refl _)
@[simp] theorem repl_zero (z : List AV) : repl 0 z = [] := (Eq.refl _).trans (Eq.refl _)
@[simp] theorem repl_succ (n : Nat) (z : List AV) : repl (n + 1) z = z ++ repl n z := (Eq.refl _).trans (Eq.refl _)
@[simp] theorem stfA_sl (H : AHeap) (r o n : Nat) (c : ACap) : stfA H (.sl r o n c) = match H.get r with
    | some (.cells k z cs) => if k = .ro then none else some (.sl r o n c, H.put r (some (.cells .stiff z cs)))
    | _ => none := (Eq.refl _).trans (Eq.refl _)
@[simp] theorem slaA_ptr (n z r o : Nat) (lo hi : Option AV) : slaA n z (.ptr r o) lo hi = match bndo hi n n with
    | none => none
    | some h => match bndo lo 0 h with
      | none => none
      | some l => some (.sl r (if n = l then o else o + l * z) (h - l) (.ex (n - l))) := (Eq.refl _).trans (Eq.refl _)
@[simp] theorem bndo_none (d t : Nat) : bndo none d t = some d := (Eq.refl _).trans (Eq.refl _)
@[simp] theorem bndo_int (d t : Nat) (k : IntKind) (i : Int) : bndo (some (.int k i)) d t = if 0 ≤ i ∧ i ≤ t then some i.toNat else none := (Eq.refl _).trans (Eq.refl _)
@[simp] theorem appS_eq (H : AHeap) (esz bytes : Nat) (z : List AV) (s x : AV) : appS H esz bytes z s x = if z.length = esz then appA H esz bytes s x else none := (Eq.refl _).trans (Eq.refl _)
@[simp] theorem get_push_same (H : AHeap) (o : Option AObj) : (H.push o).get H.size = o := by rw [AHeap.get_push, if_pos rfl]
theorem get_push_ne {H : AHeap} {o : Option AObj} {m : Nat} (h : m ≠ H.size) : (H.push o).get m = H.get m := by rw [AHeap.get_push, if_neg h]
@[simp] theorem get_put_same (H : AHeap) (r : Nat) (o : Option AObj) : (H.put r o).get r = o := by rw [AHeap.get_put, if_pos rfl]
theorem get_put_ne {H : AHeap} {r : Nat} {o : Option AObj} {m : Nat} (h : m ≠ r) : (H.put r o).get m = H.get m := by rw [AHeap.get_put, if_neg h]
@[simp] theorem nadd2 (n : Nat) : (n = n + 1 + 1) ↔ False := iff_of_false (Nat.ne_of_lt (by omega)) id
@[simp] theorem naddr2 (n : Nat) : (n + 1 + 1 = n) ↔ False := iff_of_false (Nat.ne_of_gt (by omega)) id
@[simp] theorem nadd3 (n : Nat) : (n = n + 1 + 1 + 1) ↔ False := iff_of_false (Nat.ne_of_lt (by omega)) id
@[simp] theorem naddr3 (n : Nat) : (n + 1 + 1 + 1 = n) ↔ False := iff_of_false (Nat.ne_of_gt (by omega)) id
@[simp] theorem nadd4 (n : Nat) : (n = n + 1 + 1 + 1 + 1) ↔ False := iff_of_false (Nat.ne_of_lt (by omega)) id
@[simp] theorem naddr4 (n : Nat) : (n + 1 + 1 + 1 + 1 = n) ↔ False := iff_of_false (Nat.ne_of_gt (by omega)) id
@[simp] theorem nadd5 (n : Nat) : (n = n + 1 + 1 + 1 + 1 + 1) ↔ False := iff_of_false (Nat.ne_of_lt (by omega)) id
@[simp] theorem naddr5 (n : Nat) : (n + 1 + 1 + 1 + 1 + 1 = n) ↔ False := iff_of_false (Nat.ne_of_gt (by omega)) id
@[simp] theorem nadd6 (n : Nat) : (n = n + 1 + 1 + 1 + 1 + 1 + 1) ↔ False := iff_of_false (Nat.ne_of_lt (by omega)) id
@[simp] theorem naddr6 (n : Nat) : (n + 1 + 1 + 1 + 1 + 1 + 1 = n) ↔ False := iff_of_false (Nat.ne_of_gt (by omega)) id
@[simp] theorem nadd7 (n : Nat) : (n = n + 1 + 1 + 1 + 1 + 1 + 1 + 1) ↔ False := iff_of_false (Nat.ne_of_lt (by omega)) id
@[simp] theorem naddr7 (n : Nat) : (n + 1 + 1 + 1 + 1 + 1 + 1 + 1 = n) ↔ False := iff_of_false (Nat.ne_of_gt (by omega)) id
@[simp] theorem nadd8 (n : Nat) : (n = n + 1 + 1 + 1 + 1 + 1 + 1 + 1 + 1) ↔ False := iff_of_false (Nat.ne_of_lt (by omega)) id
@[simp] theorem naddr8 (n : Nat) : (n + 1 + 1 + 1 + 1 + 1 + 1 + 1 + 1 = n) ↔ False := iff_of_false (Nat.ne_of_gt (by omega)) id
@[simp] theorem nadd9 (n : Nat) : (n = n + 1 + 1 + 1 + 1 + 1 + 1 + 1 + 1 + 1) ↔ False := iff_of_false (Nat.ne_of_lt (by omega)) id
@[simp] theorem naddr9 (n : Nat) : (n + 1 + 1 + 1 + 1 + 1 + 1 + 1 + 1 + 1 = n) ↔ False := iff_of_false (Nat.ne_of_gt (by omega)) id
attribute [simp] AHeap.get_push AHeap.get_put
@[simp] theorem ckP_q (H H' : AHeap) (f : AHeap → Option AV) (v : AV) : ckP H H' (.q f v) = match f H' with
    | some v' => beqA v v'
    | none => false := (Eq.refl _).trans (Eq.refl _)
@[simp] theorem ckP_none (H H' : AHeap) : ckP H H' .none = true := (Eq.refl _).trans (Eq.refl _)
@[simp] theorem beqA_same (v : AV) : beqA v v = true := beqA_refl v
@[simp] theorem callA_fn (call : CallF) (f : Nat) (fs cs args : List AV) (H : AHeap) : callA call (.fn f fs cs) args H = call f (fs ++ args ++ cs) H := (Eq.refl _).trans (Eq.refl _)
@[simp] theorem invA_ifc (call : CallF) (tab : List (Nat × Nat)) (t : Nat) (v : AV) (args : List AV) (H : AHeap) : invA call tab (.ifc t v) args H = match tab.lookup t with
    | some f => call f (v :: args) H
    | none => none := (Eq.refl _).trans (Eq.refl _)
@[simp] theorem tasP_ifc (t : Nat) (z : AV) (ok : Bool) (t' : Nat) (v : AV) : tasP t z ok (.ifc t' v) = if t' = t then some (if ok then .tup [v, .bool true] else v) else if ok then some (.tup [z, .bool false]) else none := (Eq.refl _).trans (Eq.refl _)
@[simp] theorem tasP_nil (t : Nat) (z : AV) (ok : Bool) : tasP t z ok .nilifc = if ok then some (.tup [z, .bool false]) else none := (Eq.refl _).trans (Eq.refl _)
@[simp] theorem renV_int (f : Nat → Option Nat) (k : IntKind) (n : Int) : renV f (.int k n) = some (.int k n) := by simp only [renV]
@[simp] theorem renV_bool (f : Nat → Option Nat) (b : Bool) : renV f (.bool b) = some (.bool b) := by simp only [renV]
@[simp] theorem renV_str (f : Nat → Option Nat) (b : List UInt8) : renV f (.str b) = some (.str b) := by simp only [renV]
@[simp] theorem renV_nils (f : Nat → Option Nat) : renV f .nils = some .nils := by simp only [renV]
@[simp] theorem renV_sl (f : Nat → Option Nat) (r o n : Nat) (c : ACap) : renV f (.sl r o n c) = (f r).map fun r => .sl r o n c := by simp only [renV]
@[simp] theorem renV_agg (f : Nat → Option Nat) (l : List AV) : renV f (.agg l) = (renL f l).map .agg := by simp only [renV]
@[simp] theorem renV_tup (f : Nat → Option Nat) (l : List AV) : renV f (.tup l) = (renL f l).map .tup := by simp only [renV]
@[simp] theorem renL_nil (f : Nat → Option Nat) : renL f [] = some [] := by simp only [renL]
@[simp] theorem renL_cons (f : Nat → Option Nat) (v : AV) (l : List AV) : renL f (v :: l) = (renV f v).bind fun v => (renL f l).map fun l => v :: l := by
  simp only [renL]
  cases renV f v <;> cases renL f l <;> rfl
theorem wrap_i64 {n : Int} (h1 : -9223372036854775808 ≤ n) (h2 : n ≤ 9223372036854775807) : IntKind.i64.wrap n = n := IntWalk.i64_in n ⟨h1, h2⟩
end Go.Ab
