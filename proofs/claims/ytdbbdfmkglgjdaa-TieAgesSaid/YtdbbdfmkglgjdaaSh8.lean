/- What operations come to at plain values: rules for simp. -/
import Derived.Test.YtdbbdfmkglgjdaaSh7
import Derived.IntWalk
set_option linter.unusedVariables false
set_option linter.unusedSimpArgs false
set_option linter.unusedSectionVars false
namespace Go.Ab
theorem z7X {α : Type} [BEq α] [LawfulBEq α] [DecidableEq α] (a b : α) : (a == b) = decide (a = b) := by by_cases h : a = b <;> simp [h]
section
variable {β : Type}
@[simp] theorem zdU (v : AV) (k : AV → Option β) : bnP (some v) k = k v := (Eq.refl _).trans (Eq.refl _)
@[simp] theorem zdV (k : AV → Option β) : bnP none k = none := (Eq.refl _).trans (Eq.refl _)
@[simp] theorem zdW (v : AV) (H : z3) (k : AV → z3 → Option β) : bnS (some (v, H)) k = k v H := (Eq.refl _).trans (Eq.refl _)
@[simp] theorem zdX (k : AV → z3 → Option β) : bnS none k = none := (Eq.refl _).trans (Eq.refl _)
@[simp] theorem zdY (ex : zy) (τ : Tau) (H : z3) (k : zy → Tau → z3 → Option β) : bnE (some (ex, τ, H)) k = k ex τ H := (Eq.refl _).trans (Eq.refl _)
@[simp] theorem zdZ (k : zy → Tau → z3 → Option β) : bnE none k = none := (Eq.refl _).trans (Eq.refl _)
@[simp] theorem ze0 (v : AV) (o : zB) (k : AV → zB → Option β) : bnO (some (v, o)) k = k v o := (Eq.refl _).trans (Eq.refl _)
@[simp] theorem zcD (o : Option β) : pinB true o = o := (Eq.refl _).trans (Eq.refl _)
@[simp] theorem zc7 (o : Option β) : pinB false o = none := (Eq.refl _).trans (Eq.refl _)
@[simp] theorem ze1 (o : Option AV) : gdP true o = o := (Eq.refl _).trans (Eq.refl _)
@[simp] theorem zcE (o : Option AV) : gdP false o = some z4 := (Eq.refl _).trans (Eq.refl _)
@[simp] theorem ze2 (o : Option (AV × z3)) (H : z3) : gdS true o H = o := (Eq.refl _).trans (Eq.refl _)
@[simp] theorem zcF (o : Option (AV × z3)) (H : z3) : gdS false o H = some (z4, H) := (Eq.refl _).trans (Eq.refl _)
@[simp] theorem ze3 (b w : Bool) : wnt (.bool b) w = (b == w) := (Eq.refl _).trans (Eq.refl _)
@[simp] theorem zcG (w : Bool) : wnt z4 w = false := (Eq.refl _).trans (Eq.refl _)
@[simp] theorem zcH (b : Bool) (x y : Unit → Option β) : zF (.bool b) x y = if b = true then x () else y () := by cases b <;> rfl
@[simp] theorem zaX (k1 : Tau → z3 → Option β) (k : zy → Tau → z3 → Option β) (τ : Tau) (H : z3) : z0D k1 k .normal τ H = k1 τ H := (Eq.refl _).trans (Eq.refl _)
@[simp] theorem zcI (k1 : Tau → z3 → Option β) (k : zy → Tau → z3 → Option β) (i : Nat) (τ : Tau) (H : z3) : z0D k1 k (.exit i) τ H = k (.exit i) τ H := (Eq.refl _).trans (Eq.refl _)
@[simp] theorem ze4 (k1 : Tau → z3 → Option β) (k : zy → Tau → z3 → Option β) (τ : Tau) (H : z3) : z0D k1 k .ret τ H = k .ret τ H := (Eq.refl _).trans (Eq.refl _)
@[simp] theorem zaY (i : Nat) (k : zy → Tau → z3 → Option β) (τ : Tau) (H : z3) : z5p i k .normal τ H = k .normal τ H := (Eq.refl _).trans (Eq.refl _)
@[simp] theorem zcJ (i j : Nat) (k : zy → Tau → z3 → Option β) (τ : Tau) (H : z3) : z5p i k (.exit j) τ H = k (if j = i then .normal else .exit j) τ H := (Eq.refl _).trans (Eq.refl _)
@[simp] theorem ze5 (i : Nat) (k : zy → Tau → z3 → Option β) (τ : Tau) (H : z3) : z5p i k .ret τ H = k .ret τ H := (Eq.refl _).trans (Eq.refl _)
@[simp] theorem zf5 (ex : zy) (τ : Tau) (H : z3) : z3P ex τ H = some (ex, τ, H) := (Eq.refl _).trans (Eq.refl _)
@[simp] theorem ze6 (res : List vE) (τ : Tau) (H : z3) : z5r res .ret τ H = (zX τ H res).map fun v => (v, H) := (Eq.refl _).trans (Eq.refl _)
@[simp] theorem zaZ (res : List vE) (τ : Tau) (H : z3) : z5r res .normal τ H = (zX τ H res).map fun v => (v, H) := (Eq.refl _).trans (Eq.refl _)
@[simp] theorem ze7 (H : z3) (v : AV) : lft H (some v) = some (v, H) := (Eq.refl _).trans (Eq.refl _)
@[congr] theorem zcK {o o' : Option AV} {k : AV → Option β} (h : o = o') : bnP o k = bnP o' k := by rw [h]
@[congr] theorem zcL {o o' : Option (AV × z3)} {k : AV → z3 → Option β} (h : o = o') : bnS o k = bnS o' k := by rw [h]
@[congr] theorem zcM {o o' : Option (zy × Tau × z3)} {k : zy → Tau → z3 → Option β} (h : o = o') : bnE o k = bnE o' k := by rw [h]
@[congr] theorem zcN {o o' : Option (AV × zB)} {k : AV → zB → Option β} (h : o = o') : bnO o k = bnO o' k := by rw [h]
@[congr] theorem zc8 {b b' : Bool} {k : Option β} (h : b = b') : pinB b k = pinB b' k := by rw [h]
@[congr] theorem zc9 {v v' : AV} {x y : Unit → Option β} (h : v = v') : zF v x y = zF v' x y := by rw [h]
@[congr] theorem zcO {w w' : Bool} {o : Option AV} (h : w = w') : gdP w o = gdP w' o := by rw [h]
@[congr] theorem zcP {w w' : Bool} {o : Option (AV × z3)} {H : z3} (h : w = w') : gdS w o H = gdS w' o H := by rw [h]
end
@[simp] theorem zb0 (τ : Tau) (H : z3) (r : vE) : zX τ H [r] = qW τ H r := by
 unfold zX zK
 cases qW τ H r <;> rfl
@[simp] theorem zb1 (τ : Tau) (H : z3) (r s : vE) : zX τ H [r, s] = (qW τ H r).bind fun x => (qW τ H s).map fun y => .tup [x, y] := by
 simp only [zX, zK]
 cases qW τ H r <;> cases qW τ H s <;> rfl
@[simp] theorem z9Y (τ : Tau) (H : z3) (r s t : vE) : zX τ H [r, s, t] = (qW τ H r).bind fun x => (qW τ H s).bind fun y => (qW τ H t).map fun z => .tup [x, y, z] := by
 simp only [zX, zK]
 cases qW τ H r <;> cases qW τ H s <;> cases qW τ H t <;> rfl
@[simp] theorem ze8 (τ : Tau) (H : z3) (t : Nat) : qW τ H (.tmp t) = τ[t]? := (Eq.refl _).trans (Eq.refl _)
@[simp] theorem zcQ (τ : Tau) (H : z3) (t : Nat) (n : Option Nat) : qW τ H (.cell t n) = (τ[t]?).bind fun a => match n with
  | none => ldA H a
  | some n => z5h H n a := by
 simp only [qW]
 cases τ[t]? with
 | none => rfl
 | some a => cases a <;> cases n <;> rfl
@[simp] theorem zca (b : Bool) (x y : AV) : y6 (.bool b) x y = some (if b = true then x else y) := by cases b <;> rfl
@[simp] theorem zf6 (H : z3) (r o : Nat) : ldA H (.ptr r o) = H.cell r o := (Eq.refl _).trans (Eq.refl _)
@[simp] theorem ze9 (H : z3) (n r o : Nat) : z5h H n (.ptr r o) = (H.row r o n).map .agg := (Eq.refl _).trans (Eq.refl _)
@[simp] theorem zea (r o : Nat) : vi (.ptr r o) = some (.ptr r o) := (Eq.refl _).trans (Eq.refl _)
@[simp] theorem zeb (n r o : Nat) : kO n (.ptr r o) = some (.ptr r (o + n)) := (Eq.refl _).trans (Eq.refl _)
@[simp] theorem zf7 (r o n : Nat) (c : kj) : z1y (.sl r o n c) = some (.int .i64 n) := (Eq.refl _).trans (Eq.refl _)
@[simp] theorem zf8 (r o k d : Nat) : z1y (.zs r o k d) = some (.int .i64 0) := (Eq.refl _).trans (Eq.refl _)
@[simp] theorem zcR : z1y .nils = some (.int .i64 0) := (Eq.refl _).trans (Eq.refl _)
@[simp] theorem zcS (s : List UInt8) : z1x (.str s) = some (.int .i64 s.length) := (Eq.refl _).trans (Eq.refl _)
@[simp] theorem zaN (z r o n : Nat) (c : kj) (k : IntKind) (i : Int) : z5j z (.sl r o n c) (.int k i) = if 0 ≤ i ∧ i < n then some (.ptr r (o + i.toNat * z)) else none := (Eq.refl _).trans (Eq.refl _)
@[simp] theorem zec (n z r o : Nat) (k : IntKind) (i : Int) : z3N n z (.ptr r o) (.int k i) = if 0 ≤ i ∧ i < n then some (.ptr r (o + i.toNat * z)) else none := (Eq.refl _).trans (Eq.refl _)
@[simp] theorem zed (k l : IntKind) (n : Int) : z3M k (.int l n) = some (.int k (k.wrap n)) := (Eq.refl _).trans (Eq.refl _)
@[simp] theorem zee (l : List AV) (i : Nat) : jt (.tup l) i = l[i]? := (Eq.refl _).trans (Eq.refl _)
@[simp] theorem zef (o : Nat) (n : Option Nat) (l : List AV) : z5i o n (.agg l) = jZ l o n := (Eq.refl _).trans (Eq.refl _)
@[simp] theorem zcb (l : List AV) (o : Nat) : jZ l o none = l[o]? := (Eq.refl _).trans (Eq.refl _)
@[simp] theorem zcc (l : List AV) (o n : Nat) : jZ l o (some n) = if o + n ≤ l.length then some (.agg ((l.drop o).take n)) else none := (Eq.refl _).trans (Eq.refl _)
@[simp] theorem zf9 (b : Bool) : unA .not (.bool b) = some (.bool !b) := (Eq.refl _).trans (Eq.refl _)
@[simp] theorem zfa (k : IntKind) (n : Int) : unA .neg (.int k n) = some (.int k (k.wrap (0 - n))) := (Eq.refl _).trans (Eq.refl _)
@[simp] theorem zcT (neg : Bool) (r o n : Nat) (c : kj) : z1w neg 0 (.sl r o n c) = some (.bool (false != neg)) := (Eq.refl _).trans (Eq.refl _)
@[simp] theorem zcU (neg : Bool) : z1w neg 0 .nils = some (.bool (true != neg)) := (Eq.refl _).trans (Eq.refl _)
@[simp] theorem zb2 (neg : Bool) : z1w neg 1 .nilifc = some (.bool (true != neg)) := (Eq.refl _).trans (Eq.refl _)
@[simp] theorem zeg (neg : Bool) (t : Nat) (v : AV) : z1w neg 1 (.ifc t v) = some (.bool (false != neg)) := (Eq.refl _).trans (Eq.refl _)
@[simp] theorem zcV (neg : Bool) : z1w neg 2 .nilp = some (.bool (true != neg)) := (Eq.refl _).trans (Eq.refl _)
@[simp] theorem zeh (neg : Bool) (r o : Nat) : z1w neg 2 (.ptr r o) = some (.bool (false != neg)) := (Eq.refl _).trans (Eq.refl _)
@[simp] theorem zgd (neg a b : Bool) : WQ neg .b (.bool a) (.bool b) = some (.bool ((a == b) != neg)) := (Eq.refl _).trans (Eq.refl _)
@[simp] theorem zge (neg : Bool) (k : IntKind) (a b : Int) : WQ neg .i (.int k a) (.int k b) = some (.bool (decide (a = b) != neg)) := by
 simp [WQ, eqA, z7X]
@[simp] theorem zgf (neg : Bool) (a b : List UInt8) : WQ neg .s (.str a) (.str b) = some (.bool (decide (a = b) != neg)) := by simp [WQ, eqA, z7X]
@[simp] theorem zfb (neg : Bool) (fs : List (Nat × Nat × EqT)) (a b : List AV) : WQ neg (.st fs) (.agg a) (.agg b) = (eqF fs a b).map fun b => .bool (b != neg) := by
 simp only [WQ, eqA]
@[simp] theorem zfc (a b : List AV) : eqF [] a b = some true := by simp only [eqF]
@[simp] theorem zei (o n : Nat) (q : EqT) (l : List (Nat × Nat × EqT)) (xs ys : List AV) : eqF ((o, n, q) :: l) xs ys = match jZ xs o (q.agg n), jZ ys o (q.agg n) with
  | some a, some b => match eqA q a b with
   | some true => eqF l xs ys
   | some false => some false
   | none => none
  | _, _ => none := by
 conv => lhs; unfold eqF
 rfl
@[simp] theorem zgN (n : Nat) : EqT.agg .b n = none := (Eq.refl _).trans (Eq.refl _)
@[simp] theorem zgO (n : Nat) : EqT.agg .i n = none := (Eq.refl _).trans (Eq.refl _)
@[simp] theorem zgP (n : Nat) : EqT.agg .s n = none := (Eq.refl _).trans (Eq.refl _)
@[simp] theorem zgg (fs : List (Nat × Nat × EqT)) (n : Nat) : EqT.agg (.st fs) n = some n := (Eq.refl _).trans (Eq.refl _)
@[simp] theorem zgQ (k : IntKind) (a b : Int) : eqA .i (.int k a) (.int k b) = some (decide (a = b)) := by simp [eqA, z7X]
@[simp] theorem zgR (a b : Bool) : eqA .b (.bool a) (.bool b) = some (a == b) := by simp [eqA]
@[simp] theorem zgS (a b : List UInt8) : eqA .s (.str a) (.str b) = some (decide (a = b)) := by simp [eqA, z7X]
section
variable (k : IntKind) (a b : Int)
@[simp] theorem zfd : zc .add (.int k a) (.int k b) = some (.int k (k.wrap (a + b))) := by simp [zc, YE]
@[simp] theorem zfe : zc .sub (.int k a) (.int k b) = some (.int k (k.wrap (a - b))) := by simp [zc, YE]
@[simp] theorem zff : zc .mul (.int k a) (.int k b) = some (.int k (k.wrap (a * b))) := by simp [zc, YE]
@[simp] theorem zfg : zc .quo (.int k a) (.int k b) = if b = 0 then none else some (.int k (k.wrap (a.tdiv b))) := by simp [zc, YE]
@[simp] theorem zfh : zc .rem (.int k a) (.int k b) = if b = 0 then none else some (.int k (a.tmod b)) := by simp [zc, YE]
@[simp] theorem zfi : zc .eql (.int k a) (.int k b) = some (.bool (decide (a = b))) := by simp only [zc, YE, if_true, Option.some.injEq, AV.bool.injEq]; exact z7X a b
@[simp] theorem zfj : zc .neq (.int k a) (.int k b) = some (.bool (decide (a ≠ b))) := by simp only [zc, YE, if_true, Option.some.injEq, AV.bool.injEq]; simp [bne, z7X]
@[simp] theorem zfk : zc .lss (.int k a) (.int k b) = some (.bool (a < b)) := by simp [zc, YE]
@[simp] theorem zfl : zc .leq (.int k a) (.int k b) = some (.bool (a ≤ b)) := by simp [zc, YE]
@[simp] theorem zfm : zc .gtr (.int k a) (.int k b) = some (.bool (a > b)) := by simp [zc, YE]
@[simp] theorem zfn : zc .geq (.int k a) (.int k b) = some (.bool (a ≥ b)) := by simp [zc, YE]
@[simp] theorem zfo : zc .and (.int k a) (.int k b) = some (.int k (k.wrap (BitVec.ofInt k.bits a &&& BitVec.ofInt k.bits b).toNat)) := by simp [zc, YE]
@[simp] theorem zgh : zc .or (.int k a) (.int k b) = some (.int k (k.wrap (BitVec.ofInt k.bits a ||| BitVec.ofInt k.bits b).toNat)) := by simp [zc, YE]
@[simp] theorem zfp : zc .xor (.int k a) (.int k b) = some (.int k (k.wrap (BitVec.ofInt k.bits a ^^^ BitVec.ofInt k.bits b).toNat)) := by simp [zc, YE]
@[simp] theorem zfq (l : IntKind) : zc .shl (.int k a) (.int l b) = if b < 0 then none else some (.int k (k.wrap (a * 2 ^ (min b.toNat k.bits)))) := (Eq.refl _).trans (Eq.refl _)
@[simp] theorem zfr (l : IntKind) : zc .shr (.int k a) (.int l b) = if b < 0 then none else some (.int k (a.fdiv (2 ^ (min b.toNat k.bits)))) := (Eq.refl _).trans (Eq.refl _)
theorem z5z (l : IntKind) : kR (some (.int k a)) (.int l b) = some (.int k (max a b)) := by
 simp only [kR]
 by_cases h : b > a
 ·rw [if_pos h]; congr 2; omega
 ·rw [if_neg h]; congr 2; omega
theorem z5A (l : IntKind) : kS (some (.int k a)) (.int l b) = some (.int k (min a b)) := by
 simp only [kS]
 by_cases h : b < a
 ·rw [if_pos h]; congr 2; omega
 ·rw [if_neg h]; congr 2; omega
@[simp] theorem zfs (l : IntKind) : z7U [.int k a, .int l b] = some (.int k (max a b)) := z5z k a b l
@[simp] theorem zft (l : IntKind) : z7V [.int k a, .int l b] = some (.int k (min a b)) := z5A k a b l
end
@[simp] theorem zfu (k : IntKind) (n : Int) : AV.one (.int k n) = true := (Eq.refl _).trans (Eq.refl _)
@[simp] theorem zej (b : Bool) : AV.one (.bool b) = true := (Eq.refl _).trans (Eq.refl _)
@[simp] theorem zfv (s : List UInt8) : AV.one (.str s) = true := (Eq.refl _).trans (Eq.refl _)
@[simp] theorem zgi (r o n : Nat) (c : kj) : AV.one (.sl r o n c) = true := (Eq.refl _).trans (Eq.refl _)
@[simp] theorem zfw (r o : Nat) : AV.one (.ptr r o) = true := (Eq.refl _).trans (Eq.refl _)
@[simp] theorem zek : AV.one .nils = true := (Eq.refl _).trans (Eq.refl _)
@[simp] theorem zel : AV.one .nilp = true := (Eq.refl _).trans (Eq.refl _)
@[simp] theorem zgj (f : Nat) (a b : List AV) : AV.one (.fn f a b) = true := (Eq.refl _).trans (Eq.refl _)
@[simp] theorem zfx (t : Nat) (v : AV) : AV.one (.ifc t v) = true := (Eq.refl _).trans (Eq.refl _)
@[simp] theorem zcd : AV.one .nilifc = true := (Eq.refl _).trans (Eq.refl _)
@[simp] theorem z2M (l : List AV) : AV.cells (.agg l) = l := (Eq.refl _).trans (Eq.refl _)
@[simp] theorem zcW (k : IntKind) (n : Int) : AV.cells (.int k n) = [.int k n] := (Eq.refl _).trans (Eq.refl _)
@[simp] theorem zce (b : Bool) : AV.cells (.bool b) = [.bool b] := (Eq.refl _).trans (Eq.refl _)
@[simp] theorem zcX (s : List UInt8) : AV.cells (.str s) = [.str s] := (Eq.refl _).trans (Eq.refl _)
@[simp] theorem zem (r o n : Nat) (c : kj) : AV.cells (.sl r o n c) = [.sl r o n c] := (Eq.refl _).trans (Eq.refl _)
@[simp] theorem zcY (r o : Nat) : AV.cells (.ptr r o) = [.ptr r o] := (Eq.refl _).trans (Eq.refl _)
@[simp] theorem zcf : AV.cells .nils = [.nils] := (Eq.refl _).trans (Eq.refl _)
@[simp] theorem zcg : AV.cells .nilp = [.nilp] := (Eq.refl _).trans (Eq.refl _)
@[simp] theorem zen (f : Nat) (a b : List AV) : AV.cells (.fn f a b) = [.fn f a b] := (Eq.refl _).trans (Eq.refl _)
@[simp] theorem zcZ (t : Nat) (v : AV) : AV.cells (.ifc t v) = [.ifc t v] := (Eq.refl _).trans (Eq.refl _)
@[simp] theorem zfy (k : IntKind) (n : Int) : AV.isRaw (.int k n) = false := (Eq.refl _).trans (Eq.refl _)
@[simp] theorem zeo (b : Bool) : AV.isRaw (.bool b) = false := (Eq.refl _).trans (Eq.refl _)
@[simp] theorem zfz (s : List UInt8) : AV.isRaw (.str s) = false := (Eq.refl _).trans (Eq.refl _)
@[simp] theorem zgk (r o n : Nat) (c : kj) : AV.isRaw (.sl r o n c) = false := (Eq.refl _).trans (Eq.refl _)
@[simp] theorem zfA (l : List AV) : AV.isRaw (.agg l) = false := (Eq.refl _).trans (Eq.refl _)
@[simp] theorem zep : AV.isRaw .nils = false := (Eq.refl _).trans (Eq.refl _)
@[simp] theorem zfB (r o : Nat) : AV.isRaw (.ptr r o) = false := (Eq.refl _).trans (Eq.refl _)
@[simp] theorem zd0 (cs : List AV) : xU cs [] = some cs := (Eq.refl _).trans (Eq.refl _)
@[simp] theorem zch (cs : List AV) (o s : Nat) (v : AV) (l : List (Nat × Nat × AV)) : xU cs ((o, s, v) :: l) = if v.cells.length = s ∧ o + s ≤ cs.length ∧ v.isRaw = false then xU (splice cs o v.cells) l else none := (Eq.refl _).trans (Eq.refl _)
@[simp] theorem zd1 (cs : List AV) (o : Nat) (vs : List AV) : splice cs o vs = cs.take o ++ vs ++ cs.drop (o + vs.length) := (Eq.refl _).trans (Eq.refl _)
def z3S : Option zB → Nat → Option AV
 | some (.cells _ _ cs), o => cs[o]?
 | _, _ => none
def WZ : Option zB → Nat → Nat → Option (List AV)
 | some (.cells _ _ cs), o, n => if o + n ≤ cs.length then some ((cs.drop o).take n) else none
 | _, _, _ => none
def Jl : Option zB → Nat → List AV → Option zB
 | some (.cells k z cs), o, vs => if k = .ro then none else if o + vs.length ≤ cs.length ∧ vs.all AV.one then some (.cells k z (splice cs o vs)) else none
 | _, _, _ => none
@[simp] theorem z9Z (k : Kd) (z : Nat) (cs : List AV) (o : Nat) : z3S (some (.cells k z cs)) o = cs[o]? := (Eq.refl _).trans (Eq.refl _)
@[simp] theorem jY (k : Kd) (z : Nat) (cs : List AV) (o n : Nat) : WZ (some (.cells k z cs)) o n = if o + n ≤ cs.length then some ((cs.drop o).take n) else none := (Eq.refl _).trans (Eq.refl _)
@[simp] theorem z9U (k : Kd) (z : Nat) (cs : List AV) (o : Nat) (vs : List AV) : Jl (some (.cells k z cs)) o vs = if k = .ro then none else if o + vs.length ≤ cs.length ∧ vs.all AV.one then some (.cells k z (splice cs o vs)) else none := (Eq.refl _).trans (Eq.refl _)
@[simp] theorem zfC (H : z3) (r o : Nat) : H.cell r o = z3S (H.get r) o := by
 unfold z3.cell z3S
 cases H.get r with
 | none => rfl
 | some x => cases x <;> rfl
@[simp] theorem q6 (H : z3) (r o n : Nat) : H.row r o n = WZ (H.get r) o n := by
 unfold z3.row WZ
 cases H.get r with
 | none => rfl
 | some x => cases x <;> rfl
@[simp] theorem zeq (H : z3) (r o : Nat) (vs : List AV) : H.write r o vs = (Jl (H.get r) o vs).map fun b => H.put r (some b) := by
 unfold z3.write Jl
 cases H.get r with
 | none => rfl
 | some x =>
  cases x with
  | iter s p => rfl
  | mapo es => rfl
  | cells k z cs =>
   simp only []
   split
   ·rfl
   ·split <;> rfl
@[simp] theorem zer (H : z3) (cs : List AV) : Jh H cs = if cs.all AV.one then some (.ptr H.size 0, H.push (some (.cells .exact cs.length cs))) else none := (Eq.refl _).trans (Eq.refl _)
@[simp] theorem zfD (H : z3) (n r o : Nat) (v : AV) : stA H n (.ptr r o) v = if v.cells.length = n then (H.write r o v.cells).map fun H' => (z4, H') else none := (Eq.refl _).trans (Eq.refl _)
@[simp] theorem zfE (H : z3) (esz : Nat) (z : List AV) (n : Nat) (ps : List (Nat × Nat × AV)) : zaG H esz z n ps = if esz = 0 ∨ z.length ≠ esz ∨ 16777216 < n * esz then none else
  match xU (yP n z) ps with
  | some cs => if cs.all AV.one then some (.sl H.size 0 n (.ex n), H.push (some (.cells .exact esz cs))) else none
  | none => none := (Eq.refl _).trans (Eq.refl _)
@[simp] theorem zes (H : z3) (esz bytes : Nat) (z : List AV) (k k' : IntKind) (l c : Int) : zaI H esz bytes z (.int k l) (.int k' c) = if 0 ≤ l ∧ l ≤ c ∧ c.toNat * bytes ≤ zj ∧ c ≤ 70368744177664 ∧ esz ≠ 0 ∧ z.length = esz ∧ z.all AV.one then
   some (.sl H.size 0 l.toNat (.ex c.toNat), H.push (some (.cells .exact esz (yP c.toNat z)))) else none := (Eq.refl _).trans (Eq.refl _)
@[simp] theorem zd2 (z : List AV) : yP 0 z = [] := (Eq.refl _).trans (Eq.refl _)
@[simp] theorem zd3 (n : Nat) (z : List AV) : yP (n + 1) z = z ++ yP n z := (Eq.refl _).trans (Eq.refl _)
@[simp] theorem zfF (H : z3) (r o n : Nat) (c : kj) : zc4 H (.sl r o n c) = match H.get r with
  | some (.cells k z cs) => if k = .ro then none else some (.sl r o n c, H.put r (some (.cells .stiff z cs)))
  | _ => none := (Eq.refl _).trans (Eq.refl _)
@[simp] theorem zet (n z r o : Nat) (lo hi : Option AV) : zc3 n z (.ptr r o) lo hi = match yf hi n n with
  | none => none
  | some h => match yf lo 0 h with
   | none => none
   | some l => some (.sl r (if n = l then o else o + l * z) (h - l) (.ex (n - l))) := (Eq.refl _).trans (Eq.refl _)
@[simp] theorem jj (d t : Nat) : yf none d t = some d := (Eq.refl _).trans (Eq.refl _)
@[simp] theorem Xu (d t : Nat) (k : IntKind) (i : Int) : yf (some (.int k i)) d t = if 0 ≤ i ∧ i ≤ t then some i.toNat else none := (Eq.refl _).trans (Eq.refl _)
@[simp] theorem zfG (H : z3) (esz bytes : Nat) (z : List AV) (s x : AV) : z5k H esz bytes z s x = if z.length = esz then XA H esz bytes s x else none := (Eq.refl _).trans (Eq.refl _)
@[simp] theorem YD (H : z3) (o : Option zB) : (H.push o).get H.size = o := by rw [z3.get_push, if_pos rfl]
theorem Yn {H : z3} {o : Option zB} {m : Nat} (h : m ≠ H.size) : (H.push o).get m = H.get m := by rw [z3.get_push, if_neg h]
@[simp] theorem vZ (H : z3) (r : Nat) (o : Option zB) : (H.put r o).get r = o := by rw [z3.get_put, if_pos rfl]
theorem vj {H : z3} {r : Nat} {o : Option zB} {m : Nat} (h : m ≠ r) : (H.put r o).get m = H.get m := by rw [z3.get_put, if_neg h]
@[simp] theorem zgT (n : Nat) : (n = n + 1 + 1) ↔ False := iff_of_false (Nat.ne_of_lt (by omega)) id
@[simp] theorem zgl (n : Nat) : (n + 1 + 1 = n) ↔ False := iff_of_false (Nat.ne_of_gt (by omega)) id
@[simp] theorem zgU (n : Nat) : (n = n + 1 + 1 + 1) ↔ False := iff_of_false (Nat.ne_of_lt (by omega)) id
@[simp] theorem zgm (n : Nat) : (n + 1 + 1 + 1 = n) ↔ False := iff_of_false (Nat.ne_of_gt (by omega)) id
@[simp] theorem zgV (n : Nat) : (n = n + 1 + 1 + 1 + 1) ↔ False := iff_of_false (Nat.ne_of_lt (by omega)) id
@[simp] theorem zgn (n : Nat) : (n + 1 + 1 + 1 + 1 = n) ↔ False := iff_of_false (Nat.ne_of_gt (by omega)) id
@[simp] theorem zgW (n : Nat) : (n = n + 1 + 1 + 1 + 1 + 1) ↔ False := iff_of_false (Nat.ne_of_lt (by omega)) id
@[simp] theorem zgo (n : Nat) : (n + 1 + 1 + 1 + 1 + 1 = n) ↔ False := iff_of_false (Nat.ne_of_gt (by omega)) id
@[simp] theorem zgX (n : Nat) : (n = n + 1 + 1 + 1 + 1 + 1 + 1) ↔ False := iff_of_false (Nat.ne_of_lt (by omega)) id
@[simp] theorem zgp (n : Nat) : (n + 1 + 1 + 1 + 1 + 1 + 1 = n) ↔ False := iff_of_false (Nat.ne_of_gt (by omega)) id
@[simp] theorem zgY (n : Nat) : (n = n + 1 + 1 + 1 + 1 + 1 + 1 + 1) ↔ False := iff_of_false (Nat.ne_of_lt (by omega)) id
@[simp] theorem zgq (n : Nat) : (n + 1 + 1 + 1 + 1 + 1 + 1 + 1 = n) ↔ False := iff_of_false (Nat.ne_of_gt (by omega)) id
@[simp] theorem zgZ (n : Nat) : (n = n + 1 + 1 + 1 + 1 + 1 + 1 + 1 + 1) ↔ False := iff_of_false (Nat.ne_of_lt (by omega)) id
@[simp] theorem zgr (n : Nat) : (n + 1 + 1 + 1 + 1 + 1 + 1 + 1 + 1 = n) ↔ False := iff_of_false (Nat.ne_of_gt (by omega)) id
@[simp] theorem zh0 (n : Nat) : (n = n + 1 + 1 + 1 + 1 + 1 + 1 + 1 + 1 + 1) ↔ False := iff_of_false (Nat.ne_of_lt (by omega)) id
@[simp] theorem zgs (n : Nat) : (n + 1 + 1 + 1 + 1 + 1 + 1 + 1 + 1 + 1 = n) ↔ False := iff_of_false (Nat.ne_of_gt (by omega)) id
attribute [simp] z3.get_push z3.get_put
@[simp] theorem zh1 (H H' : z3) (f : z3 → Option AV) (v : AV) : ckP H H' (.q f v) = match f H' with
  | some v' => qE v v'
  | none => false := (Eq.refl _).trans (Eq.refl _)
@[simp] theorem zeu (H H' : z3) : ckP H H' .none = true := (Eq.refl _).trans (Eq.refl _)
@[simp] theorem zd4 (v : AV) : qE v v = true := Jt v
@[simp] theorem zev (call : z6) (f : Nat) (fs cs args : List AV) (H : z3) : z9L call (.fn f fs cs) args H = call f (fs ++ args ++ cs) H := (Eq.refl _).trans (Eq.refl _)
@[simp] theorem zew (call : z6) (tab : List (Nat × Nat)) (t : Nat) (v : AV) (args : List AV) (H : z3) : z0C call tab (.ifc t v) args H = match tab.lookup t with
  | some f => call f (v :: args) H
  | none => none := (Eq.refl _).trans (Eq.refl _)
@[simp] theorem zex (t : Nat) (z : AV) (ok : Bool) (t' : Nat) (v : AV) : z21 t z ok (.ifc t' v) = if t' = t then some (if ok then .tup [v, .bool true] else v) else if ok then some (.tup [z, .bool false]) else none := (Eq.refl _).trans (Eq.refl _)
@[simp] theorem zey (t : Nat) (z : AV) (ok : Bool) : z21 t z ok .nilifc = if ok then some (.tup [z, .bool false]) else none := (Eq.refl _).trans (Eq.refl _)
@[simp] theorem zez (f : Nat → Option Nat) (k : IntKind) (n : Int) : jX f (.int k n) = some (.int k n) := by simp only [jX]
@[simp] theorem zd5 (f : Nat → Option Nat) (b : Bool) : jX f (.bool b) = some (.bool b) := by simp only [jX]
@[simp] theorem zeA (f : Nat → Option Nat) (b : List UInt8) : jX f (.str b) = some (.str b) := by simp only [jX]
@[simp] theorem zd6 (f : Nat → Option Nat) : jX f .nils = some .nils := by simp only [jX]
@[simp] theorem zfH (f : Nat → Option Nat) (r o n : Nat) (c : kj) : jX f (.sl r o n c) = (f r).map fun r => .sl r o n c := by simp only [jX]
@[simp] theorem zeB (f : Nat → Option Nat) (l : List AV) : jX f (.agg l) = (Y3 f l).map .agg := by simp only [jX]
@[simp] theorem zeC (f : Nat → Option Nat) (l : List AV) : jX f (.tup l) = (Y3 f l).map .tup := by simp only [jX]
@[simp] theorem zeD (f : Nat → Option Nat) : Y3 f [] = some [] := by simp only [Y3]
@[simp] theorem zd7 (f : Nat → Option Nat) (v : AV) (l : List AV) : Y3 f (v :: l) = (jX f v).bind fun v => (Y3 f l).map fun l => v :: l := by
 simp only [Y3]
 cases jX f v <;> cases Y3 f l <;> rfl
theorem Xv {n : Int} (h1 : -9223372036854775808 ≤ n) (h2 : n ≤ 9223372036854775807) : IntKind.i64.wrap n = n := IntWalk.i64_in n ⟨h1, h2⟩
end Go.Ab
