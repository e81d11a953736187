import Derived.Test.YtdbbdfmkglgjdaaSh5
set_option linter.unusedVariables false
set_option linter.unusedSimpArgs false
set_option linter.unusedSectionVars false
namespace Go.Ab
inductive TV where
  | v (a : AV)
  | lp (k o : Nat)
  | ls (k : Nat)
  | lq (k i o : Nat)
  | lb (k n : Nat)
  /-- What is behind element i of slot k's slice. -/
  | lv (k i : Nat)
  | fp (e : AV) (o : Nat)
  | gd (t : Nat) (w : Bool) (x : TV)
  deriving Inhabited
inductive Slot where
  | cells (cs : List AV)
  | own (z : Nat) (l : List AV)
  deriving Inhabited
def lkp {α : Type} : List (Nat × α) → Nat → Option α
  | [], _ => none
  | (a, x) :: l, k => match Nat.beq a k with
    | true => some x
    | false => lkp l k
def rmv {α : Type} : List (Nat × α) → Nat → List (Nat × α)
  | [], _ => []
  | (a, x) :: l, k => match Nat.beq a k with
    | true => rmv l k
    | false => (a, x) :: rmv l k
abbrev PT := List (Nat × TV)
abbrev PW := List (Nat × Slot)
mutual
/-- A constant: no names. -/
def cOk : AV → Bool
  | .bool _ | .int _ _ | .str _ | .nilp | .nils | .nilfn | .nilifc | .nilm => true
  | .fn _ a b => cOkL a && cOkL b
  | .ifc _ v => cOk v
  | .agg l => cOkL l
  | _ => false
def cOkL : List AV → Bool
  | [] => true
  | v :: l => cOk v && cOkL l
end

def TV.val : TV → AV
  | .v a => a
  | _ => undefA
def getT (τ : PT) (t : Nat) : TV := match lkp τ t with
  | some x => x
  | none => .v undefA
def resG (g : Option (Nat × Bool)) : TV → TV
  | .gd t w x => match g with
    | some (t', w') => match Nat.beq t t', w, w' with
      | true, true, true => x
      | true, false, false => x
      | _, _, _ => .v undefA
    | none => .v undefA
  | x => x
def atT (τ : PT) (g : Option (Nat × Bool)) : AX → TV
  | .t n => resG g (getT τ n)
  | .c a => .v (match cOk a with
    | true => a
    | false => undefA)
def cleanT (d : Nat) : PT → PT
  | [] => []
  | (t, x) :: l => (t, match x with
    | .gd t' w y => match Nat.beq t' d with
      | true => .v undefA
      | false => .gd t' w y
    | x => x) :: cleanT d l
def putT (τ : PT) (d : Option Nat) (x : TV) : PT := match d with
  | some d => (d, x) :: cleanT d τ
  | none => τ
def TV.of (k : Nat) : TV → Bool
  | .lp j _ | .ls j | .lq j _ _ | .lb j _ | .lv j _ => Nat.beq j k
  | .gd _ _ x => x.of k
  | _ => false
def purge (k : Nat) : PT → PT
  | [] => []
  | (t, x) :: l => (t, match x.of k with
    | true => .v undefA
    | false => x) :: purge k l
def Cur (β : Type) : Nat → Type
  | 0 => Option β
  | n + 1 => AV → Cur β n
def curry {β : Type} : (n : Nat) → (List AV → Option β) → Cur β n
  | 0, f => f []
  | n + 1, f => fun a => curry n fun l => f (a :: l)
def uncur {β : Type} : (n : Nat) → Cur β n → List AV → Option β
  | 0, c, [] => c
  | 0, _, _ :: _ => none
  | _ + 1, _, [] => none
  | n + 1, c, a :: l => uncur n (c a) l
def bnC {β : Type} (n : Nat) (o : Option (List AV)) (k : Cur β n) : Option β := match o with
  | some l => uncur n k l
  | none => none
def bnL {β : Type} (o : Option (List AV)) (k : List AV → Option β) : Option β := match o with
  | some l => k l
  | none => none
def bnN {β : Type} (o : Option Nat) (k : Nat → Option β) : Option β := match o with
  | some l => k l
  | none => none
def gdQ (v : AV) (w : Bool) (o : Option AV) : Option AV := match v with
  | .bool b => if b = w then o else some .sk
  | .sk => some .sk
  | _ => none
def gdN (v : AV) (w : Bool) (o : Option Nat) : Option Nat := match v with
  | .bool b => if b = w then o else some 0
  | .sk => some 0
  | _ => none
def gdH (v : AV) (w : Bool) (o : Option (AV × AHeap)) (Q : AHeap) : Option (AV × AHeap) := match v with
  | .bool b => if b = w then o else some (.sk, Q)
  | .sk => some (.sk, Q)
  | _ => none
def AV.isTup : AV → Bool
  | .tup _ | .ow .. | .raw _ | .lt .. | .sk => true
  | _ => false
def lenQ : AV → Option AV
  | .nils => some (.int .i64 0)
  | .fz _ l => some (.int .i64 l.length)
  | .sl _ _ n _ => some (.int .i64 n)
  | _ => none
def eqnQ (neg : Bool) (c : Nat) (x : AV) : Option AV := match x with
  | .fz _ (_ :: _) => match c with
    | 0 => some (.bool (false != neg))
    | _ => none
  | .ptr .. => match c with
    | 2 => some (.bool (false != neg))
    | _ => none
  | .ifc .. => match c with
    | 1 => some (.bool (false != neg))
    | _ => none
  | .fn .. => match c with
    | 3 => some (.bool (false != neg))
    | _ => none
  | .nils => match c with
    | 0 => some (.bool (true != neg))
    | _ => none
  | .nilifc => match c with
    | 1 => some (.bool (true != neg))
    | _ => none
  | .nilp => match c with
    | 2 => some (.bool (true != neg))
    | _ => none
  | .nilfn => match c with
    | 3 => some (.bool (true != neg))
    | _ => none
  | .mp _ => match c with
    | 4 => some (.bool (false != neg))
    | _ => none
  | .nilm => match c with
    | 4 => some (.bool (true != neg))
    | _ => none
  | _ => none
def elQ (z : Nat) (x i : AV) : Option AV := match x, i with
  | .fz z' l, .int _ i => if z' = z ∧ 0 ≤ i then l[i.toNat]? else none
  | _, _ => none
def idxN (n : Nat) (i : AV) : Option Nat := match i with
  | .int _ i => if 0 ≤ i ∧ i < n then some i.toNat else none
  | _ => none
def slcQ (z : Nat) (x : AV) (lo hi : Option AV) : Option AV := match x with
  | .nils => match bndo hi 0 0 with
    | none => none
    | some h => match bndo lo 0 h with
      | none => none
      | some _ => some .nils
  | .fz z' l => if z' = z ∧ 0 < z then match bndo hi l.length l.length with
    | none => none
    | some h => match bndo lo 0 h with
      | none => none
      | some j => some (.fz z ((l.take h).drop j))
    else none
  | _ => none
def b2sQ (x : AV) : Option AV := match x with
  | .nils => some (.str [])
  | .fz 1 l => (mapO byteA l).map .str
  | _ => none
def s2bQ (x : AV) : Option AV := match x with
  | .str s => if s.length ≤ maxBytes then some (.fz 1 (s.map fun b => .int .u8 b.toNat)) else none
  | _ => none
def s2bC (x : AV) : Option (List AV) := match x with
  | .str s => if s.length ≤ maxBytes then some (s.map fun b => .int .u8 b.toNat) else none
  | _ => none
def stC (n : Nat) (a : AV) : Option (List AV) := match Nat.beq a.cells.length n && a.cells.all AV.one with
  | true => some a.cells
  | false => none
def elOk (z : Nat) (a : AV) : Bool := Nat.beq a.cells.length z && a.cells.all AV.one
def litK {β : Type} (z : Nat) : Nat → List (Nat × Nat × AV) → (List AV → Option β) → Option β
  | _, [], k => k []
  | i, (o, s, a) :: l, k => match Nat.beq o (i * z) && Nat.beq s z with
    | true => pinB (elOk z a) (litK z (i + 1) l fun m => k (a :: m))
    | false => none
def fillP : List AV → List (Nat × Nat × AV) → Option (List AV)
  | cs, [] => some cs
  | cs, (off, s, v) :: l => match v.isTup with
    | true => none
    | false => if v.cells.length = s ∧ off + s ≤ cs.length then fillP (splice cs off v.cells) l else none
def setE (e : AV) (o : Nat) (cs : List AV) : Option AV := match e with
  | .agg xs => if o + cs.length ≤ xs.length then some (.agg (splice xs o cs)) else none
  | _ => match o, cs with
    | 0, [a] => some a
    | _, _ => none
def mkE (z : List AV) : AV := match z with
  | [a] => a
  | l => .agg l
def room (bytes n : Nat) : Bool := decide (n * (bytes + 1) ≤ maxBytes)
def frz : AV → AV
  | .ow z l => .fz z l
  | v => v
def owZ (z : Nat) (v : AV) : Option (List AV) := match v with
  | .ow z' l => if z' = z then some l else none
  | _ => none
def mksN (bytes : Nat) (l c : AV) : Option Nat := match l, c with
  | .int _ l, .int _ c => if 0 ≤ l ∧ l ≤ c ∧ c.toNat * (bytes + 1) ≤ maxBytes then some l.toNat else none
  | _, _ => none
def fldC (off n : Nat) (x : AV) : Option (List AV) := match x with
  | .agg cs => if off + n ≤ cs.length then some ((cs.drop off).take n) else none
  | _ => none
def flatE (l : List AV) : List AV := l.flatMap AV.cells
def chunkE (z : Nat) : Nat → List AV → List AV
  | 0, _ => []
  | n + 1, cs => mkE (cs.take z) :: chunkE z n (cs.drop z)
def appH (Q : AHeap) (z bytes : Nat) (s : AV) (xs : List AV) : Option (AV × AHeap) := match s with
  | .nils => match xs with
    | [] => some (.nils, Q)
    | _ :: _ => match room bytes xs.length with
      | true => some (.sl Q.size 0 xs.length (.mi 0), Q.push (some (.cells .opened z (flatE xs))))
      | false => none
  | .sl r 0 n (.mi 0) => match xs with
    | [] => some (.sl r 0 n (.mi 0), Q)
    | _ :: _ => match Q.get r with
      | some (.cells .opened z' cs) => match Nat.beq z' z && Nat.beq cs.length (n * z) && room bytes (n + xs.length) with
        | true => some (.sl Q.size 0 (n + xs.length) (.mi 0), (Q.put r none).push (some (.cells .opened z (cs ++ flatE xs))))
        | false => none
      | _ => none
  | _ => none
def frzH (Q : AHeap) (z : Nat) (s : AV) : Option (AV × AHeap) := match s with
  | .nils => some (.nils, Q)
  | .fz z' l => some (.fz z' l, Q)
  | .sl r 0 n _ => match Q.get r with
    | some (.cells _ z' cs) => match Nat.beq z' z && Nat.beq cs.length (n * z) && cs.all AV.one with
      | true => some (.fz z (chunkE z n cs), Q.put r none)
      | false => none
    | _ => none
  | _ => none
inductive PMode where
  | n
  | s (z : Nat)
  | f
  | t (z : Nat)
  /-- A call that is given the first argument's slot, and answers a value. -/
  | tf (z : Nat)
  | l
  | i
  deriving Inhabited
def tkey : Nat := 1000000
def flatV : AV → Bool
  | .bool _ | .int _ _ | .str _ => true
  | _ => false
def flatR : AV → Bool
  | .tup l => l.all flatV
  | v => flatV v
structure PM where
  m : PMode
  fz : List Nat
  deriving Inhabited
inductive PCode where
  | skip
  | ret
  | exit (i : Nat)
  | reg (ops : List (AOper × PM))
  | dreg (na : Nat) (ops : List ((AOper × DK) × PM))
  | seq (a b : PCode)
  | cond (x : AX) (a b : PCode)
  | block (i : Nat) (c : PCode)
  | loop (c : PCode)
  /-- All else is forgotten; slots get new names. -/
  | keep (ts : List Nat) (ks : List (Nat × Nat)) (c : PCode)
  | frz (ts : List Nat) (c : PCode)
  /-- A slice whose block others know becomes a value. -/
  | hf (t z : Nat) (c : PCode)
  /-- A nil slice gets a slot. -/
  | own (t z : Nat) (c : PCode)
  /-- All three, in this order, behind code that goes on. -/
  | fin (c : PCode) (own : List (Nat × Nat)) (fr ts : List Nat) (ks : List (Nat × Nat))
  deriving Inhabited
def PCode.un : PCode → ACode
  | .skip => .skip
  | .ret => .ret
  | .exit i => .exit i
  | .reg ops => .reg (ops.map (·.1))
  | .dreg na ops => .dreg na (ops.map (·.1))
  | .seq a b => .seq a.un b.un
  | .cond x a b => .cond x a.un b.un
  | .block i c => .block i c.un
  | .loop c => .loop c.un
  | .keep _ _ c => c.un
  | .frz _ c => c.un
  | .hf _ _ c => c.un
  | .own _ _ c => c.un
  | .fin c _ _ _ _ => c.un
section
variable {β : Type}
def ptrG (g : Option (Nat × Bool)) (d : Option Nat) (x : TV) : TV := match g, d with
  | none, _ => x
  | some _, none => .v undefA
  | some (t, w), some d => match Nat.beq t d with
    | true => .v undefA
    | false => .gd t w x
def outT (τ : PT) (o : AOper) (x : TV) (k : PT → Option β) : Option β := k (putT τ o.dst (ptrG o.guard o.dst x))
def gV (τ : PT) (t : Nat) : AV := (getT τ t).val
def outV (τ : PT) (o : AOper) (r : Option AV) (k : PT → Option β) : Option β := match o.guard with
  | none => bnP r fun w => k (putT τ o.dst (.v w))
  | some (t, w) => bnP (gdQ (gV τ t) w r) fun a => k (putT τ o.dst (.v a))
def outC (τ : PT) (o : AOper) (n : Nat) (r : Option (List AV)) (k : PT → Option β) : Option β := match o.guard with
  | none => bnC n r (curry n fun cs => k (putT τ o.dst (.v (.agg cs))))
  | some (t, w) => bnP (gdQ (gV τ t) w (r.map AV.agg)) fun a => k (putT τ o.dst (.v a))
def bnG (τ : PT) (o : AOper) (r : Option Nat) (k : Nat → Option β) : Option β := match o.guard with
  | none => bnN r k
  | some (t, w) => bnN (gdN (gV τ t) w r) k
def outE (τ : PT) (o : AOper) (r : Option AV) (k : PT → Option β) : Option β := match o.guard with
  | none => bnP r fun e => k (putT τ o.dst (.fp e 0))
  | some (t, w) => bnP (gdQ (gV τ t) w r) fun e => k (putT τ o.dst (ptrG (some (t, w)) o.dst (.fp e 0)))
def cut (cs : List AV) (o n : Nat) : Option (List AV) := match Nat.ble (o + n) cs.length with
  | true => some ((cs.drop o).take n)
  | false => none
def elN (l : List AV) (i o n : Nat) : Option (List AV) := match l[i]? with
  | some e => cut e.cells o n
  | none => none
def ldQ (Q : AHeap) : AV → Option AV
  | .cp cs o => cs[o]?
  | a => ldA Q a
def fadQ (off : Nat) : AV → Option AV
  | .cp cs o => some (.cp cs (o + off))
  | a => fadA off a
def nckQ : AV → Option AV
  | .cp cs o => some (.cp cs o)
  | a => nckA a
def ldT (ω : PW) (Q : AHeap) : TV → Option AV
  | .lp k o => match lkp ω k with
    | some (.cells cs) => cs[o]?
    | _ => none
  | .lq k i o => match lkp ω k with
    | some (.own _ l) => match l[i]? with
      | some e => e.cells[o]?
      | none => none
    | _ => none
  | .fp e o => e.cells[o]?
  | .v a => ldQ Q a
  | _ => none
def rowP (Q : AHeap) (n : Nat) : AV → Option (List AV)
  | .ptr r o => Q.row r o n
  | .cp cs o => cut cs o n
  | _ => none
def ldnT (ω : PW) (Q : AHeap) (n : Nat) : TV → Option (List AV)
  | .lp k o => match lkp ω k with
    | some (.cells cs) => cut cs o n
    | _ => none
  | .lq k i o => match lkp ω k with
    | some (.own _ l) => match l[i]? with
      | some e => cut e.cells o n
      | none => none
    | _ => none
  | .fp e o => cut e.cells o n
  | .v a => rowP Q n a
  | _ => none
def srcT (ω : PW) (z : Nat) : TV → Option (List AV)
  | .v .nils => some []
  | .v (.fz z' l) => match Nat.beq z' z with
    | true => some l
    | false => none
  | .ls k => match lkp ω k with
    | some (.own z' l) => match Nat.beq z' z with
      | true => some l
      | false => none
    | _ => none
  | _ => none
def lendV (ω : PW) : TV → AV
  | .v a => a
  | .ls k => match lkp ω k with
    | some (.own z l) => .fz z l
    | _ => undefA
  | _ => undefA
def bnF (v : AV) (k : Nat → List AV → List AV → Option β) : Option β := match v with
  | .fn f fs cs => k f fs cs
  | _ => none
def lowF (call : CallF) : CallF := fun f args Q => match Nat.blt f tkey with
  | true => call f args Q
  | false => none
def callK (call : CallF) (o : AOper) (m : PMode) (τ : PT) (ω : PW) (Q : AHeap) (f : Nat) (fs cs : List AV) (args : List AX) (k : PT → PW → AHeap → Option β) : Option β := match m with
  | .t z => match args, o.dst, fs, cs with
    | x :: rest, some d, [], [] => match atT τ none x with
      | .ls j => match lkp ω j with
        | some (.own z' l) => match Nat.beq z' z with
          | true => bnS (call (f + tkey) (.ow z l :: rest.map fun y => (atT τ none y).val) Q) fun v Q' => bnL (owZ z v) fun l' => k (putT (purge j τ) (some d) (.ls j)) ((j, .own z l') :: rmv ω j) Q'
          | false => none
        | _ => none
      | _ => none
    | _, _, _, _ => none
  | .tf z => match args, fs, cs with
    | x :: rest, [], [] => match atT τ none x with
      | .ls j => match lkp ω j with
        | some (.own z' l) => match Nat.beq z' z with
          | true => bnS (call (f + tkey) (.ow z l :: rest.map fun y => (atT τ none y).val) Q) fun v Q' => k (putT (purge j τ) o.dst (.v (frz v))) (rmv ω j) Q'
          | false => none
        | _ => none
      | _ => none
    | _, _, _ => none
  | .l => bnS (lowF call f (fs ++ args.map (fun y => lendV ω (atT τ none y)) ++ cs) ⟨Q.size, .leaf⟩) fun v _ => match flatR v with
    | true => k (putT τ o.dst (.v v)) ω Q
    | false => none
  | .s z => match o.dst with
    | some d => bnS (lowF call f (fs ++ args.map (fun y => (atT τ none y).val) ++ cs) Q) fun v Q' => bnL (owZ z v) fun l => k (putT (purge d τ) (some d) (.ls d)) ((d, .own z l) :: rmv ω d) Q'
    | none => none
  | .n => bnS (lowF call f (fs ++ args.map (fun y => (atT τ none y).val) ++ cs) Q) fun v Q' => k (putT τ o.dst (.v (frz v))) ω Q'
  | .f => none
  | .i => none
def appK (d z bytes : Nat) (τ : PT) (ω : PW) (Q : AHeap) (s x : TV) (k : PT → PW → AHeap → Option β) : Option β := match s with
  | .v (.lt z' l) => match Nat.beq z' z with
    | true => bnL (srcT ω z x) fun xs => pinB (room bytes (l.length + xs.length)) (k (putT τ (some d) (.v (.fz z (l ++ xs)))) ω Q)
    | false => none
  | .v .nils => bnL (srcT ω z x) fun xs => pinB (room bytes xs.length) (k (putT (purge d τ) (some d) (.ls d)) ((d, .own z xs) :: rmv ω d) Q)
  | .ls j => match lkp ω j with
    | some (.own z' l) => match Nat.beq z' z with
      | true => bnL (srcT ω z x) fun xs => pinB (room bytes (l.length + xs.length)) (k (putT (purge j τ) (some d) (.ls j)) ((j, .own z (l ++ xs)) :: rmv ω j) Q)
      | false => none
    | _ => none
  | _ => none
def popK (call : CallF) (o : AOper) (m : PMode) (τ : PT) (ω : PW) (Q : AHeap) (k : PT → PW → AHeap → Option β) : Option β :=
  match o.op with
  | .mv x => match atT τ o.guard x with
    | .v a => match o.guard with
      | none => k (putT τ o.dst (.v a)) ω Q
      | some (t, w) => bnP (gdQ (gV τ t) w (some a)) fun a => k (putT τ o.dst (.v a)) ω Q
    | x => outT τ o x fun τ => k τ ω Q
  | .fad off x => match atT τ o.guard x with
    | .lp j o' => outT τ o (.lp j (o' + off)) fun τ => k τ ω Q
    | .lq j i o' => outT τ o (.lq j i (o' + off)) fun τ => k τ ω Q
    | .fp e o' => outT τ o (.fp e (o' + off)) fun τ => k τ ω Q
    | .v a => outV τ o (fadQ off a) fun τ => k τ ω Q
    | _ => none
  | .iaa n z x i => match atT τ o.guard x with
    | .lp j o' => bnG τ o (idxN n (atT τ o.guard i).val) fun q => outT τ o (.lp j (o' + q * z)) fun τ => k τ ω Q
    | .lq j i' o' => bnG τ o (idxN n (atT τ o.guard i).val) fun q => outT τ o (.lq j i' (o' + q * z)) fun τ => k τ ω Q
    | .fp e o' => bnG τ o (idxN n (atT τ o.guard i).val) fun q => outT τ o (.fp e (o' + q * z)) fun τ => k τ ω Q
    | .v a => outV τ o (iaaA n z a (atT τ o.guard i).val) fun τ => k τ ω Q
    | _ => none
  | .iad z x i => match atT τ o.guard x with
    | .v a => outE τ o (elQ z a (atT τ o.guard i).val) fun τ => k τ ω Q
    | .ls j => match lkp ω j with
      | some (.own z' l) => match Nat.beq z' z with
        | true => bnG τ o (idxN l.length (atT τ o.guard i).val) fun q => outT τ o (.lq j q 0) fun τ => k τ ω Q
        | false => none
      | _ => none
    | .lb j n => bnG τ o (idxN n (atT τ o.guard i).val) fun q => outT τ o (.lp j (q * z)) fun τ => k τ ω Q
    | _ => none
  | .nck x => match atT τ o.guard x with
    | .v a => outV τ o (nckQ a) fun τ => k τ ω Q
    | .ls _ => none
    | .gd .. => none
    | .lb .. => none
    | .lv .. => none
    | x => outT τ o x fun τ => k τ ω Q
  | .ld x => outV τ o (ldT ω Q (atT τ o.guard x)) fun τ => k τ ω Q
  | .ldn n x => outC τ o n (ldnT ω Q n (atT τ o.guard x)) fun τ => k τ ω Q
  | .st n x a => match o.guard with
    | some _ => none
    | none => match atT τ none x with
      | .lp j o' => bnC n (stC n (atT τ none a).val) (curry n fun cs => match lkp ω j with
        | some (.cells ds) => match Nat.ble (o' + n) ds.length with
          | true => k (putT τ o.dst (.v undefA)) ((j, .cells (splice ds o' cs)) :: rmv ω j) Q
          | false => none
        | _ => none)
      | .lq j i o' => bnC n (stC n (atT τ none a).val) (curry n fun cs => match lkp ω j with
        | some (.own z l) => bnP (l[i]?) fun e => bnP (setE e o' cs) fun e' => k (putT τ o.dst (.v undefA)) ((j, .own z (l.set i e')) :: rmv ω j) Q
        | _ => none)
      | .v p => bnS (stA Q n p (atT τ none a).val) fun _ Q' => k (putT τ o.dst (.v undefA)) ω Q'
      | _ => none
  | .newc cs => match o.guard with
    | some _ => none
    | none => match cOkL cs && cs.all AV.one with
      | false => none
      | true => match m, o.dst with
        | .s _, some d => k (putT (purge d τ) (some d) (.lp d 0)) ((d, .cells cs) :: rmv ω d) Q
        | .n, _ => k (putT τ o.dst (.v (.ptr Q.size 0))) ω (Q.push (some (.cells .exact cs.length cs)))
        | _, _ => none
  | .box x => match o.guard with
    | some _ => none
    | none => match m, o.dst with
      | .s z, some d => bnC z (stC z (atT τ none x).val) (curry z fun cs => k (putT (purge d τ) (some d) (.lp d 0)) ((d, .cells cs) :: rmv ω d) Q)
      | .n, _ => bnS (newcA Q (atT τ none x).val.cells) fun w Q' => k (putT τ o.dst (.v w)) ω Q'
      | _, _ => none
  | .build z ps => match cOkL z with
    | true => outC τ o z.length (fillP z (ps.map fun p => (p.1, p.2.1, (atT τ o.guard p.2.2).val))) fun τ => k τ ω Q
    | false => none
  | .bsl z zero n ps => match o.guard with
    | some _ => none
    | none => match Nat.beq ps.length n && Nat.beq zero.length z && Nat.ble (n * z) 16777216 && Nat.blt 0 z with
      | false => none
      | true => litK z 0 (ps.map fun p => (p.1, p.2.1, (atT τ none p.2.2).val)) fun l => match m, o.dst with
        | .s _, some d => k (putT (purge d τ) (some d) (.ls d)) ((d, .own z l) :: rmv ω d) Q
        | .f, _ => k (putT τ o.dst (.v (.fz z l))) ω Q
        | .i, _ => k (putT τ o.dst (.v (.lt z l))) ω Q
        | _, _ => none
  | .app z bytes zero s x => match o.guard, o.dst with
    | none, some d => match Nat.beq zero.length z && Nat.blt 0 z with
      | false => none
      | true => match m with
        | .i => bnL (srcT ω z (atT τ none x)) fun xs => bnS (appH Q z bytes (atT τ none s).val xs) fun v Q' => k (putT τ (some d) (.v v)) ω Q'
        | _ => appK d z bytes τ ω Q (atT τ none s) (atT τ none x) k
    | _, _ => none
  | .mks z bytes zero l c => match o.guard, o.dst with
    | none, some d => match Nat.beq zero.length z && Nat.blt 0 z && cOkL zero && zero.all AV.one with
      | false => none
      | true => bnN (mksN bytes (atT τ none l).val (atT τ none c).val) fun n => k (putT (purge d τ) (some d) (.ls d)) ((d, .own z (List.replicate n (mkE zero))) :: rmv ω d) Q
    | _, _ => none
  | .len x => match atT τ o.guard x with
    | .v a => outV τ o (lenQ a) fun τ => k τ ω Q
    | .ls j => match lkp ω j with
      | some (.own _ l) => outV τ o (some (.int .i64 l.length)) fun τ => k τ ω Q
      | _ => none
    | .lb _ n => outV τ o (some (.int .i64 n)) fun τ => k τ ω Q
    | _ => none
  | .eqn neg c x => match atT τ o.guard x with
    | .v a => outV τ o (eqnQ neg c a) fun τ => k τ ω Q
    | _ => none
  | .slc z x lo hi mx => match mx with
    | some _ => none
    | none => match atT τ o.guard x with
      | .v a => outV τ o (slcQ z a (lo.map fun y => (atT τ o.guard y).val) (hi.map fun y => (atT τ o.guard y).val)) fun τ => k τ ω Q
      | .ls j => match m, lkp ω j, lo, hi with
        | .s _, some (.own z' l), some y, none => match Nat.beq z' z with
          | true => bnG τ o (idxN l.length (atT τ o.guard y).val) fun q => outT τ o (.lv j q) fun τ => k τ ω Q
          | false => none
        | _, _, _, _ => none
      | _ => none
  | .fld off n x => match n with
    | some n => outC τ o n (fldC off n (atT τ o.guard x).val) fun τ => k τ ω Q
    | none => outV τ o (fldA off none (atT τ o.guard x).val) fun τ => k τ ω Q
  | .b2s x => match atT τ o.guard x with
    | .lb j n => match lkp ω j with
      | some (.cells cs) => outV τ o ((cut cs 0 n).bind fun l => b2sQ (.fz 1 l)) fun τ => k τ ω Q
      | _ => none
    | y => outV τ o (b2sQ y.val) fun τ => k τ ω Q
  | .s2b x => match o.guard with
    | some _ => none
    | none => match m, o.dst with
      | .s _, some d => bnL (s2bC (atT τ none x).val) fun cs => k (putT (purge d τ) (some d) (.lb d cs.length)) ((d, .cells cs) :: rmv ω d) Q
      | _, _ => outV τ o (s2bQ (atT τ none x).val) fun τ => k τ ω Q
  | .call f args => match o.guard with
      | none => bnF (atT τ none f).val fun f fs cs => callK call o m τ ω Q f fs cs args k
      | some (t, w) => bnS (gdH (gV τ t) w (bnF (atT τ (some (t, w)) f).val fun f fs cs => lowF call f (fs ++ args.map (fun y => (atT τ (some (t, w)) y).val) ++ cs) Q) Q) fun v Q' => k (putT τ o.dst (.v (frz v))) ω Q'
  | .inv tab r args => match o.guard with
      | none => bnS (invA (lowF call) tab (atT τ none r).val (args.map fun y => (atT τ none y).val) Q) fun v Q' => k (putT τ o.dst (.v (frz v))) ω Q'
      | some (t, w) => bnS (gdH (gV τ t) w (invA (lowF call) tab (atT τ (some (t, w)) r).val (args.map fun y => (atT τ (some (t, w)) y).val) Q) Q) fun v Q' => k (putT τ o.dst (.v (frz v))) ω Q'
  | .tas t z ok x => match cOk z with
    | true => outV τ o (tasP t z ok (atT τ o.guard x).val) fun τ => k τ ω Q
    | false => none
  | .pick c a b => outV τ o (pickA (atT τ o.guard c).val (atT τ o.guard a).val (atT τ o.guard b).val) fun τ => k τ ω Q
  | .bin op x y => outV τ o (binA op (atT τ o.guard x).val (atT τ o.guard y).val) fun τ => k τ ω Q
  | .eqs neg q x y => outV τ o (eqsA neg q (atT τ o.guard x).val (atT τ o.guard y).val) fun τ => k τ ω Q
  | .un op x => outV τ o (unA op (atT τ o.guard x).val) fun τ => k τ ω Q
  | .cvi kk x => outV τ o (cviA kk (atT τ o.guard x).val) fun τ => k τ ω Q
  | .cvs x => outV τ o (cvsA (atT τ o.guard x).val) fun τ => k τ ω Q
  | .mki t x => outV τ o (some (.ifc t (atT τ o.guard x).val)) fun τ => k τ ω Q
  | .mkf f fs cs => outV τ o (some (.fn f (fs.map fun y => (atT τ o.guard y).val) (cs.map fun y => (atT τ o.guard y).val))) fun τ => k τ ω Q
  | .sls x lo hi => outV τ o (slsA (atT τ o.guard x).val (lo.map fun y => (atT τ o.guard y).val) (hi.map fun y => (atT τ o.guard y).val)) fun τ => k τ ω Q
  | .ixs x i => outV τ o (ixsA (atT τ o.guard x).val (atT τ o.guard i).val) fun τ => k τ ω Q
  | .ixa n z kk x i => outV τ o (ixaA n z kk (atT τ o.guard x).val (atT τ o.guard i).val) fun τ => k τ ω Q
  | .ext x i => outV τ o (extA (atT τ o.guard x).val i) fun τ => k τ ω Q
  | .lens x => outV τ o (lensA (atT τ o.guard x).val) fun τ => k τ ω Q
  | .lena n => outV τ o (some (.int .i64 n)) fun τ => k τ ω Q
  | .mxi l => outV τ o (mxiA (l.map fun y => (atT τ o.guard y).val)) fun τ => k τ ω Q
  | .mni l => outV τ o (mniA (l.map fun y => (atT τ o.guard y).val)) fun τ => k τ ω Q
  | .mlk q z ok x y => match cOk z with
    | true => outV τ o (mlkA Q q z ok (atT τ o.guard x).val (atT τ o.guard y).val) fun τ => k τ ω Q
    | false => none
  | .lnm x => outV τ o (lnmA Q (atT τ o.guard x).val) fun τ => k τ ω Q
  | .clr z zero x => match o.guard with
    | some _ => none
    | none => match atT τ none x with
      | .lv j i => match lkp ω j with
        | some (.own z' l) => match Nat.beq z' z && Nat.beq zero.length z && Nat.blt 0 z && cOkL zero && zero.all AV.one with
          | true => k (putT τ o.dst (.v undefA)) ((j, .own z (l.take i ++ List.replicate (l.length - i) (mkE zero))) :: rmv ω j) Q
          | false => none
        | _ => none
      | _ => none
  | .mkm => match o.guard with
    | some _ => none
    | none => k (putT τ o.dst (.v (.mp Q.size))) ω (Q.push (some (.mapo [])))
  | .mup q x y z => match o.guard with
    | some _ => none
    | none => bnS (mupA Q q (atT τ none x).val (atT τ none y).val (atT τ none z).val) fun _ Q' => k (putT τ o.dst (.v undefA)) ω Q'
  | _ => none
def frzK : List Nat → PT → PW → (PT → PW → Option β) → Option β
  | [], τ, ω, k => k τ ω
  | t :: l, τ, ω, k => match getT τ t with
    | .ls j => match lkp ω j with
      | some (.own z xs) => frzK l ((t, .v (.fz z xs)) :: purge j τ) (rmv ω j) k
      | _ => none
    | .lp j o => match lkp ω j with
      | some (.cells cs) => frzK l ((t, .v (.cp cs o)) :: purge j τ) (rmv ω j) k
      | _ => none
    | .v _ => frzK l τ ω k
    | _ => none
def nrmV : TV → (TV → Option β) → Option β
  | .v a, k => k (.v a)
  | .lp a o, k => k (.lp a o)
  | .ls a, k => k (.ls a)
  | .lq a i o, k => k (.lq a i o)
  | .lb a n, k => k (.lb a n)
  | .lv a n, k => k (.lv a n)
  | .fp e o, k => k (.fp e o)
  | .gd t w y, k => nrmV y fun y => k (.gd t w y)
def nrmK : PT → (PT → Option β) → Option β
  | [], k => k []
  | (a, x) :: l, k => nrmV x fun x => nrmK l fun l => k ((a, x) :: l)
theorem nrmV_eq : ∀ (x : TV) (k : TV → Option β), nrmV x k = k x
  | .v a, k => rfl
  | .lp a o, k => rfl
  | .ls a, k => rfl
  | .lq a i o, k => rfl
  | .lb a n, k => rfl
  | .lv a n, k => rfl
  | .fp e o, k => rfl
  | .gd t w y, k => nrmV_eq y _
theorem nrmK_eq : ∀ (τ : PT) (k : PT → Option β), nrmK τ k = k τ
  | [], k => rfl
  | (a, x) :: l, k => by simp only [nrmK, nrmV_eq, nrmK_eq l]
def opsK (call : CallF) : List (AOper × PM) → PT → PW → AHeap → (PT → PW → AHeap → Option β) → Option β
  | [], τ, ω, Q, k => k τ ω Q
  | (o, m) :: l, τ, ω, Q, k => frzK m.fz τ ω fun τ ω => popK call o m.m τ ω Q fun τ ω Q => nrmK τ fun τ => opsK call l τ ω Q k
end
end Go.Ab
set_option linter.unusedVariables false
set_option linter.unusedSimpArgs false
set_option linter.unusedSectionVars false
namespace Go.Ab
inductive PLoc where
  | no
  | at (x : TV) (n : Nat)
  | blk (k : Nat)
  deriving Inhabited
def PLoc.of (k : Nat) : PLoc → Bool
  | .at x _ => x.of k
  | .blk j => Nat.beq j k
  | .no => false
inductive Eff where
  | none
  | st (x : TV) (n : Nat)
  | slot (k : Nat)
  | call
  deriving Inhabited
def dis (o n o' n' : Nat) : Bool := Nat.ble (o + n) o' || Nat.ble (o' + n') o
def cflQ (p : AV) (n : Nat) (q : AV) (m : Nat) : Bool := match p, q with
  | .ptr r o, .ptr r' o' => decide (r = r') && !dis o n o' m
  | _, _ => true
def cfl : Eff → PLoc → Bool
  | _, .no => false
  | .none, _ => false
  | .slot k, l => l.of k
  | .call, .at (.v _) _ => true
  | .call, _ => false
  | .st (.lp k o) n, .at (.lp k' o') n' => match Nat.beq k k' with
    | true => !dis o n o' n'
    | false => false
  | .st (.lq k _ _) _, .at (.lq k' _ _) _ => Nat.beq k k'
  | .st (.lp k _) _, .blk k' => Nat.beq k k'
  | .st (.lq k _ _) _, .blk k' => Nat.beq k k'
  | .st (.v p) n, .at (.v q) m => cflQ p n q m
  | .st (.v _) _, .blk _ => false
  | .st (.lp ..) _, .at (.lq ..) _ => false
  | .st (.lp ..) _, .at (.fp ..) _ => false
  | .st (.lp ..) _, .at (.v _) _ => false
  | .st (.lq ..) _, .at (.lp ..) _ => false
  | .st (.lq ..) _, .at (.fp ..) _ => false
  | .st (.lq ..) _, .at (.v _) _ => false
  | .st (.v _) _, .at (.lp ..) _ => false
  | .st (.v _) _, .at (.lq ..) _ => false
  | .st (.v _) _, .at (.fp ..) _ => false
  | _, _ => true
mutual
/-- A value that has but one telling. -/
def hard : AV → Bool
  | .bool _ | .int _ _ | .str _ | .nilp | .nilfn | .nilifc | .ptr _ _ => true
  | _ => false
end
def stayQ (Q Q' : AHeap) (p : AV) (n : Nat) : Bool := match rowP Q n p, rowP Q' n p with
  | some a, some b => a.all hard && beqL a b
  | _, _ => false
def effOf (m : PMode) (τ : PT) (o : AOper) : Eff := match o.op with
  | .st n x _ => .st (atT τ none x) n
  | .app _ _ _ s _ => match m with
    | .i => .call
    | _ => match atT τ none s with
      | .ls j => .slot j
      | _ => .none
  | .call .. | .inv .. | .mup .. => .call
  | .clr _ _ x => match atT τ none x with
    | .lv j _ => .slot j
    | _ => .none
  | _ => .none
def locOf (τ : PT) (o : AOper) : PLoc := match o.op with
  | .ld x => .at (atT τ o.guard x) 1
  | .ldn n x => .at (atT τ o.guard x) n
  | _ => .no
def ofD (d : Option Nat) (l : PLoc) : Bool := match d with
  | some d => l.of d
  | none => false
def updR (e : Eff) (d : Option Nat) (Q Q' : AHeap) : List (Bool × PLoc) → List (Bool × PLoc)
  | [] => []
  | (b, l) :: r => (match ofD d l with
    | true => false
    | false => match cfl e l with
      | false => b
      | true => match e, l with
        | .call, .at (.v p) n => b && stayQ Q Q' p n
        | _, _ => false, l) :: updR e d Q Q' r
def pinsB (recs : List (Bool × PLoc)) : List Nat → Bool
  | [] => true
  | p :: l => match recs[p]? with
    | some (b, _) => b && pinsB recs l
    | none => false
def slotD (m : PMode) (o : AOper) : Option Nat := match o.op with
  | .app .. | .mks .. => o.dst
  | _ => match m with
    | .s _ | .t _ => o.dst
    | _ => none
def locM (o : AOper) (m : PMode) : Bool × PLoc := match m, o.dst with
  | .s _, some d => (true, .blk d)
  | .f, _ => (true, .no)
  | .i, _ => (true, .no)
  | _, _ => (false, .no)
def keepQ : AOp → Bool
  | .mlk .. | .lnm _ => false
  | _ => true
def isQ : AOp → Bool
  | .b2s _ => false
  | op => isLook op
def isTake : PMode → Bool
  | .t _ => true
  | .tf _ => true
  | _ => false
def slotT (τ : PT) (o : AOper) : Option Nat := match o.op, o.guard with
  | .call _ (x :: _), none => match atT τ none x with
    | .ls j => some j
    | _ => none
  | _, _ => none
section
variable {β : Type}
def dregK (call : CallF) : List ((AOper × DK) × PM) → List (Bool × PLoc) → PT → PW → AHeap → (PT → PW → AHeap → Option β) → Option β
  | [], _, τ, ω, Q, k => k τ ω Q
  | ((o, dk), m) :: l, recs, τ, ω, Q, k => match m.fz with
    | _ :: _ => none
    | [] => match dk with
      | .q => match isQ o.op with
        | true => popK call o .n τ ω Q fun τ2 ω2 Q2 => nrmK τ2 fun τ2 => dregK call l (recs ++ [(keepQ o.op, locOf τ o)]) τ2 ω2 Q2 k
        | false => none
      | .al _ => match o.guard with
        | none => popK call o m.m τ ω Q fun τ2 ω2 Q2 => nrmK τ2 fun τ2 => dregK call l (updR .none (slotD m.m o) Q Q2 recs ++ [locM o m.m]) τ2 ω2 Q2 k
        | some _ => none
      | .ef pins => match isTake m.m with
       | true => match slotT τ o with
         | some j => popK call o m.m τ ω Q fun τ2 ω2 Q2 => pinB (pinsB (updR .call (some j) Q Q2 recs) pins) (nrmK τ2 fun τ2 => dregK call l (updR .call (some j) Q Q2 recs ++ [(true, .no)]) τ2 ω2 Q2 k)
         | none => none
       | false => popK call o m.m τ ω Q fun τ2 ω2 Q2 => pinB (pinsB (updR (effOf m.m τ o) (slotD m.m o) Q Q2 recs) pins) (nrmK τ2 fun τ2 => dregK call l (updR (effOf m.m τ o) (slotD m.m o) Q Q2 recs ++ [(true, .no)]) τ2 ω2 Q2 k)
def renT (ks : List (Nat × Nat)) : TV → TV
  | .lp k o => match lkp ks k with
    | some j => .lp j o
    | none => .v undefA
  | .ls k => match lkp ks k with
    | some j => .ls j
    | none => .v undefA
  | .lq k i o => match lkp ks k with
    | some j => .lq j i o
    | none => .v undefA
  | .lb k n => match lkp ks k with
    | some j => .lb j n
    | none => .v undefA
  | .lv k n => match lkp ks k with
    | some j => .lv j n
    | none => .v undefA
  | .gd t w x => .gd t w (renT ks x)
  | x => x
def keepT (ks : List (Nat × Nat)) (τ : PT) : List Nat → PT
  | [] => []
  | t :: l => (t, renT ks (getT τ t)) :: keepT ks τ l
def keepW (ω : PW) : List (Nat × Nat) → PW
  | [] => []
  | (a, b) :: l => match lkp ω a with
    | some s => (b, s) :: keepW ω l
    | none => keepW ω l
def nodupN : List Nat → Bool
  | [] => true
  | a :: l => !l.elem a && nodupN l
def pexw (i : Nat) : PCode → Nat
  | .skip | .reg _ | .dreg _ _ | .ret | .loop _ => 0
  | .exit j => if j = i then 1 else 0
  | .seq a b => min 2 (pexw i a + pexw i b)
  | .cond _ a b => min 2 (pexw i a + pexw i b)
  | .block _ c => pexw i c
  | .keep _ _ c => pexw i c
  | .frz _ c => pexw i c
  | .hf _ _ c => pexw i c
  | .own _ _ c => pexw i c
  | .fin c _ _ _ _ => pexw i c
def pways : PCode → Nat
  | .skip | .reg _ | .dreg _ _ | .loop _ => 1
  | .ret | .exit _ => 0
  | .seq a b => min 2 (pways a * pways b)
  | .cond _ a b => min 2 (pways a + pways b)
  | .block i c => min 2 (pways c + pexw i c)
  | .keep _ _ c => pways c
  | .frz _ c => pways c
  | .hf _ _ c => pways c
  | .own _ _ c => pways c
  | .fin c _ _ _ _ => pways c
abbrev PEnd := AExit × PT × PW × AHeap
abbrev PK (β : Type) := AExit → PT → PW → AHeap → Option β
def bnX (o : Option PEnd) (k : PK β) : Option β := match o with
  | some (ex, τ, ω, Q) => k ex τ ω Q
  | none => none
def ret4 : PK PEnd := fun ex τ ω Q => some (ex, τ, ω, Q)
abbrev PLoopF := PCode → PT → PW → AHeap → Option PEnd
def goX (k1 : PT → PW → AHeap → Option β) (k : PK β) : PK β := fun ex τ ω Q => match ex with
  | .normal => k1 τ ω Q
  | .exit i => k (.exit i) τ ω Q
  | .ret => k .ret τ ω Q
def outX (i : Nat) (k : PK β) : PK β := fun ex τ ω Q => match ex with
  | .normal => k .normal τ ω Q
  | .exit j => k (match Nat.beq j i with
    | true => .normal
    | false => .exit j) τ ω Q
  | .ret => k .ret τ ω Q
def ownK (t z : Nat) (τ : PT) (ω : PW) (k : PT → PW → Option β) : Option β := match getT τ t with
  | .v .nils => k ((t, .ls t) :: purge t τ) ((t, .own z []) :: rmv ω t)
  | .ls j => match Nat.beq j t with
    | true => k τ ω
    | false => none
  | _ => none
def ownsK : List (Nat × Nat) → PT → PW → (PT → PW → Option β) → Option β
  | [], τ, ω, k => k τ ω
  | (t, z) :: l, τ, ω, k => ownK t z τ ω fun τ ω => ownsK l τ ω k
def finK (own : List (Nat × Nat)) (fr ts : List Nat) (ks : List (Nat × Nat)) (τ : PT) (ω : PW) (Q : AHeap) (k : PK β) : Option β :=
  ownsK own τ ω fun τ ω => frzK fr τ ω fun τ ω => match nodupN (ks.map (·.1)) && nodupN (ks.map (·.2)) with
    | true => k .normal (keepT ks τ ts) (keepW ω ks) Q
    | false => none
end
def evalPK {β : Type} (call : CallF) (lp : PLoopF) : PCode → PT → PW → AHeap → PK β → Option β
  | .skip, τ, ω, Q, k => k .normal τ ω Q
  | .ret, τ, ω, Q, k => k .ret τ ω Q
  | .exit i, τ, ω, Q, k => k (.exit i) τ ω Q
  | .reg ops, τ, ω, Q, k => opsK call ops τ ω Q (k .normal)
  | .dreg _ ops, τ, ω, Q, k => dregK call ops [] τ ω Q (k .normal)
  | .seq a b, τ, ω, Q, k => match pways a with
    | 0 | 1 => evalPK call lp a τ ω Q (goX (fun τ ω Q => evalPK call lp b τ ω Q k) k)
    | _ => bnX (evalPK call lp a τ ω Q ret4) (goX (fun τ ω Q => evalPK call lp b τ ω Q k) k)
  | .cond x a b, τ, ω, Q, k => cndS (atT τ none x).val (fun _ => evalPK call lp a τ ω Q k) (fun _ => evalPK call lp b τ ω Q k)
  | .block i c, τ, ω, Q, k => match pways c + pexw i c with
    | 0 | 1 => evalPK call lp c τ ω Q (outX i k)
    | _ => bnX (evalPK call lp c τ ω Q ret4) (outX i k)
  | .loop c, τ, ω, Q, k => bnX (lp c τ ω Q) k
  | .keep ts ks c, τ, ω, Q, k => match nodupN (ks.map (·.1)) && nodupN (ks.map (·.2)) with
    | true => evalPK call lp c (keepT ks τ ts) (keepW ω ks) Q k
    | false => none
  | .frz ts c, τ, ω, Q, k => frzK ts τ ω fun τ ω => evalPK call lp c τ ω Q k
  | .hf t z c, τ, ω, Q, k => bnS (frzH Q z (getT τ t).val) fun v Q' => evalPK call lp c ((t, .v v) :: τ) ω Q' k
  | .own t z c, τ, ω, Q, k => ownK t z τ ω fun τ ω => evalPK call lp c τ ω Q k
  | .fin c own fr ts ks, τ, ω, Q, k => evalPK call lp c τ ω Q (goX (fun τ ω Q => finK own fr ts ks τ ω Q k) k)
inductive RC where
  | n
  | o (z : Nat)
  | f (z : Nat)
  deriving Inhabited
structure PFn where
  nt : Nat
  own : List (Nat × Nat)
  code : PCode
  res : List ARes
  rc : List RC
  deriving Inhabited
def resV (τ : PT) (ω : PW) (Q : AHeap) : ARes → Option AV
  | .tmp t => match getT τ t with
    | .v a => some a
    | .ls j => match lkp ω j with
      | some (.own z l) => some (.ow z l)
      | _ => none
    | _ => none
  | .cell a none => ldT ω Q (getT τ a)
  | .cell a (some n) => (ldnT ω Q n (getT τ a)).map .agg
def isLs (τ : PT) : ARes → Bool
  | .tmp t => match getT τ t with
    | .ls _ => true
    | _ => false
  | _ => false
def rcv (own : Bool) (rc : RC) (v : AV) : Option AV := match rc, v with
  | .n, .ow z l => match own with
    | true => some (.ow z l)
    | false => none
  | .n, v => some v
  | .o z, .nils => some (.ow z [])
  | .o z, .ow z' l => match own with
    | true => if z' = z then some (.ow z l) else none
    | false => none
  | .o _, _ => none
  | .f z, .nils => some (.fz z [])
  | .f z, .ow z' l => match own with
    | true => if z' = z then some (.fz z l) else none
    | false => none
  | .f z, .fz z' l => if z' = z then some (.fz z l) else none
  | .f _, _ => none
def ressK (τ : PT) (ω : PW) (Q : AHeap) {β : Type} : List (ARes × RC) → (List AV → Option β) → Option β
  | [], k => k []
  | (r, rc) :: l, k => bnP (resV τ ω Q r) fun v => bnP (rcv (isLs τ r) rc v) fun w => ressK τ ω Q l fun ws => k (frz w :: ws)
def retP (res : List ARes) (rc : List RC) (τ : PT) (ω : PW) (Q : AHeap) : Option (AV × AHeap) := match res, rc with
  | [r], [c] => bnP (resV τ ω Q r) fun v => bnP (rcv (isLs τ r) c v) fun w => some (w, Q)
  | res, rc => match Nat.beq res.length rc.length with
    | true => ressK τ ω Q (res.zip rc) fun ws => some (.tup ws, Q)
    | false => none
def retPK (res : List ARes) (rc : List RC) : PK (AV × AHeap) := fun ex τ ω Q => match ex with
  | .normal => retP res rc τ ω Q
  | .exit _ => none
  | .ret => retP res rc τ ω Q
def initK {β : Type} (own : List (Nat × Nat)) : Nat → List AV → (PT → PW → Option β) → Option β
  | _, [], k => k [] []
  | i, a :: l, k => match lkp own i with
    | some z => bnL (owZ z a) fun m => initK own (i + 1) l fun τ ω => k ((i, .ls i) :: τ) ((i, .own z m) :: ω)
    | none => initK own (i + 1) l fun τ ω => k ((i, .v a) :: τ) ω
structure PEnv where
  fns : Nat → Option PFn
  spec : Nat → Option (List AV → Option AV)
mutual
def callN (E : PEnv) : Nat → CallF
  | 0, _, _, _ => none
  | n + 1, f, args, Q => match E.spec f with
    | some g => (g args).map fun v => (v, Q)
    | none => match E.fns f with
      | none => none
      | some fn => match Nat.ble args.length fn.nt with
        | false => none
        | true => initK fn.own 0 args fun τ ω => evalPK (callN E n) (loopN E n) fn.code τ ω Q (retPK fn.res fn.rc)
def loopN (E : PEnv) : Nat → PLoopF
  | 0, _, _, _, _ => none
  | n + 1, c, τ, ω, Q => evalPK (callN E n) (loopN E n) c τ ω Q (goX (fun τ ω Q => loopN E n c τ ω Q) ret4)
end
end Go.Ab
set_option linter.unusedVariables false
set_option linter.unusedSimpArgs false
set_option linter.unusedSectionVars false
namespace Go.Ab
section
variable {α β γ : Type}
theorem uncur_curry : ∀ (n : Nat) (f : List AV → Option β) (l : List AV), uncur n (curry n f) l = if l.length = n then f l else none
  | 0, f, [] => rfl
  | 0, f, _ :: _ => rfl
  | n + 1, f, [] => by simp [uncur]
  | n + 1, f, a :: l => by
    show uncur n (curry n fun l => f (a :: l)) l = _
    rw [uncur_curry n]
    simp
theorem bnC_eq (n : Nat) (o : Option (List AV)) (f : List AV → Option β) : bnC n o (curry n f) = o.bind fun l => if l.length = n then f l else none := by
  cases o with
  | none => rfl
  | some l => exact uncur_curry n f l
theorem bnC_bind (n : Nat) (o : Option (List AV)) (f : List AV → Option β) (g : β → Option γ) : (bnC n o (curry n f)).bind g = bnC n o (curry n fun l => (f l).bind g) := by
  rw [bnC_eq, bnC_eq]
  cases o with
  | none => rfl
  | some l => by_cases h : l.length = n <;> simp [h]
theorem bnP_bind (o : Option AV) (k : AV → Option β) (g : β → Option γ) : (bnP o k).bind g = bnP o fun v => (k v).bind g := by cases o <;> rfl
theorem bnL_bind (o : Option (List AV)) (k : List AV → Option β) (g : β → Option γ) : (bnL o k).bind g = bnL o fun v => (k v).bind g := by cases o <;> rfl
theorem bnN_bind (o : Option Nat) (k : Nat → Option β) (g : β → Option γ) : (bnN o k).bind g = bnN o fun v => (k v).bind g := by cases o <;> rfl
theorem pinB_bind (b : Bool) (o : Option β) (g : β → Option γ) : (pinB b o).bind g = pinB b (o.bind g) := by cases b <;> rfl
theorem litK_bind (z : Nat) (g : β → Option γ) : ∀ (i : Nat) (l : List (Nat × Nat × AV)) (k : List AV → Option β), (litK z i l k).bind g = litK z i l fun m => (k m).bind g
  | i, [], k => rfl
  | i, (o, s, a) :: l, k => by
    unfold litK
    split
    · rw [pinB_bind, litK_bind z g (i + 1) l]
    · rfl
theorem outV_bind (τ : PT) (o : AOper) (r : Option AV) (k : PT → Option β) (g : β → Option γ) : (outV τ o r k).bind g = outV τ o r fun τ => (k τ).bind g := by
  unfold outV; split <;> rw [bnP_bind]
theorem outC_bind (τ : PT) (o : AOper) (n : Nat) (r : Option (List AV)) (k : PT → Option β) (g : β → Option γ) : (outC τ o n r k).bind g = outC τ o n r fun τ => (k τ).bind g := by
  unfold outC; split
  · rw [bnC_bind]
  · rw [bnP_bind]
theorem outE_bind (τ : PT) (o : AOper) (r : Option AV) (k : PT → Option β) (g : β → Option γ) : (outE τ o r k).bind g = outE τ o r fun τ => (k τ).bind g := by
  unfold outE; split <;> rw [bnP_bind]
theorem bnG_bind (τ : PT) (o : AOper) (r : Option Nat) (k : Nat → Option β) (g : β → Option γ) : (bnG τ o r k).bind g = bnG τ o r fun n => (k n).bind g := by
  unfold bnG; split <;> rw [bnN_bind]
abbrev PS := PT × PW × AHeap
def out3 : PT → PW → AHeap → Option PS := fun τ ω Q => some (τ, ω, Q)
theorem callK_nat (call : CallF) (o : AOper) (m : PMode) (τ : PT) (ω : PW) (Q : AHeap) (f : Nat) (fs cs : List AV) (args : List AX) (k : PT → PW → AHeap → Option β) :
    callK call o m τ ω Q f fs cs args k = (callK call o m τ ω Q f fs cs args out3).bind fun s => k s.1 s.2.1 s.2.2 := by
  unfold callK
  cases m <;> simp only []
  · simp only [bnS_bind, out3, Option.bind_some]
  · split
    · simp only [bnS_bind, bnL_bind, out3, Option.bind_some]
    · rfl
  · rfl
  · split
    · split
      · split
        · split
          · simp only [bnS_bind, bnL_bind, out3, Option.bind_some]
          · rfl
        · rfl
      · rfl
    · rfl
  · split
    · split
      · split
        · split
          · simp only [bnS_bind, out3, Option.bind_some]
          · rfl
        · rfl
      · rfl
    · rfl
  · rw [bnS_bind]
    congr 1
    funext v Q'
    cases flatR v <;> rfl
  · rfl
theorem bnF_bind (v : AV) (k : Nat → List AV → List AV → Option β) (g : β → Option γ) : (bnF v k).bind g = bnF v fun f fs cs => (k f fs cs).bind g := by cases v <;> rfl
theorem appK_nat (d z bytes : Nat) (τ : PT) (ω : PW) (Q : AHeap) (s x : TV) (k : PT → PW → AHeap → Option β) : appK d z bytes τ ω Q s x k = (appK d z bytes τ ω Q s x out3).bind fun s => k s.1 s.2.1 s.2.2 := by
  unfold appK
  split
  · split
    · simp only [bnL_bind, pinB_bind, out3, Option.bind_some]
    · rfl
  · simp only [bnL_bind, pinB_bind, out3, Option.bind_some]
  · split
    · split
      · simp only [bnL_bind, pinB_bind, out3, Option.bind_some]
      · rfl
    · rfl
  · rfl
theorem popK_nat (call : CallF) (o : AOper) (m : PMode) (τ : PT) (ω : PW) (Q : AHeap) (k : PT → PW → AHeap → Option β) :
    popK call o m τ ω Q k = (popK call o m τ ω Q out3).bind fun s => k s.1 s.2.1 s.2.2 := by
  unfold popK
  by_cases hcall : ∃ f args, o.op = .call f args
  · obtain ⟨f, args, ho⟩ := hcall
    rw [ho]
    simp only []
    split
    · rw [bnF_bind]
      congr 1
      funext f fs cs
      exact callK_nat _ _ _ _ _ _ _ _ _ _ _
    · simp only [bnS_bind, out3, Option.bind_some]
  cases hop : o.op
  case call f args => exact absurd ⟨f, args, hop⟩ hcall
  all_goals simp only [outT, outV_bind, outC_bind, outE_bind, bnG_bind, out3, Option.bind_some, Option.bind_none]
  all_goals first
    | rfl
    | (repeat' split) <;> first
      | rfl
      | (simp only [outT, outV_bind, outC_bind, outE_bind, bnG_bind, bnP_bind, bnL_bind, bnN_bind, bnC_bind, bnS_bind, pinB_bind, litK_bind, out3, Option.bind_some, Option.bind_none]; done)
      | exact callK_nat _ _ _ _ _ _ _ _ _ _ _
      | exact appK_nat _ _ _ _ _ _ _ _ _
      | skip
end
end Go.Ab
set_option linter.unusedVariables false
set_option linter.unusedSimpArgs false
set_option linter.unusedSectionVars false
namespace Go.Ab
section
variable {α β γ : Type}
def App (y : Option α) (x : Nat → Option α) : Prop := ∀ b, y = some b → ∃ n, ∀ m, n ≤ m → x m = some b
theorem App.same (y : Option α) : App y fun _ => y := fun b h => ⟨0, fun _ _ => h⟩
theorem App.none {x : Nat → Option α} : App Option.none x := fun b h => by cases h
theorem App.bind {y : Option α} {x : Nat → Option α} {k : α → Option β} {K : Nat → α → Option β} (h : App y x) (hk : ∀ a, App (k a) fun m => K m a) : App (y.bind k) fun m => (x m).bind (K m) := by
  intro b hb
  cases y with
  | none => cases hb
  | some a =>
    obtain ⟨n, hn⟩ := h a rfl
    obtain ⟨n', hn'⟩ := hk a b hb
    exact ⟨max n n', fun m hm => by show _ = _; simp only [hn m (by omega)]; exact hn' m (by omega)⟩
theorem App.bnS {y : Option (AV × AHeap)} {x : Nat → Option (AV × AHeap)} {k : AV → AHeap → Option β} {K : Nat → AV → AHeap → Option β} (h : App y x) (hk : ∀ a Q, App (k a Q) fun m => K m a Q) : App (Go.Ab.bnS y k) fun m => Go.Ab.bnS (x m) (K m) := by
  intro b hb
  cases y with
  | none => cases hb
  | some a =>
    obtain ⟨n, hn⟩ := h a rfl
    obtain ⟨n', hn'⟩ := hk a.1 a.2 b hb
    exact ⟨max n n', fun m hm => by show _ = _; simp only [hn m (by omega)]; exact hn' m (by omega)⟩
theorem App.bnL (o : Option (List AV)) {k : List AV → Option β} {K : Nat → List AV → Option β} (hk : ∀ a, App (k a) fun m => K m a) : App (Go.Ab.bnL o k) fun m => Go.Ab.bnL o (K m) := by
  cases o with
  | none => exact App.none
  | some a => exact hk a
theorem App.bnP (o : Option AV) {k : AV → Option β} {K : Nat → AV → Option β} (hk : ∀ a, App (k a) fun m => K m a) : App (Go.Ab.bnP o k) fun m => Go.Ab.bnP o (K m) := by
  cases o with
  | none => exact App.none
  | some a => exact hk a
theorem App.pinB (c : Bool) {y : Option β} {x : Nat → Option β} (h : App y x) : App (Go.Ab.pinB c y) fun m => Go.Ab.pinB c (x m) := by
  cases c with
  | false => exact App.none
  | true => exact h
def isCall : AOp → Bool
  | .call .. | .inv .. => true
  | _ => false
theorem popK_call {call call' : CallF} {o : AOper} (h : isCall o.op = false) (m : PMode) (τ : PT) (ω : PW) (Q : AHeap) (k : PT → PW → AHeap → Option β) : popK call o m τ ω Q k = popK call' o m τ ω Q k := by
  unfold popK
  cases e : o.op <;> rw [e] at h <;> simp only [isCall, Bool.true_eq_false] at h <;> first | rfl | (rename_i mx; cases mx <;> rfl) | (rename_i n _; cases n <;> rfl)
abbrev CApp (call : CallF) (C : Nat → CallF) : Prop := ∀ f a Q, App (call f a Q) fun m => C m f a Q
theorem gdH_app {v : AV} {w : Bool} {y : Option (AV × AHeap)} {x : Nat → Option (AV × AHeap)} (h : App y x) (Q : AHeap) : App (gdH v w y Q) fun m => gdH v w (x m) Q := by
  cases v <;> first | exact App.none | exact App.same _ | skip
  rename_i b
  simp only [gdH]
  split
  · exact h
  · exact App.same _
theorem invA_app {call : CallF} {C : Nat → CallF} (hc : CApp call C) (tab : List (Nat × Nat)) (r : AV) (args : List AV) (Q : AHeap) : App (invA call tab r args Q) fun m => invA (C m) tab r args Q := by
  unfold invA
  cases r <;> first | exact App.none | skip
  simp only []
  split
  · exact hc _ _ _
  · exact App.none
theorem lowF_app {call : CallF} {C : Nat → CallF} (hc : CApp call C) : CApp (lowF call) fun j => lowF (C j) := fun f a Q => by
  show App (match Nat.blt f tkey with
    | true => call f a Q
    | false => none) (fun j => match Nat.blt f tkey with
    | true => C j f a Q
    | false => none)
  cases Nat.blt f tkey
  · exact App.none
  · exact hc f a Q
theorem callK_app {call : CallF} {C : Nat → CallF} (hc : CApp call C) (o : AOper) (m : PMode) (τ : PT) (ω : PW) (Q : AHeap) (f : Nat) (fs cs : List AV) (args : List AX) {k : PT → PW → AHeap → Option β} {K : Nat → PT → PW → AHeap → Option β} (hk : ∀ τ ω Q, App (k τ ω Q) fun j => K j τ ω Q) :
    App (callK call o m τ ω Q f fs cs args k) fun j => callK (C j) o m τ ω Q f fs cs args (K j) := by
  unfold callK
  cases m <;> simp only []
  · exact App.bnS (lowF_app hc _ _ _) fun v Q' => hk _ _ _
  · split
    · exact App.bnS (lowF_app hc _ _ _) fun v Q' => App.bnL _ fun l => hk _ _ _
    · exact App.none
  · exact App.none
  · split
    · split
      · split
        · split
          · exact App.bnS (hc _ _ _) fun v Q' => App.bnL _ fun l => hk _ _ _
          · exact App.none
        · exact App.none
      · exact App.none
    · exact App.none
  · split
    · split
      · split
        · split
          · exact App.bnS (hc _ _ _) fun v Q' => hk _ _ _
          · exact App.none
        · exact App.none
      · exact App.none
    · exact App.none
  · exact App.bnS (lowF_app hc _ _ _) fun v Q' => by
      cases flatR v
      · exact App.none
      · exact hk _ _ _
  · exact App.none
theorem popK_app {call : CallF} {C : Nat → CallF} (hc : CApp call C) (o : AOper) (m : PMode) (τ : PT) (ω : PW) (Q : AHeap) {k : PT → PW → AHeap → Option β} {K : Nat → PT → PW → AHeap → Option β} (hk : ∀ τ ω Q, App (k τ ω Q) fun j => K j τ ω Q) :
    App (popK call o m τ ω Q k) fun j => popK (C j) o m τ ω Q (K j) := by
  cases h : isCall o.op with
  | false =>
    have e : (fun j => popK (C j) o m τ ω Q (K j)) = fun j => (popK call o m τ ω Q out3).bind fun s => K j s.1 s.2.1 s.2.2 := by
      funext j
      rw [popK_call (call' := call) h, popK_nat]
    rw [e, popK_nat]
    exact App.bind (App.same _) fun s => hk _ _ _
  | true =>
    unfold popK
    cases e : o.op <;> rw [e] at h <;> simp only [isCall, Bool.false_eq_true] at h
    · simp only []
      split
      · unfold bnF
        split
        · exact callK_app hc _ _ _ _ _ _ _ _ _ hk
        · exact App.none
      · refine App.bnS (gdH_app ?_ _) fun v Q' => hk _ _ _
        unfold bnF
        split
        · exact lowF_app hc _ _ _
        · exact App.none
    · simp only []
      split
      · exact App.bnS (invA_app (lowF_app hc) _ _ _ _) fun v Q' => hk _ _ _
      · exact App.bnS (gdH_app (invA_app (lowF_app hc) _ _ _ _) _) fun v Q' => hk _ _ _
theorem frzK_app : ∀ (l : List Nat) (τ : PT) (ω : PW) {k : PT → PW → Option β} {K : Nat → PT → PW → Option β} (hk : ∀ τ ω, App (k τ ω) fun j => K j τ ω), App (frzK l τ ω k) fun j => frzK l τ ω (K j)
  | [], τ, ω, _, _, hk => hk τ ω
  | t :: l, τ, ω, k, K, hk => by
    unfold frzK
    cases getT τ t <;> simp only [] <;> first | exact App.none | skip
    · exact frzK_app l _ _ hk
    · rename_i j o
      cases lkp ω j with
      | none => exact App.none
      | some s =>
        cases s with
        | cells cs => exact frzK_app l _ _ hk
        | own z xs => exact App.none
    · rename_i j
      cases lkp ω j with
      | none => exact App.none
      | some s =>
        cases s with
        | cells cs => exact App.none
        | own z xs => exact frzK_app l _ _ hk
theorem opsK_app {call : CallF} {C : Nat → CallF} (hc : CApp call C) : ∀ (l : List (AOper × PM)) (τ : PT) (ω : PW) (Q : AHeap) {k : PT → PW → AHeap → Option β} {K : Nat → PT → PW → AHeap → Option β} (hk : ∀ τ ω Q, App (k τ ω Q) fun j => K j τ ω Q),
    App (opsK call l τ ω Q k) fun j => opsK (C j) l τ ω Q (K j)
  | [], τ, ω, Q, _, _, hk => hk τ ω Q
  | (o, m) :: l, τ, ω, Q, k, K, hk => by
    simp only [opsK, nrmK_eq]
    exact frzK_app m.fz τ ω fun τ ω => popK_app hc o m.m τ ω Q fun τ ω Q => opsK_app hc l τ ω Q hk
theorem dregK_app {call : CallF} {C : Nat → CallF} (hc : CApp call C) : ∀ (l : List ((AOper × DK) × PM)) (recs : List (Bool × PLoc)) (τ : PT) (ω : PW) (Q : AHeap) {k : PT → PW → AHeap → Option β} {K : Nat → PT → PW → AHeap → Option β} (hk : ∀ τ ω Q, App (k τ ω Q) fun j => K j τ ω Q),
    App (dregK call l recs τ ω Q k) fun j => dregK (C j) l recs τ ω Q (K j)
  | [], recs, τ, ω, Q, _, _, hk => hk τ ω Q
  | ((o, dk), m) :: l, recs, τ, ω, Q, k, K, hk => by
    simp only [dregK, nrmK_eq]
    cases m.fz with
    | cons _ _ => exact App.none
    | nil =>
      cases dk with
      | q =>
        simp only []
        cases isQ o.op with
        | false => exact App.none
        | true => exact popK_app hc o .n τ ω Q fun τ2 ω2 Q2 => dregK_app hc l _ τ2 ω2 Q2 hk
      | al j =>
        simp only []
        cases o.guard with
        | some _ => exact App.none
        | none => exact popK_app hc o m.m τ ω Q fun τ2 ω2 Q2 => dregK_app hc l _ τ2 ω2 Q2 hk
      | ef pins =>
        simp only []
        cases isTake m.m with
        | true =>
          simp only []
          cases slotT τ o with
          | none => exact App.none
          | some j => exact popK_app hc o m.m τ ω Q fun τ2 ω2 Q2 => App.pinB _ (dregK_app hc l _ τ2 ω2 Q2 hk)
        | false => exact popK_app hc o m.m τ ω Q fun τ2 ω2 Q2 => App.pinB _ (dregK_app hc l _ τ2 ω2 Q2 hk)
abbrev LApp (lp : PLoopF) (L : Nat → PLoopF) : Prop := ∀ c τ ω Q, App (lp c τ ω Q) fun m => L m c τ ω Q
theorem App.bnX {y : Option PEnd} {x : Nat → Option PEnd} {k : PK β} {K : Nat → PK β} (h : App y x) (hk : ∀ ex τ ω Q, App (k ex τ ω Q) fun m => K m ex τ ω Q) : App (Go.Ab.bnX y k) fun m => Go.Ab.bnX (x m) (K m) := by
  intro b hb
  cases y with
  | none => cases hb
  | some a =>
    obtain ⟨ex, τ, ω, Q⟩ := a
    obtain ⟨n, hn⟩ := h _ rfl
    obtain ⟨n', hn'⟩ := hk ex τ ω Q b hb
    exact ⟨max n n', fun m hm => by show _ = _; simp only [hn m (by omega)]; exact hn' m (by omega)⟩
theorem goX_app {k1 : PT → PW → AHeap → Option β} {K1 : Nat → PT → PW → AHeap → Option β} {k : PK β} {K : Nat → PK β} (h1 : ∀ τ ω Q, App (k1 τ ω Q) fun m => K1 m τ ω Q) (hk : ∀ ex τ ω Q, App (k ex τ ω Q) fun m => K m ex τ ω Q) :
    ∀ ex τ ω Q, App (goX k1 k ex τ ω Q) fun m => goX (K1 m) (K m) ex τ ω Q := by
  intro ex τ ω Q
  cases ex with
  | normal => exact h1 τ ω Q
  | exit i => exact hk _ τ ω Q
  | ret => exact hk _ τ ω Q
theorem outX_app (i : Nat) {k : PK β} {K : Nat → PK β} (hk : ∀ ex τ ω Q, App (k ex τ ω Q) fun m => K m ex τ ω Q) :
    ∀ ex τ ω Q, App (outX i k ex τ ω Q) fun m => outX i (K m) ex τ ω Q := by
  intro ex τ ω Q
  cases ex with
  | normal => exact hk _ τ ω Q
  | exit i => exact hk _ τ ω Q
  | ret => exact hk _ τ ω Q
theorem ownK_app (t z : Nat) (τ : PT) (ω : PW) {k : PT → PW → Option β} {K : Nat → PT → PW → Option β} (hk : ∀ τ ω, App (k τ ω) fun j => K j τ ω) : App (ownK t z τ ω k) fun j => ownK t z τ ω (K j) := by
  unfold ownK
  cases getT τ t <;> first | exact App.none | skip
  · rename_i a; cases a <;> first | exact App.none | exact hk _ _
  · rename_i j
    cases h : Nat.beq j t
    · simp only [h]; exact App.none
    · simp only [h]; exact hk _ _
theorem ownsK_app : ∀ (l : List (Nat × Nat)) (τ : PT) (ω : PW) {k : PT → PW → Option β} {K : Nat → PT → PW → Option β} (hk : ∀ τ ω, App (k τ ω) fun j => K j τ ω), App (ownsK l τ ω k) fun j => ownsK l τ ω (K j)
  | [], τ, ω, _, _, hk => hk τ ω
  | (t, z) :: l, τ, ω, k, K, hk => by
    simp only [ownsK]
    exact ownK_app t z τ ω fun τ ω => ownsK_app l τ ω hk
theorem finK_app (own : List (Nat × Nat)) (fr ts : List Nat) (ks : List (Nat × Nat)) (τ : PT) (ω : PW) (Q : AHeap) {k : PK β} {K : Nat → PK β} (hk : ∀ ex τ ω Q, App (k ex τ ω Q) fun j => K j ex τ ω Q) : App (finK own fr ts ks τ ω Q k) fun j => finK own fr ts ks τ ω Q (K j) := by
  unfold finK
  refine ownsK_app own τ ω fun τ ω => frzK_app fr τ ω fun τ ω => ?_
  split
  · exact hk _ _ _ _
  · exact App.none
theorem evalPK_app {call : CallF} {C : Nat → CallF} {lp : PLoopF} {L : Nat → PLoopF} (hc : CApp call C) (hl : LApp lp L) : ∀ {β : Type} (c : PCode) (τ : PT) (ω : PW) (Q : AHeap) {k : PK β} {K : Nat → PK β} (hk : ∀ ex τ ω Q, App (k ex τ ω Q) fun j => K j ex τ ω Q),
    App (evalPK call lp c τ ω Q k) fun j => evalPK (C j) (L j) c τ ω Q (K j)
  | _, .skip, τ, ω, Q, _, _, hk => hk _ τ ω Q
  | _, .ret, τ, ω, Q, _, _, hk => hk _ τ ω Q
  | _, .exit i, τ, ω, Q, _, _, hk => hk _ τ ω Q
  | _, .reg ops, τ, ω, Q, k, K, hk => opsK_app hc ops τ ω Q fun τ ω Q => hk .normal τ ω Q
  | _, .dreg na ops, τ, ω, Q, k, K, hk => dregK_app hc ops [] τ ω Q fun τ ω Q => hk .normal τ ω Q
  | _, .seq a b, τ, ω, Q, k, K, hk => by
    simp only [evalPK]
    have h1 := goX_app (k1 := fun τ ω Q => evalPK call lp b τ ω Q k) (K1 := fun j τ ω Q => evalPK (C j) (L j) b τ ω Q (K j)) (fun τ ω Q => evalPK_app hc hl b τ ω Q hk) hk
    split
    · exact evalPK_app hc hl a τ ω Q h1
    · exact evalPK_app hc hl a τ ω Q h1
    · exact App.bnX (evalPK_app hc hl a τ ω Q fun ex τ ω Q => App.same _) h1
  | _, .cond x a b, τ, ω, Q, k, K, hk => by
    simp only [evalPK]
    unfold cndS
    split
    · exact evalPK_app hc hl a τ ω Q hk
    · exact evalPK_app hc hl b τ ω Q hk
    · exact App.none
  | _, .block i c, τ, ω, Q, k, K, hk => by
    simp only [evalPK]
    split
    · exact evalPK_app hc hl c τ ω Q (outX_app i hk)
    · exact evalPK_app hc hl c τ ω Q (outX_app i hk)
    · exact App.bnX (evalPK_app hc hl c τ ω Q fun ex τ ω Q => App.same _) (outX_app i hk)
  | _, .loop c, τ, ω, Q, k, K, hk => App.bnX (hl c τ ω Q) hk
  | _, .keep ts ks c, τ, ω, Q, k, K, hk => by
    simp only [evalPK]
    split
    · exact evalPK_app hc hl c _ _ Q hk
    · exact App.none
  | _, .frz ts c, τ, ω, Q, k, K, hk => frzK_app ts τ ω fun τ ω => evalPK_app hc hl c τ ω Q hk
  | _, .hf t z c, τ, ω, Q, k, K, hk => App.bnS (App.same _) fun v Q' => evalPK_app hc hl c _ ω Q' hk
  | _, .fin c own fr ts ks, τ, ω, Q, k, K, hk => evalPK_app hc hl c τ ω Q (goX_app (k1 := fun τ ω Q => finK own fr ts ks τ ω Q k) (K1 := fun j τ ω Q => finK own fr ts ks τ ω Q (K j)) (fun τ ω Q => finK_app own fr ts ks τ ω Q hk) hk)
  | _, .own t z c, τ, ω, Q, k, K, hk => ownK_app t z τ ω fun τ ω => evalPK_app hc hl c τ ω Q hk
theorem initK_app (own : List (Nat × Nat)) : ∀ {β : Type} (i : Nat) (args : List AV) {k : PT → PW → Option β} {K : Nat → PT → PW → Option β} (hk : ∀ τ ω, App (k τ ω) fun j => K j τ ω), App (initK own i args k) fun j => initK own i args (K j)
  | _, _, [], _, _, hk => hk _ _
  | _, i, a :: l, k, K, hk => by
    simp only [initK]
    split
    · exact App.bnL _ fun m => initK_app own (i + 1) l fun τ ω => hk _ _
    · exact initK_app own (i + 1) l fun τ ω => hk _ _
end
variable {E : PEnv}
theorem nle : ∀ n, (∀ f a Q r, callN E n f a Q = some r → callN E (n + 1) f a Q = some r) ∧ ∀ c τ ω Q r, loopN E n c τ ω Q = some r → loopN E (n + 1) c τ ω Q = some r := by
  intro n
  induction n with
  | zero => exact ⟨fun f a Q r h => by simp [callN] at h, fun c τ ω Q r h => by simp [loopN] at h⟩
  | succ n ih =>
    have hc : CApp (callN E n) fun _ => callN E (n + 1) := fun f a Q b hb => ⟨0, fun _ _ => ih.1 f a Q b hb⟩
    have hl : LApp (loopN E n) fun _ => loopN E (n + 1) := fun c τ ω Q b hb => ⟨0, fun _ _ => ih.2 c τ ω Q b hb⟩
    refine ⟨fun f a Q r h => ?_, fun c τ ω Q r h => ?_⟩
    · unfold callN at h ⊢
      cases hs : E.spec f with
      | some g => rw [hs] at h; exact h
      | none =>
        rw [hs] at h
        cases hf : E.fns f with
        | none => rw [hf] at h; exact h
        | some fn =>
          rw [hf] at h
          simp only at h ⊢
          cases hle : Nat.ble a.length fn.nt with
          | false => rw [hle] at h; cases h
          | true =>
          rw [hle] at h
          obtain ⟨m, hm⟩ := initK_app fn.own 0 a (k := fun τ ω => evalPK (callN E n) (loopN E n) fn.code τ ω Q (retPK fn.res fn.rc)) (K := fun _ τ ω => evalPK (callN E (n + 1)) (loopN E (n + 1)) fn.code τ ω Q (retPK fn.res fn.rc))
            (fun τ ω => evalPK_app hc hl fn.code τ ω Q fun ex τ ω Q => App.same _) r h
          exact hm m (Nat.le_refl m)
    · unfold loopN at h ⊢
      obtain ⟨m, hm⟩ := evalPK_app hc hl c τ ω Q (goX_app (k1 := fun τ ω Q => loopN E n c τ ω Q) (K1 := fun _ τ ω Q => loopN E (n + 1) c τ ω Q) (fun τ ω Q => hl c τ ω Q) (fun ex τ ω Q => App.same (ret4 ex τ ω Q))) r h
      exact hm m (Nat.le_refl m)
theorem callN_le {n m : Nat} (h : n ≤ m) {f : Nat} {a : List AV} {Q : AHeap} {r : AV × AHeap} (e : callN E n f a Q = some r) : callN E m f a Q = some r := by
  induction h with
  | refl => exact e
  | step _ ih => exact (nle _).1 f a Q r ih
theorem loopN_le {n m : Nat} (h : n ≤ m) {c : PCode} {τ : PT} {ω : PW} {Q : AHeap} {r : PEnd} (e : loopN E n c τ ω Q = some r) : loopN E m c τ ω Q = some r := by
  induction h with
  | refl => exact e
  | step _ ih => exact (nle _).2 c τ ω Q r ih
open Classical in
noncomputable def callP (E : PEnv) : CallF := fun f args Q => if h : ∃ r n, callN E n f args Q = some r then some (Classical.choose h) else none
open Classical in
noncomputable def loopP (E : PEnv) : PLoopF := fun c τ ω Q => if h : ∃ r n, loopN E n c τ ω Q = some r then some (Classical.choose h) else none
theorem callP_iff {f : Nat} {args : List AV} {Q : AHeap} {r : AV × AHeap} : callP E f args Q = some r ↔ ∃ n, callN E n f args Q = some r := by
  unfold callP
  split
  · rename_i h
    constructor
    · intro e
      obtain rfl := Option.some.inj e
      exact Classical.choose_spec h
    · rintro ⟨n, hn⟩
      obtain ⟨m, hm⟩ := Classical.choose_spec h
      have h1 := callN_le (Nat.le_max_left n m) hn
      have h2 := callN_le (Nat.le_max_right n m) hm
      rw [h1] at h2
      exact h2.symm
  · rename_i h
    exact ⟨fun e => (by cases e), fun ⟨n, hn⟩ => absurd ⟨r, n, hn⟩ h⟩
theorem loopP_iff {c : PCode} {τ : PT} {ω : PW} {Q : AHeap} {r : PEnd} : loopP E c τ ω Q = some r ↔ ∃ n, loopN E n c τ ω Q = some r := by
  unfold loopP
  split
  · rename_i h
    constructor
    · intro e
      obtain rfl := Option.some.inj e
      exact Classical.choose_spec h
    · rintro ⟨n, hn⟩
      obtain ⟨m, hm⟩ := Classical.choose_spec h
      have h1 := loopN_le (Nat.le_max_left n m) hn
      have h2 := loopN_le (Nat.le_max_right n m) hm
      rw [h1] at h2
      exact h2.symm
  · rename_i h
    exact ⟨fun e => (by cases e), fun ⟨n, hn⟩ => absurd ⟨r, n, hn⟩ h⟩
theorem callP_app : CApp (callP E) (callN E) := fun f a Q b hb => by
  obtain ⟨n, hn⟩ := callP_iff.1 hb
  exact ⟨n, fun m hm => callN_le hm hn⟩
theorem loopP_app : LApp (loopP E) (loopN E) := fun c τ ω Q b hb => by
  obtain ⟨n, hn⟩ := loopP_iff.1 hb
  exact ⟨n, fun m hm => loopN_le hm hn⟩
theorem callN_app (n : Nat) : CApp (callN E n) fun _ => callP E := fun f a Q b hb => ⟨0, fun _ _ => callP_iff.2 ⟨n, hb⟩⟩
theorem loopN_app (n : Nat) : LApp (loopN E n) fun _ => loopP E := fun c τ ω Q b hb => ⟨0, fun _ _ => loopP_iff.2 ⟨n, hb⟩⟩
theorem opt_ext {α : Type} {a b : Option α} (h1 : ∀ x, a = some x → b = some x) (h2 : ∀ x, b = some x → a = some x) : a = b := by
  cases a with
  | some x => exact (h1 x rfl).symm
  | none => cases b with
    | none => rfl
    | some y => exact h2 y rfl
theorem callP_spec {f : Nat} {g : List AV → Option AV} (hs : E.spec f = some g) (args : List AV) (Q : AHeap) : callP E f args Q = (g args).map fun v => (v, Q) := by
  refine opt_ext (fun r h => ?_) fun r h => callP_iff.2 ⟨1, by simp only [callN, hs]; exact h⟩
  obtain ⟨n, hn⟩ := callP_iff.1 h
  cases n with
  | zero => simp [callN] at hn
  | succ n => simpa only [callN, hs] using hn
theorem callP_fn {f : Nat} {fn : PFn} (hs : E.spec f = none) (hf : E.fns f = some fn) (args : List AV) (Q : AHeap) (hle : Nat.ble args.length fn.nt = true) :
    callP E f args Q = initK fn.own 0 args fun τ ω => evalPK (callP E) (loopP E) fn.code τ ω Q (retPK fn.res fn.rc) := by
  refine opt_ext (fun r h => ?_) fun r h => ?_
  · obtain ⟨n, hn⟩ := callP_iff.1 h
    cases n with
    | zero => simp [callN] at hn
    | succ n =>
      simp only [callN, hs, hf, hle] at hn
      obtain ⟨m, hm⟩ := initK_app fn.own 0 args (K := fun _ τ ω => evalPK (callP E) (loopP E) fn.code τ ω Q (retPK fn.res fn.rc))
        (fun τ ω => evalPK_app (callN_app n) (loopN_app n) fn.code τ ω Q fun ex τ ω Q => App.same _) r hn
      exact hm m (Nat.le_refl m)
  · obtain ⟨m, hm⟩ := initK_app fn.own 0 args (K := fun j τ ω => evalPK (callN E j) (loopN E j) fn.code τ ω Q (retPK fn.res fn.rc))
        (fun τ ω => evalPK_app callP_app loopP_app fn.code τ ω Q fun ex τ ω Q => App.same _) r h
    exact callP_iff.2 ⟨m + 1, by simp only [callN, hs, hf, hle]; exact hm m (Nat.le_refl m)⟩
theorem callP_fn0 {f z : Nat} {fn : PFn} (hs : E.spec f = none) (hf : E.fns f = some fn) (hown : fn.own = [(0, z)]) (l : List AV) (a : AV) (Q : AHeap) (hle : Nat.ble 2 fn.nt = true) :
    callP E f [.ow z l, a] Q = evalPK (callP E) (loopP E) fn.code [(0, .ls 0), (1, .v a)] [(0, .own z l)] Q (retPK fn.res fn.rc) := by
  rw [callP_fn hs hf [.ow z l, a] Q hle, hown]
  simp [initK, lkp, owZ, bnL, Nat.beq]
theorem loopP_body {c : PCode} {τ : PT} {ω : PW} {Q : AHeap} : loopP E c τ ω Q = evalPK (callP E) (loopP E) c τ ω Q (goX (fun τ ω Q => loopP E c τ ω Q) ret4) := by
  refine opt_ext (fun r h => ?_) fun r h => ?_
  · obtain ⟨n, hn⟩ := loopP_iff.1 h
    cases n with
    | zero => simp [loopN] at hn
    | succ n =>
      simp only [loopN] at hn
      obtain ⟨m, hm⟩ := evalPK_app (callN_app n) (loopN_app n) c τ ω Q (goX_app (k1 := fun τ ω Q => loopN E n c τ ω Q) (K1 := fun _ τ ω Q => loopP E c τ ω Q) (fun τ ω Q => loopN_app n c τ ω Q) (fun ex τ ω Q => App.same (ret4 ex τ ω Q))) r hn
      exact hm m (Nat.le_refl m)
  · obtain ⟨m, hm⟩ := evalPK_app callP_app loopP_app c τ ω Q (goX_app (k1 := fun τ ω Q => loopP E c τ ω Q) (K1 := fun j τ ω Q => loopN E j c τ ω Q) (fun τ ω Q => loopP_app c τ ω Q) (fun ex τ ω Q => App.same (ret4 ex τ ω Q))) r h
    exact loopP_iff.2 ⟨m + 1, by simp only [loopN]; exact hm m (Nat.le_refl m)⟩
end Go.Ab
