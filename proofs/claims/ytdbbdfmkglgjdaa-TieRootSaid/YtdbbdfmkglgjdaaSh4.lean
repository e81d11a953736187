/- Operations told by the values that they take: those that only look (opP), those that do something (opE). -/
import Derived.Test.YtdbbdfmkglgjdaaSh3
set_option linter.unusedVariables false
set_option linter.unusedSimpArgs false
set_option linter.unusedSectionVars false
namespace Go.Ab
def bnP {β : Type} (o : Option AV) (k : AV → Option β) : Option β := match o with
  | some v => k v
  | none => none
def gdP (w : Bool) (o : Option AV) : Option AV := if w then o else some undefA
def pickA (c a b : AV) : Option AV := match c with
  | .bool true => some a
  | .bool false => some b
  | _ => none
def ldA (H : AHeap) (x : AV) : Option AV := match x with
  | .ptr r o => H.cell r o
  | _ => none
def ldnA (H : AHeap) (n : Nat) (x : AV) : Option AV := match x with
  | .ptr r o => (H.row r o n).map .agg
  | _ => none
def nckA (x : AV) : Option AV := match x with
  | .ptr r o => some (.ptr r o)
  | _ => none
def eqsA (neg : Bool) (q : EqT) (x y : AV) : Option AV := (eqA q x y).map fun b => .bool (b != neg)
def eqnA (neg : Bool) (c : Nat) (x : AV) : Option AV := (nilA c x).map fun b => .bool (b != neg)
def cviA (k : IntKind) (x : AV) : Option AV := match x with
  | .int _ n => some (.int k (k.wrap n))
  | _ => none
def cvsA (x : AV) : Option AV := match x with
  | .str s => some (.str s)
  | _ => none
def b2sA (H : AHeap) (x : AV) : Option AV := match x with
  | .nils => some (.str [])
  | .zs .. => some (.str [])
  | .sl r o len _ => match H.row r o len with
    | some cs => match mapO byteA cs with
      | some bs => some (.str bs)
      | none => none
    | none => none
  | _ => none
def slcP (H : AHeap) (esz : Nat) (x : AV) (lo hi mx : Option AV) : Option AV := (slcA H esz x lo hi mx).map fun p => p.1
def slsA (x : AV) (lo hi : Option AV) : Option AV := match x with
  | .str s => match bndo hi s.length s.length with
    | none => none
    | some h => match bndo lo 0 h with
      | none => none
      | some l => some (.str ((s.take h).drop l))
  | _ => none
def slaA (n esz : Nat) (x : AV) (lo hi : Option AV) : Option AV := match x with
  | .ptr r o => match bndo hi n n with
    | none => none
    | some h => match bndo lo 0 h with
      | none => none
      | some l => some (.sl r (if n = l then o else o + l * esz) (h - l) (.ex (n - l)))
  | _ => none
def fadA (off : Nat) (x : AV) : Option AV := match x with
  | .ptr r o => some (.ptr r (o + off))
  | _ => none
def fldA (off : Nat) (n : Option Nat) (x : AV) : Option AV := match x with
  | .agg cs => partA cs off n
  | _ => none
def iadA (esz : Nat) (x i : AV) : Option AV := match x, i with
  | .sl r o len _, .int _ i => if 0 ≤ i ∧ i < len then some (.ptr r (o + i.toNat * esz)) else none
  | _, _ => none
def iaaA (n esz : Nat) (x i : AV) : Option AV := match x, i with
  | .ptr r o, .int _ i => if 0 ≤ i ∧ i < n then some (.ptr r (o + i.toNat * esz)) else none
  | _, _ => none
def ixsA (x i : AV) : Option AV := match x, i with
  | .str s, .int _ i => if 0 ≤ i then match s[i.toNat]? with
    | some b => some (.int .u8 b.toNat)
    | none => none
    else none
  | _, _ => none
def ixaA (n esz : Nat) (k : Option Nat) (x i : AV) : Option AV := match x, i with
  | .agg cs, .int _ i => if 0 ≤ i ∧ i < n then partA cs (i.toNat * esz) k else none
  | _, _ => none
def tasP (t : Nat) (z : AV) (ok : Bool) (x : AV) : Option AV := match x with
  | .ifc t' v => if t' = t then some (if ok then .tup [v, .bool true] else v) else if ok then some (.tup [z, .bool false]) else none
  | .nilifc => if ok then some (.tup [z, .bool false]) else none
  | _ => none
def extA (x : AV) (i : Nat) : Option AV := match x with
  | .tup vs => vs[i]?
  | _ => none
def lensA (x : AV) : Option AV := match x with
  | .str s => some (.int .i64 s.length)
  | _ => none
def lenA (x : AV) : Option AV := match x with
  | .nils => some (.int .i64 0)
  | .sl _ _ n _ => some (.int .i64 n)
  | .zs .. => some (.int .i64 0)
  | _ => none
def capA (x : AV) : Option AV := match x with
  | .nils => some (.int .i64 0)
  | .sl _ _ _ (.ex c) => some (.int .i64 c)
  | _ => none
def mxiA (l : List AV) : Option AV := match l with
  | x :: rest => rest.foldl stepMax (some x)
  | [] => none
def mniA (l : List AV) : Option AV := match l with
  | x :: rest => rest.foldl stepMin (some x)
  | [] => none
def newcA (H : AHeap) (cs : List AV) : Option (AV × AHeap) := if cs.all AV.one then some (.ptr H.size 0, H.push (some (.cells .exact cs.length cs))) else none
def bslA (H : AHeap) (esz : Nat) (z : List AV) (n : Nat) (ps : List (Nat × Nat × AV)) : Option (AV × AHeap) :=
  if esz = 0 ∨ z.length ≠ esz ∨ 16777216 < n * esz then none else
    match fillA (repl n z) ps with
    | some cs => if cs.all AV.one then some (.sl H.size 0 n (.ex n), H.push (some (.cells .exact esz cs))) else none
    | none => none
def stA (H : AHeap) (n : Nat) (a v : AV) : Option (AV × AHeap) := match a with
  | .ptr r o => if v.cells.length = n then (H.write r o v.cells).map fun H' => (undefA, H') else none
  | _ => none
def stfA (H : AHeap) (x : AV) : Option (AV × AHeap) := match x with
  | .sl r o len cap => match H.get r with
    | some (.cells k z cs) => if k = .ro then none else some (.sl r o len cap, H.put r (some (.cells .stiff z cs)))
    | _ => none
  | _ => none
def s2bA (H : AHeap) (x : AV) : Option (AV × AHeap) := match x with
  | .str s => if s.length ≤ maxBytes then some (.sl H.size 0 s.length (.mi 0), H.push (some (.cells .stiff 1 (s.map fun b => .int .u8 b.toNat)))) else none
  | _ => none
def mksA (H : AHeap) (esz bytes : Nat) (z : List AV) (l c : AV) : Option (AV × AHeap) := match l, c with
  | .int _ l, .int _ c => if 0 ≤ l ∧ l ≤ c ∧ c.toNat * bytes ≤ maxBytes ∧ c ≤ 70368744177664 ∧ esz ≠ 0 ∧ z.length = esz ∧ z.all AV.one then
      some (.sl H.size 0 l.toNat (.ex c.toNat), H.push (some (.cells .exact esz (repl c.toNat z)))) else none
  | _, _ => none
def appS (H : AHeap) (esz bytes : Nat) (z : List AV) (s x : AV) : Option (AV × AHeap) := if z.length = esz then appA H esz bytes s x else none
def apzA (H : AHeap) (esz bytes : Nat) (z : List AV) (s n : AV) : Option (AV × AHeap) := match s, n with
  | .sl r o len (.ex c), .int k n => if z.length = esz ∧ 0 < esz ∧ 0 < n ∧ c < len + n.toNat ∧ (len + n.toNat) * bytes ≤ maxBytes ∧ len + n.toNat ≤ maxBytes ∧ k = .i64 then
      match H.row r o (len * esz) with
      | some olds => some (.sl H.size 0 (len + n.toNat) (.mi 0), H.push (some (.cells .opened esz (olds ++ repl n.toNat z))))
      | none => none
    else none
  | _, _ => none
def cpyA (H : AHeap) (esz : Nat) (d s : AV) : Option (AV × AHeap) := match lenS s, lenS d with
  | some m, some n =>
    if min m n = 0 then some (.int .i64 0, H) else
    match s, d with
    | .sl r o _ _, .sl r' o' _ _ => match H.row r o (min m n * esz) with
      | some cs => (H.write r' o' cs).map fun H' => (.int .i64 (min m n : Nat), H')
      | none => none
    | _, _ => none
  | _, _ => none
def clrA (H : AHeap) (esz : Nat) (z : List AV) (x : AV) : Option (AV × AHeap) := match x with
  | .nils => some (undefA, H)
  | .sl r o n _ => if z.length = esz ∧ z ≠ [] then (H.write r o (repl n z)).map fun H' => (undefA, H') else none
  | _ => none
def rngA (H : AHeap) (x : AV) : Option (AV × AHeap) := match x with
  | .str s => some (.ptr H.size 0, H.push (some (.iter s 0)))
  | _ => none
def nxtA (H : AHeap) (x : AV) : Option (AV × AHeap) := match x with
  | .ptr r 0 => match H.get r with
    | some (.iter s pos) =>
      if pos < s.length then
        some (.tup [.bool true, .int .i64 pos, .int .i32 (Utf8.decode ⟨⟨s⟩⟩ pos).1], H.put r (some (.iter s (pos + (Utf8.decode ⟨⟨s⟩⟩ pos).2))))
      else some (.tup [.bool false], H)
    | _ => none
  | _ => none
def callA (call : CallF) (f : AV) (args : List AV) (H : AHeap) : Option (AV × AHeap) := match f with
  | .fn f fs cs => call f (fs ++ args ++ cs) H
  | _ => none
def invA (call : CallF) (tab : List (Nat × Nat)) (r : AV) (args : List AV) (H : AHeap) : Option (AV × AHeap) := match r with
  | .ifc t v => match tab.lookup t with
    | some f => call f (v :: args) H
    | none => none
  | _ => none
def opP (g : AX → AV) (H : AHeap) : AOp → Option AV
  | .mv x => some (g x)
  | .pick c a b => pickA (g c) (g a) (g b)
  | .build z ps => (fillA z (ps.map fun (o, s, x) => (o, s, g x))).map .agg
  | .ld x => ldA H (g x)
  | .ldn n x => ldnA H n (g x)
  | .nck x => nckA (g x)
  | .bin op x y => binA op (g x) (g y)
  | .eqs neg q x y => eqsA neg q (g x) (g y)
  | .eqn neg c x => eqnA neg c (g x)
  | .un op x => unA op (g x)
  | .cvi k x => cviA k (g x)
  | .cvs x => cvsA (g x)
  | .b2s x => b2sA H (g x)
  | .mki t x => some (.ifc t (g x))
  | .mkf f fs cs => some (.fn f (fs.map g) (cs.map g))
  | .slc esz x lo hi mx => slcP H esz (g x) (lo.map g) (hi.map g) (mx.map g)
  | .sls x lo hi => slsA (g x) (lo.map g) (hi.map g)
  | .sla n esz x lo hi => slaA n esz (g x) (lo.map g) (hi.map g)
  | .fad off x => fadA off (g x)
  | .fld off n x => fldA off n (g x)
  | .iad esz x i => iadA esz (g x) (g i)
  | .iaa n esz x i => iaaA n esz (g x) (g i)
  | .ixs x i => ixsA (g x) (g i)
  | .ixa n esz k x i => ixaA n esz k (g x) (g i)
  | .tas t z ok x => tasP t z ok (g x)
  | .ext x i => extA (g x) i
  | .lens x => lensA (g x)
  | .len x => lenA (g x)
  | .lena n => some (.int .i64 n)
  | .cap x => capA (g x)
  | .mxi l => mxiA (l.map g)
  | .mni l => mniA (l.map g)
  | .mlk q z ok x k => mlkA H q z ok (g x) (g k)
  | .lnm x => lnmA H (g x)
  | _ => none
def isLook : AOp → Bool
  | .newc .. | .box .. | .bsl .. | .st .. | .stf .. | .s2b .. | .mks .. | .app .. | .apz .. | .cpy .. | .clr .. | .rng .. | .nxt .. | .mkm | .mup .. | .call .. | .inv .. => false
  | _ => true
def opE (call : CallF) (g : AX → AV) (H : AHeap) : AOp → Option (AV × AHeap)
  | .newc cs => newcA H cs
  | .box x => newcA H (g x).cells
  | .bsl esz z n ps => bslA H esz z n (ps.map fun (o, s, x) => (o, s, g x))
  | .st n a v => stA H n (g a) (g v)
  | .stf x => stfA H (g x)
  | .s2b x => s2bA H (g x)
  | .mks esz bytes z l c => mksA H esz bytes z (g l) (g c)
  | .app esz bytes z s x => appS H esz bytes z (g s) (g x)
  | .apz esz bytes z s n => apzA H esz bytes z (g s) (g n)
  | .cpy esz d s => cpyA H esz (g d) (g s)
  | .clr esz z x => clrA H esz z (g x)
  | .rng x => rngA H (g x)
  | .nxt x => nxtA H (g x)
  | .mkm => some (.mp H.size, H.push (some (.mapo [])))
  | .mup q m k v => mupA H q (g m) (g k) (g v)
  | .call f args => callA call (g f) (args.map g) H
  | .inv tab r args => invA call tab (g r) (args.map g) H
  | _ => none
theorem aop_look {τ : Tau} {H : AHeap} {op : AOp} (h : isLook op = true) : aop τ H op = (opP τ.at H op).map fun v => (v, H) := by
  cases op <;> simp only [isLook, Bool.false_eq_true] at h <;> simp only [aop, opP]
  case mv => rfl
  case pick c a b =>
    unfold pickA
    cases τ.at c with
    | bool t => cases t <;> rfl
    | _ => rfl
  case build => cases fillA _ _ <;> rfl
  case ld x => unfold ldA; cases τ.at x <;> rfl
  case ldn n x =>
    unfold ldnA
    cases τ.at x <;> first | rfl | skip
    simp only []
    cases AHeap.row _ _ _ _ <;> rfl
  case nck x => unfold nckA; cases τ.at x <;> rfl
  case eqs => unfold eqsA; cases eqA _ _ _ <;> rfl
  case eqn => unfold eqnA; cases nilA _ _ <;> rfl
  case cvi k x => unfold cviA; cases τ.at x <;> rfl
  case cvs x => unfold cvsA; cases τ.at x <;> rfl
  case b2s x =>
    unfold b2sA
    cases τ.at x <;> first | rfl | skip
    simp only []
    cases AHeap.row _ _ _ _ with
    | none => rfl
    | some cs => simp only []; cases mapO byteA cs <;> rfl
  case mki => rfl
  case mkf => rfl
  case slc esz x lo hi mx =>
    unfold slcP slcA
    cases τ.at x <;> cases mx.map τ.at <;> simp only [Option.map_none]
    · cases bndo (hi.map τ.at) 0 0 with
      | none => rfl
      | some h => simp only []; cases bndo (lo.map τ.at) 0 h <;> rfl
    · rename_i r o len cap
      cases bndo (hi.map τ.at) len (capLe H esz r len cap) with
      | none => rfl
      | some h =>
        simp only []
        cases bndo (lo.map τ.at) 0 h with
        | none => rfl
        | some l =>
          cases cap with
          | ex c => rfl
          | mi k =>
            simp only []
            split
            · rfl
            · split
              · rfl
              · split <;> rfl
    · rename_i r o len cap m
      cases bnd m (capLe H esz r len cap) with
      | none => rfl
      | some m =>
        simp only []
        cases hi.map τ.at with
        | none => rfl
        | some hv =>
          simp only []
          cases bnd hv m with
          | none => rfl
          | some h => simp only []; cases bndo (lo.map τ.at) 0 h <;> rfl
    · cases bndo (hi.map τ.at) 0 0 with
      | none => rfl
      | some h => simp only []; cases bndo (lo.map τ.at) 0 h <;> rfl
  case sls x lo hi =>
    unfold slsA
    cases τ.at x <;> first | rfl | skip
    simp only []
    cases bndo _ _ _ with
    | none => rfl
    | some h => simp only []; cases bndo _ 0 h <;> rfl
  case sla n esz x lo hi =>
    unfold slaA
    cases τ.at x <;> first | rfl | skip
    simp only []
    cases bndo _ _ _ with
    | none => rfl
    | some h => simp only []; cases bndo _ 0 h <;> rfl
  case fad off x => unfold fadA; cases τ.at x <;> rfl
  case fld off n x => unfold fldA; cases τ.at x <;> rfl
  case iad esz x i =>
    unfold iadA
    cases τ.at x <;> cases τ.at i <;> first | rfl | skip
    simp only []
    split <;> rfl
  case iaa n esz x i =>
    unfold iaaA
    cases τ.at x <;> cases τ.at i <;> first | rfl | skip
    simp only []
    split <;> rfl
  case ixs x i =>
    unfold ixsA
    cases τ.at x <;> cases τ.at i <;> first | rfl | skip
    simp only []
    split
    · split <;> simp [*]
    · rfl
  case ixa n esz k x i =>
    unfold ixaA
    cases τ.at x <;> cases τ.at i <;> first | rfl | skip
    simp only []
    split <;> rfl
  case tas t z ok x =>
    unfold tasA tasP
    cases τ.at x <;> first | rfl | skip
    · simp only []; split
      · rfl
      · cases ok <;> rfl
    · cases ok <;> rfl
  case ext x i => unfold extA; cases τ.at x <;> rfl
  case len x => unfold lenA; cases τ.at x <;> rfl
  case lens x => unfold lensA; cases τ.at x <;> rfl
  case lena => rfl
  case cap x =>
    unfold capA
    cases τ.at x <;> first | rfl | skip
    rename_i c
    cases c <;> rfl
  case mxi l => unfold mxiA; cases l.map τ.at <;> rfl
  case mni l => unfold mniA; cases l.map τ.at <;> rfl
theorem target_look {τ : Tau} {op : AOp} (h : isLook op = true) : target τ op = none := by
  cases op <;> simp only [isLook, Bool.false_eq_true] at h <;> rfl
theorem astep_look {call : CallF} {τ : Tau} {H : AHeap} {op : AOp} (h : isLook op = true) : astep call τ H op = (opP τ.at H op).map fun v => (v, H) := by
  unfold astep
  rw [target_look h, aop_look h]
theorem astep_do {call : CallF} {τ : Tau} {H : AHeap} {op : AOp} (h : isLook op = false) : astep call τ H op = opE call τ.at H op := by
  cases op <;> simp only [isLook, Bool.true_eq_false] at h <;> unfold astep <;> simp only [target, aop, opE]
  case newc => rfl
  case box => rfl
  case bsl => unfold bslA; rfl
  case st n a v => unfold stA; cases τ.at a <;> rfl
  case stf x => unfold stfA; cases τ.at x <;> rfl
  case s2b x => unfold s2bA; cases τ.at x <;> rfl
  case mks a b z l c => unfold mksA; cases τ.at l <;> cases τ.at c <;> rfl
  case app => rfl
  case apz a b z s n => unfold apzA; rfl
  case cpy esz d s => unfold cpyA; rfl
  case clr esz z x => unfold clrA; cases τ.at x <;> rfl
  case call f args => unfold callA; cases τ.at f <;> rfl
  case inv tab r args =>
    unfold invA
    cases τ.at r <;> first | rfl | skip
    simp only []
    cases List.lookup _ tab <;> rfl
  case rng x => unfold rngA; cases τ.at x <;> rfl
  case nxt x => unfold nxtA; rfl
end Go.Ab
