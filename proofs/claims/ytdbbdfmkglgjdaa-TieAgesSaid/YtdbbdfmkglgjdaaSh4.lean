/- Operations told by the values that they take: those that only look (opP), those that do something (opE). -/
import Derived.Test.YtdbbdfmkglgjdaaSh3
set_option linter.unusedVariables false
set_option linter.unusedSimpArgs false
set_option linter.unusedSectionVars false
namespace Go.Ab
def bnP {β : Type} (o : Option AV) (k : AV → Option β) : Option β := match o with
 | some v => k v
 | none => none
def gdP (w : Bool) (o : Option AV) : Option AV := if w then o else some z4
def y6 (c a b : AV) : Option AV := match c with
 | .bool true => some a
 | .bool false => some b
 | _ => none
def ldA (H : z3) (x : AV) : Option AV := match x with
 | .ptr r o => H.cell r o
 | _ => none
def z5h (H : z3) (n : Nat) (x : AV) : Option AV := match x with
 | .ptr r o => (H.row r o n).map .agg
 | _ => none
def vi (x : AV) : Option AV := match x with
 | .ptr r o => some (.ptr r o)
 | _ => none
def WQ (neg : Bool) (q : EqT) (x y : AV) : Option AV := (eqA q x y).map fun b => .bool (b != neg)
def z1w (neg : Bool) (c : Nat) (x : AV) : Option AV := (z0O c x).map fun b => .bool (b != neg)
def z3M (k : IntKind) (x : AV) : Option AV := match x with
 | .int _ n => some (.int k (k.wrap n))
 | _ => none
def z7R (x : AV) : Option AV := match x with
 | .str s => some (.str s)
 | _ => none
def z7S (H : z3) (x : AV) : Option AV := match x with
 | .nils => some (.str [])
 | .zs .. => some (.str [])
 | .sl r o len _ => match H.row r o len with
  | some cs => match zK ZA cs with
   | some bs => some (.str bs)
   | none => none
  | none => none
 | _ => none
def x1 (H : z3) (esz : Nat) (x : AV) (lo hi mx : Option AV) : Option AV := (km H esz x lo hi mx).map fun p => p.1
def z6e (x : AV) (lo hi : Option AV) : Option AV := match x with
 | .str s => match yf hi s.length s.length with
  | none => none
  | some h => match yf lo 0 h with
   | none => none
   | some l => some (.str ((s.take h).drop l))
 | _ => none
def zc3 (n esz : Nat) (x : AV) (lo hi : Option AV) : Option AV := match x with
 | .ptr r o => match yf hi n n with
  | none => none
  | some h => match yf lo 0 h with
   | none => none
   | some l => some (.sl r (if n = l then o else o + l * esz) (h - l) (.ex (n - l)))
 | _ => none
def kO (off : Nat) (x : AV) : Option AV := match x with
 | .ptr r o => some (.ptr r (o + off))
 | _ => none
def z5i (off : Nat) (n : Option Nat) (x : AV) : Option AV := match x with
 | .agg cs => jZ cs off n
 | _ => none
def z5j (esz : Nat) (x i : AV) : Option AV := match x, i with
 | .sl r o len _, .int _ i => if 0 ≤ i ∧ i < len then some (.ptr r (o + i.toNat * esz)) else none
 | _, _ => none
def z3N (n esz : Nat) (x i : AV) : Option AV := match x, i with
 | .ptr r o, .int _ i => if 0 ≤ i ∧ i < n then some (.ptr r (o + i.toNat * esz)) else none
 | _, _ => none
def z7T (x i : AV) : Option AV := match x, i with
 | .str s, .int _ i => if 0 ≤ i then match s[i.toNat]? with
  | some b => some (.int .u8 b.toNat)
  | none => none
  else none
 | _, _ => none
def z6f (n esz : Nat) (k : Option Nat) (x i : AV) : Option AV := match x, i with
 | .agg cs, .int _ i => if 0 ≤ i ∧ i < n then jZ cs (i.toNat * esz) k else none
 | _, _ => none
def z21 (t : Nat) (z : AV) (ok : Bool) (x : AV) : Option AV := match x with
 | .ifc t' v => if t' = t then some (if ok then .tup [v, .bool true] else v) else if ok then some (.tup [z, .bool false]) else none
 | .nilifc => if ok then some (.tup [z, .bool false]) else none
 | _ => none
def jt (x : AV) (i : Nat) : Option AV := match x with
 | .tup vs => vs[i]?
 | _ => none
def z1x (x : AV) : Option AV := match x with
 | .str s => some (.int .i64 s.length)
 | _ => none
def z1y (x : AV) : Option AV := match x with
 | .nils => some (.int .i64 0)
 | .sl _ _ n _ => some (.int .i64 n)
 | .zs .. => some (.int .i64 0)
 | _ => none
def z9J (x : AV) : Option AV := match x with
 | .nils => some (.int .i64 0)
 | .sl _ _ _ (.ex c) => some (.int .i64 c)
 | _ => none
def z7U (l : List AV) : Option AV := match l with
 | x :: rest => rest.foldl kR (some x)
 | [] => none
def z7V (l : List AV) : Option AV := match l with
 | x :: rest => rest.foldl kS (some x)
 | [] => none
def Jh (H : z3) (cs : List AV) : Option (AV × z3) := if cs.all AV.one then some (.ptr H.size 0, H.push (some (.cells .exact cs.length cs))) else none
def zaG (H : z3) (esz : Nat) (z : List AV) (n : Nat) (ps : List (Nat × Nat × AV)) : Option (AV × z3) :=
 if esz = 0 ∨ z.length ≠ esz ∨ 16777216 < n * esz then none else
  match xU (yP n z) ps with
  | some cs => if cs.all AV.one then some (.sl H.size 0 n (.ex n), H.push (some (.cells .exact esz cs))) else none
  | none => none
def stA (H : z3) (n : Nat) (a v : AV) : Option (AV × z3) := match a with
 | .ptr r o => if v.cells.length = n then (H.write r o v.cells).map fun H' => (z4, H') else none
 | _ => none
def zc4 (H : z3) (x : AV) : Option (AV × z3) := match x with
 | .sl r o len cap => match H.get r with
  | some (.cells k z cs) => if k = .ro then none else some (.sl r o len cap, H.put r (some (.cells .stiff z cs)))
  | _ => none
 | _ => none
def zaH (H : z3) (x : AV) : Option (AV × z3) := match x with
 | .str s => if s.length ≤ zj then some (.sl H.size 0 s.length (.mi 0), H.push (some (.cells .stiff 1 (s.map fun b => .int .u8 b.toNat)))) else none
 | _ => none
def zaI (H : z3) (esz bytes : Nat) (z : List AV) (l c : AV) : Option (AV × z3) := match l, c with
 | .int _ l, .int _ c => if 0 ≤ l ∧ l ≤ c ∧ c.toNat * bytes ≤ zj ∧ c ≤ 70368744177664 ∧ esz ≠ 0 ∧ z.length = esz ∧ z.all AV.one then
   some (.sl H.size 0 l.toNat (.ex c.toNat), H.push (some (.cells .exact esz (yP c.toNat z)))) else none
 | _, _ => none
def z5k (H : z3) (esz bytes : Nat) (z : List AV) (s x : AV) : Option (AV × z3) := if z.length = esz then XA H esz bytes s x else none
def z9K (H : z3) (esz bytes : Nat) (z : List AV) (s n : AV) : Option (AV × z3) := match s, n with
 | .sl r o len (.ex c), .int k n => if z.length = esz ∧ 0 < esz ∧ 0 < n ∧ c < len + n.toNat ∧ (len + n.toNat) * bytes ≤ zj ∧ len + n.toNat ≤ zj ∧ k = .i64 then
   match H.row r o (len * esz) with
   | some olds => some (.sl H.size 0 (len + n.toNat) (.mi 0), H.push (some (.cells .opened esz (olds ++ yP n.toNat z))))
   | none => none
  else none
 | _, _ => none
def z3O (H : z3) (esz : Nat) (d s : AV) : Option (AV × z3) := match z0P s, z0P d with
 | some m, some n =>
  if min m n = 0 then some (.int .i64 0, H) else
  match s, d with
  | .sl r o _ _, .sl r' o' _ _ => match H.row r o (min m n * esz) with
   | some cs => (H.write r' o' cs).map fun H' => (.int .i64 (min m n : Nat), H')
   | none => none
  | _, _ => none
 | _, _ => none
def zc5 (H : z3) (esz : Nat) (z : List AV) (x : AV) : Option (AV × z3) := match x with
 | .nils => some (z4, H)
 | .sl r o n _ => if z.length = esz ∧ z ≠ [] then (H.write r o (yP n z)).map fun H' => (z4, H') else none
 | _ => none
def zdS (H : z3) (x : AV) : Option (AV × z3) := match x with
 | .str s => some (.ptr H.size 0, H.push (some (.iter s 0)))
 | _ => none
def zdT (H : z3) (x : AV) : Option (AV × z3) := match x with
 | .ptr r 0 => match H.get r with
  | some (.iter s pos) =>
   if pos < s.length then
    some (.tup [.bool true, .int .i64 pos, .int .i32 (Utf8.decode ⟨⟨s⟩⟩ pos).1], H.put r (some (.iter s (pos + (Utf8.decode ⟨⟨s⟩⟩ pos).2))))
   else some (.tup [.bool false], H)
  | _ => none
 | _ => none
def z9L (call : z6) (f : AV) (args : List AV) (H : z3) : Option (AV × z3) := match f with
 | .fn f fs cs => call f (fs ++ args ++ cs) H
 | _ => none
def z0C (call : z6) (tab : List (Nat × Nat)) (r : AV) (args : List AV) (H : z3) : Option (AV × z3) := match r with
 | .ifc t v => match tab.lookup t with
  | some f => call f (v :: args) H
  | none => none
 | _ => none
def opP (g : AX → AV) (H : z3) : AOp → Option AV
 | .mv x => some (g x)
 | .pick c a b => y6 (g c) (g a) (g b)
 | .build z ps => (xU z (ps.map fun (o, s, x) => (o, s, g x))).map .agg
 | .ld x => ldA H (g x)
 | .ldn n x => z5h H n (g x)
 | .nck x => vi (g x)
 | .bin op x y => zc op (g x) (g y)
 | .eqs neg q x y => WQ neg q (g x) (g y)
 | .eqn neg c x => z1w neg c (g x)
 | .un op x => unA op (g x)
 | .cvi k x => z3M k (g x)
 | .cvs x => z7R (g x)
 | .b2s x => z7S H (g x)
 | .mki t x => some (.ifc t (g x))
 | .mkf f fs cs => some (.fn f (fs.map g) (cs.map g))
 | .slc esz x lo hi mx => x1 H esz (g x) (lo.map g) (hi.map g) (mx.map g)
 | .sls x lo hi => z6e (g x) (lo.map g) (hi.map g)
 | .sla n esz x lo hi => zc3 n esz (g x) (lo.map g) (hi.map g)
 | .fad off x => kO off (g x)
 | .fld off n x => z5i off n (g x)
 | .iad esz x i => z5j esz (g x) (g i)
 | .iaa n esz x i => z3N n esz (g x) (g i)
 | .ixs x i => z7T (g x) (g i)
 | .ixa n esz k x i => z6f n esz k (g x) (g i)
 | .tas t z ok x => z21 t z ok (g x)
 | .ext x i => jt (g x) i
 | .lens x => z1x (g x)
 | .len x => z1y (g x)
 | .lena n => some (.int .i64 n)
 | .cap x => z9J (g x)
 | .mxi l => z7U (l.map g)
 | .mni l => z7V (l.map g)
 | .mlk q z ok x k => W8 H q z ok (g x) (g k)
 | .lnm x => z1H H (g x)
 | _ => none
def xl : AOp → Bool
 | .newc .. | .box .. | .bsl .. | .st .. | .stf .. | .s2b .. | .mks .. | .app .. | .apz .. | .cpy .. | .clr .. | .rng .. | .nxt .. | .mkm | .mup .. | .call .. | .inv .. => false
 | _ => true
def opE (call : z6) (g : AX → AV) (H : z3) : AOp → Option (AV × z3)
 | .newc cs => Jh H cs
 | .box x => Jh H (g x).cells
 | .bsl esz z n ps => zaG H esz z n (ps.map fun (o, s, x) => (o, s, g x))
 | .st n a v => stA H n (g a) (g v)
 | .stf x => zc4 H (g x)
 | .s2b x => zaH H (g x)
 | .mks esz bytes z l c => zaI H esz bytes z (g l) (g c)
 | .app esz bytes z s x => z5k H esz bytes z (g s) (g x)
 | .apz esz bytes z s n => z9K H esz bytes z (g s) (g n)
 | .cpy esz d s => z3O H esz (g d) (g s)
 | .clr esz z x => zc5 H esz z (g x)
 | .rng x => zdS H (g x)
 | .nxt x => zdT H (g x)
 | .mkm => some (.mp H.size, H.push (some (.mapo [])))
 | .mup q m k v => z2P H q (g m) (g k) (g v)
 | .call f args => z9L call (g f) (args.map g) H
 | .inv tab r args => z0C call tab (g r) (args.map g) H
 | _ => none
theorem W5 {τ : Tau} {H : z3} {op : AOp} (h : xl op = true) : aop τ H op = (opP τ.at H op).map fun v => (v, H) := by
 cases op <;> simp only [xl, Bool.false_eq_true] at h <;> simp only [aop, opP]
 case mv => rfl
 case pick c a b =>
  unfold y6
  cases τ.at c with
  | bool t => cases t <;> rfl
  | _ => rfl
 case build => cases xU _ _ <;> rfl
 case ld x => unfold ldA; cases τ.at x <;> rfl
 case ldn n x =>
  unfold z5h
  cases τ.at x <;> first | rfl | skip
  simp only []
  cases z3.row _ _ _ _ <;> rfl
 case nck x => unfold vi; cases τ.at x <;> rfl
 case eqs => unfold WQ; cases eqA _ _ _ <;> rfl
 case eqn => unfold z1w; cases z0O _ _ <;> rfl
 case cvi k x => unfold z3M; cases τ.at x <;> rfl
 case cvs x => unfold z7R; cases τ.at x <;> rfl
 case b2s x =>
  unfold z7S
  cases τ.at x <;> first | rfl | skip
  simp only []
  cases z3.row _ _ _ _ with
  | none => rfl
  | some cs => simp only []; cases zK ZA cs <;> rfl
 case mki => rfl
 case mkf => rfl
 case slc esz x lo hi mx =>
  unfold x1 km
  cases τ.at x <;> cases mx.map τ.at <;> simp only [Option.map_none]
  ·cases yf (hi.map τ.at) 0 0 with
   | none => rfl
   | some h => simp only []; cases yf (lo.map τ.at) 0 h <;> rfl
  ·rename_i r o len cap
   cases yf (hi.map τ.at) len (yO H esz r len cap) with
   | none => rfl
   | some h =>
    simp only []
    cases yf (lo.map τ.at) 0 h with
    | none => rfl
    | some l =>
     cases cap with
     | ex c => rfl
     | mi k =>
      simp only []
      split
      ·rfl
      ·split
       ·rfl
       ·split <;> rfl
  ·rename_i r o len cap m
   cases bnd m (yO H esz r len cap) with
   | none => rfl
   | some m =>
    simp only []
    cases hi.map τ.at with
    | none => rfl
    | some hv =>
     simp only []
     cases bnd hv m with
     | none => rfl
     | some h => simp only []; cases yf (lo.map τ.at) 0 h <;> rfl
  ·cases yf (hi.map τ.at) 0 0 with
   | none => rfl
   | some h => simp only []; cases yf (lo.map τ.at) 0 h <;> rfl
 case sls x lo hi =>
  unfold z6e
  cases τ.at x <;> first | rfl | skip
  simp only []
  cases yf _ _ _ with
  | none => rfl
  | some h => simp only []; cases yf _ 0 h <;> rfl
 case sla n esz x lo hi =>
  unfold zc3
  cases τ.at x <;> first | rfl | skip
  simp only []
  cases yf _ _ _ with
  | none => rfl
  | some h => simp only []; cases yf _ 0 h <;> rfl
 case fad off x => unfold kO; cases τ.at x <;> rfl
 case fld off n x => unfold z5i; cases τ.at x <;> rfl
 case iad esz x i =>
  unfold z5j
  cases τ.at x <;> cases τ.at i <;> first | rfl | skip
  simp only []
  split <;> rfl
 case iaa n esz x i =>
  unfold z3N
  cases τ.at x <;> cases τ.at i <;> first | rfl | skip
  simp only []
  split <;> rfl
 case ixs x i =>
  unfold z7T
  cases τ.at x <;> cases τ.at i <;> first | rfl | skip
  simp only []
  split
  ·split <;> simp [*]
  ·rfl
 case ixa n esz k x i =>
  unfold z6f
  cases τ.at x <;> cases τ.at i <;> first | rfl | skip
  simp only []
  split <;> rfl
 case tas t z ok x =>
  unfold z72 z21
  cases τ.at x <;> first | rfl | skip
  ·simp only []; split
   ·rfl
   ·cases ok <;> rfl
  ·cases ok <;> rfl
 case ext x i => unfold jt; cases τ.at x <;> rfl
 case len x => unfold z1y; cases τ.at x <;> rfl
 case lens x => unfold z1x; cases τ.at x <;> rfl
 case lena => rfl
 case cap x =>
  unfold z9J
  cases τ.at x <;> first | rfl | skip
  rename_i c
  cases c <;> rfl
 case mxi l => unfold z7U; cases l.map τ.at <;> rfl
 case mni l => unfold z7V; cases l.map τ.at <;> rfl
theorem z5l {τ : Tau} {op : AOp} (h : xl op = true) : yM τ op = none := by
 cases op <;> simp only [xl, Bool.false_eq_true] at h <;> rfl
theorem Qc {call : z6} {τ : Tau} {H : z3} {op : AOp} (h : xl op = true) : xI call τ H op = (opP τ.at H op).map fun v => (v, H) := by
 unfold xI
 rw [z5l h, W5 h]
theorem xS {call : z6} {τ : Tau} {H : z3} {op : AOp} (h : xl op = false) : xI call τ H op = opE call τ.at H op := by
 cases op <;> simp only [xl, Bool.true_eq_false] at h <;> unfold xI <;> simp only [yM, aop, opE]
 case newc => rfl
 case box => rfl
 case bsl => unfold zaG; rfl
 case st n a v => unfold stA; cases τ.at a <;> rfl
 case stf x => unfold zc4; cases τ.at x <;> rfl
 case s2b x => unfold zaH; cases τ.at x <;> rfl
 case mks a b z l c => unfold zaI; cases τ.at l <;> cases τ.at c <;> rfl
 case app => rfl
 case apz a b z s n => unfold z9K; rfl
 case cpy esz d s => unfold z3O; rfl
 case clr esz z x => unfold zc5; cases τ.at x <;> rfl
 case call f args => unfold z9L; cases τ.at f <;> rfl
 case inv tab r args =>
  unfold z0C
  cases τ.at r <;> first | rfl | skip
  simp only []
  cases List.lookup _ tab <;> rfl
 case rng x => unfold zdS; cases τ.at x <;> rfl
 case nxt x => unfold zdT; rfl
end Go.Ab
