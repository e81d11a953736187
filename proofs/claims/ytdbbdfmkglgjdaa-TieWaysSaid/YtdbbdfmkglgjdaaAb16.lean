/- The same evaluator, quicker in the kernel: temporaries in a tree, recursion by the recursor. -/
import Derived.Test.YtdbbdfmkglgjdaaAb15
set_option linter.unusedVariables false
set_option linter.unusedSimpArgs false
set_option linter.unusedSectionVars false
namespace Go.Ab
def z7A (g:AX→AV) (H:z3):AOp→Option (AV × z3)
 | .mv x=>some (g x,H)
 | .pick c a b=>match g c with
  | .bool t=>some (g (if t then a else b),H)
  | _=>none
 | .newc cs=>if cs.all AV.one then some (.ptr H.size 0,H.push (some (.cells .exact cs.length cs))) else none
 | .box x=>let cs:=(g x).cells
  if cs.all AV.one then some (.ptr H.size 0,H.push (some (.cells .exact cs.length cs))) else none
 | .build z ps=>(q7 z (ps.map fun(o,s,x)=>(o,s,g x))).map fun cs=>(.agg cs,H)
 | .bsl esz z n ps=>if esz=0∨z.length≠esz∨16777216 < n * esz then none else
  match q7 (yU n z) (ps.map fun(o,s,x)=>(o,s,g x)) with
  | some cs=>if cs.all AV.one then some (.sl H.size 0 n (.ex n),H.push (some (.cells .exact esz cs))) else none
  | none=>none
 | .ld x=>match g x with
  | .ptr r o=>(H.cell r o).map fun v=>(v,H)
  | _=>none
 | .ldn n x=>match g x with
  | .ptr r o=>(H.row r o n).map fun cs=>(.agg cs,H)
  | _=>none
 | .st n a v=>match g a with
  | .ptr r o=>if (g v).cells.length=n then (H.write r o (g v).cells).map fun H'=>(z4,H') else none
  | _=>none
 | .nck x=>match g x with
  | .ptr r o=>some (.ptr r o,H)
  | _=>none
 | .bin op x y=>(zc op (g x) (g y)).map fun v=>(v,H)
 | .eqs neg q x y=>(eqA q (g x) (g y)).map fun b=>(.bool (b != neg),H)
 | .eqn neg c x=>(z02 c (g x)).map fun b=>(.bool (b != neg),H)
 | .un op x=>(unA op (g x)).map fun v=>(v,H)
 | .cvi k x=>match g x with
  | .int _ n=>some (.int k (k.wrap n),H)
  | _=>none
 | .cvs x=>match g x with
  | .str s=>some (.str s,H)
  | _=>none
 | .stf x=>match g x with
  | .sl r o len cap=>match H.get r with
   | some (.cells k z cs)=>if k=.ro then none else some (.sl r o len cap,H.put r (some (.cells .stiff z cs)))
   | _=>none
  | _=>none
 | .s2b x=>match g x with
  | .str s=>if s.length≤zp then some (.sl H.size 0 s.length (.mi 0),H.push (some (.cells .stiff 1 (s.map fun b=>.int .u8 b.toNat)))) else none
  | _=>none
 | .b2s x=>match g x with
  | .nils=>some (.str [],H)
  | .zs ..=>some (.str [],H)
  | .sl r o len _=>match H.row r o len with
   | some cs=>match zO Zc cs with
    | some bs=>some (.str bs,H)
    | none=>none
   | none=>none
  | _=>none
 | .mki t x=>some (.ifc t (g x),H)
 | .mkf f fs cs=>some (.fn f (fs.map g) (cs.map g),H)
 | .mks esz bytes z l c=>match g l,g c with
  | .int _ l,.int _ c=>if 0≤l∧l≤c∧c.toNat * bytes≤zp∧c≤70368744177664∧esz≠0∧z.length=esz∧z.all AV.one then
    some (.sl H.size 0 l.toNat (.ex c.toNat),H.push (some (.cells .exact esz (yU c.toNat z)))) else none
  | _,_=>none
 | .slc esz x lo hi mx=>ke H esz (g x) (lo.map g) (hi.map g) (mx.map g)
 | .sls x lo hi=>match g x with
  | .str s=>match yh (hi.map g) s.length s.length with
   | none=>none
   | some h=>match yh (lo.map g) 0 h with
    | none=>none
    | some l=>some (.str ((s.take h).drop l),H)
  | _=>none
 | .sla n esz x lo hi=>match g x with
  | .ptr r o=>match yh (hi.map g) n n with
   | none=>none
   | some h=>match yh (lo.map g) 0 h with
    | none=>none
    | some l=>some (.sl r (if n=l then o else o+l * esz) (h - l) (.ex (n - l)),H)
  | _=>none
 | .fad off x=>match g x with
  | .ptr r o=>some (.ptr r (o+off),H)
  | _=>none
 | .fld off n x=>match g x with
  | .agg cs=>(jS cs off n).map fun v=>(v,H)
  | _=>none
 | .iad esz x i=>match g x,g i with
  | .sl r o len _,.int _ i=>if 0≤i∧i < len then some (.ptr r (o+i.toNat * esz),H) else none
  | _,_=>none
 | .iaa n esz x i=>match g x,g i with
  | .ptr r o,.int _ i=>if 0≤i∧i < n then some (.ptr r (o+i.toNat * esz),H) else none
  | _,_=>none
 | .ixs x i=>match g x,g i with
  | .str s,.int _ i=>if 0≤i then match s[i.toNat]? with
   | some b=>some (.int .u8 b.toNat,H)
   | none=>none
   else none
  | _,_=>none
 | .ixa n esz k x i=>match g x,g i with
  | .agg cs,.int _ i=>if 0≤i∧i < n then (jS cs (i.toNat * esz) k).map fun v=>(v,H) else none
  | _,_=>none
 | .tas t z ok x=>z6t t z ok (g x) H
 | .ext x i=>match g x with
  | .tup vs=>(vs[i]?).map fun v=>(v,H)
  | _=>none
 | .lens x=>match g x with
  | .str s=>some (.int .i64 s.length,H)
  | _=>none
 | .len x=>match g x with
  | .nils=>some (.int .i64 0,H)
  | .sl _ _ n _=>some (.int .i64 n,H)
  | .zs ..=>some (.int .i64 0,H)
  | _=>none
 | .lena n=>some (.int .i64 n,H)
 | .cap x=>match g x with
  | .nils=>some (.int .i64 0,H)
  | .sl _ _ _ (.ex c)=>some (.int .i64 c,H)
  | _=>none
 | .mxi l=>match l.map g with
  | x::rest=>(rest.foldl kG (some x)).map fun v=>(v,H)
  | []=>none
 | .mni l=>match l.map g with
  | x::rest=>(rest.foldl kH (some x)).map fun v=>(v,H)
  | []=>none
 | .app esz bytes z s x=>if z.length=esz then X4 H esz bytes (g s) (g x) else none
 | .apz esz bytes z s n=>match g s,g n with
  | .sl r o len (.ex c),.int k n=>if z.length=esz∧0 < esz∧0 < n∧c < len+n.toNat∧(len+n.toNat) * bytes≤zp∧len+n.toNat≤zp∧k=.i64 then
    match H.row r o (len * esz) with
    | some olds=>some (.sl H.size 0 (len+n.toNat) (.mi 0),H.push (some (.cells .opened esz (olds++yU n.toNat z))))
    | none=>none
   else none
  | _,_=>none
 | .cpy esz d s=>match z03 (g s),z03 (g d) with
  | some m,some n =>
   if min m n=0 then some (.int .i64 0,H) else
   match g s,g d with
   | .sl r o _ _,.sl r' o' _ _=>match H.row r o (min m n * esz) with
    | some cs=>(H.write r' o' cs).map fun H'=>(.int .i64 (min m n:Nat),H')
    | none=>none
   | _,_=>none
  | _,_=>none
 | .clr esz z x=>match g x with
  | .nils=>some (z4,H)
  | .sl r o n _=>if z.length=esz∧z≠[] then (H.write r o (yU n z)).map fun H'=>(z4,H') else none
  | _=>none
 | .rng x=>match g x with
  | .str s=>some (.ptr H.size 0,H.push (some (.iter s 0)))
  | _=>none
 | .nxt x=>match g x with
  | .ptr r 0=>match H.get r with
   | some (.iter s pos) =>
    if pos < s.length then
     some (.tup [.bool true,.int .i64 pos,.int .i32 (Utf8.decode ⟨⟨s⟩⟩ pos).1],H.put r (some (.iter s (pos+(Utf8.decode ⟨⟨s⟩⟩ pos).2))))
    else some (.tup [.bool false],H)
   | _=>none
  | _=>none
 | .mkm=>some (.mp H.size,H.push (some (.mapo [])))
 | .mlk q z ok x k=>(Vd H q z ok (g x) (g k)).map fun v=>(v,H)
 | .mup q m k v=>z2c H q (g m) (g k) (g v)
 | .lnm x=>(z10 H (g x)).map fun v=>(v,H)
 | .call .. | .inv ..=>none
def z5L (g:AX→AV):AOp→Option (Nat × List AV)
 | .call f args=>match g f with
  | .fn f fs cs=>some (f,fs++args.map g++cs)
  | _=>none
 | .inv tab r args=>match g r with
  | .ifc t v=>match tab.lookup t with
   | some f=>some (f,v::args.map g)
   | none=>none
  | _=>none
 | _=>none
theorem z7B (τ:Tau) (H:z3) (o:AOp):aop τ H o=z7A τ.at H o:=by cases o<;>rfl
theorem z7C (τ:Tau) (o:AOp):yR τ o=z5L τ.at o:=by cases o<;>rfl

inductive TT where
 | leaf
 | node (v:AV) (l r:TT)
 deriving Inhabited
noncomputable def TT.get (t:TT):Nat→AV :=
 TT.rec (motive:=fun _=>Nat→AV) (fun _=>z4) (fun v _ _ gl gr n=>Nat.rec (motive:=fun _=>AV) v (fun m _=>Bool.rec (gr (m / 2)) (gl (m / 2)) (Nat.beq (m % 2) 0)) n) t
noncomputable def TT.set (v:AV) (f:Nat):TT→Nat→TT :=
 Nat.rec (motive:=fun _=>TT→Nat→TT) (fun t _=>t)
  (fun _ ih t n=>TT.rec (motive:=fun _=>TT)
   (Nat.rec (motive:=fun _=>TT) (.node v .leaf .leaf) (fun m _=>Bool.rec (.node z4 .leaf (ih .leaf (m / 2))) (.node z4 (ih .leaf (m / 2)) .leaf) (Nat.beq (m % 2) 0)) n)
   (fun w l r _ _=>Nat.rec (motive:=fun _=>TT) (.node v l r) (fun m _=>Bool.rec (.node w l (ih r (m / 2))) (.node w (ih l (m / 2)) r) (Nat.beq (m % 2) 0)) n) t) f
theorem TT.get_leaf (m:Nat):TT.get .leaf m=z4:=rfl
theorem TT.get_node (v:AV) (l r:TT) (n:Nat):TT.get (.node v l r) n=match n with
  | 0=>v
  | m+1=>if m % 2=0 then l.get (m / 2) else r.get (m / 2):=by
 cases n with
 | zero=>rfl
 | succ m =>
  show (Bool.rec (r.get (m / 2)) (l.get (m / 2)) (Nat.beq (m % 2) 0):AV)=_
  by_cases h:m % 2=0
  ·simp [h]
  ·have:Nat.beq (m % 2) 0=false:=by rw [show m % 2=1 by omega];rfl
   simp [this,h]
theorem TT.set_succ (v:AV) (f:Nat) (t:TT) (n:Nat):TT.set v (f+1) t n=match t with
  | .leaf=>(match n with
   | 0=>.node v .leaf .leaf
   | m+1=>if m % 2=0 then .node z4 (TT.set v f .leaf (m / 2)) .leaf else .node z4 .leaf (TT.set v f .leaf (m / 2)))
  | .node w l r=>(match n with
   | 0=>.node v l r
   | m+1=>if m % 2=0 then .node w (TT.set v f l (m / 2)) r else .node w l (TT.set v f r (m / 2))):=by
 cases t with
 | leaf=>cases n with
  | zero=>rfl
  | succ m =>
   show (Bool.rec (.node z4 .leaf (TT.set v f .leaf (m / 2))) (.node z4 (TT.set v f .leaf (m / 2)) .leaf) (Nat.beq (m % 2) 0):TT)=_
   by_cases h:m % 2=0
   ·simp [h]
   ·have:Nat.beq (m % 2) 0=false:=by rw [show m % 2=1 by omega];rfl
    simp [this,h]
 | node w l r=>cases n with
  | zero=>rfl
  | succ m =>
   show (Bool.rec (.node w l (TT.set v f r (m / 2))) (.node w (TT.set v f l (m / 2)) r) (Nat.beq (m % 2) 0):TT)=_
   by_cases h:m % 2=0
   ·simp [h]
   ·have:Nat.beq (m % 2) 0=false:=by rw [show m % 2=1 by omega];rfl
    simp [this,h]
theorem TT.get_set (v:AV):∀ (f n:Nat) (t:TT) (m:Nat),n < f→(TT.set v f t n).get m=if m=n then v else t.get m:=by
 intro f
 induction f with
 | zero=>intro n t m h;omega
 | succ f ih =>
  intro n t m h
  rw [TT.set_succ]
  cases t with
  | leaf =>
   cases n with
   | zero=>cases m<;>simp [TT.get_node,TT.get_leaf]
   | succ n =>
    simp only
    split
    ·cases m with
     | zero=>simp [TT.get_node,TT.get_leaf]
     | succ m =>
      simp only [TT.get_node,TT.get_leaf]
      split
      ·rw [ih _ _ _ (by omega)];simp only [TT.get_leaf]
       by_cases e:m=n
       ·subst e;simp
       ·rw [if_neg (by omega),if_neg (by omega)]
      ·rw [if_neg (by omega)]
    ·cases m with
     | zero=>simp [TT.get_node,TT.get_leaf]
     | succ m =>
      simp only [TT.get_node,TT.get_leaf]
      split
      ·rw [if_neg (by omega)]
      ·rw [ih _ _ _ (by omega)];simp only [TT.get_leaf]
       by_cases e:m=n
       ·subst e;simp
       ·rw [if_neg (by omega),if_neg (by omega)]
  | node w l r =>
   cases n with
   | zero=>cases m<;>simp [TT.get_node]
   | succ n =>
    simp only
    split
    ·cases m with
     | zero=>simp [TT.get_node]
     | succ m =>
      simp only [TT.get_node]
      split
      ·rw [ih _ _ _ (by omega)]
       by_cases e:m=n
       ·subst e;simp
       ·rw [if_neg (by omega),if_neg (by omega)]
      ·rw [if_neg (by omega)]
    ·cases m with
     | zero=>simp [TT.get_node]
     | succ m =>
      simp only [TT.get_node]
      split
      ·rw [if_neg (by omega)]
      ·rw [ih _ _ _ (by omega)]
       by_cases e:m=n
       ·subst e;simp
       ·rw [if_neg (by omega),if_neg (by omega)]
end Go.Ab
