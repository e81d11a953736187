/- The abstract heap and the evaluator. -/
import Derived.Test.YtdbbdfmkglgjdaaAb0
set_option linter.unusedVariables false
set_option linter.unusedSimpArgs false
set_option linter.unusedSectionVars false
namespace Go.Ab

inductive Kd where
 | exact
 | opened
 | stiff
 | ro
 deriving DecidableEq,Repr,Inhabited
inductive zF where
 | cells (k:Kd) (esz:Nat) (cs:List AV)
 | iter (s:List UInt8) (pos:Nat)
 | mapo (es:List (AV × AV))
 deriving Inhabited,Repr
inductive Tr where
 | leaf
 | node (v:Option zF) (l r:Tr)
 deriving Inhabited
def Tr.get:Tr→Nat→Option zF
 | .leaf,_=>none
 | .node v l r,n=>match n with
  | 0=>v
  | n+1=>if n % 2=0 then l.get (n / 2) else r.get (n / 2)
def Tr.set (v:Option zF):Nat→Tr→Nat→Tr
 | 0,t,_=>t
 | f+1,.leaf,n=>match n with
  | 0=>.node v .leaf .leaf
  | n+1=>if n % 2=0 then .node none (Tr.set v f .leaf (n / 2)) .leaf else .node none .leaf (Tr.set v f .leaf (n / 2))
 | f+1,.node w l r,n=>match n with
  | 0=>.node v l r
  | n+1=>if n % 2=0 then .node w (Tr.set v f l (n / 2)) r else .node w l (Tr.set v f r (n / 2))
structure z3 where
 size:Nat
 tr:Tr
 deriving Inhabited
def z3.get (H:z3) (r:Nat):Option zF:=H.tr.get r
def z3.put (H:z3) (r:Nat) (o:Option zF):z3:=⟨H.size,H.tr.set o (r+1) r⟩
def z3.push (H:z3) (o:Option zF):z3:=⟨H.size+1,H.tr.set o (H.size+1) H.size⟩
def z3.empty:z3:=⟨0,.leaf⟩
def z3.cell (H:z3) (r o:Nat):Option AV:=match H.get r with
 | some (.cells _ _ cs)=>cs[o]?
 | _=>none
def z3.row (H:z3) (r o n:Nat):Option (List AV):=match H.get r with
 | some (.cells _ _ cs)=>if o+n≤cs.length then some ((cs.drop o).take n) else none
 | _=>none
def splice {α:Type} (cs:List α) (o:Nat) (vs:List α):List α:=cs.take o++vs++cs.drop (o+vs.length)
def z3.write (H:z3) (r o:Nat) (vs:List AV):Option z3:=match H.get r with
 | some (.cells k z cs)=>if k=.ro then none else if o+vs.length≤cs.length∧vs.all AV.one then some (H.put r (some (.cells k z (splice cs o vs)))) else none
 | _=>none

abbrev Tau:=List AV
def Tau.at (τ:Tau):AX→AV
 | .t n=>τ.getD n z4
 | .c v=>v
def Yd (op:BinOp) (k:IntKind) (a b:Int):Option AV :=
 match op with
 | .add=>some (.int k (k.wrap (a+b)))
 | .sub=>some (.int k (k.wrap (a - b)))
 | .mul=>some (.int k (k.wrap (a * b)))
 | .quo=>if b=0 then none else some (.int k (k.wrap (a.tdiv b)))
 | .rem=>if b=0 then none else some (.int k (a.tmod b))
 | .and=>some (.int k (k.wrap (BitVec.ofInt k.bits a &&& BitVec.ofInt k.bits b).toNat))
 | .or=>some (.int k (k.wrap (BitVec.ofInt k.bits a ||| BitVec.ofInt k.bits b).toNat))
 | .xor=>some (.int k (k.wrap (BitVec.ofInt k.bits a ^^^ BitVec.ofInt k.bits b).toNat))
 | .andNot=>some (.int k (k.wrap (BitVec.ofInt k.bits a &&& ~~~BitVec.ofInt k.bits b).toNat))
 | .eql=>some (.bool (a == b))
 | .neq=>some (.bool (a != b))
 | .lss=>some (.bool (a < b))
 | .leq=>some (.bool (a≤b))
 | .gtr=>some (.bool (a > b))
 | .geq=>some (.bool (a ≥ b))
 | _=>none
def z01 (op:BinOp) (k:IntKind) (x y:Int):Option AV :=
 if y < 0 then none else match op with
 | .shl=>some (.int k (k.wrap (x * 2 ^ (min y.toNat k.bits))))
 | .shr=>some (.int k (x.fdiv (2 ^ (min y.toNat k.bits))))
 | _=>none
def z7q (op:BinOp) (x y:List UInt8):Option AV :=
 match op with
 | .add=>if x.length+y.length < 2 ^ 62 then some (.str (x++y)) else none
 | .eql=>some (.bool (x == y))
 | .neq=>some (.bool !(x == y))
 | .lss=>some (.bool (Op.bytesLess x y))
 | .leq=>some (.bool (Op.bytesLess x y || x == y))
 | .gtr=>some (.bool !(Op.bytesLess x y || x == y))
 | .geq=>some (.bool !(Op.bytesLess x y))
 | _=>none
def zc (op:BinOp) (x y:AV):Option AV :=
 match op,x,y with
 | .shl,.int k a,.int _ b | .shr,.int k a,.int _ b=>z01 op k a b
 | _,.int k a,.int k' b=>if k=k' then Yd op k a b else none
 | _,.str a,.str b=>z7q op a b
 | _,_,_=>none
def jS (cs:List AV) (off:Nat):Option Nat→Option AV
 | some n=>if off+n≤cs.length then some (.agg ((cs.drop off).take n)) else none
 | none=>cs[off]?
def EqT.agg:EqT→Nat→Option Nat
 | .st _,n=>some n
 | _,_=>none
mutual
def eqA:EqT→AV→AV→Option Bool
 | .b,.bool a,.bool b=>some (a == b)
 | .i,.int k a,.int k' b=>if k=k' then some (a == b) else none
 | .s,.str a,.str b=>some (a == b)
 | .st fs,.agg xs,.agg ys=>eqF fs xs ys
 | _,_,_=>none
def eqF:List (Nat × Nat × EqT)→List AV→List AV→Option Bool
 | [],_,_=>some true
 | (o,n,q)::l,xs,ys =>
  match jS xs o (q.agg n),jS ys o (q.agg n) with
  | some a,some b=>match eqA q a b with
   | some true=>eqF l xs ys
   | some false=>some false
   | none=>none
  | _,_=>none
end

def z02:Nat→AV→Option Bool
 | 0,.nils | 1,.nilifc | 2,.nilp | 3,.nilfn | 4,.nilm=>some true
 | 4,.mp _=>some false
 | 0,.sl .. | 0,.zs .. | 1,.ifc .. | 2,.ptr .. | 3,.fn ..=>some false
 | _,_=>none
def unA (op:UnOp) (x:AV):Option AV :=
 match op,x with
 | .neg,.int k n=>some (.int k (k.wrap (0 - n)))
 | .xor,.int k n=>Yd .xor k (if k.signed then -1 else k.max) n
 | .not,.bool b=>some (.bool !b)
 | _,_=>none
def q7:List AV→List (Nat × Nat × AV)→Option (List AV)
 | cs,[]=>some cs
 | cs,(off,s,v)::l=>if v.cells.length=s∧off+s≤cs.length∧v.isRaw=false then q7 (splice cs off v.cells) l else none
def yU (n:Nat) (z:List AV):List AV:=match n with
 | 0=>[]
 | n+1=>z++yU n z
def bnd (x:AV) (top:Nat):Option Nat:=match x with
 | .int _ i=>if 0≤i∧i≤top then some i.toNat else none
 | _=>none
def yh (x:Option AV) (dflt top:Nat):Option Nat:=match x with
 | none=>some dflt
 | some v=>bnd v top
def yT (H:z3) (esz r len:Nat):kb→Nat
 | .ex c=>c
 | .mi k=>match H.get r with
  | some (.cells kd z cs)=>if (kd=.exact∨kd=.opened)∧z=esz∧0 < esz then max len (cs.length / esz - k) else len
  | _=>len
def ke (H:z3) (esz:Nat) (x:AV) (lo hi mx:Option AV):Option (AV × z3) :=
 match x,mx with
 | .nils,none=>match yh hi 0 0 with
  | none=>none
  | some h=>match yh lo 0 h with
   | none=>none
   | some _=>some (.nils,H)
 | .zs r o k d,none=>match yh hi 0 0 with
  | none=>none
  | some h=>match yh lo 0 h with
   | none=>none
   | some _=>some (.zs r o k d,H)
 | .sl r o len cap,none=>match yh hi len (yT H esz r len cap) with
  | none=>none
  | some h=>match yh lo 0 h with
   | none=>none
   | some l=>match cap with
    | .ex c=>some (.sl r (if c=l then o else o+l * esz) (h - l) (.ex (c - l)),H)
    | .mi k=>if l=0 then some (.sl r o h (.mi k),H)
     else if l < yT H esz r len (.mi k) then some (.sl r (o+l * esz) (h - l) (.mi (k+l)),H)
     else if (H.get r).isSome then some (.zs r o (k+l) (l * esz),H) else none
 | .sl r o len cap,some m=>match bnd m (yT H esz r len cap) with
  | none=>none
  | some m=>match hi with
   | none=>none
   | some hv=>match bnd hv m with
    | none=>none
    | some h=>match yh lo 0 h with
     | none=>none
     | some l=>some (.sl r (if m=l then o else o+l * esz) (h - l) (.ex (m - l)),H)
 | _,_=>none
def zp:Nat:=70368744177664
def AV.slen:AV→Nat
 | .sl _ _ len _=>len
 | _=>0
def wS (H:z3) (esz:Nat):AV→Option (List AV)
 | .nils=>some []
 | .sl r o len _=>H.row r o (len * esz)
 | .zs ..=>some []
 | _=>none
def yF (H:z3) (esz bytes n:Nat) (news:List AV) (s:AV):Option (AV × z3) :=
 match s with
 | .nils=>if n=0 then some (.nils,H)
  else if n * bytes≤zp∧n≤zp then some (.sl H.size 0 n (.mi 0),H.push (some (.cells .opened esz news))) else none
 | .sl r o len cap=>if n=0 then some (.sl r o len cap,H) else
  if (len+n) * bytes≤zp∧len+n≤zp then
   match H.get r,cap with
   | some (.cells k z cs),.ex c =>
    if len+n≤c then
     if (k=.exact∨k=.opened)∧z=esz then (H.write r (o+len * esz) news).map fun H'=>(.sl r o (len+n) (.ex c),H') else none
    else if o+len * esz≤cs.length then
     some (.sl H.size 0 (len+n) (.mi 0),H.push (some (.cells .opened esz ((cs.drop o).take (len * esz)++news)))) else none
   | some (.cells k z cs),.mi m =>
    if (k=.exact∨k=.opened)∧z=esz∧o=m * esz∧(m+len+n) * esz≤cs.length then
     (H.write r (o+len * esz) news).map fun H'=>(.sl r o (len+n) (.mi m),H')
    else if k=.opened∧z=esz∧o=0∧m=0∧len * esz≤cs.length∧news.all AV.one then
     some (.sl H.size 0 (len+n) (.mi 0),(H.put r none).push (some (.cells .opened esz (cs.take (len * esz)++news))))
    else none
   | _,_=>none
  else none
 | _=>none
def X4 (H:z3) (esz bytes:Nat) (s x:AV):Option (AV × z3) :=
 if esz=0 then none else match wS H esz x with
 | none=>none
 | some news=>yF H esz bytes x.slen news s
def kG (a:Option AV) (y:AV):Option AV:=match a,y with
 | some (.int k x),.int _ y=>some (.int k (if y > x then y else x))
 | _,_=>none
def kH (a:Option AV) (y:AV):Option AV:=match a,y with
 | some (.int k x),.int _ y=>some (.int k (if y < x then y else x))
 | _,_=>none
def z6t (t:Nat) (z:AV) (ok:Bool) (x:AV) (H:z3):Option (AV × z3):=match x with
 | .ifc t' v=>if t'=t then some (if ok then .tup [v,.bool true] else v,H) else if ok then some (.tup [z,.bool false],H) else none
 | .nilifc=>if ok then some (.tup [z,.bool false],H) else none
 | _=>none
def Zc:AV→Option UInt8
 | .int .u8 n=>some (UInt8.ofNat n.toNat)
 | _=>none
def z03:AV→Option Nat
 | .nils=>some 0
 | .sl _ _ n _=>some n
 | .zs ..=>some 0
 | _=>none
def z04 (q:EqT) (k:AV):List (AV × AV)→Option (Option AV)
 | []=>some none
 | (a,v)::l=>match eqA q k a with
  | some true=>some (some v)
  | some false=>z04 q k l
  | none=>none
def z4X (q:EqT) (k v:AV):List (AV × AV)→Option (List (AV × AV))
 | []=>some [(k,v)]
 | (a,w)::l=>match eqA q k a with
  | some true=>some ((k,v)::l)
  | some false=>(z4X q k v l).map ((a,w)::·)
  | none=>none
def Ju (z:AV) (ok:Bool):Option AV→AV
 | some v=>if ok then .tup [v,.bool true] else v
 | none=>if ok then .tup [z,.bool false] else z
def Vd (H:z3) (q:EqT) (z:AV) (ok:Bool) (x k:AV):Option AV:=match x with
 | .mp r=>match H.get r with
  | some (.mapo es)=>(z04 q k es).map (Ju z ok)
  | _=>none
 | .nilm=>some (Ju z ok none)
 | _=>none
def z2c (H:z3) (q:EqT) (m k v:AV):Option (AV × z3):=match m with
 | .mp r=>match H.get r with
  | some (.mapo es)=>(z4X q k v es).map fun es'=>(z4,H.put r (some (.mapo es')))
  | _=>none
 | _=>none
def z10 (H:z3) (x:AV):Option AV:=match x with
 | .mp r=>match H.get r with
  | some (.mapo es)=>some (.int .i64 es.length)
  | _=>none
 | .nilm=>some (.int .i64 0)
 | _=>none
def aop (τ:Tau) (H:z3):AOp→Option (AV × z3)
 | .mv x=>some (τ.at x,H)
 | .pick c a b=>match τ.at c with
  | .bool t=>some (τ.at (if t then a else b),H)
  | _=>none
 | .newc cs=>if cs.all AV.one then some (.ptr H.size 0,H.push (some (.cells .exact cs.length cs))) else none
 | .box x=>let cs:=(τ.at x).cells
  if cs.all AV.one then some (.ptr H.size 0,H.push (some (.cells .exact cs.length cs))) else none
 | .build z ps=>(q7 z (ps.map fun(o,s,x)=>(o,s,τ.at x))).map fun cs=>(.agg cs,H)
 | .bsl esz z n ps=>if esz=0∨z.length≠esz∨16777216 < n * esz then none else
  match q7 (yU n z) (ps.map fun(o,s,x)=>(o,s,τ.at x)) with
  | some cs=>if cs.all AV.one then some (.sl H.size 0 n (.ex n),H.push (some (.cells .exact esz cs))) else none
  | none=>none
 | .ld x=>match τ.at x with
  | .ptr r o=>(H.cell r o).map fun v=>(v,H)
  | _=>none
 | .ldn n x=>match τ.at x with
  | .ptr r o=>(H.row r o n).map fun cs=>(.agg cs,H)
  | _=>none
 | .st n a v=>match τ.at a with
  | .ptr r o=>if (τ.at v).cells.length=n then (H.write r o (τ.at v).cells).map fun H'=>(z4,H') else none
  | _=>none
 | .nck x=>match τ.at x with
  | .ptr r o=>some (.ptr r o,H)
  | _=>none
 | .bin op x y=>(zc op (τ.at x) (τ.at y)).map fun v=>(v,H)
 | .eqs neg q x y=>(eqA q (τ.at x) (τ.at y)).map fun b=>(.bool (b != neg),H)
 | .eqn neg c x=>(z02 c (τ.at x)).map fun b=>(.bool (b != neg),H)
 | .un op x=>(unA op (τ.at x)).map fun v=>(v,H)
 | .cvi k x=>match τ.at x with
  | .int _ n=>some (.int k (k.wrap n),H)
  | _=>none
 | .cvs x=>match τ.at x with
  | .str s=>some (.str s,H)
  | _=>none
 | .stf x=>match τ.at x with
  | .sl r o len cap=>match H.get r with
   | some (.cells k z cs)=>if k=.ro then none else some (.sl r o len cap,H.put r (some (.cells .stiff z cs)))
   | _=>none
  | _=>none
 | .s2b x=>match τ.at x with
  | .str s=>if s.length≤zp then some (.sl H.size 0 s.length (.mi 0),H.push (some (.cells .stiff 1 (s.map fun b=>.int .u8 b.toNat)))) else none
  | _=>none
 | .b2s x=>match τ.at x with
  | .nils=>some (.str [],H)
  | .zs ..=>some (.str [],H)
  | .sl r o len _=>match H.row r o len with
   | some cs=>match zO Zc cs with
    | some bs=>some (.str bs,H)
    | none=>none
   | none=>none
  | _=>none
 | .mki t x=>some (.ifc t (τ.at x),H)
 | .mkf f fs cs=>some (.fn f (fs.map τ.at) (cs.map τ.at),H)
 | .mks esz bytes z l c=>match τ.at l,τ.at c with
  | .int _ l,.int _ c=>if 0≤l∧l≤c∧c.toNat * bytes≤zp∧c≤70368744177664∧esz≠0∧z.length=esz∧z.all AV.one then
    some (.sl H.size 0 l.toNat (.ex c.toNat),H.push (some (.cells .exact esz (yU c.toNat z)))) else none
  | _,_=>none
 | .slc esz x lo hi mx=>ke H esz (τ.at x) (lo.map τ.at) (hi.map τ.at) (mx.map τ.at)
 | .sls x lo hi=>match τ.at x with
  | .str s=>match yh (hi.map τ.at) s.length s.length with
   | none=>none
   | some h=>match yh (lo.map τ.at) 0 h with
    | none=>none
    | some l=>some (.str ((s.take h).drop l),H)
  | _=>none
 | .sla n esz x lo hi=>match τ.at x with
  | .ptr r o=>match yh (hi.map τ.at) n n with
   | none=>none
   | some h=>match yh (lo.map τ.at) 0 h with
    | none=>none
    | some l=>some (.sl r (if n=l then o else o+l * esz) (h - l) (.ex (n - l)),H)
  | _=>none
 | .fad off x=>match τ.at x with
  | .ptr r o=>some (.ptr r (o+off),H)
  | _=>none
 | .fld off n x=>match τ.at x with
  | .agg cs=>(jS cs off n).map fun v=>(v,H)
  | _=>none
 | .iad esz x i=>match τ.at x,τ.at i with
  | .sl r o len _,.int _ i=>if 0≤i∧i < len then some (.ptr r (o+i.toNat * esz),H) else none
  | _,_=>none
 | .iaa n esz x i=>match τ.at x,τ.at i with
  | .ptr r o,.int _ i=>if 0≤i∧i < n then some (.ptr r (o+i.toNat * esz),H) else none
  | _,_=>none
 | .ixs x i=>match τ.at x,τ.at i with
  | .str s,.int _ i=>if 0≤i then match s[i.toNat]? with
   | some b=>some (.int .u8 b.toNat,H)
   | none=>none
   else none
  | _,_=>none
 | .ixa n esz k x i=>match τ.at x,τ.at i with
  | .agg cs,.int _ i=>if 0≤i∧i < n then (jS cs (i.toNat * esz) k).map fun v=>(v,H) else none
  | _,_=>none
 | .tas t z ok x=>z6t t z ok (τ.at x) H
 | .ext x i=>match τ.at x with
  | .tup vs=>(vs[i]?).map fun v=>(v,H)
  | _=>none
 | .lens x=>match τ.at x with
  | .str s=>some (.int .i64 s.length,H)
  | _=>none
 | .len x=>match τ.at x with
  | .nils=>some (.int .i64 0,H)
  | .sl _ _ n _=>some (.int .i64 n,H)
  | .zs ..=>some (.int .i64 0,H)
  | _=>none
 | .lena n=>some (.int .i64 n,H)
 | .cap x=>match τ.at x with
  | .nils=>some (.int .i64 0,H)
  | .sl _ _ _ (.ex c)=>some (.int .i64 c,H)
  | _=>none
 | .mxi l=>match l.map τ.at with
  | x::rest=>(rest.foldl kG (some x)).map fun v=>(v,H)
  | []=>none
 | .mni l=>match l.map τ.at with
  | x::rest=>(rest.foldl kH (some x)).map fun v=>(v,H)
  | []=>none
 | .app esz bytes z s x=>if z.length=esz then X4 H esz bytes (τ.at s) (τ.at x) else none
 | .apz esz bytes z s n=>match τ.at s,τ.at n with
  | .sl r o len (.ex c),.int k n=>if z.length=esz∧0 < esz∧0 < n∧c < len+n.toNat∧(len+n.toNat) * bytes≤zp∧len+n.toNat≤zp∧k=.i64 then
    match H.row r o (len * esz) with
    | some olds=>some (.sl H.size 0 (len+n.toNat) (.mi 0),H.push (some (.cells .opened esz (olds++yU n.toNat z))))
    | none=>none
   else none
  | _,_=>none
 | .cpy esz d s=>match z03 (τ.at s),z03 (τ.at d) with
  | some m,some n =>
   if min m n=0 then some (.int .i64 0,H) else
   match τ.at s,τ.at d with
   | .sl r o _ _,.sl r' o' _ _=>match H.row r o (min m n * esz) with
    | some cs=>(H.write r' o' cs).map fun H'=>(.int .i64 (min m n:Nat),H')
    | none=>none
   | _,_=>none
  | _,_=>none
 | .clr esz z x=>match τ.at x with
  | .nils=>some (z4,H)
  | .sl r o n _=>if z.length=esz∧z≠[] then (H.write r o (yU n z)).map fun H'=>(z4,H') else none
  | _=>none
 | .rng x=>match τ.at x with
  | .str s=>some (.ptr H.size 0,H.push (some (.iter s 0)))
  | _=>none
 | .nxt x=>match τ.at x with
  | .ptr r 0=>match H.get r with
   | some (.iter s pos) =>
    if pos < s.length then
     some (.tup [.bool true,.int .i64 pos,.int .i32 (Utf8.decode ⟨⟨s⟩⟩ pos).1],H.put r (some (.iter s (pos+(Utf8.decode ⟨⟨s⟩⟩ pos).2))))
    else some (.tup [.bool false],H)
   | _=>none
  | _=>none
 | .mkm=>some (.mp H.size,H.push (some (.mapo [])))
 | .mlk q z ok x k=>(Vd H q z ok (τ.at x) (τ.at k)).map fun v=>(v,H)
 | .mup q m k v=>z2c H q (τ.at m) (τ.at k) (τ.at v)
 | .lnm x=>(z10 H (τ.at x)).map fun v=>(v,H)
 | .call .. | .inv ..=>none
def yR (τ:Tau):AOp→Option (Nat × List AV)
 | .call f args=>match τ.at f with
  | .fn f fs cs=>some (f,fs++args.map τ.at++cs)
  | _=>none
 | .inv tab r args=>match τ.at r with
  | .ifc t v=>match tab.lookup t with
   | some f=>some (f,v::args.map τ.at)
   | none=>none
  | _=>none
 | _=>none
inductive zE where
 | normal
 | exit (id:Nat)
 | ret
 deriving DecidableEq,Repr
structure Env where
 fns:Nat→Option AFn
 spec:Nat→Option (List AV→z3→Option (AV × z3))
def Tau.put (τ:Tau) (d:Option Nat) (v:AV):Tau:=match d with
 | some d=>τ.set d v
 | none=>τ
def za (τ:Tau):Option (Nat × Bool)→Bool
 | none=>true
 | some (t,w)=>match τ[t]? with
  | some (.bool b)=>b == w
  | _=>false
def qV (τ:Tau) (H:z3):vl→Option AV
 | .tmp t=>τ[t]?
 | .cell a n=>match τ[a]? with
  | some (.ptr r o)=>match n with
   | none=>H.cell r o
   | some n=>(H.row r o n).map .agg
  | _=>none
def y4 (τ:Tau) (H:z3) (l:List vl):Option AV:=match zO (qV τ H) l with
 | some [v]=>some v
 | some vs=>some (.tup vs)
 | none=>none
mutual
def qA:AV→AV→Bool
 | .bool a,.bool b=>a == b
 | .int k a,.int l b=>k == l && a == b
 | .str a,.str b=>a == b
 | .nilp,.nilp | .nils,.nils | .nilfn,.nilfn | .nilifc,.nilifc | .nilm,.nilm=>true
 | .ptr r o,.ptr s p=>r == s && o == p
 | .sl r o n c,.sl s p m d=>r == s && o == p && n == m && c == d
 | .zs r o n c,.zs s p m d=>r == s && o == p && n == m && c == d
 | .raw r,.raw s=>r == s
 | .mp r,.mp s=>r == s
 | .fn f a b,.fn g c d=>f == g && Zd a c && Zd b d
 | .ifc t a,.ifc u b=>t == u && qA a b
 | .agg a,.agg b=>Zd a b
 | .tup a,.tup b=>Zd a b
 | .fz z a,.fz y b=>z == y && Zd a b
 | .ow z a,.ow y b=>z == y && Zd a b
 | .cp a o,.cp b p=>o == p && Zd a b
 | .lt z a,.lt y b=>z == y && Zd a b
 | .sk,.sk=>true
 | _,_=>false
def Zd:List AV→List AV→Bool
 | [],[]=>true
 | a::l,b::m=>qA a b && Zd l m
 | _,_=>false
end

abbrev z7:=Nat→List AV→z3→Option (AV × z3)
def xL (call:z7) (τ:Tau) (H:z3) (op:AOp):Option (AV × z3):=match yR τ op with
 | some (g,vs)=>call g vs H
 | none=>aop τ H op
def kK (call:z7):List zk→Tau→z3→Option (Tau × z3)
 | [],τ,H=>some (τ,H)
 | o::l,τ,H =>
  if za τ o.guard then match xL call τ H o.op with
   | some (v,H')=>kK call l (τ.put o.dst v) H'
   | none=>none
  else kK call l (τ.put o.dst z4) H

inductive Rec where
 | none
 | q (τ:Tau) (op:AOp) (v:AV)
 | made (r:Nat)
def jT (H H':z3):Rec→Bool
 | .none=>true
 | .q τ op v=>match aop τ H' op with
  | some (v',H2)=>H2.size == H'.size && qA v v'
  | none=>false
 | .made r=>match H.get r,H'.get r with
  | some (.cells k z a),some (.cells k' z' b)=>k == k' && z == z' && Zd a b
  | _,_=>false
def jr (H H':z3) (recs:List Rec):List Nat→Bool
 | []=>true
 | p::l=>(match recs[p]? with
  | some q=>jT H H' q
  | none=>false) && jr H H' recs l
def xB (τ:Tau) (r:Nat):AOp→Option (AV × zF)
 | .newc cs=>if cs.all AV.one then some (.ptr r 0,.cells .exact cs.length cs) else none
 | .box x=>if (τ.at x).cells.all AV.one then some (.ptr r 0,.cells .exact (τ.at x).cells.length (τ.at x).cells) else none
 | .bsl esz z n ps=>if esz=0∨z.length≠esz∨16777216 < n * esz then none else
  match q7 (yU n z) (ps.map fun(o,s,x)=>(o,s,τ.at x)) with
  | some cs=>if cs.all AV.one then some (.sl r 0 n (.ex n),.cells .exact esz cs) else none
  | none=>none
 | _=>none
def pushN:Nat→z3→z3
 | 0,H=>H
 | n+1,H=>pushN n (H.push none)
def x9 (call:z7) (base:Nat):List (zk × DK)→List Rec→Tau→z3→Option (Tau × z3)
 | [],_,τ,H=>some (τ,H)
 | (o,dk)::l,recs,τ,H =>
  if za τ o.guard then match dk with
   | .q=>match aop τ H o.op with
    | some (v,H')=>if H'.size=H.size then x9 call base l (recs++[.q τ o.op v]) (τ.put o.dst v) H else none
    | none=>none
   | .al k=>match xB τ (base+k) o.op with
    | some (v,ob)=>if (H.get (base+k)).isNone then x9 call base l (recs++[.made (base+k)]) (τ.put o.dst v) (H.put (base+k) (some ob)) else none
    | none=>none
   | .ef pins=>match xL call τ H o.op with
    | some (v,H')=>if jr H H' recs pins then x9 call base l (recs++[.none]) (τ.put o.dst v) H' else none
    | none=>none
  else x9 call base l (recs++[.none]) (τ.put o.dst z4) H
mutual
def xn (E:Env):Nat→Nat→List AV→z3→Option (AV × z3)
 | 0,_,_,_=>none
 | n+1,f,args,H=>match E.spec f with
  | some g=>g args H
  | none=>match E.fns f with
   | none=>none
   | some fn=>match zx E n fn.code (args++List.replicate (fn.nt - args.length) z4) H with
    | some (.normal,τ,H') | some (.ret,τ,H')=>(y4 τ H' fn.res).map fun v=>(v,H')
    | _=>none
def zx (E:Env):Nat→x3→Tau→z3→Option (zE × Tau × z3)
 | 0,_,_,_=>none
 | n+1,c,τ,H=>match c with
  | .skip=>some (.normal,τ,H)
  | .ret=>some (.ret,τ,H)
  | .exit i=>some (.exit i,τ,H)
  | .reg ops=>(kK (xn E n) ops τ H).map fun(τ,H)=>(.normal,τ,H)
  | .dreg na ops=>(x9 (xn E n) H.size ops [] τ (pushN na H)).map fun(τ,H)=>(.normal,τ,H)
  | .seq a b=>match zx E n a τ H with
   | some (.normal,τ,H)=>zx E n b τ H
   | r=>r
  | .cond x a b=>match τ.at x with
   | .bool t=>zx E n (if t then a else b) τ H
   | _=>none
  | .block i c=>match zx E n c τ H with
   | some (.exit j,τ,H)=>some (if j=i then .normal else .exit j,τ,H)
   | r=>r
  | .loop c=>match zx E n c τ H with
   | some (.normal,τ,H)=>zx E n (.loop c) τ H
   | r=>r
end

def Ye:Option (AV × z3)→Bool
 | some (.bool true,_)=>true
 | _=>false
end Go.Ab
