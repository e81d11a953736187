/- Operations told by the values that they take: those that only look (opP), those that do something (opE). -/
import Derived.Test.YtdbbdfmkglgjdaaSh3
set_option linter.unusedVariables false
set_option linter.unusedSimpArgs false
set_option linter.unusedSectionVars false
namespace Go.Ab
def bnP {β:Type} (o:Option AV) (k:AV→Option β):Option β:=match o with
 | some v=>k v
 | none=>none
def gdP (w:Bool) (o:Option AV):Option AV:=if w then o else some z4
def zr (c a b:AV):Option AV:=match c with
 | .bool true=>some a
 | .bool false=>some b
 | _=>none
def ldA (H:z3) (x:AV):Option AV:=match x with
 | .ptr r o=>H.cell r o
 | _=>none
def z4C (H:z3) (n:Nat) (x:AV):Option AV:=match x with
 | .ptr r o=>(H.row r o n).map .agg
 | _=>none
def yB (x:AV):Option AV:=match x with
 | .ptr r o=>some (.ptr r o)
 | _=>none
def Jd (neg:Bool) (q:EqT) (x y:AV):Option AV:=(eqA q x y).map fun b=>.bool (b != neg)
def z0P (neg:Bool) (c:Nat) (x:AV):Option AV:=(z02 c x).map fun b=>.bool (b != neg)
def z0Q (k:IntKind) (x:AV):Option AV:=match x with
 | .int _ n=>some (.int k (k.wrap n))
 | _=>none
def z7j (x:AV):Option AV:=match x with
 | .str s=>some (.str s)
 | _=>none
def z7k (H:z3) (x:AV):Option AV:=match x with
 | .nils=>some (.str [])
 | .zs ..=>some (.str [])
 | .sl r o len _=>match H.row r o len with
  | some cs=>match zO Zc cs with
   | some bs=>some (.str bs)
   | none=>none
  | none=>none
 | _=>none
def x8 (H:z3) (esz:Nat) (x:AV) (lo hi mx:Option AV):Option AV:=(ke H esz x lo hi mx).map fun p=>p.1
def z5F (x:AV) (lo hi:Option AV):Option AV:=match x with
 | .str s=>match yh hi s.length s.length with
  | none=>none
  | some h=>match yh lo 0 h with
   | none=>none
   | some l=>some (.str ((s.take h).drop l))
 | _=>none
def zbB (n esz:Nat) (x:AV) (lo hi:Option AV):Option AV:=match x with
 | .ptr r o=>match yh hi n n with
  | none=>none
  | some h=>match yh lo 0 h with
   | none=>none
   | some l=>some (.sl r (if n=l then o else o+l * esz) (h - l) (.ex (n - l)))
 | _=>none
def yy (off:Nat) (x:AV):Option AV:=match x with
 | .ptr r o=>some (.ptr r (o+off))
 | _=>none
def z4D (off:Nat) (n:Option Nat) (x:AV):Option AV:=match x with
 | .agg cs=>jS cs off n
 | _=>none
def z4E (esz:Nat) (x i:AV):Option AV:=match x,i with
 | .sl r o len _,.int _ i=>if 0≤i∧i < len then some (.ptr r (o+i.toNat * esz)) else none
 | _,_=>none
def z37 (n esz:Nat) (x i:AV):Option AV:=match x,i with
 | .ptr r o,.int _ i=>if 0≤i∧i < n then some (.ptr r (o+i.toNat * esz)) else none
 | _,_=>none
def z7l (x i:AV):Option AV:=match x,i with
 | .str s,.int _ i=>if 0≤i then match s[i.toNat]? with
  | some b=>some (.int .u8 b.toNat)
  | none=>none
  else none
 | _,_=>none
def z5G (n esz:Nat) (k:Option Nat) (x i:AV):Option AV:=match x,i with
 | .agg cs,.int _ i=>if 0≤i∧i < n then jS cs (i.toNat * esz) k else none
 | _,_=>none
def VW (t:Nat) (z:AV) (ok:Bool) (x:AV):Option AV:=match x with
 | .ifc t' v=>if t'=t then some (if ok then .tup [v,.bool true] else v) else if ok then some (.tup [z,.bool false]) else none
 | .nilifc=>if ok then some (.tup [z,.bool false]) else none
 | _=>none
def ko (x:AV) (i:Nat):Option AV:=match x with
 | .tup vs=>vs[i]?
 | _=>none
def Ww (x:AV):Option AV:=match x with
 | .str s=>some (.int .i64 s.length)
 | _=>none
def z0R (x:AV):Option AV:=match x with
 | .nils=>some (.int .i64 0)
 | .sl _ _ n _=>some (.int .i64 n)
 | .zs ..=>some (.int .i64 0)
 | _=>none
def z9d (x:AV):Option AV:=match x with
 | .nils=>some (.int .i64 0)
 | .sl _ _ _ (.ex c)=>some (.int .i64 c)
 | _=>none
def z7m (l:List AV):Option AV:=match l with
 | x::rest=>rest.foldl kG (some x)
 | []=>none
def z7n (l:List AV):Option AV:=match l with
 | x::rest=>rest.foldl kH (some x)
 | []=>none
def QS (H:z3) (cs:List AV):Option (AV × z3):=if cs.all AV.one then some (.ptr H.size 0,H.push (some (.cells .exact cs.length cs))) else none
def za7 (H:z3) (esz:Nat) (z:List AV) (n:Nat) (ps:List (Nat × Nat × AV)):Option (AV × z3) :=
 if esz=0∨z.length≠esz∨16777216 < n * esz then none else
  match q7 (yU n z) ps with
  | some cs=>if cs.all AV.one then some (.sl H.size 0 n (.ex n),H.push (some (.cells .exact esz cs))) else none
  | none=>none
def stA (H:z3) (n:Nat) (a v:AV):Option (AV × z3):=match a with
 | .ptr r o=>if v.cells.length=n then (H.write r o v.cells).map fun H'=>(z4,H') else none
 | _=>none
def zbC (H:z3) (x:AV):Option (AV × z3):=match x with
 | .sl r o len cap=>match H.get r with
  | some (.cells k z cs)=>if k=.ro then none else some (.sl r o len cap,H.put r (some (.cells .stiff z cs)))
  | _=>none
 | _=>none
def za8 (H:z3) (x:AV):Option (AV × z3):=match x with
 | .str s=>if s.length≤zp then some (.sl H.size 0 s.length (.mi 0),H.push (some (.cells .stiff 1 (s.map fun b=>.int .u8 b.toNat)))) else none
 | _=>none
def za9 (H:z3) (esz bytes:Nat) (z:List AV) (l c:AV):Option (AV × z3):=match l,c with
 | .int _ l,.int _ c=>if 0≤l∧l≤c∧c.toNat * bytes≤zp∧c≤70368744177664∧esz≠0∧z.length=esz∧z.all AV.one then
   some (.sl H.size 0 l.toNat (.ex c.toNat),H.push (some (.cells .exact esz (yU c.toNat z)))) else none
 | _,_=>none
def z4F (H:z3) (esz bytes:Nat) (z:List AV) (s x:AV):Option (AV × z3):=if z.length=esz then X4 H esz bytes s x else none
def z9e (H:z3) (esz bytes:Nat) (z:List AV) (s n:AV):Option (AV × z3):=match s,n with
 | .sl r o len (.ex c),.int k n=>if z.length=esz∧0 < esz∧0 < n∧c < len+n.toNat∧(len+n.toNat) * bytes≤zp∧len+n.toNat≤zp∧k=.i64 then
   match H.row r o (len * esz) with
   | some olds=>some (.sl H.size 0 (len+n.toNat) (.mi 0),H.push (some (.cells .opened esz (olds++yU n.toNat z))))
   | none=>none
  else none
 | _,_=>none
def z38 (H:z3) (esz:Nat) (d s:AV):Option (AV × z3):=match z03 s,z03 d with
 | some m,some n =>
  if min m n=0 then some (.int .i64 0,H) else
  match s,d with
  | .sl r o _ _,.sl r' o' _ _=>match H.row r o (min m n * esz) with
   | some cs=>(H.write r' o' cs).map fun H'=>(.int .i64 (min m n:Nat),H')
   | none=>none
  | _,_=>none
 | _,_=>none
def zbD (H:z3) (esz:Nat) (z:List AV) (x:AV):Option (AV × z3):=match x with
 | .nils=>some (z4,H)
 | .sl r o n _=>if z.length=esz∧z≠[] then (H.write r o (yU n z)).map fun H'=>(z4,H') else none
 | _=>none
def zdt (H:z3) (x:AV):Option (AV × z3):=match x with
 | .str s=>some (.ptr H.size 0,H.push (some (.iter s 0)))
 | _=>none
def zdu (H:z3) (x:AV):Option (AV × z3):=match x with
 | .ptr r 0=>match H.get r with
  | some (.iter s pos) =>
   if pos < s.length then
    some (.tup [.bool true,.int .i64 pos,.int .i32 (Utf8.decode ⟨⟨s⟩⟩ pos).1],H.put r (some (.iter s (pos+(Utf8.decode ⟨⟨s⟩⟩ pos).2))))
   else some (.tup [.bool false],H)
  | _=>none
 | _=>none
def z9f (call:z7) (f:AV) (args:List AV) (H:z3):Option (AV × z3):=match f with
 | .fn f fs cs=>call f (fs++args++cs) H
 | _=>none
def WQ (call:z7) (tab:List (Nat × Nat)) (r:AV) (args:List AV) (H:z3):Option (AV × z3):=match r with
 | .ifc t v=>match tab.lookup t with
  | some f=>call f (v::args) H
  | none=>none
 | _=>none
def opP (g:AX→AV) (H:z3):AOp→Option AV
 | .mv x=>some (g x)
 | .pick c a b=>zr (g c) (g a) (g b)
 | .build z ps=>(q7 z (ps.map fun(o,s,x)=>(o,s,g x))).map .agg
 | .ld x=>ldA H (g x)
 | .ldn n x=>z4C H n (g x)
 | .nck x=>yB (g x)
 | .bin op x y=>zc op (g x) (g y)
 | .eqs neg q x y=>Jd neg q (g x) (g y)
 | .eqn neg c x=>z0P neg c (g x)
 | .un op x=>unA op (g x)
 | .cvi k x=>z0Q k (g x)
 | .cvs x=>z7j (g x)
 | .b2s x=>z7k H (g x)
 | .mki t x=>some (.ifc t (g x))
 | .mkf f fs cs=>some (.fn f (fs.map g) (cs.map g))
 | .slc esz x lo hi mx=>x8 H esz (g x) (lo.map g) (hi.map g) (mx.map g)
 | .sls x lo hi=>z5F (g x) (lo.map g) (hi.map g)
 | .sla n esz x lo hi=>zbB n esz (g x) (lo.map g) (hi.map g)
 | .fad off x=>yy off (g x)
 | .fld off n x=>z4D off n (g x)
 | .iad esz x i=>z4E esz (g x) (g i)
 | .iaa n esz x i=>z37 n esz (g x) (g i)
 | .ixs x i=>z7l (g x) (g i)
 | .ixa n esz k x i=>z5G n esz k (g x) (g i)
 | .tas t z ok x=>VW t z ok (g x)
 | .ext x i=>ko (g x) i
 | .lens x=>Ww (g x)
 | .len x=>z0R (g x)
 | .lena n=>some (.int .i64 n)
 | .cap x=>z9d (g x)
 | .mxi l=>z7m (l.map g)
 | .mni l=>z7n (l.map g)
 | .mlk q z ok x k=>Vd H q z ok (g x) (g k)
 | .lnm x=>z10 H (g x)
 | _=>none
def xp:AOp→Bool
 | .newc .. | .box .. | .bsl .. | .st .. | .stf .. | .s2b .. | .mks .. | .app .. | .apz .. | .cpy .. | .clr .. | .rng .. | .nxt .. | .mkm | .mup .. | .call .. | .inv ..=>false
 | _=>true
def opE (call:z7) (g:AX→AV) (H:z3):AOp→Option (AV × z3)
 | .newc cs=>QS H cs
 | .box x=>QS H (g x).cells
 | .bsl esz z n ps=>za7 H esz z n (ps.map fun(o,s,x)=>(o,s,g x))
 | .st n a v=>stA H n (g a) (g v)
 | .stf x=>zbC H (g x)
 | .s2b x=>za8 H (g x)
 | .mks esz bytes z l c=>za9 H esz bytes z (g l) (g c)
 | .app esz bytes z s x=>z4F H esz bytes z (g s) (g x)
 | .apz esz bytes z s n=>z9e H esz bytes z (g s) (g n)
 | .cpy esz d s=>z38 H esz (g d) (g s)
 | .clr esz z x=>zbD H esz z (g x)
 | .rng x=>zdt H (g x)
 | .nxt x=>zdu H (g x)
 | .mkm=>some (.mp H.size,H.push (some (.mapo [])))
 | .mup q m k v=>z2c H q (g m) (g k) (g v)
 | .call f args=>z9f call (g f) (args.map g) H
 | .inv tab r args=>WQ call tab (g r) (args.map g) H
 | _=>none
theorem Va {τ:Tau} {H:z3} {op:AOp} (h:xp op=true):aop τ H op=(opP τ.at H op).map fun v=>(v,H):=by
 cases op<;>simp only [xp,Bool.false_eq_true] at h<;>simp only [aop,opP]
 case mv=>rfl
 case pick c a b =>
  unfold zr
  cases τ.at c with
  | bool t=>cases t<;>rfl
  | _=>rfl
 case build=>cases q7 _ _<;>rfl
 case ld x=>unfold ldA;cases τ.at x<;>rfl
 case ldn n x =>
  unfold z4C
  cases τ.at x<;>first | rfl | skip
  simp only []
  cases z3.row _ _ _ _<;>rfl
 case nck x=>unfold yB;cases τ.at x<;>rfl
 case eqs=>unfold Jd;cases eqA _ _ _<;>rfl
 case eqn=>unfold z0P;cases z02 _ _<;>rfl
 case cvi k x=>unfold z0Q;cases τ.at x<;>rfl
 case cvs x=>unfold z7j;cases τ.at x<;>rfl
 case b2s x =>
  unfold z7k
  cases τ.at x<;>first | rfl | skip
  simp only []
  cases z3.row _ _ _ _ with
  | none=>rfl
  | some cs=>simp only [];cases zO Zc cs<;>rfl
 case mki=>rfl
 case mkf=>rfl
 case slc esz x lo hi mx =>
  unfold x8 ke
  cases τ.at x<;>cases mx.map τ.at<;>simp only [Option.map_none]
  ·cases yh (hi.map τ.at) 0 0 with
   | none=>rfl
   | some h=>simp only [];cases yh (lo.map τ.at) 0 h<;>rfl
  ·rename_i r o len cap
   cases yh (hi.map τ.at) len (yT H esz r len cap) with
   | none=>rfl
   | some h =>
    simp only []
    cases yh (lo.map τ.at) 0 h with
    | none=>rfl
    | some l =>
     cases cap with
     | ex c=>rfl
     | mi k =>
      simp only []
      split
      ·rfl
      ·split
       ·rfl
       ·split<;>rfl
  ·rename_i r o len cap m
   cases bnd m (yT H esz r len cap) with
   | none=>rfl
   | some m =>
    simp only []
    cases hi.map τ.at with
    | none=>rfl
    | some hv =>
     simp only []
     cases bnd hv m with
     | none=>rfl
     | some h=>simp only [];cases yh (lo.map τ.at) 0 h<;>rfl
  ·cases yh (hi.map τ.at) 0 0 with
   | none=>rfl
   | some h=>simp only [];cases yh (lo.map τ.at) 0 h<;>rfl
 case sls x lo hi =>
  unfold z5F
  cases τ.at x<;>first | rfl | skip
  simp only []
  cases yh _ _ _ with
  | none=>rfl
  | some h=>simp only [];cases yh _ 0 h<;>rfl
 case sla n esz x lo hi =>
  unfold zbB
  cases τ.at x<;>first | rfl | skip
  simp only []
  cases yh _ _ _ with
  | none=>rfl
  | some h=>simp only [];cases yh _ 0 h<;>rfl
 case fad off x=>unfold yy;cases τ.at x<;>rfl
 case fld off n x=>unfold z4D;cases τ.at x<;>rfl
 case iad esz x i =>
  unfold z4E
  cases τ.at x<;>cases τ.at i<;>first | rfl | skip
  simp only []
  split<;>rfl
 case iaa n esz x i =>
  unfold z37
  cases τ.at x<;>cases τ.at i<;>first | rfl | skip
  simp only []
  split<;>rfl
 case ixs x i =>
  unfold z7l
  cases τ.at x<;>cases τ.at i<;>first | rfl | skip
  simp only []
  split
  ·split<;>simp [*]
  ·rfl
 case ixa n esz k x i =>
  unfold z5G
  cases τ.at x<;>cases τ.at i<;>first | rfl | skip
  simp only []
  split<;>rfl
 case tas t z ok x =>
  unfold z6t VW
  cases τ.at x<;>first | rfl | skip
  ·simp only [];split
   ·rfl
   ·cases ok<;>rfl
  ·cases ok<;>rfl
 case ext x i=>unfold ko;cases τ.at x<;>rfl
 case len x=>unfold z0R;cases τ.at x<;>rfl
 case lens x=>unfold Ww;cases τ.at x<;>rfl
 case lena=>rfl
 case cap x =>
  unfold z9d
  cases τ.at x<;>first | rfl | skip
  rename_i c
  cases c<;>rfl
 case mxi l=>unfold z7m;cases l.map τ.at<;>rfl
 case mni l=>unfold z7n;cases l.map τ.at<;>rfl
theorem z4G {τ:Tau} {op:AOp} (h:xp op=true):yR τ op=none:=by
 cases op<;>simp only [xp,Bool.false_eq_true] at h<;>rfl
theorem Xz {call:z7} {τ:Tau} {H:z3} {op:AOp} (h:xp op=true):xL call τ H op=(opP τ.at H op).map fun v=>(v,H):=by
 unfold xL
 rw [z4G h,Va h]
theorem xZ {call:z7} {τ:Tau} {H:z3} {op:AOp} (h:xp op=false):xL call τ H op=opE call τ.at H op:=by
 cases op<;>simp only [xp,Bool.true_eq_false] at h<;>unfold xL<;>simp only [yR,aop,opE]
 case newc=>rfl
 case box=>rfl
 case bsl=>unfold za7;rfl
 case st n a v=>unfold stA;cases τ.at a<;>rfl
 case stf x=>unfold zbC;cases τ.at x<;>rfl
 case s2b x=>unfold za8;cases τ.at x<;>rfl
 case mks a b z l c=>unfold za9;cases τ.at l<;>cases τ.at c<;>rfl
 case app=>rfl
 case apz a b z s n=>unfold z9e;rfl
 case cpy esz d s=>unfold z38;rfl
 case clr esz z x=>unfold zbD;cases τ.at x<;>rfl
 case call f args=>unfold z9f;cases τ.at f<;>rfl
 case inv tab r args =>
  unfold WQ
  cases τ.at r<;>first | rfl | skip
  simp only []
  cases List.lookup _ tab<;>rfl
 case rng x=>unfold zdt;cases τ.at x<;>rfl
 case nxt x=>unfold zdu;rfl
end Go.Ab
