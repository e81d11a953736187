/- Operations told by the values that they take: those that only look (opP), those that do something (opE). -/
import Derived.Test.YtdbbdfmkglgjdaaSh3
set_option linter.unusedVariables false
set_option linter.unusedSimpArgs false
set_option linter.unusedSectionVars false
namespace Go.Ab
def bnP {β:Type} (o:Option AV) (k:AV→Option β):Option β:=match o with
 | some v=>k v
 | none=>none
def gdP (w:Bool) (o:Option AV):Option AV:=if w then o else some z4
def zF (c a b:AV):Option AV:=match c with
 | .bool true=>some a
 | .bool false=>some b
 | _=>none
def ldA (H:z3) (x:AV):Option AV:=match x with
 | .ptr r o=>H.cell r o
 | _=>none
def z6e (H:z3) (n:Nat) (x:AV):Option AV:=match x with
 | .ptr r o=>(H.row r o n).map .agg
 | _=>none
def ql (x:AV):Option AV:=match x with
 | .ptr r o=>some (.ptr r o)
 | _=>none
def z0B (neg:Bool) (q:EqT) (x y:AV):Option AV:=(eqA q x y).map fun b=>.bool (b != neg)
def z2t (neg:Bool) (c:Nat) (x:AV):Option AV:=(z1F c x).map fun b=>.bool (b != neg)
def z0C (k:IntKind) (x:AV):Option AV:=match x with
 | .int _ n=>some (.int k (k.wrap n))
 | _=>none
def z8V (x:AV):Option AV:=match x with
 | .str s=>some (.str s)
 | _=>none
def z8W (H:z3) (x:AV):Option AV:=match x with
 | .nils=>some (.str [])
 | .zs ..=>some (.str [])
 | .sl r o len _=>match H.row r o len with
  | some cs=>match zO ZS cs with
   | some bs=>some (.str bs)
   | none=>none
  | none=>none
 | _=>none
def xe (H:z3) (esz:Nat) (x:AV) (lo hi mx:Option AV):Option AV:=(kL H esz x lo hi mx).map fun p=>p.1
def z7l (x:AV) (lo hi:Option AV):Option AV:=match x with
 | .str s=>match yi hi s.length s.length with
  | none=>none
  | some h=>match yi lo 0 h with
   | none=>none
   | some l=>some (.str ((s.take h).drop l))
 | _=>none
def zdf (n esz:Nat) (x:AV) (lo hi:Option AV):Option AV:=match x with
 | .ptr r o=>match yi hi n n with
  | none=>none
  | some h=>match yi lo 0 h with
   | none=>none
   | some l=>some (.sl r (if n=l then o else o+l * esz) (h - l) (.ex (n - l)))
 | _=>none
def qi (off:Nat) (x:AV):Option AV:=match x with
 | .ptr r o=>some (.ptr r (o+off))
 | _=>none
def z6f (off:Nat) (n:Option Nat) (x:AV):Option AV:=match x with
 | .agg cs=>kC cs off n
 | _=>none
def z6g (esz:Nat) (x i:AV):Option AV:=match x,i with
 | .sl r o len _,.int _ i=>if 0≤i∧i < len then some (.ptr r (o+i.toNat * esz)) else none
 | _,_=>none
def z4H (n esz:Nat) (x i:AV):Option AV:=match x,i with
 | .ptr r o,.int _ i=>if 0≤i∧i < n then some (.ptr r (o+i.toNat * esz)) else none
 | _,_=>none
def z8X (x i:AV):Option AV:=match x,i with
 | .str s,.int _ i=>if 0≤i then match s[i.toNat]? with
  | some b=>some (.int .u8 b.toNat)
  | none=>none
  else none
 | _,_=>none
def z7m (n esz:Nat) (k:Option Nat) (x i:AV):Option AV:=match x,i with
 | .agg cs,.int _ i=>if 0≤i∧i < n then kC cs (i.toNat * esz) k else none
 | _,_=>none
def z0D (t:Nat) (z:AV) (ok:Bool) (x:AV):Option AV:=match x with
 | .ifc t' v=>if t'=t then some (if ok then .tup [v,.bool true] else v) else if ok then some (.tup [z,.bool false]) else none
 | .nilifc=>if ok then some (.tup [z,.bool false]) else none
 | _=>none
def xf (x:AV) (i:Nat):Option AV:=match x with
 | .tup vs=>vs[i]?
 | _=>none
def z2u (x:AV):Option AV:=match x with
 | .str s=>some (.int .i64 s.length)
 | _=>none
def z2v (x:AV):Option AV:=match x with
 | .nils=>some (.int .i64 0)
 | .sl _ _ n _=>some (.int .i64 n)
 | .zs ..=>some (.int .i64 0)
 | _=>none
def zaQ (x:AV):Option AV:=match x with
 | .nils=>some (.int .i64 0)
 | .sl _ _ _ (.ex c)=>some (.int .i64 c)
 | _=>none
def z8Y (l:List AV):Option AV:=match l with
 | x::rest=>rest.foldl vm (some x)
 | []=>none
def z8Z (l:List AV):Option AV:=match l with
 | x::rest=>rest.foldl vn (some x)
 | []=>none
def JJ (H:z3) (cs:List AV):Option (AV × z3):=if cs.all AV.one then some (.ptr H.size 0,H.push (some (.cells .exact cs.length cs))) else none
def zbP (H:z3) (esz:Nat) (z:List AV) (n:Nat) (ps:List (Nat × Nat × AV)):Option (AV × z3) :=
 if esz=0∨z.length≠esz∨16777216 < n * esz then none else
  match qm (yZ n z) ps with
  | some cs=>if cs.all AV.one then some (.sl H.size 0 n (.ex n),H.push (some (.cells .exact esz cs))) else none
  | none=>none
def stA (H:z3) (n:Nat) (a v:AV):Option (AV × z3):=match a with
 | .ptr r o=>if v.cells.length=n then (H.write r o v.cells).map fun H'=>(z4,H') else none
 | _=>none
def zdg (H:z3) (x:AV):Option (AV × z3):=match x with
 | .sl r o len cap=>match H.get r with
  | some (.cells k z cs)=>if k=.ro then none else some (.sl r o len cap,H.put r (some (.cells .stiff z cs)))
  | _=>none
 | _=>none
def zbQ (H:z3) (x:AV):Option (AV × z3):=match x with
 | .str s=>if s.length≤zo then some (.sl H.size 0 s.length (.mi 0),H.push (some (.cells .stiff 1 (s.map fun b=>.int .u8 b.toNat)))) else none
 | _=>none
def zbR (H:z3) (esz bytes:Nat) (z:List AV) (l c:AV):Option (AV × z3):=match l,c with
 | .int _ l,.int _ c=>if 0≤l∧l≤c∧c.toNat * bytes≤zo∧c≤70368744177664∧esz≠0∧z.length=esz∧z.all AV.one then
   some (.sl H.size 0 l.toNat (.ex c.toNat),H.push (some (.cells .exact esz (yZ c.toNat z)))) else none
 | _,_=>none
def z6h (H:z3) (esz bytes:Nat) (z:List AV) (s x:AV):Option (AV × z3):=if z.length=esz then XV H esz bytes s x else none
def zaR (H:z3) (esz bytes:Nat) (z:List AV) (s n:AV):Option (AV × z3):=match s,n with
 | .sl r o len (.ex c),.int k n=>if z.length=esz∧0 < esz∧0 < n∧c < len+n.toNat∧(len+n.toNat) * bytes≤zo∧len+n.toNat≤zo∧k=.i64 then
   match H.row r o (len * esz) with
   | some olds=>some (.sl H.size 0 (len+n.toNat) (.mi 0),H.push (some (.cells .opened esz (olds++yZ n.toNat z))))
   | none=>none
  else none
 | _,_=>none
def z4I (H:z3) (esz:Nat) (d s:AV):Option (AV × z3):=match z1G s,z1G d with
 | some m,some n =>
  if min m n=0 then some (.int .i64 0,H) else
  match s,d with
  | .sl r o _ _,.sl r' o' _ _=>match H.row r o (min m n * esz) with
   | some cs=>(H.write r' o' cs).map fun H'=>(.int .i64 (min m n:Nat),H')
   | none=>none
  | _,_=>none
 | _,_=>none
def zdh (H:z3) (esz:Nat) (z:List AV) (x:AV):Option (AV × z3):=match x with
 | .nils=>some (z4,H)
 | .sl r o n _=>if z.length=esz∧z≠[] then (H.write r o (yZ n z)).map fun H'=>(z4,H') else none
 | _=>none
def zf5 (H:z3) (x:AV):Option (AV × z3):=match x with
 | .str s=>some (.ptr H.size 0,H.push (some (.iter s 0)))
 | _=>none
def zf6 (H:z3) (x:AV):Option (AV × z3):=match x with
 | .ptr r 0=>match H.get r with
  | some (.iter s pos) =>
   if pos < s.length then
    some (.tup [.bool true,.int .i64 pos,.int .i32 (Utf8.decode ⟨⟨s⟩⟩ pos).1],H.put r (some (.iter s (pos+(Utf8.decode ⟨⟨s⟩⟩ pos).2))))
   else some (.tup [.bool false],H)
  | _=>none
 | _=>none
def zaS (call:z7) (f:AV) (args:List AV) (H:z3):Option (AV × z3):=match f with
 | .fn f fs cs=>call f (fs++args++cs) H
 | _=>none
def z1t (call:z7) (tab:List (Nat × Nat)) (r:AV) (args:List AV) (H:z3):Option (AV × z3):=match r with
 | .ifc t v=>match tab.lookup t with
  | some f=>call f (v::args) H
  | none=>none
 | _=>none
def opP (g:AX→AV) (H:z3):AOp→Option AV
 | .mv x=>some (g x)
 | .pick c a b=>zF (g c) (g a) (g b)
 | .build z ps=>(qm z (ps.map fun(o,s,x)=>(o,s,g x))).map .agg
 | .ld x=>ldA H (g x)
 | .ldn n x=>z6e H n (g x)
 | .nck x=>ql (g x)
 | .bin op x y=>z9 op (g x) (g y)
 | .eqs neg q x y=>z0B neg q (g x) (g y)
 | .eqn neg c x=>z2t neg c (g x)
 | .un op x=>unA op (g x)
 | .cvi k x=>z0C k (g x)
 | .cvs x=>z8V (g x)
 | .b2s x=>z8W H (g x)
 | .mki t x=>some (.ifc t (g x))
 | .mkf f fs cs=>some (.fn f (fs.map g) (cs.map g))
 | .slc esz x lo hi mx=>xe H esz (g x) (lo.map g) (hi.map g) (mx.map g)
 | .sls x lo hi=>z7l (g x) (lo.map g) (hi.map g)
 | .sla n esz x lo hi=>zdf n esz (g x) (lo.map g) (hi.map g)
 | .fad off x=>qi off (g x)
 | .fld off n x=>z6f off n (g x)
 | .iad esz x i=>z6g esz (g x) (g i)
 | .iaa n esz x i=>z4H n esz (g x) (g i)
 | .ixs x i=>z8X (g x) (g i)
 | .ixa n esz k x i=>z7m n esz k (g x) (g i)
 | .tas t z ok x=>z0D t z ok (g x)
 | .ext x i=>xf (g x) i
 | .lens x=>z2u (g x)
 | .len x=>z2v (g x)
 | .lena n=>some (.int .i64 n)
 | .cap x=>zaQ (g x)
 | .mxi l=>z8Y (l.map g)
 | .mni l=>z8Z (l.map g)
 | .mlk q z ok x k=>WT H q z ok (g x) (g k)
 | .lnm x=>z2E H (g x)
 | _=>none
def xz:AOp→Bool
 | .newc .. | .box .. | .bsl .. | .st .. | .stf .. | .s2b .. | .mks .. | .app .. | .apz .. | .cpy .. | .clr .. | .rng .. | .nxt .. | .mkm | .mup .. | .call .. | .inv ..=>false
 | _=>true
def opE (call:z7) (g:AX→AV) (H:z3):AOp→Option (AV × z3)
 | .newc cs=>JJ H cs
 | .box x=>JJ H (g x).cells
 | .bsl esz z n ps=>zbP H esz z n (ps.map fun(o,s,x)=>(o,s,g x))
 | .st n a v=>stA H n (g a) (g v)
 | .stf x=>zdg H (g x)
 | .s2b x=>zbQ H (g x)
 | .mks esz bytes z l c=>zbR H esz bytes z (g l) (g c)
 | .app esz bytes z s x=>z6h H esz bytes z (g s) (g x)
 | .apz esz bytes z s n=>zaR H esz bytes z (g s) (g n)
 | .cpy esz d s=>z4I H esz (g d) (g s)
 | .clr esz z x=>zdh H esz z (g x)
 | .rng x=>zf5 H (g x)
 | .nxt x=>zf6 H (g x)
 | .mkm=>some (.mp H.size,H.push (some (.mapo [])))
 | .mup q m k v=>z3O H q (g m) (g k) (g v)
 | .call f args=>zaS call (g f) (args.map g) H
 | .inv tab r args=>z1t call tab (g r) (args.map g) H
 | _=>none
theorem WQ {τ:Tau} {H:z3} {op:AOp} (h:xz op=true):aop τ H op=(opP τ.at H op).map fun v=>(v,H):=by
 cases op<;>simp only [xz,Bool.false_eq_true] at h<;>simp only [aop,opP]
 case mv=>rfl
 case pick c a b =>
  unfold zF
  cases τ.at c with
  | bool t=>cases t<;>rfl
  | _=>rfl
 case build=>cases qm _ _<;>rfl
 case ld x=>unfold ldA;cases τ.at x<;>rfl
 case ldn n x =>
  unfold z6e
  cases τ.at x<;>first | rfl | skip
  simp only []
  cases z3.row _ _ _ _<;>rfl
 case nck x=>unfold ql;cases τ.at x<;>rfl
 case eqs=>unfold z0B;cases eqA _ _ _<;>rfl
 case eqn=>unfold z2t;cases z1F _ _<;>rfl
 case cvi k x=>unfold z0C;cases τ.at x<;>rfl
 case cvs x=>unfold z8V;cases τ.at x<;>rfl
 case b2s x =>
  unfold z8W
  cases τ.at x<;>first | rfl | skip
  simp only []
  cases z3.row _ _ _ _ with
  | none=>rfl
  | some cs=>simp only [];cases zO ZS cs<;>rfl
 case mki=>rfl
 case mkf=>rfl
 case slc esz x lo hi mx =>
  unfold xe kL
  cases τ.at x<;>cases mx.map τ.at<;>simp only [Option.map_none]
  ·cases yi (hi.map τ.at) 0 0 with
   | none=>rfl
   | some h=>simp only [];cases yi (lo.map τ.at) 0 h<;>rfl
  ·rename_i r o len cap
   cases yi (hi.map τ.at) len (yY H esz r len cap) with
   | none=>rfl
   | some h =>
    simp only []
    cases yi (lo.map τ.at) 0 h with
    | none=>rfl
    | some l =>
     cases cap with
     | ex c=>rfl
     | mi k =>
      simp only []
      split
      ·rfl
      ·split
       ·rfl
       ·split<;>rfl
  ·rename_i r o len cap m
   cases bnd m (yY H esz r len cap) with
   | none=>rfl
   | some m =>
    simp only []
    cases hi.map τ.at with
    | none=>rfl
    | some hv =>
     simp only []
     cases bnd hv m with
     | none=>rfl
     | some h=>simp only [];cases yi (lo.map τ.at) 0 h<;>rfl
  ·cases yi (hi.map τ.at) 0 0 with
   | none=>rfl
   | some h=>simp only [];cases yi (lo.map τ.at) 0 h<;>rfl
 case sls x lo hi =>
  unfold z7l
  cases τ.at x<;>first | rfl | skip
  simp only []
  cases yi _ _ _ with
  | none=>rfl
  | some h=>simp only [];cases yi _ 0 h<;>rfl
 case sla n esz x lo hi =>
  unfold zdf
  cases τ.at x<;>first | rfl | skip
  simp only []
  cases yi _ _ _ with
  | none=>rfl
  | some h=>simp only [];cases yi _ 0 h<;>rfl
 case fad off x=>unfold qi;cases τ.at x<;>rfl
 case fld off n x=>unfold z6f;cases τ.at x<;>rfl
 case iad esz x i =>
  unfold z6g
  cases τ.at x<;>cases τ.at i<;>first | rfl | skip
  simp only []
  split<;>rfl
 case iaa n esz x i =>
  unfold z4H
  cases τ.at x<;>cases τ.at i<;>first | rfl | skip
  simp only []
  split<;>rfl
 case ixs x i =>
  unfold z8X
  cases τ.at x<;>cases τ.at i<;>first | rfl | skip
  simp only []
  split
  ·split<;>simp [*]
  ·rfl
 case ixa n esz k x i =>
  unfold z7m
  cases τ.at x<;>cases τ.at i<;>first | rfl | skip
  simp only []
  split<;>rfl
 case tas t z ok x =>
  unfold z8e z0D
  cases τ.at x<;>first | rfl | skip
  ·simp only [];split
   ·rfl
   ·cases ok<;>rfl
  ·cases ok<;>rfl
 case ext x i=>unfold xf;cases τ.at x<;>rfl
 case len x=>unfold z2v;cases τ.at x<;>rfl
 case lens x=>unfold z2u;cases τ.at x<;>rfl
 case lena=>rfl
 case cap x =>
  unfold zaQ
  cases τ.at x<;>first | rfl | skip
  rename_i c
  cases c<;>rfl
 case mxi l=>unfold z8Y;cases l.map τ.at<;>rfl
 case mni l=>unfold z8Z;cases l.map τ.at<;>rfl
theorem z6i {τ:Tau} {op:AOp} (h:xz op=true):yW τ op=none:=by
 cases op<;>simp only [xz,Bool.false_eq_true] at h<;>rfl
theorem QC {call:z7} {τ:Tau} {H:z3} {op:AOp} (h:xz op=true):xU call τ H op=(opP τ.at H op).map fun v=>(v,H):=by
 unfold xU
 rw [z6i h,WQ h]
theorem qj {call:z7} {τ:Tau} {H:z3} {op:AOp} (h:xz op=false):xU call τ H op=opE call τ.at H op:=by
 cases op<;>simp only [xz,Bool.true_eq_false] at h<;>unfold xU<;>simp only [yW,aop,opE]
 case newc=>rfl
 case box=>rfl
 case bsl=>unfold zbP;rfl
 case st n a v=>unfold stA;cases τ.at a<;>rfl
 case stf x=>unfold zdg;cases τ.at x<;>rfl
 case s2b x=>unfold zbQ;cases τ.at x<;>rfl
 case mks a b z l c=>unfold zbR;cases τ.at l<;>cases τ.at c<;>rfl
 case app=>rfl
 case apz a b z s n=>unfold zaR;rfl
 case cpy esz d s=>unfold z4I;rfl
 case clr esz z x=>unfold zdh;cases τ.at x<;>rfl
 case call f args=>unfold zaS;cases τ.at f<;>rfl
 case inv tab r args =>
  unfold z1t
  cases τ.at r<;>first | rfl | skip
  simp only []
  cases List.lookup _ tab<;>rfl
 case rng x=>unfold zf5;cases τ.at x<;>rfl
 case nxt x=>unfold zf6;rfl
end Go.Ab
