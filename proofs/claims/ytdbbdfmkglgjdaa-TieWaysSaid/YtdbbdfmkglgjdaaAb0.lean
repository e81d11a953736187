/- A deterministic evaluator over an abstract heap ("Ab"): values, heap, digested code, and how a program's functions are digested. -/
import GoSem.Dispatch
import GoSem.Step
import Derived.Orders
set_option linter.unusedVariables false
set_option linter.unusedSimpArgs false
set_option linter.unusedSectionVars false
namespace Go.Ab
inductive kb where
 | ex (c:Nat)
 | mi (k:Nat)
 deriving DecidableEq,Repr,Inhabited
inductive AV where
 | bool (b:Bool)
 | int (k:IntKind) (n:Int)
 | str (s:List UInt8)
 | nilp
 | ptr (r o:Nat)
 | nils
 | sl (r o len:Nat) (cap:kb)
 | zs (r o k d:Nat)
 | raw (r:Nat)
 | fn (f:Nat) (first captured:List AV)
 | nilfn
 | ifc (t:Nat) (v:AV)
 | nilifc
 | mp (r:Nat)
 | nilm
 | agg (cs:List AV)
 | tup (vs:List AV)
 | fz (z:Nat) (l:List AV)
 | ow (z:Nat) (l:List AV)
 | cp (cs:List AV) (o:Nat)
 | lt (z:Nat) (l:List AV)
 | sk
 deriving Inhabited,Repr
def z4:AV:=.tup []
def AV.cells:AV→List AV
 | .agg cs=>cs
 | v=>[v]
def AV.one:AV→Bool
 | .agg _ | .tup _ | .raw _ | .ow .. | .lt .. | .sk=>false
 | _=>true
def AV.isRaw:AV→Bool
 | .raw _=>true
 | _=>false
inductive AX where
 | t (n:Nat)
 | c (v:AV)
 deriving Inhabited,Repr
inductive EqT where
 | b | i | s
 | st (fields:List (Nat × Nat × EqT))
 deriving Inhabited,Repr
inductive AOp where
 | mv (x:AX)
 | pick (c a b:AX)
 | newc (cells:List AV)
 | box (x:AX)
 | build (zero:List AV) (parts:List (Nat × Nat × AX))
 | bsl (esz:Nat) (zero:List AV) (len:Nat) (parts:List (Nat × Nat × AX))
 | ld (x:AX)
 | ldn (n:Nat) (x:AX)
 | st (n:Nat) (a v:AX)
 | nck (x:AX)
 | bin (op:BinOp) (x y:AX)
 | eqs (neg:Bool) (t:EqT) (x y:AX)
 | eqn (neg:Bool) (cls:Nat) (x:AX)
 | un (op:UnOp) (x:AX)
 | cvi (k:IntKind) (x:AX)
 | cvs (x:AX)
 | stf (x:AX)
 | s2b (x:AX)
 | b2s (x:AX)
 | mki (t:Nat) (x:AX)
 | mkf (f:Nat) (first captured:List AX)
 | mks (esz bytes:Nat) (zero:List AV) (len cap:AX)
 | slc (esz:Nat) (x:AX) (lo hi mx:Option AX)
 | sls (x:AX) (lo hi:Option AX)
 | sla (n esz:Nat) (x:AX) (lo hi:Option AX)
 | fad (off:Nat) (x:AX)
 | fld (off:Nat) (n:Option Nat) (x:AX)
 | iad (esz:Nat) (x i:AX)
 | iaa (n esz:Nat) (x i:AX)
 | ixs (x i:AX)
 | ixa (n esz:Nat) (k:Option Nat) (x i:AX)
 | tas (t:Nat) (zero:AV) (ok:Bool) (x:AX)
 | ext (x:AX) (i:Nat)
 | len (x:AX)
 | lens (x:AX)
 | lena (n:Nat)
 | cap (x:AX)
 | mxi (l:List AX)
 | mni (l:List AX)
 | app (esz bytes:Nat) (zero:List AV) (s x:AX)
 | apz (esz bytes:Nat) (zero:List AV) (s n:AX)
 | cpy (esz:Nat) (d s:AX)
 | clr (esz:Nat) (zero:List AV) (x:AX)
 | call (f:AX) (args:List AX)
 | inv (tab:List (Nat × Nat)) (recv:AX) (args:List AX)
 | rng (x:AX)
 | nxt (x:AX)
 | mkm
 | mlk (q:EqT) (zero:AV) (ok:Bool) (x k:AX)
 | mup (q:EqT) (m k v:AX)
 | lnm (x:AX)
 deriving Inhabited,Repr
structure zk where
 dst:Option Nat
 op:AOp
 guard:Option (Nat × Bool)
 deriving Inhabited,Repr
inductive DK where
 | q
 | al (k:Nat)
 | ef (pins:List Nat)
 deriving Inhabited,Repr
inductive x3 where
 | skip
 | reg (ops:List zk)
 | dreg (na:Nat) (ops:List (zk × DK))
 | seq (a b:x3)
 | cond (c:AX) (a b:x3)
 | block (id:Nat) (c:x3)
 | loop (c:x3)
 | exit (id:Nat)
 | ret
 deriving Inhabited,Repr
inductive vl where
 | tmp (t:Nat)
 | cell (a:Nat) (n:Option Nat)
 deriving Inhabited,Repr
structure AFn where
 nt:Nat
 code:x3
 res:List vl
 deriving Inhabited,Repr


def zO {α β:Type} (f:α→Option β):List α→Option (List β)
 | []=>some []
 | x::l=>match f x with
  | none=>none
  | some y=>match zO f l with
   | none=>none
   | some ys=>some (y::ys)
def Ja:Nat→Value→Option AV
 | 0,_=>none
 | _+1,.bool b=>some (.bool b)
 | _+1,.int k n=>some (.int k n)
 | _+1,.string s=>some (.str s.data.toList)
 | _+1,.pointer none=>some .nilp
 | _+1,.slice none 0 0=>some .nils
 | _+1,.nilFunc=>some .nilfn
 | n+1,.iface t v=>(Ja n v).map (.ifc t)
 | _+1,.nilIface=>some .nilifc
 | _+1,.map none=>some .nilm
 | n+1,.agg cs=>(zO (Ja n) cs.toList).map .agg
 | n+1,.tuple vs=>(zO (Ja n) vs.toList).map .tup
 | _+1,_=>none
def dX:Operand→Option AX
 | .tmp t=>some (.t t)
 | .const v=>(Ja 20 v).map .c
 | .func f=>some (.c (.fn f [] []))
 | .global _=>none
section
variable (P:Program)
def jB (t:TypeId):Option Nat:=(P.info? t).map (·.size)
def jC (t:TypeId):Option (List AV):=match P.info? t with
 | some i=>match i.zero with
  | some z=>(Ja 20 z).map AV.cells
  | none=>none
 | none=>none
def X0 (t:TypeId):Option AV:=match P.info? t with
 | some i=>match i.zero with
  | some z=>Ja 20 z
  | none=>none
 | none=>none
def wm (t:TypeId):Option (Option Nat):=match P.underlying t with
 | some (.struct _) | some (.array _ _)=>(jB P t).map some
 | some _=>some none
 | none=>none
def Jt:Nat→TypeId→Option EqT
 | 0,_=>none
 | n+1,t=>match P.underlying t with
  | some .bool=>some .b
  | some (.int _)=>some .i
  | some .string=>some .s
  | some (.struct fs) =>
   if P.stoodInHeld t then none
   else (zO (fun(f:Field)=>if f.name == "_" then none else match jB P f.type,Jt n f.type with
    | some z,some q=>some (f.offset,z,q)
    | _,_=>none) fs.toList).map .st
  | _=>none
def z2a:TypeDesc→Option Nat
 | .slice _=>some 0
 | .interface _=>some 1
 | .pointer _=>some 2
 | .func ..=>some 3
 | .map ..=>some 4
 | _=>none
def Qe:Nat→Value
 | 0=>.slice none 0 0
 | 1=>.nilIface
 | 2=>.pointer none
 | 3=>.nilFunc
 | _=>.map none
def z5I (cls:Nat) (x:Operand):Bool:=match cls,x with
 | 0,.const (.slice none 0 0)=>true
 | 1,.const .nilIface=>true
 | 2,.const (.pointer none)=>true
 | 3,.const .nilFunc=>true
 | 4,.const (.map none)=>true
 | _,_=>false
def z9u (op:BinOp) (xType:TypeId) (x y:Operand):Option AOp:=do
 let a ← dX x
 let b ← dX y
 match P.underlying xType with
 | some (.int _) | some .string=>some (.bin op a b)
 | some .bool=>match op with
  | .eql=>some (.eqs false .b a b)
  | .neq=>some (.eqs true .b a b)
  | _=>none
 | some (.struct _) =>
  if P.eqGuardType P.depth xType then none else match op with
  | .eql=>(Jt P 20 xType).map fun q=>.eqs false q a b
  | .neq=>(Jt P 20 xType).map fun q=>.eqs true q a b
  | _=>none
 | some d=>match z2a d with
  | none=>none
  | some c=>if z5I c y then (match op with
   | .eql=>some (.eqn false c a)
   | .neq=>some (.eqn true c a)
   | _=>none) else none
 | none=>none
def z1n (name:String):List (Nat × Nat) :=
 (List.range P.types.size).filterMap fun t=>match P.info? t with
  | none=>none
  | some i=>match i.methods.find? (·.name == name) with
   | some m=>match m.path.isEmpty,m.func,P.underlying t with
    | true,some (f,true),some (.pointer _)=>some (t,f)
    | true,some (_,false),some (.pointer _)=>none
    | true,some (f,false),some _=>some (t,f)
    | _,_,_=>none
   | none=>none
def X1 (place:Nat→Option (Nat × Nat)) (ps:Array (Nat × Operand)):Option (List (Nat × Nat × AX)) :=
 zO (fun(p:Nat × Operand)=>match place p.1,dX p.2 with
  | some (o,s),some x=>some (o,s,x)
  | _,_=>none) ps.toList
def dXs (xs:Array Operand):Option (List AX):=zO dX xs.toList
def dXo:Option Operand→Option (Option AX)
 | none=>some none
 | some x=>(dX x).map some
def Qf (b:Builtin) (argTypes:Array TypeId) (args:Array Operand):Option AOp:=do
 let xs ← dXs args
 match b,xs,argTypes.toList with
 | .len,[x],[t]=>match P.underlying t with
  | some (.slice _)=>some (.len x)
  | some .string=>some (.lens x)
  | some (.map _ _)=>some (.lnm x)
  | some (.array n _)=>some (.lena n)
  | _=>none
 | .cap,[x],[t]=>match P.underlying t with
  | some (.slice _)=>some (.cap x)
  | _=>none
 | .max,xs,_=>some (.mxi xs)
 | .min,xs,_=>some (.mni xs)
 | .append,[s,x],[t,u]=>match P.underlying t,P.underlying u with
  | some (.slice e),some (.slice _)=>match P.info? e,jC P e with
   | some i,some z=>some (.app i.size i.bytes z s x)
   | _,_=>none
  | some (.slice e),some (.int _)=>match P.info? e,jC P e with
   | some i,some z=>some (.apz i.size i.bytes z s x)
   | _,_=>none
  | _,_=>none
 | .copy,[d,s],[t,u]=>match P.underlying t,P.underlying u with
  | some (.slice e),some (.slice _)=>(jB P e).map fun z=>.cpy z d s
  | _,_=>none
 | .clear,[x],[t]=>match P.underlying t with
  | some (.slice e)=>match jB P e,jC P e with
   | some n,some z=>some (.clr n z x)
   | _,_=>none
  | _=>none
 | _,_,_=>none
def z6s (t:TypeId):Option EqT:=match P.underlying t with
 | some (.int _)=>some .i
 | some .string=>some .s
 | _=>none
def dOp (o:Op):Option AOp :=
 match o with
 | .move x | .assign x=>(dX x).map .mv
 | .pick c a b=>do some (.pick (← dX c) (← dX a) (← dX b))
 | .alloc e=>(jC P e).map .newc
 | .box _ x=>(dX x).map .box
 | .build t ps=>do
  let z ← jC P t
  match P.underlying t with
  | some (.struct fs)=>do
   let places ← zO (fun(f:Field)=>(jB P f.type).map fun s=>(f.offset,s)) fs.toList
   some (.build z (← X1 (fun i=>places[i]?) ps))
  | some (.array _ e)=>do
   let s ← jB P e
   some (.build z (← X1 (fun i=>some (i * s,s)) ps))
  | _=>none
 | .buildSlice t n ps=>match P.underlying t with
  | some (.slice e)=>do
   let s ← jB P e
   let z ← jC P e
   some (.bsl s z n (← X1 (fun i=>some (i * s,s)) ps))
  | _=>none
 | .load t x=>do
  let a ← dX x
  match ← wm P t with
  | none=>some (.ld a)
  | some n=>some (.ldn n a)
 | .store t a v=>do some (.st (← jB P t) (← dX a) (← dX v))
 | .nilCheck x=>(dX x).map .nck
 | .binOp op t x y _=>z9u P op t x y
 | .unOp op _ x=>(dX x).map (.un op)
 | .convert s d x=>do
  let a ← dX x
  match P.underlying s,P.underlying d with
  | some (.int _),some (.int k)=>some (.cvi k a)
  | some .string,some .string=>some (.cvs a)
  | some .string,some (.slice e)=>match P.underlying e with
   | some (.int .u8)=>some (.s2b a)
   | _=>none
  | some (.slice e),some .string=>match P.underlying e with
   | some (.int .u8)=>some (.b2s a)
   | _=>none
  | some (.slice _),some (.slice e)=>match P.underlying e with
   | some (.int .u8)=>if s=d then some (.stf a) else none
   | _=>none
  | _,_=>none
 | .makeInterface t x=>match P.underlying t with
  | some (.interface _) | none=>none
  | some _=>(dX x).map (.mki t)
 | .makeFunc (.func f) fs cs=>do some (.mkf f (← dXs fs) (← dXs cs))
 | .makeSlice t l c=>match P.underlying t with
  | some (.slice e)=>match P.info? e,jC P e with
   | some i,some z=>do some (.mks i.size i.bytes z (← dX l) (← dX c))
   | _,_=>none
  | _=>none
 | .slice t x lo hi mx=>do
  let a ← dX x
  let l ← dXo lo
  let h ← dXo hi
  let m ← dXo mx
  match P.underlying t with
  | some .string=>match mx with
   | none=>some (.sls a l h)
   | some _=>none
  | some (.slice e)=>(jB P e).map fun s=>.slc s a l h m
  | some (.array n e)=>match mx with
   | none=>(jB P e).map fun s=>.sla n s a l h
   | some _=>none
  | _=>none
 | .fieldAddr s x f=>match P.underlying s with
  | some (.struct fs)=>match fs[f]? with
   | some fl=>match jB P fl.type with
    | some (_+1)=>(dX x).map (.fad fl.offset)
    | _=>none
   | none=>none
  | _=>none
 | .field t x f=>match P.underlying t with
  | some (.struct fs)=>match fs[f]? with
   | some fl=>do some (.fld fl.offset (← wm P fl.type) (← dX x))
   | none=>none
  | _=>none
 | .indexAddr t x i=>match P.underlying t with
  | some (.slice e)=>do some (.iad (← jB P e) (← dX x) (← dX i))
  | some (.array n e)=>do some (.iaa n (← jB P e) (← dX x) (← dX i))
  | _=>none
 | .index t x i=>match P.underlying t with
  | some .string=>do some (.ixs (← dX x) (← dX i))
  | some (.array n e)=>do some (.ixa n (← jB P e) (← wm P e) (← dX x) (← dX i))
  | _=>none
 | .typeAssert x _ t ok=>match P.underlying t with
  | some (.interface _) | none=>none
  | some _=>do some (.tas t (← X0 P t) ok (← dX x))
 | .extract x i=>(dX x).map fun a=>.ext a i
 | .call c=>match c.callee with
  | .value f=>do some (.call (← dX f) (← dXs c.args))
  | .invoke r m=>do some (.inv (z1n P m) (← dX r) (← dXs c.args))
  | .builtin b=>Qf P b c.argTypes c.args
 | .range t x=>match P.underlying t with
  | some .string=>(dX x).map .rng
  | _=>none
 | .next x true=>(dX x).map .nxt
 | .makeMap _ none=>some .mkm
 | .lookup t x i ok=>match P.underlying t with
  | some (.map k e)=>match z6s P k,X0 P e with
   | some q,some z=>do some (.mlk q z ok (← dX x) (← dX i))
   | _,_=>none
  | _=>none
 | .mapUpdate t m i v=>match P.underlying t with
  | some (.map k _)=>match z6s P k with
   | some q=>do some (.mup q (← dX m) (← dX i) (← dX v))
   | none=>none
  | _=>none
 | _=>none
def kZ (ops:Array Oper) (o:Oper):Option zk:=do
 let op ← dOp P o.op
 match o.guard with
 | none=>some ⟨o.dst,op,none⟩
 | some (j,w)=>match (ops[j]?).bind (·.dst) with
  | some t=>some ⟨o.dst,op,some (t,w)⟩
  | none=>none

def kF:Op→Bool
 | .move _ | .assign _ | .pick .. | .build .. | .load .. | .nilCheck _ | .binOp .. | .unOp .. | .makeInterface .. | .makeFunc ..
 | .fieldAddr .. | .field .. | .indexAddr .. | .index .. | .typeAssert .. | .extract ..=>true
 | .convert s d _=>match P.underlying s,P.underlying d with
  | some (.int _),some (.int _)=>true
  | some .string,some .string=>true
  | _,_=>false
 | .slice ..=>true
 | .lookup ..=>true
 | .call { callee:=.builtin .len,argTypes:=ts,.. }=>match ts.toList with
  | [t]=>match P.underlying t with
   | some (.map _ _)=>false
   | _=>true
  | _=>true
 | .call { callee:=.builtin .max,.. } | .call { callee:=.builtin .min,.. }=>true
 | _=>false
def zW:Op→Bool
 | .alloc _ | .box .. | .buildSlice ..=>true
 | _=>false
def vo (o:Op):Bool:=kF P o || zW o
def z00 (ops:Array Oper) (listed:Array Bool):Option Nat :=
 let rs:=Region.ready .any ops listed
 match rs.find? (fun i=>vo P (ops.getD i default).op) with
 | some i=>some i
 | none=>match rs with
  | [i]=>some i
  | _=>none
def X2 (ops:Array Oper):Nat→Array Bool→Option (List Nat)
 | 0,_=>some []
 | n+1,listed=>match z00 P ops listed with
  | none=>none
  | some i=>(X2 ops n (listed.setIfInBounds i true)).map (i::·)
def W6 (o:Oper) (j:Nat):Bool:=o.after.any fun e=>Region.binds .any e && e.on == j
def ZY (ops:Array Oper):Bool :=
 (List.range ops.size).all fun j=>(List.range ops.size).all fun i =>
  match ops[j]?,ops[i]? with
  | some oj,some oi=>match oj.dst with
   | none=>true
   | some t=>(i == j || oi.dst != some t) && (!(oi.looksAt ops).contains t || (i != j && (W6 oi j || W6 oj i)))
  | _,_=>true
def pinned:Op→Bool
 | .load .. | .slice .. | .lookup ..=>true
 | o=>zW o
def z2b (ops:Array Oper):Nat→Oper→Nat→Bool
 | 0,o,j=>W6 o j
 | n+1,o,j=>W6 o j || o.after.any fun e=>Region.binds .any e && match ops[e.on]? with
  | some o'=>z2b ops n o' j
  | none=>false
def z4W (ops:Array Oper) (o:Oper) (j:Nat):Bool:=z2b ops 5 o j
def X3 (ops:Array Oper) (ord:List Nat) (o:Oper):List Nat :=
 (ord.zipIdx).filterMap fun(j,p)=>match ops[j]? with
  | some oj=>if pinned oj.op && !z4W ops o j then some p else none
  | none=>none
def Je (ops:Array Oper):(before:List Nat)→(k:Nat)→List Nat→Option (Nat × List (zk × DK))
 | _,k,[]=>some (k,[])
 | before,k,i::l=>match ops[i]? with
  | none=>none
  | some o=>match kZ P ops o with
   | none=>none
   | some a =>
    if zW o.op then (Je ops (before++[i]) (k+1) l).map fun(n,r)=>(n,(a,DK.al k)::r)
    else if kF P o.op then (Je ops (before++[i]) k l).map fun(n,r)=>(n,(a,DK.q)::r)
    else (Je ops (before++[i]) k l).map fun(n,r)=>(n,(a,DK.ef (X3 ops before o))::r)
def XD:Code→Option x3
 | .skip | .label _=>some .skip
 | .ret=>some .ret
 | .exit i=>some (.exit i)
 | .region _ ops false=>(zO (kZ P ops) ops.toList).map .reg
 | .region _ ops true=>if ZY ops then
   match X2 P ops ops.size (Array.replicate ops.size false) with
   | none=>none
   | some ord=>(Je P ops [] 0 ord).map fun(n,r)=>.dreg n r
  else none
 | .seq a b=>do some (.seq (← XD a) (← XD b))
 | .cond c a b=>do some (.cond (← dX c) (← XD a) (← XD b))
 | .block i c=>(XD c).map (.block i)
 | .loop c=>(XD c).map .loop
 | _=>none
def z9v:ResultVar→Option vl
 | .tmp t=>some (.tmp t)
 | .cell a t=>(wm P t).map (.cell a)
def dFn (f:Func):Option AFn:=do
 let c ← f.body
 some ⟨f.ntmps,← XD P c,← zO (z9v P) f.results.toList⟩
end
end Go.Ab
