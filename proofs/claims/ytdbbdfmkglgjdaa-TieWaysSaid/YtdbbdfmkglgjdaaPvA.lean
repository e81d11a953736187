import Derived.Test.YtdbbdfmkglgjdaaSh5
set_option linter.unusedVariables false
set_option linter.unusedSimpArgs false
set_option linter.unusedSectionVars false
namespace Go.Ab
inductive TV where
 | v (a:AV)
 | lp (k o:Nat)
 | ls (k:Nat)
 | lq (k i o:Nat)
 | lb (k n:Nat)
 | lv (k i:Nat)
 | fp (e:AV) (o:Nat)
 | gd (t:Nat) (w:Bool) (x:TV)
 deriving Inhabited
inductive z42 where
 | cells (cs:List AV)
 | own (z:Nat) (l:List AV)
 deriving Inhabited
def lkp {α:Type}:List (Nat × α)→Nat→Option α
 | [],_=>none
 | (a,x)::l,k=>match Nat.beq a k with
  | true=>some x
  | false=>lkp l k
def rmv {α:Type}:List (Nat × α)→Nat→List (Nat × α)
 | [],_=>[]
 | (a,x)::l,k=>match Nat.beq a k with
  | true=>rmv l k
  | false=>(a,x)::rmv l k
abbrev PT:=List (Nat × TV)
abbrev PW:=List (Nat × z42)
mutual
def cOk:AV→Bool
 | .bool _ | .int _ _ | .str _ | .nilp | .nils | .nilfn | .nilifc | .nilm=>true
 | .fn _ a b=>VJ a && VJ b
 | .ifc _ v=>cOk v
 | .agg l=>VJ l
 | _=>false
def VJ:List AV→Bool
 | []=>true
 | v::l=>cOk v && VJ l
end

def TV.val:TV→AV
 | .v a=>a
 | _=>z4
def xE (τ:PT) (t:Nat):TV:=match lkp τ t with
 | some x=>x
 | none=>.v z4
def zaZ (g:Option (Nat × Bool)):TV→TV
 | .gd t w x=>match g with
  | some (t',w')=>match Nat.beq t t',w,w' with
   | true,true,true=>x
   | true,false,false=>x
   | _,_,_=>.v z4
  | none=>.v z4
 | x=>x
def atT (τ:PT) (g:Option (Nat × Bool)):AX→TV
 | .t n=>zaZ g (xE τ n)
 | .c a=>.v (match cOk a with
  | true=>a
  | false=>z4)
def z2S (d:Nat):PT→PT
 | []=>[]
 | (t,x)::l=>(t,match x with
  | .gd t' w y=>match Nat.beq t' d with
   | true=>.v z4
   | false=>.gd t' w y
  | x=>x)::z2S d l
def xA (τ:PT) (d:Option Nat) (x:TV):PT:=match d with
 | some d=>(d,x)::z2S d τ
 | none=>τ
def TV.of (k:Nat):TV→Bool
 | .lp j _ | .ls j | .lq j _ _ | .lb j _ | .lv j _=>Nat.beq j k
 | .gd _ _ x=>x.of k
 | _=>false
def purge (k:Nat):PT→PT
 | []=>[]
 | (t,x)::l=>(t,match x.of k with
  | true=>.v z4
  | false=>x)::purge k l
def Cur (β:Type):Nat→Type
 | 0=>Option β
 | n+1=>AV→Cur β n
def Jo {β:Type}:(n:Nat)→(List AV→Option β)→Cur β n
 | 0,f=>f []
 | n+1,f=>fun a=>Jo n fun l=>f (a::l)
def z43 {β:Type}:(n:Nat)→Cur β n→List AV→Option β
 | 0,c,[]=>c
 | 0,_,_::_=>none
 | _+1,_,[]=>none
 | n+1,c,a::l=>z43 n (c a) l
def bnC {β:Type} (n:Nat) (o:Option (List AV)) (k:Cur β n):Option β:=match o with
 | some l=>z43 n k l
 | none=>none
def bnL {β:Type} (o:Option (List AV)) (k:List AV→Option β):Option β:=match o with
 | some l=>k l
 | none=>none
def bnN {β:Type} (o:Option Nat) (k:Nat→Option β):Option β:=match o with
 | some l=>k l
 | none=>none
def gdQ (v:AV) (w:Bool) (o:Option AV):Option AV:=match v with
 | .bool b=>if b=w then o else some .sk
 | .sk=>some .sk
 | _=>none
def gdN (v:AV) (w:Bool) (o:Option Nat):Option Nat:=match v with
 | .bool b=>if b=w then o else some 0
 | .sk=>some 0
 | _=>none
def gdH (v:AV) (w:Bool) (o:Option (AV × z3)) (Q:z3):Option (AV × z3):=match v with
 | .bool b=>if b=w then o else some (.sk,Q)
 | .sk=>some (.sk,Q)
 | _=>none
def AV.isTup:AV→Bool
 | .tup _ | .ow .. | .raw _ | .lt .. | .sk=>true
 | _=>false
def km:AV→Option AV
 | .nils=>some (.int .i64 0)
 | .fz _ l=>some (.int .i64 l.length)
 | .sl _ _ n _=>some (.int .i64 n)
 | _=>none
def zb0 (neg:Bool) (c:Nat) (x:AV):Option AV:=match x with
 | .fz _ (_::_)=>match c with
  | 0=>some (.bool (false != neg))
  | _=>none
 | .ptr ..=>match c with
  | 2=>some (.bool (false != neg))
  | _=>none
 | .ifc ..=>match c with
  | 1=>some (.bool (false != neg))
  | _=>none
 | .fn ..=>match c with
  | 3=>some (.bool (false != neg))
  | _=>none
 | .nils=>match c with
  | 0=>some (.bool (true != neg))
  | _=>none
 | .nilifc=>match c with
  | 1=>some (.bool (true != neg))
  | _=>none
 | .nilp=>match c with
  | 2=>some (.bool (true != neg))
  | _=>none
 | .nilfn=>match c with
  | 3=>some (.bool (true != neg))
  | _=>none
 | .mp _=>match c with
  | 4=>some (.bool (false != neg))
  | _=>none
 | .nilm=>match c with
  | 4=>some (.bool (true != neg))
  | _=>none
 | _=>none
def elQ (z:Nat) (x i:AV):Option AV:=match x,i with
 | .fz z' l,.int _ i=>if z'=z∧0≤i then l[i.toNat]? else none
 | _,_=>none
def JU (n:Nat) (i:AV):Option Nat:=match i with
 | .int _ i=>if 0≤i∧i < n then some i.toNat else none
 | _=>none
def WN (z:Nat) (x:AV) (lo hi:Option AV):Option AV:=match x with
 | .nils=>match yh hi 0 0 with
  | none=>none
  | some h=>match yh lo 0 h with
   | none=>none
   | some _=>some .nils
 | .fz z' l=>if z'=z∧0 < z then match yh hi l.length l.length with
  | none=>none
  | some h=>match yh lo 0 h with
   | none=>none
   | some j=>some (.fz z ((l.take h).drop j))
  else none
 | _=>none
def z8E (x:AV):Option AV:=match x with
 | .nils=>some (.str [])
 | .fz 1 l=>(zO Zc l).map .str
 | _=>none
def z9S (x:AV):Option AV:=match x with
 | .str s=>if s.length≤zp then some (.fz 1 (s.map fun b=>.int .u8 b.toNat)) else none
 | _=>none
def zb1 (x:AV):Option (List AV):=match x with
 | .str s=>if s.length≤zp then some (s.map fun b=>.int .u8 b.toNat) else none
 | _=>none
def stC (n:Nat) (a:AV):Option (List AV):=match Nat.beq a.cells.length n && a.cells.all AV.one with
 | true=>some a.cells
 | false=>none
def JV (z:Nat) (a:AV):Bool:=Nat.beq a.cells.length z && a.cells.all AV.one
def z5w {β:Type} (z:Nat):Nat→List (Nat × Nat × AV)→(List AV→Option β)→Option β
 | _,[],k=>k []
 | i,(o,s,a)::l,k=>match Nat.beq o (i * z) && Nat.beq s z with
  | true=>pinB (JV z a) (z5w z (i+1) l fun m=>k (a::m))
  | false=>none
def vT:List AV→List (Nat × Nat × AV)→Option (List AV)
 | cs,[]=>some cs
 | cs,(off,s,v)::l=>match v.isTup with
  | true=>none
  | false=>if v.cells.length=s∧off+s≤cs.length then vT (splice cs off v.cells) l else none
def z1j (e:AV) (o:Nat) (cs:List AV):Option AV:=match e with
 | .agg xs=>if o+cs.length≤xs.length then some (.agg (splice xs o cs)) else none
 | _=>match o,cs with
  | 0,[a]=>some a
  | _,_=>none
def mkE (z:List AV):AV:=match z with
 | [a]=>a
 | l=>.agg l
def room (bytes n:Nat):Bool:=decide (n * (bytes+1)≤zp)
def frz:AV→AV
 | .ow z l=>.fz z l
 | v=>v
def owZ (z:Nat) (v:AV):Option (List AV):=match v with
 | .ow z' l=>if z'=z then some l else none
 | _=>none
def z9T (bytes:Nat) (l c:AV):Option Nat:=match l,c with
 | .int _ l,.int _ c=>if 0≤l∧l≤c∧c.toNat * (bytes+1)≤zp then some l.toNat else none
 | _,_=>none
def zcU (off n:Nat) (x:AV):Option (List AV):=match x with
 | .agg cs=>if off+n≤cs.length then some ((cs.drop off).take n) else none
 | _=>none
def ka (l:List AV):List AV:=l.flatMap AV.cells
def QC (z:Nat):Nat→List AV→List AV
 | 0,_=>[]
 | n+1,cs=>mkE (cs.take z)::QC z n (cs.drop z)
def z5x (Q:z3) (z bytes:Nat) (s:AV) (xs:List AV):Option (AV × z3):=match s with
 | .nils=>match xs with
  | []=>some (.nils,Q)
  | _::_=>match room bytes xs.length with
   | true=>some (.sl Q.size 0 xs.length (.mi 0),Q.push (some (.cells .opened z (ka xs))))
   | false=>none
 | .sl r 0 n (.mi 0)=>match xs with
  | []=>some (.sl r 0 n (.mi 0),Q)
  | _::_=>match Q.get r with
   | some (.cells .opened z' cs)=>match Nat.beq z' z && Nat.beq cs.length (n * z) && room bytes (n+xs.length) with
    | true=>some (.sl Q.size 0 (n+xs.length) (.mi 0),(Q.put r none).push (some (.cells .opened z (cs++ka xs))))
    | false=>none
   | _=>none
 | _=>none
def z44 (Q:z3) (z:Nat) (s:AV):Option (AV × z3):=match s with
 | .nils=>some (.nils,Q)
 | .fz z' l=>some (.fz z' l,Q)
 | .sl r 0 n _=>match Q.get r with
  | some (.cells _ z' cs)=>match Nat.beq z' z && Nat.beq cs.length (n * z) && cs.all AV.one with
   | true=>some (.fz z (QC z n cs),Q.put r none)
   | false=>none
  | _=>none
 | _=>none
inductive x4 where
 | n
 | s (z:Nat)
 | f
 | t (z:Nat)
 | tf (z:Nat)
 | l
 | i
 deriving Inhabited
def jK:Nat:=1000000
def QD:AV→Bool
 | .bool _ | .int _ _ | .str _=>true
 | _=>false
def vU:AV→Bool
 | .tup l=>l.all QD
 | v=>QD v
structure PM where
 m:x4
 fz:List Nat
 deriving Inhabited
inductive zf where
 | skip
 | ret
 | exit (i:Nat)
 | reg (ops:List (zk × PM))
 | dreg (na:Nat) (ops:List ((zk × DK) × PM))
 | seq (a b:zf)
 | cond (x:AX) (a b:zf)
 | block (i:Nat) (c:zf)
 | loop (c:zf)
 | keep (ts:List Nat) (ks:List (Nat × Nat)) (c:zf)
 | frz (ts:List Nat) (c:zf)
 | hf (t z:Nat) (c:zf)
 | own (t z:Nat) (c:zf)
 | fin (c:zf) (own:List (Nat × Nat)) (fr ts:List Nat) (ks:List (Nat × Nat))
 deriving Inhabited
def zf.un:zf→x3
 | .skip=>.skip
 | .ret=>.ret
 | .exit i=>.exit i
 | .reg ops=>.reg (ops.map (·.1))
 | .dreg na ops=>.dreg na (ops.map (·.1))
 | .seq a b=>.seq a.un b.un
 | .cond x a b=>.cond x a.un b.un
 | .block i c=>.block i c.un
 | .loop c=>.loop c.un
 | .keep _ _ c=>c.un
 | .frz _ c=>c.un
 | .hf _ _ c=>c.un
 | .own _ _ c=>c.un
 | .fin c _ _ _ _=>c.un
section
variable {β:Type}
def z8F (g:Option (Nat × Bool)) (d:Option Nat) (x:TV):TV:=match g,d with
 | none,_=>x
 | some _,none=>.v z4
 | some (t,w),some d=>match Nat.beq t d with
  | true=>.v z4
  | false=>.gd t w x
def QE (τ:PT) (o:zk) (x:TV) (k:PT→Option β):Option β:=k (xA τ o.dst (z8F o.guard o.dst x))
def gV (τ:PT) (t:Nat):AV:=(xE τ t).val
def qD (τ:PT) (o:zk) (r:Option AV) (k:PT→Option β):Option β:=match o.guard with
 | none=>bnP r fun w=>k (xA τ o.dst (.v w))
 | some (t,w)=>bnP (gdQ (gV τ t) w r) fun a=>k (xA τ o.dst (.v a))
def z1k (τ:PT) (o:zk) (n:Nat) (r:Option (List AV)) (k:PT→Option β):Option β:=match o.guard with
 | none=>bnC n r (Jo n fun cs=>k (xA τ o.dst (.v (.agg cs))))
 | some (t,w)=>bnP (gdQ (gV τ t) w (r.map AV.agg)) fun a=>k (xA τ o.dst (.v a))
def bnG (τ:PT) (o:zk) (r:Option Nat) (k:Nat→Option β):Option β:=match o.guard with
 | none=>bnN r k
 | some (t,w)=>bnN (gdN (gV τ t) w r) k
def z6Y (τ:PT) (o:zk) (r:Option AV) (k:PT→Option β):Option β:=match o.guard with
 | none=>bnP r fun e=>k (xA τ o.dst (.fp e 0))
 | some (t,w)=>bnP (gdQ (gV τ t) w r) fun e=>k (xA τ o.dst (z8F (some (t,w)) o.dst (.fp e 0)))
def cut (cs:List AV) (o n:Nat):Option (List AV):=match Nat.ble (o+n) cs.length with
 | true=>some ((cs.drop o).take n)
 | false=>none
def elN (l:List AV) (i o n:Nat):Option (List AV):=match l[i]? with
 | some e=>cut e.cells o n
 | none=>none
def ldQ (Q:z3):AV→Option AV
 | .cp cs o=>cs[o]?
 | a=>ldA Q a
def z9 (off:Nat):AV→Option AV
 | .cp cs o=>some (.cp cs (o+off))
 | a=>yy off a
def zn:AV→Option AV
 | .cp cs o=>some (.cp cs o)
 | a=>yB a
def ldT (ω:PW) (Q:z3):TV→Option AV
 | .lp k o=>match lkp ω k with
  | some (.cells cs)=>cs[o]?
  | _=>none
 | .lq k i o=>match lkp ω k with
  | some (.own _ l)=>match l[i]? with
   | some e=>e.cells[o]?
   | none=>none
  | _=>none
 | .fp e o=>e.cells[o]?
 | .v a=>ldQ Q a
 | _=>none
def yk (Q:z3) (n:Nat):AV→Option (List AV)
 | .ptr r o=>Q.row r o n
 | .cp cs o=>cut cs o n
 | _=>none
def QF (ω:PW) (Q:z3) (n:Nat):TV→Option (List AV)
 | .lp k o=>match lkp ω k with
  | some (.cells cs)=>cut cs o n
  | _=>none
 | .lq k i o=>match lkp ω k with
  | some (.own _ l)=>match l[i]? with
   | some e=>cut e.cells o n
   | none=>none
  | _=>none
 | .fp e o=>cut e.cells o n
 | .v a=>yk Q n a
 | _=>none
def VK (ω:PW) (z:Nat):TV→Option (List AV)
 | .v .nils=>some []
 | .v (.fz z' l)=>match Nat.beq z' z with
  | true=>some l
  | false=>none
 | .ls k=>match lkp ω k with
  | some (.own z' l)=>match Nat.beq z' z with
   | true=>some l
   | false=>none
  | _=>none
 | _=>none
def z1E (ω:PW):TV→AV
 | .v a=>a
 | .ls k=>match lkp ω k with
  | some (.own z l)=>.fz z l
  | _=>z4
 | _=>z4
def bnF (v:AV) (k:Nat→List AV→List AV→Option β):Option β:=match v with
 | .fn f fs cs=>k f fs cs
 | _=>none
def Zu (call:z7):z7:=fun f args Q=>match Nat.blt f jK with
 | true=>call f args Q
 | false=>none
def QG (call:z7) (o:zk) (m:x4) (τ:PT) (ω:PW) (Q:z3) (f:Nat) (fs cs:List AV) (args:List AX) (k:PT→PW→z3→Option β):Option β:=match m with
 | .t z=>match args,o.dst,fs,cs with
  | x::rest,some d,[],[]=>match atT τ none x with
   | .ls j=>match lkp ω j with
    | some (.own z' l)=>match Nat.beq z' z with
     | true=>bnS (call (f+jK) (.ow z l::rest.map fun y=>(atT τ none y).val) Q) fun v Q'=>bnL (owZ z v) fun l'=>k (xA (purge j τ) (some d) (.ls j)) ((j,.own z l')::rmv ω j) Q'
     | false=>none
    | _=>none
   | _=>none
  | _,_,_,_=>none
 | .tf z=>match args,fs,cs with
  | x::rest,[],[]=>match atT τ none x with
   | .ls j=>match lkp ω j with
    | some (.own z' l)=>match Nat.beq z' z with
     | true=>bnS (call (f+jK) (.ow z l::rest.map fun y=>(atT τ none y).val) Q) fun v Q'=>k (xA (purge j τ) o.dst (.v (frz v))) (rmv ω j) Q'
     | false=>none
    | _=>none
   | _=>none
  | _,_,_=>none
 | .l=>bnS (Zu call f (fs++args.map (fun y=>z1E ω (atT τ none y))++cs) ⟨Q.size,.leaf⟩) fun v _=>match vU v with
  | true=>k (xA τ o.dst (.v v)) ω Q
  | false=>none
 | .s z=>match o.dst with
  | some d=>bnS (Zu call f (fs++args.map (fun y=>(atT τ none y).val)++cs) Q) fun v Q'=>bnL (owZ z v) fun l=>k (xA (purge d τ) (some d) (.ls d)) ((d,.own z l)::rmv ω d) Q'
  | none=>none
 | .n=>bnS (Zu call f (fs++args.map (fun y=>(atT τ none y).val)++cs) Q) fun v Q'=>k (xA τ o.dst (.v (frz v))) ω Q'
 | .f=>none
 | .i=>none
def z6Z (d z bytes:Nat) (τ:PT) (ω:PW) (Q:z3) (s x:TV) (k:PT→PW→z3→Option β):Option β:=match s with
 | .v (.lt z' l)=>match Nat.beq z' z with
  | true=>bnL (VK ω z x) fun xs=>pinB (room bytes (l.length+xs.length)) (k (xA τ (some d) (.v (.fz z (l++xs)))) ω Q)
  | false=>none
 | .v .nils=>bnL (VK ω z x) fun xs=>pinB (room bytes xs.length) (k (xA (purge d τ) (some d) (.ls d)) ((d,.own z xs)::rmv ω d) Q)
 | .ls j=>match lkp ω j with
  | some (.own z' l)=>match Nat.beq z' z with
   | true=>bnL (VK ω z x) fun xs=>pinB (room bytes (l.length+xs.length)) (k (xA (purge j τ) (some d) (.ls j)) ((j,.own z (l++xs))::rmv ω j) Q)
   | false=>none
  | _=>none
 | _=>none
def yt (call:z7) (o:zk) (m:x4) (τ:PT) (ω:PW) (Q:z3) (k:PT→PW→z3→Option β):Option β :=
 match o.op with
 | .mv x=>match atT τ o.guard x with
  | .v a=>match o.guard with
   | none=>k (xA τ o.dst (.v a)) ω Q
   | some (t,w)=>bnP (gdQ (gV τ t) w (some a)) fun a=>k (xA τ o.dst (.v a)) ω Q
  | x=>QE τ o x fun τ=>k τ ω Q
 | .fad off x=>match atT τ o.guard x with
  | .lp j o'=>QE τ o (.lp j (o'+off)) fun τ=>k τ ω Q
  | .lq j i o'=>QE τ o (.lq j i (o'+off)) fun τ=>k τ ω Q
  | .fp e o'=>QE τ o (.fp e (o'+off)) fun τ=>k τ ω Q
  | .v a=>qD τ o (z9 off a) fun τ=>k τ ω Q
  | _=>none
 | .iaa n z x i=>match atT τ o.guard x with
  | .lp j o'=>bnG τ o (JU n (atT τ o.guard i).val) fun q=>QE τ o (.lp j (o'+q * z)) fun τ=>k τ ω Q
  | .lq j i' o'=>bnG τ o (JU n (atT τ o.guard i).val) fun q=>QE τ o (.lq j i' (o'+q * z)) fun τ=>k τ ω Q
  | .fp e o'=>bnG τ o (JU n (atT τ o.guard i).val) fun q=>QE τ o (.fp e (o'+q * z)) fun τ=>k τ ω Q
  | .v a=>qD τ o (z37 n z a (atT τ o.guard i).val) fun τ=>k τ ω Q
  | _=>none
 | .iad z x i=>match atT τ o.guard x with
  | .v a=>z6Y τ o (elQ z a (atT τ o.guard i).val) fun τ=>k τ ω Q
  | .ls j=>match lkp ω j with
   | some (.own z' l)=>match Nat.beq z' z with
    | true=>bnG τ o (JU l.length (atT τ o.guard i).val) fun q=>QE τ o (.lq j q 0) fun τ=>k τ ω Q
    | false=>none
   | _=>none
  | .lb j n=>bnG τ o (JU n (atT τ o.guard i).val) fun q=>QE τ o (.lp j (q * z)) fun τ=>k τ ω Q
  | _=>none
 | .nck x=>match atT τ o.guard x with
  | .v a=>qD τ o (zn a) fun τ=>k τ ω Q
  | .ls _=>none
  | .gd ..=>none
  | .lb ..=>none
  | .lv ..=>none
  | x=>QE τ o x fun τ=>k τ ω Q
 | .ld x=>qD τ o (ldT ω Q (atT τ o.guard x)) fun τ=>k τ ω Q
 | .ldn n x=>z1k τ o n (QF ω Q n (atT τ o.guard x)) fun τ=>k τ ω Q
 | .st n x a=>match o.guard with
  | some _=>none
  | none=>match atT τ none x with
   | .lp j o'=>bnC n (stC n (atT τ none a).val) (Jo n fun cs=>match lkp ω j with
    | some (.cells ds)=>match Nat.ble (o'+n) ds.length with
     | true=>k (xA τ o.dst (.v z4)) ((j,.cells (splice ds o' cs))::rmv ω j) Q
     | false=>none
    | _=>none)
   | .lq j i o'=>bnC n (stC n (atT τ none a).val) (Jo n fun cs=>match lkp ω j with
    | some (.own z l)=>bnP (l[i]?) fun e=>bnP (z1j e o' cs) fun e'=>k (xA τ o.dst (.v z4)) ((j,.own z (l.set i e'))::rmv ω j) Q
    | _=>none)
   | .v p=>bnS (stA Q n p (atT τ none a).val) fun _ Q'=>k (xA τ o.dst (.v z4)) ω Q'
   | _=>none
 | .newc cs=>match o.guard with
  | some _=>none
  | none=>match VJ cs && cs.all AV.one with
   | false=>none
   | true=>match m,o.dst with
    | .s _,some d=>k (xA (purge d τ) (some d) (.lp d 0)) ((d,.cells cs)::rmv ω d) Q
    | .n,_=>k (xA τ o.dst (.v (.ptr Q.size 0))) ω (Q.push (some (.cells .exact cs.length cs)))
    | _,_=>none
 | .box x=>match o.guard with
  | some _=>none
  | none=>match m,o.dst with
   | .s z,some d=>bnC z (stC z (atT τ none x).val) (Jo z fun cs=>k (xA (purge d τ) (some d) (.lp d 0)) ((d,.cells cs)::rmv ω d) Q)
   | .n,_=>bnS (QS Q (atT τ none x).val.cells) fun w Q'=>k (xA τ o.dst (.v w)) ω Q'
   | _,_=>none
 | .build z ps=>match VJ z with
  | true=>z1k τ o z.length (vT z (ps.map fun p=>(p.1,p.2.1,(atT τ o.guard p.2.2).val))) fun τ=>k τ ω Q
  | false=>none
 | .bsl z zero n ps=>match o.guard with
  | some _=>none
  | none=>match Nat.beq ps.length n && Nat.beq zero.length z && Nat.ble (n * z) 16777216 && Nat.blt 0 z with
   | false=>none
   | true=>z5w z 0 (ps.map fun p=>(p.1,p.2.1,(atT τ none p.2.2).val)) fun l=>match m,o.dst with
    | .s _,some d=>k (xA (purge d τ) (some d) (.ls d)) ((d,.own z l)::rmv ω d) Q
    | .f,_=>k (xA τ o.dst (.v (.fz z l))) ω Q
    | .i,_=>k (xA τ o.dst (.v (.lt z l))) ω Q
    | _,_=>none
 | .app z bytes zero s x=>match o.guard,o.dst with
  | none,some d=>match Nat.beq zero.length z && Nat.blt 0 z with
   | false=>none
   | true=>match m with
    | .i=>bnL (VK ω z (atT τ none x)) fun xs=>bnS (z5x Q z bytes (atT τ none s).val xs) fun v Q'=>k (xA τ (some d) (.v v)) ω Q'
    | _=>z6Z d z bytes τ ω Q (atT τ none s) (atT τ none x) k
  | _,_=>none
 | .mks z bytes zero l c=>match o.guard,o.dst with
  | none,some d=>match Nat.beq zero.length z && Nat.blt 0 z && VJ zero && zero.all AV.one with
   | false=>none
   | true=>bnN (z9T bytes (atT τ none l).val (atT τ none c).val) fun n=>k (xA (purge d τ) (some d) (.ls d)) ((d,.own z (List.replicate n (mkE zero)))::rmv ω d) Q
  | _,_=>none
 | .len x=>match atT τ o.guard x with
  | .v a=>qD τ o (km a) fun τ=>k τ ω Q
  | .ls j=>match lkp ω j with
   | some (.own _ l)=>qD τ o (some (.int .i64 l.length)) fun τ=>k τ ω Q
   | _=>none
  | .lb _ n=>qD τ o (some (.int .i64 n)) fun τ=>k τ ω Q
  | _=>none
 | .eqn neg c x=>match atT τ o.guard x with
  | .v a=>qD τ o (zb0 neg c a) fun τ=>k τ ω Q
  | _=>none
 | .slc z x lo hi mx=>match mx with
  | some _=>none
  | none=>match atT τ o.guard x with
   | .v a=>qD τ o (WN z a (lo.map fun y=>(atT τ o.guard y).val) (hi.map fun y=>(atT τ o.guard y).val)) fun τ=>k τ ω Q
   | .ls j=>match m,lkp ω j,lo,hi with
    | .s _,some (.own z' l),some y,none=>match Nat.beq z' z with
     | true=>bnG τ o (JU l.length (atT τ o.guard y).val) fun q=>QE τ o (.lv j q) fun τ=>k τ ω Q
     | false=>none
    | _,_,_,_=>none
   | _=>none
 | .fld off n x=>match n with
  | some n=>z1k τ o n (zcU off n (atT τ o.guard x).val) fun τ=>k τ ω Q
  | none=>qD τ o (z4D off none (atT τ o.guard x).val) fun τ=>k τ ω Q
 | .b2s x=>match atT τ o.guard x with
  | .lb j n=>match lkp ω j with
   | some (.cells cs)=>qD τ o ((cut cs 0 n).bind fun l=>z8E (.fz 1 l)) fun τ=>k τ ω Q
   | _=>none
  | y=>qD τ o (z8E y.val) fun τ=>k τ ω Q
 | .s2b x=>match o.guard with
  | some _=>none
  | none=>match m,o.dst with
   | .s _,some d=>bnL (zb1 (atT τ none x).val) fun cs=>k (xA (purge d τ) (some d) (.lb d cs.length)) ((d,.cells cs)::rmv ω d) Q
   | _,_=>qD τ o (z9S (atT τ none x).val) fun τ=>k τ ω Q
 | .call f args=>match o.guard with
   | none=>bnF (atT τ none f).val fun f fs cs=>QG call o m τ ω Q f fs cs args k
   | some (t,w)=>bnS (gdH (gV τ t) w (bnF (atT τ (some (t,w)) f).val fun f fs cs=>Zu call f (fs++args.map (fun y=>(atT τ (some (t,w)) y).val)++cs) Q) Q) fun v Q'=>k (xA τ o.dst (.v (frz v))) ω Q'
 | .inv tab r args=>match o.guard with
   | none=>bnS (WQ (Zu call) tab (atT τ none r).val (args.map fun y=>(atT τ none y).val) Q) fun v Q'=>k (xA τ o.dst (.v (frz v))) ω Q'
   | some (t,w)=>bnS (gdH (gV τ t) w (WQ (Zu call) tab (atT τ (some (t,w)) r).val (args.map fun y=>(atT τ (some (t,w)) y).val) Q) Q) fun v Q'=>k (xA τ o.dst (.v (frz v))) ω Q'
 | .tas t z ok x=>match cOk z with
  | true=>qD τ o (VW t z ok (atT τ o.guard x).val) fun τ=>k τ ω Q
  | false=>none
 | .pick c a b=>qD τ o (zr (atT τ o.guard c).val (atT τ o.guard a).val (atT τ o.guard b).val) fun τ=>k τ ω Q
 | .bin op x y=>qD τ o (zc op (atT τ o.guard x).val (atT τ o.guard y).val) fun τ=>k τ ω Q
 | .eqs neg q x y=>qD τ o (Jd neg q (atT τ o.guard x).val (atT τ o.guard y).val) fun τ=>k τ ω Q
 | .un op x=>qD τ o (unA op (atT τ o.guard x).val) fun τ=>k τ ω Q
 | .cvi kk x=>qD τ o (z0Q kk (atT τ o.guard x).val) fun τ=>k τ ω Q
 | .cvs x=>qD τ o (z7j (atT τ o.guard x).val) fun τ=>k τ ω Q
 | .mki t x=>qD τ o (some (.ifc t (atT τ o.guard x).val)) fun τ=>k τ ω Q
 | .mkf f fs cs=>qD τ o (some (.fn f (fs.map fun y=>(atT τ o.guard y).val) (cs.map fun y=>(atT τ o.guard y).val))) fun τ=>k τ ω Q
 | .sls x lo hi=>qD τ o (z5F (atT τ o.guard x).val (lo.map fun y=>(atT τ o.guard y).val) (hi.map fun y=>(atT τ o.guard y).val)) fun τ=>k τ ω Q
 | .ixs x i=>qD τ o (z7l (atT τ o.guard x).val (atT τ o.guard i).val) fun τ=>k τ ω Q
 | .ixa n z kk x i=>qD τ o (z5G n z kk (atT τ o.guard x).val (atT τ o.guard i).val) fun τ=>k τ ω Q
 | .ext x i=>qD τ o (ko (atT τ o.guard x).val i) fun τ=>k τ ω Q
 | .lens x=>qD τ o (Ww (atT τ o.guard x).val) fun τ=>k τ ω Q
 | .lena n=>qD τ o (some (.int .i64 n)) fun τ=>k τ ω Q
 | .mxi l=>qD τ o (z7m (l.map fun y=>(atT τ o.guard y).val)) fun τ=>k τ ω Q
 | .mni l=>qD τ o (z7n (l.map fun y=>(atT τ o.guard y).val)) fun τ=>k τ ω Q
 | .mlk q z ok x y=>match cOk z with
  | true=>qD τ o (Vd Q q z ok (atT τ o.guard x).val (atT τ o.guard y).val) fun τ=>k τ ω Q
  | false=>none
 | .lnm x=>qD τ o (z10 Q (atT τ o.guard x).val) fun τ=>k τ ω Q
 | .clr z zero x=>match o.guard with
  | some _=>none
  | none=>match atT τ none x with
   | .lv j i=>match lkp ω j with
    | some (.own z' l)=>match Nat.beq z' z && Nat.beq zero.length z && Nat.blt 0 z && VJ zero && zero.all AV.one with
     | true=>k (xA τ o.dst (.v z4)) ((j,.own z (l.take i++List.replicate (l.length - i) (mkE zero)))::rmv ω j) Q
     | false=>none
    | _=>none
   | _=>none
 | .mkm=>match o.guard with
  | some _=>none
  | none=>k (xA τ o.dst (.v (.mp Q.size))) ω (Q.push (some (.mapo [])))
 | .mup q x y z=>match o.guard with
  | some _=>none
  | none=>bnS (z2c Q q (atT τ none x).val (atT τ none y).val (atT τ none z).val) fun _ Q'=>k (xA τ o.dst (.v z4)) ω Q'
 | _=>none
def WO:List Nat→PT→PW→(PT→PW→Option β)→Option β
 | [],τ,ω,k=>k τ ω
 | t::l,τ,ω,k=>match xE τ t with
  | .ls j=>match lkp ω j with
   | some (.own z xs)=>WO l ((t,.v (.fz z xs))::purge j τ) (rmv ω j) k
   | _=>none
  | .lp j o=>match lkp ω j with
   | some (.cells cs)=>WO l ((t,.v (.cp cs o))::purge j τ) (rmv ω j) k
   | _=>none
  | .v _=>WO l τ ω k
  | _=>none
def zb2:TV→(TV→Option β)→Option β
 | .v a,k=>k (.v a)
 | .lp a o,k=>k (.lp a o)
 | .ls a,k=>k (.ls a)
 | .lq a i o,k=>k (.lq a i o)
 | .lb a n,k=>k (.lb a n)
 | .lv a n,k=>k (.lv a n)
 | .fp e o,k=>k (.fp e o)
 | .gd t w y,k=>zb2 y fun y=>k (.gd t w y)
def z45:PT→(PT→Option β)→Option β
 | [],k=>k []
 | (a,x)::l,k=>zb2 x fun x=>z45 l fun l=>k ((a,x)::l)
theorem z5Y:∀ (x:TV) (k:TV→Option β),zb2 x k=k x
 | .v a,k=>rfl
 | .lp a o,k=>rfl
 | .ls a,k=>rfl
 | .lq a i o,k=>rfl
 | .lb a n,k=>rfl
 | .lv a n,k=>rfl
 | .fp e o,k=>rfl
 | .gd t w y,k=>z5Y y _
theorem KW:∀ (τ:PT) (k:PT→Option β),z45 τ k=k τ
 | [],k=>rfl
 | (a,x)::l,k=>by simp only [z45,z5Y,KW l]
def z5y (call:z7):List (zk × PM)→PT→PW→z3→(PT→PW→z3→Option β)→Option β
 | [],τ,ω,Q,k=>k τ ω Q
 | (o,m)::l,τ,ω,Q,k=>WO m.fz τ ω fun τ ω=>yt call o m.m τ ω Q fun τ ω Q=>z45 τ fun τ=>z5y call l τ ω Q k
end
end Go.Ab
namespace Go.Ab
inductive kA where
 | no
 | at (x:TV) (n:Nat)
 | blk (k:Nat)
 deriving Inhabited
def kA.of (k:Nat):kA→Bool
 | .at x _=>x.of k
 | .blk j=>Nat.beq j k
 | .no=>false
inductive Eff where
 | none
 | st (x:TV) (n:Nat)
 | slot (k:Nat)
 | call
 deriving Inhabited
def dis (o n o' n':Nat):Bool:=Nat.ble (o+n) o' || Nat.ble (o'+n') o
def zb3 (p:AV) (n:Nat) (q:AV) (m:Nat):Bool:=match p,q with
 | .ptr r o,.ptr r' o'=>decide (r=r') && !dis o n o' m
 | _,_=>true
def cfl:Eff→kA→Bool
 | _,.no=>false
 | .none,_=>false
 | .slot k,l=>l.of k
 | .call,.at (.v _) _=>true
 | .call,_=>false
 | .st (.lp k o) n,.at (.lp k' o') n'=>match Nat.beq k k' with
  | true=>!dis o n o' n'
  | false=>false
 | .st (.lq k _ _) _,.at (.lq k' _ _) _=>Nat.beq k k'
 | .st (.lp k _) _,.blk k'=>Nat.beq k k'
 | .st (.lq k _ _) _,.blk k'=>Nat.beq k k'
 | .st (.v p) n,.at (.v q) m=>zb3 p n q m
 | .st (.v _) _,.blk _=>false
 | .st (.lp ..) _,.at (.lq ..) _=>false
 | .st (.lp ..) _,.at (.fp ..) _=>false
 | .st (.lp ..) _,.at (.v _) _=>false
 | .st (.lq ..) _,.at (.lp ..) _=>false
 | .st (.lq ..) _,.at (.fp ..) _=>false
 | .st (.lq ..) _,.at (.v _) _=>false
 | .st (.v _) _,.at (.lp ..) _=>false
 | .st (.v _) _,.at (.lq ..) _=>false
 | .st (.v _) _,.at (.fp ..) _=>false
 | _,_=>true
mutual
def z5z:AV→Bool
 | .bool _ | .int _ _ | .str _ | .nilp | .nilfn | .nilifc | .ptr _ _=>true
 | _=>false
end
def wM (Q Q':z3) (p:AV) (n:Nat):Bool:=match yk Q n p,yk Q' n p with
 | some a,some b=>a.all z5z && Zd a b
 | _,_=>false
def vf (m:x4) (τ:PT) (o:zk):Eff:=match o.op with
 | .st n x _=>.st (atT τ none x) n
 | .app _ _ _ s _=>match m with
  | .i=>.call
  | _=>match atT τ none s with
   | .ls j=>.slot j
   | _=>.none
 | .call .. | .inv .. | .mup ..=>.call
 | .clr _ _ x=>match atT τ none x with
  | .lv j _=>.slot j
  | _=>.none
 | _=>.none
def KX (τ:PT) (o:zk):kA:=match o.op with
 | .ld x=>.at (atT τ o.guard x) 1
 | .ldn n x=>.at (atT τ o.guard x) n
 | _=>.no
def ofD (d:Option Nat) (l:kA):Bool:=match d with
 | some d=>l.of d
 | none=>false
def QH (e:Eff) (d:Option Nat) (Q Q':z3):List (Bool × kA)→List (Bool × kA)
 | []=>[]
 | (b,l)::r=>(match ofD d l with
  | true=>false
  | false=>match cfl e l with
   | false=>b
   | true=>match e,l with
    | .call,.at (.v p) n=>b && wM Q Q' p n
    | _,_=>false,l)::QH e d Q Q' r
def Wi (recs:List (Bool × kA)):List Nat→Bool
 | []=>true
 | p::l=>match recs[p]? with
  | some (b,_)=>b && Wi recs l
  | none=>false
def jj (m:x4) (o:zk):Option Nat:=match o.op with
 | .app .. | .mks ..=>o.dst
 | _=>match m with
  | .s _ | .t _=>o.dst
  | _=>none
def z2T (o:zk) (m:x4):Bool × kA:=match m,o.dst with
 | .s _,some d=>(true,.blk d)
 | .f,_=>(true,.no)
 | .i,_=>(true,.no)
 | _,_=>(false,.no)
def z46:AOp→Bool
 | .mlk .. | .lnm _=>false
 | _=>true
def isQ:AOp→Bool
 | .b2s _=>false
 | op=>xp op
def VL:x4→Bool
 | .t _=>true
 | .tf _=>true
 | _=>false
def QI (τ:PT) (o:zk):Option Nat:=match o.op,o.guard with
 | .call _ (x::_),none=>match atT τ none x with
  | .ls j=>some j
  | _=>none
 | _,_=>none
section
variable {β:Type}
def QJ (call : z7) : List ((zk × DK) × PM) → List (Bool × kA) → PT → PW → z3 → (PT → PW → z3 → Option β) → Option β
  | [], _, τ, ω, Q, k => k τ ω Q
  | ((o, dk), m) :: l, recs, τ, ω, Q, k => match m.fz with
    | _ :: _ => none
    | [] => match dk with
      | .q => match isQ o.op with
        | true => yt call o .n τ ω Q fun τ2 ω2 Q2 => z45 τ2 fun τ2 => QJ call l (recs ++ [(z46 o.op, KX τ o)]) τ2 ω2 Q2 k
        | false => none
      | .al _ => match o.guard with
        | none => yt call o m.m τ ω Q fun τ2 ω2 Q2 => z45 τ2 fun τ2 => QJ call l (QH .none (jj m.m o) Q Q2 recs ++ [z2T o m.m]) τ2 ω2 Q2 k
        | some _ => none
      | .ef pins => match VL m.m with
       | true => match QI τ o with
         | some j => yt call o m.m τ ω Q fun τ2 ω2 Q2 => pinB (Wi (QH .call (some j) Q Q2 recs) pins) (z45 τ2 fun τ2 => QJ call l (QH .call (some j) Q Q2 recs ++ [(true, .no)]) τ2 ω2 Q2 k)
         | none => none
       | false => yt call o m.m τ ω Q fun τ2 ω2 Q2 => pinB (Wi (QH (vf m.m τ o) (jj m.m o) Q Q2 recs) pins) (z45 τ2 fun τ2 => QJ call l (QH (vf m.m τ o) (jj m.m o) Q Q2 recs ++ [(true, .no)]) τ2 ω2 Q2 k)
def z0u (ks:List (Nat × Nat)):TV→TV
 | .lp k o=>match lkp ks k with
  | some j=>.lp j o
  | none=>.v z4
 | .ls k=>match lkp ks k with
  | some j=>.ls j
  | none=>.v z4
 | .lq k i o=>match lkp ks k with
  | some j=>.lq j i o
  | none=>.v z4
 | .lb k n=>match lkp ks k with
  | some j=>.lb j n
  | none=>.v z4
 | .lv k n=>match lkp ks k with
  | some j=>.lv j n
  | none=>.v z4
 | .gd t w x=>.gd t w (z0u ks x)
 | x=>x
def Wj (ks:List (Nat × Nat)) (τ:PT):List Nat→PT
 | []=>[]
 | t::l=>(t,z0u ks (xE τ t))::Wj ks τ l
def Jp (ω:PW):List (Nat × Nat)→PW
 | []=>[]
 | (a,b)::l=>match lkp ω a with
  | some s=>(b,s)::Jp ω l
  | none=>Jp ω l
def QK:List Nat→Bool
 | []=>true
 | a::l=>!l.elem a && QK l
def WP (i:Nat):zf→Nat
 | .skip | .reg _ | .dreg _ _ | .ret | .loop _=>0
 | .exit j=>if j=i then 1 else 0
 | .seq a b=>min 2 (WP i a+WP i b)
 | .cond _ a b=>min 2 (WP i a+WP i b)
 | .block _ c=>WP i c
 | .keep _ _ c=>WP i c
 | .frz _ c=>WP i c
 | .hf _ _ c=>WP i c
 | .own _ _ c=>WP i c
 | .fin c _ _ _ _=>WP i c
def XL:zf→Nat
 | .skip | .reg _ | .dreg _ _ | .loop _=>1
 | .ret | .exit _=>0
 | .seq a b=>min 2 (XL a * XL b)
 | .cond _ a b=>min 2 (XL a+XL b)
 | .block i c=>min 2 (XL c+WP i c)
 | .keep _ _ c=>XL c
 | .frz _ c=>XL c
 | .hf _ _ c=>XL c
 | .own _ _ c=>XL c
 | .fin c _ _ _ _=>XL c
abbrev ja:=zE × PT × PW × z3
abbrev PK (β:Type):=zE→PT→PW→z3→Option β
def bnX (o:Option ja) (k:PK β):Option β:=match o with
 | some (ex,τ,ω,Q)=>k ex τ ω Q
 | none=>none
def jk:PK ja:=fun ex τ ω Q=>some (ex,τ,ω,Q)
abbrev ze:=zf→PT→PW→z3→Option ja
def goX (k1:PT→PW→z3→Option β) (k:PK β):PK β:=fun ex τ ω Q=>match ex with
 | .normal=>k1 τ ω Q
 | .exit i=>k (.exit i) τ ω Q
 | .ret=>k .ret τ ω Q
def kB (i:Nat) (k:PK β):PK β:=fun ex τ ω Q=>match ex with
 | .normal=>k .normal τ ω Q
 | .exit j=>k (match Nat.beq j i with
  | true=>.normal
  | false=>.exit j) τ ω Q
 | .ret=>k .ret τ ω Q
def z47 (t z:Nat) (τ:PT) (ω:PW) (k:PT→PW→Option β):Option β:=match xE τ t with
 | .v .nils=>k ((t,.ls t)::purge t τ) ((t,.own z [])::rmv ω t)
 | .ls j=>match Nat.beq j t with
  | true=>k τ ω
  | false=>none
 | _=>none
def Wk:List (Nat × Nat)→PT→PW→(PT→PW→Option β)→Option β
 | [],τ,ω,k=>k τ ω
 | (t,z)::l,τ,ω,k=>z47 t z τ ω fun τ ω=>Wk l τ ω k
def z0v (own:List (Nat × Nat)) (fr ts:List Nat) (ks:List (Nat × Nat)) (τ:PT) (ω:PW) (Q:z3) (k:PK β):Option β :=
 Wk own τ ω fun τ ω=>WO fr τ ω fun τ ω=>match QK (ks.map (·.1)) && QK (ks.map (·.2)) with
  | true=>k .normal (Wj ks τ ts) (Jp ω ks) Q
  | false=>none
end
def z5 {β:Type} (call:z7) (lp:ze):zf→PT→PW→z3→PK β→Option β
 | .skip,τ,ω,Q,k=>k .normal τ ω Q
 | .ret,τ,ω,Q,k=>k .ret τ ω Q
 | .exit i,τ,ω,Q,k=>k (.exit i) τ ω Q
 | .reg ops,τ,ω,Q,k=>z5y call ops τ ω Q (k .normal)
 | .dreg _ ops,τ,ω,Q,k=>QJ call ops [] τ ω Q (k .normal)
 | .seq a b,τ,ω,Q,k=>match XL a with
  | 0 | 1=>z5 call lp a τ ω Q (goX (fun τ ω Q=>z5 call lp b τ ω Q k) k)
  | _=>bnX (z5 call lp a τ ω Q jk) (goX (fun τ ω Q=>z5 call lp b τ ω Q k) k)
 | .cond x a b,τ,ω,Q,k=>zG (atT τ none x).val (fun _=>z5 call lp a τ ω Q k) (fun _=>z5 call lp b τ ω Q k)
 | .block i c,τ,ω,Q,k=>match XL c+WP i c with
  | 0 | 1=>z5 call lp c τ ω Q (kB i k)
  | _=>bnX (z5 call lp c τ ω Q jk) (kB i k)
 | .loop c,τ,ω,Q,k=>bnX (lp c τ ω Q) k
 | .keep ts ks c,τ,ω,Q,k=>match QK (ks.map (·.1)) && QK (ks.map (·.2)) with
  | true=>z5 call lp c (Wj ks τ ts) (Jp ω ks) Q k
  | false=>none
 | .frz ts c,τ,ω,Q,k=>WO ts τ ω fun τ ω=>z5 call lp c τ ω Q k
 | .hf t z c,τ,ω,Q,k=>bnS (z44 Q z (xE τ t).val) fun v Q'=>z5 call lp c ((t,.v v)::τ) ω Q' k
 | .own t z c,τ,ω,Q,k=>z47 t z τ ω fun τ ω=>z5 call lp c τ ω Q k
 | .fin c own fr ts ks,τ,ω,Q,k=>z5 call lp c τ ω Q (goX (fun τ ω Q=>z0v own fr ts ks τ ω Q k) k)
inductive RC where
 | n
 | o (z:Nat)
 | f (z:Nat)
 deriving Inhabited
structure PFn where
 nt:Nat
 own:List (Nat × Nat)
 code:zf
 res:List vl
 rc:List RC
 deriving Inhabited
def z1l (τ:PT) (ω:PW) (Q:z3):vl→Option AV
 | .tmp t=>match xE τ t with
  | .v a=>some a
  | .ls j=>match lkp ω j with
   | some (.own z l)=>some (.ow z l)
   | _=>none
  | _=>none
 | .cell a none=>ldT ω Q (xE τ a)
 | .cell a (some n)=>(QF ω Q n (xE τ a)).map .agg
def Qc (τ:PT):vl→Bool
 | .tmp t=>match xE τ t with
  | .ls _=>true
  | _=>false
 | _=>false
def rcv (own:Bool) (rc:RC) (v:AV):Option AV:=match rc,v with
 | .n,.ow z l=>match own with
  | true=>some (.ow z l)
  | false=>none
 | .n,v=>some v
 | .o z,.nils=>some (.ow z [])
 | .o z,.ow z' l=>match own with
  | true=>if z'=z then some (.ow z l) else none
  | false=>none
 | .o _,_=>none
 | .f z,.nils=>some (.fz z [])
 | .f z,.ow z' l=>match own with
  | true=>if z'=z then some (.fz z l) else none
  | false=>none
 | .f z,.fz z' l=>if z'=z then some (.fz z l) else none
 | .f _,_=>none
def z48 (τ:PT) (ω:PW) (Q:z3) {β:Type}:List (vl × RC)→(List AV→Option β)→Option β
 | [],k=>k []
 | (r,rc)::l,k=>bnP (z1l τ ω Q r) fun v=>bnP (rcv (Qc τ r) rc v) fun w=>z48 τ ω Q l fun ws=>k (frz w::ws)
def z70 (res:List vl) (rc:List RC) (τ:PT) (ω:PW) (Q:z3):Option (AV × z3):=match res,rc with
 | [r],[c]=>bnP (z1l τ ω Q r) fun v=>bnP (rcv (Qc τ r) c v) fun w=>some (w,Q)
 | res,rc=>match Nat.beq res.length rc.length with
  | true=>z48 τ ω Q (res.zip rc) fun ws=>some (.tup ws,Q)
  | false=>none
def zu (res:List vl) (rc:List RC):PK (AV × z3):=fun ex τ ω Q=>match ex with
 | .normal=>z70 res rc τ ω Q
 | .exit _=>none
 | .ret=>z70 res rc τ ω Q
def Zv {β:Type} (own:List (Nat × Nat)):Nat→List AV→(PT→PW→Option β)→Option β
 | _,[],k=>k [] []
 | i,a::l,k=>match lkp own i with
  | some z=>bnL (owZ z a) fun m=>Zv own (i+1) l fun τ ω=>k ((i,.ls i)::τ) ((i,.own z m)::ω)
  | none=>Zv own (i+1) l fun τ ω=>k ((i,.v a)::τ) ω
structure z0w where
 fns:Nat→Option PFn
 spec:Nat→Option (List AV→Option AV)
mutual
def qy (E:z0w):Nat→z7
 | 0,_,_,_=>none
 | n+1,f,args,Q=>match E.spec f with
  | some g=>(g args).map fun v=>(v,Q)
  | none=>match E.fns f with
   | none=>none
   | some fn=>match Nat.ble args.length fn.nt with
    | false=>none
    | true=>Zv fn.own 0 args fun τ ω=>z5 (qy E n) (qz E n) fn.code τ ω Q (zu fn.res fn.rc)
def qz (E:z0w):Nat→ze
 | 0,_,_,_,_=>none
 | n+1,c,τ,ω,Q=>z5 (qy E n) (qz E n) c τ ω Q (goX (fun τ ω Q=>qz E n c τ ω Q) jk)
end
end Go.Ab
namespace Go.Ab
section
variable {α β γ:Type}
theorem Wl:∀ (n:Nat) (f:List AV→Option β) (l:List AV),z43 n (Jo n f) l=if l.length=n then f l else none
 | 0,f,[]=>rfl
 | 0,f,_::_=>rfl
 | n+1,f,[]=>by simp [z43]
 | n+1,f,a::l=>by
  show z43 n (Jo n fun l=>f (a::l)) l=_
  rw [Wl n]
  simp
theorem VM (n:Nat) (o:Option (List AV)) (f:List AV→Option β):bnC n o (Jo n f)=o.bind fun l=>if l.length=n then f l else none:=by
 cases o with
 | none=>rfl
 | some l=>exact Wl n f l
theorem z49 (n:Nat) (o:Option (List AV)) (f:List AV→Option β) (g:β→Option γ):(bnC n o (Jo n f)).bind g=bnC n o (Jo n fun l=>(f l).bind g):=by
 rw [VM,VM]
 cases o with
 | none=>rfl
 | some l=>by_cases h:l.length=n<;>simp [h]
theorem KY (o:Option AV) (k:AV→Option β) (g:β→Option γ):(bnP o k).bind g=bnP o fun v=>(k v).bind g:=by cases o<;>rfl
theorem YJ (o:Option (List AV)) (k:List AV→Option β) (g:β→Option γ):(bnL o k).bind g=bnL o fun v=>(k v).bind g:=by cases o<;>rfl
theorem z4a (o:Option Nat) (k:Nat→Option β) (g:β→Option γ):(bnN o k).bind g=bnN o fun v=>(k v).bind g:=by cases o<;>rfl
theorem YK (b:Bool) (o:Option β) (g:β→Option γ):(pinB b o).bind g=pinB b (o.bind g):=by cases b<;>rfl
theorem z1F (z:Nat) (g:β→Option γ):∀ (i:Nat) (l:List (Nat × Nat × AV)) (k:List AV→Option β),(z5w z i l k).bind g=z5w z i l fun m=>(k m).bind g
 | i,[],k=>rfl
 | i,(o,s,a)::l,k=>by
  unfold z5w
  split
  ·rw [YK,z1F z g (i+1) l]
  ·rfl
theorem z1G (τ:PT) (o:zk) (r:Option AV) (k:PT→Option β) (g:β→Option γ):(qD τ o r k).bind g=qD τ o r fun τ=>(k τ).bind g:=by
 unfold qD;split<;>rw [KY]
theorem z1H (τ:PT) (o:zk) (n:Nat) (r:Option (List AV)) (k:PT→Option β) (g:β→Option γ):(z1k τ o n r k).bind g=z1k τ o n r fun τ=>(k τ).bind g:=by
 unfold z1k;split
 ·rw [z49]
 ·rw [KY]
theorem z1I (τ:PT) (o:zk) (r:Option AV) (k:PT→Option β) (g:β→Option γ):(z6Y τ o r k).bind g=z6Y τ o r fun τ=>(k τ).bind g:=by
 unfold z6Y;split<;>rw [KY]
theorem z4b (τ:PT) (o:zk) (r:Option Nat) (k:Nat→Option β) (g:β→Option γ):(bnG τ o r k).bind g=bnG τ o r fun n=>(k n).bind g:=by
 unfold bnG;split<;>rw [z4a]
abbrev PS:=PT × PW × z3
def KZ:PT→PW→z3→Option PS:=fun τ ω Q=>some (τ,ω,Q)
theorem z1J (call:z7) (o:zk) (m:x4) (τ:PT) (ω:PW) (Q:z3) (f:Nat) (fs cs:List AV) (args:List AX) (k:PT→PW→z3→Option β) :
  QG call o m τ ω Q f fs cs args k=(QG call o m τ ω Q f fs cs args KZ).bind fun s=>k s.1 s.2.1 s.2.2:=by
 unfold QG
 cases m<;>simp only []
 ·simp only [ZB,KZ,Option.bind_some]
 ·split
  ·simp only [ZB,YJ,KZ,Option.bind_some]
  ·rfl
 ·rfl
 ·split
  ·split
   ·split
    ·split
     ·simp only [ZB,YJ,KZ,Option.bind_some]
     ·rfl
    ·rfl
   ·rfl
  ·rfl
 ·split
  ·split
   ·split
    ·split
     ·simp only [ZB,KZ,Option.bind_some]
     ·rfl
    ·rfl
   ·rfl
  ·rfl
 ·rw [ZB]
  congr 1
  funext v Q'
  cases vU v<;>rfl
 ·rfl
theorem z8G (v:AV) (k:Nat→List AV→List AV→Option β) (g:β→Option γ):(bnF v k).bind g=bnF v fun f fs cs=>(k f fs cs).bind g:=by cases v<;>rfl
theorem z8H (d z bytes:Nat) (τ:PT) (ω:PW) (Q:z3) (s x:TV) (k:PT→PW→z3→Option β):z6Z d z bytes τ ω Q s x k=(z6Z d z bytes τ ω Q s x KZ).bind fun s=>k s.1 s.2.1 s.2.2:=by
 unfold z6Z
 split
 ·split
  ·simp only [YJ,YK,KZ,Option.bind_some]
  ·rfl
 ·simp only [YJ,YK,KZ,Option.bind_some]
 ·split
  ·split
   ·simp only [YJ,YK,KZ,Option.bind_some]
   ·rfl
  ·rfl
 ·rfl
theorem z4c (call:z7) (o:zk) (m:x4) (τ:PT) (ω:PW) (Q:z3) (k:PT→PW→z3→Option β) :
  yt call o m τ ω Q k=(yt call o m τ ω Q KZ).bind fun s=>k s.1 s.2.1 s.2.2:=by
 unfold yt
 by_cases hcall:∃ f args,o.op=.call f args
 ·obtain⟨f,args,ho⟩:=hcall
  rw [ho]
  simp only []
  split
  ·rw [z8G]
   congr 1
   funext f fs cs
   exact z1J _ _ _ _ _ _ _ _ _ _ _
  ·simp only [ZB,KZ,Option.bind_some]
 cases hop:o.op
 case call f args=>exact absurd ⟨f,args,hop⟩ hcall
 all_goals simp only [QE,z1G,z1H,z1I,z4b,KZ,Option.bind_some,Option.bind_none]
 all_goals first
  | rfl
  | (repeat' split)<;>first
   | rfl
   | (simp only [QE,z1G,z1H,z1I,z4b,KY,YJ,z4a,z49,ZB,YK,z1F,KZ,Option.bind_some,Option.bind_none];done)
   | exact z1J _ _ _ _ _ _ _ _ _ _ _
   | exact z8H _ _ _ _ _ _ _ _ _
   | skip
end
end Go.Ab
namespace Go.Ab
section
variable {α β γ:Type}
def App (y:Option α) (x:Nat→Option α):Prop:=∀ b,y=some b→∃ n,∀ m,n≤m→x m=some b
theorem App.same (y:Option α):App y fun _=>y:=fun b h=>⟨0,fun _ _=>h⟩
theorem App.none {x:Nat→Option α}:App Option.none x:=fun b h=>by cases h
theorem App.bind {y:Option α} {x:Nat→Option α} {k:α→Option β} {K:Nat→α→Option β} (h:App y x) (hk:∀ a,App (k a) fun m=>K m a):App (y.bind k) fun m=>(x m).bind (K m):=by
 intro b hb
 cases y with
 | none=>cases hb
 | some a =>
  obtain⟨n,hn⟩:=h a rfl
  obtain⟨n',hn'⟩:=hk a b hb
  exact⟨max n n',fun m hm=>by show _=_;simp only [hn m (by omega)];exact hn' m (by omega)⟩
theorem App.bnS {y:Option (AV × z3)} {x:Nat→Option (AV × z3)} {k:AV→z3→Option β} {K:Nat→AV→z3→Option β} (h:App y x) (hk:∀ a Q,App (k a Q) fun m=>K m a Q):App (Go.Ab.bnS y k) fun m=>Go.Ab.bnS (x m) (K m):=by
 intro b hb
 cases y with
 | none=>cases hb
 | some a =>
  obtain⟨n,hn⟩:=h a rfl
  obtain⟨n',hn'⟩:=hk a.1 a.2 b hb
  exact⟨max n n',fun m hm=>by show _=_;simp only [hn m (by omega)];exact hn' m (by omega)⟩
theorem App.bnL (o:Option (List AV)) {k:List AV→Option β} {K:Nat→List AV→Option β} (hk:∀ a,App (k a) fun m=>K m a):App (Go.Ab.bnL o k) fun m=>Go.Ab.bnL o (K m):=by
 cases o with
 | none=>exact App.none
 | some a=>exact hk a
theorem App.bnP (o:Option AV) {k:AV→Option β} {K:Nat→AV→Option β} (hk:∀ a,App (k a) fun m=>K m a):App (Go.Ab.bnP o k) fun m=>Go.Ab.bnP o (K m):=by
 cases o with
 | none=>exact App.none
 | some a=>exact hk a
theorem App.pinB (c:Bool) {y:Option β} {x:Nat→Option β} (h:App y x):App (Go.Ab.pinB c y) fun m=>Go.Ab.pinB c (x m):=by
 cases c with
 | false=>exact App.none
 | true=>exact h
def z2U:AOp→Bool
 | .call .. | .inv ..=>true
 | _=>false
theorem z71 {call call':z7} {o:zk} (h:z2U o.op=false) (m:x4) (τ:PT) (ω:PW) (Q:z3) (k:PT→PW→z3→Option β):yt call o m τ ω Q k=yt call' o m τ ω Q k:=by
 unfold yt
 cases e:o.op<;>rw [e] at h<;>simp only [z2U,Bool.true_eq_false] at h<;>first | rfl | (rename_i mx;cases mx<;>rfl) | (rename_i n _;cases n<;>rfl)
abbrev z0x (call:z7) (C:Nat→z7):Prop:=∀ f a Q,App (call f a Q) fun m=>C m f a Q
theorem z5Z {v:AV} {w:Bool} {y:Option (AV × z3)} {x:Nat→Option (AV × z3)} (h:App y x) (Q:z3):App (gdH v w y Q) fun m=>gdH v w (x m) Q:=by
 cases v<;>first | exact App.none | exact App.same _ | skip
 rename_i b
 simp only [gdH]
 split
 ·exact h
 ·exact App.same _
theorem z4d {call:z7} {C:Nat→z7} (hc:z0x call C) (tab:List (Nat × Nat)) (r:AV) (args:List AV) (Q:z3):App (WQ call tab r args Q) fun m=>WQ (C m) tab r args Q:=by
 unfold WQ
 cases r<;>first | exact App.none | skip
 simp only []
 split
 ·exact hc _ _ _
 ·exact App.none
theorem YL {call:z7} {C:Nat→z7} (hc:z0x call C):z0x (Zu call) fun j=>Zu (C j):=fun f a Q=>by
 show App (match Nat.blt f jK with
  | true=>call f a Q
  | false=>none) (fun j=>match Nat.blt f jK with
  | true=>C j f a Q
  | false=>none)
 cases Nat.blt f jK
 ·exact App.none
 ·exact hc f a Q
theorem z72 {call:z7} {C:Nat→z7} (hc:z0x call C) (o:zk) (m:x4) (τ:PT) (ω:PW) (Q:z3) (f:Nat) (fs cs:List AV) (args:List AX) {k:PT→PW→z3→Option β} {K:Nat→PT→PW→z3→Option β} (hk:∀ τ ω Q,App (k τ ω Q) fun j=>K j τ ω Q) :
  App (QG call o m τ ω Q f fs cs args k) fun j=>QG (C j) o m τ ω Q f fs cs args (K j):=by
 unfold QG
 cases m<;>simp only []
 ·exact App.bnS (YL hc _ _ _) fun v Q'=>hk _ _ _
 ·split
  ·exact App.bnS (YL hc _ _ _) fun v Q'=>App.bnL _ fun l=>hk _ _ _
  ·exact App.none
 ·exact App.none
 ·split
  ·split
   ·split
    ·split
     ·exact App.bnS (hc _ _ _) fun v Q'=>App.bnL _ fun l=>hk _ _ _
     ·exact App.none
    ·exact App.none
   ·exact App.none
  ·exact App.none
 ·split
  ·split
   ·split
    ·split
     ·exact App.bnS (hc _ _ _) fun v Q'=>hk _ _ _
     ·exact App.none
    ·exact App.none
   ·exact App.none
  ·exact App.none
 ·exact App.bnS (YL hc _ _ _) fun v Q'=>by
   cases vU v
   ·exact App.none
   ·exact hk _ _ _
 ·exact App.none
theorem QL {call:z7} {C:Nat→z7} (hc:z0x call C) (o:zk) (m:x4) (τ:PT) (ω:PW) (Q:z3) {k:PT→PW→z3→Option β} {K:Nat→PT→PW→z3→Option β} (hk:∀ τ ω Q,App (k τ ω Q) fun j=>K j τ ω Q) :
  App (yt call o m τ ω Q k) fun j=>yt (C j) o m τ ω Q (K j):=by
 cases h:z2U o.op with
 | false =>
  have e:(fun j=>yt (C j) o m τ ω Q (K j))=fun j=>(yt call o m τ ω Q KZ).bind fun s=>K j s.1 s.2.1 s.2.2:=by
   funext j
   rw [z71 (call':=call) h,z4c]
  rw [e,z4c]
  exact App.bind (App.same _) fun s=>hk _ _ _
 | true =>
  unfold yt
  cases e:o.op<;>rw [e] at h<;>simp only [z2U,Bool.false_eq_true] at h
  ·simp only []
   split
   ·unfold bnF
    split
    ·exact z72 hc _ _ _ _ _ _ _ _ _ hk
    ·exact App.none
   ·refine App.bnS (z5Z ?_ _) fun v Q'=>hk _ _ _
    unfold bnF
    split
    ·exact YL hc _ _ _
    ·exact App.none
  ·simp only []
   split
   ·exact App.bnS (z4d (YL hc) _ _ _ _) fun v Q'=>hk _ _ _
   ·exact App.bnS (z5Z (z4d (YL hc) _ _ _ _) _) fun v Q'=>hk _ _ _
theorem YM:∀ (l:List Nat) (τ:PT) (ω:PW) {k:PT→PW→Option β} {K:Nat→PT→PW→Option β} (hk:∀ τ ω,App (k τ ω) fun j=>K j τ ω),App (WO l τ ω k) fun j=>WO l τ ω (K j)
 | [],τ,ω,_,_,hk=>hk τ ω
 | t::l,τ,ω,k,K,hk=>by
  unfold WO
  cases xE τ t<;>simp only []<;>first | exact App.none | skip
  ·exact YM l _ _ hk
  ·rename_i j o
   cases lkp ω j with
   | none=>exact App.none
   | some s =>
    cases s with
    | cells cs=>exact YM l _ _ hk
    | own z xs=>exact App.none
  ·rename_i j
   cases lkp ω j with
   | none=>exact App.none
   | some s =>
    cases s with
    | cells cs=>exact App.none
    | own z xs=>exact YM l _ _ hk
theorem z4e {call:z7} {C:Nat→z7} (hc:z0x call C):∀ (l:List (zk × PM)) (τ:PT) (ω:PW) (Q:z3) {k:PT→PW→z3→Option β} {K:Nat→PT→PW→z3→Option β} (hk:∀ τ ω Q,App (k τ ω Q) fun j=>K j τ ω Q),
  App (z5y call l τ ω Q k) fun j=>z5y (C j) l τ ω Q (K j)
 | [],τ,ω,Q,_,_,hk=>hk τ ω Q
 | (o,m)::l,τ,ω,Q,k,K,hk=>by
  simp only [z5y,KW]
  exact YM m.fz τ ω fun τ ω=>QL hc o m.m τ ω Q fun τ ω Q=>z4e hc l τ ω Q hk
theorem YN {call:z7} {C:Nat→z7} (hc:z0x call C):∀ (l:List ((zk × DK) × PM)) (recs:List (Bool × kA)) (τ:PT) (ω:PW) (Q:z3) {k:PT→PW→z3→Option β} {K:Nat→PT→PW→z3→Option β} (hk:∀ τ ω Q,App (k τ ω Q) fun j=>K j τ ω Q),
  App (QJ call l recs τ ω Q k) fun j=>QJ (C j) l recs τ ω Q (K j)
 | [],recs,τ,ω,Q,_,_,hk=>hk τ ω Q
 | ((o,dk),m)::l,recs,τ,ω,Q,k,K,hk=>by
  simp only [QJ,KW]
  cases m.fz with
  | cons _ _=>exact App.none
  | nil =>
   cases dk with
   | q =>
    simp only []
    cases isQ o.op with
    | false=>exact App.none
    | true=>exact QL hc o .n τ ω Q fun τ2 ω2 Q2=>YN hc l _ τ2 ω2 Q2 hk
   | al j =>
    simp only []
    cases o.guard with
    | some _=>exact App.none
    | none=>exact QL hc o m.m τ ω Q fun τ2 ω2 Q2=>YN hc l _ τ2 ω2 Q2 hk
   | ef pins =>
    simp only []
    cases VL m.m with
    | true =>
     simp only []
     cases QI τ o with
     | none=>exact App.none
     | some j=>exact QL hc o m.m τ ω Q fun τ2 ω2 Q2=>App.pinB _ (YN hc l _ τ2 ω2 Q2 hk)
    | false=>exact QL hc o m.m τ ω Q fun τ2 ω2 Q2=>App.pinB _ (YN hc l _ τ2 ω2 Q2 hk)
abbrev z9U (lp:ze) (L:Nat→ze):Prop:=∀ c τ ω Q,App (lp c τ ω Q) fun m=>L m c τ ω Q
theorem App.bnX {y:Option ja} {x:Nat→Option ja} {k:PK β} {K:Nat→PK β} (h:App y x) (hk:∀ ex τ ω Q,App (k ex τ ω Q) fun m=>K m ex τ ω Q):App (Go.Ab.bnX y k) fun m=>Go.Ab.bnX (x m) (K m):=by
 intro b hb
 cases y with
 | none=>cases hb
 | some a =>
  obtain⟨ex,τ,ω,Q⟩:=a
  obtain⟨n,hn⟩:=h _ rfl
  obtain⟨n',hn'⟩:=hk ex τ ω Q b hb
  exact⟨max n n',fun m hm=>by show _=_;simp only [hn m (by omega)];exact hn' m (by omega)⟩
theorem V0 {k1:PT→PW→z3→Option β} {K1:Nat→PT→PW→z3→Option β} {k:PK β} {K:Nat→PK β} (h1:∀ τ ω Q,App (k1 τ ω Q) fun m=>K1 m τ ω Q) (hk:∀ ex τ ω Q,App (k ex τ ω Q) fun m=>K m ex τ ω Q) :
  ∀ ex τ ω Q,App (goX k1 k ex τ ω Q) fun m=>goX (K1 m) (K m) ex τ ω Q:=by
 intro ex τ ω Q
 cases ex with
 | normal=>exact h1 τ ω Q
 | exit i=>exact hk _ τ ω Q
 | ret=>exact hk _ τ ω Q
theorem z0y (i:Nat) {k:PK β} {K:Nat→PK β} (hk:∀ ex τ ω Q,App (k ex τ ω Q) fun m=>K m ex τ ω Q) :
  ∀ ex τ ω Q,App (kB i k ex τ ω Q) fun m=>kB i (K m) ex τ ω Q:=by
 intro ex τ ω Q
 cases ex with
 | normal=>exact hk _ τ ω Q
 | exit i=>exact hk _ τ ω Q
 | ret=>exact hk _ τ ω Q
theorem z4f (t z:Nat) (τ:PT) (ω:PW) {k:PT→PW→Option β} {K:Nat→PT→PW→Option β} (hk:∀ τ ω,App (k τ ω) fun j=>K j τ ω):App (z47 t z τ ω k) fun j=>z47 t z τ ω (K j):=by
 unfold z47
 cases xE τ t<;>first | exact App.none | skip
 ·rename_i a;cases a<;>first | exact App.none | exact hk _ _
 ·rename_i j
  cases h:Nat.beq j t
  ·simp only [h];exact App.none
  ·simp only [h];exact hk _ _
theorem z1K:∀ (l:List (Nat × Nat)) (τ:PT) (ω:PW) {k:PT→PW→Option β} {K:Nat→PT→PW→Option β} (hk:∀ τ ω,App (k τ ω) fun j=>K j τ ω),App (Wk l τ ω k) fun j=>Wk l τ ω (K j)
 | [],τ,ω,_,_,hk=>hk τ ω
 | (t,z)::l,τ,ω,k,K,hk=>by
  simp only [Wk]
  exact z4f t z τ ω fun τ ω=>z1K l τ ω hk
theorem z8I (own:List (Nat × Nat)) (fr ts:List Nat) (ks:List (Nat × Nat)) (τ:PT) (ω:PW) (Q:z3) {k:PK β} {K:Nat→PK β} (hk:∀ ex τ ω Q,App (k ex τ ω Q) fun j=>K j ex τ ω Q):App (z0v own fr ts ks τ ω Q k) fun j=>z0v own fr ts ks τ ω Q (K j):=by
 unfold z0v
 refine z1K own τ ω fun τ ω=>YM fr τ ω fun τ ω=>?_
 split
 ·exact hk _ _ _ _
 ·exact App.none
theorem zZ {call:z7} {C:Nat→z7} {lp:ze} {L:Nat→ze} (hc:z0x call C) (hl:z9U lp L):∀ {β:Type} (c:zf) (τ:PT) (ω:PW) (Q:z3) {k:PK β} {K:Nat→PK β} (hk:∀ ex τ ω Q,App (k ex τ ω Q) fun j=>K j ex τ ω Q),
  App (z5 call lp c τ ω Q k) fun j=>z5 (C j) (L j) c τ ω Q (K j)
 | _,.skip,τ,ω,Q,_,_,hk=>hk _ τ ω Q
 | _,.ret,τ,ω,Q,_,_,hk=>hk _ τ ω Q
 | _,.exit i,τ,ω,Q,_,_,hk=>hk _ τ ω Q
 | _,.reg ops,τ,ω,Q,k,K,hk=>z4e hc ops τ ω Q fun τ ω Q=>hk .normal τ ω Q
 | _,.dreg na ops,τ,ω,Q,k,K,hk=>YN hc ops [] τ ω Q fun τ ω Q=>hk .normal τ ω Q
 | _,.seq a b,τ,ω,Q,k,K,hk=>by
  simp only [z5]
  have h1:=V0 (k1:=fun τ ω Q=>z5 call lp b τ ω Q k) (K1:=fun j τ ω Q=>z5 (C j) (L j) b τ ω Q (K j)) (fun τ ω Q=>zZ hc hl b τ ω Q hk) hk
  split
  ·exact zZ hc hl a τ ω Q h1
  ·exact zZ hc hl a τ ω Q h1
  ·exact App.bnX (zZ hc hl a τ ω Q fun ex τ ω Q=>App.same _) h1
 | _,.cond x a b,τ,ω,Q,k,K,hk=>by
  simp only [z5]
  unfold zG
  split
  ·exact zZ hc hl a τ ω Q hk
  ·exact zZ hc hl b τ ω Q hk
  ·exact App.none
 | _,.block i c,τ,ω,Q,k,K,hk=>by
  simp only [z5]
  split
  ·exact zZ hc hl c τ ω Q (z0y i hk)
  ·exact zZ hc hl c τ ω Q (z0y i hk)
  ·exact App.bnX (zZ hc hl c τ ω Q fun ex τ ω Q=>App.same _) (z0y i hk)
 | _,.loop c,τ,ω,Q,k,K,hk=>App.bnX (hl c τ ω Q) hk
 | _,.keep ts ks c,τ,ω,Q,k,K,hk=>by
  simp only [z5]
  split
  ·exact zZ hc hl c _ _ Q hk
  ·exact App.none
 | _,.frz ts c,τ,ω,Q,k,K,hk=>YM ts τ ω fun τ ω=>zZ hc hl c τ ω Q hk
 | _,.hf t z c,τ,ω,Q,k,K,hk=>App.bnS (App.same _) fun v Q'=>zZ hc hl c _ ω Q' hk
 | _,.fin c own fr ts ks,τ,ω,Q,k,K,hk=>zZ hc hl c τ ω Q (V0 (k1:=fun τ ω Q=>z0v own fr ts ks τ ω Q k) (K1:=fun j τ ω Q=>z0v own fr ts ks τ ω Q (K j)) (fun τ ω Q=>z8I own fr ts ks τ ω Q hk) hk)
 | _,.own t z c,τ,ω,Q,k,K,hk=>z4f t z τ ω fun τ ω=>zZ hc hl c τ ω Q hk
theorem YO (own:List (Nat × Nat)):∀ {β:Type} (i:Nat) (args:List AV) {k:PT→PW→Option β} {K:Nat→PT→PW→Option β} (hk:∀ τ ω,App (k τ ω) fun j=>K j τ ω),App (Zv own i args k) fun j=>Zv own i args (K j)
 | _,_,[],_,_,hk=>hk _ _
 | _,i,a::l,k,K,hk=>by
  simp only [Zv]
  split
  ·exact App.bnL _ fun m=>YO own (i+1) l fun τ ω=>hk _ _
  ·exact YO own (i+1) l fun τ ω=>hk _ _
end
variable {E:z0w}
theorem nle:∀ n,(∀ f a Q r,qy E n f a Q=some r→qy E (n+1) f a Q=some r)∧∀ c τ ω Q r,qz E n c τ ω Q=some r→qz E (n+1) c τ ω Q=some r:=by
 intro n
 induction n with
 | zero=>exact⟨fun f a Q r h=>by simp [qy] at h,fun c τ ω Q r h=>by simp [qz] at h⟩
 | succ n ih =>
  have hc:z0x (qy E n) fun _=>qy E (n+1):=fun f a Q b hb=>⟨0,fun _ _=>ih.1 f a Q b hb⟩
  have hl:z9U (qz E n) fun _=>qz E (n+1):=fun c τ ω Q b hb=>⟨0,fun _ _=>ih.2 c τ ω Q b hb⟩
  refine⟨fun f a Q r h=>?_,fun c τ ω Q r h=>?_⟩
  ·unfold qy at h ⊢
   cases hs:E.spec f with
   | some g=>rw [hs] at h;exact h
   | none =>
    rw [hs] at h
    cases hf:E.fns f with
    | none=>rw [hf] at h;exact h
    | some fn =>
     rw [hf] at h
     simp only at h ⊢
     cases hle:Nat.ble a.length fn.nt with
     | false=>rw [hle] at h;cases h
     | true =>
     rw [hle] at h
     obtain⟨m,hm⟩:=YO fn.own 0 a (k:=fun τ ω=>z5 (qy E n) (qz E n) fn.code τ ω Q (zu fn.res fn.rc)) (K:=fun _ τ ω=>z5 (qy E (n+1)) (qz E (n+1)) fn.code τ ω Q (zu fn.res fn.rc))
      (fun τ ω=>zZ hc hl fn.code τ ω Q fun ex τ ω Q=>App.same _) r h
     exact hm m (Nat.le_refl m)
  ·unfold qz at h ⊢
   obtain⟨m,hm⟩:=zZ hc hl c τ ω Q (V0 (k1:=fun τ ω Q=>qz E n c τ ω Q) (K1:=fun _ τ ω Q=>qz E (n+1) c τ ω Q) (fun τ ω Q=>hl c τ ω Q) (fun ex τ ω Q=>App.same (jk ex τ ω Q))) r h
   exact hm m (Nat.le_refl m)
theorem z0z {n m:Nat} (h:n≤m) {f:Nat} {a:List AV} {Q:z3} {r:AV × z3} (e:qy E n f a Q=some r):qy E m f a Q=some r:=by
 induction h with
 | refl=>exact e
 | step _ ih=>exact(nle _).1 f a Q r ih
theorem z0A {n m:Nat} (h:n≤m) {c:zf} {τ:PT} {ω:PW} {Q:z3} {r:ja} (e:qz E n c τ ω Q=some r):qz E m c τ ω Q=some r:=by
 induction h with
 | refl=>exact e
 | step _ ih=>exact(nle _).2 c τ ω Q r ih
open Classical in
noncomputable def zd (E:z0w):z7:=fun f args Q=>if h:∃ r n,qy E n f args Q=some r then some (Classical.choose h) else none
open Classical in
noncomputable def zj (E:z0w):ze:=fun c τ ω Q=>if h:∃ r n,qz E n c τ ω Q=some r then some (Classical.choose h) else none
theorem vg {f:Nat} {args:List AV} {Q:z3} {r:AV × z3}:zd E f args Q=some r↔∃ n,qy E n f args Q=some r:=by
 unfold zd
 split
 ·rename_i h
  constructor
  ·intro e
   obtain rfl:=Option.some.inj e
   exact Classical.choose_spec h
  ·rintro ⟨n,hn⟩
   obtain⟨m,hm⟩:=Classical.choose_spec h
   have h1:=z0z (Nat.le_max_left n m) hn
   have h2:=z0z (Nat.le_max_right n m) hm
   rw [h1] at h2
   exact h2.symm
 ·rename_i h
  exact⟨fun e=>(by cases e),fun⟨n,hn⟩=>absurd ⟨r,n,hn⟩ h⟩
theorem J3 {c:zf} {τ:PT} {ω:PW} {Q:z3} {r:ja}:zj E c τ ω Q=some r↔∃ n,qz E n c τ ω Q=some r:=by
 unfold zj
 split
 ·rename_i h
  constructor
  ·intro e
   obtain rfl:=Option.some.inj e
   exact Classical.choose_spec h
  ·rintro ⟨n,hn⟩
   obtain⟨m,hm⟩:=Classical.choose_spec h
   have h1:=z0A (Nat.le_max_left n m) hn
   have h2:=z0A (Nat.le_max_right n m) hm
   rw [h1] at h2
   exact h2.symm
 ·rename_i h
  exact⟨fun e=>(by cases e),fun⟨n,hn⟩=>absurd ⟨r,n,hn⟩ h⟩
theorem z1L:z0x (zd E) (qy E):=fun f a Q b hb=>by
 obtain⟨n,hn⟩:=vg.1 hb
 exact⟨n,fun m hm=>z0z hm hn⟩
theorem VN:z9U (zj E) (qz E):=fun c τ ω Q b hb=>by
 obtain⟨n,hn⟩:=J3.1 hb
 exact⟨n,fun m hm=>z0A hm hn⟩
theorem z1M (n:Nat):z0x (qy E n) fun _=>zd E:=fun f a Q b hb=>⟨0,fun _ _=>vg.2 ⟨n,hb⟩⟩
theorem VO (n:Nat):z9U (qz E n) fun _=>zj E:=fun c τ ω Q b hb=>⟨0,fun _ _=>J3.2 ⟨n,hb⟩⟩
theorem z2V {α:Type} {a b:Option α} (h1:∀ x,a=some x→b=some x) (h2:∀ x,b=some x→a=some x):a=b:=by
 cases a with
 | some x=>exact(h1 x rfl).symm
 | none=>cases b with
  | none=>rfl
  | some y=>exact h2 y rfl
theorem Xt {f:Nat} {g:List AV→Option AV} (hs:E.spec f=some g) (args:List AV) (Q:z3):zd E f args Q=(g args).map fun v=>(v,Q):=by
 refine z2V (fun r h=>?_) fun r h=>vg.2 ⟨1,by simp only [qy,hs];exact h⟩
 obtain⟨n,hn⟩:=vg.1 h
 cases n with
 | zero=>simp [qy] at hn
 | succ n=>simpa only [qy,hs] using hn
theorem zo {f:Nat} {fn:PFn} (hs:E.spec f=none) (hf:E.fns f=some fn) (args:List AV) (Q:z3) (hle:Nat.ble args.length fn.nt=true) :
  zd E f args Q=Zv fn.own 0 args fun τ ω=>z5 (zd E) (zj E) fn.code τ ω Q (zu fn.res fn.rc):=by
 refine z2V (fun r h=>?_) fun r h=>?_
 ·obtain⟨n,hn⟩:=vg.1 h
  cases n with
  | zero=>simp [qy] at hn
  | succ n =>
   simp only [qy,hs,hf,hle] at hn
   obtain⟨m,hm⟩:=YO fn.own 0 args (K:=fun _ τ ω=>z5 (zd E) (zj E) fn.code τ ω Q (zu fn.res fn.rc))
    (fun τ ω=>zZ (z1M n) (VO n) fn.code τ ω Q fun ex τ ω Q=>App.same _) r hn
   exact hm m (Nat.le_refl m)
 ·obtain⟨m,hm⟩:=YO fn.own 0 args (K:=fun j τ ω=>z5 (qy E j) (qz E j) fn.code τ ω Q (zu fn.res fn.rc))
    (fun τ ω=>zZ z1L VN fn.code τ ω Q fun ex τ ω Q=>App.same _) r h
  exact vg.2 ⟨m+1,by simp only [qy,hs,hf,hle];exact hm m (Nat.le_refl m)⟩
theorem z73 {f z:Nat} {fn:PFn} (hs:E.spec f=none) (hf:E.fns f=some fn) (hown:fn.own=[(0,z)]) (l:List AV) (a:AV) (Q:z3) (hle:Nat.ble 2 fn.nt=true) :
  zd E f [.ow z l,a] Q=z5 (zd E) (zj E) fn.code [(0,.ls 0),(1,.v a)] [(0,.own z l)] Q (zu fn.res fn.rc):=by
 rw [zo hs hf [.ow z l,a] Q hle,hown]
 simp [Zv,lkp,owZ,bnL,Nat.beq]
theorem xh {c:zf} {τ:PT} {ω:PW} {Q:z3}:zj E c τ ω Q=z5 (zd E) (zj E) c τ ω Q (goX (fun τ ω Q=>zj E c τ ω Q) jk):=by
 refine z2V (fun r h=>?_) fun r h=>?_
 ·obtain⟨n,hn⟩:=J3.1 h
  cases n with
  | zero=>simp [qz] at hn
  | succ n =>
   simp only [qz] at hn
   obtain⟨m,hm⟩:=zZ (z1M n) (VO n) c τ ω Q (V0 (k1:=fun τ ω Q=>qz E n c τ ω Q) (K1:=fun _ τ ω Q=>zj E c τ ω Q) (fun τ ω Q=>VO n c τ ω Q) (fun ex τ ω Q=>App.same (jk ex τ ω Q))) r hn
   exact hm m (Nat.le_refl m)
 ·obtain⟨m,hm⟩:=zZ z1L VN c τ ω Q (V0 (k1:=fun τ ω Q=>zj E c τ ω Q) (K1:=fun j τ ω Q=>qz E j c τ ω Q) (fun τ ω Q=>VN c τ ω Q) (fun ex τ ω Q=>App.same (jk ex τ ω Q))) r h
  exact J3.2 ⟨m+1,by simp only [qz];exact hm m (Nat.le_refl m)⟩
end Go.Ab
