/- What operations come to at plain values: rules for simp. -/
import Derived.Test.YtdbbdfmkglgjdaaSh7
import Derived.IntWalk
set_option linter.unusedVariables false
set_option linter.unusedSimpArgs false
set_option linter.unusedSectionVars false
namespace Go.Ab
theorem z7p {α:Type} [BEq α] [LawfulBEq α] [DecidableEq α] (a b:α):(a == b)=decide (a=b):=by by_cases h:a=b<;>simp [h]
section
variable {β:Type}
@[simp] theorem zdv (v:AV) (k:AV→Option β):bnP (some v) k=k v:=(Eq.refl _).trans (Eq.refl _)
@[simp] theorem zdw (k:AV→Option β):bnP none k=none:=(Eq.refl _).trans (Eq.refl _)
@[simp] theorem zdx (v:AV) (H:z3) (k:AV→z3→Option β):bnS (some (v,H)) k=k v H:=(Eq.refl _).trans (Eq.refl _)
@[simp] theorem zdy (k:AV→z3→Option β):bnS none k=none:=(Eq.refl _).trans (Eq.refl _)
@[simp] theorem zdz (ex:zE) (τ:Tau) (H:z3) (k:zE→Tau→z3→Option β):bnE (some (ex,τ,H)) k=k ex τ H:=(Eq.refl _).trans (Eq.refl _)
@[simp] theorem zdA (k:zE→Tau→z3→Option β):bnE none k=none:=(Eq.refl _).trans (Eq.refl _)
@[simp] theorem zdB (v:AV) (o:zF) (k:AV→zF→Option β):bnO (some (v,o)) k=k v o:=(Eq.refl _).trans (Eq.refl _)
@[simp] theorem zcb (o:Option β):pinB true o=o:=(Eq.refl _).trans (Eq.refl _)
@[simp] theorem zbF (o:Option β):pinB false o=none:=(Eq.refl _).trans (Eq.refl _)
@[simp] theorem zdC (o:Option AV):gdP true o=o:=(Eq.refl _).trans (Eq.refl _)
@[simp] theorem zcc (o:Option AV):gdP false o=some z4:=(Eq.refl _).trans (Eq.refl _)
@[simp] theorem zdD (o:Option (AV × z3)) (H:z3):gdS true o H=o:=(Eq.refl _).trans (Eq.refl _)
@[simp] theorem zcd (o:Option (AV × z3)) (H:z3):gdS false o H=some (z4,H):=(Eq.refl _).trans (Eq.refl _)
@[simp] theorem zdE (b w:Bool):wnt (.bool b) w=(b == w):=(Eq.refl _).trans (Eq.refl _)
@[simp] theorem zce (w:Bool):wnt z4 w=false:=(Eq.refl _).trans (Eq.refl _)
@[simp] theorem zcf (b:Bool) (x y:Unit→Option β):zG (.bool b) x y=if b=true then x () else y ():=by cases b<;>rfl
@[simp] theorem zar (k1:Tau→z3→Option β) (k:zE→Tau→z3→Option β) (τ:Tau) (H:z3):WR k1 k .normal τ H=k1 τ H:=(Eq.refl _).trans (Eq.refl _)
@[simp] theorem zcg (k1:Tau→z3→Option β) (k:zE→Tau→z3→Option β) (i:Nat) (τ:Tau) (H:z3):WR k1 k (.exit i) τ H=k (.exit i) τ H:=(Eq.refl _).trans (Eq.refl _)
@[simp] theorem zdF (k1:Tau→z3→Option β) (k:zE→Tau→z3→Option β) (τ:Tau) (H:z3):WR k1 k .ret τ H=k .ret τ H:=(Eq.refl _).trans (Eq.refl _)
@[simp] theorem zas (i:Nat) (k:zE→Tau→z3→Option β) (τ:Tau) (H:z3):z4K i k .normal τ H=k .normal τ H:=(Eq.refl _).trans (Eq.refl _)
@[simp] theorem zch (i j:Nat) (k:zE→Tau→z3→Option β) (τ:Tau) (H:z3):z4K i k (.exit j) τ H=k (if j=i then .normal else .exit j) τ H:=(Eq.refl _).trans (Eq.refl _)
@[simp] theorem zdG (i:Nat) (k:zE→Tau→z3→Option β) (τ:Tau) (H:z3):z4K i k .ret τ H=k .ret τ H:=(Eq.refl _).trans (Eq.refl _)
@[simp] theorem zeG (ex:zE) (τ:Tau) (H:z3):z39 ex τ H=some (ex,τ,H):=(Eq.refl _).trans (Eq.refl _)
@[simp] theorem zdH (res:List vl) (τ:Tau) (H:z3):z4M res .ret τ H=(y4 τ H res).map fun v=>(v,H):=(Eq.refl _).trans (Eq.refl _)
@[simp] theorem zat (res:List vl) (τ:Tau) (H:z3):z4M res .normal τ H=(y4 τ H res).map fun v=>(v,H):=(Eq.refl _).trans (Eq.refl _)
@[simp] theorem zdI (H:z3) (v:AV):lft H (some v)=some (v,H):=(Eq.refl _).trans (Eq.refl _)
@[congr] theorem zci {o o':Option AV} {k:AV→Option β} (h:o=o'):bnP o k=bnP o' k:=by rw [h]
@[congr] theorem zcj {o o':Option (AV × z3)} {k:AV→z3→Option β} (h:o=o'):bnS o k=bnS o' k:=by rw [h]
@[congr] theorem zck {o o':Option (zE × Tau × z3)} {k:zE→Tau→z3→Option β} (h:o=o'):bnE o k=bnE o' k:=by rw [h]
@[congr] theorem zcl {o o':Option (AV × zF)} {k:AV→zF→Option β} (h:o=o'):bnO o k=bnO o' k:=by rw [h]
@[congr] theorem zbG {b b':Bool} {k:Option β} (h:b=b'):pinB b k=pinB b' k:=by rw [h]
@[congr] theorem zbH {v v':AV} {x y:Unit→Option β} (h:v=v'):zG v x y=zG v' x y:=by rw [h]
@[congr] theorem zcm {w w':Bool} {o:Option AV} (h:w=w'):gdP w o=gdP w' o:=by rw [h]
@[congr] theorem zcn {w w':Bool} {o:Option (AV × z3)} {H:z3} (h:w=w'):gdS w o H=gdS w' o H:=by rw [h]
end
@[simp] theorem zau (τ:Tau) (H:z3) (r:vl):y4 τ H [r]=qV τ H r:=by
 unfold y4 zO
 cases qV τ H r<;>rfl
@[simp] theorem zav (τ:Tau) (H:z3) (r s:vl):y4 τ H [r,s]=(qV τ H r).bind fun x=>(qV τ H s).map fun y=>.tup [x,y]:=by
 simp only [y4,zO]
 cases qV τ H r<;>cases qV τ H s<;>rfl
@[simp] theorem z9s (τ:Tau) (H:z3) (r s t:vl):y4 τ H [r,s,t]=(qV τ H r).bind fun x=>(qV τ H s).bind fun y=>(qV τ H t).map fun z=>.tup [x,y,z]:=by
 simp only [y4,zO]
 cases qV τ H r<;>cases qV τ H s<;>cases qV τ H t<;>rfl
@[simp] theorem zdJ (τ:Tau) (H:z3) (t:Nat):qV τ H (.tmp t)=τ[t]? := (Eq.refl _).trans (Eq.refl _)
@[simp] theorem zco (τ:Tau) (H:z3) (t:Nat) (n:Option Nat):qV τ H (.cell t n)=(τ[t]?).bind fun a=>match n with
  | none=>ldA H a
  | some n=>z4C H n a:=by
 simp only [qV]
 cases τ[t]? with
 | none=>rfl
 | some a=>cases a<;>cases n<;>rfl
@[simp] theorem zbI (b:Bool) (x y:AV):zr (.bool b) x y=some (if b=true then x else y):=by cases b<;>rfl
@[simp] theorem zeH (H:z3) (r o:Nat):ldA H (.ptr r o)=H.cell r o:=(Eq.refl _).trans (Eq.refl _)
@[simp] theorem zdK (H:z3) (n r o:Nat):z4C H n (.ptr r o)=(H.row r o n).map .agg:=(Eq.refl _).trans (Eq.refl _)
@[simp] theorem zdL (r o:Nat):yB (.ptr r o)=some (.ptr r o):=(Eq.refl _).trans (Eq.refl _)
@[simp] theorem zdM (n r o:Nat):yy n (.ptr r o)=some (.ptr r (o+n)):=(Eq.refl _).trans (Eq.refl _)
@[simp] theorem zeI (r o n:Nat) (c:kb):z0R (.sl r o n c)=some (.int .i64 n):=(Eq.refl _).trans (Eq.refl _)
@[simp] theorem zeJ (r o k d:Nat):z0R (.zs r o k d)=some (.int .i64 0):=(Eq.refl _).trans (Eq.refl _)
@[simp] theorem zcp:z0R .nils=some (.int .i64 0):=(Eq.refl _).trans (Eq.refl _)
@[simp] theorem zcq (s:List UInt8):Ww (.str s)=some (.int .i64 s.length):=(Eq.refl _).trans (Eq.refl _)
@[simp] theorem zae (z r o n:Nat) (c:kb) (k:IntKind) (i:Int):z4E z (.sl r o n c) (.int k i)=if 0≤i∧i < n then some (.ptr r (o+i.toNat * z)) else none:=(Eq.refl _).trans (Eq.refl _)
@[simp] theorem zdN (n z r o:Nat) (k:IntKind) (i:Int):z37 n z (.ptr r o) (.int k i)=if 0≤i∧i < n then some (.ptr r (o+i.toNat * z)) else none:=(Eq.refl _).trans (Eq.refl _)
@[simp] theorem zdO (k l:IntKind) (n:Int):z0Q k (.int l n)=some (.int k (k.wrap n)):=(Eq.refl _).trans (Eq.refl _)
@[simp] theorem zdP (l:List AV) (i:Nat):ko (.tup l) i=l[i]? := (Eq.refl _).trans (Eq.refl _)
@[simp] theorem zdQ (o:Nat) (n:Option Nat) (l:List AV):z4D o n (.agg l)=jS l o n:=(Eq.refl _).trans (Eq.refl _)
@[simp] theorem zbJ (l:List AV) (o:Nat):jS l o none=l[o]? := (Eq.refl _).trans (Eq.refl _)
@[simp] theorem zbK (l:List AV) (o n:Nat):jS l o (some n)=if o+n≤l.length then some (.agg ((l.drop o).take n)) else none:=(Eq.refl _).trans (Eq.refl _)
@[simp] theorem zeK (b:Bool):unA .not (.bool b)=some (.bool !b):=(Eq.refl _).trans (Eq.refl _)
@[simp] theorem zeL (k:IntKind) (n:Int):unA .neg (.int k n)=some (.int k (k.wrap (0 - n))):=(Eq.refl _).trans (Eq.refl _)
@[simp] theorem zcr (neg:Bool) (r o n:Nat) (c:kb):z0P neg 0 (.sl r o n c)=some (.bool (false != neg)):=(Eq.refl _).trans (Eq.refl _)
@[simp] theorem zcs (neg:Bool):z0P neg 0 .nils=some (.bool (true != neg)):=(Eq.refl _).trans (Eq.refl _)
@[simp] theorem zaw (neg:Bool):z0P neg 1 .nilifc=some (.bool (true != neg)):=(Eq.refl _).trans (Eq.refl _)
@[simp] theorem zdR (neg:Bool) (t:Nat) (v:AV):z0P neg 1 (.ifc t v)=some (.bool (false != neg)):=(Eq.refl _).trans (Eq.refl _)
@[simp] theorem zct (neg:Bool):z0P neg 2 .nilp=some (.bool (true != neg)):=(Eq.refl _).trans (Eq.refl _)
@[simp] theorem zdS (neg:Bool) (r o:Nat):z0P neg 2 (.ptr r o)=some (.bool (false != neg)):=(Eq.refl _).trans (Eq.refl _)
@[simp] theorem zfL (neg a b:Bool):Jd neg .b (.bool a) (.bool b)=some (.bool ((a == b) != neg)):=(Eq.refl _).trans (Eq.refl _)
@[simp] theorem zfM (neg:Bool) (k:IntKind) (a b:Int):Jd neg .i (.int k a) (.int k b)=some (.bool (decide (a=b) != neg)):=by
 simp [Jd,eqA,z7p]
@[simp] theorem zfN (neg:Bool) (a b:List UInt8):Jd neg .s (.str a) (.str b)=some (.bool (decide (a=b) != neg)):=by simp [Jd,eqA,z7p]
@[simp] theorem zeM (neg:Bool) (fs:List (Nat × Nat × EqT)) (a b:List AV):Jd neg (.st fs) (.agg a) (.agg b)=(eqF fs a b).map fun b=>.bool (b != neg):=by
 simp only [Jd,eqA]
@[simp] theorem zeN (a b:List AV):eqF [] a b=some true:=by simp only [eqF]
@[simp] theorem zdT (o n:Nat) (q:EqT) (l:List (Nat × Nat × EqT)) (xs ys:List AV):eqF ((o,n,q)::l) xs ys=match jS xs o (q.agg n),jS ys o (q.agg n) with
  | some a,some b=>match eqA q a b with
   | some true=>eqF l xs ys
   | some false=>some false
   | none=>none
  | _,_=>none:=by
 conv=>lhs;unfold eqF
 rfl
@[simp] theorem zgl (n:Nat):EqT.agg .b n=none:=(Eq.refl _).trans (Eq.refl _)
@[simp] theorem zgm (n:Nat):EqT.agg .i n=none:=(Eq.refl _).trans (Eq.refl _)
@[simp] theorem zgn (n:Nat):EqT.agg .s n=none:=(Eq.refl _).trans (Eq.refl _)
@[simp] theorem zfO (fs:List (Nat × Nat × EqT)) (n:Nat):EqT.agg (.st fs) n=some n:=(Eq.refl _).trans (Eq.refl _)
@[simp] theorem zgo (k:IntKind) (a b:Int):eqA .i (.int k a) (.int k b)=some (decide (a=b)):=by simp [eqA,z7p]
@[simp] theorem zgp (a b:Bool):eqA .b (.bool a) (.bool b)=some (a == b):=by simp [eqA]
@[simp] theorem zgq (a b:List UInt8):eqA .s (.str a) (.str b)=some (decide (a=b)):=by simp [eqA,z7p]
section
variable (k:IntKind) (a b:Int)
@[simp] theorem zeO:zc .add (.int k a) (.int k b)=some (.int k (k.wrap (a+b))):=by simp [zc,Yd]
@[simp] theorem zeP:zc .sub (.int k a) (.int k b)=some (.int k (k.wrap (a - b))):=by simp [zc,Yd]
@[simp] theorem zeQ:zc .mul (.int k a) (.int k b)=some (.int k (k.wrap (a * b))):=by simp [zc,Yd]
@[simp] theorem zeR:zc .quo (.int k a) (.int k b)=if b=0 then none else some (.int k (k.wrap (a.tdiv b))):=by simp [zc,Yd]
@[simp] theorem zeS:zc .rem (.int k a) (.int k b)=if b=0 then none else some (.int k (a.tmod b)):=by simp [zc,Yd]
@[simp] theorem zeT:zc .eql (.int k a) (.int k b)=some (.bool (decide (a=b))):=by simp only [zc,Yd,if_true,Option.some.injEq,AV.bool.injEq];exact z7p a b
@[simp] theorem zeU:zc .neq (.int k a) (.int k b)=some (.bool (decide (a≠b))):=by simp only [zc,Yd,if_true,Option.some.injEq,AV.bool.injEq];simp [bne,z7p]
@[simp] theorem zeV:zc .lss (.int k a) (.int k b)=some (.bool (a < b)):=by simp [zc,Yd]
@[simp] theorem zeW:zc .leq (.int k a) (.int k b)=some (.bool (a≤b)):=by simp [zc,Yd]
@[simp] theorem zeX:zc .gtr (.int k a) (.int k b)=some (.bool (a > b)):=by simp [zc,Yd]
@[simp] theorem zeY:zc .geq (.int k a) (.int k b)=some (.bool (a ≥ b)):=by simp [zc,Yd]
@[simp] theorem zeZ:zc .and (.int k a) (.int k b)=some (.int k (k.wrap (BitVec.ofInt k.bits a &&& BitVec.ofInt k.bits b).toNat)):=by simp [zc,Yd]
@[simp] theorem zfP:zc .or (.int k a) (.int k b)=some (.int k (k.wrap (BitVec.ofInt k.bits a ||| BitVec.ofInt k.bits b).toNat)):=by simp [zc,Yd]
@[simp] theorem zf0:zc .xor (.int k a) (.int k b)=some (.int k (k.wrap (BitVec.ofInt k.bits a ^^^ BitVec.ofInt k.bits b).toNat)):=by simp [zc,Yd]
@[simp] theorem zf1 (l:IntKind):zc .shl (.int k a) (.int l b)=if b < 0 then none else some (.int k (k.wrap (a * 2 ^ (min b.toNat k.bits)))):=(Eq.refl _).trans (Eq.refl _)
@[simp] theorem zf2 (l:IntKind):zc .shr (.int k a) (.int l b)=if b < 0 then none else some (.int k (a.fdiv (2 ^ (min b.toNat k.bits)))):=(Eq.refl _).trans (Eq.refl _)
theorem z4U (l:IntKind):kG (some (.int k a)) (.int l b)=some (.int k (max a b)):=by
 simp only [kG]
 by_cases h:b > a
 ·rw [if_pos h];congr 2;omega
 ·rw [if_neg h];congr 2;omega
theorem z4V (l:IntKind):kH (some (.int k a)) (.int l b)=some (.int k (min a b)):=by
 simp only [kH]
 by_cases h:b < a
 ·rw [if_pos h];congr 2;omega
 ·rw [if_neg h];congr 2;omega
@[simp] theorem zf3 (l:IntKind):z7m [.int k a,.int l b]=some (.int k (max a b)):=z4U k a b l
@[simp] theorem zf4 (l:IntKind):z7n [.int k a,.int l b]=some (.int k (min a b)):=z4V k a b l
end
@[simp] theorem zf5 (k:IntKind) (n:Int):AV.one (.int k n)=true:=(Eq.refl _).trans (Eq.refl _)
@[simp] theorem zdU (b:Bool):AV.one (.bool b)=true:=(Eq.refl _).trans (Eq.refl _)
@[simp] theorem zf6 (s:List UInt8):AV.one (.str s)=true:=(Eq.refl _).trans (Eq.refl _)
@[simp] theorem zfQ (r o n:Nat) (c:kb):AV.one (.sl r o n c)=true:=(Eq.refl _).trans (Eq.refl _)
@[simp] theorem zf7 (r o:Nat):AV.one (.ptr r o)=true:=(Eq.refl _).trans (Eq.refl _)
@[simp] theorem zdV:AV.one .nils=true:=(Eq.refl _).trans (Eq.refl _)
@[simp] theorem zdW:AV.one .nilp=true:=(Eq.refl _).trans (Eq.refl _)
@[simp] theorem zfR (f:Nat) (a b:List AV):AV.one (.fn f a b)=true:=(Eq.refl _).trans (Eq.refl _)
@[simp] theorem zf8 (t:Nat) (v:AV):AV.one (.ifc t v)=true:=(Eq.refl _).trans (Eq.refl _)
@[simp] theorem zbL:AV.one .nilifc=true:=(Eq.refl _).trans (Eq.refl _)
@[simp] theorem z29 (l:List AV):AV.cells (.agg l)=l:=(Eq.refl _).trans (Eq.refl _)
@[simp] theorem zcu (k:IntKind) (n:Int):AV.cells (.int k n)=[.int k n]:=(Eq.refl _).trans (Eq.refl _)
@[simp] theorem zbM (b:Bool):AV.cells (.bool b)=[.bool b]:=(Eq.refl _).trans (Eq.refl _)
@[simp] theorem zcv (s:List UInt8):AV.cells (.str s)=[.str s]:=(Eq.refl _).trans (Eq.refl _)
@[simp] theorem zdX (r o n:Nat) (c:kb):AV.cells (.sl r o n c)=[.sl r o n c]:=(Eq.refl _).trans (Eq.refl _)
@[simp] theorem zcw (r o:Nat):AV.cells (.ptr r o)=[.ptr r o]:=(Eq.refl _).trans (Eq.refl _)
@[simp] theorem zbN:AV.cells .nils=[.nils]:=(Eq.refl _).trans (Eq.refl _)
@[simp] theorem zbO:AV.cells .nilp=[.nilp]:=(Eq.refl _).trans (Eq.refl _)
@[simp] theorem zdY (f:Nat) (a b:List AV):AV.cells (.fn f a b)=[.fn f a b]:=(Eq.refl _).trans (Eq.refl _)
@[simp] theorem zcx (t:Nat) (v:AV):AV.cells (.ifc t v)=[.ifc t v]:=(Eq.refl _).trans (Eq.refl _)
@[simp] theorem zf9 (k:IntKind) (n:Int):AV.isRaw (.int k n)=false:=(Eq.refl _).trans (Eq.refl _)
@[simp] theorem zdZ (b:Bool):AV.isRaw (.bool b)=false:=(Eq.refl _).trans (Eq.refl _)
@[simp] theorem zfa (s:List UInt8):AV.isRaw (.str s)=false:=(Eq.refl _).trans (Eq.refl _)
@[simp] theorem zfS (r o n:Nat) (c:kb):AV.isRaw (.sl r o n c)=false:=(Eq.refl _).trans (Eq.refl _)
@[simp] theorem zfb (l:List AV):AV.isRaw (.agg l)=false:=(Eq.refl _).trans (Eq.refl _)
@[simp] theorem ze0:AV.isRaw .nils=false:=(Eq.refl _).trans (Eq.refl _)
@[simp] theorem zfc (r o:Nat):AV.isRaw (.ptr r o)=false:=(Eq.refl _).trans (Eq.refl _)
@[simp] theorem zcy (cs:List AV):q7 cs []=some cs:=(Eq.refl _).trans (Eq.refl _)
@[simp] theorem zbP (cs:List AV) (o s:Nat) (v:AV) (l:List (Nat × Nat × AV)):q7 cs ((o,s,v)::l)=if v.cells.length=s∧o+s≤cs.length∧v.isRaw=false then q7 (splice cs o v.cells) l else none:=(Eq.refl _).trans (Eq.refl _)
@[simp] theorem zcz (cs:List AV) (o:Nat) (vs:List AV):splice cs o vs=cs.take o++vs++cs.drop (o+vs.length):=(Eq.refl _).trans (Eq.refl _)
def z3c:Option zF→Nat→Option AV
 | some (.cells _ _ cs),o=>cs[o]?
 | _,_=>none
def W5:Option zF→Nat→Nat→Option (List AV)
 | some (.cells _ _ cs),o,n=>if o+n≤cs.length then some ((cs.drop o).take n) else none
 | _,_,_=>none
def QW:Option zF→Nat→List AV→Option zF
 | some (.cells k z cs),o,vs=>if k=.ro then none else if o+vs.length≤cs.length∧vs.all AV.one then some (.cells k z (splice cs o vs)) else none
 | _,_,_=>none
@[simp] theorem z9t (k:Kd) (z:Nat) (cs:List AV) (o:Nat):z3c (some (.cells k z cs)) o=cs[o]? := (Eq.refl _).trans (Eq.refl _)
@[simp] theorem jR (k:Kd) (z:Nat) (cs:List AV) (o n:Nat):W5 (some (.cells k z cs)) o n=if o+n≤cs.length then some ((cs.drop o).take n) else none:=(Eq.refl _).trans (Eq.refl _)
@[simp] theorem z9o (k:Kd) (z:Nat) (cs:List AV) (o:Nat) (vs:List AV):QW (some (.cells k z cs)) o vs=if k=.ro then none else if o+vs.length≤cs.length∧vs.all AV.one then some (.cells k z (splice cs o vs)) else none:=(Eq.refl _).trans (Eq.refl _)
@[simp] theorem zfd (H:z3) (r o:Nat):H.cell r o=z3c (H.get r) o:=by
 unfold z3.cell z3c
 cases H.get r with
 | none=>rfl
 | some x=>cases x<;>rfl
@[simp] theorem qb (H:z3) (r o n:Nat):H.row r o n=W5 (H.get r) o n:=by
 unfold z3.row W5
 cases H.get r with
 | none=>rfl
 | some x=>cases x<;>rfl
@[simp] theorem ze1 (H:z3) (r o:Nat) (vs:List AV):H.write r o vs=(QW (H.get r) o vs).map fun b=>H.put r (some b):=by
 unfold z3.write QW
 cases H.get r with
 | none=>rfl
 | some x =>
  cases x with
  | iter s p=>rfl
  | mapo es=>rfl
  | cells k z cs =>
   simp only []
   split
   ·rfl
   ·split<;>rfl
@[simp] theorem ze2 (H:z3) (cs:List AV):QS H cs=if cs.all AV.one then some (.ptr H.size 0,H.push (some (.cells .exact cs.length cs))) else none:=(Eq.refl _).trans (Eq.refl _)
@[simp] theorem zfe (H:z3) (n r o:Nat) (v:AV):stA H n (.ptr r o) v=if v.cells.length=n then (H.write r o v.cells).map fun H'=>(z4,H') else none:=(Eq.refl _).trans (Eq.refl _)
@[simp] theorem zff (H:z3) (esz:Nat) (z:List AV) (n:Nat) (ps:List (Nat × Nat × AV)):za7 H esz z n ps=if esz=0∨z.length≠esz∨16777216 < n * esz then none else
  match q7 (yU n z) ps with
  | some cs=>if cs.all AV.one then some (.sl H.size 0 n (.ex n),H.push (some (.cells .exact esz cs))) else none
  | none=>none:=(Eq.refl _).trans (Eq.refl _)
@[simp] theorem ze3 (H:z3) (esz bytes:Nat) (z:List AV) (k k':IntKind) (l c:Int):za9 H esz bytes z (.int k l) (.int k' c)=if 0≤l∧l≤c∧c.toNat * bytes≤zp∧c≤70368744177664∧esz≠0∧z.length=esz∧z.all AV.one then
   some (.sl H.size 0 l.toNat (.ex c.toNat),H.push (some (.cells .exact esz (yU c.toNat z)))) else none:=(Eq.refl _).trans (Eq.refl _)
@[simp] theorem zcA (z:List AV):yU 0 z=[]:=(Eq.refl _).trans (Eq.refl _)
@[simp] theorem zcB (n:Nat) (z:List AV):yU (n+1) z=z++yU n z:=(Eq.refl _).trans (Eq.refl _)
@[simp] theorem zfg (H:z3) (r o n:Nat) (c:kb):zbC H (.sl r o n c)=match H.get r with
  | some (.cells k z cs)=>if k=.ro then none else some (.sl r o n c,H.put r (some (.cells .stiff z cs)))
  | _=>none:=(Eq.refl _).trans (Eq.refl _)
@[simp] theorem ze4 (n z r o:Nat) (lo hi:Option AV):zbB n z (.ptr r o) lo hi=match yh hi n n with
  | none=>none
  | some h=>match yh lo 0 h with
   | none=>none
   | some l=>some (.sl r (if n=l then o else o+l * z) (h - l) (.ex (n - l))):=(Eq.refl _).trans (Eq.refl _)
@[simp] theorem jq (d t:Nat):yh none d t=some d:=(Eq.refl _).trans (Eq.refl _)
@[simp] theorem YY (d t:Nat) (k:IntKind) (i:Int):yh (some (.int k i)) d t=if 0≤i∧i≤t then some i.toNat else none:=(Eq.refl _).trans (Eq.refl _)
@[simp] theorem zfh (H:z3) (esz bytes:Nat) (z:List AV) (s x:AV):z4F H esz bytes z s x=if z.length=esz then X4 H esz bytes s x else none:=(Eq.refl _).trans (Eq.refl _)
@[simp] theorem Yc (H:z3) (o:Option zF):(H.push o).get H.size=o:=by rw [z3.get_push,if_pos rfl]
theorem ZX {H:z3} {o:Option zF} {m:Nat} (h:m≠H.size):(H.push o).get m=H.get m:=by rw [z3.get_push,if_neg h]
@[simp] theorem vL (H:z3) (r:Nat) (o:Option zF):(H.put r o).get r=o:=by rw [z3.get_put,if_pos rfl]
theorem kY {H:z3} {r:Nat} {o:Option zF} {m:Nat} (h:m≠r):(H.put r o).get m=H.get m:=by rw [z3.get_put,if_neg h]
@[simp] theorem zgr (n:Nat):(n=n+1+1)↔False:=iff_of_false (Nat.ne_of_lt (by omega)) id
@[simp] theorem zfT (n:Nat):(n+1+1=n)↔False:=iff_of_false (Nat.ne_of_gt (by omega)) id
@[simp] theorem zgs (n:Nat):(n=n+1+1+1)↔False:=iff_of_false (Nat.ne_of_lt (by omega)) id
@[simp] theorem zfU (n:Nat):(n+1+1+1=n)↔False:=iff_of_false (Nat.ne_of_gt (by omega)) id
@[simp] theorem zgt (n:Nat):(n=n+1+1+1+1)↔False:=iff_of_false (Nat.ne_of_lt (by omega)) id
@[simp] theorem zfV (n:Nat):(n+1+1+1+1=n)↔False:=iff_of_false (Nat.ne_of_gt (by omega)) id
@[simp] theorem zgu (n:Nat):(n=n+1+1+1+1+1)↔False:=iff_of_false (Nat.ne_of_lt (by omega)) id
@[simp] theorem zfW (n:Nat):(n+1+1+1+1+1=n)↔False:=iff_of_false (Nat.ne_of_gt (by omega)) id
@[simp] theorem zgv (n:Nat):(n=n+1+1+1+1+1+1)↔False:=iff_of_false (Nat.ne_of_lt (by omega)) id
@[simp] theorem zfX (n:Nat):(n+1+1+1+1+1+1=n)↔False:=iff_of_false (Nat.ne_of_gt (by omega)) id
@[simp] theorem zgw (n:Nat):(n=n+1+1+1+1+1+1+1)↔False:=iff_of_false (Nat.ne_of_lt (by omega)) id
@[simp] theorem zfY (n:Nat):(n+1+1+1+1+1+1+1=n)↔False:=iff_of_false (Nat.ne_of_gt (by omega)) id
@[simp] theorem zgx (n:Nat):(n=n+1+1+1+1+1+1+1+1)↔False:=iff_of_false (Nat.ne_of_lt (by omega)) id
@[simp] theorem zfZ (n:Nat):(n+1+1+1+1+1+1+1+1=n)↔False:=iff_of_false (Nat.ne_of_gt (by omega)) id
@[simp] theorem zgy (n:Nat):(n=n+1+1+1+1+1+1+1+1+1)↔False:=iff_of_false (Nat.ne_of_lt (by omega)) id
@[simp] theorem zg0 (n:Nat):(n+1+1+1+1+1+1+1+1+1=n)↔False:=iff_of_false (Nat.ne_of_gt (by omega)) id
attribute [simp] z3.get_push z3.get_put
@[simp] theorem zgz (H H':z3) (f:z3→Option AV) (v:AV):ckP H H' (.q f v)=match f H' with
  | some v'=>qA v v'
  | none=>false:=(Eq.refl _).trans (Eq.refl _)
@[simp] theorem ze5 (H H':z3):ckP H H' .none=true:=(Eq.refl _).trans (Eq.refl _)
@[simp] theorem zcC (v:AV):qA v v=true:=J9 v
@[simp] theorem ze6 (call:z7) (f:Nat) (fs cs args:List AV) (H:z3):z9f call (.fn f fs cs) args H=call f (fs++args++cs) H:=(Eq.refl _).trans (Eq.refl _)
@[simp] theorem ze7 (call:z7) (tab:List (Nat × Nat)) (t:Nat) (v:AV) (args:List AV) (H:z3):WQ call tab (.ifc t v) args H=match tab.lookup t with
  | some f=>call f (v::args) H
  | none=>none:=(Eq.refl _).trans (Eq.refl _)
@[simp] theorem ze8 (t:Nat) (z:AV) (ok:Bool) (t':Nat) (v:AV):VW t z ok (.ifc t' v)=if t'=t then some (if ok then .tup [v,.bool true] else v) else if ok then some (.tup [z,.bool false]) else none:=(Eq.refl _).trans (Eq.refl _)
@[simp] theorem ze9 (t:Nat) (z:AV) (ok:Bool):VW t z ok .nilifc=if ok then some (.tup [z,.bool false]) else none:=(Eq.refl _).trans (Eq.refl _)
@[simp] theorem zea (f:Nat→Option Nat) (k:IntKind) (n:Int):jQ f (.int k n)=some (.int k n):=by simp only [jQ]
@[simp] theorem zcD (f:Nat→Option Nat) (b:Bool):jQ f (.bool b)=some (.bool b):=by simp only [jQ]
@[simp] theorem zeb (f:Nat→Option Nat) (b:List UInt8):jQ f (.str b)=some (.str b):=by simp only [jQ]
@[simp] theorem zcE (f:Nat→Option Nat):jQ f .nils=some .nils:=by simp only [jQ]
@[simp] theorem zfi (f:Nat→Option Nat) (r o n:Nat) (c:kb):jQ f (.sl r o n c)=(f r).map fun r=>.sl r o n c:=by simp only [jQ]
@[simp] theorem zec (f:Nat→Option Nat) (l:List AV):jQ f (.agg l)=(ZD f l).map .agg:=by simp only [jQ]
@[simp] theorem zed (f:Nat→Option Nat) (l:List AV):jQ f (.tup l)=(ZD f l).map .tup:=by simp only [jQ]
@[simp] theorem zee (f:Nat→Option Nat):ZD f []=some []:=by simp only [ZD]
@[simp] theorem zcF (f:Nat→Option Nat) (v:AV) (l:List AV):ZD f (v::l)=(jQ f v).bind fun v=>(ZD f l).map fun l=>v::l:=by
 simp only [ZD]
 cases jQ f v<;>cases ZD f l<;>rfl
theorem YZ {n:Int} (h1:-9223372036854775808≤n) (h2:n≤9223372036854775807):IntKind.i64.wrap n=n:=IntWalk.i64_in n ⟨h1,h2⟩
end Go.Ab
