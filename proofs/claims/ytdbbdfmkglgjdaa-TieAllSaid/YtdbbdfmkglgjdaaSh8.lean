/- What operations come to at plain values: rules for simp. -/
import Derived.Test.YtdbbdfmkglgjdaaSh7
import Derived.IntWalk
set_option linter.unusedVariables false
set_option linter.unusedSimpArgs false
set_option linter.unusedSectionVars false
namespace Go.Ab
theorem zaF {α:Type} [BEq α] [LawfulBEq α] [DecidableEq α] (a b:α):(a == b)=decide (a=b):=by by_cases h:a=b<;>simp [h]
section
variable {β:Type}
@[simp] theorem zgT (v:AV) (k:AV→Option β):bnP (some v) k=k v:=(Eq.refl _).trans (Eq.refl _)
@[simp] theorem zgU (k:AV→Option β):bnP none k=none:=(Eq.refl _).trans (Eq.refl _)
@[simp] theorem zgV (v:AV) (H:z3) (k:AV→z3→Option β):bnS (some (v,H)) k=k v H:=(Eq.refl _).trans (Eq.refl _)
@[simp] theorem zgW (k:AV→z3→Option β):bnS none k=none:=(Eq.refl _).trans (Eq.refl _)
@[simp] theorem zgX (ex:zG) (τ:Tau) (H:z3) (k:zG→Tau→z3→Option β):bnE (some (ex,τ,H)) k=k ex τ H:=(Eq.refl _).trans (Eq.refl _)
@[simp] theorem zgY (k:zG→Tau→z3→Option β):bnE none k=none:=(Eq.refl _).trans (Eq.refl _)
@[simp] theorem zgZ (v:AV) (o:zH) (k:AV→zH→Option β):bnO (some (v,o)) k=k v o:=(Eq.refl _).trans (Eq.refl _)
@[simp] theorem zfz (o:Option β):pinB true o=o:=(Eq.refl _).trans (Eq.refl _)
@[simp] theorem zf3 (o:Option β):pinB false o=none:=(Eq.refl _).trans (Eq.refl _)
@[simp] theorem zh0 (o:Option AV):gdP true o=o:=(Eq.refl _).trans (Eq.refl _)
@[simp] theorem zfA (o:Option AV):gdP false o=some z4:=(Eq.refl _).trans (Eq.refl _)
@[simp] theorem zh1 (o:Option (AV × z3)) (H:z3):gdS true o H=o:=(Eq.refl _).trans (Eq.refl _)
@[simp] theorem zfB (o:Option (AV × z3)) (H:z3):gdS false o H=some (z4,H):=(Eq.refl _).trans (Eq.refl _)
@[simp] theorem zh2 (b w:Bool):wnt (.bool b) w=(b == w):=(Eq.refl _).trans (Eq.refl _)
@[simp] theorem zfC (w:Bool):wnt z4 w=false:=(Eq.refl _).trans (Eq.refl _)
@[simp] theorem zfD (b:Bool) (x y:Unit→Option β):zr (.bool b) x y=if b=true then x () else y ():=by cases b<;>rfl
@[simp] theorem zdR (k1:Tau→z3→Option β) (k:zG→Tau→z3→Option β) (τ:Tau) (H:z3):z2P k1 k .normal τ H=k1 τ H:=(Eq.refl _).trans (Eq.refl _)
@[simp] theorem zfE (k1:Tau→z3→Option β) (k:zG→Tau→z3→Option β) (i:Nat) (τ:Tau) (H:z3):z2P k1 k (.exit i) τ H=k (.exit i) τ H:=(Eq.refl _).trans (Eq.refl _)
@[simp] theorem zh3 (k1:Tau→z3→Option β) (k:zG→Tau→z3→Option β) (τ:Tau) (H:z3):z2P k1 k .ret τ H=k .ret τ H:=(Eq.refl _).trans (Eq.refl _)
@[simp] theorem zdS (i:Nat) (k:zG→Tau→z3→Option β) (τ:Tau) (H:z3):z7T i k .normal τ H=k .normal τ H:=(Eq.refl _).trans (Eq.refl _)
@[simp] theorem zfF (i j:Nat) (k:zG→Tau→z3→Option β) (τ:Tau) (H:z3):z7T i k (.exit j) τ H=k (if j=i then .normal else .exit j) τ H:=(Eq.refl _).trans (Eq.refl _)
@[simp] theorem zh4 (i:Nat) (k:zG→Tau→z3→Option β) (τ:Tau) (H:z3):z7T i k .ret τ H=k .ret τ H:=(Eq.refl _).trans (Eq.refl _)
@[simp] theorem zi4 (ex:zG) (τ:Tau) (H:z3):z6g ex τ H=some (ex,τ,H):=(Eq.refl _).trans (Eq.refl _)
@[simp] theorem zh5 (res:List wJ) (τ:Tau) (H:z3):z7V res .ret τ H=(y6 τ H res).map fun v=>(v,H):=(Eq.refl _).trans (Eq.refl _)
@[simp] theorem zdT (res:List wJ) (τ:Tau) (H:z3):z7V res .normal τ H=(y6 τ H res).map fun v=>(v,H):=(Eq.refl _).trans (Eq.refl _)
@[simp] theorem zh6 (H:z3) (v:AV):lft H (some v)=some (v,H):=(Eq.refl _).trans (Eq.refl _)
@[congr] theorem zfG {o o':Option AV} {k:AV→Option β} (h:o=o'):bnP o k=bnP o' k:=by rw [h]
@[congr] theorem zfH {o o':Option (AV × z3)} {k:AV→z3→Option β} (h:o=o'):bnS o k=bnS o' k:=by rw [h]
@[congr] theorem zfI {o o':Option (zG × Tau × z3)} {k:zG→Tau→z3→Option β} (h:o=o'):bnE o k=bnE o' k:=by rw [h]
@[congr] theorem zfJ {o o':Option (AV × zH)} {k:AV→zH→Option β} (h:o=o'):bnO o k=bnO o' k:=by rw [h]
@[congr] theorem zf4 {b b':Bool} {k:Option β} (h:b=b'):pinB b k=pinB b' k:=by rw [h]
@[congr] theorem zf5 {v v':AV} {x y:Unit→Option β} (h:v=v'):zr v x y=zr v' x y:=by rw [h]
@[congr] theorem zfK {w w':Bool} {o:Option AV} (h:w=w'):gdP w o=gdP w' o:=by rw [h]
@[congr] theorem zfL {w w':Bool} {o:Option (AV × z3)} {H:z3} (h:w=w'):gdS w o H=gdS w' o H:=by rw [h]
end
@[simp] theorem zdU (τ:Tau) (H:z3) (r:wJ):y6 τ H [r]=jG τ H r:=by
 unfold y6 zO
 cases jG τ H r<;>rfl
@[simp] theorem zdV (τ:Tau) (H:z3) (r s:wJ):y6 τ H [r,s]=(jG τ H r).bind fun x=>(jG τ H s).map fun y=>.tup [x,y]:=by
 simp only [y6,zO]
 cases jG τ H r<;>cases jG τ H s<;>rfl
@[simp] theorem zcN (τ:Tau) (H:z3) (r s t:wJ):y6 τ H [r,s,t]=(jG τ H r).bind fun x=>(jG τ H s).bind fun y=>(jG τ H t).map fun z=>.tup [x,y,z]:=by
 simp only [y6,zO]
 cases jG τ H r<;>cases jG τ H s<;>cases jG τ H t<;>rfl
@[simp] theorem zh7 (τ:Tau) (H:z3) (t:Nat):jG τ H (.tmp t)=τ[t]? := (Eq.refl _).trans (Eq.refl _)
@[simp] theorem zfM (τ:Tau) (H:z3) (t:Nat) (n:Option Nat):jG τ H (.cell t n)=(τ[t]?).bind fun a=>match n with
  | none=>ldA H a
  | some n=>z7L H n a:=by
 simp only [jG]
 cases τ[t]? with
 | none=>rfl
 | some a=>cases a<;>cases n<;>rfl
@[simp] theorem zf6 (b:Bool) (x y:AV):zw (.bool b) x y=some (if b=true then x else y):=by cases b<;>rfl
@[simp] theorem zi5 (H:z3) (r o:Nat):ldA H (.ptr r o)=H.cell r o:=(Eq.refl _).trans (Eq.refl _)
@[simp] theorem zh8 (H:z3) (n r o:Nat):z7L H n (.ptr r o)=(H.row r o n).map .agg:=(Eq.refl _).trans (Eq.refl _)
@[simp] theorem zh9 (r o:Nat):yu (.ptr r o)=some (.ptr r o):=(Eq.refl _).trans (Eq.refl _)
@[simp] theorem zha (n r o:Nat):yn n (.ptr r o)=some (.ptr r (o+n)):=(Eq.refl _).trans (Eq.refl _)
@[simp] theorem zi6 (r o n:Nat) (c:vj):z3X (.sl r o n c)=some (.int .i64 n):=(Eq.refl _).trans (Eq.refl _)
@[simp] theorem zi7 (r o k d:Nat):z3X (.zs r o k d)=some (.int .i64 0):=(Eq.refl _).trans (Eq.refl _)
@[simp] theorem zfN:z3X .nils=some (.int .i64 0):=(Eq.refl _).trans (Eq.refl _)
@[simp] theorem zfO (s:List UInt8):z3W (.str s)=some (.int .i64 s.length):=(Eq.refl _).trans (Eq.refl _)
@[simp] theorem zdC (z r o n:Nat) (c:vj) (k:IntKind) (i:Int):z7N z (.sl r o n c) (.int k i)=if 0≤i∧i < n then some (.ptr r (o+i.toNat * z)) else none:=(Eq.refl _).trans (Eq.refl _)
@[simp] theorem zhb (n z r o:Nat) (k:IntKind) (i:Int):z6e n z (.ptr r o) (.int k i)=if 0≤i∧i < n then some (.ptr r (o+i.toNat * z)) else none:=(Eq.refl _).trans (Eq.refl _)
@[simp] theorem zhc (k l:IntKind) (n:Int):z1S k (.int l n)=some (.int k (k.wrap n)):=(Eq.refl _).trans (Eq.refl _)
@[simp] theorem zhd (l:List AV) (i:Nat):xq (.tup l) i=l[i]? := (Eq.refl _).trans (Eq.refl _)
@[simp] theorem zhe (o:Nat) (n:Option Nat) (l:List AV):z7M o n (.agg l)=kG l o n:=(Eq.refl _).trans (Eq.refl _)
@[simp] theorem zf7 (l:List AV) (o:Nat):kG l o none=l[o]? := (Eq.refl _).trans (Eq.refl _)
@[simp] theorem zf8 (l:List AV) (o n:Nat):kG l o (some n)=if o+n≤l.length then some (.agg ((l.drop o).take n)) else none:=(Eq.refl _).trans (Eq.refl _)
@[simp] theorem zi8 (b:Bool):unA .not (.bool b)=some (.bool !b):=(Eq.refl _).trans (Eq.refl _)
@[simp] theorem zi9 (k:IntKind) (n:Int):unA .neg (.int k n)=some (.int k (k.wrap (0 - n))):=(Eq.refl _).trans (Eq.refl _)
@[simp] theorem zfP (neg:Bool) (r o n:Nat) (c:vj):z3V neg 0 (.sl r o n c)=some (.bool (false != neg)):=(Eq.refl _).trans (Eq.refl _)
@[simp] theorem zfQ (neg:Bool):z3V neg 0 .nils=some (.bool (true != neg)):=(Eq.refl _).trans (Eq.refl _)
@[simp] theorem zdW (neg:Bool):z3V neg 1 .nilifc=some (.bool (true != neg)):=(Eq.refl _).trans (Eq.refl _)
@[simp] theorem zhf (neg:Bool) (t:Nat) (v:AV):z3V neg 1 (.ifc t v)=some (.bool (false != neg)):=(Eq.refl _).trans (Eq.refl _)
@[simp] theorem zfR (neg:Bool):z3V neg 2 .nilp=some (.bool (true != neg)):=(Eq.refl _).trans (Eq.refl _)
@[simp] theorem zhg (neg:Bool) (r o:Nat):z3V neg 2 (.ptr r o)=some (.bool (false != neg)):=(Eq.refl _).trans (Eq.refl _)
@[simp] theorem zja (neg a b:Bool):JB neg .b (.bool a) (.bool b)=some (.bool ((a == b) != neg)):=(Eq.refl _).trans (Eq.refl _)
@[simp] theorem zjb (neg:Bool) (k:IntKind) (a b:Int):JB neg .i (.int k a) (.int k b)=some (.bool (decide (a=b) != neg)):=by
 simp [JB,eqA,zaF]
@[simp] theorem zjc (neg:Bool) (a b:List UInt8):JB neg .s (.str a) (.str b)=some (.bool (decide (a=b) != neg)):=by simp [JB,eqA,zaF]
@[simp] theorem zia (neg:Bool) (fs:List (Nat × Nat × EqT)) (a b:List AV):JB neg (.st fs) (.agg a) (.agg b)=(eqF fs a b).map fun b=>.bool (b != neg):=by
 simp only [JB,eqA]
@[simp] theorem zib (a b:List AV):eqF [] a b=some true:=by simp only [eqF]
@[simp] theorem zhh (o n:Nat) (q:EqT) (l:List (Nat × Nat × EqT)) (xs ys:List AV):eqF ((o,n,q)::l) xs ys=match kG xs o (q.agg n),kG ys o (q.agg n) with
  | some a,some b=>match eqA q a b with
   | some true=>eqF l xs ys
   | some false=>some false
   | none=>none
  | _,_=>none:=by
 conv=>lhs;unfold eqF
 rfl
@[simp] theorem zjK (n:Nat):EqT.agg .b n=none:=(Eq.refl _).trans (Eq.refl _)
@[simp] theorem zjL (n:Nat):EqT.agg .i n=none:=(Eq.refl _).trans (Eq.refl _)
@[simp] theorem zjM (n:Nat):EqT.agg .s n=none:=(Eq.refl _).trans (Eq.refl _)
@[simp] theorem zjd (fs:List (Nat × Nat × EqT)) (n:Nat):EqT.agg (.st fs) n=some n:=(Eq.refl _).trans (Eq.refl _)
@[simp] theorem zjN (k:IntKind) (a b:Int):eqA .i (.int k a) (.int k b)=some (decide (a=b)):=by simp [eqA,zaF]
@[simp] theorem zjO (a b:Bool):eqA .b (.bool a) (.bool b)=some (a == b):=by simp [eqA]
@[simp] theorem zjP (a b:List UInt8):eqA .s (.str a) (.str b)=some (decide (a=b)):=by simp [eqA,zaF]
section
variable (k:IntKind) (a b:Int)
@[simp] theorem zic:zb .add (.int k a) (.int k b)=some (.int k (k.wrap (a+b))):=by simp [zb,XN]
@[simp] theorem zid:zb .sub (.int k a) (.int k b)=some (.int k (k.wrap (a - b))):=by simp [zb,XN]
@[simp] theorem zie:zb .mul (.int k a) (.int k b)=some (.int k (k.wrap (a * b))):=by simp [zb,XN]
@[simp] theorem zif:zb .quo (.int k a) (.int k b)=if b=0 then none else some (.int k (k.wrap (a.tdiv b))):=by simp [zb,XN]
@[simp] theorem zig:zb .rem (.int k a) (.int k b)=if b=0 then none else some (.int k (a.tmod b)):=by simp [zb,XN]
@[simp] theorem zih:zb .eql (.int k a) (.int k b)=some (.bool (decide (a=b))):=by simp only [zb,XN,if_true,Option.some.injEq,AV.bool.injEq];exact zaF a b
@[simp] theorem zii:zb .neq (.int k a) (.int k b)=some (.bool (decide (a≠b))):=by simp only [zb,XN,if_true,Option.some.injEq,AV.bool.injEq];simp [bne,zaF]
@[simp] theorem zij:zb .lss (.int k a) (.int k b)=some (.bool (a < b)):=by simp [zb,XN]
@[simp] theorem zik:zb .leq (.int k a) (.int k b)=some (.bool (a≤b)):=by simp [zb,XN]
@[simp] theorem zil:zb .gtr (.int k a) (.int k b)=some (.bool (a > b)):=by simp [zb,XN]
@[simp] theorem zim:zb .geq (.int k a) (.int k b)=some (.bool (a ≥ b)):=by simp [zb,XN]
@[simp] theorem zin:zb .and (.int k a) (.int k b)=some (.int k (k.wrap (BitVec.ofInt k.bits a &&& BitVec.ofInt k.bits b).toNat)):=by simp [zb,XN]
@[simp] theorem zje:zb .or (.int k a) (.int k b)=some (.int k (k.wrap (BitVec.ofInt k.bits a ||| BitVec.ofInt k.bits b).toNat)):=by simp [zb,XN]
@[simp] theorem zio:zb .xor (.int k a) (.int k b)=some (.int k (k.wrap (BitVec.ofInt k.bits a ^^^ BitVec.ofInt k.bits b).toNat)):=by simp [zb,XN]
@[simp] theorem ziq (l:IntKind):zb .shl (.int k a) (.int l b)=if b < 0 then none else some (.int k (k.wrap (a * 2 ^ (min b.toNat k.bits)))):=(Eq.refl _).trans (Eq.refl _)
@[simp] theorem zir (l:IntKind):zb .shr (.int k a) (.int l b)=if b < 0 then none else some (.int k (a.fdiv (2 ^ (min b.toNat k.bits)))):=(Eq.refl _).trans (Eq.refl _)
theorem z83 (l:IntKind):vO (some (.int k a)) (.int l b)=some (.int k (max a b)):=by
 simp only [vO]
 by_cases h:b > a
 ·rw [if_pos h];congr 2;omega
 ·rw [if_neg h];congr 2;omega
theorem z84 (l:IntKind):vP (some (.int k a)) (.int l b)=some (.int k (min a b)):=by
 simp only [vP]
 by_cases h:b < a
 ·rw [if_pos h];congr 2;omega
 ·rw [if_neg h];congr 2;omega
@[simp] theorem zis (l:IntKind):z8Y [.int k a,.int l b]=some (.int k (max a b)):=z83 k a b l
@[simp] theorem zit (l:IntKind):zaD [.int k a,.int l b]=some (.int k (min a b)):=z84 k a b l
end
@[simp] theorem ziu (k:IntKind) (n:Int):AV.one (.int k n)=true:=(Eq.refl _).trans (Eq.refl _)
@[simp] theorem zhi (b:Bool):AV.one (.bool b)=true:=(Eq.refl _).trans (Eq.refl _)
@[simp] theorem ziv (s:List UInt8):AV.one (.str s)=true:=(Eq.refl _).trans (Eq.refl _)
@[simp] theorem zjf (r o n:Nat) (c:vj):AV.one (.sl r o n c)=true:=(Eq.refl _).trans (Eq.refl _)
@[simp] theorem ziw (r o:Nat):AV.one (.ptr r o)=true:=(Eq.refl _).trans (Eq.refl _)
@[simp] theorem zhj:AV.one .nils=true:=(Eq.refl _).trans (Eq.refl _)
@[simp] theorem zhk:AV.one .nilp=true:=(Eq.refl _).trans (Eq.refl _)
@[simp] theorem zjg (f:Nat) (a b:List AV):AV.one (.fn f a b)=true:=(Eq.refl _).trans (Eq.refl _)
@[simp] theorem zix (t:Nat) (v:AV):AV.one (.ifc t v)=true:=(Eq.refl _).trans (Eq.refl _)
@[simp] theorem zf9:AV.one .nilifc=true:=(Eq.refl _).trans (Eq.refl _)
@[simp] theorem z5f (l:List AV):AV.cells (.agg l)=l:=(Eq.refl _).trans (Eq.refl _)
@[simp] theorem zfS (k:IntKind) (n:Int):AV.cells (.int k n)=[.int k n]:=(Eq.refl _).trans (Eq.refl _)
@[simp] theorem zfa (b:Bool):AV.cells (.bool b)=[.bool b]:=(Eq.refl _).trans (Eq.refl _)
@[simp] theorem zfT (s:List UInt8):AV.cells (.str s)=[.str s]:=(Eq.refl _).trans (Eq.refl _)
@[simp] theorem zhl (r o n:Nat) (c:vj):AV.cells (.sl r o n c)=[.sl r o n c]:=(Eq.refl _).trans (Eq.refl _)
@[simp] theorem zfU (r o:Nat):AV.cells (.ptr r o)=[.ptr r o]:=(Eq.refl _).trans (Eq.refl _)
@[simp] theorem zfb:AV.cells .nils=[.nils]:=(Eq.refl _).trans (Eq.refl _)
@[simp] theorem zfc:AV.cells .nilp=[.nilp]:=(Eq.refl _).trans (Eq.refl _)
@[simp] theorem zhm (f:Nat) (a b:List AV):AV.cells (.fn f a b)=[.fn f a b]:=(Eq.refl _).trans (Eq.refl _)
@[simp] theorem zfV (t:Nat) (v:AV):AV.cells (.ifc t v)=[.ifc t v]:=(Eq.refl _).trans (Eq.refl _)
@[simp] theorem ziy (k:IntKind) (n:Int):AV.isRaw (.int k n)=false:=(Eq.refl _).trans (Eq.refl _)
@[simp] theorem zhn (b:Bool):AV.isRaw (.bool b)=false:=(Eq.refl _).trans (Eq.refl _)
@[simp] theorem ziz (s:List UInt8):AV.isRaw (.str s)=false:=(Eq.refl _).trans (Eq.refl _)
@[simp] theorem zjh (r o n:Nat) (c:vj):AV.isRaw (.sl r o n c)=false:=(Eq.refl _).trans (Eq.refl _)
@[simp] theorem ziA (l:List AV):AV.isRaw (.agg l)=false:=(Eq.refl _).trans (Eq.refl _)
@[simp] theorem zho:AV.isRaw .nils=false:=(Eq.refl _).trans (Eq.refl _)
@[simp] theorem ziB (r o:Nat):AV.isRaw (.ptr r o)=false:=(Eq.refl _).trans (Eq.refl _)
@[simp] theorem zfW (cs:List AV):qE cs []=some cs:=(Eq.refl _).trans (Eq.refl _)
@[simp] theorem zfd (cs:List AV) (o s:Nat) (v:AV) (l:List (Nat × Nat × AV)):qE cs ((o,s,v)::l)=if v.cells.length=s∧o+s≤cs.length∧v.isRaw=false then qE (splice cs o v.cells) l else none:=(Eq.refl _).trans (Eq.refl _)
@[simp] theorem zfX (cs:List AV) (o:Nat) (vs:List AV):splice cs o vs=cs.take o++vs++cs.drop (o+vs.length):=(Eq.refl _).trans (Eq.refl _)
def z6j:Option zH→Nat→Option AV
 | some (.cells _ _ cs),o=>cs[o]?
 | _,_=>none
def z22:Option zH→Nat→Nat→Option (List AV)
 | some (.cells _ _ cs),o,n=>if o+n≤cs.length then some ((cs.drop o).take n) else none
 | _,_,_=>none
def V3:Option zH→Nat→List AV→Option zH
 | some (.cells k z cs),o,vs=>if k=.ro then none else if o+vs.length≤cs.length∧vs.all AV.one then some (.cells k z (splice cs o vs)) else none
 | _,_,_=>none
@[simp] theorem zcO (k:Kd) (z:Nat) (cs:List AV) (o:Nat):z6j (some (.cells k z cs)) o=cs[o]? := (Eq.refl _).trans (Eq.refl _)
@[simp] theorem v7 (k:Kd) (z:Nat) (cs:List AV) (o n:Nat):z22 (some (.cells k z cs)) o n=if o+n≤cs.length then some ((cs.drop o).take n) else none:=(Eq.refl _).trans (Eq.refl _)
@[simp] theorem zcJ (k:Kd) (z:Nat) (cs:List AV) (o:Nat) (vs:List AV):V3 (some (.cells k z cs)) o vs=if k=.ro then none else if o+vs.length≤cs.length∧vs.all AV.one then some (.cells k z (splice cs o vs)) else none:=(Eq.refl _).trans (Eq.refl _)
@[simp] theorem ziC (H:z3) (r o:Nat):H.cell r o=z6j (H.get r) o:=by
 unfold z3.cell z6j
 cases H.get r with
 | none=>rfl
 | some x=>cases x<;>rfl
@[simp] theorem qL (H:z3) (r o n:Nat):H.row r o n=z22 (H.get r) o n:=by
 unfold z3.row z22
 cases H.get r with
 | none=>rfl
 | some x=>cases x<;>rfl
@[simp] theorem zhp (H:z3) (r o:Nat) (vs:List AV):H.write r o vs=(V3 (H.get r) o vs).map fun b=>H.put r (some b):=by
 unfold z3.write V3
 cases H.get r with
 | none=>rfl
 | some x =>
  cases x with
  | iter s p=>rfl
  | mapo es=>rfl
  | cells k z cs =>
   simp only []
   split
   ·rfl
   ·split<;>rfl
@[simp] theorem zhq (H:z3) (cs:List AV):KZ H cs=if cs.all AV.one then some (.ptr H.size 0,H.push (some (.cells .exact cs.length cs))) else none:=(Eq.refl _).trans (Eq.refl _)
@[simp] theorem ziD (H:z3) (n r o:Nat) (v:AV):stA H n (.ptr r o) v=if v.cells.length=n then (H.write r o v.cells).map fun H'=>(z4,H') else none:=(Eq.refl _).trans (Eq.refl _)
@[simp] theorem ziE (H:z3) (esz:Nat) (z:List AV) (n:Nat) (ps:List (Nat × Nat × AV)):zdv H esz z n ps=if esz=0∨z.length≠esz∨16777216 < n * esz then none else
  match qE (x8 n z) ps with
  | some cs=>if cs.all AV.one then some (.sl H.size 0 n (.ex n),H.push (some (.cells .exact esz cs))) else none
  | none=>none:=(Eq.refl _).trans (Eq.refl _)
@[simp] theorem zhr (H:z3) (esz bytes:Nat) (z:List AV) (k k':IntKind) (l c:Int):zdx H esz bytes z (.int k l) (.int k' c)=if 0≤l∧l≤c∧c.toNat * bytes≤zq∧c≤70368744177664∧esz≠0∧z.length=esz∧z.all AV.one then
   some (.sl H.size 0 l.toNat (.ex c.toNat),H.push (some (.cells .exact esz (x8 c.toNat z)))) else none:=(Eq.refl _).trans (Eq.refl _)
@[simp] theorem zfY (z:List AV):x8 0 z=[]:=(Eq.refl _).trans (Eq.refl _)
@[simp] theorem zfZ (n:Nat) (z:List AV):x8 (n+1) z=z++x8 n z:=(Eq.refl _).trans (Eq.refl _)
@[simp] theorem ziF (H:z3) (r o n:Nat) (c:vj):zf0 H (.sl r o n c)=match H.get r with
  | some (.cells k z cs)=>if k=.ro then none else some (.sl r o n c,H.put r (some (.cells .stiff z cs)))
  | _=>none:=(Eq.refl _).trans (Eq.refl _)
@[simp] theorem zhs (n z r o:Nat) (lo hi:Option AV):zeZ n z (.ptr r o) lo hi=match yl hi n n with
  | none=>none
  | some h=>match yl lo 0 h with
   | none=>none
   | some l=>some (.sl r (if n=l then o else o+l * z) (h - l) (.ex (n - l))):=(Eq.refl _).trans (Eq.refl _)
@[simp] theorem jZ (d t:Nat):yl none d t=some d:=(Eq.refl _).trans (Eq.refl _)
@[simp] theorem QN (d t:Nat) (k:IntKind) (i:Int):yl (some (.int k i)) d t=if 0≤i∧i≤t then some i.toNat else none:=(Eq.refl _).trans (Eq.refl _)
@[simp] theorem ziG (H:z3) (esz bytes:Nat) (z:List AV) (s x:AV):z7O H esz bytes z s x=if z.length=esz then QT H esz bytes s x else none:=(Eq.refl _).trans (Eq.refl _)
@[simp] theorem XM (H:z3) (o:Option zH):(H.push o).get H.size=o:=by rw [z3.get_push,if_pos rfl]
theorem Xu {H:z3} {o:Option zH} {m:Nat} (h:m≠H.size):(H.push o).get m=H.get m:=by rw [z3.get_push,if_neg h]
@[simp] theorem Zc (H:z3) (r:Nat) (o:Option zH):(H.put r o).get r=o:=by rw [z3.get_put,if_pos rfl]
theorem wk {H:z3} {r:Nat} {o:Option zH} {m:Nat} (h:m≠r):(H.put r o).get m=H.get m:=by rw [z3.get_put,if_neg h]
@[simp] theorem zjQ (n:Nat):(n=n+1+1)↔False:=iff_of_false (Nat.ne_of_lt (by omega)) id
@[simp] theorem zji (n:Nat):(n+1+1=n)↔False:=iff_of_false (Nat.ne_of_gt (by omega)) id
@[simp] theorem zjR (n:Nat):(n=n+1+1+1)↔False:=iff_of_false (Nat.ne_of_lt (by omega)) id
@[simp] theorem zjj (n:Nat):(n+1+1+1=n)↔False:=iff_of_false (Nat.ne_of_gt (by omega)) id
@[simp] theorem zjS (n:Nat):(n=n+1+1+1+1)↔False:=iff_of_false (Nat.ne_of_lt (by omega)) id
@[simp] theorem zjk (n:Nat):(n+1+1+1+1=n)↔False:=iff_of_false (Nat.ne_of_gt (by omega)) id
@[simp] theorem zjT (n:Nat):(n=n+1+1+1+1+1)↔False:=iff_of_false (Nat.ne_of_lt (by omega)) id
@[simp] theorem zjl (n:Nat):(n+1+1+1+1+1=n)↔False:=iff_of_false (Nat.ne_of_gt (by omega)) id
@[simp] theorem zjU (n:Nat):(n=n+1+1+1+1+1+1)↔False:=iff_of_false (Nat.ne_of_lt (by omega)) id
@[simp] theorem zjm (n:Nat):(n+1+1+1+1+1+1=n)↔False:=iff_of_false (Nat.ne_of_gt (by omega)) id
@[simp] theorem zjV (n:Nat):(n=n+1+1+1+1+1+1+1)↔False:=iff_of_false (Nat.ne_of_lt (by omega)) id
@[simp] theorem zjn (n:Nat):(n+1+1+1+1+1+1+1=n)↔False:=iff_of_false (Nat.ne_of_gt (by omega)) id
@[simp] theorem zjW (n:Nat):(n=n+1+1+1+1+1+1+1+1)↔False:=iff_of_false (Nat.ne_of_lt (by omega)) id
@[simp] theorem zjo (n:Nat):(n+1+1+1+1+1+1+1+1=n)↔False:=iff_of_false (Nat.ne_of_gt (by omega)) id
@[simp] theorem zjX (n:Nat):(n=n+1+1+1+1+1+1+1+1+1)↔False:=iff_of_false (Nat.ne_of_lt (by omega)) id
@[simp] theorem zjp (n:Nat):(n+1+1+1+1+1+1+1+1+1=n)↔False:=iff_of_false (Nat.ne_of_gt (by omega)) id
attribute [simp] z3.get_push z3.get_put
@[simp] theorem zjY (H H':z3) (f:z3→Option AV) (v:AV):ckP H H' (.q f v)=match f H' with
  | some v'=>ji v v'
  | none=>false:=(Eq.refl _).trans (Eq.refl _)
@[simp] theorem zht (H H':z3):ckP H H' .none=true:=(Eq.refl _).trans (Eq.refl _)
@[simp] theorem zg0 (v:AV):ji v v=true:=Vd v
@[simp] theorem zhu (call:z8) (f:Nat) (fs cs args:List AV) (H:z3):zcA call (.fn f fs cs) args H=call f (fs++args++cs) H:=(Eq.refl _).trans (Eq.refl _)
@[simp] theorem zhv (call:z8) (tab:List (Nat × Nat)) (t:Nat) (v:AV) (args:List AV) (H:z3):z2O call tab (.ifc t v) args H=match tab.lookup t with
  | some f=>call f (v::args) H
  | none=>none:=(Eq.refl _).trans (Eq.refl _)
@[simp] theorem zhw (t:Nat) (z:AV) (ok:Bool) (t':Nat) (v:AV):z1T t z ok (.ifc t' v)=if t'=t then some (if ok then .tup [v,.bool true] else v) else if ok then some (.tup [z,.bool false]) else none:=(Eq.refl _).trans (Eq.refl _)
@[simp] theorem zhx (t:Nat) (z:AV) (ok:Bool):z1T t z ok .nilifc=if ok then some (.tup [z,.bool false]) else none:=(Eq.refl _).trans (Eq.refl _)
@[simp] theorem zhy (f:Nat→Option Nat) (k:IntKind) (n:Int):v6 f (.int k n)=some (.int k n):=by simp only [v6]
@[simp] theorem zg1 (f:Nat→Option Nat) (b:Bool):v6 f (.bool b)=some (.bool b):=by simp only [v6]
@[simp] theorem zhz (f:Nat→Option Nat) (b:List UInt8):v6 f (.str b)=some (.str b):=by simp only [v6]
@[simp] theorem zg2 (f:Nat→Option Nat):v6 f .nils=some .nils:=by simp only [v6]
@[simp] theorem ziH (f:Nat→Option Nat) (r o n:Nat) (c:vj):v6 f (.sl r o n c)=(f r).map fun r=>.sl r o n c:=by simp only [v6]
@[simp] theorem zhA (f:Nat→Option Nat) (l:List AV):v6 f (.agg l)=(X7 f l).map .agg:=by simp only [v6]
@[simp] theorem zhB (f:Nat→Option Nat) (l:List AV):v6 f (.tup l)=(X7 f l).map .tup:=by simp only [v6]
@[simp] theorem zhC (f:Nat→Option Nat):X7 f []=some []:=by simp only [X7]
@[simp] theorem zg3 (f:Nat→Option Nat) (v:AV) (l:List AV):X7 f (v::l)=(v6 f v).bind fun v=>(X7 f l).map fun l=>v::l:=by
 simp only [X7]
 cases v6 f v<;>cases X7 f l<;>rfl
theorem QO {n:Int} (h1:-9223372036854775808≤n) (h2:n≤9223372036854775807):IntKind.i64.wrap n=n:=IntWalk.i64_in n ⟨h1,h2⟩
end Go.Ab
