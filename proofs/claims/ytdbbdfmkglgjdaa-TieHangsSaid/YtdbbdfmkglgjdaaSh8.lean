/- What operations come to at plain values: rules for simp. -/
import Derived.Test.YtdbbdfmkglgjdaaSh7
import Derived.IntWalk
set_option linter.unusedVariables false
set_option linter.unusedSimpArgs false
set_option linter.unusedSectionVars false
namespace Go.Ab
theorem z91 {α:Type} [BEq α] [LawfulBEq α] [DecidableEq α] (a b:α):(a == b)=decide (a=b):=by by_cases h:a=b<;>simp [h]
section
variable {β:Type}
@[simp] theorem zf7 (v:AV) (k:AV→Option β):bnP (some v) k=k v:=(Eq.refl _).trans (Eq.refl _)
@[simp] theorem zf8 (k:AV→Option β):bnP none k=none:=(Eq.refl _).trans (Eq.refl _)
@[simp] theorem zf9 (v:AV) (H:z3) (k:AV→z3→Option β):bnS (some (v,H)) k=k v H:=(Eq.refl _).trans (Eq.refl _)
@[simp] theorem zfa (k:AV→z3→Option β):bnS none k=none:=(Eq.refl _).trans (Eq.refl _)
@[simp] theorem zfb (ex:zE) (τ:Tau) (H:z3) (k:zE→Tau→z3→Option β):bnE (some (ex,τ,H)) k=k ex τ H:=(Eq.refl _).trans (Eq.refl _)
@[simp] theorem zfc (k:zE→Tau→z3→Option β):bnE none k=none:=(Eq.refl _).trans (Eq.refl _)
@[simp] theorem zfd (v:AV) (o:zG) (k:AV→zG→Option β):bnO (some (v,o)) k=k v o:=(Eq.refl _).trans (Eq.refl _)
@[simp] theorem zdP (o:Option β):pinB true o=o:=(Eq.refl _).trans (Eq.refl _)
@[simp] theorem zdj (o:Option β):pinB false o=none:=(Eq.refl _).trans (Eq.refl _)
@[simp] theorem zfe (o:Option AV):gdP true o=o:=(Eq.refl _).trans (Eq.refl _)
@[simp] theorem zdQ (o:Option AV):gdP false o=some z4:=(Eq.refl _).trans (Eq.refl _)
@[simp] theorem zff (o:Option (AV × z3)) (H:z3):gdS true o H=o:=(Eq.refl _).trans (Eq.refl _)
@[simp] theorem zdR (o:Option (AV × z3)) (H:z3):gdS false o H=some (z4,H):=(Eq.refl _).trans (Eq.refl _)
@[simp] theorem zfg (b w:Bool):wnt (.bool b) w=(b == w):=(Eq.refl _).trans (Eq.refl _)
@[simp] theorem zdS (w:Bool):wnt z4 w=false:=(Eq.refl _).trans (Eq.refl _)
@[simp] theorem zdT (b:Bool) (x y:Unit→Option β):zw (.bool b) x y=if b=true then x () else y ():=by cases b<;>rfl
@[simp] theorem zc9 (k1:Tau→z3→Option β) (k:zE→Tau→z3→Option β) (τ:Tau) (H:z3):z1u k1 k .normal τ H=k1 τ H:=(Eq.refl _).trans (Eq.refl _)
@[simp] theorem zdU (k1:Tau→z3→Option β) (k:zE→Tau→z3→Option β) (i:Nat) (τ:Tau) (H:z3):z1u k1 k (.exit i) τ H=k (.exit i) τ H:=(Eq.refl _).trans (Eq.refl _)
@[simp] theorem zfh (k1:Tau→z3→Option β) (k:zE→Tau→z3→Option β) (τ:Tau) (H:z3):z1u k1 k .ret τ H=k .ret τ H:=(Eq.refl _).trans (Eq.refl _)
@[simp] theorem zca (i:Nat) (k:zE→Tau→z3→Option β) (τ:Tau) (H:z3):z6m i k .normal τ H=k .normal τ H:=(Eq.refl _).trans (Eq.refl _)
@[simp] theorem zdV (i j:Nat) (k:zE→Tau→z3→Option β) (τ:Tau) (H:z3):z6m i k (.exit j) τ H=k (if j=i then .normal else .exit j) τ H:=(Eq.refl _).trans (Eq.refl _)
@[simp] theorem zfi (i:Nat) (k:zE→Tau→z3→Option β) (τ:Tau) (H:z3):z6m i k .ret τ H=k .ret τ H:=(Eq.refl _).trans (Eq.refl _)
@[simp] theorem zgi (ex:zE) (τ:Tau) (H:z3):z4J ex τ H=some (ex,τ,H):=(Eq.refl _).trans (Eq.refl _)
@[simp] theorem zfj (res:List vV) (τ:Tau) (H:z3):z6o res .ret τ H=(y5 τ H res).map fun v=>(v,H):=(Eq.refl _).trans (Eq.refl _)
@[simp] theorem zcb (res:List vV) (τ:Tau) (H:z3):z6o res .normal τ H=(y5 τ H res).map fun v=>(v,H):=(Eq.refl _).trans (Eq.refl _)
@[simp] theorem zfk (H:z3) (v:AV):lft H (some v)=some (v,H):=(Eq.refl _).trans (Eq.refl _)
@[congr] theorem zdW {o o':Option AV} {k:AV→Option β} (h:o=o'):bnP o k=bnP o' k:=by rw [h]
@[congr] theorem zdX {o o':Option (AV × z3)} {k:AV→z3→Option β} (h:o=o'):bnS o k=bnS o' k:=by rw [h]
@[congr] theorem zdY {o o':Option (zE × Tau × z3)} {k:zE→Tau→z3→Option β} (h:o=o'):bnE o k=bnE o' k:=by rw [h]
@[congr] theorem zdZ {o o':Option (AV × zG)} {k:AV→zG→Option β} (h:o=o'):bnO o k=bnO o' k:=by rw [h]
@[congr] theorem zdk {b b':Bool} {k:Option β} (h:b=b'):pinB b k=pinB b' k:=by rw [h]
@[congr] theorem zdl {v v':AV} {x y:Unit→Option β} (h:v=v'):zw v x y=zw v' x y:=by rw [h]
@[congr] theorem ze0 {w w':Bool} {o:Option AV} (h:w=w'):gdP w o=gdP w' o:=by rw [h]
@[congr] theorem ze1 {w w':Bool} {o:Option (AV × z3)} {H:z3} (h:w=w'):gdS w o H=gdS w' o H:=by rw [h]
end
@[simp] theorem zcc (τ:Tau) (H:z3) (r:vV):y5 τ H [r]=jl τ H r:=by
 unfold y5 zO
 cases jl τ H r<;>rfl
@[simp] theorem zcd (τ:Tau) (H:z3) (r s:vV):y5 τ H [r,s]=(jl τ H r).bind fun x=>(jl τ H s).map fun y=>.tup [x,y]:=by
 simp only [y5,zO]
 cases jl τ H r<;>cases jl τ H s<;>rfl
@[simp] theorem zb5 (τ:Tau) (H:z3) (r s t:vV):y5 τ H [r,s,t]=(jl τ H r).bind fun x=>(jl τ H s).bind fun y=>(jl τ H t).map fun z=>.tup [x,y,z]:=by
 simp only [y5,zO]
 cases jl τ H r<;>cases jl τ H s<;>cases jl τ H t<;>rfl
@[simp] theorem zfl (τ:Tau) (H:z3) (t:Nat):jl τ H (.tmp t)=τ[t]? := (Eq.refl _).trans (Eq.refl _)
@[simp] theorem ze2 (τ:Tau) (H:z3) (t:Nat) (n:Option Nat):jl τ H (.cell t n)=(τ[t]?).bind fun a=>match n with
  | none=>ldA H a
  | some n=>z6e H n a:=by
 simp only [jl]
 cases τ[t]? with
 | none=>rfl
 | some a=>cases a<;>cases n<;>rfl
@[simp] theorem zdm (b:Bool) (x y:AV):zF (.bool b) x y=some (if b=true then x else y):=by cases b<;>rfl
@[simp] theorem zgj (H:z3) (r o:Nat):ldA H (.ptr r o)=H.cell r o:=(Eq.refl _).trans (Eq.refl _)
@[simp] theorem zfm (H:z3) (n r o:Nat):z6e H n (.ptr r o)=(H.row r o n).map .agg:=(Eq.refl _).trans (Eq.refl _)
@[simp] theorem zfn (r o:Nat):ql (.ptr r o)=some (.ptr r o):=(Eq.refl _).trans (Eq.refl _)
@[simp] theorem zfo (n r o:Nat):qi n (.ptr r o)=some (.ptr r (o+n)):=(Eq.refl _).trans (Eq.refl _)
@[simp] theorem zgk (r o n:Nat) (c:kK):z2v (.sl r o n c)=some (.int .i64 n):=(Eq.refl _).trans (Eq.refl _)
@[simp] theorem zgl (r o k d:Nat):z2v (.zs r o k d)=some (.int .i64 0):=(Eq.refl _).trans (Eq.refl _)
@[simp] theorem ze3:z2v .nils=some (.int .i64 0):=(Eq.refl _).trans (Eq.refl _)
@[simp] theorem ze4 (s:List UInt8):z2u (.str s)=some (.int .i64 s.length):=(Eq.refl _).trans (Eq.refl _)
@[simp] theorem zbW (z r o n:Nat) (c:kK) (k:IntKind) (i:Int):z6g z (.sl r o n c) (.int k i)=if 0≤i∧i < n then some (.ptr r (o+i.toNat * z)) else none:=(Eq.refl _).trans (Eq.refl _)
@[simp] theorem zfp (n z r o:Nat) (k:IntKind) (i:Int):z4H n z (.ptr r o) (.int k i)=if 0≤i∧i < n then some (.ptr r (o+i.toNat * z)) else none:=(Eq.refl _).trans (Eq.refl _)
@[simp] theorem zfq (k l:IntKind) (n:Int):z0C k (.int l n)=some (.int k (k.wrap n)):=(Eq.refl _).trans (Eq.refl _)
@[simp] theorem zfr (l:List AV) (i:Nat):xf (.tup l) i=l[i]? := (Eq.refl _).trans (Eq.refl _)
@[simp] theorem zfs (o:Nat) (n:Option Nat) (l:List AV):z6f o n (.agg l)=kC l o n:=(Eq.refl _).trans (Eq.refl _)
@[simp] theorem zdn (l:List AV) (o:Nat):kC l o none=l[o]? := (Eq.refl _).trans (Eq.refl _)
@[simp] theorem zdo (l:List AV) (o n:Nat):kC l o (some n)=if o+n≤l.length then some (.agg ((l.drop o).take n)) else none:=(Eq.refl _).trans (Eq.refl _)
@[simp] theorem zgm (b:Bool):unA .not (.bool b)=some (.bool !b):=(Eq.refl _).trans (Eq.refl _)
@[simp] theorem zgn (k:IntKind) (n:Int):unA .neg (.int k n)=some (.int k (k.wrap (0 - n))):=(Eq.refl _).trans (Eq.refl _)
@[simp] theorem ze5 (neg:Bool) (r o n:Nat) (c:kK):z2t neg 0 (.sl r o n c)=some (.bool (false != neg)):=(Eq.refl _).trans (Eq.refl _)
@[simp] theorem ze6 (neg:Bool):z2t neg 0 .nils=some (.bool (true != neg)):=(Eq.refl _).trans (Eq.refl _)
@[simp] theorem zce (neg:Bool):z2t neg 1 .nilifc=some (.bool (true != neg)):=(Eq.refl _).trans (Eq.refl _)
@[simp] theorem zft (neg:Bool) (t:Nat) (v:AV):z2t neg 1 (.ifc t v)=some (.bool (false != neg)):=(Eq.refl _).trans (Eq.refl _)
@[simp] theorem ze7 (neg:Bool):z2t neg 2 .nilp=some (.bool (true != neg)):=(Eq.refl _).trans (Eq.refl _)
@[simp] theorem zfu (neg:Bool) (r o:Nat):z2t neg 2 (.ptr r o)=some (.bool (false != neg)):=(Eq.refl _).trans (Eq.refl _)
@[simp] theorem zhp (neg a b:Bool):z0B neg .b (.bool a) (.bool b)=some (.bool ((a == b) != neg)):=(Eq.refl _).trans (Eq.refl _)
@[simp] theorem zhq (neg:Bool) (k:IntKind) (a b:Int):z0B neg .i (.int k a) (.int k b)=some (.bool (decide (a=b) != neg)):=by
 simp [z0B,eqA,z91]
@[simp] theorem zhr (neg:Bool) (a b:List UInt8):z0B neg .s (.str a) (.str b)=some (.bool (decide (a=b) != neg)):=by simp [z0B,eqA,z91]
@[simp] theorem zgo (neg:Bool) (fs:List (Nat × Nat × EqT)) (a b:List AV):z0B neg (.st fs) (.agg a) (.agg b)=(eqF fs a b).map fun b=>.bool (b != neg):=by
 simp only [z0B,eqA]
@[simp] theorem zgp (a b:List AV):eqF [] a b=some true:=by simp only [eqF]
@[simp] theorem zfv (o n:Nat) (q:EqT) (l:List (Nat × Nat × EqT)) (xs ys:List AV):eqF ((o,n,q)::l) xs ys=match kC xs o (q.agg n),kC ys o (q.agg n) with
  | some a,some b=>match eqA q a b with
   | some true=>eqF l xs ys
   | some false=>some false
   | none=>none
  | _,_=>none:=by
 conv=>lhs;unfold eqF
 rfl
@[simp] theorem zhZ (n:Nat):EqT.agg .b n=none:=(Eq.refl _).trans (Eq.refl _)
@[simp] theorem zi0 (n:Nat):EqT.agg .i n=none:=(Eq.refl _).trans (Eq.refl _)
@[simp] theorem zi1 (n:Nat):EqT.agg .s n=none:=(Eq.refl _).trans (Eq.refl _)
@[simp] theorem zhs (fs:List (Nat × Nat × EqT)) (n:Nat):EqT.agg (.st fs) n=some n:=(Eq.refl _).trans (Eq.refl _)
@[simp] theorem zi2 (k:IntKind) (a b:Int):eqA .i (.int k a) (.int k b)=some (decide (a=b)):=by simp [eqA,z91]
@[simp] theorem zi3 (a b:Bool):eqA .b (.bool a) (.bool b)=some (a == b):=by simp [eqA]
@[simp] theorem zi4 (a b:List UInt8):eqA .s (.str a) (.str b)=some (decide (a=b)):=by simp [eqA,z91]
section
variable (k:IntKind) (a b:Int)
@[simp] theorem zgq:z9 .add (.int k a) (.int k b)=some (.int k (k.wrap (a+b))):=by simp [z9,YX]
@[simp] theorem zgr:z9 .sub (.int k a) (.int k b)=some (.int k (k.wrap (a - b))):=by simp [z9,YX]
@[simp] theorem zgs:z9 .mul (.int k a) (.int k b)=some (.int k (k.wrap (a * b))):=by simp [z9,YX]
@[simp] theorem zgt:z9 .quo (.int k a) (.int k b)=if b=0 then none else some (.int k (k.wrap (a.tdiv b))):=by simp [z9,YX]
@[simp] theorem zgu:z9 .rem (.int k a) (.int k b)=if b=0 then none else some (.int k (a.tmod b)):=by simp [z9,YX]
@[simp] theorem zgv:z9 .eql (.int k a) (.int k b)=some (.bool (decide (a=b))):=by simp only [z9,YX,if_true,Option.some.injEq,AV.bool.injEq];exact z91 a b
@[simp] theorem zgw:z9 .neq (.int k a) (.int k b)=some (.bool (decide (a≠b))):=by simp only [z9,YX,if_true,Option.some.injEq,AV.bool.injEq];simp [bne,z91]
@[simp] theorem zgx:z9 .lss (.int k a) (.int k b)=some (.bool (a < b)):=by simp [z9,YX]
@[simp] theorem zgy:z9 .leq (.int k a) (.int k b)=some (.bool (a≤b)):=by simp [z9,YX]
@[simp] theorem zgz:z9 .gtr (.int k a) (.int k b)=some (.bool (a > b)):=by simp [z9,YX]
@[simp] theorem zgA:z9 .geq (.int k a) (.int k b)=some (.bool (a ≥ b)):=by simp [z9,YX]
@[simp] theorem zgB:z9 .and (.int k a) (.int k b)=some (.int k (k.wrap (BitVec.ofInt k.bits a &&& BitVec.ofInt k.bits b).toNat)):=by simp [z9,YX]
@[simp] theorem zht:z9 .or (.int k a) (.int k b)=some (.int k (k.wrap (BitVec.ofInt k.bits a ||| BitVec.ofInt k.bits b).toNat)):=by simp [z9,YX]
@[simp] theorem zgC:z9 .xor (.int k a) (.int k b)=some (.int k (k.wrap (BitVec.ofInt k.bits a ^^^ BitVec.ofInt k.bits b).toNat)):=by simp [z9,YX]
@[simp] theorem zgD (l:IntKind):z9 .shl (.int k a) (.int l b)=if b < 0 then none else some (.int k (k.wrap (a * 2 ^ (min b.toNat k.bits)))):=(Eq.refl _).trans (Eq.refl _)
@[simp] theorem zgE (l:IntKind):z9 .shr (.int k a) (.int l b)=if b < 0 then none else some (.int k (a.fdiv (2 ^ (min b.toNat k.bits)))):=(Eq.refl _).trans (Eq.refl _)
theorem z6w (l:IntKind):vm (some (.int k a)) (.int l b)=some (.int k (max a b)):=by
 simp only [vm]
 by_cases h:b > a
 ·rw [if_pos h];congr 2;omega
 ·rw [if_neg h];congr 2;omega
theorem z6x (l:IntKind):vn (some (.int k a)) (.int l b)=some (.int k (min a b)):=by
 simp only [vn]
 by_cases h:b < a
 ·rw [if_pos h];congr 2;omega
 ·rw [if_neg h];congr 2;omega
@[simp] theorem zgF (l:IntKind):z8Y [.int k a,.int l b]=some (.int k (max a b)):=z6w k a b l
@[simp] theorem zgG (l:IntKind):z8Z [.int k a,.int l b]=some (.int k (min a b)):=z6x k a b l
end
@[simp] theorem zgH (k:IntKind) (n:Int):AV.one (.int k n)=true:=(Eq.refl _).trans (Eq.refl _)
@[simp] theorem zfw (b:Bool):AV.one (.bool b)=true:=(Eq.refl _).trans (Eq.refl _)
@[simp] theorem zgI (s:List UInt8):AV.one (.str s)=true:=(Eq.refl _).trans (Eq.refl _)
@[simp] theorem zhu (r o n:Nat) (c:kK):AV.one (.sl r o n c)=true:=(Eq.refl _).trans (Eq.refl _)
@[simp] theorem zgJ (r o:Nat):AV.one (.ptr r o)=true:=(Eq.refl _).trans (Eq.refl _)
@[simp] theorem zfx:AV.one .nils=true:=(Eq.refl _).trans (Eq.refl _)
@[simp] theorem zfy:AV.one .nilp=true:=(Eq.refl _).trans (Eq.refl _)
@[simp] theorem zhv (f:Nat) (a b:List AV):AV.one (.fn f a b)=true:=(Eq.refl _).trans (Eq.refl _)
@[simp] theorem zgK (t:Nat) (v:AV):AV.one (.ifc t v)=true:=(Eq.refl _).trans (Eq.refl _)
@[simp] theorem zdp:AV.one .nilifc=true:=(Eq.refl _).trans (Eq.refl _)
@[simp] theorem z3L (l:List AV):AV.cells (.agg l)=l:=(Eq.refl _).trans (Eq.refl _)
@[simp] theorem ze8 (k:IntKind) (n:Int):AV.cells (.int k n)=[.int k n]:=(Eq.refl _).trans (Eq.refl _)
@[simp] theorem zdq (b:Bool):AV.cells (.bool b)=[.bool b]:=(Eq.refl _).trans (Eq.refl _)
@[simp] theorem ze9 (s:List UInt8):AV.cells (.str s)=[.str s]:=(Eq.refl _).trans (Eq.refl _)
@[simp] theorem zfz (r o n:Nat) (c:kK):AV.cells (.sl r o n c)=[.sl r o n c]:=(Eq.refl _).trans (Eq.refl _)
@[simp] theorem zea (r o:Nat):AV.cells (.ptr r o)=[.ptr r o]:=(Eq.refl _).trans (Eq.refl _)
@[simp] theorem zdr:AV.cells .nils=[.nils]:=(Eq.refl _).trans (Eq.refl _)
@[simp] theorem zds:AV.cells .nilp=[.nilp]:=(Eq.refl _).trans (Eq.refl _)
@[simp] theorem zfA (f:Nat) (a b:List AV):AV.cells (.fn f a b)=[.fn f a b]:=(Eq.refl _).trans (Eq.refl _)
@[simp] theorem zeb (t:Nat) (v:AV):AV.cells (.ifc t v)=[.ifc t v]:=(Eq.refl _).trans (Eq.refl _)
@[simp] theorem zgL (k:IntKind) (n:Int):AV.isRaw (.int k n)=false:=(Eq.refl _).trans (Eq.refl _)
@[simp] theorem zfB (b:Bool):AV.isRaw (.bool b)=false:=(Eq.refl _).trans (Eq.refl _)
@[simp] theorem zgM (s:List UInt8):AV.isRaw (.str s)=false:=(Eq.refl _).trans (Eq.refl _)
@[simp] theorem zhw (r o n:Nat) (c:kK):AV.isRaw (.sl r o n c)=false:=(Eq.refl _).trans (Eq.refl _)
@[simp] theorem zgN (l:List AV):AV.isRaw (.agg l)=false:=(Eq.refl _).trans (Eq.refl _)
@[simp] theorem zfC:AV.isRaw .nils=false:=(Eq.refl _).trans (Eq.refl _)
@[simp] theorem zgO (r o:Nat):AV.isRaw (.ptr r o)=false:=(Eq.refl _).trans (Eq.refl _)
@[simp] theorem zec (cs:List AV):qm cs []=some cs:=(Eq.refl _).trans (Eq.refl _)
@[simp] theorem zdt (cs:List AV) (o s:Nat) (v:AV) (l:List (Nat × Nat × AV)):qm cs ((o,s,v)::l)=if v.cells.length=s∧o+s≤cs.length∧v.isRaw=false then qm (splice cs o v.cells) l else none:=(Eq.refl _).trans (Eq.refl _)
@[simp] theorem zed (cs:List AV) (o:Nat) (vs:List AV):splice cs o vs=cs.take o++vs++cs.drop (o+vs.length):=(Eq.refl _).trans (Eq.refl _)
def z4M:Option zG→Nat→Option AV
 | some (.cells _ _ cs),o=>cs[o]?
 | _,_=>none
def z0M:Option zG→Nat→Nat→Option (List AV)
 | some (.cells _ _ cs),o,n=>if o+n≤cs.length then some ((cs.drop o).take n) else none
 | _,_,_=>none
def JN:Option zG→Nat→List AV→Option zG
 | some (.cells k z cs),o,vs=>if k=.ro then none else if o+vs.length≤cs.length∧vs.all AV.one then some (.cells k z (splice cs o vs)) else none
 | _,_,_=>none
@[simp] theorem zb6 (k:Kd) (z:Nat) (cs:List AV) (o:Nat):z4M (some (.cells k z cs)) o=cs[o]? := (Eq.refl _).trans (Eq.refl _)
@[simp] theorem kB (k:Kd) (z:Nat) (cs:List AV) (o n:Nat):z0M (some (.cells k z cs)) o n=if o+n≤cs.length then some ((cs.drop o).take n) else none:=(Eq.refl _).trans (Eq.refl _)
@[simp] theorem zb1 (k:Kd) (z:Nat) (cs:List AV) (o:Nat) (vs:List AV):JN (some (.cells k z cs)) o vs=if k=.ro then none else if o+vs.length≤cs.length∧vs.all AV.one then some (.cells k z (splice cs o vs)) else none:=(Eq.refl _).trans (Eq.refl _)
@[simp] theorem zgP (H:z3) (r o:Nat):H.cell r o=z4M (H.get r) o:=by
 unfold z3.cell z4M
 cases H.get r with
 | none=>rfl
 | some x=>cases x<;>rfl
@[simp] theorem qv (H:z3) (r o n:Nat):H.row r o n=z0M (H.get r) o n:=by
 unfold z3.row z0M
 cases H.get r with
 | none=>rfl
 | some x=>cases x<;>rfl
@[simp] theorem zfD (H:z3) (r o:Nat) (vs:List AV):H.write r o vs=(JN (H.get r) o vs).map fun b=>H.put r (some b):=by
 unfold z3.write JN
 cases H.get r with
 | none=>rfl
 | some x =>
  cases x with
  | iter s p=>rfl
  | mapo es=>rfl
  | cells k z cs =>
   simp only []
   split
   ·rfl
   ·split<;>rfl
@[simp] theorem zfE (H:z3) (cs:List AV):JJ H cs=if cs.all AV.one then some (.ptr H.size 0,H.push (some (.cells .exact cs.length cs))) else none:=(Eq.refl _).trans (Eq.refl _)
@[simp] theorem zgQ (H:z3) (n r o:Nat) (v:AV):stA H n (.ptr r o) v=if v.cells.length=n then (H.write r o v.cells).map fun H'=>(z4,H') else none:=(Eq.refl _).trans (Eq.refl _)
@[simp] theorem zgR (H:z3) (esz:Nat) (z:List AV) (n:Nat) (ps:List (Nat × Nat × AV)):zbP H esz z n ps=if esz=0∨z.length≠esz∨16777216 < n * esz then none else
  match qm (yZ n z) ps with
  | some cs=>if cs.all AV.one then some (.sl H.size 0 n (.ex n),H.push (some (.cells .exact esz cs))) else none
  | none=>none:=(Eq.refl _).trans (Eq.refl _)
@[simp] theorem zfF (H:z3) (esz bytes:Nat) (z:List AV) (k k':IntKind) (l c:Int):zbR H esz bytes z (.int k l) (.int k' c)=if 0≤l∧l≤c∧c.toNat * bytes≤zo∧c≤70368744177664∧esz≠0∧z.length=esz∧z.all AV.one then
   some (.sl H.size 0 l.toNat (.ex c.toNat),H.push (some (.cells .exact esz (yZ c.toNat z)))) else none:=(Eq.refl _).trans (Eq.refl _)
@[simp] theorem zee (z:List AV):yZ 0 z=[]:=(Eq.refl _).trans (Eq.refl _)
@[simp] theorem zef (n:Nat) (z:List AV):yZ (n+1) z=z++yZ n z:=(Eq.refl _).trans (Eq.refl _)
@[simp] theorem zgS (H:z3) (r o n:Nat) (c:kK):zdg H (.sl r o n c)=match H.get r with
  | some (.cells k z cs)=>if k=.ro then none else some (.sl r o n c,H.put r (some (.cells .stiff z cs)))
  | _=>none:=(Eq.refl _).trans (Eq.refl _)
@[simp] theorem zfG (n z r o:Nat) (lo hi:Option AV):zdf n z (.ptr r o) lo hi=match yi hi n n with
  | none=>none
  | some h=>match yi lo 0 h with
   | none=>none
   | some l=>some (.sl r (if n=l then o else o+l * z) (h - l) (.ex (n - l))):=(Eq.refl _).trans (Eq.refl _)
@[simp] theorem jE (d t:Nat):yi none d t=some d:=(Eq.refl _).trans (Eq.refl _)
@[simp] theorem XP (d t:Nat) (k:IntKind) (i:Int):yi (some (.int k i)) d t=if 0≤i∧i≤t then some i.toNat else none:=(Eq.refl _).trans (Eq.refl _)
@[simp] theorem zgT (H:z3) (esz bytes:Nat) (z:List AV) (s x:AV):z6h H esz bytes z s x=if z.length=esz then XV H esz bytes s x else none:=(Eq.refl _).trans (Eq.refl _)
@[simp] theorem YW (H:z3) (o:Option zG):(H.push o).get H.size=o:=by rw [z3.get_push,if_pos rfl]
theorem YG {H:z3} {o:Option zG} {m:Nat} (h:m≠H.size):(H.push o).get m=H.get m:=by rw [z3.get_push,if_neg h]
@[simp] theorem wF (H:z3) (r:Nat) (o:Option zG):(H.put r o).get r=o:=by rw [z3.get_put,if_pos rfl]
theorem vE {H:z3} {r:Nat} {o:Option zG} {m:Nat} (h:m≠r):(H.put r o).get m=H.get m:=by rw [z3.get_put,if_neg h]
@[simp] theorem zi5 (n:Nat):(n=n+1+1)↔False:=iff_of_false (Nat.ne_of_lt (by omega)) id
@[simp] theorem zhx (n:Nat):(n+1+1=n)↔False:=iff_of_false (Nat.ne_of_gt (by omega)) id
@[simp] theorem zi6 (n:Nat):(n=n+1+1+1)↔False:=iff_of_false (Nat.ne_of_lt (by omega)) id
@[simp] theorem zhy (n:Nat):(n+1+1+1=n)↔False:=iff_of_false (Nat.ne_of_gt (by omega)) id
@[simp] theorem zi7 (n:Nat):(n=n+1+1+1+1)↔False:=iff_of_false (Nat.ne_of_lt (by omega)) id
@[simp] theorem zhz (n:Nat):(n+1+1+1+1=n)↔False:=iff_of_false (Nat.ne_of_gt (by omega)) id
@[simp] theorem zi8 (n:Nat):(n=n+1+1+1+1+1)↔False:=iff_of_false (Nat.ne_of_lt (by omega)) id
@[simp] theorem zhA (n:Nat):(n+1+1+1+1+1=n)↔False:=iff_of_false (Nat.ne_of_gt (by omega)) id
@[simp] theorem zi9 (n:Nat):(n=n+1+1+1+1+1+1)↔False:=iff_of_false (Nat.ne_of_lt (by omega)) id
@[simp] theorem zhB (n:Nat):(n+1+1+1+1+1+1=n)↔False:=iff_of_false (Nat.ne_of_gt (by omega)) id
@[simp] theorem zia (n:Nat):(n=n+1+1+1+1+1+1+1)↔False:=iff_of_false (Nat.ne_of_lt (by omega)) id
@[simp] theorem zhC (n:Nat):(n+1+1+1+1+1+1+1=n)↔False:=iff_of_false (Nat.ne_of_gt (by omega)) id
@[simp] theorem zib (n:Nat):(n=n+1+1+1+1+1+1+1+1)↔False:=iff_of_false (Nat.ne_of_lt (by omega)) id
@[simp] theorem zhD (n:Nat):(n+1+1+1+1+1+1+1+1=n)↔False:=iff_of_false (Nat.ne_of_gt (by omega)) id
@[simp] theorem zic (n:Nat):(n=n+1+1+1+1+1+1+1+1+1)↔False:=iff_of_false (Nat.ne_of_lt (by omega)) id
@[simp] theorem zhE (n:Nat):(n+1+1+1+1+1+1+1+1+1=n)↔False:=iff_of_false (Nat.ne_of_gt (by omega)) id
attribute [simp] z3.get_push z3.get_put
@[simp] theorem zid (H H':z3) (f:z3→Option AV) (v:AV):ckP H H' (.q f v)=match f H' with
  | some v'=>j3 v v'
  | none=>false:=(Eq.refl _).trans (Eq.refl _)
@[simp] theorem zfH (H H':z3):ckP H H' .none=true:=(Eq.refl _).trans (Eq.refl _)
@[simp] theorem zeg (v:AV):j3 v v=true:=JY v
@[simp] theorem zfI (call:z7) (f:Nat) (fs cs args:List AV) (H:z3):zaS call (.fn f fs cs) args H=call f (fs++args++cs) H:=(Eq.refl _).trans (Eq.refl _)
@[simp] theorem zfJ (call:z7) (tab:List (Nat × Nat)) (t:Nat) (v:AV) (args:List AV) (H:z3):z1t call tab (.ifc t v) args H=match tab.lookup t with
  | some f=>call f (v::args) H
  | none=>none:=(Eq.refl _).trans (Eq.refl _)
@[simp] theorem zfK (t:Nat) (z:AV) (ok:Bool) (t':Nat) (v:AV):z0D t z ok (.ifc t' v)=if t'=t then some (if ok then .tup [v,.bool true] else v) else if ok then some (.tup [z,.bool false]) else none:=(Eq.refl _).trans (Eq.refl _)
@[simp] theorem zfL (t:Nat) (z:AV) (ok:Bool):z0D t z ok .nilifc=if ok then some (.tup [z,.bool false]) else none:=(Eq.refl _).trans (Eq.refl _)
@[simp] theorem zfM (f:Nat→Option Nat) (k:IntKind) (n:Int):kA f (.int k n)=some (.int k n):=by simp only [kA]
@[simp] theorem zeh (f:Nat→Option Nat) (b:Bool):kA f (.bool b)=some (.bool b):=by simp only [kA]
@[simp] theorem zfN (f:Nat→Option Nat) (b:List UInt8):kA f (.str b)=some (.str b):=by simp only [kA]
@[simp] theorem zei (f:Nat→Option Nat):kA f .nils=some .nils:=by simp only [kA]
@[simp] theorem zgU (f:Nat→Option Nat) (r o n:Nat) (c:kK):kA f (.sl r o n c)=(f r).map fun r=>.sl r o n c:=by simp only [kA]
@[simp] theorem zfO (f:Nat→Option Nat) (l:List AV):kA f (.agg l)=(Yi f l).map .agg:=by simp only [kA]
@[simp] theorem zfP (f:Nat→Option Nat) (l:List AV):kA f (.tup l)=(Yi f l).map .tup:=by simp only [kA]
@[simp] theorem zfQ (f:Nat→Option Nat):Yi f []=some []:=by simp only [Yi]
@[simp] theorem zej (f:Nat→Option Nat) (v:AV) (l:List AV):Yi f (v::l)=(kA f v).bind fun v=>(Yi f l).map fun l=>v::l:=by
 simp only [Yi]
 cases kA f v<;>cases Yi f l<;>rfl
theorem XQ {n:Int} (h1:-9223372036854775808≤n) (h2:n≤9223372036854775807):IntKind.i64.wrap n=n:=IntWalk.i64_in n ⟨h1,h2⟩
end Go.Ab
