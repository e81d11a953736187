/- Each operation's own run against the evaluator's: the other operations that leave memory alone. -/
import Derived.Test.YtdbbdfmkglgjdaaAb6
set_option linter.unusedVariables false
set_option linter.unusedSimpArgs false
set_option linter.unusedSectionVars false
namespace Go.Ab
open Go.RowKit
section
variable {P:Program} {B:Nat} {ρ:Rho} {w:World} {H H':z3} {v:AV}
theorem Ki {t:TypeId} {q:EqT} {a b:AV} {xv yv:Value} {r:Bool} {x y:Operand} (hx:zb ρ a=some xv) (hy:zb ρ b=some yv) (hr:eqA q a b=some r)
  (hq:Jt P 20 t=some q) (hcl:(q=.b∧P.underlying t=some .bool)∨(∃ fs,q=.st fs)∧P.eqGuardType P.depth t=false) (op:BinOp) (neg:Bool) (hop:(op=.eql∧neg=false)∨(op=.neq∧neg=true)) :
  Pur P ρ (do eqGuard op t x y xv yv;binOp op t xv yv) (.bool (r != neg)):=by
 refine Pur.mk' (x:=.bool (r != neg)) (fun w=>?_) rfl
 have hE:∀ w:World,(Op.equal t xv yv).run P w=.ok r w:=fun w=>z7L 20 t q hq a b r xv yv hr hx hy 9980 w
 rcases hcl with ⟨rfl,_⟩ | ⟨⟨fs,rfl⟩,hg⟩
 ·unfold eqA at hr
  split at hr<;>first | (cases hr;done) | contradiction | skip
  all_goals first | contradiction | skip
  obtain rfl:=vY hx
  obtain rfl:=vY hy
  rcases hop with ⟨rfl,rfl⟩ | ⟨rfl,rfl⟩<;>simp [Vl,binOp,hE]
 ·unfold eqA at hr
  split at hr<;>first | (cases hr;done) | contradiction | skip
  all_goals first | contradiction | skip
  obtain⟨xs,hxs,rfl⟩:=Yh hx
  obtain⟨ys,hys,rfl⟩:=Yh hy
  rcases hop with ⟨rfl,rfl⟩ | ⟨rfl,rfl⟩<;>simp [eqGuard,binOp,hE,hg]
theorem z9E {op:UnOp} {a:AV} {xv:Value} (hx:zb ρ a=some xv) (h:unA op a=some v):Pur P ρ (Op.unary op xv) v:=by
 unfold unA at h
 split at h
 ·obtain rfl:=y5 hx
  obtain rfl:=Option.some.inj h
  exact Pur.mk' _ (fun w=>by simp [Op.unary,Op.intArith];rfl) (by simp [zb])
 ·obtain rfl:=y5 hx
  unfold Yd at h
  simp only at h
  obtain rfl:=Option.some.inj h
  exact Pur.mk' _ (fun w=>by simp [Op.unary,Op.intBits];rfl) (by simp [zb])
 ·obtain rfl:=vY hx
  obtain rfl:=Option.some.inj h
  exact Pur.mk' _ (fun w=>by simp [Op.unary];rfl) (by simp [zb])
 ·cases h
theorem z7M {s d:TypeId} {k k0 k':IntKind} {n:Int} {xv:Value} (h1:P.underlying s=some (.int k0)) (h2:P.underlying d=some (.int k)) (hx:zb ρ (.int k' n)=some xv) :
  Pur P ρ (convert s d xv) (.int k (k.wrap n)):=by
 obtain rfl:=y5 hx
 exact Pur.mk' _ (fun w=>by simp [convert,run_underlying h1,run_underlying h2,Conv.intToInt];rfl) (by simp [zb])
theorem z7N {s d:TypeId} {b:List UInt8} {xv:Value} (h1:P.underlying s=some .string) (h2:P.underlying d=some .string) (hx:zb ρ (.str b)=some xv) :
  Pur P ρ (convert s d xv) (.str b):=by
 obtain rfl:=jd hx
 exact Pur.mk' _ (fun w=>by simp [convert,run_underlying h1,run_underlying h2];rfl) (by simp [zb])
theorem z7O {t:TypeId} {d:TypeDesc} {a:AV} {xv:Value} (ht:P.underlying t=some d) (hd:∀ ms,d≠.interface ms) (hx:zb ρ a=some xv) :
  Pur P ρ (Instr.makeInterface t xv) (.ifc t a):=by
 refine Pur.mk' (x:=.iface t xv) (fun w=>?_) (by simp [zb,hx])
 cases d<;>first | exact absurd rfl (hd _) | simp [Instr.makeInterface,run_underlying ht]
theorem Yj {τ:Tau} {ev:Operand→Value}:∀ {xs:List Operand} {as:List AX},zO dX xs=some as→(∀ x ∈ xs,∀ x',dX x=some x'→zb ρ (τ.at x')=some (ev x)) →
  zg ρ (as.map τ.at)=some (xs.map ev)
 | [],as,h,_=>by simp [zO] at h;subst h;rfl
 | x::xs,as,h,hx=>by
  obtain⟨y,ys,h1,h2,rfl⟩:=jo h
  exact yW (hx x (by simp) y h1) (Yj h2 fun z hz=>hx z (by simp [hz]))
theorem z7P {f:Nat} {fs cs:List AV} {xs ys:List Value} (hx:zg ρ fs=some xs) (hy:zg ρ cs=some ys) :
  Pur P ρ (Instr.makeFunc (.func f) xs.toArray ys.toArray) (.fn f fs cs) :=
 Pur.mk' _ (fun w=>by simp [Instr.makeFunc];rfl) (by simp [zb,hx,hy])
theorem z7Q {s:TypeId} {fs:Array Field} {f n:Nat} {fl:Field} {r o:Nat} {xv:Value} (ht:P.underlying s=some (.struct fs)) (hf:fs[f]? = some fl)
  (hn:jB P fl.type=some (n+1)) (hx:zb ρ (.ptr r o)=some xv):Pur P ρ (Instr.fieldAt s xv f) (.ptr r (o+fl.offset)):=by
 obtain⟨L,hr,rfl⟩:=vq hx
 refine Pur.mk' _ (fun w=>?_) (v5 hr)
 simp [Instr.fieldAt,run_underlying ht,hf,Instr.sureAddr,fieldPlace,zM hn,jE,Nat.add_assoc]
theorem z7R {t:TypeId} {fs:Array Field} {f:Nat} {fl:Field} {m:Option Nat} {cs:List AV} {xv:Value} (ht:P.underlying t=some (.struct fs)) (hf:fs[f]? = some fl)
  (hm:wm P fl.type=some m) (hx:zb ρ (.agg cs)=some xv) (hp:jS cs fl.offset m=some v):Pur P ρ (Instr.field t xv f) v:=by
 obtain⟨xs,hxs,rfl⟩:=Yh hx
 obtain⟨y,hy,hc⟩:=Kh (P:=P) hm hxs hp
 exact Pur.mk' _ (fun w=>by simp [Instr.field,run_underlying ht,hf,asAgg,hy]) hc
theorem z7S {t e:TypeId} {z r o len:Nat} {cap:kb} {k:IntKind} {i:Int} {xv iv:Value} (ht:P.underlying t=some (.slice e)) (he:jB P e=some z)
  (hx:zb ρ (.sl r o len cap)=some xv) (hi:zb ρ (.int k i)=some iv) (h:0≤i∧i < len):Pur P ρ (Instr.indexAt t xv iv) (.ptr r (o+i.toNat * z)):=by
 obtain⟨L,hr,rfl,_⟩:=xq hx
 obtain rfl:=y5 hi
 refine Pur.mk' _ (fun w=>?_) (v5 hr)
 simp [Instr.indexAt,asIntOf,run_underlying ht,h,zM he,jE,Nat.add_assoc]
theorem z7T {t e:TypeId} {n z r o:Nat} {k:IntKind} {i:Int} {xv iv:Value} (ht:P.underlying t=some (.array n e)) (he:jB P e=some z)
  (hx:zb ρ (.ptr r o)=some xv) (hi:zb ρ (.int k i)=some iv) (h:0≤i∧i < n):Pur P ρ (Instr.indexAt t xv iv) (.ptr r (o+i.toNat * z)):=by
 obtain⟨L,hr,rfl⟩:=vq hx
 obtain rfl:=y5 hi
 refine Pur.mk' _ (fun w=>?_) (v5 hr)
 simp [Instr.indexAt,asIntOf,run_underlying ht,Instr.sureAddr,h,zM he,jE,Nat.add_assoc]
theorem z7U {t:TypeId} {s:List UInt8} {b:UInt8} {k:IntKind} {i:Int} {xv iv:Value} (ht:P.underlying t=some .string)
  (hx:zb ρ (.str s)=some xv) (hi:zb ρ (.int k i)=some iv) (h0:0≤i) (hb:s[i.toNat]? = some b):Pur P ρ (Instr.index t xv iv) (.int .u8 b.toNat):=by
 obtain rfl:=jd hx
 obtain rfl:=y5 hi
 refine Pur.mk' (x:=.int .u8 b.toNat) (fun w=>?_) rfl
 have hlt:i.toNat < s.length:=(List.getElem?_eq_some_iff.1 hb).1
 have hg:(⟨⟨s⟩⟩:ByteArray)[i.toNat]? = some b:=by
  rw [getElem?_pos (h:=by simpa [ByteArray.size] using hlt)]
  have:=(List.getElem?_eq_some_iff.1 hb).2
  exact congrArg some this
 simp [Instr.index,asIntOf,run_underlying ht,h0,hg]
theorem z7V {t e:TypeId} {n z:Nat} {m:Option Nat} {cs:List AV} {k:IntKind} {i:Int} {xv iv:Value} (ht:P.underlying t=some (.array n e)) (he:jB P e=some z)
  (hm:wm P e=some m) (hx:zb ρ (.agg cs)=some xv) (hi:zb ρ (.int k i)=some iv) (h:0≤i∧i < n) (hp:jS cs (i.toNat * z) m=some v):Pur P ρ (Instr.index t xv iv) v:=by
 obtain⟨xs,hxs,rfl⟩:=Yh hx
 obtain rfl:=y5 hi
 obtain⟨y,hy,hc⟩:=Kh (P:=P) hm hxs hp
 exact Pur.mk' _ (fun w=>by simp [Instr.index,asIntOf,run_underlying ht,h,zM he,hy]) hc
theorem z7W {t s:TypeId} {d:TypeDesc} {z a:AV} {ok:Bool} {xv:Value} (hs:Sim B ρ w H) (ht:P.underlying t=some d) (hd:∀ ms,d≠.interface ms) (hz:X0 P t=some z)
  (hx:zb ρ a=some xv)
  (h:z6t t z ok a H=some (v,H')):zI P B ρ w H (Instr.typeAssert xv s t ok) v H':=by
 obtain⟨i,zv,hi,hzv,hzc⟩:=z2k hz
 have hzr:=qG hi hzv
 unfold z6t at h
 cases a<;>simp only at h<;>first | (cases h;done) | skip
 ·rename_i t' b
  obtain⟨y,hy,rfl⟩:=z3j hx
  split at h
  ·rename_i e
   subst e
   cases ok
   ·simp at h
    obtain⟨rfl,rfl⟩:=h
    refine zI.same hs (x:=y) ?_ hy
    cases d<;>first | exact absurd rfl (hd _) | simp [Instr.typeAssert,run_underlying ht]
   ·simp at h
    obtain⟨rfl,rfl⟩:=h
    refine zI.same hs (x:=.tuple #[y,.bool true]) ?_ (by simp [zb,zg,hy])
    cases d<;>first | exact absurd rfl (hd _) | simp [Instr.typeAssert,run_underlying ht]
  ·rename_i e
   split at h
   ·rename_i hok
    subst hok
    simp at h
    obtain⟨rfl,rfl⟩:=h
    refine zI.same hs (x:=.tuple #[zv,.bool false]) ?_ (by simp [zb,zg,hzc])
    cases d<;>first | exact absurd rfl (hd _) | simp [Instr.typeAssert,run_underlying ht,e,hzr]
   ·cases h
 ·have:xv=.nilIface:=by simp [zb] at hx;exact hx.symm
  subst this
  split at h
  ·rename_i hok
   subst hok
   simp at h
   obtain⟨rfl,rfl⟩:=h
   refine zI.same hs (x:=.tuple #[zv,.bool false]) ?_ (by simp [zb,zg,hzc])
   cases d<;>first | exact absurd rfl (hd _) | simp [Instr.typeAssert,run_underlying ht,hzr]
  ·cases h
theorem z7X {i:Nat} {vs:List AV} {xv:Value} (hx:zb ρ (.tup vs)=some xv) (h:vs[i]? = some v):Pur P ρ (Instr.extract xv i) v:=by
 obtain⟨xs,hxs,rfl⟩:=z7J hx
 obtain⟨y,hy,hy2⟩:=jM hxs h
 exact Pur.mk' _ (fun w=>by simp [Instr.extract,hy2]) hy

theorem z2m {t ty:TypeId} {s:List UInt8} {xv:Value} (ht:P.underlying t=some .string) (hx:zb ρ (.str s)=some xv) :
  Pur P ρ (Builtin.len_ #[t] ty #[xv]) (.int .i64 s.length):=by
 obtain rfl:=jd hx
 exact Pur.mk' (x:=.int .i64 s.length) (fun w=>by simp [Builtin.len_,run_underlying ht,goInt,Xc]) rfl
theorem z2n {t e ty:TypeId} {xv:Value} (ht:P.underlying t=some (.slice e)) (hx:zb ρ .nils=some xv) :
  Pur P ρ (Builtin.len_ #[t] ty #[xv]) (.int .i64 0):=by
 obtain rfl:=v3 hx
 exact Pur.mk' (x:=.int .i64 0) (fun w=>by simp [Builtin.len_,run_underlying ht,goInt]) rfl
theorem z3p {t e ty:TypeId} {r o k d:Nat} {xv:Value} (ht:P.underlying t=some (.slice e)) (hx:zb ρ (.zs r o k d)=some xv) :
  Pur P ρ (Builtin.len_ #[t] ty #[xv]) (.int .i64 0):=by
 obtain⟨ad,c,rfl⟩:=Kf hx
 exact Pur.mk' (x:=.int .i64 0) (fun w=>by simp [Builtin.len_,run_underlying ht,goInt]) rfl
theorem z3q {t e ty:TypeId} {r o n:Nat} {cap:kb} {xv:Value} (ht:P.underlying t=some (.slice e)) (hx:zb ρ (.sl r o n cap)=some xv) :
  Pur P ρ (Builtin.len_ #[t] ty #[xv]) (.int .i64 n):=by
 obtain⟨L,_,rfl,_⟩:=xq hx
 exact Pur.mk' (x:=.int .i64 n) (fun w=>by simp [Builtin.len_,run_underlying ht,goInt]) rfl
theorem z6B {t e ty:TypeId} {n:Nat} {xv:Value} (ht:P.underlying t=some (.array n e)) :
  Pur P ρ (Builtin.len_ #[t] ty #[xv]) (.int .i64 n) :=
 Pur.mk' (x:=.int .i64 n) (fun w=>by simp [Builtin.len_,run_underlying ht,goInt]) rfl
theorem z2o {t e ty:TypeId} {xv:Value} (ht:P.underlying t=some (.slice e)) (hx:zb ρ .nils=some xv) :
  Pur P ρ (Builtin.cap_ #[t] ty #[xv]) (.int .i64 0):=by
 obtain rfl:=v3 hx
 exact Pur.mk' (x:=.int .i64 0) (fun w=>by simp [Builtin.cap_,run_underlying ht,goInt]) rfl
theorem z3r {t e ty:TypeId} {r o n c:Nat} {xv:Value} (ht:P.underlying t=some (.slice e)) (hx:zb ρ (.sl r o n (.ex c))=some xv) :
  Pur P ρ (Builtin.cap_ #[t] ty #[xv]) (.int .i64 c):=by
 obtain⟨L,_,rfl,_⟩:=xq hx
 exact Pur.mk' (x:=.int .i64 c) (fun w=>by simp [Builtin.cap_,run_underlying ht,goInt,xj]) rfl
theorem Kj:∀ l:List AV,l.foldl kG none=none
 | []=>rfl
 | _::l=>by simp only [List.foldl_cons];exact Kj l
theorem Kk:∀ l:List AV,l.foldl kH none=none
 | []=>rfl
 | _::l=>by simp only [List.foldl_cons];exact Kk l
theorem z5N:∀ {l:List AV} {xs:List Value} {a:AV} {x:Value},zg ρ l=some xs→zb ρ a=some x→l.foldl kG (some a)=some v →
  ∃ y,(∀ w:World,(xs.foldlM Builtin.max2 x).run P w=.ok y w)∧zb ρ v=some y
 | [],xs,a,x,h,ha,hv=>by
  simp [zg] at h;subst h
  simp at hv;subst hv
  exact⟨x,fun w=>by simp,ha⟩
 | b::l,xs,a,x,h,ha,hv=>by
  obtain⟨y,ys,hy,hys,rfl⟩:=zT h
  simp only [List.foldl_cons] at hv
  unfold kG at hv
  split at hv
  ·rename_i k n k' m heq
   obtain rfl:=Option.some.inj heq
   obtain rfl:=y5 ha
   obtain rfl:=y5 hy
   obtain⟨z,hz,hz2⟩:=z5N (x:=.int k (if m > n then m else n)) hys (by simp [zb]) hv
   exact⟨z,fun w=>by simp only [List.foldlM_cons,Builtin.max2,Sem.run_bind,Sem.run_pure,Result.andThen_ok];exact hz w,hz2⟩
  ·have:=Kj l
   unfold kG at this
   rw [this] at hv;cases hv
theorem z5O:∀ {l:List AV} {xs:List Value} {a:AV} {x:Value},zg ρ l=some xs→zb ρ a=some x→l.foldl kH (some a)=some v →
  ∃ y,(∀ w:World,(xs.foldlM Builtin.min2 x).run P w=.ok y w)∧zb ρ v=some y
 | [],xs,a,x,h,ha,hv=>by
  simp [zg] at h;subst h
  simp at hv;subst hv
  exact⟨x,fun w=>by simp,ha⟩
 | b::l,xs,a,x,h,ha,hv=>by
  obtain⟨y,ys,hy,hys,rfl⟩:=zT h
  simp only [List.foldl_cons] at hv
  unfold kH at hv
  split at hv
  ·rename_i k n k' m heq
   obtain rfl:=Option.some.inj heq
   obtain rfl:=y5 ha
   obtain rfl:=y5 hy
   obtain⟨z,hz,hz2⟩:=z5O (x:=.int k (if m < n then m else n)) hys (by simp [zb]) hv
   exact⟨z,fun w=>by simp only [List.foldlM_cons,Builtin.min2,Sem.run_bind,Sem.run_pure,Result.andThen_ok];exact hz w,hz2⟩
  ·have:=Kk l
   unfold kH at this
   rw [this] at hv;cases hv
theorem z7Y {ts:Array TypeId} {ty:TypeId} {a:AV} {l:List AV} {xs:List Value} (hx:zg ρ (a::l)=some xs) (h:l.foldl kG (some a)=some v) :
  Pur P ρ (Builtin.max_ ts ty xs.toArray) v:=by
 obtain⟨x,ys,hx1,hys,rfl⟩:=zT hx
 obtain⟨y,hy,hc⟩:=z5N (P:=P) hys hx1 h
 exact Pur.mk' _ (fun w=>by simp only [Builtin.max_];exact hy w) hc
theorem z7Z {ts:Array TypeId} {ty:TypeId} {a:AV} {l:List AV} {xs:List Value} (hx:zg ρ (a::l)=some xs) (h:l.foldl kH (some a)=some v) :
  Pur P ρ (Builtin.min_ ts ty xs.toArray) v:=by
 obtain⟨x,ys,hx1,hys,rfl⟩:=zT hx
 obtain⟨y,hy,hc⟩:=z5O (P:=P) hys hx1 h
 exact Pur.mk' _ (fun w=>by simp only [Builtin.min_];exact hy w) hc
end
end Go.Ab
