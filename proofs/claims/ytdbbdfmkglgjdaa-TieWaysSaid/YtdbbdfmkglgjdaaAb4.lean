/- Each operation's own run against the evaluator's. -/
import Derived.Test.YtdbbdfmkglgjdaaAb3
import Derived.Lib.Slices
set_option linter.unusedVariables false
set_option linter.unusedSimpArgs false
set_option linter.unusedSectionVars false
namespace Go.Ab
open Go.RowKit
def z55 (P:Program) (B:Nat) (ρ:Rho) (w:World) (H:z3) (s:Sem Next) (v:AV) (H':z3):Prop :=
 ∃ ρ' x w',(s.run P w=.ok (.value x) w'∨(s.run P w=.ok .skip w'∧x=undef))∧zb ρ' v=some x∧Rho.ext H.size ρ ρ'∧Sim B ρ' w' H'∧Below B w w'∧H.size≤H'.size
def zI (P:Program) (B:Nat) (ρ:Rho) (w:World) (H:z3) (s:Sem Value) (v:AV) (H':z3):Prop :=
 ∃ ρ' x w',s.run P w=.ok x w'∧zb ρ' v=some x∧Rho.ext H.size ρ ρ'∧Sim B ρ' w' H'∧Below B w w'∧H.size≤H'.size
section
variable {P:Program} {B:Nat} {ρ:Rho} {w:World} {H H':z3} {v:AV}
theorem zI.good {s:Sem Value} (h:zI P B ρ w H s v H'):z55 P B ρ w H (do pure (.value (← s))) v H':=by
 obtain⟨ρ',x,w',h1,rest⟩:=h
 exact⟨ρ',x,w',.inl (by simp [h1]),rest⟩
theorem zI.same {s:Sem Value} {x:Value} (hs:Sim B ρ w H) (h1:s.run P w=.ok x w) (h2:zb ρ v=some x):zI P B ρ w H s v H :=
 ⟨ρ,x,w,h1,h2,ρ.ext_refl _,hs,Below.refl _ _,Nat.le_refl _⟩
def Pur (P:Program) (ρ:Rho) (s:Sem Value) (v:AV):Prop:=∃ x,(∀ w,s.run P w=.ok x w)∧zb ρ v=some x
theorem Pur.mk' {s:Sem Value} (x:Value) (h1:∀ w,s.run P w=.ok x w) (h2:zb ρ v=some x):Pur P ρ s v:=⟨x,h1,h2⟩
theorem Pur.goodV {s:Sem Value} (h:Pur P ρ s v) (hs:Sim B ρ w H):zI P B ρ w H s v H:=by
 obtain⟨x,h1,h2⟩:=h
 exact zI.same hs (h1 w) h2
theorem Pur.good {s:Sem Value} (h:Pur P ρ s v) (hs:Sim B ρ w H):z55 P B ρ w H (do pure (.value (← s))) v H:=(h.goodV hs).good
theorem zI.congr {s s':Sem Value} (h:s.run P w=s'.run P w) (hg:zI P B ρ w H s' v H'):zI P B ρ w H s v H':=by
 obtain⟨ρ',x,w',h1,rest⟩:=hg
 exact⟨ρ',x,w',h.trans h1,rest⟩
theorem zI.alloc {s:Sem Value} (hs:Sim B ρ w H) (hB:B≤w.heap.size) {k:Kd} {z cap:Nat} {cs:List AV} {cur:Array Value} {e:TypeId} {x:Value}
  (h1:s.run P w=.ok x (w.alloc (.cells cur e))) (hk:k≠.ro) (hc:zg ρ cs=some (cur.toList.take cs.length)) (hle:cs.length≤cur.size)
  (hkd:Y1 k z (Loc.at w.heap.size 0 cap) cur.size (0,0) cs.length)
  (h2:zb (ρ.add H.size (Loc.at w.heap.size 0 cap)) v=some x):zI P B ρ w H s v (H.push (some (.cells k z cs))) :=
 ⟨_,x,_,h1,h2,hs.ext_add _,hs.alloc hB rfl rfl hk hle hc hkd,(Below.refl _ _).alloc hB _,by simp⟩
theorem wq (ρ:Rho) (n:Nat) (L:Loc):ρ.add n L n=some L:=by simp [Rho.add]
theorem z13 {t:TypeId} {i:TypeInfo} (h:P.info? t=some i) (w:World):(typeInfo t).run P w=.ok i w:=by simp [typeInfo,h]
theorem zM {t:TypeId} {n:Nat} (h:jB P t=some n) (w:World):(sizeOf t).run P w=.ok n w:=by
 unfold jB at h
 cases hi:P.info? t with
 | none=>simp [hi] at h
 | some i=>simp [hi] at h;subst h;simp [sizeOf,typeInfo,hi]
theorem qU {t:TypeId} {cs:List AV} (h:jC P t=some cs):∃ i z,P.info? t=some i∧i.zero=some z∧∀ ρ,zg ρ cs=some z.cells.toList:=by
 unfold jC at h
 cases hi:P.info? t with
 | none=>simp [hi] at h
 | some i=>cases hz:i.zero with
  | none=>simp [hi,hz] at h
  | some z=>cases ha:Ja 20 z with
   | none=>simp [hi,hz,ha] at h
   | some a=>simp [hi,hz,ha] at h;subst h;exact⟨i,z,rfl,hz,fun ρ=>Xa (z7H ha) (Yg 20 z a ha)⟩
theorem z2k {t:TypeId} {a:AV} (h:X0 P t=some a):∃ i z,P.info? t=some i∧i.zero=some z∧∀ ρ,zb ρ a=some z:=by
 unfold X0 at h
 cases hi:P.info? t with
 | none=>simp [hi] at h
 | some i=>cases hz:i.zero with
  | none=>simp [hi,hz] at h
  | some z=>simp [hi,hz] at h;exact⟨i,z,rfl,hz,fun ρ=>Yg 20 z a h⟩
theorem qG {t:TypeId} {i:TypeInfo} {z:Value} (h:P.info? t=some i) (hz:i.zero=some z) (w:World):(zeroValue t).run P w=.ok z w:=by
 simp [zeroValue,typeInfo,h,hz]
theorem Z9 {t:TypeId} {m:Option Nat} (h:wm P t=some m) (w:World):(isAgg t).run P w=.ok m.isSome w:=by
 unfold wm at h
 cases hd:P.underlying t with
 | none=>simp [hd] at h
 | some d =>
  cases d<;>simp [hd] at h<;>first
   | (subst h;simp [isAgg,run_underlying hd];done)
   | (obtain⟨a,_,rfl⟩:=h;simp [isAgg,run_underlying hd])
theorem Jz {t:TypeId} {n:Nat} (h:wm P t=some (some n)):jB P t=some n:=by
 unfold wm at h
 cases hd:P.underlying t with
 | none=>simp [hd] at h
 | some d=>cases d<;>simp [hd] at h<;>exact h
theorem vY {b:Bool} {x:Value} (h:zb ρ (.bool b)=some x):x=.bool b:=by simp [zb] at h;exact h.symm
theorem y5 {k:IntKind} {n:Int} {x:Value} (h:zb ρ (.int k n)=some x):x=.int k n:=by simp [zb] at h;exact h.symm
theorem jd {s:List UInt8} {x:Value} (h:zb ρ (.str s)=some x):x=.string ⟨⟨s⟩⟩:=by simp [zb] at h;exact h.symm
theorem vq {r o:Nat} {x:Value} (h:zb ρ (.ptr r o)=some x):∃ L,ρ r=some L∧x=.pointer (some ⟨L.blk,L.off+o,none⟩):=by
 simp only [zb] at h
 cases hr:ρ r with
 | none=>simp [hr] at h
 | some L=>simp [hr] at h;exact⟨L,rfl,h.symm⟩
theorem v3 {x:Value} (h:zb ρ .nils=some x):x=.slice none 0 0:=by simp [zb] at h;exact h.symm
theorem Kf {r o k d:Nat} {x:Value} (h:zb ρ (.zs r o k d)=some x):∃ ad c,x=.slice (some ad) 0 c:=by
 simp only [zb] at h
 split at h
 ·split at h
  ·exact⟨_,_,(Option.some.inj h).symm⟩
  ·cases h
 ·cases h
def xj (L:Loc):kb→Nat
 | .ex c=>c
 | .mi k=>L.cap - k
def yG (L:Loc) (len:Nat):kb→Prop
 | .ex c=>len≤c
 | .mi k=>len+k≤L.cap
theorem xq {r o len:Nat} {cap:kb} {x:Value} (h:zb ρ (.sl r o len cap)=some x) :
  ∃ L,ρ r=some L∧x=.slice (some ⟨L.blk,L.off+o,none⟩) len (xj L cap)∧yG L len cap:=by
 simp only [zb] at h
 cases hr:ρ r with
 | none=>simp [hr] at h
 | some L =>
  cases cap<;>simp [hr] at h<;>exact⟨L,rfl,h.2.symm,h.1⟩
theorem yJ {r o len:Nat} {cap:kb} {L:Loc} (hr:ρ r=some L) (hf:yG L len cap):zb ρ (.sl r o len cap)=some (.slice (some ⟨L.blk,L.off+o,none⟩) len (xj L cap)):=by
 cases cap<;>simp [zb,hr,xj]<;>exact hf
theorem v5 {r o:Nat} {L:Loc} (hr:ρ r=some L):zb ρ (.ptr r o)=some (.pointer (some ⟨L.blk,L.off+o,none⟩)):=by simp [zb,hr]
theorem Yh {cs:List AV} {x:Value} (h:zb ρ (.agg cs)=some x):∃ xs,zg ρ cs=some xs∧x=.agg xs.toArray:=by
 simp only [zb] at h
 cases hc:zg ρ cs with
 | none=>simp [hc] at h
 | some xs=>simp [hc] at h;exact⟨xs,rfl,h.symm⟩
theorem z7J {cs:List AV} {x:Value} (h:zb ρ (.tup cs)=some x):∃ xs,zg ρ cs=some xs∧x=.tuple xs.toArray:=by
 simp only [zb] at h
 cases hc:zg ρ cs with
 | none=>simp [hc] at h
 | some xs=>simp [hc] at h;exact⟨xs,rfl,h.symm⟩
theorem z3j {t:Nat} {a:AV} {x:Value} (h:zb ρ (.ifc t a)=some x):∃ y,zb ρ a=some y∧x=.iface t y:=by
 simp only [zb] at h
 cases hc:zb ρ a with
 | none=>simp [hc] at h
 | some y=>simp [hc] at h;exact⟨y,rfl,h.symm⟩

def Vi (P:Program) (ρ:Rho) (w:World) (s:Sem Value) (f:Nat→AV) (k:Kd) (z:Nat) (cs:List AV):Prop :=
 ∃ (cur:Array Value) (e:TypeId) (cap:Nat) (x:Value),s.run P w=.ok x (w.alloc (.cells cur e))∧k≠.ro∧zg ρ cs=some (cur.toList.take cs.length)∧cs.length≤cur.size ∧
  Y1 k z (Loc.at w.heap.size 0 cap) cur.size (0,0) cs.length∧∀ (ρ':Rho) (r:Nat),ρ' r=some (Loc.at w.heap.size 0 cap)→zb ρ' (f r)=some x
theorem Vi.goodV {s:Sem Value} {f:Nat→AV} {k:Kd} {z:Nat} {cs:List AV} (h:Vi P ρ w s f k z cs) (hs:Sim B ρ w H) (hB:B≤w.heap.size) :
  zI P B ρ w H s (f H.size) (H.push (some (.cells k z cs))):=by
 obtain⟨cur,e,cap,x,h1,h2,h3,h4,h5,h6⟩:=h
 exact zI.alloc (cap:=cap) hs hB h1 h2 h3 h4 h5 (h6 _ _ (wq _ _ _))
theorem z1z {e:TypeId} {cs:List AV} (hz:jC P e=some cs):Vi P ρ w (Instr.alloc e true (.tuple #[])) (fun r=>.ptr r 0) .exact cs.length cs:=by
 obtain⟨i,z,hi,hz,hc⟩:=qU hz
 have hl:=zB (hc ρ)
 refine⟨z.cells,e,1,.pointer (some ⟨w.heap.size,0,none⟩),?_,by simp,?_,?_,?_,fun ρ' r hr=>v5 hr⟩
 ·simp [Instr.alloc,qG hi hz,newVar,newRow]
 ·rw [hc ρ,← hl,List.take_length]
 ·simp at hl;omega
 ·simp at hl;simp [Y1];omega
theorem z3k {e:TypeId} {a:AV} {x:Value} (hone:a.cells.all AV.one=true) (hx:zb ρ a=some x):Vi P ρ w (Instr.box e x) (fun r=>.ptr r 0) .exact a.cells.length a.cells:=by
 have hc:=Xa (Ji hone) hx
 have hl:=zB hc
 refine⟨x.cells,e,1,.pointer (some ⟨w.heap.size,0,none⟩),?_,by simp,?_,?_,?_,fun ρ' r hr=>v5 hr⟩
 ·simp [Instr.box,newVar,newRow]
 ·rw [hc,← hl,List.take_length]
 ·simp at hl;omega
 ·simp at hl;simp [Y1];omega
theorem z9C {t:TypeId} {a:AV} {x:Value} {r o:Nat} (hs:Sim B ρ w H) (ht:wm P t=some none) (hx:zb ρ (.ptr r o)=some x) (hc:H.cell r o=some a) :
  zI P B ρ w H (Instr.loadAt t x) a H:=by
 obtain⟨L,hr,rfl⟩:=vq hx
 obtain⟨y,hy,hcell⟩:=hs.cell hr hc
 exact zI.same hs (by simp [Instr.loadAt,Instr.sureAddr,loadVar,Z9 ht,hcell]) hy
theorem z7K {t:TypeId} {cs:List AV} {x:Value} {r o n:Nat} (hs:Sim B ρ w H) (ht:wm P t=some (some n)) (hx:zb ρ (.ptr r o)=some x) (hc:H.row r o n=some cs) :
  zI P B ρ w H (Instr.loadAt t x) (.agg cs) H:=by
 obtain⟨L,hr,rfl⟩:=vq hx
 obtain⟨xs,hxs,hlen,hcell⟩:=hs.row hr hc
 have hl:=run_loadCells_list (P:=P) w ⟨L.blk,L.off+o,none⟩ xs hcell
 rw [hlen] at hl
 exact zI.same hs (x:=.agg xs.toArray) (by simp [Instr.loadAt,Instr.sureAddr,loadVar,Z9 ht,zM (Jz ht),hl]) (by simp [zb,hxs])
theorem z6A {a:AV} {r o:Nat} (hw:H.write r o a.cells=some H'):a.isRaw=false:=by
 unfold z3.write at hw
 split at hw
 ·split at hw
  ·cases hw
  ·split at hw
   ·rename_i hc;exact Ji hc.2
   ·cases hw
 ·cases hw
theorem z9D {t:TypeId} {a:AV} {x y:Value} {r o n:Nat} (hs:Sim B ρ w H) (ht:jB P t=some n) (hx:zb ρ (.ptr r o)=some x) (hy:zb ρ a=some y)
  (hn:a.cells.length=n) (hw:H.write r o a.cells=some H'):z55 P B ρ w H (do Instr.storeAt t x y;pure .skip) z4 H':=by
 obtain⟨L,hr,rfl⟩:=vq hx
 have hc:=Xa (z6A hw) hy
 have hl:=zB hc
 obtain⟨w',hrun,hs',hb,hsz⟩:=hs.write P hr hw hc
 refine⟨ρ,undef,w',.inr ⟨?_,rfl⟩,qW ρ,ρ.ext_refl _,hs',hb,by omega⟩
 have hsize:y.cells.size=n:=by simpa using hl.trans hn
 simp [Instr.storeAt,Instr.sureAddr,storeVar,zM ht,hsize,hrun]
theorem Yi:∀ (vs:List Value) (k off:Nat) (cs:Array Value),off+k+vs.length≤cs.size →
  ((vs.zipIdx k).foldl (fun(cs:Array Value) (p:Value × Nat)=>cs.setIfInBounds (off+p.2) p.1) cs).toList=splice cs.toList (off+k) vs
 | [],k,off,cs,_=>by simp [splice]
 | v::vs,k,off,cs,h=>by
  simp only [List.zipIdx_cons,List.foldl_cons]
  rw [Yi vs (k+1) off (cs.setIfInBounds (off+k) v) (by simp at h ⊢;omega)]
  have e:=list_seg_step cs.toList (off+k) v vs (by simp at h ⊢;omega)
  simpa [splice,Array.toList_setIfInBounds,Nat.add_assoc] using e
theorem Xb {place:Nat→Option (Nat × Nat)}:∀ {ps:List (Nat × Value)} {qs:List (Nat × Nat × AV)} {cs:List AV} {cur:Array Value} {out:List AV},
  zg ρ cs=some cur.toList →
  (qs.length=ps.length∧∀ (j:Nat) (p:Nat × Value) (q:Nat × Nat × AV),ps[j]? = some p→qs[j]? = some q→place p.1=some (q.1,q.2.1)∧zb ρ q.2.2=some p.2) →
  q7 cs qs=some out→∃ res,Instr.fill place cur ps=some res∧zg ρ out=some res.toList
 | [],[],cs,cur,out,hc,_,h=>by simp [q7] at h;subst h;exact⟨cur,rfl,hc⟩
 | [],_::_,_,_,_,_,h,_=>by simp at h
 | _::_,[],_,_,_,_,h,_=>by simp at h
 | (i,x)::ps,(off,s,a)::qs,cs,cur,out,hc,hp,h=>by
  obtain⟨hpl,hpa⟩:=hp.2 0 (i,x) (off,s,a) rfl rfl
  simp only [q7] at h
  split at h
  ·rename_i hcond
   obtain⟨hs1,hs2,hs3⟩:=hcond
   have hac:=Xa hs3 hpa
   have hal:=zB hac
   have hcl:=zB hc
   have hsz:x.cells.size=s:=by simpa using hal.trans hs1
   have hfold:(x.cells.zipIdx.foldl (fun(cs:Array Value) (p:Value × Nat)=>cs.setIfInBounds (off+p.2) p.1) cur).toList=splice cur.toList off x.cells.toList:=by
    rw [← Array.foldl_toList]
    have:=Yi x.cells.toList 0 off cur (by simp at hcl ⊢;omega)
    simpa using this
   have hsp:=Kb off hc hac
   rw [← hfold] at hsp
   obtain⟨res,hres,hout⟩:=Xb (cs:=splice cs off a.cells) (cur:=x.cells.zipIdx.foldl (fun(cs:Array Value) (p:Value × Nat)=>cs.setIfInBounds (off+p.2) p.1) cur) hsp
    ⟨by simpa using hp.1,fun j p q h1 h2=>hp.2 (j+1) p q (by simpa using h1) (by simpa using h2)⟩ h
   refine⟨res,?_,hout⟩
   simp only [Instr.fill]
   simp only at hpl
   rw [hpl]
   simp only
   rw [if_neg (by simp at hcl;simp [hsz];omega)]
   exact hres
  ·cases h
theorem WT {place:Nat→Option (Nat × Nat)} {τ:Tau} {ev:Operand→Value}:∀ {ps:List (Nat × Operand)} {qs:List (Nat × Nat × AX)},
  zO (fun(p:Nat × Operand)=>match place p.1,dX p.2 with
   | some (o,s),some x=>some (o,s,x)
   | _,_=>none) ps=some qs →
  (∀ p ∈ ps,∀ x',dX p.2=some x'→zb ρ (τ.at x')=some (ev p.2)) →
  (qs.map fun(o,s,x)=>(o,s,τ.at x)).length=(ps.map fun(i,x)=>(i,ev x)).length ∧
  ∀ (j:Nat) (p:Nat × Value) (q:Nat × Nat × AV),(ps.map fun(i,x)=>(i,ev x))[j]? = some p→(qs.map fun(o,s,x)=>(o,s,τ.at x))[j]? = some q→place p.1=some (q.1,q.2.1)∧zb ρ q.2.2=some p.2
 | [],qs,h,_=>by simp [zO] at h;subst h;simp
 | (i,x)::ps,qs,h,hx=>by
  simp only [zO] at h
  cases h1:place i with
  | none=>simp [h1] at h
  | some os =>
   obtain⟨o,s⟩:=os
   cases h2:dX x with
   | none=>simp [h1,h2] at h
   | some x' =>
    simp only [h1,h2] at h
    cases h3:zO (fun(p:Nat × Operand)=>match place p.1,dX p.2 with
     | some (o,s),some x=>some (o,s,x)
     | _,_=>none) ps with
    | none=>simp [h3] at h
    | some qs' =>
     simp [h3] at h
     subst h
     obtain⟨hl,hr⟩:=WT (τ:=τ) (ev:=ev) h3 (fun p hp=>hx p (by simp [hp]))
     refine⟨by simpa using hl,fun j p q hj hq=>?_⟩
     cases j with
     | zero=>simp at hj hq;subst hj;subst hq;exact⟨h1,hx (i,x) (by simp) x' h2⟩
     | succ j=>exact hr j p q (by simpa using hj) (by simpa using hq)
theorem XF:∀ {fs:List Field} {pl:List (Nat × Nat)},zO (fun(f:Field)=>(jB P f.type).map fun s=>(f.offset,s)) fs=some pl→∀ w:World,
  (fs.mapM (fun f=>do pure (f.offset,← sizeOf f.type):Field→Sem (Nat × Nat))).run P w=.ok pl w
 | [],pl,h,w=>by simp [zO] at h;subst h;simp
 | f::fs,pl,h,w=>by
  simp only [zO] at h
  cases h1:jB P f.type with
  | none=>simp [h1] at h
  | some s =>
   simp only [h1,Option.map_some] at h
   cases h2:zO (fun(f:Field)=>(jB P f.type).map fun s=>(f.offset,s)) fs with
   | none=>simp [h2] at h
   | some pl' =>
    simp [h2] at h
    subst h
    have ih:=XF h2 w
    simp only [List.mapM_cons,Sem.run_bind,zM h1,Result.andThen_ok,Sem.run_pure,ih]
theorem z2l {fs:Array Field} {pl:List (Nat × Nat)} (h:zO (fun(f:Field)=>(jB P f.type).map fun s=>(f.offset,s)) fs.toList=some pl) (w:World) :
  (fs.mapM (fun f=>do pure (f.offset,← sizeOf f.type):Field→Sem (Nat × Nat))).run P w=.ok pl.toArray w:=by
 rw [Array.mapM_eq_mapM_toList]
 simp only [Sem.run_map,XF h w,Result.andThen_ok]
theorem Kg {t:TypeId} {z:List AV} {fs:Array Field} {places:List (Nat × Nat)} {ps:Array (Nat × Operand)} {qs:List (Nat × Nat × AX)} {τ:Tau} {ev:Operand→Value} {out:List AV}
  (hz:jC P t=some z) (ht:P.underlying t=some (.struct fs)) (hpl:zO (fun(f:Field)=>(jB P f.type).map fun s=>(f.offset,s)) fs.toList=some places)
  (hq:X1 (fun i=>places[i]?) ps=some qs) (hx:∀ p ∈ ps.toList,∀ x',dX p.2=some x'→zb ρ (τ.at x')=some (ev p.2))
  (hf:q7 z (qs.map fun(o,s,x)=>(o,s,τ.at x))=some out) :
  Pur P ρ (Instr.build t (ps.map fun(i,x)=>(i,ev x))) (.agg out):=by
 obtain⟨i,zv,hi,hzv,hc⟩:=qU hz
 unfold X1 at hq
 have hp:=WT (place:=fun(i:Nat)=>places[i]?) (ρ:=ρ) (τ:=τ) (ev:=ev) hq hx
 obtain⟨res,hres,hout⟩:=Xb (hc ρ) hp hf
 refine Pur.mk' (x:=.agg res) (fun w=>?_) (by simp [zb,hout])
 have hget:(getElem? places:Nat→Option (Nat × Nat))=(getElem? places.toArray:Nat→Option (Nat × Nat)):=by funext i;simp
 rw [hget] at hres
 simp only [Instr.build,Sem.run_bind,qG hi hzv,Result.andThen_ok,run_underlying ht,z2l hpl]
 have:(Array.map (fun x=>match x with | (i,x)=>(i,ev x)) ps).toList=List.map (fun(i,x)=>(i,ev x)) ps.toList:=by simp
 rw [this,hres]
 simp
theorem Vj {t e:TypeId} {n s:Nat} {z:List AV} {ps:Array (Nat × Operand)} {qs:List (Nat × Nat × AX)} {τ:Tau} {ev:Operand→Value} {out:List AV}
  (hz:jC P t=some z) (ht:P.underlying t=some (.array n e)) (he:jB P e=some s)
  (hq:X1 (fun i=>some (i * s,s)) ps=some qs) (hx:∀ p ∈ ps.toList,∀ x',dX p.2=some x'→zb ρ (τ.at x')=some (ev p.2))
  (hf:q7 z (qs.map fun(o,s,x)=>(o,s,τ.at x))=some out) :
  Pur P ρ (Instr.build t (ps.map fun(i,x)=>(i,ev x))) (.agg out):=by
 obtain⟨i,zv,hi,hzv,hc⟩:=qU hz
 unfold X1 at hq
 have hp:=WT (place:=fun i=>some (i * s,s)) (ρ:=ρ) (τ:=τ) (ev:=ev) hq hx
 obtain⟨res,hres,hout⟩:=Xb (place:=fun i=>some (i * s,s)) (ps:=ps.toList.map fun(i,x)=>(i,ev x)) (hc ρ) hp hf
 refine Pur.mk' (x:=.agg res) (fun w=>?_) (by simp [zb,hout])
 simp only [Instr.build,Sem.run_bind,qG hi hzv,Result.andThen_ok,run_underlying ht,zM he]
 have:(Array.map (fun x=>match x with | (i,x)=>(i,ev x)) ps).toList=List.map (fun(i,x)=>(i,ev x)) ps.toList:=by simp
 rw [this,hres]
 simp
theorem wr (n:Nat) (z:List AV):(yU n z).length=n * z.length:=by
 induction n with
 | zero=>simp [yU]
 | succ n ih=>simp [yU,ih,Nat.succ_mul];omega
theorem z3l (z:List AV) (hz:z≠[]):∀ (n i:Nat),i < n * z.length→(yU n z)[i]? = z[i % z.length]?
 | 0,i,h=>by simp at h
 | n+1,i,h=>by
  have hpos:0 < z.length:=List.length_pos_iff.2 hz
  simp only [yU]
  by_cases hi:i < z.length
  ·rw [List.getElem?_append_left hi,Nat.mod_eq_of_lt hi]
  ·have h':i < n * z.length+z.length:=by rw [← Nat.succ_mul];exact h
   rw [List.getElem?_append_right (by omega),z3l z hz n (i - z.length) (by omega),← Nat.mod_eq_sub_mod (by omega)]
theorem Qn {z:List AV} {zs:Array Value} (hz:zg ρ z=some zs.toList) (n:Nat) (hne:z≠[]∨n=0) :
  zg ρ (yU n z)=some ((Array.range (n * zs.size)).map (zs[· % zs.size]!)).toList:=by
 have hl:z.length=zs.size:=by simpa using (zB hz).symm
 rcases hne with hne | rfl
 ·refine Kc (by simp [wr,hl]) fun i v hv=>?_
  have hi:i < n * z.length:=by rw [← wr];exact(List.getElem?_eq_some_iff.1 hv).1
  rw [z3l z hne n i hi] at hv
  obtain⟨x,hx,hx2⟩:=jM hz hv
  refine⟨x,hx,?_⟩
  rw [hl] at hi hx2
  have:i % zs.size < zs.size:=Nat.mod_lt _ (by rw [← hl];exact List.length_pos_iff.2 hne)
  simp [hi]
  rw [getElem!_pos zs (i % zs.size) this]
  simp [this] at hx2
  exact hx2
 ·simp [yU,zg]
theorem z3m {t e:TypeId} {n s:Nat} {z:List AV} {ps:Array (Nat × Operand)} {qs:List (Nat × Nat × AX)} {τ:Tau} {ev:Operand→Value} {out:List AV}
  (ht:P.underlying t=some (.slice e)) (he:jB P e=some s) (hz:jC P e=some z)
  (hq:X1 (fun i=>some (i * s,s)) ps=some qs) (hx:∀ p ∈ ps.toList,∀ x',dX p.2=some x'→zb ρ (τ.at x')=some (ev p.2))
  (hs0:s≠0) (hzl:z.length=s) (hn:n * s≤16777216) (hf:q7 (yU n z) (qs.map fun(o,s,x)=>(o,s,τ.at x))=some out) :
  Vi P ρ w (Instr.buildSlice t n (ps.map fun(i,x)=>(i,ev x))) (fun r=>.sl r 0 n (.ex n)) .exact s out:=by
 obtain⟨i,zv,hi,hzv,hc⟩:=qU hz
 unfold X1 at hq
 have hp:=WT (place:=fun i=>some (i * s,s)) (ρ:=ρ) (τ:=τ) (ev:=ev) hq hx
 have hzs:zv.cells.size=s:=by have:=zB (hc ρ);simp at this;omega
 have hzn:z≠[]:=by intro e;rw [e] at hzl;simp at hzl;omega
 have hzero:=Qn (hc ρ) n (.inl hzn)
 rw [hzs] at hzero
 obtain⟨res,hres,hout⟩:=Xb (place:=fun i=>some (i * s,s)) (ps:=ps.toList.map fun(i,x)=>(i,ev x)) (cur:=(Array.range (n * s)).map (zv.cells[· % s]!)) hzero hp hf
 have hlen:out.length=n * s:=by
  have:∀ (qs:List (Nat × Nat × AV)) (cs out:List AV),q7 cs qs=some out→out.length=cs.length:=by
   intro qs
   induction qs with
   | nil=>intro cs out h;simp [q7] at h;rw [h]
   | cons q qs ih =>
    obtain⟨a,b,c⟩:=q
    intro cs out h
    simp only [q7] at h
    split at h
    ·rename_i hc
     rw [ih _ _ h,Jj _ _ _ (by omega)]
    ·cases h
  rw [this _ _ _ hf,wr,hzl]
 have hol:=zB hout
 refine⟨res,e,n,.slice (some ⟨w.heap.size,0,none⟩) n n,?_,by simp,?_,?_,?_,?_⟩
 ·have hmap:(Array.map (fun x=>match x with | (i,x)=>(i,ev x)) ps).toList=List.map (fun(i,x)=>(i,ev x)) ps.toList:=by simp
  unfold Instr.buildSlice
  by_cases hn0:n * s=0
  ·have hr0:(Array.range (n * s)).map ((#[]:Array Value)[· % (#[]:Array Value).size]!)=(Array.range (n * s)).map (zv.cells[· % s]!):=by rw [hn0];simp
   rw [← hr0,← hmap] at hres
   simp only [Sem.run_bind,run_underlying ht,Result.andThen_ok,zM he,if_neg (show ¬ n * s > 2 ^ 24 by omega),if_pos hn0,Sem.run_pure,hres]
   simp [newRow]
  ·rw [← hmap,← hzs] at hres
   rw [hzs] at hres
   simp only [Sem.run_bind,run_underlying ht,Result.andThen_ok,zM he,if_neg (show ¬ n * s > 2 ^ 24 by omega),if_neg hn0,qG hi hzv,Sem.run_pure,hzs,hres]
   simp [newRow]
 ·rw [hout,← hol,List.take_length]
 ·simp at hol;omega
 ·simp at hol;simp only [Y1];exact⟨trivial,by omega,by simp only [Loc.at_cap];omega⟩
 ·exact fun ρ' r hr=>yJ (cap:=.ex n) hr (Nat.le_refl n)
end
end Go.Ab
