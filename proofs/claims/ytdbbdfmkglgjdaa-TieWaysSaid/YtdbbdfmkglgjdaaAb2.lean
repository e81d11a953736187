/- What an abstract value stands for, and when a world is told by an abstract heap. -/
import Derived.Test.YtdbbdfmkglgjdaaAb1
import Derived.Below
import Derived.OwnWalk
import Derived.WalkKit
import Derived.Laws.CopyRow
import Derived.Laws.AppendOwn
import Derived.Laws.StructEq
set_option linter.unusedVariables false
set_option linter.unusedSimpArgs false
set_option linter.unusedSectionVars false
namespace Go.Ab
open Go.RowKit
structure Loc where
 blk:Nat
 off:Nat
 cap:Nat
 val:Value:=.tuple #[]
def Loc.at (blk off cap:Nat):Loc:=⟨blk,off,cap,.tuple #[]⟩
@[simp] theorem Loc.at_blk (b o c:Nat):(Loc.at b o c).blk=b:=rfl
@[simp] theorem Loc.at_off (b o c:Nat):(Loc.at b o c).off=o:=rfl
@[simp] theorem Loc.at_cap (b o c:Nat):(Loc.at b o c).cap=c:=rfl
abbrev Rho:=Nat→Option Loc
mutual
def zb (ρ:Rho):AV→Option Value
 | .bool b=>some (.bool b)
 | .int k n=>some (.int k n)
 | .str s=>some (.string ⟨⟨s⟩⟩)
 | .nilp=>some (.pointer none)
 | .ptr r o=>match ρ r with
  | some L=>some (.pointer (some ⟨L.blk,L.off+o,none⟩))
  | none=>none
 | .nils=>some (.slice none 0 0)
 | .sl r o len cap=>match ρ r with
  | some L=>match cap with
   | .ex c=>if len≤c then some (.slice (some ⟨L.blk,L.off+o,none⟩) len c) else none
   | .mi k=>if len+k≤L.cap then some (.slice (some ⟨L.blk,L.off+o,none⟩) len (L.cap - k)) else none
  | none=>none
 | .zs r o k d=>match ρ r with
  | some L=>if k≤L.cap then some (.slice (some ⟨L.blk,if L.cap=k then L.off+o else L.off+o+d,none⟩) 0 (L.cap - k)) else none
  | none=>none
 | .raw r=>match ρ r with
  | some L=>match L.val with
   | .bool _=>none
   | v=>some v
  | none=>none
 | .fn f fs cs=>match zg ρ fs,zg ρ cs with
  | some a,some b=>some (.func (.func f) a.toArray b.toArray)
  | _,_=>none
 | .nilfn=>some .nilFunc
 | .ifc t v=>match zb ρ v with
  | some a=>some (.iface t a)
  | none=>none
 | .nilifc=>some .nilIface
 | .mp r=>match ρ r with
  | some L=>some (.map (some L.blk))
  | none=>none
 | .nilm=>some (.map none)
 | .agg cs=>match zg ρ cs with
  | some a=>some (.agg a.toArray)
  | none=>none
 | .tup vs=>match zg ρ vs with
  | some a=>some (.tuple a.toArray)
  | none=>none
 | .fz _ _=>none
 | .ow _ _=>none
 | .cp _ _=>none
 | .lt _ _=>none
 | .sk=>none
def zg (ρ:Rho):List AV→Option (List Value)
 | []=>some []
 | v::l=>match zb ρ v,zg ρ l with
  | some a,some b=>some (a::b)
  | _,_=>none
end

def Rho.le (ρ ρ':Rho):Prop:=∀ r L,ρ r=some L→ρ' r=some L
theorem Rho.le_refl (ρ:Rho):ρ.le ρ:=fun _ _ h=>h
theorem Rho.le_trans {a b c:Rho} (h:a.le b) (k:b.le c):a.le c:=fun r L e=>k r L (h r L e)
def Rho.ext (n:Nat) (ρ ρ':Rho):Prop:=ρ.le ρ'∧∀ r,r < n→ρ' r=ρ r
theorem Rho.ext_refl (ρ:Rho) (n:Nat):Rho.ext n ρ ρ:=⟨ρ.le_refl,fun _ _=>rfl⟩
theorem Rho.ext_trans {n m:Nat} {a b c:Rho} (h:Rho.ext n a b) (k:Rho.ext m b c) (hm:n≤m):Rho.ext n a c :=
 ⟨Rho.le_trans h.1 k.1,fun r hr=>(k.2 r (Nat.lt_of_lt_of_le hr hm)).trans (h.2 r hr)⟩
mutual
theorem jm {ρ ρ':Rho} (h:ρ.le ρ'):∀ (v:AV) (a:Value),zb ρ v=some a→zb ρ' v=some a
 | .bool _,_,e | .int _ _,_,e | .str _,_,e | .nilp,_,e | .nils,_,e | .nilfn,_,e | .nilifc,_,e | .nilm,_,e=>by simpa [zb] using e
 | .ptr r o,a,e=>by
  simp only [zb] at e ⊢
  cases hr:ρ r with
  | none=>simp [hr] at e
  | some L=>rw [h r L hr];simpa [hr] using e
 | .sl r o len cap,a,e=>by
  simp only [zb] at e ⊢
  cases hr:ρ r with
  | none=>simp [hr] at e
  | some L=>rw [h r L hr];simpa [hr] using e
 | .zs r o k d,a,e=>by
  simp only [zb] at e ⊢
  cases hr:ρ r with
  | none=>simp [hr] at e
  | some L=>rw [h r L hr];simpa [hr] using e
 | .raw r,a,e=>by
  simp only [zb] at e ⊢
  cases hr:ρ r with
  | none=>simp [hr] at e
  | some L=>rw [h r L hr];simpa [hr] using e
 | .mp r,a,e=>by
  simp only [zb] at e ⊢
  cases hr:ρ r with
  | none=>simp [hr] at e
  | some L=>rw [h r L hr];simpa [hr] using e
 | .fn f fs cs,a,e=>by
  simp only [zb] at e ⊢
  cases h1:zg ρ fs with
  | none=>simp [h1] at e
  | some x=>cases h2:zg ρ cs with
   | none=>simp [h1,h2] at e
   | some y=>rw [y6 h fs x h1,y6 h cs y h2];simpa [h1,h2] using e
 | .ifc t v,a,e=>by
  simp only [zb] at e ⊢
  cases h1:zb ρ v with
  | none=>simp [h1] at e
  | some x=>rw [jm h v x h1];simpa [h1] using e
 | .agg cs,a,e=>by
  simp only [zb] at e ⊢
  cases h1:zg ρ cs with
  | none=>simp [h1] at e
  | some x=>rw [y6 h cs x h1];simpa [h1] using e
 | .tup cs,a,e=>by
  simp only [zb] at e ⊢
  cases h1:zg ρ cs with
  | none=>simp [h1] at e
  | some x=>rw [y6 h cs x h1];simpa [h1] using e
 | .fz _ _,a,e=>by simp [zb] at e
 | .ow _ _,a,e=>by simp [zb] at e
 | .cp _ _,a,e=>by simp [zb] at e
 | .lt _ _,a,e=>by simp [zb] at e
 | .sk,a,e=>by simp [zb] at e
theorem y6 {ρ ρ':Rho} (h:ρ.le ρ'):∀ (l:List AV) (a:List Value),zg ρ l=some a→zg ρ' l=some a
 | [],_,e=>by simpa [zg] using e
 | v::l,a,e=>by
  simp only [zg] at e ⊢
  cases h1:zb ρ v with
  | none=>simp [h1] at e
  | some x=>cases h2:zg ρ l with
   | none=>simp [h1,h2] at e
   | some y=>rw [jm h v x h1,y6 h l y h2];simpa [h1,h2] using e
end

theorem zT {ρ:Rho} {v:AV} {l:List AV} {a:List Value} (h:zg ρ (v::l)=some a):∃ x y,zb ρ v=some x∧zg ρ l=some y∧a=x::y:=by
 simp only [zg] at h
 cases h1:zb ρ v with
 | none=>simp [h1] at h
 | some x=>cases h2:zg ρ l with
  | none=>simp [h1,h2] at h
  | some y=>simp [h1,h2] at h;exact⟨x,y,rfl,rfl,h.symm⟩
theorem yW {ρ:Rho} {v:AV} {l:List AV} {x:Value} {y:List Value} (h1:zb ρ v=some x) (h2:zg ρ l=some y):zg ρ (v::l)=some (x::y):=by
 simp [zg,h1,h2]
theorem zB {ρ:Rho}:∀ {l:List AV} {a:List Value},zg ρ l=some a→a.length=l.length
 | [],a,h=>by simp [zg] at h;subst h;rfl
 | v::l,a,h=>by obtain⟨x,y,_,h2,rfl⟩:=zT h;simp [zB h2]
theorem jM {ρ:Rho}:∀ {l:List AV} {a:List Value} {i:Nat} {v:AV},zg ρ l=some a→l[i]? = some v→∃ x,zb ρ v=some x∧a[i]? = some x
 | [],_,_,_,_,hi=>by simp at hi
 | w::l,a,i,v,h,hi=>by
  obtain⟨x,y,h1,h2,rfl⟩:=zT h
  cases i with
  | zero=>simp at hi;subst hi;exact⟨x,h1,rfl⟩
  | succ i=>simp at hi;obtain⟨z,hz,hz2⟩:=jM h2 hi;exact⟨z,hz,by simpa using hz2⟩
theorem yf {ρ:Rho}:∀ {l m:List AV} {a b:List Value},zg ρ l=some a→zg ρ m=some b→zg ρ (l++m)=some (a++b)
 | [],_,a,b,h,hm=>by simp [zg] at h;subst h;simpa using hm
 | v::l,m,a,b,h,hm=>by
  obtain⟨x,y,h1,h2,rfl⟩:=zT h
  simp only [List.cons_append]
  exact yW h1 (yf h2 hm)
theorem jD {ρ:Rho}:∀ (n:Nat) {l:List AV} {a:List Value},zg ρ l=some a→zg ρ (l.take n)=some (a.take n)
 | 0,l,a,_=>by simp [zg]
 | n+1,[],a,h=>by simp [zg] at h;subst h;simp [zg]
 | n+1,v::l,a,h=>by
  obtain⟨x,y,h1,h2,rfl⟩:=zT h
  simp only [List.take_succ_cons]
  exact yW h1 (jD n h2)
theorem Zf {ρ:Rho}:∀ (n:Nat) {l:List AV} {a:List Value},zg ρ l=some a→zg ρ (l.drop n)=some (a.drop n)
 | 0,l,a,h=>by simpa using h
 | n+1,[],a,h=>by simp [zg] at h;subst h;simp [zg]
 | n+1,v::l,a,h=>by
  obtain⟨x,y,h1,h2,rfl⟩:=zT h
  simp only [List.drop_succ_cons]
  exact Zf n h2
theorem z1y {ρ:Rho} {v:AV} {x:Value} (hv:zb ρ v=some x):∀ {l:List AV} {a:List Value} (i:Nat),zg ρ l=some a→zg ρ (l.set i v)=some (a.set i x)
 | [],a,i,h=>by simp [zg] at h;subst h;simp [zg]
 | w::l,a,i,h=>by
  obtain⟨x',y,h1,h2,rfl⟩:=zT h
  cases i with
  | zero=>simpa using yW hv h2
  | succ i=>simpa using yW h1 (z1y hv i h2)
theorem Kb {ρ:Rho} {cs vs:List AV} {a b:List Value} (o:Nat) (h:zg ρ cs=some a) (hv:zg ρ vs=some b) :
  zg ρ (splice cs o vs)=some (splice a o b):=by
 unfold splice
 rw [← zB hv]
 exact yf (yf (jD o h) hv) (Zf _ h)
theorem XE {ρ:Rho} {v:AV} {x:Value} (h:zb ρ v=some x):∀ n,zg ρ (List.replicate n v)=some (List.replicate n x)
 | 0=>rfl
 | n+1=>by simpa [List.replicate_succ] using yW h (XE h n)
theorem Kc {ρ:Rho}:∀ {l:List AV} {a:List Value},l.length=a.length→(∀ (i:Nat) (v:AV),l[i]? = some v→∃ x,zb ρ v=some x∧a[i]? = some x)→zg ρ l=some a
 | [],[],_,_=>rfl
 | [],_::_,h,_=>by simp at h
 | _::_,[],h,_=>by simp at h
 | v::l,x::a,h,hg=>by
  obtain⟨y,hy,hy2⟩:=hg 0 v rfl
  simp at hy2;subst hy2
  exact yW hy (Kc (by simpa using h) fun i w hw=>by simpa using hg (i+1) w (by simpa using hw))
theorem qW (ρ:Rho):zb ρ z4=some undef:=by simp [z4,zb,zg,undef]
theorem z2j {ρ:Rho} {v:AV} {x:Value} (h:zb ρ v=some x) (h1:v.one=true):x.oneCell'=true:=by
 cases v<;>simp only [zb,AV.one] at h h1<;>first | (cases h1;done) | skip
 all_goals (repeat' split at h)<;>first | (cases h;done) | (obtain rfl:=Option.some.inj h;rfl) | (simp at h;try subst h;rfl)
theorem Y0 {ρ:Rho}:∀ {l:List AV} {a:List Value},zg ρ l=some a→l.all AV.one=true→∀ x ∈ a,x.oneCell'=true
 | [],a,h,_=>by simp [zg] at h;subst h;simp
 | v::l,a,h,h1=>by
  obtain⟨x,y,hx,hy,rfl⟩:=zT h
  simp at h1
  intro z hz
  rcases List.mem_cons.1 hz with rfl | hz
  ·exact z2j hx h1.1
  ·exact Y0 hy (by simpa using h1.2) z hz
theorem Xa {ρ:Rho} {v:AV} {x:Value} (hr:v.isRaw=false) (h:zb ρ v=some x):zg ρ v.cells=some x.cells.toList:=by
 cases v with
 | agg cs =>
  simp only [zb] at h
  cases h1:zg ρ cs with
  | none=>simp [h1] at h
  | some a=>simp [h1] at h;subst h;simpa [AV.cells,Value.cells] using h1
 | raw r=>cases hr
 | _ =>
  have hc:x.cells=#[x]:=by
   simp only [zb] at h
   (repeat' split at h)<;>first | (cases h;done) | (obtain rfl:=Option.some.inj h;rfl) | (simp at h;try subst h;rfl)
  rw [hc]
  simpa [AV.cells] using yW h (by rfl)
theorem Ji {v:AV} (h:v.cells.all AV.one=true):v.isRaw=false:=by
 cases v<;>first | rfl | (simp [AV.cells,AV.one] at h)
theorem z7H {n:Nat} {z:Value} {a:AV} (h:Ja n z=some a):a.isRaw=false:=by
 cases n with
 | zero=>simp [Ja] at h
 | succ n =>
  unfold Ja at h
  split at h<;>first | (cases h;done) | (obtain rfl:=Option.some.inj h;rfl) | (obtain⟨_,_,rfl⟩:=Option.map_eq_some_iff.1 h;rfl)
theorem Jy {ρ:Rho} {f:Value→Option AV}:∀ {l:List Value} {m:List AV},(∀ v a,f v=some a→zb ρ a=some v)→zO f l=some m→zg ρ m=some l
 | [],m,_,h=>by simp [zO] at h;subst h;rfl
 | v::l,m,hf,h=>by
  simp only [zO] at h
  cases h1:f v with
  | none=>simp [h1] at h
  | some x=>cases h2:zO f l with
   | none=>simp [h1,h2] at h
   | some y=>simp [h1,h2] at h;subst h;exact yW (hf v x h1) (Jy hf h2)
theorem Yg {ρ:Rho}:∀ (n:Nat) (v:Value) (a:AV),Ja n v=some a→zb ρ a=some v:=by
 intro n
 induction n with
 | zero=>intro v a h;simp [Ja] at h
 | succ n ih =>
  intro v a h
  unfold Ja at h
  split at h
  all_goals first
   | (cases h;done)
   | (obtain rfl:=Option.some.inj h;simp [zb];done)
   | skip
  ·rename_i n' t v he
   obtain rfl:=Nat.succ.inj he
   cases h1:Ja n v with
   | none=>simp [h1] at h
   | some x=>simp [h1] at h;subst h;simp [zb,ih v x h1]
  ·rename_i n' cs he
   obtain rfl:=Nat.succ.inj he
   cases h1:zO (Ja n) cs.toList with
   | none=>simp [h1] at h
   | some x=>simp [h1] at h;subst h;simp [zb,Jy ih h1]
  ·rename_i n' cs he
   obtain rfl:=Nat.succ.inj he
   cases h1:zO (Ja n) cs.toList with
   | none=>simp [h1] at h
   | some x=>simp [h1] at h;subst h;simp [zb,Jy ih h1]
end Go.Ab
