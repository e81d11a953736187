/- What an abstract value stands for, and when a world is told by an abstract heap. -/
import Derived.Test.YtdbbdfmkglgjdaaAb1
import Derived.Below
import Derived.OwnWalk
import Derived.WalkKit
import Derived.Laws.CopyRow
import Derived.Laws.AppendOwn
import Derived.Laws.StructEq
set_option linter.unusedVariables false
set_option linter.unusedSimpArgs false
set_option linter.unusedSectionVars false
namespace Go.Ab
open Go.RowKit
structure Loc where
 blk:Nat
 off:Nat
 cap:Nat
 val:Value:=.tuple #[]
def Loc.at (blk off cap:Nat):Loc:=⟨blk,off,cap,.tuple #[]⟩
@[simp] theorem Loc.at_blk (b o c:Nat):(Loc.at b o c).blk=b:=rfl
@[simp] theorem Loc.at_off (b o c:Nat):(Loc.at b o c).off=o:=rfl
@[simp] theorem Loc.at_cap (b o c:Nat):(Loc.at b o c).cap=c:=rfl
abbrev Rho:=Nat→Option Loc
mutual
def za (ρ:Rho):AV→Option Value
 | .bool b=>some (.bool b)
 | .int k n=>some (.int k n)
 | .str s=>some (.string ⟨⟨s⟩⟩)
 | .nilp=>some (.pointer none)
 | .ptr r o=>match ρ r with
  | some L=>some (.pointer (some ⟨L.blk,L.off+o,none⟩))
  | none=>none
 | .nils=>some (.slice none 0 0)
 | .sl r o len cap=>match ρ r with
  | some L=>match cap with
   | .ex c=>if len≤c then some (.slice (some ⟨L.blk,L.off+o,none⟩) len c) else none
   | .mi k=>if len+k≤L.cap then some (.slice (some ⟨L.blk,L.off+o,none⟩) len (L.cap - k)) else none
  | none=>none
 | .zs r o k d=>match ρ r with
  | some L=>if k≤L.cap then some (.slice (some ⟨L.blk,if L.cap=k then L.off+o else L.off+o+d,none⟩) 0 (L.cap - k)) else none
  | none=>none
 | .raw r=>match ρ r with
  | some L=>match L.val with
   | .bool _=>none
   | v=>some v
  | none=>none
 | .fn f fs cs=>match zh ρ fs,zh ρ cs with
  | some a,some b=>some (.func (.func f) a.toArray b.toArray)
  | _,_=>none
 | .nilfn=>some .nilFunc
 | .ifc t v=>match za ρ v with
  | some a=>some (.iface t a)
  | none=>none
 | .nilifc=>some .nilIface
 | .mp r=>match ρ r with
  | some L=>some (.map (some L.blk))
  | none=>none
 | .nilm=>some (.map none)
 | .agg cs=>match zh ρ cs with
  | some a=>some (.agg a.toArray)
  | none=>none
 | .tup vs=>match zh ρ vs with
  | some a=>some (.tuple a.toArray)
  | none=>none
 | .fz _ _=>none
 | .ow _ _=>none
 | .cp _ _=>none
 | .lt _ _=>none
 | .sk=>none
def zh (ρ:Rho):List AV→Option (List Value)
 | []=>some []
 | v::l=>match za ρ v,zh ρ l with
  | some a,some b=>some (a::b)
  | _,_=>none
end

def Rho.le (ρ ρ':Rho):Prop:=∀ r L,ρ r=some L→ρ' r=some L
theorem Rho.le_refl (ρ:Rho):ρ.le ρ:=fun _ _ h=>h
theorem Rho.le_trans {a b c:Rho} (h:a.le b) (k:b.le c):a.le c:=fun r L e=>k r L (h r L e)
def Rho.ext (n:Nat) (ρ ρ':Rho):Prop:=ρ.le ρ'∧∀ r,r < n→ρ' r=ρ r
theorem Rho.ext_refl (ρ:Rho) (n:Nat):Rho.ext n ρ ρ:=⟨ρ.le_refl,fun _ _=>rfl⟩
theorem Rho.ext_trans {n m:Nat} {a b c:Rho} (h:Rho.ext n a b) (k:Rho.ext m b c) (hm:n≤m):Rho.ext n a c :=
 ⟨Rho.le_trans h.1 k.1,fun r hr=>(k.2 r (Nat.lt_of_lt_of_le hr hm)).trans (h.2 r hr)⟩
mutual
theorem jB {ρ ρ':Rho} (h:ρ.le ρ'):∀ (v:AV) (a:Value),za ρ v=some a→za ρ' v=some a
 | .bool _,_,e | .int _ _,_,e | .str _,_,e | .nilp,_,e | .nils,_,e | .nilfn,_,e | .nilifc,_,e | .nilm,_,e=>by simpa [za] using e
 | .ptr r o,a,e=>by
  simp only [za] at e ⊢
  cases hr:ρ r with
  | none=>simp [hr] at e
  | some L=>rw [h r L hr];simpa [hr] using e
 | .sl r o len cap,a,e=>by
  simp only [za] at e ⊢
  cases hr:ρ r with
  | none=>simp [hr] at e
  | some L=>rw [h r L hr];simpa [hr] using e
 | .zs r o k d,a,e=>by
  simp only [za] at e ⊢
  cases hr:ρ r with
  | none=>simp [hr] at e
  | some L=>rw [h r L hr];simpa [hr] using e
 | .raw r,a,e=>by
  simp only [za] at e ⊢
  cases hr:ρ r with
  | none=>simp [hr] at e
  | some L=>rw [h r L hr];simpa [hr] using e
 | .mp r,a,e=>by
  simp only [za] at e ⊢
  cases hr:ρ r with
  | none=>simp [hr] at e
  | some L=>rw [h r L hr];simpa [hr] using e
 | .fn f fs cs,a,e=>by
  simp only [za] at e ⊢
  cases h1:zh ρ fs with
  | none=>simp [h1] at e
  | some x=>cases h2:zh ρ cs with
   | none=>simp [h1,h2] at e
   | some y=>rw [y7 h fs x h1,y7 h cs y h2];simpa [h1,h2] using e
 | .ifc t v,a,e=>by
  simp only [za] at e ⊢
  cases h1:za ρ v with
  | none=>simp [h1] at e
  | some x=>rw [jB h v x h1];simpa [h1] using e
 | .agg cs,a,e=>by
  simp only [za] at e ⊢
  cases h1:zh ρ cs with
  | none=>simp [h1] at e
  | some x=>rw [y7 h cs x h1];simpa [h1] using e
 | .tup cs,a,e=>by
  simp only [za] at e ⊢
  cases h1:zh ρ cs with
  | none=>simp [h1] at e
  | some x=>rw [y7 h cs x h1];simpa [h1] using e
 | .fz _ _,a,e=>by simp [za] at e
 | .ow _ _,a,e=>by simp [za] at e
 | .cp _ _,a,e=>by simp [za] at e
 | .lt _ _,a,e=>by simp [za] at e
 | .sk,a,e=>by simp [za] at e
theorem y7 {ρ ρ':Rho} (h:ρ.le ρ'):∀ (l:List AV) (a:List Value),zh ρ l=some a→zh ρ' l=some a
 | [],_,e=>by simpa [zh] using e
 | v::l,a,e=>by
  simp only [zh] at e ⊢
  cases h1:za ρ v with
  | none=>simp [h1] at e
  | some x=>cases h2:zh ρ l with
   | none=>simp [h1,h2] at e
   | some y=>rw [jB h v x h1,y7 h l y h2];simpa [h1,h2] using e
end

theorem zT {ρ:Rho} {v:AV} {l:List AV} {a:List Value} (h:zh ρ (v::l)=some a):∃ x y,za ρ v=some x∧zh ρ l=some y∧a=x::y:=by
 simp only [zh] at h
 cases h1:za ρ v with
 | none=>simp [h1] at h
 | some x=>cases h2:zh ρ l with
  | none=>simp [h1,h2] at h
  | some y=>simp [h1,h2] at h;exact⟨x,y,rfl,rfl,h.symm⟩
theorem x3 {ρ:Rho} {v:AV} {l:List AV} {x:Value} {y:List Value} (h1:za ρ v=some x) (h2:zh ρ l=some y):zh ρ (v::l)=some (x::y):=by
 simp [zh,h1,h2]
theorem zB {ρ:Rho}:∀ {l:List AV} {a:List Value},zh ρ l=some a→a.length=l.length
 | [],a,h=>by simp [zh] at h;subst h;rfl
 | v::l,a,h=>by obtain⟨x,y,_,h2,rfl⟩:=zT h;simp [zB h2]
theorem kq {ρ:Rho}:∀ {l:List AV} {a:List Value} {i:Nat} {v:AV},zh ρ l=some a→l[i]? = some v→∃ x,za ρ v=some x∧a[i]? = some x
 | [],_,_,_,_,hi=>by simp at hi
 | w::l,a,i,v,h,hi=>by
  obtain⟨x,y,h1,h2,rfl⟩:=zT h
  cases i with
  | zero=>simp at hi;subst hi;exact⟨x,h1,rfl⟩
  | succ i=>simp at hi;obtain⟨z,hz,hz2⟩:=kq h2 hi;exact⟨z,hz,by simpa using hz2⟩
theorem yg {ρ:Rho}:∀ {l m:List AV} {a b:List Value},zh ρ l=some a→zh ρ m=some b→zh ρ (l++m)=some (a++b)
 | [],_,a,b,h,hm=>by simp [zh] at h;subst h;simpa using hm
 | v::l,m,a,b,h,hm=>by
  obtain⟨x,y,h1,h2,rfl⟩:=zT h
  simp only [List.cons_append]
  exact x3 h1 (yg h2 hm)
theorem jV {ρ:Rho}:∀ (n:Nat) {l:List AV} {a:List Value},zh ρ l=some a→zh ρ (l.take n)=some (a.take n)
 | 0,l,a,_=>by simp [zh]
 | n+1,[],a,h=>by simp [zh] at h;subst h;simp [zh]
 | n+1,v::l,a,h=>by
  obtain⟨x,y,h1,h2,rfl⟩:=zT h
  simp only [List.take_succ_cons]
  exact x3 h1 (jV n h2)
theorem ZV {ρ:Rho}:∀ (n:Nat) {l:List AV} {a:List Value},zh ρ l=some a→zh ρ (l.drop n)=some (a.drop n)
 | 0,l,a,h=>by simpa using h
 | n+1,[],a,h=>by simp [zh] at h;subst h;simp [zh]
 | n+1,v::l,a,h=>by
  obtain⟨x,y,h1,h2,rfl⟩:=zT h
  simp only [List.drop_succ_cons]
  exact ZV n h2
theorem z3b {ρ:Rho} {v:AV} {x:Value} (hv:za ρ v=some x):∀ {l:List AV} {a:List Value} (i:Nat),zh ρ l=some a→zh ρ (l.set i v)=some (a.set i x)
 | [],a,i,h=>by simp [zh] at h;subst h;simp [zh]
 | w::l,a,i,h=>by
  obtain⟨x',y,h1,h2,rfl⟩:=zT h
  cases i with
  | zero=>simpa using x3 hv h2
  | succ i=>simpa using x3 h1 (z3b hv i h2)
theorem VG {ρ:Rho} {cs vs:List AV} {a b:List Value} (o:Nat) (h:zh ρ cs=some a) (hv:zh ρ vs=some b) :
  zh ρ (splice cs o vs)=some (splice a o b):=by
 unfold splice
 rw [← zB hv]
 exact yg (yg (jV o h) hv) (ZV _ h)
theorem QH {ρ:Rho} {v:AV} {x:Value} (h:za ρ v=some x):∀ n,zh ρ (List.replicate n v)=some (List.replicate n x)
 | 0=>rfl
 | n+1=>by simpa [List.replicate_succ] using x3 h (QH h n)
theorem VH {ρ:Rho}:∀ {l:List AV} {a:List Value},l.length=a.length→(∀ (i:Nat) (v:AV),l[i]? = some v→∃ x,za ρ v=some x∧a[i]? = some x)→zh ρ l=some a
 | [],[],_,_=>rfl
 | [],_::_,h,_=>by simp at h
 | _::_,[],h,_=>by simp at h
 | v::l,x::a,h,hg=>by
  obtain⟨y,hy,hy2⟩:=hg 0 v rfl
  simp at hy2;subst hy2
  exact x3 hy (VH (by simpa using h) fun i w hw=>by simpa using hg (i+1) w (by simpa using hw))
theorem jm (ρ:Rho):za ρ z4=some undef:=by simp [z4,za,zh,undef]
theorem z3V {ρ:Rho} {v:AV} {x:Value} (h:za ρ v=some x) (h1:v.one=true):x.oneCell'=true:=by
 cases v<;>simp only [za,AV.one] at h h1<;>first | (cases h1;done) | skip
 all_goals (repeat' split at h)<;>first | (cases h;done) | (obtain rfl:=Option.some.inj h;rfl) | (simp at h;try subst h;rfl)
theorem YJ {ρ:Rho}:∀ {l:List AV} {a:List Value},zh ρ l=some a→l.all AV.one=true→∀ x ∈ a,x.oneCell'=true
 | [],a,h,_=>by simp [zh] at h;subst h;simp
 | v::l,a,h,h1=>by
  obtain⟨x,y,hx,hy,rfl⟩:=zT h
  simp at h1
  intro z hz
  rcases List.mem_cons.1 hz with rfl | hz
  ·exact z3V hx h1.1
  ·exact YJ hy (by simpa using h1.2) z hz
theorem Q9 {ρ:Rho} {v:AV} {x:Value} (hr:v.isRaw=false) (h:za ρ v=some x):zh ρ v.cells=some x.cells.toList:=by
 cases v with
 | agg cs =>
  simp only [za] at h
  cases h1:zh ρ cs with
  | none=>simp [h1] at h
  | some a=>simp [h1] at h;subst h;simpa [AV.cells,Value.cells] using h1
 | raw r=>cases hr
 | _ =>
  have hc:x.cells=#[x]:=by
   simp only [za] at h
   (repeat' split at h)<;>first | (cases h;done) | (obtain rfl:=Option.some.inj h;rfl) | (simp at h;try subst h;rfl)
  rw [hc]
  simpa [AV.cells] using x3 h (by rfl)
theorem Ks {v:AV} (h:v.cells.all AV.one=true):v.isRaw=false:=by
 cases v<;>first | rfl | (simp [AV.cells,AV.one] at h)
theorem z9i {n:Nat} {z:Value} {a:AV} (h:JZ n z=some a):a.isRaw=false:=by
 cases n with
 | zero=>simp [JZ] at h
 | succ n =>
  unfold JZ at h
  split at h<;>first | (cases h;done) | (obtain rfl:=Option.some.inj h;rfl) | (obtain⟨_,_,rfl⟩:=Option.map_eq_some_iff.1 h;rfl)
theorem KI {ρ:Rho} {f:Value→Option AV}:∀ {l:List Value} {m:List AV},(∀ v a,f v=some a→za ρ a=some v)→zO f l=some m→zh ρ m=some l
 | [],m,_,h=>by simp [zO] at h;subst h;rfl
 | v::l,m,hf,h=>by
  simp only [zO] at h
  cases h1:f v with
  | none=>simp [h1] at h
  | some x=>cases h2:zO f l with
   | none=>simp [h1,h2] at h
   | some y=>simp [h1,h2] at h;subst h;exact x3 (hf v x h1) (KI hf h2)
theorem X0 {ρ:Rho}:∀ (n:Nat) (v:Value) (a:AV),JZ n v=some a→za ρ a=some v:=by
 intro n
 induction n with
 | zero=>intro v a h;simp [JZ] at h
 | succ n ih =>
  intro v a h
  unfold JZ at h
  split at h
  all_goals first
   | (cases h;done)
   | (obtain rfl:=Option.some.inj h;simp [za];done)
   | skip
  ·rename_i n' t v he
   obtain rfl:=Nat.succ.inj he
   cases h1:JZ n v with
   | none=>simp [h1] at h
   | some x=>simp [h1] at h;subst h;simp [za,ih v x h1]
  ·rename_i n' cs he
   obtain rfl:=Nat.succ.inj he
   cases h1:zO (JZ n) cs.toList with
   | none=>simp [h1] at h
   | some x=>simp [h1] at h;subst h;simp [za,KI ih h1]
  ·rename_i n' cs he
   obtain rfl:=Nat.succ.inj he
   cases h1:zO (JZ n) cs.toList with
   | none=>simp [h1] at h
   | some x=>simp [h1] at h;subst h;simp [za,KI ih h1]
end Go.Ab
