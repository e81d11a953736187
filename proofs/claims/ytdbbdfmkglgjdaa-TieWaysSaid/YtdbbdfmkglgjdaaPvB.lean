import Derived.Test.YtdbbdfmkglgjdaaPvA
import Derived.Test.YtdbbdfmkglgjdaaAb3
set_option linter.unusedVariables false
set_option linter.unusedSimpArgs false
set_option linter.unusedSectionVars false
namespace Go.Ab
abbrev yP:=Nat→Option Nat
abbrev ya:=Nat→Option zF
def yP.le (a b:yP):Prop:=∀ r r',a r=some r'→b r=some r'
def ya.le (a b:ya):Prop:=∀ r o,a r=some o→b r=some o
theorem yP.refl (a:yP):a.le a:=fun _ _ h=>h
theorem ya.refl (a:ya):a.le a:=fun _ _ h=>h
theorem yP.trans {a b c:yP} (h:a.le b) (k:b.le c):a.le c:=fun r r' e=>k r r' (h r r' e)
theorem ya.trans {a b c:ya} (h:a.le b) (k:b.le c):a.le c:=fun r r' e=>k r r' (h r r' e)
def Zw (o:Option zF) (p n:Nat):Option (List AV):=match o with
 | some (.cells _ _ cs)=>if p+n≤cs.length then some ((cs.drop p).take n) else none
 | _=>none
theorem qT (H:z3) (r p n:Nat):H.row r p n=Zw (H.get r) p n:=by
 unfold z3.row Zw;cases H.get r with
 | none=>rfl
 | some o=>cases o<;>rfl
theorem jO {o:Option zF} {p n:Nat} {cs:List AV} (h:Zw o p n=some cs):∃ k z ds,o=some (.cells k z ds)∧p+n≤ds.length∧cs=(ds.drop p).take n∧cs.length=n:=by
 unfold Zw at h
 split at h
 ·rename_i k z ds
  split at h
  ·rename_i hl
   obtain rfl:=Option.some.inj h
   exact⟨k,z,ds,rfl,hl,rfl,by simp;omega⟩
  ·cases h
 ·cases h
def FzV (Φ:ya) (z n:Nat) (x:AV) (cs:List AV):Prop:=match x with
 | .nils=>n=0∧cs=[]
 | .sl r o m c=>m=n∧Zw (Φ r) o (n * z)=some cs∧∀ q,c=.ex q→n≤q
 | .zs r o k d=>n=0∧cs=[]∧(Φ r).isSome=true
 | _=>False
theorem FzV.mono {Φ Φ':ya} (h:Φ.le Φ') {z n:Nat} {x:AV} {cs:List AV} (hf:FzV Φ z n x cs):FzV Φ' z n x cs:=by
 cases x<;>simp only [FzV] at hf ⊢<;>try exact hf
 ·obtain⟨h1,h2,h3⟩:=hf
  obtain⟨k,z',ds,e,h4,h5,h6⟩:=jO h2
  exact⟨h1,by rw [h _ _ e,← e];exact h2,h3⟩
 ·obtain⟨h1,h2,h3⟩:=hf
  obtain⟨o,ho⟩:=Option.isSome_iff_exists.1 h3
  exact⟨h1,h2,by rw [h _ _ ho];rfl⟩
mutual
def RV (ρ:yP) (Φ:ya):AV→AV→Prop
 | .bool b,x=>x=.bool b
 | .int k n,x=>x=.int k n
 | .str s,x=>x=.str s
 | .nilp,x=>x=.nilp
 | .nils,x=>x=.nils
 | .nilfn,x=>x=.nilfn
 | .nilifc,x=>x=.nilifc
 | .nilm,x=>x=.nilm
 | .mp r,x=>∃ r',ρ r=some r'∧x=.mp r'
 | .ptr r o,x=>∃ r',ρ r=some r'∧x=.ptr r' o
 | .fn f a b,x=>∃ a' b',x=.fn f a' b'∧RL ρ Φ a a'∧RL ρ Φ b b'
 | .ifc t v,x=>∃ y,x=.ifc t y∧RV ρ Φ v y
 | .agg cs,x=>∃ cs',x=.agg cs'∧RL ρ Φ cs cs'
 | .tup [],_=>True
 | .tup (a::l),x=>∃ cs',x=.tup cs'∧RL ρ Φ (a::l) cs'
 | .ow _ _,_=>True
 | .cp cs o,x=>∃ r k z cs',x=.ptr r o∧Φ r=some (.cells k z cs')∧RL ρ Φ cs cs'
 | .lt z l,x=>∃ r cs,x=.sl r 0 l.length (.ex l.length)∧Φ r=some (.cells .exact z cs)∧RE ρ Φ z l cs
 | .fz z l,x=>∃ cs,FzV Φ z l.length x cs∧RE ρ Φ z l cs
 | .sl r o n c,x=>∃ r',ρ r=some r'∧x=.sl r' o n c∧∀ q,c=.ex q→n≤q
 | .zs _ _ _ _,_=>False
 | .raw _,_=>False
 | .sk,x=>x=z4
def RL (ρ:yP) (Φ:ya):List AV→List AV→Prop
 | [],l=>l=[]
 | a::l,m=>∃ x m',m=x::m'∧RV ρ Φ a x∧RL ρ Φ l m'
def RE (ρ:yP) (Φ:ya) (z:Nat):List AV→List AV→Prop
 | [],cs=>cs=[]
 | e::l,cs=>∃ x b,cs=x.cells++b∧x.cells.length=z∧x.cells.all AV.one=true∧e.isTup=false∧RV ρ Φ e x∧RE ρ Φ z l b
end

section
variable {ρ ρ':yP} {Φ Φ':ya}
mutual
theorem RV.mono (h1:ρ.le ρ') (h2:Φ.le Φ'):∀ (a x:AV),RV ρ Φ a x→RV ρ' Φ' a x
 | .bool _,x,h | .int _ _,x,h | .str _,x,h | .nilp,x,h | .nils,x,h | .nilfn,x,h | .nilifc,x,h | .nilm,x,h | .sk,x,h=>by simpa only [RV] using h
 | .ptr r o,x,h=>by
  simp only [RV] at h ⊢
  obtain⟨r',hr,rfl⟩:=h
  exact⟨r',h1 _ _ hr,rfl⟩
 | .mp r,x,h=>by
  simp only [RV] at h ⊢
  obtain⟨r',hr,rfl⟩:=h
  exact⟨r',h1 _ _ hr,rfl⟩
 | .fn f a b,x,h=>by
  simp only [RV] at h ⊢
  obtain⟨a',b',rfl,ha,hb⟩:=h
  exact⟨a',b',rfl,RL.mono h1 h2 _ _ ha,RL.mono h1 h2 _ _ hb⟩
 | .ifc t v,x,h=>by
  simp only [RV] at h ⊢
  obtain⟨y,rfl,hy⟩:=h
  exact⟨y,rfl,RV.mono h1 h2 _ _ hy⟩
 | .agg cs,x,h=>by
  simp only [RV] at h ⊢
  obtain⟨y,rfl,hy⟩:=h
  exact⟨y,rfl,RL.mono h1 h2 _ _ hy⟩
 | .tup [],x,h=>by simp only [RV]
 | .tup (a::l),x,h=>by
  simp only [RV] at h ⊢
  obtain⟨y,rfl,hy⟩:=h
  exact⟨y,rfl,RL.mono h1 h2 _ _ hy⟩
 | .ow _ _,x,h=>by simp only [RV]
 | .cp cs o,x,h=>by
  simp only [RV] at h ⊢
  obtain⟨r,k,z,cs',rfl,hr,hc⟩:=h
  exact⟨r,k,z,cs',rfl,h2 _ _ hr,RL.mono h1 h2 _ _ hc⟩
 | .fz z l,x,h=>by
  simp only [RV] at h ⊢
  obtain⟨cs,hf,he⟩:=h
  exact⟨cs,hf.mono h2,RE.mono h1 h2 z _ _ he⟩
 | .lt z l,x,h=>by
  simp only [RV] at h ⊢
  obtain⟨r,cs,rfl,hr,he⟩:=h
  exact⟨r,cs,rfl,h2 _ _ hr,RE.mono h1 h2 z _ _ he⟩
 | .sl r o n c,x,h=>by
  simp only [RV] at h ⊢
  obtain⟨r',hr,rfl,hc⟩:=h
  exact⟨r',h1 _ _ hr,rfl,hc⟩
 | .zs _ _ _ _,x,h | .raw _,x,h=>by simp only [RV] at h
theorem RL.mono (h1:ρ.le ρ') (h2:Φ.le Φ'):∀ (l m:List AV),RL ρ Φ l m→RL ρ' Φ' l m
 | [],m,h=>by simpa only [RL] using h
 | a::l,m,h=>by
  simp only [RL] at h ⊢
  obtain⟨x,m',rfl,ha,hl⟩:=h
  exact⟨x,m',rfl,RV.mono h1 h2 _ _ ha,RL.mono h1 h2 _ _ hl⟩
theorem RE.mono (h1:ρ.le ρ') (h2:Φ.le Φ') (z:Nat):∀ (l m:List AV),RE ρ Φ z l m→RE ρ' Φ' z l m
 | [],m,h=>by simpa only [RE] using h
 | a::l,m,h=>by
  simp only [RE] at h ⊢
  obtain⟨x,b,rfl,k1,k2,k3,ha,hl⟩:=h
  exact⟨x,b,rfl,k1,k2,k3,RV.mono h1 h2 _ _ ha,RE.mono h1 h2 z _ _ hl⟩
end

theorem RL.nil {m:List AV} (h:RL ρ Φ [] m):m=[]:=by simpa only [RL] using h
theorem RL.nil':RL ρ Φ [] []:=by simp only [RL]
theorem RL.cons {a x:AV} {l m:List AV} (h1:RV ρ Φ a x) (h2:RL ρ Φ l m):RL ρ Φ (a::l) (x::m):=by
 simp only [RL];exact⟨x,m,rfl,h1,h2⟩
theorem RL.uncons {a:AV} {l m:List AV} (h:RL ρ Φ (a::l) m):∃ x m',m=x::m'∧RV ρ Φ a x∧RL ρ Φ l m':=by simpa only [RL] using h
theorem RL.length:∀ {l m:List AV},RL ρ Φ l m→m.length=l.length
 | [],m,h=>by rw [h.nil]
 | a::l,m,h=>by obtain⟨x,m',rfl,_,h2⟩:=h.uncons;simp [h2.length]
theorem RL.get:∀ {l m:List AV} {i:Nat} {a:AV},RL ρ Φ l m→l[i]? = some a→∃ x,m[i]? = some x∧RV ρ Φ a x
 | [],m,i,a,h,hi=>by simp at hi
 | b::l,m,i,a,h,hi=>by
  obtain⟨x,m',rfl,h1,h2⟩:=h.uncons
  cases i with
  | zero=>simp at hi;subst hi;exact⟨x,rfl,h1⟩
  | succ i=>simp at hi;obtain⟨y,hy,hy2⟩:=h2.get hi;exact⟨y,by simpa using hy,hy2⟩
theorem RL.append:∀ {l m l' m':List AV},RL ρ Φ l m→RL ρ Φ l' m'→RL ρ Φ (l++l') (m++m')
 | [],m,l',m',h,h'=>by rw [h.nil];exact h'
 | a::l,m,l',m',h,h'=>by obtain⟨x,m2,rfl,h1,h2⟩:=h.uncons;exact RL.cons h1 (h2.append h')
theorem RL.take:∀ (n:Nat) {l m:List AV},RL ρ Φ l m→RL ρ Φ (l.take n) (m.take n)
 | 0,l,m,h=>by simp only [List.take_zero];exact RL.nil'
 | n+1,[],m,h=>by rw [h.nil];exact RL.nil'
 | n+1,a::l,m,h=>by obtain⟨x,m2,rfl,h1,h2⟩:=h.uncons;exact RL.cons h1 (h2.take n)
theorem RL.drop:∀ (n:Nat) {l m:List AV},RL ρ Φ l m→RL ρ Φ (l.drop n) (m.drop n)
 | 0,l,m,h=>h
 | n+1,[],m,h=>by rw [h.nil];exact RL.nil'
 | n+1,a::l,m,h=>by obtain⟨x,m2,rfl,h1,h2⟩:=h.uncons;exact h2.drop n
theorem RL.splice {l m l' m':List AV} (o:Nat) (h:RL ρ Φ l m) (h':RL ρ Φ l' m'):RL ρ Φ (splice l o l') (splice m o m'):=by
 unfold Go.Ab.splice
 rw [← h'.length]
 exact((h.take o).append h').append (h.drop _)
theorem FzV.one {z n:Nat} {x:AV} {cs:List AV} (hf:FzV Φ z n x cs):x.one=true:=by
 unfold FzV at hf
 split at hf<;>first | rfl | exact hf.elim
theorem RV.one {a x:AV} (h:RV ρ Φ a x) (h1:a.one=true):x.one=true:=by
 cases a<;>simp only [AV.one,Bool.false_eq_true] at h1<;>simp only [RV] at h
 all_goals first
  | (subst h;rfl)
  | (obtain⟨r',_,rfl⟩:=h;rfl)
  | (obtain⟨r',_,rfl,_⟩:=h;rfl)
  | (obtain⟨a',b',rfl,_⟩:=h;rfl)
  | (obtain⟨y,rfl,_⟩:=h;rfl)
  | (obtain⟨r,k,z,cs',rfl,_⟩:=h;rfl)
  | skip
 ·obtain⟨cs,hf,_⟩:=h
  exact hf.one
theorem RL.all:∀ {l m:List AV},RL ρ Φ l m→l.all AV.one=true→m.all AV.one=true
 | [],m,h,_=>by rw [h.nil];rfl
 | a::l,m,h,ha=>by
  obtain⟨x,m2,rfl,h1,h2⟩:=h.uncons
  simp only [List.all_cons,Bool.and_eq_true] at ha ⊢
  exact⟨h1.one ha.1,h2.all ha.2⟩
theorem RV.cells {a x:AV} (h:RV ρ Φ a x) (ht:a.isTup=false):RL ρ Φ a.cells x.cells∧x.isRaw=false:=by
 have key:∀ b y:AV,RV ρ Φ b y→b.cells=[b]→y.cells=[y]→RL ρ Φ b.cells y.cells:=fun b y hb e1 e2=>by rw [e1,e2];exact RL.cons hb RL.nil'
 cases a<;>simp only [AV.isTup,Bool.true_eq_false] at ht
 case agg cs =>
  simp only [RV] at h
  obtain⟨cs',rfl,hl⟩:=h
  exact⟨hl,rfl⟩
 case fz z l =>
  have h0:=h
  simp only [RV] at h
  obtain⟨cs,hf,_⟩:=h
  cases x<;>simp only [FzV] at hf
  all_goals exact⟨key _ _ h0 rfl rfl,rfl⟩
 case sl =>
  have h0:=h
  simp only [RV] at h
  obtain⟨r',_,rfl,_⟩:=h
  exact⟨key _ _ h0 rfl rfl,rfl⟩
 case zs=>simp only [RV] at h
 all_goals
  have h0:=h
  simp only [RV] at h
  first
   | (subst h;exact⟨key _ _ h0 rfl rfl,rfl⟩)
   | (obtain⟨r',_,rfl⟩:=h;exact⟨key _ _ h0 rfl rfl,rfl⟩)
   | (obtain⟨a',rfl,_⟩:=h;exact⟨key _ _ h0 rfl rfl,rfl⟩)
   | (obtain⟨a',b',rfl,_⟩:=h;exact⟨key _ _ h0 rfl rfl,rfl⟩)
   | (obtain⟨r,k,z,cs',rfl,_⟩:=h;exact⟨key _ _ h0 rfl rfl,rfl⟩)
theorem VP {a:AV} (h:a.cells.all AV.one=true):a.isTup=false:=by
 cases a<;>first | rfl | (simp [AV.cells,AV.one] at h)
theorem RE.nil {z:Nat} {m:List AV} (h:RE ρ Φ z [] m):m=[]:=by simpa only [RE] using h
theorem RE.nil' {z:Nat}:RE ρ Φ z [] []:=by simp only [RE]
theorem RE.uncons {z:Nat} {e:AV} {l cs:List AV} (h:RE ρ Φ z (e::l) cs):∃ x b,cs=x.cells++b∧x.cells.length=z∧x.cells.all AV.one=true∧e.isTup=false∧RV ρ Φ e x∧RE ρ Φ z l b:=by
 simpa only [RE] using h
theorem RE.cons {z:Nat} {e x:AV} {l b:List AV} (h1:x.cells.length=z) (h2:x.cells.all AV.one=true) (h3:e.isTup=false) (h4:RV ρ Φ e x) (h5:RE ρ Φ z l b):RE ρ Φ z (e::l) (x.cells++b):=by
 simp only [RE];exact⟨x,b,rfl,h1,h2,h3,h4,h5⟩
theorem RE.length {z:Nat}:∀ {l cs:List AV},RE ρ Φ z l cs→cs.length=l.length * z
 | [],cs,h=>by rw [h.nil];simp
 | e::l,cs,h=>by
  obtain⟨x,b,rfl,h1,_,_,_,h5⟩:=h.uncons
  simp [h1,h5.length,Nat.add_mul];omega
theorem RE.all {z:Nat}:∀ {l cs:List AV},RE ρ Φ z l cs→cs.all AV.one=true
 | [],cs,h=>by rw [h.nil];rfl
 | e::l,cs,h=>by
  obtain⟨x,b,rfl,_,h2,_,_,h5⟩:=h.uncons
  rw [List.all_append,h2,h5.all];rfl
theorem RE.append {z:Nat}:∀ {l cs l' cs':List AV},RE ρ Φ z l cs→RE ρ Φ z l' cs'→RE ρ Φ z (l++l') (cs++cs')
 | [],cs,l',cs',h,h'=>by rw [h.nil];exact h'
 | e::l,cs,l',cs',h,h'=>by
  obtain⟨x,b,rfl,h1,h2,h3,h4,h5⟩:=h.uncons
  rw [List.append_assoc]
  exact RE.cons h1 h2 h3 h4 (h5.append h')
theorem RE.take {z:Nat}:∀ (n:Nat) {l cs:List AV},RE ρ Φ z l cs→RE ρ Φ z (l.take n) (cs.take (n * z))
 | 0,l,cs,h=>by simp only [Nat.zero_mul,List.take_zero];exact RE.nil'
 | n+1,[],cs,h=>by rw [h.nil];simp only [List.take_nil];exact RE.nil'
 | n+1,e::l,cs,h=>by
  obtain⟨x,b,rfl,h1,h2,h3,h4,h5⟩:=h.uncons
  have:(x.cells++b).take ((n+1) * z)=x.cells++b.take (n * z):=by
   rw [List.take_append,List.take_of_length_le (by rw [h1,Nat.add_mul];omega),h1,Nat.add_mul];congr 2;omega
  rw [this]
  exact RE.cons h1 h2 h3 h4 (h5.take n)
theorem RE.drop {z:Nat}:∀ (n:Nat) {l cs:List AV},RE ρ Φ z l cs→RE ρ Φ z (l.drop n) (cs.drop (n * z))
 | 0,l,cs,h=>by simpa using h
 | n+1,[],cs,h=>by rw [h.nil];simp only [List.drop_nil];exact RE.nil'
 | n+1,e::l,cs,h=>by
  obtain⟨x,b,rfl,h1,h2,h3,h4,h5⟩:=h.uncons
  have:(x.cells++b).drop ((n+1) * z)=b.drop (n * z):=by
   rw [List.drop_append,List.drop_of_length_le (by rw [h1,Nat.add_mul];omega),h1,Nat.add_mul,List.nil_append];congr 1;omega
  rw [this]
  exact h5.drop n
theorem RE.get {z:Nat}:∀ {l cs:List AV} {i:Nat} {e:AV},RE ρ Φ z l cs→l[i]? = some e→∃ x,(cs.drop (i * z)).take z=x.cells∧x.cells.length=z∧x.cells.all AV.one=true∧e.isTup=false∧RV ρ Φ e x
 | [],cs,i,e,h,hi=>by simp at hi
 | d::l,cs,i,e,h,hi=>by
  obtain⟨x,b,rfl,h1,h2,h3,h4,h5⟩:=h.uncons
  cases i with
  | zero =>
   simp at hi;subst hi
   exact⟨x,by simp [List.take_append,h1,List.take_of_length_le],h1,h2,h3,h4⟩
  | succ i =>
   simp at hi
   obtain⟨y,hy,r⟩:=h5.get hi
   refine⟨y,?_,r⟩
   rw [← hy,List.drop_append,List.drop_of_length_le (by rw [h1,Nat.add_mul];omega),h1,Nat.add_mul,List.nil_append];congr 2;omega
theorem RE.set {z:Nat}:∀ {l cs:List AV} {i:Nat} {e x:AV},RE ρ Φ z l cs→i < l.length→x.cells.length=z→x.cells.all AV.one=true→e.isTup=false→RV ρ Φ e x→RE ρ Φ z (l.set i e) (Go.Ab.splice cs (i * z) x.cells)
 | [],cs,i,e,x,h,hi,_,_,_,_=>by simp at hi
 | d::l,cs,i,e,x,h,hi,k1,k2,k3,k4=>by
  obtain⟨y,b,rfl,h1,h2,h3,h4,h5⟩:=h.uncons
  cases i with
  | zero =>
   have:Go.Ab.splice (y.cells++b) (0 * z) x.cells=x.cells++b:=by
    unfold Go.Ab.splice
    simp [List.drop_append,h1,k1,List.drop_of_length_le]
   rw [this]
   exact RE.cons k1 k2 k3 k4 h5
  | succ i =>
   have:Go.Ab.splice (y.cells++b) ((i+1) * z) x.cells=y.cells++Go.Ab.splice b (i * z) x.cells:=by
    unfold Go.Ab.splice
    rw [List.take_append,List.take_of_length_le (by rw [h1,Nat.add_mul];omega),List.drop_append,List.drop_of_length_le (by rw [h1,Nat.add_mul];omega)]
    rw [h1,Nat.add_mul,Nat.one_mul,Nat.add_sub_cancel]
    have e2:i * z+z+x.cells.length - z=i * z+x.cells.length:=by omega
    rw [e2]
    simp
   rw [this]
   exact RE.cons h1 h2 h3 h4 (h5.set (by simpa using hi) k1 k2 k3 k4)
mutual
theorem z2W:∀ (a:AV),cOk a=true→RV ρ Φ a a
 | .bool _,_ | .int _ _,_ | .str _,_ | .nilp,_ | .nils,_ | .nilfn,_ | .nilifc,_ | .nilm,_=>by simp only [RV]
 | .fn f a b,h=>by
  simp only [cOk,Bool.and_eq_true] at h
  simp only [RV];exact⟨a,b,rfl,J4 a h.1,J4 b h.2⟩
 | .ifc t v,h=>by simp only [cOk] at h;simp only [RV];exact⟨v,rfl,z2W v h⟩
 | .agg l,h=>by simp only [cOk] at h;simp only [RV];exact⟨l,rfl,J4 l h⟩
 | .tup _,h | .ow _ _,h | .fz _ _,h | .sl _ _ _ _,h | .zs _ _ _ _,h | .raw _,h | .ptr _ _,h | .cp _ _,h | .lt _ _,h | .sk,h=>by simp [cOk] at h
theorem J4:∀ (l:List AV),VJ l=true→RL ρ Φ l l
 | [],_=>RL.nil'
 | a::l,h=>by simp only [VJ,Bool.and_eq_true] at h;exact RL.cons (z2W a h.1) (J4 l h.2)
end
theorem RV.undef (x:AV):RV ρ Φ z4 x:=by simp only [z4,RV]
end
end Go.Ab
namespace Go.Ab
theorem Qd (a b:Nat):Nat.beq a b=decide (a=b):=by
 cases h:Nat.beq a b with
 | true=>rw [Nat.eq_of_beq_eq_true h];simp
 | false=>have:=Nat.ne_of_beq_eq_false h;simp [this]
section
variable {α:Type}
theorem zC (a:Nat) (x:α) (l:List (Nat × α)) (k:Nat):lkp ((a,x)::l) k=if a=k then some x else lkp l k:=by
 show (match Nat.beq a k with
  | true=>some x
  | false=>lkp l k)=_
 rw [Qd]
 by_cases h:a=k<;>simp [h]
theorem yl (j:Nat):∀ (l:List (Nat × α)) (k:Nat),lkp (rmv l j) k=if k=j then none else lkp l k
 | [],k=>by simp [rmv,lkp]
 | (a,x)::l,k=>by
  unfold rmv
  rw [Qd]
  by_cases h:a=j
  ·subst h
   simp only [decide_true,yl a l k,zC]
   by_cases hk:k=a
   ·simp [hk]
   ·simp [hk,Ne.symm hk]
  ·simp only [h,decide_false,zC,yl j l k]
   by_cases hk:k=j
   ·subst hk;simp [h]
   ·simp [hk]
end
def z2X (d:Nat):TV→TV
 | .gd t' w y=>match Nat.beq t' d with
  | true=>.v z4
  | false=>.gd t' w y
 | x=>x
theorem z1N (d:Nat):∀ (τ:PT) (t:Nat),lkp (z2S d τ) t=(lkp τ t).map (z2X d)
 | [],t=>rfl
 | (a,x)::l,t=>by
  unfold z2S
  rw [zC,zC,z1N d l t]
  by_cases h:a=t
  ·simp only [h,if_true,Option.map_some,Option.some.injEq]
   cases x<;>rfl
  ·simp [h]
theorem z74 (τ:PT) (d:Nat) (y:TV) (t:Nat):xE (xA τ (some d) y) t=if t=d then y else z2X d (xE τ t):=by
 unfold xE xA
 simp only [zC,z1N]
 by_cases h:d=t
 ·simp [h]
 ·simp only [h,Ne.symm h,if_false]
  cases lkp τ t<;>rfl
def z0B (k:Nat) (x:TV):TV:=match x.of k with
 | true=>.v z4
 | false=>x
theorem z1O (k:Nat):∀ (τ:PT) (t:Nat),lkp (purge k τ) t=(lkp τ t).map (z0B k)
 | [],t=>rfl
 | (a,x)::l,t=>by
  unfold purge
  rw [zC,zC,z1O k l t]
  by_cases h:a=t
  ·simp only [h,if_true,Option.map_some,Option.some.injEq];rfl
  ·simp [h]
theorem z0C (τ:PT) (k t:Nat):xE (purge k τ) t=z0B k (xE τ t):=by
 unfold xE
 rw [z1O]
 cases lkp τ t<;>rfl
theorem vh (τ:PT) (d:Nat) (y:TV) (t:Nat):xE ((d,y)::τ) t=if t=d then y else xE τ t:=by
 unfold xE
 rw [zC]
 by_cases h:d=t
 ·simp [h]
 ·simp [h,Ne.symm h]
def blk:AV→Option Nat
 | .ptr r _=>some r
 | .sl r _ _ _=>some r
 | _=>none
def Xu (ρ:yP) (Φ:ya) (H:z3) (z:Nat) (l:List AV) (x:AV):Prop :=
 0 < z∧((x=.nils∧l=[])∨∃ r c k cs,x=.sl r 0 l.length c∧H.get r=some (.cells k z cs)∧l.length * z≤cs.length∧RE ρ Φ z l (cs.take (l.length * z)) ∧
  ((k=.opened∧c=.mi 0)∨∃ q,k=.exact∧c=.ex q∧l.length≤q∧cs.length=q * z∧q≤zp))
def Wm (ρ:yP) (Φ:ya) (H:z3):z42→AV→Prop
 | .cells cs,x=>∃ r z cs',x=.ptr r 0∧(∃ kd,kd≠.ro∧H.get r=some (.cells kd z cs'))∧RL ρ Φ cs cs'
 | .own z l,x=>Xu ρ Φ H z l x
def TV0 (ρ:yP) (Φ:ya) (σ:Nat→AV) (ω:PW):TV→AV→Prop
 | .v a,x=>RV ρ Φ a x
 | .lp k o,x=>∃ r,σ k=.ptr r 0∧x=.ptr r o
 | .ls k,x=>x=σ k
 | .lb k n,x=>∃ r,σ k=.ptr r 0∧x=.sl r 0 n (.mi 0)
 | .lv k i,x=>∃ r n c p c',σ k=.sl r 0 n c∧i < n∧x=.sl r p (n - i) c'∧∀ z l,lkp ω k=some (.own z l)→p=i * z
 | .lq k i o,x=>∃ r n c p,σ k=.sl r 0 n c∧x=.ptr r p∧∀ z l,lkp ω k=some (.own z l)→p=i * z+o
 | .fp e o,x=>∃ r p y,x=.ptr r (p+o)∧Zw (Φ r) p y.cells.length=some y.cells∧RV ρ Φ e y∧e.isTup=false
 | .gd ..,_=>False
def TVR (ρ:yP) (Φ:ya) (σ:Nat→AV) (ω:PW) (τ':Tau) (y:TV) (x:AV):Prop:=match y with
 | .gd t w y0=>za τ' (some (t,w))=true→TV0 ρ Φ σ ω y0 x
 | y=>TV0 ρ Φ σ ω y x
theorem TVR.map {ρ ρ1:yP} {Φ Φ1:ya} {σ σ1:Nat→AV} {ω ω1:PW} {τ':Tau} {y:TV} {x:AV} (f:∀ y,TV0 ρ Φ σ ω y x→TV0 ρ1 Φ1 σ1 ω1 y x) (h:TVR ρ Φ σ ω τ' y x):TVR ρ1 Φ1 σ1 ω1 τ' y x:=by
 cases y with
 | gd t w y0=>exact fun hw=>f _ (h hw)
 | v a=>exact f (.v a) h
 | lp k o=>exact f (.lp k o) h
 | ls k=>exact f (.ls k) h
 | lq k i o=>exact f (.lq k i o) h
 | lb k n=>exact f (.lb k n) h
 | lv k n=>exact f (.lv k n) h
 | fp e o=>exact f (.fp e o) h
def RM (ρ:yP) (Φ:ya):List (AV × AV)→List (AV × AV)→Prop
 | [],l=>l=[]
 | (k,v)::es,l=>∃ k' v' l',l=(k',v')::l'∧RV ρ Φ k k'∧RV ρ Φ v v'∧RM ρ Φ es l'
theorem RM.mono {ρ ρ':yP} {Φ Φ':ya} (h1:ρ.le ρ') (h2:Φ.le Φ'):∀ {es l:List (AV × AV)},RM ρ Φ es l→RM ρ' Φ' es l
 | [],l,h=>h
 | (k,v)::es,l,⟨k',v',l',e,a,b,c⟩=>⟨k',v',l',e,RV.mono h1 h2 _ _ a,RV.mono h1 h2 _ _ b,RM.mono h1 h2 c⟩
def OR (ρ:yP) (Φ:ya):zF→zF→Prop
 | .cells k z cs,o=>k≠.ro∧∃ cs',o=.cells k z cs'∧RL ρ Φ cs cs'
 | .mapo es,o=>∃ es',o=.mapo es'∧RM ρ Φ es es'
 | .iter _ _,_=>False
theorem OR.mono {ρ ρ':yP} {Φ Φ':ya} (h1:ρ.le ρ') (h2:Φ.le Φ') {o o':zF} (h:OR ρ Φ o o'):OR ρ' Φ' o o':=by
 cases o with
 | cells k z cs=>obtain⟨a,cs',rfl,b⟩:=h;exact⟨a,cs',rfl,RL.mono h1 h2 _ _ b⟩
 | mapo es=>obtain⟨es',rfl,b⟩:=h;exact⟨es',rfl,b.mono h1 h2⟩
 | iter s p=>exact h.elim
structure Rel (ρ:yP) (Φ:ya) (A:Nat→Prop) (Q H:z3):Prop where
 dom:∀ r r',ρ r=some r'→r < Q.size∧r' < H.size
 obj:∀ r o,Q.get r=some o→∃ r' o',ρ r=some r'∧H.get r'=some o'∧OR ρ Φ o o'
 inj:∀ r s o o' r',Q.get r=some o→Q.get s=some o'→ρ r=some r'→ρ s=some r'→r=s
 sep:∀ r o r',Q.get r=some o→ρ r=some r'→Φ r'=none∧¬ A r'
 fro:∀ r o,Φ r=some o→r < H.size∧H.get r=some o
 res:∀ r,A r→r < H.size∧Φ r=none
structure Fr (ρ:yP) (Φ:ya) (A:Nat→Prop) (σ:Nat→AV) (τ:PT) (ω:PW) (Q:z3) (τ':Tau) (H:z3) (nt:Nat):Prop where
 rel:Rel ρ Φ A Q H
 slot:∀ k s,lkp ω k=some s→Wm ρ Φ H s (σ k)
 sep:∀ k s r,lkp ω k=some s→blk (σ k)=some r→r < H.size∧Φ r=none∧¬ A r∧∀ q o,Q.get q=some o→ρ q≠some r
 dis:∀ k k' s s' r,k≠k'→lkp ω k=some s→lkp ω k'=some s'→blk (σ k)=some r→blk (σ k')≠some r
 len:τ'.length=nt
 tmp:∀ t,TVR ρ Φ σ ω τ' (xE τ t) (τ'.getD t z4)
structure Ext (ρ:yP) (Φ:ya) (A:Nat→Prop) (H:z3) (ρ1:yP) (Φ1:ya) (H1:z3):Prop where
 rho:ρ.le ρ1
 phi:Φ.le Φ1
 res:∀ r,A r→H1.get r=H.get r
 size:H.size≤H1.size
section
variable {ρ ρ1 ρ2:yP} {Φ Φ1 Φ2:ya} {A:Nat→Prop} {σ σ1:Nat→AV} {τ τ1:PT} {ω ω1:PW} {Q Q1 H H1 H2:z3} {τ':Tau} {nt:Nat}
theorem Ext.refl:Ext ρ Φ A H ρ Φ H:=⟨ρ.refl,Φ.refl,fun _ _=>rfl,Nat.le_refl _⟩
theorem Ext.trans (a:Ext ρ Φ A H ρ1 Φ1 H1) (b:Ext ρ1 Φ1 A H1 ρ2 Φ2 H2):Ext ρ Φ A H ρ2 Φ2 H2 :=
 ⟨yP.trans a.rho b.rho,ya.trans a.phi b.phi,fun r hr=>(b.res r hr).trans (a.res r hr),Nat.le_trans a.size b.size⟩
theorem Xu.mono (h1:ρ.le ρ1) (h2:Φ.le Φ1) {z:Nat} {l:List AV} {x:AV} (h:Xu ρ Φ H z l x) (hb:∀ r,blk x=some r→H1.get r=H.get r):Xu ρ1 Φ1 H1 z l x:=by
 obtain⟨hz,h⟩:=h
 refine⟨hz,?_⟩
 rcases h with h | ⟨r,c,k,cs,rfl,hg,hl,he,hk⟩
 ·exact Or.inl h
 ·exact Or.inr ⟨r,c,k,cs,rfl,by rw [hb r rfl];exact hg,hl,he.mono h1 h2 z _ _,hk⟩
theorem Wm.mono (h1:ρ.le ρ1) (h2:Φ.le Φ1) {s:z42} {x:AV} (h:Wm ρ Φ H s x) (hb:∀ r,blk x=some r→H1.get r=H.get r):Wm ρ1 Φ1 H1 s x:=by
 cases s with
 | cells cs =>
  obtain⟨r,z,cs',rfl,hg,hl⟩:=h
  exact⟨r,z,cs',rfl,by rw [hb r rfl];exact hg,hl.mono h1 h2 _ _⟩
 | own z l=>exact Xu.mono h1 h2 h hb
theorem TV0.mono (h1:ρ.le ρ1) (h2:Φ.le Φ1) {y:TV} {x:AV} (h:TV0 ρ Φ σ ω y x):TV0 ρ1 Φ1 σ ω y x:=by
 cases y with
 | v a=>exact RV.mono h1 h2 _ _ h
 | fp e o =>
  obtain⟨r,p,y,rfl,hr,he,ht⟩:=h
  obtain⟨k,z,ds,hp,_⟩:=jO hr
  exact⟨r,p,y,rfl,by rw [h2 _ _ hp,← hp];exact hr,he.mono h1 h2 _ _,ht⟩
 | _=>exact h
theorem TVR.mono (h1:ρ.le ρ1) (h2:Φ.le Φ1) {y:TV} {x:AV} (h:TVR ρ Φ σ ω τ' y x):TVR ρ1 Φ1 σ ω τ' y x:=h.map fun _=>TV0.mono h1 h2
theorem TV0.slots {k:Nat} (hs:∀ j,j≠k→σ1 j=σ j∧lkp ω1 j=lkp ω j) {y:TV} {x:AV} (hk:y.of k=false) (h:TV0 ρ Φ σ ω y x):TV0 ρ Φ σ1 ω1 y x:=by
 cases y with
 | lp j o =>
  simp only [TV.of,Qd,decide_eq_false_iff_not] at hk
  obtain⟨r,h1,h2⟩:=h
  exact⟨r,by rw [(hs j hk).1];exact h1,h2⟩
 | lb j n =>
  simp only [TV.of,Qd,decide_eq_false_iff_not] at hk
  obtain⟨r,h1,h2⟩:=h
  exact⟨r,by rw [(hs j hk).1];exact h1,h2⟩
 | ls j =>
  simp only [TV.of,Qd,decide_eq_false_iff_not] at hk
  simp only [TV0] at h ⊢
  rw [(hs j hk).1];exact h
 | lv j i =>
  simp only [TV.of,Qd,decide_eq_false_iff_not] at hk
  obtain⟨r,n,c,p,c',h1,h2,h3,h4⟩:=h
  exact⟨r,n,c,p,c',by rw [(hs j hk).1];exact h1,h2,h3,fun z l e=>h4 z l (by rw [← (hs j hk).2];exact e)⟩
 | lq j i o =>
  simp only [TV.of,Qd,decide_eq_false_iff_not] at hk
  obtain⟨r,n,c,p,h1,h2,h3⟩:=h
  exact⟨r,n,c,p,by rw [(hs j hk).1];exact h1,h2,fun z l e=>h3 z l (by rw [← (hs j hk).2];exact e)⟩
 | _=>exact h
theorem TVR.purge {k:Nat} (hs:∀ j,j≠k→σ1 j=σ j∧lkp ω1 j=lkp ω j) {y:TV} {x:AV} (h:TVR ρ Φ σ ω τ' y x):TVR ρ Φ σ1 ω1 τ' (z0B k y) x:=by
 unfold z0B
 cases hk:y.of k with
 | true=>exact RV.undef (ρ:=ρ) (Φ:=Φ) x
 | false =>
  cases y with
  | gd t w y0=>exact fun hw=>TV0.slots hs hk (h hw)
  | v a=>exact TV0.slots (ρ:=ρ) (Φ:=Φ) (y:=.v a) hs hk h
  | lp k o=>exact TV0.slots (ρ:=ρ) (Φ:=Φ) (y:=.lp k o) hs hk h
  | ls k=>exact TV0.slots (ρ:=ρ) (Φ:=Φ) (y:=.ls k) hs hk h
  | lq k i o=>exact TV0.slots (ρ:=ρ) (Φ:=Φ) (y:=.lq k i o) hs hk h
  | lb k n=>exact TV0.slots (ρ:=ρ) (Φ:=Φ) (y:=.lb k n) hs hk h
  | lv k n=>exact TV0.slots (ρ:=ρ) (Φ:=Φ) (y:=.lv k n) hs hk h
  | fp e o=>exact TV0.slots (ρ:=ρ) (Φ:=Φ) (y:=.fp e o) hs hk h
theorem TV0.turn (hs:∀ k z l,lkp ω1 k=some (.own z l)→∃ l',lkp ω k=some (.own z l')) {y:TV} {x:AV} (h:TV0 ρ Φ σ ω y x):TV0 ρ Φ σ ω1 y x:=by
 cases y with
 | lv j i =>
  obtain⟨r,n,c,p,c',h1,h2,h3,h4⟩:=h
  exact⟨r,n,c,p,c',h1,h2,h3,fun z l e=>let ⟨l',e'⟩:=hs j z l e;h4 z l' e'⟩
 | lq j i o =>
  obtain⟨r,n,c,p,h1,h2,h3⟩:=h
  exact⟨r,n,c,p,h1,h2,fun z l e=>let ⟨l',e'⟩:=hs j z l e;h3 z l' e'⟩
 | _=>exact h
theorem TVR.turn (hs:∀ k z l,lkp ω1 k=some (.own z l)→∃ l',lkp ω k=some (.own z l')) {y:TV} {x:AV} (h:TVR ρ Φ σ ω τ' y x):TVR ρ Φ σ ω1 τ' y x:=h.map fun _=>TV0.turn hs
theorem z0D {τ':Tau} {d t:Nat} {w:Bool} {x:AV} (h:t≠d):za (τ'.set d x) (some (t,w))=za τ' (some (t,w)):=by
 unfold za
 simp only [List.getElem?_set_ne (Ne.symm h)]
theorem TVR.set {d:Nat} {x0:AV} {y:TV} {x:AV} (h:TVR ρ Φ σ ω τ' y x):TVR ρ Φ σ ω (τ'.set d x0) (z2X d y) x:=by
 cases y with
 | gd t w y0 =>
  unfold z2X
  simp only [Qd]
  by_cases e:t=d
  ·simp only [e,decide_true];exact RV.undef (ρ:=ρ) (Φ:=Φ) x
  ·simp only [e,decide_false]
   intro hw
   rw [z0D e] at hw
   exact h hw
 | _=>exact h
theorem z8J (τ':Tau) (d t:Nat) (x:AV) (h:d < τ'.length):(τ'.set d x).getD t z4=if t=d then x else τ'.getD t z4:=by
 simp only [List.getD_eq_getElem?_getD,List.getElem?_set]
 by_cases e:d=t
 ·subst e;simp [h]
 ·simp [e,Ne.symm e]
theorem z9V {o:Option Nat} (hd:∀ d,o=some d→d < τ'.length) (h:∀ t,TVR ρ Φ σ ω τ' (xE τ t) (τ'.getD t z4)) {y:TV} {x:AV} (hy:∀ d,o=some d→TVR ρ Φ σ ω (τ'.set d x) y x) :
  ∀ t,TVR ρ Φ σ ω (τ'.put o x) (xE (xA τ o y) t) ((τ'.put o x).getD t z4):=by
 intro t
 cases o with
 | none=>exact h t
 | some d =>
  show TVR ρ Φ σ ω (τ'.set d x) _ _
  rw [z74]
  show TVR ρ Φ σ ω (τ'.set d x) _ ((τ'.set d x).getD t z4)
  rw [z8J _ _ _ _ (hd d rfl)]
  by_cases e:t=d
  ·simp only [e,if_true];exact hy d rfl
  ·simp only [e,if_false];exact(h t).set
theorem z1P {k:Nat} (hs:∀ j,j≠k→σ1 j=σ j∧lkp ω1 j=lkp ω j) (h:∀ t,TVR ρ Φ σ ω τ' (xE τ t) (τ'.getD t z4)) :
  ∀ t,TVR ρ Φ σ1 ω1 τ' (xE (purge k τ) t) (τ'.getD t z4):=fun t=>by rw [z0C];exact(h t).purge hs
theorem Fr.opd (h:Fr ρ Φ A σ τ ω Q τ' H nt) {g:Option (Nat × Bool)} (hg:za τ' g=true) (x:AX):TV0 ρ Φ σ ω (atT τ g x) (τ'.at x):=by
 cases x with
 | c a =>
  unfold atT
  simp only [Tau.at]
  cases hc:cOk a with
  | true=>exact z2W a hc
  | false=>exact RV.undef (ρ:=ρ) (Φ:=Φ) a
 | t n =>
  have ht:=h.tmp n
  unfold atT
  simp only [Tau.at]
  cases hy:xE τ n with
  | gd t w y0 =>
   rw [hy] at ht
   simp only [zaZ]
   cases g with
   | none=>exact RV.undef (ρ:=ρ) (Φ:=Φ) (τ'.getD n z4)
   | some q =>
    obtain⟨t',w'⟩:=q
    simp only [Qd]
    by_cases e:t=t'
    ·subst e
     cases w<;>cases w'<;>simp only [decide_true]<;>first | exact ht hg | exact RV.undef (ρ:=ρ) (Φ:=Φ) (τ'.getD n z4)
    ·simp only [e,decide_false];exact RV.undef (ρ:=ρ) (Φ:=Φ) (τ'.getD n z4)
  | _=>rw [hy] at ht;simp only [zaZ];exact ht
theorem TV0.val {y:TV} {x:AV} (h:TV0 ρ Φ σ ω y x):RV ρ Φ y.val x:=by
 cases y<;>first | exact h | exact RV.undef (ρ:=ρ) (Φ:=Φ) x
theorem Fr.val (h:Fr ρ Φ A σ τ ω Q τ' H nt) {g:Option (Nat × Bool)} (hg:za τ' g=true) (x:AX):RV ρ Φ (atT τ g x).val (τ'.at x):=(h.opd hg x).val
theorem Fr.vals (h:Fr ρ Φ A σ τ ω Q τ' H nt) {g:Option (Nat × Bool)} (hg:za τ' g=true):∀ l:List AX,RL ρ Φ (l.map fun y=>(atT τ g y).val) (l.map τ'.at)
 | []=>RL.nil'
 | x::l=>RL.cons (h.val hg x) (h.vals hg l)
theorem Fr.guard (h:Fr ρ Φ A σ τ ω Q τ' H nt) {t:Nat} {w b:Bool} (hb:gV τ t=.bool b):za τ' (some (t,w))=(b == w):=by
 have ht:=h.tmp t
 unfold gV at hb
 cases hy:xE τ t with
 | v a =>
  rw [hy] at hb ht
  simp only [TV.val] at hb
  subst hb
  simp only [TVR,TV0,RV] at ht
  unfold za
  rw [List.getD_eq_getElem?_getD] at ht
  cases e:τ'[t]? with
  | none=>rw [e] at ht;simp [z4] at ht
  | some a=>rw [e] at ht;simp at ht;subst ht;simp only [e]
 | _=>rw [hy] at hb;simp [TV.val,z4] at hb
theorem Fr.guardSk (h:Fr ρ Φ A σ τ ω Q τ' H nt) {t:Nat} {w:Bool} (hb:gV τ t=.sk):za τ' (some (t,w))=false:=by
 have ht:=h.tmp t
 unfold gV at hb
 cases hy:xE τ t with
 | v a =>
  rw [hy] at hb ht
  simp only [TV.val] at hb
  subst hb
  simp only [TVR,TV0,RV] at ht
  unfold za
  rw [List.getD_eq_getElem?_getD] at ht
  cases e:τ'[t]? with
  | none=>simp only [e]
  | some a=>rw [e] at ht;simp at ht;subst ht;simp only [e,z4]
 | _=>rw [hy] at hb;simp [TV.val,z4] at hb
theorem Rel.cell (h:Rel ρ Φ A Q H) {r o:Nat} {a x:AV} (hp:RV ρ Φ (.ptr r o) x) (hc:Q.cell r o=some a):∃ r' y,x=.ptr r' o∧H.cell r' o=some y∧RV ρ Φ a y:=by
 simp only [RV] at hp
 obtain⟨r',hr,rfl⟩:=hp
 unfold z3.cell at hc
 split at hc
 ·rename_i k z cs hg
  obtain⟨s,_,hs,hg',_,cs',rfl,hl⟩:=h.obj r _ hg
  rw [hr] at hs
  obtain rfl:=Option.some.inj hs
  obtain⟨y,hy,hv⟩:=hl.get hc
  exact⟨r',y,rfl,by unfold z3.cell;rw [hg'];exact hy,hv⟩
 ·cases hc
theorem Rel.row (h:Rel ρ Φ A Q H) {r o n:Nat} {cs:List AV} {x:AV} (hp:RV ρ Φ (.ptr r o) x) (hc:Q.row r o n=some cs):∃ r' ys,x=.ptr r' o∧H.row r' o n=some ys∧RL ρ Φ cs ys:=by
 simp only [RV] at hp
 obtain⟨r',hr,rfl⟩:=hp
 unfold z3.row at hc
 split at hc
 ·rename_i k z cs hg
  obtain⟨s,_,hs,hg',_,cs',rfl,hl⟩:=h.obj r _ hg
  rw [hr] at hs
  obtain rfl:=Option.some.inj hs
  split at hc
  ·rename_i hle
   obtain rfl:=Option.some.inj hc
   exact⟨r',_,rfl,by unfold z3.row;rw [hg'];simp only [hl.length,hle,if_true],(hl.drop o).take n⟩
  ·cases hc
 ·cases hc
end
end Go.Ab
namespace Go.Ab
section
variable {ρ:yP} {Φ:ya} {H:z3}
theorem RV.int_inv {k:IntKind} {n:Int} {x:AV} (h:RV ρ Φ (.int k n) x):x=.int k n:=by simpa only [RV] using h
theorem RV.str_inv {s:List UInt8} {x:AV} (h:RV ρ Φ (.str s) x):x=.str s:=by simpa only [RV] using h
theorem RV.bool_inv {b:Bool} {x:AV} (h:RV ρ Φ (.bool b) x):x=.bool b:=by simpa only [RV] using h
theorem RV.agg_inv {l:List AV} {x:AV} (h:RV ρ Φ (.agg l) x):∃ m,x=.agg m∧RL ρ Φ l m:=by simpa only [RV] using h
theorem RV.agg {l m:List AV} (h:RL ρ Φ l m):RV ρ Φ (.agg l) (.agg m):=by simp only [RV];exact⟨m,rfl,h⟩
theorem RV.fz_inv {z:Nat} {l:List AV} {x:AV} (h:RV ρ Φ (.fz z l) x):∃ cs,FzV Φ z l.length x cs∧RE ρ Φ z l cs:=by simpa only [RV] using h
theorem RV.fz {z:Nat} {l cs:List AV} {x:AV} (h1:FzV Φ z l.length x cs) (h2:RE ρ Φ z l cs):RV ρ Φ (.fz z l) x:=by simp only [RV];exact⟨cs,h1,h2⟩
theorem RV.flat {a:AV} (h:cOk a=true):RV ρ Φ a a:=z2W a h
theorem z9W {c a b c' a' b' v:AV} (hc:RV ρ Φ c c') (ha:RV ρ Φ a a') (hb:RV ρ Φ b b') (h:zr c a b=some v):∃ v',zr c' a' b'=some v'∧RV ρ Φ v v':=by
 unfold zr at h
 split at h
 ·obtain rfl:=Option.some.inj h
  rw [hc.bool_inv];exact⟨a',rfl,ha⟩
 ·obtain rfl:=Option.some.inj h
  rw [hc.bool_inv];exact⟨b',rfl,hb⟩
 ·cases h
theorem z60:∀ (ps:List (Nat × Nat × AX)) (f:AX→AV) (f':AX→AV) {cs cs' out:List AV},(∀ x,RV ρ Φ (f x) (f' x))→RL ρ Φ cs cs'→vT cs (ps.map fun p=>(p.1,p.2.1,f p.2.2))=some out →
  ∃ out',q7 cs' (ps.map fun(o,s,x)=>(o,s,f' x))=some out'∧RL ρ Φ out out'
 | [],f,f',cs,cs',out,hf,hc,h=>by
  simp only [List.map_nil,vT,Option.some.injEq] at h
  subst h
  exact⟨cs',rfl,hc⟩
 | (o,s,x)::ps,f,f',cs,cs',out,hf,hc,h=>by
  simp only [List.map_cons,vT] at h
  split at h
  ·cases h
  ·rename_i ht
   split at h
   ·rename_i hcond
    obtain⟨h1,h2⟩:=(hf x).cells ht
    have hl:=h1.length
    obtain⟨out',e,r⟩:=z60 ps f f' hf (hc.splice o h1) h
    refine⟨out',?_,r⟩
    simp only [List.map_cons,q7]
    rw [if_pos ⟨by rw [hl];exact hcond.1,by rw [hc.length];exact hcond.2,h2⟩]
    exact e
   ·cases h
theorem z4g {op:BinOp} {k:IntKind} {a b:Int} {v:AV} (h:Yd op k a b=some v):cOk v=true:=by
 unfold Yd at h
 split at h
 all_goals first
  | (obtain rfl:=Option.some.inj h;rfl)
  | (split at h<;>first | (cases h;done) | (obtain rfl:=Option.some.inj h;rfl))
  | cases h
theorem z0E {op:BinOp} {k:IntKind} {a b:Int} {v:AV} (h:z01 op k a b=some v):cOk v=true:=by
 unfold z01 at h
 split at h
 ·cases h
 ·split at h<;>first | (obtain rfl:=Option.some.inj h;rfl) | cases h
theorem z8K {op:BinOp} {a b:List UInt8} {v:AV} (h:z7q op a b=some v):cOk v=true:=by
 unfold z7q at h
 split at h
 all_goals first
  | (obtain rfl:=Option.some.inj h;rfl)
  | (split at h<;>first | (cases h;done) | (obtain rfl:=Option.some.inj h;rfl))
  | cases h
theorem zb4 {op:BinOp} {a b a' b' v:AV} (ha:RV ρ Φ a a') (hb:RV ρ Φ b b') (h:zc op a b=some v):∃ v',zc op a' b'=some v'∧RV ρ Φ v v':=by
 have key:a'=a∧b'=b∧cOk v=true:=by
  unfold zc at h
  split at h
  ·exact⟨ha.int_inv,hb.int_inv,z0E h⟩
  ·exact⟨ha.int_inv,hb.int_inv,z0E h⟩
  ·split at h
   ·exact⟨ha.int_inv,hb.int_inv,z4g h⟩
   ·cases h
  ·exact⟨ha.str_inv,hb.str_inv,z8K h⟩
  ·cases h
 obtain⟨rfl,rfl,hv⟩:=key
 exact⟨v,h,RV.flat hv⟩
theorem WW {l m:List AV} {o:Nat} {n:Option Nat} {v:AV} (hl:RL ρ Φ l m) (h:jS l o n=some v):∃ v',jS m o n=some v'∧RV ρ Φ v v':=by
 cases n with
 | none=>exact hl.get h
 | some n =>
  simp only [jS] at h ⊢
  split at h
  ·rename_i hle
   obtain rfl:=Option.some.inj h
   rw [if_pos (by rw [hl.length];exact hle)]
   exact⟨_,rfl,RV.agg ((hl.drop o).take n)⟩
  ·cases h
mutual
theorem z0F:∀ (q:EqT) (a b a' b':AV) (r:Bool),RV ρ Φ a a'→RV ρ Φ b b'→eqA q a b=some r→eqA q a' b'=some r
 | .b,a,b,a',b',r,ha,hb,h=>by
  cases a<;>cases b<;>simp only [eqA] at h<;>first | (cases h;done) | skip
  rw [ha.bool_inv,hb.bool_inv];simpa only [eqA] using h
 | .i,a,b,a',b',r,ha,hb,h=>by
  cases a<;>cases b<;>simp only [eqA] at h<;>first | (cases h;done) | skip
  rw [ha.int_inv,hb.int_inv];simpa only [eqA] using h
 | .s,a,b,a',b',r,ha,hb,h=>by
  cases a<;>cases b<;>simp only [eqA] at h<;>first | (cases h;done) | skip
  rw [ha.str_inv,hb.str_inv];simpa only [eqA] using h
 | .st fs,a,b,a',b',r,ha,hb,h=>by
  cases a<;>cases b<;>simp only [eqA] at h<;>first | (cases h;done) | skip
  obtain⟨m,rfl,hm⟩:=ha.agg_inv
  obtain⟨m',rfl,hm'⟩:=hb.agg_inv
  simp only [eqA]
  exact z8L fs _ _ m m' r hm hm' h
theorem z8L:∀ (fs:List (Nat × Nat × EqT)) (a b a' b':List AV) (r:Bool),RL ρ Φ a a'→RL ρ Φ b b'→eqF fs a b=some r→eqF fs a' b'=some r
 | [],a,b,a',b',r,ha,hb,h=>by simpa only [eqF] using h
 | (o,n,q)::fs,a,b,a',b',r,ha,hb,h=>by
  simp only [eqF] at h ⊢
  split at h
  ·rename_i x y hx hy
   obtain⟨x',hx',rx⟩:=WW ha hx
   obtain⟨y',hy',ry⟩:=WW hb hy
   rw [hx',hy']
   simp only []
   split at h
   ·rename_i he
    rw [z0F q x y x' y' _ rx ry he]
    exact z8L fs a b a' b' r ha hb h
   ·rename_i he
    rw [z0F q x y x' y' _ rx ry he]
    exact h
   ·cases h
  ·cases h
end
theorem zb5 {neg:Bool} {q:EqT} {a b a' b' v:AV} (ha:RV ρ Φ a a') (hb:RV ρ Φ b b') (h:Jd neg q a b=some v):∃ v',Jd neg q a' b'=some v'∧RV ρ Φ v v':=by
 unfold Jd at h ⊢
 obtain⟨r,hr,rfl⟩:=Option.map_eq_some_iff.1 h
 rw [z0F q a b a' b' r ha hb hr]
 exact⟨_,rfl,RV.flat rfl⟩
theorem zb6 {neg : Bool} {c : Nat} {a a' v : AV} (ha : RV ρ Φ a a') (h : zb0 neg c a = some v) : ∃ v', z0P neg c a' = some v' ∧ RV ρ Φ v v' := by
  have fin : ∀ b, v = .bool b → z02 c a' = some (b ^^ neg) → ∃ v', z0P neg c a' = some v' ∧ RV ρ Φ v v' := fun b e hn => by
    subst e
    unfold z0P
    rw [hn]
    exact ⟨_, rfl, by cases b <;> cases neg <;> exact RV.flat rfl⟩
  unfold zb0 at h
  split at h
  · rename_i z e l
    split at h
    · obtain rfl := Option.some.inj h
      obtain ⟨cs, hf, _⟩ := ha.fz_inv
      refine fin _ rfl ?_
      unfold FzV at hf
      split at hf
      · simp at hf
      · cases neg <;> rfl
      · simp at hf
      · exact hf.elim
    · cases h
  · split at h
    · obtain rfl := Option.some.inj h
      simp only [RV] at ha
      obtain ⟨r', _, rfl⟩ := ha
      exact fin _ rfl (by cases neg <;> rfl)
    · cases h
  · split at h
    · obtain rfl := Option.some.inj h
      simp only [RV] at ha
      obtain ⟨y, rfl, _⟩ := ha
      exact fin _ rfl (by cases neg <;> rfl)
    · cases h
  · split at h
    · obtain rfl := Option.some.inj h
      simp only [RV] at ha
      obtain ⟨y, z, rfl, _⟩ := ha
      exact fin _ rfl (by cases neg <;> rfl)
    · cases h
  all_goals first
    | (split at h
       · obtain rfl := Option.some.inj h
         simp only [RV] at ha
         obtain ⟨r', _, rfl⟩ := ha
         exact fin _ rfl (by cases neg <;> rfl)
       · cases h)
    | (split at h
       · obtain rfl := Option.some.inj h
         simp only [RV] at ha
         subst ha
         exact fin _ rfl (by cases neg <;> rfl)
       · cases h)
    | cases h
theorem z61 {q:EqT} {k k':AV} (hk:RV ρ Φ k k'):∀ {es es':List (AV × AV)} {r:Option AV},RM ρ Φ es es'→z04 q k es=some r→∃ r',z04 q k' es'=some r'∧((r=none∧r'=none)∨∃ v v',r=some v∧r'=some v'∧RV ρ Φ v v')
 | [],es',r,he,h=>by
  obtain rfl:es'=[]:=he
  cases h
  exact⟨none,rfl,.inl ⟨rfl,rfl⟩⟩
 | (a,v)::es,es',r,he,h=>by
  obtain⟨a',v',l',rfl,h1,h2,h3⟩:=he
  simp only [z04] at h ⊢
  cases hq:eqA q k a with
  | none=>simp [hq] at h
  | some b =>
   rw [z0F q k a k' a' b hk h1 hq]
   cases b with
   | true=>simp [hq] at h;subst h;exact⟨_,rfl,.inr ⟨v,v',rfl,rfl,h2⟩⟩
   | false=>simp only [hq] at h;exact z61 hk h3 h
theorem z8M {q:EqT} {k k' v v':AV} (hk:RV ρ Φ k k') (hv:RV ρ Φ v v'):∀ {es es' r:List (AV × AV)},RM ρ Φ es es'→z4X q k v es=some r→∃ r',z4X q k' v' es'=some r'∧RM ρ Φ r r'
 | [],es',r,he,h=>by
  obtain rfl:es'=[]:=he
  cases h
  exact⟨_,rfl,_,_,_,rfl,hk,hv,rfl⟩
 | (a,w)::es,es',r,he,h=>by
  obtain⟨a',w',l',rfl,h1,h2,h3⟩:=he
  simp only [z4X] at h ⊢
  cases hq:eqA q k a with
  | none=>simp [hq] at h
  | some b =>
   rw [z0F q k a k' a' b hk h1 hq]
   cases b with
   | true=>simp [hq] at h;subst h;exact⟨_,rfl,_,_,_,rfl,hk,hv,h3⟩
   | false =>
    simp only [hq] at h
    obtain⟨r2,h4,rfl⟩:=Option.map_eq_some_iff.1 h
    obtain⟨r3,h5,h6⟩:=z8M hk hv h3 h4
    exact⟨_,by simp only [h5,Option.map_some],_,_,_,rfl,h1,h2,h6⟩
theorem RM.length:∀ {es es':List (AV × AV)},RM ρ Φ es es'→es'.length=es.length
 | [],es',h=>by obtain rfl:es'=[]:=h;rfl
 | (a,v)::es,es',h=>by obtain⟨_,_,l',rfl,_,_,h3⟩:=h;simp [RM.length h3]
theorem z4h {z:AV} {ok:Bool} {r r':Option AV} (hz:cOk z=true) (h:(r=none∧r'=none)∨∃ v v',r=some v∧r'=some v'∧RV ρ Φ v v'):RV ρ Φ (Ju z ok r) (Ju z ok r'):=by
 have tup2:∀ {x y:AV} {b:Bool},RV ρ Φ x y→RV ρ Φ (.tup [x,.bool b]) (.tup [y,.bool b]):=fun hx=>by
  simp only [RV]
  exact⟨_,rfl,RL.cons hx (RL.cons (RV.flat rfl) RL.nil')⟩
 rcases h with ⟨rfl,rfl⟩ | ⟨v,v',rfl,rfl,hv⟩
 ·cases ok
  ·exact RV.flat hz
  ·exact tup2 (RV.flat hz)
 ·cases ok
  ·exact hv
  ·exact tup2 hv
theorem z8N {r:Nat} {x':AV} {Q H:z3} {A:Nat→Prop} (hR:Rel ρ Φ A Q H) (hx:RV ρ Φ (.mp r) x') {es:List (AV × AV)} (hg:Q.get r=some (.mapo es)):∃ r' es',ρ r=some r'∧x'=.mp r'∧H.get r'=some (.mapo es')∧RM ρ Φ es es':=by
 simp only [RV] at hx
 obtain⟨r',hr,rfl⟩:=hx
 obtain⟨s,o',h1,h2,h3⟩:=hR.obj r _ hg
 rw [hr] at h1
 cases h1
 obtain⟨es',rfl,h4⟩:=h3
 exact⟨r',es',hr,rfl,h2,h4⟩
theorem zb7 {Q H:z3} {A:Nat→Prop} (hR:Rel ρ Φ A Q H) {q:EqT} {z x x' k k' v:AV} {ok:Bool} (hz:cOk z=true) (hx:RV ρ Φ x x') (hk:RV ρ Φ k k') (h:Vd Q q z ok x k=some v):∃ v',Vd H q z ok x' k'=some v'∧RV ρ Φ v v':=by
 unfold Vd at h
 split at h
 ·rename_i r
  split at h
  ·rename_i es hg
   obtain⟨f,hf,rfl⟩:=Option.map_eq_some_iff.1 h
   obtain⟨r',es',_,rfl,hg',hm⟩:=z8N hR hx hg
   obtain⟨f',hf',hd⟩:=z61 hk hm hf
   exact⟨_,by simp only [Vd,hg',hf',Option.map_some],z4h hz hd⟩
  ·cases h
 ·cases h
  simp only [RV] at hx
  subst hx
  exact⟨_,rfl,z4h hz (.inl ⟨rfl,rfl⟩)⟩
 ·cases h
theorem zb8 {Q H:z3} {A:Nat→Prop} (hR:Rel ρ Φ A Q H) {x x' v:AV} (hx:RV ρ Φ x x') (h:z10 Q x=some v):∃ v',z10 H x'=some v'∧RV ρ Φ v v':=by
 unfold z10 at h
 split at h
 ·rename_i r
  split at h
  ·rename_i es hg
   cases h
   obtain⟨r',es',_,rfl,hg',hm⟩:=z8N hR hx hg
   exact⟨.int .i64 es.length,by simp only [z10,hg',hm.length],RV.flat rfl⟩
  ·cases h
 ·cases h
  simp only [RV] at hx
  subst hx
  exact⟨_,rfl,RV.flat rfl⟩
 ·cases h
theorem zcV {op:UnOp} {a a' v:AV} (ha:RV ρ Φ a a') (h:unA op a=some v):∃ v',unA op a'=some v'∧RV ρ Φ v v':=by
 have key:a'=a∧cOk v=true:=by
  unfold unA at h
  split at h
  ·obtain rfl:=Option.some.inj h;exact⟨ha.int_inv,rfl⟩
  ·exact⟨ha.int_inv,z4g h⟩
  ·obtain rfl:=Option.some.inj h;exact⟨ha.bool_inv,rfl⟩
  ·cases h
 obtain⟨rfl,hv⟩:=key
 exact⟨v,h,RV.flat hv⟩
theorem zb9 {k:IntKind} {a a' v:AV} (ha:RV ρ Φ a a') (h:z0Q k a=some v):∃ v',z0Q k a'=some v'∧RV ρ Φ v v':=by
 unfold z0Q at h
 split at h
 ·obtain rfl:=Option.some.inj h
  rw [ha.int_inv];exact⟨_,rfl,RV.flat rfl⟩
 ·cases h
theorem zba {a a' v:AV} (ha:RV ρ Φ a a') (h:z7j a=some v):∃ v',z7j a'=some v'∧RV ρ Φ v v':=by
 unfold z7j at h
 split at h
 ·obtain rfl:=Option.some.inj h
  rw [ha.str_inv];exact⟨_,rfl,RV.flat rfl⟩
 ·cases h
theorem z9X {a a' v:AV} (ha:RV ρ Φ a a') (h:Ww a=some v):∃ v',Ww a'=some v'∧RV ρ Φ v v':=by
 unfold Ww at h
 split at h
 ·obtain rfl:=Option.some.inj h
  rw [ha.str_inv];exact⟨_,rfl,RV.flat rfl⟩
 ·cases h
theorem zbb {a a' v:AV} (ha:RV ρ Φ a a') (h:km a=some v):∃ v',z0R a'=some v'∧RV ρ Φ v v':=by
 unfold km at h
 split at h
 ·obtain rfl:=Option.some.inj h
  simp only [RV] at ha
  subst ha
  exact⟨_,rfl,RV.flat rfl⟩
 ·rename_i z l
  obtain rfl:=Option.some.inj h
  obtain⟨cs,hf,_⟩:=ha.fz_inv
  unfold FzV at hf
  split at hf
  ·exact⟨.int .i64 0,rfl,by rw [hf.1];exact RV.flat rfl⟩
  ·exact⟨_,rfl,by rw [hf.1];exact RV.flat rfl⟩
  ·exact⟨.int .i64 0,rfl,by rw [hf.1];exact RV.flat rfl⟩
  ·exact hf.elim
 ·obtain rfl:=Option.some.inj h
  simp only [RV] at ha
  obtain⟨r',_,rfl,_⟩:=ha
  exact⟨_,rfl,RV.flat rfl⟩
 ·cases h
abbrev Fro (Φ:ya) (H:z3):Prop:=∀ r o,Φ r=some o→H.get r=some o
theorem Fro.row (hF:Fro Φ H) {r p n:Nat} {cs:List AV} (h:Zw (Φ r) p n=some cs):H.row r p n=some cs:=by
 obtain⟨k,z,ds,e,_⟩:=jO h
 rw [qT,hF _ _ e,← e];exact h
theorem JW:∀ {l cs:List AV} {bs:List UInt8},RE ρ Φ 1 l cs→zO Zc l=some bs→zO Zc cs=some bs
 | [],cs,bs,h,hb=>by rw [h.nil];exact hb
 | e::l,cs,bs,h,hb=>by
  obtain⟨x,b,rfl,h1,_,_,h4,h5⟩:=h.uncons
  obtain⟨y,ys,hy,hys,rfl⟩:=mapO_cons' hb
  have key:x=e∧e.cells=[e]:=by
   unfold Zc at hy
   split at hy
   ·exact⟨h4.int_inv,rfl⟩
   ·cases hy
  rw [key.1,key.2]
  show zO Zc (e::b)=_
  simp only [zO,hy,JW h5 hys]
where
 mapO_cons' {α β:Type} {f:α→Option β} {x:α} {l:List α} {m:List β} (h:zO f (x::l)=some m):∃ y ys,f x=some y∧zO f l=some ys∧m=y::ys:=by
  simp only [zO] at h
  cases h1:f x with
  | none=>simp [h1] at h
  | some y=>cases h2:zO f l with
   | none=>simp [h1,h2] at h
   | some ys=>simp [h1,h2] at h;exact⟨y,ys,rfl,rfl,h.symm⟩
theorem zbc (hF:Fro Φ H) {a a' v:AV} (ha:RV ρ Φ a a') (h:z8E a=some v):∃ v',z7k H a'=some v'∧RV ρ Φ v v':=by
 unfold z8E at h
 split at h
 ·obtain rfl:=Option.some.inj h
  simp only [RV] at ha
  subst ha
  exact⟨_,rfl,RV.flat rfl⟩
 ·rename_i l
  obtain⟨bs,hb,rfl⟩:=Option.map_eq_some_iff.1 h
  obtain⟨cs,hf,he⟩:=ha.fz_inv
  have hbs:=JW he hb
  unfold FzV at hf
  split at hf
  ·rw [hf.2] at hbs;simp [zO] at hbs;subst hbs;exact⟨_,rfl,RV.flat rfl⟩
  ·obtain⟨rfl,h2,_⟩:=hf
   rw [Nat.mul_one] at h2
   refine⟨.str bs,?_,RV.flat rfl⟩
   simp only [z7k,hF.row h2,hbs]
  ·rw [hf.2.1] at hbs;simp [zO] at hbs;subst hbs;exact⟨_,rfl,RV.flat rfl⟩
  ·exact hf.elim
 ·cases h
theorem Wn:∀ {l cs:List AV} {bs:List UInt8},RL ρ Φ l cs→zO Zc l=some bs→zO Zc cs=some bs
 | [],cs,bs,h,hb=>by rw [h.nil];exact hb
 | e::l,cs,bs,h,hb=>by
  obtain⟨x,b,rfl,h1,h2⟩:=h.uncons
  obtain⟨y,ys,hy,hys,rfl⟩:=JW.mapO_cons' hb
  have key:x=e:=by
   unfold Zc at hy
   split at hy
   ·exact h1.int_inv
   ·cases hy
  rw [key]
  simp only [zO,hy,Wn h2 hys]
theorem z9Y {r n:Nat} {l ys:List AV} {v:AV} (hr:H.row r 0 n=some ys) (hv:RL ρ Φ l ys) (h:z8E (.fz 1 l)=some v):∃ v',z7k H (.sl r 0 n (.mi 0))=some v'∧RV ρ Φ v v':=by
 obtain⟨bs,hb,rfl⟩:=Option.map_eq_some_iff.1 h
 exact⟨.str bs,by simp only [z7k,hr,Wn hv hb],RV.flat rfl⟩
theorem zbd {a a':AV} {t n:Nat} (ha:RV ρ Φ a a') (h:bnd a t=some n):bnd a' t=some n:=by
 have:a'=a:=by
  unfold bnd at h
  split at h
  ·exact ha.int_inv
  ·cases h
 rw [this];exact h
theorem J5 {x:Option AX} {f f':AX→AV} {d t n:Nat} (hf:∀ x,RV ρ Φ (f x) (f' x)) (h:yh (x.map f) d t=some n):yh (x.map f') d t=some n:=by
 cases x with
 | none=>exact h
 | some y=>exact zbd (hf y) h
theorem zbe {a:AV} {t n:Nat} (h:bnd a t=some n):n≤t:=by
 unfold bnd at h
 split at h
 ·split at h
  ·rename_i hc;obtain rfl:=Option.some.inj h;omega
  ·cases h
 ·cases h
theorem z62 {a:Option AV} {d t n:Nat} (hd:d≤t) (h:yh a d t=some n):n≤t:=by
 cases a with
 | none=>simp [yh] at h;omega
 | some y=>exact zbe h
theorem zbf {a:AV} {t t' n:Nat} (h:bnd a t=some n) (ht:t≤t'):bnd a t'=some n:=by
 unfold bnd at h ⊢
 split at h
 ·split at h
  ·rw [if_pos (by omega)];exact h
  ·cases h
 ·cases h
theorem z9Z {a:Option AV} {d t t' n:Nat} (h:yh a d t=some n) (ht:t≤t'):yh a d t'=some n:=by
 cases a with
 | none=>exact h
 | some y=>exact zbf h ht
theorem z75 (H:z3) (z r len:Nat) (c:kb) (hc:∀ q,c=.ex q→len≤q):len≤yT H z r len c:=by
 cases c with
 | ex q=>exact hc q rfl
 | mi k =>
  unfold yT
  simp only
  split
  ·split
   ·exact Nat.le_max_left _ _
   ·exact Nat.le_refl _
  ·exact Nat.le_refl _
theorem V1 {o:Option zF} {p n:Nat} {cs:List AV} (h:Zw o p n=some cs) {i j:Nat} (hij:i+j≤n):Zw o (p+i) j=some ((cs.drop i).take j):=by
 obtain⟨k,z,ds,rfl,hl,rfl,_⟩:=jO h
 simp only [Zw]
 rw [if_pos (by omega),List.drop_take,List.take_take,List.drop_drop]
 congr 2
 omega
theorem zbg (hF:Fro Φ H) {z:Nat} {a a' v:AV} {lo hi:Option AX} {f f':AX→AV} (hf:∀ x,RV ρ Φ (f x) (f' x)) (ha:RV ρ Φ a a') (h:WN z a (lo.map f) (hi.map f)=some v) :
  ∃ v',x8 H z a' (lo.map f') (hi.map f') none=some v'∧RV ρ Φ v v':=by
 unfold WN at h
 split at h
 ·split at h
  ·cases h
  ·rename_i hb hh
   split at h
   ·cases h
   ·rename_i hl
    obtain rfl:=Option.some.inj h
    simp only [RV] at ha
    subst ha
    refine⟨.nils,?_,RV.flat rfl⟩
    unfold x8 ke
    simp [J5 hf hh,J5 hf hl]
 ·rename_i z' l
  split at h
  case isFalse=>cases h
  rename_i hz
  obtain⟨rfl,hz0⟩:=hz
  split at h
  ·cases h
  ·rename_i hb hh
   split at h
   ·cases h
   ·rename_i lb hl
    obtain rfl:=Option.some.inj h
    have hh2:=J5 (f':=f') hf hh
    have hl2:=J5 (f':=f') hf hl
    have hbl:=z62 (Nat.le_refl _) hh
    have hlb:=z62 (Nat.zero_le _) hl
    obtain⟨cs,hfz,he⟩:=ha.fz_inv
    have hlen:=he.length
    have he2:=(he.take hb).drop lb
    have hle:((l.take hb).drop lb).length=hb - lb:=by simp;omega
    unfold FzV at hfz
    split at hfz
    ·obtain⟨h0,rfl⟩:=hfz
     rw [h0] at hh2 hbl
     obtain rfl:hb=0:=by omega
     obtain rfl:lb=0:=by omega
     refine⟨.nils,by unfold x8 ke;simp [hh2,hl2],RV.fz (cs:=[]) ⟨by simp,rfl⟩ ?_⟩
     simpa using he2
    ·rename_i r o m c
     obtain⟨rfl,hrow,hc⟩:=hfz
     have hcap:=z75 H z' r l.length c hc
     have hh3:=z9Z hh2 hcap
     have hsub:Zw (Φ r) (o+lb * z') ((hb - lb) * z')=some (((cs.take (hb * z')).drop (lb * z'))):=by
      rw [V1 hrow (i:=lb * z') (j:=(hb - lb) * z') (by rw [← Nat.add_mul];exact Nat.mul_le_mul_right _ (by omega)),List.drop_take,Nat.sub_mul]
     cases c with
     | ex q =>
      have hq:=hc q rfl
      refine⟨.sl r (if q=lb then o else o+lb * z') (hb - lb) (.ex (q - lb)),by unfold x8 ke;simp [hh3,hl2],RV.fz ⟨hle.symm,?_,fun q' e=>by cases e;rw [hle];omega⟩ he2⟩
      rw [hle]
      by_cases e:q=lb
      ·simp only [e,if_true]
       obtain rfl:hb=lb:=by omega
       have:=V1 hrow (i:=0) (j:=0) (by omega)
       simp only [Nat.sub_self,Nat.zero_mul]
       rw [Nat.add_zero] at this
       rw [this]
       simp [List.drop_take]
      ·simp only [e,if_false];exact hsub
     | mi k =>
      by_cases h0:lb=0
      ·subst h0
       refine⟨.sl r o hb (.mi k),by unfold x8 ke;simp [hh3,hl2],RV.fz ⟨by rw [hle];omega,?_,fun q' e=>by cases e⟩ he2⟩
       rw [hle]
       simpa using hsub
      ·by_cases hlt:lb < yT H z' r l.length (.mi k)
       ·refine⟨.sl r (o+lb * z') (hb - lb) (.mi (k+lb)),by unfold x8 ke;simp [hh3,hl2,h0,hlt],RV.fz ⟨hle.symm,by rw [hle];exact hsub,fun q' e=>by cases e⟩ he2⟩
       ·obtain⟨kk,zz,ds,e1,_⟩:=jO hrow
        refine⟨.zs r o (k+lb) (lb * z'),by unfold x8 ke;simp [hh3,hl2,h0,hlt,hF _ _ e1],RV.fz (cs:=[]) ⟨by rw [hle];omega,rfl,by rw [e1];rfl⟩ ?_⟩
        have:((l.take hb).drop lb)=[]:=List.eq_nil_of_length_eq_zero (by rw [hle];omega)
        rw [this];exact RE.nil'
    ·rename_i r o k d
     obtain⟨h0,rfl,hs⟩:=hfz
     rw [h0] at hh2 hbl
     obtain rfl:hb=0:=by omega
     obtain rfl:lb=0:=by omega
     refine⟨.zs r o k d,by unfold x8 ke;simp [hh2,hl2],RV.fz (cs:=[]) ⟨by simp,rfl,hs⟩ ?_⟩
     simpa using he2
    ·exact hfz.elim
 ·cases h
theorem zbh {a a' v:AV} {lo hi:Option AX} {f f':AX→AV} (hf:∀ x,RV ρ Φ (f x) (f' x)) (ha:RV ρ Φ a a') (h:z5F a (lo.map f) (hi.map f)=some v) :
  ∃ v',z5F a' (lo.map f') (hi.map f')=some v'∧RV ρ Φ v v':=by
 unfold z5F at h
 split at h
 ·split at h
  ·cases h
  ·rename_i hh
   split at h
   ·cases h
   ·rename_i hl
    obtain rfl:=Option.some.inj h
    rw [ha.str_inv]
    unfold z5F
    simp only [J5 (f':=f') hf hh,J5 (f':=f') hf hl]
    exact⟨_,rfl,RV.flat rfl⟩
 ·cases h
theorem zbi {a a' i i' v:AV} (ha:RV ρ Φ a a') (hi:RV ρ Φ i i') (h:z7l a i=some v):∃ v',z7l a' i'=some v'∧RV ρ Φ v v':=by
 have key:a'=a∧i'=i∧cOk v=true:=by
  unfold z7l at h
  split at h
  ·split at h
   ·split at h
    ·obtain rfl:=Option.some.inj h;exact⟨ha.str_inv,hi.int_inv,rfl⟩
    ·cases h
   ·cases h
  ·cases h
 obtain⟨rfl,rfl,hv⟩:=key
 exact⟨v,h,RV.flat hv⟩
theorem z8O {a a' v:AV} {off:Nat} {n:Option Nat} (ha:RV ρ Φ a a') (h:z4D off n a=some v):∃ v',z4D off n a'=some v'∧RV ρ Φ v v':=by
 unfold z4D at h
 split at h
 ·obtain⟨m,rfl,hm⟩:=ha.agg_inv
  exact WW hm h
 ·cases h
theorem zbj {n z:Nat} {kk:Option Nat} {a a' i i' v:AV} (ha:RV ρ Φ a a') (hi:RV ρ Φ i i') (h:z5G n z kk a i=some v):∃ v',z5G n z kk a' i'=some v'∧RV ρ Φ v v':=by
 unfold z5G at h
 split at h
 ·obtain⟨m,rfl,hm⟩:=ha.agg_inv
  rw [hi.int_inv]
  simp only [z5G]
  split at h
  ·rename_i hc
   rw [if_pos hc]
   exact WW hm h
  ·cases h
 ·cases h
theorem zbk {t:Nat} {z:AV} {ok:Bool} {a a' v:AV} (hz:cOk z=true) (ha:RV ρ Φ a a') (h:VW t z ok a=some v):∃ v',VW t z ok a'=some v'∧RV ρ Φ v v':=by
 have tup2:∀ {x y:AV} {b:Bool},RV ρ Φ x y→RV ρ Φ (.tup [x,.bool b]) (.tup [y,.bool b]):=fun hx=>by
  simp only [RV]
  exact⟨_,rfl,RL.cons hx (RL.cons (RV.flat rfl) RL.nil')⟩
 unfold VW at h
 split at h
 ·rename_i t' u
  simp only [RV] at ha
  obtain⟨y,rfl,hy⟩:=ha
  simp only [VW]
  split at h
  ·rename_i ht
   rw [if_pos ht]
   cases ok with
   | true=>simp at h;subst h;exact⟨_,rfl,tup2 hy⟩
   | false=>simp at h;subst h;exact⟨_,rfl,hy⟩
  ·rename_i ht
   rw [if_neg ht]
   cases ok with
   | true=>simp at h;subst h;exact⟨_,rfl,tup2 (RV.flat hz)⟩
   | false=>simp at h
 ·simp only [RV] at ha
  subst ha
  simp only [VW]
  cases ok with
  | true=>simp at h;subst h;exact⟨_,rfl,tup2 (RV.flat hz)⟩
  | false=>simp at h
 ·cases h
theorem zbl {a a' v:AV} {i:Nat} (ha:RV ρ Φ a a') (h:ko a i=some v):∃ v',ko a' i=some v'∧RV ρ Φ v v':=by
 unfold ko at h
 split at h
 ·rename_i vs
  cases vs with
  | nil=>simp at h
  | cons w vs =>
   simp only [RV] at ha
   obtain⟨m,rfl,hm⟩:=ha
   exact hm.get h
 ·cases h
theorem z2Y (f:Option AV→AV→Option AV) (hf:∀ a b v,f (some a) b=some v→(∃ k n,a=.int k n)∧(∃ k n,b=.int k n)∧∃ k n,v=.int k n) (hn:∀ b,f none b=none) :
  ∀ (l l':List AV) (a a' v:AV),RL ρ Φ l l'→RV ρ Φ a a'→l.foldl f (some a)=some v→∃ v',l'.foldl f (some a')=some v'∧RV ρ Φ v v'
 | [],l',a,a',v,hl,ha,h=>by rw [hl.nil];simp at h;subst h;exact⟨a',rfl,ha⟩
 | b::l,l',a,a',v,hl,ha,h=>by
  obtain⟨x,m,rfl,h1,h2⟩:=hl.uncons
  simp only [List.foldl_cons] at h ⊢
  cases e:f (some a) b with
  | none =>
   rw [e] at h
   exfalso
   have:∀ l:List AV,l.foldl f none=none:=fun l=>by
    induction l with
    | nil=>rfl
    | cons c l ih=>simp only [List.foldl_cons,hn];exact ih
   rw [this] at h;cases h
  | some w =>
   rw [e] at h
   obtain⟨⟨k,n,rfl⟩,⟨k2,n2,rfl⟩,k3,n3,rfl⟩:=hf _ _ _ e
   rw [h1.int_inv,ha.int_inv,e]
   exact z2Y f hf hn l m _ _ v h2 (RV.flat rfl) h
theorem zbm {l l':List AV} {v:AV} (hl:RL ρ Φ l l') (h:z7m l=some v):∃ v',z7m l'=some v'∧RV ρ Φ v v':=by
 cases l with
 | nil=>cases h
 | cons x rest =>
  obtain⟨y,m,rfl,h1,h2⟩:=hl.uncons
  exact z2Y kG (fun a b v e=>by
   unfold kG at e
   split at e
   ·rename_i h1;cases h1;obtain rfl:=Option.some.inj e;exact⟨⟨_,_,rfl⟩,⟨_,_,rfl⟩,_,_,rfl⟩
   ·cases e) (fun b=>rfl) rest m x y v h2 h1 h
theorem zbn {l l':List AV} {v:AV} (hl:RL ρ Φ l l') (h:z7n l=some v):∃ v',z7n l'=some v'∧RV ρ Φ v v':=by
 cases l with
 | nil=>cases h
 | cons x rest =>
  obtain⟨y,m,rfl,h1,h2⟩:=hl.uncons
  exact z2Y kH (fun a b v e=>by
   unfold kH at e
   split at e
   ·rename_i h1;cases h1;obtain rfl:=Option.some.inj e;exact⟨⟨_,_,rfl⟩,⟨_,_,rfl⟩,_,_,rfl⟩
   ·cases e) (fun b=>rfl) rest m x y v h2 h1 h
theorem zbo {z:Nat} {a a' i i' e:AV} (ha:RV ρ Φ a a') (hi:RV ρ Φ i i') (h:elQ z a i=some e) :
  ∃ r p y,z4E z a' i'=some (.ptr r p)∧Zw (Φ r) p y.cells.length=some y.cells∧RV ρ Φ e y∧e.isTup=false:=by
 unfold elQ at h
 split at h
 ·rename_i z' l k n
  split at h
  ·rename_i hc
   obtain⟨rfl,h0⟩:=hc
   rw [hi.int_inv]
   obtain⟨cs,hf,he⟩:=ha.fz_inv
   obtain⟨y,h1,h2,h3,h4,h5⟩:=he.get h
   have hlt:=(List.getElem?_eq_some_iff.1 h).1
   unfold FzV at hf
   split at hf
   ·omega
   ·rename_i r o m c
    obtain⟨rfl,hrow,_⟩:=hf
    refine⟨r,o+n.toNat * z',y,?_,?_,h5,h4⟩
    ·simp only [z4E]
     rw [if_pos (by omega)]
    ·rw [h2,← h1]
     refine V1 hrow ?_
     calc n.toNat * z'+z'=(n.toNat+1) * z':=by rw [Nat.add_mul,Nat.one_mul]
      _≤l.length * z':=Nat.mul_le_mul_right _ (by omega)
   ·omega
   ·exact hf.elim
  ·cases h
 ·cases h
theorem VQ {n:Nat} {i i':AV} {q:Nat} (hi:RV ρ Φ i i') (h:JU n i=some q):∃ k m,i'=.int k m∧0≤m∧m < n∧q=m.toNat:=by
 unfold JU at h
 split at h
 ·rename_i k m
  split at h
  ·rename_i hc
   obtain rfl:=Option.some.inj h
   exact⟨k,m,hi.int_inv,hc.1,hc.2,rfl⟩
  ·cases h
 ·cases h
end
end Go.Ab
namespace Go.Ab
section
variable {ρ:yP} {Φ:ya} {A:Nat→Prop} {σ:Nat→AV} {τ:PT} {ω:PW} {Q H:z3} {τ':Tau} {nt:Nat} {β:Type}
def jb (ρ:yP) (Φ:ya) (σ:Nat→AV) (τ:PT) (ω:PW) (τ':Tau) (o:zk) (r:Option AV) (k:PT→Option β) (b:β):Prop :=
 ∃ y x,k (xA τ o.dst y)=some b∧(za τ' o.guard=true→r=some x)∧(za τ' o.guard=false→x=z4)∧∀ d,o.dst=some d→TVR ρ Φ σ ω (τ'.set d x) y x
theorem jb.plain {o:zk} {r:Option AV} {k:PT→Option β} {b:β} {a x:AV} (hk:k (xA τ o.dst (.v a))=some b) (h1:za τ' o.guard=true→r=some x) (h2:za τ' o.guard=false→x=z4) (h3:RV ρ Φ a x):jb ρ Φ σ τ ω τ' o r k b :=
 ⟨.v a,x,hk,h1,h2,fun _ _=>h3⟩
theorem y3 (h:Fr ρ Φ A σ τ ω Q τ' H nt) {o:zk} {r0 r:Option AV} {k:PT→Option β} {b:β} (hb:qD τ o r0 k=some b)
  (hr:za τ' o.guard=true→∀ a,r0=some a→∃ x,r=some x∧RV ρ Φ a x):jb ρ Φ σ τ ω τ' o r k b:=by
 unfold qD at hb
 cases hg:o.guard with
 | none =>
  rw [hg] at hb hr
  cases hr0:r0 with
  | none=>rw [hr0] at hb;cases hb
  | some a =>
   rw [hr0] at hb
   obtain⟨x,e,hv⟩:=hr rfl a hr0
   exact jb.plain hb (fun _=>e) (fun h=>by rw [hg] at h;cases h) hv
 | some g =>
  obtain⟨t,w⟩:=g
  rw [hg] at hb hr
  simp only at hb
  cases hq:gdQ (gV τ t) w r0 with
  | none=>rw [hq] at hb;cases hb
  | some a =>
   rw [hq] at hb
   unfold gdQ at hq
   split at hq
   ·rename_i c hc
    have hW:=h.guard (w:=w) hc
    split at hq
    ·rename_i e
     have hW:za τ' (some (t,w))=true:=by rw [hW,e];simp
     obtain⟨x,e2,hv⟩:=hr hW a hq
     exact jb.plain hb (fun _=>e2) (fun h=>by rw [hg,hW] at h;cases h) hv
    ·rename_i e
     have hW:za τ' (some (t,w))=false:=by rw [hW];simpa using e
     obtain rfl:=Option.some.inj hq
     exact jb.plain hb (fun h=>by rw [hg,hW] at h;cases h) (fun _=>rfl) (by simp only [RV])
   ·rename_i hc
    have hW:za τ' (some (t,w))=false:=h.guardSk hc
    obtain rfl:=Option.some.inj hq
    exact jb.plain hb (fun h=>by rw [hg,hW] at h;cases h) (fun _=>rfl) (by simp only [RV])
   ·cases hq
theorem kW {ρ:yP} {Φ:ya} {σ:Nat→AV} {ω:PW} {τ':Tau} {y:TV} {x:AV} (h:TV0 ρ Φ σ ω y x):TVR ρ Φ σ ω τ' y x:=by
 cases y<;>first | exact h | exact h.elim
theorem jP {o:zk} {r:Option AV} {k:PT→Option β} {b:β} {y:TV} (hb:QE τ o y k=some b)
  (hr:za τ' o.guard=true→∃ x,r=some x∧TV0 ρ Φ σ ω y x):jb ρ Φ σ τ ω τ' o r k b:=by
 unfold QE at hb
 cases hW:za τ' o.guard with
 | true =>
  obtain⟨x,e,hv⟩:=hr hW
  refine⟨_,x,hb,fun _=>e,fun h=>(by rw [hW] at h;cases h),fun d hd=>?_⟩
  unfold z8F
  rw [hd]
  cases hg:o.guard with
  | none=>exact kW hv
  | some g =>
   obtain⟨t,w⟩:=g
   simp only [Qd]
   by_cases e2:t=d
   ·simp only [e2,decide_true];exact RV.undef (ρ:=ρ) (Φ:=Φ) x
   ·simp only [e2,decide_false]
    exact fun _=>hv
 | false =>
  refine⟨_,z4,hb,fun h=>(by rw [hW] at h;cases h),fun _=>rfl,fun d hd=>?_⟩
  unfold z8F
  rw [hd]
  cases hg:o.guard with
  | none=>rw [hg] at hW;cases hW
  | some g =>
   obtain⟨t,w⟩:=g
   simp only [Qd]
   by_cases e2:t=d
   ·simp only [e2,decide_true];exact RV.undef (ρ:=ρ) (Φ:=Φ) z4
   ·simp only [e2,decide_false]
    intro h2
    rw [z0D e2,← hg,hW] at h2
    cases h2
theorem z2Z (h:Fr ρ Φ A σ τ ω Q τ' H nt) {o:zk} {n:Nat} {r0:Option (List AV)} {r:Option AV} {k:PT→Option β} {b:β} (hb:z1k τ o n r0 k=some b)
  (hr:za τ' o.guard=true→∀ l,r0=some l→∃ x,r=some x∧RV ρ Φ (.agg l) x):jb ρ Φ σ τ ω τ' o r k b:=by
 unfold z1k at hb
 cases hg:o.guard with
 | none =>
  rw [hg] at hb hr
  simp only [VM] at hb
  cases hr0:r0 with
  | none=>rw [hr0] at hb;cases hb
  | some l =>
   rw [hr0] at hb
   simp only [Option.bind_some] at hb
   split at hb
   ·obtain⟨x,e,hv⟩:=hr rfl l hr0
    exact jb.plain hb (fun _=>e) (fun h=>by rw [hg] at h;cases h) hv
   ·cases hb
 | some g =>
  obtain⟨t,w⟩:=g
  rw [hg] at hb hr
  simp only at hb
  cases hq:gdQ (gV τ t) w (r0.map AV.agg) with
  | none=>rw [hq] at hb;cases hb
  | some a =>
   rw [hq] at hb
   unfold gdQ at hq
   split at hq
   ·rename_i c hc
    have hW:=h.guard (w:=w) hc
    split at hq
    ·rename_i e
     have hW:za τ' (some (t,w))=true:=by rw [hW,e];simp
     obtain⟨l,hl,rfl⟩:=Option.map_eq_some_iff.1 hq
     obtain⟨x,e2,hv⟩:=hr hW l hl
     exact jb.plain hb (fun _=>e2) (fun h=>by rw [hg,hW] at h;cases h) hv
    ·rename_i e
     have hW:za τ' (some (t,w))=false:=by rw [hW];simpa using e
     obtain rfl:=Option.some.inj hq
     exact jb.plain hb (fun h=>by rw [hg,hW] at h;cases h) (fun _=>rfl) (by simp only [RV])
   ·rename_i hc
    have hW:za τ' (some (t,w))=false:=h.guardSk hc
    obtain rfl:=Option.some.inj hq
    exact jb.plain hb (fun h=>by rw [hg,hW] at h;cases h) (fun _=>rfl) (by simp only [RV])
   ·cases hq
theorem za0 (h:Fr ρ Φ A σ τ ω Q τ' H nt) {o:zk} {r0 r:Option AV} {k:PT→Option β} {b:β} (hb:z6Y τ o r0 k=some b)
  (hr:za τ' o.guard=true→∀ e,r0=some e→∃ x,r=some x∧TV0 ρ Φ σ ω (.fp e 0) x):jb ρ Φ σ τ ω τ' o r k b:=by
 unfold z6Y at hb
 cases hg:o.guard with
 | none =>
  rw [hg] at hb hr
  cases hr0:r0 with
  | none=>rw [hr0] at hb;cases hb
  | some e =>
   rw [hr0] at hb
   exact jP (y:=.fp e 0) (by unfold QE z8F;rw [hg];exact hb) (fun hW=>by rw [hg] at hW;exact hr hW e hr0)
 | some g =>
  obtain⟨t,w⟩:=g
  rw [hg] at hb hr
  simp only at hb
  cases hq:gdQ (gV τ t) w r0 with
  | none=>rw [hq] at hb;cases hb
  | some e =>
   rw [hq] at hb
   refine jP (y:=.fp e 0) (by unfold QE;rw [hg];exact hb) (fun hW=>?_)
   rw [hg] at hW
   unfold gdQ at hq
   split at hq
   ·rename_i c hc
    have hW2:=h.guard (w:=w) hc
    rw [hW] at hW2
    have hcw:c=w:=by simpa using hW2.symm
    rw [if_pos hcw] at hq
    exact hr hW e hq
   ·rename_i hc
    rw [h.guardSk hc] at hW;cases hW
   ·cases hq
theorem VR (h:Fr ρ Φ A σ τ ω Q τ' H nt) {o:zk} {r0:Option Nat} {k:Nat→Option β} {b:β} (hb:bnG τ o r0 k=some b):∃ q,k q=some b∧(za τ' o.guard=true→r0=some q):=by
 unfold bnG at hb
 cases hg:o.guard with
 | none =>
  rw [hg] at hb
  cases hr0:r0 with
  | none=>rw [hr0] at hb;cases hb
  | some q=>rw [hr0] at hb;exact⟨q,hb,fun _=>rfl⟩
 | some g =>
  obtain⟨t,w⟩:=g
  rw [hg] at hb
  simp only at hb
  cases hq:gdN (gV τ t) w r0 with
  | none=>rw [hq] at hb;cases hb
  | some q =>
   rw [hq] at hb
   refine⟨q,hb,fun hW=>?_⟩
   unfold gdN at hq
   split at hq
   ·rename_i c hc
    have hW2:=h.guard (w:=w) hc
    rw [hW] at hW2
    have hcw:c=w:=by simpa using hW2.symm
    rw [if_pos hcw] at hq
    exact hq
   ·rename_i hc
    rw [h.guardSk hc] at hW;cases hW
   ·cases hq
theorem RL.cut {l m cs:List AV} {o n:Nat} (h:RL ρ Φ l m) (hc:cut l o n=some cs):o+n≤m.length∧cs.length=n∧RL ρ Φ cs ((m.drop o).take n):=by
 unfold Go.Ab.cut at hc
 split at hc
 ·rename_i hle
  have hle:=Nat.le_of_ble_eq_true hle
  obtain rfl:=Option.some.inj hc
  exact⟨by rw [h.length];exact hle,by simp;omega,(h.drop o).take n⟩
 ·cases hc
theorem WX {H:z3} {r k z p:Nat} {kd:Kd} {cs ds:List AV} (hg:H.get r=some (.cells kd z ds)) (hl:p+k≤ds.length) (e:(ds.drop p).take k=cs):H.row r p k=some cs:=by
 unfold z3.row
 rw [hg]
 simp only [hl,if_true,e]
theorem Xu.el {z:Nat} {l:List AV} {x e:AV} {i:Nat} (h:Xu ρ Φ H z l x) (hi:l[i]? = some e):∃ r c k cs y,x=.sl r 0 l.length c∧H.get r=some (.cells k z cs)∧(i+1) * z≤cs.length∧(cs.drop (i * z)).take z=y.cells∧y.cells.length=z∧y.cells.all AV.one=true∧e.isTup=false∧RV ρ Φ e y:=by
 obtain⟨hz,h⟩:=h
 have hlt:=(List.getElem?_eq_some_iff.1 hi).1
 rcases h with ⟨rfl,rfl⟩ | ⟨r,c,k,cs,rfl,hg,hl,he,hk⟩
 ·simp at hi
 ·obtain⟨y,h1,h2,h3,h4,h5⟩:=he.get hi
  refine⟨r,c,k,cs,y,rfl,hg,Nat.le_trans (Nat.mul_le_mul_right _ (by omega)) hl,?_,h2,h3,h4,h5⟩
  rw [← h1,List.drop_take,List.take_take]
  congr 1
  rw [← Nat.sub_mul]
  have:1 * z≤(l.length - i) * z:=Nat.mul_le_mul_right _ (by omega)
  omega
theorem z30 (h:Fr ρ Φ A σ τ ω Q τ' H nt) {y:TV} {x:AV} {n:Nat} {cs:List AV} (hy:TV0 ρ Φ σ ω y x) (hl:QF ω Q n y=some cs):∃ r p ys,x=.ptr r p∧H.row r p n=some ys∧RL ρ Φ cs ys:=by
 cases y with
 | v a =>
  cases a with
  | ptr r o =>
   obtain⟨r',ys,rfl,hr,hv⟩:=h.rel.row hy hl
   exact⟨r',o,ys,rfl,hr,hv⟩
  | cp cs0 o =>
   simp only [TV0,RV] at hy
   obtain⟨r,k,z,cs',rfl,hr,hv⟩:=hy
   obtain⟨c1,c2,c3⟩:=hv.cut hl
   exact⟨r,o,_,rfl,WX (h.rel.fro _ _ hr).2 c1 rfl,c3⟩
  | _=>cases hl
 | lp k o =>
  simp only [QF] at hl
  split at hl
  ·rename_i ds hk
   obtain⟨r,h1,rfl⟩:=hy
   obtain⟨r2,z,cs',h2,⟨kd,hkd,hg⟩,hv⟩:=h.slot k _ hk
   rw [h1] at h2
   cases h2
   obtain⟨c1,c2,c3⟩:=hv.cut hl
   exact⟨r,o,_,rfl,WX hg c1 rfl,c3⟩
  ·cases hl
 | ls k=>cases hl
 | lq k i o =>
  simp only [QF] at hl
  split at hl
  ·rename_i z l hk
   split at hl
   ·rename_i e he
    obtain⟨r,m,c,p,h1,rfl,h2⟩:=hy
    obtain rfl:=h2 z l hk
    obtain⟨r2,c2,kd,ds,y,e1,hg,hle,e2,e3,_,ht,hv⟩:=Xu.el (h.slot k _ hk) he
    rw [h1] at e1
    cases e1
    obtain⟨c1,c2,c3⟩:=(hv.cells ht).1.cut hl
    refine⟨r,_,_,rfl,WX hg ?_ ?_,c3⟩
    ·rw [Nat.add_mul] at hle;omega
    ·rw [← e2,List.drop_take,List.take_take,List.drop_drop]
     congr 1
     omega
   ·cases hl
  ·cases hl
 | fp e o =>
  obtain⟨r,p,y,rfl,hr,hv,ht⟩:=hy
  simp only [QF] at hl
  obtain⟨c1,c2,c3⟩:=(hv.cells ht).1.cut hl
  refine⟨r,p+o,_,rfl,?_,c3⟩
  exact Fro.row (fun r o ho=>(h.rel.fro r o ho).2) (V1 hr c1)
 | lb k n=>cases hl
 | lv k n=>cases hl
 | gd t w y=>exact hy.elim
theorem z4i {H:z3} {r p:Nat} {x:AV} (h:H.row r p 1=some [x]):H.cell r p=some x:=by
 unfold z3.row at h
 unfold z3.cell
 split at h
 ·rename_i k z cs hg
  split at h
  ·rename_i hl
   have h:=Option.some.inj h
   have:(cs.drop p)[0]? = some x:=by
    have:((cs.drop p).take 1)[0]? = some x:=by rw [h];rfl
    simpa using this
   simpa using this
  ·cases h
 ·cases h
theorem z5A {y:TV} {a:AV} (hl:ldT ω Q y=some a):QF ω Q 1 y=some [a]:=by
 have cutOne:∀ {l:List AV} {o:Nat},l[o]? = some a→cut l o 1=some [a]:=fun {l o} h=>by
  have hlt:=(List.getElem?_eq_some_iff.1 h).1
  unfold cut
  have:Nat.ble (o+1) l.length=true:=Nat.ble_eq_true_of_le hlt
  rw [this]
  simp only [Option.some.injEq]
  apply List.ext_getElem?
  intro j
  cases j with
  | zero=>simpa using h
  | succ j=>simp [List.getElem?_take]
 cases y with
 | v b =>
  cases b with
  | cp cs0 o=>exact cutOne hl
  | ptr r o =>
   simp only [ldT,ldQ,ldA] at hl
   simp only [QF,yk]
   unfold z3.cell at hl
   unfold z3.row
   split at hl
   ·rename_i k z cs hg
    have:=cutOne hl
    unfold cut at this
    split at this
    ·rename_i hle
     simp only [Nat.le_of_ble_eq_true hle,if_true]
     exact this
    ·cases this
   ·cases hl
  | _=>cases hl
 | lp k o =>
  simp only [ldT] at hl
  simp only [QF]
  split at hl
  ·exact cutOne hl
  ·cases hl
 | ls k=>cases hl
 | lq k i o =>
  simp only [ldT] at hl
  simp only [QF]
  split at hl
  ·split at hl
   ·exact cutOne hl
   ·cases hl
  ·cases hl
 | fp e o=>exact cutOne hl
 | lb k n=>cases hl
 | lv k n=>cases hl
 | gd t w y=>cases hl
theorem z8P (h:Fr ρ Φ A σ τ ω Q τ' H nt) {y:TV} {x a:AV} (hy:TV0 ρ Φ σ ω y x) (hl:ldT ω Q y=some a):∃ r p b,x=.ptr r p∧H.row r p 1=some [b]∧H.cell r p=some b∧RV ρ Φ a b:=by
 obtain⟨r,p,ys,rfl,hr,hv⟩:=z30 h hy (z5A hl)
 obtain⟨b,m,rfl,h1,h2⟩:=hv.uncons
 obtain rfl:=h2.nil
 exact⟨r,p,b,rfl,hr,z4i hr,h1⟩
theorem z63 (h:Fr ρ Φ A σ τ ω Q τ' H nt) (call:z7) {o:zk} (hl:xp o.op=true) {m:x4} {k:PT→PW→z3→Option β} {b:β} (hb:yt call o m τ ω Q k=some b) :
  jb ρ Φ σ τ ω τ' o (opP τ'.at H o.op) (fun τ=>k τ ω Q) b:=by
 have hF:Fro Φ H:=fun r o ho=>(h.rel.fro r o ho).2
 have V:∀ x,za τ' o.guard=true→RV ρ Φ (atT τ o.guard x).val (τ'.at x):=fun x hW=>h.val hW x
 have T:∀ x,za τ' o.guard=true→TV0 ρ Φ σ ω (atT τ o.guard x) (τ'.at x):=fun x hW=>h.opd hW x
 unfold yt at hb
 cases hop:o.op<;>rw [hop] at hl hb<;>simp only [xp,Bool.false_eq_true] at hl<;>simp only [] at hb
 case mv x =>
  simp only [opP]
  split at hb
  ·rename_i a ha
   refine y3 h (r0:=some a) (k:=fun τ=>k τ ω Q) ?_ fun hW a' e=>?_
   ·unfold qD;exact hb
   ·cases e
    have:=V x hW
    rw [ha] at this
    exact⟨_,rfl,this⟩
  ·exact jP hb fun hW=>⟨_,rfl,T x hW⟩
 case pick c x y=>exact y3 h hb fun hW a e=>z9W (V c hW) (V x hW) (V y hW) e
 case build z ps =>
  split at hb
  ·rename_i hz
   refine z2Z h hb fun hW l e=>?_
   obtain⟨out,e1,r1⟩:=z60 (ρ:=ρ) (Φ:=Φ) ps (fun x=>(atT τ o.guard x).val) τ'.at (fun x=>V x hW) (J4 z hz) e
   simp only [opP,e1]
   exact⟨_,rfl,RV.agg r1⟩
  ·cases hb
 case ld x =>
  refine y3 h hb fun hW a e=>?_
  obtain⟨r,p,y,e1,_,e2,e3⟩:=z8P h (T x hW) e
  simp only [opP,e1,ldA]
  exact⟨y,e2,e3⟩
 case ldn n x =>
  refine z2Z h hb fun hW l e=>?_
  obtain⟨r,p,ys,e1,e2,e3⟩:=z30 h (T x hW) e
  simp only [opP,e1,z4C,e2]
  exact⟨_,rfl,RV.agg e3⟩
 case nck x =>
  simp only [opP]
  split at hb
  ·rename_i a ha
   refine y3 h hb fun hW v e=>?_
   have:=V x hW
   rw [ha] at this
   cases a with
   | ptr r o1 =>
    cases e
    simp only [TV.val,RV] at this
    obtain⟨r',hr,e2⟩:=this
    rw [e2]
    exact⟨_,rfl,by simp only [RV];exact⟨r',hr,rfl⟩⟩
   | cp cs0 o1 =>
    cases e
    simp only [TV.val,RV] at this
    obtain⟨r',k',z',cs',e2,hr⟩:=this
    rw [e2]
    exact⟨_,rfl,by simp only [RV];exact⟨r',k',z',cs',rfl,hr⟩⟩
   | _=>cases e
  ·cases hb
  ·cases hb
  ·cases hb
  ·cases hb
  ·rename_i hn1 hn2 hn3 hn4 hn5
   refine jP hb fun hW=>?_
   have:=T x hW
   generalize atT τ o.guard x=y at this hn1 hn2 hn3 hn4 hn5
   cases y with
   | v a=>exact absurd rfl (hn1 a)
   | ls k=>exact absurd rfl (hn2 k)
   | gd t w y=>exact absurd rfl (hn3 t w y)
   | lb k n=>exact absurd rfl (hn4 k n)
   | lv k n=>exact absurd rfl (hn5 k n)
   | lp k o=>obtain⟨r,h1,h2⟩:=this;exact⟨_,by rw [h2];rfl,⟨r,h1,rfl⟩⟩
   | lq k i o =>
    obtain⟨r,n,c,p,h1,h2,h3⟩:=this
    exact⟨_,by rw [h2];rfl,⟨r,n,c,p,h1,rfl,h3⟩⟩
   | fp e o=>obtain⟨r,p,y,h1,h2⟩:=this;exact⟨_,by rw [h1];rfl,⟨r,p,y,rfl,h2⟩⟩
 case bin op x y=>exact y3 h hb fun hW a e=>zb4 (V x hW) (V y hW) e
 case eqs neg q x y=>exact y3 h hb fun hW a e=>zb5 (V x hW) (V y hW) e
 case eqn neg c x =>
  simp only [opP]
  split at hb
  ·rename_i a ha
   refine y3 h hb fun hW v e=>?_
   have:=V x hW
   rw [ha] at this
   exact zb6 this e
  ·cases hb
 case un op x=>exact y3 h hb fun hW a e=>zcV (V x hW) e
 case cvi kk x=>exact y3 h hb fun hW a e=>zb9 (V x hW) e
 case cvs x=>exact y3 h hb fun hW a e=>zba (V x hW) e
 case b2s x =>
  simp only [opP]
  split at hb
  ·rename_i j n ha
   split at hb
   ·rename_i cs hj
    refine y3 h hb fun hW v e=>?_
    have:=T x hW
    rw [ha] at this
    obtain⟨r,h1,h2⟩:=this
    obtain⟨r2,z,cs',h3,⟨kd,hkd,hg⟩,hv⟩:=h.slot j _ hj
    rw [h1] at h3
    cases h3
    rw [h2]
    cases hc:cut cs 0 n with
    | none=>rw [hc] at e;cases e
    | some l =>
     rw [hc] at e
     obtain⟨c1,c2,c3⟩:=hv.cut hc
     exact z9Y (WX hg c1 rfl) c3 e
   ·cases hb
  ·exact y3 h hb fun hW a e=>zbc hF (V x hW) e
 case mki t x =>
  refine y3 h hb fun hW a e=>?_
  cases e
  exact⟨_,rfl,by simp only [RV];exact⟨_,rfl,V x hW⟩⟩
 case mkf f fs cs =>
  refine y3 h hb fun hW a e=>?_
  cases e
  exact⟨_,rfl,by simp only [RV];exact⟨_,_,rfl,h.vals hW fs,h.vals hW cs⟩⟩
 case slc z x lo hi mx =>
  cases mx with
  | some _=>cases hb
  | none =>
   simp only [opP]
   simp only at hb
   split at hb
   ·rename_i a ha
    refine y3 h hb fun hW v e=>?_
    have:=V x hW
    rw [ha] at this
    exact zbg hF (f:=fun y=>(atT τ o.guard y).val) (fun x=>V x hW) this e
   ·rename_i j ha
    split at hb
    ·rename_i zz z' l y hj
     split at hb
     ·rename_i hz
      obtain rfl:=Nat.eq_of_beq_eq_true hz
      obtain⟨q,hb,hq⟩:=VR h hb
      refine jP hb fun hW=>?_
      obtain⟨kk,m,e1,e2,e3,e4⟩:=VQ (V y hW) (hq hW)
      have:=T x hW
      rw [ha] at this
      simp only [TV0] at this
      rw [this]
      obtain⟨hz0,hs⟩:=h.slot j _ hj
      rcases hs with ⟨hn,rfl⟩ | ⟨r,c,k',cs,hx,hg,hl2,_,hk⟩
      ·simp at e3;omega
      ·have hb1:bnd (.int kk m) l.length=some q:=by
        simp only [bnd]
        rw [if_pos ⟨e2,by omega⟩,e4]
       have hql:q < l.length:=by omega
       have hcl:l.length≤yT H z' r l.length c:=by
        cases c with
        | ex c=>rcases hk with ⟨_,e⟩ | ⟨q',_,e,h3,_⟩<;>cases e;exact h3
        | mi n=>unfold yT;simp only [];split<;>(try split)<;>omega
       rw [hx]
       simp only [Option.map_some,Option.map_none,e1,x8,ke,yh,hb1]
       rcases hk with ⟨_,rfl⟩ | ⟨q',_,rfl,h3,_⟩
       ·simp only []
        by_cases h0:q=0
        ·rw [if_pos h0]
         exact⟨_,rfl,r,_,_,_,_,hx,hql,by rw [h0];rfl,fun z2 l2 e=>by rw [h0];simp⟩
        ·rw [if_neg h0,if_pos (by omega)]
         exact⟨_,rfl,r,_,_,_,_,hx,hql,rfl,fun z2 l2 e=>by rw [hj] at e;cases e;simp⟩
       ·simp only []
        rw [if_neg (by omega)]
        exact⟨_,rfl,r,_,_,_,_,hx,hql,rfl,fun z2 l2 e=>by rw [hj] at e;cases e;simp⟩
     ·cases hb
    ·cases hb
   ·cases hb
 case sls x lo hi=>exact y3 h hb fun hW a e=>zbh (f:=fun y=>(atT τ o.guard y).val) (fun x=>V x hW) (V x hW) e
 case sla=>cases hb
 case fad off x =>
  simp only [opP]
  split at hb
  ·rename_i j o' ha
   refine jP hb fun hW=>?_
   have:=T x hW
   rw [ha] at this
   obtain⟨r,h1,h2⟩:=this
   exact⟨_,by rw [h2];rfl,⟨r,h1,rfl⟩⟩
  ·rename_i j i o' ha
   refine jP hb fun hW=>?_
   have:=T x hW
   rw [ha] at this
   obtain⟨r,n,c,p,h1,h2,h3⟩:=this
   exact⟨_,by rw [h2];rfl,⟨r,n,c,p+off,h1,rfl,fun z l e=>by rw [h3 z l e,Nat.add_assoc]⟩⟩
  ·rename_i e o' ha
   refine jP hb fun hW=>?_
   have:=T x hW
   rw [ha] at this
   obtain⟨r,p,y,h1,h2⟩:=this
   exact⟨_,by rw [h1];rfl,⟨r,p,y,by rw [Nat.add_assoc],h2⟩⟩
  ·rename_i a ha
   refine y3 h hb fun hW v e=>?_
   have:=V x hW
   rw [ha] at this
   cases a with
   | ptr r o1 =>
    cases e
    simp only [TV.val,RV] at this
    obtain⟨r',hr,e2⟩:=this
    rw [e2]
    exact⟨_,rfl,by simp only [RV];exact⟨r',hr,rfl⟩⟩
   | cp cs0 o1 =>
    cases e
    simp only [TV.val,RV] at this
    obtain⟨r',k',z',cs',e2,hr⟩:=this
    rw [e2]
    exact⟨_,rfl,by simp only [RV];exact⟨r',k',z',cs',rfl,hr⟩⟩
   | _=>cases e
  ·cases hb
 case fld off n x =>
  simp only [opP]
  cases n with
  | none=>exact y3 h hb fun hW a e=>z8O (V x hW) e
  | some n =>
   refine z2Z h hb fun hW l e=>?_
   refine z8O (n:=some n) (V x hW) ?_
   unfold zcU at e
   split at e
   ·rename_i cs hcs
    split at e
    ·rename_i hle
     obtain rfl:=Option.some.inj e
     rw [hcs]
     simp only [z4D,jS,hle,if_true]
    ·cases e
   ·cases e
 case iad z x i =>
  simp only [opP]
  split at hb
  ·rename_i a ha
   refine za0 h hb fun hW e he=>?_
   have:=V x hW
   rw [ha] at this
   obtain⟨r,p,y,e1,e2,e3,e4⟩:=zbo this (V i hW) he
   exact⟨_,e1,⟨r,p,y,rfl,e2,e3,e4⟩⟩
  ·rename_i j ha
   split at hb
   ·rename_i z' l hj
    split at hb
    ·rename_i hz
     obtain rfl:=Nat.eq_of_beq_eq_true hz
     obtain⟨q,hb,hq⟩:=VR h hb
     refine jP hb fun hW=>?_
     obtain⟨kk,m,e1,e2,e3,e4⟩:=VQ (V i hW) (hq hW)
     have:=T x hW
     rw [ha] at this
     simp only [TV0] at this
     rw [this,e1]
     obtain⟨hz0,hs⟩:=h.slot j _ hj
     rcases hs with ⟨hn,rfl⟩ | ⟨r,c,k',cs,hx,_⟩
     ·simp at e3;omega
     ·rw [hx]
      exact⟨.ptr r (0+m.toNat * z'),by simp only [z4E];rw [if_pos ⟨e2,e3⟩],⟨r,_,c,_,hx,rfl,fun z2 l2 e=>by
       rw [hj] at e;cases e;rw [e4];omega⟩⟩
    ·cases hb
   ·cases hb
  ·rename_i j n ha
   obtain⟨q,hb,hq⟩:=VR h hb
   refine jP hb fun hW=>?_
   obtain⟨kk,m,e1,e2,e3,e4⟩:=VQ (V i hW) (hq hW)
   have:=T x hW
   rw [ha] at this
   obtain⟨r,h1,h2⟩:=this
   rw [h2,e1]
   exact⟨.ptr r (0+m.toNat * z),by simp only [z4E];rw [if_pos ⟨e2,e3⟩],⟨r,h1,by rw [e4];simp⟩⟩
  ·cases hb
 case iaa n z x i =>
  simp only [opP]
  split at hb
  ·rename_i j o' ha
   obtain⟨q,hb,hq⟩:=VR h hb
   refine jP hb fun hW=>?_
   obtain⟨kk,m,e1,e2,e3,e4⟩:=VQ (V i hW) (hq hW)
   have:=T x hW
   rw [ha] at this
   obtain⟨r,h1,h2⟩:=this
   rw [h2,e1]
   exact⟨.ptr r (o'+m.toNat * z),by simp only [z37];rw [if_pos ⟨e2,e3⟩],⟨r,h1,by rw [e4]⟩⟩
  ·rename_i j i' o' ha
   obtain⟨q,hb,hq⟩:=VR h hb
   refine jP hb fun hW=>?_
   obtain⟨kk,m,e1,e2,e3,e4⟩:=VQ (V i hW) (hq hW)
   have:=T x hW
   rw [ha] at this
   obtain⟨r,n',c,p,h1,h2,h3⟩:=this
   rw [h2,e1]
   exact⟨.ptr r (p+m.toNat * z),by simp only [z37];rw [if_pos ⟨e2,e3⟩],⟨r,n',c,_,h1,rfl,fun z2 l2 e=>by rw [h3 z2 l2 e,e4,Nat.add_assoc]⟩⟩
  ·rename_i e o' ha
   obtain⟨q,hb,hq⟩:=VR h hb
   refine jP hb fun hW=>?_
   obtain⟨kk,m,e1,e2,e3,e4⟩:=VQ (V i hW) (hq hW)
   have:=T x hW
   rw [ha] at this
   obtain⟨r,p,y,h1,h2⟩:=this
   rw [h1,e1]
   exact⟨.ptr r (p+o'+m.toNat * z),by simp only [z37];rw [if_pos ⟨e2,e3⟩],⟨r,p,y,by rw [e4,Nat.add_assoc],h2⟩⟩
  ·rename_i a ha
   refine y3 h hb fun hW v e=>?_
   have:=V x hW
   rw [ha] at this
   unfold z37 at e
   split at e
   ·rename_i r o2 kk m e5 e6
    have hi:=V i hW
    rw [e6] at hi
    simp only [TV.val,RV] at this
    obtain⟨r',hr,e2⟩:=this
    rw [e2,hi.int_inv]
    simp only [z37]
    split at e
    ·rename_i hc
     rw [if_pos hc]
     obtain rfl:=Option.some.inj e
     exact⟨_,rfl,by simp only [RV];exact⟨r',hr,rfl⟩⟩
    ·cases e
   ·cases e
  ·cases hb
 case ixs x i=>exact y3 h hb fun hW a e=>zbi (V x hW) (V i hW) e
 case ixa n z kk x i=>exact y3 h hb fun hW a e=>zbj (V x hW) (V i hW) e
 case tas t z ok x =>
  split at hb
  ·rename_i hz
   exact y3 h hb fun hW a e=>zbk hz (V x hW) e
  ·cases hb
 case ext x i=>exact y3 h hb fun hW a e=>zbl (V x hW) e
 case lens x=>exact y3 h hb fun hW a e=>z9X (V x hW) e
 case len x =>
  simp only [opP]
  split at hb
  ·rename_i a ha
   refine y3 h hb fun hW v e=>?_
   have:=V x hW
   rw [ha] at this
   exact zbb this e
  ·rename_i j ha
   split at hb
   ·rename_i z' l hj
    refine y3 h hb fun hW v e=>?_
    cases e
    have:=T x hW
    rw [ha] at this
    simp only [TV0] at this
    rw [this]
    obtain⟨hz0,hs⟩:=h.slot j _ hj
    rcases hs with ⟨hn,rfl⟩ | ⟨r,c,k',cs,hx,_⟩
    ·rw [hn];exact⟨_,rfl,RV.flat rfl⟩
    ·rw [hx];exact⟨_,rfl,RV.flat rfl⟩
   ·cases hb
  ·rename_i j n ha
   refine y3 h hb fun hW v e=>?_
   cases e
   have:=T x hW
   rw [ha] at this
   obtain⟨r,h1,h2⟩:=this
   rw [h2]
   exact⟨_,rfl,RV.flat rfl⟩
  ·cases hb
 case lena n =>
  refine y3 h hb fun hW a e=>?_
  cases e
  exact⟨_,rfl,RV.flat rfl⟩
 case cap=>cases hb
 case mxi l=>exact y3 h hb fun hW a e=>zbm (h.vals hW l) e
 case mni l=>exact y3 h hb fun hW a e=>zbn (h.vals hW l) e
 case mlk q z ok x y =>
  split at hb
  ·rename_i hz
   exact y3 h hb fun hW a e=>zb7 h.rel hz (V x hW) (V y hW) e
  ·cases hb
 case lnm x=>exact y3 h hb fun hW a e=>zb8 h.rel (V x hW) e
end
end Go.Ab
namespace Go.Ab
def upd {α:Type} (f:Nat→α) (d:Nat) (v:α):Nat→α:=fun k=>if k=d then v else f k
theorem zD {α:Type} (f:Nat→α) (d:Nat) (v:α):upd f d v d=v:=by simp [upd]
theorem yu {α:Type} (f:Nat→α) {d k:Nat} (v:α) (h:k≠d):upd f d v k=f k:=by simp [upd,h]
structure JX (H H1:z3) (r:Nat) (ob:zF):Prop where
 get:H1.get r=some ob
 old:∀ s,s≠r→H1.get s=H.get s
 size:H.size≤H1.size
 lt:r < H1.size
theorem JX.push (H:z3) (ob:zF):JX H (H.push (some ob)) H.size ob :=
 ⟨by rw [z3.get_push];simp,fun s hs=>by rw [z3.get_push,if_neg hs],by simp,by simp⟩
theorem JX.put {H:z3} {r:Nat} (ob:zF) (h:r < H.size):JX H (H.put r (some ob)) r ob :=
 ⟨by rw [z3.get_put];simp,fun s hs=>by rw [z3.get_put,if_neg hs],by simp,by simpa using h⟩
structure xY (ρ:yP) (Φ:ya) (A:Nat→Prop) (σ:Nat→AV) (ω:PW) (Q:z3) (r:Nat):Prop where
 phi:Φ r=none
 res:¬ A r
 rho:∀ q o,Q.get q=some o→ρ q≠some r
 slot:∀ k s,lkp ω k=some s→blk (σ k)≠some r
section
variable {ρ ρ1:yP} {Φ Φ1:ya} {A:Nat→Prop} {σ:Nat→AV} {τ:PT} {ω:PW} {Q Q1 H H1:z3} {τ':Tau} {nt:Nat} {r:Nat} {ob:zF}
theorem Fr.fresh (h:Fr ρ Φ A σ τ ω Q τ' H nt):xY ρ Φ A σ ω Q H.size:=by
 refine⟨?_,fun hA=>?_,fun q o hq e=>?_,fun k s hk e=>?_⟩
 ·cases e:Φ H.size with
  | none=>rfl
  | some o=>have:=(h.rel.fro _ _ e).1;omega
 ·have:=(h.rel.res _ hA).1;omega
 ·have:=(h.rel.dom _ _ e).2;omega
 ·have:=(h.sep k s _ hk e).1;omega
theorem Fr.grow (h:Fr ρ Φ A σ τ ω Q τ' H nt) (hn:JX H H1 r ob) (hf:xY ρ Φ A σ ω Q r):Fr ρ Φ A σ τ ω Q τ' H1 nt:=by
 have old:∀ s,s≠r→H1.get s=H.get s:=hn.old
 refine⟨⟨fun q r' hq=>?_,fun q o hq=>?_,h.rel.inj,h.rel.sep,fun s o hs=>?_,fun s hs=>?_⟩,fun k s hk=>?_,fun k s r' hk hb=>?_,h.dis,h.len,h.tmp⟩
 ·have h1:=h.rel.dom q r' hq;have:=hn.size;exact⟨h1.1,by omega⟩
 ·obtain⟨r',o',h1,h4,h5⟩:=h.rel.obj q o hq
  exact⟨r',o',h1,by rw [old r' fun e=>hf.rho q o hq (e ▸ h1)];exact h4,h5⟩
 ·have:=h.rel.fro s o hs
  have:=hn.size
  exact⟨by omega,by rw [old s fun e=>by rw [e,hf.phi] at hs;cases hs];exact(h.rel.fro s o hs).2⟩
 ·have:=(h.rel.res s hs).1
  have:=hn.size
  exact⟨by omega,(h.rel.res s hs).2⟩
 ·exact(h.slot k s hk).mono ρ.refl Φ.refl fun r' hr'=>old r' fun e=>hf.slot k s hk (e ▸ hr')
 ·obtain⟨h1,h2⟩:=h.sep k s r' hk hb
  have:=hn.size
  exact⟨by omega,h2⟩
theorem Fr.put (h:Fr ρ Φ A σ τ ω Q τ' H nt) {d:Option Nat} (hd:∀ i,d=some i→i < nt) {y:TV} {x:AV} (hy:∀ i,d=some i→TVR ρ Φ σ ω (τ'.set i x) y x):Fr ρ Φ A σ (xA τ d y) ω Q (τ'.put d x) H nt :=
 ⟨h.rel,h.slot,h.sep,h.dis,by cases d<;>simp [Tau.put,h.len],z9V (fun i e=>by rw [h.len];exact hd i e) h.tmp hy⟩
theorem Fr.congr (h : Fr ρ Φ A σ τ ω Q τ' H nt) {τ2 : PT} {ω2 : PW} (h1 : ∀ t, xE τ2 t = xE τ t) (h2 : ∀ k, lkp ω2 k = lkp ω k) : Fr ρ Φ A σ τ2 ω2 Q τ' H nt :=
  ⟨h.rel, fun k s e => h.slot k s (by rw [← h2]; exact e), fun k s r e => h.sep k s r (by rw [← h2]; exact e), fun k k' s s' r hne e e' => h.dis k k' s s' r hne (by rw [← h2]; exact e) (by rw [← h2]; exact e'), h.len,
   fun t => by rw [h1]; exact (h.tmp t).turn fun k z l e => ⟨l, by rw [← h2]; exact e⟩⟩
theorem Wo (j:Nat) (τ:PT) (t:Nat):xE (purge j τ) t=xE (purge j (purge j τ)) t:=by
 simp only [z0C]
 unfold z0B
 cases hx:(xE τ t).of j with
 | true=>rfl
 | false=>simp only [hx]
theorem z64 {α:Type} (j:Nat) (x:α) (ω:List (Nat × α)) (k:Nat):lkp ((j,x)::rmv ω j) k=lkp ((j,x)::rmv (rmv ω j) j) k:=by
 simp only [zC,yl]
 by_cases h:j=k
 ·simp [h]
 ·simp [h,Ne.symm h]
theorem Fr.drop (h:Fr ρ Φ A σ τ ω Q τ' H nt) (j:Nat):Fr ρ Φ A σ (purge j τ) (rmv ω j) Q τ' H nt:=by
 have hk:∀ {k s},lkp (rmv ω j) k=some s→k≠j∧lkp ω k=some s:=fun {k s} e=>by
  rw [yl] at e
  split at e
  ·cases e
  ·exact⟨by assumption,e⟩
 refine⟨h.rel,fun k s e=>h.slot k s (hk e).2,fun k s r e=>h.sep k s r (hk e).2,fun k k' s s' r hne e e'=>h.dis k k' s s' r hne (hk e).2 (hk e').2,h.len,?_⟩
 exact z1P (k:=j) (fun i hi=>⟨rfl,by rw [yl,if_neg hi]⟩) h.tmp
theorem Fr.slotNew (h:Fr ρ Φ A σ τ ω Q τ' H nt) {d:Nat} {s:z42} {v:AV} (hv:Wm ρ Φ H s v) (hb:∀ r,blk v=some r→r < H.size∧xY ρ Φ A σ (rmv ω d) Q r) :
  Fr ρ Φ A (upd σ d v) (purge d τ) ((d,s)::rmv ω d) Q τ' H nt:=by
 have hk:∀ {k t},k≠d→lkp ((d,s)::rmv ω d) k=some t→lkp ω k=some t:=fun {k t} hne e=>by
  rw [zC,if_neg (Ne.symm hne),yl,if_neg hne] at e
  exact e
 have hr:∀ {k t},k≠d→lkp ω k=some t→lkp (rmv ω d) k=some t:=fun {k t} hne e=>by rw [yl,if_neg hne];exact e
 refine⟨h.rel,fun k t e=>?_,fun k t r e hr'=>?_,fun k k' t t' r hne e e' hr'=>?_,h.len,?_⟩
 ·by_cases hne:k=d
  ·subst hne
   rw [zC,if_pos rfl] at e
   cases e
   rw [zD];exact hv
  ·rw [yu _ _ hne];exact h.slot k t (hk hne e)
 ·by_cases hne:k=d
  ·subst hne
   rw [zD] at hr'
   obtain⟨h1,h2⟩:=hb r hr'
   exact⟨h1,h2.phi,h2.res,h2.rho⟩
  ·rw [yu _ _ hne] at hr';exact h.sep k t r (hk hne e) hr'
 ·by_cases h1:k=d
  ·subst h1
   rw [zD] at hr'
   have hne':k'≠k:=Ne.symm hne
   rw [yu _ _ hne']
   exact(hb r hr').2.slot k' t' (hr hne' (hk hne' e'))
  ·rw [yu _ _ h1] at hr'
   by_cases h2:k'=d
   ·subst h2
    rw [zD]
    intro e2
    exact(hb r e2).2.slot k t (hr h1 (hk h1 e)) hr'
   ·rw [yu _ _ h2];exact h.dis k k' t t' r hne (hk h1 e) (hk h2 e') hr'
 ·exact z1P (k:=d) (fun i hi=>⟨by rw [yu _ _ hi],by rw [zC,if_neg (Ne.symm hi),yl,if_neg hi]⟩) h.tmp
theorem xY.rmv (h:xY ρ Φ A σ ω Q r) (j:Nat):xY ρ Φ A σ (rmv ω j) Q r :=
 ⟨h.phi,h.res,h.rho,fun k s e=>by
  rw [yl] at e
  split at e
  ·cases e
  ·exact h.slot k s e⟩
theorem Fr.froze (h:Fr ρ Φ A σ τ ω Q τ' H nt) (hf:xY ρ Φ A σ ω Q r) (hg:H.get r=some ob) (hr:r < H.size):Φ.le (upd Φ r (some ob))∧Fr ρ (upd Φ r (some ob)) A σ τ ω Q τ' H nt:=by
 have hle:Φ.le (upd Φ r (some ob)):=fun s o e=>by
  by_cases hs:s=r
  ·subst hs;rw [hf.phi] at e;cases e
  ·rw [yu _ _ hs];exact e
 refine⟨hle,⟨h.rel.dom,fun q o hq=>?_,h.rel.inj,fun q o r' hq e=>?_,fun s o e=>?_,fun s hs=>?_⟩,fun k s hk=>(h.slot k s hk).mono ρ.refl hle fun _ _=>rfl,fun k s r' hk hb=>?_,h.dis,h.len,fun t=>(h.tmp t).mono ρ.refl hle⟩
 ·obtain⟨r',o',h1,h4,h5⟩:=h.rel.obj q o hq
  exact⟨r',o',h1,h4,h5.mono ρ.refl hle⟩
 ·have:=h.rel.sep q o r' hq e
  refine⟨?_,this.2⟩
  rw [yu _ _ (fun e2:r'=r=>hf.rho q o hq (e2 ▸ e))];exact this.1
 ·by_cases hs:s=r
  ·subst hs;rw [zD] at e;cases e;exact⟨hr,hg⟩
  ·rw [yu _ _ hs] at e;exact h.rel.fro s o e
 ·have:=h.rel.res s hs
  refine⟨this.1,?_⟩
  rw [yu _ _ (fun e2:s=r=>hf.res (e2 ▸ hs))];exact this.2
 ·obtain⟨h1,h2,h3⟩:=h.sep k s r' hk hb
  refine⟨h1,?_,h3⟩
  rw [yu _ _ (fun e2:r'=r=>hf.slot k s hk (e2 ▸ hb))];exact h2
theorem Fr.namedO (h:Fr ρ Φ A σ τ ω Q τ' H nt) (hf:xY ρ Φ A σ ω Q r) {ob ob':zF} (hg:H.get r=some ob') (hr:r < H.size) (hc:OR ρ Φ ob ob') :
  ρ.le (upd ρ Q.size (some r))∧Fr (upd ρ Q.size (some r)) Φ A σ τ ω (Q.push (some ob)) τ' H nt:=by
 have hnone:ρ Q.size=none:=by
  cases e:ρ Q.size with
  | none=>rfl
  | some r'=>have:=(h.rel.dom _ _ e).1;omega
 have hle:ρ.le (upd ρ Q.size (some r)):=fun s r' e=>by
  by_cases hs:s=Q.size
  ·subst hs;rw [hnone] at e;cases e
  ·rw [yu _ _ hs];exact e
 refine⟨hle,⟨fun q r' e=>?_,fun q o hq=>?_,fun q q' o o' r' hq hq' e e'=>?_,fun q o r' hq e=>?_,h.rel.fro,h.rel.res⟩,fun k s hk=>(h.slot k s hk).mono hle Φ.refl fun _ _=>rfl,fun k s r' hk hb=>?_,h.dis,h.len,fun t=>(h.tmp t).mono hle Φ.refl⟩
 ·by_cases hs:q=Q.size
  ·subst hs;rw [zD] at e;cases e;exact⟨by simp,hr⟩
  ·rw [yu _ _ hs] at e;have:=h.rel.dom q r' e;exact⟨by simp;omega,this.2⟩
 ·rw [z3.get_push] at hq
  split at hq
  ·rename_i e;subst e;cases hq
   exact⟨r,ob',zD _ _ _,hg,hc.mono hle Φ.refl⟩
  ·rename_i e
   obtain⟨r',o',h1,h4,h5⟩:=h.rel.obj q o hq
   exact⟨r',o',hle _ _ h1,h4,h5.mono hle Φ.refl⟩
 ·rw [z3.get_push] at hq hq'
  split at hq
  ·rename_i h1
   subst h1
   rw [zD] at e
   cases e
   split at hq'
   ·rename_i h2;exact h2.symm
   ·rename_i h2
    rw [yu _ _ h2] at e'
    exact absurd e' (hf.rho q' o' hq')
  ·rename_i h1
   rw [yu _ _ h1] at e
   split at hq'
   ·rename_i h2
    subst h2
    rw [zD] at e'
    cases e'
    exact absurd e (hf.rho q o hq)
   ·rename_i h2
    rw [yu _ _ h2] at e'
    exact h.rel.inj q q' o o' r' hq hq' e e'
 ·rw [z3.get_push] at hq
  split at hq
  ·rename_i h1;subst h1;rw [zD] at e;cases e;exact⟨hf.phi,hf.res⟩
  ·rename_i h1;rw [yu _ _ h1] at e;exact h.rel.sep q o r' hq e
 ·obtain⟨h1,h2,h3,h4⟩:=h.sep k s r' hk hb
  refine⟨h1,h2,h3,fun q o hq e=>?_⟩
  rw [z3.get_push] at hq
  split at hq
  ·rename_i e1;subst e1;rw [zD] at e;cases e;exact hf.slot k s hk hb
  ·rename_i e1;rw [yu _ _ e1] at e;exact h4 q o hq e
theorem Fr.turn (h:Fr ρ Φ A σ τ ω Q τ' H nt) {j:Nat} {s s1:z42} (hj:lkp ω j=some s) (hr:blk (σ j)=some r) (hs:H1.size=H.size) (ho:∀ q,q≠r→H1.get q=H.get q) (hv:Wm ρ Φ H1 s1 (σ j))
  (hz:∀ z l,s1=.own z l→∃ l',s=.own z l'):Fr ρ Φ A σ τ ((j,s1)::rmv ω j) Q τ' H1 nt:=by
 obtain⟨p1,p2,p3,p4⟩:=h.sep j s r hj hr
 have hk:∀ {k t},k≠j→lkp ((j,s1)::rmv ω j) k=some t→lkp ω k=some t:=fun {k t} hne e=>by
  rw [zC,if_neg (Ne.symm hne),yl,if_neg hne] at e
  exact e
 refine⟨⟨fun q r' e=>by rw [hs];exact h.rel.dom q r' e,fun q o hq=>?_,h.rel.inj,h.rel.sep,fun q o e=>?_,fun q e=>by rw [hs];exact h.rel.res q e⟩,fun k t e=>?_,fun k t r' e hr'=>?_,fun k k' t t' r' hne e e' hr'=>?_,h.len,fun t=>(h.tmp t).turn fun k z l e=>?_⟩
 ·obtain⟨r',o',h1,h4,h5⟩:=h.rel.obj q o hq
  exact⟨r',o',h1,by rw [ho r' fun e=>p4 q o hq (e ▸ h1)];exact h4,h5⟩
 ·have:=h.rel.fro q o e
  exact⟨by rw [hs];exact this.1,by rw [ho q fun e2=>by rw [e2,p2] at e;cases e];exact this.2⟩
 ·by_cases hne:k=j
  ·subst hne
   rw [zC,if_pos rfl] at e
   cases e
   exact hv
  ·have e:=hk hne e
   exact(h.slot k t e).mono ρ.refl Φ.refl fun r' hr'=>ho r' fun e2=>h.dis k j t s r' hne e hj hr' (e2 ▸ hr)
 ·rw [hs]
  by_cases hne:k=j
  ·subst hne;exact h.sep k s r' hj hr'
  ·exact h.sep k t r' (hk hne e) hr'
 ·by_cases h1:k=j
  ·subst h1;exact h.dis k k' s t' r' hne hj (hk (Ne.symm hne) e') hr'
  ·by_cases h2:k'=j
   ·subst h2;exact h.dis k k' t s r' hne (hk h1 e) hj hr'
   ·exact h.dis k k' t t' r' hne (hk h1 e) (hk h2 e') hr'
 ·by_cases hne:k=j
  ·subst hne
   rw [zC,if_pos rfl] at e
   obtain⟨l',e2⟩:=hz z l (Option.some.inj e)
   exact⟨l',by rw [hj,e2]⟩
  ·exact⟨l,hk hne e⟩
theorem Fr.turnO (h:Fr ρ Φ A σ τ ω Q τ' H nt) {q:Nat} {ob ob' o:zF} (hq:Q.get q=some o) (hr:ρ q=some r) (hs:H1.size=H.size) (ho:∀ s,s≠r→H1.get s=H.get s)
  (hg:H1.get r=some ob') (hc:OR ρ Φ ob ob'):Fr ρ Φ A σ τ ω (Q.put q (some ob)) τ' H1 nt:=by
 obtain⟨p2,p3⟩:=h.rel.sep q o r hq hr
 have back:∀ {s u},(Q.put q (some ob)).get s=some u→∃ u0,Q.get s=some u0:=fun {s u} e=>by
  rw [z3.get_put] at e
  split at e
  ·rename_i e1;exact⟨o,by rw [e1];exact hq⟩
  ·exact⟨u,e⟩
 refine⟨⟨fun s r' e=>by rw [hs,z3.size_put];exact h.rel.dom s r' e,fun s u e=>?_,fun s s' u u' r' e e' hs hs'=>?_,fun s u r' e hs=>?_,fun s u e=>?_,fun s e=>by rw [hs];exact h.rel.res s e⟩,fun k' s e=>?_,fun k' s r' e hb=>?_,h.dis,h.len,h.tmp⟩
 ·rw [z3.get_put] at e
  split at e
  ·rename_i e1;subst e1;cases e;exact⟨r,ob',hr,hg,hc⟩
  ·rename_i e1
   obtain⟨r',o',h1,h4,h5⟩:=h.rel.obj s u e
   refine⟨r',o',h1,?_,h5⟩
   rw [ho r' fun e2=>e1 (h.rel.inj s q u o r' e hq h1 (e2 ▸ hr))];exact h4
 ·obtain⟨u0,e0⟩:=back e
  obtain⟨u1,e1⟩:=back e'
  exact h.rel.inj s s' u0 u1 r' e0 e1 hs hs'
 ·obtain⟨u0,e0⟩:=back e
  exact h.rel.sep s u0 r' e0 hs
 ·have:=h.rel.fro s u e
  exact⟨by rw [hs];exact this.1,by rw [ho s fun e2=>by rw [e2,p2] at e;cases e];exact this.2⟩
 ·exact(h.slot k' s e).mono ρ.refl Φ.refl fun r' hr'=>ho r' fun e2=>(h.sep k' s r' e hr').2.2.2 q o hq (e2 ▸ hr)
 ·obtain⟨h1,h2,h3,h4⟩:=h.sep k' s r' e hb
  refine⟨by rw [hs];exact h1,h2,h3,fun s' u e'=>?_⟩
  obtain⟨u0,e0⟩:=back e'
  exact h4 s' u0 e0
theorem Fr.freeze (h:Fr ρ Φ A σ τ ω Q τ' H nt) {j z:Nat} {xs:List AV} (hj:lkp ω j=some (.own z xs)) :
  ∃ Φ1,Φ.le Φ1∧(∀ r,A r→Φ1 r=none)∧RV ρ Φ1 (.fz z xs) (σ j)∧Fr ρ Φ1 A σ (purge j τ) (rmv ω j) Q τ' H nt:=by
 obtain⟨hz,hs⟩:=h.slot j _ hj
 rcases hs with ⟨hn,rfl⟩ | ⟨r,c,k,cs,hx,hg,hl,he,hk⟩
 ·refine⟨Φ,Φ.refl,fun r hr=>(h.rel.res r hr).2,?_,h.drop j⟩
  rw [hn];exact RV.fz (cs:=[]) ⟨rfl,rfl⟩ RE.nil'
 ·have hb:blk (σ j)=some r:=by rw [hx];rfl
  obtain⟨p1,p2,p3,p4⟩:=h.sep j _ r hj hb
  have hf:xY ρ Φ A σ (rmv ω j) Q r:=⟨p2,p3,p4,fun k' s e=>by
   rw [yl] at e
   split at e
   ·cases e
   ·rename_i hne;exact h.dis j k' _ s r (Ne.symm hne) hj e hb⟩
  obtain⟨hle,h1⟩:=(h.drop j).froze hf hg p1
  refine⟨_,hle,fun s hs=>(h1.rel.res s hs).2,?_,h1⟩
  rw [hx]
  refine RV.fz (cs:=cs.take (xs.length * z)) ⟨rfl,?_,fun q e=>?_⟩ (he.mono ρ.refl hle z _ _)
  ·rw [zD]
   simp only [Zw,Nat.zero_add,hl,if_true,List.drop_zero]
  ·rcases hk with ⟨_,rfl⟩ | ⟨q',_,rfl,h2,_⟩
   ·cases e
   ·cases e;exact h2
theorem Fr.freezeC (h:Fr ρ Φ A σ τ ω Q τ' H nt) {j:Nat} {cs:List AV} (hj:lkp ω j=some (.cells cs)) :
  ∃ Φ1,Φ.le Φ1∧(∀ r o,σ j=.ptr r 0→RV ρ Φ1 (.cp cs o) (.ptr r o))∧Fr ρ Φ1 A σ (purge j τ) (rmv ω j) Q τ' H nt:=by
 obtain⟨r,z,cs',hx,⟨kd,hkd,hg⟩,hc⟩:=h.slot j _ hj
 have hb:blk (σ j)=some r:=by rw [hx];rfl
 obtain⟨p1,p2,p3,p4⟩:=h.sep j _ r hj hb
 have hf:xY ρ Φ A σ (rmv ω j) Q r:=⟨p2,p3,p4,fun k' s e=>by
  rw [yl] at e
  split at e
  ·cases e
  ·rename_i hne;exact h.dis j k' _ s r (Ne.symm hne) hj e hb⟩
 obtain⟨hle,h1⟩:=(h.drop j).froze hf hg p1
 refine⟨_,hle,fun r' o e=>?_,h1⟩
 rw [hx] at e
 cases e
 simp only [RV]
 exact⟨r,kd,z,cs',rfl,zD _ _ _,hc.mono ρ.refl hle _ _⟩
theorem VS {β:Type}:∀ (l:List Nat) {τ:PT} {ω:PW} {Φ:ya} {k:PT→PW→Option β} {b:β},Fr ρ Φ A σ τ ω Q τ' H nt→WO l τ ω k=some b →
  ∃ τ1 ω1 Φ1,k τ1 ω1=some b∧Φ.le Φ1∧Fr ρ Φ1 A σ τ1 ω1 Q τ' H nt
 | [],τ,ω,Φ,k,b,h,hb=>⟨τ,ω,Φ,hb,Φ.refl,h⟩
 | t::l,τ,ω,Φ,k,b,h,hb=>by
  unfold WO at hb
  split at hb
  ·rename_i j hj
   split at hb
   ·rename_i z xs hs
    obtain⟨Φ1,hle,_,hv,h1⟩:=h.freeze hs
    have ht:=h.tmp t
    rw [hj] at ht
    simp only [TVR,TV0] at ht
    have h2:Fr ρ Φ1 A σ ((t,.v (.fz z xs))::purge j τ) (rmv ω j) Q τ' H nt:=by
     refine⟨h1.rel,h1.slot,h1.sep,h1.dis,h1.len,fun i=>?_⟩
     rw [vh]
     split
     ·rename_i e;subst e;rw [ht];exact hv
     ·exact h1.tmp i
    obtain⟨τ2,ω2,Φ2,e,hle2,h3⟩:=VS l h2 hb
    exact⟨τ2,ω2,Φ2,e,ya.trans hle hle2,h3⟩
   ·cases hb
  ·rename_i j o hj
   split at hb
   ·rename_i cs hs
    obtain⟨Φ1,hle,hv,h1⟩:=h.freezeC hs
    have ht:=h.tmp t
    rw [hj] at ht
    obtain⟨r,e1,e2⟩:=ht
    have h2:Fr ρ Φ1 A σ ((t,.v (.cp cs o))::purge j τ) (rmv ω j) Q τ' H nt:=by
     refine⟨h1.rel,h1.slot,h1.sep,h1.dis,h1.len,fun i=>?_⟩
     rw [vh]
     split
     ·rename_i e;subst e;rw [e2];exact hv r o e1
     ·exact h1.tmp i
    obtain⟨τ2,ω2,Φ2,e,hle2,h3⟩:=VS l h2 hb
    exact⟨τ2,ω2,Φ2,e,ya.trans hle hle2,h3⟩
   ·cases hb
  ·exact VS l h hb
  ·cases hb
end
end Go.Ab
