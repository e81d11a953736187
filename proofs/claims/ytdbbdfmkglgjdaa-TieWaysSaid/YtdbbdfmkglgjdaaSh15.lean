/- slices.Delete at the heap: a slice of one's own with elements taken out. -/
import Derived.Test.YtdbbdfmkglgjdaaSh14
import Derived.Test.YtdbbdfmkglgjdaaPvE
import Derived.Test.YtdbbdfmkglgjdaaSh13
import Derived.OpenShut
import Derived.Deep.Slices
import Derived.ChangeSame
import Derived.SliceStrings
set_option linter.unusedVariables false
set_option linter.unusedSimpArgs false
namespace Go.Ab
section
variable {H:z3} {r n i j z:Nat} {k:Kd} {c:kb} {cs:List AV}
end
theorem xM.run {P:Program} {E0 E:Env} (hE:W7 P E0) (hst:W4 E0 E) {f:Nat} (hf:E0.spec f=none) {g:List AV→z3→Option (AV × z3)}
  (h:∀ args H v H',g args H=some (v,H')→zL E f args H=some (v,H')):xM P f g:=by
 intro B ρ w H args xs v H' hB hs hx hg
 obtain⟨n,hn⟩:=xK.1 (wQ hst (h args H v H' hg))
 obtain⟨h1,h2⟩:=(Jh hE n).1 f args H v H' hf hn
 exact Or.inl ⟨h1,h2 B ρ w xs hB hs hx⟩
end Go.Ab
namespace Go.Ab
open Go.Deep Go.ChangeShapes
section
variable {α:Type} {β:Type}
theorem z0f {g:α→List β} {z:Nat}:∀ (L:List α),(∀ a ∈ L,(g a).length=z)→(L.flatMap g).length=L.length * z:=by
 intro L
 induction L with
 | nil=>intro _;simp
 | cons a L ih =>
  intro hg
  rw [List.flatMap_cons,List.length_append,hg a List.mem_cons_self,ih (fun b hb=>hg b (List.mem_cons_of_mem _ hb)),List.length_cons,Nat.succ_mul,Nat.add_comm]
def Els (z:Nat) (f:α→AV) (H:z3) (av:AV) (l:List α):Prop:=((av=.nils∧l=[])∨∃ r o c,av=.sl r o l.length c∧r < H.size∧H.row r o (l.length * z)=some (l.flatMap fun a=>(f a).cells)∧capOk av=true) ∧
 ∀ a ∈ l,(f a).cells.length=z∧(f a).cells.all AV.one=true∧(f a).isTup=false∧cOk (f a)=true
theorem Els.kept {z:Nat} {f:α→AV} {H H1:z3} {av:AV} {l:List α} (hk:wR H H1) (h:Els z f H av l):Els z f H1 av l:=by
 refine⟨?_,h.2⟩
 rcases h.1 with e | ⟨r,o,c,e,hr,hrow,hc⟩
 ·exact Or.inl e
 ·refine Or.inr ⟨r,o,c,e,Nat.lt_of_lt_of_le hr hk.1,?_,hc⟩
  rw [qb] at hrow ⊢
  rw [hk.2 r hr];exact hrow
theorem Els.rv {ρ:yP} {z:Nat} {f:α→AV} {H:z3} {av:AV} {l:List α} (h:Els z f H av l):RV ρ (V6 H) (.fz z (l.map f)) av:=by
 have hre:∀ l:List α,(∀ a ∈ l,(f a).cells.length=z∧(f a).cells.all AV.one=true∧(f a).isTup=false∧cOk (f a)=true)→RE ρ (V6 H) z (l.map f) (l.flatMap fun a=>(f a).cells):=by
  intro l
  induction l with
  | nil=>intro _;simp only [List.map_nil,List.flatMap_nil,RE]
  | cons a l ih =>
   intro hl
   obtain⟨h1,h2,h3,h4⟩:=hl a List.mem_cons_self
   simp only [List.map_cons,List.flatMap_cons,RE]
   exact⟨f a,_,rfl,h1,h2,h3,RV.flat h4,ih fun b hb=>hl b (List.mem_cons_of_mem _ hb)⟩
 refine RV.fz ?_ (hre l h.2)
 rcases h.1 with ⟨rfl,rfl⟩ | ⟨r,o,c,rfl,hr,hrow,hc⟩
 ·exact⟨rfl,rfl⟩
 ·refine⟨by simp,?_,fun q e=>?_⟩
  ·simp only [V6,if_pos hr,List.length_map]
   rw [← qT];exact hrow
  ·subst e
   simpa [capOk] using hc
end
section
variable {P:Program} {r:Reach} {base:Nat} {α:Type}
end
end Go.Ab
set_option linter.unusedSectionVars false
namespace Go.Ab
open Go.RowKit
section
variable {E:Env}
end
end Go.Ab
/- Slices of structs, as lists: read, cut, copied, gone on. -/
namespace Go.Ab
structure Enc (α:Type) where
 z:Nat
 enc:α→List AV
 len:∀ a,(enc a).length=z
 one:∀ a,(enc a).all AV.one=true
 pos:0 < z
section
variable {α:Type} (E:Enc α)
theorem Enc.length:∀ l:List α,(l.flatMap E.enc).length=l.length * E.z
 | []=>by simp
 | a::l=>by rw [List.flatMap_cons,List.length_append,E.len,Enc.length l,List.length_cons,Nat.succ_mul,Nat.add_comm]
theorem Enc.all:∀ l:List α,(l.flatMap E.enc).all AV.one=true
 | []=>rfl
 | a::l=>by rw [List.flatMap_cons,List.all_append,E.one,Enc.all l];rfl
theorem Enc.skip (a:α) (m:List AV) (k:Nat):(E.enc a++m).drop (k+E.z)=m.drop k:=by
 rw [Nat.add_comm,← List.drop_drop,List.drop_left' (E.len a)]
theorem Enc.drop:∀ (l:List α) (i:Nat),(l.flatMap E.enc).drop (i * E.z)=(l.drop i).flatMap E.enc
 | l,0=>by simp
 | [],i+1=>by simp
 | a::l,i+1=>by
  rw [List.flatMap_cons,Nat.succ_mul,E.skip,List.drop_succ_cons]
  exact Enc.drop l i
theorem Enc.take:∀ (l:List α) (i:Nat),(l.flatMap E.enc).take (i * E.z)=(l.take i).flatMap E.enc
 | l,0=>by simp
 | [],i+1=>by simp
 | a::l,i+1=>by
  rw [List.flatMap_cons,Nat.succ_mul,Nat.add_comm,List.take_succ_cons,List.flatMap_cons,← Enc.take l i]
  rw [List.take_append,E.len,List.take_of_length_le (by rw [E.len];omega),Nat.add_sub_cancel_left]
theorem Enc.at (l:List α) (i:Nat) (a:α) (h:l[i]? = some a):((l.flatMap E.enc).drop (i * E.z)).take E.z=E.enc a:=by
 rw [E.drop]
 obtain⟨hi,rfl⟩:=List.getElem?_eq_some_iff.1 h
 rw [List.drop_eq_getElem_cons hi,List.flatMap_cons]
 exact List.take_left' (E.len _)
def RdT (H:z3) (v:AV) (l:List α):Prop :=
 (v=.nils∧l=[])∨∃ r o c,v=.sl r o l.length c∧r < H.size∧H.row r o (l.length * E.z)=some (l.flatMap E.enc)
variable {E} {H:z3} {v:AV} {l:List α}
theorem RdT.nils (H:z3):RdT E H .nils ([]:List α):=Or.inl ⟨rfl,rfl⟩
theorem RdT.len (h:RdT E H v l):z0R v=some (.int .i64 l.length):=by
 rcases h with ⟨rfl,rfl⟩ | ⟨r,o,c,rfl,_⟩<;>rfl
theorem RdT.slen (h:RdT E H v l):v.slen=l.length:=by
 rcases h with ⟨rfl,rfl⟩ | ⟨r,o,c,rfl,_⟩<;>rfl
theorem RdT.flat (h:RdT E H v l):v.cells=[v]∧v.isRaw=false∧v.one=true:=by
 rcases h with ⟨rfl,_⟩ | ⟨r,o,c,rfl,_⟩<;>exact⟨rfl,rfl,rfl⟩
theorem RdT.same {Q:Nat→Prop} {H1:z3} (hk:Xw Q H H1) (hq:∀ r o n c,v=.sl r o n c→Q r) (h:RdT E H v l):RdT E H1 v l:=by
 rcases h with h | ⟨r,o,c,rfl,hr,hrow⟩
 ·exact Or.inl h
 ·refine Or.inr ⟨r,o,c,rfl,Nat.lt_of_lt_of_le hr hk.size,?_⟩
  rw [← hrow,qb,qb,hk.get r (hq _ _ _ _ rfl)]
theorem RdT.kept {H1:z3} (hk:wR H H1) (h:RdT E H v l):RdT E H1 v l:=by
 rcases h with h | ⟨r,o,c,rfl,hr,hrow⟩
 ·exact Or.inl h
 ·refine Or.inr ⟨r,o,c,rfl,Nat.lt_of_lt_of_le hr hk.size,?_⟩
  rw [← hrow,qb,qb,hk.get r hr]
theorem RdT.lt (h:RdT E H v l) {r o n:Nat} {c:kb} (e:v=.sl r o n c):r < H.size:=by
 rcases h with ⟨rfl,_⟩ | ⟨r',o',c',rfl,hr,_⟩
 ·cases e
 ·cases e;exact hr
theorem RdT.mk' {r:Nat} {k:Kd} {z:Nat} {c:kb} {more:List AV} (hr:r < H.size) (hg:H.get r=some (.cells k z (l.flatMap E.enc++more))):RdT E H (.sl r 0 l.length c) l:=by
 refine Or.inr ⟨r,0,c,rfl,hr,?_⟩
 rw [qb,hg,jR,List.length_append,E.length,if_pos (by omega),List.drop_zero,List.take_append_of_le_length (by rw [E.length];exact Nat.le_refl _),List.take_of_length_le (by rw [E.length];exact Nat.le_refl _)]
theorem RdT.iad (h:RdT E H v l) (k:IntKind) {i:Int} (h0:0≤i) (h1:i < l.length):z4E E.z v (.int k i)=some (elp E.z v i):=by
 rcases h with ⟨rfl,rfl⟩ | ⟨r,o,c,rfl,_⟩
 ·simp at h1;omega
 ·simp only [zae,elp];rw [if_pos ⟨h0,h1⟩]
theorem RdT.row (h:RdT E H v l) {i:Nat} {a:α} (ha:l[i]? = some a):∃ r o,elp E.z v i=.ptr r o∧r < H.size∧H.row r o E.z=some (E.enc a):=by
 rcases h with ⟨rfl,rfl⟩ | ⟨r,o,c,rfl,hr,hrow⟩
 ·simp at ha
 ·refine⟨r,o+i * E.z,by simp [elp],hr,?_⟩
  rw [← E.at l i a ha]
  have hi:=(List.getElem?_eq_some_iff.1 ha).1
  have hle:i * E.z+E.z≤l.length * E.z:=by rw [← Nat.succ_mul];exact Nat.mul_le_mul_right _ hi
  rw [qb] at hrow ⊢
  unfold W5 at hrow ⊢
  generalize H.get r=g at *
  cases g with
  | none=>cases hrow
  | some b=>cases b with
   | cells k z a =>
    dsimp only at hrow ⊢
    split at hrow
    ·rename_i hle2
     have e:=Option.some.inj hrow
     rw [if_pos (by omega),← e,List.drop_take,List.take_take,List.drop_drop,Nat.min_eq_left (by omega)]
    ·cases hrow
   | _=>cases hrow
theorem RdT.ldn (h:RdT E H v l) {i:Nat} {a:α} (ha:l[i]? = some a):z4C H E.z (elp E.z v i)=some (.agg (E.enc a)):=by
 obtain⟨r,o,e,_,hr⟩:=h.row ha
 rw [e,z4C,hr];rfl
theorem RdT.fad (h:RdT E H v l) {i:Nat} {a:α} (ha:l[i]? = some a) (j:Nat):∃ p,yy j (elp E.z v i)=some p∧∀ x,(E.enc a)[j]? = some x→ldA H p=some x:=by
 obtain⟨r,o,e,_,hr⟩:=h.row ha
 exact⟨.ptr r (o+j),by rw [e];rfl,fun x hx=>(Ke hr).2 j x hx⟩
theorem RdT.take {kk:IntKind} (h:RdT E H v l) (hc:capOk v=true) {i:Nat} (hi:i≤l.length):∃ s,x8 H E.z v none (some (.int kk i)) none=some s∧RdT E H s (l.take i)∧capOk s=true∧∀ q,notOf v q→notOf s q:=by
 rcases h with ⟨rfl,rfl⟩ | ⟨r,o,c,rfl,hr,hrow⟩
 ·obtain rfl:i=0:=by simpa using hi
  exact⟨.nils,by simp [x8,ke,yh,bnd],by simpa using RdT.nils H,rfl,fun _ h=>h⟩
 ·have hrd:∀ c',RdT E H (.sl r o i c') (l.take i):=fun c'=>by
   refine Or.inr ⟨r,o,c',by rw [List.length_take,Nat.min_eq_left hi],hr,?_⟩
   rw [List.length_take,Nat.min_eq_left hi,← E.take]
   have hle:i * E.z≤l.length * E.z:=Nat.mul_le_mul_right _ hi
   rw [qb] at hrow ⊢
   unfold W5 at hrow ⊢
   generalize H.get r=g at *
   cases g with
   | none=>cases hrow
   | some b=>cases b with
    | cells k z a =>
     dsimp only at hrow ⊢
     split at hrow
     ·rename_i hle2
      have e:=Option.some.inj hrow
      rw [if_pos (by omega),← e,List.take_take,Nat.min_eq_left hle]
     ·cases hrow
    | _=>cases hrow
  have hcap:i≤yT H E.z r l.length c:=by
   cases c with
   | ex c=>simp only [capOk,decide_eq_true_eq] at hc;simp only [yT];omega
   | mi m =>
    simp only [yT]
    split
    ·split<;>omega
    ·exact hi
  have hb:yh (some (AV.int kk (i:Int))) l.length (yT H E.z r l.length c)=some i:=by
   rw [YY,if_pos ⟨by omega,by omega⟩];simp
  have hno:∀ (o' n':Nat) (c':kb) (q:Nat),notOf (.sl r o l.length c) q→notOf (.sl r o' n' c') q:=fun o' n' c' q h a n cc e=>by cases e;exact h _ _ _ rfl
  cases c with
  | ex c =>
   refine⟨.sl r o i (.ex c),?_,hrd _,?_,hno _ _ _⟩
   ·simp only [x8,ke,hb,jq]
    by_cases h0:c=0
    ·simp [h0]
    ·simp [h0]
   ·simp only [capOk,decide_eq_true_eq] at hc ⊢;omega
  | mi m =>
   refine⟨.sl r o i (.mi m),?_,hrd _,rfl,hno _ _ _⟩
   simp only [x8,ke,hb,jq,if_true,Option.map_some]
theorem RdT.drop {kk:IntKind} (h:RdT E H v l) (hc:capOk v=true) {i:Nat} (hi:i≤l.length):∃ s,x8 H E.z v (some (.int kk i)) none none=some s∧((RdT E H s (l.drop i)∧capOk s=true∧∀ q,notOf v q→notOf s q)∨(i=l.length∧0 < i∧∃ r o k d,s=.zs r o k d)):=by
 rcases h with ⟨rfl,rfl⟩ | ⟨r,o,c,rfl,hr,hrow⟩
 ·obtain rfl:i=0:=by simpa using hi
  exact⟨.nils,by simp [x8,ke,yh,bnd],Or.inl ⟨RdT.nils H,rfl,fun _ h=>h⟩⟩
 ·have hle:i * E.z≤l.length * E.z:=Nat.mul_le_mul_right _ hi
  have hrd:∀ o' c',(i=l.length∨o'=o+i * E.z)→o'≤o+i * E.z→RdT E H (.sl r o' (l.length - i) c') (l.drop i):=fun o' c' hlt ho=>by
   refine Or.inr ⟨r,o',c',by rw [List.length_drop],hr,?_⟩
   rw [List.length_drop,← E.drop]
   rw [qb] at hrow ⊢
   unfold W5 at hrow ⊢
   generalize H.get r=g at *
   have hsub:(l.length - i) * E.z=l.length * E.z - i * E.z:=Nat.sub_mul _ _ _
   cases g with
   | none=>cases hrow
   | some b=>cases b with
    | cells k z a =>
     dsimp only at hrow ⊢
     split at hrow
     ·rename_i hle2
      have e:=Option.some.inj hrow
      rw [if_pos (by omega),← e,hsub]
      rcases hlt with rfl | rfl
      ·simp
      ·rw [List.drop_take,List.drop_drop]
     ·cases hrow
    | _=>cases hrow
  have hcap:l.length≤yT H E.z r l.length c:=by
   cases c with
   | ex c=>simp only [capOk,decide_eq_true_eq] at hc;simp only [yT];omega
   | mi m =>
    simp only [yT]
    split
    ·split<;>omega
    ·exact Nat.le_refl _
  have hb:yh (some (AV.int kk (i:Int))) 0 l.length=some i:=by
   rw [YY,if_pos ⟨by omega,by omega⟩];simp
  have hno:∀ (o' n':Nat) (c':kb) (q:Nat),notOf (.sl r o l.length c) q→notOf (.sl r o' n' c') q:=fun o' n' c' q h a n cc e=>by cases e;exact h _ _ _ rfl
  cases c with
  | ex c =>
   simp only [capOk,decide_eq_true_eq] at hc
   refine⟨.sl r (if c=i then o else o+i * E.z) (l.length - i) (.ex (c - i)),?_,Or.inl ⟨hrd _ _ ?_ ?_,?_,hno _ _ _⟩⟩
   ·simp only [x8,ke,hb,jq,Option.map_some]
   ·by_cases h:c=i
    ·exact Or.inl (by omega)
    ·rw [if_neg h];exact Or.inr (by omega)
   ·split<;>omega
   ·simp only [capOk,decide_eq_true_eq];omega
  | mi m =>
   by_cases h0:i=0
   ·subst h0
    refine⟨.sl r o l.length (.mi m),?_,Or.inl ⟨(Or.inr ⟨r,o,_,rfl,hr,hrow⟩:RdT E H (.sl r o l.length (.mi m)) l),rfl,fun _ h=>h⟩⟩
    simp only [x8,ke,hb,jq,Option.map_some,if_true]
   ·by_cases h1:i < yT H E.z r l.length (.mi m)
    ·refine⟨.sl r (o+i * E.z) (l.length - i) (.mi (m+i)),?_,Or.inl ⟨hrd _ _ (Or.inr (by omega)) (by omega),rfl,hno _ _ _⟩⟩
     simp only [x8,ke,hb,jq,Option.map_some,if_neg h0,if_pos h1]
    ·have hg:(H.get r).isSome=true:=by
      rw [qb] at hrow
      cases hq:H.get r with
      | none=>rw [hq] at hrow;cases hrow
      | some x=>rfl
     refine⟨.zs r o (m+i) (i * E.z),?_,Or.inr ⟨by omega,by omega,_,_,_,_,rfl⟩⟩
     simp only [x8,ke,hb,jq,Option.map_some,if_neg h0,if_neg h1,if_pos hg]
theorem QP.capOk {z lo n:Nat} {H:z3} {v:AV} {cs:List AV} (h:QP z lo H v n cs):Go.Ab.capOk v=true:=by
 rcases h with ⟨rfl,_⟩ | ⟨r,rfl,_⟩<;>rfl
end
end Go.Ab
