/- What the functions of win, ring, log, nak, feed come to. -/
import Derived.Test.YtdbbdfmkglgjdaaPie
import Derived.Test.YtdbbdfmkglgjdaaPmFeed
import Derived.Test.YtdbbdfmkglgjdaaSh15
import Derived.Test.YtdbbdfmkglgjdaaWcIi1
set_option linter.unusedVariables false
set_option linter.unusedSimpArgs false
namespace Go.Proofs.Ytdbbdfmkglgjdaa.Pi
open Go.Ab Go.Feed
set_option maxRecDepth 100000
def It.v (i:It):AV:=.agg [.int .i64 i.seq,.str i.text]
def Ev.v (e:Ev):AV:=.agg [.int .i64 e.kind,.int .i64 e.lo,.int .i64 e.hi,.str e.text,.int .i64 e.why]
def Sp.v (s:Sp):AV:=.agg [.int .i64 s.1,.int .i64 s.2]
@[simp] theorem zgA (i:It):It.v i=.agg [.int .i64 i.seq,.str i.text]:=rfl
abbrev its (l:List It):AV:=.fz 2 (l.map It.v)
abbrev evs (l:List Ev):AV:=.fz 5 (l.map Ev.v)
def Sl (z:Nat) (l:List AV) (v:AV):Prop:=v=.fz z l∨(v=.nils∧l=[])
theorem Sl.one {z l v} (h:Sl z l v):AV.one v=true:=by rcases h with rfl | ⟨rfl,_⟩<;>rfl
theorem Sl.tup {z l v} (h:Sl z l v):AV.isTup v=false:=by rcases h with rfl | ⟨rfl,_⟩<;>rfl
theorem Sl.len {z l v} (h:Sl z l v):km v=some (.int .i64 l.length):=by rcases h with rfl | ⟨rfl,rfl⟩<;>rfl
theorem Sl.fz (z:Nat) (l:List AV):Sl z l (.fz z l):=Or.inl rfl
theorem Sl.nil (z:Nat):Sl z [] .nils:=Or.inr ⟨rfl,rfl⟩
theorem Sl.clone {z l v} (h:Sl z l v) {y:Nat} (hr:room y l.length=true):wY z y [v]=some (.ow z l):=by
 rcases h with rfl | ⟨rfl,rfl⟩
 ·simp [wY,hr]
 ·simp [wY]
theorem Sl.get {z:Nat} {α:Type} {g:α→AV} {l:List α} {v} (h:Sl z (l.map g) v) {k:IntKind} {i:Nat} {x:α} (hx:l[i]? = some x):elQ z v (.int k (i:Int))=some (g x):=by
 rcases h with rfl | ⟨rfl,e⟩
 ·exact z97 hx
 ·have:l=[]:=by simpa using e
  subst this;cases hx
def P1:zi:=[(11,za4),(64,wY 1 8),(65,wY 3 24),(85+jK,z1Y 3 24)]
theorem w64 {i:Int} (h:-9000000000000≤i) (h2:i≤9000000000000):IntKind.i64.wrap i=i:=YZ (by omega) (by omega)
theorem z8D {i:Int} (h:0≤i) (h2:i≤9000000000000):IntKind.u64.wrap i=i:=by
 have:IntKind.u64.wrap i=i % 18446744073709551616:=rfl
 rw [this];omega
theorem J1 {y n:Nat} (hy:y≤100) (h:n≤100000000):room y n=true:=za3 (by
 have:n * (y+1)≤100000000 * 101:=Nat.mul_le_mul h (by omega)
 simp [zp];omega)
section
variable {Q:z3}
def Fed.v (f:Fed) (r w l:AV):AV:=.agg [.int .i64 f.next,.int .i64 f.top,r,w,l,.int .i64 f.tries,.int .i64 f.due]
def Fed.z (f:Fed):AV:=Fed.v f (its f.ring) (its f.win) (evs f.log)
structure Sls (f:Fed) (r w l:AV):Prop where
 r:Sl 2 (f.ring.map It.v) r
 w:Sl 2 (f.win.map It.v) w
 l:Sl 5 (f.log.map Ev.v) l
end
end Go.Proofs.Ytdbbdfmkglgjdaa.Pi
/- What the laws of tie lean on: the natives' rules. -/
namespace Go.Proofs.Ytdbbdfmkglgjdaa.Pi
open Go.Ab
set_option maxRecDepth 100000
def S0:jU:=[(85,exactOr 3 (Wu 3 24))]
theorem zal:kJ S0:=WU Bi.WcIi1.ok_gIns z57
theorem z2Q:Ye ((Ql (env S0) 100000).1 11 [] z3.empty)=true:=by kernel_rfl
theorem z5v:xM Try.prog 11 z1Z:=xM.closedP (z3x zal) rfl (z9B (fok S0) z2Q)
def S1:jU:=[(11,z1Z),(85,exactOr 3 (Wu 3 24))]
theorem zam:kJ S1:=WU z5v zal
theorem pe1:VV (env S1) (z8 P1):=by
 refine zaW (by decide) fun q hq=>?_
 simp only [P1,List.mem_cons,List.not_mem_nil,or_false] at hq
 rcases hq with rfl | rfl | rfl | rfl
 ·exact zbv (by decide) rfl
 ·exact Zm rfl
 ·exact kQ rfl
 ·exact za5 (by decide) rfl
end Go.Proofs.Ytdbbdfmkglgjdaa.Pi
/- Who hangs on one: a plain model. -/
namespace Go.Kids
open Go.Feed
structure Kid where
 id:Int
 inc:Int
 heard:Int
 deriving DecidableEq,Inhabited
def kit (k:Kid):It:=⟨k.id,[]⟩
def KS (l:List Kid):Prop:=l.Pairwise fun a b=>a.id < b.id
theorem KS.so {l:List Kid} (h:KS l):Xs (l.map kit):=List.pairwise_map.2 h
def xH (l:List Kid) (s:Int):Nat:=wK (l.map kit) s
def jA (l:List Kid) (s:Int):Option Kid:=l.find? fun x=>decide (x.id=s)
theorem wL (l:List Kid) (p:Nat):((l.map kit).getD p default).seq=(l.getD p default).id:=by
 simp only [List.getD_eq_getElem?_getD,List.getElem?_map]
 cases l[p]? <;> rfl
theorem z5W (l:List Kid) (s:Int):xH l s≤l.length:=by have:=z9O (l.map kit) s;simpa [xH] using this
theorem JT (l:List Kid) (s:Int):Jn (l.map kit) s=(jA l s).isSome:=by
 rw [Bool.eq_iff_iff]
 simp only [Jn,jA,List.find?_isSome,List.any_map,List.any_eq_true,Function.comp,kit]
 exact Iff.rfl
theorem VI {l:List Kid} {s:Int} {x:Kid} (h:jA l s=some x):x ∈ l∧x.id=s:=by
 unfold jA at h
 exact⟨List.mem_of_find?_eq_some h,by simpa using List.find?_some h⟩
theorem z1D {l:List Kid} {s:Int} (h:jA l s=none):∀ x ∈ l,x.id≠s:=by
 unfold jA at h
 intro x hx
 have:=List.find?_eq_none.1 h x hx
 simpa using this
theorem KS.inj {l:List Kid} (h:KS l) {x y:Kid} (hx:x ∈ l) (hy:y ∈ l) (e:x.id=y.id):x=y:=by
 obtain⟨i,hi,rfl⟩:=List.getElem_of_mem hx
 obtain⟨j,hj,rfl⟩:=List.getElem_of_mem hy
 have hp:=List.pairwise_iff_getElem.1 h
 rcases Nat.lt_trichotomy i j with c | c | c
 ·have:=hp i j hi hj c;omega
 ·subst c;rfl
 ·have:=hp j i hj hi c;omega
theorem z9R {l:List Kid} (h:KS l) {x:Kid} (hx:x ∈ l):jA l x.id=some x:=by
 cases e:jA l x.id with
 | none=>exact absurd rfl (z1D e x hx)
 | some y =>
  obtain⟨h1,h2⟩:=VI e
  rw [h.inj h1 hx h2]
theorem KR {l:List Kid} (h:KS l) {s:Int} {x:Kid} (hx:jA l s=some x):xH l s < l.length∧l[xH l s]? = some x:=by
 have ht:Jn (l.map kit) s=true:=by rw [JT,hx];rfl
 obtain⟨h1,h2⟩:=(VG h.so s).1 ht
 rw [List.length_map] at h1
 rw [wL] at h2
 have hg:l[xH l s]? = some (l.getD (xH l s) default):=z2P h1
 have:=z9R h (List.mem_of_getElem? hg)
 rw [show (l.getD (xH l s) default).id=s from h2,hx] at this
 exact⟨h1,by rw [hg];exact this.symm⟩
def hear (l:List Kid) (k:Kid):List Kid × Bool:=match jA l k.id with
 | some x=>if k.inc < x.inc then (l,false) else (l.set (xH l k.id) k,true)
 | none=>(l.take (xH l k.id)++[k]++l.drop (xH l k.id),true)
theorem KT {l:List Kid} (h:KS l) (k:Kid) (hok:(hear l k).2=true) (y:Kid):y ∈ (hear l k).1↔y=k∨(y ∈ l∧y.id≠k.id):=by
 unfold hear at hok ⊢
 cases e:jA l k.id with
 | some x =>
  rw [e] at hok
  simp only at hok ⊢
  split at hok
  ·cases hok
  ·rename_i c
   rw [if_neg c]
   obtain⟨h1,h2⟩:=KR h e
   have hx:=VI e
   constructor
   ·intro hy
    obtain⟨i,hi,rfl⟩:=List.getElem_of_mem hy
    rw [List.length_set] at hi
    rw [List.getElem_set]
    by_cases c2:xH l k.id=i
    ·rw [if_pos c2];exact Or.inl rfl
    ·rw [if_neg c2]
     refine Or.inr ⟨List.getElem_mem _,fun e2=>c2 ?_⟩
     have e3:l[i]=x:=h.inj (List.getElem_mem _) hx.1 (by rw [e2,hx.2])
     have hp:=List.pairwise_iff_getElem.1 h
     have h2':l[xH l k.id]=x:=by rw [List.getElem?_eq_getElem h1] at h2;exact Option.some.inj h2
     rcases Nat.lt_trichotomy i (xH l k.id) with c3 | c3 | c3
     ·have:=hp i _ hi h1 c3;rw [e3,h2'] at this;omega
     ·exact c3.symm
     ·have:=hp _ i h1 hi c3;rw [e3,h2'] at this;omega
   ·rintro (rfl | ⟨h3,h4⟩)
    ·exact List.mem_of_getElem? (i:=xH l y.id) (by rw [List.getElem?_set_self h1])
    ·obtain⟨i,hi,rfl⟩:=List.getElem_of_mem h3
     refine List.mem_of_getElem? (i:=i) ?_
     rw [List.getElem?_set_ne (fun c2=>h4 ?_),List.getElem?_eq_getElem hi]
     subst c2
     have h2':l[xH l k.id]=x:=by rw [List.getElem?_eq_getElem h1] at h2;exact Option.some.inj h2
     rw [h2',hx.2]
 | none =>
  simp only
  have e2:y ∈ l↔y ∈ l.take (xH l k.id)∨y ∈ l.drop (xH l k.id):=by rw [← List.mem_append,List.take_append_drop]
  have hn:=z1D e
  simp only [List.mem_append,List.mem_singleton]
  constructor
  ·rintro ((h1 | h1) | h1)
   ·exact Or.inr ⟨e2.2 (Or.inl h1),hn y (e2.2 (Or.inl h1))⟩
   ·exact Or.inl h1
   ·exact Or.inr ⟨e2.2 (Or.inr h1),hn y (e2.2 (Or.inr h1))⟩
  ·rintro (h1 | ⟨h1,_⟩)
   ·exact Or.inl (Or.inr h1)
   ·rcases e2.1 h1 with h1 | h1
    ·exact Or.inl (Or.inl h1)
    ·exact Or.inr h1
theorem z5X {l:List Kid} (h:KS l) (k:Kid):KS (hear l k).1:=by
 unfold hear
 cases e:jA l k.id with
 | some x =>
  simp only
  split
  ·exact h
  ·obtain⟨h1,h2⟩:=KR h e
   have hx:=VI e
   have h2':l[xH l k.id]=x:=by rw [List.getElem?_eq_getElem h1] at h2;exact Option.some.inj h2
   have hp:=List.pairwise_iff_getElem.1 h
   refine List.pairwise_iff_getElem.2 fun i j hi hj hij=>?_
   rw [List.length_set] at hi hj
   rw [List.getElem_set,List.getElem_set]
   by_cases c1:xH l k.id=i
   ·rw [if_pos c1,if_neg (by omega)]
    have:=hp _ j h1 hj (by omega);rw [h2',hx.2] at this;exact this
   ·rw [if_neg c1]
    by_cases c2:xH l k.id=j
    ·rw [if_pos c2]
     have:=hp i _ hi h1 (by omega);rw [h2',hx.2] at this;exact this
    ·rw [if_neg c2];exact hp i j hi hj hij
 | none =>
  have hn:Jn (l.map kit) k.id=false:=by rw [JT,e];rfl
  have hs:=z5t (w:=l.map kit) h.so (k.id) (kit k)
  unfold put at hs
  rw [if_neg (by
   rintro (c | c | c)
   ·rw [show (kit k).seq=k.id from rfl,hn] at c;cases c
   ·have:k.id < k.id:=c;omega
   ·have:8≤k.id - k.id:=c;omega)] at hs
  have hs:Xs ((l.map kit).take (xH l k.id)++[kit k]++(l.map kit).drop (xH l k.id)):=hs
  have e2:(l.map kit).take (xH l k.id)++[kit k]++(l.map kit).drop (xH l k.id)=(l.take (xH l k.id)++[k]++l.drop (xH l k.id)).map kit:=by simp [List.map_take,List.map_drop]
  rw [e2] at hs
  exact(List.pairwise_map (f:=kit) (R:=fun a b:It=>a.seq < b.seq)).1 hs
theorem J2 {l:List Kid} {k:Kid} (h:(hear l k).2=false):(hear l k).1=l:=by
 unfold hear at h ⊢
 cases e:jA l k.id with
 | none=>rw [e] at h;cases h
 | some x =>
  rw [e] at h
  simp only at h ⊢
  split
  ·rfl
  ·rename_i c;rw [if_neg c] at h;cases h
theorem z40 (l:List Kid) (k:Kid) (hok:(hear l k).2=true):(hear l k).1.length=l.length+if (jA l k.id).isSome then 0 else 1:=by
 unfold hear at hok ⊢
 have:=z5W l k.id
 cases e:jA l k.id with
 | none=>simp;omega
 | some x =>
  rw [e] at hok
  simp only at hok ⊢
  split
  ·rename_i c;rw [if_pos c] at hok;cases hok
  ·simp
def outs (f:Kid→Bool) (l:List Kid):List Kid:=l.filter fun x=>!f x
theorem z2R {l:List Kid} (h:KS l) (f:Kid→Bool):KS (outs f l):=List.Pairwise.filter _ h
structure Ok (l:List Kid):Prop where
 ks:KS l
 b:∀ x ∈ l,(1≤x.id∧x.id≤8)∧(1≤x.inc∧x.inc≤1073741824)∧(0≤x.heard∧x.heard≤1073741824)
theorem Ok.outs {l:List Kid} (h:Ok l) (f:Kid→Bool):Ok (outs f l):=⟨z2R h.ks f,fun x hx=>h.b x (List.mem_filter.1 hx).1⟩
theorem Ok.hear {l:List Kid} (h:Ok l) {k:Kid} (hk:(1≤k.id∧k.id≤8)∧(1≤k.inc∧k.inc≤1073741824)∧(0≤k.heard∧k.heard≤1073741824)):Ok (hear l k).1:=by
 refine⟨z5X h.ks k,fun x hx=>?_⟩
 cases e:(Go.Kids.hear l k).2 with
 | false=>rw [J2 e] at hx;exact h.b x hx
 | true =>
  rcases(KT h.ks k e x).1 hx with rfl | ⟨h1,_⟩
  ·exact hk
  ·exact h.b x h1
theorem Ok.len {l:List Kid} (h:Ok l):l.length≤8:=by
 have key:∀ (l:List Kid) (a:Int),KS l→(∀ x ∈ l,a < x.id∧x.id≤8)→a≤8→(l.length:Int)≤8 - a:=by
  intro l
  induction l with
  | nil=>intro a _ _ h;simp;omega
  | cons x l ih =>
   intro a hk hb h
   have hk':=List.pairwise_cons.1 hk
   have h1:=hb x List.mem_cons_self
   have:=ih x.id hk'.2 (fun y hy=>⟨hk'.1 y hy,(hb y (List.mem_cons_of_mem _ hy)).2⟩) h1.2
   simp;omega
 have:=key l 0 h.ks (fun x hx=>by have:=(h.b x hx).1;omega) (by omega)
 omega
end Go.Kids
