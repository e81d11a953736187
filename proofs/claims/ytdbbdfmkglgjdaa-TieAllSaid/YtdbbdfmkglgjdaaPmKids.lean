/- What the functions of win, ring, log, nak, feed come to. -/
import Derived.Test.YtdbbdfmkglgjdaaPie
import Derived.Test.YtdbbdfmkglgjdaaPmFeed
import Derived.Test.YtdbbdfmkglgjdaaSh15
import Derived.Test.YtdbbdfmkglgjdaaWcIi1
set_option linter.unusedVariables false
set_option linter.unusedSimpArgs false
namespace Go.Proofs.Ytdbbdfmkglgjdaa.Pi
open Go.Ab Go.Feed
set_option maxRecDepth 100000
def It.v (i:It):AV:=.agg [.int .i64 i.seq,.str i.text]
def Ev.v (e:Ev):AV:=.agg [.int .i64 e.kind,.int .i64 e.lo,.int .i64 e.hi,.str e.text,.int .i64 e.why]
def Sp.v (s:Sp):AV:=.agg [.int .i64 s.1,.int .i64 s.2]
@[simp] theorem zjZ (i:It):It.v i=.agg [.int .i64 i.seq,.str i.text]:=rfl
abbrev its (l:List It):AV:=.fz 2 (l.map It.v)
abbrev evs (l:List Ev):AV:=.fz 5 (l.map Ev.v)
def Sl (z:Nat) (l:List AV) (v:AV):Prop:=v=.fz z l∨(v=.nils∧l=[])
theorem Sl.one {z l v} (h:Sl z l v):AV.one v=true:=by rcases h with rfl | ⟨rfl,_⟩<;>rfl
theorem Sl.tup {z l v} (h:Sl z l v):AV.isTup v=false:=by rcases h with rfl | ⟨rfl,_⟩<;>rfl
theorem Sl.len {z l v} (h:Sl z l v):jl v=some (.int .i64 l.length):=by rcases h with rfl | ⟨rfl,rfl⟩<;>rfl
theorem Sl.fz (z:Nat) (l:List AV):Sl z l (.fz z l):=Or.inl rfl
theorem Sl.nil (z:Nat):Sl z [] .nils:=Or.inr ⟨rfl,rfl⟩
theorem Sl.clone {z l v} (h:Sl z l v) {y:Nat} (hr:room y l.length=true):Yf z y [v]=some (.ow z l):=by
 rcases h with rfl | ⟨rfl,rfl⟩
 ·simp [Yf,hr]
 ·simp [Yf]
theorem Sl.get {z:Nat} {α:Type} {g:α→AV} {l:List α} {v} (h:Sl z (l.map g) v) {k:IntKind} {i:Nat} {x:α} (hx:l[i]? = some x):elQ z v (.int k (i:Int))=some (g x):=by
 rcases h with rfl | ⟨rfl,e⟩
 ·exact zcr hx
 ·have:l=[]:=by simpa using e
  subst this;cases hx
def P1:zf:=[(11,zdr),(64,Yf 1 8),(65,Yf 3 24),(85+kT,z53 3 24)]
theorem w64 {i:Int} (h:-9000000000000≤i) (h2:i≤9000000000000):IntKind.i64.wrap i=i:=QO (by omega) (by omega)
theorem zbV {i:Int} (h:0≤i) (h2:i≤9000000000000):IntKind.u64.wrap i=i:=by
 have:IntKind.u64.wrap i=i % 18446744073709551616:=rfl
 rw [this];omega
theorem kY {y n:Nat} (hy:y≤100) (h:n≤100000000):room y n=true:=zdq (by
 have:n * (y+1)≤100000000 * 101:=Nat.mul_le_mul h (by omega)
 simp [zq];omega)
section
variable {Q:z3}
def Fed.v (f:Fed) (r w l:AV):AV:=.agg [.int .i64 f.next,.int .i64 f.top,r,w,l,.int .i64 f.tries,.int .i64 f.due]
def Fed.z (f:Fed):AV:=Fed.v f (its f.ring) (its f.win) (evs f.log)
structure Sls (f:Fed) (r w l:AV):Prop where
 r:Sl 2 (f.ring.map It.v) r
 w:Sl 2 (f.win.map It.v) w
 l:Sl 5 (f.log.map Ev.v) l
end
end Go.Proofs.Ytdbbdfmkglgjdaa.Pi
/- What the laws of tie lean on: the natives' rules. -/
namespace Go.Proofs.Ytdbbdfmkglgjdaa.Pi
open Go.Ab
set_option maxRecDepth 100000
def S0:v9:=[(85,exactOr 3 (z2u 3 24))]
theorem zdL:vR S0:=z2S Bi.WcIi1.ok_gIns z8g
theorem z5W:XO ((Kh (env S0) 100000).1 11 [] z3.empty)=true:=by kernel_rfl
theorem z8M:qi Try.prog 11 z54:=qi.closedP (z6E zdL) rfl (zcW (fok S0) z5W)
def S1:v9:=[(11,z54),(85,exactOr 3 (z2u 3 24))]
theorem zdM:vR S1:=z2S z8M zdL
theorem pe1:z1R (env S1) (z6 P1):=by
 refine zel (by decide) fun q hq=>?_
 simp only [P1,List.mem_cons,List.not_mem_nil,or_false] at hq
 rcases hq with rfl | rfl | rfl | rfl
 ·exact zeT (by decide) rfl
 ·exact YP rfl
 ·exact vY rfl
 ·exact zds (by decide) rfl
end Go.Proofs.Ytdbbdfmkglgjdaa.Pi
/- Who hangs on one: a plain model. -/
namespace Go.Kids
open Go.Feed
structure Kid where
 id:Int
 inc:Int
 heard:Int
 deriving DecidableEq,Inhabited
def kit (k:Kid):It:=⟨k.id,[]⟩
def KS (l:List Kid):Prop:=l.Pairwise fun a b=>a.id < b.id
theorem KS.so {l:List Kid} (h:KS l):Jt (l.map kit):=List.pairwise_map.2 h
def qc (l:List Kid) (s:Int):Nat:=Y4 (l.map kit) s
def xj (l:List Kid) (s:Int):Option Kid:=l.find? fun x=>decide (x.id=s)
theorem Qx (l:List Kid) (p:Nat):((l.map kit).getD p default).seq=(l.getD p default).id:=by
 simp only [List.getD_eq_getElem?_getD,List.getElem?_map]
 cases l[p]? <;> rfl
theorem z9l (l:List Kid) (s:Int):qc l s≤l.length:=by have:=zd8 (l.map kit) s;simpa [qc] using this
theorem WD (l:List Kid) (s:Int):VO (l.map kit) s=(xj l s).isSome:=by
 rw [Bool.eq_iff_iff]
 simp only [VO,xj,List.find?_isSome,List.any_map,List.any_eq_true,Function.comp,kit]
 exact Iff.rfl
theorem z1F {l:List Kid} {s:Int} {x:Kid} (h:xj l s=some x):x ∈ l∧x.id=s:=by
 unfold xj at h
 exact⟨List.mem_of_find?_eq_some h,by simpa using List.find?_some h⟩
theorem z4I {l:List Kid} {s:Int} (h:xj l s=none):∀ x ∈ l,x.id≠s:=by
 unfold xj at h
 intro x hx
 have:=List.find?_eq_none.1 h x hx
 simpa using this
theorem KS.inj {l:List Kid} (h:KS l) {x y:Kid} (hx:x ∈ l) (hy:y ∈ l) (e:x.id=y.id):x=y:=by
 obtain⟨i,hi,rfl⟩:=List.getElem_of_mem hx
 obtain⟨j,hj,rfl⟩:=List.getElem_of_mem hy
 have hp:=List.pairwise_iff_getElem.1 h
 rcases Nat.lt_trichotomy i j with c | c | c
 ·have:=hp i j hi hj c;omega
 ·subst c;rfl
 ·have:=hp j i hj hi c;omega
theorem zdb {l:List Kid} (h:KS l) {x:Kid} (hx:x ∈ l):xj l x.id=some x:=by
 cases e:xj l x.id with
 | none=>exact absurd rfl (z4I e x hx)
 | some y =>
  obtain⟨h1,h2⟩:=z1F e
  rw [h.inj h1 hx h2]
theorem z0I {l:List Kid} (h:KS l) {s:Int} {x:Kid} (hx:xj l s=some x):qc l s < l.length∧l[qc l s]? = some x:=by
 have ht:VO (l.map kit) s=true:=by rw [WD,hx];rfl
 obtain⟨h1,h2⟩:=(z1D h.so s).1 ht
 rw [List.length_map] at h1
 rw [Qx] at h2
 have hg:l[qc l s]? = some (l.getD (qc l s) default):=z5V h1
 have:=zdb h (List.mem_of_getElem? hg)
 rw [show (l.getD (qc l s) default).id=s from h2,hx] at this
 exact⟨h1,by rw [hg];exact this.symm⟩
def hear (l:List Kid) (k:Kid):List Kid × Bool:=match xj l k.id with
 | some x=>if k.inc < x.inc then (l,false) else (l.set (qc l k.id) k,true)
 | none=>(l.take (qc l k.id)++[k]++l.drop (qc l k.id),true)
theorem z0J {l:List Kid} (h:KS l) (k:Kid) (hok:(hear l k).2=true) (y:Kid):y ∈ (hear l k).1↔y=k∨(y ∈ l∧y.id≠k.id):=by
 unfold hear at hok ⊢
 cases e:xj l k.id with
 | some x =>
  rw [e] at hok
  simp only at hok ⊢
  split at hok
  ·cases hok
  ·rename_i c
   rw [if_neg c]
   obtain⟨h1,h2⟩:=z0I h e
   have hx:=z1F e
   constructor
   ·intro hy
    obtain⟨i,hi,rfl⟩:=List.getElem_of_mem hy
    rw [List.length_set] at hi
    rw [List.getElem_set]
    by_cases c2:qc l k.id=i
    ·rw [if_pos c2];exact Or.inl rfl
    ·rw [if_neg c2]
     refine Or.inr ⟨List.getElem_mem _,fun e2=>c2 ?_⟩
     have e3:l[i]=x:=h.inj (List.getElem_mem _) hx.1 (by rw [e2,hx.2])
     have hp:=List.pairwise_iff_getElem.1 h
     have h2':l[qc l k.id]=x:=by rw [List.getElem?_eq_getElem h1] at h2;exact Option.some.inj h2
     rcases Nat.lt_trichotomy i (qc l k.id) with c3 | c3 | c3
     ·have:=hp i _ hi h1 c3;rw [e3,h2'] at this;omega
     ·exact c3.symm
     ·have:=hp _ i h1 hi c3;rw [e3,h2'] at this;omega
   ·rintro (rfl | ⟨h3,h4⟩)
    ·exact List.mem_of_getElem? (i:=qc l y.id) (by rw [List.getElem?_set_self h1])
    ·obtain⟨i,hi,rfl⟩:=List.getElem_of_mem h3
     refine List.mem_of_getElem? (i:=i) ?_
     rw [List.getElem?_set_ne (fun c2=>h4 ?_),List.getElem?_eq_getElem hi]
     subst c2
     have h2':l[qc l k.id]=x:=by rw [List.getElem?_eq_getElem h1] at h2;exact Option.some.inj h2
     rw [h2',hx.2]
 | none =>
  simp only
  have e2:y ∈ l↔y ∈ l.take (qc l k.id)∨y ∈ l.drop (qc l k.id):=by rw [← List.mem_append,List.take_append_drop]
  have hn:=z4I e
  simp only [List.mem_append,List.mem_singleton]
  constructor
  ·rintro ((h1 | h1) | h1)
   ·exact Or.inr ⟨e2.2 (Or.inl h1),hn y (e2.2 (Or.inl h1))⟩
   ·exact Or.inl h1
   ·exact Or.inr ⟨e2.2 (Or.inr h1),hn y (e2.2 (Or.inr h1))⟩
  ·rintro (h1 | ⟨h1,_⟩)
   ·exact Or.inl (Or.inr h1)
   ·rcases e2.1 h1 with h1 | h1
    ·exact Or.inl (Or.inl h1)
    ·exact Or.inr h1
theorem z5X {l:List Kid} (h:KS l) (k:Kid):KS (hear l k).1:=by
 unfold hear
 cases e:xj l k.id with
 | some x =>
  simp only
  split
  ·exact h
  ·obtain⟨h1,h2⟩:=z0I h e
   have hx:=z1F e
   have h2':l[qc l k.id]=x:=by rw [List.getElem?_eq_getElem h1] at h2;exact Option.some.inj h2
   have hp:=List.pairwise_iff_getElem.1 h
   refine List.pairwise_iff_getElem.2 fun i j hi hj hij=>?_
   rw [List.length_set] at hi hj
   rw [List.getElem_set,List.getElem_set]
   by_cases c1:qc l k.id=i
   ·rw [if_pos c1,if_neg (by omega)]
    have:=hp _ j h1 hj (by omega);rw [h2',hx.2] at this;exact this
   ·rw [if_neg c1]
    by_cases c2:qc l k.id=j
    ·rw [if_pos c2]
     have:=hp i _ hi h1 (by omega);rw [h2',hx.2] at this;exact this
    ·rw [if_neg c2];exact hp i j hi hj hij
 | none =>
  have hn:VO (l.map kit) k.id=false:=by rw [WD,e];rfl
  have hs:=z8K (w:=l.map kit) h.so (k.id) (kit k)
  unfold put at hs
  rw [if_neg (by
   rintro (c | c | c)
   ·rw [show (kit k).seq=k.id from rfl,hn] at c;cases c
   ·have:k.id < k.id:=c;omega
   ·have:8≤k.id - k.id:=c;omega)] at hs
  have hs:Jt ((l.map kit).take (qc l k.id)++[kit k]++(l.map kit).drop (qc l k.id)):=hs
  have e2:(l.map kit).take (qc l k.id)++[kit k]++(l.map kit).drop (qc l k.id)=(l.take (qc l k.id)++[k]++l.drop (qc l k.id)).map kit:=by simp [List.map_take,List.map_drop]
  rw [e2] at hs
  exact(List.pairwise_map (f:=kit) (R:=fun a b:It=>a.seq < b.seq)).1 hs
theorem zdc (l:List Kid) (k:Kid):(hear l k).2=(match xj l k.id with
  | some x=>decide (x.inc≤k.inc)
  | none=>true):=by
 unfold hear
 cases e:xj l k.id with
 | none=>rfl
 | some x =>
  simp only
  split
  ·rename_i c;exact(decide_eq_false (by omega)).symm
  ·rename_i c;exact(decide_eq_true (by omega)).symm
theorem z0K {l:List Kid} {k:Kid} (h:(hear l k).2=false):(hear l k).1=l:=by
 unfold hear at h ⊢
 cases e:xj l k.id with
 | none=>rw [e] at h;cases h
 | some x =>
  rw [e] at h
  simp only at h ⊢
  split
  ·rfl
  ·rename_i c;rw [if_neg c] at h;cases h
theorem zbW (l:List Kid) (k:Kid) (hok:(hear l k).2=true):(hear l k).1.length=l.length+if (xj l k.id).isSome then 0 else 1:=by
 unfold hear at hok ⊢
 have:=z9l l k.id
 cases e:xj l k.id with
 | none=>simp;omega
 | some x =>
  rw [e] at hok
  simp only at hok ⊢
  split
  ·rename_i c;rw [if_pos c] at hok;cases hok
  ·simp
def outs (f:Kid→Bool) (l:List Kid):List Kid:=l.filter fun x=>!f x
theorem z0L {l:List Kid} (h:KS l) (f:Kid→Bool):KS (outs f l):=List.Pairwise.filter _ h
structure Ok (l:List Kid):Prop where
 ks:KS l
 b:∀ x ∈ l,(1≤x.id∧x.id≤8)∧(1≤x.inc∧x.inc≤1073741824)∧(0≤x.heard∧x.heard≤1073741824)
theorem Ok.outs {l:List Kid} (h:Ok l) (f:Kid→Bool):Ok (outs f l):=⟨z0L h.ks f,fun x hx=>h.b x (List.mem_filter.1 hx).1⟩
theorem Ok.hear {l:List Kid} (h:Ok l) {k:Kid} (hk:(1≤k.id∧k.id≤8)∧(1≤k.inc∧k.inc≤1073741824)∧(0≤k.heard∧k.heard≤1073741824)):Ok (hear l k).1:=by
 refine⟨z5X h.ks k,fun x hx=>?_⟩
 cases e:(Go.Kids.hear l k).2 with
 | false=>rw [z0K e] at hx;exact h.b x hx
 | true =>
  rcases(z0J h.ks k e x).1 hx with rfl | ⟨h1,_⟩
  ·exact hk
  ·exact h.b x h1
theorem Ok.len {l:List Kid} (h:Ok l):l.length≤8:=by
 have key:∀ (l:List Kid) (a:Int),KS l→(∀ x ∈ l,a < x.id∧x.id≤8)→a≤8→(l.length:Int)≤8 - a:=by
  intro l
  induction l with
  | nil=>intro a _ _ h;simp;omega
  | cons x l ih =>
   intro a hk hb h
   have hk':=List.pairwise_cons.1 hk
   have h1:=hb x List.mem_cons_self
   have:=ih x.id hk'.2 (fun y hy=>⟨hk'.1 y hy,(hb y (List.mem_cons_of_mem _ hy)).2⟩) h1.2
   simp;omega
 have:=key l 0 h.ks (fun x hx=>by have:=(h.b x hx).1;omega) (by omega)
 omega
end Go.Kids
