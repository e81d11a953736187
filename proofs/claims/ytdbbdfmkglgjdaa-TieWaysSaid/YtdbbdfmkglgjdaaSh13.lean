/- Where a call, or code, ends: what is told of it. -/
import Derived.Test.YtdbbdfmkglgjdaaSh8
import Derived.ChangeSlices
import Derived.SliceStrings
import Derived.Test.YtdbbdfmkglgjdaaAb17
set_option linter.unusedVariables false
set_option linter.unusedSimpArgs false
set_option linter.unusedSectionVars false
namespace Go.Ab
def kD (o:Option (AV × z3)) (Q:AV→z3→Prop):Prop:=∃ v H,o=some (v,H)∧Q v H
def vV (o:Option (zE × Tau × z3)) (Q:zE→Tau→z3→Prop):Prop:=∃ ex τ H,o=some (ex,τ,H)∧Q ex τ H
@[simp] theorem zc6 (v:AV) (H:z3) (Q:AV→z3→Prop):kD (some (v,H)) Q↔Q v H :=
 ⟨fun⟨_,_,e,h⟩=>by obtain⟨rfl,rfl⟩:=Prod.mk.inj (Option.some.inj e);exact h,fun h=>⟨v,H,rfl,h⟩⟩
@[simp] theorem zc7 (Q:AV→z3→Prop):kD none Q↔False:=⟨fun⟨_,_,e,_⟩=>(by cases e),False.elim⟩
@[simp] theorem zdr (c:Prop) [Decidable c] (a b:Option (AV × z3)) (Q:AV→z3→Prop):kD (if c then a else b) Q↔if c then kD a Q else kD b Q:=by
 by_cases h:c<;>simp [h]
@[simp] theorem zby (ex:zE) (τ:Tau) (H:z3) (Q:zE→Tau→z3→Prop):vV (some (ex,τ,H)) Q↔Q ex τ H :=
 ⟨fun⟨_,_,_,e,h⟩=>by obtain⟨rfl,e2⟩:=Prod.mk.inj (Option.some.inj e);obtain⟨rfl,rfl⟩:=Prod.mk.inj e2;exact h,fun h=>⟨ex,τ,H,rfl,h⟩⟩
@[simp] theorem zbz (Q:zE→Tau→z3→Prop):vV none Q↔False:=⟨fun⟨_,_,_,e,_⟩=>(by cases e),False.elim⟩
@[simp] theorem zc8 (c:Prop) [Decidable c] (a b:Option (zE × Tau × z3)) (Q:zE→Tau→z3→Prop):vV (if c then a else b) Q↔if c then vV a Q else vV b Q:=by
 by_cases h:c<;>simp [h]
@[congr] theorem zbA {o o':Option (AV × z3)} {Q:AV→z3→Prop} (h:o=o'):kD o Q↔kD o' Q:=by rw [h]
@[congr] theorem zao {o o':Option (zE × Tau × z3)} {Q:zE→Tau→z3→Prop} (h:o=o'):vV o Q↔vV o' Q:=by rw [h]
theorem kD.mono {o:Option (AV × z3)} {Q R:AV→z3→Prop} (h:kD o Q) (hq:∀ v H,Q v H→R v H):kD o R:=let ⟨v,H,e,q⟩:=h;⟨v,H,e,hq v H q⟩
theorem vV.mono {o:Option (zE × Tau × z3)} {Q R:zE→Tau→z3→Prop} (h:vV o Q) (hq:∀ ex τ H,Q ex τ H→R ex τ H):vV o R:=let ⟨ex,τ,H,e,q⟩:=h;⟨ex,τ,H,e,hq ex τ H q⟩
theorem kD.bnE {o:Option (zE × Tau × z3)} {k:zE→Tau→z3→Option (AV × z3)} {Q:AV→z3→Prop} (h:vV o fun ex τ H=>kD (k ex τ H) Q):kD (bnE o k) Q:=by
 obtain⟨ex,τ,H,rfl,h⟩:=h;exact h
theorem vV.bnE {o:Option (zE × Tau × z3)} {k:zE→Tau→z3→Option (zE × Tau × z3)} {Q:zE→Tau→z3→Prop} (h:vV o fun ex τ H=>vV (k ex τ H) Q):vV (bnE o k) Q:=by
 obtain⟨ex,τ,H,rfl,h⟩:=h;exact h
theorem kD.bnS {o:Option (AV × z3)} {k:AV→z3→Option (AV × z3)} {Q:AV→z3→Prop} (h:kD o fun v H=>kD (k v H) Q):kD (bnS o k) Q:=by
 obtain⟨v,H,rfl,h⟩:=h;exact h
theorem vV.bnS {o:Option (AV × z3)} {k:AV→z3→Option (zE × Tau × z3)} {Q:zE→Tau→z3→Prop} (h:kD o fun v H=>vV (k v H) Q):vV (bnS o k) Q:=by
 obtain⟨v,H,rfl,h⟩:=h;exact h
@[simp] theorem zc9 (H:z3):wR H H:=wR.refl H
@[simp] theorem zca {H H1:z3} (o:Option zF) (a:wR H H1):wR H (H1.push o):=a.push o
@[simp] theorem zds {H H1:z3} {r:Nat} (o:Option zF) (a:wR H H1) (h:H.size≤r):wR H (H1.put r o):=a.put h o
def z1Z (args:List AV) (H:z3):Option (AV × z3):=match args with
 | []=>some (.bool true,H)
 | _=>none
theorem z7e {args:List AV} {H H':z3} {v:AV} (h:z1Z args H=some (v,H')):args=[]∧v=.bool true∧H'=H:=by
 unfold z1Z at h
 split at h
 ·simp only [Option.some.injEq,Prod.mk.injEq] at h
  exact⟨rfl,h.1.symm,h.2.symm⟩
 ·cases h
end Go.Ab
/- Slices as lists: what is read through them; and arguments that came in. -/
namespace Go.Ab
open Go.RowKit

def Zz {α:Type} (z:Nat) (dec:List AV→Option α):Nat→List AV→Option (List α)
 | 0,_=>some []
 | n+1,cs=>match dec (cs.take z),Zz z dec n (cs.drop z) with
  | some x,some l=>some (x::l)
  | _,_=>none
def rdW {α:Type} (z:Nat) (dec:List AV→Option α) (H:z3):AV→Option (List α)
 | .nils=>some []
 | .sl r o n _=>if r < H.size then match H.row r o (n * z) with
  | some cs=>Zz z dec n cs
  | none=>none
  else none
 | _=>none
def elp (z:Nat) (v:AV) (i:Int):AV:=match v with
 | .sl r o _ _=>.ptr r (o+i.toNat * z)
 | _=>z4
theorem Jq {α:Type} {z:Nat} {dec:List AV→Option α}:∀ {n:Nat} {cs:List AV} {l:List α},Zz z dec n cs=some l→l.length=n
 | 0,_,_,h=>by simp only [Zz,Option.some.injEq] at h;subst h;rfl
 | n+1,cs,l,h=>by
  simp only [Zz] at h
  split at h
  ·rename_i x m h1 h2
   obtain rfl:=Option.some.inj h
   simp [Jq h2]
  ·cases h
section
variable {α:Type} {z:Nat} {dec:List AV→Option α} {H:z3} {v:AV} {l:List α}
theorem z7f (h:rdW z dec H v=some l):(v=.nils∧l=[])∨∃ r o c cs,v=.sl r o l.length c∧r < H.size∧H.row r o (l.length * z)=some cs∧Zz z dec l.length cs=some l:=by
 unfold rdW at h
 split at h
 ·exact Or.inl ⟨rfl,(Option.some.inj h).symm⟩
 ·rename_i r o n c
  split at h
  ·rename_i hr
   split at h
   ·rename_i cs hcs
    obtain rfl:=Jq h
    exact Or.inr ⟨r,o,c,cs,rfl,hr,hcs,h⟩
   ·cases h
  ·cases h
 ·cases h
end
def z7g (k:IntKind):List AV→Option Int
 | [.int k' n]=>if k'=k then some n else none
 | _=>none
def rdI (k:IntKind) (H:z3) (v:AV):Option (List Int):=rdW 1 (z7g k) H v
section
variable {k:IntKind} {H:z3} {v:AV} {l:List Int}
theorem z98 {cs:List AV} {n:Int} (h:z7g k cs=some n):cs=[.int k n]:=by
 unfold z7g at h
 split at h
 ·split at h
  ·rename_i e;obtain rfl:=Option.some.inj h;rw [e]
  ·cases h
 ·cases h
end
theorem Wr {k:IntKind}:∀ {n:Nat} {cs:List AV} {l:List Int},cs.length=n→Zz 1 (z7g k) n cs=some l→cs=l.map (AV.int k)
 | 0,cs,l,hn,h=>by
  simp only [Zz,Option.some.injEq] at h
  subst h
  simpa using hn
 | n+1,cs,l,hn,h=>by
  simp only [Zz] at h
  split at h
  ·rename_i x m h1 h2
   obtain rfl:=Option.some.inj h
   match cs,hn with
   | c::cs,hn =>
    simp only [List.take_succ_cons,List.take_zero,List.drop_succ_cons,List.drop_zero] at h1 h2
    have:=z98 h1
    simp only [List.cons.injEq,and_true] at this
    subst this
    simp only [List.map_cons,List.cons.injEq,true_and]
    exact Wr (by simpa using hn) h2
  ·cases h
theorem z7h {k:IntKind} {H:z3} {v:AV} {l:List Int} (h:rdI k H v=some l):(v=.nils∧l=[])∨∃ r o c,v=.sl r o l.length c∧r < H.size∧H.row r o l.length=some (l.map (AV.int k)):=by
 rcases z7f h with ⟨rfl,rfl⟩ | ⟨r,o,c,cs,rfl,hr,hcs,hch⟩
 ·exact Or.inl ⟨rfl,rfl⟩
 ·rw [Nat.mul_one] at hcs
  obtain rfl:=Wr (Ke hcs).1 hch
  exact Or.inr ⟨r,o,c,rfl,hr,hcs⟩

def z0O (W:World) (vs:List Value) (avs:List AV) (H:z3):Prop:=∃ ρ,Sim W.heap.size ρ W H∧zg ρ avs=some vs
theorem z99 (W:World):z0O W [] [] z3.empty:=⟨fun _=>none,z1u,rfl⟩
theorem z0O.plain {W:World} {vs:List Value} {avs:List AV} {H:z3} (h:z0O W vs avs H) {v:Value} {av:AV} (hv:∀ ρ,zb ρ av=some v):z0O W (vs++[v]) (avs++[av]) H:=by
 obtain⟨ρ,hs,hc⟩:=h
 exact⟨ρ,hs,yf hc (yW (hv ρ) rfl)⟩
theorem z0O.sl {W:World} {vs:List Value} {avs:List AV} {H:z3} (h:z0O W vs avs H) {blk off len cap z:Nat} {cs:List AV} (hb:blk < W.heap.size) (hl:len≤cap)
  (hcs:∀ i v,cs[i]? = some v→∃ x,(∀ ρ,zb ρ v=some x)∧W.cell? ⟨blk,off+i,none⟩=some x) :
  z0O W (vs++[.slice (some ⟨blk,off,none⟩) len cap]) (avs++[.sl H.size 0 len (.ex cap)]) (H.push (some (.cells .ro z cs))):=by
 obtain⟨ρ,hs,hc⟩:=h
 have hf:=hs.fresh
 have hle:ρ.le (ρ.add H.size (Loc.at blk off cap)):=fun r L hr=>by
  have:=(hs.dom r L hr).1
  simp only [Rho.add];rw [if_neg (by omega)];exact hr
 refine⟨ρ.add H.size (Loc.at blk off cap),⟨fun r L hr=>?_,fun r L o hr ho=>?_,?_⟩,yf (y6 hle _ _ hc) (yW ?_ rfl)⟩
 ·simp only [Rho.add] at hr
  split at hr
  ·obtain rfl:=Option.some.inj hr
   rename_i e
   exact⟨by rw [z3.size_push];omega,hb⟩
  ·exact⟨by rw [z3.size_push];have:=(hs.dom r L hr).1;omega,(hs.dom r L hr).2⟩
 ·simp only [Rho.add] at hr
  rw [z3.get_push] at ho
  split at hr
  ·rename_i e
   rw [if_pos e] at ho
   obtain rfl:=Option.some.inj hr
   obtain rfl:=Option.some.inj ho
   refine⟨hb,fun i v hv=>?_⟩
   obtain⟨x,h1,h2⟩:=hcs i v hv
   exact⟨x,h1 _,h2⟩
  ·rename_i e
   rw [if_neg e] at ho
   exact(hs.obj r L o hr ho).mono hle
 ·intro r r' L L' o o' hne hr hr' ho ho' hw hw'
  simp only [Rho.add] at hr hr'
  rw [z3.get_push] at ho ho'
  split at hr
  ·rename_i e
   rw [if_pos e] at ho
   obtain rfl:=Option.some.inj ho
   cases hw
  ·rename_i e
   rw [if_neg e] at ho
   split at hr'
   ·rename_i e'
    rw [if_pos e'] at ho'
    obtain rfl:=Option.some.inj ho'
    cases hw'
   ·rename_i e'
    rw [if_neg e'] at ho'
    exact hs.inj r r' L L' o o' hne hr hr' ho ho' hw hw'
 ·simp only [zb,Rho.add,if_pos,Loc.at]
  rw [if_pos hl]
  simp
section
variable {P:Program} {w:World} {r:Reach} {base:Nat}
theorem z7i {t e:TypeId} {v:Value} (ht:P.underlying t=some (.slice e)) (h:Value.okWide P w r base t v):v=.slice none 0 0∨∃ blk off len cap,v=.slice (some ⟨blk,off,none⟩) len cap∧blk < w.heap.size:=by
 simp only [Value.okWide,ht,Cell.okWide] at h
 cases v<;>simp only [Cell.ok,ht] at h
 rename_i a len cap
 cases a with
 | none =>
  cases len<;>cases cap<;>first | exact Or.inl rfl | exact h.elim
 | some a =>
  obtain⟨blk,off,spot⟩:=a
  obtain⟨_,_,_,hs,row,n,hsh,_⟩:=h
  simp only at hs hsh
  subst hs
  refine Or.inr ⟨blk,off,len,cap,rfl,Nat.lt_of_not_le fun hge=>?_⟩
  unfold World.shape? at hsh
  rw [Array.getElem?_eq_none hge] at hsh
  cases hsh
def capOk:AV→Bool
 | .sl _ _ n (.ex c)=>decide (n≤c)
 | _=>true
theorem z0O.ints {HH : Type} {enc : TypeId × Value → HH} {held : Bool} {W : World} {t e : TypeId} {k : IntKind} {v : Value} {d : DataW HH} {ps : List MemPlace} {vs : List Value} {avs : List AV} {H : z3} (hl : z0O W vs avs H)
    (ht : P.underlying t = some (.slice e)) (he : P.underlying e = some (.int k)) (hc : P.cellsOf e = 1) (hv : Value.okWide P W r base t v) (hd : DataW.Trod enc P W 0 (fun _ => true) held t v d ps) :
    ∃ (av : AV) (zs : List Int) (H' : z3), z0O W (vs ++ [v]) (avs ++ [av]) H' ∧ wR H H' ∧ rdI k H' av = some zs ∧ (zs.length ≤ maxLen) ∧ (∀ n ∈ zs, (Lit.int k n).wf = true) ∧ capOk av = true := by
  have hlt : ∀ x ∈ ps, x.block < W.heap.size := by obtain ⟨m, hm⟩ := hd; exact DataW.trod_lt m _ _ _ hm
  obtain ⟨fuel, hf⟩ := hd
  rcases z7i ht hv with rfl | ⟨blk, off, len, cap, rfl, hb⟩
  · exact ⟨.nils, [], H, hl.plain fun _ => by simp [zb], wR.refl H, rfl, Nat.zero_le _, by simp, rfl⟩
  · rcases ChangeShapes.open_ints ht he hc hf with ⟨hcs, _⟩ | ⟨x, l, c, zs, hcs, _, hle, hm, hz, hx, hcell, hwz⟩
    · simp [Value.cells] at hcs
    · simp only [Value.cells, List.cons.injEq, Value.slice.injEq, Option.some.injEq, and_true] at hcs
      obtain ⟨rfl, rfl, rfl⟩ := hcs
      simp only [if_true] at hz
      have hcs : ∀ (i : Nat) (u : AV), (zs.map fun n => AV.int k n)[i]? = some u → ∃ x, (∀ ρ, zb ρ u = some x) ∧ W.cell? ⟨blk, off + i, none⟩ = some x := by
        intro i u hu
        rw [List.getElem?_map] at hu
        obtain ⟨n, hn, rfl⟩ := Option.map_eq_some_iff.1 hu
        refine ⟨.int k n, fun ρ => by simp [zb], ?_⟩
        have := hcell i (List.getElem?_eq_some_iff.1 hn).1
        rw [jE, List.getD_eq_getElem?_getD, hn] at this
        exact this
      refine ⟨_, zs.take len, _, hl.sl (z := 1) hb hle hcs, (wR.refl H).push _, ?_, ?_, fun n hn => hwz n (List.mem_of_mem_take hn), ?_⟩
      · unfold rdI rdW
        simp only [z3.size_push, Nat.lt_succ_self, if_true, qb, Yc, jR, List.length_map, Nat.mul_one, Nat.zero_add, List.drop_zero]
        rw [if_pos (by omega)]
        simp only []
        have key : ∀ (zs : List Int) (n : Nat), n ≤ zs.length → Zz 1 (z7g k) n ((zs.map fun n => AV.int k n).take n) = some (zs.take n) := by
          intro zs
          induction zs with
          | nil => intro n hn; obtain rfl : n = 0 := by simpa using hn
                   rfl
          | cons x zs ih =>
            intro n hn
            cases n with
            | zero => rfl
            | succ n =>
              simp only [List.map_cons, List.take_succ_cons, Zz, List.take_zero, z7g, if_true, List.drop_succ_cons, List.drop_zero]
              rw [ih n (by simpa using hn)]
        exact key zs len (by omega)
      · have := List.length_take_le len zs
        omega
      · simpa [capOk] using hle
end
end Go.Ab
/- Structs and arrays that came in as arguments. -/
namespace Go.Ab
section
variable {P:Program} {w:World} {r:Reach} {base:Nat}
theorem z4A {k:IntKind} {n:Int} (h:(Lit.int k n).wf=true):k.min≤n∧n≤k.max:=by
 simpa [Lit.wf] using h
end
end Go.Ab
/- Rows of one's own that grow; tables. -/
namespace Go.Ab
structure Xw (Q:Nat→Prop) (H H1:z3):Prop where
 size:H.size≤H1.size
 get:∀ r,Q r→H1.get r=H.get r
theorem Xw.refl (Q:Nat→Prop) (H:z3):Xw Q H H:=⟨Nat.le_refl _,fun _ _=>rfl⟩
theorem Xw.trans {Q:Nat→Prop} {H H1 H2:z3} (a:Xw Q H H1) (b:Xw Q H1 H2):Xw Q H H2:=⟨Nat.le_trans a.size b.size,fun r hr=>(b.get r hr).trans (a.get r hr)⟩
theorem Xw.push {Q:Nat→Prop} {H H1:z3} (a:Xw Q H H1) (hq:∀ r,Q r→r < H1.size) (o:Option zF):Xw Q H (H1.push o) :=
 ⟨by rw [z3.size_push];exact Nat.le_succ_of_le a.size,fun r hr=>by rw [z3.get_push,if_neg (by have:=hq r hr;omega)];exact a.get r hr⟩
theorem Xw.put {Q:Nat→Prop} {H H1:z3} (a:Xw Q H H1) {r:Nat} (hq:¬ Q r) (o:Option zF):Xw Q H (H1.put r o) :=
 ⟨by rw [z3.size_put];exact a.size,fun s hs=>by rw [z3.get_put,if_neg (by intro e;subst e;exact hq hs)];exact a.get s hs⟩
theorem Xw.weaken {Q Q':Nat→Prop} {H H1:z3} (a:Xw Q H H1) (h:∀ r,Q' r→Q r):Xw Q' H H1:=⟨a.size,fun r hr=>a.get r (h r hr)⟩
theorem Xw.kept {Q:Nat→Prop} {H H1:z3} (a:Xw Q H H1) (h:∀ r,r < H.size→Q r):wR H H1:=⟨a.size,fun r hr=>a.get r (h r hr)⟩
theorem wR.same {Q:Nat→Prop} {H H1:z3} (a:wR H H1) (h:∀ r,Q r→r < H.size):Xw Q H H1:=⟨a.size,fun r hr=>a.get r (h r hr)⟩
def QP (z lo:Nat) (H:z3) (v:AV) (n:Nat) (cs:List AV):Prop :=
 (v=.nils∧n=0∧cs=[])∨∃ r,v=.sl r 0 n (.mi 0)∧lo≤r∧r < H.size∧H.get r=some (.cells .opened z cs)∧cs.length=n * z
def notOf (v:AV) (r:Nat):Prop:=∀ o n c,v≠.sl r o n c
theorem QP.notOf {z lo n:Nat} {H:z3} {v:AV} {cs:List AV} (h:QP z lo H v n cs) {r:Nat} (hr:r < lo∨H.size≤r):Go.Ab.notOf v r:=by
 intro o m c e
 rcases h with ⟨rfl,_⟩ | ⟨q,rfl,h1,h2,_⟩
 ·cases e
 ·cases e;omega
theorem QP.nils (z lo:Nat) (H:z3):QP z lo H .nils 0 []:=Or.inl ⟨rfl,rfl,rfl⟩
theorem QP.le {z lo lo' n:Nat} {H:z3} {v:AV} {cs:List AV} (h:QP z lo H v n cs) (hl:lo'≤lo):QP z lo' H v n cs:=by
 rcases h with h | ⟨r,e,h1,h2⟩
 ·exact Or.inl h
 ·exact Or.inr ⟨r,e,Nat.le_trans hl h1,h2⟩
theorem QP.same {z lo n:Nat} {H H1:z3} {v:AV} {cs:List AV} (h:QP z lo H v n cs) (hk:H.size≤H1.size) (hg:∀ r,lo≤r→r < H.size→H1.get r=H.get r):QP z lo H1 v n cs:=by
 rcases h with h | ⟨r,e,h1,h2,h3,h4⟩
 ·exact Or.inl h
 ·exact Or.inr ⟨r,e,h1,Nat.lt_of_lt_of_le h2 hk,(hg r h1 h2).trans h3,h4⟩
theorem QP.len {z lo n:Nat} {H:z3} {v:AV} {cs:List AV} (h:QP z lo H v n cs):z0R v=some (.int .i64 n):=by
 rcases h with ⟨rfl,rfl,_⟩ | ⟨r,rfl,_⟩<;>rfl
def Own (k:IntKind) (lo:Nat) (H:z3) (v:AV) (l:List Int):Prop:=QP 1 lo H v l.length (l.map (AV.int k))
theorem Own.nils (k:IntKind) (lo:Nat) (H:z3):Own k lo H .nils []:=QP.nils _ _ _
theorem Own.same {k:IntKind} {lo:Nat} {H H1:z3} {v:AV} {l:List Int} (h:Own k lo H v l) (hk:H.size≤H1.size) (hg:∀ r,lo≤r→r < H.size→H1.get r=H.get r):Own k lo H1 v l:=QP.same h hk hg
section
variable {H:z3} {v:AV} {D:List (List Int)}
end
end Go.Ab
/- Closed functions that the evaluator finds true, told of in the callers' stead. -/
namespace Go.Ab
open Go.RowKit
theorem Sim.below {B:Nat} {ρ:Rho} {w w':World} {H:z3} (h:Sim B ρ w H) (hb:Below w.heap.size w w'):Sim B ρ w' H :=
 ⟨fun r L hr=>⟨(h.dom r L hr).1,Nat.lt_of_lt_of_le (h.dom r L hr).2 hb.size⟩,fun r L o hr ho=>(h.obj r L o hr ho).same (hb.block _ (h.dom r L hr).2),h.inj⟩
end Go.Ab
