/- Where a call, or code, ends: what is told of it. -/
import Derived.Test.YtdbbdfmkglgjdaaSh8
import Derived.ChangeSlices
import Derived.SliceStrings
import Derived.Test.YtdbbdfmkglgjdaaAb17
set_option linter.unusedVariables false
set_option linter.unusedSimpArgs false
set_option linter.unusedSectionVars false
namespace Go.Ab
def vj (o:Option (AV × z3)) (Q:AV→z3→Prop):Prop:=∃ v H,o=some (v,H)∧Q v H
def wL (o:Option (zE × Tau × z3)) (Q:zE→Tau→z3→Prop):Prop:=∃ ex τ H,o=some (ex,τ,H)∧Q ex τ H
@[simp] theorem zdK (v:AV) (H:z3) (Q:AV→z3→Prop):vj (some (v,H)) Q↔Q v H :=
 ⟨fun⟨_,_,e,h⟩=>by obtain⟨rfl,rfl⟩:=Prod.mk.inj (Option.some.inj e);exact h,fun h=>⟨v,H,rfl,h⟩⟩
@[simp] theorem zdL (Q:AV→z3→Prop):vj none Q↔False:=⟨fun⟨_,_,e,_⟩=>(by cases e),False.elim⟩
@[simp] theorem zf3 (c:Prop) [Decidable c] (a b:Option (AV × z3)) (Q:AV→z3→Prop):vj (if c then a else b) Q↔if c then vj a Q else vj b Q:=by
 by_cases h:c<;>simp [h]
@[simp] theorem zdc (ex:zE) (τ:Tau) (H:z3) (Q:zE→Tau→z3→Prop):wL (some (ex,τ,H)) Q↔Q ex τ H :=
 ⟨fun⟨_,_,_,e,h⟩=>by obtain⟨rfl,e2⟩:=Prod.mk.inj (Option.some.inj e);obtain⟨rfl,rfl⟩:=Prod.mk.inj e2;exact h,fun h=>⟨ex,τ,H,rfl,h⟩⟩
@[simp] theorem zdd (Q:zE→Tau→z3→Prop):wL none Q↔False:=⟨fun⟨_,_,_,e,_⟩=>(by cases e),False.elim⟩
@[simp] theorem zdM (c:Prop) [Decidable c] (a b:Option (zE × Tau × z3)) (Q:zE→Tau→z3→Prop):wL (if c then a else b) Q↔if c then wL a Q else wL b Q:=by
 by_cases h:c<;>simp [h]
@[congr] theorem zde {o o':Option (AV × z3)} {Q:AV→z3→Prop} (h:o=o'):vj o Q↔vj o' Q:=by rw [h]
@[congr] theorem zc6 {o o':Option (zE × Tau × z3)} {Q:zE→Tau→z3→Prop} (h:o=o'):wL o Q↔wL o' Q:=by rw [h]
theorem vj.mono {o:Option (AV × z3)} {Q R:AV→z3→Prop} (h:vj o Q) (hq:∀ v H,Q v H→R v H):vj o R:=let ⟨v,H,e,q⟩:=h;⟨v,H,e,hq v H q⟩
theorem wL.mono {o:Option (zE × Tau × z3)} {Q R:zE→Tau→z3→Prop} (h:wL o Q) (hq:∀ ex τ H,Q ex τ H→R ex τ H):wL o R:=let ⟨ex,τ,H,e,q⟩:=h;⟨ex,τ,H,e,hq ex τ H q⟩
theorem vj.bnE {o:Option (zE × Tau × z3)} {k:zE→Tau→z3→Option (AV × z3)} {Q:AV→z3→Prop} (h:wL o fun ex τ H=>vj (k ex τ H) Q):vj (bnE o k) Q:=by
 obtain⟨ex,τ,H,rfl,h⟩:=h;exact h
theorem wL.bnE {o:Option (zE × Tau × z3)} {k:zE→Tau→z3→Option (zE × Tau × z3)} {Q:zE→Tau→z3→Prop} (h:wL o fun ex τ H=>wL (k ex τ H) Q):wL (bnE o k) Q:=by
 obtain⟨ex,τ,H,rfl,h⟩:=h;exact h
theorem vj.bnS {o:Option (AV × z3)} {k:AV→z3→Option (AV × z3)} {Q:AV→z3→Prop} (h:vj o fun v H=>vj (k v H) Q):vj (bnS o k) Q:=by
 obtain⟨v,H,rfl,h⟩:=h;exact h
theorem wL.bnS {o:Option (AV × z3)} {k:AV→z3→Option (zE × Tau × z3)} {Q:zE→Tau→z3→Prop} (h:vj o fun v H=>wL (k v H) Q):wL (bnS o k) Q:=by
 obtain⟨v,H,rfl,h⟩:=h;exact h
@[simp] theorem zdN (H:z3):wH H H:=wH.refl H
@[simp] theorem zdO {H H1:z3} (o:Option zG) (a:wH H H1):wH H (H1.push o):=a.push o
@[simp] theorem zf4 {H H1:z3} {r:Nat} (o:Option zG) (a:wH H H1) (h:H.size≤r):wH H (H1.put r o):=a.put h o
def z3A (args:List AV) (H:z3):Option (AV × z3):=match args with
 | []=>some (.bool true,H)
 | _=>none
theorem z8R {args:List AV} {H H':z3} {v:AV} (h:z3A args H=some (v,H')):args=[]∧v=.bool true∧H'=H:=by
 unfold z3A at h
 split at h
 ·simp only [Option.some.injEq,Prod.mk.injEq] at h
  exact⟨rfl,h.1.symm,h.2.symm⟩
 ·cases h
end Go.Ab
/- Slices as lists: what is read through them; and arguments that came in. -/
namespace Go.Ab
open Go.RowKit

def Ye {α:Type} (z:Nat) (dec:List AV→Option α):Nat→List AV→Option (List α)
 | 0,_=>some []
 | n+1,cs=>match dec (cs.take z),Ye z dec n (cs.drop z) with
  | some x,some l=>some (x::l)
  | _,_=>none
def rdW {α:Type} (z:Nat) (dec:List AV→Option α) (H:z3):AV→Option (List α)
 | .nils=>some []
 | .sl r o n _=>if r < H.size then match H.row r o (n * z) with
  | some cs=>Ye z dec n cs
  | none=>none
  else none
 | _=>none
def elp (z:Nat) (v:AV) (i:Int):AV:=match v with
 | .sl r o _ _=>.ptr r (o+i.toNat * z)
 | _=>z4
theorem KA {α:Type} {z:Nat} {dec:List AV→Option α}:∀ {n:Nat} {cs:List AV} {l:List α},Ye z dec n cs=some l→l.length=n
 | 0,_,_,h=>by simp only [Ye,Option.some.injEq] at h;subst h;rfl
 | n+1,cs,l,h=>by
  simp only [Ye] at h
  split at h
  ·rename_i x m h1 h2
   obtain rfl:=Option.some.inj h
   simp [KA h2]
  ·cases h
section
variable {α:Type} {z:Nat} {dec:List AV→Option α} {H:z3} {v:AV} {l:List α}
theorem z3B (h:rdW z dec H v=some l):(v=.nils∧l=[])∨∃ r o c cs,v=.sl r o l.length c∧r < H.size∧H.row r o (l.length * z)=some cs∧Ye z dec l.length cs=some l:=by
 unfold rdW at h
 split at h
 ·exact Or.inl ⟨rfl,(Option.some.inj h).symm⟩
 ·rename_i r o n c
  split at h
  ·rename_i hr
   split at h
   ·rename_i cs hcs
    obtain rfl:=KA h
    exact Or.inr ⟨r,o,c,cs,rfl,hr,hcs,h⟩
   ·cases h
  ·cases h
 ·cases h
theorem zbN {H1:z3} (hk:wH H H1) (h:rdW z dec H v=some l):rdW z dec H1 v=some l:=by
 rcases z3B h with ⟨rfl,rfl⟩ | ⟨r,o,c,cs,rfl,hr,hcs,hch⟩
 ·rfl
 ·simp only [rdW]
  rw [if_pos (Nat.lt_of_lt_of_le hr hk.size)]
  have:H1.row r o (l.length * z)=some cs:=by
   rw [← hcs];unfold z3.row;rw [hk.get r hr]
  rw [this]
  exact hch
end
def z8S (k:IntKind):List AV→Option Int
 | [.int k' n]=>if k'=k then some n else none
 | _=>none
def rdI (k:IntKind) (H:z3) (v:AV):Option (List Int):=rdW 1 (z8S k) H v
section
variable {k:IntKind} {H:z3} {v:AV} {l:List Int}
theorem zaK {cs:List AV} {n:Int} (h:z8S k cs=some n):cs=[.int k n]:=by
 unfold z8S at h
 split at h
 ·split at h
  ·rename_i e;obtain rfl:=Option.some.inj h;rw [e]
  ·cases h
 ·cases h
theorem zaL {H1:z3} (hk:wH H H1) (h:rdI k H v=some l):rdI k H1 v=some l:=zbN hk h
end
theorem z18 {k:IntKind}:∀ {n:Nat} {cs:List AV} {l:List Int},cs.length=n→Ye 1 (z8S k) n cs=some l→cs=l.map (AV.int k)
 | 0,cs,l,hn,h=>by
  simp only [Ye,Option.some.injEq] at h
  subst h
  simpa using hn
 | n+1,cs,l,hn,h=>by
  simp only [Ye] at h
  split at h
  ·rename_i x m h1 h2
   obtain rfl:=Option.some.inj h
   match cs,hn with
   | c::cs,hn =>
    simp only [List.take_succ_cons,List.take_zero,List.drop_succ_cons,List.drop_zero] at h1 h2
    have:=zaK h1
    simp only [List.cons.injEq,and_true] at this
    subst this
    simp only [List.map_cons,List.cons.injEq,true_and]
    exact z18 (by simpa using hn) h2
  ·cases h
theorem z8T {k:IntKind} {H:z3} {v:AV} {l:List Int} (h:rdI k H v=some l):(v=.nils∧l=[])∨∃ r o c,v=.sl r o l.length c∧r < H.size∧H.row r o l.length=some (l.map (AV.int k)):=by
 rcases z3B h with ⟨rfl,rfl⟩ | ⟨r,o,c,cs,rfl,hr,hcs,hch⟩
 ·exact Or.inl ⟨rfl,rfl⟩
 ·rw [Nat.mul_one] at hcs
  obtain rfl:=z18 (VI hcs).1 hch
  exact Or.inr ⟨r,o,c,rfl,hr,hcs⟩

def z2s (W:World) (vs:List Value) (avs:List AV) (H:z3):Prop:=∃ ρ,Sim W.heap.size ρ W H∧zh ρ avs=some vs
theorem zaM (W:World):z2s W [] [] z3.empty:=⟨fun _=>none,z37,rfl⟩
theorem z2s.plain {W:World} {vs:List Value} {avs:List AV} {H:z3} (h:z2s W vs avs H) {v:Value} {av:AV} (hv:∀ ρ,za ρ av=some v):z2s W (vs++[v]) (avs++[av]) H:=by
 obtain⟨ρ,hs,hc⟩:=h
 exact⟨ρ,hs,yg hc (x3 (hv ρ) rfl)⟩
theorem z2s.sl {W:World} {vs:List Value} {avs:List AV} {H:z3} (h:z2s W vs avs H) {blk off len cap z:Nat} {cs:List AV} (hb:blk < W.heap.size) (hl:len≤cap)
  (hcs:∀ i v,cs[i]? = some v→∃ x,(∀ ρ,za ρ v=some x)∧W.cell? ⟨blk,off+i,none⟩=some x) :
  z2s W (vs++[.slice (some ⟨blk,off,none⟩) len cap]) (avs++[.sl H.size 0 len (.ex cap)]) (H.push (some (.cells .ro z cs))):=by
 obtain⟨ρ,hs,hc⟩:=h
 have hf:=hs.fresh
 have hle:ρ.le (ρ.add H.size (Loc.at blk off cap)):=fun r L hr=>by
  have:=(hs.dom r L hr).1
  simp only [Rho.add];rw [if_neg (by omega)];exact hr
 refine⟨ρ.add H.size (Loc.at blk off cap),⟨fun r L hr=>?_,fun r L o hr ho=>?_,?_⟩,yg (y7 hle _ _ hc) (x3 ?_ rfl)⟩
 ·simp only [Rho.add] at hr
  split at hr
  ·obtain rfl:=Option.some.inj hr
   rename_i e
   exact⟨by rw [z3.size_push];omega,hb⟩
  ·exact⟨by rw [z3.size_push];have:=(hs.dom r L hr).1;omega,(hs.dom r L hr).2⟩
 ·simp only [Rho.add] at hr
  rw [z3.get_push] at ho
  split at hr
  ·rename_i e
   rw [if_pos e] at ho
   obtain rfl:=Option.some.inj hr
   obtain rfl:=Option.some.inj ho
   refine⟨hb,fun i v hv=>?_⟩
   obtain⟨x,h1,h2⟩:=hcs i v hv
   exact⟨x,h1 _,h2⟩
  ·rename_i e
   rw [if_neg e] at ho
   exact(hs.obj r L o hr ho).mono hle
 ·intro r r' L L' o o' hne hr hr' ho ho' hw hw'
  simp only [Rho.add] at hr hr'
  rw [z3.get_push] at ho ho'
  split at hr
  ·rename_i e
   rw [if_pos e] at ho
   obtain rfl:=Option.some.inj ho
   cases hw
  ·rename_i e
   rw [if_neg e] at ho
   split at hr'
   ·rename_i e'
    rw [if_pos e'] at ho'
    obtain rfl:=Option.some.inj ho'
    cases hw'
   ·rename_i e'
    rw [if_neg e'] at ho'
    exact hs.inj r r' L L' o o' hne hr hr' ho ho' hw hw'
 ·simp only [za,Rho.add,if_pos,Loc.at]
  rw [if_pos hl]
  simp
section
variable {P:Program} {w:World} {r:Reach} {base:Nat}
theorem z8U {t e:TypeId} {v:Value} (ht:P.underlying t=some (.slice e)) (h:Value.okWide P w r base t v):v=.slice none 0 0∨∃ blk off len cap,v=.slice (some ⟨blk,off,none⟩) len cap∧blk < w.heap.size:=by
 simp only [Value.okWide,ht,Cell.okWide] at h
 cases v<;>simp only [Cell.ok,ht] at h
 rename_i a len cap
 cases a with
 | none =>
  cases len<;>cases cap<;>first | exact Or.inl rfl | exact h.elim
 | some a =>
  obtain⟨blk,off,spot⟩:=a
  obtain⟨_,_,_,hs,row,n,hsh,_⟩:=h
  simp only at hs hsh
  subst hs
  refine Or.inr ⟨blk,off,len,cap,rfl,Nat.lt_of_not_le fun hge=>?_⟩
  unfold World.shape? at hsh
  rw [Array.getElem?_eq_none hge] at hsh
  cases hsh
def capOk:AV→Bool
 | .sl _ _ n (.ex c)=>decide (n≤c)
 | _=>true
theorem z2s.ints {HH : Type} {enc : TypeId × Value → HH} {held : Bool} {W : World} {t e : TypeId} {k : IntKind} {v : Value} {d : DataW HH} {ps : List MemPlace} {vs : List Value} {avs : List AV} {H : z3} (hl : z2s W vs avs H)
    (ht : P.underlying t = some (.slice e)) (he : P.underlying e = some (.int k)) (hc : P.cellsOf e = 1) (hv : Value.okWide P W r base t v) (hd : DataW.Trod enc P W 0 (fun _ => true) held t v d ps) :
    ∃ (av : AV) (zs : List Int) (H' : z3), z2s W (vs ++ [v]) (avs ++ [av]) H' ∧ wH H H' ∧ rdI k H' av = some zs ∧ (zs.length ≤ maxLen) ∧ (∀ n ∈ zs, (Lit.int k n).wf = true) ∧ capOk av = true := by
  have hlt : ∀ x ∈ ps, x.block < W.heap.size := by obtain ⟨m, hm⟩ := hd; exact DataW.trod_lt m _ _ _ hm
  obtain ⟨fuel, hf⟩ := hd
  rcases z8U ht hv with rfl | ⟨blk, off, len, cap, rfl, hb⟩
  · exact ⟨.nils, [], H, hl.plain fun _ => by simp [za], wH.refl H, rfl, Nat.zero_le _, by simp, rfl⟩
  · rcases ChangeShapes.open_ints ht he hc hf with ⟨hcs, _⟩ | ⟨x, l, c, zs, hcs, _, hle, hm, hz, hx, hcell, hwz⟩
    · simp [Value.cells] at hcs
    · simp only [Value.cells, List.cons.injEq, Value.slice.injEq, Option.some.injEq, and_true] at hcs
      obtain ⟨rfl, rfl, rfl⟩ := hcs
      simp only [if_true] at hz
      have hcs : ∀ (i : Nat) (u : AV), (zs.map fun n => AV.int k n)[i]? = some u → ∃ x, (∀ ρ, za ρ u = some x) ∧ W.cell? ⟨blk, off + i, none⟩ = some x := by
        intro i u hu
        rw [List.getElem?_map] at hu
        obtain ⟨n, hn, rfl⟩ := Option.map_eq_some_iff.1 hu
        refine ⟨.int k n, fun ρ => by simp [za], ?_⟩
        have := hcell i (List.getElem?_eq_some_iff.1 hn).1
        rw [jW, List.getD_eq_getElem?_getD, hn] at this
        exact this
      refine ⟨_, zs.take len, _, hl.sl (z := 1) hb hle hcs, (wH.refl H).push _, ?_, ?_, fun n hn => hwz n (List.mem_of_mem_take hn), ?_⟩
      · unfold rdI rdW
        simp only [z3.size_push, Nat.lt_succ_self, if_true, qv, YW, kB, List.length_map, Nat.mul_one, Nat.zero_add, List.drop_zero]
        rw [if_pos (by omega)]
        simp only []
        have key : ∀ (zs : List Int) (n : Nat), n ≤ zs.length → Ye 1 (z8S k) n ((zs.map fun n => AV.int k n).take n) = some (zs.take n) := by
          intro zs
          induction zs with
          | nil => intro n hn; obtain rfl : n = 0 := by simpa using hn
                   rfl
          | cons x zs ih =>
            intro n hn
            cases n with
            | zero => rfl
            | succ n =>
              simp only [List.map_cons, List.take_succ_cons, Ye, List.take_zero, z8S, if_true, List.drop_succ_cons, List.drop_zero]
              rw [ih n (by simpa using hn)]
        exact key zs len (by omega)
      · have := List.length_take_le len zs
        omega
      · simpa [capOk] using hle
end
end Go.Ab
/- Structs and arrays that came in as arguments. -/
namespace Go.Ab
section
variable {P:Program} {w:World} {r:Reach} {base:Nat}
theorem JF {k:IntKind} {n:Int} (h:(Lit.int k n).wf=true):k.min≤n∧n≤k.max:=by
 simpa [Lit.wf] using h
end
end Go.Ab
/- Rows of one's own that grow; tables. -/
namespace Go.Ab
structure Qz (Q:Nat→Prop) (H H1:z3):Prop where
 size:H.size≤H1.size
 get:∀ r,Q r→H1.get r=H.get r
theorem Qz.refl (Q:Nat→Prop) (H:z3):Qz Q H H:=⟨Nat.le_refl _,fun _ _=>rfl⟩
theorem Qz.trans {Q:Nat→Prop} {H H1 H2:z3} (a:Qz Q H H1) (b:Qz Q H1 H2):Qz Q H H2:=⟨Nat.le_trans a.size b.size,fun r hr=>(b.get r hr).trans (a.get r hr)⟩
theorem Qz.push {Q:Nat→Prop} {H H1:z3} (a:Qz Q H H1) (hq:∀ r,Q r→r < H1.size) (o:Option zG):Qz Q H (H1.push o) :=
 ⟨by rw [z3.size_push];exact Nat.le_succ_of_le a.size,fun r hr=>by rw [z3.get_push,if_neg (by have:=hq r hr;omega)];exact a.get r hr⟩
theorem Qz.put {Q:Nat→Prop} {H H1:z3} (a:Qz Q H H1) {r:Nat} (hq:¬ Q r) (o:Option zG):Qz Q H (H1.put r o) :=
 ⟨by rw [z3.size_put];exact a.size,fun s hs=>by rw [z3.get_put,if_neg (by intro e;subst e;exact hq hs)];exact a.get s hs⟩
theorem Qz.weaken {Q Q':Nat→Prop} {H H1:z3} (a:Qz Q H H1) (h:∀ r,Q' r→Q r):Qz Q' H H1:=⟨a.size,fun r hr=>a.get r (h r hr)⟩
theorem Qz.kept {Q:Nat→Prop} {H H1:z3} (a:Qz Q H H1) (h:∀ r,r < H.size→Q r):wH H H1:=⟨a.size,fun r hr=>a.get r (h r hr)⟩
theorem wH.same {Q:Nat→Prop} {H H1:z3} (a:wH H H1) (h:∀ r,Q r→r < H.size):Qz Q H H1:=⟨a.size,fun r hr=>a.get r (h r hr)⟩
def JG (z lo:Nat) (H:z3) (v:AV) (n:Nat) (cs:List AV):Prop :=
 (v=.nils∧n=0∧cs=[])∨∃ r,v=.sl r 0 n (.mi 0)∧lo≤r∧r < H.size∧H.get r=some (.cells .opened z cs)∧cs.length=n * z
def notOf (v:AV) (r:Nat):Prop:=∀ o n c,v≠.sl r o n c
theorem JG.notOf {z lo n:Nat} {H:z3} {v:AV} {cs:List AV} (h:JG z lo H v n cs) {r:Nat} (hr:r < lo∨H.size≤r):Go.Ab.notOf v r:=by
 intro o m c e
 rcases h with ⟨rfl,_⟩ | ⟨q,rfl,h1,h2,_⟩
 ·cases e
 ·cases e;omega
theorem JG.nils (z lo:Nat) (H:z3):JG z lo H .nils 0 []:=Or.inl ⟨rfl,rfl,rfl⟩
theorem JG.le {z lo lo' n:Nat} {H:z3} {v:AV} {cs:List AV} (h:JG z lo H v n cs) (hl:lo'≤lo):JG z lo' H v n cs:=by
 rcases h with h | ⟨r,e,h1,h2⟩
 ·exact Or.inl h
 ·exact Or.inr ⟨r,e,Nat.le_trans hl h1,h2⟩
theorem JG.same {z lo n:Nat} {H H1:z3} {v:AV} {cs:List AV} (h:JG z lo H v n cs) (hk:H.size≤H1.size) (hg:∀ r,lo≤r→r < H.size→H1.get r=H.get r):JG z lo H1 v n cs:=by
 rcases h with h | ⟨r,e,h1,h2,h3,h4⟩
 ·exact Or.inl h
 ·exact Or.inr ⟨r,e,h1,Nat.lt_of_lt_of_le h2 hk,(hg r h1 h2).trans h3,h4⟩
theorem JG.len {z lo n:Nat} {H:z3} {v:AV} {cs:List AV} (h:JG z lo H v n cs):z2v v=some (.int .i64 n):=by
 rcases h with ⟨rfl,rfl,_⟩ | ⟨r,rfl,_⟩<;>rfl
def Own (k:IntKind) (lo:Nat) (H:z3) (v:AV) (l:List Int):Prop:=JG 1 lo H v l.length (l.map (AV.int k))
theorem Own.nils (k:IntKind) (lo:Nat) (H:z3):Own k lo H .nils []:=JG.nils _ _ _
theorem Own.same {k:IntKind} {lo:Nat} {H H1:z3} {v:AV} {l:List Int} (h:Own k lo H v l) (hk:H.size≤H1.size) (hg:∀ r,lo≤r→r < H.size→H1.get r=H.get r):Own k lo H1 v l:=JG.same h hk hg
section
variable {H:z3} {v:AV} {D:List (List Int)}
end
end Go.Ab
/- Closed functions that the evaluator finds true, told of in the callers' stead. -/
namespace Go.Ab
open Go.RowKit
theorem Sim.below {B:Nat} {ρ:Rho} {w w':World} {H:z3} (h:Sim B ρ w H) (hb:Below w.heap.size w w'):Sim B ρ w' H :=
 ⟨fun r L hr=>⟨(h.dom r L hr).1,Nat.lt_of_lt_of_le (h.dom r L hr).2 hb.size⟩,fun r L o hr ho=>(h.obj r L o hr ho).same (hb.block _ (h.dom r L hr).2),h.inj⟩
end Go.Ab
