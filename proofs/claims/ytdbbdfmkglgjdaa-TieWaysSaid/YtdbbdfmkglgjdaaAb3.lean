/- The abstract heap against a world: what is read, written, made. -/
import Derived.Test.YtdbbdfmkglgjdaaAb2
set_option linter.unusedVariables false
set_option linter.unusedSimpArgs false
set_option linter.unusedSectionVars false
namespace Go.Ab
open Go.RowKit
theorem Tr.get_leaf (m:Nat):Tr.get .leaf m=none:=by cases m<;>rfl
theorem Tr.get_set (v:Option zF):∀ (f n:Nat) (t:Tr) (m:Nat),n < f→(Tr.set v f t n).get m=if m=n then v else t.get m:=by
 intro f
 induction f with
 | zero=>intro n t m h;omega
 | succ f ih =>
  intro n t m h
  cases t with
  | leaf =>
   cases n with
   | zero=>cases m with
    | zero=>simp [Tr.set,Tr.get]
    | succ m=>simp [Tr.set,Tr.get]
   | succ n =>
    simp only [Tr.set]
    split
    ·cases m with
     | zero=>simp [Tr.get]
     | succ m =>
      simp only [Tr.get,Tr.get_leaf]
      split
      ·rw [ih _ _ _ (by omega)];simp only [Tr.get_leaf]
       by_cases e:m=n
       ·subst e;simp
       ·rw [if_neg (by omega),if_neg (by omega)]
      ·rw [if_neg (by omega)]
    ·cases m with
     | zero=>simp [Tr.get]
     | succ m =>
      simp only [Tr.get]
      split
      ·rw [if_neg (by omega)]
      ·rw [ih _ _ _ (by omega)];simp only [Tr.get_leaf]
       by_cases e:m=n
       ·subst e;simp
       ·rw [if_neg (by omega),if_neg (by omega)]
  | node w l r =>
   cases n with
   | zero=>cases m with
    | zero=>simp [Tr.set,Tr.get]
    | succ m=>simp [Tr.set,Tr.get]
   | succ n =>
    simp only [Tr.set]
    split
    ·cases m with
     | zero=>simp [Tr.get]
     | succ m =>
      simp only [Tr.get]
      split
      ·rw [ih _ _ _ (by omega)]
       by_cases e:m=n
       ·subst e;simp
       ·rw [if_neg (by omega),if_neg (by omega)]
      ·rw [if_neg (by omega)]
    ·cases m with
     | zero=>simp [Tr.get]
     | succ m =>
      simp only [Tr.get]
      split
      ·rw [if_neg (by omega)]
      ·rw [ih _ _ _ (by omega)]
       by_cases e:m=n
       ·subst e;simp
       ·rw [if_neg (by omega),if_neg (by omega)]
theorem z3.get_put (H:z3) (r:Nat) (o:Option zF) (m:Nat):(H.put r o).get m=if m=r then o else H.get m:=Tr.get_set o _ _ _ _ (Nat.lt_succ_self _)
theorem z3.get_push (H:z3) (o:Option zF) (m:Nat):(H.push o).get m=if m=H.size then o else H.get m:=Tr.get_set o _ _ _ _ (Nat.lt_succ_self _)
@[simp] theorem z3.size_put (H:z3) (r:Nat) (o:Option zF):(H.put r o).size=H.size:=by cases H;rfl
@[simp] theorem z3.size_push (H:z3) (o:Option zF):(H.push o).size=H.size+1:=by cases H;rfl
theorem z3.get_empty (m:Nat):z3.empty.get m=none:=Tr.get_leaf m
def Y1 (k:Kd) (z:Nat) (L:Loc) (n:Nat) (fz:Nat × Nat) (len:Nat):Prop :=
 match k with
 | .exact=>fz=(0,0)∧n=len∧n=L.cap * z
 | .opened=>fz=(0,0)∧n=L.cap * z∧L.cap≤maxLen
 | .stiff=>len≤fz.1
 | .ro=>False
def z7I (B:Nat) (ρ:Rho) (w:World) (L:Loc) (k:Kd) (z:Nat) (cs:List AV):Prop :=
 B≤L.blk∧L.off=0∧∃ cur e fz,w.heap[L.blk]? = some (.cells cur e fz)∧cs.length≤cur.size∧zg ρ cs=some (cur.toList.take cs.length)∧Y1 k z L cur.size fz cs.length
def zfj (B:Nat) (ρ:Rho) (w:World) (L:Loc) (cs:List AV):Prop :=
 L.blk < B∧∀ i v,cs[i]? = some v→∃ x,zb ρ v=some x∧w.cell? ⟨L.blk,L.off+i,none⟩=some x
def jc (ρ:Rho):List (AV × AV)→List MapEntry→Prop
 | [],l=>l=[]
 | (k,v)::es,l=>∃ e l',l=e::l'∧zb ρ k=some e.key∧zb ρ v=some e.val∧jc ρ es l'
theorem jc.mono {ρ ρ':Rho} (hl:ρ.le ρ'):∀ {es:List (AV × AV)} {l:List MapEntry},jc ρ es l→jc ρ' es l
 | [],l,h=>h
 | (k,v)::es,l,⟨e,l',h1,h2,h3,h4⟩=>⟨e,l',h1,jm hl _ _ h2,jm hl _ _ h3,h4.mono hl⟩
def wn (B:Nat) (ρ:Rho) (w:World) (L:Loc):zF→Prop
 | .iter s pos=>B≤L.blk∧L.off=0∧w.heap[L.blk]? = some (.stringIter ⟨⟨s⟩⟩ pos)
 | .mapo es=>B≤L.blk∧L.off=0∧∃ ents clock,w.heap[L.blk]? = some (.map ents clock)∧jc ρ es ents.toList
 | .cells .ro _ cs=>zfj B ρ w L cs
 | .cells k z cs=>z7I B ρ w L k z cs
theorem zH {B:Nat} {ρ:Rho} {w:World} {L:Loc} {k:Kd} {z:Nat} {cs:List AV} (hk:k≠.ro):wn B ρ w L (.cells k z cs)↔z7I B ρ w L k z cs:=by
 cases k<;>first | exact absurd rfl hk | exact Iff.rfl
def zF.own:zF→Bool
 | .cells .ro _ _=>false
 | _=>true
structure Sim (B:Nat) (ρ:Rho) (w:World) (H:z3):Prop where
 dom:∀ r L,ρ r=some L→r < H.size∧L.blk < w.heap.size
 obj:∀ r L o,ρ r=some L→H.get r=some o→wn B ρ w L o
 inj:∀ r r' L L' o o',r≠r'→ρ r=some L→ρ r'=some L'→H.get r=some o→H.get r'=some o'→o.own=true→o'.own=true→L.blk≠L'.blk
theorem jE (b o n:Nat):(⟨b,o,none⟩:Addr).add n=⟨b,o+n,none⟩:=by unfold Addr.add;split<;>simp_all
section
variable {B:Nat} {ρ:Rho} {w:World} {H:z3}
theorem wn.mono {ρ':Rho} {L:Loc} {o:zF} (h:wn B ρ w L o) (hl:ρ.le ρ'):wn B ρ' w L o:=by
 cases o with
 | iter s p=>exact h
 | mapo es=>obtain⟨h1,h2,ents,clock,h4,h5⟩:=h;exact⟨h1,h2,ents,clock,h4,h5.mono hl⟩
 | cells k z cs =>
  cases k
  case ro=>exact⟨h.1,fun i v hv=>let ⟨x,h1,h2⟩:=h.2 i v hv;⟨x,jm hl _ _ h1,h2⟩⟩
  all_goals
   obtain⟨h1,h2,cur,e,fz,h3,h4,h5,h6⟩:=h
   exact⟨h1,h2,cur,e,fz,h3,h4,y6 hl _ _ h5,h6⟩
theorem wn.same {w':World} {L:Loc} {o:zF} (h:wn B ρ w L o) (hb:w'.heap[L.blk]? = w.heap[L.blk]?):wn B ρ w' L o:=by
 cases o with
 | iter s p=>exact⟨h.1,h.2.1,hb.trans h.2.2⟩
 | mapo es=>obtain⟨h1,h2,ents,clock,h4,h5⟩:=h;exact⟨h1,h2,ents,clock,hb.trans h4,h5⟩
 | cells k z cs =>
  cases k
  case ro=>exact⟨h.1,fun i v hv=>let ⟨x,h1,h2⟩:=h.2 i v hv;⟨x,h1,(World.cell?_of_block (w:=w) hb).trans h2⟩⟩
  all_goals
   obtain⟨h1,h2,cur,e,fz,h3,rest⟩:=h
   exact⟨h1,h2,cur,e,fz,hb.trans h3,rest⟩
theorem Sim.cell (h:Sim B ρ w H) {r o:Nat} {L:Loc} {v:AV} (hr:ρ r=some L) (hc:H.cell r o=some v) :
  ∃ x,zb ρ v=some x∧w.cell? ⟨L.blk,L.off+o,none⟩=some x:=by
 unfold z3.cell at hc
 cases hg:H.get r with
 | none=>simp [hg] at hc
 | some ob =>
  cases ob with
  | iter s p=>simp [hg] at hc
  | mapo es=>simp [hg] at hc
  | cells k z cs =>
   simp [hg] at hc
   have ho:=h.obj r L _ hr hg
   by_cases hk:k=.ro
   ·subst hk;exact ho.2 o v hc
   ·obtain⟨_,h2,cur,e,fz,h3,h4,h5,_⟩:=(zH hk).1 ho
    obtain⟨x,hx,hx2⟩:=jM h5 hc
    refine⟨x,hx,?_⟩
    have hlt:o < cs.length:=(List.getElem?_eq_some_iff.1 hc).1
    rw [List.getElem?_take_of_lt hlt] at hx2
    rw [h2,Nat.zero_add,cell_of_row w _ _ cur e fz h3]
    simpa using hx2
theorem Ke {r o n:Nat} {cs:List AV} (hc:H.row r o n=some cs):cs.length=n∧∀ (j:Nat) (v:AV),cs[j]? = some v→H.cell r (o+j)=some v:=by
 unfold z3.row at hc
 unfold z3.cell
 cases hg:H.get r with
 | none=>simp [hg] at hc
 | some ob =>
  cases ob with
  | iter s p=>simp [hg] at hc
  | mapo es=>simp [hg] at hc
  | cells k z l =>
   simp only [hg] at hc ⊢
   split at hc
   ·rename_i hle
    obtain rfl:=Option.some.inj hc
    refine⟨by simp;omega,fun j v hv=>?_⟩
    rw [List.getElem?_take] at hv
    split at hv
    ·rwa [List.getElem?_drop] at hv
    ·cases hv
   ·cases hc
theorem Sim.row (h:Sim B ρ w H) {r o n:Nat} {L:Loc} {cs:List AV} (hr:ρ r=some L) (hc:H.row r o n=some cs) :
  ∃ xs,zg ρ cs=some xs∧xs.length=n∧∀ (j:Nat) (x:Value),xs[j]? = some x→w.cell? ((⟨L.blk,L.off+o,none⟩:Addr).add j)=some x:=by
 obtain⟨hlen,hget⟩:=Ke hc
 have key:∀ (l:List AV) (k:Nat),(∀ (j:Nat) (v:AV),l[j]? = some v→H.cell r (o+(k+j))=some v) →
   ∃ xs,zg ρ l=some xs∧∀ (j:Nat) (x:Value),xs[j]? = some x→w.cell? ((⟨L.blk,L.off+o,none⟩:Addr).add (k+j))=some x:=by
  intro l
  induction l with
  | nil=>intro k _;exact⟨[],rfl,fun j x hx=>by simp at hx⟩
  | cons v l ih =>
   intro k hv
   obtain⟨x,hx,hcell⟩:=h.cell hr (hv 0 v rfl)
   obtain⟨xs,hxs,hrest⟩:=ih (k+1) (fun j u hu=>by have:=hv (j+1) u (by simpa using hu);rw [show k+1+j=k+(j+1) by omega];exact this)
   refine⟨x::xs,yW hx hxs,fun j y hy=>?_⟩
   cases j with
   | zero=>simp at hy;subst hy;rw [jE];rw [← hcell];congr 2;omega
   | succ j=>have:=hrest j y (by simpa using hy);rw [show k+1+j=k+(j+1) by omega] at this;exact this
 obtain⟨xs,h1,h2⟩:=key cs 0 (fun j v hv=>by simpa using hget j v hv)
 exact⟨xs,h1,by rw [zB h1,hlen],fun j x hx=>by simpa using h2 j x hx⟩

def Rho.add (ρ:Rho) (n:Nat) (L:Loc):Rho:=fun r=>if r=n then some L else ρ r
theorem Sim.fresh (h:Sim B ρ w H):ρ H.size=none:=by
 cases e:ρ H.size with
 | none=>rfl
 | some L=>have:=(h.dom _ _ e).1;omega
theorem Sim.le_add (h:Sim B ρ w H) (L:Loc):ρ.le (ρ.add H.size L):=by
 intro r M hr
 unfold Rho.add
 by_cases e:r=H.size
 ·subst e;rw [h.fresh] at hr;cases hr
 ·rw [if_neg e];exact hr
theorem Sim.ext_add (h:Sim B ρ w H) (L:Loc):Rho.ext H.size ρ (ρ.add H.size L) :=
 ⟨h.le_add L,fun r hr=>by unfold Rho.add;rw [if_neg (by omega)]⟩
theorem Sim.alloc (h:Sim B ρ w H) (hB:B≤w.heap.size) {k:Kd} {z:Nat} {cs:List AV} {L:Loc} {cur:Array Value} {e:TypeId} {fz:Nat × Nat}
  (hL:L.blk=w.heap.size) (hL0:L.off=0) (hk:k≠.ro) (hle:cs.length≤cur.size) (hc:zg ρ cs=some (cur.toList.take cs.length)) (hkd:Y1 k z L cur.size fz cs.length) :
  Sim B (ρ.add H.size L) (w.alloc (.cells cur e fz)) (H.push (some (.cells k z cs))):=by
 have hmono:=h.le_add L
 have hold:∀ i,i < w.heap.size→(w.alloc (.cells cur e fz)).heap[i]? = w.heap[i]? := fun i hi=>Below.heap_alloc w _ i hi
 have hsz:(w.alloc (.cells cur e fz)).heap.size=w.heap.size+1:=by simp
 refine⟨fun r M hr=>?_,fun r M o hr hg=>?_,fun r r' M M' o o' hne hr hr' hg hg' ho ho'=>?_⟩
 ·unfold Rho.add at hr
  split at hr
  ·rename_i e;subst e;obtain rfl:=Option.some.inj hr;rw [hsz];simp;omega
  ·have:=h.dom r M hr;rw [hsz];simp;omega
 ·rw [z3.get_push] at hg
  unfold Rho.add at hr
  split at hr
  ·rename_i e1
   rw [if_pos e1] at hg
   obtain rfl:=Option.some.inj hr
   obtain rfl:=Option.some.inj hg
   refine(zH hk).2 ⟨by omega,hL0,cur,e,fz,?_,hle,y6 hmono _ _ hc,hkd⟩
   rw [hL];exact Go.heap_alloc_new w _
  ·rename_i e
   rw [if_neg e] at hg
   exact((h.obj r M o hr hg).same (hold _ (h.dom r M hr).2)).mono hmono
 ·rw [z3.get_push] at hg hg'
  unfold Rho.add at hr hr'
  split at hr
  ·rename_i e1
   obtain rfl:=Option.some.inj hr
   split at hr'
   ·rename_i e2;exact absurd (e1.trans e2.symm) hne
   ·have:=(h.dom r' M' hr').2;omega
  ·rename_i e1
   rw [if_neg e1] at hg
   split at hr'
   ·obtain rfl:=Option.some.inj hr'
    have:=(h.dom r M hr).2;omega
   ·rename_i e2
    rw [if_neg e2] at hg'
    exact h.inj r r' M M' o o' hne hr hr' hg hg' ho ho'
theorem Sim.allocIter (h:Sim B ρ w H) (hB:B≤w.heap.size) {s:List UInt8} {p:Nat} :
  Sim B (ρ.add H.size (Loc.at w.heap.size 0 0)) (w.alloc (.stringIter ⟨⟨s⟩⟩ p)) (H.push (some (.iter s p))):=by
 have hmono:=h.le_add (Loc.at w.heap.size 0 0)
 have hold:∀ i,i < w.heap.size→(w.alloc (.stringIter ⟨⟨s⟩⟩ p)).heap[i]? = w.heap[i]? := fun i hi=>Below.heap_alloc w _ i hi
 have hsz:(w.alloc (.stringIter ⟨⟨s⟩⟩ p)).heap.size=w.heap.size+1:=by simp
 refine⟨fun r M hr=>?_,fun r M o hr hg=>?_,fun r r' M M' o o' hne hr hr' hg hg' ho ho'=>?_⟩
 ·unfold Rho.add at hr
  split at hr
  ·rename_i e;subst e;obtain rfl:=Option.some.inj hr;rw [hsz];simp
  ·have:=h.dom r M hr;rw [hsz];simp;omega
 ·rw [z3.get_push] at hg
  unfold Rho.add at hr
  split at hr
  ·rename_i e
   rw [if_pos e] at hg
   obtain rfl:=Option.some.inj hr
   obtain rfl:=Option.some.inj hg
   exact⟨hB,rfl,Go.heap_alloc_new w _⟩
  ·rename_i e
   rw [if_neg e] at hg
   exact((h.obj r M o hr hg).same (hold _ (h.dom r M hr).2)).mono hmono
 ·rw [z3.get_push] at hg hg'
  unfold Rho.add at hr hr'
  split at hr
  ·rename_i e1
   obtain rfl:=Option.some.inj hr
   split at hr'
   ·rename_i e2;exact absurd (e1.trans e2.symm) hne
   ·have:=(h.dom r' M' hr').2;simp;omega
  ·rename_i e1
   rw [if_neg e1] at hg
   split at hr'
   ·obtain rfl:=Option.some.inj hr'
    have:=(h.dom r M hr).2;simp;omega
   ·rename_i e2
    rw [if_neg e2] at hg'
    exact h.inj r r' M M' o o' hne hr hr' hg hg' ho ho'
theorem Sim.kill (h:Sim B ρ w H) (q:Nat):Sim B ρ w (H.put q none):=by
 refine⟨fun r M hr=>by simpa using h.dom r M hr,fun r M o hr hg=>?_,fun r r' M M' o o' hne hr hr' hg hg' ho ho'=>?_⟩
 ·rw [z3.get_put] at hg
  split at hg
  ·cases hg
  ·exact h.obj r M o hr hg
 ·rw [z3.get_put] at hg hg'
  split at hg
  ·cases hg
  ·split at hg'
   ·cases hg'
   ·exact h.inj r r' M M' o o' hne hr hr' hg hg' ho ho'
theorem Sim.world {w':World} (h:Sim B ρ w H) (hs:w.heap.size≤w'.heap.size) (hb:∀ i,i < w.heap.size→w'.heap[i]? = w.heap[i]?):Sim B ρ w' H :=
 ⟨fun r L hr=>⟨(h.dom r L hr).1,Nat.lt_of_lt_of_le (h.dom r L hr).2 hs⟩,fun r L o hr hg=>(h.obj r L o hr hg).same (hb _ (h.dom r L hr).2),h.inj⟩
theorem Sim.drew (h:Sim B ρ w H):Sim B ρ w.drew H:=h.world (Nat.le_refl _) fun _ _=>rfl

theorem ZK (P:Program) (g o:Nat) (t:TypeId) (fz:Nat × Nat):∀ (vs:List Value) (i:Nat) (cur:Array Value) (w:World),w.heap[g]? = some (.cells cur t fz) →
  o+i+vs.length≤cur.size→(∀ j,o+i≤j→j < o+i+vs.length→(decide (fz.1≤j) && decide (j < fz.2))=false)→(∀ v ∈ vs,v.oneCell'=true) →
  (storeCells ⟨g,o,none⟩ vs i).run P w=.ok () (w.setRow g (cur.toList.take (o+i)++vs++cur.toList.drop (o+i+vs.length)).toArray)
 | [],i,cur,w,hg,_,_,_=>by
  simp only [storeCells,List.append_nil,List.length_nil,Nat.add_zero,List.take_append_drop,Array.toArray_toList]
  rw [setRow_self w g cur t fz hg]
  rfl
 | v::rest,i,cur,w,hg,hl,hf,h1=>by
  have hi:o+i < cur.size:=by simp at hl;omega
  have hadd:(⟨g,o,none⟩:Addr).add i=⟨g,o+i,none⟩:=jE g o i
  have hcell:w.cell? ⟨g,o+i,none⟩=some cur[o+i]:=by simp [World.cell?,hg,hi]
  have hfro:w.frozen? ⟨g,o+i,none⟩=false:=by
   have:=hf (o+i) (Nat.le_refl _) (by simp)
   simpa [World.frozen?,hg] using this
  have hst:(store ((⟨g,o,none⟩:Addr).add i) v).run P w=.ok () (w.setRow g (cur.setIfInBounds (o+i) v)):=by
   rw [hadd,run_store P w _ v _ (h1 v (by simp)),hcell]
   simp [hfro,setCell_eq_setRow w g (o+i) cur t fz v hg]
  have ih:=ZK P g o t fz rest (i+1) (cur.setIfInBounds (o+i) v) (w.setRow g (cur.setIfInBounds (o+i) v)) (setRow_heap w g cur _ t _ hg) (by simp at hl ⊢;omega)
   (fun j hj hj2=>hf j (by omega) (by simp;omega)) (fun x hx=>h1 x (by simp [hx]))
  simp only [storeCells,Sem.run_bind,hst,Result.andThen_ok,ih,setRow_setRow]
  congr 3
  have e:=list_seg_step cur.toList (o+i) v rest (by simp at hl ⊢;omega)
  simpa [Array.toList_setIfInBounds,Nat.add_assoc] using e
theorem Y1.fz {k:Kd} {z:Nat} {L:Loc} {n:Nat} {fz:Nat × Nat} {len:Nat} (h:Y1 k z L n fz len):∀ j,j < len→(decide (fz.1≤j) && decide (j < fz.2))=false:=by
 intro j hj
 cases k<;>simp only [Y1] at h
 ·obtain⟨rfl,_⟩:=h;simp
 ·obtain⟨rfl,_⟩:=h;simp
 ·simp;omega
theorem Jj {α:Type} (cs:List α) (o:Nat) (vs:List α) (h:o+vs.length≤cs.length):(splice cs o vs).length=cs.length:=by
 simp [splice];omega
theorem z3i {α:Type} (l:List α) (n o:Nat) (vs:List α) (h:o+vs.length≤n) (hn:n≤l.length):splice (l.take n) o vs=(splice l o vs).take n:=by
 unfold splice
 rw [List.take_take,Nat.min_eq_left (by omega),List.drop_take]
 have:(l.take o++vs).length=o+vs.length:=by simp;omega
 rw [List.take_append,List.take_of_length_le (l:=l.take o++vs) (by omega),this]
theorem Sim.write (P:Program) (h:Sim B ρ w H) {r o:Nat} {L:Loc} {vs:List AV} {xs:List Value} {H':z3} (hr:ρ r=some L) (hw:H.write r o vs=some H') (hx:zg ρ vs=some xs) :
  ∃ w',(storeCells ⟨L.blk,L.off+o,none⟩ xs).run P w=.ok () w'∧Sim B ρ w' H'∧Below B w w'∧H'.size=H.size:=by
 unfold z3.write at hw
 cases hg:H.get r with
 | none=>simp [hg] at hw
 | some ob =>
  cases ob with
  | iter s p=>simp [hg] at hw
  | mapo es=>simp [hg] at hw
  | cells k z cs =>
   simp only [hg] at hw
   split at hw
   ·cases hw
   ·rename_i hk
    split at hw
    ·rename_i hcond
     obtain⟨hfit,hone⟩:=hcond
     obtain rfl:=Option.some.inj hw
     obtain⟨h1,h2,cur,e,fz,h3,h4,h5,h6⟩:=(zH hk).1 (h.obj r L _ hr hg)
     have hxl:=zB hx
     have hst:=ZK P L.blk o e fz xs 0 cur w h3 (by omega) (fun j hj hj2=>h6.fz j (by omega)) (Y0 hx hone)
     simp only [Nat.add_zero] at hst
     rw [h2,Nat.zero_add]
     refine⟨_,hst,?_,⟨rfl,rfl,rfl,by simp,fun i hi=>setRow_other w _ i _ (by omega)⟩,rfl⟩
     have hcur:(cur.toList.take o++xs++cur.toList.drop (o+xs.length)).toArray.size=cur.size:=by simp;omega
     have hrow:=setRow_heap w L.blk cur (cur.toList.take o++xs++cur.toList.drop (o+xs.length)).toArray e fz h3
     refine⟨fun q M hq=>?_,fun q M ob hq hgq=>?_,fun q q' M M' ob ob' hne hq hq' hgq hgq' ho ho'=>?_⟩
     ·have:=h.dom q M hq;simpa using this
     ·rw [z3.get_put] at hgq
      split at hgq
      ·rename_i e1
       subst e1
       obtain rfl:=Option.some.inj hgq
       rw [hr] at hq
       obtain rfl:=Option.some.inj hq
       have hlen:=Jj cs o vs hfit
       refine(zH hk).2 ⟨h1,h2,_,e,fz,hrow,by omega,?_,by rw [hcur,hlen];exact h6⟩
       rw [hlen]
       have hs:=Kb o h5 hx
       rw [hs]
       show some (splice (cur.toList.take cs.length) o xs)=some ((splice cur.toList o xs).take cs.length)
       rw [z3i _ _ _ _ (by omega) (by simpa using h4)]
      ·rename_i e1
       refine(h.obj q M ob hq hgq).same (setRow_other w _ _ _ fun hb=>?_)
       have hown:(zF.cells k z cs).own=true:=by cases k<;>first | rfl | exact absurd rfl hk
       have hok:=h.obj q M ob hq hgq
       by_cases hob:ob.own=true
       ·exact h.inj q r M L ob _ e1 hq hr hgq hg hob hown hb
       ·cases ob with
        | iter s p=>simp [zF.own] at hob
        | mapo es=>simp [zF.own] at hob
        | cells k' z' cs' =>
         cases k'<;>first | (simp [zF.own] at hob;done) | skip
         have:=hok.1
         omega
     ·rw [z3.get_put] at hgq hgq'
      have hown:(zF.cells k z cs).own=true:=by cases k<;>first | rfl | exact absurd rfl hk
      have key:∀ {q:Nat} {ob:zF},(if q=r then some (zF.cells k z (splice cs o vs)) else H.get q)=some ob→ob.own=true→∃ ob0,H.get q=some ob0∧ob0.own=true:=by
       intro q ob hgq ho
       split at hgq
       ·rename_i e1;subst e1;exact⟨_,hg,hown⟩
       ·exact⟨ob,hgq,ho⟩
      obtain⟨b1,g1,o1⟩:=key hgq ho
      obtain⟨b2,g2,o2⟩:=key hgq' ho'
      exact h.inj q q' M M' b1 b2 hne hq hq' g1 g2 o1 o2
    ·cases hw
end
end Go.Ab
