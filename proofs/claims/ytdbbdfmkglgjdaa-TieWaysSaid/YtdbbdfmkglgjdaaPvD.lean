import Derived.Test.YtdbbdfmkglgjdaaPvC
set_option linter.unusedVariables false
set_option linter.unusedSimpArgs false
set_option linter.unusedSectionVars false
namespace Go.Ab
def dOk (nt:Nat) (d:Option Nat):Bool:=match d with
 | some d=>Nat.blt d nt
 | none=>true
theorem z4r {nt:Nat} {d:Option Nat} (h:dOk nt d=true):∀ i,d=some i→i < nt:=fun i e=>by
 subst e;exact Nat.le_of_ble_eq_true h
def z8Y:AOp→Bool
 | .newc _ | .box _ | .bsl ..=>true
 | _=>false
def z6j (nt:Nat):List (zk × PM)→Bool
 | []=>true
 | (o,_)::l=>dOk nt o.dst && z6j nt l
def z0K (nt na:Nat):Nat→List ((zk × DK) × PM)→Bool
 | j,[]=>true
 | j,((o,dk),m)::l=>dOk nt o.dst && (match dk with
  | .al k=>Nat.beq k j && Nat.blt j na && z8Y o.op && z0K nt na (j+1) l
  | _=>z0K nt na j l)
section
variable {E:Env} {ρ ρ1:yP} {Φ Φ1:ya} {A A1:Nat→Prop} {σ σ1:Nat→AV} {τ:PT} {ω ω1:PW} {Q Q1 H H1:z3} {τ':Tau} {nt:Nat} {r:Nat} {ob:zF}
def At (E:Env) (ρ:yP) (Φ:ya) (A:Nat→Prop) (H:z3) (nt:Nat) (τ1:PT) (ω1:PW) (Q1:z3) (τ1':Tau) (H1:z3):Prop :=
 ∃ ρ1 Φ1 σ1,Fr ρ1 Φ1 A σ1 τ1 ω1 Q1 τ1' H1 nt∧Ext ρ Φ A H ρ1 Φ1 H1
theorem At.trans (h1:Ext ρ Φ A H ρ1 Φ1 H1) {τ1:PT} {ω1:PW} {Q1:z3} {τ1':Tau} {H2:z3} (h2:At E ρ1 Φ1 A H1 nt τ1 ω1 Q1 τ1' H2):At E ρ Φ A H nt τ1 ω1 Q1 τ1' H2:=by
 obtain⟨ρ2,Φ2,σ2,h3,h4⟩:=h2
 exact⟨ρ2,Φ2,σ2,h3,h1.trans h4⟩
theorem z8Z {β:Type} {call:z7} (hcall:jy E call):∀ (l:List (zk × PM)) {ρ:yP} {Φ:ya} {σ:Nat→AV} {τ:PT} {ω:PW} {Q H:z3} {τ':Tau} {k:PT→PW→z3→Option β} {b:β},z6j nt l=true→Fr ρ Φ A σ τ ω Q τ' H nt→z5y call l τ ω Q k=some b →
  ∃ τ1 ω1 Q1 τ1' H1,k τ1 ω1 Q1=some b∧kK (zL E) (l.map (·.1)) τ' H=some (τ1',H1)∧At E ρ Φ A H nt τ1 ω1 Q1 τ1' H1
 | [],ρ,Φ,σ,τ,ω,Q,H,τ',k,b,_,h,hb=>⟨τ,ω,Q,τ',H,hb,rfl,ρ,Φ,σ,h,Ext.refl⟩
 | (o,m)::l,ρ,Φ,σ,τ,ω,Q,H,τ',k,b,hok,h,hb=>by
  simp only [z6j,Bool.and_eq_true] at hok
  simp only [z5y,KW] at hb
  obtain⟨τ0,ω0,Φ0,hb,hle,h0⟩:=VS m.fz h hb
  obtain⟨τ1,ω1,Q1,x,H1,ρ1,Φ1,σ1,hk,hst,hf,he⟩:=za1 h0 (z4r hok.1) hcall hb
  obtain⟨τ2,ω2,Q2,τ2',H2,e1,e2,e3⟩:=z8Z hcall l hok.2 hf hk
  refine⟨τ2,ω2,Q2,τ2',H2,e1,?_,At.trans ⟨he.rho,ya.trans hle he.phi,he.res,he.size⟩ e3⟩
  simp only [List.map_cons,kK]
  cases hW:za τ' o.guard with
  | true=>simp only [if_true,hst.1 hW];exact e2
  | false =>
   obtain⟨rfl,rfl⟩:=hst.2 hW
   simp only [Bool.false_eq_true,if_false];exact e2
theorem Fr.weaken (h : Fr ρ Φ A σ τ ω Q τ' H nt) (hA : ∀ r, A1 r → A r) : Fr ρ Φ A1 σ τ ω Q τ' H nt :=
  ⟨⟨h.rel.dom, h.rel.obj, h.rel.inj, fun q o r hq e => ⟨(h.rel.sep q o r hq e).1, fun a => (h.rel.sep q o r hq e).2 (hA r a)⟩, h.rel.fro, fun r a => h.rel.res r (hA r a)⟩, h.slot,
   fun k s r hk hb => ⟨(h.sep k s r hk hb).1, (h.sep k s r hk hb).2.1, fun a => (h.sep k s r hk hb).2.2.1 (hA r a), (h.sep k s r hk hb).2.2.2⟩, h.dis, h.len, h.tmp⟩
def z0L (A:Nat→Prop) (base j na:Nat):Nat→Prop:=fun r=>A r∨base+j≤r∧r < base+na
theorem J6:∀ (n:Nat) (H:z3) (s:Nat),(pushN n H).get s=if H.size≤s∧s < H.size+n then none else H.get s
 | 0,H,s=>by simp [pushN];intro h1 h2;omega
 | n+1,H,s=>by
  simp only [pushN,J6 n,z3.size_push,z3.get_push]
  by_cases c1:s=H.size
  ·subst c1
   rw [if_neg (by omega),if_pos rfl,if_pos (by omega)]
  ·by_cases c2:H.size≤s∧s < H.size+(n+1)
   ·rw [if_pos c2,if_pos (by omega)]
   ·rw [if_neg c2,if_neg (by omega),if_neg c1]
theorem Fr.reserve (h:Fr ρ Φ A σ τ ω Q τ' H nt) (na:Nat):Fr ρ Φ (z0L A H.size 0 na) σ τ ω Q τ' (pushN na H) nt:=by
 have hlt:∀ s,¬ xY ρ Φ A σ ω Q s→s < H.size:=fun s hs=>by
  refine Classical.byContradiction fun hge=>hs ⟨?_,fun a=>?_,fun q o hq e=>?_,fun k t hk e=>?_⟩
  ·cases e:Φ s with
   | none=>rfl
   | some o=>have:=(h.rel.fro s o e).1;omega
  ·have:=(h.rel.res s a).1;omega
  ·have:=(h.rel.dom q s e).2;omega
  ·have:=(h.sep k t s hk e).1;omega
 have h1:=h.heap (H1:=pushN na H) (by rw [vW];omega) (fun s hs=>by rw [J6,if_neg (by have:=hlt s hs;omega)])
 refine⟨⟨h1.rel.dom,h1.rel.obj,h1.rel.inj,fun q o r hq e=>⟨(h1.rel.sep q o r hq e).1,?_⟩,h1.rel.fro,fun r a=>?_⟩,h1.slot,fun k s r hk hb=>⟨(h1.sep k s r hk hb).1,(h1.sep k s r hk hb).2.1,?_,(h1.sep k s r hk hb).2.2.2⟩,h1.dis,h1.len,h1.tmp⟩
 ·rintro (a | a)
  ·exact(h1.rel.sep q o r hq e).2 a
  ·have:=(h.rel.dom q r e).2;omega
 ·rcases a with a | a
  ·exact h1.rel.res r a
  ·refine⟨by rw [vW];omega,?_⟩
   cases e:Φ r with
   | none=>rfl
   | some o=>have:=(h.rel.fro r o e).1;omega
 ·rintro (a | a)
  ·exact(h1.sep k s r hk hb).2.2.1 a
  ·have:=(h.sep k s r hk hb).1;omega
def QO (ρ:yP) (Φ:ya) (σ:Nat→AV) (ω:PW) (Q H:z3) (p:Bool × kA) (rec:Rec):Prop:=p.1=true→(∀ H1 H2,jT H1 H2 rec=true)∨(QM ω Q p.2∧match p.2 with
 | .no=>∀ H1 H2:z3,(∀ r o,Φ r=some o→H1.get r=some o)→(∀ r o,Φ r=some o→H2.get r=some o)→jT H1 H2 rec=true
 | .at y n=>∃ r p cs,TV0 ρ Φ σ ω y (.ptr r p)∧H.row r p n=some cs∧∀ H1 H2:z3,H2.row r p n=some cs→jT H1 H2 rec=true
 | .blk k=>∃ r ob,blk (σ k)=some r∧H.get r=some ob∧∀ H1 H2:z3,H1.get r=some ob→H2.get r=some ob→jT H1 H2 rec=true)
theorem QO.step {p:Bool × kA} {rec:Rec} (h:QO ρ Φ σ ω Q H p rec) (hΦ:Φ.le Φ1) (hk:p.1=true→Zx ρ Φ σ ω Q H ρ1 Φ1 σ1 ω1 Q1 H1 p.2):QO ρ1 Φ1 σ1 ω1 Q1 H1 p rec:=by
 intro hp
 rcases h hp with h | ⟨ha,h⟩
 ·exact Or.inl h
 ·obtain⟨b,l⟩:=p
  obtain⟨ha1,hk⟩:=hk hp ha
  refine Or.inr ⟨ha1,?_⟩
  cases l with
  | no=>exact fun H1 H2 f1 f2=>h H1 H2 (fun r o e=>f1 r o (hΦ r o e)) (fun r o e=>f2 r o (hΦ r o e))
  | «at» y n =>
   obtain⟨r,p,cs,h1,h2,h3⟩:=h
   obtain⟨k1,k2⟩:=hk r p cs h1 h2
   exact⟨r,p,cs,k1,k2,h3⟩
  | blk k =>
   obtain⟨r,ob,h1,h2,h3⟩:=h
   obtain⟨k1,k2⟩:=hk r h1
   exact⟨r,ob,k1,by rw [k2];exact h2,h3⟩
theorem QO.ok {p:Bool × kA} {rec:Rec} (h:QO ρ Φ σ ω Q H p rec) (hp:p.1=true) (hF:Fro Φ H) (hF1:Fro Φ H1) (hk:Zx ρ Φ σ ω Q H ρ1 Φ1 σ1 ω1 Q1 H1 p.2):jT H H1 rec=true:=by
 rcases h hp with h | ⟨ha,h⟩
 ·exact h H H1
 ·obtain⟨b,l⟩:=p
  obtain⟨ha1,hk⟩:=hk ha
  cases l with
  | no=>exact h H H1 hF hF1
  | «at» y n =>
   obtain⟨r,p,cs,h1,h2,h3⟩:=h
   exact h3 H H1 (hk r p cs h1 h2).2
  | blk k =>
   obtain⟨r,ob,h1,h2,h3⟩:=h
   exact h3 H H1 h2 (by rw [(hk r h1).2];exact h2)
theorem WZ {H1 H2:z3} {op:AOp} {v:AV} (hl:xp op=true) (h:opP τ'.at H2 op=some v):jT H1 H2 (.q τ' op v)=true:=by
 show (match aop τ' H2 op with
  | some (v',H3)=>H3.size == H2.size && qA v v'
  | none=>false)=true
 rw [Va hl,h]
 simp [J9]
theorem z90 (g:AX→AV) (H H2:z3) {op:AOp} (hq:isQ op=true) (h1:∀ x,op≠.ld x) (h2:∀ n x,op≠.ldn n x) (h3:∀ z x lo hi mx,op≠.slc z x lo hi mx) (h4:z46 op=true):opP g H op=opP g H2 op:=by
 cases op<;>first | rfl | (simp only [isQ,xp,Bool.false_eq_true] at hq;done) | (simp only [z46,Bool.false_eq_true] at h4;done) | exact absurd rfl (h1 _) | exact absurd rfl (h2 _ _) | exact absurd rfl (h3 _ _ _ _ _)
theorem z7a {H2:z3} {z:Nat} {x:AV} {lo hi mx:Option AV} (h:∀ r,blk x=some r→H2.get r=H.get r):x8 H2 z x lo hi mx=x8 H z x lo hi mx:=by
 cases x with
 | sl r o len cap =>
  have e:=h r rfl
  have hc:yT H2 z r len cap=yT H z r len cap:=by
   unfold yT
   cases cap<;>simp only [e]
  cases mx with
  | none =>
   simp only [x8,ke,hc,e]
   cases yh hi len (yT H z r len cap) with
   | none=>rfl
   | some hb =>
    simp only []
    cases yh lo 0 hb with
    | none=>rfl
    | some l =>
     cases cap with
     | ex c=>rfl
     | mi k =>
      simp only [hc]
      split
      ·rfl
      ·split
       ·rfl
       ·split<;>rfl
  | some m =>
   simp only [x8,ke,hc]
   cases bnd m (yT H z r len cap) with
   | none=>rfl
   | some mb =>
    simp only []
    cases hi with
    | none=>rfl
    | some hv =>
     simp only []
     cases bnd hv mb with
     | none=>rfl
     | some hb=>simp only [];cases yh lo 0 hb<;>rfl
 | nils =>
  cases mx with
  | none =>
   simp only [x8,ke]
   cases yh hi 0 0 with
   | none=>rfl
   | some hb=>simp only [];cases yh lo 0 hb<;>rfl
  | some m=>rfl
 | zs r o k d =>
  cases mx with
  | none =>
   simp only [x8,ke]
   cases yh hi 0 0 with
   | none=>rfl
   | some hb=>simp only [];cases yh lo 0 hb<;>rfl
  | some m=>rfl
 | _=>cases mx<;>rfl
end
end Go.Ab
namespace Go.Ab
section
variable {E:Env} {ρ ρ1:yP} {Φ Φ1:ya} {A A1:Nat→Prop} {σ σ1:Nat→AV} {τ:PT} {ω ω1:PW} {Q Q1 H H1:z3} {τ':Tau} {nt:Nat} {r:Nat} {ob:zF}
theorem z4s (e:Eff) (d:Option Nat) (Q Q':z3):∀ l,(QH e d Q Q' l).length=l.length
 | []=>rfl
 | (b,x)::l=>by simp only [QH,List.length_cons,z4s e d Q Q' l]
theorem V3 {e:Eff} {d:Option Nat} {Q Q':z3}:∀ {l:List (Bool × kA)} {i:Nat} {b':Bool} {x:kA},(QH e d Q Q' l)[i]? = some (b',x) →
  ∃ b,l[i]? = some (b,x)∧(b'=true→b=true∧ofD d x=false∧(cfl e x=false∨∃ p n,e=.call∧x=.at (.v p) n∧wM Q Q' p n=true))
 | [],i,b',x,h=>by simp [QH] at h
 | (b,y)::l,0,b',x,h=>by
  simp only [QH,List.getElem?_cons_zero,Option.some.injEq,Prod.mk.injEq] at h
  obtain⟨h1,rfl⟩:=h
  refine⟨b,rfl,fun hb=>?_⟩
  subst hb
  split at h1
  ·cases h1
  ·rename_i h2
   split at h1
   ·rename_i h3
    exact⟨h1,h2,Or.inl h3⟩
   ·split at h1
    ·simp only [Bool.and_eq_true] at h1
     exact⟨h1.1,h2,Or.inr ⟨_,_,rfl,rfl,h1.2⟩⟩
    ·cases h1
 | (b,y)::l,i+1,b',x,h=>by
  simp only [QH,List.getElem?_cons_succ] at h ⊢
  exact V3 h
theorem VT:∀ {recs:List (Bool × kA)} {pins:List Nat},Wi recs pins=true→∀ p ∈ pins,∃ l,recs[p]? = some (true,l)
 | recs,[],_,p,hp=>by simp at hp
 | recs,q::pins,h,p,hp=>by
  simp only [Wi] at h
  split at h
  ·rename_i b l e
   simp only [Bool.and_eq_true] at h
   rcases List.mem_cons.1 hp with rfl | hp
   ·exact⟨l,by rw [e,h.1]⟩
   ·exact VT h.2 p hp
  ·cases h
theorem K0 {H H':z3} {recs:List Rec}:∀ {pins:List Nat},(∀ p ∈ pins,∃ q,recs[p]? = some q∧jT H H' q=true)→jr H H' recs pins=true
 | [],_=>rfl
 | p::pins,h=>by
  obtain⟨q,e,ho⟩:=h p List.mem_cons_self
  simp only [jr,e,ho,Bool.true_and]
  exact K0 fun p hp=>h p (List.mem_cons_of_mem _ hp)
theorem Wq (h:Fr ρ Φ A σ τ ω Q τ' H nt) {β:Type} {o:zk} {r0:Option AV} {k:PT→Option β} {b:β} (hb:qD τ o r0 k=some b) (hW:za τ' o.guard=true):∃ a,r0=some a:=by
 unfold qD at hb
 cases hg:o.guard with
 | none =>
  rw [hg] at hb
  cases r0 with
  | none=>cases hb
  | some a=>exact⟨a,rfl⟩
 | some g =>
  obtain⟨t,w⟩:=g
  rw [hg] at hb hW
  simp only at hb
  cases hq:gdQ (gV τ t) w r0 with
  | none=>rw [hq] at hb;cases hb
  | some a =>
   unfold gdQ at hq
   split at hq
   ·rename_i c hc
    have hW2:=h.guard (w:=w) hc
    rw [hW] at hW2
    have hcw:c=w:=by simpa using hW2.symm
    rw [if_pos hcw] at hq
    exact⟨a,hq⟩
   ·rename_i hc
    rw [h.guardSk hc] at hW;cases hW
   ·cases hq
theorem z4t (h:Fr ρ Φ A σ τ ω Q τ' H nt) {β:Type} {o:zk} {n:Nat} {r0:Option (List AV)} {k:PT→Option β} {b:β} (hb:z1k τ o n r0 k=some b) (hW:za τ' o.guard=true):∃ a,r0=some a:=by
 unfold z1k at hb
 cases hg:o.guard with
 | none =>
  rw [hg] at hb
  cases r0 with
  | none=>cases hb
  | some a=>exact⟨a,rfl⟩
 | some g =>
  obtain⟨t,w⟩:=g
  rw [hg] at hb hW
  simp only at hb
  cases hq:gdQ (gV τ t) w (r0.map AV.agg) with
  | none=>rw [hq] at hb;cases hb
  | some a =>
   unfold gdQ at hq
   split at hq
   ·rename_i c hc
    have hW2:=h.guard (w:=w) hc
    rw [hW] at hW2
    have hcw:c=w:=by simpa using hW2.symm
    rw [if_pos hcw] at hq
    obtain⟨l,hl,_⟩:=Option.map_eq_some_iff.1 hq
    exact⟨l,hl⟩
   ·rename_i hc
    rw [h.guardSk hc] at hW;cases hW
   ·cases hq
theorem z1W {y:TV} {n:Nat} {cs:List AV} (hl:QF ω Q n y=some cs):QM ω Q (.at y n):=by
 cases y with
 | v a =>
  cases a with
  | ptr r o =>
   simp only [QF,yk] at hl
   unfold z3.row at hl
   split at hl
   ·rename_i k z cs hg;exact⟨_,hg⟩
   ·cases hl
  | cp cs0 o=>exact trivial
  | _=>cases hl
 | lp k o =>
  simp only [QF] at hl
  split at hl
  ·rename_i e;exact⟨_,e⟩
  ·cases hl
 | ls k=>cases hl
 | lq k i o =>
  simp only [QF] at hl
  split at hl
  ·rename_i e;exact⟨_,e⟩
  ·cases hl
 | fp e o=>exact trivial
 | lb k n=>cases hl
 | lv k n=>cases hl
 | gd t w y=>cases hl
theorem z7b {H:z3} {r p:Nat} {x:AV} (h:H.row r p 1=some [x]):H.cell r p=some x:=z4i h
theorem zcW (h:Fr ρ Φ A σ τ ω Q τ' H nt) {β:Type} {call:z7} {o:zk} (hq:isQ o.op=true) {k:PT→PW→z3→Option β} {b:β} (hb:yt call o .n τ ω Q k=some b) {x:AV} (hW:za τ' o.guard=true) (hx:opP τ'.at H o.op=some x) :
  QO ρ Φ σ ω Q H (z46 o.op,KX τ o) (.q τ' o.op x):=by
 intro hkq
 have hl:xp o.op=true:=by
  unfold isQ at hq
  split at hq
  ·cases hq
  ·exact hq
 have T:∀ x,TV0 ρ Φ σ ω (atT τ o.guard x) (τ'.at x):=fun x=>h.opd hW x
 by_cases c1:∃ y,o.op=.ld y
 ·obtain⟨y,ho⟩:=c1
  refine Or.inr ?_
  unfold yt at hb
  rw [ho] at hb
  obtain⟨a,ha⟩:=Wq h hb hW
  obtain⟨r,p,b',e1,e2,e3,e4⟩:=z8P h (T y) ha
  have hloc:KX τ o=.at (atT τ o.guard y) 1:=by unfold KX;rw [ho]
  rw [hloc]
  refine⟨z1W (z5A ha),r,p,[b'],by rw [← e1];exact T y,e2,fun H1 H2 h2=>?_⟩
  refine WZ hl ?_
  rw [ho] at hx ⊢
  simp only [opP,e1,ldA] at hx ⊢
  rw [e3] at hx
  rw [z7b h2];exact hx
 ·by_cases c2:∃ n y,o.op=.ldn n y
  ·obtain⟨n,y,ho⟩:=c2
   refine Or.inr ?_
   unfold yt at hb
   rw [ho] at hb
   obtain⟨a,ha⟩:=z4t h hb hW
   obtain⟨r,p,ys,e1,e2,e3⟩:=z30 h (T y) ha
   have hloc:KX τ o=.at (atT τ o.guard y) n:=by unfold KX;rw [ho]
   rw [hloc]
   refine⟨z1W ha,r,p,ys,by rw [← e1];exact T y,e2,fun H1 H2 h2=>?_⟩
   refine WZ hl ?_
   rw [ho] at hx ⊢
   simp only [opP,e1,z4C] at hx ⊢
   rw [e2] at hx
   rw [h2];exact hx
  ·have hloc:KX τ o=.no:=by
    unfold KX
    split
    ·rename_i y e;exact absurd ⟨y,e⟩ c1
    ·rename_i n y e;exact absurd ⟨n,y,e⟩ c2
    ·rfl
   rw [hloc]
   by_cases c3:∃ z y lo hi mx,o.op=.slc z y lo hi mx
   ·obtain⟨z,y,lo,hi,mx,ho⟩:=c3
    refine Or.inr ⟨trivial,fun H1 H2 f1 f2=>WZ hl ?_⟩
    rw [ho] at hx ⊢
    simp only [opP] at hx ⊢
    rw [z7a]
    ·exact hx
    ·intro r hr
     have hv:=(T y).val
     unfold yt at hb
     rw [ho] at hb
     cases mx with
     | some _=>cases hb
     | none =>
      simp only at hb
      split at hb
      ·rename_i a ha
       obtain⟨v,hv2⟩:=Wq h hb hW
       rw [ha] at hv
       unfold WN at hv2
       split at hv2
       ·simp only [TV.val,RV] at hv
        rw [hv] at hr;cases hr
       ·rename_i z' l
        obtain⟨cs,hf,_⟩:=RV.fz_inv hv
        unfold FzV at hf
        split at hf
        ·rename_i e;rw [e] at hr;cases hr
        ·rename_i r' o' n c e
         rw [e] at hr
         simp only [blk,Option.some.injEq] at hr
         subst hr
         obtain⟨k',z2,ds,e2,_⟩:=jO hf.2.1
         rw [f2 _ _ e2,(h.rel.fro _ _ e2).2]
        ·rename_i e;rw [e] at hr;cases hr
        ·exact hf.elim
       ·cases hv2
      ·cases hb
      ·cases hb
   ·refine Or.inl fun H1 H2=>WZ hl ?_
    rw [← z90 τ'.at H H2 hq (fun y e=>c1 ⟨y,e⟩) (fun n y e=>c2 ⟨n,y,e⟩) (fun z y lo hi mx e=>c3 ⟨z,y,lo,hi,mx,e⟩) hkq]
    exact hx
def ZV (ρ:yP) (Φ:ya) (σ:Nat→AV) (ω:PW) (Q H:z3) (recs:List (Bool × kA)) (arecs:List Rec):Prop :=
 recs.length=arecs.length∧∀ (i:Nat) p rec,recs[i]? = some p→arecs[i]? = some rec→QO ρ Φ σ ω Q H p rec
theorem ZV.snoc {recs:List (Bool × kA)} {arecs:List Rec} (h:ZV ρ Φ σ ω Q H recs arecs) {p:Bool × kA} {rec:Rec} (hp:QO ρ Φ σ ω Q H p rec):ZV ρ Φ σ ω Q H (recs++[p]) (arecs++[rec]):=by
 refine⟨by simp [h.1],fun i q rec' e1 e2=>?_⟩
 rw [List.getElem?_append] at e1 e2
 split at e1
 ·rename_i hi
  rw [if_pos (by rw [← h.1];exact hi)] at e2
  exact h.2 i q rec' e1 e2
 ·rename_i hi
  rw [if_neg (by rw [← h.1];exact hi),← h.1] at e2
  cases hj:i - recs.length with
  | zero=>rw [hj] at e1 e2;simp at e1 e2;subst e1;subst e2;exact hp
  | succ j=>rw [hj] at e1;simp at e1
theorem ZV.upd {recs:List (Bool × kA)} {arecs:List Rec} (h:ZV ρ Φ σ ω Q H recs arecs) {e:Eff} {d:Option Nat} (hΦ:Φ.le Φ1)
  (hk:∀ l,ofD d l=false→(cfl e l=false∨∃ p n,e=.call∧l=.at (.v p) n∧wM Q Q1 p n=true)→Zx ρ Φ σ ω Q H ρ1 Φ1 σ1 ω1 Q1 H1 l):ZV ρ1 Φ1 σ1 ω1 Q1 H1 (QH e d Q Q1 recs) arecs:=by
 refine⟨by rw [z4s];exact h.1,fun i p rec e1 e2=>?_⟩
 obtain⟨b',x⟩:=p
 obtain⟨b,e3,e4⟩:=V3 e1
 intro hp
 obtain⟨rfl,h2,h3⟩:=e4 hp
 exact(h.2 i _ rec e3 e2).step hΦ (fun _=>hk x h2 h3) rfl
theorem V4 {β:Type} {call:z7} (hcall:jy E call) {base na:Nat} (hA:∀ r,A r→r < base):∀ (l:List ((zk × DK) × PM)) (j:Nat) {recs:List (Bool × kA)} {arecs:List Rec} {ρ:yP} {Φ:ya} {σ:Nat→AV} {τ:PT} {ω:PW} {Q H:z3} {τ':Tau} {k:PT→PW→z3→Option β} {b:β},
  z0K nt na j l=true→Fr ρ Φ (z0L A base j na) σ τ ω Q τ' H nt→base+na≤H.size→(∀ i,j≤i→i < na→H.get (base+i)=none)→ZV ρ Φ σ ω Q H recs arecs→QJ call l recs τ ω Q k=some b →
  ∃ τ1 ω1 Q1 τ1' H1,k τ1 ω1 Q1=some b∧x9 (zL E) base (l.map (·.1)) arecs τ' H=some (τ1',H1)∧At E ρ Φ A H nt τ1 ω1 Q1 τ1' H1
 | [],j,recs,arecs,ρ,Φ,σ,τ,ω,Q,H,τ',k,b,_,h,_,_,_,hb=>⟨τ,ω,Q,τ',H,hb,rfl,ρ,Φ,σ,h.weaken fun r a=>Or.inl a,Ext.refl⟩
 | ((o,dk),m)::l,j,recs,arecs,ρ,Φ,σ,τ,ω,Q,H,τ',k,b,hok,h,hsz,hfree,hrec,hb=>by
  simp only [z0K,Bool.and_eq_true] at hok
  obtain⟨hd,hok⟩:=hok
  have hd:=z4r hd
  simp only [QJ,KW] at hb
  cases hfz:m.fz with
  | cons _ _=>rw [hfz] at hb;cases hb
  | nil =>
   rw [hfz] at hb
   cases dk with
   | q =>
    simp only at hb hok
    cases hq:isQ o.op with
    | false=>rw [hq] at hb;cases hb
    | true =>
     rw [hq] at hb
     simp only at hb
     have hl:xp o.op=true:=by
      unfold isQ at hq
      split at hq
      ·cases hq
      ·exact hq
     obtain⟨y,x,e1,e2,e3,e4⟩:=z63 h call hl hb
     have hput:=h.put hd e4
     have hrecn:ZV ρ Φ σ ω Q H (recs++[(z46 o.op,KX τ o)]) (arecs++[if za τ' o.guard then .q τ' o.op x else .none]):=by
      refine hrec.snoc ?_
      cases hW:za τ' o.guard with
      | true=>exact zcW h hq hb hW (e2 hW)
      | false=>exact fun _=>Or.inl fun _ _=>rfl
     obtain⟨τ2,ω2,Q2,τ2',H2,g1,g2,g3⟩:=V4 hcall hA l j hok hput hsz hfree hrecn e1
     refine⟨τ2,ω2,Q2,τ2',H2,g1,?_,g3⟩
     simp only [List.map_cons,x9]
     cases hW:za τ' o.guard with
     | true =>
      rw [hW] at g2
      simp only [if_true] at g2 ⊢
      rw [Va hl,e2 hW]
      simp only [Option.map_some,if_true]
      exact g2
     | false =>
      rw [hW] at g2
      obtain rfl:=e3 hW
      simp only [Bool.false_eq_true,if_false] at g2 ⊢
      exact g2
   | al j' =>
    simp only [Bool.and_eq_true] at hok
    obtain⟨⟨⟨c1,c2⟩,c3⟩,hok⟩:=hok
    obtain rfl:=Nat.eq_of_beq_eq_true c1
    have c2:j' < na:=Nat.le_of_ble_eq_true c2
    cases hg:o.guard with
    | some g=>rw [hg] at hb;cases hb
    | none =>
     rw [hg] at hb
     simp only at hb
     have hmade:(∃ cs,o.op=.newc cs)∨(∃ x,o.op=.box x)∨∃ z zero n ps,o.op=.bsl z zero n ps:=by
      cases ho:o.op<;>rw [ho] at c3<;>first | (simp [z8Y] at c3;done) | skip
      ·exact Or.inl ⟨_,rfl⟩
      ·exact Or.inr (Or.inl ⟨_,rfl⟩)
      ·exact Or.inr (Or.inr ⟨_,_,_,_,rfl⟩)
     have hin:z0L A base j' na (base+j'):=Or.inr ⟨Nat.le_refl _,by omega⟩
     have h0:=h.weaken (A1:=z0L A base (j'+1) na) (fun r a=>a.elim Or.inl fun a=>Or.inr ⟨by omega,a.2⟩)
     have hfr:xY ρ Φ (z0L A base (j'+1) na) σ ω Q (base+j') :=
      ⟨(h.rel.res _ hin).2,fun a=>a.elim (fun a=>by have:=hA _ a;omega) (fun a=>by omega),fun q o' hq' e=>(h.rel.sep q o' _ hq' e).2 hin,fun k' s hk' e=>(h.sep k' s _ hk' e).2.2.1 hin⟩
     obtain⟨τ1,ω1,Q1,x,ob,e1,e2,e3⟩:=z65 h0 hfr hd hg hmade hb
     have hlt:base+j' < H.size:=by omega
     have hn:=JX.put (H:=H) ob hlt
     obtain⟨ρ1,Φ1,σ1,e4,e5,e6,e7⟩:=e3 _ hn
     have hrec1:=hrec.upd (e:=.none) (d:=jj m.m o) (Q1:=Q1) e5.phi (fun l h1 _=>e6 l h1)
     have hob:∃ kk z cs,ob=.cells kk z cs:=by
      rcases hmade with ⟨cs,ho⟩ | ⟨y,ho⟩ | ⟨z,zero,n,ps,ho⟩<;>rw [ho] at e2<;>simp only [xB] at e2
      ·split at e2
       ·cases e2;exact⟨_,_,_,rfl⟩
       ·cases e2
      ·split at e2
       ·cases e2;exact⟨_,_,_,rfl⟩
       ·cases e2
      ·split at e2
       ·cases e2
       ·split at e2
        ·split at e2
         ·cases e2;exact⟨_,_,_,rfl⟩
         ·cases e2
        ·cases e2
     obtain⟨kk,zz,cs,rfl⟩:=hob
     have hmk:∀ H1 H2:z3,H1.get (base+j')=some (.cells kk zz cs)→H2.get (base+j')=some (.cells kk zz cs)→jT H1 H2 (.made (base+j'))=true:=fun H1 H2 f1 f2=>by
      unfold jT
      simp only [f1,f2]
      simp [jp]
     have hrec2:=hrec1.snoc (p:=z2T o m.m) (rec:=.made (base+j')) (fun ht=>by
      have:=e7 ht
      refine Or.inr ?_
      split at this
      ·rename_i d hloc
       rw [hloc]
       exact⟨this.2,_,_,this.1,hn.get,hmk⟩
      ·rename_i hloc
       rw [hloc]
       exact⟨trivial,fun H1 H2 f1 f2=>hmk H1 H2 (f1 _ _ this) (f2 _ _ this)⟩
      ·exact this.elim)
     obtain⟨τ2,ω2,Q2,τ2',H2,g1,g2,g3⟩:=V4 hcall hA l (j'+1) hok e4 (by simpa using hsz) (fun i hi1 hi2=>by rw [xi _ _ (by omega)];exact hfree i (by omega) hi2) hrec2 e1
     refine⟨τ2,ω2,Q2,τ2',H2,g1,?_,At.trans ⟨e5.rho,e5.phi,fun r hr=>e5.res r (Or.inl hr),e5.size⟩ g3⟩
     simp only [List.map_cons,x9,hg,za,if_true,e2,hfree j' (Nat.le_refl _) c2,Option.isNone_none]
     exact g2
   | ef pins =>
    simp only at hb hok
    cases htk:VL m.m with
    | true =>
     rw [htk] at hb
     simp only at hb
     cases hst:QI τ o with
     | none=>rw [hst] at hb;cases hb
     | some j0 =>
      rw [hst] at hb
      simp only at hb
      obtain⟨fx,args,ho⟩:∃ fx args,o.op=.call fx args:=by
       unfold QI at hst
       split at hst
       ·rename_i e _;exact⟨_,_,e⟩
       ·cases hst
      have hgn:o.guard=none:=by
       unfold QI at hst
       split at hst
       ·rename_i e;exact e
       ·cases hst
      obtain⟨τ1,ω1,Q1,x,H1,ρ1,Φ1,σ1,e1,e2,e3,e4,e5⟩:∃ τ1 ω1 Q1 x H1 ρ1 Φ1 σ1,(pinB (Wi (QH .call (some j0) Q Q1 recs) pins) (QJ call l (QH .call (some j0) Q Q1 recs++[(true,.no)]) τ1 ω1 Q1 k))=some b∧Step (zL E) o τ' H x H1∧Fr ρ1 Φ1 (z0L A base j na) σ1 τ1 ω1 Q1 (τ'.put o.dst x) H1 nt∧Ext ρ Φ (z0L A base j na) H ρ1 Φ1 H1 ∧
        ∀ l,ofD (some j0) l=false→(cfl .call l=false∨∃ p n,Eff.call=.call∧l=.at (.v p) n∧wM Q Q1 p n=true)→Zx ρ Φ σ ω Q H ρ1 Φ1 σ1 ω1 Q1 H1 l:=by
       cases hm0:m.m with
       | t z=>rw [hm0] at hb;exact z78 h hd hcall ho hb hst
       | tf z =>
        rw [hm0] at hb
        obtain⟨j,hj,rest⟩:=z1V h hd hcall ho hb hgn
        rw [hst] at hj
        cases hj
        exact rest
       | _=>rw [hm0] at htk;cases htk
      cases hpin:Wi (QH .call (some j0) Q Q1 recs) pins with
      | false=>simp only [hpin] at e1;cases e1
      | true =>
       simp only [hpin] at e1
       have hrec1:=hrec.upd (Q1:=Q1) e4.phi e5
       have hrec2:=hrec1.snoc (p:=(true,.no)) (rec:=.none) (fun _=>Or.inl fun _ _=>rfl)
       have hF:Fro Φ H:=fun r o ho=>(h.rel.fro r o ho).2
       have hF1:Fro Φ H1:=fun r o ho=>(e3.rel.fro r o (e4.phi r o ho)).2
       obtain⟨τ2,ω2,Q2,τ2',H2,g1,g2,g3⟩:=V4 hcall hA l j hok e3 (by have:=e4.size;omega) (fun i hi1 hi2=>by rw [e4.res _ (Or.inr ⟨by omega,by omega⟩)];exact hfree i hi1 hi2) hrec2 e1
       refine⟨τ2,ω2,Q2,τ2',H2,g1,?_,At.trans ⟨e4.rho,e4.phi,fun r hr=>e4.res r (Or.inl hr),e4.size⟩ g3⟩
       have hpins:jr H H1 arecs pins=true:=K0 fun p hp=>by
        obtain⟨ll,hl⟩:=VT hpin p hp
        obtain⟨b0,f1,f2⟩:=V3 hl
        obtain⟨rfl,f3,f4⟩:=f2 rfl
        have hlt:=(List.getElem?_eq_some_iff.1 f1).1
        rw [hrec.1] at hlt
        exact⟨_,List.getElem?_eq_getElem hlt,(hrec.2 p _ _ f1 (List.getElem?_eq_getElem hlt)).ok rfl hF hF1 (e5 ll f3 f4)⟩
       simp only [List.map_cons,x9]
       cases hW:za τ' o.guard with
       | true =>
        simp only [if_true,e2.1 hW,hpins]
        exact g2
       | false =>
        obtain⟨rfl,rfl⟩:=e2.2 hW
        simp only [Bool.false_eq_true,if_false]
        exact g2
    | false =>
     rw [htk] at hb
     simp only at hb
     obtain⟨τ1,ω1,Q1,x,H1,ρ1,Φ1,σ1,e1,e2,e3,e4,e5⟩:=z6i h hd hcall htk hb
     cases hpin:Wi (QH (vf m.m τ o) (jj m.m o) Q Q1 recs) pins with
     | false=>simp only [hpin] at e1;cases e1
     | true =>
      simp only [hpin] at e1
      have hrec1:=hrec.upd (Q1:=Q1) e4.phi e5
      have hrec2:=hrec1.snoc (p:=(true,.no)) (rec:=.none) (fun _=>Or.inl fun _ _=>rfl)
      have hF:Fro Φ H:=fun r o ho=>(h.rel.fro r o ho).2
      have hF1:Fro Φ H1:=fun r o ho=>(e3.rel.fro r o (e4.phi r o ho)).2
      obtain⟨τ2,ω2,Q2,τ2',H2,g1,g2,g3⟩:=V4 hcall hA l j hok e3 (by have:=e4.size;omega) (fun i hi1 hi2=>by rw [e4.res _ (Or.inr ⟨by omega,by omega⟩)];exact hfree i hi1 hi2) hrec2 e1
      refine⟨τ2,ω2,Q2,τ2',H2,g1,?_,At.trans ⟨e4.rho,e4.phi,fun r hr=>e4.res r (Or.inl hr),e4.size⟩ g3⟩
      have hpins:jr H H1 arecs pins=true:=K0 fun p hp=>by
       obtain⟨ll,hl⟩:=VT hpin p hp
       obtain⟨b0,f1,f2⟩:=V3 hl
       obtain⟨rfl,f3,f4⟩:=f2 rfl
       have hlt:=(List.getElem?_eq_some_iff.1 f1).1
       rw [hrec.1] at hlt
       exact⟨_,List.getElem?_eq_getElem hlt,(hrec.2 p _ _ f1 (List.getElem?_eq_getElem hlt)).ok rfl hF hF1 (e5 ll f3 f4)⟩
      simp only [List.map_cons,x9]
      cases hW:za τ' o.guard with
      | true =>
       simp only [if_true,e2.1 hW,hpins]
       exact g2
      | false =>
       obtain⟨rfl,rfl⟩:=e2.2 hW
       simp only [Bool.false_eq_true,if_false]
       exact g2
end
end Go.Ab
namespace Go.Ab
def zf.ok (nt:Nat):zf→Bool
 | .skip | .ret | .exit _=>true
 | .reg ops=>z6j nt ops
 | .dreg na ops=>z0K nt na 0 ops
 | .seq a b=>a.ok nt && b.ok nt
 | .cond _ a b=>a.ok nt && b.ok nt
 | .block _ c=>c.ok nt
 | .loop c=>c.ok nt
 | .keep _ _ c=>c.ok nt
 | .frz _ c=>c.ok nt
 | .hf _ z c=>Nat.blt 0 z && c.ok nt
 | .own _ z c=>Nat.blt 0 z && c.ok nt
 | .fin c os _ _ _=>(os.all fun p=>Nat.blt 0 p.2) && c.ok nt
def z6k (nt:Nat):vl→Bool
 | .tmp t=>Nat.blt t nt
 | .cell a _=>Nat.blt a nt
def zcX:RC→Bool
 | .o z=>Nat.blt 0 z
 | _=>true
def PFn.ok (fn:PFn):Bool:=fn.code.ok fn.nt && fn.res.all (z6k fn.nt) && fn.rc.all zcX && fn.own.all fun p=>Nat.blt 0 p.2
def PFn.un (fn:PFn):AFn:=⟨fn.nt,fn.code.un,fn.res⟩
section
variable {E:Env} {ρ ρ1:yP} {Φ Φ1:ya} {A A1:Nat→Prop} {σ σ1:Nat→AV} {τ:PT} {ω ω1:PW} {Q Q1 H H1:z3} {τ':Tau} {nt:Nat} {r:Nat} {ob:zF}
def z35 (E:Env) (lp:ze):Prop:=∀ (nt:Nat) (c:zf),c.ok nt=true→∀ τ ω Q ex τ1 ω1 Q1,lp c τ ω Q=some (ex,τ1,ω1,Q1)→∀ ρ Φ A σ τ' H,Fr ρ Φ A σ τ ω Q τ' H nt →
 ∃ τ1' H1,yI E (.loop c.un) τ' H=some (ex,τ1',H1)∧At E ρ Φ A H nt τ1 ω1 Q1 τ1' H1
theorem YS:∀ {l:List Nat},QK l=true→l.Nodup
 | [],_=>List.nodup_nil
 | a::l,h=>by
  simp only [QK,Bool.and_eq_true,Bool.not_eq_true'] at h
  refine List.nodup_cons.2 ⟨fun hm=>?_,YS h.2⟩
  have:=h.1
  rw [List.elem_eq_mem] at this
  simp [hm] at this
theorem VU {α:Type} (f:α→Nat):∀ {l:List α},(l.map f).Nodup→∀ {a b:α},a ∈ l→b ∈ l→f a=f b→a=b
 | [],_,a,b,ha,_,_=>by simp at ha
 | c::l,h,a,b,ha,hb,e=>by
  simp only [List.map_cons,List.nodup_cons] at h
  have hm:∀ {x:α},x ∈ l→f x ∈ l.map f:=fun hx=>List.mem_map.2 ⟨_,hx,rfl⟩
  rcases List.mem_cons.1 ha with h1 | h1
  ·rcases List.mem_cons.1 hb with h2 | h2
   ·rw [h1,h2]
   ·refine absurd (hm h2) ?_
    rw [← e,h1];exact h.1
  ·rcases List.mem_cons.1 hb with h2 | h2
   ·refine absurd (hm h1) ?_
    rw [e,h2];exact h.1
   ·exact VU f h.2 h1 h2 e
theorem ZW {α:Type}:∀ {l:List (Nat × α)} {k:Nat} {x:α},lkp l k=some x→(k,x) ∈ l
 | [],k,x,h=>by cases h
 | (a,y)::l,k,x,h=>by
  rw [zC] at h
  split at h
  ·rename_i e;subst e;cases h;exact List.mem_cons_self
  ·exact List.mem_cons_of_mem _ (ZW h)
theorem vj:∀ {ks:List (Nat × Nat)} {k:Nat} {s:z42},lkp (Jp ω ks) k=some s→∃ a,(a,k) ∈ ks∧lkp ω a=some s
 | [],k,s,h=>by cases h
 | (a,b)::ks,k,s,h=>by
  simp only [Jp] at h
  split at h
  ·rename_i t ht
   rw [zC] at h
   split at h
   ·rename_i e;subst e;cases h;exact⟨a,List.mem_cons_self,ht⟩
   ·obtain⟨a',h1,h2⟩:=vj h
    exact⟨a',List.mem_cons_of_mem _ h1,h2⟩
  ·obtain⟨a',h1,h2⟩:=vj h
   exact⟨a',List.mem_cons_of_mem _ h1,h2⟩
theorem z1X (ks:List (Nat × Nat)) (τ:PT):∀ (ts:List Nat) (t:Nat),xE (Wj ks τ ts) t=z0u ks (xE τ t)∨xE (Wj ks τ ts) t=.v z4
 | [],t=>Or.inr rfl
 | a::ts,t=>by
  simp only [Wj,vh]
  split
  ·rename_i e;subst e;exact Or.inl rfl
  ·exact z1X ks τ ts t
theorem Fr.keep (h:Fr ρ Φ A σ τ ω Q τ' H nt) {ts:List Nat} {ks:List (Nat × Nat)} (h1:(ks.map (·.1)).Nodup) (h2:(ks.map (·.2)).Nodup):∃ σ1,Fr ρ Φ A σ1 (Wj ks τ ts) (Jp ω ks) Q τ' H nt:=by
 classical
 have fst:∀ {a b b'},(a,b) ∈ ks→(a,b') ∈ ks→b=b':=fun {a b b'} m1 m2=>by
  have:=VU (·.1) h1 m1 m2 rfl
  exact congrArg Prod.snd this
 have snd:∀ {a a' b},(a,b) ∈ ks→(a',b) ∈ ks→a=a':=fun {a a' b} m1 m2=>by
  have:=VU (·.2) h2 m1 m2 rfl
  exact congrArg Prod.fst this
 let σ1:Nat→AV:=fun k=>if hk:∃ a,(a,k) ∈ ks then σ hk.choose else z4
 have hσ:∀ {a k},(a,k) ∈ ks→σ1 k=σ a:=fun {a k} hm=>by
  have hk:∃ a,(a,k) ∈ ks:=⟨a,hm⟩
  show (if hk:∃ a,(a,k) ∈ ks then σ hk.choose else z4)=σ a
  rw [dif_pos hk,snd hk.choose_spec hm]
 refine⟨σ1,h.rel,fun k s hk=>?_,fun k s r hk hb=>?_,fun k k' s s' r hne hk hk' hb=>?_,h.len,fun t=>?_⟩
 ·obtain⟨a,hm,ha⟩:=vj hk
  rw [hσ hm];exact h.slot a s ha
 ·obtain⟨a,hm,ha⟩:=vj hk
  rw [hσ hm] at hb;exact h.sep a s r ha hb
 ·obtain⟨a,hm,ha⟩:=vj hk
  obtain⟨a',hm',ha'⟩:=vj hk'
  rw [hσ hm] at hb
  rw [hσ hm']
  refine h.dis a a' s s' r (fun e=>hne ?_) ha ha' hb
  subst e;exact fst hm hm'
 ·rcases z1X ks τ ts t with e | e
  ·rw [e]
   have ht:=h.tmp t
   have key:∀ y:TV,TV0 ρ Φ σ ω y (τ'.getD t z4)→TV0 ρ Φ σ1 (Jp ω ks) (z0u ks y) (τ'.getD t z4)∨z0u ks y=.v z4:=fun y hy=>by
    cases y with
    | v a=>exact Or.inl hy
    | fp e o=>exact Or.inl hy
    | gd t w y=>exact hy.elim
    | lp k o =>
     simp only [z0u]
     cases hk:lkp ks k with
     | none=>exact Or.inr rfl
     | some j =>
      obtain⟨r,e1,e2⟩:=hy
      exact Or.inl ⟨r,by rw [hσ (ZW hk)];exact e1,e2⟩
    | lb k n =>
     simp only [z0u]
     cases hk:lkp ks k with
     | none=>exact Or.inr rfl
     | some j =>
      obtain⟨r,e1,e2⟩:=hy
      exact Or.inl ⟨r,by rw [hσ (ZW hk)];exact e1,e2⟩
    | lv k i =>
     simp only [z0u]
     cases hk:lkp ks k with
     | none=>exact Or.inr rfl
     | some j =>
      obtain⟨r,n,c,p,c',e1,e2,e3,e4⟩:=hy
      refine Or.inl ⟨r,n,c,p,c',by rw [hσ (ZW hk)];exact e1,e2,e3,fun z l e=>?_⟩
      obtain⟨a,hm,ha⟩:=vj e
      rw [snd hm (ZW hk)] at ha
      exact e4 z l ha
    | ls k =>
     simp only [z0u]
     cases hk:lkp ks k with
     | none=>exact Or.inr rfl
     | some j=>exact Or.inl (by simp only [TV0] at hy ⊢;rw [hσ (ZW hk)];exact hy)
    | lq k i o =>
     simp only [z0u]
     cases hk:lkp ks k with
     | none=>exact Or.inr rfl
     | some j =>
      obtain⟨r,n,c,p,e1,e2,e3⟩:=hy
      refine Or.inl ⟨r,n,c,p,by rw [hσ (ZW hk)];exact e1,e2,fun z l e=>?_⟩
      obtain⟨a,hm,ha⟩:=vj e
      rw [snd hm (ZW hk)] at ha
      exact e3 z l ha
   have junk:∀ x,TVR ρ Φ σ1 (Jp ω ks) τ' (.v z4) x:=fun x=>RV.undef (ρ:=ρ) (Φ:=Φ) x
   cases hy:xE τ t with
   | gd t' w y =>
    rw [hy] at ht
    intro hw
    rcases key y (ht hw) with h3 | h3
    ·exact h3
    ·rw [h3];exact RV.undef (ρ:=ρ) (Φ:=Φ) (τ'.getD t z4)
   | v a=>rw [hy] at ht;exact ht
   | fp e o=>rw [hy] at ht;exact ht
   | lp k o =>
    rw [hy] at ht
    rcases key (.lp k o) ht with h3 | h3
    ·exact kW h3
    ·rw [h3];exact junk _
   | ls k =>
    rw [hy] at ht
    rcases key (.ls k) ht with h3 | h3
    ·exact kW h3
    ·rw [h3];exact junk _
   | lq k i o =>
    rw [hy] at ht
    rcases key (.lq k i o) ht with h3 | h3
    ·exact kW h3
    ·rw [h3];exact junk _
   | lb k n =>
    rw [hy] at ht
    rcases key (.lb k n) ht with h3 | h3
    ·exact kW h3
    ·rw [h3];exact junk _
   | lv k n =>
    rw [hy] at ht
    rcases key (.lv k n) ht with h3 | h3
    ·exact kW h3
    ·rw [h3];exact junk _
  ·rw [e];exact RV.undef (ρ:=ρ) (Φ:=Φ) (τ'.getD t z4)
theorem z4u {z:Nat} (hz:0 < z):∀ (n:Nat) {cs cs':List AV},cs.length=n * z→RL ρ Φ cs cs'→cs.all AV.one=true→RE ρ Φ z (QC z n cs) cs'
 | 0,cs,cs',hl,h,_=>by
  rw [Nat.zero_mul] at hl
  obtain rfl:=List.eq_nil_of_length_eq_zero hl
  rw [h.nil];exact RE.nil'
 | n+1,cs,cs',hl,h,ha=>by
  rw [Nat.add_mul,Nat.one_mul] at hl
  have ht:=h.take z
  have hl1:(cs.take z).length=z:=by rw [List.length_take];omega
  have hl2:=ht.length
  rw [hl1] at hl2
  have ha1:(cs.take z).all AV.one=true:=List.all_eq_true.2 fun v hv=>List.all_eq_true.1 ha v (List.mem_of_mem_take hv)
  have ha2:(cs.drop z).all AV.one=true:=List.all_eq_true.2 fun v hv=>List.all_eq_true.1 ha v (List.mem_of_mem_drop hv)
  have ih:=z4u hz n (cs:=cs.drop z) (cs':=cs'.drop z) (by rw [List.length_drop];omega) (h.drop z) ha2
  have hall:=ht.all ha1
  have key:∃ y:AV,y.cells=cs'.take z∧(mkE (cs.take z)).isTup=false∧RV ρ Φ (mkE (cs.take z)) y:=by
   generalize cs.take z=l at *
   generalize cs'.take z=l' at *
   unfold mkE
   split
   ·rename_i a
    obtain⟨y,m,rfl,q1,q2⟩:=ht.uncons
    obtain rfl:=q2.nil
    have ha1:a.one=true:=by simpa using ha1
    exact⟨y,YP (q1.one ha1),by cases a<;>first | rfl | (simp [AV.one] at ha1),q1⟩
   ·exact⟨.agg l',rfl,rfl,RV.agg ht⟩
  obtain⟨y,k1,k2,k3⟩:=key
  have:=RE.cons (z:=z) (by rw [k1];exact hl2) (by rw [k1];exact hall) k2 k3 ih
  rw [k1,List.take_append_drop] at this
  exact this
theorem zcY (h:Fr ρ Φ A σ τ ω Q τ' H nt) {t z:Nat} (hz:0 < z) {v:AV} {Q':z3} (hf:z44 Q z (xE τ t).val=some (v,Q')):∃ Φ1,Φ.le Φ1∧Fr ρ Φ1 A σ ((t,.v v)::τ) ω Q' τ' H nt:=by
 have ht:=h.tmp t
 have hv:∀ a,(xE τ t).val=a→a≠z4→RV ρ Φ a (τ'.getD t z4):=fun a e hn=>by
  cases hy:xE τ t with
  | v a'=>rw [hy] at e ht;simp only [TV.val] at e;subst e;exact ht
  | _=>rw [hy] at e;exact absurd e.symm hn
 have set:∀ {Φ1:ya} {Q1:z3} {a:AV},Fr ρ Φ1 A σ τ ω Q1 τ' H nt→RV ρ Φ1 a (τ'.getD t z4)→Fr ρ Φ1 A σ ((t,.v a)::τ) ω Q1 τ' H nt:=fun {Φ1 Q1 a} h1 hr=>by
  refine⟨h1.rel,h1.slot,h1.sep,h1.dis,h1.len,fun i=>?_⟩
  rw [vh]
  split
  ·rename_i e;subst e;exact hr
  ·exact h1.tmp i
 unfold z44 at hf
 split at hf
 ·rename_i e
  cases hf
  exact⟨Φ,Φ.refl,set h (hv _ e (by simp [z4]))⟩
 ·rename_i z' l e
  cases hf
  exact⟨Φ,Φ.refl,set h (hv _ e (by simp [z4]))⟩
 ·rename_i q n c e
  have hs:=hv _ e (by simp [z4])
  simp only [RV] at hs
  obtain⟨r',hr,hx,hc⟩:=hs
  split at hf
  ·rename_i k z' cs hgq
   split at hf
   ·rename_i hcc
    simp only [Bool.and_eq_true] at hcc
    obtain⟨⟨d1,d2⟩,d3⟩:=hcc
    obtain rfl:=Nat.eq_of_beq_eq_true d1
    have d2:=Nat.eq_of_beq_eq_true d2
    cases hf
    obtain⟨r0,_,g1,g4,g3,cs',rfl,g5⟩:=h.rel.obj q _ hgq
    rw [hr] at g1
    cases g1
    obtain⟨p2,p3⟩:=h.rel.sep q _ r' hgq hr
    have hlt:=(h.rel.dom q r' hr).2
    have hle:Φ.le (upd Φ r' (some (.cells k z' cs'))):=fun s o e=>by
     by_cases hs:s=r'
     ·subst hs;rw [p2] at e;cases e
     ·rw [yu _ _ hs];exact e
    have sub:∀ {s u},(Q.put q none).get s=some u→s≠q∧Q.get s=some u:=fun {s u} e=>by
     rw [z3.get_put] at e
     split at e
     ·cases e
     ·rename_i hne;exact⟨hne,e⟩
    have h1:Fr ρ (upd Φ r' (some (.cells k z' cs'))) A σ τ ω (Q.put q none) τ' H nt:=by
     refine⟨⟨fun s r e=>by have:=h.rel.dom s r e;simpa using this,fun s u e=>?_,fun s s' u u' r e e'=>h.rel.inj s s' u u' r (sub e).2 (sub e').2,fun s u r e e2=>?_,fun s u e=>?_,fun s e=>?_⟩,fun k s hk=>(h.slot k s hk).mono ρ.refl hle fun _ _=>rfl,fun k s r hk hb=>?_,h.dis,h.len,fun i=>(h.tmp i).mono ρ.refl hle⟩
     ·obtain⟨r,o',h1,h4,h5⟩:=h.rel.obj s u (sub e).2
      exact⟨r,o',h1,h4,h5.mono ρ.refl hle⟩
     ·have:=h.rel.sep s u r (sub e).2 e2
      refine⟨?_,this.2⟩
      rw [yu _ _ fun e3:r=r'=>(sub e).1 (h.rel.inj s q u _ r' (sub e).2 hgq (e3 ▸ e2) hr)]
      exact this.1
     ·by_cases hs:s=r'
      ·subst hs;rw [zD] at e;cases e;exact⟨hlt,g4⟩
      ·rw [yu _ _ hs] at e;exact h.rel.fro s u e
     ·have:=h.rel.res s e
      refine⟨this.1,?_⟩
      rw [yu _ _ fun e3:s=r'=>p3 (e3 ▸ e)];exact this.2
     ·obtain⟨h1,h2,h3,h4⟩:=h.sep k s r hk hb
      refine⟨h1,?_,h3,fun s' u e=>h4 s' u (sub e).2⟩
      rw [yu _ _ fun e3:r=r'=>h4 q _ hgq (e3 ▸ hr)];exact h2
    refine⟨_,hle,set h1 ?_⟩
    rw [hx]
    have hcl:cs'.length=n * z':=by rw [g5.length,d2]
    have hre:=(z4u (ρ:=ρ) (Φ:=Φ) hz n d2 g5 d3).mono ρ.refl hle z' _ _
    have hn:(QC z' n cs).length=n:=by
     have:∀ (m:Nat) (l:List AV),(QC z' m l).length=m:=by
      intro m
      induction m with
      | zero=>intro l;rfl
      | succ m ih=>intro l;simp [QC,ih]
     exact this n cs
    refine RV.fz (cs:=cs') ⟨hn.symm,?_,fun q e=>by rw [hn];exact hc q e⟩ hre
    rw [zD]
    simp only [Zw,hn,Nat.zero_add,hcl,Nat.le_refl,if_true,List.drop_zero]
    rw [← hcl,List.take_length]
   ·cases hf
  ·cases hf
 ·cases hf
theorem z91 {β:Type} (h:Fr ρ Φ A σ τ ω Q τ' H nt) {t z:Nat} (hz:0 < z) {k:PT→PW→Option β} {b:β} (hb:z47 t z τ ω k=some b):∃ τ1 ω1 σ1,k τ1 ω1=some b∧Fr ρ Φ A σ1 τ1 ω1 Q τ' H nt:=by
 unfold z47 at hb
 split at hb
 ·rename_i ht
  have hx:=h.tmp t
  rw [ht] at hx
  simp only [TVR,TV0,RV] at hx
  have h1:=h.slotNew (d:=t) (s:=.own z []) (v:=.nils) ⟨hz,Or.inl ⟨rfl,rfl⟩⟩ (fun r e=>by cases e)
  refine⟨_,_,_,hb,h1.rel,h1.slot,h1.sep,h1.dis,h1.len,fun i=>?_⟩
  rw [vh]
  split
  ·rename_i e;subst e;rw [hx];exact(zD _ _ _).symm
  ·exact h1.tmp i
 ·rename_i j ht
  split at hb
  ·exact⟨τ,ω,σ,hb,h⟩
  ·cases hb
 ·cases hb
theorem z6l {β:Type}:∀ (l:List (Nat × Nat)) {σ:Nat→AV} {τ:PT} {ω:PW} {k:PT→PW→Option β} {b:β},(l.all fun p=>Nat.blt 0 p.2)=true→Fr ρ Φ A σ τ ω Q τ' H nt→Wk l τ ω k=some b→∃ τ1 ω1 σ1,k τ1 ω1=some b∧Fr ρ Φ A σ1 τ1 ω1 Q τ' H nt
 | [],σ,τ,ω,k,b,_,h,hb=>⟨τ,ω,σ,hb,h⟩
 | (t,z)::l,σ,τ,ω,k,b,hz,h,hb=>by
  simp only [List.all_cons,Bool.and_eq_true] at hz
  simp only [Wk] at hb
  obtain⟨τ1,ω1,σ1,h1,h2⟩:=z91 h (Xv hz.1) hb
  exact z6l l hz.2 h2 h1
theorem zbr {own:List (Nat × Nat)} {fr ts:List Nat} {ks:List (Nat × Nat)} {β:Type} {k:PK β} {b:β} (hz:(own.all fun p=>Nat.blt 0 p.2)=true) (h:Fr ρ Φ A σ τ ω Q τ' H nt) (hb:z0v own fr ts ks τ ω Q k=some b) :
  ∃ τ1 ω1 Φ1 σ1,k .normal τ1 ω1 Q=some b∧Φ.le Φ1∧Fr ρ Φ1 A σ1 τ1 ω1 Q τ' H nt:=by
 unfold z0v at hb
 obtain⟨τ1,ω1,σ1,h1,h2⟩:=z6l own hz h hb
 obtain⟨τ2,ω2,Φ2,g1,g2,g3⟩:=VS fr h2 h1
 split at g1
 ·rename_i e
  simp only [Bool.and_eq_true] at e
  obtain⟨σ3,h3⟩:=g3.keep (ts:=ts) (YS e.1) (YS e.2)
  exact⟨_,_,Φ2,σ3,g1,g2,h3⟩
 ·cases g1
theorem At.fr (h:Fr ρ Φ A σ τ ω Q τ' H nt):At E ρ Φ A H nt τ ω Q τ' H:=⟨ρ,Φ,σ,h,Ext.refl⟩
theorem qF {call:z7} {lp:ze} (hcall:jy E call) (hlp:z35 E lp):∀ {β:Type} (c:zf) {ρ:yP} {Φ:ya} {A:Nat→Prop} {σ:Nat→AV} {τ:PT} {ω:PW} {Q H:z3} {τ':Tau} {k:PK β} {b:β},c.ok nt=true→Fr ρ Φ A σ τ ω Q τ' H nt→z5 call lp c τ ω Q k=some b →
  ∃ ex τ1 ω1 Q1 τ1' H1,k ex τ1 ω1 Q1=some b∧yI E c.un τ' H=some (ex,τ1',H1)∧At E ρ Φ A H nt τ1 ω1 Q1 τ1' H1
 | _,.skip,ρ,Φ,A,σ,τ,ω,Q,H,τ',k,b,_,h,hb=>⟨.normal,τ,ω,Q,τ',H,hb,K2,At.fr h⟩
 | _,.ret,ρ,Φ,A,σ,τ,ω,Q,H,τ',k,b,_,h,hb=>⟨.ret,τ,ω,Q,τ',H,hb,VY,At.fr h⟩
 | _,.exit i,ρ,Φ,A,σ,τ,ω,Q,H,τ',k,b,_,h,hb=>⟨.exit i,τ,ω,Q,τ',H,hb,K3,At.fr h⟩
 | _,.reg ops,ρ,Φ,A,σ,τ,ω,Q,H,τ',k,b,hok,h,hb=>by
  obtain⟨τ1,ω1,Q1,τ1',H1,e1,e2,e3⟩:=z8Z hcall ops hok h hb
  exact⟨.normal,τ1,ω1,Q1,τ1',H1,e1,by simp only [zf.un,VZ,e2];rfl,e3⟩
 | _,.dreg na ops,ρ,Φ,A,σ,τ,ω,Q,H,τ',k,b,hok,h,hb=>by
  have hA:∀ r,A r→r < H.size:=fun r a=>(h.rel.res r a).1
  obtain⟨τ1,ω1,Q1,τ1',H1,e1,e2,e3⟩:=V4 hcall hA ops 0 hok (h.reserve na) (by rw [vW];omega) (fun i _ hi=>by rw [J6,if_pos (by omega)]) (arecs:=[]) ⟨rfl,fun i p rec e=>by simp at e⟩ hb
  refine⟨.normal,τ1,ω1,Q1,τ1',H1,e1,by simp only [zf.un,K4,e2];rfl,?_⟩
  obtain⟨ρ1,Φ1,σ1,h1,h2⟩:=e3
  refine⟨ρ1,Φ1,σ1,h1,h2.rho,h2.phi,fun r hr=>?_,by have:=h2.size;rw [vW] at this;omega⟩
  rw [h2.res r hr,J6,if_neg (by have:=hA r hr;omega)]
 | _,.seq a c,ρ,Φ,A,σ,τ,ω,Q,H,τ',k,b,hok,h,hb=>by
  simp only [zf.ok,Bool.and_eq_true] at hok
  have key:∀ {ex τ1 ω1 Q1 τ1' H1},goX (fun τ ω Q=>z5 call lp c τ ω Q k) k ex τ1 ω1 Q1=some b→yI E a.un τ' H=some (ex,τ1',H1)→At E ρ Φ A H nt τ1 ω1 Q1 τ1' H1 →
    ∃ ex τ1 ω1 Q1 τ1' H1,k ex τ1 ω1 Q1=some b∧yI E (a.un.seq c.un) τ' H=some (ex,τ1',H1)∧At E ρ Φ A H nt τ1 ω1 Q1 τ1' H1:=by
   intro ex τ1 ω1 Q1 τ1' H1 g1 g2 g3
   rw [W0,g2]
   cases ex with
   | normal =>
    obtain⟨ρ1,Φ1,σ1,h1,h2⟩:=g3
    obtain⟨ex,τ2,ω2,Q2,τ2',H2,f1,f2,f3⟩:=qF hcall hlp c hok.2 h1 g1
    exact⟨ex,τ2,ω2,Q2,τ2',H2,f1,f2,At.trans h2 f3⟩
   | exit i=>exact⟨.exit i,τ1,ω1,Q1,τ1',H1,g1,rfl,g3⟩
   | ret=>exact⟨.ret,τ1,ω1,Q1,τ1',H1,g1,rfl,g3⟩
  simp only [z5] at hb
  split at hb
  ·obtain⟨ex,τ1,ω1,Q1,τ1',H1,g1,g2,g3⟩:=qF hcall hlp a hok.1 h hb
   exact key g1 g2 g3
  ·obtain⟨ex,τ1,ω1,Q1,τ1',H1,g1,g2,g3⟩:=qF hcall hlp a hok.1 h hb
   exact key g1 g2 g3
  ·cases he:z5 call lp a τ ω Q jk with
   | none=>rw [he] at hb;cases hb
   | some w =>
    rw [he] at hb
    obtain⟨ex,τ1,ω1,Q1,τ1',H1,g1,g2,g3⟩:=qF hcall hlp a hok.1 h he
    cases g1
    exact key hb g2 g3
 | _,.cond x a c,ρ,Φ,A,σ,τ,ω,Q,H,τ',k,b,hok,h,hb=>by
  simp only [zf.ok,Bool.and_eq_true] at hok
  simp only [z5] at hb
  have hx:=h.val (g:=none) rfl x
  unfold zG at hb
  split at hb
  ·rename_i e
   rw [e] at hx
   obtain⟨ex,τ1,ω1,Q1,τ1',H1,g1,g2,g3⟩:=qF hcall hlp a hok.1 h hb
   exact⟨ex,τ1,ω1,Q1,τ1',H1,g1,by simp only [zf.un,XB,hx.bool_inv];exact g2,g3⟩
  ·rename_i e
   rw [e] at hx
   obtain⟨ex,τ1,ω1,Q1,τ1',H1,g1,g2,g3⟩:=qF hcall hlp c hok.2 h hb
   exact⟨ex,τ1,ω1,Q1,τ1',H1,g1,by simp only [zf.un,XB,hx.bool_inv];exact g2,g3⟩
  ·cases hb
 | _,.block i c,ρ,Φ,A,σ,τ,ω,Q,H,τ',k,b,hok,h,hb=>by
  simp only [zf.ok] at hok
  have key:∀ {ex τ1 ω1 Q1 τ1' H1},kB i k ex τ1 ω1 Q1=some b→yI E c.un τ' H=some (ex,τ1',H1)→At E ρ Φ A H nt τ1 ω1 Q1 τ1' H1 →
    ∃ ex τ1 ω1 Q1 τ1' H1,k ex τ1 ω1 Q1=some b∧yI E (.block i c.un) τ' H=some (ex,τ1',H1)∧At E ρ Φ A H nt τ1 ω1 Q1 τ1' H1:=by
   intro ex τ1 ω1 Q1 τ1' H1 g1 g2 g3
   rw [QT,g2]
   cases ex with
   | normal=>exact⟨.normal,τ1,ω1,Q1,τ1',H1,g1,rfl,g3⟩
   | exit j =>
    refine⟨_,τ1,ω1,Q1,τ1',H1,g1,?_,g3⟩
    simp only [bnE,z4K,z39,Qd]
    by_cases e:j=i<;>simp [e]
   | ret=>exact⟨.ret,τ1,ω1,Q1,τ1',H1,g1,rfl,g3⟩
  simp only [z5] at hb
  split at hb
  ·obtain⟨ex,τ1,ω1,Q1,τ1',H1,g1,g2,g3⟩:=qF hcall hlp c hok h hb
   exact key g1 g2 g3
  ·obtain⟨ex,τ1,ω1,Q1,τ1',H1,g1,g2,g3⟩:=qF hcall hlp c hok h hb
   exact key g1 g2 g3
  ·cases he:z5 call lp c τ ω Q jk with
   | none=>rw [he] at hb;cases hb
   | some w =>
    rw [he] at hb
    obtain⟨ex,τ1,ω1,Q1,τ1',H1,g1,g2,g3⟩:=qF hcall hlp c hok h he
    cases g1
    exact key hb g2 g3
 | _,.loop c,ρ,Φ,A,σ,τ,ω,Q,H,τ',k,b,hok,h,hb=>by
  simp only [zf.ok] at hok
  simp only [z5] at hb
  cases he:lp c τ ω Q with
  | none=>rw [he] at hb;cases hb
  | some w =>
   obtain⟨ex,τ1,ω1,Q1⟩:=w
   rw [he] at hb
   obtain⟨τ1',H1,g2,g3⟩:=hlp nt c hok τ ω Q ex τ1 ω1 Q1 he ρ Φ A σ τ' H h
   exact⟨ex,τ1,ω1,Q1,τ1',H1,hb,g2,g3⟩
 | _,.keep ts ks c,ρ,Φ,A,σ,τ,ω,Q,H,τ',k,b,hok,h,hb=>by
  simp only [zf.ok] at hok
  simp only [z5] at hb
  split at hb
  ·rename_i e
   simp only [Bool.and_eq_true] at e
   obtain⟨σ1,h1⟩:=h.keep (ts:=ts) (YS e.1) (YS e.2)
   exact qF hcall hlp c hok h1 hb
  ·cases hb
 | _,.frz ts c,ρ,Φ,A,σ,τ,ω,Q,H,τ',k,b,hok,h,hb=>by
  simp only [zf.ok] at hok
  simp only [z5] at hb
  obtain⟨τ1,ω1,Φ1,g1,g2,g3⟩:=VS ts h hb
  obtain⟨ex,τ2,ω2,Q2,τ2',H2,f1,f2,f3⟩:=qF hcall hlp c hok g3 g1
  exact⟨ex,τ2,ω2,Q2,τ2',H2,f1,f2,At.trans ⟨ρ.refl,g2,fun _ _=>rfl,Nat.le_refl _⟩ f3⟩
 | _,.hf t z c,ρ,Φ,A,σ,τ,ω,Q,H,τ',k,b,hok,h,hb=>by
  simp only [zf.ok,Bool.and_eq_true] at hok
  simp only [z5] at hb
  cases he:z44 Q z (xE τ t).val with
  | none=>rw [he] at hb;cases hb
  | some w =>
   obtain⟨v,Q'⟩:=w
   rw [he] at hb
   simp only [bnS] at hb
   obtain⟨Φ1,g2,g3⟩:=zcY h (Xv hok.1) he
   obtain⟨ex,τ2,ω2,Q2,τ2',H2,f1,f2,f3⟩:=qF hcall hlp c hok.2 g3 hb
   exact⟨ex,τ2,ω2,Q2,τ2',H2,f1,f2,At.trans ⟨ρ.refl,g2,fun _ _=>rfl,Nat.le_refl _⟩ f3⟩
 | _,.fin c own fr ts ks,ρ,Φ,A,σ,τ,ω,Q,H,τ',k,b,hok,h,hb=>by
  simp only [zf.ok,Bool.and_eq_true] at hok
  simp only [z5] at hb
  obtain⟨ex,τ1,ω1,Q1,τ1',H1,g1,g2,g3⟩:=qF hcall hlp c hok.2 h hb
  cases ex with
  | normal =>
   obtain⟨ρ1,Φ1,σ1,h1,h2⟩:=g3
   obtain⟨τ2,ω2,Φ2,σ2,f1,f2,f3⟩:=zbr hok.1 h1 g1
   exact⟨.normal,τ2,ω2,Q1,τ1',H1,f1,g2,ρ1,Φ2,σ2,f3,h2.rho,ya.trans h2.phi f2,h2.res,h2.size⟩
  | exit i=>exact⟨.exit i,τ1,ω1,Q1,τ1',H1,g1,g2,g3⟩
  | ret=>exact⟨.ret,τ1,ω1,Q1,τ1',H1,g1,g2,g3⟩
 | _,.own t z c,ρ,Φ,A,σ,τ,ω,Q,H,τ',k,b,hok,h,hb=>by
  simp only [zf.ok,Bool.and_eq_true] at hok
  simp only [z5] at hb
  obtain⟨τ1,ω1,σ1,g1,g2⟩:=z91 h (Xv hok.1) hb
  exact qF hcall hlp c hok.2 g2 g1
end
end Go.Ab
namespace Go.Ab
section
variable {E:Env} {ρ ρ1:yP} {Φ Φ1:ya} {A A1:Nat→Prop} {σ σ1:Nat→AV} {τ:PT} {ω ω1:PW} {Q Q1 H H1:z3} {τ':Tau} {nt:Nat} {r:Nat} {ob:zF}
theorem Fr.frozeAll (h:Fr ρ Φ A σ τ ω Q τ' H nt):Rel ρ (qE Φ σ ω H) A Q H:=by
 have hle:=h.lent.2
 refine⟨h.rel.dom,fun q o hq=>?_,h.rel.inj,fun q o r hq e=>?_,fun r o e=>?_,fun r a=>?_⟩
 ·obtain⟨r',o',h1,h4,h5⟩:=h.rel.obj q o hq
  exact⟨r',o',h1,h4,h5.mono ρ.refl hle⟩
 ·refine⟨?_,(h.rel.sep q o r hq e).2⟩
  rw [qj fun⟨k,z,l,hk,hb⟩=>(h.sep k _ r hk hb).2.2.2 q o hq e]
  exact(h.rel.sep q o r hq e).1
 ·by_cases hr:∃ k z l,lkp ω k=some (.own z l)∧blk (σ k)=some r
  ·obtain⟨k,z,l,hk,hb⟩:=hr
   rw [ZU hk hb] at e
   exact⟨(h.sep k _ r hk hb).1,e⟩
  ·rw [qj hr] at e
   exact h.rel.fro r o e
 ·refine⟨(h.rel.res r a).1,?_⟩
  rw [qj fun⟨k,z,l,hk,hb⟩=>(h.sep k _ r hk hb).2.2.1 a]
  exact(h.rel.res r a).2
theorem z0M {τ':Tau} {t:Nat} (h:t < τ'.length):τ'[t]? = some (τ'.getD t z4):=by
 rw [List.getD_eq_getElem?_getD,List.getElem?_eq_getElem h];rfl
theorem z6m (h:Fr ρ Φ A σ τ ω Q τ' H nt) {a:vl} {v:AV} (hok:z6k nt a=true) (hv:z1l τ ω Q a=some v) :
  ∃ x,qV τ' H a=some x∧(Qc τ a=false→RV ρ Φ v x)∧(Qc τ a=true→∃ j z l,v=.ow z l∧lkp ω j=some (.own z l)∧x=σ j):=by
 cases a with
 | tmp t =>
  have ht:t < τ'.length:=by rw [h.len];exact Nat.le_of_ble_eq_true hok
  refine⟨τ'.getD t z4,z0M ht,?_,?_⟩
  ·intro hls
   have hx:=h.tmp t
   simp only [z1l] at hv
   simp only [Qc] at hls
   split at hv
   ·rename_i a e
    rw [e] at hx
    cases hv;exact hx
   ·rename_i j e;rw [e] at hls;cases hls
   ·cases hv
  ·intro hls
   have hx:=h.tmp t
   simp only [z1l] at hv
   simp only [Qc] at hls
   split at hv
   ·rename_i a e;rw [e] at hls;cases hls
   ·rename_i j e
    rw [e] at hx
    split at hv
    ·rename_i z l hj
     cases hv
     exact⟨j,z,l,rfl,hj,hx⟩
    ·cases hv
   ·cases hv
 | cell t n =>
  have ht:t < τ'.length:=by rw [h.len];exact Nat.le_of_ble_eq_true hok
  have hx:=h.tmp t
  have h0:∀ {m:Nat} {cs:List AV},QF ω Q m (xE τ t)=some cs→TV0 ρ Φ σ ω (xE τ t) (τ'.getD t z4):=fun {m cs} e=>by
   cases hy:xE τ t with
   | gd t' w y=>rw [hy] at e;cases e
   | v a=>rw [hy] at hx;exact hx
   | lp k o=>rw [hy] at hx;exact hx
   | ls k=>rw [hy] at hx;exact hx
   | lq k i o=>rw [hy] at hx;exact hx
   | lb k n=>rw [hy] at hx;exact hx
   | lv k n=>rw [hy] at hx;exact hx
   | fp e o=>rw [hy] at hx;exact hx
  cases n with
  | none =>
   simp only [z1l] at hv
   obtain⟨r,p,b,e1,e2,e3,e4⟩:=z8P h (h0 (z5A hv)) hv
   refine⟨b,?_,fun _=>e4,fun e=>by cases e⟩
   simp only [qV,z0M ht,e1]
   exact e3
  | some n =>
   simp only [z1l] at hv
   obtain⟨cs,hcs,rfl⟩:=Option.map_eq_some_iff.1 hv
   obtain⟨r,p,ys,e1,e2,e3⟩:=z30 h (h0 hcs) hcs
   refine⟨.agg ys,?_,fun _=>RV.agg e3,fun e=>by cases e⟩
   simp only [qV,z0M ht,e1,e2,Option.map_some]
theorem z6n (h:Fr ρ Φ A σ τ ω Q τ' H nt) {a:vl} {rc:RC} {v w x:AV} (hw:rcv (Qc τ a) rc v=some w)
  (h1:Qc τ a=false→RV ρ Φ v x) (h2:Qc τ a=true→∃ j z l,v=.ow z l∧lkp ω j=some (.own z l)∧x=σ j):RV ρ (qE Φ σ ω H) (frz w) x:=by
 have hle:=h.lent.2
 have own:∀ {z l},Qc τ a=true→v=.ow z l→RV ρ (qE Φ σ ω H) (.fz z l) x:=fun {z l} hl e=>by
  obtain⟨j,z',l',e1,e2,e3⟩:=h2 hl
  rw [e] at e1;cases e1
  have:=z6b h (y:=.ls j) (x:=σ j) rfl
  simp only [z1E,e2] at this
  rw [e3];exact this
 have nil:∀ z,v=.nils→RV ρ (qE Φ σ ω H) (.fz z []) x:=fun z e=>by
  cases hl:Qc τ a with
  | true=>obtain⟨j,z',l',e1,_⟩:=h2 hl;rw [e] at e1;cases e1
  | false =>
   have:=h1 hl
   rw [e] at this
   simp only [RV] at this
   rw [this]
   exact RV.fz (cs:=[]) ⟨rfl,rfl⟩ RE.nil'
 unfold rcv at hw
 split at hw
 ·split at hw
  ·rename_i hl
   cases hw;exact own hl rfl
  ·cases hw
 ·rename_i hn
  cases hw
  cases hl:Qc τ a with
  | true=>obtain⟨j,z',l',e1,_⟩:=h2 hl;exact absurd e1 (hn _ _)
  | false =>
   have:=(h1 hl).mono ρ.refl hle
   cases v with
   | ow z l=>exact absurd rfl (hn z l)
   | _=>exact this
 ·cases hw;exact nil _ rfl
 ·split at hw
  ·rename_i hl
   split at hw
   ·rename_i e;subst e;cases hw;exact own hl rfl
   ·cases hw
  ·cases hw
 ·cases hw
 ·cases hw;exact nil _ rfl
 ·split at hw
  ·rename_i hl
   split at hw
   ·rename_i e;subst e;cases hw;exact own hl rfl
   ·cases hw
  ·cases hw
 ·split at hw
  ·rename_i e
   subst e
   cases hw
   cases hl:Qc τ a with
   | true=>obtain⟨j,z',l',e1,_⟩:=h2 hl;cases e1
   | false=>exact(h1 hl).mono ρ.refl hle
  ·cases hw
 ·cases hw
theorem z6o (h:Fr ρ Φ A σ τ ω Q τ' H nt) {β:Type}:∀ (l:List vl) (rcs:List RC) {k:List AV→Option β} {b:β},l.length=rcs.length→l.all (z6k nt)=true→z48 τ ω Q (l.zip rcs) k=some b →
  ∃ ws xs,k ws=some b∧zO (qV τ' H) l=some xs∧RL ρ (qE Φ σ ω H) ws xs
 | [],rcs,k,b,hl,_,hb=>by
  cases rcs with
  | nil=>exact⟨[],[],hb,rfl,RL.nil'⟩
  | cons _ _=>simp at hl
 | a::l,[],k,b,hl,_,hb=>by simp at hl
 | a::l,rc::rcs,k,b,hl,hok,hb=>by
  simp only [List.all_cons,Bool.and_eq_true] at hok
  simp only [List.zip_cons_cons,z48] at hb
  cases hv:z1l τ ω Q a with
  | none=>rw [hv] at hb;cases hb
  | some v =>
   rw [hv] at hb
   simp only [bnP] at hb
   cases hw:rcv (Qc τ a) rc v with
   | none=>rw [hw] at hb;cases hb
   | some w =>
    rw [hw] at hb
    obtain⟨x,e1,e2,e3⟩:=z6m h hok.1 hv
    obtain⟨ws,xs,f1,f2,f3⟩:=z6o h l rcs (by simpa using hl) hok.2 hb
    exact⟨_,x::xs,f1,by simp only [zO,e1,f2],RL.cons (z6n h hw e2 e3) f3⟩
theorem zbs (h:Fr ρ Φ A σ τ ω Q τ' H nt) {res:List vl} {rc:List RC} {v:AV} {Q':z3} (hok:res.all (z6k nt)=true) (hrc:rc.all zcX=true) (hr:z70 res rc τ ω Q=some (v,Q')) :
  Q'=Q∧∃ x Φ1,y4 τ' H res=some x∧Φ.le Φ1∧Rel ρ Φ1 A Q H∧Jc ρ Φ1 A Q H v x:=by
 have hle:=h.lent.2
 unfold z70 at hr
 split at hr
 ·rename_i a c
  simp only [List.all_cons,List.all_nil,Bool.and_true] at hok hrc
  cases hv:z1l τ ω Q a with
  | none=>rw [hv] at hr;cases hr
  | some u =>
   rw [hv] at hr
   simp only [bnP] at hr
   cases hw:rcv (Qc τ a) c u with
   | none=>rw [hw] at hr;cases hr
   | some w =>
    rw [hw] at hr
    cases hr
    obtain⟨x,e1,e2,e3⟩:=z6m h hok hv
    refine⟨rfl,x,?_⟩
    have hres:y4 τ' H [a]=some x:=by simp [y4,zO,e1]
    have fin:=z6n h hw e2 e3
    by_cases how:∃ z l,v=.ow z l
    ·obtain⟨z,l,rfl⟩:=how
     refine⟨Φ,hres,Φ.refl,h.rel,?_⟩
     have ownCase:Qc τ a=true→u=.ow z l→Jc ρ Φ A Q H (.ow z l) x:=fun hl e=>by
      obtain⟨j,z',l',f1,f2,f3⟩:=e3 hl
      rw [e] at f1;cases f1
      rw [f3]
      exact⟨h.slot j _ f2,fun r hb=>h.sep j _ r f2 hb⟩
     unfold rcv at hw
     split at hw
     ·split at hw
      ·rename_i hl;cases hw;exact ownCase hl rfl
      ·cases hw
     ·rename_i hn;cases hw;exact absurd rfl (hn z l)
     ·rename_i zz
      cases hw
      have hz:0 < z:=Xv hrc
      cases hl:Qc τ a with
      | true=>obtain⟨j,z',l',f1,_⟩:=e3 hl;cases f1
      | false =>
       have:=e2 hl
       simp only [RV] at this
       rw [this]
       exact⟨⟨hz,Or.inl ⟨rfl,rfl⟩⟩,fun r hb=>by cases hb⟩
     ·split at hw
      ·rename_i hl
       split at hw
       ·rename_i e;subst e;cases hw;exact ownCase hl rfl
       ·cases hw
      ·cases hw
     ·cases hw
     ·cases hw
     ·split at hw
      ·split at hw
       ·cases hw
       ·cases hw
      ·cases hw
     ·split at hw
      ·cases hw
      ·cases hw
     ·cases hw
    ·refine⟨_,hres,hle,h.frozeAll,?_⟩
     cases v with
     | ow z l=>exact absurd ⟨z,l,rfl⟩ how
     | _=>exact fin
 ·split at hr
  ·rename_i hnot _ hlen
   obtain⟨ws,xs,f1,f2,f3⟩:=z6o h res rc (Nat.eq_of_beq_eq_true hlen) hok hr
   cases f1
   refine⟨rfl,?_⟩
   have hlx:=f3.length
   cases ws with
   | nil =>
    obtain rfl:=f3.nil
    exact⟨.tup [],_,by simp [y4,f2],hle,h.frozeAll,RV.undef (ρ:=ρ) (Φ:=qE Φ σ ω H) (.tup [])⟩
   | cons w ws =>
    obtain⟨x,m,rfl,g1,g2⟩:=f3.uncons
    cases ws with
    | nil =>
     exfalso
     obtain rfl:=g2.nil
     have hl1:res.length=1:=by
      have:∀ (l:List vl) (xs:List AV),zO (qV τ' H) l=some xs→xs.length=l.length:=by
       intro l
       induction l with
       | nil=>intro xs e;simp [zO] at e;subst e;rfl
       | cons a l ih =>
        intro xs e
        simp only [zO] at e
        split at e
        ·cases e
        ·split at e
         ·cases e
         ·rename_i ys hys;cases e;simp [ih ys hys]
      have:=this res _ f2
      simpa using this.symm
     have hl2:=Nat.eq_of_beq_eq_true hlen
     rw [hl1] at hl2
     obtain⟨a,rfl⟩:=List.length_eq_one_iff.1 hl1
     obtain⟨c,rfl⟩:=List.length_eq_one_iff.1 hl2.symm
     exact hnot a c rfl rfl
    | cons w2 ws =>
     obtain⟨x2,m2,rfl,g3,g4⟩:=g2.uncons
     refine⟨.tup (x::x2::m2),_,by simp [y4,f2],hle,h.frozeAll,?_⟩
     simp only [Jc,RV]
     exact⟨_,rfl,f3⟩
  ·cases hr
def z4v (f:Nat):Nat:=if f < jK then f else f - jK
theorem z7c (hr:Rel ρ Φ A Q H) {args args':List AV} (ha:RL ρ Φ args args') (hl:args.length≤nt):∀ {β:Type} {k:PT→PW→Option β} {b:β},Zv [] 0 args k=some b →
  ∃ τ,k τ []=some b∧Fr ρ Φ A (fun _=>z4) τ [] Q (args'++List.replicate (nt - args'.length) z4) H nt:=by
 have init:∀ (l:List AV) (i:Nat) {β:Type} {k:PT→PW→Option β} {b:β},Zv [] i l k=some b→∃ τ,k τ []=some b∧∀ t,xE τ t=if i≤t then (match l[t - i]? with | some a=>.v a | none=>.v z4) else .v z4:=by
  intro l
  induction l with
  | nil=>intro i β k b h;exact⟨[],h,fun t=>by simp [xE,lkp]⟩
  | cons a l ih =>
   intro i β k b h
   simp only [Zv,lkp] at h
   obtain⟨τ,h1,h2⟩:=ih (i+1) h
   refine⟨_,h1,fun t=>?_⟩
   rw [vh]
   by_cases e:t=i
   ·subst e;simp
   ·rw [if_neg e,h2]
    by_cases c:i+1≤t
    ·rw [if_pos c,if_pos (by omega),show t - i=(t - (i+1))+1 by omega];rfl
    ·rw [if_neg c,if_neg (by omega)]
 intro β k b hb
 obtain⟨τ,h1,h2⟩:=init args 0 hb
 refine⟨τ,h1,hr,fun k s e=>(by cases e),fun k s r e=>(by cases e),fun k k' s s' r _ e=>(by cases e),by simp [ha.length];omega,fun t=>?_⟩
 rw [h2]
 simp only [Nat.zero_le,if_true,Nat.sub_zero]
 cases e:args[t]? with
 | none=>exact RV.undef (ρ:=ρ) (Φ:=Φ) ((args'++List.replicate (nt - args'.length) z4).getD t z4)
 | some a =>
  obtain⟨x,hx,hv⟩:=ha.get e
  have:(args'++List.replicate (nt - args'.length) z4).getD t z4=x:=by
   rw [List.getD_eq_getElem?_getD,List.getElem?_append_left (List.getElem?_eq_some_iff.1 hx).1,hx];rfl
  rw [this];exact hv
theorem z5C (hr:Rel ρ Φ A Q H) {z:Nat} {l:List AV} {x:AV} {args args':List AV} (ho:Xu ρ Φ H z l x) (hf:z4p ρ Φ A Q H x) (ha:RL ρ Φ args args') (hl:args.length+1≤nt) {z':Nat}:∀ {β:Type} {k:PT→PW→Option β} {b:β},Zv [(0,z')] 0 (.ow z l::args) k=some b →
  ∃ τ,k τ [(0,.own z l)]=some b∧Fr ρ Φ A (fun _=>x) τ [(0,.own z l)] Q (x::args'++List.replicate (nt - (x::args').length) z4) H nt:=by
 have init:∀ (l:List AV) (i:Nat),0 < i→∀ {β:Type} {k:PT→PW→Option β} {b:β},Zv [(0,z')] i l k=some b→∃ τ,k τ []=some b∧∀ t,xE τ t=if i≤t then (match l[t - i]? with | some a=>.v a | none=>.v z4) else .v z4:=by
  intro l
  induction l with
  | nil=>intro i _ β k b h;exact⟨[],h,fun t=>by simp [xE,lkp]⟩
  | cons a l ih =>
   intro i hi β k b h
   have hn:lkp [(0,z')] i=none:=by rw [zC,if_neg (by omega)];rfl
   simp only [Zv,hn] at h
   obtain⟨τ,h1,h2⟩:=ih (i+1) (by omega) h
   refine⟨_,h1,fun t=>?_⟩
   rw [vh]
   by_cases e:t=i
   ·subst e;simp
   ·rw [if_neg e,h2]
    by_cases c:i+1≤t
    ·rw [if_pos c,if_pos (by omega),show t - i=(t - (i+1))+1 by omega];rfl
    ·rw [if_neg c,if_neg (by omega)]
 intro β k b hb
 have h0:lkp [(0,z')] 0=some z':=by rw [zC,if_pos rfl]
 simp only [Zv,h0] at hb
 cases hz:owZ z' (.ow z l) with
 | none=>rw [hz] at hb;cases hb
 | some m =>
  rw [hz] at hb
  have:=V2 hz
  cases this
  simp only [bnL] at hb
  obtain⟨τ,h1,h2⟩:=init args 1 (by omega) hb
  refine⟨_,h1,hr,fun k s e=>?_,fun k s r e hb=>?_,fun k k' s s' r hne e e'=>?_,by simp [ha.length];omega,fun t=>?_⟩
  ·rw [zC] at e
   split at e
   ·cases e;exact ho
   ·cases e
  ·rw [zC] at e
   split at e
   ·cases e;exact hf r hb
   ·cases e
  ·rw [zC] at e e'
   split at e
   ·split at e'
    ·rename_i a b;exact absurd (a.symm.trans b) hne
    ·cases e'
   ·cases e
  ·rw [vh]
   by_cases e:t=0
   ·subst e;rw [if_pos rfl];rfl
   ·rw [if_neg e,h2]
    have hp:1≤t:=by omega
    rw [if_pos hp]
    cases e2:args[t - 1]? with
    | none=>exact RV.undef (ρ:=ρ) (Φ:=Φ) ((x::args'++List.replicate (nt - (x::args').length) z4).getD t z4)
    | some a =>
     obtain⟨y,hy,hv⟩:=ha.get e2
     have hy2:(x::args')[t]? = some y:=by
      obtain⟨u,rfl⟩:∃ u,t=u+1:=⟨t - 1,by omega⟩
      simpa using hy
     have:(x::args'++List.replicate (nt - (x::args').length) z4).getD t z4=y:=by
      rw [List.getD_eq_getElem?_getD,List.getElem?_append_left (List.getElem?_eq_some_iff.1 hy2).1,hy2];rfl
     rw [this];exact hv
structure Z5 (E:Env) (f:Nat) (g:List AV→Option AV):Prop where
 low:f < jK→∀ args v,g args=some v→∀ ρ Φ A Q H args',Rel ρ Φ A Q H→RL ρ Φ args args'→wj E ρ Φ A H f args' v Q
 take:∀ f0,f=f0+jK→∀ z l args v,g (.ow z l::args)=some v→∀ ρ Φ A Q H x args',Rel ρ Φ A Q H→Xu ρ Φ H z l x→z4p ρ Φ A Q H x→RL ρ Φ args args'→wj E ρ Φ A H f0 (x::args') v Q
structure VV (E:Env) (PE:z0w):Prop where
 fns:∀ f fn,PE.fns f=some fn→fn.ok=true∧E.spec (z4v f)=none∧E.fns (z4v f)=some fn.un∧(f < jK→fn.own=[])∧(jK≤f→∃ z,fn.own=[(0,z)])
 spec:∀ f g,PE.spec f=some g→Z5 E f g
theorem z4w {fn:PFn} {f0:Nat} (hs:E.spec f0=none) (hf:E.fns f0=some fn.un) (hok:fn.ok=true) {args':List AV} {call:z7} {lp:ze} (hcall:jy E call) (hlp:z35 E lp) {v:AV} {Q':z3}
  (hfr:Fr ρ Φ A σ τ ω Q (args'++List.replicate (fn.nt - args'.length) z4) H fn.nt) (hb:z5 call lp fn.code τ ω Q (zu fn.res fn.rc)=some (v,Q')):wj E ρ Φ A H f0 args' v Q':=by
 simp only [PFn.ok,Bool.and_eq_true] at hok
 obtain⟨⟨⟨o1,o2⟩,o3⟩,o4⟩:=hok
 obtain⟨ex,τ1,ω1,Q1,τ1',H1,e1,e2,ρ1,Φ1,σ1,e3,e4⟩:=qF hcall hlp fn.code o1 hfr hb
 have hc:zL E f0 args' H=bnE (yI E fn.code.un (args'++List.replicate (fn.nt - args'.length) z4) H) (z4M fn.res):=by
  rw [z0X hs hf,jl];rfl
 rw [e2] at hc
 have fin:z70 fn.res fn.rc τ1 ω1 Q1=some (v,Q')→zL E f0 args' H=(y4 τ1' H1 fn.res).map (fun v=>(v,H1))→wj E ρ Φ A H f0 args' v Q':=fun hr hc=>by
  obtain⟨rfl,x,Φ2,f1,f2,f3,f4⟩:=zbs e3 o2 o3 hr
  rw [f1] at hc
  exact⟨x,H1,ρ1,Φ2,hc,f3,⟨e4.rho,ya.trans e4.phi f2,e4.res,e4.size⟩,f4⟩
 cases ex with
 | normal=>exact fin e1 hc
 | exit i=>cases e1
 | ret=>exact fin e1 hc
theorem z92 {PE:z0w} (hE:VV E PE):∀ n,jy E (qy PE n)∧z35 E (qz PE n):=by
 intro n
 induction n with
 | zero=>exact⟨⟨fun f args Q v Q' _ h=>(by simp [qy] at h),fun f z l args Q v Q' h=>(by simp [qy] at h)⟩,fun nt c _ τ ω Q ex τ1 ω1 Q1 h=>(by simp [qz] at h)⟩
 | succ n ih =>
  refine⟨⟨fun f args Q v Q' hlow h ρ Φ A H args' hr ha=>?_,fun f z l args Q v Q' h ρ Φ A H x args' hr ho hf ha=>?_⟩,fun nt c hok τ ω Q ex τ1 ω1 Q1 h ρ Φ A σ τ' H hfr=>?_⟩
  ·simp only [qy] at h
   cases hs:PE.spec f with
   | some g =>
    rw [hs] at h
    obtain⟨w,hw,e⟩:=Option.map_eq_some_iff.1 h
    cases e
    exact(hE.spec f g hs).low hlow args v hw ρ Φ A Q H args' hr ha
   | none =>
    rw [hs] at h
    cases hf:PE.fns f with
    | none=>rw [hf] at h;cases h
    | some fn =>
     rw [hf] at h
     simp only at h
     cases hle:Nat.ble args.length fn.nt with
     | false=>rw [hle] at h;cases h
     | true =>
      rw [hle] at h
      obtain⟨c1,c2,c3,c4,_⟩:=hE.fns f fn hf
      have hb:z4v f=f:=if_pos hlow
      rw [hb] at c2 c3
      rw [c4 hlow] at h
      obtain⟨τ,h1,h2⟩:=z7c hr ha (Nat.le_of_ble_eq_true hle) h
      exact z4w c2 c3 c1 ih.1 ih.2 h2 h1
  ·simp only [qy] at h
   cases hs:PE.spec (f+jK) with
   | some g =>
    rw [hs] at h
    obtain⟨w,hw,e⟩:=Option.map_eq_some_iff.1 h
    cases e
    exact(hE.spec _ g hs).take f rfl z l args v hw ρ Φ A Q H x args' hr ho hf ha
   | none =>
    rw [hs] at h
    cases hfn:PE.fns (f+jK) with
    | none=>rw [hfn] at h;cases h
    | some fn =>
     rw [hfn] at h
     simp only at h
     cases hle:Nat.ble (AV.ow z l::args).length fn.nt with
     | false=>rw [hle] at h;cases h
     | true =>
      rw [hle] at h
      obtain⟨c1,c2,c3,_,c5⟩:=hE.fns _ fn hfn
      have hb:z4v (f+jK)=f:=by unfold z4v;rw [if_neg (by omega)];omega
      rw [hb] at c2 c3
      obtain⟨z',hz⟩:=c5 (by omega)
      rw [hz] at h
      obtain⟨τ,h1,h2⟩:=z5C hr ho hf ha (Nat.le_of_ble_eq_true hle) h
      exact z4w c2 c3 c1 ih.1 ih.2 h2 h1
  ·simp only [qz] at h
   obtain⟨ex1,τ2,ω2,Q2,τ2',H2,e1,e2,e3⟩:=qF ih.1 ih.2 c hok hfr h
   have hl:yI E (.loop c.un) τ' H=bnE (yI E c.un τ' H) (WR (fun τ H=>yI E (.loop c.un) τ H) z39):=z0W
   rw [e2] at hl
   cases ex1 with
   | normal =>
    obtain⟨ρ1,Φ1,σ1,f1,f2⟩:=e3
    obtain⟨τ3',H3,g1,g2⟩:=ih.2 nt c hok τ2 ω2 Q2 ex τ1 ω1 Q1 e1 ρ1 Φ1 A σ1 τ2' H2 f1
    exact⟨τ3',H3,hl.trans g1,At.trans f2 g2⟩
   | exit i=>cases e1;exact⟨τ2',H2,hl,e3⟩
   | ret=>cases e1;exact⟨τ2',H2,hl,e3⟩
theorem z93 {PE:z0w} (hE:VV E PE):jy E (zd PE):=by
 refine⟨fun f args Q v Q' hlow h=>?_,fun f z l args Q v Q' h=>?_⟩
 ·obtain⟨n,hn⟩:=vg.1 h
  exact(z92 hE n).1.low f args Q v Q' hlow hn
 ·obtain⟨n,hn⟩:=vg.1 h
  exact(z92 hE n).1.take f z l args Q v Q' hn
end
end Go.Ab
namespace Go.Ab
def V5 (z bytes:Nat) (zero:List AV):AFn:=⟨8,.seq (.reg [⟨some 2,.mv (.c (.nils)),none⟩]) (.seq (.seq (.reg [⟨some 3,.mv (.t 0),none⟩,⟨some 4,.eqn false 0 (.t 3),none⟩]) (.cond (.t 4) (.seq (.reg [⟨some 2,.mv (.c (.nils)),none⟩]) (.ret)) (.skip)))
 (.seq (.reg [⟨some 5,.bsl z zero 0 [],none⟩,⟨some 6,.mv (.t 0),none⟩,⟨some 7,.app z bytes zero (.t 5) (.t 6),none⟩,⟨some 2,.mv (.t 7),none⟩]) (.ret))),[.tmp 2]⟩
def wY (z bytes:Nat):List AV→Option AV
 | [.nils]=>some (.ow z [])
 | [.fz z' l]=>if z'=z∧room bytes l.length=true then some (.ow z l) else none
 | _=>none
section
variable {ρ:yP} {Φ:ya} {A:Nat→Prop} {Q H:z3}
theorem z7d {E:Env} {f z bytes:Nat} {zero:List AV} (hs:E.spec f=none) (hf:E.fns f=some (V5 z bytes zero)) (H:z3):zL E f [.nils] H=some (.nils,H):=by
 refine xK.2 ⟨10,?_⟩
 simp [xn,hs,hf,V5,zx,kK,za,xL,yR,aop,Tau.put,Tau.at,z02,y4,zO,qV,List.replicate]
theorem z0N {E:Env} {f z bytes:Nat} {zero:List AV} (hs:E.spec f=none) (hf:E.fns f=some (V5 z bytes zero)) (hz:0 < z) (hzl:zero.length=z) {H H2:z3} {x v:AV} (hn:z02 0 x=some false)
  (ha:X4 (H.push (some (.cells .exact z []))) z bytes (.sl H.size 0 0 (.ex 0)) x=some (v,H2)):zL E f [x] H=some (v,H2):=by
 refine xK.2 ⟨10,?_⟩
 have h0:¬ z=0:=by omega
 simp [xn,hs,hf,V5,zx,kK,za,xL,yR,aop,Tau.put,Tau.at,hn,y4,zO,qV,List.replicate,yU,q7,h0,hzl,ha]
theorem z4x (E:Env) {f z bytes:Nat} {zero:List AV} (hs:E.spec f=none) (hf:E.fns f=some (V5 z bytes zero)) (hz:0 < z) (hzl:zero.length=z):Z5 E f (wY z bytes):=by
 refine⟨fun _ args v hg ρ Φ A Q H args' hr ha=>?_,fun f0 e z' l args v hg=>?_⟩
 ·unfold wY at hg
  have nilCase:∀ {l:List AV},l=[]→wj E ρ Φ A H f [.nils] (.ow z l) Q:=fun e=>by
   subst e
   exact⟨.nils,H,ρ,Φ,z7d hs hf H,hr,Ext.refl,⟨hz,Or.inl ⟨rfl,rfl⟩⟩,fun r e=>by cases e⟩
  split at hg
  ·obtain⟨x,m,rfl,h1,h2⟩:=ha.uncons
   obtain rfl:=h2.nil
   simp only [RV] at h1
   subst h1
   cases hg
   exact nilCase rfl
  ·rename_i z' l
   obtain⟨x,m,rfl,h1,h2⟩:=ha.uncons
   obtain rfl:=h2.nil
   split at hg
   case isFalse=>cases hg
   rename_i hc
   obtain⟨rfl,hroom⟩:=hc
   cases hg
   obtain⟨cs,hfz,he⟩:=h1.fz_inv
   by_cases hx:x=.nils
   ·subst hx
    exact nilCase (List.eq_nil_of_length_eq_zero hfz.1)
   ·obtain⟨r1,r2⟩:=Za hroom
    have hF:Fro Φ H:=fun r o ho=>(hr.fro r o ho).2
    have hsrc:z02 0 x=some false∧wS (H.push (some (.cells .exact z' []))) z' x=some cs∧x.slen=l.length:=by
     unfold FzV at hfz
     split at hfz
     ·exact absurd rfl hx
     ·rename_i r o m c
      obtain⟨rfl,h3,_⟩:=hfz
      refine⟨rfl,?_,rfl⟩
      simp only [wS]
      obtain⟨k,zz,ds,e2,_⟩:=jO h3
      have hlt:=(hr.fro _ _ e2).1
      rw [qT,z3.get_push,if_neg (by omega),← qT]
      exact hF.row h3
     ·obtain⟨h0,rfl,_⟩:=hfz
      exact⟨rfl,rfl,h0.symm⟩
     ·exact hfz.elim
    obtain⟨s1,s2,s3⟩:=hsrc
    have hlen:=he.length
    have fin:∀ (k:Kd) (c:kb) (ds:List AV) (r:Nat) (H2:z3),zL E f [x] H=some (.sl r 0 l.length c,H2)→H.size≤r→H2.get r=some (.cells k z' ds)→ds=cs→r < H2.size→(∀ s,s < H.size→H2.get s=H.get s)→H.size≤H2.size →
      ((k=.opened∧c=.mi 0)∨∃ q,k=.exact∧c=.ex q∧l.length≤q∧ds.length=q * z'∧q≤zp)→wj E ρ Φ A H f [x] (.ow z' l) Q:=by
     intro k c ds r H2 hcall hge hg hds hlt hold hsz hk
     subst hds
     refine⟨_,H2,ρ,Φ,hcall,⟨fun q r' e=>?_,fun q o hq=>?_,hr.inj,hr.sep,fun s o e=>?_,fun s a=>?_⟩,⟨ρ.refl,Φ.refl,fun s a=>hold s (hr.res s a).1,hsz⟩,⟨hz,Or.inr ⟨r,c,k,ds,rfl,hg,by rw [hlen];exact Nat.le_refl _,by rw [← hlen,List.take_length];exact he,hk⟩⟩,fun s e=>?_⟩
     ·have:=hr.dom q r' e;exact⟨this.1,by omega⟩
     ·obtain⟨r',o',g1,g4,g5⟩:=hr.obj q o hq
      exact⟨r',o',g1,by rw [hold r' (hr.dom q r' g1).2];exact g4,g5⟩
     ·have:=hr.fro s o e;exact⟨by omega,by rw [hold s this.1];exact this.2⟩
     ·have:=hr.res s a;exact⟨by omega,this.2⟩
     ·simp only [blk,Option.some.injEq] at e
      subst e
      refine⟨hlt,?_,fun a=>by have:=(hr.res _ a).1;omega,fun q o hq e=>by have:=(hr.dom q _ e).2;omega⟩
      cases e:Φ r with
      | none=>rfl
      | some o=>have:=(hr.fro r o e).1;omega
    by_cases h0:l.length=0
    ·have hcs:cs=[]:=List.eq_nil_of_length_eq_zero (by rw [hlen,h0];simp)
     have hc:=z0N hs hf hz hzl (H:=H) (x:=x) s1 (v:=.sl H.size 0 0 (.ex 0)) (H2:=H.push (some (.cells .exact z' []))) (by
      simp only [X4,Nat.pos_iff_ne_zero.1 hz,if_false,s2,s3,h0,yF,if_true])
     exact fin .exact (.ex 0) [] H.size _ (by rw [h0];exact hc) (Nat.le_refl _) (by rw [z3.get_push];simp) hcs.symm (by simp) (fun s hs2=>by rw [z3.get_push,if_neg (by omega)]) (by simp) (Or.inr ⟨0,rfl,rfl,by omega,by simp,Nat.zero_le _⟩)
    ·have hc:=z0N hs hf hz hzl (H:=H) (x:=x) s1 (v:=.sl (H.size+1) 0 l.length (.mi 0)) (H2:=(H.push (some (.cells .exact z' []))).push (some (.cells .opened z' cs))) (by
      simp only [X4,Nat.pos_iff_ne_zero.1 hz,if_false,s2,s3,yF,h0,Nat.zero_add,r1,r2,and_self,if_true,z3.get_push,z3.size_push,Nat.le_zero_eq,Nat.zero_mul,List.length_nil,Nat.le_refl,List.drop_nil,List.take_nil,List.nil_append])
     exact fin .opened (.mi 0) cs (H.size+1) _ hc (by omega) (by rw [z3.get_push];simp) rfl (by simp) (fun s hs2=>by rw [z3.get_push,if_neg (by simp;omega),z3.get_push,if_neg (by omega)]) (by simp;omega) (Or.inl ⟨rfl,rfl⟩)
  ·cases hg
 ·unfold wY at hg;cases args<;>cases hg
def V6 (H:z3):ya:=fun r=>if r < H.size then H.get r else none
theorem zbt (H:z3):Rel (fun _=>none) (V6 H) (fun _=>False) z3.empty H:=by
 have no:∀ {q:Nat} {o:zF},z3.empty.get q=some o→False:=fun {q o} hq=>by rw [z3.get_empty] at hq;cases hq
 refine⟨fun q r e=>(by cases e),fun q o hq=>(no hq).elim,fun q s o o' r hq=>(no hq).elim,fun q o r hq=>(no hq).elim,fun r o e=>?_,fun r a=>a.elim⟩
 unfold V6 at e
 split at e
 ·exact⟨by assumption,e⟩
 ·cases e
theorem z94 {E:Env} {PE:z0w} (hE:VV E PE) {f:Nat} (hf:f < jK) {args args':List AV} {Q':z3} (h:zd PE f args z3.empty=some (.bool true,Q')) (ha:RL (fun _=>none) (V6 H) args args') :
  ∃ H1,zL E f args' H=some (.bool true,H1):=by
 obtain⟨x,H1,ρ1,Φ1,e1,_,_,e4⟩:=(z93 hE).low f args z3.empty _ Q' hf h _ _ _ H args' (zbt H) ha
 simp only [Jc,RV] at e4
 rw [e4] at e1
 exact⟨H1,e1⟩
end
end Go.Ab
