import Derived.Test.YtdbbdfmkglgjdaaPvD
import Derived.Test.YtdbbdfmkglgjdaaSh8
import Derived.Test.YtdbbdfmkglgjdaaSh13
import Derived.Test.YtdbbdfmkglgjdaaAb17
import Derived.Test.YtdbbdfmkglgjdaaSh14
set_option linter.unusedVariables false
set_option linter.unusedSimpArgs false
namespace Go.Ab
section
variable {β:Type}
def goC (r:PT→PW→z3→PK β→Option β) (k:PK β):PK β:=goX (fun τ ω Q=>r τ ω Q k) k
def z1m (own:List (Nat × Nat)) (fr ts:List Nat) (ks:List (Nat × Nat)) (k:PK β):PK β:=goX (fun τ ω Q=>z0v own fr ts ks τ ω Q k) k
@[simp] theorem zcZ (ex:zE) (τ:PT) (ω:PW) (Q:z3) (k:PK β):bnX (some (ex,τ,ω,Q)) k=k ex τ ω Q:=(Eq.refl _).trans (Eq.refl _)
@[simp] theorem zd0 (k:PK β):bnX none k=none:=(Eq.refl _).trans (Eq.refl _)
@[simp] theorem zd1 (l:List AV) (k:List AV→Option β):bnL (some l) k=k l:=(Eq.refl _).trans (Eq.refl _)
@[simp] theorem zd2 (k:List AV→Option β):bnL none k=none:=(Eq.refl _).trans (Eq.refl _)
@[simp] theorem zd3 (l:Nat) (k:Nat→Option β):bnN (some l) k=k l:=(Eq.refl _).trans (Eq.refl _)
@[simp] theorem zd4 (k:Nat→Option β):bnN none k=none:=(Eq.refl _).trans (Eq.refl _)
@[simp] theorem zd5 (n:Nat) (k:Cur β n):bnC n none k=none:=(Eq.refl _).trans (Eq.refl _)
@[simp] theorem zg6 (k:Option β):bnC (β:=β) 0 (some []) k=k:=(Eq.refl _).trans (Eq.refl _)
@[simp] theorem zg7 (a:AV) (k:AV→Option β):bnC (β:=β) 1 (some [a]) k=k a:=(Eq.refl _).trans (Eq.refl _)
@[simp] theorem zg8 (a b:AV) (k:AV→AV→Option β):bnC (β:=β) 2 (some [a,b]) k=k a b:=(Eq.refl _).trans (Eq.refl _)
@[simp] theorem zg9 (a b c:AV) (k:AV→AV→AV→Option β):bnC (β:=β) 3 (some [a,b,c]) k=k a b c:=(Eq.refl _).trans (Eq.refl _)
@[simp] theorem zga (a b c d:AV) (k:AV→AV→AV→AV→Option β):bnC (β:=β) 4 (some [a,b,c,d]) k=k a b c d:=(Eq.refl _).trans (Eq.refl _)
@[simp] theorem zgb (a b c d e:AV) (k:AV→AV→AV→AV→AV→Option β):bnC (β:=β) 5 (some [a,b,c,d,e]) k=k a b c d e:=(Eq.refl _).trans (Eq.refl _)
@[simp] theorem zgc (a b c d e f:AV) (k:AV→AV→AV→AV→AV→AV→Option β):bnC (β:=β) 6 (some [a,b,c,d,e,f]) k=k a b c d e f:=(Eq.refl _).trans (Eq.refl _)
@[simp] theorem zgd (a b c d e f g:AV) (k:AV→AV→AV→AV→AV→AV→AV→Option β):bnC (β:=β) 7 (some [a,b,c,d,e,f,g]) k=k a b c d e f g:=(Eq.refl _).trans (Eq.refl _)
@[congr] theorem zbR {o o':Option ja} {k:PK β} (h:o=o'):bnX o k=bnX o' k:=by rw [h]
@[congr] theorem zbS {o o':Option (List AV)} {k:List AV→Option β} (h:o=o'):bnL o k=bnL o' k:=by rw [h]
@[congr] theorem zbT {o o':Option Nat} {k:Nat→Option β} (h:o=o'):bnN o k=bnN o' k:=by rw [h]
@[congr] theorem zbU {n:Nat} {o o':Option (List AV)} {k:Cur β n} (h:o=o'):bnC n o k=bnC n o' k:=by rw [h]
variable (k1:PT→PW→z3→Option β) (r:PT→PW→z3→PK β→Option β) (k:PK β) (τ:PT) (ω:PW) (Q:z3) (i j:Nat)
@[simp] theorem zel (ex:zE):jk ex τ ω Q=some (ex,τ,ω,Q):=(Eq.refl _).trans (Eq.refl _)
@[simp] theorem zge:goX k1 k .normal τ ω Q=k1 τ ω Q:=(Eq.refl _).trans (Eq.refl _)
@[simp] theorem zgf:goX k1 k (.exit i) τ ω Q=k (.exit i) τ ω Q:=(Eq.refl _).trans (Eq.refl _)
@[simp] theorem zgg:goX k1 k .ret τ ω Q=k .ret τ ω Q:=(Eq.refl _).trans (Eq.refl _)
@[simp] theorem zgh:goC r k .normal τ ω Q=r τ ω Q k:=(Eq.refl _).trans (Eq.refl _)
@[simp] theorem zgi:goC r k (.exit i) τ ω Q=k (.exit i) τ ω Q:=(Eq.refl _).trans (Eq.refl _)
@[simp] theorem zgj:goC r k .ret τ ω Q=k .ret τ ω Q:=(Eq.refl _).trans (Eq.refl _)
@[simp] theorem zfu (own fr ts ks):z1m own fr ts ks k .normal τ ω Q=z0v own fr ts ks τ ω Q k:=(Eq.refl _).trans (Eq.refl _)
@[simp] theorem zfv (own fr ts ks):z1m own fr ts ks k (.exit i) τ ω Q=k (.exit i) τ ω Q:=(Eq.refl _).trans (Eq.refl _)
@[simp] theorem zfw (own fr ts ks):z1m own fr ts ks k .ret τ ω Q=k .ret τ ω Q:=(Eq.refl _).trans (Eq.refl _)
@[simp] theorem zfx:kB i k .normal τ ω Q=k .normal τ ω Q:=(Eq.refl _).trans (Eq.refl _)
@[simp] theorem zfy:kB i k (.exit j) τ ω Q=k (if j=i then .normal else .exit j) τ ω Q:=by
 show k (match Nat.beq j i with | true=>.normal | false=>.exit j) τ ω Q=_
 by_cases h:j=i
 ·subst h;rw [show Nat.beq j j=true from Nat.beq_refl j];simp
 ·rw [show Nat.beq j i=false by cases e:Nat.beq j i with | false=>rfl | true=>exact absurd (Nat.eq_of_beq_eq_true e) h];simp [h]
@[simp] theorem zfz:kB i k .ret τ ω Q=k .ret τ ω Q:=(Eq.refl _).trans (Eq.refl _)
end
@[simp] theorem zd6 {α:Type} (k:Nat):lkp ([]:List (Nat × α)) k=none:=(Eq.refl _).trans (Eq.refl _)
@[simp] theorem zbV {α:Type} (a:Nat) (x:α) (l:List (Nat × α)) (k:Nat):lkp ((a,x)::l) k=if a=k then some x else lkp l k:=by
 show (match Nat.beq a k with | true=>some x | false=>lkp l k)=_
 by_cases h:a=k
 ·subst h;rw [show Nat.beq a a=true from Nat.beq_refl a];simp
 ·rw [show Nat.beq a k=false by cases e:Nat.beq a k with | false=>rfl | true=>exact absurd (Nat.eq_of_beq_eq_true e) h];simp [h]
@[simp] theorem zd7 {α:Type} (k:Nat):rmv ([]:List (Nat × α)) k=[]:=(Eq.refl _).trans (Eq.refl _)
@[simp] theorem zbW {α:Type} (a:Nat) (x:α) (l:List (Nat × α)) (k:Nat):rmv ((a,x)::l) k=if a=k then rmv l k else (a,x)::rmv l k:=by
 show (match Nat.beq a k with | true=>rmv l k | false=>(a,x)::rmv l k)=_
 by_cases h:a=k
 ·subst h;rw [show Nat.beq a a=true from Nat.beq_refl a];simp
 ·rw [show Nat.beq a k=false by cases e:Nat.beq a k with | false=>rfl | true=>exact absurd (Nat.eq_of_beq_eq_true e) h];simp [h]
attribute [simp] z0v Wk z47 WO Wj Jp purge TV.of zu z70 z1l Qc z48 TV.val owZ frz QK z0u
@[simp] theorem zem (τ:PT) (t:Nat):xE τ t=match lkp τ t with
  | some x=>x
  | none=>.v z4:=rfl
section
variable (b w:Bool) (o:Option AV) (Q:z3) (k:IntKind) (i:Int) (z:Nat) (l:List AV)
@[simp] theorem zd8:gdQ (.bool b) w o=if b=w then o else some .sk:=(Eq.refl _).trans (Eq.refl _)
@[simp] theorem zfA:gdQ .sk w o=some .sk:=(Eq.refl _).trans (Eq.refl _)
@[simp] theorem zfB (o:Option (AV × z3)):gdH .sk w o Q=some (.sk,Q):=(Eq.refl _).trans (Eq.refl _)
@[simp] theorem zd9 (o:Option (AV × z3)):gdH (.bool b) w o Q=if b=w then o else some (.sk,Q):=(Eq.refl _).trans (Eq.refl _)
@[congr] theorem zbX {v v':AV} {w:Bool} {o:Option AV} (h:v=v'):gdQ v w o=gdQ v' w o:=by rw [h]
@[congr] theorem zbY {v v':AV} {w:Bool} {o:Option (AV × z3)} {Q:z3} (h:v=v'):gdH v w o Q=gdH v' w o Q:=by rw [h]
@[simp] theorem zbZ:km .nils=some (.int .i64 0):=(Eq.refl _).trans (Eq.refl _)
@[simp] theorem zen:km (.fz z l)=some (.int .i64 l.length):=(Eq.refl _).trans (Eq.refl _)
theorem zbu (h:0≤i):elQ z (.fz z l) (.int k i)=l[i.toNat]? := by simp [elQ,h]
theorem za2 (n:Nat):elQ z (.fz z l) (.int k (n:Int))=l[n]? := by simp [elQ]
@[simp] theorem zda (n m:Nat):JU n (.int k (m:Int))=if m < n then some m else none:=by simp [JU]
@[simp] theorem zdb (n:Nat):JU n (.int k i)=if 0≤i∧i < n then some i.toNat else none:=(Eq.refl _).trans (Eq.refl _)
@[simp] theorem zdc (n:Int) (v:AV):z1j (.int k n) 0 [v]=some v:=(Eq.refl _).trans (Eq.refl _)
@[simp] theorem zc0 (n:Bool) (v:AV):z1j (.bool n) 0 [v]=some v:=(Eq.refl _).trans (Eq.refl _)
@[simp] theorem zdd (n:List UInt8) (v:AV):z1j (.str n) 0 [v]=some v:=(Eq.refl _).trans (Eq.refl _)
@[simp] theorem zde:(AV.fz z l).cells=[.fz z l]:=(Eq.refl _).trans (Eq.refl _)
@[simp] theorem zfC:AV.one (.fz z l)=true:=(Eq.refl _).trans (Eq.refl _)
@[simp] theorem zeo (n:Int):stC 1 (.int k n)=some [.int k n]:=(Eq.refl _).trans (Eq.refl _)
@[simp] theorem zdf (n:Bool):stC 1 (.bool n)=some [.bool n]:=(Eq.refl _).trans (Eq.refl _)
@[simp] theorem zep (n:List UInt8):stC 1 (.str n)=some [.str n]:=(Eq.refl _).trans (Eq.refl _)
@[simp] theorem zeq (n:Int) (c:Bool):rcv c .n (.int k n)=some (.int k n):=(Eq.refl _).trans (Eq.refl _)
@[simp] theorem zdg (n:Bool) (c:Bool):rcv c .n (.bool n)=some (.bool n):=(Eq.refl _).trans (Eq.refl _)
@[simp] theorem zer (n:List UInt8) (c:Bool):rcv c .n (.str n)=some (.str n):=(Eq.refl _).trans (Eq.refl _)
@[simp] theorem zes (n:List AV) (c:Bool):rcv c .n (.agg n)=some (.agg n):=(Eq.refl _).trans (Eq.refl _)
@[simp] theorem zfD (c:Bool):rcv c .n (.fz z l)=some (.fz z l):=(Eq.refl _).trans (Eq.refl _)
@[simp] theorem zdh (c:Bool):rcv c .n .nils=some .nils:=(Eq.refl _).trans (Eq.refl _)
@[simp] theorem zet:rcv true .n (.ow z l)=some (.ow z l):=(Eq.refl _).trans (Eq.refl _)
@[simp] theorem zdi (c:Bool):rcv c (.o z) .nils=some (.ow z []):=(Eq.refl _).trans (Eq.refl _)
@[simp] theorem zeu:rcv true (.o z) (.ow z l)=some (.ow z l):=by simp [rcv]
@[simp] theorem zdj (c:Bool):rcv c (.f z) .nils=some (.fz z []):=(Eq.refl _).trans (Eq.refl _)
@[simp] theorem zev:rcv true (.f z) (.ow z l)=some (.fz z l):=by simp [rcv]
@[simp] theorem zew (c:Bool):rcv c (.f z) (.fz z l)=some (.fz z l):=by cases c<;>simp [rcv]
@[simp] theorem zdk (y:Nat) (n m:Int):z9T y (.int k n) (.int k m)=if 0≤n∧n≤m∧m.toNat * (y+1)≤zp then some n.toNat else none:=(Eq.refl _).trans (Eq.refl _)
theorem za3 {y n:Nat} (h:n * (y+1)≤zp):room y n=true:=by simp [room,h]
end
end Go.Ab
namespace Go.Ab
open Go.RowKit
theorem z4y {P:Program} {E:Env} (hE:W7 P E) {f:Nat} (hf:E.spec f=none) {W:World} {vs:List Value} {avs:List AV} {H:z3} (hl:z0O W vs avs H)
  (h:kD (zL E f avs H) fun v _=>v=.bool true):Calls P f vs.toArray W fun e W'=>e=.returned (.bool true)∧Below W.heap.size W W':=by
 obtain⟨v,H1,hc,rfl⟩:=h
 obtain⟨n,hn⟩:=xK.1 hc
 obtain⟨ρ,hs,hx⟩:=hl
 refine(((Jh hE n).1 f avs H _ _ hf hn).2 W.heap.size ρ W vs (Nat.le_refl _) hs hx).mono fun e W' ⟨ρ',x,he,hx,_,_,hb,_⟩=>?_
 simp [zb] at hx
 subst hx
 exact⟨he,hb⟩
theorem xM.closedP {P:Program} {E:Env} (hE:W7 P E) {f n:Nat} (hf:E.spec f=none) (h:Ye (xn E n f [] z3.empty)=true):xM P f z1Z:=by
 intro B ρ w H args xs v H' hB hs hx hg
 obtain⟨rfl,rfl,rfl⟩:=z7e hg
 have hxs:xs=[]:=by simpa [zg] using hx.symm
 subst hxs
 unfold Ye at h
 split at h
 ·rename_i H1 hH
  obtain⟨h1,h2⟩:=(Jh hE n).1 f [] _ _ _ hf hH
  refine Or.inl ⟨h1,(h2 w.heap.size (fun _=>none) w [] (Nat.le_refl _) z1u z6y).mono fun e w' ⟨ρ',x,he,hx,_,_,hb,_⟩=>?_⟩
  simp [zb] at hx
  subst hx
  exact⟨ρ,_,he,by simp [zb],Rho.ext_refl _ _,hs.below hb,⟨hb.os,hb.tape,hb.output,hb.size,fun k hk=>hb.block k (Nat.lt_of_lt_of_le hk hB)⟩,Nat.le_refl _⟩
 ·cases h
def za4 (args:List AV):Option AV:=match args with
 | []=>some (.bool true)
 | _=>none
theorem zbv {E:Env} {f:Nat} (hf:f < jK) (hs:E.spec f=some z1Z):Z5 E f za4:=by
 refine⟨fun _ args v hg ρ Φ A Q H args' hr ha=>?_,fun f0 e z' l args v hg=>?_⟩
 ·unfold za4 at hg
  split at hg
  ·obtain rfl:=Option.some.inj hg
   obtain rfl:=ha.nil
   exact⟨.bool true,H,ρ,Φ,by rw [wa hs];rfl,hr,Ext.refl,by simp only [Jc,RV]⟩
  ·cases hg
 ·cases hg
theorem z95 {E:Env} {PE:z0w} (hE:VV E PE) {f:Nat} (hf:f < jK) {args args':List AV} {H:z3} (h:∃ Q',zd PE f args z3.empty=some (.bool true,Q')) (ha:RL (fun _=>none) (V6 H) args args') :
  kD (zL E f args' H) fun v _=>v=.bool true:=by
 obtain⟨Q',h⟩:=h
 obtain⟨H1,e⟩:=z94 hE hf h ha
 exact⟨_,_,e,rfl⟩
section
variable {ρ:yP} {Φ:ya}
theorem RV.int {k:IntKind} {n:Int}:RV ρ Φ (.int k n) (.int k n):=by simp only [RV]
theorem RV.bool {b:Bool}:RV ρ Φ (.bool b) (.bool b):=by simp only [RV]
theorem RV.str {b:List UInt8}:RV ρ Φ (.str b) (.str b):=by simp only [RV]
theorem RE.ints (k:IntKind) (l:List Int):RE ρ Φ 1 (l.map (AV.int k)) (l.map (AV.int k)):=by
 induction l with
 | nil=>simp only [List.map_nil,RE]
 | cons n l ih =>
  simp only [List.map_cons,RE]
  exact⟨.int k n,l.map (AV.int k),rfl,rfl,rfl,rfl,RV.int,ih⟩
theorem RV.ints {k:IntKind} {H:z3} {v:AV} {l:List Int} (h:rdI k H v=some l) (hc:capOk v=true):RV ρ (V6 H) (.fz 1 (l.map (AV.int k))) v:=by
 simp only [RV]
 refine⟨l.map (AV.int k),?_,RE.ints k l⟩
 rcases z7h h with ⟨rfl,rfl⟩ | ⟨r,o,c,rfl,hr,hrow⟩
 ·exact⟨rfl,rfl⟩
 ·refine⟨by simp,?_,fun q e=>?_⟩
  ·simp only [V6,if_pos hr,List.length_map,Nat.mul_one]
   rw [← qT];exact hrow
  ·subst e
   simpa [capOk] using hc
end
theorem z96 {k kk:IntKind} {l:List Int} {i:Int} (h0:0≤i) (h1:i < l.length):elQ 1 (.fz 1 (l.map (AV.int k))) (.int kk i)=some (.int k (l.getD i.toNat 0)):=by
 rw [zbu _ _ _ _ h0,List.getElem?_map,List.getD_eq_getElem?_getD,List.getElem?_eq_getElem (by omega)];rfl
@[simp] theorem zc1 (k:IntKind) (n:Int):vU (.int k n)=true:=(Eq.refl _).trans (Eq.refl _)
@[simp] theorem zbw (b:Bool):vU (.bool b)=true:=(Eq.refl _).trans (Eq.refl _)
@[simp] theorem zdl (k:IntKind) (n:Int):JV 1 (.int k n)=true:=(Eq.refl _).trans (Eq.refl _)
@[simp] theorem zc2 (b:Bool):JV 1 (.bool b)=true:=(Eq.refl _).trans (Eq.refl _)
@[simp] theorem zdm (b:List UInt8):JV 1 (.str b)=true:=(Eq.refl _).trans (Eq.refl _)
end Go.Ab
set_option linter.unusedSectionVars false
namespace Go.Ab
open Go.RowKit
section
variable {E:Env} {ρ:yP} {Φ:ya} {A:Nat→Prop} {Q H H1:z3}
theorem z4z {f z:Nat} {l l':List AV} {x x':AV} {args':List AV} (hr:Rel ρ Φ A Q H) (ho:Xu ρ Φ H z l x) (hf:z4p ρ Φ A Q H x) (hc:zL E f (x::args') H=some (x',H1)) (hsz:H.size≤H1.size)
  (hold:∀ s,s < H.size→blk x≠some s→H1.get s=H.get s) (hown:Xu ρ Φ H1 z l' x') (hblk:∀ r,blk x'=some r→(blk x=some r∨H.size≤r)∧r < H1.size):wj E ρ Φ A H f (x::args') (.ow z l') Q:=by
 have hne:∀ s,(∃ o,Φ s=some o)∨A s∨(∃ q o,Q.get q=some o∧ρ q=some s)→blk x≠some s:=fun s hs e=>by
  obtain⟨_,h2,h3,h4⟩:=hf s e
  rcases hs with ⟨o,ho⟩ | ha | ⟨q,o,hq,hr⟩
  ·rw [h2] at ho;cases ho
  ·exact h3 ha
  ·exact h4 q o hq hr
 refine⟨x',H1,ρ,Φ,hc,⟨fun q r' e=>?_,fun q o hq=>?_,hr.inj,hr.sep,fun s o e=>?_,fun s a=>?_⟩,⟨ρ.refl,Φ.refl,fun s a=>hold s (hr.res s a).1 (hne s (Or.inr (Or.inl a))),hsz⟩,hown,fun s e=>?_⟩
 ·have:=hr.dom q r' e;exact⟨this.1,by omega⟩
 ·obtain⟨r',o',g1,g4,g5⟩:=hr.obj q o hq
  exact⟨r',o',g1,by rw [hold r' (hr.dom q r' g1).2 (hne r' (Or.inr (Or.inr ⟨q,o,hq,g1⟩)))];exact g4,g5⟩
 ·have:=hr.fro s o e;exact⟨by omega,by rw [hold s this.1 (hne s (Or.inl ⟨o,e⟩))];exact this.2⟩
 ·have:=hr.res s a;exact⟨by omega,this.2⟩
 ·obtain⟨h1,h2⟩:=hblk s e
  rcases h1 with h1 | h1
  ·obtain⟨p1,p2,p3,p4⟩:=hf s h1
   exact⟨h2,p2,p3,p4⟩
  ·refine⟨h2,?_,fun a=>by have:=(hr.res _ a).1;omega,fun q o hq e=>by have:=(hr.dom q _ e).2;omega⟩
   cases e:Φ s with
   | none=>rfl
   | some o=>have:=(hr.fro s o e).1;omega
def z1Y (z bytes:Nat):List AV→Option AV
 | [.ow z' l,.int .i64 i,.lt z2 vs]=>if z'=z∧z2=z∧0 < vs.length∧0≤i∧i≤l.length∧room bytes (l.length+vs.length)=true then some (.ow z (l.take i.toNat++vs++l.drop i.toNat)) else none
 | _=>none
theorem za5 {f z bytes:Nat} (hz:0 < z) (hs:E.spec f=some (exactOr z (Wu z bytes))):Z5 E (f+jK) (z1Y z bytes):=by
 refine⟨fun h=>by omega,fun f0 e z0 l args v hg ρ Φ A Q H x args' hr ho hf ha=>?_⟩
 obtain rfl:f=f0:=by omega
 unfold z1Y at hg
 split at hg
 case h_2=>cases hg
 rename_i z' l i z2 vs heq
 simp only [List.cons.injEq,AV.ow.injEq] at heq
 obtain⟨⟨rfl,rfl⟩,rfl⟩:=heq
 split at hg
 case isFalse=>cases hg
 rename_i hc
 obtain⟨rfl,rfl,hm,hi0,hil,hroom⟩:=hc
 cases hg
 obtain⟨j,rfl⟩:∃ j:Nat,i=j:=⟨i.toNat,by omega⟩
 rw [Int.toNat_natCast]
 have hj:j≤l.length:=by omega
 obtain⟨r1,r2⟩:=Za hroom
 obtain⟨y1,m1,rfl,hy1,ha1⟩:=ha.uncons
 obtain⟨y2,m2,rfl,hy2,ha2⟩:=ha1.uncons
 obtain rfl:=ha2.nil
 simp only [RV] at hy1 hy2
 subst hy1
 obtain⟨rv,vcs,rfl,hrv,hre⟩:=hy2
 obtain⟨hltv,hgv⟩:=hr.fro rv _ hrv
 have hvl:=hre.length
 have hrow:H.row rv 0 (vs.length * z2)=some vcs:=by
  unfold z3.row
  rw [hgv]
  simp only [Nat.zero_add]
  rw [if_pos (by omega),List.drop_zero,← hvl,List.take_length]
 have hlist:∀ cs:List AV,l.length * z2≤cs.length→RE ρ Φ z2 l (cs.take (l.length * z2))→RE ρ Φ z2 (l.take j++vs++l.drop j) (cs.take (j * z2)++vcs++(cs.drop (j * z2)).take ((l.length - j) * z2)):=fun cs hl he=>by
  have a1:=he.take j
  rw [List.take_take,Nat.min_eq_left (Nat.mul_le_mul_right z2 hj)] at a1
  have a2:=he.drop j
  rw [List.drop_take,← Nat.sub_mul] at a2
  exact(a1.append hre).append a2
 have hlen:(l.take j++vs++l.drop j).length=l.length+vs.length:=by simp;omega
 have fin:∀ (H0:z3) (r:Nat) (c:kb) (cs:List AV),x=.sl r 0 l.length c→r < H.size→H0.size=H.size→(∀ s,s < H.size→s≠r→H0.get s=H.get s)→H0.get r=some (.cells .opened z2 cs)→l.length * z2≤cs.length→RE ρ Φ z2 l (cs.take (l.length * z2)) →
   zL E f [x,.int .i64 j,.sl rv 0 vs.length (.ex vs.length)] H=Wu z2 bytes [.sl r 0 l.length (.mi 0),.int .i64 j,.sl rv 0 vs.length (.ex vs.length)] H0→wj E ρ Φ A H f [x,.int .i64 j,.sl rv 0 vs.length (.ex vs.length)] (.ow z2 (l.take j++vs++l.drop j)) Q:=by
  intro H0 r c cs hx hlt hsz hkeep hg hl he hcall
  have hne:rv≠r:=fun e=>by
   have:=(hf r (by rw [hx];rfl)).2.1
   rw [e,this] at hrv;cases hrv
  have hg0:H0.get rv=some (.cells .exact z2 vcs):=by rw [hkeep rv hltv hne];exact hgv
  have hrow0:H0.row rv 0 (vs.length * z2)=some vcs:=by
   rw [qT,hg0,← hgv,← qT];exact hrow
  have e1:Wu z2 bytes [.sl r 0 l.length (.mi 0),.int .i64 j,.sl rv 0 vs.length (.ex vs.length)] H0=some (.sl H0.size 0 (l.length+vs.length) (.mi 0),(H0.put r none).push (some (.cells .opened z2 (cs.take (j * z2)++vcs++(cs.drop (j * z2)).take ((l.length - j) * z2))))):=by
   simp only [Wu,hg,hg0,hrow0]
   rw [if_pos ⟨trivial,hm,by omega,by omega,hl,he.all,hre.all,hne,Or.inl (by first | trivial | rfl),by omega,by omega,r1,r2⟩]
   simp only [Int.toNat_natCast]
  rw [e1] at hcall
  refine z4z hr ho hf hcall (by rw [z3.size_push,z3.size_put];omega) (fun s hs hb=>?_) ⟨hz,Or.inr ⟨H0.size,.mi 0,.opened,_,by rw [hlen],by rw [z3.get_push,z3.size_put,if_pos rfl],?_,?_,Or.inl ⟨rfl,rfl⟩⟩⟩ (fun r' e=>?_)
  ·have hsr:s≠r:=fun e=>hb (by rw [hx,e];rfl)
   rw [z3.get_push,z3.size_put,if_neg (by omega),z3.get_put,if_neg hsr]
   exact hkeep s hs hsr
  ·have:=(hlist cs hl he).length
   omega
  ·rw [← (hlist cs hl he).length,List.take_length];exact hlist cs hl he
  ·simp only [blk,Option.some.injEq] at e
   subst e
   exact⟨Or.inr (by omega),by rw [z3.size_push,z3.size_put];omega⟩
 rcases ho.2 with ⟨rfl,rfl⟩ | ⟨r,c,k,cs,hx,hg,hl,he,hk⟩
 ·obtain rfl:j=0:=by simpa using hj
  have hcall:zL E f [.nils,.int .i64 ((0:Nat):Int),.sl rv 0 vs.length (.ex vs.length)] H=some (.sl H.size 0 vs.length (.mi 0),H.push (some (.cells .opened z2 vcs))):=by
   rw [wa hs]
   simp only [List.length_nil,Nat.zero_add] at r1 r2
   have h1:¬ z2=0:=by omega
   have h2:¬ vs.length=0:=by omega
   have h3:X4 H z2 bytes .nils (.sl rv 0 vs.length (.ex vs.length))=some (.sl H.size 0 vs.length (.mi 0),H.push (some (.cells .opened z2 vcs))):=by
    have h2':¬ vs=[]:=fun e=>h2 (by rw [e];rfl)
    have hrow':=hrow
    rw [qb] at hrow'
    simp [X4,yF,wS,hrow',AV.slen,h1,h2',r1,r2]
   exact h3
  refine z4z hr ho hf hcall (by simp) (fun s hs _=>by rw [z3.get_push,if_neg (by omega)]) ⟨hz,Or.inr ⟨H.size,.mi 0,.opened,vcs,by simp,by rw [z3.get_push,if_pos rfl],by simp;omega,?_,Or.inl ⟨rfl,rfl⟩⟩⟩ (fun r' e=>?_)
  ·simp only [List.take_zero,List.nil_append,List.drop_zero,List.append_nil]
   rw [← hvl,List.take_length];exact hre
  ·simp only [blk,Option.some.injEq] at e
   subst e
   exact⟨Or.inr (Nat.le_refl _),by simp⟩
 ·have hlt:r < H.size:=(hf r (by rw [hx];rfl)).1
  rcases hk with ⟨rfl,rfl⟩ | ⟨q,rfl,rfl,hq1,hq2,hq3⟩
  ·refine fin H r (.mi 0) cs hx hlt rfl (fun _ _ _=>rfl) hg hl he ?_
   rw [wa hs,hx]
   rfl
  ·refine fin (H.put r (some (.cells .opened z2 cs))) r (.ex q) cs hx hlt (by rw [z3.size_put]) (fun s _ hs=>by rw [z3.get_put,if_neg hs]) (by rw [z3.get_put,if_pos rfl]) hl he ?_
   rw [wa hs,hx]
   simp only [exactOr,hg]
   rw [if_pos ⟨trivial,hq2,by have:zp=70368744177664:=rfl;have:maxLen=9223372036854775807:=rfl;omega,hq1⟩]
end
end Go.Ab
namespace Go.Ab
section
variable {α:Type}
@[simp] theorem zex (n:Nat) (l:List AV):stC n (.agg l)=if l.length=n∧l.all AV.one=true then some l else none:=by
 simp only [stC,z29,Qd]
 by_cases h:l.length=n<;>cases h2:l.all AV.one<;>simp [h]
@[simp] theorem zdn:stC 1 .nils=some [.nils]:=(Eq.refl _).trans (Eq.refl _)
@[simp] theorem zfE (z:Nat) (l:List AV):stC 1 (.fz z l)=some [.fz z l]:=(Eq.refl _).trans (Eq.refl _)
@[simp] theorem zdo (z:Nat) (l:List AV):JV z (.agg l)=(decide (l.length=z) && l.all AV.one):=by simp only [JV,z29,Qd]
@[simp] theorem zey (k:IntKind) (n:Int):AV.isTup (.int k n)=false:=(Eq.refl _).trans (Eq.refl _)
@[simp] theorem zdp (b:Bool):AV.isTup (.bool b)=false:=(Eq.refl _).trans (Eq.refl _)
@[simp] theorem zez (b:List UInt8):AV.isTup (.str b)=false:=(Eq.refl _).trans (Eq.refl _)
@[simp] theorem zdq:AV.isTup .nils=false:=(Eq.refl _).trans (Eq.refl _)
@[simp] theorem zfF (z:Nat) (l:List AV):AV.isTup (.fz z l)=false:=(Eq.refl _).trans (Eq.refl _)
@[simp] theorem zeA (l:List AV):AV.isTup (.agg l)=false:=(Eq.refl _).trans (Eq.refl _)
@[simp] theorem zc3 (cs:List AV):vT cs []=some cs:=(Eq.refl _).trans (Eq.refl _)
@[simp] theorem zbx (cs:List AV) (off s:Nat) (v:AV) (l:List (Nat × Nat × AV)):vT cs ((off,s,v)::l)=if v.isTup=true then none else if v.cells.length=s∧off+s≤cs.length then vT (splice cs off v.cells) l else none:=by
 simp only [vT];cases v.isTup<;>simp
@[simp] theorem zfG (cs:List AV) (o n:Nat):cut cs o n=if o+n≤cs.length then some ((cs.drop o).take n) else none:=by
 unfold cut
 cases h:Nat.ble (o+n) cs.length with
 | true=>simp [Nat.le_of_ble_eq_true h]
 | false=>rw [if_neg (fun c=>by rw [Nat.ble_eq_true_of_le c] at h;cases h)]
@[simp] theorem zeB (call:z7) (f:Nat) (args:List AV) (Q:z3):Zu call f args Q=if f < jK then call f args Q else none:=by
 unfold Zu
 by_cases h:f < jK
 ·rw [show Nat.blt f jK=true from Nat.ble_eq_true_of_le h];simp [h]
 ·cases e:Nat.blt f jK with
  | true=>exact absurd (Nat.le_of_ble_eq_true e) h
  | false=>simp [h]
theorem J7:jK=1000000:=rfl
@[simp] theorem zfH {β:Type} (f:Nat) (a b:List AV) (k:Nat→List AV→List AV→Option β):bnF (.fn f a b) k=k f a b:=(Eq.refl _).trans (Eq.refl _)
@[simp] theorem zeC (n o:Nat) (cs:List AV):z9 n (.cp cs o)=some (.cp cs (o+n)):=(Eq.refl _).trans (Eq.refl _)
@[simp] theorem zfI (Q:z3) (o:Nat) (cs:List AV):ldQ Q (.cp cs o)=cs[o]? := (Eq.refl _).trans (Eq.refl _)
@[simp] theorem zc4 (z:Nat) (lo hi:Option AV):WN z .nils lo hi=match yh hi 0 0 with
  | none=>none
  | some h=>match yh lo 0 h with
   | none=>none
   | some _=>some .nils:=rfl
theorem z6p {z:Nat} (hz:0 < z) (l:List AV) (lo hi:Option AV):WN z (.fz z l) lo hi=match yh hi l.length l.length with
  | none=>none
  | some h=>match yh lo 0 h with
   | none=>none
   | some j=>some (.fz z ((l.take h).drop j)):=by
 unfold WN
 exact if_pos ⟨rfl,hz⟩
@[simp] theorem zeD (ω:PW) (Q:z3) (n k o:Nat):QF ω Q n (.lp k o)=match lkp ω k with
  | some (.cells cs)=>cut cs o n
  | _=>none:=(Eq.refl _).trans (Eq.refl _)
@[simp] theorem zfJ (ω:PW) (Q:z3) (k o:Nat):ldT ω Q (.lp k o)=match lkp ω k with
  | some (.cells cs)=>cs[o]?
  | _=>none:=(Eq.refl _).trans (Eq.refl _)
@[simp] theorem zfK (ω:PW) (Q:z3) (n:Nat) (a:AV):QF ω Q n (.v a)=yk Q n a:=(Eq.refl _).trans (Eq.refl _)
@[simp] theorem zgk (ω:PW) (Q:z3) (a:AV):ldT ω Q (.v a)=ldQ Q a:=(Eq.refl _).trans (Eq.refl _)
@[simp] theorem zeE (Q:z3) (n o:Nat) (cs:List AV):yk Q n (.cp cs o)=cut cs o n:=(Eq.refl _).trans (Eq.refl _)
@[simp] theorem zc5 (ω:PW) (z:Nat):VK ω z (.v .nils)=some []:=(Eq.refl _).trans (Eq.refl _)
@[simp] theorem zeF (ω:PW) (z z':Nat) (l:List AV):VK ω z (.v (.fz z' l))=if z'=z then some l else none:=by
 show (match Nat.beq z' z with | true=>some l | false=>none)=_
 rw [Qd];by_cases h:z'=z<;>simp [h]
theorem z97 {z:Nat} {f:α→AV} {l:List α} {i:Nat} {x:α} {k:IntKind} (h:l[i]? = some x):elQ z (.fz z (l.map f)) (.int k (i:Int))=some (f x):=by
 rw [za2,List.getElem?_map,h];rfl
end
end Go.Ab
