/- What the functions of kids come to: who is left out. -/
import Derived.Test.YtdbbdfmkglgjdaaPcKids
set_option linter.unusedVariables false
set_option linter.unusedSimpArgs false
namespace Go.Proofs.Ytdbbdfmkglgjdaa.Pi
open Go.Ab Go.Feed Go.Kids
set_option maxRecDepth 100000
structure Dl (l L:List Kid) (f:Kid→Bool) (i j:Nat):Prop where
 len:L.length=l.length
 ij:i < j
 jn:j≤l.length
 kept:L.take i=outs f (l.take j)
 rest:L.drop j=l.drop j
theorem Dl.at {l L:List Kid} {f:Kid→Bool} {i j:Nat} (h:Dl l L f i j) (hj:j < l.length):L[j]? = l[j]? := by
 have:=congrArg List.head? h.rest
 rwa [List.head?_drop,List.head?_drop] at this
theorem Dl.skip {l L:List Kid} {f:Kid→Bool} {i j:Nat} (h:Dl l L f i j) (hj:j < l.length) (hf:f (l.getD j default)=true):Dl l L f i (j+1):=by
 have hx:l[j]? = some (l.getD j default):=kAt hj
 refine⟨h.len,by have:=h.ij;omega,by omega,?_,?_⟩
 ·rw [h.kept,List.take_add_one,hx]
  generalize l.getD j default=x at *
  simp [outs,hf]
 ·have:=congrArg (List.drop 1) h.rest
  rwa [List.drop_drop,List.drop_drop] at this
theorem Dl.keep {l L:List Kid} {f:Kid→Bool} {i j:Nat} (h:Dl l L f i j) (hj:j < l.length) (hf:f (l.getD j default)=false):Dl l (L.set i (l.getD j default)) f (i+1) (j+1):=by
 have hx:l[j]? = some (l.getD j default):=kAt hj
 have hij:=h.ij
 refine⟨by rw [List.length_set];exact h.len,by omega,by omega,?_,?_⟩
 ·rw [List.take_add_one,List.take_add_one (l:=l),hx,List.getElem?_set_self (by rw [h.len];omega),List.take_set_of_le (by omega),h.kept]
  generalize l.getD j default=x at *
  simp [outs,hf]
 ·rw [List.drop_set_of_lt (by omega)]
  have:=congrArg (List.drop 1) h.rest
  rwa [List.drop_drop,List.drop_drop] at this
section
variable {Q:z3}
theorem z9G {l:List Kid} {f:Kid→Bool} {c:Nat} {cp:List AV} (hc:c < jK) (hf:∀ (x:Kid) Q,zd (z8 P1) c (Kid.v x::cp) Q=some (.bool (f x),Q)) (hl:l.length≤900000):∀ (m i j:Nat) (L:List Kid),j+m=l.length→Dl l L f i j →
  ∃ (i':Nat) (L':List Kid),yr P1 (.fn c [] cp) (.int .i64 i) (.int .i64 j) (L.map Kid.v) Q=js (.int .i64 (i':Int)) (L'.map Kid.v) Q∧Dl l L' f i' l.length:=by
 intro m
 induction m with
 | zero =>
  intro i j L hj hd
  obtain rfl:j=l.length:=by omega
  have c1:((l.length:Int) < L.length)=False:=eq_false (by rw [hd.len];omega)
  refine⟨i,L,?_,hd⟩
  rw [ye,yq]
  simp [c1]
 | succ m ih =>
  intro i j L hj hd
  have hjl:j < l.length:=by omega
  have c1:((j:Int) < L.length)=True:=eq_true (by rw [hd.len];omega)
  have c1':j < L.length:=by rw [hd.len];exact hjl
  have hx:=kAt hjl
  have hL:L[j]? = some (l.getD j default):=by rw [hd.at hjl];exact hx
  have e:(L.map Kid.v)[j]? = some (Kid.v (l.getD j default)):=by rw [List.getElem?_map,hL];rfl
  have hf:=fun Q=>hf (l.getD j default) Q
  have w:=w64 (i:=(j:Int)+1) (by omega) (by omega)
  have hij:=hd.ij
  have w2:=w64 (i:=(i:Int)+1) (by omega) (by omega)
  have eN:elN (L.map Kid.v) j 0 3=some [.int .i64 (l.getD j default).id,.int .i64 (l.getD j default).inc,.int .i64 (l.getD j default).heard]:=by
   unfold elN;rw [e];rfl
  cases hfx:f (l.getD j default) with
  | true =>
   rw [hfx] at hf
   obtain⟨i',L',g1,g2⟩:=ih i (j+1) L (by omega) (hd.skip hjl hfx)
   refine⟨i',L',?_,g2⟩
   generalize l.getD j default=x at *
   rw [Zi] at hf
   rw [show ((j+1:Nat):Int)=(j:Int)+1 by push_cast;rfl] at g1
   rw [ye,yq]
   simp [c1,c1',eN,hf,hc,xx,w]
   simpa [y9] using g1
  | false =>
   rw [hfx] at hf
   obtain⟨i',L',g1,g2⟩:=ih (i+1) (j+1) _ (by omega) (hd.keep hjl hfx)
   refine⟨i',L',?_,g2⟩
   have hi:i < L.length:=by omega
   have ei:=kAt hi
   have ei2:(L.map Kid.v)[i]? = some (Kid.v (L.getD i default)):=by rw [List.getElem?_map,ei];rfl
   have ks:=zcI L i (l.getD j default)
   generalize l.getD j default=x at *
   generalize L.getD i default=y at *
   rw [Zi] at hf ks ei2
   rw [show ((j+1:Nat):Int)=(j:Int)+1 by push_cast;rfl,show ((i+1:Nat):Int)=(i:Int)+1 by push_cast;rfl,← ks] at g1
   have hi2:((i:Int) < L.length)=True:=eq_true (by omega)
   rw [ye,yq]
   simp [c1,c1',eN,hf,hc,hi,hi2,ei,Kid.v,z1j,splice,xx,w,w2]
   simpa [y9,Kid.v] using g1
theorem zcJ {l:List Kid} {f:Kid→Bool} {c:Nat} {cp:List AV} (hc:c < jK) (hf:∀ (x:Kid) Q,zd (z8 P1) c (Kid.v x::cp) Q=some (.bool (f x),Q)) (hl:l.length≤900000):zd (z8 P1) (66+1000000) [.ow 3 (l.map Kid.v),.fn c [] cp] Q=some (kds (outs f l),Q):=by
 have ix:=fun(Q:z3)=>zfk (Q:=Q) hc hf hl
 refine(ky (s:=P1) rfl (l.map Kid.v) (.fn c [] cp) Q).trans ?_
 cases e:l.findIdx? f with
 | none =>
  rw [e] at ix
  have:outs f l=l:=List.filter_eq_self.2 fun x hx=>by
   have:=List.findIdx?_eq_none_iff.1 e x hx
   simp [this]
  simp only [kds] at ix
  simp [ix,vU,QD,this,kds]
 | some j =>
  rw [e] at ix
  obtain⟨hj,h1,h2⟩:=List.findIdx?_eq_some_iff_getElem.1 e
  have d0:Dl l l f j (j+1):=by
   refine⟨rfl,by omega,by omega,?_,rfl⟩
   rw [List.take_add_one,List.getElem?_eq_getElem hj]
   have:outs f (l.take j)=l.take j:=List.filter_eq_self.2 fun x hx=>by
    obtain⟨k,hk,rfl⟩:=List.getElem_of_mem hx
    have hk2:k < j:=by simp at hk;omega
    have:=h2 k hk2
    simp only [List.getElem_take]
    simpa using this
   unfold outs at this ⊢
   rw [List.filter_append,this]
   simp [h1]
  obtain⟨i',L',g1,g2⟩:=z9G (Q:=Q) hc hf hl (l.length - (j+1)) j (j+1) l (by omega) d0
  have w:=w64 (i:=(j:Int)+1) (by omega) (by omega)
  have c1:((j:Int)=-1)=False:=eq_false (by omega)
  have hi:=g2.ij
  have hi2:i' < L'.length:=by rw [g2.len];exact hi
  have hi3:((i':Int) < L'.length)=True:=eq_true (by omega)
  have hk:=g2.kept
  rw [List.take_length] at hk
  rw [show ((j+1:Nat):Int)=(j:Int)+1 by push_cast;rfl] at g1
  simp only [kds] at ix
  have sl:WN 3 (.fz 3 ((L'.map Kid.v).take i'++List.replicate (L'.length - i') (mkE [.int .i64 0,.int .i64 0,.int .i64 0]))) none (some (.int .i64 (i':Int)))=some (.fz 3 ((outs f l).map Kid.v)):=by
   have hlen:((L'.map Kid.v).take i'++List.replicate (L'.length - i') (mkE [.int .i64 0,.int .i64 0,.int .i64 0])).length=L'.length:=by simp;omega
   have b:(0≤(i':Int)∧(i':Int)≤(L'.length:Int))=True:=eq_true (by omega)
   rw [z6p (by omega)]
   simp only [jq,YY,hlen,b,if_true,Int.toNat_natCast,List.drop_zero]
   rw [List.take_append_of_le_length (by simp;omega),List.take_take,Nat.min_self,← List.map_take,hk]
  simp [ix,vU,QD,c1,w,y9,g1,jN,hi2,hi3,sl,kds]
theorem zaE {l:List Kid} {v:AV} (h:Sl 3 (l.map Kid.v) v) (hl:l.length≤900000) (s:Int):zd (z8 P1) 54 [v,.int .i64 s] Q=some (kds (outs (fun x=>decide (x.id=s)) l),Q):=by
 have cl:=fun(Q:z3)=>Kn (Q:=Q) h (by omega)
 have df:=fun(Q:z3)=>zcJ (Q:=Q) (l:=l) (f:=fun x=>decide (x.id=s)) (c:=73) (cp:=[.cp [.int .i64 s] 0]) (by decide) (fun x Q=>by rw [Zi,z1g rfl];simp) hl
 simp only [Nat.reduceAdd] at df
 rw [z3R rfl]
 simp [cl,df,kds]
theorem z9H {l:List Kid} {v:AV} (h:Sl 3 (l.map Kid.v) v) (hl:l.length≤900000) {now:Int} (hn:-4000000000000≤now∧now≤4000000000000) (hh:∀ x ∈ l,-4000000000000≤x.heard∧x.heard≤4000000000000):zd (z8 P1) 39 [v,.int .i64 now] Q=some (kds (outs (fun x=>decide (20 < now - x.heard)) l),Q):=by
 have cl:=fun(Q:z3)=>Kn (Q:=Q) h (by omega)
 have df:=fun(Q:z3)=>zcJ (Q:=Q) (l:=l) (f:=fun x=>decide (20 < IntKind.i64.wrap (now - x.heard))) (c:=67) (cp:=[.cp [.int .i64 now] 0]) (by decide) (fun x Q=>by rw [Zi,z0p rfl];simp) hl
 have e:outs (fun x=>decide (20 < IntKind.i64.wrap (now - x.heard))) l=outs (fun x=>decide (20 < now - x.heard)) l:=by
  unfold outs
  refine List.filter_congr fun x hx=>?_
  have:=hh x hx
  have w:=w64 (i:=now - x.heard) (by omega) (by omega)
  show (!decide (20 < IntKind.i64.wrap (now - x.heard)))=_
  rw [w]
 rw [e] at df
 simp only [Nat.reduceAdd] at df
 rw [z2K rfl]
 simp [cl,df,kds]
end
end Go.Proofs.Ytdbbdfmkglgjdaa.Pi
