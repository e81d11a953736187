/- What the functions of kids come to: who is left out. -/
import Derived.Test.YtdbbdfmkglgjdaaPcKids
import Derived.Test.YtdbbdfmkglgjdaaPmKids
set_option linter.unusedVariables false
set_option linter.unusedSimpArgs false
namespace Go.Proofs.Ytdbbdfmkglgjdaa.Pi
open Go.Ab Go.Feed Go.Kids
set_option maxRecDepth 100000
structure Dl (l L:List Kid) (f:Kid→Bool) (i j:Nat):Prop where
 len:L.length=l.length
 ij:i < j
 jn:j≤l.length
 kept:L.take i=outs f (l.take j)
 rest:L.drop j=l.drop j
theorem Dl.at {l L:List Kid} {f:Kid→Bool} {i j:Nat} (h:Dl l L f i j) (hj:j < l.length):L[j]? = l[j]? := by
 have:=congrArg List.head? h.rest
 rwa [List.head?_drop,List.head?_drop] at this
theorem Dl.skip {l L:List Kid} {f:Kid→Bool} {i j:Nat} (h:Dl l L f i j) (hj:j < l.length) (hf:f (l.getD j default)=true):Dl l L f i (j+1):=by
 have hx:l[j]? = some (l.getD j default):=kAt hj
 refine⟨h.len,by have:=h.ij;omega,by omega,?_,?_⟩
 ·rw [h.kept,List.take_add_one,hx]
  generalize l.getD j default=x at *
  simp [outs,hf]
 ·have:=congrArg (List.drop 1) h.rest
  rwa [List.drop_drop,List.drop_drop] at this
theorem Dl.keep {l L:List Kid} {f:Kid→Bool} {i j:Nat} (h:Dl l L f i j) (hj:j < l.length) (hf:f (l.getD j default)=false):Dl l (L.set i (l.getD j default)) f (i+1) (j+1):=by
 have hx:l[j]? = some (l.getD j default):=kAt hj
 have hij:=h.ij
 refine⟨by rw [List.length_set];exact h.len,by omega,by omega,?_,?_⟩
 ·rw [List.take_add_one,List.take_add_one (l:=l),hx,List.getElem?_set_self (by rw [h.len];omega),List.take_set_of_le (by omega),h.kept]
  generalize l.getD j default=x at *
  simp [outs,hf]
 ·rw [List.drop_set_of_lt (by omega)]
  have:=congrArg (List.drop 1) h.rest
  rwa [List.drop_drop,List.drop_drop] at this
section
variable {Q:z3}
theorem zbx {l:List Kid} {f:Kid→Bool} {c:Nat} {cp:List AV} (hc:c < ko) (hf:∀ (x:Kid) Q,zc (z6 P1) c (Kid.v x::cp) Q=some (.bool (f x),Q)) (hl:l.length≤900000):∀ (m i j:Nat) (L:List Kid),j+m=l.length→Dl l L f i j →
  ∃ (i':Nat) (L':List Kid),yt P1 (.fn c [] cp) (.int .i64 i) (.int .i64 j) (L.map Kid.v) Q=jK (.int .i64 (i':Int)) (L'.map Kid.v) Q∧Dl l L' f i' l.length:=by
 intro m
 induction m with
 | zero =>
  intro i j L hj hd
  obtain rfl:j=l.length:=by omega
  have c1:((l.length:Int) < L.length)=False:=eq_false (by rw [hd.len];omega)
  refine⟨i,L,?_,hd⟩
  rw [yf,yr]
  simp [c1]
 | succ m ih =>
  intro i j L hj hd
  have hjl:j < l.length:=by omega
  have c1:((j:Int) < L.length)=True:=eq_true (by rw [hd.len];omega)
  have c1':j < L.length:=by rw [hd.len];exact hjl
  have hx:=kAt hjl
  have hL:L[j]? = some (l.getD j default):=by rw [hd.at hjl];exact hx
  have e:(L.map Kid.v)[j]? = some (Kid.v (l.getD j default)):=by rw [List.getElem?_map,hL];rfl
  have hf:=fun Q=>hf (l.getD j default) Q
  have w:=w64 (i:=(j:Int)+1) (by omega) (by omega)
  have hij:=hd.ij
  have w2:=w64 (i:=(i:Int)+1) (by omega) (by omega)
  have eN:elN (L.map Kid.v) j 0 3=some [.int .i64 (l.getD j default).id,.int .i64 (l.getD j default).inc,.int .i64 (l.getD j default).heard]:=by
   unfold elN;rw [e];rfl
  cases hfx:f (l.getD j default) with
  | true =>
   rw [hfx] at hf
   obtain⟨i',L',g1,g2⟩:=ih i (j+1) L (by omega) (hd.skip hjl hfx)
   refine⟨i',L',?_,g2⟩
   generalize l.getD j default=x at *
   rw [wg] at hf
   rw [show ((j+1:Nat):Int)=(j:Int)+1 by push_cast;rfl] at g1
   rw [yf,yr]
   simp [c1,c1',eN,hf,hc,xB,w]
   simpa [y9] using g1
  | false =>
   rw [hfx] at hf
   obtain⟨i',L',g1,g2⟩:=ih (i+1) (j+1) _ (by omega) (hd.keep hjl hfx)
   refine⟨i',L',?_,g2⟩
   have hi:i < L.length:=by omega
   have ei:=kAt hi
   have ei2:(L.map Kid.v)[i]? = some (Kid.v (L.getD i default)):=by rw [List.getElem?_map,ei];rfl
   have ks:=zem L i (l.getD j default)
   generalize l.getD j default=x at *
   generalize L.getD i default=y at *
   rw [wg] at hf ks ei2
   rw [show ((j+1:Nat):Int)=(j:Int)+1 by push_cast;rfl,show ((i+1:Nat):Int)=(i:Int)+1 by push_cast;rfl,← ks] at g1
   have hi2:((i:Int) < L.length)=True:=eq_true (by omega)
   rw [yf,yr]
   simp [c1,c1',eN,hf,hc,hi,hi2,ei,Kid.v,z2X,splice,xB,w,w2]
   simpa [y9,Kid.v] using g1
theorem zh7 {l:List Kid} {f:Kid→Bool} {c:Nat} {cp:List AV} (hc:c < ko) (hf:∀ (x:Kid) Q,zc (z6 P1) c (Kid.v x::cp) Q=some (.bool (f x),Q)) (hl:l.length≤900000):zc (z6 P1) (66+1000000) [.ow 3 (l.map Kid.v),.fn c [] cp] Q=some (kds (outs f l),Q):=by
 have ix:=fun(Q:z3)=>zgW (Q:=Q) hc hf hl
 refine(vc (s:=P1) rfl (l.map Kid.v) (.fn c [] cp) Q).trans ?_
 cases e:l.findIdx? f with
 | none =>
  rw [e] at ix
  have:outs f l=l:=List.filter_eq_self.2 fun x hx=>by
   have:=List.findIdx?_eq_none_iff.1 e x hx
   simp [this]
  simp only [kds] at ix
  simp [ix,wK,Jt,this,kds]
 | some j =>
  rw [e] at ix
  obtain⟨hj,h1,h2⟩:=List.findIdx?_eq_some_iff_getElem.1 e
  have d0:Dl l l f j (j+1):=by
   refine⟨rfl,by omega,by omega,?_,rfl⟩
   rw [List.take_add_one,List.getElem?_eq_getElem hj]
   have:outs f (l.take j)=l.take j:=List.filter_eq_self.2 fun x hx=>by
    obtain⟨k,hk,rfl⟩:=List.getElem_of_mem hx
    have hk2:k < j:=by simp at hk;omega
    have:=h2 k hk2
    simp only [List.getElem_take]
    simpa using this
   unfold outs at this ⊢
   rw [List.filter_append,this]
   simp [h1]
  obtain⟨i',L',g1,g2⟩:=zbx (Q:=Q) hc hf hl (l.length - (j+1)) j (j+1) l (by omega) d0
  have w:=w64 (i:=(j:Int)+1) (by omega) (by omega)
  have c1:((j:Int)=-1)=False:=eq_false (by omega)
  have hi:=g2.ij
  have hi2:i' < L'.length:=by rw [g2.len];exact hi
  have hi3:((i':Int) < L'.length)=True:=eq_true (by omega)
  have hk:=g2.kept
  rw [List.take_length] at hk
  rw [show ((j+1:Nat):Int)=(j:Int)+1 by push_cast;rfl] at g1
  simp only [kds] at ix
  have sl:QW 3 (.fz 3 ((L'.map Kid.v).take i'++List.replicate (L'.length - i') (mkE [.int .i64 0,.int .i64 0,.int .i64 0]))) none (some (.int .i64 (i':Int)))=some (.fz 3 ((outs f l).map Kid.v)):=by
   have hlen:((L'.map Kid.v).take i'++List.replicate (L'.length - i') (mkE [.int .i64 0,.int .i64 0,.int .i64 0])).length=L'.length:=by simp;omega
   have b:(0≤(i':Int)∧(i':Int)≤(L'.length:Int))=True:=eq_true (by omega)
   rw [WM (by omega)]
   simp only [jE,XP,hlen,b,if_true,Int.toNat_natCast,List.drop_zero]
   rw [List.take_append_of_le_length (by simp;omega),List.take_take,Nat.min_self,← List.map_take,hk]
  simp [ix,wK,Jt,c1,w,y9,g1,ku,hi2,hi3,sl,kds]
theorem zcz {l:List Kid} {v:AV} (h:Sl 3 (l.map Kid.v) v) (hl:l.length≤900000) (s:Int):zc (z6 P1) 54 [v,.int .i64 s] Q=some (kds (outs (fun x=>decide (x.id=s)) l),Q):=by
 have cl:=fun(Q:z3)=>z1P (Q:=Q) h (by omega)
 have df:=fun(Q:z3)=>zh7 (Q:=Q) (l:=l) (f:=fun x=>decide (x.id=s)) (c:=73) (cp:=[.cp [.int .i64 s] 0]) (by decide) (fun x Q=>by rw [wg,z2U rfl];simp) hl
 simp only [Nat.reduceAdd] at df
 rw [z5u rfl]
 simp [cl,df,kds]
end
end Go.Proofs.Ytdbbdfmkglgjdaa.Pi
/- Who hangs on z5D: a plain model. -/
namespace Go.Tie
open Go.Feed Go.Kids
structure Tie where
 id:Int
 inc:Int
 now:Int
 parent:Int
 pinc:Int
 grand:Int
 path:List Int
 epoch:Int
 born:Int
 asked:Int
 till:Int
 step:Int
 kids:List Kid
 deriving DecidableEq,Inhabited
structure Msg where
 kind:Int
 frm:Int
 to:Int
 inc:Int
 epoch:Int
 age:Int
 path:List Int
 lo:Int
 hi:Int
 text:List UInt8
 deriving DecidableEq,Inhabited
abbrev kj (p:List Int):Prop:=1≤p.length∧p.length≤10∧p.getD 0 0=1∧∀ k,k < p.length→(1≤p.getD k 0∧p.getD k 0≤8)∧p.getD k 0 ∉ p.take k
def grand (p:List Int):Int:=if p.length < 2 then 0 else p.getD (p.length - 2) 0
def Jr (p:List Int):Int:=if grand p=0 then 1 else grand p
abbrev jq (t:Tie):Prop:=t.id=1∨t.parent≠0∧t.now - t.born≤20
def says (t:Tie) (kind to lo:Int):Msg:=⟨kind,t.id,to,t.inc,0,0,[],lo,0,[]⟩
def full (t:Tie) (kind to lo:Int):Msg:=⟨kind,t.id,to,t.inc,t.epoch,t.now - t.born,t.path,lo,0,[]⟩
def lets (t:Tie) (step:Int):Tie:={ t with parent:=0,pinc:=0,path:=[],asked:=0,step:=step }
def New (id inc now grand:Int):Tie:=if id=1 then ⟨id,inc,now,0,0,grand,[1],0,now,0,0,0,[]⟩ else ⟨id,inc,now,0,0,grand,[],0,0,0,0,0,[]⟩
def tired (t:Tie):Tie:=if t.asked≠0∧t.till≤t.now then { t with asked:=0,step:=t.step+1 } else t
def z5D (t:Tie):Int:=if t.step=0∧t.grand≠0∧t.grand≠t.id then t.grand else 1
def asked (t:Tie):Tie:={ t with asked:=z5D t,till:=t.now+3 }
def asks (t:Tie):Tie × List Msg :=
 if t.id=1∨t.parent≠0 then (t,[]) else if (tired t).asked≠0 then (tired t,[]) else (asked (tired t),[says (asked (tired t)) 1 (asked (tired t)).asked 0])
def beats (t:Tie):List Msg:=if t.now % 2≠0 then [] else (if t.parent≠0 then [says t 4 t.parent 0] else [])++if jq t then t.kids.map fun k=>full t 5 k.id 0 else []
def later (t:Tie):Tie:={ t with now:=t.now+1,kids:=outs (fun x=>decide (20 < t.now+1 - x.heard)) t.kids }
def turned (t:Tie):Tie:=if t.id=1∧t.now % 2=0 then { t with epoch:=t.epoch+1,born:=t.now } else if t.id≠1∧t.parent≠0∧¬ jq t then lets t 0 else t
def tick (t:Tie):Tie × List Msg:=((asks (turned (later t))).1,(asks (turned (later t))).2++beats (asks (turned (later t))).1)
def z5E (t:Tie):Int:=if t.id=1 then 8 else 3
abbrev z26 (t:Tie) (s:Int):Prop:=jq t∧s ∉ t.path∧((x6 t.kids s).isSome=true∨(t.kids.length:Int) < z5E t)
def hears (t:Tie) (m:Msg):Tie:={ t with kids:=(hear t.kids ⟨m.frm,m.inc,t.now⟩).1 }
def attach (t:Tie) (m:Msg) (lo:Int):Tie × List Msg:=if z26 t m.frm then (hears t m,[full (hears t m) 2 m.frm lo]) else (t,[says t 3 m.frm 0])
def way (t:Tie) (m:Msg) (p:List Int):Tie:={ t with path:=p,grand:=Jr m.path }
def accept (t:Tie) (m:Msg):Tie × List Msg :=
 if t.asked≠m.frm∨t.parent≠0 then (t,if t.parent≠m.frm then [says t 6 m.frm 0] else []) else
 if ¬ kj (m.path++[t.id])∨20 < m.age then ({ t with asked:=0,step:=t.step+1 },[says t 6 m.frm 0]) else
 ({ t with asked:=0,path:=m.path++[t.id],grand:=Jr m.path,parent:=m.frm,pinc:=m.inc,epoch:=m.epoch,born:=t.now - m.age,step:=0 },[])
def refuse (t:Tie) (m:Msg):Tie:=if m.frm=t.asked then { t with asked:=0,step:=t.step+1 } else if m.frm=t.parent then lets t 0 else t
def beatUp (t:Tie) (m:Msg):Tie × List Msg:=if (x6 t.kids m.frm).isSome=true then (hears t m,[]) else (t,[says t 3 m.frm 0])
def z0Y (t:Tie) (m:Msg):Tie:=if t.born < t.now - m.age then { t with born:=t.now - m.age,epoch:=m.epoch } else t
def beatDn (t:Tie) (m:Msg):Tie × List Msg :=
 if m.frm≠t.parent then (t,[says t 6 m.frm 0]) else
 if ¬ kj (m.path++[t.id]) then (lets t 1,[says t 6 m.frm 0]) else (z0Y (way t m (m.path++[t.id])) m,[])
def detach (t:Tie) (m:Msg):Tie:={ t with kids:=outs (fun x=>decide (x.id=m.frm)) t.kids }
def z2W (l:List Kid) (s n:Int):Bool:=match x6 l s with
 | some x=>decide (n < x.inc)
 | none=>false
def gone (t:Tie) (m:Msg):Tie:=if t.parent≠0∧m.frm=t.parent∧t.pinc < m.inc then lets t 0 else t
def comesK (t:Tie) (m:Msg) (lo:Int):Tie × List Msg :=
 if m.kind=1 then attach t m lo else if m.kind=2 then accept t m else if m.kind=3 then (refuse t m,[]) else if m.kind=4 then beatUp t m else if m.kind=5 then beatDn t m else if m.kind=6 then (detach t m,[]) else (t,[])
def comes (t:Tie) (m:Msg) (lo:Int):Tie × List Msg:=if z2W t.kids m.frm m.inc=true∨m.frm=t.parent∧m.inc < t.pinc then (t,[]) else comesK (gone t m) m lo
def leave (t:Tie):List Msg:=(if t.parent≠0 then [says t 6 t.parent 0] else [])++t.kids.map fun k=>says t 3 k.id 0
structure Bd (t:Tie) (k:Nat):Prop where
 now:0≤t.now∧t.now≤k
 born:-k≤t.born∧t.born≤k
 epoch:-k≤t.epoch∧t.epoch≤k
 till:-k≤t.till∧t.till≤k
 step:0≤t.step∧t.step≤k
 path:t.path.length≤10
 kids:t.kids.length≤k
 ks:KS t.kids
 heard:∀ x ∈ t.kids,0≤x.heard∧x.heard≤k
theorem Bd.weaken {t:Tie} {k m:Nat} (h:Bd t k) (hm:k≤m):Bd t m :=
 ⟨by have:=h.now;omega,by have:=h.born;omega,by have:=h.epoch;omega,by have:=h.till;omega,by have:=h.step;omega,h.path,by have:=h.kids;omega,h.ks,fun x hx=>by have:=h.heard x hx;omega⟩
structure Mb (m:Msg):Prop where
 age:0≤m.age∧m.age≤100
 epoch:0≤m.epoch∧m.epoch≤100
 path:m.path.length≤9
theorem Bd.new {id inc now g:Int} (h:0≤now∧now≤100):Bd (New id inc now g) 100:=by
 unfold New
 split<;>exact⟨by simp;omega,by simp<;>omega,by simp,by simp,by simp,by simp,by simp,List.Pairwise.nil,by simp⟩
theorem Bd.lets {t:Tie} {k:Nat} (h:Bd t k) {s:Int} (hs:0≤s∧s≤k):Bd (lets t s) k:=⟨h.now,h.born,h.epoch,h.till,hs,by simp [Tie.lets],h.kids,h.ks,h.heard⟩
theorem WA {f:Kid→Bool} {l:List Kid} {x:Kid} (h:x ∈ outs f l):x ∈ l:=(List.mem_filter.1 h).1
theorem z5F (f:Kid→Bool) (l:List Kid):(outs f l).length≤l.length:=List.length_filter_le _ _
theorem Bd.later {t:Tie} {k:Nat} (h:Bd t k):Bd (later t) (k+1):=by
 have hn:=h.now
 refine⟨by simp only [Tie.later];omega,by have:=h.born;simp only [Tie.later];omega,by have:=h.epoch;simp only [Tie.later];omega,by have:=h.till;simp only [Tie.later];omega,by have:=h.step;simp only [Tie.later];omega,h.path,?_,Wz h.ks _,fun x hx=>?_⟩
 ·have:=z5F (fun x=>decide (20 < t.now+1 - x.heard)) t.kids
  have:=h.kids
  simp only [Tie.later];omega
 ·have:=h.heard x (WA hx);omega
theorem Bd.turned {t:Tie} {k:Nat} (h:Bd t k):Bd (turned t) (k+1):=by
 have hn:=h.now
 unfold Tie.turned
 split
 ·have h2:=h.weaken (Nat.le_succ k)
  exact⟨h2.now,by simp;omega,by have:=h.epoch;simp;omega,h2.till,h2.step,h2.path,h2.kids,h2.ks,h2.heard⟩
 ·split
  ·exact(h.lets (by omega)).weaken (by omega)
  ·exact h.weaken (by omega)
theorem Bd.tired {t:Tie} {k:Nat} (h:Bd t k):Bd (tired t) (k+1):=by
 unfold Tie.tired
 split
 ·have h2:=h.weaken (Nat.le_succ k)
  exact⟨h2.now,h2.born,h2.epoch,h2.till,by have:=h.step;simp;omega,h2.path,h2.kids,h2.ks,h2.heard⟩
 ·exact h.weaken (by omega)
theorem Bd.asked {t:Tie} {k:Nat} (h:Bd t k):Bd (asked t) (k+3):=by
 have h2:=h.weaken (show k≤k+3 by omega)
 exact⟨h2.now,h2.born,h2.epoch,by have:=h.now;simp only [Go.Tie.asked];omega,h2.step,h2.path,h2.kids,h2.ks,h2.heard⟩
theorem Bd.asks {t:Tie} {k:Nat} (h:Bd t k):Bd (asks t).1 (k+4):=by
 unfold Tie.asks
 split
 ·exact h.weaken (by omega)
 ·split
  ·exact h.tired.weaken (by omega)
  ·exact h.tired.asked
theorem Bd.tick {t:Tie} {k:Nat} (h:Bd t k):Bd (tick t).1 (k+6):=h.later.turned.asks
theorem Bd.hears {t:Tie} {k:Nat} (h:Bd t k) (m:Msg):Bd (hears t m) (k+1):=by
 have h2:=h.weaken (Nat.le_succ k)
 refine⟨h2.now,h2.born,h2.epoch,h2.till,h2.step,h2.path,?_,z4r h.ks _,fun x hx=>?_⟩
 ·show (hear t.kids ⟨m.frm,m.inc,t.now⟩).1.length≤k+1
  have:=h.kids
  cases hk:(hear t.kids ⟨m.frm,m.inc,t.now⟩).2 with
  | true=>have:=zae t.kids _ hk;split at this<;>omega
  | false=>rw [Wy hk];omega
 ·have hx:x ∈ (hear t.kids ⟨m.frm,m.inc,t.now⟩).1:=hx
  cases hk:(hear t.kids ⟨m.frm,m.inc,t.now⟩).2 with
  | true =>
   rcases(Wx h.ks _ hk x).1 hx with rfl | ⟨h3,_⟩
   ·have:=h.now;simp;omega
   ·exact h2.heard x h3
  | false=>rw [Wy hk] at hx;exact h2.heard x hx
theorem Bd.attach {t:Tie} {k:Nat} (h:Bd t k) (m:Msg) (lo:Int):Bd (attach t m lo).1 (k+1):=by
 unfold Tie.attach
 split
 ·exact h.hears m
 ·exact h.weaken (by omega)
theorem Bd.accept {t:Tie} {k:Nat} (h:Bd t k) {m:Msg} (hm:Mb m):Bd (accept t m).1 (k+100):=by
 have h2:=h.weaken (show k≤k+100 by omega)
 unfold Tie.accept
 split
 ·exact h2
 ·split
  ·exact⟨h2.now,h2.born,h2.epoch,h2.till,by have:=h.step;simp;omega,h2.path,h2.kids,h2.ks,h2.heard⟩
  ·have:=h.now;have:=hm.age;have:=hm.epoch;have:=hm.path
   exact⟨h2.now,by simp;omega,by simp;omega,h2.till,by simp;omega,by simp;omega,h2.kids,h2.ks,h2.heard⟩
theorem Bd.refuse {t:Tie} {k:Nat} (h:Bd t k) (m:Msg):Bd (refuse t m) (k+1):=by
 have h2:=h.weaken (Nat.le_succ k)
 unfold Tie.refuse
 split
 ·exact⟨h2.now,h2.born,h2.epoch,h2.till,by have:=h.step;simp;omega,h2.path,h2.kids,h2.ks,h2.heard⟩
 ·split
  ·exact h2.lets (by omega)
  ·exact h2
theorem Bd.beatUp {t:Tie} {k:Nat} (h:Bd t k) (m:Msg):Bd (beatUp t m).1 (k+1):=by
 unfold Tie.beatUp
 split
 ·exact h.hears m
 ·exact h.weaken (by omega)
theorem Bd.beatDn {t:Tie} {k:Nat} (h:Bd t k) {m:Msg} (hm:Mb m):Bd (beatDn t m).1 (k+100):=by
 have h2:=h.weaken (show k≤k+100 by omega)
 have:=h.now;have:=hm.age;have:=hm.epoch;have:=hm.path
 unfold Tie.beatDn
 split
 ·exact h2
 ·split
  ·exact h2.lets (by omega)
  ·unfold z0Y
   split
   ·exact⟨h2.now,by simp only [way];omega,by simp;omega,h2.till,h2.step,by simp [way];omega,h2.kids,h2.ks,h2.heard⟩
   ·exact⟨h2.now,h2.born,h2.epoch,h2.till,h2.step,by simp [way];omega,h2.kids,h2.ks,h2.heard⟩
theorem Bd.detach {t:Tie} {k:Nat} (h:Bd t k) (m:Msg):Bd (detach t m) k:=by
 refine⟨h.now,h.born,h.epoch,h.till,h.step,h.path,?_,Wz h.ks _,fun x hx=>h.heard x (WA hx)⟩
 have:=z5F (fun x=>decide (x.id=m.frm)) t.kids
 have:=h.kids
 simp only [Tie.detach];omega
theorem Bd.gone {t:Tie} {k:Nat} (h:Bd t k) (m:Msg):Bd (gone t m) k:=by
 unfold Tie.gone
 split
 ·exact h.lets (by omega)
 ·exact h
theorem Bd.comesK {t:Tie} {k:Nat} (h:Bd t k) {m:Msg} (hm:Mb m) (lo:Int):Bd (comesK t m lo).1 (k+100):=by
 unfold Tie.comesK
 split
 ·exact(h.attach m lo).weaken (by omega)
 ·split
  ·exact h.accept hm
  ·split
   ·exact(h.refuse m).weaken (by omega)
   ·split
    ·exact(h.beatUp m).weaken (by omega)
    ·split
     ·exact h.beatDn hm
     ·split
      ·exact(h.detach m).weaken (by omega)
      ·exact h.weaken (by omega)
theorem Bd.comes {t:Tie} {k:Nat} (h:Bd t k) {m:Msg} (hm:Mb m) (lo:Int):Bd (comes t m lo).1 (k+100):=by
 unfold Tie.comes
 split
 ·exact h.weaken (by omega)
 ·exact(h.gone m).comesK hm lo
end Go.Tie
