/- Who hangs on z1i: a plain model. -/
import Derived.Test.YtdbbdfmkglgjdaaPmKids
set_option linter.unusedVariables false
namespace Go.Tie
open Go.Feed Go.Kids
structure Tie where
 id:Int
 inc:Int
 now:Int
 parent:Int
 pinc:Int
 grand:Int
 path:List Int
 epoch:Int
 born:Int
 asked:Int
 till:Int
 step:Int
 kids:List Kid
 deriving DecidableEq,Inhabited
structure Msg where
 kind:Int
 frm:Int
 to:Int
 inc:Int
 epoch:Int
 age:Int
 path:List Int
 lo:Int
 hi:Int
 text:List UInt8
 deriving DecidableEq,Inhabited
abbrev jJ (p:List Int):Prop:=1≤p.length∧p.length≤10∧p.getD 0 0=1∧∀ k,k < p.length→(1≤p.getD k 0∧p.getD k 0≤8)∧p.getD k 0 ∉ p.take k
def grand (p:List Int):Int:=if p.length < 2 then 0 else p.getD (p.length - 2) 0
def Yb (p:List Int):Int:=if grand p=0 then 1 else grand p
abbrev qv (t:Tie):Prop:=t.id=1∨t.parent≠0∧t.now - t.born≤20
def says (t:Tie) (kind to lo:Int):Msg:=⟨kind,t.id,to,t.inc,0,0,[],lo,0,[]⟩
def full (t:Tie) (kind to lo:Int):Msg:=⟨kind,t.id,to,t.inc,t.epoch,t.now - t.born,t.path,lo,0,[]⟩
def lets (t:Tie) (step:Int):Tie:={ t with parent:=0,pinc:=0,path:=[],asked:=0,step:=step }
def New (id inc now grand:Int):Tie:=if id=1 then ⟨id,inc,now,0,0,grand,[1],0,now,0,0,0,[]⟩ else ⟨id,inc,now,0,0,grand,[],0,0,0,0,0,[]⟩
def tired (t:Tie):Tie:=if t.asked≠0∧t.till≤t.now then { t with asked:=0,step:=t.step+1 } else t
def z1i (t:Tie):Int:=if t.step=0∧t.grand≠0∧t.grand≠t.id then t.grand else 1
def asked (t:Tie):Tie:={ t with asked:=z1i t,till:=t.now+3 }
def asks (t:Tie):Tie × List Msg :=
 if t.id=1∨t.parent≠0 then (t,[]) else if (tired t).asked≠0 then (tired t,[]) else (asked (tired t),[says (asked (tired t)) 1 (asked (tired t)).asked 0])
def beats (t:Tie):List Msg:=if t.now % 2≠0 then [] else (if t.parent≠0 then [says t 4 t.parent 0] else [])++if qv t then t.kids.map fun k=>full t 5 k.id 0 else []
def later (t:Tie):Tie:={ t with now:=t.now+1,kids:=outs (fun x=>decide (20 < t.now+1 - x.heard)) t.kids }
def turned (t:Tie):Tie:=if t.id=1∧t.now % 2=0 then { t with epoch:=t.epoch+1,born:=t.now } else if t.id≠1∧t.parent≠0∧¬ qv t then lets t 0 else t
def tick (t:Tie):Tie × List Msg:=((asks (turned (later t))).1,(asks (turned (later t))).2++beats (asks (turned (later t))).1)
def z6X (t:Tie):Int:=if t.id=1 then 8 else 3
abbrev z41 (t:Tie) (s:Int):Prop:=qv t∧s ∉ t.path∧((jA t.kids s).isSome=true∨(t.kids.length:Int) < z6X t)
def hears (t:Tie) (m:Msg):Tie:={ t with kids:=(hear t.kids ⟨m.frm,m.inc,t.now⟩).1 }
def attach (t:Tie) (m:Msg) (lo:Int):Tie × List Msg:=if z41 t m.frm then (hears t m,[full (hears t m) 2 m.frm lo]) else (t,[says t 3 m.frm 0])
def way (t:Tie) (m:Msg) (p:List Int):Tie:={ t with path:=p,grand:=Yb m.path }
def accept (t:Tie) (m:Msg):Tie × List Msg :=
 if t.asked≠m.frm∨t.parent≠0 then (t,if t.parent≠m.frm then [says t 6 m.frm 0] else []) else
 if ¬ jJ (m.path++[t.id])∨20 < m.age then ({ t with asked:=0,step:=t.step+1 },[says t 6 m.frm 0]) else
 ({ t with asked:=0,path:=m.path++[t.id],grand:=Yb m.path,parent:=m.frm,pinc:=m.inc,epoch:=m.epoch,born:=t.now - m.age,step:=0 },[])
def refuse (t:Tie) (m:Msg):Tie:=if m.frm=t.asked then { t with asked:=0,step:=t.step+1 } else if m.frm=t.parent then lets t 0 else t
def beatUp (t:Tie) (m:Msg):Tie × List Msg:=if (jA t.kids m.frm).isSome=true then (hears t m,[]) else (t,[says t 3 m.frm 0])
def KU (t:Tie) (m:Msg):Tie:=if t.born < t.now - m.age then { t with born:=t.now - m.age,epoch:=m.epoch } else t
def beatDn (t:Tie) (m:Msg):Tie × List Msg :=
 if m.frm≠t.parent then (t,[says t 6 m.frm 0]) else
 if ¬ jJ (m.path++[t.id]) then (lets t 1,[says t 6 m.frm 0]) else (KU (way t m (m.path++[t.id])) m,[])
def detach (t:Tie) (m:Msg):Tie:={ t with kids:=outs (fun x=>decide (x.id=m.frm)) t.kids }
def zaY (l:List Kid) (s n:Int):Bool:=match jA l s with
 | some x=>decide (n < x.inc)
 | none=>false
def gone (t:Tie) (m:Msg):Tie:=if t.parent≠0∧m.frm=t.parent∧t.pinc < m.inc then lets t 0 else t
def comesK (t:Tie) (m:Msg) (lo:Int):Tie × List Msg :=
 if m.kind=1 then attach t m lo else if m.kind=2 then accept t m else if m.kind=3 then (refuse t m,[]) else if m.kind=4 then beatUp t m else if m.kind=5 then beatDn t m else if m.kind=6 then (detach t m,[]) else (t,[])
def comes (t:Tie) (m:Msg) (lo:Int):Tie × List Msg:=if zaY t.kids m.frm m.inc=true∨m.frm=t.parent∧m.inc < t.pinc then (t,[]) else comesK (gone t m) m lo
def leave (t:Tie):List Msg:=(if t.parent≠0 then [says t 6 t.parent 0] else [])++t.kids.map fun k=>says t 3 k.id 0
structure Bd (t:Tie) (k:Nat):Prop where
 now:0≤t.now∧t.now≤k
 born:-k≤t.born∧t.born≤k
 epoch:-k≤t.epoch∧t.epoch≤k
 till:-k≤t.till∧t.till≤k
 step:0≤t.step∧t.step≤k
 path:t.path.length≤10
 kids:t.kids.length≤k
 ks:KS t.kids
 heard:∀ x ∈ t.kids,0≤x.heard∧x.heard≤k
theorem Bd.weaken {t:Tie} {k m:Nat} (h:Bd t k) (hm:k≤m):Bd t m :=
 ⟨by have:=h.now;omega,by have:=h.born;omega,by have:=h.epoch;omega,by have:=h.till;omega,by have:=h.step;omega,h.path,by have:=h.kids;omega,h.ks,fun x hx=>by have:=h.heard x hx;omega⟩
structure Mb (m:Msg):Prop where
 age:0≤m.age∧m.age≤100
 epoch:0≤m.epoch∧m.epoch≤100
 path:m.path.length≤9
theorem Bd.new {id inc now g:Int} (h:0≤now∧now≤100):Bd (New id inc now g) 100:=by
 unfold New
 split<;>exact⟨by simp;omega,by simp<;>omega,by simp,by simp,by simp,by simp,by simp,List.Pairwise.nil,by simp⟩
theorem Bd.lets {t:Tie} {k:Nat} (h:Bd t k) {s:Int} (hs:0≤s∧s≤k):Bd (lets t s) k:=⟨h.now,h.born,h.epoch,h.till,hs,by simp [Tie.lets],h.kids,h.ks,h.heard⟩
theorem YI {f:Kid→Bool} {l:List Kid} {x:Kid} (h:x ∈ outs f l):x ∈ l:=(List.mem_filter.1 h).1
theorem KV (f:Kid→Bool) (l:List Kid):(outs f l).length≤l.length:=List.length_filter_le _ _
theorem Bd.later {t:Tie} {k:Nat} (h:Bd t k):Bd (later t) (k+1):=by
 have hn:=h.now
 refine⟨by simp only [Tie.later];omega,by have:=h.born;simp only [Tie.later];omega,by have:=h.epoch;simp only [Tie.later];omega,by have:=h.till;simp only [Tie.later];omega,by have:=h.step;simp only [Tie.later];omega,h.path,?_,z2R h.ks _,fun x hx=>?_⟩
 ·have:=KV (fun x=>decide (20 < t.now+1 - x.heard)) t.kids
  have:=h.kids
  simp only [Tie.later];omega
 ·have:=h.heard x (YI hx);omega
theorem Bd.turned {t:Tie} {k:Nat} (h:Bd t k):Bd (turned t) (k+1):=by
 have hn:=h.now
 unfold Tie.turned
 split
 ·have h2:=h.weaken (Nat.le_succ k)
  exact⟨h2.now,by simp;omega,by have:=h.epoch;simp;omega,h2.till,h2.step,h2.path,h2.kids,h2.ks,h2.heard⟩
 ·split
  ·exact(h.lets (by omega)).weaken (by omega)
  ·exact h.weaken (by omega)
theorem Bd.tired {t:Tie} {k:Nat} (h:Bd t k):Bd (tired t) (k+1):=by
 unfold Tie.tired
 split
 ·have h2:=h.weaken (Nat.le_succ k)
  exact⟨h2.now,h2.born,h2.epoch,h2.till,by have:=h.step;simp;omega,h2.path,h2.kids,h2.ks,h2.heard⟩
 ·exact h.weaken (by omega)
theorem Bd.asked {t:Tie} {k:Nat} (h:Bd t k):Bd (asked t) (k+3):=by
 have h2:=h.weaken (show k≤k+3 by omega)
 exact⟨h2.now,h2.born,h2.epoch,by have:=h.now;simp only [Go.Tie.asked];omega,h2.step,h2.path,h2.kids,h2.ks,h2.heard⟩
theorem Bd.asks {t:Tie} {k:Nat} (h:Bd t k):Bd (asks t).1 (k+4):=by
 unfold Tie.asks
 split
 ·exact h.weaken (by omega)
 ·split
  ·exact h.tired.weaken (by omega)
  ·exact h.tired.asked
theorem Bd.tick {t:Tie} {k:Nat} (h:Bd t k):Bd (tick t).1 (k+6):=h.later.turned.asks
theorem Bd.hears {t:Tie} {k:Nat} (h:Bd t k) (m:Msg):Bd (hears t m) (k+1):=by
 have h2:=h.weaken (Nat.le_succ k)
 refine⟨h2.now,h2.born,h2.epoch,h2.till,h2.step,h2.path,?_,z5X h.ks _,fun x hx=>?_⟩
 ·show (hear t.kids ⟨m.frm,m.inc,t.now⟩).1.length≤k+1
  have:=h.kids
  cases hk:(hear t.kids ⟨m.frm,m.inc,t.now⟩).2 with
  | true=>have:=z40 t.kids _ hk;split at this<;>omega
  | false=>rw [J2 hk];omega
 ·have hx:x ∈ (hear t.kids ⟨m.frm,m.inc,t.now⟩).1:=hx
  cases hk:(hear t.kids ⟨m.frm,m.inc,t.now⟩).2 with
  | true =>
   rcases(KT h.ks _ hk x).1 hx with rfl | ⟨h3,_⟩
   ·have:=h.now;simp;omega
   ·exact h2.heard x h3
  | false=>rw [J2 hk] at hx;exact h2.heard x hx
theorem Bd.attach {t:Tie} {k:Nat} (h:Bd t k) (m:Msg) (lo:Int):Bd (attach t m lo).1 (k+1):=by
 unfold Tie.attach
 split
 ·exact h.hears m
 ·exact h.weaken (by omega)
theorem Bd.accept {t:Tie} {k:Nat} (h:Bd t k) {m:Msg} (hm:Mb m):Bd (accept t m).1 (k+100):=by
 have h2:=h.weaken (show k≤k+100 by omega)
 unfold Tie.accept
 split
 ·exact h2
 ·split
  ·exact⟨h2.now,h2.born,h2.epoch,h2.till,by have:=h.step;simp;omega,h2.path,h2.kids,h2.ks,h2.heard⟩
  ·have:=h.now;have:=hm.age;have:=hm.epoch;have:=hm.path
   exact⟨h2.now,by simp;omega,by simp;omega,h2.till,by simp;omega,by simp;omega,h2.kids,h2.ks,h2.heard⟩
theorem Bd.refuse {t:Tie} {k:Nat} (h:Bd t k) (m:Msg):Bd (refuse t m) (k+1):=by
 have h2:=h.weaken (Nat.le_succ k)
 unfold Tie.refuse
 split
 ·exact⟨h2.now,h2.born,h2.epoch,h2.till,by have:=h.step;simp;omega,h2.path,h2.kids,h2.ks,h2.heard⟩
 ·split
  ·exact h2.lets (by omega)
  ·exact h2
theorem Bd.beatUp {t:Tie} {k:Nat} (h:Bd t k) (m:Msg):Bd (beatUp t m).1 (k+1):=by
 unfold Tie.beatUp
 split
 ·exact h.hears m
 ·exact h.weaken (by omega)
theorem Bd.beatDn {t:Tie} {k:Nat} (h:Bd t k) {m:Msg} (hm:Mb m):Bd (beatDn t m).1 (k+100):=by
 have h2:=h.weaken (show k≤k+100 by omega)
 have:=h.now;have:=hm.age;have:=hm.epoch;have:=hm.path
 unfold Tie.beatDn
 split
 ·exact h2
 ·split
  ·exact h2.lets (by omega)
  ·unfold KU
   split
   ·exact⟨h2.now,by simp only [way];omega,by simp;omega,h2.till,h2.step,by simp [way];omega,h2.kids,h2.ks,h2.heard⟩
   ·exact⟨h2.now,h2.born,h2.epoch,h2.till,h2.step,by simp [way];omega,h2.kids,h2.ks,h2.heard⟩
theorem Bd.detach {t:Tie} {k:Nat} (h:Bd t k) (m:Msg):Bd (detach t m) k:=by
 refine⟨h.now,h.born,h.epoch,h.till,h.step,h.path,?_,z2R h.ks _,fun x hx=>h.heard x (YI hx)⟩
 have:=KV (fun x=>decide (x.id=m.frm)) t.kids
 have:=h.kids
 simp only [Tie.detach];omega
theorem Bd.gone {t:Tie} {k:Nat} (h:Bd t k) (m:Msg):Bd (gone t m) k:=by
 unfold Tie.gone
 split
 ·exact h.lets (by omega)
 ·exact h
theorem Bd.comesK {t:Tie} {k:Nat} (h:Bd t k) {m:Msg} (hm:Mb m) (lo:Int):Bd (comesK t m lo).1 (k+100):=by
 unfold Tie.comesK
 split
 ·exact(h.attach m lo).weaken (by omega)
 ·split
  ·exact h.accept hm
  ·split
   ·exact(h.refuse m).weaken (by omega)
   ·split
    ·exact(h.beatUp m).weaken (by omega)
    ·split
     ·exact h.beatDn hm
     ·split
      ·exact(h.detach m).weaken (by omega)
      ·exact h.weaken (by omega)
theorem Bd.comes {t:Tie} {k:Nat} (h:Bd t k) {m:Msg} (hm:Mb m) (lo:Int):Bd (comes t m lo).1 (k+100):=by
 unfold Tie.comes
 split
 ·exact h.weaken (by omega)
 ·exact(h.gone m).comesK hm lo
end Go.Tie
