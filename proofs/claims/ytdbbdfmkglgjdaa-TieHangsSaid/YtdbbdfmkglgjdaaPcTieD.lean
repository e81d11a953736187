/- The document's answer. -/
import Derived.Test.YtdbbdfmkglgjdaaPcTie8
set_option linter.unusedVariables false
set_option linter.unusedSimpArgs false
namespace Go.Proofs.Ytdbbdfmkglgjdaa.Pi
open Go.Ab Go.Feed Go.Kids Go.Tie
set_option maxRecDepth 100000
section
variable {Q:z3} {t:Tie} {ms:List Msg} {pv kv:AV}
theorem Sl.src {z:Nat} {l:List AV} {v:AV} (h:Sl z l v):Xz [] z (.v v)=some l:=by
 rcases h with rfl | ⟨rfl,rfl⟩
 ·simp [Xz]
 ·simp [Xz]
theorem z7D (hp:Sl 1 (ints t.path) pv) (hk:Sl 3 (t.kids.map Kid.v) kv) (s:Int):zc (z6 P1) 44 [Tv t pv kv,.int .i64 s] Q=some (Tv (lets t s) .nils kv,Q):=by
 rw [Wc rfl]
 simp [hp.one,hk.one,lets]
theorem KN (hp:Sl 1 (ints t.path) pv) (hk:Sl 3 (t.kids.map Kid.v) kv) (kind to:Int):zc (z6 P1) 45 [Tv t pv kv,.int .i64 kind,.int .i64 to] Q=some (.agg [.int .i64 kind,.int .i64 t.id,.int .i64 to,.int .i64 t.inc,.int .i64 0,.int .i64 0,.nils,.int .i64 0,.int .i64 0,.str []],Q):=by
 rw [Vm rfl]
 simp [hp.one,hk.one,splice]
theorem za5 (hp:Sl 1 (ints t.path) pv) (hk:Sl 3 (t.kids.map Kid.v) kv) {k:Nat} (hb:Bd t k) (hk':k≤100000) {kind:Int} (to:Int) (c:kind=2∨kind=5):zc (z6 P1) 46 [Tv t pv kv,.int .i64 kind,.int .i64 to] Q=some (Msg.v (full t kind to 0),Q):=by
 have hs:=fun Q=>KN (Q:=Q) hp hk kind to
 have w1:=w64 (i:=t.now - t.born) (by have:=hb.now;have:=hb.born;omega) (by have:=hb.now;have:=hb.born;omega)
 have r1:room 8 t.path.length=true:=jP (by omega) (by have:=hb.path;omega)
 have sr:=hp.src
 rw [Vo rfl,z1U _ _ _ c]
 simp [hp.one,hk.one,hs,w1,sr,r1]
theorem z7E {p:List Int} {v:AV} (h:Sl 1 (ints p) v) (hl:p.length≤100000):zc (z6 P1) 58 [v] Q=some (.int .i64 (Jr p),Q):=by
 have g:=fun Q=>zbn (Q:=Q) h hl
 rw [Kk rfl]
 unfold Jr
 rcases em2 (grand p=0) with c | c
 ·rw [if_pos (of_eq_true c)];simp [g,c]
 ·rw [if_neg (of_eq_false c)];simp [g,c]
theorem z0Q (hp:Sl 1 (ints t.path) pv) (hk:Sl 3 (t.kids.map Kid.v) kv) {k:Nat} (hb:Bd t k) (hk':k≤40000):∀ (m i:Nat) (ms:List Msg),i+m=t.kids.length→ms.length≤i+10 →
  kf P1 (.int .i64 i) (.int .i64 t.id) (.int .i64 t.inc) (.int .i64 t.now) (.int .i64 t.parent) (.int .i64 t.pinc) (.int .i64 t.grand) pv (.int .i64 t.epoch) (.int .i64 t.born) (.int .i64 t.asked) (.int .i64 t.till) (.int .i64 t.step) kv (.int .i64 0) (.int .i64 0) (.int .i64 0) (.int .i64 0) (.int .i64 0) (.int .i64 0) .nils (.int .i64 0) (.int .i64 0) (.int .i64 0) (.int .i64 0) (.int .i64 0) .nils (ms.map Msg.v) Q=Xq (.int .i64 t.id) (.int .i64 t.inc) (.int .i64 t.now) (.int .i64 t.parent) (.int .i64 t.pinc) (.int .i64 t.grand) pv (.int .i64 t.epoch) (.int .i64 t.born) (.int .i64 t.asked) (.int .i64 t.till) (.int .i64 t.step) kv (.int .i64 0) (.int .i64 0) (.int .i64 0) (.int .i64 0) (.int .i64 0) (.int .i64 0) .nils (.int .i64 0) (.int .i64 0) (.int .i64 0) (.int .i64 0) (.int .i64 0) .nils ((ms++if jq t then (t.kids.drop i).map fun x=>full t 5 x.id 0 else []).map Msg.v) Q:=by
 intro m
 induction m with
 | zero =>
  intro i ms hi hm
  obtain rfl:i=t.kids.length:=by omega
  rw [List.drop_length,List.map_nil,ite_self,List.append_nil,vM,Zh,hk.len]
  simp
 | succ m ih =>
  intro i ms hi hm
  have hkl:=hb.kids
  have c1:((i:Int) < t.kids.length)=True:=eq_true (by omega)
  have e:=hk.get (k:=.i64) (kAt (l:=t.kids) (i:=i) (by omega))
  have w:=w64 (i:=(i:Int)+1) (by omega) (by omega)
  have fr:=fun Q=>z44 (Q:=Q) hp hk hb (by omega)
  have r1:room 104 (ms.length+1)=true:=by unfold room;rw [decide_eq_true_eq];simp [zo];omega
  rw [z7y (show i < t.kids.length by omega)]
  generalize t.kids.getD i default=x at *
  rw [wg] at e
  rw [vM,Zh,hk.len]
  by_cases c:jq t
  ·have fu:=fun Q=>za5 (Q:=Q) hp hk hb (by omega) (kind:=5) x.id (Or.inr rfl)
   have ih:=ih (i+1) (ms++[full t 5 x.id 0]) (by omega) (by simp;omega)
   rw [show ((i+1:Nat):Int)=(i:Int)+1 by push_cast;rfl] at ih
   rw [decide_eq_true c] at fr
   rw [if_pos c] at ih ⊢
   rw [List.append_assoc] at ih
   rw [List.map_cons,← List.singleton_append (l:=List.map _ _),← ih,List.map_append,List.map_singleton]
   have ve:=z1U t x.id 0 (kind:=5) (Or.inr rfl)
   rw [ve] at fu ⊢
   simp [c1,e,fr,fu,w,r1]
   rw [qr]
  ·rw [decide_eq_false c] at fr
   rw [if_neg c]
   simp [c1,e,fr,w]
theorem z1y (hp:Sl 1 (ints t.path) pv) (hk:Sl 3 (t.kids.map Kid.v) kv) {k:Nat} (hb:Bd t k) (hk':k≤40000) (hm:ms.length≤5):z5 (zc (z6 P1)) (zi (z6 P1)) qz [(1,.lp 1 0),(2,.lp 2 0),(4,.v (.bool (decide (t.now % 2=0)))),(5,.ls 5)] [(1,.cells [.int .i64 t.id,.int .i64 t.inc,.int .i64 t.now,.int .i64 t.parent,.int .i64 t.pinc,.int .i64 t.grand,pv,.int .i64 t.epoch,.int .i64 t.born,.int .i64 t.asked,.int .i64 t.till,.int .i64 t.step,kv]),(2,.cells [.int .i64 0,.int .i64 0,.int .i64 0,.int .i64 0,.int .i64 0,.int .i64 0,.nils,.int .i64 0,.int .i64 0,.int .i64 0,.int .i64 0,.int .i64 0,.nils]),(5,.own 10 (ms.map Msg.v))] Q (zp [.cell 2 (some 13),.tmp 3] [.n,.f 10])=some (.tup [Tv t pv kv,.fz 10 ((ms++beats t).map Msg.v)],Q):=by
 rw [Jl]
 unfold beats
 by_cases c:t.now % 2=0
 ·rw [if_neg (fun x=>x c),decide_eq_true c]
  rcases em2 (t.parent=0) with c2 | c2
  ·have lp:=z0Q (Q:=Q) hp hk hb hk' _ 0 ms (Nat.zero_add _) (by omega)
   rw [show ((0:Nat):Int)=0 from rfl,List.drop_zero] at lp
   rw [if_neg (fun x=>x (of_eq_true c2)),List.nil_append]
   simp [c2,Zj,-List.map_append]
   rw [qr,lp]
   simp [Zi,hp.one,hk.one,-List.map_append]
  ·have r1:room 104 (ms.length+1)=true:=by unfold room;rw [decide_eq_true_eq];simp [zo];omega
   have sy:=fun Q=>KN (Q:=Q) hp hk 4 t.parent
   have ve:=KM t t.parent 0 (kind:=4) (by decide)
   have lp:=z0Q (Q:=Q) hp hk hb hk' _ 0 (ms++[says t 4 t.parent 0]) (Nat.zero_add _) (by simp;omega)
   rw [show ((0:Nat):Int)=0 from rfl,List.drop_zero,List.append_assoc,List.map_append,List.map_singleton,ve] at lp
   rw [if_pos (of_eq_false c2)]
   simp [c2,sy,r1,Zj,-List.map_append]
   rw [qr,lp]
   simp [Zi,hp.one,hk.one,-List.map_append]
 ·rw [if_pos c,decide_eq_false c,List.append_nil]
  simp [hp.one,hk.one]
theorem z7F (hp:Sl 1 (ints t.path) pv) (hk:Sl 3 (t.kids.map Kid.v) kv) {k:Nat} (hb:Bd t k) (hk':k≤40000) (c:t.asked=0) (b:Bool):z5 (zc (z6 P1)) (zi (z6 P1)) qx [(1,.lp 1 0),(2,.lp 2 0),(4,.v (.bool b)),(5,.v .nils)] [(1,.cells [.int .i64 t.id,.int .i64 t.inc,.int .i64 t.now,.int .i64 t.parent,.int .i64 t.pinc,.int .i64 t.grand,pv,.int .i64 t.epoch,.int .i64 t.born,.int .i64 t.asked,.int .i64 t.till,.int .i64 t.step,kv]),(2,.cells [.int .i64 0,.int .i64 0,.int .i64 0,.int .i64 0,.int .i64 0,.int .i64 0,.nils,.int .i64 0,.int .i64 0,.int .i64 0,.int .i64 0,.int .i64 0,.nils])] Q (QZ [] [] [1,2,4,5] [(1,1),(2,2),(5,5)] j7)=some (.normal,[(1,.lp 1 0),(2,.lp 2 0),(4,.v (.bool b)),(5,.ls 5)],[(1,.cells [.int .i64 ((asked t)).id,.int .i64 ((asked t)).inc,.int .i64 ((asked t)).now,.int .i64 ((asked t)).parent,.int .i64 ((asked t)).pinc,.int .i64 ((asked t)).grand,pv,.int .i64 ((asked t)).epoch,.int .i64 ((asked t)).born,.int .i64 ((asked t)).asked,.int .i64 ((asked t)).till,.int .i64 ((asked t)).step,kv]),(2,.cells [.int .i64 0,.int .i64 0,.int .i64 0,.int .i64 0,.int .i64 0,.int .i64 0,.nils,.int .i64 0,.int .i64 0,.int .i64 0,.int .i64 0,.int .i64 0,.nils]),(5,.own 10 ([says (asked t) 1 (asked t).asked 0].map Msg.v))],Q):=by
 have w1:=w64 (i:=t.now+3) (by have:=hb.now;omega) (by have:=hb.now;omega)
 have sy:=fun Q=>KN (Q:=Q) (t:=asked t) (pv:=pv) (kv:=kv) hp hk 1 (asked t).asked
 have ve:=KM (asked t) (asked t).asked 0 (kind:=1) (by decide)
 have r1:room 104 1=true:=by unfold room;rw [decide_eq_true_eq];simp [zo]
 rw [Zg,List.map_singleton,ve]
 have ca:=eq_true c
 rcases em2 (t.step=0) with c1 | c1
 ·rcases em2 (t.grand=0) with c2 | c2
  ·have ew:z5D t=1:=if_neg (fun x=>x.2.1 (of_eq_true c2))
   simp only [asked,ew] at sy ⊢
   simp [ca,c1,c2,w1,sy,r1,qE]
  ·rcases em2 (t.grand=t.id) with c3 | c3
   ·have ew:z5D t=1:=if_neg (fun x=>x.2.2 (of_eq_true c3))
    simp only [asked,ew] at sy ⊢
    simp [ca,c1,c2,c3,w1,sy,r1,qE]
   ·have ew:z5D t=t.grand:=if_pos ⟨of_eq_true c1,of_eq_false c2,of_eq_false c3⟩
    simp only [asked,ew] at sy ⊢
    simp [ca,c1,c2,c3,w1,sy,r1,qE]
 ·have ew:z5D t=1:=if_neg (fun x=>of_eq_false c1 x.1)
  simp only [asked,ew] at sy ⊢
  simp [ca,c1,w1,sy,r1,qE]
theorem z7G (hp:Sl 1 (ints t.path) pv) (hk:Sl 3 (t.kids.map Kid.v) kv) {k:Nat} (hb:Bd t k) (hk':k≤30000) (hi:t.id≠1) (b:Bool):z5 (zc (z6 P1)) (zi (z6 P1)) qy [(1,.lp 1 0),(2,.lp 2 0),(4,.v (.bool b)),(5,.v .nils)] [(1,.cells [.int .i64 t.id,.int .i64 t.inc,.int .i64 t.now,.int .i64 t.parent,.int .i64 t.pinc,.int .i64 t.grand,pv,.int .i64 t.epoch,.int .i64 t.born,.int .i64 t.asked,.int .i64 t.till,.int .i64 t.step,kv]),(2,.cells [.int .i64 0,.int .i64 0,.int .i64 0,.int .i64 0,.int .i64 0,.int .i64 0,.nils,.int .i64 0,.int .i64 0,.int .i64 0,.int .i64 0,.int .i64 0,.nils])] Q j7=some (.normal,[(1,.lp 1 0),(2,.lp 2 0),(4,.v (.bool b)),(5,.ls 5)],[(1,.cells [.int .i64 ((asks t).1).id,.int .i64 ((asks t).1).inc,.int .i64 ((asks t).1).now,.int .i64 ((asks t).1).parent,.int .i64 ((asks t).1).pinc,.int .i64 ((asks t).1).grand,pv,.int .i64 ((asks t).1).epoch,.int .i64 ((asks t).1).born,.int .i64 ((asks t).1).asked,.int .i64 ((asks t).1).till,.int .i64 ((asks t).1).step,kv]),(2,.cells [.int .i64 0,.int .i64 0,.int .i64 0,.int .i64 0,.int .i64 0,.int .i64 0,.nils,.int .i64 0,.int .i64 0,.int .i64 0,.int .i64 0,.int .i64 0,.nils]),(5,.own 10 ((asks t).2.map Msg.v))],Q):=by
 have w1:=w64 (i:=t.step+1) (by have:=hb.step;omega) (by have:=hb.step;omega)
 rw [Jk]
 unfold asks
 rcases em2 (t.parent=0) with c2 | c2
 ·rw [if_neg (by rintro (c | c);exact hi c;exact c (of_eq_true c2))]
  rcases em2 (t.asked=0) with c3 | c3
  ·have et:Go.Tie.tired t=t:=by unfold Go.Tie.tired;rw [if_neg (fun c=>c.1 (of_eq_true c3))]
   have d1:=z7F (Q:=Q) hp hk hb (by omega) (of_eq_true c3) b
   rw [et,if_neg (fun c=>c (of_eq_true c3))]
   simp [c2,c3,d1]
  ·rcases em2 (t.till≤t.now) with c4 | c4
   ·have et:Go.Tie.tired t={ t with asked:=0,step:=t.step+1 }:=by unfold Go.Tie.tired;rw [if_pos ⟨of_eq_false c3,of_eq_true c4⟩]
    have d1:=z7F (Q:=Q) (t:=Go.Tie.tired t) (pv:=pv) (kv:=kv) (by rw [et];exact hp) (by rw [et];exact hk) hb.tired (by omega) (by rw [et]) b
    rw [et] at d1
    rw [et,if_neg (fun c=>c rfl)]
    simp [c2,c3,c4,w1,d1]
   ·have et:Go.Tie.tired t=t:=by unfold Go.Tie.tired;rw [if_neg (fun c=>of_eq_false c4 c.2)]
    rw [et,if_pos (of_eq_false c3)]
    simp [c2,c3,c4,Zg]
 ·rw [if_pos (Or.inr (of_eq_false c2))]
  simp [c2]
theorem zcw (hp:Sl 1 (ints t.path) pv) (hk:Sl 3 (t.kids.map Kid.v) kv) {k:Nat} (hb:Bd t k) (hk':k≤20000):∃ pv' kv',Sl 1 (ints (tick t).1.path) pv'∧Sl 3 ((tick t).1.kids.map Kid.v) kv'∧zc (z6 P1) 19 [Tv t pv kv] Q=some (.tup [Tv (tick t).1 pv' kv',Mz (tick t).2],Q):=by
 have hn:=hb.now
 have he:=hb.epoch
 have w1:=w64 (i:=t.now+1) (by omega) (by omega)
 have w2:=w64 (i:=t.epoch+1) (by omega) (by omega)
 have tm:(t.now+1).tmod 2=(t.now+1) % 2:=Int.tmod_eq_emod_of_nonneg (by omega)
 have w3:=w64 (i:=(t.now+1) % 2) (by omega) (by omega)
 have pr:=fun Q=>z9X (Q:=Q) hk (by have:=hb.kids;omega) (now:=t.now+1) (by omega) (fun x hx=>by have:=hb.heard x hx;omega)
 have bl:Bd (later t) (k+1):=hb.later
 have kl:Sl 3 ((later t).kids.map Kid.v) (kds (later t).kids):=Sl.fz _ _
 have hpl:Sl 1 (ints (later t).path) pv:=hp
 have bt:Bd (turned (later t)) (k+2):=bl.turned
 have ba:=bt.asks
 have al:(asks (turned (later t))).2.length≤5:=by
  unfold asks;split
  ·simp
  ·split<;>simp
 have fr:=fun Q=>z44 (Q:=Q) hpl kl bl (by omega)
 rw [Vh rfl]
 unfold tick
 rcases em2 (t.id=1) with c1 | c1
 ·have ea:asks (turned (later t))=(turned (later t),[]):=by
   have:(turned (later t)).id=1:=by
    unfold turned;split
    ·exact of_eq_true c1
    ·split
     ·exact of_eq_true c1
     ·exact of_eq_true c1
   unfold asks;rw [if_pos (Or.inl this)]
  rw [ea] at ba al ⊢
  rcases em2 ((t.now+1) % 2=0) with c2 | c2
  ·have et:turned (later t)={ later t with epoch:=t.epoch+1,born:=t.now+1 }:=if_pos ⟨of_eq_true c1,of_eq_true c2⟩
   have d6:=z1y (Q:=Q) (t:=turned (later t)) (ms:=[]) (pv:=pv) (kv:=kds (later t).kids) (by rw [et];exact hp) (by rw [et];exact kl) bt (by omega) (by simp)
   refine⟨pv,kds (later t).kids,by rw [et];exact hp,by rw [et];exact kl,?_⟩
   rw [decide_eq_true (show (turned (later t)).now % 2=0 by rw [et];exact of_eq_true c2)] at d6
   rw [← d6,et]
   simp only [later,kds] at pr ⊢
   simp [hp.one,hk.one,w1,w2,w3,tm,pr,c1,c2]
  ·have et:turned (later t)=later t:=by
    unfold turned
    rw [if_neg (fun c=>of_eq_false c2 c.2),if_neg (fun c=>c.1 (of_eq_true c1))]
   have d6:=z1y (Q:=Q) (t:=turned (later t)) (ms:=[]) (pv:=pv) (kv:=kds (later t).kids) (by rw [et];exact hp) (by rw [et];exact kl) bt (by omega) (by simp)
   refine⟨pv,kds (later t).kids,by rw [et];exact hp,by rw [et];exact kl,?_⟩
   rw [decide_eq_false (show ¬ (turned (later t)).now % 2=0 by rw [et];exact of_eq_false c2)] at d6
   rw [← d6,et]
   simp only [later,kds] at pr ⊢
   simp [hp.one,hk.one,w1,w2,w3,tm,pr,c1,c2]
 ·have hid:(turned (later t)).id≠1:=by
   unfold turned;split
   ·exact of_eq_false c1
   ·split
    ·exact of_eq_false c1
    ·exact of_eq_false c1
  have now1:(asks (turned (later t))).1.now=t.now+1:=by
   have h1:(turned (later t)).now=t.now+1:=by
    unfold turned;split
    ·rfl
    ·split<;>rfl
   unfold asks;split
   ·exact h1
   ·have h2:(Go.Tie.tired (turned (later t))).now=t.now+1:=by
     unfold Go.Tie.tired;split<;>exact h1
    split
    ·exact h2
    ·exact h2
  have ed:decide ((asks (turned (later t))).1.now % 2=0)=decide ((t.now+1) % 2=0):=by rw [now1]
  have kk:∀ pv',Sl 1 (ints (turned (later t)).path) pv'→Sl 1 (ints (asks (turned (later t))).1.path) pv'∧Sl 3 ((asks (turned (later t))).1.kids.map Kid.v) (kds (later t).kids):=fun pv' h=>by
   have h1:(turned (later t)).kids=(later t).kids:=by
    unfold turned;split
    ·rfl
    ·split<;>rfl
   have h2:(asks (turned (later t))).1.path=(turned (later t)).path∧(asks (turned (later t))).1.kids=(turned (later t)).kids:=by
    have h3:(Go.Tie.tired (turned (later t))).path=(turned (later t)).path∧(Go.Tie.tired (turned (later t))).kids=(turned (later t)).kids:=by
     unfold Go.Tie.tired;split<;>exact⟨rfl,rfl⟩
    unfold asks;split
    ·exact⟨rfl,rfl⟩
    ·split
     ·exact h3
     ·exact h3
   rw [h2.1,h2.2,h1]
   exact⟨h,kl⟩
  have kt:(turned (later t)).kids=(later t).kids:=by
   unfold turned;split
   ·rfl
   ·split<;>rfl
  by_cases c3:t.parent≠0∧¬ jq (later t)
  ·have et:turned (later t)=lets (later t) 0:=by
    unfold turned
    rw [if_neg (fun c=>of_eq_false c1 c.1),if_pos ⟨of_eq_false c1,c3⟩]
   have hpt:Sl 1 (ints (turned (later t)).path) .nils:=by rw [et];exact Sl.nil 1
   have d2:=z7G (Q:=Q) (t:=turned (later t)) (pv:=.nils) (kv:=kds (later t).kids) hpt (by rw [kt];exact kl) bt (by omega) hid (decide ((t.now+1) % 2=0))
   have d6:=z1y (Q:=Q) (kk _ hpt).1 (kk _ hpt).2 ba (by omega) al
   refine⟨.nils,kds (later t).kids,(kk _ hpt).1,(kk _ hpt).2,?_⟩
   rw [ed] at d6
   rw [← d6]
   have c2:=eq_false c3.1
   have of_:=fun Q=>z7D (Q:=Q) hpl kl 0
   rw [decide_eq_false c3.2] at fr
   rw [et] at d2 ⊢
   generalize asks (lets (later t) 0)=A at *
   simp only [later,kds,lets] at pr fr of_ d2
   rcases em2 ((t.now+1) % 2=0) with c4 | c4
   ·rw [decide_eq_true (of_eq_true c4)] at d2 ⊢
    simp [hp.one,hk.one,w1,w2,w3,tm,pr,c1,c2,c4,fr,of_,d2,kds,later]
   ·rw [decide_eq_false (of_eq_false c4)] at d2 ⊢
    simp [hp.one,hk.one,w1,w2,w3,tm,pr,c1,c2,c4,fr,of_,d2,kds,later]
  ·have et:turned (later t)=later t:=by
    unfold turned
    rw [if_neg (fun c=>of_eq_false c1 c.1),if_neg (fun c=>c3 c.2)]
   have hpt:Sl 1 (ints (turned (later t)).path) pv:=by rw [et];exact hp
   have d2:=z7G (Q:=Q) (t:=turned (later t)) (pv:=pv) (kv:=kds (later t).kids) hpt (by rw [kt];exact kl) bt (by omega) hid (decide ((t.now+1) % 2=0))
   have d6:=z1y (Q:=Q) (kk _ hpt).1 (kk _ hpt).2 ba (by omega) al
   refine⟨pv,kds (later t).kids,(kk _ hpt).1,(kk _ hpt).2,?_⟩
   rw [ed] at d6
   rw [← d6]
   rw [et] at d2 ⊢
   generalize asks (later t)=A at *
   rcases em2 (t.parent=0) with c2 | c2
   ·simp only [later,kds] at pr d2
    rcases em2 ((t.now+1) % 2=0) with c4 | c4
    ·rw [decide_eq_true (of_eq_true c4)] at d2 ⊢
     simp [hp.one,hk.one,w1,w2,w3,tm,pr,c1,c2,c4,d2,kds,later]
    ·rw [decide_eq_false (of_eq_false c4)] at d2 ⊢
     simp [hp.one,hk.one,w1,w2,w3,tm,pr,c1,c2,c4,d2,kds,later]
   ·have cl:jq (later t):=Decidable.byContradiction fun cl=>c3 ⟨of_eq_false c2,cl⟩
    rw [decide_eq_true cl] at fr
    simp only [later,kds] at pr fr d2
    rcases em2 ((t.now+1) % 2=0) with c4 | c4
    ·rw [decide_eq_true (of_eq_true c4)] at d2 ⊢
     simp [hp.one,hk.one,w1,w2,w3,tm,pr,c1,c2,c4,fr,d2,kds,later]
    ·rw [decide_eq_false (of_eq_false c4)] at d2 ⊢
     simp [hp.one,hk.one,w1,w2,w3,tm,pr,c1,c2,c4,fr,d2,kds,later]
end
end Go.Proofs.Ytdbbdfmkglgjdaa.Pi
