/- The root. -/
import Derived.Test.YtdbbdfmkglgjdaaPmTie
import Derived.Test.YtdbbdfmkglgjdaaPcTieE
import Derived.Test.YtdbbdfmkglgjdaaPcTieP
set_option linter.unusedVariables false
namespace Go.Tie
open Go.Feed Go.Kids
theorem zbM (t:Tie):(asks t).2.length≤1:=by
 unfold asks;split
 ·simp
 ·split<;>simp
theorem za3 (t:Tie):(beats t).length≤t.kids.length+1:=by
 unfold beats
 split
 ·simp
 ·rw [List.length_append]
  have:(if t.parent≠0 then [says t 4 t.parent 0] else []).length≤1:=by split<;>simp
  have:(if xP t then t.kids.map fun k=>full t 5 k.id 0 else []).length≤t.kids.length:=by split<;>simp
  omega
theorem zbN {t:Tie} {k:Nat} (h:Bd t k):(tick t).2.length≤k+10:=by
 have h1:=zbM (turned (later t))
 have h2:=za3 (asks (turned (later t))).1
 have h3:=h.tick.kids
 unfold tick at h3 ⊢
 simp only at h3 ⊢
 rw [List.length_append];omega
theorem z8q (t:Tie) (m:Msg):(accept t m).2.length≤1:=by
 unfold accept;split
 ·simp only;split<;>simp
 ·split<;>simp
theorem z4G (t:Tie) (m:Msg) (lo:Int):(comes t m lo).2.length≤1:=by
 unfold comes
 split
 ·simp
 ·unfold comesK
  split
  ·unfold attach;split<;>simp
  ·split
   ·exact z8q _ _
   ·split
    ·simp
    ·split
     ·unfold beatUp;split<;>simp
     ·split
      ·unfold beatDn;split
       ·simp
       ·split<;>simp
      ·split<;>simp
structure Ir (t:Tie) (n:Int):Prop where
 id:t.id=1
 pa:t.parent=0
 ask:t.asked=0
 path:t.path=[1]
 now:t.now=n
 epoch:t.epoch=n / 2
 born:t.born=n / 2 * 2
theorem Ir.new (g:Int):Ir (New 1 2 0 g) 0:=⟨rfl,rfl,rfl,rfl,rfl,rfl,rfl⟩
end Go.Tie
/- What holds of a node whatever comes. -/
namespace Go.Tie
open Go.Feed Go.Kids
structure Pt (n:Int) (t:Tie):Prop where
 pa:t.parent=0∨t.asked=0
 bn:t.born≤t.now
 pi:t.pinc≤n
 ki:∀ x ∈ t.kids,x.inc≤n
theorem Pt.new {n id inc now g:Int} (hn:0≤n) (h:0≤now):Pt n (New id inc now g):=by
 unfold New
 split
 ·exact⟨Or.inl rfl,Int.le_refl _,hn,by simp⟩
 ·exact⟨Or.inl rfl,h,hn,by simp⟩
theorem Pt.lets {n:Int} {t:Tie} (hn:0≤n) (h:Pt n t) (s:Int):Pt n (lets t s):=⟨Or.inl rfl,h.bn,hn,h.ki⟩
theorem Pt.later {n:Int} {t:Tie} (h:Pt n t):Pt n (later t):=⟨h.pa,by have:=h.bn;show t.born≤t.now+1;omega,h.pi,fun x hx=>h.ki x (z0M hx)⟩
theorem Pt.turned {n:Int} {t:Tie} (hn:0≤n) (h:Pt n t):Pt n (turned t):=by
 unfold Go.Tie.turned
 split
 ·exact⟨h.pa,Int.le_refl _,h.pi,h.ki⟩
 ·split
  ·exact h.lets hn 0
  ·exact h
theorem Pt.asks {n:Int} {t:Tie} (h:Pt n t):Pt n (asks t).1:=by
 unfold Go.Tie.asks
 split
 ·exact h
 ·rename_i c
  have hp:t.parent=0:=Decidable.byContradiction fun x=>c (Or.inr x)
  have h2:Pt n (Go.Tie.tired t)∧(Go.Tie.tired t).parent=0:=by
   unfold Go.Tie.tired;split
   ·exact⟨⟨Or.inl hp,h.bn,h.pi,h.ki⟩,hp⟩
   ·exact⟨h,hp⟩
  split
  ·exact h2.1
  ·exact⟨Or.inl h2.2,h2.1.bn,h2.1.pi,h2.1.ki⟩
theorem Pt.tick {n:Int} {t:Tie} (hn:0≤n) (h:Pt n t):Pt n (tick t).1:=(h.later.turned hn).asks
theorem Pt.hears {n:Int} {t:Tie} (h:Pt n t) (hs:KS t.kids) {m:Msg} (hm:m.inc≤n):Pt n (hears t m):=by
 refine⟨h.pa,h.bn,h.pi,fun x hx=>?_⟩
 have hx:x ∈ (hear t.kids ⟨m.frm,m.inc,t.now⟩).1:=hx
 cases hk:(hear t.kids ⟨m.frm,m.inc,t.now⟩).2 with
 | true =>
  rcases(z0J hs _ hk x).1 hx with rfl | ⟨h3,_⟩
  ·exact hm
  ·exact h.ki x h3
 | false=>rw [z0K hk] at hx;exact h.ki x hx
theorem Pt.comesK {n:Int} {t:Tie} (hn:0≤n) (h:Pt n t) (hs:KS t.kids) {m:Msg} (hm:m.inc≤n) (ha:0≤m.age) (lo:Int):Pt n (comesK t m lo).1:=by
 unfold Go.Tie.comesK
 split
 ·unfold attach;split
  ·exact h.hears hs hm
  ·exact h
 ·split
  ·unfold accept;split
   ·exact h
   ·split
    ·exact⟨Or.inr rfl,h.bn,h.pi,h.ki⟩
    ·exact⟨Or.inr rfl,by show t.now - m.age≤t.now;omega,hm,h.ki⟩
  ·split
   ·show Pt n (refuse t m)
    unfold refuse;split
    ·exact⟨Or.inr rfl,h.bn,h.pi,h.ki⟩
    ·split
     ·exact h.lets hn 0
     ·exact h
   ·split
    ·unfold beatUp;split
     ·exact h.hears hs hm
     ·exact h
    ·split
     ·unfold beatDn;split
      ·exact h
      ·split
       ·exact h.lets hn 1
       ·show Pt n (z2h (way t m (m.path++[t.id])) m)
        unfold z2h;split
        ·exact⟨h.pa,by show t.now - m.age≤t.now;omega,h.pi,h.ki⟩
        ·exact⟨h.pa,h.bn,h.pi,h.ki⟩
     ·split
      ·exact⟨h.pa,h.bn,h.pi,fun x hx=>h.ki x (z0M hx)⟩
      ·exact h
theorem Pt.comes {n:Int} {t:Tie} (hn:0≤n) (h:Pt n t) (hs:KS t.kids) {m:Msg} (hm:m.inc≤n) (ha:0≤m.age) (lo:Int):Pt n (comes t m lo).1:=by
 unfold Go.Tie.comes
 split
 ·exact h
 ·unfold gone;split
  ·exact(h.lets hn 0).comesK hn hs hm ha lo
  ·exact h.comesK hn hs hm ha lo
end Go.Tie
/- A node that is made of choices. -/
set_option linter.unusedSimpArgs false
namespace Go.Proofs.Ytdbbdfmkglgjdaa.Pi
open Go.Ab Go.Feed Go.Kids Go.Tie
set_option maxRecDepth 100000
structure Mt (id:Int) (k:Nat) (t:Tie) (pv kv:AV):Prop where
 id:t.id=id
 pt:Pt 3 t
 bd:Bd t k
 p:Sl 1 (ints t.path) pv
 k:Sl 3 (t.kids.map Kid.v) kv
section
variable {p:Nat} {L:List Int}
end
end Go.Proofs.Ytdbbdfmkglgjdaa.Pi
/- What is told has a way just if it tells one. -/
namespace Go.Tie
open Go.Feed Go.Kids
def Mo (m:Msg):Prop:=m.path.length≤100000∧(¬ (m.kind=2∨m.kind=5)→m.path=[])
theorem Mo.says (t:Tie) (k to lo:Int):Mo (says t k to lo):=⟨by simp [Go.Tie.says],fun _=>rfl⟩
theorem Mo.full {t:Tie} (h:t.path.length≤10) {k:Int} (to lo:Int) (c:k=2∨k=5):Mo (full t k to lo):=⟨by show t.path.length≤_;omega,fun h=>absurd c h⟩
theorem Mo.beats {t:Tie} (h:t.path.length≤10):∀ m ∈ beats t,Mo m:=fun m hm=>by
 unfold Go.Tie.beats at hm
 split at hm
 ·cases hm
 ·rcases List.mem_append.1 hm with hm | hm
  ·split at hm
   ·rw [List.mem_singleton] at hm;subst hm;exact Mo.says _ _ _ _
   ·cases hm
  ·split at hm
   ·obtain⟨k,_,rfl⟩:=List.mem_map.1 hm;exact Mo.full h _ _ (Or.inr rfl)
   ·cases hm
theorem Mo.asks {t:Tie}:∀ m ∈ (asks t).2,Mo m:=fun m hm=>by
 unfold Go.Tie.asks at hm
 split at hm
 ·cases hm
 ·split at hm
  ·cases hm
  ·rw [List.mem_singleton] at hm;subst hm;exact Mo.says _ _ _ _
theorem Mo.tick {t:Tie} {k:Nat} (h:Bd t k):∀ m ∈ (tick t).2,Mo m:=fun m hm=>by
 rcases List.mem_append.1 hm with hm | hm
 ·exact Mo.asks m hm
 ·exact Mo.beats h.tick.path m hm
theorem Mo.comesK {t:Tie} (h:t.path.length≤10) (w:Msg) (lo:Int):∀ m ∈ (comesK t w lo).2,Mo m:=fun m hm=>by
 unfold Go.Tie.comesK at hm
 split at hm
 ·unfold attach at hm;split at hm
  ·rw [List.mem_singleton] at hm;subst hm;exact Mo.full h _ _ (Or.inl rfl)
  ·rw [List.mem_singleton] at hm;subst hm;exact Mo.says _ _ _ _
 ·split at hm
  ·unfold accept at hm;split at hm
   ·simp only at hm
    split at hm
    ·rw [List.mem_singleton] at hm;subst hm;exact Mo.says _ _ _ _
    ·cases hm
   ·split at hm
    ·rw [List.mem_singleton] at hm;subst hm;exact Mo.says _ _ _ _
    ·cases hm
  ·split at hm
   ·cases hm
   ·split at hm
    ·unfold beatUp at hm;split at hm
     ·cases hm
     ·rw [List.mem_singleton] at hm;subst hm;exact Mo.says _ _ _ _
    ·split at hm
     ·unfold beatDn at hm;split at hm
      ·rw [List.mem_singleton] at hm;subst hm;exact Mo.says _ _ _ _
      ·split at hm
       ·rw [List.mem_singleton] at hm;subst hm;exact Mo.says _ _ _ _
       ·cases hm
     ·split at hm
      ·cases hm
      ·cases hm
theorem Mo.comes {t:Tie} {k:Nat} (h:Bd t k) (w:Msg) (lo:Int):∀ m ∈ (comes t w lo).2,Mo m:=fun m hm=>by
 unfold Go.Tie.comes at hm
 split at hm
 ·cases hm
 ·exact Mo.comesK (h.gone w).path w lo m hm
theorem Mo.leave {t:Tie}:∀ m ∈ leave t,Mo m:=fun m hm=>by
 rcases List.mem_append.1 hm with hm | hm
 ·split at hm
  ·rw [List.mem_singleton] at hm;subst hm;exact Mo.says _ _ _ _
  ·cases hm
 ·obtain⟨k,_,rfl⟩:=List.mem_map.1 hm;exact Mo.says _ _ _ _
theorem za4 (t:Tie):(leave t).length≤t.kids.length+1:=by
 unfold leave
 rw [List.length_append,List.length_map]
 have:(if t.parent≠0 then [Go.Tie.says t 6 t.parent 0] else []).length≤1:=by split<;>simp
 omega
theorem Pt.weaken {n m:Int} {t:Tie} (h:Pt n t) (hm:n≤m):Pt m t:=⟨h.pa,h.bn,by have:=h.pi;omega,fun x hx=>by have:=h.ki x hx;omega⟩
theorem za5 {t:Tie} (h:0≤t.pinc):0≤(tick t).1.pinc:=by
 have h1:0≤(turned (later t)).pinc:=by
  unfold turned;split
  ·exact h
  ·split
   ·exact Int.le_refl _
   ·exact h
 have h2:0≤(Go.Tie.tired (turned (later t))).pinc:=by
  unfold Go.Tie.tired;split<;>exact h1
 show 0≤(asks (turned (later t))).1.pinc
 unfold asks;split
 ·exact h1
 ·split<;>exact h2
theorem z6J {t:Tie} (h:0≤t.pinc) {m:Msg} (hm:0≤m.inc) (lo:Int):0≤(comesK t m lo).1.pinc:=by
 unfold comesK
 split
 ·unfold attach;split<;>exact h
 ·split
  ·unfold accept;split
   ·exact h
   ·split
    ·exact h
    ·exact hm
  ·split
   ·show 0≤(refuse t m).pinc;unfold refuse;split
    ·exact h
    ·split
     ·exact Int.le_refl _
     ·exact h
   ·split
    ·unfold beatUp;split<;>exact h
    ·split
     ·unfold beatDn;split
      ·exact h
      ·split
       ·exact Int.le_refl _
       ·show 0≤(z2h (way t m (m.path++[t.id])) m).pinc
        unfold z2h;split<;>exact h
     ·split<;>exact h
theorem z8r {t:Tie} (h:0≤t.pinc) {m:Msg} (hm:0≤m.inc) (lo:Int):0≤(comes t m lo).1.pinc:=by
 unfold comes
 split
 ·exact h
 ·refine z6J ?_ hm lo
  unfold gone;split
  ·exact Int.le_refl _
  ·exact h
end Go.Tie
/- What is the same. -/
namespace Go.Proofs.Ytdbbdfmkglgjdaa.Pi
open Go.Ab Go.Feed Go.Kids Go.Tie
set_option maxRecDepth 100000
section
variable {Q:z3}
theorem z8s {a:List Int} {va vb:AV} (ha:Sl 1 (ints a) va) (hb:Sl 1 (ints a) vb) (hl:a.length≤100000):∀ (m i:Nat),i+m=a.length →
  jA P1 va vb (.int .i64 i) Q=YT Q:=by
 intro m
 induction m with
 | zero =>
  intro i hi
  obtain rfl:i=a.length:=by omega
  rw [kQ,wz,ha.len]
  simp
 | succ m ih =>
  intro i hi
  have c1:((i:Int) < a.length)=True:=eq_true (by omega)
  have ea:=ha.get (k:=.i64) (VK (l:=a) (i:=i) (by omega))
  have eb:=hb.get (k:=.i64) (VK (l:=a) (i:=i) (by omega))
  have w:=w64 (i:=(i:Int)+1) (by omega) (by omega)
  have ih:=ih (i+1) (by omega)
  rw [show ((i+1:Nat):Int)=(i:Int)+1 by push_cast;rfl] at ih
  generalize a.getD i 0=x at *
  rw [kQ,wz,ha.len]
  simp [c1,ea,eb,w]
  rw [jS,ih]
theorem z3j {a:List Int} {va vb:AV} (ha:Sl 1 (ints a) va) (hb:Sl 1 (ints a) vb) (hl:a.length≤100000):za (z6 P1) 36 [va,vb] Q=some (.bool true,Q):=by
 have lp:=z8s (Q:=Q) ha hb hl a.length 0 (by omega)
 rw [show ((0:Nat):Int)=0 from rfl] at lp
 rw [K0 rfl,ha.len,hb.len]
 simp
 rw [jS,lp]
 simp [Qr]
theorem z8t {a:List Kid} {va vb:AV} (ha:Sl 3 (a.map Kid.v) va) (hb:Sl 3 (a.map Kid.v) vb) (hl:a.length≤100000):∀ (m i:Nat),i+m=a.length →
  jB P1 va vb (.int .i64 i) Q=YU Q:=by
 intro m
 induction m with
 | zero =>
  intro i hi
  obtain rfl:i=a.length:=by omega
  rw [kR,wA,ha.len]
  simp
 | succ m ih =>
  intro i hi
  have c1:((i:Int) < a.length)=True:=eq_true (by omega)
  have ea:=ha.get (k:=.i64) (kAt (l:=a) (i:=i) (by omega))
  have eb:=hb.get (k:=.i64) (kAt (l:=a) (i:=i) (by omega))
  have w:=w64 (i:=(i:Int)+1) (by omega) (by omega)
  have ih:=ih (i+1) (by omega)
  rw [show ((i+1:Nat):Int)=(i:Int)+1 by push_cast;rfl] at ih
  generalize a.getD i default=x at *
  rw [ku] at ea eb
  have eq:JB true (.st [(0,1,.i),(1,1,.i),(2,1,.i)]) (.agg [.int .i64 x.id,.int .i64 x.inc,.int .i64 x.heard]) (.agg [.int .i64 x.id,.int .i64 x.inc,.int .i64 x.heard])=some (.bool false):=by
   simp [JB,eqA,eqF,kG,EqT.agg]
  rw [kR,wA,ha.len]
  simp [c1,ea,eb,w,eq]
  rw [jT,ih]
theorem z8u {a:List Kid} {va vb:AV} (ha:Sl 3 (a.map Kid.v) va) (hb:Sl 3 (a.map Kid.v) vb) (hl:a.length≤100000):za (z6 P1) 37 [va,vb] Q=some (.bool true,Q):=by
 have lp:=z8t (Q:=Q) ha hb hl a.length 0 (by omega)
 rw [show ((0:Nat):Int)=0 from rfl] at lp
 rw [K3 rfl,ha.len,hb.len]
 simp
 rw [jT,lp]
 simp [Qs]
theorem z1h {t:Tie} {pa ka pb kb:AV} (hpa:Sl 1 (ints t.path) pa) (hpb:Sl 1 (ints t.path) pb) (hka:Sl 3 (t.kids.map Kid.v) ka) (hkb:Sl 3 (t.kids.map Kid.v) kb) {k:Nat} (hb:Bd t k) (hk:k≤90000):za (z6 P1) 16 [Tv t pa ka,Tv t pb kb] Q=some (.bool true,Q):=by
 have si:=fun Q=>z3j (Q:=Q) hpa hpb (by have:=hb.path;omega)
 have sk:=fun Q=>z8u (Q:=Q) hka hkb (by have:=hb.kids;omega)
 rw [JW rfl]
 simp [hpa.one,hpb.one,hka.one,hkb.one,si,sk]
theorem za6 (m:Msg) {va vb:AV} (ha:Sl 1 (ints m.path) va) (hb:Sl 1 (ints m.path) vb) (hl:m.path.length≤100000):za (z6 P1) 60 [Mv m va,Mv m vb] Q=some (.bool true,Q):=by
 have si:=fun Q=>z3j (Q:=Q) ha hb hl
 have es:zb .eql (.str m.text) (.str m.text)=some (.bool true):=by simp [zb,zaG]
 rw [K6 rfl]
 simp [ha.one,hb.one,si,es]
theorem Mo.sl {m:Msg} (h:Mo m):Sl 1 (ints m.path) (mpv m):=by
 unfold mpv
 by_cases c:m.kind=2∨m.kind=5
 ·rw [if_pos c];exact Sl.fz _ _
 ·rw [if_neg c,h.2 c];exact Sl.nil 1
theorem z8v {a:List Msg} (hm:∀ m ∈ a,Mo m) (hl:a.length≤100000):∀ (m i:Nat),i+m=a.length →
  jb P1 (Mz a) (Mz a) (.int .i64 i) Q=Ys Q:=by
 intro m
 induction m with
 | zero =>
  intro i hi
  obtain rfl:i=a.length:=by omega
  rw [kz,vD]
  simp
 | succ m ih =>
  intro i hi
  have c1:((i:Int) < a.length)=True:=eq_true (by omega)
  have hi':i < a.length:=by omega
  have e:=zcr (z:=10) (f:=Msg.v) (k:=.i64) (List.getElem?_eq_getElem hi')
  have ok:=hm _ (List.getElem_mem hi')
  have w:=w64 (i:=(i:Int)+1) (by omega) (by omega)
  have ih:=ih (i+1) (by omega)
  rw [show ((i+1:Nat):Int)=(i:Int)+1 by push_cast;rfl] at ih
  generalize a[i]=x at *
  have sm:=fun Q=>za6 (Q:=Q) x (Mo.sl ok) (Mo.sl ok) ok.1
  rw [z4F] at e
  rw [kz,vD]
  simp [c1,e,w,sm]
  rw [jF,ih]
theorem W3 {a:List Msg} (hm:∀ m ∈ a,Mo m) (hl:a.length≤100000):za (z6 P1) 24 [Mz a,Mz a] Q=some (.bool true,Q):=by
 have lp:=z8v (Q:=Q) hm hl a.length 0 (by omega)
 rw [show ((0:Nat):Int)=0 from rfl] at lp
 rw [Jl rfl]
 simp
 rw [jF,lp]
 simp [XI]
end
end Go.Proofs.Ytdbbdfmkglgjdaa.Pi
/- What the document's Leave comes to. -/
namespace Go.Proofs.Ytdbbdfmkglgjdaa.Pi
open Go.Ab Go.Feed Go.Kids Go.Tie
set_option maxRecDepth 100000
section
variable {Q:z3} {t:Tie} {pv kv:AV}
theorem z27 (hp:Sl 1 (ints t.path) pv) (hk:Sl 3 (t.kids.map Kid.v) kv) {k:Nat} (hb:Bd t k) (hk':k≤40000):∀ (m i:Nat) (ms:List Msg),i+m=t.kids.length→ms.length≤i+10 →
  kp P1 (.int .i64 i) (.int .i64 t.id) (.int .i64 t.inc) (.int .i64 t.now) (.int .i64 t.parent) (.int .i64 t.pinc) (.int .i64 t.grand) pv (.int .i64 t.epoch) (.int .i64 t.born) (.int .i64 t.asked) (.int .i64 t.till) (.int .i64 t.step) kv (ms.map Msg.v) Q=XK ((ms++(t.kids.drop i).map fun x=>says t 3 x.id 0).map Msg.v) Q:=by
 intro m
 induction m with
 | zero =>
  intro i ms hi hm
  obtain rfl:i=t.kids.length:=by omega
  rw [List.drop_length,List.map_nil,List.append_nil,vE,Zk,hk.len]
  simp
 | succ m ih =>
  intro i ms hi hm
  have hkl:=hb.kids
  have c1:((i:Int) < t.kids.length)=True:=eq_true (by omega)
  have e:=hk.get (k:=.i64) (kAt (l:=t.kids) (i:=i) (by omega))
  have w:=w64 (i:=(i:Int)+1) (by omega) (by omega)
  have r1:room 104 (ms.length+1)=true:=by unfold room;rw [decide_eq_true_eq];simp [zq];omega
  rw [z3d (show i < t.kids.length by omega)]
  generalize t.kids.getD i default=x at *
  rw [ku] at e
  have sy:=fun Q=>J3 (Q:=Q) hp hk 3 x.id
  have ve:=Kl t x.id 0 (kind:=3) (by decide)
  have ih:=ih (i+1) (ms++[says t 3 x.id 0]) (by omega) (by simp;omega)
  rw [show ((i+1:Nat):Int)=(i:Int)+1 by push_cast;rfl,List.append_assoc] at ih
  rw [vE,Zk,hk.len]
  rw [List.map_cons,← List.singleton_append (l:=List.map _ _),← ih,List.map_append,List.map_singleton,ve]
  simp [c1,e,w,r1,sy]
  rw [qz]
theorem zd7 (hp:Sl 1 (ints t.path) pv) (hk:Sl 3 (t.kids.map Kid.v) kv) {k:Nat} (hb:Bd t k) (hk':k≤40000):za (z6 P1) 28 [Tv t pv kv] Q=some (.ow 10 ((leave t).map Msg.v),Q):=by
 have r1:room 104 1=true:=by unfold room;rw [decide_eq_true_eq];simp [zq]
 rw [Vv rfl]
 unfold leave
 rcases em2 (t.parent=0) with c | c
 ·have lp:=z27 (Q:=Q) hp hk hb hk' _ 0 [] (Nat.zero_add _) (by simp)
  rw [show ((0:Nat):Int)=0 from rfl,List.drop_zero,List.map_nil] at lp
  rw [if_neg (fun x=>x (of_eq_true c))]
  simp [hp.one,hk.one,c,Zm,-List.map_append]
  rw [qz,lp]
  simp [Zl]
 ·have sy:=fun Q=>J3 (Q:=Q) hp hk 6 t.parent
  have ve:=Kl t t.parent 0 (kind:=6) (by decide)
  have lp:=z27 (Q:=Q) hp hk hb hk' _ 0 [says t 6 t.parent 0] (Nat.zero_add _) (by simp)
  rw [show ((0:Nat):Int)=0 from rfl,List.drop_zero,List.map_singleton,ve] at lp
  rw [if_pos (of_eq_false c)]
  simp [hp.one,hk.one,c,sy,r1,Zm,-List.map_append]
  rw [qz,lp]
  simp [Zl,-List.map_append]
end
end Go.Proofs.Ytdbbdfmkglgjdaa.Pi
