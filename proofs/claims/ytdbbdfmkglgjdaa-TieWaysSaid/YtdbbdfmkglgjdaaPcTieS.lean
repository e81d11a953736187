/- What Leave, New come to. -/
import Derived.Test.YtdbbdfmkglgjdaaPcTie7
import Derived.Test.YtdbbdfmkglgjdaaPmTie
set_option linter.unusedVariables false
set_option linter.unusedSimpArgs false
namespace Go.Proofs.Ytdbbdfmkglgjdaa.Pi
open Go.Ab Go.Feed Go.Kids Go.Tie
set_option maxRecDepth 100000
section
variable {Q:z3} {r:Nat} {t:Tie} {ms:List Msg} {pv kv tv:AV}
theorem zcR (id inc now g:Int):∃ pv,Sl 1 (ints (New id inc now g).path) pv∧zd (z8 P1) 14 [.int .i64 id,.int .i64 inc,.int .i64 now,.int .i64 g] Q=some (Tv (New id inc now g) pv .nils,Q):=by
 unfold New
 rw [z6Q rfl]
 by_cases c:id=1
 ·rw [if_pos c]
  exact⟨.fz 1 (ints [1]),Sl.fz _ _,by simp [c,Wf]⟩
 ·rw [if_neg c]
  exact⟨.nils,Sl.nil 1,by simp [c,Wf]⟩
theorem z8s (id inc now g:Int):(New id inc now g).kids=[]:=by unfold New;split<;>rfl
end
end Go.Proofs.Ytdbbdfmkglgjdaa.Pi
/- The document's answer. -/
namespace Go.Proofs.Ytdbbdfmkglgjdaa.Pi
open Go.Ab Go.Feed Go.Kids Go.Tie
set_option maxRecDepth 100000
section
variable {Q:z3} {t:Tie} {ms:List Msg} {pv kv:AV}
end
end Go.Proofs.Ytdbbdfmkglgjdaa.Pi
/- The document's answer, on. -/
namespace Go.Proofs.Ytdbbdfmkglgjdaa.Pi
open Go.Ab Go.Feed Go.Kids Go.Tie
set_option maxRecDepth 100000
section
variable {Q:z3} {t:Tie} {ms:List Msg} {pv kv:AV}
end
end Go.Proofs.Ytdbbdfmkglgjdaa.Pi
/- The root. -/
namespace Go.Tie
open Go.Feed Go.Kids
theorem z8t (t:Tie):(asks t).2.length≤1:=by
 unfold asks;split
 ·simp
 ·split<;>simp
theorem z6H (t:Tie):(beats t).length≤t.kids.length+1:=by
 unfold beats
 split
 ·simp
 ·rw [List.length_append]
  have:(if t.parent≠0 then [says t 4 t.parent 0] else []).length≤1:=by split<;>simp
  have:(if qv t then t.kids.map fun k=>full t 5 k.id 0 else []).length≤t.kids.length:=by split<;>simp
  omega
theorem z8u {t:Tie} {k:Nat} (h:Bd t k):(tick t).2.length≤k+10:=by
 have h1:=z8t (turned (later t))
 have h2:=z6H (asks (turned (later t))).1
 have h3:=h.tick.kids
 unfold tick at h3 ⊢
 simp only at h3 ⊢
 rw [List.length_append];omega
theorem z5c (t:Tie) (m:Msg):(accept t m).2.length≤1:=by
 unfold accept;split
 ·simp only;split<;>simp
 ·split<;>simp
theorem z6I (t:Tie) (m:Msg) (lo:Int):(comes t m lo).2.length≤1:=by
 unfold comes
 split
 ·simp
 ·unfold comesK
  split
  ·unfold attach;split<;>simp
  ·split
   ·exact z5c _ _
   ·split
    ·simp
    ·split
     ·unfold beatUp;split<;>simp
     ·split
      ·unfold beatDn;split
       ·simp
       ·split<;>simp
      ·split<;>simp
structure Ir (t:Tie) (n:Int):Prop where
 id:t.id=1
 pa:t.parent=0
 ask:t.asked=0
 path:t.path=[1]
 now:t.now=n
 epoch:t.epoch=n / 2
 born:t.born=n / 2 * 2
theorem Ir.new (g:Int):Ir (New 1 2 0 g) 0:=⟨rfl,rfl,rfl,rfl,rfl,rfl,rfl⟩
end Go.Tie
/- What holds of a node whatever comes. -/
namespace Go.Tie
open Go.Feed Go.Kids
structure Pt (n:Int) (t:Tie):Prop where
 pa:t.parent=0∨t.asked=0
 bn:t.born≤t.now
 pi:t.pinc≤n
 ki:∀ x ∈ t.kids,x.inc≤n
theorem Pt.new {n id inc now g:Int} (hn:0≤n) (h:0≤now):Pt n (New id inc now g):=by
 unfold New
 split
 ·exact⟨Or.inl rfl,Int.le_refl _,hn,by simp⟩
 ·exact⟨Or.inl rfl,h,hn,by simp⟩
theorem Pt.lets {n:Int} {t:Tie} (hn:0≤n) (h:Pt n t) (s:Int):Pt n (lets t s):=⟨Or.inl rfl,h.bn,hn,h.ki⟩
theorem Pt.later {n:Int} {t:Tie} (h:Pt n t):Pt n (later t):=⟨h.pa,by have:=h.bn;show t.born≤t.now+1;omega,h.pi,fun x hx=>h.ki x (YI hx)⟩
theorem Pt.turned {n:Int} {t:Tie} (hn:0≤n) (h:Pt n t):Pt n (turned t):=by
 unfold Go.Tie.turned
 split
 ·exact⟨h.pa,Int.le_refl _,h.pi,h.ki⟩
 ·split
  ·exact h.lets hn 0
  ·exact h
theorem Pt.asks {n:Int} {t:Tie} (h:Pt n t):Pt n (asks t).1:=by
 unfold Go.Tie.asks
 split
 ·exact h
 ·rename_i c
  have hp:t.parent=0:=Decidable.byContradiction fun x=>c (Or.inr x)
  have h2:Pt n (Go.Tie.tired t)∧(Go.Tie.tired t).parent=0:=by
   unfold Go.Tie.tired;split
   ·exact⟨⟨Or.inl hp,h.bn,h.pi,h.ki⟩,hp⟩
   ·exact⟨h,hp⟩
  split
  ·exact h2.1
  ·exact⟨Or.inl h2.2,h2.1.bn,h2.1.pi,h2.1.ki⟩
theorem Pt.tick {n:Int} {t:Tie} (hn:0≤n) (h:Pt n t):Pt n (tick t).1:=(h.later.turned hn).asks
theorem Pt.hears {n:Int} {t:Tie} (h:Pt n t) (hs:KS t.kids) {m:Msg} (hm:m.inc≤n):Pt n (hears t m):=by
 refine⟨h.pa,h.bn,h.pi,fun x hx=>?_⟩
 have hx:x ∈ (hear t.kids ⟨m.frm,m.inc,t.now⟩).1:=hx
 cases hk:(hear t.kids ⟨m.frm,m.inc,t.now⟩).2 with
 | true =>
  rcases(KT hs _ hk x).1 hx with rfl | ⟨h3,_⟩
  ·exact hm
  ·exact h.ki x h3
 | false=>rw [J2 hk] at hx;exact h.ki x hx
theorem Pt.comesK {n:Int} {t:Tie} (hn:0≤n) (h:Pt n t) (hs:KS t.kids) {m:Msg} (hm:m.inc≤n) (ha:0≤m.age) (lo:Int):Pt n (comesK t m lo).1:=by
 unfold Go.Tie.comesK
 split
 ·unfold attach;split
  ·exact h.hears hs hm
  ·exact h
 ·split
  ·unfold accept;split
   ·exact h
   ·split
    ·exact⟨Or.inr rfl,h.bn,h.pi,h.ki⟩
    ·exact⟨Or.inr rfl,by show t.now - m.age≤t.now;omega,hm,h.ki⟩
  ·split
   ·show Pt n (refuse t m)
    unfold refuse;split
    ·exact⟨Or.inr rfl,h.bn,h.pi,h.ki⟩
    ·split
     ·exact h.lets hn 0
     ·exact h
   ·split
    ·unfold beatUp;split
     ·exact h.hears hs hm
     ·exact h
    ·split
     ·unfold beatDn;split
      ·exact h
      ·split
       ·exact h.lets hn 1
       ·show Pt n (KU (way t m (m.path++[t.id])) m)
        unfold KU;split
        ·exact⟨h.pa,by show t.now - m.age≤t.now;omega,h.pi,h.ki⟩
        ·exact⟨h.pa,h.bn,h.pi,h.ki⟩
     ·split
      ·exact⟨h.pa,h.bn,h.pi,fun x hx=>h.ki x (YI hx)⟩
      ·exact h
theorem Pt.comes {n:Int} {t:Tie} (hn:0≤n) (h:Pt n t) (hs:KS t.kids) {m:Msg} (hm:m.inc≤n) (ha:0≤m.age) (lo:Int):Pt n (comes t m lo).1:=by
 unfold Go.Tie.comes
 split
 ·exact h
 ·unfold gone;split
  ·exact(h.lets hn 0).comesK hn hs hm ha lo
  ·exact h.comesK hn hs hm ha lo
end Go.Tie
/- What is told has a way just if it tells one. -/
namespace Go.Tie
open Go.Feed Go.Kids
def Mo (m:Msg):Prop:=m.path.length≤100000∧(¬ (m.kind=2∨m.kind=5)→m.path=[])
theorem Mo.says (t:Tie) (k to lo:Int):Mo (says t k to lo):=⟨by simp [Go.Tie.says],fun _=>rfl⟩
theorem Mo.full {t:Tie} (h:t.path.length≤10) {k:Int} (to lo:Int) (c:k=2∨k=5):Mo (full t k to lo):=⟨by show t.path.length≤_;omega,fun h=>absurd c h⟩
theorem Mo.beats {t:Tie} (h:t.path.length≤10):∀ m ∈ beats t,Mo m:=fun m hm=>by
 unfold Go.Tie.beats at hm
 split at hm
 ·cases hm
 ·rcases List.mem_append.1 hm with hm | hm
  ·split at hm
   ·rw [List.mem_singleton] at hm;subst hm;exact Mo.says _ _ _ _
   ·cases hm
  ·split at hm
   ·obtain⟨k,_,rfl⟩:=List.mem_map.1 hm;exact Mo.full h _ _ (Or.inr rfl)
   ·cases hm
theorem Mo.asks {t:Tie}:∀ m ∈ (asks t).2,Mo m:=fun m hm=>by
 unfold Go.Tie.asks at hm
 split at hm
 ·cases hm
 ·split at hm
  ·cases hm
  ·rw [List.mem_singleton] at hm;subst hm;exact Mo.says _ _ _ _
theorem Mo.tick {t:Tie} {k:Nat} (h:Bd t k):∀ m ∈ (tick t).2,Mo m:=fun m hm=>by
 rcases List.mem_append.1 hm with hm | hm
 ·exact Mo.asks m hm
 ·exact Mo.beats h.tick.path m hm
theorem Mo.comesK {t:Tie} (h:t.path.length≤10) (w:Msg) (lo:Int):∀ m ∈ (comesK t w lo).2,Mo m:=fun m hm=>by
 unfold Go.Tie.comesK at hm
 split at hm
 ·unfold attach at hm;split at hm
  ·rw [List.mem_singleton] at hm;subst hm;exact Mo.full h _ _ (Or.inl rfl)
  ·rw [List.mem_singleton] at hm;subst hm;exact Mo.says _ _ _ _
 ·split at hm
  ·unfold accept at hm;split at hm
   ·simp only at hm
    split at hm
    ·rw [List.mem_singleton] at hm;subst hm;exact Mo.says _ _ _ _
    ·cases hm
   ·split at hm
    ·rw [List.mem_singleton] at hm;subst hm;exact Mo.says _ _ _ _
    ·cases hm
  ·split at hm
   ·cases hm
   ·split at hm
    ·unfold beatUp at hm;split at hm
     ·cases hm
     ·rw [List.mem_singleton] at hm;subst hm;exact Mo.says _ _ _ _
    ·split at hm
     ·unfold beatDn at hm;split at hm
      ·rw [List.mem_singleton] at hm;subst hm;exact Mo.says _ _ _ _
      ·split at hm
       ·rw [List.mem_singleton] at hm;subst hm;exact Mo.says _ _ _ _
       ·cases hm
     ·split at hm
      ·cases hm
      ·cases hm
theorem Mo.comes {t:Tie} {k:Nat} (h:Bd t k) (w:Msg) (lo:Int):∀ m ∈ (comes t w lo).2,Mo m:=fun m hm=>by
 unfold Go.Tie.comes at hm
 split at hm
 ·cases hm
 ·exact Mo.comesK (h.gone w).path w lo m hm
theorem Mo.leave {t:Tie}:∀ m ∈ leave t,Mo m:=fun m hm=>by
 rcases List.mem_append.1 hm with hm | hm
 ·split at hm
  ·rw [List.mem_singleton] at hm;subst hm;exact Mo.says _ _ _ _
  ·cases hm
 ·obtain⟨k,_,rfl⟩:=List.mem_map.1 hm;exact Mo.says _ _ _ _
theorem Pt.weaken {n m:Int} {t:Tie} (h:Pt n t) (hm:n≤m):Pt m t:=⟨h.pa,h.bn,by have:=h.pi;omega,fun x hx=>by have:=h.ki x hx;omega⟩
end Go.Tie
/- What is the same. -/
namespace Go.Proofs.Ytdbbdfmkglgjdaa.Pi
open Go.Ab Go.Feed Go.Kids Go.Tie
set_option maxRecDepth 100000
section
variable {Q:z3}
theorem z5d {a:List Int} {va vb:AV} (ha:Sl 1 (ints a) va) (hb:Sl 1 (ints a) vb) (hl:a.length≤100000):∀ (m i:Nat),i+m=a.length →
  qS P1 va vb (.int .i64 i) Q=Zq Q:=by
 intro m
 induction m with
 | zero =>
  intro i hi
  obtain rfl:i=a.length:=by omega
  rw [jI,ve,ha.len]
  simp
 | succ m ih =>
  intro i hi
  have c1:((i:Int) < a.length)=True:=eq_true (by omega)
  have ea:=ha.get (k:=.i64) (Jk (l:=a) (i:=i) (by omega))
  have eb:=hb.get (k:=.i64) (Jk (l:=a) (i:=i) (by omega))
  have w:=w64 (i:=(i:Int)+1) (by omega) (by omega)
  have ih:=ih (i+1) (by omega)
  rw [show ((i+1:Nat):Int)=(i:Int)+1 by push_cast;rfl] at ih
  generalize a.getD i 0=x at *
  rw [jI,ve,ha.len]
  simp [c1,ea,eb,w]
  rw [ji,ih]
theorem z5e {a:List Int} {va vb:AV} (ha:Sl 1 (ints a) va) (hb:Sl 1 (ints a) vb) (hl:a.length≤100000):zd (z8 P1) 36 [va,vb] Q=some (.bool true,Q):=by
 have lp:=z5d (Q:=Q) ha hb hl a.length 0 (by omega)
 rw [show ((0:Nat):Int)=0 from rfl] at lp
 rw [Q8 rfl,ha.len,hb.len]
 simp
 rw [ji,lp]
 simp [YE]
theorem z1B (m:Msg) {va vb:AV} (ha:Sl 1 (ints m.path) va) (hb:Sl 1 (ints m.path) vb) (hl:m.path.length≤100000):zd (z8 P1) 60 [Mv m va,Mv m vb] Q=some (.bool true,Q):=by
 have si:=fun Q=>z5e (Q:=Q) ha hb hl
 have es:zc .eql (.str m.text) (.str m.text)=some (.bool true):=by simp [zc,z7q]
 rw [Qb rfl]
 simp [ha.one,hb.one,si,es]
theorem Mo.sl {m:Msg} (h:Mo m):Sl 1 (ints m.path) (mpv m):=by
 unfold mpv
 by_cases c:m.kind=2∨m.kind=5
 ·rw [if_pos c];exact Sl.fz _ _
 ·rw [if_neg c,h.2 c];exact Sl.nil 1
end
end Go.Proofs.Ytdbbdfmkglgjdaa.Pi
