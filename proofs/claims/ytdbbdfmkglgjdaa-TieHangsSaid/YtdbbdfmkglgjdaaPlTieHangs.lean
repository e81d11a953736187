/- What is told has a way just if it tells one. -/
import Derived.Test.YtdbbdfmkglgjdaaPmTieP
import Derived.Test.YtdbbdfmkglgjdaaPcTieE
import Derived.Test.YtdbbdfmkglgjdaaPcTieM
import Derived.Test.YtdbbdfmkglgjdaaPmKids
set_option linter.unusedVariables false
namespace Go.Tie
open Go.Feed Go.Kids
def Mo (m:Msg):Prop:=m.path.length≤100000∧(¬ (m.kind=2∨m.kind=5)→m.path=[])
theorem Mo.says (t:Tie) (k to lo:Int):Mo (says t k to lo):=⟨by simp [Go.Tie.says],fun _=>rfl⟩
theorem Mo.full {t:Tie} (h:t.path.length≤10) {k:Int} (to lo:Int) (c:k=2∨k=5):Mo (full t k to lo):=⟨by show t.path.length≤_;omega,fun h=>absurd c h⟩
theorem Mo.beats {t:Tie} (h:t.path.length≤10):∀ m ∈ beats t,Mo m:=fun m hm=>by
 unfold Go.Tie.beats at hm
 split at hm
 ·cases hm
 ·rcases List.mem_append.1 hm with hm | hm
  ·split at hm
   ·rw [List.mem_singleton] at hm;subst hm;exact Mo.says _ _ _ _
   ·cases hm
  ·split at hm
   ·obtain⟨k,_,rfl⟩:=List.mem_map.1 hm;exact Mo.full h _ _ (Or.inr rfl)
   ·cases hm
theorem Mo.asks {t:Tie}:∀ m ∈ (asks t).2,Mo m:=fun m hm=>by
 unfold Go.Tie.asks at hm
 split at hm
 ·cases hm
 ·split at hm
  ·cases hm
  ·rw [List.mem_singleton] at hm;subst hm;exact Mo.says _ _ _ _
theorem Mo.tick {t:Tie} {k:Nat} (h:Bd t k):∀ m ∈ (tick t).2,Mo m:=fun m hm=>by
 rcases List.mem_append.1 hm with hm | hm
 ·exact Mo.asks m hm
 ·exact Mo.beats h.tick.path m hm
theorem Mo.comesK {t:Tie} (h:t.path.length≤10) (w:Msg) (lo:Int):∀ m ∈ (comesK t w lo).2,Mo m:=fun m hm=>by
 unfold Go.Tie.comesK at hm
 split at hm
 ·unfold attach at hm;split at hm
  ·rw [List.mem_singleton] at hm;subst hm;exact Mo.full h _ _ (Or.inl rfl)
  ·rw [List.mem_singleton] at hm;subst hm;exact Mo.says _ _ _ _
 ·split at hm
  ·unfold accept at hm;split at hm
   ·simp only at hm
    split at hm
    ·rw [List.mem_singleton] at hm;subst hm;exact Mo.says _ _ _ _
    ·cases hm
   ·split at hm
    ·rw [List.mem_singleton] at hm;subst hm;exact Mo.says _ _ _ _
    ·cases hm
  ·split at hm
   ·cases hm
   ·split at hm
    ·unfold beatUp at hm;split at hm
     ·cases hm
     ·rw [List.mem_singleton] at hm;subst hm;exact Mo.says _ _ _ _
    ·split at hm
     ·unfold beatDn at hm;split at hm
      ·rw [List.mem_singleton] at hm;subst hm;exact Mo.says _ _ _ _
      ·split at hm
       ·rw [List.mem_singleton] at hm;subst hm;exact Mo.says _ _ _ _
       ·cases hm
     ·split at hm
      ·cases hm
      ·cases hm
theorem Mo.comes {t:Tie} {k:Nat} (h:Bd t k) (w:Msg) (lo:Int):∀ m ∈ (comes t w lo).2,Mo m:=fun m hm=>by
 unfold Go.Tie.comes at hm
 split at hm
 ·cases hm
 ·exact Mo.comesK (h.gone w).path w lo m hm
theorem Mo.leave {t:Tie}:∀ m ∈ leave t,Mo m:=fun m hm=>by
 rcases List.mem_append.1 hm with hm | hm
 ·split at hm
  ·rw [List.mem_singleton] at hm;subst hm;exact Mo.says _ _ _ _
  ·cases hm
 ·obtain⟨k,_,rfl⟩:=List.mem_map.1 hm;exact Mo.says _ _ _ _
theorem Pt.weaken {n m:Int} {t:Tie} (h:Pt n t) (hm:n≤m):Pt m t:=⟨h.pa,h.bn,by have:=h.pi;omega,fun x hx=>by have:=h.ki x hx;omega⟩
end Go.Tie
/- What is the same. -/
set_option linter.unusedSimpArgs false
namespace Go.Proofs.Ytdbbdfmkglgjdaa.Pi
open Go.Ab Go.Feed Go.Kids Go.Tie
set_option maxRecDepth 100000
section
variable {Q:z3}
theorem z73 {a:List Int} {va vb:AV} (ha:Sl 1 (ints a) va) (hb:Sl 1 (ints a) vb) (hl:a.length≤100000):∀ (m i:Nat),i+m=a.length →
  jh P1 va vb (.int .i64 i) Q=Y8 Q:=by
 intro m
 induction m with
 | zero =>
  intro i hi
  obtain rfl:i=a.length:=by omega
  rw [kg,vN,ha.len]
  simp
 | succ m ih =>
  intro i hi
  have c1:((i:Int) < a.length)=True:=eq_true (by omega)
  have ea:=ha.get (k:=.i64) (Ku (l:=a) (i:=i) (by omega))
  have eb:=hb.get (k:=.i64) (Ku (l:=a) (i:=i) (by omega))
  have w:=w64 (i:=(i:Int)+1) (by omega) (by omega)
  have ih:=ih (i+1) (by omega)
  rw [show ((i+1:Nat):Int)=(i:Int)+1 by push_cast;rfl] at ih
  generalize a.getD i 0=x at *
  rw [kg,vN,ha.len]
  simp [c1,ea,eb,w]
  rw [jy,ih]
theorem z74 {a:List Int} {va vb:AV} (ha:Sl 1 (ints a) va) (hb:Sl 1 (ints a) vb) (hl:a.length≤100000):zc (z6 P1) 36 [va,vb] Q=some (.bool true,Q):=by
 have lp:=z73 (Q:=Q) ha hb hl a.length 0 (by omega)
 rw [show ((0:Nat):Int)=0 from rfl] at lp
 rw [QV rfl,ha.len,hb.len]
 simp
 rw [jy,lp]
 simp [Xt]
theorem Mo.sl {m:Msg} (h:Mo m):Sl 1 (ints m.path) (mpv m):=by
 unfold mpv
 by_cases c:m.kind=2∨m.kind=5
 ·rw [if_pos c];exact Sl.fz _ _
 ·rw [if_neg c,h.2 c];exact Sl.nil 1
end
end Go.Proofs.Ytdbbdfmkglgjdaa.Pi
/- How old; who hangs on z5D. -/
namespace Go.Tie
open Go.Feed Go.Kids
theorem zbr {l:List Kid} {s n k:Int} (h:∀ x ∈ l,x.inc≤n) (hk:n≤k):z2W l s k=false:=by
 unfold z2W
 cases e:x6 l s with
 | none=>rfl
 | some x=>have:=h x (JR e).1;exact decide_eq_false (by omega)
theorem z8u {t:Tie} {m:Msg} (ho:z2W t.kids m.frm m.inc=false) (hk:m.kind=2) (hf:m.frm≠0) (lo:Int) (c1:t.parent=0) (c2:t.asked=m.frm) (c3:kj (m.path++[t.id])) (c4:m.age≤20) :
  comes t m lo=({ t with asked:=0,path:=m.path++[t.id],grand:=Jr m.path,parent:=m.frm,pinc:=m.inc,epoch:=m.epoch,born:=t.now - m.age,step:=0 },[]):=by
 have nf:¬ m.frm=t.parent:=by rw [c1];exact hf
 unfold comes
 rw [if_neg (by rintro (c | c);rw [ho] at c;cases c;exact nf c.1)]
 rw [show gone t m=t from if_neg (fun c=>nf c.2.1)]
 unfold comesK
 rw [hk,if_neg (by decide),if_pos rfl]
 unfold accept
 rw [if_neg (by rintro (c | c);exact c c2;exact c c1),if_neg (by rintro (c | c);exact c c3;omega)]
theorem zaa {t:Tie} {m:Msg} (ho:z2W t.kids m.frm m.inc=false) (hk:m.kind=2) (hf:m.frm≠0) (hpi:t.pinc < m.inc) (lo:Int) (c:¬ (t.parent=0∧t.asked=m.frm∧kj (m.path++[t.id])∧m.age≤20)) :
  (∃ x,(comes t m lo).2=[says x 6 m.frm 0])∧((comes t m lo).1.parent=t.parent∨(comes t m lo).1.parent=0)∧(comes t m lo).1.parent≠m.frm:=by
 unfold comes
 rw [if_neg (by rintro (c | c);rw [ho] at c;cases c;omega)]
 unfold gone
 by_cases cp:m.frm=t.parent
 ·have hp:t.parent≠0:=by rw [← cp];exact hf
  rw [if_pos ⟨hp,cp,hpi⟩]
  unfold comesK
  rw [hk,if_neg (by decide),if_pos rfl]
  unfold accept
  rw [if_pos (Or.inl (by show (0:Int)≠m.frm;exact Ne.symm hf)),if_pos (by show (0:Int)≠m.frm;exact Ne.symm hf)]
  exact⟨⟨_,rfl⟩,Or.inr rfl,by show (0:Int)≠m.frm;exact Ne.symm hf⟩
 ·rw [if_neg (fun x=>cp x.2.1)]
  unfold comesK
  rw [hk,if_neg (by decide),if_pos rfl]
  unfold accept
  by_cases c1:t.asked≠m.frm∨t.parent≠0
  ·rw [if_pos c1,if_pos (fun x=>cp x.symm)]
   exact⟨⟨_,rfl⟩,Or.inl rfl,fun x=>cp x.symm⟩
  ·have e1:t.asked=m.frm:=Decidable.byContradiction fun x=>c1 (Or.inl x)
   have e2:t.parent=0:=Decidable.byContradiction fun x=>c1 (Or.inr x)
   rw [if_neg c1,if_pos (by
    by_cases c3:kj (m.path++[t.id])
    ·exact Or.inr (by
      rcases Int.lt_or_le 20 m.age with h | h
      ·exact h
      ·exact absurd ⟨e2,e1,c3,h⟩ c)
    ·exact Or.inl c3)]
   exact⟨⟨_,rfl⟩,Or.inl rfl,by show t.parent≠m.frm;rw [e2];exact Ne.symm hf⟩
end Go.Tie
/- Who hangs on z5D: the walk. -/
namespace Go.Proofs.Ytdbbdfmkglgjdaa.Pi
open Go.Ab Go.Feed Go.Kids Go.Tie
set_option maxRecDepth 100000
theorem zab {a b:Int} (h:0≤a):a.tmod b=a % b:=Int.tmod_eq_emod_of_nonneg h
theorem z75 {i:Int} (h:0≤i) (h2:i≤255):IntKind.u8.wrap i=i:=by
 have:IntKind.u8.wrap i=i % 256:=rfl
 rw [this];omega
section
theorem z7H {Q:z3} {t:Tie} {pv kv:AV} {id:Int} (hM:Mt id 5000 t pv kv) {m:Msg} (hmb:Mb m) (hk:m.kind=2) (hf:m.frm≠0) (hi:m.inc=9):∃ Q',z5 (zc (z6 P1)) (zi (z6 P1)) xn [(11,.v (.int .i64 id)),(12,.lp 12 0),(13,.lp 13 0)] [(12,.cells [.int .i64 t.id,.int .i64 t.inc,.int .i64 t.now,.int .i64 t.parent,.int .i64 t.pinc,.int .i64 t.grand,pv,.int .i64 t.epoch,.int .i64 t.born,.int .i64 t.asked,.int .i64 t.till,.int .i64 t.step,kv]),(13,.cells [.int .i64 m.kind,.int .i64 m.frm,.int .i64 m.to,.int .i64 m.inc,.int .i64 m.epoch,.int .i64 m.age,.fz 1 (ints m.path),.int .i64 m.lo,.int .i64 m.hi,.str m.text])] Q (zp [.tmp 10] [.n])=some (.bool true,Q'):=by
 have hid:=hM.id
 subst hid
 have hn:=hM.bd.now
 have ha:=hmb.age
 have hpl:=hmb.path
 have ho:z2W t.kids m.frm m.inc=false:=zbr hM.pt.ki (by omega)
 have hpi:t.pinc < m.inc:=by have:=hM.pt.pi;omega
 obtain⟨pv',kv',Q1,e,hp',hk',ab⟩:=zbp (Q:=Q) hM.p hM.k hM.bd (by omega) hmb (Sl.fz 1 (ints m.path)) 1
 have ad:=fun Q=>JP (Q:=Q) (Sl.fz 1 (ints m.path)) (by omega) t.id
 have w2:=w64 (i:=t.now - m.age) (by omega) (by omega)
 refine⟨Q1,?_⟩
 rw [YS]
 have hlen:(m.path++[t.id]).length≤100000:=by simp;omega
 by_cases c:t.parent=0∧t.asked=m.frm∧kj (m.path++[t.id])∧m.age≤20
 ·obtain⟨c1,c2,c3,c4⟩:=c
  rw [z8u ho hk hf 1 c1 c2 c3 c4] at e hp' hk'
  simp only at e hp' hk'
  simp only [if_pos c3] at ad
  have si:=fun Q=>z74 (Q:=Q) hp' (Sl.fz 1 _) hlen
  generalize m.path++[t.id]=P at *
  have c1':=eq_true c1
  have c2':=eq_true c2
  have c4':=eq_true c4
  have i9:=eq_true hi
  simp only [List.map_nil] at e
  simp [e,hp'.one,hk'.one,ad,c1',c2',c4',si,w2,i9]
 ·obtain⟨⟨x,hx⟩,h2,h3⟩:=zaa ho hk hf hpi 1 c
  generalize comes t m 1=T at *
  obtain⟨y,ms⟩:=T
  simp only at *
  subst hx
  have ve:=KM x m.frm 0 (kind:=6) (by decide)
  have e0:elQ 10 (.fz 10 [Msg.v (says x 6 m.frm 0)]) (.int .i64 0)=some (Msg.v (says x 6 m.frm 0)):=rfl
  simp only [List.map_cons,List.map_nil,ve] at e e0
  have h3':=eq_false h3
  have tail:((y.parent=t.parent)=True)∨((y.parent=t.parent)=False∧(y.parent=0)=True):=by
   rcases em2 (y.parent=t.parent) with h | h
   ·exact Or.inl h
   ·exact Or.inr ⟨h,eq_true (h2.resolve_left (of_eq_false h))⟩
  by_cases c3:kj (m.path++[t.id])
  ·simp only [if_pos c3] at ad
   generalize m.path++[t.id]=P at *
   rcases em2 (t.parent=0) with c1 | c1
   ·rcases em2 (t.asked=m.frm) with c2 | c2
    ·have c4:(m.age≤20)=False:=eq_false fun h=>c ⟨of_eq_true c1,of_eq_true c2,c3,h⟩
     rcases tail with h | ⟨h,h'⟩
     ·simp [e,hp'.one,hk'.one,ad,c1,c2,c4,e0,h,h3']
     ·simp [e,hp'.one,hk'.one,ad,c1,c2,c4,e0,h,h',h3']
    ·rcases tail with h | ⟨h,h'⟩
     ·simp [e,hp'.one,hk'.one,ad,c1,c2,e0,h,h3']
     ·simp [e,hp'.one,hk'.one,ad,c1,c2,e0,h,h',h3']
   ·rcases tail with h | ⟨h,h'⟩
    ·simp [e,hp'.one,hk'.one,ad,c1,e0,h,h3']
    ·simp [e,hp'.one,hk'.one,ad,c1,e0,h,h',h3']
  ·simp only [if_neg c3] at ad
   rcases em2 (t.parent=0) with c1 | c1
   ·rcases em2 (t.asked=m.frm) with c2 | c2
    ·rcases tail with h | ⟨h,h'⟩
     ·simp [e,hp'.one,hk'.one,ad,c1,c2,e0,h,h3']
     ·simp [e,hp'.one,hk'.one,ad,c1,c2,e0,h,h',h3']
    ·rcases tail with h | ⟨h,h'⟩
     ·simp [e,hp'.one,hk'.one,ad,c1,c2,e0,h,h3']
     ·simp [e,hp'.one,hk'.one,ad,c1,c2,e0,h,h',h3']
   ·rcases tail with h | ⟨h,h'⟩
    ·simp [e,hp'.one,hk'.one,ad,c1,e0,h,h3']
    ·simp [e,hp'.one,hk'.one,ad,c1,e0,h,h',h3']
theorem z76 {A B:List Int} (rA:∀ n ∈ A,IntKind.u8.min≤n∧n≤IntKind.u8.max) (rB:∀ n ∈ B,IntKind.u8.min≤n∧n≤IntKind.u8.max) {who by_ age:Int} (hw:IntKind.u8.min≤who∧who≤IntKind.u8.max) (hby:IntKind.u8.min≤by_∧by_≤IntKind.u8.max) (hage:IntKind.u8.min≤age∧age≤IntKind.u8.max) :
  ∃ Q',zc (z6 P1) 10 [.fz 1 (A.map (AV.int .u8)),.fz 1 (B.map (AV.int .u8)),.int .u8 who,.int .u8 by_,.int .u8 age] z3.empty=some (.bool true,Q'):=by
 have hb0:∀ Q,zc (z6 P1) 11 [] Q=some (.bool true,Q):=fun Q=>by rw [Qw (g:=zbL) rfl];rfl
 have hw:0≤who∧who≤255:=hw
 have hby:0≤by_∧by_≤255:=hby
 have hage:0≤age∧age≤255:=hage
 rw [Qi rfl]
 by_cases hA:200 < A.length
 ·have hA':(200:Int) < A.length:=by omega
  exact⟨z3.empty,by simp [hb0,hA']⟩
 have hA':¬ (200:Int) < A.length:=by omega
 by_cases hB:6 < B.length
 ·have hB':(6:Int) < B.length:=by omega
  exact⟨z3.empty,by simp [hb0,hA',hB']⟩
 have hB':¬ (6:Int) < B.length:=by omega
 have hL:Ps A:=⟨by omega,fun n hn=>rA n hn⟩
 have hLB:Ps B:=⟨by omega,fun n hn=>rB n hn⟩
 have m1:=zab (a:=who) (b:=7) hw.1
 have m2:=zab (a:=by_) (b:=8) hby.1
 have m3:=zab (a:=age) (b:=30) hage.1
 have u1:=z75 (i:=who % 7) (by omega) (by omega)
 have u2:=z75 (i:=by_ % 8) (by omega) (by omega)
 have u3:=z75 (i:=age % 30) (by omega) (by omega)
 have v1:=w64 (i:=who % 7) (by omega) (by omega)
 have v2:=w64 (i:=by_ % 8) (by omega) (by omega)
 have v3:=w64 (i:=age % 30) (by omega) (by omega)
 have v4:=w64 (i:=2+who % 7) (by omega) (by omega)
 have v5:=w64 (i:=1+by_ % 8) (by omega) (by omega)
 have hid:2≤2+who % 7∧2+who % 7≤8:=by omega
 have hfr:1≤1+by_ % 8:=by omega
 have hag:0≤age % 30∧age % 30≤30:=by omega
 generalize hE:2+who % 7=id at *
 generalize hF:1+by_ % 8=fr at *
 generalize age % 30=ag at *
 obtain⟨p,Q1,em,hq⟩:=zaf A z3.empty
 obtain⟨t,pv,kv,Q2,et,hM,_⟩:=zet hL (id:=id) (by omega) hq
 obtain⟨p2,Q3,em2',hq3⟩:=zaf B Q2
 obtain⟨W,Q4,eW,hW,hWl,_⟩:=z27 hq3 hLB
 have mb:∀ f:Int,Mb ⟨2,f,id,9,3,ag,W,1,0,[]⟩:=fun f=>⟨by simp;omega,by simp,by simp;omega⟩
 rcases em2 (fr=id) with c | c
 ·exact⟨Q4,by simp [hb0,hA',hB',m1,m2,m3,u1,u2,u3,v1,v2,v3,hE,v4,hF,v5,em,et,em2',eW,hM.p.one,hM.k.one,c]⟩
 by_cases c1:128≤by_∧t.asked≠0∧t.asked≠id
 ·obtain⟨Q',h0⟩:=z7H (Q:=Q4) hM (mb t.asked) rfl c1.2.1 rfl
  refine⟨Q',?_⟩
  have d1:=eq_true c1.1
  have d2:=eq_false c1.2.1
  have d3:=eq_false c1.2.2
  rw [← h0]
  simp [hb0,hA',hB',m1,m2,m3,u1,u2,u3,v1,v2,v3,hE,v4,hF,v5,em,et,em2',eW,hM.p.one,hM.k.one,c,d1,d2,d3]
 ·obtain⟨Q',h0⟩:=z7H (Q:=Q4) hM (mb fr) rfl (show fr≠0 by omega) rfl
  refine⟨Q',?_⟩
  rw [← h0]
  rcases em2 (128≤by_) with d1 | d1
  ·rcases em2 (t.asked=0) with d2 | d2
   ·simp [hb0,hA',hB',m1,m2,m3,u1,u2,u3,v1,v2,v3,hE,v4,hF,v5,em,et,em2',eW,hM.p.one,hM.k.one,c,d1,d2]
   ·have d3:(t.asked=id)=True:=eq_true (Decidable.byContradiction fun h=>c1 ⟨of_eq_true d1,of_eq_false d2,h⟩)
    simp [hb0,hA',hB',m1,m2,m3,u1,u2,u3,v1,v2,v3,hE,v4,hF,v5,em,et,em2',eW,hM.p.one,hM.k.one,c,d1,d2,d3]
  ·simp [hb0,hA',hB',m1,m2,m3,u1,u2,u3,v1,v2,v3,hE,v4,hF,v5,em,et,em2',eW,hM.p.one,hM.k.one,c,d1]
end
end Go.Proofs.Ytdbbdfmkglgjdaa.Pi
/- The law TieHangs. -/
namespace Go.Proofs.Ytdbbdfmkglgjdaa.Pi
open Go.Ab
set_option maxRecDepth 100000
theorem Wu {H:z3} (v:AV) (A:List Int) (hA:rdI .u8 H v=some A) (hl:A.length≤maxLen) (rA:∀ n ∈ A,IntKind.u8.min≤n∧n≤IntKind.u8.max) (hc:capOk v=true)
  (w:AV) (B:List Int) (hB:rdI .u8 H w=some B) (hlB:B.length≤maxLen) (rB:∀ n ∈ B,IntKind.u8.min≤n∧n≤IntKind.u8.max) (hcB:capOk w=true)
  (n:Int) (hn:IntKind.u8.min≤n∧n≤IntKind.u8.max) (m:Int) (hm:IntKind.u8.min≤m∧m≤IntKind.u8.max) (k:Int) (hk:IntKind.u8.min≤k∧k≤IntKind.u8.max) :
  vj (zM (env S1) 10 [v,w,.int .u8 n,.int .u8 m,.int .u8 k] H) fun v _=>v=.bool true:=by
 refine zaI pe1 (by decide) (z76 (A:=A) (B:=B) rA rB hn hm hk) (RL.cons (RV.ints hA hc) (RL.cons (RV.ints hB hcB) (RL.cons RV.int (RL.cons RV.int (RL.cons RV.int RL.nil')))))
end Go.Proofs.Ytdbbdfmkglgjdaa.Pi
