/- The quicker evaluator tells what the evaluator tells. -/
import Derived.Test.YtdbbdfmkglgjdaaAb16
set_option linter.unusedVariables false
set_option linter.unusedSimpArgs false
set_option linter.unusedSectionVars false
namespace Go.Ab
noncomputable def TT.at (t:TT):AX→AV
 | .t n=>t.get n
 | .c v=>v
noncomputable def TT.put (t:TT) (d:Option Nat) (v:AV):TT:=match d with
 | some d=>TT.set v (d+1) t d
 | none=>t
noncomputable def QX (t:TT):Option (Nat × Bool)→Bool
 | none=>true
 | some (k,w)=>match t.get k with
  | .bool b=>b == w
  | _=>false
noncomputable def z7D (t:TT) (H:z3):vl→Option AV
 | .tmp k=>some (t.get k)
 | .cell a n=>match t.get a with
  | .ptr r o=>match n with
   | none=>H.cell r o
   | some n=>(H.row r o n).map .agg
  | _=>none
noncomputable def K9 (t:TT) (H:z3) (l:List vl):Option AV:=match zO (z7D t H) l with
 | some [v]=>some v
 | some vs=>some (.tup vs)
 | none=>none
noncomputable def z1v (call:z7) (t:TT) (H:z3) (op:AOp):Option (AV × z3):=match z5L t.at op with
 | some (g,vs)=>call g vs H
 | none=>z7A t.at H op
noncomputable def z7E (call:z7) (l:List zk):TT→z3→Option (TT × z3) :=
 List.rec (motive:=fun _=>TT→z3→Option (TT × z3)) (fun t H=>some (t,H))
  (fun o _ ih t H=>match QX t o.guard with
   | true=>match z1v call t H o.op with
    | some (v,H')=>ih (t.put o.dst v) H'
    | none=>none
   | false=>ih (t.put o.dst z4) H) l
inductive Jb where
 | none
 | q (t:TT) (op:AOp) (v:AV)
 | made (r:Nat)
noncomputable def z54 (H H':z3):Jb→Bool
 | .none=>true
 | .q t op v=>match z7A t.at H' op with
  | some (v',H2)=>H2.size == H'.size && qA v v'
  | none=>false
 | .made r=>match H.get r,H'.get r with
  | some (.cells k z a),some (.cells k' z' b)=>k == k' && z == z' && Zd a b
  | _,_=>false
noncomputable def Ka (H H':z3) (recs:List Jb):List Nat→Bool
 | []=>true
 | p::l=>(match recs[p]? with
  | some q=>z54 H H' q
  | none=>false) && Ka H H' recs l
noncomputable def z7F (g:AX→AV) (r:Nat):AOp→Option (AV × zF)
 | .newc cs=>if cs.all AV.one then some (.ptr r 0,.cells .exact cs.length cs) else none
 | .box x=>if (g x).cells.all AV.one then some (.ptr r 0,.cells .exact (g x).cells.length (g x).cells) else none
 | .bsl esz z n ps=>if esz=0∨z.length≠esz∨16777216 < n * esz then none else
  match q7 (yU n z) (ps.map fun(o,s,x)=>(o,s,g x)) with
  | some cs=>if cs.all AV.one then some (.sl r 0 n (.ex n),.cells .exact esz cs) else none
  | none=>none
 | _=>none
noncomputable def z08 (call:z7) (base:Nat) (l:List (zk × DK)):List Jb→TT→z3→Option (TT × z3) :=
 List.rec (motive:=fun _=>List Jb→TT→z3→Option (TT × z3)) (fun _ t H=>some (t,H))
  (fun o _ ih recs t H=>match QX t o.1.guard with
   | true=>match o.2 with
    | .q=>match z7A t.at H o.1.op with
     | some (v,H')=>if H'.size=H.size then ih (recs++[.q t o.1.op v]) (t.put o.1.dst v) H else none
     | none=>none
    | .al k=>match z7F t.at (base+k) o.1.op with
     | some (v,ob)=>if (H.get (base+k)).isNone then ih (recs++[.made (base+k)]) (t.put o.1.dst v) (H.put (base+k) (some ob)) else none
     | none=>none
    | .ef pins=>match z1v call t H o.1.op with
     | some (v,H')=>if Ka H H' recs pins then ih (recs++[.none]) (t.put o.1.dst v) H' else none
     | none=>none
   | false=>ih (recs++[.none]) (t.put o.1.dst z4) H) l
noncomputable def z09:List AV→Nat→TT→TT
 | [],_,t=>t
 | a::l,k,t=>z09 l (k+1) (TT.set a (k+1) t k)
noncomputable def Ql (E:Env) (n:Nat):z7 × (x3→TT→z3→Option (zE × TT × z3)) :=
 Nat.rec (motive:=fun _=>z7 × (x3→TT→z3→Option (zE × TT × z3))) (fun _ _ _=>none,fun _ _ _=>none)
  (fun _ ih=>(fun f args H=>match E.spec f with
    | some g=>g args H
    | none=>match E.fns f with
     | none=>none
     | some fn=>match ih.2 fn.code (z09 args 0 .leaf) H with
      | some (.normal,t,H') | some (.ret,t,H')=>(K9 t H' fn.res).map fun v=>(v,H')
      | _=>none,
   fun c t H=>match c with
    | .skip=>some (.normal,t,H)
    | .ret=>some (.ret,t,H)
    | .exit i=>some (.exit i,t,H)
    | .reg ops=>(z7E ih.1 ops t H).map fun(t,H)=>(.normal,t,H)
    | .dreg na ops=>(z08 ih.1 H.size ops [] t (pushN na H)).map fun(t,H)=>(.normal,t,H)
    | .seq a b=>match ih.2 a t H with
     | some (.normal,t,H)=>ih.2 b t H
     | r=>r
    | .cond x a b=>match t.at x with
     | .bool w=>ih.2 (if w then a else b) t H
     | _=>none
    | .block i c=>match ih.2 c t H with
     | some (.exit j,t,H)=>some (if j=i then .normal else .exit j,t,H)
     | r=>r
    | .loop c=>match ih.2 c t H with
     | some (.normal,t,H)=>ih.2 (.loop c) t H
     | r=>r)) n

def Vh (n:Nat) (o:zk):Bool:=match o.dst with
 | some d=>decide (d < n)
 | none=>true
def ZZ (n:Nat):x3→Bool
 | .reg ops=>ops.all (Vh n)
 | .dreg _ ops=>ops.all fun o=>Vh n o.1
 | .seq a b=>ZZ n a && ZZ n b
 | .cond _ a b=>ZZ n a && ZZ n b
 | .block _ c=>ZZ n c
 | .loop c=>ZZ n c
 | _=>true
def z2h (n:Nat):vl→Bool
 | .tmp k=>decide (k < n)
 | .cell k _=>decide (k < n)
def z7G (fn:AFn):Bool:=ZZ fn.nt fn.code && fn.res.all (z2h fn.nt)
structure RT (n:Nat) (τ:Tau) (t:TT):Prop where
 len:n≤τ.length
 get:∀ k,t.get k=τ.getD k z4
theorem RT.at {n:Nat} {τ:Tau} {t:TT} (h:RT n τ t):t.at=τ.at:=by
 funext x
 cases x with
 | t k=>exact h.get k
 | c v=>rfl
theorem RT.put {n:Nat} {τ:Tau} {t:TT} (h:RT n τ t) {o:zk} (hb:Vh n o=true) (v:AV):RT n (τ.put o.dst v) (t.put o.dst v):=by
 unfold Vh at hb
 cases hd:o.dst with
 | none=>exact h
 | some d =>
  rw [hd] at hb
  have hlt:d < n:=by simpa using hb
  refine⟨by simp [Tau.put,h.len],fun k=>?_⟩
  simp only [TT.put,Tau.put]
  rw [TT.get_set _ _ _ _ _ (Nat.lt_succ_self d),h.get]
  have:=h.len
  by_cases e:k=d
  ·subst e
   simp [List.getD,show k < τ.length by omega]
  ·simp [List.getD,e,show ¬ d=k from fun x=>e x.symm]
theorem RT.wanted {n:Nat} {τ:Tau} {t:TT} (h:RT n τ t) (g:Option (Nat × Bool)):QX t g=za τ g:=by
 cases g with
 | none=>rfl
 | some kw =>
  obtain⟨k,w⟩:=kw
  simp only [QX,za,h.get,List.getD]
  cases τ[k]? with
  | none=>rfl
  | some v=>cases v<;>rfl
theorem RT.step {n:Nat} {τ:Tau} {t:TT} (h:RT n τ t) {call call':z7} (hc:∀ f args H r,call f args H=some r→call' f args H=some r) {H:z3} {op:AOp} {r:AV × z3} (hs:z1v call t H op=some r) :
  xL call' τ H op=some r:=by
 unfold z1v at hs
 unfold xL
 rw [z7C,← h.at]
 split at hs
 ·rename_i g vs hg
  rw [hg]
  exact hc _ _ _ _ hs
 ·rename_i hg
  rw [hg]
  simp only
  rw [z7B,← h.at]
  exact hs
theorem z2i {n:Nat} {call call':z7} (hc:∀ f args H r,call f args H=some r→call' f args H=some r):∀ (l:List zk) (τ:Tau) (t:TT) (H:z3) (t':TT) (H':z3),
  l.all (Vh n)=true→RT n τ t→z7E call l t H=some (t',H')→∃ τ',kK call' l τ H=some (τ',H')∧RT n τ' t'
 | [],τ,t,H,t',H',_,h,e=>by
  obtain⟨rfl,rfl⟩:=Prod.mk.inj (Option.some.inj e)
  exact⟨τ,rfl,h⟩
 | o::l,τ,t,H,t',H',hb,h,e=>by
  simp only [List.all_cons,Bool.and_eq_true] at hb
  change (match QX t o.guard with
   | true=>match z1v call t H o.op with
    | some (v,H')=>z7E call l (t.put o.dst v) H'
    | none=>none
   | false=>z7E call l (t.put o.dst z4) H)=_ at e
  rw [h.wanted] at e
  unfold kK
  cases hw:za τ o.guard with
  | true =>
   rw [hw] at e
   simp only [if_true] at e ⊢
   split at e
   ·rename_i v H1 hs
    rw [h.step hc hs]
    exact z2i hc l _ _ _ _ _ hb.2 (h.put hb.1 v) e
   ·cases e
  | false =>
   rw [hw] at e
   simp only [Bool.false_eq_true,if_false] at e ⊢
   exact z2i hc l _ _ _ _ _ hb.2 (h.put hb.1 _) e
inductive z6z:Rec→Jb→Prop where
 | none:z6z .none .none
 | q {n:Nat} {τ:Tau} {t:TT} (h:RT n τ t) (op:AOp) (v:AV):z6z (.q τ op v) (.q t op v)
 | made (r:Nat):z6z (.made r) (.made r)
def z3g (a:List Rec) (b:List Jb):Prop:=a.length=b.length∧∀ (p:Nat) (x:Jb),b[p]? = some x→∃ y,a[p]? = some y∧z6z y x
theorem z3g.snoc {a:List Rec} {b:List Jb} (h:z3g a b) {y:Rec} {x:Jb} (hr:z6z y x):z3g (a++[y]) (b++[x]):=by
 refine⟨by simp [h.1],fun p x' hx=>?_⟩
 by_cases hp:p < b.length
 ·rw [List.getElem?_append_left hp] at hx
  rw [List.getElem?_append_left (by rw [h.1];exact hp)]
  exact h.2 p x' hx
 ·rw [List.getElem?_append_right (by omega)] at hx
  rw [List.getElem?_append_right (by rw [h.1];omega),h.1]
  cases hq:p - b.length with
  | zero=>rw [hq] at hx;simp at hx;subst hx;exact⟨y,by simp,hr⟩
  | succ q=>rw [hq] at hx;simp at hx
theorem z9z {H H':z3} {y:Rec} {x:Jb} (h:z6z y x):z54 H H' x=jT H H' y:=by
 cases h with
 | none=>rfl
 | q h op v=>simp only [z54,jT,z7B,h.at];rfl
 | made r=>rfl
theorem z3h {H H':z3} {a:List Rec} {b:List Jb} (h:z3g a b):∀ (l:List Nat),Ka H H' b l=true→jr H H' a l=true
 | [],_=>rfl
 | p::l,e=>by
  simp only [Ka,jr,Bool.and_eq_true] at e ⊢
  refine⟨?_,z3h h l e.2⟩
  have e1:=e.1
  split at e1
  ·rename_i q hq
   obtain⟨y,hy,hr⟩:=h.2 p q hq
   rw [hy]
   rw [z9z hr] at e1
   exact e1
  ·cases e1
theorem zaA (τ:Tau) (r:Nat) (o:AOp):xB τ r o=z7F τ.at r o:=by cases o<;>rfl
theorem Qm {n:Nat} {call call':z7} (hc:∀ f args H r,call f args H=some r→call' f args H=some r) (base:Nat):∀ (l:List (zk × DK)) (recs:List Rec) (recf:List Jb) (τ:Tau) (t:TT) (H:z3) (t':TT) (H':z3),
  (l.all fun o=>Vh n o.1)=true→z3g recs recf→RT n τ t→z08 call base l recf t H=some (t',H')→∃ τ',x9 call' base l recs τ H=some (τ',H')∧RT n τ' t'
 | [],recs,recf,τ,t,H,t',H',_,_,h,e=>by
  obtain⟨rfl,rfl⟩:=Prod.mk.inj (Option.some.inj e)
  exact⟨τ,rfl,h⟩
 | (o,dk)::l,recs,recf,τ,t,H,t',H',hb,hrec,h,e=>by
  simp only [List.all_cons,Bool.and_eq_true] at hb
  change (match QX t o.guard with
   | true=>match dk with
    | .q=>match z7A t.at H o.op with
     | some (v,H')=>if H'.size=H.size then z08 call base l (recf++[Jb.q t o.op v]) (t.put o.dst v) H else none
     | none=>none
    | .al k=>match z7F t.at (base+k) o.op with
     | some (v,ob)=>if (H.get (base+k)).isNone then z08 call base l (recf++[Jb.made (base+k)]) (t.put o.dst v) (H.put (base+k) (some ob)) else none
     | none=>none
    | .ef pins=>match z1v call t H o.op with
     | some (v,H')=>if Ka H H' recf pins then z08 call base l (recf++[Jb.none]) (t.put o.dst v) H' else none
     | none=>none
   | false=>z08 call base l (recf++[Jb.none]) (t.put o.dst z4) H)=_ at e
  rw [h.wanted] at e
  unfold x9
  cases hw:za τ o.guard with
  | true =>
   rw [hw] at e
   simp only [if_true] at e ⊢
   cases dk with
   | q =>
    simp only at e ⊢
    rw [h.at,← z7B] at e
    split at e
    ·rename_i v H1 hs
     rw [hs]
     simp only
     split at e
     ·rename_i hsz
      rw [if_pos hsz]
      exact Qm hc base l _ _ _ _ _ _ _ hb.2 (hrec.snoc (.q h _ _)) (h.put hb.1 v) e
     ·cases e
    ·cases e
   | al k =>
    simp only at e ⊢
    rw [h.at,← zaA] at e
    split at e
    ·rename_i v ob hs
     rw [hs]
     simp only
     split at e
     ·rename_i hsz
      rw [if_pos hsz]
      exact Qm hc base l _ _ _ _ _ _ _ hb.2 (hrec.snoc (.made _)) (h.put hb.1 v) e
     ·cases e
    ·cases e
   | ef pins =>
    simp only at e ⊢
    split at e
    ·rename_i v H1 hs
     rw [h.step hc hs]
     simp only
     split at e
     ·rename_i hr
      rw [if_pos (z3h hrec _ hr)]
      exact Qm hc base l _ _ _ _ _ _ _ hb.2 (hrec.snoc .none) (h.put hb.1 v) e
     ·cases e
    ·cases e
  | false =>
   rw [hw] at e
   simp only [Bool.false_eq_true,if_false] at e ⊢
   exact Qm hc base l _ _ _ _ _ _ _ hb.2 (hrec.snoc .none) (h.put hb.1 _) e
theorem z1w:∀ (l:List AV) (k:Nat) (t:TT) (m:Nat),(z09 l k t).get m=if k≤m∧m < k+l.length then l.getD (m - k) z4 else t.get m
 | [],k,t,m=>by simp [z09];intro h1 h2;omega
 | a::l,k,t,m=>by
  rw [z09,z1w l (k+1),TT.get_set _ _ _ _ _ (Nat.lt_succ_self k)]
  simp only [List.length_cons]
  by_cases h1:m=k
  ·subst h1
   rw [if_neg (by omega),if_pos rfl,if_pos (by omega)]
   simp
  ·by_cases h2:k+1≤m∧m < k+1+l.length
   ·rw [if_pos h2,if_pos (by omega)]
    obtain⟨d,rfl⟩:∃ d,m=k+1+d:=⟨m - (k+1),by omega⟩
    simp [show k+1+d - k=d+1 by omega]
   ·rw [if_neg h2,if_neg h1,if_neg (by omega)]
theorem z5M (args:List AV) (n:Nat):RT n (args++List.replicate (n - args.length) z4) (z09 args 0 .leaf):=by
 refine⟨by simp;omega,fun k=>?_⟩
 rw [z1w]
 simp only [Nat.zero_le,true_and,Nat.zero_add,Nat.sub_zero,TT.get_leaf,List.getD]
 by_cases h:k < args.length
 ·rw [if_pos h,List.getElem?_append_left h]
 ·rw [if_neg h,List.getElem?_append_right (by omega),List.getElem?_replicate]
  split<;>rfl
theorem z1x {n:Nat} {τ:Tau} {t:TT} (h:RT n τ t) {H:z3} {l:List vl} (hb:l.all (z2h n)=true):K9 t H l=y4 τ H l:=by
 have key:∀ r ∈ l,z7D t H r=qV τ H r:=by
  intro r hr
  have hb:=List.all_eq_true.1 hb r hr
  cases r with
  | tmp k =>
   have hk:k < n:=by simpa [z2h] using hb
   have:=h.len
   simp [z7D,qV,h.get,List.getD,List.getElem?_eq_getElem (show k < τ.length by omega)]
  | cell k m =>
   have hk:k < n:=by simpa [z2h] using hb
   have:=h.len
   simp only [z7D,qV,h.get,List.getD,List.getElem?_eq_getElem (show k < τ.length by omega),Option.getD_some]
   generalize τ[k]=u
   cases u<;>rfl
 have:zO (z7D t H) l=zO (qV τ H) l:=by
  clear hb
  induction l with
  | nil=>rfl
  | cons r l ih =>
   simp only [zO]
   rw [key r (by simp),ih (fun r hr=>key r (by simp [hr]))]
 unfold K9 y4
 rw [this]
 rfl
def FOk (E:Env):Prop:=∀ f fn,E.fns f=some fn→z7G fn=true
theorem z9A {E:Env} (hE:FOk E):∀ n,(∀ f args H r,(Ql E n).1 f args H=some r→xn E n f args H=some r) ∧
  (∀ m c τ t H ex t' H',ZZ m c=true→RT m τ t→(Ql E n).2 c t H=some (ex,t',H')→∃ τ',zx E n c τ H=some (ex,τ',H')∧RT m τ' t'):=by
 intro n
 induction n with
 | zero =>
  refine⟨fun f args H r h=>?_,fun m c τ t H ex t' H' _ _ h=>?_⟩
  ·cases h
  ·cases h
 | succ n ih =>
  obtain⟨ih1,ih2⟩:=ih
  refine⟨fun f args H r h=>?_,fun m c τ t H ex t' H' hb hr h=>?_⟩
  ·change (match E.spec f with
    | some g=>g args H
    | none=>match E.fns f with
     | none=>none
     | some fn=>match (Ql E n).2 fn.code (z09 args 0 .leaf) H with
      | some (.normal,t,H') | some (.ret,t,H')=>(K9 t H' fn.res).map fun v=>(v,H')
      | _=>none)=_ at h
   unfold xn
   split at h
   ·rename_i g hg
    rw [hg]
    exact h
   ·rename_i hg
    rw [hg]
    simp only
    split at h
    ·cases h
    ·rename_i fn hfn
     rw [hfn]
     simp only
     have hbf:=hE f fn hfn
     unfold z7G at hbf
     rw [Bool.and_eq_true] at hbf
     split at h
     ·rename_i t' H' he
      obtain⟨τ',h1,h2⟩:=ih2 fn.nt fn.code _ _ H _ _ _ hbf.1 (z5M args fn.nt) he
      rw [h1]
      simp only
      rw [← z1x h2 hbf.2]
      exact h
     ·rename_i t' H' he
      obtain⟨τ',h1,h2⟩:=ih2 fn.nt fn.code _ _ H _ _ _ hbf.1 (z5M args fn.nt) he
      rw [h1]
      simp only
      rw [← z1x h2 hbf.2]
      exact h
     ·cases h
  ·cases c with
   | skip =>
    obtain⟨rfl,rfl,rfl⟩:zE.normal=ex∧t=t'∧H=H':=by simpa [Ql] using h
    exact⟨τ,rfl,hr⟩
   | ret =>
    obtain⟨rfl,rfl,rfl⟩:zE.ret=ex∧t=t'∧H=H':=by simpa [Ql] using h
    exact⟨τ,rfl,hr⟩
   | exit i =>
    obtain⟨rfl,rfl,rfl⟩:zE.exit i=ex∧t=t'∧H=H':=by simpa [Ql] using h
    exact⟨τ,rfl,hr⟩
   | reg ops =>
    change (z7E (Ql E n).1 ops t H).map (fun(t,H)=>(zE.normal,t,H))=_ at h
    obtain⟨⟨t1,H1⟩,h1,h2⟩:=Option.map_eq_some_iff.1 h
    obtain⟨rfl,rfl,rfl⟩:zE.normal=ex∧t1=t'∧H1=H':=by simpa using h2
    obtain⟨τ',h3,h4⟩:=z2i ih1 ops τ t H t1 H1 hb hr h1
    exact⟨τ',by simp [zx,h3],h4⟩
   | dreg na ops =>
    change (z08 (Ql E n).1 H.size ops [] t (pushN na H)).map (fun(t,H)=>(zE.normal,t,H))=_ at h
    obtain⟨⟨t1,H1⟩,h1,h2⟩:=Option.map_eq_some_iff.1 h
    obtain⟨rfl,rfl,rfl⟩:zE.normal=ex∧t1=t'∧H1=H':=by simpa using h2
    obtain⟨τ',h3,h4⟩:=Qm ih1 H.size ops [] [] τ t _ t1 H1 hb ⟨rfl,fun p x hx=>by simp at hx⟩ hr h1
    exact⟨τ',by simp [zx,h3],h4⟩
   | seq a b =>
    simp only [ZZ,Bool.and_eq_true] at hb
    change (match (Ql E n).2 a t H with
     | some (.normal,t,H)=>(Ql E n).2 b t H
     | r=>r)=_ at h
    simp only [zx]
    split at h
    ·rename_i t1 H1 h1
     obtain⟨τ1,h2,h3⟩:=ih2 m a τ t H _ _ _ hb.1 hr h1
     rw [h2]
     exact ih2 m b τ1 t1 H1 _ _ _ hb.2 h3 h
    ·rename_i hne
     obtain⟨τ1,h2,h3⟩:=ih2 m a τ t H _ _ _ hb.1 hr h
     rw [h2]
     refine⟨τ1,?_,h3⟩
     cases ex with
     | normal=>exact absurd h (hne _ _)
     | exit i=>rfl
     | ret=>rfl
   | cond x a b =>
    simp only [ZZ,Bool.and_eq_true] at hb
    change (match t.at x with
     | .bool w=>(Ql E n).2 (if w then a else b) t H
     | _=>none)=_ at h
    simp only [zx]
    rw [hr.at] at h
    split at h
    ·rename_i w hw
     rw [hw]
     refine ih2 m _ τ t H _ _ _ ?_ hr h
     cases w
     ·exact hb.2
     ·exact hb.1
    ·cases h
   | block i c =>
    change (match (Ql E n).2 c t H with
     | some (.exit j,t,H)=>some (if j=i then zE.normal else .exit j,t,H)
     | r=>r)=_ at h
    simp only [zx]
    split at h
    ·rename_i j t1 H1 h1
     obtain⟨τ1,h2,h3⟩:=ih2 m c τ t H _ _ _ hb hr h1
     rw [h2]
     obtain⟨rfl,rfl,rfl⟩:(if j=i then zE.normal else .exit j)=ex∧t1=t'∧H1=H':=by simpa using h
     exact⟨τ1,rfl,h3⟩
    ·rename_i hne
     obtain⟨τ1,h2,h3⟩:=ih2 m c τ t H _ _ _ hb hr h
     rw [h2]
     refine⟨τ1,?_,h3⟩
     cases ex with
     | exit j=>exact absurd h (hne _ _ _)
     | normal=>rfl
     | ret=>rfl
   | loop c =>
    change (match (Ql E n).2 c t H with
     | some (.normal,t,H)=>(Ql E n).2 (.loop c) t H
     | r=>r)=_ at h
    simp only [zx]
    split at h
    ·rename_i t1 H1 h1
     obtain⟨τ1,h2,h3⟩:=ih2 m c τ t H _ _ _ hb hr h1
     rw [h2]
     exact ih2 m (.loop c) τ1 t1 H1 _ _ _ hb h3 h
    ·rename_i hne
     obtain⟨τ1,h2,h3⟩:=ih2 m c τ t H _ _ _ hb hr h
     rw [h2]
     refine⟨τ1,?_,h3⟩
     cases ex with
     | normal=>exact absurd h (hne _ _)
     | exit i=>rfl
     | ret=>rfl
theorem z9B {E:Env} (hE:FOk E) {n f:Nat} (h:Ye ((Ql E n).1 f [] z3.empty)=true):Ye (xn E n f [] z3.empty)=true:=by
 cases hr:(Ql E n).1 f [] z3.empty with
 | none=>rw [hr] at h;cases h
 | some r=>rw [(z9A hE n).1 _ _ _ _ hr,← hr];exact h
end Go.Ab
