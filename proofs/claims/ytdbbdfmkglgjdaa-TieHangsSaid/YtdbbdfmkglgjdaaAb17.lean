/- The quicker evaluator tells what the evaluator tells. -/
import Derived.Test.YtdbbdfmkglgjdaaAb16
set_option linter.unusedVariables false
set_option linter.unusedSimpArgs false
set_option linter.unusedSectionVars false
namespace Go.Ab
noncomputable def TT.at (t:TT):AX→AV
 | .t n=>t.get n
 | .c v=>v
noncomputable def TT.put (t:TT) (d:Option Nat) (v:AV):TT:=match d with
 | some d=>TT.set v (d+1) t d
 | none=>t
noncomputable def JO (t:TT):Option (Nat × Bool)→Bool
 | none=>true
 | some (k,w)=>match t.get k with
  | .bool b=>b == w
  | _=>false
noncomputable def z9e (t:TT) (H:z3):vV→Option AV
 | .tmp k=>some (t.get k)
 | .cell a n=>match t.get a with
  | .ptr r o=>match n with
   | none=>H.cell r o
   | some n=>(H.row r o n).map .agg
  | _=>none
noncomputable def VE (t:TT) (H:z3) (l:List vV):Option AV:=match zO (z9e t H) l with
 | some [v]=>some v
 | some vs=>some (.tup vs)
 | none=>none
noncomputable def z38 (call:z7) (t:TT) (H:z3) (op:AOp):Option (AV × z3):=match z7r t.at op with
 | some (g,vs)=>call g vs H
 | none=>z9b t.at H op
noncomputable def z9f (call:z7) (l:List zj):TT→z3→Option (TT × z3) :=
 List.rec (motive:=fun _=>TT→z3→Option (TT × z3)) (fun t H=>some (t,H))
  (fun o _ ih t H=>match JO t o.guard with
   | true=>match z38 call t H o.op with
    | some (v,H')=>ih (t.put o.dst v) H'
    | none=>none
   | false=>ih (t.put o.dst z4) H) l
inductive K0 where
 | none
 | q (t:TT) (op:AOp) (v:AV)
 | made (r:Nat)
noncomputable def z6G (H H':z3):K0→Bool
 | .none=>true
 | .q t op v=>match z9b t.at H' op with
  | some (v',H2)=>H2.size == H'.size && j3 v v'
  | none=>false
 | .made r=>match H.get r,H'.get r with
  | some (.cells k z a),some (.cells k' z' b)=>k == k' && z == z' && ZT a b
  | _,_=>false
noncomputable def VF (H H':z3) (recs:List K0):List Nat→Bool
 | []=>true
 | p::l=>(match recs[p]? with
  | some q=>z6G H H' q
  | none=>false) && VF H H' recs l
noncomputable def z9g (g:AX→AV) (r:Nat):AOp→Option (AV × zG)
 | .newc cs=>if cs.all AV.one then some (.ptr r 0,.cells .exact cs.length cs) else none
 | .box x=>if (g x).cells.all AV.one then some (.ptr r 0,.cells .exact (g x).cells.length (g x).cells) else none
 | .bsl esz z n ps=>if esz=0∨z.length≠esz∨16777216 < n * esz then none else
  match qm (yZ n z) (ps.map fun(o,s,x)=>(o,s,g x)) with
  | some cs=>if cs.all AV.one then some (.sl r 0 n (.ex n),.cells .exact esz cs) else none
  | none=>none
 | _=>none
noncomputable def z1L (call:z7) (base:Nat) (l:List (zj × DK)):List K0→TT→z3→Option (TT × z3) :=
 List.rec (motive:=fun _=>List K0→TT→z3→Option (TT × z3)) (fun _ t H=>some (t,H))
  (fun o _ ih recs t H=>match JO t o.1.guard with
   | true=>match o.2 with
    | .q=>match z9b t.at H o.1.op with
     | some (v,H')=>if H'.size=H.size then ih (recs++[.q t o.1.op v]) (t.put o.1.dst v) H else none
     | none=>none
    | .al k=>match z9g t.at (base+k) o.1.op with
     | some (v,ob)=>if (H.get (base+k)).isNone then ih (recs++[.made (base+k)]) (t.put o.1.dst v) (H.put (base+k) (some ob)) else none
     | none=>none
    | .ef pins=>match z38 call t H o.1.op with
     | some (v,H')=>if VF H H' recs pins then ih (recs++[.none]) (t.put o.1.dst v) H' else none
     | none=>none
   | false=>ih (recs++[.none]) (t.put o.1.dst z4) H) l
noncomputable def z1M:List AV→Nat→TT→TT
 | [],_,t=>t
 | a::l,k,t=>z1M l (k+1) (TT.set a (k+1) t k)
noncomputable def J7 (E:Env) (n:Nat):z7 × (x7→TT→z3→Option (zE × TT × z3)) :=
 Nat.rec (motive:=fun _=>z7 × (x7→TT→z3→Option (zE × TT × z3))) (fun _ _ _=>none,fun _ _ _=>none)
  (fun _ ih=>(fun f args H=>match E.spec f with
    | some g=>g args H
    | none=>match E.fns f with
     | none=>none
     | some fn=>match ih.2 fn.code (z1M args 0 .leaf) H with
      | some (.normal,t,H') | some (.ret,t,H')=>(VE t H' fn.res).map fun v=>(v,H')
      | _=>none,
   fun c t H=>match c with
    | .skip=>some (.normal,t,H)
    | .ret=>some (.ret,t,H)
    | .exit i=>some (.exit i,t,H)
    | .reg ops=>(z9f ih.1 ops t H).map fun(t,H)=>(.normal,t,H)
    | .dreg na ops=>(z1L ih.1 H.size ops [] t (pushN na H)).map fun(t,H)=>(.normal,t,H)
    | .seq a b=>match ih.2 a t H with
     | some (.normal,t,H)=>ih.2 b t H
     | r=>r
    | .cond x a b=>match t.at x with
     | .bool w=>ih.2 (if w then a else b) t H
     | _=>none
    | .block i c=>match ih.2 c t H with
     | some (.exit j,t,H)=>some (if j=i then .normal else .exit j,t,H)
     | r=>r
    | .loop c=>match ih.2 c t H with
     | some (.normal,t,H)=>ih.2 (.loop c) t H
     | r=>r)) n

def WX (n:Nat) (o:zj):Bool:=match o.dst with
 | some d=>decide (d < n)
 | none=>true
def YI (n:Nat):x7→Bool
 | .reg ops=>ops.all (WX n)
 | .dreg _ ops=>ops.all fun o=>WX n o.1
 | .seq a b=>YI n a && YI n b
 | .cond _ a b=>YI n a && YI n b
 | .block _ c=>YI n c
 | .loop c=>YI n c
 | _=>true
def z3T (n:Nat):vV→Bool
 | .tmp k=>decide (k < n)
 | .cell k _=>decide (k < n)
def z9h (fn:AFn):Bool:=YI fn.nt fn.code && fn.res.all (z3T fn.nt)
structure RT (n:Nat) (τ:Tau) (t:TT):Prop where
 len:n≤τ.length
 get:∀ k,t.get k=τ.getD k z4
theorem RT.at {n:Nat} {τ:Tau} {t:TT} (h:RT n τ t):t.at=τ.at:=by
 funext x
 cases x with
 | t k=>exact h.get k
 | c v=>rfl
theorem RT.put {n:Nat} {τ:Tau} {t:TT} (h:RT n τ t) {o:zj} (hb:WX n o=true) (v:AV):RT n (τ.put o.dst v) (t.put o.dst v):=by
 unfold WX at hb
 cases hd:o.dst with
 | none=>exact h
 | some d =>
  rw [hd] at hb
  have hlt:d < n:=by simpa using hb
  refine⟨by simp [Tau.put,h.len],fun k=>?_⟩
  simp only [TT.put,Tau.put]
  rw [TT.get_set _ _ _ _ _ (Nat.lt_succ_self d),h.get]
  have:=h.len
  by_cases e:k=d
  ·subst e
   simp [List.getD,show k < τ.length by omega]
  ·simp [List.getD,e,show ¬ d=k from fun x=>e x.symm]
theorem RT.wanted {n:Nat} {τ:Tau} {t:TT} (h:RT n τ t) (g:Option (Nat × Bool)):JO t g=z8 τ g:=by
 cases g with
 | none=>rfl
 | some kw =>
  obtain⟨k,w⟩:=kw
  simp only [JO,z8,h.get,List.getD]
  cases τ[k]? with
  | none=>rfl
  | some v=>cases v<;>rfl
theorem RT.step {n:Nat} {τ:Tau} {t:TT} (h:RT n τ t) {call call':z7} (hc:∀ f args H r,call f args H=some r→call' f args H=some r) {H:z3} {op:AOp} {r:AV × z3} (hs:z38 call t H op=some r) :
  xU call' τ H op=some r:=by
 unfold z38 at hs
 unfold xU
 rw [z9d,← h.at]
 split at hs
 ·rename_i g vs hg
  rw [hg]
  exact hc _ _ _ _ hs
 ·rename_i hg
  rw [hg]
  simp only
  rw [z9c,← h.at]
  exact hs
theorem z3U {n:Nat} {call call':z7} (hc:∀ f args H r,call f args H=some r→call' f args H=some r):∀ (l:List zj) (τ:Tau) (t:TT) (H:z3) (t':TT) (H':z3),
  l.all (WX n)=true→RT n τ t→z9f call l t H=some (t',H')→∃ τ',vr call' l τ H=some (τ',H')∧RT n τ' t'
 | [],τ,t,H,t',H',_,h,e=>by
  obtain⟨rfl,rfl⟩:=Prod.mk.inj (Option.some.inj e)
  exact⟨τ,rfl,h⟩
 | o::l,τ,t,H,t',H',hb,h,e=>by
  simp only [List.all_cons,Bool.and_eq_true] at hb
  change (match JO t o.guard with
   | true=>match z38 call t H o.op with
    | some (v,H')=>z9f call l (t.put o.dst v) H'
    | none=>none
   | false=>z9f call l (t.put o.dst z4) H)=_ at e
  rw [h.wanted] at e
  unfold vr
  cases hw:z8 τ o.guard with
  | true =>
   rw [hw] at e
   simp only [if_true] at e ⊢
   split at e
   ·rename_i v H1 hs
    rw [h.step hc hs]
    exact z3U hc l _ _ _ _ _ hb.2 (h.put hb.1 v) e
   ·cases e
  | false =>
   rw [hw] at e
   simp only [Bool.false_eq_true,if_false] at e ⊢
   exact z3U hc l _ _ _ _ _ hb.2 (h.put hb.1 _) e
inductive z8k:Rec→K0→Prop where
 | none:z8k .none .none
 | q {n:Nat} {τ:Tau} {t:TT} (h:RT n τ t) (op:AOp) (v:AV):z8k (.q τ op v) (.q t op v)
 | made (r:Nat):z8k (.made r) (.made r)
def z4Q (a:List Rec) (b:List K0):Prop:=a.length=b.length∧∀ (p:Nat) (x:K0),b[p]? = some x→∃ y,a[p]? = some y∧z8k y x
theorem z4Q.snoc {a:List Rec} {b:List K0} (h:z4Q a b) {y:Rec} {x:K0} (hr:z8k y x):z4Q (a++[y]) (b++[x]):=by
 refine⟨by simp [h.1],fun p x' hx=>?_⟩
 by_cases hp:p < b.length
 ·rw [List.getElem?_append_left hp] at hx
  rw [List.getElem?_append_left (by rw [h.1];exact hp)]
  exact h.2 p x' hx
 ·rw [List.getElem?_append_right (by omega)] at hx
  rw [List.getElem?_append_right (by rw [h.1];omega),h.1]
  cases hq:p - b.length with
  | zero=>rw [hq] at hx;simp at hx;subst hx;exact⟨y,by simp,hr⟩
  | succ q=>rw [hq] at hx;simp at hx
theorem zbd {H H':z3} {y:Rec} {x:K0} (h:z8k y x):z6G H H' x=kD H H' y:=by
 cases h with
 | none=>rfl
 | q h op v=>simp only [z6G,kD,z9c,h.at];rfl
 | made r=>rfl
theorem z4R {H H':z3} {a:List Rec} {b:List K0} (h:z4Q a b):∀ (l:List Nat),VF H H' b l=true→jF H H' a l=true
 | [],_=>rfl
 | p::l,e=>by
  simp only [VF,jF,Bool.and_eq_true] at e ⊢
  refine⟨?_,z4R h l e.2⟩
  have e1:=e.1
  split at e1
  ·rename_i q hq
   obtain⟨y,hy,hr⟩:=h.2 p q hq
   rw [hy]
   rw [zbd hr] at e1
   exact e1
  ·cases e1
theorem zci (τ:Tau) (r:Nat) (o:AOp):xE τ r o=z9g τ.at r o:=by cases o<;>rfl
theorem J8 {n:Nat} {call call':z7} (hc:∀ f args H r,call f args H=some r→call' f args H=some r) (base:Nat):∀ (l:List (zj × DK)) (recs:List Rec) (recf:List K0) (τ:Tau) (t:TT) (H:z3) (t':TT) (H':z3),
  (l.all fun o=>WX n o.1)=true→z4Q recs recf→RT n τ t→z1L call base l recf t H=some (t',H')→∃ τ',xg call' base l recs τ H=some (τ',H')∧RT n τ' t'
 | [],recs,recf,τ,t,H,t',H',_,_,h,e=>by
  obtain⟨rfl,rfl⟩:=Prod.mk.inj (Option.some.inj e)
  exact⟨τ,rfl,h⟩
 | (o,dk)::l,recs,recf,τ,t,H,t',H',hb,hrec,h,e=>by
  simp only [List.all_cons,Bool.and_eq_true] at hb
  change (match JO t o.guard with
   | true=>match dk with
    | .q=>match z9b t.at H o.op with
     | some (v,H')=>if H'.size=H.size then z1L call base l (recf++[K0.q t o.op v]) (t.put o.dst v) H else none
     | none=>none
    | .al k=>match z9g t.at (base+k) o.op with
     | some (v,ob)=>if (H.get (base+k)).isNone then z1L call base l (recf++[K0.made (base+k)]) (t.put o.dst v) (H.put (base+k) (some ob)) else none
     | none=>none
    | .ef pins=>match z38 call t H o.op with
     | some (v,H')=>if VF H H' recf pins then z1L call base l (recf++[K0.none]) (t.put o.dst v) H' else none
     | none=>none
   | false=>z1L call base l (recf++[K0.none]) (t.put o.dst z4) H)=_ at e
  rw [h.wanted] at e
  unfold xg
  cases hw:z8 τ o.guard with
  | true =>
   rw [hw] at e
   simp only [if_true] at e ⊢
   cases dk with
   | q =>
    simp only at e ⊢
    rw [h.at,← z9c] at e
    split at e
    ·rename_i v H1 hs
     rw [hs]
     simp only
     split at e
     ·rename_i hsz
      rw [if_pos hsz]
      exact J8 hc base l _ _ _ _ _ _ _ hb.2 (hrec.snoc (.q h _ _)) (h.put hb.1 v) e
     ·cases e
    ·cases e
   | al k =>
    simp only at e ⊢
    rw [h.at,← zci] at e
    split at e
    ·rename_i v ob hs
     rw [hs]
     simp only
     split at e
     ·rename_i hsz
      rw [if_pos hsz]
      exact J8 hc base l _ _ _ _ _ _ _ hb.2 (hrec.snoc (.made _)) (h.put hb.1 v) e
     ·cases e
    ·cases e
   | ef pins =>
    simp only at e ⊢
    split at e
    ·rename_i v H1 hs
     rw [h.step hc hs]
     simp only
     split at e
     ·rename_i hr
      rw [if_pos (z4R hrec _ hr)]
      exact J8 hc base l _ _ _ _ _ _ _ hb.2 (hrec.snoc .none) (h.put hb.1 v) e
     ·cases e
    ·cases e
  | false =>
   rw [hw] at e
   simp only [Bool.false_eq_true,if_false] at e ⊢
   exact J8 hc base l _ _ _ _ _ _ _ hb.2 (hrec.snoc .none) (h.put hb.1 _) e
theorem z39:∀ (l:List AV) (k:Nat) (t:TT) (m:Nat),(z1M l k t).get m=if k≤m∧m < k+l.length then l.getD (m - k) z4 else t.get m
 | [],k,t,m=>by simp [z1M];intro h1 h2;omega
 | a::l,k,t,m=>by
  rw [z1M,z39 l (k+1),TT.get_set _ _ _ _ _ (Nat.lt_succ_self k)]
  simp only [List.length_cons]
  by_cases h1:m=k
  ·subst h1
   rw [if_neg (by omega),if_pos rfl,if_pos (by omega)]
   simp
  ·by_cases h2:k+1≤m∧m < k+1+l.length
   ·rw [if_pos h2,if_pos (by omega)]
    obtain⟨d,rfl⟩:∃ d,m=k+1+d:=⟨m - (k+1),by omega⟩
    simp [show k+1+d - k=d+1 by omega]
   ·rw [if_neg h2,if_neg h1,if_neg (by omega)]
theorem z7s (args:List AV) (n:Nat):RT n (args++List.replicate (n - args.length) z4) (z1M args 0 .leaf):=by
 refine⟨by simp;omega,fun k=>?_⟩
 rw [z39]
 simp only [Nat.zero_le,true_and,Nat.zero_add,Nat.sub_zero,TT.get_leaf,List.getD]
 by_cases h:k < args.length
 ·rw [if_pos h,List.getElem?_append_left h]
 ·rw [if_neg h,List.getElem?_append_right (by omega),List.getElem?_replicate]
  split<;>rfl
theorem z3a {n:Nat} {τ:Tau} {t:TT} (h:RT n τ t) {H:z3} {l:List vV} (hb:l.all (z3T n)=true):VE t H l=y5 τ H l:=by
 have key:∀ r ∈ l,z9e t H r=jl τ H r:=by
  intro r hr
  have hb:=List.all_eq_true.1 hb r hr
  cases r with
  | tmp k =>
   have hk:k < n:=by simpa [z3T] using hb
   have:=h.len
   simp [z9e,jl,h.get,List.getD,List.getElem?_eq_getElem (show k < τ.length by omega)]
  | cell k m =>
   have hk:k < n:=by simpa [z3T] using hb
   have:=h.len
   simp only [z9e,jl,h.get,List.getD,List.getElem?_eq_getElem (show k < τ.length by omega),Option.getD_some]
   generalize τ[k]=u
   cases u<;>rfl
 have:zO (z9e t H) l=zO (jl τ H) l:=by
  clear hb
  induction l with
  | nil=>rfl
  | cons r l ih =>
   simp only [zO]
   rw [key r (by simp),ih (fun r hr=>key r (by simp [hr]))]
 unfold VE y5
 rw [this]
 rfl
def FOk (E:Env):Prop:=∀ f fn,E.fns f=some fn→z9h fn=true
theorem zbe {E:Env} (hE:FOk E):∀ n,(∀ f args H r,(J7 E n).1 f args H=some r→xt E n f args H=some r) ∧
  (∀ m c τ t H ex t' H',YI m c=true→RT m τ t→(J7 E n).2 c t H=some (ex,t',H')→∃ τ',zu E n c τ H=some (ex,τ',H')∧RT m τ' t'):=by
 intro n
 induction n with
 | zero =>
  refine⟨fun f args H r h=>?_,fun m c τ t H ex t' H' _ _ h=>?_⟩
  ·cases h
  ·cases h
 | succ n ih =>
  obtain⟨ih1,ih2⟩:=ih
  refine⟨fun f args H r h=>?_,fun m c τ t H ex t' H' hb hr h=>?_⟩
  ·change (match E.spec f with
    | some g=>g args H
    | none=>match E.fns f with
     | none=>none
     | some fn=>match (J7 E n).2 fn.code (z1M args 0 .leaf) H with
      | some (.normal,t,H') | some (.ret,t,H')=>(VE t H' fn.res).map fun v=>(v,H')
      | _=>none)=_ at h
   unfold xt
   split at h
   ·rename_i g hg
    rw [hg]
    exact h
   ·rename_i hg
    rw [hg]
    simp only
    split at h
    ·cases h
    ·rename_i fn hfn
     rw [hfn]
     simp only
     have hbf:=hE f fn hfn
     unfold z9h at hbf
     rw [Bool.and_eq_true] at hbf
     split at h
     ·rename_i t' H' he
      obtain⟨τ',h1,h2⟩:=ih2 fn.nt fn.code _ _ H _ _ _ hbf.1 (z7s args fn.nt) he
      rw [h1]
      simp only
      rw [← z3a h2 hbf.2]
      exact h
     ·rename_i t' H' he
      obtain⟨τ',h1,h2⟩:=ih2 fn.nt fn.code _ _ H _ _ _ hbf.1 (z7s args fn.nt) he
      rw [h1]
      simp only
      rw [← z3a h2 hbf.2]
      exact h
     ·cases h
  ·cases c with
   | skip =>
    obtain⟨rfl,rfl,rfl⟩:zE.normal=ex∧t=t'∧H=H':=by simpa [J7] using h
    exact⟨τ,rfl,hr⟩
   | ret =>
    obtain⟨rfl,rfl,rfl⟩:zE.ret=ex∧t=t'∧H=H':=by simpa [J7] using h
    exact⟨τ,rfl,hr⟩
   | exit i =>
    obtain⟨rfl,rfl,rfl⟩:zE.exit i=ex∧t=t'∧H=H':=by simpa [J7] using h
    exact⟨τ,rfl,hr⟩
   | reg ops =>
    change (z9f (J7 E n).1 ops t H).map (fun(t,H)=>(zE.normal,t,H))=_ at h
    obtain⟨⟨t1,H1⟩,h1,h2⟩:=Option.map_eq_some_iff.1 h
    obtain⟨rfl,rfl,rfl⟩:zE.normal=ex∧t1=t'∧H1=H':=by simpa using h2
    obtain⟨τ',h3,h4⟩:=z3U ih1 ops τ t H t1 H1 hb hr h1
    exact⟨τ',by simp [zu,h3],h4⟩
   | dreg na ops =>
    change (z1L (J7 E n).1 H.size ops [] t (pushN na H)).map (fun(t,H)=>(zE.normal,t,H))=_ at h
    obtain⟨⟨t1,H1⟩,h1,h2⟩:=Option.map_eq_some_iff.1 h
    obtain⟨rfl,rfl,rfl⟩:zE.normal=ex∧t1=t'∧H1=H':=by simpa using h2
    obtain⟨τ',h3,h4⟩:=J8 ih1 H.size ops [] [] τ t _ t1 H1 hb ⟨rfl,fun p x hx=>by simp at hx⟩ hr h1
    exact⟨τ',by simp [zu,h3],h4⟩
   | seq a b =>
    simp only [YI,Bool.and_eq_true] at hb
    change (match (J7 E n).2 a t H with
     | some (.normal,t,H)=>(J7 E n).2 b t H
     | r=>r)=_ at h
    simp only [zu]
    split at h
    ·rename_i t1 H1 h1
     obtain⟨τ1,h2,h3⟩:=ih2 m a τ t H _ _ _ hb.1 hr h1
     rw [h2]
     exact ih2 m b τ1 t1 H1 _ _ _ hb.2 h3 h
    ·rename_i hne
     obtain⟨τ1,h2,h3⟩:=ih2 m a τ t H _ _ _ hb.1 hr h
     rw [h2]
     refine⟨τ1,?_,h3⟩
     cases ex with
     | normal=>exact absurd h (hne _ _)
     | exit i=>rfl
     | ret=>rfl
   | cond x a b =>
    simp only [YI,Bool.and_eq_true] at hb
    change (match t.at x with
     | .bool w=>(J7 E n).2 (if w then a else b) t H
     | _=>none)=_ at h
    simp only [zu]
    rw [hr.at] at h
    split at h
    ·rename_i w hw
     rw [hw]
     refine ih2 m _ τ t H _ _ _ ?_ hr h
     cases w
     ·exact hb.2
     ·exact hb.1
    ·cases h
   | block i c =>
    change (match (J7 E n).2 c t H with
     | some (.exit j,t,H)=>some (if j=i then zE.normal else .exit j,t,H)
     | r=>r)=_ at h
    simp only [zu]
    split at h
    ·rename_i j t1 H1 h1
     obtain⟨τ1,h2,h3⟩:=ih2 m c τ t H _ _ _ hb hr h1
     rw [h2]
     obtain⟨rfl,rfl,rfl⟩:(if j=i then zE.normal else .exit j)=ex∧t1=t'∧H1=H':=by simpa using h
     exact⟨τ1,rfl,h3⟩
    ·rename_i hne
     obtain⟨τ1,h2,h3⟩:=ih2 m c τ t H _ _ _ hb hr h
     rw [h2]
     refine⟨τ1,?_,h3⟩
     cases ex with
     | exit j=>exact absurd h (hne _ _ _)
     | normal=>rfl
     | ret=>rfl
   | loop c =>
    change (match (J7 E n).2 c t H with
     | some (.normal,t,H)=>(J7 E n).2 (.loop c) t H
     | r=>r)=_ at h
    simp only [zu]
    split at h
    ·rename_i t1 H1 h1
     obtain⟨τ1,h2,h3⟩:=ih2 m c τ t H _ _ _ hb hr h1
     rw [h2]
     exact ih2 m (.loop c) τ1 t1 H1 _ _ _ hb h3 h
    ·rename_i hne
     obtain⟨τ1,h2,h3⟩:=ih2 m c τ t H _ _ _ hb hr h
     rw [h2]
     refine⟨τ1,?_,h3⟩
     cases ex with
     | normal=>exact absurd h (hne _ _)
     | exit i=>rfl
     | ret=>rfl
theorem zbf {E:Env} (hE:FOk E) {n f:Nat} (h:YY ((J7 E n).1 f [] z3.empty)=true):YY (xt E n f [] z3.empty)=true:=by
 cases hr:(J7 E n).1 f [] z3.empty with
 | none=>rw [hr] at h;cases h
 | some r=>rw [(zbe hE n).1 _ _ _ _ hr,← hr];exact h
end Go.Ab
