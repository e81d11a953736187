/- slices.overlaps, an entry of the model's: at slices in two blocks of the call's own it says no. -/
import Derived.Test.YtdbbdfmkglgjdaaAb17
import Derived.Lib.Overlaps
set_option linter.unusedVariables false
set_option linter.unusedSimpArgs false
set_option linter.unusedSectionVars false
namespace Go.Ab
open Go.RowKit
def Yv:Kd→Bool
 | .exact | .opened=>true
 | _=>false
def z8V:List AV→z3→Option (AV × z3)
 | [.sl r _ _ _,.sl r' _ _ _],H=>match H.get r,H.get r' with
  | some (.cells k _ _),some (.cells k' _ cs')=>if r≠r'∧Yv k=true∧Yv k'=true∧cs'≠[] then some (.bool false,H) else none
  | _,_=>none
 | _,_=>none
theorem z2v {B:Nat} {ρ:Rho} {w:World} {L:Loc} {k:Kd} {z:Nat} {cs:List AV} (hk:Yv k=true) (h:zaY B ρ w L k z cs) :
  ∃ e cur,w.heap[L.blk]? = some (.cells cur e (0,0))∧cs.length≤cur.size:=by
 obtain⟨_,_,cur,e,fz,hcur,hle,_,hkd⟩:=h
 cases k<;>simp [Yv] at hk
 ·obtain⟨rfl,_⟩:=hkd;exact⟨e,cur,hcur,hle⟩
 ·obtain⟨rfl,_⟩:=hkd;exact⟨e,cur,hcur,hle⟩
theorem zcx {P:Program} {f:Nat} {tS tR e:TypeId} {z:Nat} (ht:P.underlying tS=some (.slice e)) (hz:kE P e=some z)
  (hf:∀ (xs:Array Value) (w w':World) (x:Value),(Extern.SlicesOverlaps.overlaps #[tS,tS] #[tR] xs).run P w=.ok x w'→(callFunc f xs).run P w=.ok (.value x) w'):qi P f z8V:=by
 intro B ρ w H args xs v H' hB hs hx h
 unfold z8V at h
 split at h
 ·rename_i H0 r o n c r' o' n' c'
  split at h
  ·rename_i k z1 cs k' z2 cs' hg hg'
   split at h
   ·rename_i hcond
    obtain⟨hne,hk,hk',hcs⟩:=hcond
    simp at h
    obtain⟨rfl,rfl⟩:=h
    obtain⟨a,ys,ha,hys,rfl⟩:=zT hx
    obtain⟨b,zs,hb,hzs,rfl⟩:=zT hys
    have:zs=[]:=by simpa [zj] using hzs
    subst this
    obtain⟨L,hr,rfl,_⟩:=xL ha
    obtain⟨L',hr',rfl,_⟩:=xL hb
    have hkr:k≠.ro:=by rintro rfl;simp [Yv] at hk
    have hkr':k'≠.ro:=by rintro rfl;simp [Yv] at hk'
    have own:(zH.cells k z1 cs).own=true:=by cases k<;>first | rfl | exact absurd rfl hkr
    have own':(zH.cells k' z2 cs').own=true:=by cases k'<;>first | rfl | exact absurd rfl hkr'
    have hblk:=hs.inj r r' L L' _ _ hne hr hr' hg hg' own own'
    obtain⟨e1,cur1,h1,_⟩:=z2v hk ((zI hkr).1 (hs.obj r L _ hr hg))
    obtain⟨e2,cur2,h2,hl2⟩:=z2v hk' ((zI hkr').1 (hs.obj r' L' _ hr' hg'))
    have hpos:cur2.size≠0:=by
     have:0 < cs'.length:=List.length_pos_iff.2 hcs
     omega
    have hrun:=Lib.run_overlaps_apart (P:=P) w tS tR e ht z (zN hz) ⟨L.blk,L.off+o,none⟩ ⟨L'.blk,L'.off+o',none⟩ n (xz L c) n' (xz L' c') hblk e1 e2 cur1.size cur2.size
     (by simp [World.shape?,h1]) (by simp [World.shape?,h2]) hpos (by simp [World.frozen?,h1]) (by simp [World.frozen?,h1])
    exact .inr ⟨ρ,.bool false,w,hf _ _ _ _ hrun,rfl,ρ.ext_refl _,hs,Below.refl _ _,Nat.le_refl _⟩
   ·cases h
  ·cases h
 ·cases h
end Go.Ab
/- More fuel tells the same. -/
namespace Go.Ab
def KY (a b:z8):Prop:=∀ f args H r,a f args H=some r→b f args H=some r
theorem z10 {a b:z8} (h:KY a b) {τ:Tau} {H:z3} {op:AOp} {r:AV × z3} (hs:qh a τ H op=some r):qh b τ H op=some r:=by
 unfold qh at hs ⊢
 split
 ·rename_i g vs hg
  rw [hg] at hs
  exact h _ _ _ _ hs
 ·rename_i hg
  rw [hg] at hs
  exact hs
theorem z11 {a b:z8} (h:KY a b):∀ (l:List zm) (τ:Tau) (H:z3) (r:Tau × z3),vS a l τ H=some r→vS b l τ H=some r
 | [],_,_,_,e=>e
 | o::l,τ,H,r,e=>by
  unfold vS at e ⊢
  split at e
  ·rename_i hw
   rw [if_pos hw]
   split at e
   ·rename_i v H' hs
    rw [z10 h hs]
    exact z11 h l _ _ _ e
   ·cases e
  ·rename_i hw
   rw [if_neg hw]
   exact z11 h l _ _ _ e
theorem X4 {a b:z8} (h:KY a b) (base:Nat):∀ (l:List (zm × DK)) (recs:List Rec) (τ:Tau) (H:z3) (r:Tau × z3),xr a base l recs τ H=some r→xr b base l recs τ H=some r
 | [],_,_,_,_,e=>e
 | (o,dk)::l,recs,τ,H,r,e=>by
  unfold xr at e ⊢
  split at e
  ·rename_i hw
   rw [if_pos hw]
   cases dk with
   | q =>
    simp only at e ⊢
    split at e
    ·rename_i v H' hs
     split at e
     ·rename_i hz
      rw [if_pos hz]
      exact X4 h base l _ _ _ _ e
     ·cases e
    ·cases e
   | al k =>
    simp only at e ⊢
    split at e
    ·rename_i v ob hs
     split at e
     ·rename_i hz
      rw [if_pos hz]
      exact X4 h base l _ _ _ _ e
     ·cases e
    ·cases e
   | ef pins =>
    simp only at e ⊢
    split at e
    ·rename_i v H' hs
     rw [z10 h hs]
     simp only
     split at e
     ·rename_i hz
      rw [if_pos hz]
      exact X4 h base l _ _ _ _ e
     ·cases e
    ·cases e
  ·rename_i hw
   rw [if_neg hw]
   exact X4 h base l _ _ _ _ e
theorem z9O {E:Env}:∀ n,KY (xE E n) (xE E (n+1))∧∀ c τ H r,zy E n c τ H=some r→zy E (n+1) c τ H=some r:=by
 intro n
 induction n with
 | zero=>exact⟨fun f args H r h=>by simp [xE] at h,fun c τ H r h=>by simp [zy] at h⟩
 | succ n ih =>
  obtain⟨ih1,ih2⟩:=ih
  refine⟨fun f args H r h=>?_,fun c τ H r h=>?_⟩
  ·unfold xE at h ⊢
   split
   ·rename_i g hg
    rw [hg] at h
    exact h
   ·rename_i hg
    rw [hg] at h
    simp only at h
    split
    ·rename_i hn
     rw [hn] at h
     cases h
    ·rename_i fn hn
     rw [hn] at h
     simp only at h
     cases he:zy E n fn.code (args++List.replicate (fn.nt - args.length) z4) H with
     | none=>rw [he] at h;cases h
     | some x=>rw [he] at h;rw [ih2 _ _ _ _ he];exact h
  ·unfold zy at h ⊢
   cases c with
   | skip=>exact h
   | ret=>exact h
   | exit i=>exact h
   | reg ops =>
    simp only at h ⊢
    obtain⟨x,hx,rfl⟩:=Option.map_eq_some_iff.1 h
    rw [z11 ih1 _ _ _ _ hx]
    rfl
   | dreg na ops =>
    simp only at h ⊢
    obtain⟨x,hx,rfl⟩:=Option.map_eq_some_iff.1 h
    rw [X4 ih1 _ _ _ _ _ _ hx]
    rfl
   | seq a b =>
    simp only at h ⊢
    cases he:zy E n a τ H with
    | none=>rw [he] at h;cases h
    | some x =>
     rw [he] at h
     rw [ih2 _ _ _ _ he]
     obtain⟨ex,τ1,H1⟩:=x
     cases ex with
     | normal=>exact ih2 _ _ _ _ h
     | exit i=>exact h
     | ret=>exact h
   | cond x a b =>
    simp only at h ⊢
    split at h
    ·rename_i t ht
     exact ih2 _ _ _ _ h
    ·cases h
   | block i c =>
    simp only at h ⊢
    cases he:zy E n c τ H with
    | none=>rw [he] at h;cases h
    | some x=>rw [he] at h;rw [ih2 _ _ _ _ he];exact h
   | loop c =>
    simp only at h ⊢
    cases he:zy E n c τ H with
    | none=>rw [he] at h;cases h
    | some x =>
     rw [he] at h
     rw [ih2 _ _ _ _ he]
     obtain⟨ex,τ1,H1⟩:=x
     cases ex with
     | normal=>exact ih2 _ _ _ _ h
     | exit i=>exact h
     | ret=>exact h
theorem QJ {E:Env} {n m:Nat} (h:n≤m):KY (xE E n) (xE E m):=by
 induction h with
 | refl=>exact fun _ _ _ _ e=>e
 | step _ ih=>exact fun f args H r e=>(z9O _).1 f args H r (ih f args H r e)
theorem Y7 {E:Env} {n m:Nat} (h:n≤m) {c:xk} {τ:Tau} {H:z3} {r:zG × Tau × z3} (e:zy E n c τ H=some r):zy E m c τ H=some r:=by
 induction h with
 | refl=>exact e
 | step _ ih=>exact(z9O _).2 c τ H r ih

def Run (E:Env) (c:xk) (τ:Tau) (H:z3) (ex:zG) (τ':Tau) (H':z3):Prop:=∃ n,zy E n c τ H=some (ex,τ',H')
section
variable {E:Env} {τ τ1 τ':Tau} {H H1 H':z3} {ex:zG}
theorem Run.skip:Run E .skip τ H .normal τ H:=⟨1,rfl⟩
theorem Run.ret:Run E .ret τ H .ret τ H:=⟨1,rfl⟩
theorem Run.exit (i:Nat):Run E (.exit i) τ H (.exit i) τ H:=⟨1,rfl⟩
theorem Run.seq {a b:xk} (h1:Run E a τ H .normal τ1 H1) (h2:Run E b τ1 H1 ex τ' H'):Run E (.seq a b) τ H ex τ' H':=by
 obtain⟨n,h1⟩:=h1
 obtain⟨m,h2⟩:=h2
 refine⟨max n m+1,?_⟩
 simp only [zy,Y7 (Nat.le_max_left n m) h1,Y7 (Nat.le_max_right n m) h2]
theorem Run.cond {x:AX} {a b:xk} {t:Bool} (hx:τ.at x=.bool t) (h:Run E (if t then a else b) τ H ex τ' H'):Run E (.cond x a b) τ H ex τ' H':=by
 obtain⟨n,h⟩:=h
 exact⟨n+1,by simp only [zy,hx,h]⟩
theorem Run.block {i:Nat} {c:xk} (h:Run E c τ H ex τ' H'):Run E (.block i c) τ H (if ex=.exit i then .normal else ex) τ' H':=by
 obtain⟨n,h⟩:=h
 refine⟨n+1,?_⟩
 cases ex with
 | normal=>simp [zy,h]
 | exit j=>simp [zy,h]
 | ret=>simp [zy,h]
end
end Go.Ab
/- Rows of operations in joined form: what a guard leaves out does not double what follows. -/
namespace Go.Ab
def bnS {β:Type} (o:Option (AV × z3)) (k:AV→z3→Option β):Option β:=match o with
 | some (v,H)=>k v H
 | none=>none
def bnM {β:Type} (o:Option (AV × Rec × z3)) (k:AV→Rec→z3→Option β):Option β:=match o with
 | some (v,r,H)=>k v r H
 | none=>none
def gdS (w:Bool) (o:Option (AV × z3)) (H:z3):Option (AV × z3):=if w then o else some (z4,H)
def lft (H:z3) (o:Option AV):Option (AV × z3):=o.map fun v=>(v,H)
def wnt (v:AV) (w:Bool):Bool:=match v with
 | .bool b=>b == w
 | _=>false
def zdP (H:z3) (r:Nat) (o:Option (AV × zH)):Option (AV × Rec × z3):=match o with
 | some (v,ob)=>if (H.get r).isNone then some (v,.made r,H.put r (some ob)) else none
 | none=>none
mutual
theorem Vd:∀ (v:AV),ji v v=true
 | .bool _ | .int _ _ | .str _ | .nilp | .nils | .nilfn | .nilifc | .nilm | .mp _ | .ptr _ _ | .sl _ _ _ _ | .zs _ _ _ _ | .raw _=>by simp [ji]
 | .fn f a b=>by simp [ji,jY a,jY b]
 | .ifc t a=>by simp [ji,Vd a]
 | .agg a=>by simp [ji,jY a]
 | .tup a=>by simp [ji,jY a]
 | .fz z a=>by simp [ji,jY a]
 | .ow z a=>by simp [ji,jY a]
 | .cp a o=>by simp [ji,jY a]
 | .lt z a=>by simp [ji,jY a]
 | .sk=>by simp [ji]
theorem jY:∀ (l:List AV),YC l l=true
 | []=>by simp [YC]
 | v::l=>by simp [YC,Vd v,jY l]
end

end Go.Ab
/- The evaluator with what follows handed on. -/
namespace Go.Ab
theorem X5 {β γ:Type} (o:Option (AV × z3)) (k:AV→z3→Option β) (g:β→Option γ):(bnS o k).bind g=bnS o fun v H=>(k v H).bind g:=by
 cases o with
 | none=>rfl
 | some x=>rfl
def zr {β:Type} (v:AV) (a b:Unit→Option β):Option β:=match v with
 | .bool true=>a ()
 | .bool false=>b ()
 | _=>none
end Go.Ab
