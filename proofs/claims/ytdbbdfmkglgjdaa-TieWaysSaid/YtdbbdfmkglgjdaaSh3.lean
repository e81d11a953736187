/- slices.overlaps, an entry of the model's: at slices in two blocks of the call's own it says no. -/
import Derived.Test.YtdbbdfmkglgjdaaAb17
import Derived.Lib.Overlaps
set_option linter.unusedVariables false
set_option linter.unusedSimpArgs false
set_option linter.unusedSectionVars false
namespace Go.Ab
open Go.RowKit
def Z6:Kd→Bool
 | .exact | .opened=>true
 | _=>false
def z5E:List AV→z3→Option (AV × z3)
 | [.sl r _ _ _,.sl r' _ _ _],H=>match H.get r,H.get r' with
  | some (.cells k _ _),some (.cells k' _ cs')=>if r≠r'∧Z6 k=true∧Z6 k'=true∧cs'≠[] then some (.bool false,H) else none
  | _,_=>none
 | _,_=>none
theorem Wv {B:Nat} {ρ:Rho} {w:World} {L:Loc} {k:Kd} {z:Nat} {cs:List AV} (hk:Z6 k=true) (h:z7I B ρ w L k z cs) :
  ∃ e cur,w.heap[L.blk]? = some (.cells cur e (0,0))∧cs.length≤cur.size:=by
 obtain⟨_,_,cur,e,fz,hcur,hle,_,hkd⟩:=h
 cases k<;>simp [Z6] at hk
 ·obtain⟨rfl,_⟩:=hkd;exact⟨e,cur,hcur,hle⟩
 ·obtain⟨rfl,_⟩:=hkd;exact⟨e,cur,hcur,hle⟩
theorem z9c {P:Program} {f:Nat} {tS tR e:TypeId} {z:Nat} (ht:P.underlying tS=some (.slice e)) (hz:jB P e=some z)
  (hf:∀ (xs:Array Value) (w w':World) (x:Value),(Extern.SlicesOverlaps.overlaps #[tS,tS] #[tR] xs).run P w=.ok x w'→(callFunc f xs).run P w=.ok (.value x) w'):xM P f z5E:=by
 intro B ρ w H args xs v H' hB hs hx h
 unfold z5E at h
 split at h
 ·rename_i H0 r o n c r' o' n' c'
  split at h
  ·rename_i k z1 cs k' z2 cs' hg hg'
   split at h
   ·rename_i hcond
    obtain⟨hne,hk,hk',hcs⟩:=hcond
    simp at h
    obtain⟨rfl,rfl⟩:=h
    obtain⟨a,ys,ha,hys,rfl⟩:=zT hx
    obtain⟨b,zs,hb,hzs,rfl⟩:=zT hys
    have:zs=[]:=by simpa [zg] using hzs
    subst this
    obtain⟨L,hr,rfl,_⟩:=xq ha
    obtain⟨L',hr',rfl,_⟩:=xq hb
    have hkr:k≠.ro:=by rintro rfl;simp [Z6] at hk
    have hkr':k'≠.ro:=by rintro rfl;simp [Z6] at hk'
    have own:(zF.cells k z1 cs).own=true:=by cases k<;>first | rfl | exact absurd rfl hkr
    have own':(zF.cells k' z2 cs').own=true:=by cases k'<;>first | rfl | exact absurd rfl hkr'
    have hblk:=hs.inj r r' L L' _ _ hne hr hr' hg hg' own own'
    obtain⟨e1,cur1,h1,_⟩:=Wv hk ((zH hkr).1 (hs.obj r L _ hr hg))
    obtain⟨e2,cur2,h2,hl2⟩:=Wv hk' ((zH hkr').1 (hs.obj r' L' _ hr' hg'))
    have hpos:cur2.size≠0:=by
     have:0 < cs'.length:=List.length_pos_iff.2 hcs
     omega
    have hrun:=Lib.run_overlaps_apart (P:=P) w tS tR e ht z (zM hz) ⟨L.blk,L.off+o,none⟩ ⟨L'.blk,L'.off+o',none⟩ n (xj L c) n' (xj L' c') hblk e1 e2 cur1.size cur2.size
     (by simp [World.shape?,h1]) (by simp [World.shape?,h2]) hpos (by simp [World.frozen?,h1]) (by simp [World.frozen?,h1])
    exact .inr ⟨ρ,.bool false,w,hf _ _ _ _ hrun,rfl,ρ.ext_refl _,hs,Below.refl _ _,Nat.le_refl _⟩
   ·cases h
  ·cases h
 ·cases h
end Go.Ab
/- More fuel tells the same. -/
namespace Go.Ab
def QR (a b:z7):Prop:=∀ f args H r,a f args H=some r→b f args H=some r
theorem V8 {a b:z7} (h:QR a b) {τ:Tau} {H:z3} {op:AOp} {r:AV × z3} (hs:xL a τ H op=some r):xL b τ H op=some r:=by
 unfold xL at hs ⊢
 split
 ·rename_i g vs hg
  rw [hg] at hs
  exact h _ _ _ _ hs
 ·rename_i hg
  rw [hg] at hs
  exact hs
theorem V9 {a b:z7} (h:QR a b):∀ (l:List zk) (τ:Tau) (H:z3) (r:Tau × z3),kK a l τ H=some r→kK b l τ H=some r
 | [],_,_,_,e=>e
 | o::l,τ,H,r,e=>by
  unfold kK at e ⊢
  split at e
  ·rename_i hw
   rw [if_pos hw]
   split at e
   ·rename_i v H' hs
    rw [V8 h hs]
    exact V9 h l _ _ _ e
   ·cases e
  ·rename_i hw
   rw [if_neg hw]
   exact V9 h l _ _ _ e
theorem ZA {a b:z7} (h:QR a b) (base:Nat):∀ (l:List (zk × DK)) (recs:List Rec) (τ:Tau) (H:z3) (r:Tau × z3),x9 a base l recs τ H=some r→x9 b base l recs τ H=some r
 | [],_,_,_,_,e=>e
 | (o,dk)::l,recs,τ,H,r,e=>by
  unfold x9 at e ⊢
  split at e
  ·rename_i hw
   rw [if_pos hw]
   cases dk with
   | q =>
    simp only at e ⊢
    split at e
    ·rename_i v H' hs
     split at e
     ·rename_i hz
      rw [if_pos hz]
      exact ZA h base l _ _ _ _ e
     ·cases e
    ·cases e
   | al k =>
    simp only at e ⊢
    split at e
    ·rename_i v ob hs
     split at e
     ·rename_i hz
      rw [if_pos hz]
      exact ZA h base l _ _ _ _ e
     ·cases e
    ·cases e
   | ef pins =>
    simp only at e ⊢
    split at e
    ·rename_i v H' hs
     rw [V8 h hs]
     simp only
     split at e
     ·rename_i hz
      rw [if_pos hz]
      exact ZA h base l _ _ _ _ e
     ·cases e
    ·cases e
  ·rename_i hw
   rw [if_neg hw]
   exact ZA h base l _ _ _ _ e
theorem z6r {E:Env}:∀ n,QR (xn E n) (xn E (n+1))∧∀ c τ H r,zx E n c τ H=some r→zx E (n+1) c τ H=some r:=by
 intro n
 induction n with
 | zero=>exact⟨fun f args H r h=>by simp [xn] at h,fun c τ H r h=>by simp [zx] at h⟩
 | succ n ih =>
  obtain⟨ih1,ih2⟩:=ih
  refine⟨fun f args H r h=>?_,fun c τ H r h=>?_⟩
  ·unfold xn at h ⊢
   split
   ·rename_i g hg
    rw [hg] at h
    exact h
   ·rename_i hg
    rw [hg] at h
    simp only at h
    split
    ·rename_i hn
     rw [hn] at h
     cases h
    ·rename_i fn hn
     rw [hn] at h
     simp only at h
     cases he:zx E n fn.code (args++List.replicate (fn.nt - args.length) z4) H with
     | none=>rw [he] at h;cases h
     | some x=>rw [he] at h;rw [ih2 _ _ _ _ he];exact h
  ·unfold zx at h ⊢
   cases c with
   | skip=>exact h
   | ret=>exact h
   | exit i=>exact h
   | reg ops =>
    simp only at h ⊢
    obtain⟨x,hx,rfl⟩:=Option.map_eq_some_iff.1 h
    rw [V9 ih1 _ _ _ _ hx]
    rfl
   | dreg na ops =>
    simp only at h ⊢
    obtain⟨x,hx,rfl⟩:=Option.map_eq_some_iff.1 h
    rw [ZA ih1 _ _ _ _ _ _ hx]
    rfl
   | seq a b =>
    simp only at h ⊢
    cases he:zx E n a τ H with
    | none=>rw [he] at h;cases h
    | some x =>
     rw [he] at h
     rw [ih2 _ _ _ _ he]
     obtain⟨ex,τ1,H1⟩:=x
     cases ex with
     | normal=>exact ih2 _ _ _ _ h
     | exit i=>exact h
     | ret=>exact h
   | cond x a b =>
    simp only at h ⊢
    split at h
    ·rename_i t ht
     exact ih2 _ _ _ _ h
    ·cases h
   | block i c =>
    simp only at h ⊢
    cases he:zx E n c τ H with
    | none=>rw [he] at h;cases h
    | some x=>rw [he] at h;rw [ih2 _ _ _ _ he];exact h
   | loop c =>
    simp only at h ⊢
    cases he:zx E n c τ H with
    | none=>rw [he] at h;cases h
    | some x =>
     rw [he] at h
     rw [ih2 _ _ _ _ he]
     obtain⟨ex,τ1,H1⟩:=x
     cases ex with
     | normal=>exact ih2 _ _ _ _ h
     | exit i=>exact h
     | ret=>exact h
theorem YU {E:Env} {n m:Nat} (h:n≤m):QR (xn E n) (xn E m):=by
 induction h with
 | refl=>exact fun _ _ _ _ e=>e
 | step _ ih=>exact fun f args H r e=>(z6r _).1 f args H r (ih f args H r e)
theorem wO {E:Env} {n m:Nat} (h:n≤m) {c:x3} {τ:Tau} {H:z3} {r:zE × Tau × z3} (e:zx E n c τ H=some r):zx E m c τ H=some r:=by
 induction h with
 | refl=>exact e
 | step _ ih=>exact(z6r _).2 c τ H r ih

def Run (E:Env) (c:x3) (τ:Tau) (H:z3) (ex:zE) (τ':Tau) (H':z3):Prop:=∃ n,zx E n c τ H=some (ex,τ',H')
section
variable {E:Env} {τ τ1 τ':Tau} {H H1 H':z3} {ex:zE}
theorem Run.skip:Run E .skip τ H .normal τ H:=⟨1,rfl⟩
theorem Run.ret:Run E .ret τ H .ret τ H:=⟨1,rfl⟩
theorem Run.exit (i:Nat):Run E (.exit i) τ H (.exit i) τ H:=⟨1,rfl⟩
theorem Run.seq {a b:x3} (h1:Run E a τ H .normal τ1 H1) (h2:Run E b τ1 H1 ex τ' H'):Run E (.seq a b) τ H ex τ' H':=by
 obtain⟨n,h1⟩:=h1
 obtain⟨m,h2⟩:=h2
 refine⟨max n m+1,?_⟩
 simp only [zx,wO (Nat.le_max_left n m) h1,wO (Nat.le_max_right n m) h2]
theorem Run.cond {x:AX} {a b:x3} {t:Bool} (hx:τ.at x=.bool t) (h:Run E (if t then a else b) τ H ex τ' H'):Run E (.cond x a b) τ H ex τ' H':=by
 obtain⟨n,h⟩:=h
 exact⟨n+1,by simp only [zx,hx,h]⟩
theorem Run.block {i:Nat} {c:x3} (h:Run E c τ H ex τ' H'):Run E (.block i c) τ H (if ex=.exit i then .normal else ex) τ' H':=by
 obtain⟨n,h⟩:=h
 refine⟨n+1,?_⟩
 cases ex with
 | normal=>simp [zx,h]
 | exit j=>simp [zx,h]
 | ret=>simp [zx,h]
end
end Go.Ab
/- Rows of operations in joined form: what a guard leaves out does not double what follows. -/
namespace Go.Ab
def bnS {β:Type} (o:Option (AV × z3)) (k:AV→z3→Option β):Option β:=match o with
 | some (v,H)=>k v H
 | none=>none
def bnM {β:Type} (o:Option (AV × Rec × z3)) (k:AV→Rec→z3→Option β):Option β:=match o with
 | some (v,r,H)=>k v r H
 | none=>none
def gdS (w:Bool) (o:Option (AV × z3)) (H:z3):Option (AV × z3):=if w then o else some (z4,H)
def lft (H:z3) (o:Option AV):Option (AV × z3):=o.map fun v=>(v,H)
def wnt (v:AV) (w:Bool):Bool:=match v with
 | .bool b=>b == w
 | _=>false
def zap (H:z3) (r:Nat) (o:Option (AV × zF)):Option (AV × Rec × z3):=match o with
 | some (v,ob)=>if (H.get r).isNone then some (v,.made r,H.put r (some ob)) else none
 | none=>none
mutual
theorem J9:∀ (v:AV),qA v v=true
 | .bool _ | .int _ _ | .str _ | .nilp | .nils | .nilfn | .nilifc | .nilm | .mp _ | .ptr _ _ | .sl _ _ _ _ | .zs _ _ _ _ | .raw _=>by simp [qA]
 | .fn f a b=>by simp [qA,jp a,jp b]
 | .ifc t a=>by simp [qA,J9 a]
 | .agg a=>by simp [qA,jp a]
 | .tup a=>by simp [qA,jp a]
 | .fz z a=>by simp [qA,jp a]
 | .ow z a=>by simp [qA,jp a]
 | .cp a o=>by simp [qA,jp a]
 | .lt z a=>by simp [qA,jp a]
 | .sk=>by simp [qA]
theorem jp:∀ (l:List AV),Zd l l=true
 | []=>by simp [Zd]
 | v::l=>by simp [Zd,J9 v,jp l]
end

end Go.Ab
/- The evaluator with what follows handed on. -/
namespace Go.Ab
theorem ZB {β γ:Type} (o:Option (AV × z3)) (k:AV→z3→Option β) (g:β→Option γ):(bnS o k).bind g=bnS o fun v H=>(k v H).bind g:=by
 cases o with
 | none=>rfl
 | some x=>rfl
def zG {β:Type} (v:AV) (a b:Unit→Option β):Option β:=match v with
 | .bool true=>a ()
 | .bool false=>b ()
 | _=>none
end Go.Ab
