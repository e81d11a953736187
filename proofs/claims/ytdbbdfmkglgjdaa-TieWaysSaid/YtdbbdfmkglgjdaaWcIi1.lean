/- slices.Insert, whatever the slice's room. -/
import Derived.Test.YtdbbdfmkglgjdaaBie
import Derived.Test.YtdbbdfmkglgjdaaSh14
import Derived.Test.YtdbbdfmkglgjdaaSh3
set_option linter.unusedVariables false
set_option linter.unusedSimpArgs false
namespace Go.Proofs.Ytdbbdfmkglgjdaa.Bi.WcIi1
open Go.Ab Go.RowKit Go
set_option maxRecDepth 100000
theorem zbQ:xM Try.prog 89 z5E :=
 z9c (tS:=29) (tR:=4) (e:=54) (z:=3) Try.underlying29 (by kernel_rfl) fun xs w w' x h=>by
  rw [run_callFunc_extern Try.func89 (by kernel_rfl) (by kernel_rfl) (by kernel_rfl) (e:=Extern.SlicesOverlaps.overlaps #[29,29] #[4]) (by kernel_rfl),h]
  rfl
def sO:jU:=[(89,z5E)]
theorem zef:kJ sO:=WU zbQ z57
theorem z9p (args:List AV) (H:z3):zL (env sO) 89 args H=z5E args H:=wa rfl args H
def zg1:List AV→z3→Option (AV × z3):=exactOr 3 (Wu 3 24)
section
variable {H:z3} {r n i rv ov m:Nat} {cv:kb} {cs vs:List AV}
theorem z9q {C:Nat} (hg:H.get r=some (.cells .opened 3 cs)) (hrow:H.row rv ov (m * 3)=some vs) (hlt:r < H.size) (hltv:rv < H.size) (hm:0 < m) (hin:i≤n) (hn:n * 3≤cs.length) (h1:(cs.take (n * 3)).all AV.one=true) (h2:vs.all AV.one=true) (hb:(n+m) * 24≤zp) (hb':n+m≤zp) (hC:n≤C) (hC':C < n+m) :
  ∃ H2 r2,zL (env sO) 85 [.sl r 0 n (.ex C),.int .i64 i,.sl rv ov m cv] H=some (.sl r2 0 (n+m) (.mi 0),H2)∧H.size≤r2∧(∃ more,H2.get r2=some (.cells .opened 3 (cs.take (i * 3)++vs++(cs.drop (i * 3)).take ((n - i) * 3)++more)))∧∀ q,q < H.size→q≠r→H2.get q=H.get q:=by
 have hmx:zp=70368744177664:=rfl
 rw [hmx] at hb hb'
 have hvl:vs.length=m * 3:=(Ke hrow).1
 have s1:x8 H 3 (.sl r 0 n (.ex C)) (some (.int .i64 (i:Int))) none none=some _:=YT rfl hin
 have e1:(m:Int)=0↔False:=by simp;omega
 have w1:IntKind.i64.wrap ((n:Int)+m)=(n:Int)+m:=YZ (by omega) (by omega)
 have w2:IntKind.i64.wrap ((n:Int)+m - i)=(n:Int)+m - i:=YZ (by omega) (by omega)
 have w3:IntKind.i64.wrap ((i:Int)+m)=(i:Int)+m:=YZ (by omega) (by omega)
 have ecap:z9d (.sl r 0 n (.ex C))=some (.int .i64 C):=rfl
 rw [x7 (s:=sO) rfl,x6]
 have hm0:¬ m=0:=by omega
 by_cases hi:i=n
 ·subst hi
  have eapp:X4 H 3 24 (.sl r 0 i (.ex C)) (.sl rv ov m cv)=some (.sl H.size 0 (i+m) (.mi 0),H.push (some (.cells .opened 3 (cs.take (i * 3)++vs)))):=by
   simp only [X4,wS,hrow,AV.slen]
   rw [if_neg (by omega)]
   simp only [yF,hg]
   rw [if_neg hm0,if_pos ⟨hb,hb'⟩,if_neg (by omega),if_pos (by omega),List.drop_zero]
  refine⟨H.push (some (.cells .opened 3 (cs.take (i * 3)++vs))),H.size,?_,Nat.le_refl _,⟨[],?_⟩,fun q hq hne=>ZX (by omega)⟩
  rotate_left
  ·rw [Yc,Nat.sub_self,Nat.zero_mul,List.take_zero,List.append_nil,List.append_nil]
  ·simp [s1,hm0,z4F,eapp]
 ·have hi':(i:Int)=n↔False:=by simp;omega
  have s2:x8 H 3 (.sl r 0 n (.ex C)) none (some (.int .i64 (i:Int))) none=some _:=z9b rfl (by omega)
  have gt:((C:Int) < (n:Int)+m)=True:=eq_true (by omega)
  let rowz:=cs.take (i * 3)++yU (n+m - i) [.int .i64 0,.int .i64 0,.int .i64 0]
  let H2:=H.push (some (.cells .opened 3 rowz))
  have eapz:z9e H 3 24 [.int .i64 0,.int .i64 0,.int .i64 0] (.sl r 0 i (.ex C)) (.int .i64 ((n:Int)+m - i))=some (.sl H.size 0 (i+(n+m - i)) (.mi 0),H2):=by
   have hr0:H.row r 0 (i * 3)=some (cs.take (i * 3)):=by
    rw [qb,hg,jR,if_pos (by omega),List.drop_zero]
   have ht:((n:Int)+m - i).toNat=n+m - i:=by omega
   simp only [z9e,hr0,ht]
   rw [if_pos (And.intro (by rfl) ⟨by omega,by omega,by omega,by rw [hmx];omega,by rw [hmx];omega,by first | rfl | trivial⟩)]
  rw [show i+(n+m - i)=n+m by omega] at eapz
  have zl:(yU (n+m - i) [.int .i64 0,.int .i64 0,.int .i64 0]).length=(n+m - i) * 3:=by rw [wr];rfl
  have rl:rowz.length=(n+m) * 3:=by simp only [rowz,List.length_append,zl,List.length_take];omega
  have g2:H2.get H.size=some (.cells .opened 3 rowz):=Yc _ _
  have s3:x8 H2 3 (.sl H.size 0 (n+m) (.mi 0)) (some (.int .i64 (i:Int))) none none=some _:=Wt (by omega) g2 rl rfl (by omega)
  have hrv2:H2.row rv ov (m * 3)=some vs:=by rw [qb,ZX (by omega),← qb];exact hrow
  have c1:=z36 (z:=3) (r:=H.size) (o:=i * 3) (n:=n+m - i) (c:=.mi i) (r':=rv) (o':=ov) (n':=m) (c':=cv) (H:=H2) (k:=m) (by omega) hm0 hrv2 g2 (by simp) (by omega) h2
  obtain⟨H3,hH3⟩:∃ X,X=H2.put H.size (some (.cells .opened 3 (splice rowz (i * 3) vs))):=⟨_,rfl⟩
  rw [← hH3] at c1
  have sl3:(splice rowz (i * 3) vs).length=(n+m) * 3:=by
   simp only [splice,List.length_append,List.length_take,List.length_drop,rl,hvl];omega
  have g3:H3.get H.size=some (.cells .opened 3 (splice rowz (i * 3) vs)):=by rw [hH3];exact vL _ _ _
  have s4:x8 H3 3 (.sl H.size 0 (n+m) (.mi 0)) (some (.int .i64 ((i:Int)+m))) none none=some _:=Wt (j:=i+m) (by omega) g3 sl3 (by omega) (by omega)
  have s5:x8 H3 3 (.sl r 0 n (.ex C)) (some (.int .i64 (i:Int))) none none=some _:=YT rfl hin
  rw [if_neg (by omega),Nat.zero_add] at s5
  have g3r:H3.get r=some (.cells .opened 3 cs):=by rw [hH3,kY (by omega),ZX (by omega)];exact hg
  have r3:H3.row r (i * 3) ((n - i) * 3)=some ((cs.drop (i * 3)).take ((n - i) * 3)):=by
   rw [qb,g3r,jR,if_pos (by omega)]
  have one3:((cs.drop (i * 3)).take ((n - i) * 3)).all AV.one=true:=by
   exact z6q h1 hin
  have c2:=z36 (z:=3) (r:=H.size) (o:=(i+m) * 3) (n:=n+m - (i+m)) (c:=.mi (i+m)) (r':=r) (o':=i * 3) (n':=n - i) (c':=.ex (C - i)) (H:=H3) (k:=n - i) (by omega) (by omega) r3 g3 (by simp) (by simp;omega) one3
  have hfin:=z5D (cs:=cs) (vs:=vs) (zs:=yU (n+m - i) [.int .i64 0,.int .i64 0,.int .i64 0]) (a:=i * 3) (b:=m * 3) (c:=(n - i) * 3) hvl (by rw [zl];omega) (by omega)
  rw [show i * 3+m * 3=(i+m) * 3 by omega] at hfin
  obtain⟨H4,hH4⟩:∃ X,X=H3.put H.size (some (.cells .opened 3 (splice (splice rowz (i * 3) vs) ((i+m) * 3) ((cs.drop (i * 3)).take ((n - i) * 3))))):=⟨_,rfl⟩
  rw [← hH4] at c2
  refine⟨H4,H.size,?_,Nat.le_refl _,⟨[],?_⟩,?_⟩
  rotate_left
  ·rw [hH4,vL,List.append_nil,hfin]
  ·intro q hq hne
   rw [hH4,kY (by omega),hH3,kY (by omega),ZX (by omega)]
  ·simp [s1,hm0,hi',w1,w2,w3,ecap,gt,s2,eapz,s3,c1,s4,s5,c2]
theorem z9r {C:Nat} {H1:z3} {ds:List AV} (hg:H1.get r=some (.cells .opened 3 ds)) (hpre:ds.take cs.length=cs) (hdl:(n+m) * 3≤ds.length) {kv:Kd} {zv:Nat} {vs0:List AV} (hgv:H1.get rv=some (.cells kv zv vs0)) (hkv:Z6 kv=true) (hne:rv≠r)
  (hrow:H1.row rv ov (m * 3)=some vs) (hm:0 < m) (hin:i≤n) (hn:n * 3≤cs.length) (h1:(cs.take (n * 3)).all AV.one=true) (h2:vs.all AV.one=true) (hb:(n+m) * 24≤zp) (hb':n+m≤zp) (hC:n+m≤C) (hmax:C≤maxLen) :
  ∃ H2,zL (env sO) 85 [.sl r 0 n (.ex C),.int .i64 i,.sl rv ov m cv] H1=some (.sl r 0 (n+m) (.ex C),H2)∧(∃ more,H2.get r=some (.cells .opened 3 (cs.take (i * 3)++vs++(cs.drop (i * 3)).take ((n - i) * 3)++more)))∧∀ q,q≠r→H2.get q=H1.get q:=by
 have hmx:zp=70368744177664:=rfl
 have hml:maxLen=16777216∨True:=Or.inr trivial
 rw [hmx] at hb hb'
 have hvl:vs.length=m * 3:=(Ke hrow).1
 have s1:x8 H1 3 (.sl r 0 n (.ex C)) (some (.int .i64 (i:Int))) none none=some _:=YT rfl hin
 have w1:IntKind.i64.wrap ((n:Int)+m)=(n:Int)+m:=YZ (by omega) (by omega)
 have w3:IntKind.i64.wrap ((i:Int)+m)=(i:Int)+m:=YZ (by omega) (by omega)
 have ecap:z9d (.sl r 0 n (.ex C))=some (.int .i64 C):=rfl
 have hm0:¬ m=0:=by omega
 have hcd:cs.length≤ds.length:=by
  have:=congrArg List.length hpre
  rw [List.length_take] at this;omega
 have pre:∀ a,a≤cs.length→ds.take a=cs.take a:=fun a ha=>by
  rw [← hpre,List.take_take,Nat.min_eq_left ha]
 have mid:∀ a c,a+c≤cs.length→(ds.drop a).take c=(cs.drop a).take c:=fun a c ha=>by
  have:(cs.drop a).take c=((ds.take cs.length).drop a).take c:=by rw [hpre]
  rw [this,List.drop_take,List.take_take,Nat.min_eq_left (by omega)]
 rw [x7 (s:=sO) rfl,x6]
 by_cases hi:i=n
 ·subst hi
  have eapp:X4 H1 3 24 (.sl r 0 i (.ex C)) (.sl rv ov m cv)=some (.sl r 0 (i+m) (.ex C),H1.put r (some (.cells .opened 3 (splice ds (i * 3) vs)))):=by
   simp only [X4,wS,hrow,AV.slen]
   rw [if_neg (by omega)]
   simp only [yF,hg]
   rw [if_neg hm0,if_pos ⟨hb,hb'⟩,if_pos hC,if_pos ⟨Or.inr (by first | rfl | trivial),by first | rfl | trivial⟩]
   simp only [z3.write,hg]
   rw [if_neg (by simp),if_pos ⟨by omega,h2⟩]
   simp
  obtain⟨H2,hH2⟩:∃ X,X=H1.put r (some (.cells .opened 3 (splice ds (i * 3) vs))):=⟨_,rfl⟩
  rw [← hH2] at eapp
  refine⟨H2,?_,⟨ds.drop (i * 3+vs.length),?_⟩,fun q hq=>by rw [hH2,kY hq]⟩
  rotate_left
  ·rw [hH2,vL,Nat.sub_self,Nat.zero_mul,List.take_zero,List.append_nil]
   unfold splice
   rw [pre _ hn]
  ·simp [s1,hm0,z4F,eapp]
 ·have hi':(i:Int)=n↔False:=by simp;omega
  have gt:((C:Int) < (n:Int)+m)=False:=eq_false (by omega)
  have s2:x8 H1 3 (.sl r 0 n (.ex C)) none (some (.int .i64 ((n:Int)+m))) none=some _:=z9b (j:=n+m) (by omega) hC
  have s3:x8 H1 3 (.sl r 0 (n+m) (.ex C)) (some (.int .i64 ((i:Int)+m))) none none=some _:=YT (j:=i+m) (by omega) (by omega)
  rw [if_neg (by omega),Nat.zero_add] at s3
  have s4:x8 H1 3 (.sl r 0 (n+m) (.ex C)) (some (.int .i64 (i:Int))) none none=some _:=YT (j:=i) rfl (by omega)
  rw [if_neg (by omega),Nat.zero_add] at s4
  have hds:ds≠[]:=by intro e;subst e;simp at hdl;omega
  have eov:z5E [.sl rv ov m cv,.sl r ((i+m) * 3) (n+m - (i+m)) (.ex (C - (i+m)))] H1=some (.bool false,H1):=by
   simp only [z5E,hgv,hg]
   rw [if_pos ⟨hne,hkv,rfl,hds⟩]
  have r1:H1.row r (i * 3) ((n - i) * 3)=some ((ds.drop (i * 3)).take ((n - i) * 3)):=by
   rw [qb,hg,jR,if_pos (by omega)]
  have one3:((ds.drop (i * 3)).take ((n - i) * 3)).all AV.one=true:=by
   rw [mid _ _ (by omega)]
   exact z6q h1 hin
  have c1:=z36 (z:=3) (r:=r) (o:=(i+m) * 3) (n:=n+m - (i+m)) (c:=.ex (C - (i+m))) (r':=r) (o':=i * 3) (n':=n+m - i) (c':=.ex (C - i)) (H:=H1) (k:=n - i) (by omega) (by omega) r1 hg (by simp) (by simp;omega) one3
  obtain⟨H2,hH2⟩:∃ X,X=H1.put r (some (.cells .opened 3 (splice ds ((i+m) * 3) ((ds.drop (i * 3)).take ((n - i) * 3))))):=⟨_,rfl⟩
  rw [← hH2] at c1
  have g2:H2.get r=some (.cells .opened 3 (splice ds ((i+m) * 3) ((ds.drop (i * 3)).take ((n - i) * 3)))):=by rw [hH2];exact vL _ _ _
  have s5:x8 H2 3 (.sl r 0 (n+m) (.ex C)) (some (.int .i64 (i:Int))) none none=some _:=YT (j:=i) rfl (by omega)
  rw [if_neg (by omega),Nat.zero_add] at s5
  have hrv2:H2.row rv ov (m * 3)=some vs:=by rw [qb,hH2,kY hne,← qb];exact hrow
  have spl:(splice ds ((i+m) * 3) ((ds.drop (i * 3)).take ((n - i) * 3))).length=ds.length:=by
   simp only [splice,List.length_append,List.length_take,List.length_drop];omega
  have c2:=z36 (z:=3) (r:=r) (o:=i * 3) (n:=n+m - i) (c:=.ex (C - i)) (r':=rv) (o':=ov) (n':=m) (c':=cv) (H:=H2) (k:=m) (by omega) hm0 hrv2 g2 (by simp) (by rw [spl];omega) h2
  obtain⟨H3,hH3⟩:∃ X,X=H2.put r (some (.cells .opened 3 (splice (splice ds ((i+m) * 3) ((ds.drop (i * 3)).take ((n - i) * 3))) (i * 3) vs))):=⟨_,rfl⟩
  rw [← hH3] at c2
  have hfin:=z4B (cs:=ds) (vs:=vs) (a:=i * 3) (b:=m * 3) (c:=(n - i) * 3) hvl (by omega)
  rw [show i * 3+m * 3=(i+m) * 3 by omega] at hfin
  refine⟨H3,?_,⟨ds.drop ((i+m) * 3+(n - i) * 3),?_⟩,?_⟩
  rotate_left
  ·rw [hH3,vL]
   rw [hfin,pre _ (by omega),mid _ _ (by omega)]
  ·intro q hq
   rw [hH3,kY hq,hH2,kY hq]
  ·simp [s1,hm0,hi',w1,w3,ecap,gt,s2,s3,z9p,eov,s4,c1,s5,c2]
theorem ok_gIns:xM Try.prog 85 zg1:=by
 refine xM.exactOr (by decide) (xM.ins (z3x zef) (zaB _) rfl fun args H v H' h=>?_)
 unfold Wu at h
 split at h
 ·rename_i r n i rv ov m cv
  split at h
  ·rename_i z0 cs kv zv vs0 vs hg hgv hrow
   split at h
   ·rename_i hc
    obtain⟨rfl,h1,h2,h3,h4,h5,h6,h7,h8,hltr,hltv,h9,h10⟩:=hc
    simp only [Option.some.injEq,Prod.mk.injEq] at h
    obtain⟨rfl,rfl⟩:=h
    have h8:Z6 kv=true:=by rcases h8 with rfl | rfl<;>rfl
    obtain⟨j,rfl⟩:∃ j:Nat,i=j:=⟨i.toNat,by omega⟩
    right
    refine⟨r,n,3,n+m,cs,[.int .i64 j,.sl rv ov m cv],_,rfl,?_,rfl,rfl⟩
    rw [Int.toNat_natCast]
    refine⟨hg,h4,by omega,fun ρ B w hs hx=>?_,fun C hC hC'=>?_,fun C H1 extra hC hmax hsz hg1 hlen hk=>?_⟩
    ·obtain⟨xs,hx⟩:=hx
     obtain⟨a,ys,ha,hys,rfl⟩:=zT hx
     obtain⟨b,zs,hb,hzs,rfl⟩:=zT hys
     obtain⟨d,es,hd,hes,rfl⟩:=zT hzs
     obtain⟨L,hr,rfl,_⟩:=xq ha
     obtain⟨L',hr',rfl,_⟩:=xq hd
     obtain⟨_,_,cur,_,_,_,_,k1,_⟩:=(zH (by simp)).1 (hs.obj r L _ hr hg)
     have hkr:kv≠.ro:=by rintro rfl;simp [Z6] at h8
     obtain⟨_,_,cur',_,_,_,_,k2,_⟩:=(zH hkr).1 (hs.obj rv L' _ hr' hgv)
     have e:vs=(vs0.drop ov).take (m * 3):=by
      rw [qb,hgv,jR] at hrow
      split at hrow
      ·exact(Option.some.inj hrow).symm
      ·cases hrow
     rw [e]
     exact⟨_,yf (yf (jD _ k1) (jD _ (Zf _ k2))) (jD _ (Zf _ k1))⟩
    ·exact z9q hg hrow hltr hltv h1 (by omega) h4 h5 h6 h9 h10 hC hC'
    ·have hdl:(n+m) * 3≤(cs++extra).length:=by omega
     obtain⟨H2,e,hm,hk2⟩:=z9r (cs:=cs) (i:=j) (cv:=cv) hg1 (by simp) hdl (by rw [hk rv hltv h7];exact hgv) h8 h7 (by rw [qb,hk rv hltv h7,← qb];exact hrow) h1 (by omega) h4 h5 h6 h9 h10 hC hmax
     exact⟨H2,e,hm,fun q _ hne=>hk2 q hne⟩
   ·cases h
  ·cases h
 ·rename_i v0
  left
  rw [x7 (s:=sO) rfl,x6]
  have s1:x8 H 3 .nils (some (.int .i64 0)) none none=some .nils:=by simp [x8,ke,yh,bnd]
  have el:∃ k:Nat,z0R v0=some (.int .i64 k)∧(k=0→v=.nils∧H'=H):=by
   unfold X4 at h
   split at h
   ·cases h
   ·split at h
    ·cases h
    ·rename_i news hnews
     cases v0 with
     | nils =>
      simp [AV.slen,yF] at h
      exact⟨0,rfl,fun _=>⟨h.1.symm,h.2.symm⟩⟩
     | sl r o n c =>
      refine⟨n,rfl,fun e=>?_⟩
      subst e
      simp [AV.slen,yF] at h
      exact⟨h.1.symm,h.2.symm⟩
     | zs r o k d =>
      simp [AV.slen,yF] at h
      exact⟨0,rfl,fun _=>⟨h.1.symm,h.2.symm⟩⟩
     | _=>simp [wS] at hnews
  obtain⟨k,e1,e2⟩:=el
  by_cases hk:k=0
  ·obtain⟨rfl,rfl⟩:=e2 hk
   subst hk
   simp [s1,e1]
  ·have hk':(k:Int)=0↔False:=by simp;omega
   simp [s1,e1,hk,hk',z4F,h]
 ·cases h
end
end Go.Proofs.Ytdbbdfmkglgjdaa.Bi.WcIi1
