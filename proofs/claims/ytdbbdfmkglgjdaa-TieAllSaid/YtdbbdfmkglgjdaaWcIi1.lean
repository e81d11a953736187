/- slices.Insert, whatever the slice's room. -/
import Derived.Test.YtdbbdfmkglgjdaaBie
import Derived.Test.YtdbbdfmkglgjdaaSh14
import Derived.Test.YtdbbdfmkglgjdaaSh3
set_option linter.unusedVariables false
set_option linter.unusedSimpArgs false
namespace Go.Proofs.Ytdbbdfmkglgjdaa.Bi.WcIi1
open Go.Ab Go.RowKit Go
set_option maxRecDepth 100000
theorem zfe:qi Try.prog 89 z8V :=
 zcx (tS:=29) (tR:=4) (e:=54) (z:=3) Try.underlying29 (by kernel_rfl) fun xs w w' x h=>by
  rw [run_callFunc_extern Try.func89 (by kernel_rfl) (by kernel_rfl) (by kernel_rfl) (e:=Extern.SlicesOverlaps.overlaps #[29,29] #[4]) (by kernel_rfl),h]
  rfl
def sO:v9:=[(89,z8V)]
theorem zhD:vR sO:=z2S zfe z8g
theorem zcK (args:List AV) (H:z3):zM (env sO) 89 args H=z8V args H:=Zy rfl args H
def zjq:List AV→z3→Option (AV × z3):=exactOr 3 (z2u 3 24)
section
variable {H:z3} {r n i rv ov m:Nat} {cv:vj} {cs vs:List AV}
theorem zcL {C:Nat} (hg:H.get r=some (.cells .opened 3 cs)) (hrow:H.row rv ov (m * 3)=some vs) (hlt:r < H.size) (hltv:rv < H.size) (hm:0 < m) (hin:i≤n) (hn:n * 3≤cs.length) (h1:(cs.take (n * 3)).all AV.one=true) (h2:vs.all AV.one=true) (hb:(n+m) * 24≤zq) (hb':n+m≤zq) (hC:n≤C) (hC':C < n+m) :
  ∃ H2 r2,zM (env sO) 85 [.sl r 0 n (.ex C),.int .i64 i,.sl rv ov m cv] H=some (.sl r2 0 (n+m) (.mi 0),H2)∧H.size≤r2∧(∃ more,H2.get r2=some (.cells .opened 3 (cs.take (i * 3)++vs++(cs.drop (i * 3)).take ((n - i) * 3)++more)))∧∀ q,q < H.size→q≠r→H2.get q=H.get q:=by
 have hmx:zq=70368744177664:=rfl
 rw [hmx] at hb hb'
 have hvl:vs.length=m * 3:=(WV hrow).1
 have s1:xp H 3 (.sl r 0 n (.ex C)) (some (.int .i64 (i:Int))) none none=some _:=QI rfl hin
 have e1:(m:Int)=0↔False:=by simp;omega
 have w1:IntKind.i64.wrap ((n:Int)+m)=(n:Int)+m:=QO (by omega) (by omega)
 have w2:IntKind.i64.wrap ((n:Int)+m - i)=(n:Int)+m - i:=QO (by omega) (by omega)
 have w3:IntKind.i64.wrap ((i:Int)+m)=(i:Int)+m:=QO (by omega) (by omega)
 have ecap:zcy (.sl r 0 n (.ex C))=some (.int .i64 C):=rfl
 rw [xo (s:=sO) rfl,xn]
 have hm0:¬ m=0:=by omega
 by_cases hi:i=n
 ·subst hi
  have eapp:QT H 3 24 (.sl r 0 i (.ex C)) (.sl rv ov m cv)=some (.sl H.size 0 (i+m) (.mi 0),H.push (some (.cells .opened 3 (cs.take (i * 3)++vs)))):=by
   simp only [QT,Zr,hrow,AV.slen]
   rw [if_neg (by omega)]
   simp only [yP,hg]
   rw [if_neg hm0,if_pos ⟨hb,hb'⟩,if_neg (by omega),if_pos (by omega),List.drop_zero]
  refine⟨H.push (some (.cells .opened 3 (cs.take (i * 3)++vs))),H.size,?_,Nat.le_refl _,⟨[],?_⟩,fun q hq hne=>Xu (by omega)⟩
  rotate_left
  ·rw [XM,Nat.sub_self,Nat.zero_mul,List.take_zero,List.append_nil,List.append_nil]
  ·simp [s1,hm0,z7O,eapp]
 ·have hi':(i:Int)=n↔False:=by simp;omega
  have s2:xp H 3 (.sl r 0 n (.ex C)) none (some (.int .i64 (i:Int))) none=some _:=zcw rfl (by omega)
  have gt:((C:Int) < (n:Int)+m)=True:=eq_true (by omega)
  let rowz:=cs.take (i * 3)++x8 (n+m - i) [.int .i64 0,.int .i64 0,.int .i64 0]
  let H2:=H.push (some (.cells .opened 3 rowz))
  have eapz:zcz H 3 24 [.int .i64 0,.int .i64 0,.int .i64 0] (.sl r 0 i (.ex C)) (.int .i64 ((n:Int)+m - i))=some (.sl H.size 0 (i+(n+m - i)) (.mi 0),H2):=by
   have hr0:H.row r 0 (i * 3)=some (cs.take (i * 3)):=by
    rw [qL,hg,v7,if_pos (by omega),List.drop_zero]
   have ht:((n:Int)+m - i).toNat=n+m - i:=by omega
   simp only [zcz,hr0,ht]
   rw [if_pos (And.intro (by rfl) ⟨by omega,by omega,by omega,by rw [hmx];omega,by rw [hmx];omega,by first | rfl | trivial⟩)]
  rw [show i+(n+m - i)=n+m by omega] at eapz
  have zl:(x8 (n+m - i) [.int .i64 0,.int .i64 0,.int .i64 0]).length=(n+m - i) * 3:=by rw [ZK];rfl
  have rl:rowz.length=(n+m) * 3:=by simp only [rowz,List.length_append,zl,List.length_take];omega
  have g2:H2.get H.size=some (.cells .opened 3 rowz):=XM _ _
  have s3:xp H2 3 (.sl H.size 0 (n+m) (.mi 0)) (some (.int .i64 (i:Int))) none none=some _:=z2t (by omega) g2 rl rfl (by omega)
  have hrv2:H2.row rv ov (m * 3)=some vs:=by rw [qL,Xu (by omega),← qL];exact hrow
  have c1:=z6d (z:=3) (r:=H.size) (o:=i * 3) (n:=n+m - i) (c:=.mi i) (r':=rv) (o':=ov) (n':=m) (c':=cv) (H:=H2) (k:=m) (by omega) hm0 hrv2 g2 (by simp) (by omega) h2
  obtain⟨H3,hH3⟩:∃ X,X=H2.put H.size (some (.cells .opened 3 (splice rowz (i * 3) vs))):=⟨_,rfl⟩
  rw [← hH3] at c1
  have sl3:(splice rowz (i * 3) vs).length=(n+m) * 3:=by
   simp only [splice,List.length_append,List.length_take,List.length_drop,rl,hvl];omega
  have g3:H3.get H.size=some (.cells .opened 3 (splice rowz (i * 3) vs)):=by rw [hH3];exact Zc _ _ _
  have s4:xp H3 3 (.sl H.size 0 (n+m) (.mi 0)) (some (.int .i64 ((i:Int)+m))) none none=some _:=z2t (j:=i+m) (by omega) g3 sl3 (by omega) (by omega)
  have s5:xp H3 3 (.sl r 0 n (.ex C)) (some (.int .i64 (i:Int))) none none=some _:=QI rfl hin
  rw [if_neg (by omega),Nat.zero_add] at s5
  have g3r:H3.get r=some (.cells .opened 3 cs):=by rw [hH3,wk (by omega),Xu (by omega)];exact hg
  have r3:H3.row r (i * 3) ((n - i) * 3)=some ((cs.drop (i * 3)).take ((n - i) * 3)):=by
   rw [qL,g3r,v7,if_pos (by omega)]
  have one3:((cs.drop (i * 3)).take ((n - i) * 3)).all AV.one=true:=by
   exact z9N h1 hin
  have c2:=z6d (z:=3) (r:=H.size) (o:=(i+m) * 3) (n:=n+m - (i+m)) (c:=.mi (i+m)) (r':=r) (o':=i * 3) (n':=n - i) (c':=.ex (C - i)) (H:=H3) (k:=n - i) (by omega) (by omega) r3 g3 (by simp) (by simp;omega) one3
  have hfin:=z8U (cs:=cs) (vs:=vs) (zs:=x8 (n+m - i) [.int .i64 0,.int .i64 0,.int .i64 0]) (a:=i * 3) (b:=m * 3) (c:=(n - i) * 3) hvl (by rw [zl];omega) (by omega)
  rw [show i * 3+m * 3=(i+m) * 3 by omega] at hfin
  obtain⟨H4,hH4⟩:∃ X,X=H3.put H.size (some (.cells .opened 3 (splice (splice rowz (i * 3) vs) ((i+m) * 3) ((cs.drop (i * 3)).take ((n - i) * 3))))):=⟨_,rfl⟩
  rw [← hH4] at c2
  refine⟨H4,H.size,?_,Nat.le_refl _,⟨[],?_⟩,?_⟩
  rotate_left
  ·rw [hH4,Zc,List.append_nil,hfin]
  ·intro q hq hne
   rw [hH4,wk (by omega),hH3,wk (by omega),Xu (by omega)]
  ·simp [s1,hm0,hi',w1,w2,w3,ecap,gt,s2,eapz,s3,c1,s4,s5,c2]
theorem zcM {C:Nat} {H1:z3} {ds:List AV} (hg:H1.get r=some (.cells .opened 3 ds)) (hpre:ds.take cs.length=cs) (hdl:(n+m) * 3≤ds.length) {kv:Kd} {zv:Nat} {vs0:List AV} (hgv:H1.get rv=some (.cells kv zv vs0)) (hkv:Yv kv=true) (hne:rv≠r)
  (hrow:H1.row rv ov (m * 3)=some vs) (hm:0 < m) (hin:i≤n) (hn:n * 3≤cs.length) (h1:(cs.take (n * 3)).all AV.one=true) (h2:vs.all AV.one=true) (hb:(n+m) * 24≤zq) (hb':n+m≤zq) (hC:n+m≤C) (hmax:C≤maxLen) :
  ∃ H2,zM (env sO) 85 [.sl r 0 n (.ex C),.int .i64 i,.sl rv ov m cv] H1=some (.sl r 0 (n+m) (.ex C),H2)∧(∃ more,H2.get r=some (.cells .opened 3 (cs.take (i * 3)++vs++(cs.drop (i * 3)).take ((n - i) * 3)++more)))∧∀ q,q≠r→H2.get q=H1.get q:=by
 have hmx:zq=70368744177664:=rfl
 have hml:maxLen=16777216∨True:=Or.inr trivial
 rw [hmx] at hb hb'
 have hvl:vs.length=m * 3:=(WV hrow).1
 have s1:xp H1 3 (.sl r 0 n (.ex C)) (some (.int .i64 (i:Int))) none none=some _:=QI rfl hin
 have w1:IntKind.i64.wrap ((n:Int)+m)=(n:Int)+m:=QO (by omega) (by omega)
 have w3:IntKind.i64.wrap ((i:Int)+m)=(i:Int)+m:=QO (by omega) (by omega)
 have ecap:zcy (.sl r 0 n (.ex C))=some (.int .i64 C):=rfl
 have hm0:¬ m=0:=by omega
 have hcd:cs.length≤ds.length:=by
  have:=congrArg List.length hpre
  rw [List.length_take] at this;omega
 have pre:∀ a,a≤cs.length→ds.take a=cs.take a:=fun a ha=>by
  rw [← hpre,List.take_take,Nat.min_eq_left ha]
 have mid:∀ a c,a+c≤cs.length→(ds.drop a).take c=(cs.drop a).take c:=fun a c ha=>by
  have:(cs.drop a).take c=((ds.take cs.length).drop a).take c:=by rw [hpre]
  rw [this,List.drop_take,List.take_take,Nat.min_eq_left (by omega)]
 rw [xo (s:=sO) rfl,xn]
 by_cases hi:i=n
 ·subst hi
  have eapp:QT H1 3 24 (.sl r 0 i (.ex C)) (.sl rv ov m cv)=some (.sl r 0 (i+m) (.ex C),H1.put r (some (.cells .opened 3 (splice ds (i * 3) vs)))):=by
   simp only [QT,Zr,hrow,AV.slen]
   rw [if_neg (by omega)]
   simp only [yP,hg]
   rw [if_neg hm0,if_pos ⟨hb,hb'⟩,if_pos hC,if_pos ⟨Or.inr (by first | rfl | trivial),by first | rfl | trivial⟩]
   simp only [z3.write,hg]
   rw [if_neg (by simp),if_pos ⟨by omega,h2⟩]
   simp
  obtain⟨H2,hH2⟩:∃ X,X=H1.put r (some (.cells .opened 3 (splice ds (i * 3) vs))):=⟨_,rfl⟩
  rw [← hH2] at eapp
  refine⟨H2,?_,⟨ds.drop (i * 3+vs.length),?_⟩,fun q hq=>by rw [hH2,wk hq]⟩
  rotate_left
  ·rw [hH2,Zc,Nat.sub_self,Nat.zero_mul,List.take_zero,List.append_nil]
   unfold splice
   rw [pre _ hn]
  ·simp [s1,hm0,z7O,eapp]
 ·have hi':(i:Int)=n↔False:=by simp;omega
  have gt:((C:Int) < (n:Int)+m)=False:=eq_false (by omega)
  have s2:xp H1 3 (.sl r 0 n (.ex C)) none (some (.int .i64 ((n:Int)+m))) none=some _:=zcw (j:=n+m) (by omega) hC
  have s3:xp H1 3 (.sl r 0 (n+m) (.ex C)) (some (.int .i64 ((i:Int)+m))) none none=some _:=QI (j:=i+m) (by omega) (by omega)
  rw [if_neg (by omega),Nat.zero_add] at s3
  have s4:xp H1 3 (.sl r 0 (n+m) (.ex C)) (some (.int .i64 (i:Int))) none none=some _:=QI (j:=i) rfl (by omega)
  rw [if_neg (by omega),Nat.zero_add] at s4
  have hds:ds≠[]:=by intro e;subst e;simp at hdl;omega
  have eov:z8V [.sl rv ov m cv,.sl r ((i+m) * 3) (n+m - (i+m)) (.ex (C - (i+m)))] H1=some (.bool false,H1):=by
   simp only [z8V,hgv,hg]
   rw [if_pos ⟨hne,hkv,rfl,hds⟩]
  have r1:H1.row r (i * 3) ((n - i) * 3)=some ((ds.drop (i * 3)).take ((n - i) * 3)):=by
   rw [qL,hg,v7,if_pos (by omega)]
  have one3:((ds.drop (i * 3)).take ((n - i) * 3)).all AV.one=true:=by
   rw [mid _ _ (by omega)]
   exact z9N h1 hin
  have c1:=z6d (z:=3) (r:=r) (o:=(i+m) * 3) (n:=n+m - (i+m)) (c:=.ex (C - (i+m))) (r':=r) (o':=i * 3) (n':=n+m - i) (c':=.ex (C - i)) (H:=H1) (k:=n - i) (by omega) (by omega) r1 hg (by simp) (by simp;omega) one3
  obtain⟨H2,hH2⟩:∃ X,X=H1.put r (some (.cells .opened 3 (splice ds ((i+m) * 3) ((ds.drop (i * 3)).take ((n - i) * 3))))):=⟨_,rfl⟩
  rw [← hH2] at c1
  have g2:H2.get r=some (.cells .opened 3 (splice ds ((i+m) * 3) ((ds.drop (i * 3)).take ((n - i) * 3)))):=by rw [hH2];exact Zc _ _ _
  have s5:xp H2 3 (.sl r 0 (n+m) (.ex C)) (some (.int .i64 (i:Int))) none none=some _:=QI (j:=i) rfl (by omega)
  rw [if_neg (by omega),Nat.zero_add] at s5
  have hrv2:H2.row rv ov (m * 3)=some vs:=by rw [qL,hH2,wk hne,← qL];exact hrow
  have spl:(splice ds ((i+m) * 3) ((ds.drop (i * 3)).take ((n - i) * 3))).length=ds.length:=by
   simp only [splice,List.length_append,List.length_take,List.length_drop];omega
  have c2:=z6d (z:=3) (r:=r) (o:=i * 3) (n:=n+m - i) (c:=.ex (C - i)) (r':=rv) (o':=ov) (n':=m) (c':=cv) (H:=H2) (k:=m) (by omega) hm0 hrv2 g2 (by simp) (by rw [spl];omega) h2
  obtain⟨H3,hH3⟩:∃ X,X=H2.put r (some (.cells .opened 3 (splice (splice ds ((i+m) * 3) ((ds.drop (i * 3)).take ((n - i) * 3))) (i * 3) vs))):=⟨_,rfl⟩
  rw [← hH3] at c2
  have hfin:=z7K (cs:=ds) (vs:=vs) (a:=i * 3) (b:=m * 3) (c:=(n - i) * 3) hvl (by omega)
  rw [show i * 3+m * 3=(i+m) * 3 by omega] at hfin
  refine⟨H3,?_,⟨ds.drop ((i+m) * 3+(n - i) * 3),?_⟩,?_⟩
  rotate_left
  ·rw [hH3,Zc]
   rw [hfin,pre _ (by omega),mid _ _ (by omega)]
  ·intro q hq
   rw [hH3,wk hq,hH2,wk hq]
  ·simp [s1,hm0,hi',w1,w3,ecap,gt,s2,s3,zcK,eov,s4,c1,s5,c2]
theorem ok_gIns:qi Try.prog 85 zjq:=by
 refine qi.exactOr (by decide) (qi.ins (z6E zhD) (ze1 _) rfl fun args H v H' h=>?_)
 unfold z2u at h
 split at h
 ·rename_i r n i rv ov m cv
  split at h
  ·rename_i z0 cs kv zv vs0 vs hg hgv hrow
   split at h
   ·rename_i hc
    obtain⟨rfl,h1,h2,h3,h4,h5,h6,h7,h8,hltr,hltv,h9,h10⟩:=hc
    simp only [Option.some.injEq,Prod.mk.injEq] at h
    obtain⟨rfl,rfl⟩:=h
    have h8:Yv kv=true:=by rcases h8 with rfl | rfl<;>rfl
    obtain⟨j,rfl⟩:∃ j:Nat,i=j:=⟨i.toNat,by omega⟩
    right
    refine⟨r,n,3,n+m,cs,[.int .i64 j,.sl rv ov m cv],_,rfl,?_,rfl,rfl⟩
    rw [Int.toNat_natCast]
    refine⟨hg,h4,by omega,fun ρ B w hs hx=>?_,fun C hC hC'=>?_,fun C H1 extra hC hmax hsz hg1 hlen hk=>?_⟩
    ·obtain⟨xs,hx⟩:=hx
     obtain⟨a,ys,ha,hys,rfl⟩:=zT hx
     obtain⟨b,zs,hb,hzs,rfl⟩:=zT hys
     obtain⟨d,es,hd,hes,rfl⟩:=zT hzs
     obtain⟨L,hr,rfl,_⟩:=xL ha
     obtain⟨L',hr',rfl,_⟩:=xL hd
     obtain⟨_,_,cur,_,_,_,_,k1,_⟩:=(zI (by simp)).1 (hs.obj r L _ hr hg)
     have hkr:kv≠.ro:=by rintro rfl;simp [Yv] at h8
     obtain⟨_,_,cur',_,_,_,_,k2,_⟩:=(zI hkr).1 (hs.obj rv L' _ hr' hgv)
     have e:vs=(vs0.drop ov).take (m * 3):=by
      rw [qL,hgv,v7] at hrow
      split at hrow
      ·exact(Option.some.inj hrow).symm
      ·cases hrow
     rw [e]
     exact⟨_,yj (yj (kH _ k1) (kH _ (YE _ k2))) (kH _ (YE _ k1))⟩
    ·exact zcL hg hrow hltr hltv h1 (by omega) h4 h5 h6 h9 h10 hC hC'
    ·have hdl:(n+m) * 3≤(cs++extra).length:=by omega
     obtain⟨H2,e,hm,hk2⟩:=zcM (cs:=cs) (i:=j) (cv:=cv) hg1 (by simp) hdl (by rw [hk rv hltv h7];exact hgv) h8 h7 (by rw [qL,hk rv hltv h7,← qL];exact hrow) h1 (by omega) h4 h5 h6 h9 h10 hC hmax
     exact⟨H2,e,hm,fun q _ hne=>hk2 q hne⟩
   ·cases h
  ·cases h
 ·rename_i v0
  left
  rw [xo (s:=sO) rfl,xn]
  have s1:xp H 3 .nils (some (.int .i64 0)) none none=some .nils:=by simp [xp,vk,yl,bnd]
  have el:∃ k:Nat,z3X v0=some (.int .i64 k)∧(k=0→v=.nils∧H'=H):=by
   unfold QT at h
   split at h
   ·cases h
   ·split at h
    ·cases h
    ·rename_i news hnews
     cases v0 with
     | nils =>
      simp [AV.slen,yP] at h
      exact⟨0,rfl,fun _=>⟨h.1.symm,h.2.symm⟩⟩
     | sl r o n c =>
      refine⟨n,rfl,fun e=>?_⟩
      subst e
      simp [AV.slen,yP] at h
      exact⟨h.1.symm,h.2.symm⟩
     | zs r o k d =>
      simp [AV.slen,yP] at h
      exact⟨0,rfl,fun _=>⟨h.1.symm,h.2.symm⟩⟩
     | _=>simp [Zr] at hnews
  obtain⟨k,e1,e2⟩:=el
  by_cases hk:k=0
  ·obtain⟨rfl,rfl⟩:=e2 hk
   subst hk
   simp [s1,e1]
  ·have hk':(k:Int)=0↔False:=by simp;omega
   simp [s1,e1,hk,hk',z7O,h]
 ·cases h
end
end Go.Proofs.Ytdbbdfmkglgjdaa.Bi.WcIi1
