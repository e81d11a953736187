/- Equations by values. Printed by mkpv.py of this repo. -/
import Derived.Test.YtdbbdfmkglgjdaaPid
import Derived.Test.YtdbbdfmkglgjdaaPvE
namespace Go.Proofs.Ytdbbdfmkglgjdaa.Pi
open Go.Ab
set_option maxRecDepth 100000
set_option linter.unusedVariables false
set_option linter.unusedSimpArgs false
set_option linter.defProp false
theorem Jc {β:Type} (call:z8) (lp:z9) (P R S a T b c d e f g h i j l m n o p q r u w x y z A B C D E X Y Z aa ab ac ad ae af ag ah ai aj ak al ao ap aq ar au av aw ax ay az a0 F G H I J K L M N O:AV) (Q:z3) (k:PK β):z5 call lp q7 [(1,.v P),(3,.v R),(9,.v S),(10,.v a),(13,.lp 13 0),(14,.lp 14 0),(15,.v T),(16,.lp 16 0),(17,.lp 17 0),(20,.lp 20 0)] [(13,.cells [b,c,d,e,f,g,h,i,j,l,m,n,o]),(14,.cells [p,q,r,u,w,x,y,z,A,B,C,D,E]),(16,.cells [X,Y,Z,aa,ab,ac,ad,ae,af,ag,ah,ai,aj]),(17,.cells [ak,al,ao,ap,aq,ar,au,av,aw,ax,ay,az,a0]),(20,.cells [F,G,H,I,J,K,L,M,N,O])] Q k=(
 bnS (call 13 [a,.int .i64 9] Q) fun a1 a2 => 
 bnP (zb .add (.int .i64 1) (frz a1)) fun U => 
 bnS (call 22 [.agg [b,c,d,e,f,g,h,i,j,l,m,n,o],.agg [F,G,H,I,J,K,L,M,N,O],U] a2) fun V a3 => 
 bnP (xq (frz V) 0) fun a4 => 
 bnP (xq (frz V) 1) fun a5 => 
 bnC 13 (stC 13 a4) fun a6 a7 a8 a9 ba bb bc bd bf bg bh bi bj => 
 bnS (call 23 [.agg [p,q,r,u,w,x,y,z,A,B,C,D,E],.agg [F,G,H,I,J,K,L,M,N,O],U] a3) fun W bk => 
 bnP (xq (frz W) 0) fun bl => 
 bnP (xq (frz W) 1) fun bm => 
 bnC 13 (stC 13 bl) fun bn bo bp bq br bs bt bu bv bw bx bz b0 => 
 k .normal [(1,.v P),(3,.v R),(9,.v S),(10,.v a),(13,.lp 13 0),(14,.lp 14 0),(15,.v T),(16,.lp 16 0),(17,.lp 17 0),(18,.v a5),(19,.v bm)] [(13,.cells [b,c,d,e,f,g,h,i,j,l,m,n,o]),(14,.cells [p,q,r,u,w,x,y,z,A,B,C,D,E]),(16,.cells [a6,a7,a8,a9,ba,bb,bc,bd,bf,bg,bh,bi,bj]),(17,.cells [bn,bo,bp,bq,br,bs,bt,bu,bv,bw,bx,bz,b0])] bk):=by kernel_rfl
theorem Jd {β:Type} (call:z8) (lp:z9) (d e f a g h i j l m n o p q r u w x y z A b c B C D E F G H I J K L M N O P R S T U V W X Y Z aa ab ac ad ae af ag ah ai aj ak ax al ay ao ap aq ar au av:AV) (Q:z3) (k:PK β):z5 call lp q8 [(1,.v d),(3,.v e),(9,.v f),(10,.v a),(13,.lp 13 0),(14,.lp 14 0),(15,.v g),(16,.lp 16 0),(17,.lp 17 0),(20,.lp 20 0)] [(13,.cells [h,i,j,l,m,n,o,p,q,r,u,w,x]),(14,.cells [y,z,A,b,c,B,C,D,E,F,G,H,I]),(16,.cells [J,K,L,M,N,O,P,R,S,T,U,V,W]),(17,.cells [X,Y,Z,aa,ab,ac,ad,ae,af,ag,ah,ai,aj]),(20,.cells [ak,ax,al,ay,ao,ap,aq,ar,au,av])] Q k=(
 bnX (bnS (call 13 [a,.int .i64 3] Q) fun a0 az => 
 bnP (zb .eql (frz a0) (.int .i64 0)) fun aw => 
 bnP (gdQ aw true (some b)) fun a1 => 
 bnP (gdQ aw true (zb .neq a1 (.int .i64 0))) fun a2 => 
 bnP (zw aw a2 (.bool false)) fun a3 => 
 zr a3 (fun _=>bnS (call 13 [a,.int .i64 3] az) fun a4 a5 => 
 bnP (zb .add c (frz a4)) fun a6 => 
 bnS (call 13 [a,.int .i64 2] a5) fun a7 a8 => 
 bnP (zb .sub a6 (frz a7)) fun a9 => 
 bnC 1 (stC 1 b) fun ba => 
 bnC 1 (stC 1 a9) fun bb => 
 bnP (z8Y [bb,.int .i64 1]) fun bc => 
 bnC 1 (stC 1 bc) fun bd => 
 some (.normal,[(1,.v d),(3,.v e),(9,.v f),(10,.v a),(13,.lp 13 0),(14,.lp 14 0),(15,.v g),(16,.lp 16 0),(17,.lp 17 0),(20,.lp 20 0)],[(13,.cells [h,i,j,l,m,n,o,p,q,r,u,w,x]),(14,.cells [y,z,A,b,c,B,C,D,E,F,G,H,I]),(16,.cells [J,K,L,M,N,O,P,R,S,T,U,V,W]),(17,.cells [X,Y,Z,aa,ab,ac,ad,ae,af,ag,ah,ai,aj]),(20,.cells [ak,ba,al,bd,ao,ap,aq,ar,au,av])],a8))
 (fun _=>some (.normal,[(1,.v d),(3,.v e),(9,.v f),(10,.v a),(13,.lp 13 0),(14,.lp 14 0),(15,.v g),(16,.lp 16 0),(17,.lp 17 0),(20,.lp 20 0)],[(13,.cells [h,i,j,l,m,n,o,p,q,r,u,w,x]),(14,.cells [y,z,A,b,c,B,C,D,E,F,G,H,I]),(16,.cells [J,K,L,M,N,O,P,R,S,T,U,V,W]),(17,.cells [X,Y,Z,aa,ab,ac,ad,ae,af,ag,ah,ai,aj]),(20,.cells [ak,ax,al,ay,ao,ap,aq,ar,au,av])],az)))
 (goC (z5 call lp q7) k)):=by kernel_rfl
theorem Je {β:Type} (call:z8) (lp:z9) (I J K L M N O X Y Z aa ab ac ad ae af ag ah ai aj ak al ao ap aq ar au av aw ax ay az a0 d e f g h i j l m n o p q r u w x y z A B C D E F G:AV) (Q:z3) (k:PK β):z5 call lp yw [(1,.v I),(3,.v J),(9,.v K),(10,.v L),(13,.lp 13 0),(14,.lp 14 0),(15,.v M),(16,.lp 16 0),(17,.lp 17 0),(18,.v N),(19,.v O)] [(13,.cells [X,Y,Z,aa,ab,ac,ad,ae,af,ag,ah,ai,aj]),(14,.cells [ak,al,ao,ap,aq,ar,au,av,aw,ax,ay,az,a0]),(16,.cells [d,e,f,g,h,i,j,l,m,n,o,p,q]),(17,.cells [r,u,w,x,y,z,A,B,C,D,E,F,G])] Q k=(
 bnS (call 24 [N,O] Q) fun a1 P => 
 bnP (unA .not (frz a1)) fun H => 
 bnP (gdQ H false (some (.agg [d,e,f,g,h,i,j,l,m,n,o,p,q]))) fun a2 => 
 bnP (gdQ H false (some (.agg [r,u,w,x,y,z,A,B,C,D,E,F,G]))) fun a3 => 
 bnS (gdH H false (call 16 [a2,a3] P) P) fun a4 R => 
 bnP (gdQ H false (unA .not (frz a4))) fun a5 => 
 bnP (zw H (.bool true) a5) fun c => 
 bnP (gdQ c false (some (.agg [d,e,f,g,h,i,j,l,m,n,o,p,q]))) fun a6 => 
 bnP (gdQ c false (some (.agg [r,u,w,x,y,z,A,B,C,D,E,F,G]))) fun a7 => 
 bnS (gdH c false (call 25 [a6] R) R) fun a8 S => 
 bnS (gdH c false (call 26 [a7] S) S) fun a9 T => 
 bnP (gdQ c false (JB true .b (frz a8) (frz a9))) fun ba => 
 bnP (zw c (.bool true) ba) fun a => 
 bnP (gdQ a false (some (.agg [d,e,f,g,h,i,j,l,m,n,o,p,q]))) fun bb => 
 bnP (gdQ a false (some (.agg [r,u,w,x,y,z,A,B,C,D,E,F,G]))) fun bc => 
 bnS (gdH a false (call 27 [bb] T) T) fun bd U => 
 bnS (gdH a false (call 28 [bc] U) U) fun bf V => 
 bnS (gdH a false (call 24 [(frz bd),(frz bf)] V) V) fun bg W => 
 bnP (gdQ a false (unA .not (frz bg))) fun bh => 
 bnP (zw a (.bool true) bh) fun bi => 
 zr bi (fun _=>k .ret [(8,.v (.bool false))] [] W)
 (fun _=>bnC 13 (stC 13 (.agg [d,e,f,g,h,i,j,l,m,n,o,p,q])) fun bj bk bl bm bn bo bp bq br bs bt bu bv => 
 bnC 13 (stC 13 (.agg [r,u,w,x,y,z,A,B,C,D,E,F,G])) fun bw bx bz b0 b1 b2 b3 b4 b5 b6 b7 b8 b9 => 
 k .normal [(1,.v I),(3,.v J),(9,.v K),(10,.v L),(13,.lp 13 0),(14,.lp 14 0),(15,.v M)] [(13,.cells [bj,bk,bl,bm,bn,bo,bp,bq,br,bs,bt,bu,bv]),(14,.cells [bw,bx,bz,b0,b1,b2,b3,b4,b5,b6,b7,b8,b9])] W)):=by kernel_rfl
theorem Jf {β:Type} (call:z8) (lp:z9) (a b c d e f g h i j l m n o p q r u w x y z A B C D E F G H I:AV) (Q:z3) (k:PK β):z5 call lp yx [(1,.v a),(3,.v b),(9,.v c),(10,.v d),(13,.lp 13 0),(14,.lp 14 0),(15,.v e)] [(13,.cells [f,g,h,i,j,l,m,n,o,p,q,r,u]),(14,.cells [w,x,y,z,A,B,C,D,E,F,G,H,I])] Q k=(
 bnP (zb .add e (.int .i64 1)) fun J => 
 k .normal [(1,.v a),(3,.v b),(9,.v c),(10,.v d),(13,.lp 13 0),(14,.lp 14 0),(15,.v J)] [(13,.cells [f,g,h,i,j,l,m,n,o,p,q,r,u]),(14,.cells [w,x,y,z,A,B,C,D,E,F,G,H,I])] Q):=by kernel_rfl
theorem jJ {β:Type} (call:z8) (lp:z9) (G H c a I d e f g h i j l m n o p q r u w x y z A B C b D E F:AV) (Q:z3) (k:PK β):z5 call lp zC [(1,.v G),(3,.v H),(9,.v c),(10,.v a),(13,.lp 13 0),(14,.lp 14 0),(15,.v I)] [(13,.cells [d,e,f,g,h,i,j,l,m,n,o,p,q]),(14,.cells [r,u,w,x,y,z,A,B,C,b,D,E,F])] Q k=(
 bnP (zb .lss I (.int .i64 40)) fun J => 
 bnP (gdQ J true (some a)) fun S => 
 bnS (gdH J true (call 17 [S] Q) Q) fun T M => 
 bnP (gdQ J true (unA .not (frz T))) fun U => 
 bnP (zw J U (.bool false)) fun V => 
 zr V (fun _=>bnX (bnX (bnX (bnS (call 13 [a,.int .i64 3] M) fun W N => 
 bnP (zb .eql (frz W) (.int .i64 0)) fun X => 
 zr X (fun _=>bnS (call 18 [.agg [d,e,f,g,h,i,j,l,m,n,o,p,q]] N) fun O Y => 
 bnP (xq (frz O) 0) fun Z => 
 bnP (xq (frz O) 1) fun aa => 
 bnC 13 (stC 13 Z) fun ab ac ad ae af ag ah ai aj ak al ao ap => 
 bnS (call 19 [.agg [r,u,w,x,y,z,A,B,C,b,D,E,F]] Y) fun P aq => 
 bnP (xq (frz P) 0) fun ar => 
 bnP (xq (frz P) 1) fun au => 
 bnC 13 (stC 13 ar) fun av aw ax ay az a0 a1 a2 a3 a4 a5 a6 a7 => 
 some (.normal,[(1,.v G),(3,.v H),(9,.v c),(10,.v a),(13,.lp 13 0),(14,.lp 14 0),(15,.v I),(16,.lp 16 0),(17,.lp 17 0),(18,.v aa),(19,.v au)],[(13,.cells [d,e,f,g,h,i,j,l,m,n,o,p,q]),(14,.cells [r,u,w,x,y,z,A,B,C,b,D,E,F]),(16,.cells [ab,ac,ad,ae,af,ag,ah,ai,aj,ak,al,ao,ap]),(17,.cells [av,aw,ax,ay,az,a0,a1,a2,a3,a4,a5,a6,a7])],aq))
 (fun _=>bnS (call 20 [a,c] N) fun a8 a9 => 
 bnC 10 (stC 10 (frz a8)) fun ba bb bc bd bf bg bh bi bj bk => 
 bnX (bnS (call 13 [a,.int .i64 3] a9) fun bl R => 
 bnP (zb .eql (frz bl) (.int .i64 0)) fun L => 
 bnP (gdQ L true (some b)) fun bm => 
 bnP (gdQ L true (zb .neq bm (.int .i64 0))) fun bn => 
 bnP (zw L bn (.bool false)) fun K => 
 bnP (gdQ K true (some b)) fun bo => 
 bnP (gdQ K true (some c)) fun bp => 
 bnP (gdQ K true (zb .neq bo bp)) fun bq => 
 bnP (zw K bq (.bool false)) fun br => 
 zr br (fun _=>bnS (call 13 [a,.int .i64 2] R) fun bs bt => 
 bnP (zb .add (.int .i64 1) (frz bs)) fun bu => 
 bnS (call 13 [a,.int .i64 9] bt) fun bv bw => 
 bnS (call 13 [a,.int .i64 24] bw) fun bx bz => 
 bnS (call 21 [a] bz) fun b0 b1 => 
 bnS (call 13 [a,.int .i64 9] b1) fun b2 b3 => 
 bnC 10 (wC [.int .i64 0,.int .i64 0,.int .i64 0,.int .i64 0,.int .i64 0,.int .i64 0,.nils,.int .i64 0,.int .i64 0,.str []] [(0,1,.int .i64 2),(1,1,b),(2,1,c),(3,1,bu),(4,1,(frz bv)),(5,1,(frz bx)),(6,1,(frz b0)),(7,1,(frz b2))]) fun b4 b5 b6 b7 b8 b9 ca cb cc cd => 
 bnC 10 (stC 10 (.agg [b4,b5,b6,b7,b8,b9,ca,cb,cc,cd])) fun ce cf cg ch ci cj ck cl cm cn => 
 some (.normal,[(1,.v G),(3,.v H),(9,.v c),(10,.v a),(13,.lp 13 0),(14,.lp 14 0),(15,.v I),(16,.lp 16 0),(17,.lp 17 0),(20,.lp 20 0)],[(13,.cells [d,e,f,g,h,i,j,l,m,n,o,p,q]),(14,.cells [r,u,w,x,y,z,A,B,C,b,D,E,F]),(16,.cells [.int .i64 0,.int .i64 0,.int .i64 0,.int .i64 0,.int .i64 0,.int .i64 0,.nils,.int .i64 0,.int .i64 0,.int .i64 0,.int .i64 0,.int .i64 0,.nils]),(17,.cells [.int .i64 0,.int .i64 0,.int .i64 0,.int .i64 0,.int .i64 0,.int .i64 0,.nils,.int .i64 0,.int .i64 0,.int .i64 0,.int .i64 0,.int .i64 0,.nils]),(20,.cells [ce,cf,cg,ch,ci,cj,ck,cl,cm,cn])],b3))
 (fun _=>some (.normal,[(1,.v G),(3,.v H),(9,.v c),(10,.v a),(13,.lp 13 0),(14,.lp 14 0),(15,.v I),(16,.lp 16 0),(17,.lp 17 0),(20,.lp 20 0)],[(13,.cells [d,e,f,g,h,i,j,l,m,n,o,p,q]),(14,.cells [r,u,w,x,y,z,A,B,C,b,D,E,F]),(16,.cells [.int .i64 0,.int .i64 0,.int .i64 0,.int .i64 0,.int .i64 0,.int .i64 0,.nils,.int .i64 0,.int .i64 0,.int .i64 0,.int .i64 0,.int .i64 0,.nils]),(17,.cells [.int .i64 0,.int .i64 0,.int .i64 0,.int .i64 0,.int .i64 0,.int .i64 0,.nils,.int .i64 0,.int .i64 0,.int .i64 0,.int .i64 0,.int .i64 0,.nils]),(20,.cells [ba,bb,bc,bd,bf,bg,bh,bi,bj,bk])],R)))
 (goC (z5 call lp q8) xi)))
 (goC (z5 call lp yw) xi))
 (jd 1 xi))
 (goC (z5 call lp yx) k))
 (fun _=>k (.exit 0) [(1,.v G),(3,.v H),(9,.v c),(13,.lp 13 0),(14,.lp 14 0)] [(13,.cells [d,e,f,g,h,i,j,l,m,n,o,p,q]),(14,.cells [r,u,w,x,y,z,A,B,C,b,D,E,F])] M)):=by kernel_rfl
noncomputable def qa (s:zf) (a b c d e f g h i j l m n o p q r u w x y z A B C D E F G H I:AV) (Q:z3):Option xR:=zd (z6 s) zC [(1,.v a),(3,.v b),(9,.v c),(10,.v d),(13,.lp 13 0),(14,.lp 14 0),(15,.v e)] [(13,.cells [f,g,h,i,j,l,m,n,o,p,q,r,u]),(14,.cells [w,x,y,z,A,B,C,D,E,F,G,H,I])] Q
theorem ky (s:zf) (a b c d e f g h i j l m n o p q r u w x y z A B C D E F G H I:AV) (Q:z3):zd (z6 s) zC [(1,.v a),(3,.v b),(9,.v c),(10,.v d),(13,.lp 13 0),(14,.lp 14 0),(15,.v e)] [(13,.cells [f,g,h,i,j,l,m,n,o,p,q,r,u]),(14,.cells [w,x,y,z,A,B,C,D,E,F,G,H,I])] Q=qa s a b c d e f g h i j l m n o p q r u w x y z A B C D E F G H I Q:=rfl
theorem qH (s:zf) (a b c d e f g h i j l m n o p q r u w x y z A B C D E F G H I:AV) (Q:z3):qa s a b c d e f g h i j l m n o p q r u w x y z A B C D E F G H I Q=z5 (za (z6 s)) (zd (z6 s)) zC [(1,.v a),(3,.v b),(9,.v c),(10,.v d),(13,.lp 13 0),(14,.lp 14 0),(15,.v e)] [(13,.cells [f,g,h,i,j,l,m,n,o,p,q,r,u]),(14,.cells [w,x,y,z,A,B,C,D,E,F,G,H,I])] Q (goX (fun τ ω Q=>zd (z6 s) zC τ ω Q) xi):=y4
abbrev yE (a b c d e f g h i j l m n o p q r u w x y z A B C D E F G:AV) (Q:z3):Option xR:=some (.exit 0,[(1,.v a),(3,.v b),(9,.v c),(13,.lp 13 0),(14,.lp 14 0)],[(13,.cells [d,e,f,g,h,i,j,l,m,n,o,p,q]),(14,.cells [r,u,w,x,y,z,A,B,C,D,E,F,G])],Q)
theorem Jg {β:Type} (call:z8) (lp:z9) (n a o p q r u w x y z A B C D E F G H I J K L M N O P R S:AV) (Q:z3) (k:PK β):z5 call lp q9 [(1,.v n),(3,.v a),(9,.v o),(13,.lp 13 0),(14,.lp 14 0)] [(13,.cells [p,q,r,u,w,x,y,z,A,B,C,D,E]),(14,.cells [F,G,H,I,J,K,L,M,N,O,P,R,S])] Q k=(
 bnS (call 12 [n] Q) fun X bc => 
 bnS (call 20 [(frz X),o] bc) fun Y bd => 
 bnC 10 (stC 10 (frz Y)) fun c d e f g h i j l m => 
 bnP (z1S .i64 a) fun Z => 
 bnS (call 22 [.agg [p,q,r,u,w,x,y,z,A,B,C,D,E],.agg [c,d,e,f,g,h,i,j,l,m],Z] bd) fun T bf => 
 bnP (xq (frz T) 0) fun aa => 
 bnP (xq (frz T) 1) fun U => 
 bnC 13 (stC 13 aa) fun ab ac ad ae af ag ah ai aj ak al ao ap => 
 bnP (z1S .i64 a) fun aq => 
 bnS (call 23 [.agg [F,G,H,I,J,K,L,M,N,O,P,R,S],.agg [c,d,e,f,g,h,i,j,l,m],aq] bf) fun V bg => 
 bnP (xq (frz V) 0) fun ar => 
 bnP (xq (frz V) 1) fun W => 
 bnC 13 (stC 13 ar) fun au av aw ax ay az a0 a1 a2 a3 a4 a5 a6 => 
 bnS (call 24 [U,W] bg) fun b a7 => 
 bnP (gdQ (frz b) true (some (.agg [ab,ac,ad,ae,af,ag,ah,ai,aj,ak,al,ao,ap]))) fun a8 => 
 bnP (gdQ (frz b) true (some (.agg [au,av,aw,ax,ay,az,a0,a1,a2,a3,a4,a5,a6]))) fun a9 => 
 bnS (gdH (frz b) true (call 16 [a8,a9] a7) a7) fun ba bh => 
 bnP (zw (frz b) (frz ba) (.bool false)) fun bb => 
 k .ret [(8,.v bb),(208,.v bb),(207,.v (frz ba)),(206,.v a9),(205,.v a8),(204,.v (frz b)),(203,.v (frz b)),(202,.v W),(201,.v U),(26,.v W),(25,.lp 25 0),(200,.v W),(199,.v ar),(193,.v (frz V)),(198,.v (frz V)),(197,.v aq),(196,.v a),(195,.v (.agg [c,d,e,f,g,h,i,j,l,m])),(194,.v (.agg [F,G,H,I,J,K,L,M,N,O,P,R,S])),(24,.v U),(23,.lp 23 0),(192,.v U),(191,.v aa),(185,.v (frz T)),(190,.v (frz T)),(189,.v Z),(188,.v a),(187,.v (.agg [c,d,e,f,g,h,i,j,l,m])),(186,.v (.agg [p,q,r,u,w,x,y,z,A,B,C,D,E])),(22,.lp 22 0),(184,.v (frz Y)),(183,.v o),(182,.v (frz X)),(181,.v n),(1,.v n),(3,.v a),(9,.v o),(13,.lp 13 0),(14,.lp 14 0)] [(25,.cells [au,av,aw,ax,ay,az,a0,a1,a2,a3,a4,a5,a6]),(23,.cells [ab,ac,ad,ae,af,ag,ah,ai,aj,ak,al,ao,ap]),(22,.cells [c,d,e,f,g,h,i,j,l,m]),(13,.cells [p,q,r,u,w,x,y,z,A,B,C,D,E]),(14,.cells [F,G,H,I,J,K,L,M,N,O,P,R,S])] bh):=by kernel_rfl
theorem Kz {call:z8} {lp:z9} (b c g h:AV) (Q:z3):z5 call lp ZO [(0,.v b),(1,.v c),(2,.v g),(3,.v h)] [] Q (zp [.tmp 8] [.n])=(
 bnS (call 11 [] Q) fun R d => 
 bnP (unA .not (frz R)) fun S => 
 zr S (fun _=>some (.bool false,d))
 (fun _=>bnP (jl b) fun T => 
 bnP (zb .gtr T (.int .i64 200)) fun a => 
 bnP (gdQ a false (some c)) fun U => 
 bnP (gdQ a false (jl U)) fun V => 
 bnP (gdQ a false (zb .gtr V (.int .i64 15))) fun W => 
 bnP (zw a (.bool true) W) fun X => 
 zr X (fun _=>some (.bool true,d))
 (fun _=>bnP (zb .rem g (.int .u8 8)) fun Y => 
 bnP (z1S .i64 Y) fun Z => 
 bnP (zb .add (.int .i64 1) Z) fun e => 
 bnS (call 12 [b] d) fun f aa => 
 bnS (call 13 [(frz f),.int .i64 5] aa) fun i ab => 
 bnS (call 13 [(frz f),.int .i64 9] ab) fun j ac => 
 bnS (call 14 [e,.int .i64 2,(frz i),(frz j)] ac) fun ad ae => 
 bnS (call 15 [e,.int .i64 2,(frz i),(frz j)] ae) fun af ag => 
 bnC 13 (stC 13 (frz ad)) fun l m o p q r u w x y z A B => 
 bnC 13 (stC 13 (frz af)) fun C D E F G H I J K L M N O => 
 bnS (call 16 [.agg [l,m,o,p,q,r,u,w,x,y,z,A,B],.agg [C,D,E,F,G,H,I,J,K,L,M,N,O]] ag) fun ah P => 
 bnP (unA .not (frz ah)) fun ai => 
 zr ai (fun _=>some (.bool false,P))
 (fun _=>bnX (lp zC [(1,.v c),(3,.v h),(9,.v e),(10,.v (frz f)),(13,.lp 13 0),(14,.lp 14 0),(15,.v (.int .i64 0))] [(13,.cells [l,m,o,p,q,r,u,w,x,y,z,A,B]),(14,.cells [C,D,E,F,G,H,I,J,K,L,M,N,O])] P) (jd 0 (goC (z5 call lp q9) (zp [.tmp 8] [.n]))))))):=by kernel_rfl
def KA {s:zf} (hs:s.lookup 3=none) (a b c d:AV) (Q:z3):=(zk (E:=z6 s) (f:=3) (fn:=xt) hs rfl [a,b,c,d] Q rfl).trans (Kz (call:=za (z6 s)) (lp:=zd (z6 s)) a b c d Q)
theorem z0i {call:z8} {lp:z9} (a:AV) (Q:z3):z5 call lp Xe [(0,.v a)] [] Q (zp [.tmp 2] [.n])=(
 bnC 2 (wC [.nils,.int .i64 0] [(0,1,a)]) fun b c => 
 bnS (KZ Q (AV.cells (.agg [b,c]))) fun d e => 
 bnP (rcv false .n d) fun f=>some (f,e)):=by kernel_rfl
def z0j {s:zf} (hs:s.lookup 12=none) (a:AV) (Q:z3):=(zk (E:=z6 s) (f:=12) (fn:=qj) hs rfl [a] Q rfl).trans (z0i (call:=za (z6 s)) (lp:=zd (z6 s)) a Q)
theorem Jh {call:z8} {lp:z9} (a b:AV) (Q:z3):z5 call lp wT [(0,.v a),(1,.v b)] [] Q (zp [.tmp 4] [.n])=(
 bnP (zn a) fun e => 
 bnP (zc 1 e) fun f => 
 bnP (ldQ Q f) fun g => 
 bnP (zn a) fun h => 
 bnP (zc 0 h) fun i => 
 bnP (ldQ Q i) fun j => 
 bnP (jl j) fun l => 
 bnP (zb .geq g l) fun c => 
 bnP (gdQ c false (some b)) fun m => 
 bnP (gdQ c false (zb .lss m (.int .i64 1))) fun o => 
 bnP (zw c (.bool true) o) fun p => 
 zr p (fun _=>some (.int .i64 0,Q))
 (fun _=>bnP (zn a) fun q => 
 bnP (zc 1 q) fun r => 
 bnP (ldQ Q r) fun u => 
 bnP (zb .add u (.int .i64 1)) fun w => 
 bnP (zn a) fun x => 
 bnP (zc 1 x) fun y => 
 bnS (stA Q 1 y w) fun _ d => 
 bnP (zn a) fun z => 
 bnP (zc 0 z) fun A => 
 bnP (ldQ d A) fun B => 
 bnP (zn a) fun C => 
 bnP (zc 1 C) fun D => 
 bnP (ldQ d D) fun E => 
 bnP (zb .sub E (.int .i64 1)) fun F => 
 bnP (elQ 1 B F) fun G => 
 bnP ((AV.cells G)[0]?) fun H => 
 bnP (z1S .i64 H) fun I => 
 bnP (zb .rem I b) fun J => 
 bnP (rcv false .n J) fun K=>some (K,d))):=by kernel_rfl
def Z7 {s:zf} (hs:s.lookup 13=none) (a b:AV) (Q:z3):=(zk (E:=z6 s) (f:=13) (fn:=yW) hs rfl [a,b] Q rfl).trans (Jh (call:=za (z6 s)) (lp:=zd (z6 s)) a b Q)
theorem z2f {β:Type} (call:z8) (lp:z9) (o p q r u w x y z A B C D a b c d e f g h i j l m n:AV) (Q:z3) (k:PK β):z5 call lp Km [(8,.lp 8 0),(9,.lp 9 0)] [(8,.cells [o,p,q,r,u,w,x,y,z,A,B,C,D]),(9,.cells [a,b,c,d,e,f,g,h,i,j,l,m,n])] Q k=(
 bnC 13 (stC 13 (.agg [a,b,c,d,e,f,g,h,i,j,l,m,n])) fun E F G H I J K L M N O P R => 
 k .ret [(21,.v (.agg [a,b,c,d,e,f,g,h,i,j,l,m,n])),(8,.lp 8 0),(9,.lp 9 0)] [(8,.cells [E,F,G,H,I,J,K,L,M,N,O,P,R]),(9,.cells [a,b,c,d,e,f,g,h,i,j,l,m,n])] Q):=by kernel_rfl
theorem zaa {call:z8} {lp:z9} (a c b d:AV) (Q:z3):z5 call lp z4H [(0,.v a),(1,.v c),(2,.v b),(3,.v d)] [] Q (zp [.cell 8 (some 13)] [.n])=(
 bnC 13 (wC [.int .i64 0,.int .i64 0,.int .i64 0,.int .i64 0,.int .i64 0,.int .i64 0,.nils,.int .i64 0,.int .i64 0,.int .i64 0,.int .i64 0,.int .i64 0,.nils] [(0,1,a),(1,1,c),(2,1,b),(5,1,d)]) fun r u w x y z A B C D E F G => 
 bnC 13 (stC 13 (.agg [r,u,w,x,y,z,A,B,C,D,E,F,G])) fun e f g h i j H l I m o p q => 
 bnX (bnP (zb .eql a (.int .i64 1)) fun J => 
 zr J (fun _=>bnC 1 (stC 1 b) fun K => 
 some (.normal,[(8,.lp 8 0),(9,.lp 9 0)],[(8,.cells [.int .i64 0,.int .i64 0,.int .i64 0,.int .i64 0,.int .i64 0,.int .i64 0,.nils,.int .i64 0,.int .i64 0,.int .i64 0,.int .i64 0,.int .i64 0,.nils]),(9,.cells [e,f,g,h,i,j,.fz 1 [.int .i64 1],l,K,m,o,p,q])],Q))
 (fun _=>some (.normal,[(8,.lp 8 0),(9,.lp 9 0)],[(8,.cells [.int .i64 0,.int .i64 0,.int .i64 0,.int .i64 0,.int .i64 0,.int .i64 0,.nils,.int .i64 0,.int .i64 0,.int .i64 0,.int .i64 0,.int .i64 0,.nils]),(9,.cells [e,f,g,h,i,j,H,l,I,m,o,p,q])],Q)))
 (goC (z5 call lp Km) (zp [.cell 8 (some 13)] [.n]))):=by kernel_rfl
def zab {s:zf} (hs:s.lookup 14=none) (a b c d:AV) (Q:z3):=(zk (E:=z6 s) (f:=14) (fn:=YH) hs rfl [a,b,c,d] Q rfl).trans (zaa (call:=za (z6 s)) (lp:=zd (z6 s)) a b c d Q)
theorem Yl {β:Type} (call:z8) (lp:z9) (o p q r u w x y z A B C D a b c d e f g h i j l m n:AV) (Q:z3) (k:PK β):z5 call lp vl [(8,.lp 8 0),(9,.lp 9 0)] [(8,.cells [o,p,q,r,u,w,x,y,z,A,B,C,D]),(9,.cells [a,b,c,d,e,f,g,h,i,j,l,m,n])] Q k=(
 bnC 13 (stC 13 (.agg [a,b,c,d,e,f,g,h,i,j,l,m,n])) fun E F G H I J K L M N O P R => 
 k .ret [(21,.v (.agg [a,b,c,d,e,f,g,h,i,j,l,m,n])),(8,.lp 8 0),(9,.lp 9 0)] [(8,.cells [E,F,G,H,I,J,K,L,M,N,O,P,R]),(9,.cells [a,b,c,d,e,f,g,h,i,j,l,m,n])] Q):=by kernel_rfl
theorem z0k {call:z8} {lp:z9} (a c b d:AV) (Q:z3):z5 call lp Xf [(0,.v a),(1,.v c),(2,.v b),(3,.v d)] [] Q (zp [.cell 8 (some 13)] [.n])=(
 bnC 13 (wC [.int .i64 0,.int .i64 0,.int .i64 0,.int .i64 0,.int .i64 0,.int .i64 0,.nils,.int .i64 0,.int .i64 0,.int .i64 0,.int .i64 0,.int .i64 0,.nils] [(0,1,a),(1,1,c),(2,1,b),(5,1,d)]) fun r u w x y z A B C D E F G => 
 bnC 13 (stC 13 (.agg [r,u,w,x,y,z,A,B,C,D,E,F,G])) fun e f g h i j H l I m o p q => 
 bnX (bnP (zb .eql a (.int .i64 1)) fun J => 
 zr J (fun _=>bnC 1 (stC 1 b) fun K => 
 some (.normal,[(8,.lp 8 0),(9,.lp 9 0)],[(8,.cells [.int .i64 0,.int .i64 0,.int .i64 0,.int .i64 0,.int .i64 0,.int .i64 0,.nils,.int .i64 0,.int .i64 0,.int .i64 0,.int .i64 0,.int .i64 0,.nils]),(9,.cells [e,f,g,h,i,j,.fz 1 [.int .i64 1],l,K,m,o,p,q])],Q))
 (fun _=>some (.normal,[(8,.lp 8 0),(9,.lp 9 0)],[(8,.cells [.int .i64 0,.int .i64 0,.int .i64 0,.int .i64 0,.int .i64 0,.int .i64 0,.nils,.int .i64 0,.int .i64 0,.int .i64 0,.int .i64 0,.int .i64 0,.nils]),(9,.cells [e,f,g,h,i,j,H,l,I,m,o,p,q])],Q)))
 (goC (z5 call lp vl) (zp [.cell 8 (some 13)] [.n]))):=by kernel_rfl
def z0l {s:zf} (hs:s.lookup 15=none) (a b c d:AV) (Q:z3):=(zk (E:=z6 s) (f:=15) (fn:=qk) hs rfl [a,b,c,d] Q rfl).trans (z0k (call:=za (z6 s)) (lp:=zd (z6 s)) a b c d Q)
theorem JV {call:z8} {lp:z9} (o p q r u w x y z A B C D E F G H I J K L M N O P R:AV) (Q:z3):z5 call lp Zg [(0,.v (.agg [o,p,q,r,u,w,x,y,z,A,B,C,D])),(1,.v (.agg [E,F,G,H,I,J,K,L,M,N,O,P,R]))] [] Q (zp [.tmp 4] [.n])=(
 bnC 13 (stC 13 (.agg [o,p,q,r,u,w,x,y,z,A,B,C,D])) fun T U V W X Y Z aa ab ac ad ae af => 
 bnC 13 (stC 13 (.agg [E,F,G,H,I,J,K,L,M,N,O,P,R])) fun ag ah ai aj ak al ao ap aq ar au av aw => 
 bnP (zb .eql T ag) fun a => 
 bnP (gdQ a true (some U)) fun ax => 
 bnP (gdQ a true (some ah)) fun ay => 
 bnP (gdQ a true (zb .eql ax ay)) fun az => 
 bnP (zw a az (.bool false)) fun b => 
 bnP (gdQ b true (some V)) fun a0 => 
 bnP (gdQ b true (some ai)) fun a1 => 
 bnP (gdQ b true (zb .eql a0 a1)) fun a2 => 
 bnP (zw b a2 (.bool false)) fun c => 
 bnP (gdQ c true (some W)) fun a3 => 
 bnP (gdQ c true (some aj)) fun a4 => 
 bnP (gdQ c true (zb .eql a3 a4)) fun a5 => 
 bnP (zw c a5 (.bool false)) fun d => 
 bnP (gdQ d true (some X)) fun a6 => 
 bnP (gdQ d true (some ak)) fun a7 => 
 bnP (gdQ d true (zb .eql a6 a7)) fun a8 => 
 bnP (zw d a8 (.bool false)) fun e => 
 bnP (gdQ e true (some Y)) fun a9 => 
 bnP (gdQ e true (some al)) fun ba => 
 bnP (gdQ e true (zb .eql a9 ba)) fun bb => 
 bnP (zw e bb (.bool false)) fun f => 
 bnP (gdQ f true (some Z)) fun bc => 
 bnP (gdQ f true (some ao)) fun bd => 
 bnS (gdH f true (call 36 [bc,bd] Q) Q) fun bf S => 
 bnP (zw f (frz bf) (.bool false)) fun g => 
 bnP (gdQ g true (some aa)) fun bg => 
 bnP (gdQ g true (some ap)) fun bh => 
 bnP (gdQ g true (zb .eql bg bh)) fun bi => 
 bnP (zw g bi (.bool false)) fun h => 
 bnP (gdQ h true (some ab)) fun bj => 
 bnP (gdQ h true (some aq)) fun bk => 
 bnP (gdQ h true (zb .eql bj bk)) fun bl => 
 bnP (zw h bl (.bool false)) fun i => 
 bnP (gdQ i true (some ac)) fun bm => 
 bnP (gdQ i true (some ar)) fun bn => 
 bnP (gdQ i true (zb .eql bm bn)) fun bo => 
 bnP (zw i bo (.bool false)) fun j => 
 bnP (gdQ j true (some ad)) fun bp => 
 bnP (gdQ j true (some au)) fun bq => 
 bnP (gdQ j true (zb .eql bp bq)) fun br => 
 bnP (zw j br (.bool false)) fun l => 
 bnP (gdQ l true (some ae)) fun bs => 
 bnP (gdQ l true (some av)) fun bt => 
 bnP (gdQ l true (zb .eql bs bt)) fun bu => 
 bnP (zw l bu (.bool false)) fun m => 
 bnP (gdQ m true (some af)) fun bv => 
 bnP (gdQ m true (some aw)) fun bw => 
 bnS (gdH m true (call 37 [bv,bw] S) S) fun bx bz => 
 bnP (zw m (frz bx) (.bool false)) fun b0 => 
 bnP (rcv false .n b0) fun b1=>some (b1,bz)):=by kernel_rfl
def JW {s:zf} (hs:s.lookup 16=none) (a b c d e g h i j l m n o p q r u v w x y z A B C D:AV) (Q:z3):=(zk (E:=z6 s) (f:=16) (fn:=xd) hs rfl [.agg [a,b,c,d,e,g,h,i,j,l,m,n,o],.agg [p,q,r,u,v,w,x,y,z,A,B,C,D]] Q rfl).trans (JV (call:=za (z6 s)) (lp:=zd (z6 s)) a b c d e g h i j l m n o p q r u v w x y z A B C D Q)
theorem Ql {call:z8} {lp:z9} (a:AV) (Q:z3):z5 call lp wr [(0,.v a)] [] Q (zp [.tmp 2] [.n])=(
 bnP (zn a) fun b => 
 bnP (zc 1 b) fun c => 
 bnP (ldQ Q c) fun d => 
 bnP (zn a) fun e => 
 bnP (zc 0 e) fun f => 
 bnP (ldQ Q f) fun g => 
 bnP (jl g) fun h => 
 bnP (zb .geq d h) fun i => 
 bnP (rcv false .n i) fun j=>some (j,Q)):=by kernel_rfl
def Qm {s:zf} (hs:s.lookup 17=none) (a:AV) (Q:z3):=(zk (E:=z6 s) (f:=17) (fn:=yM) hs rfl [a] Q rfl).trans (Ql (call:=za (z6 s)) (lp:=zd (z6 s)) a Q)
theorem z5O {β:Type} (call:z8) (lp:z9) (a y z A B C D E F G H I J K:AV) (Q:z3) (k:PK β):z5 call lp Yr [(2,.lp 2 0),(4,.v a)] [(2,.cells [y,z,A,B,C,D,E,F,G,H,I,J,K])] Q k=(
 bnS (call 41 [a] Q) fun L M => 
 bnS (call 42 [a] M) fun N b => 
 bnP (zn a) fun d => 
 bnP (zc 0 d) fun e => 
 bnC 13 (yd b 13 e) fun f g h i j l m n o p q r u => 
 bnP (zn a) fun w => 
 bnP (zc 13 w) fun x => 
 bnP (ldQ b x) fun c => 
 bnC 13 (stC 13 (.agg [f,g,h,i,j,l,m,n,o,p,q,r,u])) fun O P R S T U V W X Y Z aa ab => 
 bnS (z5Z b 10 c) fun ac ad =>
 k .ret [(3,.v ac),(3,.v c),(102,.v c),(101,.v x),(100,.v w),(99,.v a),(98,.v (.agg [f,g,h,i,j,l,m,n,o,p,q,r,u])),(97,.v e),(96,.v d),(95,.v a),(94,.v (frz N)),(93,.v a),(92,.v (frz L)),(91,.v a),(2,.lp 2 0),(4,.v a)] [(2,.cells [O,P,R,S,T,U,V,W,X,Y,Z,aa,ab])] ad):=by kernel_rfl
theorem z8A {call:z8} {lp:z9} (h i j l m o p q r u w x y:AV) (Q:z3):z5 call lp z3l [(0,.v (.agg [h,i,j,l,m,o,p,q,r,u,w,x,y]))] [] Q (zp [.cell 2 (some 13),.tmp 3] [.n,.f 10])=(
 bnC 13 (stC 13 (.agg [h,i,j,l,m,o,p,q,r,u,w,x,y])) fun B C D E F G H I J K L M N => 
 bnS (call 38 [.agg [B,C,D,E,F,G,H,I,J,K,L,M,N]] Q) fun a z => 
 bnP (zn (frz a)) fun O => 
 bnP (zc 0 O) fun P => 
 bnP (zc 2 P) fun R => 
 bnP (ldQ z R) fun S => 
 bnP (zb .add S (.int .i64 1)) fun T => 
 bnP (zn (frz a)) fun U => 
 bnP (zc 0 U) fun V => 
 bnP (zc 2 V) fun W => 
 bnS (stA z 1 W T) fun _ g => 
 bnP (zn (frz a)) fun X => 
 bnP (zc 0 X) fun Y => 
 bnP (zc 12 Y) fun Z => 
 bnP (ldQ g Z) fun aa => 
 bnP (zn (frz a)) fun ab => 
 bnP (zc 0 ab) fun ac => 
 bnP (zc 2 ac) fun ad => 
 bnP (ldQ g ad) fun ae => 
 bnS (call 39 [aa,ae] g) fun af ag => 
 bnP (zn (frz a)) fun ah => 
 bnP (zc 0 ah) fun ai => 
 bnP (zc 12 ai) fun aj => 
 bnS (stA ag 1 aj (frz af)) fun _ b => 
 bnX (bnX (bnP (zn (frz a)) fun ak => 
 bnP (zc 0 ak) fun al => 
 bnP (zc 0 al) fun ao => 
 bnP (ldQ b ao) fun ap => 
 bnP (zb .eql ap (.int .i64 1)) fun c => 
 bnP (gdQ c true (some (frz a))) fun aq => 
 bnP (gdQ c true (zn aq)) fun ar => 
 bnP (gdQ c true (zc 0 ar)) fun au => 
 bnP (gdQ c true (zc 2 au)) fun av => 
 bnP (gdQ c true (ldQ b av)) fun aw => 
 bnP (gdQ c true (zb .rem aw (.int .i64 2))) fun ax => 
 bnP (gdQ c true (zb .eql ax (.int .i64 0))) fun ay => 
 bnP (zw c ay (.bool false)) fun az => 
 zr az (fun _=>bnP (zn (frz a)) fun a0 => 
 bnP (zc 0 a0) fun a1 => 
 bnP (zc 7 a1) fun a2 => 
 bnP (ldQ b a2) fun a3 => 
 bnP (zb .add a3 (.int .i64 1)) fun a4 => 
 bnP (zn (frz a)) fun a5 => 
 bnP (zc 0 a5) fun a6 => 
 bnP (zc 2 a6) fun a7 => 
 bnP (ldQ b a7) fun a8 => 
 bnP (zn (frz a)) fun a9 => 
 bnP (zc 0 a9) fun ba => 
 bnP (zc 7 ba) fun bb => 
 bnS (stA b 1 bb a4) fun _ bc => 
 bnP (zn (frz a)) fun bd => 
 bnP (zc 0 bd) fun bf => 
 bnP (zc 8 bf) fun bg => 
 bnS (stA bc 1 bg a8) fun _ bh => 
 some (.normal,[(2,.lp 2 0),(4,.v (frz a))],[(2,.cells [.int .i64 0,.int .i64 0,.int .i64 0,.int .i64 0,.int .i64 0,.int .i64 0,.nils,.int .i64 0,.int .i64 0,.int .i64 0,.int .i64 0,.int .i64 0,.nils])],bh))
 (fun _=>bnP (zn (frz a)) fun bi => 
 bnP (zc 0 bi) fun bj => 
 bnP (zc 0 bj) fun bk => 
 bnP (ldQ b bk) fun bl => 
 bnP (zb .neq bl (.int .i64 1)) fun d => 
 bnP (gdQ d true (some (frz a))) fun bm => 
 bnP (gdQ d true (zn bm)) fun bn => 
 bnP (gdQ d true (zc 0 bn)) fun bo => 
 bnP (gdQ d true (zc 3 bo)) fun bp => 
 bnP (gdQ d true (ldQ b bp)) fun bq => 
 bnP (gdQ d true (zb .neq bq (.int .i64 0))) fun br => 
 bnP (zw d br (.bool false)) fun e => 
 bnP (gdQ e true (some (frz a))) fun bs => 
 bnP (gdQ e true (zn bs)) fun bt => 
 bnP (gdQ e true (zc 0 bt)) fun bu => 
 bnP (gdQ e true ((yd b 13 bu).map AV.agg)) fun bv => 
 bnS (gdH e true (call 25 [bv] b) b) fun bw A => 
 bnP (gdQ e true (unA .not (frz bw))) fun bx => 
 bnP (zw e bx (.bool false)) fun bz => 
 zr bz (fun _=>bnS (call 40 [(frz a),.int .i64 0] A) fun b1 b0 => 
 some (.normal,[(2,.lp 2 0),(4,.v (frz a))],[(2,.cells [.int .i64 0,.int .i64 0,.int .i64 0,.int .i64 0,.int .i64 0,.int .i64 0,.nils,.int .i64 0,.int .i64 0,.int .i64 0,.int .i64 0,.int .i64 0,.nils])],b0))
 (fun _=>some (.normal,[(2,.lp 2 0),(4,.v (frz a))],[(2,.cells [.int .i64 0,.int .i64 0,.int .i64 0,.int .i64 0,.int .i64 0,.int .i64 0,.nils,.int .i64 0,.int .i64 0,.int .i64 0,.int .i64 0,.int .i64 0,.nils])],A))))
 (jd 0 xi))
 (goC (z5 call lp Yr) (zp [.cell 2 (some 13),.tmp 3] [.n,.f 10]))):=by kernel_rfl
def z8B {s:zf} (hs:s.lookup 18=none) (a b c d e g h i j l m n o:AV) (Q:z3):=(zk (E:=z6 s) (f:=18) (fn:=ZP) hs rfl [.agg [a,b,c,d,e,g,h,i,j,l,m,n,o]] Q rfl).trans (z8A (call:=za (z6 s)) (lp:=zd (z6 s)) a b c d e g h i j l m n o Q)
theorem qV {β:Type} (call:z8) (lp:z9) (p b c d e f g h i j a l m n q r u w x y z A B C D E F:AV) (Q:z3) (k:PK β):z5 call lp kJ [(1,.lp 1 0),(2,.lp 2 0),(4,.v p),(5,.v .nils)] [(1,.cells [b,c,d,e,f,g,h,i,j,a,l,m,n]),(2,.cells [q,r,u,w,x,y,z,A,B,C,D,E,F])] Q k=(
 bnS (call 45 [.agg [b,c,d,e,f,g,h,i,j,a,l,m,n],.int .i64 1,a] Q) fun o G => 
 pinB (wg 10 (frz o)) <| 
 pinB (room 104 (([(frz o)]:List AV):List AV).length) <| 
 k .normal [(1,.lp 1 0),(2,.lp 2 0),(4,.v p),(5,.ls 5)] [(1,.cells [b,c,d,e,f,g,h,i,j,a,l,m,n]),(2,.cells [q,r,u,w,x,y,z,A,B,C,D,E,F]),(5,.own 10 ([(frz o)]:List AV))] G):=by kernel_rfl
theorem ZX {β:Type} (call:z8) (lp:z9) (e b f c g h a i j l E G d m n o p q r u w x y z A B C:AV) (Q:z3) (k:PK β):z5 call lp qN [(1,.lp 1 0),(2,.lp 2 0),(4,.v e),(5,.v .nils)] [(1,.cells [b,f,c,g,h,a,i,j,l,E,G,d,m]),(2,.cells [n,o,p,q,r,u,w,x,y,z,A,B,C])] Q k=(
 bnP (zb .eql E (.int .i64 0)) fun I => 
 zr I (fun _=>bnP (zb .add c (.int .i64 3)) fun J => 
 bnC 1 (stC 1 J) fun H => 
 bnX (bnP (zb .eql d (.int .i64 0)) fun F => 
 bnP (gdQ F true (some a)) fun K => 
 bnP (gdQ F true (zb .neq K (.int .i64 0))) fun L => 
 bnP (zw F L (.bool false)) fun D => 
 bnP (gdQ D true (some a)) fun M => 
 bnP (gdQ D true (some b)) fun N => 
 bnP (gdQ D true (zb .neq M N)) fun O => 
 bnP (zw D O (.bool false)) fun P => 
 zr P (fun _=>bnC 1 (stC 1 a) fun R => 
 some (.normal,[(1,.lp 1 0),(2,.lp 2 0),(4,.v e),(5,.v .nils)],[(1,.cells [b,f,c,g,h,a,i,j,l,R,H,d,m]),(2,.cells [n,o,p,q,r,u,w,x,y,z,A,B,C])],Q))
 (fun _=>some (.normal,[(1,.lp 1 0),(2,.lp 2 0),(4,.v e),(5,.v .nils)],[(1,.cells [b,f,c,g,h,a,i,j,l,.int .i64 1,H,d,m]),(2,.cells [n,o,p,q,r,u,w,x,y,z,A,B,C])],Q)))
 (goC (z5 call lp kJ) (z2N [] [] [1,2,4,5] [(1,1),(2,2),(5,5)] k)))
 (fun _=>k .normal [(1,.lp 1 0),(2,.lp 2 0),(4,.v e),(5,.ls 5)] [(1,.cells [b,f,c,g,h,a,i,j,l,E,G,d,m]),(2,.cells [n,o,p,q,r,u,w,x,y,z,A,B,C]),(5,.own 10 ([]:List AV))] Q)):=by kernel_rfl
theorem KB {β:Type} (call:z8) (lp:z9) (d e f a b g h i j l m c n o p q r u w x y z A B C D E:AV) (Q:z3) (k:PK β):z5 call lp qO [(1,.lp 1 0),(2,.lp 2 0),(4,.v d),(5,.v .nils)] [(1,.cells [e,f,a,b,g,h,i,j,l,m,c,n,o]),(2,.cells [p,q,r,u,w,x,y,z,A,B,C,D,E])] Q k=(
 bnP (zb .eql b (.int .i64 0)) fun G => 
 zr G (fun _=>bnX (bnP (zb .neq m (.int .i64 0)) fun F => 
 bnP (gdQ F true (some a)) fun H => 
 bnP (gdQ F true (some c)) fun I => 
 bnP (gdQ F true (zb .geq H I)) fun J => 
 bnP (zw F J (.bool false)) fun K => 
 zr K (fun _=>bnP (zb .add n (.int .i64 1)) fun L => 
 bnC 1 (stC 1 L) fun M => 
 some (.normal,[(1,.lp 1 0),(2,.lp 2 0),(4,.v d),(5,.v .nils)],[(1,.cells [e,f,a,b,g,h,i,j,l,.int .i64 0,c,M,o]),(2,.cells [p,q,r,u,w,x,y,z,A,B,C,D,E])],Q))
 (fun _=>some (.normal,[(1,.lp 1 0),(2,.lp 2 0),(4,.v d),(5,.v .nils)],[(1,.cells [e,f,a,b,g,h,i,j,l,m,c,n,o]),(2,.cells [p,q,r,u,w,x,y,z,A,B,C,D,E])],Q)))
 (goC (z5 call lp qN) (z2N [] [] [1,2,4,5] [(1,1),(2,2),(5,5)] k)))
 (fun _=>k .normal [(1,.lp 1 0),(2,.lp 2 0),(4,.v d),(5,.ls 5)] [(1,.cells [e,f,a,b,g,h,i,j,l,m,c,n,o]),(2,.cells [p,q,r,u,w,x,y,z,A,B,C,D,E]),(5,.own 10 ([]:List AV))] Q)):=by kernel_rfl
theorem ZY {β:Type} (call:z8) (lp:z9) (o b c d e f g h i j l m n a q r u w x y z A B C D E F:AV) (p:List AV) (Q:z3) (k:PK β):z5 call lp yp [(1,.lp 1 0),(2,.lp 2 0),(5,.ls 5),(6,.v o)] [(1,.cells [b,c,d,e,f,g,h,i,j,l,m,n,a]),(2,.cells [q,r,u,w,x,y,z,A,B,C,D,E,F]),(5,.own 10 p)] Q k=(
 bnP (jl a) fun J => 
 bnP (zb .lss o J) fun G => 
 bnP (gdQ G true (some (.agg [b,c,d,e,f,g,h,i,j,l,m,n,a]))) fun K => 
 bnS (gdH G true (call 26 [K] Q) Q) fun L I => 
 bnP (zw G (frz L) (.bool false)) fun M => 
 zr M (fun _=>bnP (elQ 3 a o) fun N => 
 bnP ((AV.cells N)[0]?) fun O => 
 bnS (call 46 [.agg [b,c,d,e,f,g,h,i,j,l,m,n,a],.int .i64 5,O] I) fun H P => 
 pinB (wg 10 (frz H)) <| 
 pinB (room 104 ((p:List AV).length+(([(frz H)]:List AV):List AV).length)) <| 
 bnP (zb .add o (.int .i64 1)) fun R => 
 k .normal [(1,.lp 1 0),(2,.lp 2 0),(5,.ls 5),(6,.v R)] [(1,.cells [b,c,d,e,f,g,h,i,j,l,m,n,a]),(2,.cells [q,r,u,w,x,y,z,A,B,C,D,E,F]),(5,.own 10 (p++([(frz H)]:List AV)))] P)
 (fun _=>k (.exit 0) [(1,.lp 1 0),(2,.lp 2 0),(5,.ls 5)] [(1,.cells [b,c,d,e,f,g,h,i,j,l,m,n,a]),(2,.cells [q,r,u,w,x,y,z,A,B,C,D,E,F]),(5,.own 10 p)] I)):=by kernel_rfl
noncomputable def kP (s:zf) (a b c d e f g h i j l m n o p q r u w x y z A B C D E:AV) (F:List AV) (Q:z3):Option xR:=zd (z6 s) yp [(1,.lp 1 0),(2,.lp 2 0),(5,.ls 5),(6,.v a)] [(1,.cells [b,c,d,e,f,g,h,i,j,l,m,n,o]),(2,.cells [p,q,r,u,w,x,y,z,A,B,C,D,E]),(5,.own 10 F)] Q
theorem qI (s:zf) (a b c d e f g h i j l m n o p q r u w x y z A B C D E:AV) (F:List AV) (Q:z3):zd (z6 s) yp [(1,.lp 1 0),(2,.lp 2 0),(5,.ls 5),(6,.v a)] [(1,.cells [b,c,d,e,f,g,h,i,j,l,m,n,o]),(2,.cells [p,q,r,u,w,x,y,z,A,B,C,D,E]),(5,.own 10 F)] Q=kP s a b c d e f g h i j l m n o p q r u w x y z A B C D E F Q:=rfl
theorem wx (s:zf) (a b c d e f g h i j l m n o p q r u w x y z A B C D E:AV) (F:List AV) (Q:z3):kP s a b c d e f g h i j l m n o p q r u w x y z A B C D E F Q=z5 (za (z6 s)) (zd (z6 s)) yp [(1,.lp 1 0),(2,.lp 2 0),(5,.ls 5),(6,.v a)] [(1,.cells [b,c,d,e,f,g,h,i,j,l,m,n,o]),(2,.cells [p,q,r,u,w,x,y,z,A,B,C,D,E]),(5,.own 10 F)] Q (goX (fun τ ω Q=>zd (z6 s) yp τ ω Q) xi):=y4
abbrev Qn (a b c d e f g h i j l m n o p q r u v w x y z A B C:AV) (D:List AV) (Q:z3):Option xR:=some (.exit 0,[(1,.lp 1 0),(2,.lp 2 0),(5,.ls 5)],[(1,.cells [a,b,c,d,e,f,g,h,i,j,l,m,n]),(2,.cells [o,p,q,r,u,v,w,x,y,z,A,B,C]),(5,.own 10 D)],Q)
theorem ZZ {β:Type} (call:z8) (lp:z9) (a b c d e f g h i j l m n p q r u w x y z A B C D E:AV) (o:List AV) (Q:z3) (k:PK β):z5 call lp kK [(1,.lp 1 0),(2,.lp 2 0),(5,.ls 5)] [(1,.cells [a,b,c,d,e,f,g,h,i,j,l,m,n]),(2,.cells [p,q,r,u,w,x,y,z,A,B,C,D,E]),(5,.own 10 o)] Q k=(
 bnC 13 (stC 13 (.agg [a,b,c,d,e,f,g,h,i,j,l,m,n])) fun F G H I J K L M N O P R S => 
 k .ret [(3,.ls 5),(130,.ls 5),(129,.v (.agg [a,b,c,d,e,f,g,h,i,j,l,m,n])),(1,.lp 1 0),(2,.lp 2 0),(5,.ls 5)] [(2,.cells [F,G,H,I,J,K,L,M,N,O,P,R,S]),(1,.cells [a,b,c,d,e,f,g,h,i,j,l,m,n]),(5,.own 10 o)] Q):=by kernel_rfl
theorem Y0 {β:Type} (call:z8) (lp:z9) (a b c d e f g h i j l m n o p q r u w x y z A B C D:AV) (E:List AV) (Q:z3) (k:PK β):z5 call lp kL [(1,.lp 1 0),(2,.lp 2 0),(5,.ls 5)] [(1,.cells [a,b,c,d,e,f,g,h,i,j,l,m,n]),(2,.cells [o,p,q,r,u,w,x,y,z,A,B,C,D]),(5,.own 10 E)] Q k=(
 bnX (lp yp [(1,.lp 1 0),(2,.lp 2 0),(5,.ls 5),(6,.v (.int .i64 0))] [(1,.cells [a,b,c,d,e,f,g,h,i,j,l,m,n]),(2,.cells [o,p,q,r,u,w,x,y,z,A,B,C,D]),(5,.own 10 E)] Q) (jd 0 (goC (z5 call lp kK) k))):=by kernel_rfl
theorem KC {β:Type} (call:z8) (lp:z9) (p b c d a e f g h i j l m n q r u w x y z A B C D E F:AV) (o:List AV) (Q:z3) (k:PK β):z5 call lp qP [(1,.lp 1 0),(2,.lp 2 0),(4,.v p),(5,.ls 5)] [(1,.cells [b,c,d,a,e,f,g,h,i,j,l,m,n]),(2,.cells [q,r,u,w,x,y,z,A,B,C,D,E,F]),(5,.own 10 o)] Q k=(
 bnP (unA .not p) fun H => 
 zr H (fun _=>bnC 13 (stC 13 (.agg [b,c,d,a,e,f,g,h,i,j,l,m,n])) fun I J K L M N O P R S T U V => 
 k .ret [(3,.ls 5),(96,.ls 5),(95,.v (.agg [b,c,d,a,e,f,g,h,i,j,l,m,n])),(94,.v H),(93,.v p),(1,.lp 1 0),(2,.lp 2 0),(4,.v p),(5,.ls 5)] [(2,.cells [I,J,K,L,M,N,O,P,R,S,T,U,V]),(1,.cells [b,c,d,a,e,f,g,h,i,j,l,m,n]),(5,.own 10 o)] Q)
 (fun _=>bnX (bnP (zb .neq a (.int .i64 0)) fun W => 
 zr W (fun _=>bnS (call 45 [.agg [b,c,d,a,e,f,g,h,i,j,l,m,n],.int .i64 4,a] Q) fun G X => 
 pinB (wg 10 (frz G)) <| 
 pinB (room 104 ((o:List AV).length+(([(frz G)]:List AV):List AV).length)) <| 
 some (.normal,[(1,.lp 1 0),(2,.lp 2 0),(5,.ls 5)],[(1,.cells [b,c,d,a,e,f,g,h,i,j,l,m,n]),(2,.cells [q,r,u,w,x,y,z,A,B,C,D,E,F]),(5,.own 10 (o++([(frz G)]:List AV)))],X))
 (fun _=>some (.normal,[(1,.lp 1 0),(2,.lp 2 0),(5,.ls 5)],[(1,.cells [b,c,d,a,e,f,g,h,i,j,l,m,n]),(2,.cells [q,r,u,w,x,y,z,A,B,C,D,E,F]),(5,.own 10 o)],Q)))
 (goC (z5 call lp kL) k))):=by kernel_rfl
theorem Ws {call:z8} {lp:z9} (w x y z A B C D E F G H I:AV) (Q:z3):z5 call lp YI [(0,.v (.agg [w,x,y,z,A,B,C,D,E,F,G,H,I]))] [] Q (zp [.cell 2 (some 13),.tmp 3] [.n,.f 10])=(
 bnC 13 (stC 13 (.agg [w,x,y,z,A,B,C,D,E,F,G,H,I])) fun b d K c e g h i q j l m L => 
 bnP (zb .add K (.int .i64 1)) fun M => 
 bnC 1 (stC 1 M) fun a => 
 bnS (call 43 [L,a] Q) fun N r => 
 bnC 1 (stC 1 (frz N)) fun o => 
 bnP (zb .rem a (.int .i64 2)) fun O => 
 bnP (zb .eql O (.int .i64 0)) fun p => 
 bnX (bnP (zb .eql b (.int .i64 1)) fun P => 
 zr P (fun _=>zr p (fun _=>bnP (zb .add i (.int .i64 1)) fun R => 
 bnC 1 (stC 1 R) fun S => 
 bnC 1 (stC 1 a) fun T => 
 some (.normal,[(1,.lp 1 0),(2,.lp 2 0),(4,.v p),(5,.ls 5)],[(1,.cells [b,d,a,c,e,g,h,S,T,j,l,m,o]),(2,.cells [.int .i64 0,.int .i64 0,.int .i64 0,.int .i64 0,.int .i64 0,.int .i64 0,.nils,.int .i64 0,.int .i64 0,.int .i64 0,.int .i64 0,.int .i64 0,.nils]),(5,.own 10 ([]:List AV))],r))
 (fun _=>some (.normal,[(1,.lp 1 0),(2,.lp 2 0),(4,.v p),(5,.ls 5)],[(1,.cells [b,d,a,c,e,g,h,i,q,j,l,m,o]),(2,.cells [.int .i64 0,.int .i64 0,.int .i64 0,.int .i64 0,.int .i64 0,.int .i64 0,.nils,.int .i64 0,.int .i64 0,.int .i64 0,.int .i64 0,.int .i64 0,.nils]),(5,.own 10 ([]:List AV))],r)))
 (fun _=>bnX (bnP (zb .neq c (.int .i64 0)) fun u => 
 bnP (gdQ u true (some (.agg [b,d,a,c,e,g,h,i,q,j,l,m,o]))) fun U => 
 bnS (gdH u true (call 26 [U] r) r) fun V J => 
 bnP (gdQ u true (unA .not (frz V))) fun W => 
 bnP (zw u W (.bool false)) fun X => 
 zr X (fun _=>bnS (call 44 [.agg [b,d,a,c,e,g,h,i,q,j,l,m,o],.int .i64 0] J) fun Y Z => 
 bnC 13 (stC 13 (frz Y)) fun aa ab ac ad ae af ag ah ai aj ak al ao => 
 some (.normal,[(1,.lp 1 0),(2,.lp 2 0),(4,.v p),(5,.v .nils)],[(1,.cells [aa,ab,ac,ad,ae,af,ag,ah,ai,aj,ak,al,ao]),(2,.cells [.int .i64 0,.int .i64 0,.int .i64 0,.int .i64 0,.int .i64 0,.int .i64 0,.nils,.int .i64 0,.int .i64 0,.int .i64 0,.int .i64 0,.int .i64 0,.nils])],Z))
 (fun _=>some (.normal,[(1,.lp 1 0),(2,.lp 2 0),(4,.v p),(5,.v .nils)],[(1,.cells [b,d,a,c,e,g,h,i,q,j,l,m,o]),(2,.cells [.int .i64 0,.int .i64 0,.int .i64 0,.int .i64 0,.int .i64 0,.int .i64 0,.nils,.int .i64 0,.int .i64 0,.int .i64 0,.int .i64 0,.int .i64 0,.nils])],J)))
 (goC (z5 call lp qO) xi)))
 (goC (z5 call lp qP) (zp [.cell 2 (some 13),.tmp 3] [.n,.f 10]))):=by kernel_rfl
def Wt {s:zf} (hs:s.lookup 19=none) (a b c d e g h i j l m n o:AV) (Q:z3):=(zk (E:=z6 s) (f:=19) (fn:=xT) hs rfl [.agg [a,b,c,d,e,g,h,i,j,l,m,n,o]] Q rfl).trans (Ws (call:=za (z6 s)) (lp:=zd (z6 s)) a b c d e g h i j l m n o Q)
theorem ja {β:Type} (call:z8) (lp:z9) (a x b c d e f g h i j l m n o p q r u y z w:AV) (Q:z3) (k:PK β):z5 call lp qZ [(0,.v a),(4,.lp 4 0),(6,.lp 6 0),(64,.v x)] [(4,.cells [b,c,d,e,f,g,h,i,j,l]),(6,.cells [m,n,o,p,q,r,u,y,z,w])] Q k=(
 zr x (fun _=>bnS (call 13 [a,.int .i64 9] Q) fun B C => 
 bnP (zb .add (.int .i64 1) (frz B)) fun D => 
 bnC 1 (stC 1 D) fun A => 
 bnS (call 13 [a,.int .i64 6] C) fun E F => 
 bnP (zb .add A (frz E)) fun G => 
 bnC 1 (stC 1 G) fun H => 
 k .normal [(4,.lp 4 0),(6,.lp 6 0)] [(4,.cells [b,c,d,e,f,g,h,i,j,l]),(6,.cells [m,n,o,p,q,r,u,A,H,w])] F)
 (fun _=>k .normal [(4,.lp 4 0),(6,.lp 6 0)] [(4,.cells [b,c,d,e,f,g,h,i,j,l]),(6,.cells [m,n,o,p,q,r,u,y,z,w])] Q)):=by kernel_rfl
theorem ye {β:Type} (call:z8) (lp:z9) (l m n o p q r u w x a b c d e f g h i j:AV) (Q:z3) (k:PK β):z5 call lp j3 [(4,.lp 4 0),(6,.lp 6 0)] [(4,.cells [l,m,n,o,p,q,r,u,w,x]),(6,.cells [a,b,c,d,e,f,g,h,i,j])] Q k=(
 bnC 10 (stC 10 (.agg [a,b,c,d,e,f,g,h,i,j])) fun y z A B C D E F G H => 
 k .ret [(77,.v (.agg [a,b,c,d,e,f,g,h,i,j])),(4,.lp 4 0),(6,.lp 6 0)] [(4,.cells [y,z,A,B,C,D,E,F,G,H]),(6,.cells [a,b,c,d,e,f,g,h,i,j])] Q):=by kernel_rfl
theorem XH {β:Type} (call:z8) (lp:z9) (a A B c d e f g h i j l m:AV) (Q:z3) (k:PK β):z5 call lp xB [(0,.v a),(1,.v A),(4,.lp 4 0),(5,.v B)] [(4,.cells [c,d,e,f,g,h,i,j,l,m])] Q k=(
 bnS (call 13 [a,.int .i64 9] Q) fun D E => 
 bnP (zb .add (.int .i64 1) (frz D)) fun F => 
 bnS (call 13 [a,.int .i64 3] E) fun G n => 
 bnP (zb .add (.int .i64 1) (frz G)) fun H => 
 bnC 10 (wC [.int .i64 0,.int .i64 0,.int .i64 0,.int .i64 0,.int .i64 0,.int .i64 0,.nils,.int .i64 0,.int .i64 0,.str []] [(0,1,F),(1,1,B),(2,1,A),(3,1,H)]) fun I J K L M N O P R S => 
 bnC 10 (stC 10 (.agg [I,J,K,L,M,N,O,P,R,S])) fun b o p q w x y z r u => 
 bnX (bnX (bnP (zb .eql b (.int .i64 2)) fun T => 
 zr T (fun _=>bnS (call 13 [a,.int .i64 20] n) fun U V => 
 bnS (call 13 [a,.int .i64 25] V) fun W X => 
 bnS (call 21 [a] X) fun Y Z => 
 bnS (call 13 [a,.int .i64 9] Z) fun aa ab => 
 bnC 1 (stC 1 (frz U)) fun ac => 
 bnC 1 (stC 1 (frz W)) fun ad => 
 bnC 1 (stC 1 (frz Y)) fun ae => 
 bnC 1 (stC 1 (frz aa)) fun af => 
 some (.normal,[(4,.lp 4 0),(6,.lp 6 0)],[(4,.cells [c,d,e,f,g,h,i,j,l,m]),(6,.cells [b,o,p,q,ac,ad,ae,af,r,u])],ab))
 (fun _=>bnP (zb .eql b (.int .i64 5)) fun ag => 
 zr ag (fun _=>bnS (call 13 [a,.int .i64 20] n) fun ah ai => 
 bnS (call 13 [a,.int .i64 25] ai) fun aj ak => 
 bnS (call 21 [a] ak) fun al ao => 
 bnS (call 13 [a,.int .i64 12] ao) fun ap aq => 
 bnC 1 (stC 1 (frz ah)) fun ar => 
 bnC 1 (stC 1 (frz aj)) fun au => 
 bnC 1 (stC 1 (frz al)) fun av => 
 bnC 1 (stC 1 (frz ap)) fun aw => 
 some (.normal,[(4,.lp 4 0),(6,.lp 6 0)],[(4,.cells [c,d,e,f,g,h,i,j,l,m]),(6,.cells [b,o,p,q,ar,au,av,z,aw,u])],aq))
 (fun _=>bnP (zb .eql b (.int .i64 7)) fun ax => 
 zr ax (fun _=>bnS (call 13 [a,.int .i64 12] n) fun ay az => 
 bnP (zb .add (.int .i64 1) (frz ay)) fun a0 => 
 bnS (call 47 [a] az) fun a1 a2 => 
 bnC 1 (stC 1 a0) fun a3 => 
 bnC 1 (stC 1 (frz a1)) fun a4 => 
 some (.normal,[(4,.lp 4 0),(6,.lp 6 0)],[(4,.cells [c,d,e,f,g,h,i,j,l,m]),(6,.cells [b,o,p,q,w,x,y,a3,r,a4])],a2))
 (fun _=>bnX (bnP (zb .eql b (.int .i64 8)) fun C => 
 zr C (fun _=>some (.normal,[(0,.v a),(4,.lp 4 0),(6,.lp 6 0),(64,.v C)],[(4,.cells [c,d,e,f,g,h,i,j,l,m]),(6,.cells [b,o,p,q,w,x,y,z,r,u])],n))
 (fun _=>bnP (zb .eql b (.int .i64 9)) fun a5 => 
 some (.normal,[(0,.v a),(4,.lp 4 0),(6,.lp 6 0),(64,.v a5)],[(4,.cells [c,d,e,f,g,h,i,j,l,m]),(6,.cells [b,o,p,q,w,x,y,z,r,u])],n)))
 (goC (z5 call lp qZ) (z2N [] [] [4,6] [(4,4),(6,6)] (z2N [] [] [4,6] [(4,4),(6,6)] (z2N [] [] [4,6] [(4,4),(6,6)] xi))))))))
 (jd 0 xi))
 (goC (z5 call lp j3) k)):=by kernel_rfl
theorem Ji {call:z8} {lp:z9} (b a:AV) (Q:z3):z5 call lp wU [(0,.v b),(1,.v a)] [] Q (zp [.cell 4 (some 10)] [.n])=(
 bnS (call 13 [b,.int .i64 8] Q) fun e c => 
 bnP (zb .add (.int .i64 1) (frz e)) fun d => 
 bnX (bnP (zb .eql d a) fun f => 
 zr f (fun _=>bnP (zb .rem a (.int .i64 8)) fun g => 
 bnP (zb .add (.int .i64 1) g) fun h => 
 some (.normal,[(0,.v b),(1,.v a),(4,.lp 4 0),(5,.v h)],[(4,.cells [.int .i64 0,.int .i64 0,.int .i64 0,.int .i64 0,.int .i64 0,.int .i64 0,.nils,.int .i64 0,.int .i64 0,.str []])],c))
 (fun _=>some (.normal,[(0,.v b),(1,.v a),(4,.lp 4 0),(5,.v d)],[(4,.cells [.int .i64 0,.int .i64 0,.int .i64 0,.int .i64 0,.int .i64 0,.int .i64 0,.nils,.int .i64 0,.int .i64 0,.str []])],c)))
 (goC (z5 call lp xB) (zp [.cell 4 (some 10)] [.n]))):=by kernel_rfl
def Jj {s:zf} (hs:s.lookup 20=none) (a b:AV) (Q:z3):=(zk (E:=z6 s) (f:=20) (fn:=yX) hs rfl [a,b] Q rfl).trans (Ji (call:=za (z6 s)) (lp:=zd (z6 s)) a b Q)
theorem vd {β:Type} (call:z8) (lp:z9) (a b c:AV) (Q:z3) (k:PK β):z5 call lp qF [(0,.v a),(3,.v b),(4,.v c)] [] Q k=(
 bnP (zb .sub c (.int .i64 1)) fun d => 
 k .normal [(0,.v a),(3,.v b),(4,.v d)] [] Q):=by kernel_rfl
theorem vg {β:Type} (call:z8) (lp:z9) (a b c:AV) (Q:z3) (k:PK β):z5 call lp zP [(0,.v a),(3,.v b),(4,.v c)] [] Q k=(
 bnP (zb .gtr c (.int .i64 0)) fun f => 
 zr f (fun _=>bnX (bnX (bnS (call 13 [a,.int .i64 7] Q) fun g h => 
 bnP (zb .add (.int .i64 2) (frz g)) fun i => 
 bnS (call 35 [b,i] h) fun d e => 
 bnP (xq (frz d) 0) fun j => 
 bnP (xq (frz d) 1) fun l => 
 zr l (fun _=>some (.normal,[(0,.v a),(3,.v j),(4,.v c)],[],e))
 (fun _=>some (.normal,[(0,.v a),(3,.v b),(4,.v c)],[],e)))
 (jd 1 xi))
 (goC (z5 call lp qF) k))
 (fun _=>k (.exit 0) [(3,.v b)] [] Q)):=by kernel_rfl
noncomputable def qJ (s:zf) (a b c:AV) (Q:z3):Option xR:=zd (z6 s) zP [(0,.v a),(3,.v b),(4,.v c)] [] Q
theorem xx (s:zf) (a b c:AV) (Q:z3):zd (z6 s) zP [(0,.v a),(3,.v b),(4,.v c)] [] Q=qJ s a b c Q:=rfl
theorem jR (s:zf) (a b c:AV) (Q:z3):qJ s a b c Q=z5 (za (z6 s)) (zd (z6 s)) zP [(0,.v a),(3,.v b),(4,.v c)] [] Q (goX (fun τ ω Q=>zd (z6 s) zP τ ω Q) xi):=y4
abbrev Yd (a:AV) (Q:z3):Option xR:=some (.exit 0,[(3,.v a)],[],Q)
theorem X8 {β:Type} (call:z8) (lp:z9) (a:AV) (Q:z3) (k:PK β):z5 call lp qG [(3,.v a)] [] Q k=(
 k .ret [(2,.v a),(24,.v a),(3,.v a)] [] Q):=by kernel_rfl
theorem Qo {call:z8} {lp:z9} (a:AV) (Q:z3):z5 call lp wt [(0,.v a)] [] Q (zp [.tmp 2] [.f 1])=(
 bnS (call 13 [a,.int .i64 4] Q) fun b c => 
 bnX (lp zP [(0,.v a),(3,.v (.fz 1 ([.int .i64 1]:List AV))),(4,.v (frz b))] [] c) (jd 0 (goC (z5 call lp qG) (zp [.tmp 2] [.f 1])))):=by kernel_rfl
def Qp {s:zf} (hs:s.lookup 21=none) (a:AV) (Q:z3):=(zk (E:=z6 s) (f:=21) (fn:=yN) hs rfl [a] Q rfl).trans (Qo (call:=za (z6 s)) (lp:=zd (z6 s)) a Q)
theorem z4g {β:Type} (call:z8) (lp:z9) (a x y z A B C D E F G H I J:AV) (Q:z3) (k:PK β):z5 call lp ZA [(6,.lp 6 0),(8,.v a)] [(6,.cells [x,y,z,A,B,C,D,E,F,G,H,I,J])] Q k=(
 bnP (zn a) fun c => 
 bnP (zc 0 c) fun d => 
 bnC 13 (yd Q 13 d) fun e f g h i j l m n o p q r => 
 bnP (zn a) fun u => 
 bnP (zc 13 u) fun w => 
 bnP (ldQ Q w) fun b => 
 bnC 13 (stC 13 (.agg [e,f,g,h,i,j,l,m,n,o,p,q,r])) fun K L M N O P R S T U V W X => 
 bnS (z5Z Q 10 b) fun Y Z =>
 k .ret [(7,.v Y),(7,.v b),(122,.v b),(121,.v w),(120,.v u),(119,.v a),(118,.v (.agg [e,f,g,h,i,j,l,m,n,o,p,q,r])),(117,.v d),(116,.v c),(115,.v a),(6,.lp 6 0),(8,.v a)] [(6,.cells [K,L,M,N,O,P,R,S,T,U,V,W,X])] Z):=by kernel_rfl
theorem z4h {β:Type} (call:z8) (lp:z9) (C a b q r u w x y z A B c d e f g h i j l m n o p:AV) (Q:z3) (k:PK β):z5 call lp ZB [(2,.v C),(4,.lp 4 0),(6,.lp 6 0),(8,.v a)] [(4,.cells [b,q,r,u,w,x,y,z,A,B]),(6,.cells [c,d,e,f,g,h,i,j,l,m,n,o,p])] Q k=(
 bnX (bnX (bnP (zb .eql b (.int .i64 1)) fun D => 
 zr D (fun _=>bnS (call 49 [a,.agg [b,q,r,u,w,x,y,z,A,B],C] Q) fun Z E => 
 some (.normal,[(6,.lp 6 0),(8,.v a)],[(6,.cells [c,d,e,f,g,h,i,j,l,m,n,o,p])],E))
 (fun _=>bnP (zb .eql b (.int .i64 2)) fun F => 
 zr F (fun _=>bnS (call 50 [a,.agg [b,q,r,u,w,x,y,z,A,B]] Q) fun aa G => 
 some (.normal,[(6,.lp 6 0),(8,.v a)],[(6,.cells [c,d,e,f,g,h,i,j,l,m,n,o,p])],G))
 (fun _=>bnP (zb .eql b (.int .i64 3)) fun H => 
 zr H (fun _=>bnS (call 51 [a,.agg [b,q,r,u,w,x,y,z,A,B]] Q) fun ab I => 
 some (.normal,[(6,.lp 6 0),(8,.v a)],[(6,.cells [c,d,e,f,g,h,i,j,l,m,n,o,p])],I))
 (fun _=>bnP (zb .eql b (.int .i64 4)) fun J => 
 zr J (fun _=>bnS (call 52 [a,.agg [b,q,r,u,w,x,y,z,A,B]] Q) fun ac K => 
 some (.normal,[(6,.lp 6 0),(8,.v a)],[(6,.cells [c,d,e,f,g,h,i,j,l,m,n,o,p])],K))
 (fun _=>bnP (zb .eql b (.int .i64 5)) fun L => 
 zr L (fun _=>bnS (call 53 [a,.agg [b,q,r,u,w,x,y,z,A,B]] Q) fun ad M => 
 some (.normal,[(6,.lp 6 0),(8,.v a)],[(6,.cells [c,d,e,f,g,h,i,j,l,m,n,o,p])],M))
 (fun _=>bnP (zb .eql b (.int .i64 6)) fun N => 
 zr N (fun _=>bnP (zn a) fun O => 
 bnP (zc 0 O) fun P => 
 bnP (zc 12 P) fun R => 
 bnP (ldQ Q R) fun S => 
 bnS (call 54 [S,q] Q) fun T U => 
 bnP (zn a) fun V => 
 bnP (zc 0 V) fun W => 
 bnP (zc 12 W) fun X => 
 bnS (stA U 1 X (frz T)) fun _ Y => 
 some (.normal,[(6,.lp 6 0),(8,.v a)],[(6,.cells [c,d,e,f,g,h,i,j,l,m,n,o,p])],Y))
 (fun _=>some (.normal,[(6,.lp 6 0),(8,.v a)],[(6,.cells [c,d,e,f,g,h,i,j,l,m,n,o,p])],Q))))))))
 (jd 0 xi))
 (goC (z5 call lp ZA) k)):=by kernel_rfl
theorem z6V {call:z8} {lp:z9} (l m o p q r u w x y z A B C D E F G H I J K L j:AV) (Q:z3):z5 call lp z28 [(0,.v (.agg [l,m,o,p,q,r,u,w,x,y,z,A,B])),(1,.v (.agg [C,D,E,F,G,H,I,J,K,L])),(2,.v j)] [] Q (zp [.cell 6 (some 13),.tmp 7] [.n,.f 10])=(
 bnC 13 (stC 13 (.agg [l,m,o,p,q,r,u,w,x,y,z,A,B])) fun W X Y Z aa ab ac ad ae af ag ah ai => 
 bnC 10 (stC 10 (.agg [C,D,E,F,G,H,I,J,K,L])) fun M h N i O P R S T U => 
 bnS (call 38 [.agg [W,X,Y,Z,aa,ab,ac,ad,ae,af,ag,ah,ai]] Q) fun a V => 
 bnP (zn (frz a)) fun aj => 
 bnP (zc 0 aj) fun ak => 
 bnP (zc 12 ak) fun al => 
 bnP (ldQ V al) fun ao => 
 bnS (call 48 [ao,h,i] V) fun b c => 
 bnP (gdQ (frz b) false (some h)) fun ap => 
 bnP (gdQ (frz b) false (some (frz a))) fun aq => 
 bnP (gdQ (frz b) false (zn aq)) fun ar => 
 bnP (gdQ (frz b) false (zc 0 ar)) fun au => 
 bnP (gdQ (frz b) false (zc 3 au)) fun av => 
 bnP (gdQ (frz b) false (ldQ c av)) fun aw => 
 bnP (gdQ (frz b) false (zb .eql ap aw)) fun ax => 
 bnP (gdQ (frz b) false (some ax)) fun d => 
 bnP (gdQ d true (some i)) fun ay => 
 bnP (gdQ d true (some (frz a))) fun az => 
 bnP (gdQ d true (zn az)) fun a0 => 
 bnP (gdQ d true (zc 0 a0)) fun a1 => 
 bnP (gdQ d true (zc 4 a1)) fun a2 => 
 bnP (gdQ d true (ldQ c a2)) fun a3 => 
 bnP (gdQ d true (zb .lss ay a3)) fun a4 => 
 bnP (gdQ (frz b) false (zw d a4 (.bool false))) fun a5 => 
 bnP (zw (frz b) (.bool true) a5) fun a6 => 
 zr a6 (fun _=>bnP (zn (frz a)) fun a7 => 
 bnP (zc 0 a7) fun a8 => 
 bnC 13 (yd c 13 a8) fun a9 ba bb bc bd bf bg bh bi bj bk bl bm => 
 bnC 13 (stC 13 (.agg [a9,ba,bb,bc,bd,bf,bg,bh,bi,bj,bk,bl,bm])) fun bn bo bp bq br bs bt bu bv bw bx bz b0 => 
 some (.tup [.agg [bn,bo,bp,bq,br,bs,bt,bu,bv,bw,bx,bz,b0],.fz 10 []],c))
 (fun _=>bnX (bnP (zn (frz a)) fun b1 => 
 bnP (zc 0 b1) fun b2 => 
 bnP (zc 3 b2) fun b3 => 
 bnP (ldQ c b3) fun b4 => 
 bnP (zb .neq b4 (.int .i64 0)) fun e => 
 bnP (gdQ e true (some h)) fun b5 => 
 bnP (gdQ e true (some (frz a))) fun b6 => 
 bnP (gdQ e true (zn b6)) fun b7 => 
 bnP (gdQ e true (zc 0 b7)) fun b8 => 
 bnP (gdQ e true (zc 3 b8)) fun b9 => 
 bnP (gdQ e true (ldQ c b9)) fun ca => 
 bnP (gdQ e true (zb .eql b5 ca)) fun cb => 
 bnP (zw e cb (.bool false)) fun g => 
 bnP (gdQ g true (some i)) fun cc => 
 bnP (gdQ g true (some (frz a))) fun cd => 
 bnP (gdQ g true (zn cd)) fun ce => 
 bnP (gdQ g true (zc 0 ce)) fun cf => 
 bnP (gdQ g true (zc 4 cf)) fun cg => 
 bnP (gdQ g true (ldQ c cg)) fun ch => 
 bnP (gdQ g true (zb .gtr cc ch)) fun ci => 
 bnP (zw g ci (.bool false)) fun cj => 
 zr cj (fun _=>bnS (call 40 [(frz a),.int .i64 0] c) fun cl ck => 
 some (.normal,[(2,.v j),(4,.lp 4 0),(6,.lp 6 0),(8,.v (frz a))],[(4,.cells [M,h,N,i,O,P,R,S,T,U]),(6,.cells [.int .i64 0,.int .i64 0,.int .i64 0,.int .i64 0,.int .i64 0,.int .i64 0,.nils,.int .i64 0,.int .i64 0,.int .i64 0,.int .i64 0,.int .i64 0,.nils])],ck))
 (fun _=>some (.normal,[(2,.v j),(4,.lp 4 0),(6,.lp 6 0),(8,.v (frz a))],[(4,.cells [M,h,N,i,O,P,R,S,T,U]),(6,.cells [.int .i64 0,.int .i64 0,.int .i64 0,.int .i64 0,.int .i64 0,.int .i64 0,.nils,.int .i64 0,.int .i64 0,.int .i64 0,.int .i64 0,.int .i64 0,.nils])],c)))
 (goC (z5 call lp ZB) (zp [.cell 6 (some 13),.tmp 7] [.n,.f 10])))):=by kernel_rfl
def z6W {s:zf} (hs:s.lookup 22=none) (a b c d e g h i j l m n o p q r u v w x y z A B:AV) (Q:z3):=(zk (E:=z6 s) (f:=22) (fn:=wV) hs rfl [.agg [a,b,c,d,e,g,h,i,j,l,m,n,o],.agg [p,q,r,u,v,w,x,y,z,A],B] Q rfl).trans (z6V (call:=za (z6 s)) (lp:=zd (z6 s)) a b c d e g h i j l m n o p q r u v w x y z A B Q)
theorem yh {β:Type} (call:z8) (lp:z9) (u w x c d a e f g b h i j l m n O o P y R S T U V W X Y Z aa ab ac ad ae af ag ah ai aj:AV) (Q:z3) (k:PK β):z5 call lp kf [(2,.v u),(3,.lp 3 0),(4,.lp 4 0),(6,.lp 6 0),(10,.v w),(11,.v x)] [(3,.cells [c,d,a,e,f,g,b,h,i,j,l,m,n]),(4,.cells [O,o,P,y,R,S,T,U,V,W]),(6,.cells [X,Y,Z,aa,ab,ac,ad,ae,af,ag,ah,ai,aj])] Q k=(
 bnS (call 26 [.agg [c,d,a,e,f,g,b,h,i,j,l,m,n]] Q) fun ak z => 
 bnP (unA .not (frz ak)) fun r => 
 bnP (gdQ r false (some b)) fun al => 
 bnP (gdQ r false (some o)) fun ao => 
 bnS (gdH r false (call 32 [al,ao] z) z) fun ap A => 
 bnP (zw r (.bool true) (frz ap)) fun p => 
 bnP (gdQ p false (some w)) fun aq => 
 bnP (gdQ p false (unA .not aq)) fun ar => 
 bnP (gdQ p false (some ar)) fun q => 
 bnP (gdQ q true (some n)) fun au => 
 bnP (gdQ q true (jl au)) fun av => 
 bnP (gdQ q true (some x)) fun aw => 
 bnP (gdQ q true (zb .geq av aw)) fun ax => 
 bnP (gdQ p false (zw q ax (.bool false))) fun ay => 
 bnP (zw p (.bool true) ay) fun az => 
 zr az (fun _=>bnS (call 45 [.agg [c,d,a,e,f,g,b,h,i,j,l,m,n],.int .i64 3,o] A) fun B a0 => 
 pinB (wg 10 (frz B)) <| 
 bnC 13 (stC 13 (.agg [c,d,a,e,f,g,b,h,i,j,l,m,n])) fun a1 a2 a3 a4 a5 a6 a7 a8 a9 ba bb bc bd => 
 k .ret [(6,.lp 6 0),(7,.ls 7)] [(6,.cells [a1,a2,a3,a4,a5,a6,a7,a8,a9,ba,bb,bc,bd]),(7,.own 10 ([(frz B)]:List AV))] a0)
 (fun _=>bnC 3 (wC [.int .i64 0,.int .i64 0,.int .i64 0] [(0,1,o),(1,1,y),(2,1,a)]) fun bf bg bh => 
 bnS (call 56 [n,.agg [bf,bg,bh]] A) fun C bi => 
 bnP (xq (frz C) 0) fun bj => 
 bnP (xq (frz C) 1) fun b0 => 
 bnC 1 (stC 1 bj) fun D => 
 bnS (call 46 [.agg [c,d,a,e,f,g,b,h,i,j,l,m,D],.int .i64 2,o] bi) fun bk bl => 
 bnC 10 (stC 10 (frz bk)) fun E F G H I J K b1 L M => 
 bnC 1 (stC 1 u) fun N => 
 pinB (wg 10 (.agg [E,F,G,H,I,J,K,N,L,M])) <| 
 bnC 13 (stC 13 (.agg [c,d,a,e,f,g,b,h,i,j,l,m,D])) fun bm bn bo bp bq br bs bt bu bv bw bx bz => 
 k .ret [(6,.lp 6 0),(7,.ls 7)] [(6,.cells [bm,bn,bo,bp,bq,br,bs,bt,bu,bv,bw,bx,bz]),(7,.own 10 ([.agg [E,F,G,H,I,J,K,N,L,M]]:List AV))] bl)):=by kernel_rfl
theorem ko {β:Type} (call:z8) (lp:z9) (E a b c d e f g h i j l m n o p q r u w x y z A B C D:AV) (Q:z3) (k:PK β):z5 call lp kg [(3,.lp 3 0),(6,.lp 6 0),(8,.v E)] [(3,.cells [a,b,c,d,e,f,g,h,i,j,l,m,n]),(6,.cells [o,p,q,r,u,w,x,y,z,A,B,C,D])] Q k=(
 zr E (fun _=>bnS (call 44 [.agg [a,b,c,d,e,f,g,h,i,j,l,m,n],.int .i64 0] Q) fun F G => 
 bnC 13 (stC 13 (frz F)) fun H I J K L M N O P R S T U => 
 k .normal [(3,.lp 3 0),(6,.lp 6 0)] [(3,.cells [H,I,J,K,L,M,N,O,P,R,S,T,U]),(6,.cells [o,p,q,r,u,w,x,y,z,A,B,C,D])] G)
 (fun _=>k .normal [(3,.lp 3 0),(6,.lp 6 0)] [(3,.cells [a,b,c,d,e,f,g,h,i,j,l,m,n]),(6,.cells [o,p,q,r,u,w,x,y,z,A,B,C,D])] Q)):=by kernel_rfl
theorem zW {β:Type} (call:z8) (lp:z9) (a b c d e f g h i j l m n o p q r u w x y z A B C D:AV) (Q:z3) (k:PK β):z5 call lp kh [(3,.lp 3 0),(6,.lp 6 0)] [(3,.cells [a,b,c,d,e,f,g,h,i,j,l,m,n]),(6,.cells [o,p,q,r,u,w,x,y,z,A,B,C,D])] Q k=(
 bnC 13 (stC 13 (.agg [a,b,c,d,e,f,g,h,i,j,l,m,n])) fun E F G H I J K L M N O P R => 
 k .ret [(7,.v .nils),(245,.v (.agg [a,b,c,d,e,f,g,h,i,j,l,m,n])),(3,.lp 3 0),(6,.lp 6 0)] [(6,.cells [E,F,G,H,I,J,K,L,M,N,O,P,R]),(3,.cells [a,b,c,d,e,f,g,h,i,j,l,m,n])] Q):=by kernel_rfl
theorem JX {β:Type} (call:z8) (lp:z9) (R b f a c g m n l h e i j d p o K I J G H L M N q r u w x y z A B C D E F:AV) (Q:z3) (k:PK β):z5 call lp qD [(2,.v R),(3,.lp 3 0),(4,.lp 4 0),(6,.lp 6 0)] [(3,.cells [b,f,a,c,g,m,n,l,h,e,i,j,d]),(4,.cells [p,o,K,I,J,G,H,L,M,N]),(6,.cells [q,r,u,w,x,y,z,A,B,C,D,E,F])] Q k=(
 bnP (zb .neq c (.int .i64 0)) fun O => 
 bnP (gdQ O true (some o)) fun ai => 
 bnP (gdQ O true (some c)) fun aj => 
 bnP (gdQ O true (zb .eql ai aj)) fun ak => 
 bnP (zw O ak (.bool false)) fun S => 
 bnX (bnX (bnP (zb .eql p (.int .i64 1)) fun al => 
 zr al (fun _=>bnS (call 34 [d,o] Q) fun T U => 
 bnP (xq (frz T) 0) fun ao => 
 bnP (xq (frz T) 1) fun V => 
 bnC 3 (stC 3 ao) fun df dg dh => 
 bnX (bnP (zb .eql b (.int .i64 1)) fun ap => 
 zr ap (fun _=>some (.normal,[(2,.v R),(3,.lp 3 0),(4,.lp 4 0),(6,.lp 6 0),(10,.v V),(11,.v (.int .i64 8))],[(3,.cells [b,f,a,c,g,m,n,l,h,e,i,j,d]),(4,.cells [p,o,K,I,J,G,H,L,M,N]),(6,.cells [q,r,u,w,x,y,z,A,B,C,D,E,F])],U))
 (fun _=>some (.normal,[(2,.v R),(3,.lp 3 0),(4,.lp 4 0),(6,.lp 6 0),(10,.v V),(11,.v (.int .i64 3))],[(3,.cells [b,f,a,c,g,m,n,l,h,e,i,j,d]),(4,.cells [p,o,K,I,J,G,H,L,M,N]),(6,.cells [q,r,u,w,x,y,z,A,B,C,D,E,F])],U)))
 (goC (z5 call lp kf) (z2N [] [] [3,6] [(3,3),(6,6)] xi)))
 (fun _=>bnP (zb .eql p (.int .i64 2)) fun aq => 
 zr aq (fun _=>bnS (call 57 [.agg [b,f,a,c,g,m,n,l,h,e,i,j,d],.agg [p,o,K,I,J,G,H,L,M,N]] Q) fun W ar => 
 bnP (xq (frz W) 0) fun au => 
 bnP (xq (frz W) 1) fun av => 
 bnC 13 (stC 13 au) fun aw ax ay az a0 a1 a2 a3 a4 a5 a6 a7 a8 => 
 some (.ret,[(6,.lp 6 0),(7,.v av)],[(6,.cells [aw,ax,ay,az,a0,a1,a2,a3,a4,a5,a6,a7,a8])],ar))
 (fun _=>bnP (zb .eql p (.int .i64 3)) fun a9 => 
 zr a9 (fun _=>bnX (bnP (zb .neq e (.int .i64 0)) fun P => 
 bnP (gdQ P true (some e)) fun ba => 
 bnP (gdQ P true (some o)) fun bb => 
 bnP (gdQ P true (zb .eql ba bb)) fun bc => 
 bnP (zw P bc (.bool false)) fun bd => 
 zr bd (fun _=>bnP (zb .add j (.int .i64 1)) fun bf => 
 bnC 1 (stC 1 bf) fun bg => 
 some (.normal,[(3,.lp 3 0),(6,.lp 6 0),(8,.v S)],[(3,.cells [b,f,a,c,g,m,n,l,h,.int .i64 0,i,bg,d]),(6,.cells [q,r,u,w,x,y,z,A,B,C,D,E,F])],Q))
 (fun _=>some (.normal,[(3,.lp 3 0),(6,.lp 6 0),(8,.v S)],[(3,.cells [b,f,a,c,g,m,n,l,h,e,i,j,d]),(6,.cells [q,r,u,w,x,y,z,A,B,C,D,E,F])],Q)))
 (goC (z5 call lp kg) (z2N [] [] [3,6] [(3,3),(6,6)] xi)))
 (fun _=>bnP (zb .eql p (.int .i64 4)) fun bh => 
 zr bh (fun _=>bnS (call 34 [d,o] Q) fun X Y => 
 bnP (xq (frz X) 0) fun bi => 
 bnP (xq (frz X) 1) fun bj => 
 bnC 3 (stC 3 bi) fun di dj dk => 
 bnP (unA .not bj) fun bk => 
 zr bk (fun _=>bnS (call 45 [.agg [b,f,a,c,g,m,n,l,h,e,i,j,d],.int .i64 3,o] Y) fun Z bl => 
 pinB (wg 10 (frz Z)) <| 
 bnC 13 (stC 13 (.agg [b,f,a,c,g,m,n,l,h,e,i,j,d])) fun bm bn bo bp bq br bs bt bu bv bw bx bz => 
 some (.ret,[(6,.lp 6 0),(7,.ls 7)],[(6,.cells [bm,bn,bo,bp,bq,br,bs,bt,bu,bv,bw,bx,bz]),(7,.own 10 ([(frz Z)]:List AV))],bl))
 (fun _=>bnC 3 (wC [.int .i64 0,.int .i64 0,.int .i64 0] [(0,1,o),(1,1,I),(2,1,a)]) fun b0 b1 b2 => 
 bnS (call 56 [d,.agg [b0,b1,b2]] Y) fun aa b3 => 
 bnP (xq (frz aa) 0) fun b4 => 
 bnP (xq (frz aa) 1) fun dl => 
 bnC 1 (stC 1 b4) fun b5 => 
 some (.normal,[(3,.lp 3 0),(6,.lp 6 0)],[(3,.cells [b,f,a,c,g,m,n,l,h,e,i,j,b5]),(6,.cells [q,r,u,w,x,y,z,A,B,C,D,E,F])],b3)))
 (fun _=>bnP (zb .eql p (.int .i64 5)) fun b6 => 
 zr b6 (fun _=>bnP (unA .not S) fun b7 => 
 zr b7 (fun _=>bnS (call 45 [.agg [b,f,a,c,g,m,n,l,h,e,i,j,d],.int .i64 6,o] Q) fun ab b8 => 
 pinB (wg 10 (frz ab)) <| 
 bnC 13 (stC 13 (.agg [b,f,a,c,g,m,n,l,h,e,i,j,d])) fun b9 ca cb cc cd ce cf cg ch ci cj ck cl => 
 some (.ret,[(6,.lp 6 0),(7,.ls 7)],[(6,.cells [b9,ca,cb,cc,cd,ce,cf,cg,ch,ci,cj,ck,cl]),(7,.own 10 ([(frz ab)]:List AV))],b8))
 (fun _=>bnS (call 35 [H,b] Q) fun ac ad => 
 bnP (xq (frz ac) 0) fun cm => 
 bnP (xq (frz ac) 1) fun cn => 
 bnP (unA .not cn) fun co => 
 zr co (fun _=>bnS (call 44 [.agg [b,f,a,c,g,m,n,l,h,e,i,j,d],.int .i64 1] ad) fun cp cq => 
 bnS (call 45 [.agg [b,f,a,c,g,m,n,l,h,e,i,j,d],.int .i64 6,o] cq) fun ae cr => 
 pinB (wg 10 (frz ae)) <| 
 bnC 13 (stC 13 (frz cp)) fun cs ct cu cv cw cx cy cz c0 c1 c2 c3 c4 => 
 some (.ret,[(6,.lp 6 0),(7,.ls 7)],[(6,.cells [cs,ct,cu,cv,cw,cx,cy,cz,c0,c1,c2,c3,c4]),(7,.own 10 ([(frz ae)]:List AV))],cr))
 (fun _=>bnS (call 58 [H] ad) fun c5 af => 
 bnC 1 (stC 1 cm) fun ag => 
 bnC 1 (stC 1 (frz c5)) fun ah => 
 bnP (zb .sub a G) fun c6 => 
 bnP (zb .gtr c6 h) fun c7 => 
 zr c7 (fun _=>bnP (zb .sub a G) fun c8 => 
 bnC 1 (stC 1 c8) fun c9 => 
 bnC 1 (stC 1 J) fun da => 
 some (.normal,[(3,.lp 3 0),(6,.lp 6 0)],[(3,.cells [b,f,a,c,g,ah,ag,da,c9,e,i,j,d]),(6,.cells [q,r,u,w,x,y,z,A,B,C,D,E,F])],af))
 (fun _=>some (.normal,[(3,.lp 3 0),(6,.lp 6 0)],[(3,.cells [b,f,a,c,g,ah,ag,l,h,e,i,j,d]),(6,.cells [q,r,u,w,x,y,z,A,B,C,D,E,F])],af)))))
 (fun _=>bnP (zb .eql p (.int .i64 6)) fun db => 
 zr db (fun _=>bnS (call 59 [d,o] Q) fun dc dd => 
 bnC 1 (stC 1 (frz dc)) fun de => 
 some (.normal,[(3,.lp 3 0),(6,.lp 6 0)],[(3,.cells [b,f,a,c,g,m,n,l,h,e,i,j,de]),(6,.cells [q,r,u,w,x,y,z,A,B,C,D,E,F])],dd))
 (fun _=>some (.normal,[(3,.lp 3 0),(6,.lp 6 0)],[(3,.cells [b,f,a,c,g,m,n,l,h,e,i,j,d]),(6,.cells [q,r,u,w,x,y,z,A,B,C,D,E,F])],Q))))))))
 (jd 0 xi))
 (goC (z5 call lp kh) k)):=by kernel_rfl
theorem Vq {call:z8} {lp:z9} (A B C D E F G H I J K L M N O P R S T U V W X j:AV) (Q:z3):z5 call lp Yg [(0,.v (.agg [A,B,C,D,E,F,G,H,I,J,K,L,M])),(1,.v (.agg [N,O,P,R,S,T,U,V,W,X])),(2,.v j)] [] Q (zp [.cell 6 (some 13),.tmp 7] [.n,.f 10])=(
 bnC 13 (stC 13 (.agg [A,B,C,D,E,F,G,H,I,J,K,L,M])) fun l m o b c p q r u w x y g => 
 bnC 10 (stC 10 (.agg [N,O,P,R,S,T,U,V,W,X])) fun Y d Z e aa ab ac ad ae af => 
 bnS (call 55 [g,d,e] Q) fun a z => 
 bnP (gdQ (frz a) false (some d)) fun ag => 
 bnP (gdQ (frz a) false (some b)) fun ah => 
 bnP (gdQ (frz a) false (zb .eql ag ah)) fun ai => 
 bnP (gdQ (frz a) false (some ai)) fun h => 
 bnP (gdQ h true (some e)) fun aj => 
 bnP (gdQ h true (some c)) fun ak => 
 bnP (gdQ h true (zb .lss aj ak)) fun al => 
 bnP (gdQ (frz a) false (zw h al (.bool false))) fun ao => 
 bnP (zw (frz a) (.bool true) ao) fun ap => 
 zr ap (fun _=>bnC 13 (stC 13 (.agg [l,m,o,b,c,p,q,r,u,w,x,y,g])) fun aq ar au av aw ax ay az a0 a1 a2 a3 a4 => 
 some (.tup [.agg [aq,ar,au,av,aw,ax,ay,az,a0,a1,a2,a3,a4],.fz 10 []],z))
 (fun _=>bnX (bnP (zb .eql d b) fun i => 
 bnP (gdQ i true (some e)) fun a5 => 
 bnP (gdQ i true (some c)) fun a6 => 
 bnP (gdQ i true (zb .gtr a5 a6)) fun a7 => 
 bnP (zw i a7 (.bool false)) fun a8 => 
 zr a8 (fun _=>bnS (call 44 [.agg [l,m,o,b,c,p,q,r,u,w,x,y,g],.int .i64 0] z) fun a9 ba => 
 bnC 13 (stC 13 (frz a9)) fun bb bc bd bf bg bh bi bj bk bl bm bn bo => 
 some (.normal,[(2,.v j),(3,.lp 3 0),(4,.lp 4 0),(6,.lp 6 0)],[(3,.cells [bb,bc,bd,bf,bg,bh,bi,bj,bk,bl,bm,bn,bo]),(4,.cells [Y,d,Z,e,aa,ab,ac,ad,ae,af]),(6,.cells [.int .i64 0,.int .i64 0,.int .i64 0,.int .i64 0,.int .i64 0,.int .i64 0,.nils,.int .i64 0,.int .i64 0,.int .i64 0,.int .i64 0,.int .i64 0,.nils])],ba))
 (fun _=>some (.normal,[(2,.v j),(3,.lp 3 0),(4,.lp 4 0),(6,.lp 6 0)],[(3,.cells [l,m,o,b,c,p,q,r,u,w,x,y,g]),(4,.cells [Y,d,Z,e,aa,ab,ac,ad,ae,af]),(6,.cells [.int .i64 0,.int .i64 0,.int .i64 0,.int .i64 0,.int .i64 0,.int .i64 0,.nils,.int .i64 0,.int .i64 0,.int .i64 0,.int .i64 0,.int .i64 0,.nils])],z)))
 (goC (z5 call lp qD) (zp [.cell 6 (some 13),.tmp 7] [.n,.f 10])))):=by kernel_rfl
def Vr {s:zf} (hs:s.lookup 23=none) (a b c d e g h i j l m n o p q r u v w x y z A B:AV) (Q:z3):=(zk (E:=z6 s) (f:=23) (fn:=xG) hs rfl [.agg [a,b,c,d,e,g,h,i,j,l,m,n,o],.agg [p,q,r,u,v,w,x,y,z,A],B] Q rfl).trans (Vq (call:=za (z6 s)) (lp:=zd (z6 s)) a b c d e g h i j l m n o p q r u v w x y z A B Q)
theorem vD {β:Type} (call:z8) (lp:z9) (b c a:AV) (Q:z3) (k:PK β):z5 call lp zU [(0,.v b),(1,.v c),(5,.v a)] [] Q k=(
 bnP (jl b) fun e => 
 bnP (zb .lss a e) fun f => 
 zr f (fun _=>bnP (elQ 10 b a) fun g => 
 bnC 10 (cut (AV.cells g) 0 10) fun h i j l m n o p q r => 
 bnP (elQ 10 c a) fun u => 
 bnC 10 (cut (AV.cells u) 0 10) fun w x y z A B C D E F => 
 bnS (call 60 [.agg [h,i,j,l,m,n,o,p,q,r],.agg [w,x,y,z,A,B,C,D,E,F]] Q) fun G d => 
 bnP (unA .not (frz G)) fun H => 
 zr H (fun _=>k .ret [(4,.v (.bool false))] [] d)
 (fun _=>bnP (zb .add a (.int .i64 1)) fun I => 
 k .normal [(0,.v b),(1,.v c),(5,.v I)] [] d))
 (fun _=>k (.exit 0) [] [] Q)):=by kernel_rfl
noncomputable def jb (s:zf) (a b c:AV) (Q:z3):Option xR:=zd (z6 s) zU [(0,.v a),(1,.v b),(5,.v c)] [] Q
theorem jF (s:zf) (a b c:AV) (Q:z3):zd (z6 s) zU [(0,.v a),(1,.v b),(5,.v c)] [] Q=jb s a b c Q:=rfl
theorem kz (s:zf) (a b c:AV) (Q:z3):jb s a b c Q=z5 (za (z6 s)) (zd (z6 s)) zU [(0,.v a),(1,.v b),(5,.v c)] [] Q (goX (fun τ ω Q=>zd (z6 s) zU τ ω Q) xi):=y4
abbrev Ys (Q:z3):Option xR:=some (.exit 0,[],[],Q)
theorem XI {β:Type} (call:z8) (lp:z9) (Q:z3) (k:PK β):z5 call lp j4 [] [] Q k=(
 k .ret [(4,.v (.bool true))] [] Q):=by kernel_rfl
theorem Jk {call:z8} {lp:z9} (a b:AV) (Q:z3):z5 call lp wW [(0,.v a),(1,.v b)] [] Q (zp [.tmp 4] [.n])=(
 bnP (jl a) fun c => 
 bnP (jl b) fun d => 
 bnP (zb .neq c d) fun e => 
 zr e (fun _=>some (.bool false,Q))
 (fun _=>bnX (lp zU [(0,.v a),(1,.v b),(5,.v (.int .i64 0))] [] Q) (jd 0 (goC (z5 call lp j4) (zp [.tmp 4] [.n]))))):=by kernel_rfl
def Jl {s:zf} (hs:s.lookup 24=none) (a b:AV) (Q:z3):=(zk (E:=z6 s) (f:=24) (fn:=yY) hs rfl [a,b] Q rfl).trans (Jk (call:=za (z6 s)) (lp:=zd (z6 s)) a b Q)
theorem z6X {call:z8} {lp:z9} (c d e f g h i j l m o p q:AV) (Q:z3):z5 call lp z29 [(0,.v (.agg [c,d,e,f,g,h,i,j,l,m,o,p,q]))] [] Q (zp [.tmp 2] [.n])=(
 bnC 13 (stC 13 (.agg [c,d,e,f,g,h,i,j,l,m,o,p,q])) fun r H u w I J K L x M N O P => 
 bnP (zb .eql r (.int .i64 1)) fun a => 
 bnP (gdQ a false (some w)) fun y => 
 bnP (gdQ a false (zb .neq y (.int .i64 0))) fun z => 
 bnP (gdQ a false (some z)) fun b => 
 bnP (gdQ b true (some u)) fun A => 
 bnP (gdQ b true (some x)) fun B => 
 bnP (gdQ b true (zb .sub A B)) fun C => 
 bnP (gdQ b true (zb .leq C (.int .i64 20))) fun D => 
 bnP (gdQ a false (zw b D (.bool false))) fun E => 
 bnP (zw a (.bool true) E) fun F => 
 bnP (rcv false .n F) fun G=>some (G,Q)):=by kernel_rfl
def z6Y {s:zf} (hs:s.lookup 25=none) (a b c d e g h i j l m n o:AV) (Q:z3):=(zk (E:=z6 s) (f:=25) (fn:=wX) hs rfl [.agg [a,b,c,d,e,g,h,i,j,l,m,n,o]] Q rfl).trans (z6X (call:=za (z6 s)) (lp:=zd (z6 s)) a b c d e g h i j l m n o Q)
theorem Vs {call:z8} {lp:z9} (c d e f g h i j l m o p q:AV) (Q:z3):z5 call lp Yh [(0,.v (.agg [c,d,e,f,g,h,i,j,l,m,o,p,q]))] [] Q (zp [.tmp 2] [.n])=(
 bnC 13 (stC 13 (.agg [c,d,e,f,g,h,i,j,l,m,o,p,q])) fun r H u w I J K L x M N O P => 
 bnP (zb .eql r (.int .i64 1)) fun a => 
 bnP (gdQ a false (some w)) fun y => 
 bnP (gdQ a false (zb .neq y (.int .i64 0))) fun z => 
 bnP (gdQ a false (some z)) fun b => 
 bnP (gdQ b true (some u)) fun A => 
 bnP (gdQ b true (some x)) fun B => 
 bnP (gdQ b true (zb .sub A B)) fun C => 
 bnP (gdQ b true (zb .leq C (.int .i64 20))) fun D => 
 bnP (gdQ a false (zw b D (.bool false))) fun E => 
 bnP (zw a (.bool true) E) fun F => 
 bnP (rcv false .n F) fun G=>some (G,Q)):=by kernel_rfl
def Vt {s:zf} (hs:s.lookup 26=none) (a b c d e g h i j l m n o:AV) (Q:z3):=(zk (E:=z6 s) (f:=26) (fn:=xH) hs rfl [.agg [a,b,c,d,e,g,h,i,j,l,m,n,o]] Q rfl).trans (Vs (call:=za (z6 s)) (lp:=zd (z6 s)) a b c d e g h i j l m n o Q)
theorem VM {β:Type} (call:z8) (lp:z9) (a c d b:AV) (Q:z3) (k:PK β):z5 call lp j5 [(3,.v a),(25,.v c),(26,.v d),(27,.v b)] [] Q k=(
 bnP (zb .lss b d) fun e => 
 zr e (fun _=>bnP (elQ 3 c b) fun f => 
 bnC 3 (cut (AV.cells f) 0 3) fun g h i => 
 bnC 3 (stC 3 (.agg [g,h,i])) fun j n o => 
 bnS (call 61 [a,.int .i64 3,j,.int .i64 0] Q) fun p l => 
 bnP (zb .add b (.int .i64 1)) fun m => 
 k .normal [(3,.v a),(25,.v c),(26,.v d),(27,.v m)] [] l)
 (fun _=>k (.exit 0) [(3,.v a)] [] Q)):=by kernel_rfl
noncomputable def XJ (s:zf) (a b c d:AV) (Q:z3):Option xR:=zd (z6 s) j5 [(3,.v a),(25,.v b),(26,.v c),(27,.v d)] [] Q
theorem YQ (s:zf) (a b c d:AV) (Q:z3):zd (z6 s) j5 [(3,.v a),(25,.v b),(26,.v c),(27,.v d)] [] Q=XJ s a b c d Q:=rfl
theorem Qq (s:zf) (a b c d:AV) (Q:z3):XJ s a b c d Q=z5 (za (z6 s)) (zd (z6 s)) j5 [(3,.v a),(25,.v b),(26,.v c),(27,.v d)] [] Q (goX (fun τ ω Q=>zd (z6 s) j5 τ ω Q) xi):=y4
abbrev z1q (a:AV) (Q:z3):Option xR:=some (.exit 0,[(3,.v a)],[],Q)
theorem z4i {β:Type} (call:z8) (lp:z9) (a:AV) (Q:z3) (k:PK β):z5 call lp Xz [(3,.v a)] [] Q k=(
 bnP (zn a) fun c => 
 bnP (zc 13 c) fun d => 
 bnP (ldQ Q d) fun b => 
 bnS (z5Z Q 10 b) fun e f =>
 k .ret [(2,.v e),(2,.v b),(39,.v b),(38,.v d),(37,.v c),(36,.v a),(3,.v a)] [] f):=by kernel_rfl
theorem z4j {β:Type} (call:z8) (lp:z9) (a:AV) (Q:z3) (k:PK β):z5 call lp ZC [(3,.v a)] [] Q k=(
 bnP (zn a) fun c => 
 bnP (zc 0 c) fun d => 
 bnP (zc 12 d) fun e => 
 bnP (ldQ Q e) fun b => 
 bnP (jl b) fun f => 
 bnX (lp j5 [(3,.v a),(25,.v b),(26,.v f),(27,.v (.int .i64 0))] [] Q) (jd 0 (goC (z5 call lp Xz) k))):=by kernel_rfl
theorem z6Z {call:z8} {lp:z9} (c d e g h i j l m n o p q:AV) (Q:z3):z5 call lp z2a [(0,.v (.agg [c,d,e,g,h,i,j,l,m,n,o,p,q]))] [] Q (zp [.tmp 2] [.f 10])=(
 bnC 13 (stC 13 (.agg [c,d,e,g,h,i,j,l,m,n,o,p,q])) fun r u w x y z A B C D E F G => 
 bnS (call 38 [.agg [r,u,w,x,y,z,A,B,C,D,E,F,G]] Q) fun a b => 
 bnX (bnP (zn (frz a)) fun H => 
 bnP (zc 0 H) fun I => 
 bnP (zc 3 I) fun J => 
 bnP (ldQ b J) fun K => 
 bnP (zb .neq K (.int .i64 0)) fun L => 
 zr L (fun _=>bnP (zn (frz a)) fun M => 
 bnP (zc 0 M) fun N => 
 bnP (zc 3 N) fun O => 
 bnP (ldQ b O) fun P => 
 bnS (call 61 [(frz a),.int .i64 6,P,.int .i64 0] b) fun S R => 
 some (.normal,[(3,.v (frz a))],[],R))
 (fun _=>some (.normal,[(3,.v (frz a))],[],b)))
 (goC (z5 call lp ZC) (zp [.tmp 2] [.f 10]))):=by kernel_rfl
def z70 {s:zf} (hs:s.lookup 27=none) (a b c d e g h i j l m n o:AV) (Q:z3):=(zk (E:=z6 s) (f:=27) (fn:=wY) hs rfl [.agg [a,b,c,d,e,g,h,i,j,l,m,n,o]] Q rfl).trans (z6Z (call:=za (z6 s)) (lp:=zd (z6 s)) a b c d e g h i j l m n o Q)
theorem Zk {β:Type} (call:z8) (lp:z9) (b d e f g h i j l m n o p a:AV) (c:List AV) (Q:z3) (k:PK β):z5 call lp yg [(1,.lp 1 0),(3,.ls 3),(4,.v b)] [(1,.cells [d,e,f,g,h,i,j,l,m,n,o,p,a]),(3,.own 10 c)] Q k=(
 bnP (jl a) fun r => 
 bnP (zb .lss b r) fun u => 
 zr u (fun _=>bnP (elQ 3 a b) fun w => 
 bnP ((AV.cells w)[0]?) fun x => 
 bnS (call 45 [.agg [d,e,f,g,h,i,j,l,m,n,o,p,a],.int .i64 3,x] Q) fun q y => 
 pinB (wg 10 (frz q)) <| 
 pinB (room 104 ((c:List AV).length+(([(frz q)]:List AV):List AV).length)) <| 
 bnP (zb .add b (.int .i64 1)) fun z => 
 k .normal [(1,.lp 1 0),(3,.ls 3),(4,.v z)] [(1,.cells [d,e,f,g,h,i,j,l,m,n,o,p,a]),(3,.own 10 (c++([(frz q)]:List AV)))] y)
 (fun _=>k (.exit 0) [(3,.ls 3)] [(3,.own 10 c)] Q)):=by kernel_rfl
noncomputable def kp (s:zf) (a b c d e f g h i j l m n o:AV) (p:List AV) (Q:z3):Option xR:=zd (z6 s) yg [(1,.lp 1 0),(3,.ls 3),(4,.v a)] [(1,.cells [b,c,d,e,f,g,h,i,j,l,m,n,o]),(3,.own 10 p)] Q
theorem qz (s:zf) (a b c d e f g h i j l m n o:AV) (p:List AV) (Q:z3):zd (z6 s) yg [(1,.lp 1 0),(3,.ls 3),(4,.v a)] [(1,.cells [b,c,d,e,f,g,h,i,j,l,m,n,o]),(3,.own 10 p)] Q=kp s a b c d e f g h i j l m n o p Q:=rfl
theorem vE (s:zf) (a b c d e f g h i j l m n o:AV) (p:List AV) (Q:z3):kp s a b c d e f g h i j l m n o p Q=z5 (za (z6 s)) (zd (z6 s)) yg [(1,.lp 1 0),(3,.ls 3),(4,.v a)] [(1,.cells [b,c,d,e,f,g,h,i,j,l,m,n,o]),(3,.own 10 p)] Q (goX (fun τ ω Q=>zd (z6 s) yg τ ω Q) xi):=y4
abbrev XK (a:List AV) (Q:z3):Option xR:=some (.exit 0,[(3,.ls 3)],[(3,.own 10 a)],Q)
theorem Zl {β:Type} (call:z8) (lp:z9) (a:List AV) (Q:z3) (k:PK β):z5 call lp kj [(3,.ls 3)] [(3,.own 10 a)] Q k=(
 k .ret [(2,.ls 3),(33,.ls 3),(3,.ls 3)] [(3,.own 10 a)] Q):=by kernel_rfl
theorem Zm {β:Type} (call:z8) (lp:z9) (a b c d e f g h i j l m n:AV) (o:List AV) (Q:z3) (k:PK β):z5 call lp km [(1,.lp 1 0),(3,.ls 3)] [(1,.cells [a,b,c,d,e,f,g,h,i,j,l,m,n]),(3,.own 10 o)] Q k=(
 bnX (lp yg [(1,.lp 1 0),(3,.ls 3),(4,.v (.int .i64 0))] [(1,.cells [a,b,c,d,e,f,g,h,i,j,l,m,n]),(3,.own 10 o)] Q) (jd 0 (goC (z5 call lp kj) k))):=by kernel_rfl
theorem Vu {call:z8} {lp:z9} (q r u w x y z A B C D E F:AV) (Q:z3):z5 call lp Yi [(0,.v (.agg [q,r,u,w,x,y,z,A,B,C,D,E,F]))] [] Q (zp [.tmp 2] [.o 10])=(
 bnC 13 (stC 13 (.agg [q,r,u,w,x,y,z,A,B,C,D,E,F])) fun b c d a e f g h i j l m n => 
 bnX (bnP (zb .neq a (.int .i64 0)) fun G => 
 zr G (fun _=>bnS (call 45 [.agg [b,c,d,a,e,f,g,h,i,j,l,m,n],.int .i64 6,a] Q) fun p H => 
 pinB (wg 10 (frz p)) <| 
 pinB (room 104 (([(frz p)]:List AV):List AV).length) <| 
 some (.normal,[(1,.lp 1 0),(3,.ls 3)],[(1,.cells [b,c,d,a,e,f,g,h,i,j,l,m,n]),(3,.own 10 ([(frz p)]:List AV))],H))
 (fun _=>some (.normal,[(1,.lp 1 0),(3,.ls 3)],[(1,.cells [b,c,d,a,e,f,g,h,i,j,l,m,n]),(3,.own 10 ([]:List AV))],Q)))
 (goC (z5 call lp km) (zp [.tmp 2] [.o 10]))):=by kernel_rfl
def Vv {s:zf} (hs:s.lookup 28=none) (a b c d e g h i j l m n o:AV) (Q:z3):=(zk (E:=z6 s) (f:=28) (fn:=xI) hs rfl [.agg [a,b,c,d,e,g,h,i,j,l,m,n,o]] Q rfl).trans (Vu (call:=za (z6 s)) (lp:=zd (z6 s)) a b c d e g h i j l m n o Q)
theorem Z8 {β:Type} (call:z8) (lp:z9) (b c:AV) (Q:z3) (k:PK β):z5 call lp y9 [(0,.v b),(3,.v c)] [] Q k=(
 bnP (jl b) fun f => 
 bnP (zb .lss c f) fun g => 
 zr g (fun _=>bnP (elQ 1 b c) fun h => 
 bnP ((AV.cells h)[0]?) fun i => 
 bnP (zb .lss i (.int .i64 1)) fun d => 
 bnP (gdQ d false (some b)) fun j => 
 bnP (gdQ d false (some c)) fun l => 
 bnP (gdQ d false (elQ 1 j l)) fun m => 
 bnP (gdQ d false ((AV.cells m)[0]?)) fun n => 
 bnP (gdQ d false (zb .gtr n (.int .i64 8))) fun o => 
 bnP (zw d (.bool true) o) fun a => 
 bnP (gdQ a false (some b)) fun p => 
 bnP (gdQ a false (some c)) fun q => 
 bnP (gdQ a false (VC 1 p none (some q))) fun r => 
 bnP (gdQ a false (some b)) fun u => 
 bnP (gdQ a false (some c)) fun w => 
 bnP (gdQ a false (elQ 1 u w)) fun x => 
 bnP (gdQ a false ((AV.cells x)[0]?)) fun y => 
 bnS (gdH a false (call 32 [r,y] Q) Q) fun z e => 
 bnP (zw a (.bool true) (frz z)) fun A => 
 zr A (fun _=>k .ret [(2,.v (.bool false))] [] e)
 (fun _=>bnP (zb .add c (.int .i64 1)) fun B => 
 k .normal [(0,.v b),(3,.v B)] [] e))
 (fun _=>k (.exit 0) [] [] Q)):=by kernel_rfl
noncomputable def qb (s:zf) (a b:AV) (Q:z3):Option xR:=zd (z6 s) y9 [(0,.v a),(3,.v b)] [] Q
theorem x4 (s:zf) (a b:AV) (Q:z3):zd (z6 s) y9 [(0,.v a),(3,.v b)] [] Q=qb s a b Q:=rfl
theorem vh (s:zf) (a b:AV) (Q:z3):qb s a b Q=z5 (za (z6 s)) (zd (z6 s)) y9 [(0,.v a),(3,.v b)] [] Q (goX (fun τ ω Q=>zd (z6 s) y9 τ ω Q) xi):=y4
abbrev X9 (Q:z3):Option xR:=some (.exit 0,[],[],Q)
abbrev YR (a:AV) (Q:z3):Option xR:=some (.ret,[(2,.v a)],[],Q)
theorem Jm {β:Type} (call:z8) (lp:z9) (Q:z3) (k:PK β):z5 call lp jI [] [] Q k=(
 k .ret [(2,.v (.bool true))] [] Q):=by kernel_rfl
theorem KD {call:z8} {lp:z9} (a:AV) (Q:z3):z5 call lp ZQ [(0,.v a)] [] Q (zp [.tmp 2] [.n])=(
 bnP (jl a) fun d => 
 bnP (zb .lss d (.int .i64 1)) fun c => 
 bnP (gdQ c false (some a)) fun e => 
 bnP (gdQ c false (jl e)) fun f => 
 bnP (gdQ c false (zb .gtr f (.int .i64 10))) fun g => 
 bnP (zw c (.bool true) g) fun b => 
 bnP (gdQ b false (some a)) fun h => 
 bnP (gdQ b false (elQ 1 h (.int .i64 0))) fun i => 
 bnP (gdQ b false ((AV.cells i)[0]?)) fun j => 
 bnP (gdQ b false (zb .neq j (.int .i64 1))) fun l => 
 bnP (zw b (.bool true) l) fun m => 
 zr m (fun _=>some (.bool false,Q))
 (fun _=>bnX (lp y9 [(0,.v a),(3,.v (.int .i64 0))] [] Q) (jd 0 (goC (z5 call lp jI) (zp [.tmp 2] [.n]))))):=by kernel_rfl
def KE {s:zf} (hs:s.lookup 29=none) (a:AV) (Q:z3):=(zk (E:=z6 s) (f:=29) (fn:=xu) hs rfl [a] Q rfl).trans (KD (call:=za (z6 s)) (lp:=zd (z6 s)) a Q)
theorem YS {β:Type} (call:z8) (lp:z9) (a c b:AV) (Q:z3) (k:PK β):z5 call lp yU [(0,.v a),(1,.v c),(5,.v b)] [] Q k=(
 bnP (jl a) fun d => 
 bnP (zb .lss b d) fun e => 
 zr e (fun _=>bnP (elQ 1 a b) fun f => 
 bnP ((AV.cells f)[0]?) fun g => 
 bnP (zb .eql g c) fun h => 
 zr h (fun _=>k .ret [(4,.v (.bool true))] [] Q)
 (fun _=>bnP (zb .add b (.int .i64 1)) fun i => 
 k .normal [(0,.v a),(1,.v c),(5,.v i)] [] Q))
 (fun _=>k (.exit 0) [] [] Q)):=by kernel_rfl
noncomputable def vZ (s:zf) (a b c:AV) (Q:z3):Option xR:=zd (z6 s) yU [(0,.v a),(1,.v b),(5,.v c)] [] Q
theorem jz (s:zf) (a b c:AV) (Q:z3):zd (z6 s) yU [(0,.v a),(1,.v b),(5,.v c)] [] Q=vZ s a b c Q:=rfl
theorem Zn (s:zf) (a b c:AV) (Q:z3):vZ s a b c Q=z5 (za (z6 s)) (zd (z6 s)) yU [(0,.v a),(1,.v b),(5,.v c)] [] Q (goX (fun τ ω Q=>zd (z6 s) yU τ ω Q) xi):=y4
abbrev JY (Q:z3):Option xR:=some (.exit 0,[],[],Q)
abbrev Jn (a:AV) (Q:z3):Option xR:=some (.ret,[(4,.v a)],[],Q)
theorem Wu {β:Type} (call:z8) (lp:z9) (Q:z3) (k:PK β):z5 call lp vU [] [] Q k=(
 k .ret [(4,.v (.bool false))] [] Q):=by kernel_rfl
theorem z1r {call:z8} {lp:z9} (a b:AV) (Q:z3):z5 call lp XV [(0,.v a),(1,.v b)] [] Q (zp [.tmp 4] [.n])=(
 bnX (lp yU [(0,.v a),(1,.v b),(5,.v (.int .i64 0))] [] Q) (jd 0 (goC (z5 call lp vU) (zp [.tmp 4] [.n])))):=by kernel_rfl
def z1s {s:zf} (hs:s.lookup 32=none) (a b:AV) (Q:z3):=(zk (E:=z6 s) (f:=32) (fn:=qQ) hs rfl [a,b] Q rfl).trans (z1r (call:=za (z6 s)) (lp:=zd (z6 s)) a b Q)
theorem Ym {β:Type} (call:z8) (lp:z9) (a c b d e f:AV) (Q:z3) (k:PK β):z5 call lp yF [(0,.v a),(1,.v c),(4,.lp 4 0),(6,.v b)] [(4,.cells [d,e,f])] Q k=(
 bnP (jl a) fun g => 
 bnP (zb .lss b g) fun h => 
 zr h (fun _=>bnP (elQ 3 a b) fun i => 
 bnP ((AV.cells i)[0]?) fun j => 
 bnP (zb .eql j c) fun l => 
 zr l (fun _=>bnP (elQ 3 a b) fun m => 
 bnC 3 (cut (AV.cells m) 0 3) fun n o p => 
 bnC 3 (stC 3 (.agg [n,o,p])) fun q r u => 
 k .ret [(4,.lp 4 0),(5,.v (.bool true))] [(4,.cells [q,r,u])] Q)
 (fun _=>bnP (zb .add b (.int .i64 1)) fun w => 
 k .normal [(0,.v a),(1,.v c),(4,.lp 4 0),(6,.v w)] [(4,.cells [d,e,f])] Q))
 (fun _=>k (.exit 0) [(4,.lp 4 0)] [(4,.cells [d,e,f])] Q)):=by kernel_rfl
noncomputable def vt (s:zf) (a b c d e f:AV) (Q:z3):Option xR:=zd (z6 s) yF [(0,.v a),(1,.v b),(4,.lp 4 0),(6,.v c)] [(4,.cells [d,e,f])] Q
theorem vF (s:zf) (a b c d e f:AV) (Q:z3):zd (z6 s) yF [(0,.v a),(1,.v b),(4,.lp 4 0),(6,.v c)] [(4,.cells [d,e,f])] Q=vt s a b c d e f Q:=rfl
theorem Z9 (s:zf) (a b c d e f:AV) (Q:z3):vt s a b c d e f Q=z5 (za (z6 s)) (zd (z6 s)) yF [(0,.v a),(1,.v b),(4,.lp 4 0),(6,.v c)] [(4,.cells [d,e,f])] Q (goX (fun τ ω Q=>zd (z6 s) yF τ ω Q) xi):=y4
theorem Vw {β:Type} (call:z8) (lp:z9) (a b c:AV) (Q:z3) (k:PK β):z5 call lp vm [(4,.lp 4 0)] [(4,.cells [a,b,c])] Q k=(
 k .ret [(5,.v (.bool false)),(24,.v (.agg [.int .i64 0,.int .i64 0,.int .i64 0])),(4,.lp 4 0)] [(4,.cells [.int .i64 0,.int .i64 0,.int .i64 0])] Q):=by kernel_rfl
theorem z0m {call:z8} {lp:z9} (a b:AV) (Q:z3):z5 call lp Xg [(0,.v a),(1,.v b)] [] Q (zp [.cell 4 (some 3),.tmp 5] [.n,.n])=(
 bnX (lp yF [(0,.v a),(1,.v b),(4,.lp 4 0),(6,.v (.int .i64 0))] [(4,.cells [.int .i64 0,.int .i64 0,.int .i64 0])] Q) (jd 0 (goC (z5 call lp vm) (zp [.cell 4 (some 3),.tmp 5] [.n,.n])))):=by kernel_rfl
def z0n {s:zf} (hs:s.lookup 34=none) (a b:AV) (Q:z3):=(zk (E:=z6 s) (f:=34) (fn:=ql) hs rfl [a,b] Q rfl).trans (z0m (call:=za (z6 s)) (lp:=zd (z6 s)) a b Q)
theorem KF {call:z8} {lp:z9} (c a:AV) (Q:z3):z5 call lp ZR [(0,.v c),(1,.v a)] [] Q (zp [.tmp 4,.tmp 5] [.f 1,.n])=(
 bnL (Ju [] 1 (.v c)) fun b => 
 pinB (room 8 ((([]:List AV):List AV).length+(b:List AV).length)) <| 
 pinB (wg 1 a) <| 
 pinB (room 8 (((([]:List AV)++b):List AV).length+(([a]:List AV):List AV).length)) <| 
 bnS (call 29 [.fz 1 ((([]:List AV)++b)++([a]:List AV))] ⟨Q.size,.leaf⟩) fun d _=>pinB (Zp d) <| 
 bnP (unA .not d) fun e => 
 zr e (fun _=>some (.tup [.fz 1 [],.bool false],Q))
 (fun _=>some (.tup [.fz 1 ((([]:List AV)++b)++([a]:List AV)),.bool true],Q))):=by kernel_rfl
def Y1 {s:zf} (hs:s.lookup 35=none) (a b:AV) (Q:z3):=(zk (E:=z6 s) (f:=35) (fn:=xw) hs rfl [a,b] Q rfl).trans (KF (call:=za (z6 s)) (lp:=zd (z6 s)) a b Q)
theorem wz {β:Type} (call:z8) (lp:z9) (b c a:AV) (Q:z3) (k:PK β):z5 call lp zY [(0,.v b),(1,.v c),(5,.v a)] [] Q k=(
 bnP (jl b) fun d => 
 bnP (zb .lss a d) fun e => 
 zr e (fun _=>bnP (elQ 1 b a) fun f => 
 bnP ((AV.cells f)[0]?) fun g => 
 bnP (elQ 1 c a) fun h => 
 bnP ((AV.cells h)[0]?) fun i => 
 bnP (zb .neq g i) fun j => 
 zr j (fun _=>k .ret [(4,.v (.bool false))] [] Q)
 (fun _=>bnP (zb .add a (.int .i64 1)) fun l => 
 k .normal [(0,.v b),(1,.v c),(5,.v l)] [] Q))
 (fun _=>k (.exit 0) [] [] Q)):=by kernel_rfl
noncomputable def jA (s:zf) (a b c:AV) (Q:z3):Option xR:=zd (z6 s) zY [(0,.v a),(1,.v b),(5,.v c)] [] Q
theorem jS (s:zf) (a b c:AV) (Q:z3):zd (z6 s) zY [(0,.v a),(1,.v b),(5,.v c)] [] Q=jA s a b c Q:=rfl
theorem kQ (s:zf) (a b c:AV) (Q:z3):jA s a b c Q=z5 (za (z6 s)) (zd (z6 s)) zY [(0,.v a),(1,.v b),(5,.v c)] [] Q (goX (fun τ ω Q=>zd (z6 s) zY τ ω Q) xi):=y4
abbrev YT (Q:z3):Option xR:=some (.exit 0,[],[],Q)
theorem Qr {β:Type} (call:z8) (lp:z9) (Q:z3) (k:PK β):z5 call lp js [] [] Q k=(
 k .ret [(4,.v (.bool true))] [] Q):=by kernel_rfl
theorem JZ {call:z8} {lp:z9} (a b:AV) (Q:z3):z5 call lp Zh [(0,.v a),(1,.v b)] [] Q (zp [.tmp 4] [.n])=(
 bnP (jl a) fun c => 
 bnP (jl b) fun d => 
 bnP (zb .neq c d) fun e => 
 zr e (fun _=>some (.bool false,Q))
 (fun _=>bnX (lp zY [(0,.v a),(1,.v b),(5,.v (.int .i64 0))] [] Q) (jd 0 (goC (z5 call lp js) (zp [.tmp 4] [.n]))))):=by kernel_rfl
def K0 {s:zf} (hs:s.lookup 36=none) (a b:AV) (Q:z3):=(zk (E:=z6 s) (f:=36) (fn:=xe) hs rfl [a,b] Q rfl).trans (JZ (call:=za (z6 s)) (lp:=zd (z6 s)) a b Q)
theorem wA {β:Type} (call:z8) (lp:z9) (b c a:AV) (Q:z3) (k:PK β):z5 call lp zZ [(0,.v b),(1,.v c),(5,.v a)] [] Q k=(
 bnP (jl b) fun d => 
 bnP (zb .lss a d) fun e => 
 zr e (fun _=>bnP (elQ 3 b a) fun f => 
 bnC 3 (cut (AV.cells f) 0 3) fun g h j => 
 bnP (elQ 3 c a) fun l => 
 bnC 3 (cut (AV.cells l) 0 3) fun m n o => 
 bnP (JB true (.st [(0,1,.i),(1,1,.i),(2,1,.i)]) (.agg [g,h,j]) (.agg [m,n,o])) fun p => 
 zr p (fun _=>k .ret [(4,.v (.bool false))] [] Q)
 (fun _=>bnP (zb .add a (.int .i64 1)) fun q => 
 k .normal [(0,.v b),(1,.v c),(5,.v q)] [] Q))
 (fun _=>k (.exit 0) [] [] Q)):=by kernel_rfl
noncomputable def jB (s:zf) (a b c:AV) (Q:z3):Option xR:=zd (z6 s) zZ [(0,.v a),(1,.v b),(5,.v c)] [] Q
theorem jT (s:zf) (a b c:AV) (Q:z3):zd (z6 s) zZ [(0,.v a),(1,.v b),(5,.v c)] [] Q=jB s a b c Q:=rfl
theorem kR (s:zf) (a b c:AV) (Q:z3):jB s a b c Q=z5 (za (z6 s)) (zd (z6 s)) zZ [(0,.v a),(1,.v b),(5,.v c)] [] Q (goX (fun τ ω Q=>zd (z6 s) zZ τ ω Q) xi):=y4
abbrev YU (Q:z3):Option xR:=some (.exit 0,[],[],Q)
theorem Qs {β:Type} (call:z8) (lp:z9) (Q:z3) (k:PK β):z5 call lp jt [] [] Q k=(
 k .ret [(4,.v (.bool true))] [] Q):=by kernel_rfl
theorem K2 {call:z8} {lp:z9} (a b:AV) (Q:z3):z5 call lp Zi [(0,.v a),(1,.v b)] [] Q (zp [.tmp 4] [.n])=(
 bnP (jl a) fun c => 
 bnP (jl b) fun d => 
 bnP (zb .neq c d) fun e => 
 zr e (fun _=>some (.bool false,Q))
 (fun _=>bnX (lp zZ [(0,.v a),(1,.v b),(5,.v (.int .i64 0))] [] Q) (jd 0 (goC (z5 call lp jt) (zp [.tmp 4] [.n]))))):=by kernel_rfl
def K3 {s:zf} (hs:s.lookup 37=none) (a b:AV) (Q:z3):=(zk (E:=z6 s) (f:=37) (fn:=xf) hs rfl [a,b] Q rfl).trans (K2 (call:=za (z6 s)) (lp:=zd (z6 s)) a b Q)
theorem zbS {call:z8} {lp:z9} (a b c d e f g h i j l m o:AV) (Q:z3):z5 call lp z6K [(0,.v (.agg [a,b,c,d,e,f,g,h,i,j,l,m,o]))] [] Q (zp [.tmp 2] [.n])=(
 bnC 13 (stC 13 (.agg [a,b,c,d,e,f,g,h,i,j,l,m,o])) fun p q r u w x y z A B C D E => 
 bnS (call 64 [y] Q) fun F G => 
 bnS (call 65 [E] G) fun H I => 
 bnC 1 (stC 1 (frz F)) fun J => 
 bnC 1 (stC 1 (frz H)) fun K => 
 bnS (KZ I (AV.cells (.agg [p,q,r,u,w,x,J,z,A,B,C,D,K,.nils]))) fun L M => 
 bnP (rcv false .n L) fun N=>some (N,M)):=by kernel_rfl
def zbT {s:zf} (hs:s.lookup 38=none) (a b c d e g h i j l m n o:AV) (Q:z3):=(zk (E:=z6 s) (f:=38) (fn:=XW) hs rfl [.agg [a,b,c,d,e,g,h,i,j,l,m,n,o]] Q rfl).trans (zbS (call:=za (z6 s)) (lp:=zd (z6 s)) a b c d e g h i j l m n o Q)
theorem z5P {call:z8} {lp:z9} (a b:AV) (Q:z3):z5 call lp z05 [(0,.v a),(1,.v b)] [] Q (zp [.tmp 4] [.f 3])=(
 bnC 1 (stC 1 b) fun c => 
 bnS (call 65 [a] Q) fun d e=>bnL (owZ 3 d) fun g => 
 bnS (call 1000066 [.ow 3 g,.fn 67 [] [.cp [c] 0]] e) fun h i => 
 bnP (rcv false (.f 3) (frz h)) fun j=>some (j,i)):=by kernel_rfl
def z5Q {s:zf} (hs:s.lookup 39=none) (a b:AV) (Q:z3):=(zk (E:=z6 s) (f:=39) (fn:=vy) hs rfl [a,b] Q rfl).trans (z5P (call:=za (z6 s)) (lp:=zd (z6 s)) a b Q)
theorem z2D {call:z8} {lp:z9} (a b:AV) (Q:z3):z5 call lp JJ [(0,.v a),(1,.v b)] [] Q (zp [] [])=(
 bnP (zn a) fun c => 
 bnP (zc 0 c) fun d => 
 bnP (zc 3 d) fun e => 
 bnS (stA Q 1 e (.int .i64 0)) fun _ f => 
 bnP (zn a) fun g => 
 bnP (zc 0 g) fun h => 
 bnP (zc 4 h) fun i => 
 bnS (stA f 1 i (.int .i64 0)) fun _ j => 
 bnP (zn a) fun l => 
 bnP (zc 0 l) fun m => 
 bnP (zc 6 m) fun n => 
 bnS (stA j 1 n .nils) fun _ o => 
 bnP (zn a) fun p => 
 bnP (zc 0 p) fun q => 
 bnP (zc 9 q) fun r => 
 bnS (stA o 1 r (.int .i64 0)) fun _ u => 
 bnP (zn a) fun w => 
 bnP (zc 0 w) fun x => 
 bnP (zc 11 x) fun y => 
 bnS (stA u 1 y b) fun _ z => 
 some (.tup [],z)):=by kernel_rfl
def z2E {s:zf} (hs:s.lookup 40=none) (a b:AV) (Q:z3):=(zk (E:=z6 s) (f:=40) (fn:=ju) hs rfl [a,b] Q rfl).trans (z2D (call:=za (z6 s)) (lp:=zd (z6 s)) a b Q)
theorem kA {β:Type} (call:z8) (lp:z9) (a:AV) (Q:z3) (k:PK β):z5 call lp wZ [(0,.v a)] [] Q k=(
 bnP (zn a) fun b => 
 bnP (zc 0 b) fun c => 
 bnP (zc 2 c) fun d => 
 bnP (ldQ Q d) fun e => 
 bnP (zb .add e (.int .i64 3)) fun f => 
 bnP (zn a) fun g => 
 bnP (zc 0 g) fun h => 
 bnP (zc 10 h) fun i => 
 bnS (stA Q 1 i f) fun _ j => 
 bnP (zn a) fun l => 
 bnP (zc 0 l) fun m => 
 bnP (zc 9 m) fun n => 
 bnP (ldQ j n) fun o => 
 bnS (call 61 [a,.int .i64 1,o,.int .i64 0] j) fun p q => 
 k .normal [(110,.v (frz p)),(109,.v o),(108,.v n),(107,.v m),(106,.v l),(105,.v a),(104,.v a),(103,.v i),(102,.v h),(101,.v g),(100,.v f),(99,.v e),(98,.v d),(97,.v c),(96,.v b),(95,.v a),(94,.v a),(0,.v a)] [] q):=by kernel_rfl
theorem Xq {β:Type} (call:z8) (lp:z9) (a:AV) (Q:z3) (k:PK β):z5 call lp kx [(0,.v a)] [] Q k=(
 bnP (zn a) fun e => 
 bnP (zc 0 e) fun f => 
 bnP (zc 9 f) fun g => 
 bnP (ldQ Q g) fun h => 
 bnP (zb .neq h (.int .i64 0)) fun i => 
 zr i (fun _=>k .ret [(53,.v i),(52,.v h),(51,.v g),(50,.v f),(49,.v e),(48,.v a),(0,.v a)] [] Q)
 (fun _=>bnP (zn a) fun j => 
 bnP (zc 0 j) fun l => 
 bnP (zc 9 l) fun m => 
 bnS (stA Q 1 m (.int .i64 1)) fun _ c => 
 bnX (bnP (zn a) fun n => 
 bnP (zc 0 n) fun o => 
 bnP (zc 11 o) fun p => 
 bnP (ldQ c p) fun q => 
 bnP (zb .eql q (.int .i64 0)) fun d => 
 bnP (gdQ d true (some a)) fun r => 
 bnP (gdQ d true (zn r)) fun u => 
 bnP (gdQ d true (zc 0 u)) fun w => 
 bnP (gdQ d true (zc 5 w)) fun x => 
 bnP (gdQ d true (ldQ c x)) fun y => 
 bnP (gdQ d true (zb .neq y (.int .i64 0))) fun z => 
 bnP (zw d z (.bool false)) fun b => 
 bnP (gdQ b true (some a)) fun A => 
 bnP (gdQ b true (zn A)) fun B => 
 bnP (gdQ b true (zc 0 B)) fun C => 
 bnP (gdQ b true (zc 5 C)) fun D => 
 bnP (gdQ b true (ldQ c D)) fun E => 
 bnP (gdQ b true (some a)) fun F => 
 bnP (gdQ b true (zn F)) fun G => 
 bnP (gdQ b true (zc 0 G)) fun H => 
 bnP (gdQ b true (zc 0 H)) fun I => 
 bnP (gdQ b true (ldQ c I)) fun J => 
 bnP (gdQ b true (zb .neq E J)) fun K => 
 bnP (zw b K (.bool false)) fun L => 
 zr L (fun _=>bnP (zn a) fun M => 
 bnP (zc 0 M) fun N => 
 bnP (zc 5 N) fun O => 
 bnP (ldQ c O) fun P => 
 bnP (zn a) fun R => 
 bnP (zc 0 R) fun S => 
 bnP (zc 9 S) fun T => 
 bnS (stA c 1 T P) fun _ U => 
 some (.normal,[(0,.v a)],[],U))
 (fun _=>some (.normal,[(0,.v a)],[],c)))
 (goC (z5 call lp wZ) k))):=by kernel_rfl
theorem z2F {call:z8} {lp:z9} (b:AV) (Q:z3):z5 call lp JK [(0,.v b)] [] Q (zp [] [])=(
 bnP (zn b) fun e => 
 bnP (zc 0 e) fun f => 
 bnP (zc 0 f) fun g => 
 bnP (ldQ Q g) fun h => 
 bnP (zb .eql h (.int .i64 1)) fun c => 
 bnP (gdQ c false (some b)) fun i => 
 bnP (gdQ c false (zn i)) fun j => 
 bnP (gdQ c false (zc 0 j)) fun l => 
 bnP (gdQ c false (zc 3 l)) fun m => 
 bnP (gdQ c false (ldQ Q m)) fun n => 
 bnP (gdQ c false (zb .neq n (.int .i64 0))) fun o => 
 bnP (zw c (.bool true) o) fun p => 
 zr p (fun _=>some (.tup [],Q))
 (fun _=>bnX (bnP (zn b) fun q => 
 bnP (zc 0 q) fun r => 
 bnP (zc 9 r) fun u => 
 bnP (ldQ Q u) fun w => 
 bnP (zb .neq w (.int .i64 0)) fun a => 
 bnP (gdQ a true (some b)) fun x => 
 bnP (gdQ a true (zn x)) fun y => 
 bnP (gdQ a true (zc 0 y)) fun z => 
 bnP (gdQ a true (zc 2 z)) fun A => 
 bnP (gdQ a true (ldQ Q A)) fun B => 
 bnP (gdQ a true (some b)) fun C => 
 bnP (gdQ a true (zn C)) fun D => 
 bnP (gdQ a true (zc 0 D)) fun E => 
 bnP (gdQ a true (zc 10 E)) fun F => 
 bnP (gdQ a true (ldQ Q F)) fun G => 
 bnP (gdQ a true (zb .geq B G)) fun H => 
 bnP (zw a H (.bool false)) fun I => 
 zr I (fun _=>bnP (zn b) fun J => 
 bnP (zc 0 J) fun K => 
 bnP (zc 9 K) fun L => 
 bnS (stA Q 1 L (.int .i64 0)) fun _ d => 
 bnP (zn b) fun M => 
 bnP (zc 0 M) fun N => 
 bnP (zc 11 N) fun O => 
 bnP (ldQ d O) fun P => 
 bnP (zb .add P (.int .i64 1)) fun R => 
 bnP (zn b) fun S => 
 bnP (zc 0 S) fun T => 
 bnP (zc 11 T) fun U => 
 bnS (stA d 1 U R) fun _ V => 
 some (.normal,[(0,.v b)],[],V))
 (fun _=>some (.normal,[(0,.v b)],[],Q)))
 (goC (z5 call lp kx) (zp [] [])))):=by kernel_rfl
def z2G {s:zf} (hs:s.lookup 41=none) (a:AV) (Q:z3):=(zk (E:=z6 s) (f:=41) (fn:=jv) hs rfl [a] Q rfl).trans (z2F (call:=za (z6 s)) (lp:=zd (z6 s)) a Q)
theorem YV {β:Type} (call:z8) (lp:z9) (a b c d:AV) (Q:z3) (k:PK β):z5 call lp vV [(0,.v a),(28,.v b),(29,.v c),(30,.v d)] [] Q k=(
 bnP (zb .add d (.int .i64 1)) fun e => 
 k .normal [(0,.v a),(28,.v b),(29,.v c),(30,.v e)] [] Q):=by kernel_rfl
theorem YW {β:Type} (call:z8) (lp:z9) (a c d b:AV) (Q:z3) (k:PK β):z5 call lp yV [(0,.v a),(28,.v c),(29,.v d),(30,.v b)] [] Q k=(
 bnP (zb .lss b d) fun f => 
 zr f (fun _=>bnX (bnX (bnP (elQ 3 c b) fun g => 
 bnC 3 (cut (AV.cells g) 0 3) fun h i j => 
 bnC 3 (stC 3 (.agg [h,i,j])) fun l G H => 
 bnP (zn a) fun m => 
 bnP (zc 0 m) fun n => 
 bnC 13 (yd Q 13 n) fun o p q r u w x y z A B C D => 
 bnS (call 25 [.agg [o,p,q,r,u,w,x,y,z,A,B,C,D]] Q) fun E e => 
 zr (frz E) (fun _=>bnS (call 61 [a,.int .i64 5,l,.int .i64 0] e) fun I F => 
 some (.normal,[(0,.v a),(28,.v c),(29,.v d),(30,.v b)],[],F))
 (fun _=>some (.normal,[(0,.v a),(28,.v c),(29,.v d),(30,.v b)],[],e)))
 (jd 1 xi))
 (goC (z5 call lp vV) k))
 (fun _=>k (.exit 0) [] [] Q)):=by kernel_rfl
noncomputable def w8 (s:zf) (a b c d:AV) (Q:z3):Option xR:=zd (z6 s) yV [(0,.v a),(28,.v b),(29,.v c),(30,.v d)] [] Q
theorem xM (s:zf) (a b c d:AV) (Q:z3):zd (z6 s) yV [(0,.v a),(28,.v b),(29,.v c),(30,.v d)] [] Q=w8 s a b c d Q:=rfl
theorem Zo (s:zf) (a b c d:AV) (Q:z3):w8 s a b c d Q=z5 (za (z6 s)) (zd (z6 s)) yV [(0,.v a),(28,.v b),(29,.v c),(30,.v d)] [] Q (goX (fun τ ω Q=>zd (z6 s) yV τ ω Q) xi):=y4
abbrev K4 (Q:z3):Option xR:=some (.exit 0,[],[],Q)
theorem YX {β:Type} (call:z8) (lp:z9) (a:AV) (Q:z3) (k:PK β):z5 call lp vW [(0,.v a)] [] Q k=(
 bnP (zn a) fun c => 
 bnP (zc 0 c) fun d => 
 bnP (zc 12 d) fun e => 
 bnP (ldQ Q e) fun b => 
 bnP (jl b) fun f => 
 bnX (lp yV [(0,.v a),(28,.v b),(29,.v f),(30,.v (.int .i64 0))] [] Q) (jd 0 k)):=by kernel_rfl
theorem z1t {call:z8} {lp:z9} (a:AV) (Q:z3):z5 call lp XX [(0,.v a)] [] Q (zp [] [])=(
 bnP (zn a) fun b => 
 bnP (zc 0 b) fun c => 
 bnP (zc 2 c) fun d => 
 bnP (ldQ Q d) fun e => 
 bnP (zb .rem e (.int .i64 2)) fun f => 
 bnP (zb .neq f (.int .i64 0)) fun g => 
 zr g (fun _=>some (.tup [],Q))
 (fun _=>bnX (bnP (zn a) fun h => 
 bnP (zc 0 h) fun i => 
 bnP (zc 3 i) fun j => 
 bnP (ldQ Q j) fun l => 
 bnP (zb .neq l (.int .i64 0)) fun m => 
 zr m (fun _=>bnP (zn a) fun n => 
 bnP (zc 0 n) fun o => 
 bnP (zc 3 o) fun p => 
 bnP (ldQ Q p) fun q => 
 bnS (call 61 [a,.int .i64 4,q,.int .i64 0] Q) fun u r => 
 some (.normal,[(0,.v a)],[],r))
 (fun _=>some (.normal,[(0,.v a)],[],Q)))
 (goC (z5 call lp vW) (zp [] [])))):=by kernel_rfl
def z1u {s:zf} (hs:s.lookup 42=none) (a:AV) (Q:z3):=(zk (E:=z6 s) (f:=42) (fn:=qR) hs rfl [a] Q rfl).trans (z1t (call:=za (z6 s)) (lp:=zd (z6 s)) a Q)
theorem Y2 {β:Type} (call:z8) (lp:z9) (a b c:AV) (d:List AV) (Q:z3) (k:PK β):z5 call lp kM [(0,.v a),(1,.v b),(5,.ls 5),(6,.v c)] [(5,.own 3 d)] Q k=(
 bnP (zb .add c (.int .i64 1)) fun e => 
 k .normal [(0,.v a),(1,.v b),(5,.ls 5),(6,.v e)] [(5,.own 3 d)] Q):=by kernel_rfl
theorem Y3 {β:Type} (call:z8) (lp:z9) (a d b:AV) (c:List AV) (Q:z3) (k:PK β):z5 call lp yq [(0,.v a),(1,.v d),(5,.ls 5),(6,.v b)] [(5,.own 3 c)] Q k=(
 bnP (jl a) fun h => 
 bnP (zb .lss b h) fun i => 
 zr i (fun _=>bnX (bnX (bnP (elQ 3 a b) fun j => 
 bnP ((AV.cells j)[2]?) fun l => 
 bnP (zb .sub d l) fun m => 
 bnP (zb .leq m (.int .i64 20)) fun n => 
 zr n (fun _=>bnP (elQ 3 a b) fun o => 
 bnC 3 (cut (AV.cells o) 0 3) fun e f g => 
 pinB (wg 3 (.agg [e,f,g])) <| 
 pinB (room 24 ((c:List AV).length+(([.agg [e,f,g]]:List AV):List AV).length)) <| 
 some (.normal,[(0,.v a),(1,.v d),(5,.ls 5),(6,.v b)],[(5,.own 3 (c++([.agg [e,f,g]]:List AV)))],Q))
 (fun _=>some (.normal,[(0,.v a),(1,.v d),(5,.ls 5),(6,.v b)],[(5,.own 3 c)],Q)))
 (jd 1 xi))
 (goC (z5 call lp kM) k))
 (fun _=>k (.exit 0) [(5,.ls 5)] [(5,.own 3 c)] Q)):=by kernel_rfl
noncomputable def kS (s:zf) (a b c:AV) (d:List AV) (Q:z3):Option xR:=zd (z6 s) yq [(0,.v a),(1,.v b),(5,.ls 5),(6,.v c)] [(5,.own 3 d)] Q
theorem qK (s:zf) (a b c:AV) (d:List AV) (Q:z3):zd (z6 s) yq [(0,.v a),(1,.v b),(5,.ls 5),(6,.v c)] [(5,.own 3 d)] Q=kS s a b c d Q:=rfl
theorem wB (s:zf) (a b c:AV) (d:List AV) (Q:z3):kS s a b c d Q=z5 (za (z6 s)) (zd (z6 s)) yq [(0,.v a),(1,.v b),(5,.ls 5),(6,.v c)] [(5,.own 3 d)] Q (goX (fun τ ω Q=>zd (z6 s) yq τ ω Q) xi):=y4
abbrev Qt (a:List AV) (Q:z3):Option xR:=some (.exit 0,[(5,.ls 5)],[(5,.own 3 a)],Q)
theorem KG {β:Type} (call:z8) (lp:z9) (a:List AV) (Q:z3) (k:PK β):z5 call lp kN [(5,.ls 5)] [(5,.own 3 a)] Q k=(
 k .ret [(4,.ls 5),(28,.ls 5),(5,.ls 5)] [(5,.own 3 a)] Q):=by kernel_rfl
theorem Wv {call:z8} {lp:z9} (a b:AV) (Q:z3):z5 call lp YJ [(0,.v a),(1,.v b)] [] Q (zp [.tmp 4] [.o 3])=(
 bnX (lp yq [(0,.v a),(1,.v b),(5,.ls 5),(6,.v (.int .i64 0))] [(5,.own 3 ([]:List AV))] Q) (jd 0 (goC (z5 call lp kN) (zp [.tmp 4] [.o 3])))):=by kernel_rfl
def Ww {s:zf} (hs:s.lookup 43=none) (a b:AV) (Q:z3):=(zk (E:=z6 s) (f:=43) (fn:=xU) hs rfl [a,b] Q rfl).trans (Wv (call:=za (z6 s)) (lp:=zd (z6 s)) a b Q)
theorem z0o {call:z8} {lp:z9} (a b c d e f g h i j l m o p:AV) (Q:z3):z5 call lp Xh [(0,.v (.agg [a,b,c,d,e,f,g,h,i,j,l,m,o])),(1,.v p)] [] Q (zp [.cell 4 (some 13)] [.n])=(
 bnC 13 (stC 13 (.agg [a,b,c,d,e,f,g,h,i,j,l,m,o])) fun q r u P R w S x y T z U A => 
 bnC 1 (stC 1 p) fun B => 
 bnC 13 (stC 13 (.agg [q,r,u,.int .i64 0,.int .i64 0,w,.nils,x,y,.int .i64 0,z,B,A])) fun C D E F G H I J K L M N O => 
 some (.agg [C,D,E,F,G,H,I,J,K,L,M,N,O],Q)):=by kernel_rfl
def z0p {s:zf} (hs:s.lookup 44=none) (a b c d e g h i j l m n o p:AV) (Q:z3):=(zk (E:=z6 s) (f:=44) (fn:=qm) hs rfl [.agg [a,b,c,d,e,g,h,i,j,l,m,n,o],p] Q rfl).trans (z0o (call:=za (z6 s)) (lp:=zd (z6 s)) a b c d e g h i j l m n o p Q)
theorem Wx {call:z8} {lp:z9} (a b c d e f g h i j l m o p q:AV) (Q:z3):z5 call lp YK [(0,.v (.agg [a,b,c,d,e,f,g,h,i,j,l,m,o])),(1,.v p),(2,.v q)] [] Q (zp [.cell 6 (some 10)] [.n])=(
 bnC 13 (stC 13 (.agg [a,b,c,d,e,f,g,h,i,j,l,m,o])) fun r u R S T U V W X Y Z aa ab => 
 bnC 10 (wC [.int .i64 0,.int .i64 0,.int .i64 0,.int .i64 0,.int .i64 0,.int .i64 0,.nils,.int .i64 0,.int .i64 0,.str []] [(0,1,p),(1,1,r),(2,1,q),(3,1,u)]) fun w x y z A B C D E F => 
 bnC 10 (stC 10 (.agg [w,x,y,z,A,B,C,D,E,F])) fun G H I J K L M N O P => 
 some (.agg [G,H,I,J,K,L,M,N,O,P],Q)):=by kernel_rfl
def Wy {s:zf} (hs:s.lookup 45=none) (a b c d e g h i j l m n o p q:AV) (Q:z3):=(zk (E:=z6 s) (f:=45) (fn:=xV) hs rfl [.agg [a,b,c,d,e,g,h,i,j,l,m,n,o],p,q] Q rfl).trans (Wx (call:=za (z6 s)) (lp:=zd (z6 s)) a b c d e g h i j l m n o p q Q)
theorem Wz {call:z8} {lp:z9} (a b c d e f g h i j l m o p q:AV) (Q:z3):z5 call lp YL [(0,.v (.agg [a,b,c,d,e,f,g,h,i,j,l,m,o])),(1,.v p),(2,.v q)] [] Q (zp [.cell 6 (some 10)] [.n])=(
 bnC 13 (stC 13 (.agg [a,b,c,d,e,f,g,h,i,j,l,m,o])) fun z A r B C D u w x E F G H => 
 bnS (call 45 [.agg [z,A,r,B,C,D,u,w,x,E,F,G,H],p,q] Q) fun I J => 
 bnC 10 (stC 10 (frz I)) fun K L M N ag ah ai O P R => 
 bnP (zb .sub r x) fun S => 
 bnL (Ju [] 1 (.v u)) fun y => 
 pinB (room 8 ((([]:List AV):List AV).length+(y:List AV).length)) <| 
 bnC 1 (stC 1 w) fun T => 
 bnC 1 (stC 1 S) fun U => 
 bnC 1 (stC 1 (.fz 1 (([]:List AV)++y))) fun V => 
 bnC 10 (stC 10 (.agg [K,L,M,N,T,U,V,O,P,R])) fun W X Y Z aa ab ac ad ae af => 
 some (.agg [W,X,Y,Z,aa,ab,ac,ad,ae,af],J)):=by kernel_rfl
def WA {s:zf} (hs:s.lookup 46=none) (a b c d e g h i j l m n o p q:AV) (Q:z3):=(zk (E:=z6 s) (f:=46) (fn:=xW) hs rfl [.agg [a,b,c,d,e,g,h,i,j,l,m,n,o],p,q] Q rfl).trans (Wz (call:=za (z6 s)) (lp:=zd (z6 s)) a b c d e g h i j l m n o p q Q)
theorem Qu {call:z8} {lp:z9} (a:AV) (Q:z3):z5 call lp wu [(0,.v a)] [] Q (zp [.tmp 2] [.n])=(
 bnS (call 13 [a,.int .i64 5] Q) fun b c => 
 bnP (elQ 1 (.fz 1 [.str [],.str [97],.str [98,99],.str [104,101,108,108,111],.str [116,119,101,108,118,101,32,98,121,116,101,115]]) (frz b)) fun d => 
 bnP ((AV.cells d)[0]?) fun e => 
 bnP (rcv false .n e) fun f=>some (f,c)):=by kernel_rfl
def Qv {s:zf} (hs:s.lookup 47=none) (a:AV) (Q:z3):=(zk (E:=z6 s) (f:=47) (fn:=yO) hs rfl [a] Q rfl).trans (Qu (call:=za (z6 s)) (lp:=zd (z6 s)) a Q)
theorem z8C {call:z8} {lp:z9} (b c d:AV) (Q:z3):z5 call lp z3m [(0,.v b),(1,.v c),(2,.v d)] [] Q (zp [.tmp 6] [.n])=(
 bnS (call 68 [b,c] Q) fun e f => 
 bnP (xq (frz e) 0) fun g => 
 bnP (xq (frz e) 1) fun a => 
 bnC 3 (stC 3 g) fun p h q => 
 bnP (gdQ a true (some h)) fun i => 
 bnP (gdQ a true (some d)) fun j => 
 bnP (gdQ a true (zb .gtr i j)) fun l => 
 bnP (zw a l (.bool false)) fun m => 
 bnP (rcv false .n m) fun o=>some (o,f)):=by kernel_rfl
def z8D {s:zf} (hs:s.lookup 48=none) (a b c:AV) (Q:z3):=(zk (E:=z6 s) (f:=48) (fn:=ZS) hs rfl [a,b,c] Q rfl).trans (z8C (call:=za (z6 s)) (lp:=zd (z6 s)) a b c Q)
theorem z0q {call:z8} {lp:z9} (a c d e f g h i j l m n:AV) (Q:z3):z5 call lp Xi [(0,.v a),(1,.v (.agg [c,d,e,f,g,h,i,j,l,m])),(2,.v n)] [] Q (zp [] [])=(
 bnC 10 (stC 10 (.agg [c,d,e,f,g,h,i,j,l,m])) fun p b q r u w x y z A => 
 bnS (call 69 [a,b] Q) fun B o => 
 bnP (unA .not (frz B)) fun C => 
 zr C (fun _=>bnS (call 61 [a,.int .i64 3,b,.int .i64 0] o) fun G D => 
 some (.tup [],D))
 (fun _=>bnS (call 70 [a,.agg [p,b,q,r,u,w,x,y,z,A]] o) fun H E => 
 bnS (call 61 [a,.int .i64 2,b,n] E) fun I F => 
 some (.tup [],F))):=by kernel_rfl
def z0r {s:zf} (hs:s.lookup 49=none) (a b c d e g h i j l m n:AV) (Q:z3):=(zk (E:=z6 s) (f:=49) (fn:=qo) hs rfl [a,.agg [b,c,d,e,g,h,i,j,l,m],n] Q rfl).trans (z0q (call:=za (z6 s)) (lp:=zd (z6 s)) a b c d e g h i j l m n Q)
theorem z0s {call:z8} {lp:z9} (a f g h i j l m n o p:AV) (Q:z3):z5 call lp Xj [(0,.v a),(1,.v (.agg [f,g,h,i,j,l,m,n,o,p]))] [] Q (zp [] [])=(
 bnC 10 (stC 10 (.agg [f,g,h,i,j,l,m,n,o,p])) fun B c C q r d u D E F => 
 bnP (zn a) fun G => 
 bnP (zc 0 G) fun H => 
 bnP (zc 9 H) fun I => 
 bnP (ldQ Q I) fun J => 
 bnP (zb .neq J c) fun b => 
 bnP (gdQ b false (some a)) fun K => 
 bnP (gdQ b false (zn K)) fun L => 
 bnP (gdQ b false (zc 0 L)) fun M => 
 bnP (gdQ b false (zc 3 M)) fun N => 
 bnP (gdQ b false (ldQ Q N)) fun O => 
 bnP (gdQ b false (zb .neq O (.int .i64 0))) fun P => 
 bnP (zw b (.bool true) P) fun R => 
 zr R (fun _=>bnX (bnP (zn a) fun S => 
 bnP (zc 0 S) fun T => 
 bnP (zc 3 T) fun U => 
 bnP (ldQ Q U) fun V => 
 bnP (zb .neq V c) fun W => 
 zr W (fun _=>bnS (call 61 [a,.int .i64 6,c,.int .i64 0] Q) fun bn X => 
 some (.normal,[],[],X))
 (fun _=>some (.normal,[],[],Q)))
 (goC (z5 call lp .ret) (goC (z5 call lp Yj) (zp [] []))))
 (fun _=>bnP (zn a) fun Y => 
 bnP (zc 0 Y) fun Z => 
 bnP (zc 9 Z) fun aa => 
 bnS (stA Q 1 aa (.int .i64 0)) fun _ w => 
 bnP (zn a) fun ab => 
 bnP (zc 0 ab) fun ac => 
 bnP (zc 0 ac) fun ad => 
 bnP (ldQ w ad) fun ae => 
 bnS (call 71 [u,ae] w) fun x y => 
 bnP (xq (frz x) 0) fun af => 
 bnP (xq (frz x) 1) fun ag => 
 bnP (unA .not ag) fun e => 
 bnP (gdQ e false (some d)) fun ah => 
 bnP (gdQ e false (zb .gtr ah (.int .i64 20))) fun ai => 
 bnP (zw e (.bool true) ai) fun aj => 
 zr aj (fun _=>bnS (call 61 [a,.int .i64 6,c,.int .i64 0] y) fun bo z => 
 bnP (zn a) fun ak => 
 bnP (zc 0 ak) fun al => 
 bnP (zc 11 al) fun ao => 
 bnP (ldQ z ao) fun ap => 
 bnP (zb .add ap (.int .i64 1)) fun aq => 
 bnP (zn a) fun ar => 
 bnP (zc 0 ar) fun au => 
 bnP (zc 11 au) fun av => 
 bnS (stA z 1 av aq) fun _ aw => 
 some (.tup [],aw))
 (fun _=>bnS (call 72 [a,.agg [B,c,C,q,r,d,u,D,E,F],af] y) fun bp A => 
 bnP (zn a) fun ax => 
 bnP (zc 0 ax) fun ay => 
 bnP (zc 2 ay) fun az => 
 bnP (ldQ A az) fun a0 => 
 bnP (zb .sub a0 d) fun a1 => 
 bnP (zn a) fun a2 => 
 bnP (zc 0 a2) fun a3 => 
 bnP (zc 3 a3) fun a4 => 
 bnS (stA A 1 a4 c) fun _ a5 => 
 bnP (zn a) fun a6 => 
 bnP (zc 0 a6) fun a7 => 
 bnP (zc 4 a7) fun a8 => 
 bnS (stA a5 1 a8 q) fun _ a9 => 
 bnP (zn a) fun ba => 
 bnP (zc 0 ba) fun bb => 
 bnP (zc 7 bb) fun bc => 
 bnS (stA a9 1 bc r) fun _ bd => 
 bnP (zn a) fun bf => 
 bnP (zc 0 bf) fun bg => 
 bnP (zc 8 bg) fun bh => 
 bnS (stA bd 1 bh a1) fun _ bi => 
 bnP (zn a) fun bj => 
 bnP (zc 0 bj) fun bk => 
 bnP (zc 11 bk) fun bl => 
 bnS (stA bi 1 bl (.int .i64 0)) fun _ bm => 
 some (.tup [],bm)))):=by kernel_rfl
def z0t {s:zf} (hs:s.lookup 50=none) (a b c d e g h i j l m:AV) (Q:z3):=(zk (E:=z6 s) (f:=50) (fn:=qp) hs rfl [a,.agg [b,c,d,e,g,h,i,j,l,m]] Q rfl).trans (z0s (call:=za (z6 s)) (lp:=zd (z6 s)) a b c d e g h i j l m Q)
theorem z0u {call:z8} {lp:z9} (a b c d e f g h i j l:AV) (Q:z3):z5 call lp Xk [(0,.v a),(1,.v (.agg [b,c,d,e,f,g,h,i,j,l]))] [] Q (zp [] [])=(
 bnC 10 (stC 10 (.agg [b,c,d,e,f,g,h,i,j,l])) fun O m P R S T U V W X => 
 bnX (bnP (zn a) fun o => 
 bnP (zc 0 o) fun p => 
 bnP (zc 9 p) fun q => 
 bnP (ldQ Q q) fun r => 
 bnP (zb .eql m r) fun u => 
 zr u (fun _=>bnP (zn a) fun w => 
 bnP (zc 0 w) fun x => 
 bnP (zc 9 x) fun y => 
 bnS (stA Q 1 y (.int .i64 0)) fun _ n => 
 bnP (zn a) fun z => 
 bnP (zc 0 z) fun A => 
 bnP (zc 11 A) fun B => 
 bnP (ldQ n B) fun C => 
 bnP (zb .add C (.int .i64 1)) fun D => 
 bnP (zn a) fun E => 
 bnP (zc 0 E) fun F => 
 bnP (zc 11 F) fun G => 
 bnS (stA n 1 G D) fun _ H => 
 some (.normal,[],[],H))
 (fun _=>bnP (zn a) fun I => 
 bnP (zc 0 I) fun J => 
 bnP (zc 3 J) fun K => 
 bnP (ldQ Q K) fun L => 
 bnP (zb .eql m L) fun M => 
 zr M (fun _=>bnS (call 40 [a,.int .i64 0] Q) fun Y N => 
 some (.normal,[],[],N))
 (fun _=>some (.normal,[],[],Q))))
 (jd 0 (zp [] []))):=by kernel_rfl
def z0v {s:zf} (hs:s.lookup 51=none) (a b c d e g h i j l m:AV) (Q:z3):=(zk (E:=z6 s) (f:=51) (fn:=qr) hs rfl [a,.agg [b,c,d,e,g,h,i,j,l,m]] Q rfl).trans (z0u (call:=za (z6 s)) (lp:=zd (z6 s)) a b c d e g h i j l m Q)
theorem z0w {call:z8} {lp:z9} (a c d e f g h i j l m:AV) (Q:z3):z5 call lp Xl [(0,.v a),(1,.v (.agg [c,d,e,f,g,h,i,j,l,m]))] [] Q (zp [] [])=(
 bnC 10 (stC 10 (.agg [c,d,e,f,g,h,i,j,l,m])) fun p b q r u w x y z A => 
 bnP (zn a) fun B => 
 bnP (zc 0 B) fun C => 
 bnP (zc 12 C) fun D => 
 bnP (ldQ Q D) fun E => 
 bnS (call 68 [E,b] Q) fun n o => 
 bnP (xq (frz n) 0) fun F => 
 bnP (xq (frz n) 1) fun G => 
 bnC 3 (stC 3 F) fun J K L => 
 zr G (fun _=>bnS (call 70 [a,.agg [p,b,q,r,u,w,x,y,z,A]] o) fun M H => 
 some (.tup [],H))
 (fun _=>bnS (call 61 [a,.int .i64 3,b,.int .i64 0] o) fun N I => 
 some (.tup [],I))):=by kernel_rfl
def z0x {s:zf} (hs:s.lookup 52=none) (a b c d e g h i j l m:AV) (Q:z3):=(zk (E:=z6 s) (f:=52) (fn:=qt) hs rfl [a,.agg [b,c,d,e,g,h,i,j,l,m]] Q rfl).trans (z0w (call:=za (z6 s)) (lp:=zd (z6 s)) a b c d e g h i j l m Q)
theorem z0y {call:z8} {lp:z9} (a e f g h i j l m n o:AV) (Q:z3):z5 call lp Xm [(0,.v a),(1,.v (.agg [e,f,g,h,i,j,l,m,n,o]))] [] Q (zp [] [])=(
 bnC 10 (stC 10 (.agg [e,f,g,h,i,j,l,m,n,o])) fun w c x y p d q z A B => 
 bnP (zn a) fun C => 
 bnP (zc 0 C) fun D => 
 bnP (zc 3 D) fun E => 
 bnP (ldQ Q E) fun F => 
 bnP (zb .neq c F) fun G => 
 zr G (fun _=>bnS (call 61 [a,.int .i64 6,c,.int .i64 0] Q) fun ar H => 
 some (.tup [],H))
 (fun _=>bnP (zn a) fun I => 
 bnP (zc 0 I) fun J => 
 bnP (zc 0 J) fun K => 
 bnP (ldQ Q K) fun L => 
 bnS (call 71 [q,L] Q) fun r u => 
 bnP (xq (frz r) 0) fun M => 
 bnP (xq (frz r) 1) fun N => 
 bnP (unA .not N) fun O => 
 zr O (fun _=>bnS (call 61 [a,.int .i64 6,c,.int .i64 0] u) fun au P => 
 bnS (call 40 [a,.int .i64 1] P) fun av R => 
 some (.tup [],R))
 (fun _=>bnS (call 72 [a,.agg [w,c,x,y,p,d,q,z,A,B],M] u) fun aw b => 
 bnP (zn a) fun S => 
 bnP (zc 0 S) fun T => 
 bnP (zc 2 T) fun U => 
 bnP (ldQ b U) fun V => 
 bnP (zb .sub V d) fun W => 
 bnP (zn a) fun X => 
 bnP (zc 0 X) fun Y => 
 bnP (zc 8 Y) fun Z => 
 bnP (ldQ b Z) fun aa => 
 bnP (zb .gtr W aa) fun ab => 
 zr ab (fun _=>bnP (zn a) fun ac => 
 bnP (zc 0 ac) fun ad => 
 bnP (zc 2 ad) fun ae => 
 bnP (ldQ b ae) fun af => 
 bnP (zb .sub af d) fun ag => 
 bnP (zn a) fun ah => 
 bnP (zc 0 ah) fun ai => 
 bnP (zc 8 ai) fun aj => 
 bnS (stA b 1 aj ag) fun _ ak => 
 bnP (zn a) fun al => 
 bnP (zc 0 al) fun ao => 
 bnP (zc 7 ao) fun ap => 
 bnS (stA ak 1 ap p) fun _ aq => 
 some (.tup [],aq))
 (fun _=>some (.tup [],b))))):=by kernel_rfl
def z0z {s:zf} (hs:s.lookup 53=none) (a b c d e g h i j l m:AV) (Q:z3):=(zk (E:=z6 s) (f:=53) (fn:=qu) hs rfl [a,.agg [b,c,d,e,g,h,i,j,l,m]] Q rfl).trans (z0y (call:=za (z6 s)) (lp:=zd (z6 s)) a b c d e g h i j l m Q)
theorem z71 {call:z8} {lp:z9} (a b:AV) (Q:z3):z5 call lp z2b [(0,.v a),(1,.v b)] [] Q (zp [.tmp 4] [.f 3])=(
 bnC 1 (stC 1 b) fun c => 
 bnS (call 65 [a] Q) fun d e=>bnL (owZ 3 d) fun g => 
 bnS (call 1000066 [.ow 3 g,.fn 73 [] [.cp [c] 0]] e) fun h i => 
 bnP (rcv false (.f 3) (frz h)) fun j=>some (j,i)):=by kernel_rfl
def z72 {s:zf} (hs:s.lookup 54=none) (a b:AV) (Q:z3):=(zk (E:=z6 s) (f:=54) (fn:=Z0) hs rfl [a,b] Q rfl).trans (z71 (call:=za (z6 s)) (lp:=zd (z6 s)) a b Q)
theorem z1v {call:z8} {lp:z9} (b c d:AV) (Q:z3):z5 call lp XY [(0,.v b),(1,.v c),(2,.v d)] [] Q (zp [.tmp 6] [.n])=(
 bnS (call 34 [b,c] Q) fun e f => 
 bnP (xq (frz e) 0) fun g => 
 bnP (xq (frz e) 1) fun a => 
 bnC 3 (stC 3 g) fun p h q => 
 bnP (gdQ a true (some h)) fun i => 
 bnP (gdQ a true (some d)) fun j => 
 bnP (gdQ a true (zb .gtr i j)) fun l => 
 bnP (zw a l (.bool false)) fun m => 
 bnP (rcv false .n m) fun o=>some (o,f)):=by kernel_rfl
def z1w {s:zf} (hs:s.lookup 55=none) (a b c:AV) (Q:z3):=(zk (E:=z6 s) (f:=55) (fn:=qS) hs rfl [a,b,c] Q rfl).trans (z1v (call:=za (z6 s)) (lp:=zd (z6 s)) a b c Q)
theorem Yn {β:Type} (call:z8) (lp:z9) (e a c d:AV) (b:List AV) (Q:z3) (k:PK β):z5 call lp yG [(3,.lp 3 0),(6,.ls 6),(7,.v e)] [(3,.cells [a,c,d]),(6,.own 3 b)] Q k=(
 bnP (zb .lss e (.int .i64 ((b:List AV).length:Nat))) fun h => 
 zr h (fun _=>bnN (VB (b:List AV).length e) fun i2 => 
 bnP (elC b i2 0) fun i => 
 bnP (zb .gtr i a) fun j => 
 zr j (fun _=>bnP (VC 3 (.fz 3 b) none (some e)) fun l => 
 pinB (wg 3 (.agg [a,c,d])) <| 
 bnP (VC 3 (.fz 3 b) (some e) none) fun m => 
 bnL (Ju [] 3 (.v l)) fun f => 
 pinB (room 24 ((([]:List AV):List AV).length+(f:List AV).length)) <| 
 pinB (room 24 (((([]:List AV)++f):List AV).length+(([.agg [a,c,d]]:List AV):List AV).length)) <| 
 bnL (Ju [] 3 (.v m)) fun g => 
 pinB (room 24 ((((([]:List AV)++f)++([.agg [a,c,d]]:List AV)):List AV).length+(g:List AV).length)) <| 
 k .ret [(4,.ls 4),(5,.v (.bool true))] [(4,.own 3 (((([]:List AV)++f)++([.agg [a,c,d]]:List AV))++g))] Q)
 (fun _=>bnP (zb .add e (.int .i64 1)) fun n => 
 k .normal [(3,.lp 3 0),(6,.ls 6),(7,.v n)] [(3,.cells [a,c,d]),(6,.own 3 b)] Q))
 (fun _=>k (.exit 0) [(3,.lp 3 0),(6,.ls 6)] [(3,.cells [a,c,d]),(6,.own 3 b)] Q)):=by kernel_rfl
noncomputable def jo (s:zf) (a b c d:AV) (e:List AV) (Q:z3):Option xR:=zd (z6 s) yG [(3,.lp 3 0),(6,.ls 6),(7,.v a)] [(3,.cells [b,c,d]),(6,.own 3 e)] Q
theorem xC (s:zf) (a b c d:AV) (e:List AV) (Q:z3):zd (z6 s) yG [(3,.lp 3 0),(6,.ls 6),(7,.v a)] [(3,.cells [b,c,d]),(6,.own 3 e)] Q=jo s a b c d e Q:=rfl
theorem Za (s:zf) (a b c d:AV) (e:List AV) (Q:z3):jo s a b c d e Q=z5 (za (z6 s)) (zd (z6 s)) yG [(3,.lp 3 0),(6,.ls 6),(7,.v a)] [(3,.cells [b,c,d]),(6,.own 3 e)] Q (goX (fun τ ω Q=>zd (z6 s) yG τ ω Q) xi):=y4
theorem Vx {β:Type} (call:z8) (lp:z9) (a b c:AV) (d:List AV) (Q:z3) (k:PK β):z5 call lp vn [(3,.lp 3 0),(6,.ls 6)] [(3,.cells [a,b,c]),(6,.own 3 d)] Q k=(
 pinB (wg 3 (.agg [a,b,c])) <| 
 pinB (room 24 ((d:List AV).length+(([.agg [a,b,c]]:List AV):List AV).length)) <| 
 k .ret [(5,.v (.bool true)),(4,.ls 6),(48,.ls 6),(47,.v (.fz 3 [.agg [a,b,c]])),(46,.v (.agg [a,b,c])),(45,.v z4),(3,.lp 3 0),(6,.v z4)] [(6,.own 3 (d++([.agg [a,b,c]]:List AV))),(3,.cells [a,b,c])] Q):=by kernel_rfl
theorem z0A {call:z8} {lp:z9} (a c d e:AV) (Q:z3):z5 call lp Xn [(0,.v a),(1,.v (.agg [c,d,e]))] [] Q (zp [.tmp 4,.tmp 5] [.f 3,.n])=(
 bnC 3 (stC 3 (.agg [c,d,e])) fun b g i => 
 bnS (call 55 [a,b,g] Q) fun j h => 
 zr (frz j) (fun _=>bnP (rcv false (.f 3) a) fun l=>some (.tup [frz l,.bool false],h))
 (fun _=>bnS (call 59 [a,b] h) fun m o=>bnL (owZ 3 m) fun p => 
 bnX (lp yG [(3,.lp 3 0),(6,.ls 6),(7,.v (.int .i64 0))] [(3,.cells [b,g,i]),(6,.own 3 p)] o) (jd 0 (goC (z5 call lp vn) (zp [.tmp 4,.tmp 5] [.f 3,.n]))))):=by kernel_rfl
def z0B {s:zf} (hs:s.lookup 56=none) (a b c d:AV) (Q:z3):=(zk (E:=z6 s) (f:=56) (fn:=qv) hs rfl [a,.agg [b,c,d]] Q rfl).trans (z0A (call:=za (z6 s)) (lp:=zd (z6 s)) a b c d Q)
theorem Jo {call:z8} {lp:z9} (y z A B C D E F G H I J K L M N O P R S T U V:AV) (Q:z3):z5 call lp Z1 [(0,.v (.agg [y,z,A,B,C,D,E,F,G,H,I,J,K])),(1,.v (.agg [L,M,N,O,P,R,S,T,U,V]))] [] Q (zp [.cell 4 (some 13),.tmp 5] [.n,.f 10])=(
 bnC 13 (stC 13 (.agg [y,z,A,B,C,D,E,F,G,H,I,J,K])) fun b d c a h i j l m o e q g => 
 bnC 10 (stC 10 (.agg [L,M,N,O,P,R,S,T,U,V])) fun cs p ct ad ae W X cu cv cw => 
 bnP (zb .neq a (.int .i64 0)) fun r => 
 bnP (gdQ r true (some p)) fun af => 
 bnP (gdQ r true (some a)) fun ag => 
 bnP (gdQ r true (zb .eql af ag)) fun ah => 
 bnP (zw r ah (.bool false)) fun ai => 
 zr ai (fun _=>bnC 13 (stC 13 (.agg [b,d,c,a,h,i,j,l,m,o,e,q,g])) fun aj ak al ao ap aq ar au av aw ax ay az => 
 some (.tup [.agg [aj,ak,al,ao,ap,aq,ar,au,av,aw,ax,ay,az],.fz 10 []],Q))
 (fun _=>bnP (zb .eql o (.int .i64 0)) fun u => 
 bnP (gdQ u false (some o)) fun a0 => 
 bnP (gdQ u false (some p)) fun a1 => 
 bnP (gdQ u false (zb .neq a0 a1)) fun a2 => 
 bnP (zw u (.bool true) a2) fun w => 
 bnP (gdQ w false (some a)) fun a3 => 
 bnP (gdQ w false (zb .neq a3 (.int .i64 0))) fun a4 => 
 bnP (zw w (.bool true) a4) fun a5 => 
 zr a5 (fun _=>bnS (call 45 [.agg [b,d,c,a,h,i,j,l,m,o,e,q,g],.int .i64 6,p] Q) fun Y a6 => 
 pinB (wg 10 (frz Y)) <| 
 bnC 13 (stC 13 (.agg [b,d,c,a,h,i,j,l,m,o,e,q,g])) fun a7 a8 a9 ba bb bc bd bf bg bh bi bj bk => 
 some (.tup [.agg [a7,a8,a9,ba,bb,bc,bd,bf,bg,bh,bi,bj,bk],.fz 10 ([(frz Y)]:List AV)],a6))
 (fun _=>bnS (call 35 [X,b] Q) fun Z aa => 
 bnP (xq (frz Z) 0) fun bl => 
 bnP (xq (frz Z) 1) fun bm => 
 bnP (unA .not bm) fun x => 
 bnP (gdQ x false (some W)) fun bn => 
 bnP (gdQ x false (zb .gtr bn (.int .i64 20))) fun bo => 
 bnP (zw x (.bool true) bo) fun bp => 
 zr bp (fun _=>bnP (zb .add q (.int .i64 1)) fun bq => 
 bnC 1 (stC 1 bq) fun ab => 
 bnS (call 45 [.agg [b,d,c,a,h,i,j,l,m,.int .i64 0,e,ab,g],.int .i64 6,p] aa) fun ac br => 
 pinB (wg 10 (frz ac)) <| 
 bnC 13 (stC 13 (.agg [b,d,c,a,h,i,j,l,m,.int .i64 0,e,ab,g])) fun bs bt bu bv bw bx bz b0 b1 b2 b3 b4 b5 => 
 some (.tup [.agg [bs,bt,bu,bv,bw,bx,bz,b0,b1,b2,b3,b4,b5],.fz 10 ([(frz ac)]:List AV)],br))
 (fun _=>bnS (call 58 [X] aa) fun b6 b7 => 
 bnC 1 (stC 1 p) fun b8 => 
 bnC 1 (stC 1 ad) fun b9 => 
 bnC 1 (stC 1 bl) fun ca => 
 bnC 1 (stC 1 (frz b6)) fun cb => 
 bnP (zb .sub c W) fun cc => 
 bnC 1 (stC 1 ae) fun cd => 
 bnC 1 (stC 1 cc) fun ce => 
 bnC 13 (stC 13 (.agg [b,d,c,b8,b9,cb,ca,cd,ce,.int .i64 0,e,.int .i64 0,g])) fun cf cg ch ci cj ck cl cm cn co cp cq cr => 
 some (.tup [.agg [cf,cg,ch,ci,cj,ck,cl,cm,cn,co,cp,cq,cr],.fz 10 []],b7))))):=by kernel_rfl
def Jp {s:zf} (hs:s.lookup 57=none) (a b c d e g h i j l m n o p q r u v w x y z A:AV) (Q:z3):=(zk (E:=z6 s) (f:=57) (fn:=yZ) hs rfl [.agg [a,b,c,d,e,g,h,i,j,l,m,n,o],.agg [p,q,r,u,v,w,x,y,z,A]] Q rfl).trans (Jo (call:=za (z6 s)) (lp:=zd (z6 s)) a b c d e g h i j l m n o p q r u v w x y z A Q)
theorem Vy {call:z8} {lp:z9} (a:AV) (Q:z3):z5 call lp Yk [(0,.v a)] [] Q (zp [.tmp 2] [.n])=(
 bnS (call 74 [a] Q) fun b c => 
 bnP (zb .eql (frz b) (.int .i64 0)) fun d => 
 zr d (fun _=>some (.int .i64 1,c))
 (fun _=>bnP (rcv false .n (frz b)) fun e=>some (e,c))):=by kernel_rfl
def Vz {s:zf} (hs:s.lookup 58=none) (a:AV) (Q:z3):=(zk (E:=z6 s) (f:=58) (fn:=xJ) hs rfl [a] Q rfl).trans (Vy (call:=za (z6 s)) (lp:=zd (z6 s)) a Q)
theorem Yo {β:Type} (call:z8) (lp:z9) (a b c:AV) (d:List AV) (Q:z3) (k:PK β):z5 call lp vo [(0,.v a),(1,.v b),(5,.ls 5),(6,.v c)] [(5,.own 3 d)] Q k=(
 bnP (zb .add c (.int .i64 1)) fun e => 
 k .normal [(0,.v a),(1,.v b),(5,.ls 5),(6,.v e)] [(5,.own 3 d)] Q):=by kernel_rfl
theorem Yp {β:Type} (call:z8) (lp:z9) (a d b:AV) (c:List AV) (Q:z3) (k:PK β):z5 call lp yH [(0,.v a),(1,.v d),(5,.ls 5),(6,.v b)] [(5,.own 3 c)] Q k=(
 bnP (jl a) fun h => 
 bnP (zb .lss b h) fun i => 
 zr i (fun _=>bnX (bnX (bnP (elQ 3 a b) fun j => 
 bnP ((AV.cells j)[0]?) fun l => 
 bnP (zb .neq l d) fun m => 
 zr m (fun _=>bnP (elQ 3 a b) fun n => 
 bnC 3 (cut (AV.cells n) 0 3) fun e f g => 
 pinB (wg 3 (.agg [e,f,g])) <| 
 pinB (room 24 ((c:List AV).length+(([.agg [e,f,g]]:List AV):List AV).length)) <| 
 some (.normal,[(0,.v a),(1,.v d),(5,.ls 5),(6,.v b)],[(5,.own 3 (c++([.agg [e,f,g]]:List AV)))],Q))
 (fun _=>some (.normal,[(0,.v a),(1,.v d),(5,.ls 5),(6,.v b)],[(5,.own 3 c)],Q)))
 (jd 1 xi))
 (goC (z5 call lp vo) k))
 (fun _=>k (.exit 0) [(5,.ls 5)] [(5,.own 3 c)] Q)):=by kernel_rfl
noncomputable def vu (s:zf) (a b c:AV) (d:List AV) (Q:z3):Option xR:=zd (z6 s) yH [(0,.v a),(1,.v b),(5,.ls 5),(6,.v c)] [(5,.own 3 d)] Q
theorem jc (s:zf) (a b c:AV) (d:List AV) (Q:z3):zd (z6 s) yH [(0,.v a),(1,.v b),(5,.ls 5),(6,.v c)] [(5,.own 3 d)] Q=vu s a b c d Q:=rfl
theorem Zb (s:zf) (a b c:AV) (d:List AV) (Q:z3):vu s a b c d Q=z5 (za (z6 s)) (zd (z6 s)) yH [(0,.v a),(1,.v b),(5,.ls 5),(6,.v c)] [(5,.own 3 d)] Q (goX (fun τ ω Q=>zd (z6 s) yH τ ω Q) xi):=y4
abbrev Jq (a:List AV) (Q:z3):Option xR:=some (.exit 0,[(5,.ls 5)],[(5,.own 3 a)],Q)
theorem VA {β:Type} (call:z8) (lp:z9) (a:List AV) (Q:z3) (k:PK β):z5 call lp vp [(5,.ls 5)] [(5,.own 3 a)] Q k=(
 k .ret [(4,.ls 5),(27,.ls 5),(5,.ls 5)] [(5,.own 3 a)] Q):=by kernel_rfl
theorem z0C {call:z8} {lp:z9} (a b:AV) (Q:z3):z5 call lp Xo [(0,.v a),(1,.v b)] [] Q (zp [.tmp 4] [.o 3])=(
 bnX (lp yH [(0,.v a),(1,.v b),(5,.ls 5),(6,.v (.int .i64 0))] [(5,.own 3 ([]:List AV))] Q) (jd 0 (goC (z5 call lp vp) (zp [.tmp 4] [.o 3])))):=by kernel_rfl
def z0D {s:zf} (hs:s.lookup 59=none) (a b:AV) (Q:z3):=(zk (E:=z6 s) (f:=59) (fn:=qw) hs rfl [a,b] Q rfl).trans (z0C (call:=za (z6 s)) (lp:=zd (z6 s)) a b Q)
theorem K5 {call:z8} {lp:z9} (j l m o p q r u w x y z A B C D E F G H:AV) (Q:z3):z5 call lp Zj [(0,.v (.agg [j,l,m,o,p,q,r,u,w,x])),(1,.v (.agg [y,z,A,B,C,D,E,F,G,H]))] [] Q (zp [.tmp 4] [.n])=(
 bnC 10 (stC 10 (.agg [j,l,m,o,p,q,r,u,w,x])) fun I J K L M N O P R S => 
 bnC 10 (stC 10 (.agg [y,z,A,B,C,D,E,F,G,H])) fun T U V W X Y Z aa ab ac => 
 bnP (zb .eql I T) fun a => 
 bnP (gdQ a true (some J)) fun ad => 
 bnP (gdQ a true (some U)) fun ae => 
 bnP (gdQ a true (zb .eql ad ae)) fun af => 
 bnP (zw a af (.bool false)) fun b => 
 bnP (gdQ b true (some K)) fun ag => 
 bnP (gdQ b true (some V)) fun ah => 
 bnP (gdQ b true (zb .eql ag ah)) fun ai => 
 bnP (zw b ai (.bool false)) fun c => 
 bnP (gdQ c true (some L)) fun aj => 
 bnP (gdQ c true (some W)) fun ak => 
 bnP (gdQ c true (zb .eql aj ak)) fun al => 
 bnP (zw c al (.bool false)) fun d => 
 bnP (gdQ d true (some M)) fun ao => 
 bnP (gdQ d true (some X)) fun ap => 
 bnP (gdQ d true (zb .eql ao ap)) fun aq => 
 bnP (zw d aq (.bool false)) fun e => 
 bnP (gdQ e true (some N)) fun ar => 
 bnP (gdQ e true (some Y)) fun au => 
 bnP (gdQ e true (zb .eql ar au)) fun av => 
 bnP (zw e av (.bool false)) fun f => 
 bnP (gdQ f true (some P)) fun aw => 
 bnP (gdQ f true (some aa)) fun ax => 
 bnP (gdQ f true (zb .eql aw ax)) fun ay => 
 bnP (zw f ay (.bool false)) fun g => 
 bnP (gdQ g true (some R)) fun az => 
 bnP (gdQ g true (some ab)) fun a0 => 
 bnP (gdQ g true (zb .eql az a0)) fun a1 => 
 bnP (zw g a1 (.bool false)) fun h => 
 bnP (gdQ h true (some S)) fun a2 => 
 bnP (gdQ h true (some ac)) fun a3 => 
 bnP (gdQ h true (zb .eql a2 a3)) fun a4 => 
 bnP (zw h a4 (.bool false)) fun i => 
 bnP (gdQ i true (some O)) fun a5 => 
 bnP (gdQ i true (some Z)) fun a6 => 
 bnS (gdH i true (call 36 [a5,a6] Q) Q) fun a7 a8 => 
 bnP (zw i (frz a7) (.bool false)) fun a9 => 
 bnP (rcv false .n a9) fun ba=>some (ba,a8)):=by kernel_rfl
def K6 {s:zf} (hs:s.lookup 60=none) (a b c d e g h i j l m n o p q r u v w x:AV) (Q:z3):=(zk (E:=z6 s) (f:=60) (fn:=xg) hs rfl [.agg [a,b,c,d,e,g,h,i,j,l],.agg [m,n,o,p,q,r,u,v,w,x]] Q rfl).trans (K5 (call:=za (z6 s)) (lp:=zd (z6 s)) a b c d e g h i j l m n o p q r u v w x Q)
theorem w9 {β:Type} (call:z8) (lp:z9) (a b c d e f g h i j l:AV) (Q:z3) (k:PK β):z5 call lp vX [(0,.v a),(8,.lp 8 0)] [(8,.cells [b,c,d,e,f,g,h,i,j,l])] Q k=(
 bnP (zn a) fun m => 
 bnP (zc 13 m) fun n => 
 bnP (ldQ Q n) fun o => 
 pinB (wg 10 (.agg [b,c,d,e,f,g,h,i,j,l])) <| 
 bnS (z8O Q 10 104 o ([.agg [b,c,d,e,f,g,h,i,j,l]]:List AV)) fun p u => 
 bnP (zn a) fun q => 
 bnP (zc 13 q) fun r => 
 bnS (stA u 1 r p) fun _ w => 
 k .normal [(63,.v r),(62,.v q),(61,.v p),(60,.v (.fz 10 [.agg [b,c,d,e,f,g,h,i,j,l]])),(59,.v (.agg [b,c,d,e,f,g,h,i,j,l])),(58,.v o),(57,.v n),(56,.v m),(55,.v a),(54,.v a),(0,.v a),(8,.lp 8 0)] [(8,.cells [b,c,d,e,f,g,h,i,j,l])] w):=by kernel_rfl
theorem z1x {call:z8} {lp:z9} (a c g h:AV) (Q:z3):z5 call lp XZ [(0,.v a),(1,.v c),(2,.v g),(3,.v h)] [] Q (zp [] [])=(
 bnP (zn a) fun r => 
 bnP (zc 0 r) fun u => 
 bnP (zc 0 u) fun w => 
 bnP (ldQ Q w) fun x => 
 bnP (zn a) fun y => 
 bnP (zc 0 y) fun z => 
 bnP (zc 1 z) fun A => 
 bnP (ldQ Q A) fun B => 
 bnC 10 (wC [.int .i64 0,.int .i64 0,.int .i64 0,.int .i64 0,.int .i64 0,.int .i64 0,.nils,.int .i64 0,.int .i64 0,.str []] [(0,1,c),(1,1,x),(2,1,g),(3,1,B),(7,1,h)]) fun C D E F G H I J K L => 
 bnC 10 (stC 10 (.agg [C,D,E,F,G,H,I,J,K,L])) fun i j l m M N O n o p => 
 bnX (bnP (zb .eql c (.int .i64 2)) fun d => 
 bnP (gdQ d false (some c)) fun P => 
 bnP (gdQ d false (zb .eql P (.int .i64 5))) fun R => 
 bnP (zw d (.bool true) R) fun S => 
 zr S (fun _=>bnP (zn a) fun T => 
 bnP (zc 0 T) fun U => 
 bnP (zc 7 U) fun q => 
 bnP (ldQ Q q) fun V => 
 bnP (zn a) fun W => 
 bnP (zc 0 W) fun X => 
 bnP (zc 2 X) fun e => 
 bnP (ldQ Q e) fun Y => 
 bnP (zn a) fun Z => 
 bnP (zc 0 Z) fun aa => 
 bnP (zc 8 aa) fun f => 
 bnP (ldQ Q f) fun ab => 
 bnP (zb .sub Y ab) fun ac => 
 bnP (zn a) fun ad => 
 bnP (zc 0 ad) fun ae => 
 bnP (zc 6 ae) fun af => 
 bnP (ldQ Q af) fun ag => 
 bnS (call 64 [ag] Q) fun ah b => 
 pinB ((true && Y5 Q b q 1) && ((true && Y5 Q b e 1) && ((true && Y5 Q b f 1) && true))) <| 
 bnC 1 (stC 1 V) fun ai => 
 pinB ((true && Y5 Q b e 1) && ((true && Y5 Q b f 1) && true)) <| 
 bnC 1 (stC 1 ac) fun aj => 
 bnC 1 (stC 1 (frz ah)) fun ak => 
 some (.normal,[(0,.v a),(8,.lp 8 0)],[(8,.cells [i,j,l,m,ai,aj,ak,n,o,p])],b))
 (fun _=>some (.normal,[(0,.v a),(8,.lp 8 0)],[(8,.cells [i,j,l,m,M,N,O,n,o,p])],Q)))
 (goC (z5 call lp vX) (zp [] []))):=by kernel_rfl
def z1y {s:zf} (hs:s.lookup 61=none) (a b c d:AV) (Q:z3):=(zk (E:=z6 s) (f:=61) (fn:=qT) hs rfl [a,b,c,d] Q rfl).trans (z1x (call:=za (z6 s)) (lp:=zd (z6 s)) a b c d Q)
theorem xN {β:Type} (call:z8) (lp:z9) (a b c:AV) (d:List AV) (Q:z3) (k:PK β):z5 call lp yy [(0,.ls 0),(1,.v a),(5,.v b),(6,.v c)] [(0,.own 3 d)] Q k=(
 bnP (zb .add c (.int .i64 1)) fun e => 
 k .normal [(0,.ls 0),(1,.v a),(5,.v b),(6,.v e)] [(0,.own 3 d)] Q):=by kernel_rfl
theorem yA {β:Type} (call:z8) (lp:z9) (d b c:AV) (a:List AV) (Q:z3) (k:PK β):z5 call lp zt [(0,.ls 0),(1,.v d),(5,.v b),(6,.v c)] [(0,.own 3 a)] Q k=(
 bnP (zb .lss c (.int .i64 ((a:List AV).length:Nat))) fun i => 
 zr i (fun _=>bnX (bnX (bnN (VB (a:List AV).length c) fun i2 => 
 bnC 3 (elN a i2 0 3) fun j l m => 
 bnC 3 (stC 3 (.agg [j,l,m])) fun e f g => 
 bnF d fun f11 f11f f11c => 
 bnS (YY call f11 (f11f++[.agg [e,f,g]]++f11c) Q) fun n h => 
 bnP (unA .not (frz n)) fun o => 
 zr o (fun _=>bnN (VB (a:List AV).length b) fun i13 => 
 bnC 3 (stC 3 (.agg [e,f,g])) fun p q r => 
 bnP ((a)[i13]?) fun u=>bnP (z4o u 0 [p,q,r]) fun w => 
 bnP (zb .add b (.int .i64 1)) fun x => 
 some (.normal,[(0,.ls 0),(1,.v d),(5,.v x),(6,.v c)],[(0,.own 3 ((a).set i13 w))],h))
 (fun _=>some (.normal,[(0,.ls 0),(1,.v d),(5,.v b),(6,.v c)],[(0,.own 3 a)],h)))
 (jd 1 xi))
 (goC (z5 call lp yy) k))
 (fun _=>k (.exit 0) [(0,.ls 0),(5,.v b)] [(0,.own 3 a)] Q)):=by kernel_rfl
noncomputable def yB (s:zf) (a b c:AV) (d:List AV) (Q:z3):Option xR:=zd (z6 s) zt [(0,.ls 0),(1,.v a),(5,.v b),(6,.v c)] [(0,.own 3 d)] Q
theorem ya (s:zf) (a b c:AV) (d:List AV) (Q:z3):zd (z6 s) zt [(0,.ls 0),(1,.v a),(5,.v b),(6,.v c)] [(0,.own 3 d)] Q=yB s a b c d Q:=rfl
theorem yi (s:zf) (a b c:AV) (d:List AV) (Q:z3):yB s a b c d Q=z5 (za (z6 s)) (zd (z6 s)) zt [(0,.ls 0),(1,.v a),(5,.v b),(6,.v c)] [(0,.own 3 d)] Q (goX (fun τ ω Q=>zd (z6 s) zt τ ω Q) xi):=y4
abbrev kq (a:AV) (b:List AV) (Q:z3):Option xR:=some (.exit 0,[(0,.ls 0),(5,.v a)],[(0,.own 3 b)],Q)
theorem kX {β:Type} (call:z8) (lp:z9) (a:AV) (b:List AV) (Q:z3) (k:PK β):z5 call lp yz [(0,.ls 0),(5,.v a)] [(0,.own 3 b)] Q k=(
 bnN (VB (b:List AV).length a) fun i1 => 
 bnP (VC 3 (.fz 3 ((b).take i1++List.replicate ((b).length - i1) (mkE [.int .i64 0,.int .i64 0,.int .i64 0]))) none (some a)) fun c => 
 k .ret [(4,.v c),(41,.v c),(39,.v (.fz 3 ((b).take i1++List.replicate ((b).length - i1) (mkE [.int .i64 0,.int .i64 0,.int .i64 0])))),(40,.v a),(39,.v z4),(38,.v z4),(37,.v a),(36,.v z4),(0,.v z4),(5,.v a)] [] Q):=by kernel_rfl
theorem vG {call:z8} {lp:z9} (a:List AV) (c:AV) (Q:z3):z5 call lp qd [(0,.ls 0),(1,.v c)] [(0,.own 3 a)] Q (zp [.tmp 4] [.f 3])=(
 bnS (call 75 [.fz 3 a,c] ⟨Q.size,.leaf⟩) fun b _=>pinB (Zp b) <| 
 bnP (zb .eql b (.int .i64 (-1))) fun d => 
 zr d (fun _=>some (.fz 3 a,Q))
 (fun _=>bnP (zb .add b (.int .i64 1)) fun e => 
 bnX (lp zt [(0,.ls 0),(1,.v c),(5,.v b),(6,.v e)] [(0,.own 3 a)] Q) (jd 0 (goC (z5 call lp yz) (zp [.tmp 4] [.f 3]))))):=by kernel_rfl
def vH {s:zf} (hs:s.lookup 1000066=none) (a:List AV) (b:AV) (Q:z3):=(zal (E:=z6 s) (f:=1000066) (fn:=zK) hs rfl rfl a b Q rfl).trans (vG (call:=za (z6 s)) (lp:=zd (z6 s)) a b Q)
theorem z3s {call:z8} {lp:z9} (a b c d:AV) (Q:z3):z5 call lp Kn [(0,.v (.agg [a,b,c])),(1,.v d)] [] Q (zp [.tmp 3] [.n])=(
 bnC 3 (stC 3 (.agg [a,b,c])) fun j l e => 
 bnP (ldQ Q d) fun f => 
 bnP (zb .sub f e) fun g => 
 bnP (zb .gtr g (.int .i64 20)) fun h => 
 bnP (rcv false .n h) fun i=>some (i,Q)):=by kernel_rfl
def z3t {s:zf} (hs:s.lookup 67=none) (a b c d:AV) (Q:z3):=(zk (E:=z6 s) (f:=67) (fn:=jO) hs rfl [.agg [a,b,c],d] Q rfl).trans (z3s (call:=za (z6 s)) (lp:=zd (z6 s)) a b c d Q)
theorem z73 {call:z8} {lp:z9} (a b:AV) (Q:z3):z5 call lp z2c [(0,.v a),(1,.v b)] [] Q (zp [.cell 4 (some 3),.tmp 5] [.n,.n])=(
 bnS (call 76 [a,b] Q) fun c d => 
 bnP (xq (frz c) 0) fun e => 
 bnP (xq (frz c) 1) fun f => 
 bnP (unA .not f) fun g => 
 zr g (fun _=>some (.tup [.agg [.int .i64 0,.int .i64 0,.int .i64 0],.bool false],d))
 (fun _=>bnP (elQ 3 a e) fun h => 
 bnC 3 (cut (AV.cells h) 0 3) fun i j l => 
 bnC 3 (stC 3 (.agg [i,j,l])) fun m o p => 
 some (.tup [.agg [m,o,p],.bool true],d))):=by kernel_rfl
def z74 {s:zf} (hs:s.lookup 68=none) (a b:AV) (Q:z3):=(zk (E:=z6 s) (f:=68) (fn:=Z2) hs rfl [a,b] Q rfl).trans (z73 (call:=za (z6 s)) (lp:=zd (z6 s)) a b Q)
theorem xh {β:Type} (call:z8) (lp:z9) (c e g:AV) (Q:z3) (k:PK β):z5 call lp Z3 [(0,.v c),(1,.v e),(5,.v g)] [] Q k=(
 bnP (zn c) fun j => 
 bnP (zc 0 j) fun l => 
 bnP (zc 12 l) fun m => 
 bnP (ldQ Q m) fun n => 
 bnS (call 68 [n,e] Q) fun f o => 
 bnP (xq (frz f) 0) fun p => 
 bnP (xq (frz f) 1) fun h => 
 bnC 3 (stC 3 p) fun ad ae af => 
 bnP (zn c) fun q => 
 bnP (zc 0 q) fun r => 
 bnC 13 (yd o 13 r) fun u w x y z A B C D E F G H => 
 bnS (call 25 [.agg [u,w,x,y,z,A,B,C,D,E,F,G,H]] o) fun a i => 
 bnP (gdQ (frz a) true (some c)) fun I => 
 bnP (gdQ (frz a) true (zn I)) fun J => 
 bnP (gdQ (frz a) true (zc 0 J)) fun K => 
 bnP (gdQ (frz a) true (zc 6 K)) fun L => 
 bnP (gdQ (frz a) true (ldQ i L)) fun M => 
 bnP (gdQ (frz a) true (some e)) fun N => 
 bnS (gdH (frz a) true (call 77 [M,N] i) i) fun O P => 
 bnP (gdQ (frz a) true (unA .not (frz O))) fun R => 
 bnP (zw (frz a) R (.bool false)) fun d => 
 bnP (gdQ d true (some h)) fun S => 
 bnP (gdQ d true (some S)) fun b => 
 bnP (gdQ b false (some c)) fun T => 
 bnP (gdQ b false (zn T)) fun U => 
 bnP (gdQ b false (zc 0 U)) fun V => 
 bnP (gdQ b false (zc 12 V)) fun W => 
 bnP (gdQ b false (ldQ P W)) fun X => 
 bnP (gdQ b false (jl X)) fun Y => 
 bnP (gdQ b false (some g)) fun Z => 
 bnP (gdQ b false (zb .lss Y Z)) fun aa => 
 bnP (gdQ d true (zw b (.bool true) aa)) fun ab => 
 bnP (zw d ab (.bool false)) fun ac => 
 k .ret [(4,.v ac),(51,.v ac),(50,.v ab),(49,.v aa),(48,.v Z),(47,.v Y),(46,.v X),(45,.v W),(44,.v V),(43,.v U),(42,.v T),(41,.v b),(40,.v S),(39,.v d),(38,.v d),(37,.v R),(36,.v (frz O)),(35,.v N),(34,.v M),(33,.v L),(32,.v K),(31,.v J),(30,.v I),(29,.v (frz a)),(28,.v (frz a)),(27,.v (.agg [u,w,x,y,z,A,B,C,D,E,F,G,H])),(26,.v r),(25,.v q),(24,.v c),(7,.v h),(6,.lp 6 0),(23,.v h),(22,.v p),(14,.v (frz f)),(21,.v (frz f)),(20,.v e),(19,.v n),(18,.v m),(17,.v l),(16,.v j),(15,.v c),(0,.v c),(1,.v e),(5,.v g)] [(6,.cells [ad,ae,af])] P):=by kernel_rfl
theorem z2H {call:z8} {lp:z9} (a b:AV) (Q:z3):z5 call lp JL [(0,.v a),(1,.v b)] [] Q (zp [.tmp 4] [.n])=(
 bnX (bnP (zn a) fun c => 
 bnP (zc 0 c) fun d => 
 bnP (zc 0 d) fun e => 
 bnP (ldQ Q e) fun f => 
 bnP (zb .eql f (.int .i64 1)) fun g => 
 zr g (fun _=>some (.normal,[(0,.v a),(1,.v b),(5,.v (.int .i64 8))],[],Q))
 (fun _=>some (.normal,[(0,.v a),(1,.v b),(5,.v (.int .i64 3))],[],Q)))
 (goC (z5 call lp Z3) (zp [.tmp 4] [.n]))):=by kernel_rfl
def z2I {s:zf} (hs:s.lookup 69=none) (a b:AV) (Q:z3):=(zk (E:=z6 s) (f:=69) (fn:=jx) hs rfl [a,b] Q rfl).trans (z2H (call:=za (z6 s)) (lp:=zd (z6 s)) a b Q)
theorem z1z {call:z8} {lp:z9} (a b c d e f g h i j l:AV) (Q:z3):z5 call lp Q9 [(0,.v a),(1,.v (.agg [b,c,d,e,f,g,h,i,j,l]))] [] Q (zp [] [])=(
 bnC 10 (stC 10 (.agg [b,c,d,e,f,g,h,i,j,l])) fun J n K o L M N O P R => 
 bnP (zn a) fun p => 
 bnP (zc 0 p) fun q => 
 bnP (zc 12 q) fun r => 
 bnP (ldQ Q r) fun u => 
 bnP (zn a) fun w => 
 bnP (zc 0 w) fun x => 
 bnP (zc 2 x) fun y => 
 bnP (ldQ Q y) fun z => 
 bnC 3 (wC [.int .i64 0,.int .i64 0,.int .i64 0] [(0,1,n),(1,1,o),(2,1,z)]) fun A B C => 
 bnS (call 78 [u,.agg [A,B,C]] Q) fun m D => 
 bnP (xq (frz m) 0) fun E => 
 bnP (xq (frz m) 1) fun S => 
 bnP (zn a) fun F => 
 bnP (zc 0 F) fun G => 
 bnP (zc 12 G) fun H => 
 bnS (stA D 1 H E) fun _ I => 
 some (.tup [],I)):=by kernel_rfl
def z1A {s:zf} (hs:s.lookup 70=none) (a b c d e g h i j l m:AV) (Q:z3):=(zk (E:=z6 s) (f:=70) (fn:=qU) hs rfl [a,.agg [b,c,d,e,g,h,i,j,l,m]] Q rfl).trans (z1z (call:=za (z6 s)) (lp:=zd (z6 s)) a b c d e g h i j l m Q)
theorem z8E {call:z8} {lp:z9} (d a:AV) (Q:z3):z5 call lp z3n [(0,.v d),(1,.v a)] [] Q (zp [.tmp 4,.tmp 5] [.f 1,.n])=(
 bnS (call 64 [d] Q) fun g b=>bnL (owZ 1 g) fun c => 
 pinB (wg 1 a) <| 
 pinB (room 8 ((c:List AV).length+(([a]:List AV):List AV).length)) <| 
 bnS (call 79 [.fz 1 (c++([a]:List AV))] ⟨b.size,.leaf⟩) fun e _=>pinB (Zp e) <| 
 bnP (unA .not e) fun h => 
 zr h (fun _=>some (.tup [.fz 1 [],.bool false],b))
 (fun _=>some (.tup [.fz 1 (c++([a]:List AV)),.bool true],b))):=by kernel_rfl
def z8F {s:zf} (hs:s.lookup 71=none) (a b:AV) (Q:z3):=(zk (E:=z6 s) (f:=71) (fn:=ZT) hs rfl [a,b] Q rfl).trans (z8E (call:=za (z6 s)) (lp:=zd (z6 s)) a b Q)
theorem z3u {call:z8} {lp:z9} (a c d e f g h i j l m n:AV) (Q:z3):z5 call lp Ko [(0,.v a),(1,.v (.agg [c,d,e,f,g,h,i,j,l,m])),(2,.v n)] [] Q (zp [] [])=(
 bnC 10 (stC 10 (.agg [c,d,e,f,g,h,i,j,l,m])) fun K L M N O P o R S T => 
 bnS (call 80 [o] Q) fun p q => 
 bnP (zn a) fun r => 
 bnP (zc 0 r) fun u => 
 bnP (zc 6 u) fun w => 
 bnS (stA q 1 w n) fun _ x => 
 bnP (zn a) fun y => 
 bnP (zc 0 y) fun z => 
 bnP (zc 5 z) fun A => 
 bnS (stA x 1 A (frz p)) fun _ b => 
 bnP (zn a) fun B => 
 bnP (zc 0 B) fun C => 
 bnP (zc 5 C) fun D => 
 bnP (ldQ b D) fun E => 
 bnP (zb .eql E (.int .i64 0)) fun F => 
 zr F (fun _=>bnP (zn a) fun G => 
 bnP (zc 0 G) fun H => 
 bnP (zc 5 H) fun I => 
 bnS (stA b 1 I (.int .i64 1)) fun _ J => 
 some (.tup [],J))
 (fun _=>some (.tup [],b))):=by kernel_rfl
def z3v {s:zf} (hs:s.lookup 72=none) (a b c d e g h i j l m n:AV) (Q:z3):=(zk (E:=z6 s) (f:=72) (fn:=jP) hs rfl [a,.agg [b,c,d,e,g,h,i,j,l,m],n] Q rfl).trans (z3u (call:=za (z6 s)) (lp:=zd (z6 s)) a b c d e g h i j l m n Q)
theorem z4k {call:z8} {lp:z9} (a b c d:AV) (Q:z3):z5 call lp VL [(0,.v (.agg [a,b,c])),(1,.v d)] [] Q (zp [.tmp 3] [.n])=(
 bnC 3 (stC 3 (.agg [a,b,c])) fun e i j => 
 bnP (ldQ Q d) fun f => 
 bnP (zb .eql e f) fun g => 
 bnP (rcv false .n g) fun h=>some (h,Q)):=by kernel_rfl
def z4l {s:zf} (hs:s.lookup 73=none) (a b c d:AV) (Q:z3):=(zk (E:=z6 s) (f:=73) (fn:=kO) hs rfl [.agg [a,b,c],d] Q rfl).trans (z4k (call:=za (z6 s)) (lp:=zd (z6 s)) a b c d Q)
theorem WB {call:z8} {lp:z9} (a:AV) (Q:z3):z5 call lp YM [(0,.v a)] [] Q (zp [.tmp 2] [.n])=(
 bnP (jl a) fun b => 
 bnP (zb .lss b (.int .i64 2)) fun c => 
 zr c (fun _=>some (.int .i64 0,Q))
 (fun _=>bnP (jl a) fun d => 
 bnP (zb .sub d (.int .i64 2)) fun e => 
 bnP (elQ 1 a e) fun f => 
 bnP ((AV.cells f)[0]?) fun g => 
 bnP (rcv false .n g) fun h=>some (h,Q))):=by kernel_rfl
def WC {s:zf} (hs:s.lookup 74=none) (a:AV) (Q:z3):=(zk (E:=z6 s) (f:=74) (fn:=xX) hs rfl [a] Q rfl).trans (WB (call:=za (z6 s)) (lp:=zd (z6 s)) a Q)
theorem xY {β:Type} (call:z8) (lp:z9) (b c d a:AV) (Q:z3) (k:PK β):z5 call lp zu [(0,.v b),(1,.v c),(7,.v d),(8,.v a)] [] Q k=(
 bnP (zb .lss a d) fun f => 
 zr f (fun _=>bnP (elQ 3 b a) fun g => 
 bnC 3 (cut (AV.cells g) 0 3) fun h i j => 
 bnF c fun f8 f8f f8c => 
 bnS (YY call f8 (f8f++[.agg [h,i,j]]++f8c) Q) fun l e => 
 zr (frz l) (fun _=>k .ret [(4,.v a)] [] e)
 (fun _=>bnP (zb .add a (.int .i64 1)) fun m => 
 k .normal [(0,.v b),(1,.v c),(7,.v d),(8,.v m)] [] e))
 (fun _=>k (.exit 0) [] [] Q)):=by kernel_rfl
noncomputable def yJ (s:zf) (a b c d:AV) (Q:z3):Option xR:=zd (z6 s) zu [(0,.v a),(1,.v b),(7,.v c),(8,.v d)] [] Q
theorem yc (s:zf) (a b c d:AV) (Q:z3):zd (z6 s) zu [(0,.v a),(1,.v b),(7,.v c),(8,.v d)] [] Q=yJ s a b c d Q:=rfl
theorem xA (s:zf) (a b c d:AV) (Q:z3):yJ s a b c d Q=z5 (za (z6 s)) (zd (z6 s)) zu [(0,.v a),(1,.v b),(7,.v c),(8,.v d)] [] Q (goX (fun τ ω Q=>zd (z6 s) zu τ ω Q) xi):=y4
abbrev kD (Q:z3):Option xR:=some (.exit 0,[],[],Q)
abbrev kr (a:AV) (Q:z3):Option xR:=some (.ret,[(4,.v a)],[],Q)
theorem vw {β:Type} (call:z8) (lp:z9) (Q:z3) (k:PK β):z5 call lp yI [] [] Q k=(
 k .ret [(4,.v (.int .i64 (-1)))] [] Q):=by kernel_rfl
theorem wc {call:z8} {lp:z9} (a b:AV) (Q:z3):z5 call lp qx [(0,.v a),(1,.v b)] [] Q (zp [.tmp 4] [.n])=(
 bnP (jl a) fun c => 
 bnX (lp zu [(0,.v a),(1,.v b),(7,.v c),(8,.v (.int .i64 0))] [] Q) (jd 0 (goC (z5 call lp yI) (zp [.tmp 4] [.n])))):=by kernel_rfl
def wd {s:zf} (hs:s.lookup 75=none) (a b:AV) (Q:z3):=(zk (E:=z6 s) (f:=75) (fn:=zL) hs rfl [a,b] Q rfl).trans (wc (call:=za (z6 s)) (lp:=zd (z6 s)) a b Q)
theorem z5R {call:z8} {lp:z9} (a b:AV) (Q:z3):z5 call lp z06 [(0,.v a),(1,.v b)] [] Q (zp [.tmp 4,.tmp 5] [.n,.n])=(
 bnS (call 81 [a,b,.fn 82 [] []] Q) fun c d => 
 bnP (xq (frz c) 0) fun e => 
 bnP (xq (frz c) 1) fun f => 
 bnP (rcv false .n e) fun g=>bnP (rcv false .n f) fun h=>some (.tup [frz g,frz h],d)):=by kernel_rfl
def z5S {s:zf} (hs:s.lookup 76=none) (a b:AV) (Q:z3):=(zk (E:=z6 s) (f:=76) (fn:=vz) hs rfl [a,b] Q rfl).trans (z5R (call:=za (z6 s)) (lp:=zd (z6 s)) a b Q)
theorem z8G {call:z8} {lp:z9} (a b:AV) (Q:z3):z5 call lp z3o [(0,.v a),(1,.v b)] [] Q (zp [.tmp 4] [.n])=(
 bnS (call 84 [a,b] Q) fun c d => 
 bnP (rcv false .n (frz c)) fun e=>some (e,d)):=by kernel_rfl
def z8H {s:zf} (hs:s.lookup 77=none) (a b:AV) (Q:z3):=(zk (E:=z6 s) (f:=77) (fn:=ZU) hs rfl [a,b] Q rfl).trans (z8G (call:=za (z6 s)) (lp:=zd (z6 s)) a b Q)
theorem z75 {call:z8} {lp:z9} (c g h i:AV) (Q:z3):z5 call lp z2d [(0,.v c),(1,.v (.agg [g,h,i]))] [] Q (zp [.tmp 4,.tmp 5] [.f 3,.n])=(
 bnC 3 (stC 3 (.agg [g,h,i])) fun a d e => 
 bnS (call 65 [c] Q) fun p q=>bnL (owZ 3 p) fun b => 
 bnS (call 48 [c,a,d] q) fun r j => 
 zr (frz r) (fun _=>some (.tup [.fz 3 b,.bool false],j))
 (fun _=>bnS (call 76 [c,a] j) fun l m => 
 bnP (xq (frz l) 0) fun o => 
 bnP (xq (frz l) 1) fun u => 
 zr u (fun _=>bnN (VB (b:List AV).length o) fun i13 => 
 bnC 3 (stC 3 (.agg [a,d,e])) fun w x y => 
 bnP ((b)[i13]?) fun z=>bnP (z4o z 0 [w,x,y]) fun A => 
 some (.tup [.fz 3 ((b).set i13 A),.bool true],m))
 (fun _=>pinB (wg 3 (.agg [a,d,e])) <| 
 bnS (call 1000085 [.ow 3 b,o,.lt 3 [.agg [a,d,e]]] m) fun B C=>bnL (owZ 3 B) fun D => 
 some (.tup [.fz 3 D,.bool true],C)))):=by kernel_rfl
def z76 {s:zf} (hs:s.lookup 78=none) (a b c d:AV) (Q:z3):=(zk (E:=z6 s) (f:=78) (fn:=Z4) hs rfl [a,.agg [b,c,d]] Q rfl).trans (z75 (call:=za (z6 s)) (lp:=zd (z6 s)) a b c d Q)
theorem z8I {call:z8} {lp:z9} (a:AV) (Q:z3):z5 call lp z3p [(0,.v a)] [] Q (zp [.tmp 2] [.n])=(
 bnS (call 86 [a] Q) fun c d => 
 bnP (z1T 101 (.agg [.int .i64 0]) true (frz c)) fun b => 
 bnP (xq b 0) fun e => 
 bnP (xq b 1) fun f => 
 bnC 1 (stC 1 e) fun i => 
 bnP (unA .not f) fun g => 
 bnP (rcv false .n g) fun h=>some (h,d)):=by kernel_rfl
def z8J {s:zf} (hs:s.lookup 79=none) (a:AV) (Q:z3):=(zk (E:=z6 s) (f:=79) (fn:=ZV) hs rfl [a] Q rfl).trans (z8I (call:=za (z6 s)) (lp:=zd (z6 s)) a Q)
theorem z5T {call:z8} {lp:z9} (a:AV) (Q:z3):z5 call lp z07 [(0,.v a)] [] Q (zp [.tmp 2] [.n])=(
 bnP (jl a) fun b => 
 bnP (zb .lss b (.int .i64 2)) fun c => 
 zr c (fun _=>some (.int .i64 0,Q))
 (fun _=>bnP (jl a) fun d => 
 bnP (zb .sub d (.int .i64 2)) fun e => 
 bnP (elQ 1 a e) fun f => 
 bnP ((AV.cells f)[0]?) fun g => 
 bnP (rcv false .n g) fun h=>some (h,Q))):=by kernel_rfl
def z5U {s:zf} (hs:s.lookup 80=none) (a:AV) (Q:z3):=(zk (E:=z6 s) (f:=80) (fn:=vA) hs rfl [a] Q rfl).trans (z5T (call:=za (z6 s)) (lp:=zd (z6 s)) a Q)
theorem yK {β:Type} (call:z8) (lp:z9) (a b c e d f:AV) (Q:z3) (k:PK β):z5 call lp zo [(0,.v a),(1,.v b),(2,.v c),(8,.v e),(9,.v d),(10,.v f)] [] Q k=(
 bnP (zb .lss d f) fun i => 
 zr i (fun _=>bnX (bnP (zb .add d f) fun j => 
 bnP (z1S .u64 j) fun l => 
 bnP (zb .shr l (.int .u64 1)) fun m => 
 bnP (z1S .i64 m) fun g => 
 bnP (elQ 3 a g) fun n => 
 bnC 3 (cut (AV.cells n) 0 3) fun o p q => 
 bnF c fun f12 f12f f12c => 
 bnS (YY call f12 (f12f++[.agg [o,p,q],b]++f12c) Q) fun r h => 
 bnP (zb .lss (frz r) (.int .i64 0)) fun u => 
 zr u (fun _=>bnP (zb .add g (.int .i64 1)) fun w => 
 some (.normal,[(0,.v a),(1,.v b),(2,.v c),(8,.v e),(9,.v w),(10,.v f)],[],h))
 (fun _=>some (.normal,[(0,.v a),(1,.v b),(2,.v c),(8,.v e),(9,.v d),(10,.v g)],[],h)))
 (jd 1 (z2N [] [] [0,1,2,8,9,10] [] k)))
 (fun _=>k (.exit 0) [(0,.v a),(1,.v b),(2,.v c),(8,.v e),(9,.v d)] [] Q)):=by kernel_rfl
noncomputable def zS (s:zf) (a b c d e f:AV) (Q:z3):Option xR:=zd (z6 s) zo [(0,.v a),(1,.v b),(2,.v c),(8,.v d),(9,.v e),(10,.v f)] [] Q
theorem zA (s:zf) (a b c d e f:AV) (Q:z3):zd (z6 s) zo [(0,.v a),(1,.v b),(2,.v c),(8,.v d),(9,.v e),(10,.v f)] [] Q=zS s a b c d e f Q:=rfl
theorem yt (s:zf) (a b c d e f:AV) (Q:z3):zS s a b c d e f Q=z5 (za (z6 s)) (zd (z6 s)) zo [(0,.v a),(1,.v b),(2,.v c),(8,.v d),(9,.v e),(10,.v f)] [] Q (goX (fun τ ω Q=>zd (z6 s) zo τ ω Q) xi):=y4
abbrev qA (a b c d e:AV) (Q:z3):Option xR:=some (.exit 0,[(0,.v a),(1,.v b),(2,.v c),(8,.v d),(9,.v e)],[],Q)
theorem qW {β:Type} (call:z8) (lp:z9) (d e f c b:AV) (Q:z3) (k:PK β):z5 call lp zR [(0,.v d),(1,.v e),(2,.v f),(8,.v c),(9,.v b)] [] Q k=(
 bnP (zb .lss b c) fun a => 
 bnP (gdQ a true (some f)) fun g => 
 bnP (gdQ a true (some d)) fun h => 
 bnP (gdQ a true (some b)) fun i => 
 bnP (gdQ a true (elQ 3 h i)) fun j => 
 bnP (gdQ a true ((cut (AV.cells j) 0 3).map AV.agg)) fun l => 
 bnP (gdQ a true (some e)) fun m => 
 bnS (gdH a true (bnF g fun f10 f10f f10c=>YY call f10 (f10f++[l,m]++f10c) Q) Q) fun n q => 
 bnP (gdQ a true (zb .eql (frz n) (.int .i64 0))) fun o => 
 bnP (zw a o (.bool false)) fun p => 
 k .ret [(7,.v p),(6,.v b),(48,.v p),(47,.v o),(46,.v (frz n)),(45,.v m),(44,.v l),(43,.gd 39 true (.fp j 0)),(42,.v i),(41,.v h),(40,.v g),(39,.v a),(38,.v a),(37,.v c),(36,.v b),(35,.v b),(0,.v d),(1,.v e),(2,.v f),(8,.v c),(9,.v b)] [] q):=by kernel_rfl
theorem jj {call:z8} {lp:z9} (a b c:AV) (Q:z3):z5 call lp yR [(0,.v a),(1,.v b),(2,.v c)] [] Q (zp [.tmp 6,.tmp 7] [.n,.n])=(
 bnP (jl a) fun d => 
 bnX (lp zo [(0,.v a),(1,.v b),(2,.v c),(8,.v d),(9,.v (.int .i64 0)),(10,.v d)] [] Q) (jd 0 (goC (z5 call lp zR) (zp [.tmp 6,.tmp 7] [.n,.n])))):=by kernel_rfl
def jk {s:zf} (hs:s.lookup 81=none) (a b c:AV) (Q:z3):=(zk (E:=z6 s) (f:=81) (fn:=zx) hs rfl [a,b,c] Q rfl).trans (jj (call:=za (z6 s)) (lp:=zd (z6 s)) a b c Q)
theorem z3w {call:z8} {lp:z9} (a b c d:AV) (Q:z3):z5 call lp Kp [(0,.v (.agg [a,b,c])),(1,.v d)] [] Q (zp [.tmp 4] [.n])=(
 bnC 3 (stC 3 (.agg [a,b,c])) fun e i j => 
 bnS (call 83 [e,d] Q) fun f g => 
 bnP (rcv false .n (frz f)) fun h=>some (h,g)):=by kernel_rfl
def z3x {s:zf} (hs:s.lookup 82=none) (a b c d:AV) (Q:z3):=(zk (E:=z6 s) (f:=82) (fn:=jQ) hs rfl [.agg [a,b,c],d] Q rfl).trans (z3w (call:=za (z6 s)) (lp:=zd (z6 s)) a b c d Q)
theorem z0E {call:z8} {lp:z9} (b c:AV) (Q:z3):z5 call lp Xp [(0,.v b),(1,.v c)] [] Q (zp [.tmp 4] [.n])=(
 bnS (call 87 [b] Q) fun e f => 
 bnS (call 87 [c] f) fun d a => 
 zr (frz e) (fun _=>zr (frz d) (fun _=>some (.int .i64 0,a))
 (fun _=>some (.int .i64 (-1),a)))
 (fun _=>zr (frz d) (fun _=>some (.int .i64 1,a))
 (fun _=>bnP (zb .lss b c) fun g => 
 zr g (fun _=>some (.int .i64 (-1),a))
 (fun _=>bnP (zb .gtr b c) fun h => 
 zr h (fun _=>some (.int .i64 1,a))
 (fun _=>some (.int .i64 0,a)))))):=by kernel_rfl
def z0F {s:zf} (hs:s.lookup 83=none) (a b:AV) (Q:z3):=(zk (E:=z6 s) (f:=83) (fn:=qy) hs rfl [a,b] Q rfl).trans (z0E (call:=za (z6 s)) (lp:=zd (z6 s)) a b Q)
theorem Xa {call:z8} {lp:z9} (a b:AV) (Q:z3):z5 call lp vc [(0,.v a),(1,.v b)] [] Q (zp [.tmp 4] [.n])=(
 bnS (call 88 [a,b] Q) fun c d => 
 bnP (zb .geq (frz c) (.int .i64 0)) fun e => 
 bnP (rcv false .n e) fun f=>some (f,d)):=by kernel_rfl
def Xb {s:zf} (hs:s.lookup 84=none) (a b:AV) (Q:z3):=(zk (E:=z6 s) (f:=84) (fn:=yr) hs rfl [a,b] Q rfl).trans (Xa (call:=za (z6 s)) (lp:=zd (z6 s)) a b Q)
theorem VN {β:Type} (call:z8) (lp:z9) (c d e a:AV) (Q:z3) (k:PK β):z5 call lp j6 [(0,.v c),(21,.v d),(22,.v e),(23,.v a)] [] Q k=(
 bnP (zb .lss a e) fun i => 
 zr i (fun _=>bnP (elQ 1 d a) fun j => 
 bnP ((AV.cells j)[0]?) fun f => 
 bnP (zb .lss f (.int .i64 1)) fun g => 
 bnP (gdQ g false (some f)) fun l => 
 bnP (gdQ g false (zb .gtr l (.int .i64 8))) fun m => 
 bnP (zw g (.bool true) m) fun b => 
 bnP (gdQ b false (some c)) fun n => 
 bnP (gdQ b false (some a)) fun o => 
 bnP (gdQ b false (VC 1 n none (some o))) fun p => 
 bnP (gdQ b false (some f)) fun q => 
 bnS (gdH b false (call 84 [p,q] Q) Q) fun r h => 
 bnP (zw b (.bool true) (frz r)) fun u => 
 zr u (fun _=>bnC 1 (wC [.int .i64 0] [(0,1,a)]) fun w => 
 k .ret [(2,.v (.ifc 101 (.agg [w])))] [] h)
 (fun _=>bnP (zb .add a (.int .i64 1)) fun x => 
 k .normal [(0,.v c),(21,.v d),(22,.v e),(23,.v x)] [] h))
 (fun _=>k (.exit 0) [] [] Q)):=by kernel_rfl
noncomputable def ZD (s:zf) (a b c d:AV) (Q:z3):Option xR:=zd (z6 s) j6 [(0,.v a),(21,.v b),(22,.v c),(23,.v d)] [] Q
theorem jK (s:zf) (a b c d:AV) (Q:z3):zd (z6 s) j6 [(0,.v a),(21,.v b),(22,.v c),(23,.v d)] [] Q=ZD s a b c d Q:=rfl
theorem Qw (s:zf) (a b c d:AV) (Q:z3):ZD s a b c d Q=z5 (za (z6 s)) (zd (z6 s)) j6 [(0,.v a),(21,.v b),(22,.v c),(23,.v d)] [] Q (goX (fun τ ω Q=>zd (z6 s) j6 τ ω Q) xi):=y4
abbrev z1B (Q:z3):Option xR:=some (.exit 0,[],[],Q)
abbrev z0G (a:AV) (Q:z3):Option xR:=some (.ret,[(2,.v a)],[],Q)
theorem z4m {β:Type} (call:z8) (lp:z9) (Q:z3) (k:PK β):z5 call lp XA [] [] Q k=(
 k .ret [(2,.v .nilifc)] [] Q):=by kernel_rfl
theorem z77 {call:z8} {lp:z9} (a:AV) (Q:z3):z5 call lp z2e [(0,.v a)] [] Q (zp [.tmp 2] [.n])=(
 bnP (jl a) fun d => 
 bnP (zb .lss d (.int .i64 1)) fun c => 
 bnP (gdQ c false (some a)) fun e => 
 bnP (gdQ c false (jl e)) fun f => 
 bnP (gdQ c false (zb .gtr f (.int .i64 10))) fun g => 
 bnP (zw c (.bool true) g) fun b => 
 bnP (gdQ b false (some a)) fun h => 
 bnP (gdQ b false (elQ 1 h (.int .i64 0))) fun i => 
 bnP (gdQ b false ((AV.cells i)[0]?)) fun j => 
 bnP (gdQ b false (zb .neq j (.int .i64 1))) fun l => 
 bnP (zw b (.bool true) l) fun m => 
 zr m (fun _=>some (.ifc 101 (.agg [.int .i64 0]),Q))
 (fun _=>bnP (jl a) fun o => 
 bnX (lp j6 [(0,.v a),(21,.v a),(22,.v o),(23,.v (.int .i64 0))] [] Q) (jd 0 (goC (z5 call lp XA) (zp [.tmp 2] [.n]))))):=by kernel_rfl
def z78 {s:zf} (hs:s.lookup 86=none) (a:AV) (Q:z3):=(zk (E:=z6 s) (f:=86) (fn:=Z5) hs rfl [a] Q rfl).trans (z77 (call:=za (z6 s)) (lp:=zd (z6 s)) a Q)
theorem z2J {call:z8} {lp:z9} (a:AV) (Q:z3):z5 call lp JM [(0,.v a)] [] Q (zp [.tmp 2] [.n])=(
 bnP (zb .neq a a) fun b => 
 bnP (rcv false .n b) fun c=>some (c,Q)):=by kernel_rfl
def z2K {s:zf} (hs:s.lookup 87=none) (a:AV) (Q:z3):=(zk (E:=z6 s) (f:=87) (fn:=jy) hs rfl [a] Q rfl).trans (z2J (call:=za (z6 s)) (lp:=zd (z6 s)) a Q)
theorem vI {β:Type} (call:z8) (lp:z9) (b c d a:AV) (Q:z3) (k:PK β):z5 call lp zV [(0,.v b),(1,.v c),(7,.v d),(8,.v a)] [] Q k=(
 bnP (zb .lss a d) fun e => 
 zr e (fun _=>bnP (elQ 1 b a) fun f => 
 bnP ((AV.cells f)[0]?) fun g => 
 bnP (zb .eql c g) fun h => 
 zr h (fun _=>k .ret [(4,.v a)] [] Q)
 (fun _=>bnP (zb .add a (.int .i64 1)) fun i => 
 k .normal [(0,.v b),(1,.v c),(7,.v d),(8,.v i)] [] Q))
 (fun _=>k (.exit 0) [] [] Q)):=by kernel_rfl
noncomputable def xD (s:zf) (a b c d:AV) (Q:z3):Option xR:=zd (z6 s) zV [(0,.v a),(1,.v b),(7,.v c),(8,.v d)] [] Q
theorem yL (s:zf) (a b c d:AV) (Q:z3):zd (z6 s) zV [(0,.v a),(1,.v b),(7,.v c),(8,.v d)] [] Q=xD s a b c d Q:=rfl
theorem kB (s:zf) (a b c d:AV) (Q:z3):xD s a b c d Q=z5 (za (z6 s)) (zd (z6 s)) zV [(0,.v a),(1,.v b),(7,.v c),(8,.v d)] [] Q (goX (fun τ ω Q=>zd (z6 s) zV τ ω Q) xi):=y4
abbrev Yt (Q:z3):Option xR:=some (.exit 0,[],[],Q)
abbrev Ye (a:AV) (Q:z3):Option xR:=some (.ret,[(4,.v a)],[],Q)
theorem XL {β:Type} (call:z8) (lp:z9) (Q:z3) (k:PK β):z5 call lp j7 [] [] Q k=(
 k .ret [(4,.v (.int .i64 (-1)))] [] Q):=by kernel_rfl
theorem Jr {call:z8} {lp:z9} (a b:AV) (Q:z3):z5 call lp Z6 [(0,.v a),(1,.v b)] [] Q (zp [.tmp 4] [.n])=(
 bnP (jl a) fun c => 
 bnX (lp zV [(0,.v a),(1,.v b),(7,.v c),(8,.v (.int .i64 0))] [] Q) (jd 0 (goC (z5 call lp j7) (zp [.tmp 4] [.n])))):=by kernel_rfl
def Js {s:zf} (hs:s.lookup 88=none) (a b:AV) (Q:z3):=(zk (E:=z6 s) (f:=88) (fn:=x1) hs rfl [a,b] Q rfl).trans (Jr (call:=za (z6 s)) (lp:=zd (z6 s)) a b Q)
end Go.Proofs.Ytdbbdfmkglgjdaa.Pi
