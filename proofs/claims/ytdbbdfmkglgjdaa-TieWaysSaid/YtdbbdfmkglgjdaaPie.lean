/- Equations by values. Printed by mkpv.py of this repo. -/
import Derived.Test.YtdbbdfmkglgjdaaPid
import Derived.Test.YtdbbdfmkglgjdaaPvE
namespace Go.Proofs.Ytdbbdfmkglgjdaa.Pi
open Go.Ab
set_option maxRecDepth 100000
set_option linter.unusedVariables false
set_option linter.unusedSimpArgs false
set_option linter.defProp false
theorem vc {β:Type} (call:z7) (lp:ze) (g j l b c m n o p q r u w x y z A B C D E F G H h I J K L M N:AV) (Q:z3) (k:PK β):z5 call lp zX [(5,.v g),(6,.v j),(7,.lp 7 0),(8,.v l),(9,.v b),(11,.lp 11 0),(14,.v c)] [(7,.cells [m,n,o,p,q,r,u,w,x,y,z,A,B]),(11,.cells [C,D,E,F,G,H,h,I,J,K,L,M,N])] Q k=(
 bnP (km b) fun T => 
 bnP (zc .lss c T) fun U => 
 zG U (fun _=>bnP (elQ 10 b c) fun V => 
 bnC 10 (cut (AV.cells V) 0 10) fun W X Y Z aa ab ac ad ae af => 
 bnS (call 31 [.agg [W,X,Y,Z,aa,ab,ac,ad,ae,af]] Q) fun ag O => 
 bnP (unA .not (frz ag)) fun e => 
 bnP (gdQ e false (some b)) fun ah => 
 bnP (gdQ e false (some c)) fun ai => 
 bnP (gdQ e false (elQ 10 ah ai)) fun aj => 
 bnP (gdQ e false ((AV.cells aj)[1]?)) fun ak => 
 bnP (gdQ e false (some g)) fun al => 
 bnP (gdQ e false (zc .neq ak al)) fun ao => 
 bnP (zr e (.bool true) ao) fun f => 
 bnP (gdQ f false (some b)) fun ap => 
 bnP (gdQ f false (some c)) fun aq => 
 bnP (gdQ f false (elQ 10 ap aq)) fun ar => 
 bnP (gdQ f false ((AV.cells ar)[3]?)) fun au => 
 bnP (gdQ f false (zc .neq au (.int .i64 2))) fun av => 
 bnP (zr f (.bool true) av) fun aw => 
 zG aw (fun _=>k .ret [(4,.v (.bool false))] [] O)
 (fun _=>bnP (elQ 10 b c) fun ax => 
 bnP ((AV.cells ax)[0]?) fun ay => 
 bnP (zc .eql ay (.int .i64 2)) fun a => 
 bnP (gdQ a true (some h)) fun az => 
 bnP (gdQ a true (some b)) fun a0 => 
 bnP (gdQ a true (some c)) fun a1 => 
 bnP (gdQ a true (elQ 10 a0 a1)) fun a2 => 
 bnP (gdQ a true ((AV.cells a2)[2]?)) fun a3 => 
 bnS (gdH a true (call 32 [az,a3] O) O) fun a4 P => 
 bnP (gdQ a true (some (frz a4))) fun i => 
 bnP (gdQ i false (some (.agg [C,D,E,F,G,H,h,I,J,K,L,M,N]))) fun a5 => 
 bnS (gdH i false (call 25 [a5] P) P) fun a6 R => 
 bnP (gdQ i false (unA .not (frz a6))) fun a7 => 
 bnP (gdQ a true (zr i (.bool true) a7)) fun a8 => 
 bnP (gdQ a true (some a8)) fun d => 
 bnP (gdQ d false (some b)) fun a9 => 
 bnP (gdQ d false (some c)) fun ba => 
 bnP (gdQ d false (elQ 10 a9 ba)) fun bb => 
 bnP (gdQ d false ((AV.cells bb)[6]?)) fun bc => 
 bnP (gdQ d false (some b)) fun bd => 
 bnP (gdQ d false (some c)) fun bf => 
 bnP (gdQ d false (elQ 10 bd bf)) fun bg => 
 bnP (gdQ d false ((AV.cells bg)[2]?)) fun bh => 
 bnS (gdH d false (call 32 [bc,bh] R) R) fun bi S => 
 bnP (gdQ a true (zr d (.bool true) (frz bi))) fun bj => 
 bnP (zr a bj (.bool false)) fun bk => 
 zG bk (fun _=>k .ret [(4,.v (.bool false))] [] S)
 (fun _=>bnP (zc .add c (.int .i64 1)) fun bl => 
 k .normal [(5,.v g),(6,.v j),(7,.lp 7 0),(8,.v l),(9,.v b),(11,.lp 11 0),(14,.v bl)] [(7,.cells [m,n,o,p,q,r,u,w,x,y,z,A,B]),(11,.cells [C,D,E,F,G,H,h,I,J,K,L,M,N])] S)))
 (fun _=>k (.exit 2) [(5,.v g),(6,.v j),(7,.lp 7 0),(8,.v l)] [(7,.cells [m,n,o,p,q,r,u,w,x,y,z,A,B])] Q)):=by kernel_rfl
noncomputable def qO (s:zi) (a b c d e f g h i j l m n o p q r u w x y z A B C D E F G H I:AV) (Q:z3):Option ja:=zj (z8 s) zX [(5,.v a),(6,.v b),(7,.lp 7 0),(8,.v c),(9,.v d),(11,.lp 11 0),(14,.v e)] [(7,.cells [f,g,h,i,j,l,m,n,o,p,q,r,u]),(11,.cells [w,x,y,z,A,B,C,D,E,F,G,H,I])] Q
theorem zA (s:zi) (a b c d e f g h i j l m n o p q r u w x y z A B C D E F G H I:AV) (Q:z3):zj (z8 s) zX [(5,.v a),(6,.v b),(7,.lp 7 0),(8,.v c),(9,.v d),(11,.lp 11 0),(14,.v e)] [(7,.cells [f,g,h,i,j,l,m,n,o,p,q,r,u]),(11,.cells [w,x,y,z,A,B,C,D,E,F,G,H,I])] Q=qO s a b c d e f g h i j l m n o p q r u w x y z A B C D E F G H I Q:=rfl
theorem jG (s:zi) (a b c d e f g h i j l m n o p q r u w x y z A B C D E F G H I:AV) (Q:z3):qO s a b c d e f g h i j l m n o p q r u w x y z A B C D E F G H I Q=z5 (zd (z8 s)) (zj (z8 s)) zX [(5,.v a),(6,.v b),(7,.lp 7 0),(8,.v c),(9,.v d),(11,.lp 11 0),(14,.v e)] [(7,.cells [f,g,h,i,j,l,m,n,o,p,q,r,u]),(11,.cells [w,x,y,z,A,B,C,D,E,F,G,H,I])] Q (goX (fun τ ω Q=>zj (z8 s) zX τ ω Q) jk):=xh
abbrev Zn (a b c d e f g h i j l m n o p q:AV) (Q:z3):Option ja:=some (.exit 2,[(5,.v a),(6,.v b),(7,.lp 7 0),(8,.v c)],[(7,.cells [d,e,f,g,h,i,j,l,m,n,o,p,q])],Q)
theorem yj {β:Type} (call:z7) (lp:ze) (d w x y z A B C o h D E c F G H I J l K L p M N O P R S T U V W:AV) (Q:z3) (k:PK β):z5 call lp qH [(5,.v d),(6,.v w),(7,.lp 7 0),(8,.v x),(9,.v y),(11,.lp 11 0),(12,.v z),(13,.v A)] [(7,.cells [B,C,o,h,D,E,c,F,G,H,I,J,l]),(11,.cells [K,L,p,M,N,O,P,R,S,T,U,V,W])] Q k=(
 bnP (km c) fun Z => 
 bnP (zc .gtr Z (.int .i64 0)) fun aa => 
 bnP (zc .neq h (.int .i64 0)) fun q => 
 bnP (gdQ q false (some d)) fun ab => 
 bnP (gdQ q false (zc .eql ab (.int .i64 1))) fun ac => 
 bnP (zr q (.bool true) ac) fun ad => 
 bnP (Jd true .b aa ad) fun e => 
 bnP (gdQ e false (some c)) fun ae => 
 bnP (gdQ e false (km ae)) fun af => 
 bnP (gdQ e false (zc .gtr af (.int .i64 0))) fun ag => 
 bnP (gdQ e false (some ag)) fun f => 
 bnP (gdQ f true (some c)) fun ah => 
 bnS (gdH f true (call 29 [ah] Q) Q) fun ai X => 
 bnP (gdQ f true (unA .not (frz ai))) fun aj => 
 bnP (gdQ f true (some aj)) fun a => 
 bnP (gdQ a false (some c)) fun ak => 
 bnP (gdQ a false (some c)) fun al => 
 bnP (gdQ a false (km al)) fun ao => 
 bnP (gdQ a false (zc .sub ao (.int .i64 1))) fun ap => 
 bnP (gdQ a false (elQ 1 ak ap)) fun aq => 
 bnP (gdQ a false ((AV.cells aq)[0]?)) fun ar => 
 bnP (gdQ a false (some d)) fun au => 
 bnP (gdQ a false (zc .neq ar au)) fun av => 
 bnP (gdQ f true (zr a (.bool true) av)) fun aw => 
 bnP (gdQ e false (zr f aw (.bool false))) fun ax => 
 bnP (zr e (.bool true) ax) fun m => 
 bnP (gdQ m false (some l)) fun ay => 
 bnS (gdH m false (call 30 [ay] X) X) fun az Y => 
 bnP (gdQ m false (unA .not (frz az))) fun a0 => 
 bnP (zr m (.bool true) a0) fun i => 
 bnP (gdQ i false (some l)) fun a1 => 
 bnP (gdQ i false (km a1)) fun a2 => 
 bnP (gdQ i false (some A)) fun a3 => 
 bnP (gdQ i false (zc .gtr a2 a3)) fun a4 => 
 bnP (zr i (.bool true) a4) fun n => 
 bnP (gdQ n false (some h)) fun a5 => 
 bnP (gdQ n false (some d)) fun a6 => 
 bnP (gdQ n false (zc .eql a5 a6)) fun a7 => 
 bnP (zr n (.bool true) a7) fun j => 
 bnP (gdQ j false (some d)) fun a8 => 
 bnP (gdQ j false (zc .eql a8 (.int .i64 1))) fun a9 => 
 bnP (gdQ j false (some a9)) fun r => 
 bnP (gdQ r true (some h)) fun ba => 
 bnP (gdQ r true (zc .neq ba (.int .i64 0))) fun bb => 
 bnP (gdQ j false (zr r bb (.bool false))) fun bc => 
 bnP (zr j (.bool true) bc) fun g => 
 bnP (gdQ g false (some o)) fun bd => 
 bnP (gdQ g false (some p)) fun bf => 
 bnP (gdQ g false (zc .neq bd bf)) fun bg => 
 bnP (gdQ g false (some bg)) fun u => 
 bnP (gdQ u true (some z)) fun bh => 
 bnP (gdQ u true (unA .not bh)) fun bi => 
 bnP (gdQ g false (zr u bi (.bool false))) fun bj => 
 bnP (zr g (.bool true) bj) fun bk => 
 zG bk (fun _=>k .ret [(4,.v (.bool false))] [] Y)
 (fun _=>bnX (lp zX [(5,.v d),(6,.v w),(7,.lp 7 0),(8,.v x),(9,.v y),(11,.lp 11 0),(14,.v (.int .i64 0))] [(7,.cells [B,C,o,h,D,E,c,F,G,H,I,J,l]),(11,.cells [K,L,p,M,N,O,P,R,S,T,U,V,W])] Y) (kB 2 (z1m [] [] [5,6,7,8] [(7,7)] k)))):=by kernel_rfl
theorem Yx {β:Type} (call:z7) (lp:ze) (a b c d e f g h i j l m n o p q r u w x y z A B C D E F G H I:AV) (Q:z3) (k:PK β):z5 call lp xr [(5,.v a),(6,.v b),(7,.lp 7 0),(8,.v c),(9,.v d),(11,.lp 11 0),(12,.v e)] [(7,.cells [f,g,h,i,j,l,m,n,o,p,q,r,u]),(11,.cells [w,x,y,z,A,B,C,D,E,F,G,H,I])] Q k=(
 bnX (bnP (zc .eql a (.int .i64 1)) fun J => 
 zG J (fun _=>some (.normal,[(5,.v a),(6,.v b),(7,.lp 7 0),(8,.v c),(9,.v d),(11,.lp 11 0),(12,.v e),(13,.v (.int .i64 8))],[(7,.cells [f,g,h,i,j,l,m,n,o,p,q,r,u]),(11,.cells [w,x,y,z,A,B,C,D,E,F,G,H,I])],Q))
 (fun _=>some (.normal,[(5,.v a),(6,.v b),(7,.lp 7 0),(8,.v c),(9,.v d),(11,.lp 11 0),(12,.v e),(13,.v (.int .i64 3))],[(7,.cells [f,g,h,i,j,l,m,n,o,p,q,r,u]),(11,.cells [w,x,y,z,A,B,C,D,E,F,G,H,I])],Q)))
 (goC (z5 call lp qH) k)):=by kernel_rfl
theorem Yy {β:Type} (call:z7) (lp:ze) (p a q b c d e f g h i j l m n o u w x y z A B C D E:AV) (Q:z3) (k:PK β):z5 call lp xt [(5,.v p),(6,.v a),(7,.lp 7 0),(8,.v q),(10,.lp 10 0)] [(7,.cells [b,c,d,e,f,g,h,i,j,l,m,n,o]),(10,.cells [u,w,x,y,z,A,B,C,D,E])] Q k=(
 bnC 13 (stC 13 (.agg [b,c,d,e,f,g,h,i,j,l,m,n,o])) fun F G H I J K L M N O P R S => 
 bnS (call 13 [a,.int .i64 3] Q) fun W T => 
 bnP (zc .eql (frz W) (.int .i64 0)) fun r => 
 bnX (zG r (fun _=>bnS (call 18 [.agg [b,c,d,e,f,g,h,i,j,l,m,n,o]] T) fun U X => 
 bnP (ko (frz U) 0) fun Y => 
 bnP (ko (frz U) 1) fun Z => 
 bnC 13 (stC 13 Y) fun aa ab ac ad ae af ag ah ai aj ak al ao => 
 some (.normal,[(5,.v p),(6,.v a),(7,.lp 7 0),(8,.v q),(9,.v Z),(11,.lp 11 0),(12,.v r)],[(7,.cells [aa,ab,ac,ad,ae,af,ag,ah,ai,aj,ak,al,ao]),(11,.cells [F,G,H,I,J,K,L,M,N,O,P,R,S])],X))
 (fun _=>bnS (call 22 [.agg [b,c,d,e,f,g,h,i,j,l,m,n,o],.agg [u,w,x,y,z,A,B,C,D,E],.int .i64 1] T) fun V ap => 
 bnP (ko (frz V) 0) fun aq => 
 bnP (ko (frz V) 1) fun ar => 
 bnC 13 (stC 13 aq) fun au av aw ax ay az a0 a1 a2 a3 a4 a5 a6 => 
 some (.normal,[(5,.v p),(6,.v a),(7,.lp 7 0),(8,.v q),(9,.v ar),(11,.lp 11 0),(12,.v r)],[(7,.cells [au,av,aw,ax,ay,az,a0,a1,a2,a3,a4,a5,a6]),(11,.cells [F,G,H,I,J,K,L,M,N,O,P,R,S])],ap)))
 (goC (z5 call lp xr) k)):=by kernel_rfl
theorem vd {β:Type} (call:z7) (lp:ze) (a b c d e f g h i j l m n o p q:AV) (Q:z3) (k:PK β):z5 call lp xu [(5,.v a),(6,.v b),(7,.lp 7 0),(8,.v c)] [(7,.cells [d,e,f,g,h,i,j,l,m,n,o,p,q])] Q k=(
 bnP (zc .add c (.int .i64 1)) fun r => 
 k .normal [(5,.v a),(6,.v b),(7,.lp 7 0),(8,.v r)] [(7,.cells [d,e,f,g,h,i,j,l,m,n,o,p,q])] Q):=by kernel_rfl
theorem qP {β:Type} (call:z7) (lp:ze) (c a d g h i j l m n o p b q r u:AV) (Q:z3) (k:PK β):z5 call lp zN [(5,.v c),(6,.v a),(7,.lp 7 0),(8,.v d)] [(7,.cells [g,h,i,j,l,m,n,o,p,b,q,r,u])] Q k=(
 bnP (zc .lss d (.int .i64 60)) fun e => 
 bnP (gdQ e true (some a)) fun A => 
 bnS (gdH e true (call 17 [A] Q) Q) fun B y => 
 bnP (gdQ e true (unA .not (frz B))) fun C => 
 bnP (zr e C (.bool false)) fun D => 
 zG D (fun _=>bnX (bnX (bnS (call 20 [a,c] y) fun E F => 
 bnC 10 (stC 10 (frz E)) fun G H I J K L M N O P => 
 bnX (bnS (call 13 [a,.int .i64 2] F) fun R z => 
 bnP (zc .eql (frz R) (.int .i64 0)) fun w => 
 bnP (gdQ w true (some b)) fun S => 
 bnP (gdQ w true (zc .geq S (.int .i64 1))) fun T => 
 bnP (zr w T (.bool false)) fun x => 
 bnP (gdQ x true (some b)) fun U => 
 bnP (gdQ x true (zc .leq U (.int .i64 8))) fun V => 
 bnP (zr x V (.bool false)) fun f => 
 bnP (gdQ f true (some b)) fun W => 
 bnP (gdQ f true (some c)) fun X => 
 bnP (gdQ f true (zc .neq W X)) fun Y => 
 bnP (zr f Y (.bool false)) fun Z => 
 zG Z (fun _=>bnS (call 13 [a,.int .i64 22] z) fun aa ab => 
 bnS (call 21 [a] ab) fun ac ad => 
 bnC 10 (vT [.int .i64 0,.int .i64 0,.int .i64 0,.int .i64 0,.int .i64 0,.int .i64 0,.nils,.int .i64 0,.int .i64 0,.str []] [(0,1,.int .i64 2),(1,1,b),(2,1,c),(3,1,.int .i64 1),(4,1,.int .i64 1),(5,1,(frz aa)),(6,1,(frz ac)),(7,1,.int .i64 1)]) fun ae af ag ah ai aj ak al ao ap => 
 bnC 10 (stC 10 (.agg [ae,af,ag,ah,ai,aj,ak,al,ao,ap])) fun aq ar au av aw ax ay az a0 a1 => 
 some (.normal,[(5,.v c),(6,.v a),(7,.lp 7 0),(8,.v d),(10,.lp 10 0)],[(7,.cells [g,h,i,j,l,m,n,o,p,b,q,r,u]),(10,.cells [aq,ar,au,av,aw,ax,ay,az,a0,a1])],ad))
 (fun _=>some (.normal,[(5,.v c),(6,.v a),(7,.lp 7 0),(8,.v d),(10,.lp 10 0)],[(7,.cells [g,h,i,j,l,m,n,o,p,b,q,r,u]),(10,.cells [G,H,I,J,K,L,M,N,O,P])],z)))
 (goC (z5 call lp xt) jk))
 (kB 1 jk))
 (goC (z5 call lp xu) k))
 (fun _=>k (.exit 0) [] [] y)):=by kernel_rfl
noncomputable def qQ (s:zi) (a b c d e f g h i j l m n o p q:AV) (Q:z3):Option ja:=zj (z8 s) zN [(5,.v a),(6,.v b),(7,.lp 7 0),(8,.v c)] [(7,.cells [d,e,f,g,h,i,j,l,m,n,o,p,q])] Q
theorem xz (s:zi) (a b c d e f g h i j l m n o p q:AV) (Q:z3):zj (z8 s) zN [(5,.v a),(6,.v b),(7,.lp 7 0),(8,.v c)] [(7,.cells [d,e,f,g,h,i,j,l,m,n,o,p,q])] Q=qQ s a b c d e f g h i j l m n o p q Q:=rfl
theorem xW (s:zi) (a b c d e f g h i j l m n o p q:AV) (Q:z3):qQ s a b c d e f g h i j l m n o p q Q=z5 (zd (z8 s)) (zj (z8 s)) zN [(5,.v a),(6,.v b),(7,.lp 7 0),(8,.v c)] [(7,.cells [d,e,f,g,h,i,j,l,m,n,o,p,q])] Q (goX (fun τ ω Q=>zj (z8 s) zN τ ω Q) jk):=xh
abbrev jH (Q:z3):Option ja:=some (.exit 0,[],[],Q)
theorem Yz {β:Type} (call:z7) (lp:ze) (Q:z3) (k:PK β):z5 call lp qI [] [] Q k=(
 k .ret [(4,.v (.bool true))] [] Q):=by kernel_rfl
theorem XW {call:z7} {lp:ze} (a c:AV) (Q:z3):z5 call lp vO [(0,.v a),(1,.v c)] [] Q (zu [.tmp 4] [.n])=(
 bnS (call 11 [] Q) fun f b => 
 bnP (unA .not (frz f)) fun g => 
 zG g (fun _=>some (.bool false,b))
 (fun _=>bnP (km a) fun h => 
 bnP (zc .gtr h (.int .i64 250)) fun i => 
 zG i (fun _=>some (.bool true,b))
 (fun _=>bnP (zc .rem c (.int .u8 8)) fun j => 
 bnP (z0Q .i64 j) fun l => 
 bnP (zc .add (.int .i64 1) l) fun d => 
 bnS (call 12 [a] b) fun e m => 
 bnS (call 13 [(frz e),.int .i64 9] m) fun o p => 
 bnS (call 14 [d,.int .i64 2,.int .i64 0,(frz o)] p) fun q r => 
 bnC 13 (stC 13 (frz q)) fun u w x y z A B C D E F G H => 
 bnX (lp zN [(5,.v d),(6,.v (frz e)),(7,.lp 7 0),(8,.v (.int .i64 0))] [(7,.cells [u,w,x,y,z,A,B,C,D,E,F,G,H])] r) (kB 0 (goC (z5 call lp qI) (zu [.tmp 4] [.n])))))):=by kernel_rfl
def XX {s:zi} (hs:s.lookup 4=none) (a b:AV) (Q:z3):=(zo (E:=z8 s) (f:=4) (fn:=yX) hs rfl [a,b] Q rfl).trans (XW (call:=zd (z8 s)) (lp:=zj (z8 s)) a b Q)
theorem Kz {call:z7} {lp:ze} (a:AV) (Q:z3):z5 call lp ZL [(0,.v a)] [] Q (zu [.tmp 2] [.n])=(
 bnC 2 (vT [.nils,.int .i64 0] [(0,1,a)]) fun b c => 
 bnS (QS Q (AV.cells (.agg [b,c]))) fun d e => 
 bnP (rcv false .n d) fun f=>some (f,e)):=by kernel_rfl
def KA {s:zi} (hs:s.lookup 12=none) (a:AV) (Q:z3):=(zo (E:=z8 s) (f:=12) (fn:=xN) hs rfl [a] Q rfl).trans (Kz (call:=zd (z8 s)) (lp:=zj (z8 s)) a Q)
theorem Xk {call:z7} {lp:ze} (a b:AV) (Q:z3):z5 call lp vx [(0,.v a),(1,.v b)] [] Q (zu [.tmp 4] [.n])=(
 bnP (zn a) fun e => 
 bnP (z9 1 e) fun f => 
 bnP (ldQ Q f) fun g => 
 bnP (zn a) fun h => 
 bnP (z9 0 h) fun i => 
 bnP (ldQ Q i) fun j => 
 bnP (km j) fun l => 
 bnP (zc .geq g l) fun c => 
 bnP (gdQ c false (some b)) fun m => 
 bnP (gdQ c false (zc .lss m (.int .i64 1))) fun o => 
 bnP (zr c (.bool true) o) fun p => 
 zG p (fun _=>some (.int .i64 0,Q))
 (fun _=>bnP (zn a) fun q => 
 bnP (z9 1 q) fun r => 
 bnP (ldQ Q r) fun u => 
 bnP (zc .add u (.int .i64 1)) fun w => 
 bnP (zn a) fun x => 
 bnP (z9 1 x) fun y => 
 bnS (stA Q 1 y w) fun _ d => 
 bnP (zn a) fun z => 
 bnP (z9 0 z) fun A => 
 bnP (ldQ d A) fun B => 
 bnP (zn a) fun C => 
 bnP (z9 1 C) fun D => 
 bnP (ldQ d D) fun E => 
 bnP (zc .sub E (.int .i64 1)) fun F => 
 bnP (elQ 1 B F) fun G => 
 bnP ((AV.cells G)[0]?) fun H => 
 bnP (z0Q .i64 H) fun I => 
 bnP (zc .rem I b) fun J => 
 bnP (rcv false .n J) fun K=>some (K,d))):=by kernel_rfl
def vI {s:zi} (hs:s.lookup 13=none) (a b:AV) (Q:z3):=(zo (E:=z8 s) (f:=13) (fn:=yM) hs rfl [a,b] Q rfl).trans (Xk (call:=zd (z8 s)) (lp:=zj (z8 s)) a b Q)
theorem Wf {β:Type} (call:z7) (lp:ze) (o p q r u w x y z A B C D a b c d e f g h i j l m n:AV) (Q:z3) (k:PK β):z5 call lp Qp [(8,.lp 8 0),(9,.lp 9 0)] [(8,.cells [o,p,q,r,u,w,x,y,z,A,B,C,D]),(9,.cells [a,b,c,d,e,f,g,h,i,j,l,m,n])] Q k=(
 bnC 13 (stC 13 (.agg [a,b,c,d,e,f,g,h,i,j,l,m,n])) fun E F G H I J K L M N O P R => 
 k .ret [(21,.v (.agg [a,b,c,d,e,f,g,h,i,j,l,m,n])),(8,.lp 8 0),(9,.lp 9 0)] [(8,.cells [E,F,G,H,I,J,K,L,M,N,O,P,R]),(9,.cells [a,b,c,d,e,f,g,h,i,j,l,m,n])] Q):=by kernel_rfl
theorem z6P {call:z7} {lp:ze} (a c b d:AV) (Q:z3):z5 call lp z1C [(0,.v a),(1,.v c),(2,.v b),(3,.v d)] [] Q (zu [.cell 8 (some 13)] [.n])=(
 bnC 13 (vT [.int .i64 0,.int .i64 0,.int .i64 0,.int .i64 0,.int .i64 0,.int .i64 0,.nils,.int .i64 0,.int .i64 0,.int .i64 0,.int .i64 0,.int .i64 0,.nils] [(0,1,a),(1,1,c),(2,1,b),(5,1,d)]) fun r u w x y z A B C D E F G => 
 bnC 13 (stC 13 (.agg [r,u,w,x,y,z,A,B,C,D,E,F,G])) fun e f g h i j H l I m o p q => 
 bnX (bnP (zc .eql a (.int .i64 1)) fun J => 
 zG J (fun _=>bnC 1 (stC 1 b) fun K => 
 some (.normal,[(8,.lp 8 0),(9,.lp 9 0)],[(8,.cells [.int .i64 0,.int .i64 0,.int .i64 0,.int .i64 0,.int .i64 0,.int .i64 0,.nils,.int .i64 0,.int .i64 0,.int .i64 0,.int .i64 0,.int .i64 0,.nils]),(9,.cells [e,f,g,h,i,j,.fz 1 [.int .i64 1],l,K,m,o,p,q])],Q))
 (fun _=>some (.normal,[(8,.lp 8 0),(9,.lp 9 0)],[(8,.cells [.int .i64 0,.int .i64 0,.int .i64 0,.int .i64 0,.int .i64 0,.int .i64 0,.nils,.int .i64 0,.int .i64 0,.int .i64 0,.int .i64 0,.int .i64 0,.nils]),(9,.cells [e,f,g,h,i,j,H,l,I,m,o,p,q])],Q)))
 (goC (z5 call lp Qp) (zu [.cell 8 (some 13)] [.n]))):=by kernel_rfl
def z6Q {s:zi} (hs:s.lookup 14=none) (a b c d:AV) (Q:z3):=(zo (E:=z8 s) (f:=14) (fn:=Zj) hs rfl [a,b,c,d] Q rfl).trans (z6P (call:=zd (z8 s)) (lp:=zj (z8 s)) a b c d Q)
theorem YA {call:z7} {lp:ze} (a:AV) (Q:z3):z5 call lp v6 [(0,.v a)] [] Q (zu [.tmp 2] [.n])=(
 bnP (zn a) fun b => 
 bnP (z9 1 b) fun c => 
 bnP (ldQ Q c) fun d => 
 bnP (zn a) fun e => 
 bnP (z9 0 e) fun f => 
 bnP (ldQ Q f) fun g => 
 bnP (km g) fun h => 
 bnP (zc .geq d h) fun i => 
 bnP (rcv false .n i) fun j=>some (j,Q)):=by kernel_rfl
def YB {s:zi} (hs:s.lookup 17=none) (a:AV) (Q:z3):=(zo (E:=z8 s) (f:=17) (fn:=yC) hs rfl [a] Q rfl).trans (YA (call:=zd (z8 s)) (lp:=zj (z8 s)) a Q)
theorem z2I {β:Type} (call:z7) (lp:ze) (a y z A B C D E F G H I J K:AV) (Q:z3) (k:PK β):z5 call lp Z2 [(2,.lp 2 0),(4,.v a)] [(2,.cells [y,z,A,B,C,D,E,F,G,H,I,J,K])] Q k=(
 bnS (call 41 [a] Q) fun L M => 
 bnS (call 42 [a] M) fun N b => 
 bnP (zn a) fun d => 
 bnP (z9 0 d) fun e => 
 bnC 13 (yk b 13 e) fun f g h i j l m n o p q r u => 
 bnP (zn a) fun w => 
 bnP (z9 13 w) fun x => 
 bnP (ldQ b x) fun c => 
 bnC 13 (stC 13 (.agg [f,g,h,i,j,l,m,n,o,p,q,r,u])) fun O P R S T U V W X Y Z aa ab => 
 bnS (z44 b 10 c) fun ac ad =>
 k .ret [(3,.v ac),(3,.v c),(102,.v c),(101,.v x),(100,.v w),(99,.v a),(98,.v (.agg [f,g,h,i,j,l,m,n,o,p,q,r,u])),(97,.v e),(96,.v d),(95,.v a),(94,.v (frz N)),(93,.v a),(92,.v (frz L)),(91,.v a),(2,.lp 2 0),(4,.v a)] [(2,.cells [O,P,R,S,T,U,V,W,X,Y,Z,aa,ab])] ad):=by kernel_rfl
theorem z5i {call:z7} {lp:ze} (h i j l m o p q r u w x y:AV) (Q:z3):z5 call lp z0h [(0,.v (.agg [h,i,j,l,m,o,p,q,r,u,w,x,y]))] [] Q (zu [.cell 2 (some 13),.tmp 3] [.n,.f 10])=(
 bnC 13 (stC 13 (.agg [h,i,j,l,m,o,p,q,r,u,w,x,y])) fun B C D E F G H I J K L M N => 
 bnS (call 38 [.agg [B,C,D,E,F,G,H,I,J,K,L,M,N]] Q) fun a z => 
 bnP (zn (frz a)) fun O => 
 bnP (z9 0 O) fun P => 
 bnP (z9 2 P) fun R => 
 bnP (ldQ z R) fun S => 
 bnP (zc .add S (.int .i64 1)) fun T => 
 bnP (zn (frz a)) fun U => 
 bnP (z9 0 U) fun V => 
 bnP (z9 2 V) fun W => 
 bnS (stA z 1 W T) fun _ g => 
 bnP (zn (frz a)) fun X => 
 bnP (z9 0 X) fun Y => 
 bnP (z9 12 Y) fun Z => 
 bnP (ldQ g Z) fun aa => 
 bnP (zn (frz a)) fun ab => 
 bnP (z9 0 ab) fun ac => 
 bnP (z9 2 ac) fun ad => 
 bnP (ldQ g ad) fun ae => 
 bnS (call 39 [aa,ae] g) fun af ag => 
 bnP (zn (frz a)) fun ah => 
 bnP (z9 0 ah) fun ai => 
 bnP (z9 12 ai) fun aj => 
 bnS (stA ag 1 aj (frz af)) fun _ b => 
 bnX (bnX (bnP (zn (frz a)) fun ak => 
 bnP (z9 0 ak) fun al => 
 bnP (z9 0 al) fun ao => 
 bnP (ldQ b ao) fun ap => 
 bnP (zc .eql ap (.int .i64 1)) fun c => 
 bnP (gdQ c true (some (frz a))) fun aq => 
 bnP (gdQ c true (zn aq)) fun ar => 
 bnP (gdQ c true (z9 0 ar)) fun au => 
 bnP (gdQ c true (z9 2 au)) fun av => 
 bnP (gdQ c true (ldQ b av)) fun aw => 
 bnP (gdQ c true (zc .rem aw (.int .i64 2))) fun ax => 
 bnP (gdQ c true (zc .eql ax (.int .i64 0))) fun ay => 
 bnP (zr c ay (.bool false)) fun az => 
 zG az (fun _=>bnP (zn (frz a)) fun a0 => 
 bnP (z9 0 a0) fun a1 => 
 bnP (z9 7 a1) fun a2 => 
 bnP (ldQ b a2) fun a3 => 
 bnP (zc .add a3 (.int .i64 1)) fun a4 => 
 bnP (zn (frz a)) fun a5 => 
 bnP (z9 0 a5) fun a6 => 
 bnP (z9 2 a6) fun a7 => 
 bnP (ldQ b a7) fun a8 => 
 bnP (zn (frz a)) fun a9 => 
 bnP (z9 0 a9) fun ba => 
 bnP (z9 7 ba) fun bb => 
 bnS (stA b 1 bb a4) fun _ bc => 
 bnP (zn (frz a)) fun bd => 
 bnP (z9 0 bd) fun bf => 
 bnP (z9 8 bf) fun bg => 
 bnS (stA bc 1 bg a8) fun _ bh => 
 some (.normal,[(2,.lp 2 0),(4,.v (frz a))],[(2,.cells [.int .i64 0,.int .i64 0,.int .i64 0,.int .i64 0,.int .i64 0,.int .i64 0,.nils,.int .i64 0,.int .i64 0,.int .i64 0,.int .i64 0,.int .i64 0,.nils])],bh))
 (fun _=>bnP (zn (frz a)) fun bi => 
 bnP (z9 0 bi) fun bj => 
 bnP (z9 0 bj) fun bk => 
 bnP (ldQ b bk) fun bl => 
 bnP (zc .neq bl (.int .i64 1)) fun d => 
 bnP (gdQ d true (some (frz a))) fun bm => 
 bnP (gdQ d true (zn bm)) fun bn => 
 bnP (gdQ d true (z9 0 bn)) fun bo => 
 bnP (gdQ d true (z9 3 bo)) fun bp => 
 bnP (gdQ d true (ldQ b bp)) fun bq => 
 bnP (gdQ d true (zc .neq bq (.int .i64 0))) fun br => 
 bnP (zr d br (.bool false)) fun e => 
 bnP (gdQ e true (some (frz a))) fun bs => 
 bnP (gdQ e true (zn bs)) fun bt => 
 bnP (gdQ e true (z9 0 bt)) fun bu => 
 bnP (gdQ e true ((yk b 13 bu).map AV.agg)) fun bv => 
 bnS (gdH e true (call 25 [bv] b) b) fun bw A => 
 bnP (gdQ e true (unA .not (frz bw))) fun bx => 
 bnP (zr e bx (.bool false)) fun bz => 
 zG bz (fun _=>bnS (call 40 [(frz a),.int .i64 0] A) fun b1 b0 => 
 some (.normal,[(2,.lp 2 0),(4,.v (frz a))],[(2,.cells [.int .i64 0,.int .i64 0,.int .i64 0,.int .i64 0,.int .i64 0,.int .i64 0,.nils,.int .i64 0,.int .i64 0,.int .i64 0,.int .i64 0,.int .i64 0,.nils])],b0))
 (fun _=>some (.normal,[(2,.lp 2 0),(4,.v (frz a))],[(2,.cells [.int .i64 0,.int .i64 0,.int .i64 0,.int .i64 0,.int .i64 0,.int .i64 0,.nils,.int .i64 0,.int .i64 0,.int .i64 0,.int .i64 0,.int .i64 0,.nils])],A))))
 (kB 0 jk))
 (goC (z5 call lp Z2) (zu [.cell 2 (some 13),.tmp 3] [.n,.f 10]))):=by kernel_rfl
def z5j {s:zi} (hs:s.lookup 18=none) (a b c d e g h i j l m n o:AV) (Q:z3):=(zo (E:=z8 s) (f:=18) (fn:=wx) hs rfl [.agg [a,b,c,d,e,g,h,i,j,l,m,n,o]] Q rfl).trans (z5i (call:=zd (z8 s)) (lp:=zj (z8 s)) a b c d e g h i j l m n o Q)
theorem qu {β:Type} (call:z7) (lp:ze) (a x b c d e f g h i j l m n o p q r u y z w:AV) (Q:z3) (k:PK β):z5 call lp ql [(0,.v a),(4,.lp 4 0),(6,.lp 6 0),(64,.v x)] [(4,.cells [b,c,d,e,f,g,h,i,j,l]),(6,.cells [m,n,o,p,q,r,u,y,z,w])] Q k=(
 zG x (fun _=>bnS (call 13 [a,.int .i64 9] Q) fun B C => 
 bnP (zc .add (.int .i64 1) (frz B)) fun D => 
 bnC 1 (stC 1 D) fun A => 
 bnS (call 13 [a,.int .i64 6] C) fun E F => 
 bnP (zc .add A (frz E)) fun G => 
 bnC 1 (stC 1 G) fun H => 
 k .normal [(4,.lp 4 0),(6,.lp 6 0)] [(4,.cells [b,c,d,e,f,g,h,i,j,l]),(6,.cells [m,n,o,p,q,r,u,A,H,w])] F)
 (fun _=>k .normal [(4,.lp 4 0),(6,.lp 6 0)] [(4,.cells [b,c,d,e,f,g,h,i,j,l]),(6,.cells [m,n,o,p,q,r,u,y,z,w])] Q)):=by kernel_rfl
theorem yc {β:Type} (call:z7) (lp:ze) (l m n o p q r u w x a b c d e f g h i j:AV) (Q:z3) (k:PK β):z5 call lp qm [(4,.lp 4 0),(6,.lp 6 0)] [(4,.cells [l,m,n,o,p,q,r,u,w,x]),(6,.cells [a,b,c,d,e,f,g,h,i,j])] Q k=(
 bnC 10 (stC 10 (.agg [a,b,c,d,e,f,g,h,i,j])) fun y z A B C D E F G H => 
 k .ret [(77,.v (.agg [a,b,c,d,e,f,g,h,i,j])),(4,.lp 4 0),(6,.lp 6 0)] [(4,.cells [y,z,A,B,C,D,E,F,G,H]),(6,.cells [a,b,c,d,e,f,g,h,i,j])] Q):=by kernel_rfl
theorem Y9 {β:Type} (call:z7) (lp:ze) (a A B c d e f g h i j l m:AV) (Q:z3) (k:PK β):z5 call lp xl [(0,.v a),(1,.v A),(4,.lp 4 0),(5,.v B)] [(4,.cells [c,d,e,f,g,h,i,j,l,m])] Q k=(
 bnS (call 13 [a,.int .i64 9] Q) fun D E => 
 bnP (zc .add (.int .i64 1) (frz D)) fun F => 
 bnS (call 13 [a,.int .i64 3] E) fun G n => 
 bnP (zc .add (.int .i64 1) (frz G)) fun H => 
 bnC 10 (vT [.int .i64 0,.int .i64 0,.int .i64 0,.int .i64 0,.int .i64 0,.int .i64 0,.nils,.int .i64 0,.int .i64 0,.str []] [(0,1,F),(1,1,B),(2,1,A),(3,1,H)]) fun I J K L M N O P R S => 
 bnC 10 (stC 10 (.agg [I,J,K,L,M,N,O,P,R,S])) fun b o p q w x y z r u => 
 bnX (bnX (bnP (zc .eql b (.int .i64 2)) fun T => 
 zG T (fun _=>bnS (call 13 [a,.int .i64 20] n) fun U V => 
 bnS (call 13 [a,.int .i64 25] V) fun W X => 
 bnS (call 21 [a] X) fun Y Z => 
 bnS (call 13 [a,.int .i64 9] Z) fun aa ab => 
 bnC 1 (stC 1 (frz U)) fun ac => 
 bnC 1 (stC 1 (frz W)) fun ad => 
 bnC 1 (stC 1 (frz Y)) fun ae => 
 bnC 1 (stC 1 (frz aa)) fun af => 
 some (.normal,[(4,.lp 4 0),(6,.lp 6 0)],[(4,.cells [c,d,e,f,g,h,i,j,l,m]),(6,.cells [b,o,p,q,ac,ad,ae,af,r,u])],ab))
 (fun _=>bnP (zc .eql b (.int .i64 5)) fun ag => 
 zG ag (fun _=>bnS (call 13 [a,.int .i64 20] n) fun ah ai => 
 bnS (call 13 [a,.int .i64 25] ai) fun aj ak => 
 bnS (call 21 [a] ak) fun al ao => 
 bnS (call 13 [a,.int .i64 12] ao) fun ap aq => 
 bnC 1 (stC 1 (frz ah)) fun ar => 
 bnC 1 (stC 1 (frz aj)) fun au => 
 bnC 1 (stC 1 (frz al)) fun av => 
 bnC 1 (stC 1 (frz ap)) fun aw => 
 some (.normal,[(4,.lp 4 0),(6,.lp 6 0)],[(4,.cells [c,d,e,f,g,h,i,j,l,m]),(6,.cells [b,o,p,q,ar,au,av,z,aw,u])],aq))
 (fun _=>bnP (zc .eql b (.int .i64 7)) fun ax => 
 zG ax (fun _=>bnS (call 13 [a,.int .i64 12] n) fun ay az => 
 bnP (zc .add (.int .i64 1) (frz ay)) fun a0 => 
 bnS (call 47 [a] az) fun a1 a2 => 
 bnC 1 (stC 1 a0) fun a3 => 
 bnC 1 (stC 1 (frz a1)) fun a4 => 
 some (.normal,[(4,.lp 4 0),(6,.lp 6 0)],[(4,.cells [c,d,e,f,g,h,i,j,l,m]),(6,.cells [b,o,p,q,w,x,y,a3,r,a4])],a2))
 (fun _=>bnX (bnP (zc .eql b (.int .i64 8)) fun C => 
 zG C (fun _=>some (.normal,[(0,.v a),(4,.lp 4 0),(6,.lp 6 0),(64,.v C)],[(4,.cells [c,d,e,f,g,h,i,j,l,m]),(6,.cells [b,o,p,q,w,x,y,z,r,u])],n))
 (fun _=>bnP (zc .eql b (.int .i64 9)) fun a5 => 
 some (.normal,[(0,.v a),(4,.lp 4 0),(6,.lp 6 0),(64,.v a5)],[(4,.cells [c,d,e,f,g,h,i,j,l,m]),(6,.cells [b,o,p,q,w,x,y,z,r,u])],n)))
 (goC (z5 call lp ql) (z1m [] [] [4,6] [(4,4),(6,6)] (z1m [] [] [4,6] [(4,4),(6,6)] (z1m [] [] [4,6] [(4,4),(6,6)] jk))))))))
 (kB 0 jk))
 (goC (z5 call lp qm) k)):=by kernel_rfl
theorem Xl {call:z7} {lp:ze} (b a:AV) (Q:z3):z5 call lp vy [(0,.v b),(1,.v a)] [] Q (zu [.cell 4 (some 10)] [.n])=(
 bnS (call 13 [b,.int .i64 8] Q) fun e c => 
 bnP (zc .add (.int .i64 1) (frz e)) fun d => 
 bnX (bnP (zc .eql d a) fun f => 
 zG f (fun _=>bnP (zc .rem a (.int .i64 8)) fun g => 
 bnP (zc .add (.int .i64 1) g) fun h => 
 some (.normal,[(0,.v b),(1,.v a),(4,.lp 4 0),(5,.v h)],[(4,.cells [.int .i64 0,.int .i64 0,.int .i64 0,.int .i64 0,.int .i64 0,.int .i64 0,.nils,.int .i64 0,.int .i64 0,.str []])],c))
 (fun _=>some (.normal,[(0,.v b),(1,.v a),(4,.lp 4 0),(5,.v d)],[(4,.cells [.int .i64 0,.int .i64 0,.int .i64 0,.int .i64 0,.int .i64 0,.int .i64 0,.nils,.int .i64 0,.int .i64 0,.str []])],c)))
 (goC (z5 call lp xl) (zu [.cell 4 (some 10)] [.n]))):=by kernel_rfl
def Xm {s:zi} (hs:s.lookup 20=none) (a b:AV) (Q:z3):=(zo (E:=z8 s) (f:=20) (fn:=yN) hs rfl [a,b] Q rfl).trans (Xl (call:=zd (z8 s)) (lp:=zj (z8 s)) a b Q)
theorem jW {β:Type} (call:z7) (lp:ze) (a b c:AV) (Q:z3) (k:PK β):z5 call lp q8 [(0,.v a),(3,.v b),(4,.v c)] [] Q k=(
 bnP (zc .sub c (.int .i64 1)) fun d => 
 k .normal [(0,.v a),(3,.v b),(4,.v d)] [] Q):=by kernel_rfl
theorem jX {β:Type} (call:z7) (lp:ze) (a b c:AV) (Q:z3) (k:PK β):z5 call lp zP [(0,.v a),(3,.v b),(4,.v c)] [] Q k=(
 bnP (zc .gtr c (.int .i64 0)) fun f => 
 zG f (fun _=>bnX (bnX (bnS (call 13 [a,.int .i64 7] Q) fun g h => 
 bnP (zc .add (.int .i64 2) (frz g)) fun i => 
 bnS (call 35 [b,i] h) fun d e => 
 bnP (ko (frz d) 0) fun j => 
 bnP (ko (frz d) 1) fun l => 
 zG l (fun _=>some (.normal,[(0,.v a),(3,.v j),(4,.v c)],[],e))
 (fun _=>some (.normal,[(0,.v a),(3,.v b),(4,.v c)],[],e)))
 (kB 1 jk))
 (goC (z5 call lp q8) k))
 (fun _=>k (.exit 0) [(3,.v b)] [] Q)):=by kernel_rfl
noncomputable def qa (s:zi) (a b c:AV) (Q:z3):Option ja:=zj (z8 s) zP [(0,.v a),(3,.v b),(4,.v c)] [] Q
theorem xg (s:zi) (a b c:AV) (Q:z3):zj (z8 s) zP [(0,.v a),(3,.v b),(4,.v c)] [] Q=qa s a b c Q:=rfl
theorem jh (s:zi) (a b c:AV) (Q:z3):qa s a b c Q=z5 (zd (z8 s)) (zj (z8 s)) zP [(0,.v a),(3,.v b),(4,.v c)] [] Q (goX (fun τ ω Q=>zj (z8 s) zP τ ω Q) jk):=xh
abbrev wW (a:AV) (Q:z3):Option ja:=some (.exit 0,[(3,.v a)],[],Q)
theorem ZE {β:Type} (call:z7) (lp:ze) (a:AV) (Q:z3) (k:PK β):z5 call lp q9 [(3,.v a)] [] Q k=(
 k .ret [(2,.v a),(24,.v a),(3,.v a)] [] Q):=by kernel_rfl
theorem YC {call:z7} {lp:ze} (a:AV) (Q:z3):z5 call lp v7 [(0,.v a)] [] Q (zu [.tmp 2] [.f 1])=(
 bnS (call 13 [a,.int .i64 4] Q) fun b c => 
 bnX (lp zP [(0,.v a),(3,.v (.fz 1 ([.int .i64 1]:List AV))),(4,.v (frz b))] [] c) (kB 0 (goC (z5 call lp q9) (zu [.tmp 2] [.f 1])))):=by kernel_rfl
def YD {s:zi} (hs:s.lookup 21=none) (a:AV) (Q:z3):=(zo (E:=z8 s) (f:=21) (fn:=yD) hs rfl [a] Q rfl).trans (YC (call:=zd (z8 s)) (lp:=zj (z8 s)) a Q)
theorem z1d {β:Type} (call:z7) (lp:ze) (a x y z A B C D E F G H I J:AV) (Q:z3) (k:PK β):z5 call lp wc [(6,.lp 6 0),(8,.v a)] [(6,.cells [x,y,z,A,B,C,D,E,F,G,H,I,J])] Q k=(
 bnP (zn a) fun c => 
 bnP (z9 0 c) fun d => 
 bnC 13 (yk Q 13 d) fun e f g h i j l m n o p q r => 
 bnP (zn a) fun u => 
 bnP (z9 13 u) fun w => 
 bnP (ldQ Q w) fun b => 
 bnC 13 (stC 13 (.agg [e,f,g,h,i,j,l,m,n,o,p,q,r])) fun K L M N O P R S T U V W X => 
 bnS (z44 Q 10 b) fun Y Z =>
 k .ret [(7,.v Y),(7,.v b),(122,.v b),(121,.v w),(120,.v u),(119,.v a),(118,.v (.agg [e,f,g,h,i,j,l,m,n,o,p,q,r])),(117,.v d),(116,.v c),(115,.v a),(6,.lp 6 0),(8,.v a)] [(6,.cells [K,L,M,N,O,P,R,S,T,U,V,W,X])] Z):=by kernel_rfl
theorem z1e {β:Type} (call:z7) (lp:ze) (C a b q r u w x y z A B c d e f g h i j l m n o p:AV) (Q:z3) (k:PK β):z5 call lp wd [(2,.v C),(4,.lp 4 0),(6,.lp 6 0),(8,.v a)] [(4,.cells [b,q,r,u,w,x,y,z,A,B]),(6,.cells [c,d,e,f,g,h,i,j,l,m,n,o,p])] Q k=(
 bnX (bnX (bnP (zc .eql b (.int .i64 1)) fun D => 
 zG D (fun _=>bnS (call 49 [a,.agg [b,q,r,u,w,x,y,z,A,B],C] Q) fun Z E => 
 some (.normal,[(6,.lp 6 0),(8,.v a)],[(6,.cells [c,d,e,f,g,h,i,j,l,m,n,o,p])],E))
 (fun _=>bnP (zc .eql b (.int .i64 2)) fun F => 
 zG F (fun _=>bnS (call 50 [a,.agg [b,q,r,u,w,x,y,z,A,B]] Q) fun aa G => 
 some (.normal,[(6,.lp 6 0),(8,.v a)],[(6,.cells [c,d,e,f,g,h,i,j,l,m,n,o,p])],G))
 (fun _=>bnP (zc .eql b (.int .i64 3)) fun H => 
 zG H (fun _=>bnS (call 51 [a,.agg [b,q,r,u,w,x,y,z,A,B]] Q) fun ab I => 
 some (.normal,[(6,.lp 6 0),(8,.v a)],[(6,.cells [c,d,e,f,g,h,i,j,l,m,n,o,p])],I))
 (fun _=>bnP (zc .eql b (.int .i64 4)) fun J => 
 zG J (fun _=>bnS (call 52 [a,.agg [b,q,r,u,w,x,y,z,A,B]] Q) fun ac K => 
 some (.normal,[(6,.lp 6 0),(8,.v a)],[(6,.cells [c,d,e,f,g,h,i,j,l,m,n,o,p])],K))
 (fun _=>bnP (zc .eql b (.int .i64 5)) fun L => 
 zG L (fun _=>bnS (call 53 [a,.agg [b,q,r,u,w,x,y,z,A,B]] Q) fun ad M => 
 some (.normal,[(6,.lp 6 0),(8,.v a)],[(6,.cells [c,d,e,f,g,h,i,j,l,m,n,o,p])],M))
 (fun _=>bnP (zc .eql b (.int .i64 6)) fun N => 
 zG N (fun _=>bnP (zn a) fun O => 
 bnP (z9 0 O) fun P => 
 bnP (z9 12 P) fun R => 
 bnP (ldQ Q R) fun S => 
 bnS (call 54 [S,q] Q) fun T U => 
 bnP (zn a) fun V => 
 bnP (z9 0 V) fun W => 
 bnP (z9 12 W) fun X => 
 bnS (stA U 1 X (frz T)) fun _ Y => 
 some (.normal,[(6,.lp 6 0),(8,.v a)],[(6,.cells [c,d,e,f,g,h,i,j,l,m,n,o,p])],Y))
 (fun _=>some (.normal,[(6,.lp 6 0),(8,.v a)],[(6,.cells [c,d,e,f,g,h,i,j,l,m,n,o,p])],Q))))))))
 (kB 0 jk))
 (goC (z5 call lp wc) k)):=by kernel_rfl
theorem z3M {call:z7} {lp:ze} (l m o p q r u w x y z A B C D E F G H I J K L j:AV) (Q:z3):z5 call lp W9 [(0,.v (.agg [l,m,o,p,q,r,u,w,x,y,z,A,B])),(1,.v (.agg [C,D,E,F,G,H,I,J,K,L])),(2,.v j)] [] Q (zu [.cell 6 (some 13),.tmp 7] [.n,.f 10])=(
 bnC 13 (stC 13 (.agg [l,m,o,p,q,r,u,w,x,y,z,A,B])) fun W X Y Z aa ab ac ad ae af ag ah ai => 
 bnC 10 (stC 10 (.agg [C,D,E,F,G,H,I,J,K,L])) fun M h N i O P R S T U => 
 bnS (call 38 [.agg [W,X,Y,Z,aa,ab,ac,ad,ae,af,ag,ah,ai]] Q) fun a V => 
 bnP (zn (frz a)) fun aj => 
 bnP (z9 0 aj) fun ak => 
 bnP (z9 12 ak) fun al => 
 bnP (ldQ V al) fun ao => 
 bnS (call 48 [ao,h,i] V) fun b c => 
 bnP (gdQ (frz b) false (some h)) fun ap => 
 bnP (gdQ (frz b) false (some (frz a))) fun aq => 
 bnP (gdQ (frz b) false (zn aq)) fun ar => 
 bnP (gdQ (frz b) false (z9 0 ar)) fun au => 
 bnP (gdQ (frz b) false (z9 3 au)) fun av => 
 bnP (gdQ (frz b) false (ldQ c av)) fun aw => 
 bnP (gdQ (frz b) false (zc .eql ap aw)) fun ax => 
 bnP (gdQ (frz b) false (some ax)) fun d => 
 bnP (gdQ d true (some i)) fun ay => 
 bnP (gdQ d true (some (frz a))) fun az => 
 bnP (gdQ d true (zn az)) fun a0 => 
 bnP (gdQ d true (z9 0 a0)) fun a1 => 
 bnP (gdQ d true (z9 4 a1)) fun a2 => 
 bnP (gdQ d true (ldQ c a2)) fun a3 => 
 bnP (gdQ d true (zc .lss ay a3)) fun a4 => 
 bnP (gdQ (frz b) false (zr d a4 (.bool false))) fun a5 => 
 bnP (zr (frz b) (.bool true) a5) fun a6 => 
 zG a6 (fun _=>bnP (zn (frz a)) fun a7 => 
 bnP (z9 0 a7) fun a8 => 
 bnC 13 (yk c 13 a8) fun a9 ba bb bc bd bf bg bh bi bj bk bl bm => 
 bnC 13 (stC 13 (.agg [a9,ba,bb,bc,bd,bf,bg,bh,bi,bj,bk,bl,bm])) fun bn bo bp bq br bs bt bu bv bw bx bz b0 => 
 some (.tup [.agg [bn,bo,bp,bq,br,bs,bt,bu,bv,bw,bx,bz,b0],.fz 10 []],c))
 (fun _=>bnX (bnP (zn (frz a)) fun b1 => 
 bnP (z9 0 b1) fun b2 => 
 bnP (z9 3 b2) fun b3 => 
 bnP (ldQ c b3) fun b4 => 
 bnP (zc .neq b4 (.int .i64 0)) fun e => 
 bnP (gdQ e true (some h)) fun b5 => 
 bnP (gdQ e true (some (frz a))) fun b6 => 
 bnP (gdQ e true (zn b6)) fun b7 => 
 bnP (gdQ e true (z9 0 b7)) fun b8 => 
 bnP (gdQ e true (z9 3 b8)) fun b9 => 
 bnP (gdQ e true (ldQ c b9)) fun ca => 
 bnP (gdQ e true (zc .eql b5 ca)) fun cb => 
 bnP (zr e cb (.bool false)) fun g => 
 bnP (gdQ g true (some i)) fun cc => 
 bnP (gdQ g true (some (frz a))) fun cd => 
 bnP (gdQ g true (zn cd)) fun ce => 
 bnP (gdQ g true (z9 0 ce)) fun cf => 
 bnP (gdQ g true (z9 4 cf)) fun cg => 
 bnP (gdQ g true (ldQ c cg)) fun ch => 
 bnP (gdQ g true (zc .gtr cc ch)) fun ci => 
 bnP (zr g ci (.bool false)) fun cj => 
 zG cj (fun _=>bnS (call 40 [(frz a),.int .i64 0] c) fun cl ck => 
 some (.normal,[(2,.v j),(4,.lp 4 0),(6,.lp 6 0),(8,.v (frz a))],[(4,.cells [M,h,N,i,O,P,R,S,T,U]),(6,.cells [.int .i64 0,.int .i64 0,.int .i64 0,.int .i64 0,.int .i64 0,.int .i64 0,.nils,.int .i64 0,.int .i64 0,.int .i64 0,.int .i64 0,.int .i64 0,.nils])],ck))
 (fun _=>some (.normal,[(2,.v j),(4,.lp 4 0),(6,.lp 6 0),(8,.v (frz a))],[(4,.cells [M,h,N,i,O,P,R,S,T,U]),(6,.cells [.int .i64 0,.int .i64 0,.int .i64 0,.int .i64 0,.int .i64 0,.int .i64 0,.nils,.int .i64 0,.int .i64 0,.int .i64 0,.int .i64 0,.int .i64 0,.nils])],c)))
 (goC (z5 call lp wd) (zu [.cell 6 (some 13),.tmp 7] [.n,.f 10])))):=by kernel_rfl
def z3N {s:zi} (hs:s.lookup 22=none) (a b c d e g h i j l m n o p q r u v w x y z A B:AV) (Q:z3):=(zo (E:=z8 s) (f:=22) (fn:=vz) hs rfl [.agg [a,b,c,d,e,g,h,i,j,l,m,n,o],.agg [p,q,r,u,v,w,x,y,z,A],B] Q rfl).trans (z3M (call:=zd (z8 s)) (lp:=zj (z8 s)) a b c d e g h i j l m n o p q r u v w x y z A B Q)
theorem z3O {call:z7} {lp:ze} (c d e f g h i j l m o p q:AV) (Q:z3):z5 call lp Wa [(0,.v (.agg [c,d,e,f,g,h,i,j,l,m,o,p,q]))] [] Q (zu [.tmp 2] [.n])=(
 bnC 13 (stC 13 (.agg [c,d,e,f,g,h,i,j,l,m,o,p,q])) fun r H u w I J K L x M N O P => 
 bnP (zc .eql r (.int .i64 1)) fun a => 
 bnP (gdQ a false (some w)) fun y => 
 bnP (gdQ a false (zc .neq y (.int .i64 0))) fun z => 
 bnP (gdQ a false (some z)) fun b => 
 bnP (gdQ b true (some u)) fun A => 
 bnP (gdQ b true (some x)) fun B => 
 bnP (gdQ b true (zc .sub A B)) fun C => 
 bnP (gdQ b true (zc .leq C (.int .i64 20))) fun D => 
 bnP (gdQ a false (zr b D (.bool false))) fun E => 
 bnP (zr a (.bool true) E) fun F => 
 bnP (rcv false .n F) fun G=>some (G,Q)):=by kernel_rfl
def z3P {s:zi} (hs:s.lookup 25=none) (a b c d e g h i j l m n o:AV) (Q:z3):=(zo (E:=z8 s) (f:=25) (fn:=vA) hs rfl [.agg [a,b,c,d,e,g,h,i,j,l,m,n,o]] Q rfl).trans (z3O (call:=zd (z8 s)) (lp:=zj (z8 s)) a b c d e g h i j l m n o Q)
theorem vJ {β:Type} (call:z7) (lp:ze) (b c:AV) (Q:z3) (k:PK β):z5 call lp y7 [(0,.v b),(3,.v c)] [] Q k=(
 bnP (km b) fun f => 
 bnP (zc .lss c f) fun g => 
 zG g (fun _=>bnP (elQ 1 b c) fun h => 
 bnP ((AV.cells h)[0]?) fun i => 
 bnP (zc .lss i (.int .i64 1)) fun d => 
 bnP (gdQ d false (some b)) fun j => 
 bnP (gdQ d false (some c)) fun l => 
 bnP (gdQ d false (elQ 1 j l)) fun m => 
 bnP (gdQ d false ((AV.cells m)[0]?)) fun n => 
 bnP (gdQ d false (zc .gtr n (.int .i64 8))) fun o => 
 bnP (zr d (.bool true) o) fun a => 
 bnP (gdQ a false (some b)) fun p => 
 bnP (gdQ a false (some c)) fun q => 
 bnP (gdQ a false (WN 1 p none (some q))) fun r => 
 bnP (gdQ a false (some b)) fun u => 
 bnP (gdQ a false (some c)) fun w => 
 bnP (gdQ a false (elQ 1 u w)) fun x => 
 bnP (gdQ a false ((AV.cells x)[0]?)) fun y => 
 bnS (gdH a false (call 32 [r,y] Q) Q) fun z e => 
 bnP (zr a (.bool true) (frz z)) fun A => 
 zG A (fun _=>k .ret [(2,.v (.bool false))] [] e)
 (fun _=>bnP (zc .add c (.int .i64 1)) fun B => 
 k .normal [(0,.v b),(3,.v B)] [] e))
 (fun _=>k (.exit 0) [] [] Q)):=by kernel_rfl
noncomputable def xF (s:zi) (a b:AV) (Q:z3):Option ja:=zj (z8 s) y7 [(0,.v a),(3,.v b)] [] Q
theorem yQ (s:zi) (a b:AV) (Q:z3):zj (z8 s) y7 [(0,.v a),(3,.v b)] [] Q=xF s a b Q:=rfl
theorem jY (s:zi) (a b:AV) (Q:z3):xF s a b Q=z5 (zd (z8 s)) (zj (z8 s)) y7 [(0,.v a),(3,.v b)] [] Q (goX (fun τ ω Q=>zj (z8 s) y7 τ ω Q) jk):=xh
abbrev ZF (Q:z3):Option ja:=some (.exit 0,[],[],Q)
abbrev Zo (a:AV) (Q:z3):Option ja:=some (.ret,[(2,.v a)],[],Q)
theorem Xn {β:Type} (call:z7) (lp:ze) (Q:z3) (k:PK β):z5 call lp qX [] [] Q k=(
 k .ret [(2,.v (.bool true))] [] Q):=by kernel_rfl
theorem Qv {call:z7} {lp:ze} (a:AV) (Q:z3):z5 call lp wz [(0,.v a)] [] Q (zu [.tmp 2] [.n])=(
 bnP (km a) fun d => 
 bnP (zc .lss d (.int .i64 1)) fun c => 
 bnP (gdQ c false (some a)) fun e => 
 bnP (gdQ c false (km e)) fun f => 
 bnP (gdQ c false (zc .gtr f (.int .i64 10))) fun g => 
 bnP (zr c (.bool true) g) fun b => 
 bnP (gdQ b false (some a)) fun h => 
 bnP (gdQ b false (elQ 1 h (.int .i64 0))) fun i => 
 bnP (gdQ b false ((AV.cells i)[0]?)) fun j => 
 bnP (gdQ b false (zc .neq j (.int .i64 1))) fun l => 
 bnP (zr b (.bool true) l) fun m => 
 zG m (fun _=>some (.bool false,Q))
 (fun _=>bnX (lp y7 [(0,.v a),(3,.v (.int .i64 0))] [] Q) (kB 0 (goC (z5 call lp qX) (zu [.tmp 2] [.n]))))):=by kernel_rfl
def Qw {s:zi} (hs:s.lookup 29=none) (a:AV) (Q:z3):=(zo (E:=z8 s) (f:=29) (fn:=xc) hs rfl [a] Q rfl).trans (Qv (call:=zd (z8 s)) (lp:=zj (z8 s)) a Q)
theorem vK {β:Type} (call:z7) (lp:ze) (c b:AV) (Q:z3) (k:PK β):z5 call lp y8 [(0,.v c),(3,.v b)] [] Q k=(
 bnP (km c) fun n => 
 bnP (zc .lss b n) fun o => 
 zG o (fun _=>bnP (elQ 3 c b) fun p => 
 bnC 3 (cut (AV.cells p) 0 3) fun q r u => 
 bnC 3 (stC 3 (.agg [q,r,u])) fun e l m => 
 bnP (zc .lss e (.int .i64 1)) fun f => 
 bnP (gdQ f false (some e)) fun w => 
 bnP (gdQ f false (zc .gtr w (.int .i64 8))) fun x => 
 bnP (zr f (.bool true) x) fun g => 
 bnP (gdQ g false (some l)) fun y => 
 bnP (gdQ g false (zc .lss y (.int .i64 1))) fun z => 
 bnP (zr g (.bool true) z) fun h => 
 bnP (gdQ h false (some l)) fun A => 
 bnP (gdQ h false (zc .gtr A (.int .i64 1073741824))) fun B => 
 bnP (zr h (.bool true) B) fun i => 
 bnP (gdQ i false (some m)) fun C => 
 bnP (gdQ i false (zc .lss C (.int .i64 0))) fun D => 
 bnP (zr i (.bool true) D) fun j => 
 bnP (gdQ j false (some m)) fun E => 
 bnP (gdQ j false (zc .gtr E (.int .i64 1073741824))) fun F => 
 bnP (zr j (.bool true) F) fun d => 
 bnP (gdQ d false (some b)) fun G => 
 bnP (gdQ d false (zc .gtr G (.int .i64 0))) fun H => 
 bnP (gdQ d false (some H)) fun a => 
 bnP (gdQ a true (some e)) fun I => 
 bnP (gdQ a true (some c)) fun J => 
 bnP (gdQ a true (some b)) fun K => 
 bnP (gdQ a true (zc .sub K (.int .i64 1))) fun L => 
 bnP (gdQ a true (elQ 3 J L)) fun M => 
 bnP (gdQ a true ((AV.cells M)[0]?)) fun N => 
 bnP (gdQ a true (zc .leq I N)) fun O => 
 bnP (gdQ d false (zr a O (.bool false))) fun P => 
 bnP (zr d (.bool true) P) fun R => 
 zG R (fun _=>k .ret [(2,.v (.bool false))] [] Q)
 (fun _=>bnP (zc .add b (.int .i64 1)) fun S => 
 k .normal [(0,.v c),(3,.v S)] [] Q))
 (fun _=>k (.exit 0) [] [] Q)):=by kernel_rfl
noncomputable def j5 (s:zi) (a b:AV) (Q:z3):Option ja:=zj (z8 s) y8 [(0,.v a),(3,.v b)] [] Q
theorem xG (s:zi) (a b:AV) (Q:z3):zj (z8 s) y8 [(0,.v a),(3,.v b)] [] Q=j5 s a b Q:=rfl
theorem jZ (s:zi) (a b:AV) (Q:z3):j5 s a b Q=z5 (zd (z8 s)) (zj (z8 s)) y8 [(0,.v a),(3,.v b)] [] Q (goX (fun τ ω Q=>zj (z8 s) y8 τ ω Q) jk):=xh
abbrev ZG (Q:z3):Option ja:=some (.exit 0,[],[],Q)
theorem Xo {β:Type} (call:z7) (lp:ze) (Q:z3) (k:PK β):z5 call lp qY [] [] Q k=(
 k .ret [(2,.v (.bool true))] [] Q):=by kernel_rfl
theorem Qx {call:z7} {lp:ze} (a:AV) (Q:z3):z5 call lp wA [(0,.v a)] [] Q (zu [.tmp 2] [.n])=(
 bnX (lp y8 [(0,.v a),(3,.v (.int .i64 0))] [] Q) (kB 0 (goC (z5 call lp qY) (zu [.tmp 2] [.n])))):=by kernel_rfl
def Qy {s:zi} (hs:s.lookup 30=none) (a:AV) (Q:z3):=(zo (E:=z8 s) (f:=30) (fn:=xd) hs rfl [a] Q rfl).trans (Qx (call:=zd (z8 s)) (lp:=zj (z8 s)) a Q)
theorem j6 {β:Type} (call:z7) (lp:ze) (w x c d e f g h i a b j l m n o p q r y z u:AV) (Q:z3) (k:PK β):z5 call lp qZ [(1,.lp 1 0),(3,.lp 3 0),(4,.v w),(139,.v x)] [(1,.cells [c,d,e,f,g,h,i,a,b,j]),(3,.cells [l,m,n,o,p,q,r,y,z,u])] Q k=(
 zG x (fun _=>bnC 1 (stC 1 a) fun A => 
 bnC 1 (stC 1 b) fun B => 
 bnC 2 (vT [.int .i64 0,.int .i64 0] [(0,1,a),(1,1,b)]) fun C D => 
 bnS (call 63 [.agg [C,D]] Q) fun E F => 
 k .normal [(1,.lp 1 0),(3,.lp 3 0),(4,.v (frz E))] [(1,.cells [c,d,e,f,g,h,i,a,b,j]),(3,.cells [l,m,n,o,p,q,r,A,B,u])] F)
 (fun _=>k .normal [(1,.lp 1 0),(3,.lp 3 0),(4,.v w)] [(1,.cells [c,d,e,f,g,h,i,a,b,j]),(3,.cells [l,m,n,o,p,q,r,y,z,u])] Q)):=by kernel_rfl
theorem j7 {β:Type} (call:z7) (lp:ze) (C u I g h i j b c d a e f l m n o w x y z q r:AV) (Q:z3) (k:PK β):z5 call lp j3 [(1,.lp 1 0),(3,.lp 3 0),(4,.v C),(60,.v u),(61,.v I)] [(1,.cells [g,h,i,j,b,c,d,a,e,f]),(3,.cells [l,m,n,o,w,x,y,z,q,r])] Q k=(
 zG I (fun _=>bnC 1 (stC 1 b) fun J => 
 bnC 1 (stC 1 c) fun K => 
 bnC 1 (stC 1 d) fun L => 
 bnP (zc .geq b (.int .i64 0)) fun D => 
 bnP (gdQ D true (some b)) fun N => 
 bnP (gdQ D true (zc .leq N (.int .i64 1073741824))) fun O => 
 bnP (zr D O (.bool false)) fun E => 
 bnP (gdQ E true (some c)) fun P => 
 bnP (gdQ E true (zc .geq P (.int .i64 0))) fun R => 
 bnP (zr E R (.bool false)) fun F => 
 bnP (gdQ F true (some c)) fun S => 
 bnP (gdQ F true (zc .leq S (.int .i64 1073741824))) fun T => 
 bnP (zr F T (.bool false)) fun G => 
 bnP (gdQ G true (some d)) fun U => 
 bnS (gdH G true (call 29 [U] Q) Q) fun V A => 
 bnP (zr G (frz V) (.bool false)) fun p => 
 bnP (zc .eql g (.int .i64 2)) fun W => 
 zG W (fun _=>bnC 1 (stC 1 a) fun X => 
 bnP (gdQ p true (some a)) fun Y => 
 bnS (gdH p true (call 62 [Y] A) A) fun Z aa => 
 bnP (zr p (frz Z) (.bool false)) fun ab => 
 k .normal [(1,.lp 1 0),(3,.lp 3 0),(4,.v ab)] [(1,.cells [g,h,i,j,b,c,d,a,e,f]),(3,.cells [l,m,n,o,J,K,L,X,q,r])] aa)
 (fun _=>bnC 1 (stC 1 e) fun ac => 
 bnP (gdQ p true (some e)) fun ad => 
 bnS (gdH p true (call 62 [ad] A) A) fun ae af => 
 bnP (zr p (frz ae) (.bool false)) fun ag => 
 k .normal [(1,.lp 1 0),(3,.lp 3 0),(4,.v ag)] [(1,.cells [g,h,i,j,b,c,d,a,e,f]),(3,.cells [l,m,n,o,J,K,L,z,ac,r])] af))
 (fun _=>bnP (zc .eql u (.int .i64 7)) fun ah => 
 zG ah (fun _=>bnC 1 (stC 1 a) fun ai => 
 bnC 1 (stC 1 f) fun aj => 
 bnP (zc .geq a (.int .i64 1)) fun H => 
 bnP (gdQ H true (some a)) fun ak => 
 bnS (gdH H true (call 62 [ak] Q) Q) fun al ao => 
 bnP (zr H (frz al) (.bool false)) fun B => 
 bnP (gdQ B true (some f)) fun ap => 
 bnP (gdQ B true (Ww ap)) fun aq => 
 bnP (gdQ B true (zc .leq aq (.int .i64 12))) fun ar => 
 bnP (zr B ar (.bool false)) fun au => 
 k .normal [(1,.lp 1 0),(3,.lp 3 0),(4,.v au)] [(1,.cells [g,h,i,j,b,c,d,a,e,f]),(3,.cells [l,m,n,o,w,x,y,ai,q,aj])] ao)
 (fun _=>bnX (bnP (zc .eql u (.int .i64 8)) fun M => 
 zG M (fun _=>some (.normal,[(1,.lp 1 0),(3,.lp 3 0),(4,.v C),(139,.v M)],[(1,.cells [g,h,i,j,b,c,d,a,e,f]),(3,.cells [l,m,n,o,w,x,y,z,q,r])],Q))
 (fun _=>bnP (zc .eql u (.int .i64 9)) fun av => 
 some (.normal,[(1,.lp 1 0),(3,.lp 3 0),(4,.v C),(139,.v av)],[(1,.cells [g,h,i,j,b,c,d,a,e,f]),(3,.cells [l,m,n,o,w,x,y,z,q,r])],Q)))
 (goC (z5 call lp qZ) (z1m [] [] [1,3,4] [(1,1),(3,3)] (z1m [] [] [1,3,4] [(1,1),(3,3)] k)))))):=by kernel_rfl
theorem j8 {β:Type} (call:z7) (lp:ze) (a b c d e f g h i j l m n o p q r u w x y:AV) (Q:z3) (k:PK β):z5 call lp j4 [(1,.lp 1 0),(3,.lp 3 0),(4,.v a)] [(1,.cells [b,c,d,e,f,g,h,i,j,l]),(3,.cells [m,n,o,p,q,r,u,w,x,y])] Q k=(
 bnP (gdQ a true (some (.agg [m,n,o,p,q,r,u,w,x,y]))) fun z => 
 bnP (gdQ a true (some (.agg [b,c,d,e,f,g,h,i,j,l]))) fun A => 
 bnS (gdH a true (call 60 [z,A] Q) Q) fun B D => 
 bnP (zr a (frz B) (.bool false)) fun C => 
 k .ret [(2,.v C),(159,.v C),(158,.v (frz B)),(157,.v A),(156,.v z),(155,.v a),(154,.v a),(1,.lp 1 0),(3,.lp 3 0),(4,.v a)] [(1,.cells [b,c,d,e,f,g,h,i,j,l]),(3,.cells [m,n,o,p,q,r,u,w,x,y])] D):=by kernel_rfl
theorem Qz {call:z7} {lp:ze} (o p q r u w x y z A:AV) (Q:z3):z5 call lp wB [(0,.v (.agg [o,p,q,r,u,w,x,y,z,A]))] [] Q (zu [.tmp 2] [.n])=(
 bnC 10 (stC 10 (.agg [o,p,q,r,u,w,x,y,z,A])) fun a b c d B C D E F G => 
 bnP (zc .lss a (.int .i64 1)) fun f => 
 bnP (gdQ f false (some a)) fun T => 
 bnP (gdQ f false (zc .gtr T (.int .i64 9))) fun U => 
 bnP (zr f (.bool true) U) fun g => 
 bnP (gdQ g false (some b)) fun V => 
 bnP (gdQ g false (zc .lss V (.int .i64 1))) fun W => 
 bnP (zr g (.bool true) W) fun h => 
 bnP (gdQ h false (some b)) fun X => 
 bnP (gdQ h false (zc .gtr X (.int .i64 8))) fun Y => 
 bnP (zr h (.bool true) Y) fun i => 
 bnP (gdQ i false (some c)) fun Z => 
 bnP (gdQ i false (zc .lss Z (.int .i64 1))) fun aa => 
 bnP (zr i (.bool true) aa) fun j => 
 bnP (gdQ j false (some c)) fun ab => 
 bnP (gdQ j false (zc .gtr ab (.int .i64 8))) fun ac => 
 bnP (zr j (.bool true) ac) fun e => 
 bnP (gdQ e false (some b)) fun ad => 
 bnP (gdQ e false (some c)) fun ae => 
 bnP (gdQ e false (zc .eql ad ae)) fun af => 
 bnP (zr e (.bool true) af) fun l => 
 bnP (gdQ l false (some d)) fun ag => 
 bnP (gdQ l false (zc .lss ag (.int .i64 1))) fun ah => 
 bnP (zr l (.bool true) ah) fun m => 
 bnP (gdQ m false (some d)) fun ai => 
 bnP (gdQ m false (zc .gtr ai (.int .i64 1073741824))) fun aj => 
 bnP (zr m (.bool true) aj) fun ak => 
 zG ak (fun _=>some (.bool false,Q))
 (fun _=>bnC 10 (vT [.int .i64 0,.int .i64 0,.int .i64 0,.int .i64 0,.int .i64 0,.int .i64 0,.nils,.int .i64 0,.int .i64 0,.str []] [(0,1,a),(1,1,b),(2,1,c),(3,1,d)]) fun al ao ap aq ar au av aw ax ay => 
 bnC 10 (stC 10 (.agg [al,ao,ap,aq,ar,au,av,aw,ax,ay])) fun H I J K L M N O P R => 
 bnX (bnX (bnX (bnP (zc .eql a (.int .i64 2)) fun S => 
 zG S (fun _=>some (.normal,[(1,.lp 1 0),(3,.lp 3 0),(4,.v (.bool true)),(60,.v a),(61,.v S)],[(1,.cells [a,b,c,d,B,C,D,E,F,G]),(3,.cells [H,I,J,K,L,M,N,O,P,R])],Q))
 (fun _=>bnP (zc .eql a (.int .i64 5)) fun az => 
 some (.normal,[(1,.lp 1 0),(3,.lp 3 0),(4,.v (.bool true)),(60,.v a),(61,.v az)],[(1,.cells [a,b,c,d,B,C,D,E,F,G]),(3,.cells [H,I,J,K,L,M,N,O,P,R])],Q)))
 (goC (z5 call lp j3) jk))
 (kB 0 jk))
 (goC (z5 call lp j4) (zu [.tmp 2] [.n])))):=by kernel_rfl
def wI {s:zi} (hs:s.lookup 31=none) (a b c d e g h i j l:AV) (Q:z3):=(zo (E:=z8 s) (f:=31) (fn:=xe) hs rfl [.agg [a,b,c,d,e,g,h,i,j,l]] Q rfl).trans (Qz (call:=zd (z8 s)) (lp:=zj (z8 s)) a b c d e g h i j l Q)
theorem Zp {β:Type} (call:z7) (lp:ze) (a c b:AV) (Q:z3) (k:PK β):z5 call lp yK [(0,.v a),(1,.v c),(5,.v b)] [] Q k=(
 bnP (km a) fun d => 
 bnP (zc .lss b d) fun e => 
 zG e (fun _=>bnP (elQ 1 a b) fun f => 
 bnP ((AV.cells f)[0]?) fun g => 
 bnP (zc .eql g c) fun h => 
 zG h (fun _=>k .ret [(4,.v (.bool true))] [] Q)
 (fun _=>bnP (zc .add b (.int .i64 1)) fun i => 
 k .normal [(0,.v a),(1,.v c),(5,.v i)] [] Q))
 (fun _=>k (.exit 0) [] [] Q)):=by kernel_rfl
noncomputable def kR (s:zi) (a b c:AV) (Q:z3):Option ja:=zj (z8 s) yK [(0,.v a),(1,.v b),(5,.v c)] [] Q
theorem qR (s:zi) (a b c:AV) (Q:z3):zj (z8 s) yK [(0,.v a),(1,.v b),(5,.v c)] [] Q=kR s a b c Q:=rfl
theorem vR (s:zi) (a b c:AV) (Q:z3):kR s a b c Q=z5 (zd (z8 s)) (zj (z8 s)) yK [(0,.v a),(1,.v b),(5,.v c)] [] Q (goX (fun τ ω Q=>zj (z8 s) yK τ ω Q) jk):=xh
abbrev XY (Q:z3):Option ja:=some (.exit 0,[],[],Q)
abbrev Xp (a:AV) (Q:z3):Option ja:=some (.ret,[(4,.v a)],[],Q)
theorem JS {β:Type} (call:z7) (lp:ze) (Q:z3) (k:PK β):z5 call lp kM [] [] Q k=(
 k .ret [(4,.v (.bool false))] [] Q):=by kernel_rfl
theorem Vx {call:z7} {lp:ze} (a b:AV) (Q:z3):z5 call lp Yl [(0,.v a),(1,.v b)] [] Q (zu [.tmp 4] [.n])=(
 bnX (lp yK [(0,.v a),(1,.v b),(5,.v (.int .i64 0))] [] Q) (kB 0 (goC (z5 call lp kM) (zu [.tmp 4] [.n])))):=by kernel_rfl
def Vy {s:zi} (hs:s.lookup 32=none) (a b:AV) (Q:z3):=(zo (E:=z8 s) (f:=32) (fn:=qd) hs rfl [a,b] Q rfl).trans (Vx (call:=zd (z8 s)) (lp:=zj (z8 s)) a b Q)
theorem QA {call:z7} {lp:ze} (c a:AV) (Q:z3):z5 call lp wC [(0,.v c),(1,.v a)] [] Q (zu [.tmp 4,.tmp 5] [.f 1,.n])=(
 bnL (VK [] 1 (.v c)) fun b => 
 pinB (room 8 ((([]:List AV):List AV).length+(b:List AV).length)) <| 
 pinB (JV 1 a) <| 
 pinB (room 8 (((([]:List AV)++b):List AV).length+(([a]:List AV):List AV).length)) <| 
 bnS (call 29 [.fz 1 ((([]:List AV)++b)++([a]:List AV))] ⟨Q.size,.leaf⟩) fun d _=>pinB (vU d) <| 
 bnP (unA .not d) fun e => 
 zG e (fun _=>some (.tup [.fz 1 [],.bool false],Q))
 (fun _=>some (.tup [.fz 1 ((([]:List AV)++b)++([a]:List AV)),.bool true],Q))):=by kernel_rfl
def wJ {s:zi} (hs:s.lookup 35=none) (a b:AV) (Q:z3):=(zo (E:=z8 s) (f:=35) (fn:=xf) hs rfl [a,b] Q rfl).trans (QA (call:=zd (z8 s)) (lp:=zj (z8 s)) a b Q)
theorem ve {β:Type} (call:z7) (lp:ze) (b c a:AV) (Q:z3) (k:PK β):z5 call lp zY [(0,.v b),(1,.v c),(5,.v a)] [] Q k=(
 bnP (km b) fun d => 
 bnP (zc .lss a d) fun e => 
 zG e (fun _=>bnP (elQ 1 b a) fun f => 
 bnP ((AV.cells f)[0]?) fun g => 
 bnP (elQ 1 c a) fun h => 
 bnP ((AV.cells h)[0]?) fun i => 
 bnP (zc .neq g i) fun j => 
 zG j (fun _=>k .ret [(4,.v (.bool false))] [] Q)
 (fun _=>bnP (zc .add a (.int .i64 1)) fun l => 
 k .normal [(0,.v b),(1,.v c),(5,.v l)] [] Q))
 (fun _=>k (.exit 0) [] [] Q)):=by kernel_rfl
noncomputable def qS (s:zi) (a b c:AV) (Q:z3):Option ja:=zj (z8 s) zY [(0,.v a),(1,.v b),(5,.v c)] [] Q
theorem ji (s:zi) (a b c:AV) (Q:z3):zj (z8 s) zY [(0,.v a),(1,.v b),(5,.v c)] [] Q=qS s a b c Q:=rfl
theorem jI (s:zi) (a b c:AV) (Q:z3):qS s a b c Q=z5 (zd (z8 s)) (zj (z8 s)) zY [(0,.v a),(1,.v b),(5,.v c)] [] Q (goX (fun τ ω Q=>zj (z8 s) zY τ ω Q) jk):=xh
abbrev Zq (Q:z3):Option ja:=some (.exit 0,[],[],Q)
theorem YE {β:Type} (call:z7) (lp:ze) (Q:z3) (k:PK β):z5 call lp qJ [] [] Q k=(
 k .ret [(4,.v (.bool true))] [] Q):=by kernel_rfl
theorem XZ {call:z7} {lp:ze} (a b:AV) (Q:z3):z5 call lp vP [(0,.v a),(1,.v b)] [] Q (zu [.tmp 4] [.n])=(
 bnP (km a) fun c => 
 bnP (km b) fun d => 
 bnP (zc .neq c d) fun e => 
 zG e (fun _=>some (.bool false,Q))
 (fun _=>bnX (lp zY [(0,.v a),(1,.v b),(5,.v (.int .i64 0))] [] Q) (kB 0 (goC (z5 call lp qJ) (zu [.tmp 4] [.n]))))):=by kernel_rfl
def Q8 {s:zi} (hs:s.lookup 36=none) (a b:AV) (Q:z3):=(zo (E:=z8 s) (f:=36) (fn:=yY) hs rfl [a,b] Q rfl).trans (XZ (call:=zd (z8 s)) (lp:=zj (z8 s)) a b Q)
theorem z8z {call:z7} {lp:ze} (a b c d e f g h i j l m o:AV) (Q:z3):z5 call lp z3B [(0,.v (.agg [a,b,c,d,e,f,g,h,i,j,l,m,o]))] [] Q (zu [.tmp 2] [.n])=(
 bnC 13 (stC 13 (.agg [a,b,c,d,e,f,g,h,i,j,l,m,o])) fun p q r u w x y z A B C D E => 
 bnS (call 64 [y] Q) fun F G => 
 bnS (call 65 [E] G) fun H I => 
 bnC 1 (stC 1 (frz F)) fun J => 
 bnC 1 (stC 1 (frz H)) fun K => 
 bnS (QS I (AV.cells (.agg [p,q,r,u,w,x,J,z,A,B,C,D,K,.nils]))) fun L M => 
 bnP (rcv false .n L) fun N=>some (N,M)):=by kernel_rfl
def z8A {s:zi} (hs:s.lookup 38=none) (a b c d e g h i j l m n o:AV) (Q:z3):=(zo (E:=z8 s) (f:=38) (fn:=Ym) hs rfl [.agg [a,b,c,d,e,g,h,i,j,l,m,n,o]] Q rfl).trans (z8z (call:=zd (z8 s)) (lp:=zj (z8 s)) a b c d e g h i j l m n o Q)
theorem z2J {call:z7} {lp:ze} (a b:AV) (Q:z3):z5 call lp Ko [(0,.v a),(1,.v b)] [] Q (zu [.tmp 4] [.f 3])=(
 bnC 1 (stC 1 b) fun c => 
 bnS (call 65 [a] Q) fun d e=>bnL (owZ 3 d) fun g => 
 bnS (call 1000066 [.ow 3 g,.fn 67 [] [.cp [c] 0]] e) fun h i => 
 bnP (rcv false (.f 3) (frz h)) fun j=>some (j,i)):=by kernel_rfl
def z2K {s:zi} (hs:s.lookup 39=none) (a b:AV) (Q:z3):=(zo (E:=z8 s) (f:=39) (fn:=kp) hs rfl [a,b] Q rfl).trans (z2J (call:=zd (z8 s)) (lp:=zj (z8 s)) a b Q)
theorem WF {call:z7} {lp:ze} (a b:AV) (Q:z3):z5 call lp XG [(0,.v a),(1,.v b)] [] Q (zu [] [])=(
 bnP (zn a) fun c => 
 bnP (z9 0 c) fun d => 
 bnP (z9 3 d) fun e => 
 bnS (stA Q 1 e (.int .i64 0)) fun _ f => 
 bnP (zn a) fun g => 
 bnP (z9 0 g) fun h => 
 bnP (z9 4 h) fun i => 
 bnS (stA f 1 i (.int .i64 0)) fun _ j => 
 bnP (zn a) fun l => 
 bnP (z9 0 l) fun m => 
 bnP (z9 6 m) fun n => 
 bnS (stA j 1 n .nils) fun _ o => 
 bnP (zn a) fun p => 
 bnP (z9 0 p) fun q => 
 bnP (z9 9 q) fun r => 
 bnS (stA o 1 r (.int .i64 0)) fun _ u => 
 bnP (zn a) fun w => 
 bnP (z9 0 w) fun x => 
 bnP (z9 11 x) fun y => 
 bnS (stA u 1 y b) fun _ z => 
 some (.tup [],z)):=by kernel_rfl
def WG {s:zi} (hs:s.lookup 40=none) (a b:AV) (Q:z3):=(zo (E:=z8 s) (f:=40) (fn:=qK) hs rfl [a,b] Q rfl).trans (WF (call:=zd (z8 s)) (lp:=zj (z8 s)) a b Q)
theorem jv {β:Type} (call:z7) (lp:ze) (a:AV) (Q:z3) (k:PK β):z5 call lp vB [(0,.v a)] [] Q k=(
 bnP (zn a) fun b => 
 bnP (z9 0 b) fun c => 
 bnP (z9 2 c) fun d => 
 bnP (ldQ Q d) fun e => 
 bnP (zc .add e (.int .i64 3)) fun f => 
 bnP (zn a) fun g => 
 bnP (z9 0 g) fun h => 
 bnP (z9 10 h) fun i => 
 bnS (stA Q 1 i f) fun _ j => 
 bnP (zn a) fun l => 
 bnP (z9 0 l) fun m => 
 bnP (z9 9 m) fun n => 
 bnP (ldQ j n) fun o => 
 bnS (call 61 [a,.int .i64 1,o,.int .i64 0] j) fun p q => 
 k .normal [(110,.v (frz p)),(109,.v o),(108,.v n),(107,.v m),(106,.v l),(105,.v a),(104,.v a),(103,.v i),(102,.v h),(101,.v g),(100,.v f),(99,.v e),(98,.v d),(97,.v c),(96,.v b),(95,.v a),(94,.v a),(0,.v a)] [] q):=by kernel_rfl
theorem ZT {β:Type} (call:z7) (lp:ze) (a:AV) (Q:z3) (k:PK β):z5 call lp ju [(0,.v a)] [] Q k=(
 bnP (zn a) fun e => 
 bnP (z9 0 e) fun f => 
 bnP (z9 9 f) fun g => 
 bnP (ldQ Q g) fun h => 
 bnP (zc .neq h (.int .i64 0)) fun i => 
 zG i (fun _=>k .ret [(53,.v i),(52,.v h),(51,.v g),(50,.v f),(49,.v e),(48,.v a),(0,.v a)] [] Q)
 (fun _=>bnP (zn a) fun j => 
 bnP (z9 0 j) fun l => 
 bnP (z9 9 l) fun m => 
 bnS (stA Q 1 m (.int .i64 1)) fun _ c => 
 bnX (bnP (zn a) fun n => 
 bnP (z9 0 n) fun o => 
 bnP (z9 11 o) fun p => 
 bnP (ldQ c p) fun q => 
 bnP (zc .eql q (.int .i64 0)) fun d => 
 bnP (gdQ d true (some a)) fun r => 
 bnP (gdQ d true (zn r)) fun u => 
 bnP (gdQ d true (z9 0 u)) fun w => 
 bnP (gdQ d true (z9 5 w)) fun x => 
 bnP (gdQ d true (ldQ c x)) fun y => 
 bnP (gdQ d true (zc .neq y (.int .i64 0))) fun z => 
 bnP (zr d z (.bool false)) fun b => 
 bnP (gdQ b true (some a)) fun A => 
 bnP (gdQ b true (zn A)) fun B => 
 bnP (gdQ b true (z9 0 B)) fun C => 
 bnP (gdQ b true (z9 5 C)) fun D => 
 bnP (gdQ b true (ldQ c D)) fun E => 
 bnP (gdQ b true (some a)) fun F => 
 bnP (gdQ b true (zn F)) fun G => 
 bnP (gdQ b true (z9 0 G)) fun H => 
 bnP (gdQ b true (z9 0 H)) fun I => 
 bnP (gdQ b true (ldQ c I)) fun J => 
 bnP (gdQ b true (zc .neq E J)) fun K => 
 bnP (zr b K (.bool false)) fun L => 
 zG L (fun _=>bnP (zn a) fun M => 
 bnP (z9 0 M) fun N => 
 bnP (z9 5 N) fun O => 
 bnP (ldQ c O) fun P => 
 bnP (zn a) fun R => 
 bnP (z9 0 R) fun S => 
 bnP (z9 9 S) fun T => 
 bnS (stA c 1 T P) fun _ U => 
 some (.normal,[(0,.v a)],[],U))
 (fun _=>some (.normal,[(0,.v a)],[],c)))
 (goC (z5 call lp vB) k))):=by kernel_rfl
theorem WH {call:z7} {lp:ze} (b:AV) (Q:z3):z5 call lp XH [(0,.v b)] [] Q (zu [] [])=(
 bnP (zn b) fun e => 
 bnP (z9 0 e) fun f => 
 bnP (z9 0 f) fun g => 
 bnP (ldQ Q g) fun h => 
 bnP (zc .eql h (.int .i64 1)) fun c => 
 bnP (gdQ c false (some b)) fun i => 
 bnP (gdQ c false (zn i)) fun j => 
 bnP (gdQ c false (z9 0 j)) fun l => 
 bnP (gdQ c false (z9 3 l)) fun m => 
 bnP (gdQ c false (ldQ Q m)) fun n => 
 bnP (gdQ c false (zc .neq n (.int .i64 0))) fun o => 
 bnP (zr c (.bool true) o) fun p => 
 zG p (fun _=>some (.tup [],Q))
 (fun _=>bnX (bnP (zn b) fun q => 
 bnP (z9 0 q) fun r => 
 bnP (z9 9 r) fun u => 
 bnP (ldQ Q u) fun w => 
 bnP (zc .neq w (.int .i64 0)) fun a => 
 bnP (gdQ a true (some b)) fun x => 
 bnP (gdQ a true (zn x)) fun y => 
 bnP (gdQ a true (z9 0 y)) fun z => 
 bnP (gdQ a true (z9 2 z)) fun A => 
 bnP (gdQ a true (ldQ Q A)) fun B => 
 bnP (gdQ a true (some b)) fun C => 
 bnP (gdQ a true (zn C)) fun D => 
 bnP (gdQ a true (z9 0 D)) fun E => 
 bnP (gdQ a true (z9 10 E)) fun F => 
 bnP (gdQ a true (ldQ Q F)) fun G => 
 bnP (gdQ a true (zc .geq B G)) fun H => 
 bnP (zr a H (.bool false)) fun I => 
 zG I (fun _=>bnP (zn b) fun J => 
 bnP (z9 0 J) fun K => 
 bnP (z9 9 K) fun L => 
 bnS (stA Q 1 L (.int .i64 0)) fun _ d => 
 bnP (zn b) fun M => 
 bnP (z9 0 M) fun N => 
 bnP (z9 11 N) fun O => 
 bnP (ldQ d O) fun P => 
 bnP (zc .add P (.int .i64 1)) fun R => 
 bnP (zn b) fun S => 
 bnP (z9 0 S) fun T => 
 bnP (z9 11 T) fun U => 
 bnS (stA d 1 U R) fun _ V => 
 some (.normal,[(0,.v b)],[],V))
 (fun _=>some (.normal,[(0,.v b)],[],Q)))
 (goC (z5 call lp ju) (zu [] [])))):=by kernel_rfl
def WI {s:zi} (hs:s.lookup 41=none) (a:AV) (Q:z3):=(zo (E:=z8 s) (f:=41) (fn:=qL) hs rfl [a] Q rfl).trans (WH (call:=zd (z8 s)) (lp:=zj (z8 s)) a Q)
theorem Zr {β:Type} (call:z7) (lp:ze) (a b c d:AV) (Q:z3) (k:PK β):z5 call lp kN [(0,.v a),(28,.v b),(29,.v c),(30,.v d)] [] Q k=(
 bnP (zc .add d (.int .i64 1)) fun e => 
 k .normal [(0,.v a),(28,.v b),(29,.v c),(30,.v e)] [] Q):=by kernel_rfl
theorem Zs {β:Type} (call:z7) (lp:ze) (a c d b:AV) (Q:z3) (k:PK β):z5 call lp yL [(0,.v a),(28,.v c),(29,.v d),(30,.v b)] [] Q k=(
 bnP (zc .lss b d) fun f => 
 zG f (fun _=>bnX (bnX (bnP (elQ 3 c b) fun g => 
 bnC 3 (cut (AV.cells g) 0 3) fun h i j => 
 bnC 3 (stC 3 (.agg [h,i,j])) fun l G H => 
 bnP (zn a) fun m => 
 bnP (z9 0 m) fun n => 
 bnC 13 (yk Q 13 n) fun o p q r u w x y z A B C D => 
 bnS (call 25 [.agg [o,p,q,r,u,w,x,y,z,A,B,C,D]] Q) fun E e => 
 zG (frz E) (fun _=>bnS (call 61 [a,.int .i64 5,l,.int .i64 0] e) fun I F => 
 some (.normal,[(0,.v a),(28,.v c),(29,.v d),(30,.v b)],[],F))
 (fun _=>some (.normal,[(0,.v a),(28,.v c),(29,.v d),(30,.v b)],[],e)))
 (kB 1 jk))
 (goC (z5 call lp kN) k))
 (fun _=>k (.exit 0) [] [] Q)):=by kernel_rfl
noncomputable def kS (s:zi) (a b c d:AV) (Q:z3):Option ja:=zj (z8 s) yL [(0,.v a),(28,.v b),(29,.v c),(30,.v d)] [] Q
theorem xw (s:zi) (a b c d:AV) (Q:z3):zj (z8 s) yL [(0,.v a),(28,.v b),(29,.v c),(30,.v d)] [] Q=kS s a b c d Q:=rfl
theorem vS (s:zi) (a b c d:AV) (Q:z3):kS s a b c d Q=z5 (zd (z8 s)) (zj (z8 s)) yL [(0,.v a),(28,.v b),(29,.v c),(30,.v d)] [] Q (goX (fun τ ω Q=>zj (z8 s) yL τ ω Q) jk):=xh
abbrev Q9 (Q:z3):Option ja:=some (.exit 0,[],[],Q)
theorem Zt {β:Type} (call:z7) (lp:ze) (a:AV) (Q:z3) (k:PK β):z5 call lp kO [(0,.v a)] [] Q k=(
 bnP (zn a) fun c => 
 bnP (z9 0 c) fun d => 
 bnP (z9 12 d) fun e => 
 bnP (ldQ Q e) fun b => 
 bnP (km b) fun f => 
 bnX (lp yL [(0,.v a),(28,.v b),(29,.v f),(30,.v (.int .i64 0))] [] Q) (kB 0 k)):=by kernel_rfl
theorem Vz {call:z7} {lp:ze} (a:AV) (Q:z3):z5 call lp Yn [(0,.v a)] [] Q (zu [] [])=(
 bnP (zn a) fun b => 
 bnP (z9 0 b) fun c => 
 bnP (z9 2 c) fun d => 
 bnP (ldQ Q d) fun e => 
 bnP (zc .rem e (.int .i64 2)) fun f => 
 bnP (zc .neq f (.int .i64 0)) fun g => 
 zG g (fun _=>some (.tup [],Q))
 (fun _=>bnX (bnP (zn a) fun h => 
 bnP (z9 0 h) fun i => 
 bnP (z9 3 i) fun j => 
 bnP (ldQ Q j) fun l => 
 bnP (zc .neq l (.int .i64 0)) fun m => 
 zG m (fun _=>bnP (zn a) fun n => 
 bnP (z9 0 n) fun o => 
 bnP (z9 3 o) fun p => 
 bnP (ldQ Q p) fun q => 
 bnS (call 61 [a,.int .i64 4,q,.int .i64 0] Q) fun u r => 
 some (.normal,[(0,.v a)],[],r))
 (fun _=>some (.normal,[(0,.v a)],[],Q)))
 (goC (z5 call lp kO) (zu [] [])))):=by kernel_rfl
def VA {s:zi} (hs:s.lookup 42=none) (a:AV) (Q:z3):=(zo (E:=z8 s) (f:=42) (fn:=qe) hs rfl [a] Q rfl).trans (Vz (call:=zd (z8 s)) (lp:=zj (z8 s)) a Q)
theorem YF {call:z7} {lp:ze} (a:AV) (Q:z3):z5 call lp v8 [(0,.v a)] [] Q (zu [.tmp 2] [.n])=(
 bnS (call 13 [a,.int .i64 5] Q) fun b c => 
 bnP (elQ 1 (.fz 1 [.str [],.str [97],.str [98,99],.str [104,101,108,108,111],.str [116,119,101,108,118,101,32,98,121,116,101,115]]) (frz b)) fun d => 
 bnP ((AV.cells d)[0]?) fun e => 
 bnP (rcv false .n e) fun f=>some (f,c)):=by kernel_rfl
def YG {s:zi} (hs:s.lookup 47=none) (a:AV) (Q:z3):=(zo (E:=z8 s) (f:=47) (fn:=yE) hs rfl [a] Q rfl).trans (YF (call:=zd (z8 s)) (lp:=zj (z8 s)) a Q)
theorem z5k {call:z7} {lp:ze} (b c d:AV) (Q:z3):z5 call lp z0i [(0,.v b),(1,.v c),(2,.v d)] [] Q (zu [.tmp 6] [.n])=(
 bnS (call 68 [b,c] Q) fun e f => 
 bnP (ko (frz e) 0) fun g => 
 bnP (ko (frz e) 1) fun a => 
 bnC 3 (stC 3 g) fun p h q => 
 bnP (gdQ a true (some h)) fun i => 
 bnP (gdQ a true (some d)) fun j => 
 bnP (gdQ a true (zc .gtr i j)) fun l => 
 bnP (zr a l (.bool false)) fun m => 
 bnP (rcv false .n m) fun o=>some (o,f)):=by kernel_rfl
def z5l {s:zi} (hs:s.lookup 48=none) (a b c:AV) (Q:z3):=(zo (E:=z8 s) (f:=48) (fn:=wD) hs rfl [a,b,c] Q rfl).trans (z5k (call:=zd (z8 s)) (lp:=zj (z8 s)) a b c Q)
theorem KB {call:z7} {lp:ze} (a c d e f g h i j l m n:AV) (Q:z3):z5 call lp ZM [(0,.v a),(1,.v (.agg [c,d,e,f,g,h,i,j,l,m])),(2,.v n)] [] Q (zu [] [])=(
 bnC 10 (stC 10 (.agg [c,d,e,f,g,h,i,j,l,m])) fun p b q r u w x y z A => 
 bnS (call 69 [a,b] Q) fun B o => 
 bnP (unA .not (frz B)) fun C => 
 zG C (fun _=>bnS (call 61 [a,.int .i64 3,b,.int .i64 0] o) fun G D => 
 some (.tup [],D))
 (fun _=>bnS (call 70 [a,.agg [p,b,q,r,u,w,x,y,z,A]] o) fun H E => 
 bnS (call 61 [a,.int .i64 2,b,n] E) fun I F => 
 some (.tup [],F))):=by kernel_rfl
def KC {s:zi} (hs:s.lookup 49=none) (a b c d e g h i j l m n:AV) (Q:z3):=(zo (E:=z8 s) (f:=49) (fn:=xO) hs rfl [a,.agg [b,c,d,e,g,h,i,j,l,m],n] Q rfl).trans (KB (call:=zd (z8 s)) (lp:=zj (z8 s)) a b c d e g h i j l m n Q)
theorem KD {call:z7} {lp:ze} (a f g h i j l m n o p:AV) (Q:z3):z5 call lp ZN [(0,.v a),(1,.v (.agg [f,g,h,i,j,l,m,n,o,p]))] [] Q (zu [] [])=(
 bnC 10 (stC 10 (.agg [f,g,h,i,j,l,m,n,o,p])) fun B c C q r d u D E F => 
 bnP (zn a) fun G => 
 bnP (z9 0 G) fun H => 
 bnP (z9 9 H) fun I => 
 bnP (ldQ Q I) fun J => 
 bnP (zc .neq J c) fun b => 
 bnP (gdQ b false (some a)) fun K => 
 bnP (gdQ b false (zn K)) fun L => 
 bnP (gdQ b false (z9 0 L)) fun M => 
 bnP (gdQ b false (z9 3 M)) fun N => 
 bnP (gdQ b false (ldQ Q N)) fun O => 
 bnP (gdQ b false (zc .neq O (.int .i64 0))) fun P => 
 bnP (zr b (.bool true) P) fun R => 
 zG R (fun _=>bnX (bnP (zn a) fun S => 
 bnP (z9 0 S) fun T => 
 bnP (z9 3 T) fun U => 
 bnP (ldQ Q U) fun V => 
 bnP (zc .neq V c) fun W => 
 zG W (fun _=>bnS (call 61 [a,.int .i64 6,c,.int .i64 0] Q) fun bn X => 
 some (.normal,[],[],X))
 (fun _=>some (.normal,[],[],Q)))
 (goC (z5 call lp .ret) (goC (z5 call lp Z0) (zu [] []))))
 (fun _=>bnP (zn a) fun Y => 
 bnP (z9 0 Y) fun Z => 
 bnP (z9 9 Z) fun aa => 
 bnS (stA Q 1 aa (.int .i64 0)) fun _ w => 
 bnP (zn a) fun ab => 
 bnP (z9 0 ab) fun ac => 
 bnP (z9 0 ac) fun ad => 
 bnP (ldQ w ad) fun ae => 
 bnS (call 71 [u,ae] w) fun x y => 
 bnP (ko (frz x) 0) fun af => 
 bnP (ko (frz x) 1) fun ag => 
 bnP (unA .not ag) fun e => 
 bnP (gdQ e false (some d)) fun ah => 
 bnP (gdQ e false (zc .gtr ah (.int .i64 20))) fun ai => 
 bnP (zr e (.bool true) ai) fun aj => 
 zG aj (fun _=>bnS (call 61 [a,.int .i64 6,c,.int .i64 0] y) fun bo z => 
 bnP (zn a) fun ak => 
 bnP (z9 0 ak) fun al => 
 bnP (z9 11 al) fun ao => 
 bnP (ldQ z ao) fun ap => 
 bnP (zc .add ap (.int .i64 1)) fun aq => 
 bnP (zn a) fun ar => 
 bnP (z9 0 ar) fun au => 
 bnP (z9 11 au) fun av => 
 bnS (stA z 1 av aq) fun _ aw => 
 some (.tup [],aw))
 (fun _=>bnS (call 72 [a,.agg [B,c,C,q,r,d,u,D,E,F],af] y) fun bp A => 
 bnP (zn a) fun ax => 
 bnP (z9 0 ax) fun ay => 
 bnP (z9 2 ay) fun az => 
 bnP (ldQ A az) fun a0 => 
 bnP (zc .sub a0 d) fun a1 => 
 bnP (zn a) fun a2 => 
 bnP (z9 0 a2) fun a3 => 
 bnP (z9 3 a3) fun a4 => 
 bnS (stA A 1 a4 c) fun _ a5 => 
 bnP (zn a) fun a6 => 
 bnP (z9 0 a6) fun a7 => 
 bnP (z9 4 a7) fun a8 => 
 bnS (stA a5 1 a8 q) fun _ a9 => 
 bnP (zn a) fun ba => 
 bnP (z9 0 ba) fun bb => 
 bnP (z9 7 bb) fun bc => 
 bnS (stA a9 1 bc r) fun _ bd => 
 bnP (zn a) fun bf => 
 bnP (z9 0 bf) fun bg => 
 bnP (z9 8 bg) fun bh => 
 bnS (stA bd 1 bh a1) fun _ bi => 
 bnP (zn a) fun bj => 
 bnP (z9 0 bj) fun bk => 
 bnP (z9 11 bk) fun bl => 
 bnS (stA bi 1 bl (.int .i64 0)) fun _ bm => 
 some (.tup [],bm)))):=by kernel_rfl
def KE {s:zi} (hs:s.lookup 50=none) (a b c d e g h i j l m:AV) (Q:z3):=(zo (E:=z8 s) (f:=50) (fn:=xP) hs rfl [a,.agg [b,c,d,e,g,h,i,j,l,m]] Q rfl).trans (KD (call:=zd (z8 s)) (lp:=zj (z8 s)) a b c d e g h i j l m Q)
theorem KF {call:z7} {lp:ze} (a b c d e f g h i j l:AV) (Q:z3):z5 call lp ZO [(0,.v a),(1,.v (.agg [b,c,d,e,f,g,h,i,j,l]))] [] Q (zu [] [])=(
 bnC 10 (stC 10 (.agg [b,c,d,e,f,g,h,i,j,l])) fun O m P R S T U V W X => 
 bnX (bnP (zn a) fun o => 
 bnP (z9 0 o) fun p => 
 bnP (z9 9 p) fun q => 
 bnP (ldQ Q q) fun r => 
 bnP (zc .eql m r) fun u => 
 zG u (fun _=>bnP (zn a) fun w => 
 bnP (z9 0 w) fun x => 
 bnP (z9 9 x) fun y => 
 bnS (stA Q 1 y (.int .i64 0)) fun _ n => 
 bnP (zn a) fun z => 
 bnP (z9 0 z) fun A => 
 bnP (z9 11 A) fun B => 
 bnP (ldQ n B) fun C => 
 bnP (zc .add C (.int .i64 1)) fun D => 
 bnP (zn a) fun E => 
 bnP (z9 0 E) fun F => 
 bnP (z9 11 F) fun G => 
 bnS (stA n 1 G D) fun _ H => 
 some (.normal,[],[],H))
 (fun _=>bnP (zn a) fun I => 
 bnP (z9 0 I) fun J => 
 bnP (z9 3 J) fun K => 
 bnP (ldQ Q K) fun L => 
 bnP (zc .eql m L) fun M => 
 zG M (fun _=>bnS (call 40 [a,.int .i64 0] Q) fun Y N => 
 some (.normal,[],[],N))
 (fun _=>some (.normal,[],[],Q))))
 (kB 0 (zu [] []))):=by kernel_rfl
def KG {s:zi} (hs:s.lookup 51=none) (a b c d e g h i j l m:AV) (Q:z3):=(zo (E:=z8 s) (f:=51) (fn:=xQ) hs rfl [a,.agg [b,c,d,e,g,h,i,j,l,m]] Q rfl).trans (KF (call:=zd (z8 s)) (lp:=zj (z8 s)) a b c d e g h i j l m Q)
theorem KH {call:z7} {lp:ze} (a c d e f g h i j l m:AV) (Q:z3):z5 call lp ZP [(0,.v a),(1,.v (.agg [c,d,e,f,g,h,i,j,l,m]))] [] Q (zu [] [])=(
 bnC 10 (stC 10 (.agg [c,d,e,f,g,h,i,j,l,m])) fun p b q r u w x y z A => 
 bnP (zn a) fun B => 
 bnP (z9 0 B) fun C => 
 bnP (z9 12 C) fun D => 
 bnP (ldQ Q D) fun E => 
 bnS (call 68 [E,b] Q) fun n o => 
 bnP (ko (frz n) 0) fun F => 
 bnP (ko (frz n) 1) fun G => 
 bnC 3 (stC 3 F) fun J K L => 
 zG G (fun _=>bnS (call 70 [a,.agg [p,b,q,r,u,w,x,y,z,A]] o) fun M H => 
 some (.tup [],H))
 (fun _=>bnS (call 61 [a,.int .i64 3,b,.int .i64 0] o) fun N I => 
 some (.tup [],I))):=by kernel_rfl
def KI {s:zi} (hs:s.lookup 52=none) (a b c d e g h i j l m:AV) (Q:z3):=(zo (E:=z8 s) (f:=52) (fn:=xR) hs rfl [a,.agg [b,c,d,e,g,h,i,j,l,m]] Q rfl).trans (KH (call:=zd (z8 s)) (lp:=zj (z8 s)) a b c d e g h i j l m Q)
theorem KJ {call:z7} {lp:ze} (a e f g h i j l m n o:AV) (Q:z3):z5 call lp ZQ [(0,.v a),(1,.v (.agg [e,f,g,h,i,j,l,m,n,o]))] [] Q (zu [] [])=(
 bnC 10 (stC 10 (.agg [e,f,g,h,i,j,l,m,n,o])) fun w c x y p d q z A B => 
 bnP (zn a) fun C => 
 bnP (z9 0 C) fun D => 
 bnP (z9 3 D) fun E => 
 bnP (ldQ Q E) fun F => 
 bnP (zc .neq c F) fun G => 
 zG G (fun _=>bnS (call 61 [a,.int .i64 6,c,.int .i64 0] Q) fun ar H => 
 some (.tup [],H))
 (fun _=>bnP (zn a) fun I => 
 bnP (z9 0 I) fun J => 
 bnP (z9 0 J) fun K => 
 bnP (ldQ Q K) fun L => 
 bnS (call 71 [q,L] Q) fun r u => 
 bnP (ko (frz r) 0) fun M => 
 bnP (ko (frz r) 1) fun N => 
 bnP (unA .not N) fun O => 
 zG O (fun _=>bnS (call 61 [a,.int .i64 6,c,.int .i64 0] u) fun au P => 
 bnS (call 40 [a,.int .i64 1] P) fun av R => 
 some (.tup [],R))
 (fun _=>bnS (call 72 [a,.agg [w,c,x,y,p,d,q,z,A,B],M] u) fun aw b => 
 bnP (zn a) fun S => 
 bnP (z9 0 S) fun T => 
 bnP (z9 2 T) fun U => 
 bnP (ldQ b U) fun V => 
 bnP (zc .sub V d) fun W => 
 bnP (zn a) fun X => 
 bnP (z9 0 X) fun Y => 
 bnP (z9 8 Y) fun Z => 
 bnP (ldQ b Z) fun aa => 
 bnP (zc .gtr W aa) fun ab => 
 zG ab (fun _=>bnP (zn a) fun ac => 
 bnP (z9 0 ac) fun ad => 
 bnP (z9 2 ad) fun ae => 
 bnP (ldQ b ae) fun af => 
 bnP (zc .sub af d) fun ag => 
 bnP (zn a) fun ah => 
 bnP (z9 0 ah) fun ai => 
 bnP (z9 8 ai) fun aj => 
 bnS (stA b 1 aj ag) fun _ ak => 
 bnP (zn a) fun al => 
 bnP (z9 0 al) fun ao => 
 bnP (z9 7 ao) fun ap => 
 bnS (stA ak 1 ap p) fun _ aq => 
 some (.tup [],aq))
 (fun _=>some (.tup [],b))))):=by kernel_rfl
def KK {s:zi} (hs:s.lookup 53=none) (a b c d e g h i j l m:AV) (Q:z3):=(zo (E:=z8 s) (f:=53) (fn:=xS) hs rfl [a,.agg [b,c,d,e,g,h,i,j,l,m]] Q rfl).trans (KJ (call:=zd (z8 s)) (lp:=zj (z8 s)) a b c d e g h i j l m Q)
theorem z3Q {call:z7} {lp:ze} (a b:AV) (Q:z3):z5 call lp Wb [(0,.v a),(1,.v b)] [] Q (zu [.tmp 4] [.f 3])=(
 bnC 1 (stC 1 b) fun c => 
 bnS (call 65 [a] Q) fun d e=>bnL (owZ 3 d) fun g => 
 bnS (call 1000066 [.ow 3 g,.fn 73 [] [.cp [c] 0]] e) fun h i => 
 bnP (rcv false (.f 3) (frz h)) fun j=>some (j,i)):=by kernel_rfl
def z3R {s:zi} (hs:s.lookup 54=none) (a b:AV) (Q:z3):=(zo (E:=z8 s) (f:=54) (fn:=vC) hs rfl [a,b] Q rfl).trans (z3Q (call:=zd (z8 s)) (lp:=zj (z8 s)) a b Q)
theorem Qa {call:z7} {lp:ze} (j l m o p q r u w x y z A B C D E F G H:AV) (Q:z3):z5 call lp vQ [(0,.v (.agg [j,l,m,o,p,q,r,u,w,x])),(1,.v (.agg [y,z,A,B,C,D,E,F,G,H]))] [] Q (zu [.tmp 4] [.n])=(
 bnC 10 (stC 10 (.agg [j,l,m,o,p,q,r,u,w,x])) fun I J K L M N O P R S => 
 bnC 10 (stC 10 (.agg [y,z,A,B,C,D,E,F,G,H])) fun T U V W X Y Z aa ab ac => 
 bnP (zc .eql I T) fun a => 
 bnP (gdQ a true (some J)) fun ad => 
 bnP (gdQ a true (some U)) fun ae => 
 bnP (gdQ a true (zc .eql ad ae)) fun af => 
 bnP (zr a af (.bool false)) fun b => 
 bnP (gdQ b true (some K)) fun ag => 
 bnP (gdQ b true (some V)) fun ah => 
 bnP (gdQ b true (zc .eql ag ah)) fun ai => 
 bnP (zr b ai (.bool false)) fun c => 
 bnP (gdQ c true (some L)) fun aj => 
 bnP (gdQ c true (some W)) fun ak => 
 bnP (gdQ c true (zc .eql aj ak)) fun al => 
 bnP (zr c al (.bool false)) fun d => 
 bnP (gdQ d true (some M)) fun ao => 
 bnP (gdQ d true (some X)) fun ap => 
 bnP (gdQ d true (zc .eql ao ap)) fun aq => 
 bnP (zr d aq (.bool false)) fun e => 
 bnP (gdQ e true (some N)) fun ar => 
 bnP (gdQ e true (some Y)) fun au => 
 bnP (gdQ e true (zc .eql ar au)) fun av => 
 bnP (zr e av (.bool false)) fun f => 
 bnP (gdQ f true (some P)) fun aw => 
 bnP (gdQ f true (some aa)) fun ax => 
 bnP (gdQ f true (zc .eql aw ax)) fun ay => 
 bnP (zr f ay (.bool false)) fun g => 
 bnP (gdQ g true (some R)) fun az => 
 bnP (gdQ g true (some ab)) fun a0 => 
 bnP (gdQ g true (zc .eql az a0)) fun a1 => 
 bnP (zr g a1 (.bool false)) fun h => 
 bnP (gdQ h true (some S)) fun a2 => 
 bnP (gdQ h true (some ac)) fun a3 => 
 bnP (gdQ h true (zc .eql a2 a3)) fun a4 => 
 bnP (zr h a4 (.bool false)) fun i => 
 bnP (gdQ i true (some O)) fun a5 => 
 bnP (gdQ i true (some Z)) fun a6 => 
 bnS (gdH i true (call 36 [a5,a6] Q) Q) fun a7 a8 => 
 bnP (zr i (frz a7) (.bool false)) fun a9 => 
 bnP (rcv false .n a9) fun ba=>some (ba,a8)):=by kernel_rfl
def Qb {s:zi} (hs:s.lookup 60=none) (a b c d e g h i j l m n o p q r u v w x:AV) (Q:z3):=(zo (E:=z8 s) (f:=60) (fn:=yZ) hs rfl [.agg [a,b,c,d,e,g,h,i,j,l],.agg [m,n,o,p,q,r,u,v,w,x]] Q rfl).trans (Qa (call:=zd (z8 s)) (lp:=zj (z8 s)) a b c d e g h i j l m n o p q r u v w x Q)
theorem kT {β:Type} (call:z7) (lp:ze) (a b c d e f g h i j l:AV) (Q:z3) (k:PK β):z5 call lp kP [(0,.v a),(8,.lp 8 0)] [(8,.cells [b,c,d,e,f,g,h,i,j,l])] Q k=(
 bnP (zn a) fun m => 
 bnP (z9 13 m) fun n => 
 bnP (ldQ Q n) fun o => 
 pinB (JV 10 (.agg [b,c,d,e,f,g,h,i,j,l])) <| 
 bnS (z5x Q 10 104 o ([.agg [b,c,d,e,f,g,h,i,j,l]]:List AV)) fun p u => 
 bnP (zn a) fun q => 
 bnP (z9 13 q) fun r => 
 bnS (stA u 1 r p) fun _ w => 
 k .normal [(63,.v r),(62,.v q),(61,.v p),(60,.v (.fz 10 [.agg [b,c,d,e,f,g,h,i,j,l]])),(59,.v (.agg [b,c,d,e,f,g,h,i,j,l])),(58,.v o),(57,.v n),(56,.v m),(55,.v a),(54,.v a),(0,.v a),(8,.lp 8 0)] [(8,.cells [b,c,d,e,f,g,h,i,j,l])] w):=by kernel_rfl
theorem VB {call:z7} {lp:ze} (a c g h:AV) (Q:z3):z5 call lp Yo [(0,.v a),(1,.v c),(2,.v g),(3,.v h)] [] Q (zu [] [])=(
 bnP (zn a) fun r => 
 bnP (z9 0 r) fun u => 
 bnP (z9 0 u) fun w => 
 bnP (ldQ Q w) fun x => 
 bnP (zn a) fun y => 
 bnP (z9 0 y) fun z => 
 bnP (z9 1 z) fun A => 
 bnP (ldQ Q A) fun B => 
 bnC 10 (vT [.int .i64 0,.int .i64 0,.int .i64 0,.int .i64 0,.int .i64 0,.int .i64 0,.nils,.int .i64 0,.int .i64 0,.str []] [(0,1,c),(1,1,x),(2,1,g),(3,1,B),(7,1,h)]) fun C D E F G H I J K L => 
 bnC 10 (stC 10 (.agg [C,D,E,F,G,H,I,J,K,L])) fun i j l m M N O n o p => 
 bnX (bnP (zc .eql c (.int .i64 2)) fun d => 
 bnP (gdQ d false (some c)) fun P => 
 bnP (gdQ d false (zc .eql P (.int .i64 5))) fun R => 
 bnP (zr d (.bool true) R) fun S => 
 zG S (fun _=>bnP (zn a) fun T => 
 bnP (z9 0 T) fun U => 
 bnP (z9 7 U) fun q => 
 bnP (ldQ Q q) fun V => 
 bnP (zn a) fun W => 
 bnP (z9 0 W) fun X => 
 bnP (z9 2 X) fun e => 
 bnP (ldQ Q e) fun Y => 
 bnP (zn a) fun Z => 
 bnP (z9 0 Z) fun aa => 
 bnP (z9 8 aa) fun f => 
 bnP (ldQ Q f) fun ab => 
 bnP (zc .sub Y ab) fun ac => 
 bnP (zn a) fun ad => 
 bnP (z9 0 ad) fun ae => 
 bnP (z9 6 ae) fun af => 
 bnP (ldQ Q af) fun ag => 
 bnS (call 64 [ag] Q) fun ah b => 
 pinB ((true && wM Q b q 1) && ((true && wM Q b e 1) && ((true && wM Q b f 1) && true))) <| 
 bnC 1 (stC 1 V) fun ai => 
 pinB ((true && wM Q b e 1) && ((true && wM Q b f 1) && true)) <| 
 bnC 1 (stC 1 ac) fun aj => 
 bnC 1 (stC 1 (frz ah)) fun ak => 
 some (.normal,[(0,.v a),(8,.lp 8 0)],[(8,.cells [i,j,l,m,ai,aj,ak,n,o,p])],b))
 (fun _=>some (.normal,[(0,.v a),(8,.lp 8 0)],[(8,.cells [i,j,l,m,M,N,O,n,o,p])],Q)))
 (goC (z5 call lp kP) (zu [] []))):=by kernel_rfl
def VC {s:zi} (hs:s.lookup 61=none) (a b c d:AV) (Q:z3):=(zo (E:=z8 s) (f:=61) (fn:=qf) hs rfl [a,b,c,d] Q rfl).trans (VB (call:=zd (z8 s)) (lp:=zj (z8 s)) a b c d Q)
theorem KL {call:z7} {lp:ze} (a:AV) (Q:z3):z5 call lp ZR [(0,.v a)] [] Q (zu [.tmp 2] [.n])=(
 bnP (zc .geq a (.int .i64 0)) fun b => 
 bnP (gdQ b true (some a)) fun c => 
 bnP (gdQ b true (zc .leq c (.int .i64 1000000))) fun d => 
 bnP (zr b d (.bool false)) fun e => 
 bnP (rcv false .n e) fun f=>some (f,Q)):=by kernel_rfl
def KM {s:zi} (hs:s.lookup 62=none) (a:AV) (Q:z3):=(zo (E:=z8 s) (f:=62) (fn:=xT) hs rfl [a] Q rfl).trans (KL (call:=zd (z8 s)) (lp:=zj (z8 s)) a Q)
theorem xx {β:Type} (call:z7) (lp:ze) (a b c:AV) (d:List AV) (Q:z3) (k:PK β):z5 call lp yo [(0,.ls 0),(1,.v a),(5,.v b),(6,.v c)] [(0,.own 3 d)] Q k=(
 bnP (zc .add c (.int .i64 1)) fun e => 
 k .normal [(0,.ls 0),(1,.v a),(5,.v b),(6,.v e)] [(0,.own 3 d)] Q):=by kernel_rfl
theorem yq {β:Type} (call:z7) (lp:ze) (d b c:AV) (a:List AV) (Q:z3) (k:PK β):z5 call lp zq [(0,.ls 0),(1,.v d),(5,.v b),(6,.v c)] [(0,.own 3 a)] Q k=(
 bnP (zc .lss c (.int .i64 ((a:List AV).length:Nat))) fun i => 
 zG i (fun _=>bnX (bnX (bnN (JU (a:List AV).length c) fun i2 => 
 bnC 3 (elN a i2 0 3) fun j l m => 
 bnC 3 (stC 3 (.agg [j,l,m])) fun e f g => 
 bnF d fun f11 f11f f11c => 
 bnS (Zu call f11 (f11f++[.agg [e,f,g]]++f11c) Q) fun n h => 
 bnP (unA .not (frz n)) fun o => 
 zG o (fun _=>bnN (JU (a:List AV).length b) fun i13 => 
 bnC 3 (stC 3 (.agg [e,f,g])) fun p q r => 
 bnP ((a)[i13]?) fun u=>bnP (z1j u 0 [p,q,r]) fun w => 
 bnP (zc .add b (.int .i64 1)) fun x => 
 some (.normal,[(0,.ls 0),(1,.v d),(5,.v x),(6,.v c)],[(0,.own 3 ((a).set i13 w))],h))
 (fun _=>some (.normal,[(0,.ls 0),(1,.v d),(5,.v b),(6,.v c)],[(0,.own 3 a)],h)))
 (kB 1 jk))
 (goC (z5 call lp yo) k))
 (fun _=>k (.exit 0) [(0,.ls 0),(5,.v b)] [(0,.own 3 a)] Q)):=by kernel_rfl
noncomputable def yr (s:zi) (a b c:AV) (d:List AV) (Q:z3):Option ja:=zj (z8 s) zq [(0,.ls 0),(1,.v a),(5,.v b),(6,.v c)] [(0,.own 3 d)] Q
theorem y9 (s:zi) (a b c:AV) (d:List AV) (Q:z3):zj (z8 s) zq [(0,.ls 0),(1,.v a),(5,.v b),(6,.v c)] [(0,.own 3 d)] Q=yr s a b c d Q:=rfl
theorem ye (s:zi) (a b c:AV) (d:List AV) (Q:z3):yr s a b c d Q=z5 (zd (z8 s)) (zj (z8 s)) zq [(0,.ls 0),(1,.v a),(5,.v b),(6,.v c)] [(0,.own 3 d)] Q (goX (fun τ ω Q=>zj (z8 s) zq τ ω Q) jk):=xh
abbrev js (a:AV) (b:List AV) (Q:z3):Option ja:=some (.exit 0,[(0,.ls 0),(5,.v a)],[(0,.own 3 b)],Q)
theorem jN {β:Type} (call:z7) (lp:ze) (a:AV) (b:List AV) (Q:z3) (k:PK β):z5 call lp yp [(0,.ls 0),(5,.v a)] [(0,.own 3 b)] Q k=(
 bnN (JU (b:List AV).length a) fun i1 => 
 bnP (WN 3 (.fz 3 ((b).take i1++List.replicate ((b).length - i1) (mkE [.int .i64 0,.int .i64 0,.int .i64 0]))) none (some a)) fun c => 
 k .ret [(4,.v c),(41,.v c),(39,.v (.fz 3 ((b).take i1++List.replicate ((b).length - i1) (mkE [.int .i64 0,.int .i64 0,.int .i64 0])))),(40,.v a),(39,.v z4),(38,.v z4),(37,.v a),(36,.v z4),(0,.v z4),(5,.v a)] [] Q):=by kernel_rfl
theorem kx {call:z7} {lp:ze} (a:List AV) (c:AV) (Q:z3):z5 call lp xI [(0,.ls 0),(1,.v c)] [(0,.own 3 a)] Q (zu [.tmp 4] [.f 3])=(
 bnS (call 75 [.fz 3 a,c] ⟨Q.size,.leaf⟩) fun b _=>pinB (vU b) <| 
 bnP (zc .eql b (.int .i64 (-1))) fun d => 
 zG d (fun _=>some (.fz 3 a,Q))
 (fun _=>bnP (zc .add b (.int .i64 1)) fun e => 
 bnX (lp zq [(0,.ls 0),(1,.v c),(5,.v b),(6,.v e)] [(0,.own 3 a)] Q) (kB 0 (goC (z5 call lp yp) (zu [.tmp 4] [.f 3]))))):=by kernel_rfl
def ky {s:zi} (hs:s.lookup 1000066=none) (a:List AV) (b:AV) (Q:z3):=(z73 (E:=z8 s) (f:=1000066) (fn:=zJ) hs rfl rfl a b Q rfl).trans (kx (call:=zd (z8 s)) (lp:=zj (z8 s)) a b Q)
theorem z0o {call:z7} {lp:ze} (a b c d:AV) (Q:z3):z5 call lp Qr [(0,.v (.agg [a,b,c])),(1,.v d)] [] Q (zu [.tmp 3] [.n])=(
 bnC 3 (stC 3 (.agg [a,b,c])) fun j l e => 
 bnP (ldQ Q d) fun f => 
 bnP (zc .sub f e) fun g => 
 bnP (zc .gtr g (.int .i64 20)) fun h => 
 bnP (rcv false .n h) fun i=>some (i,Q)):=by kernel_rfl
def z0p {s:zi} (hs:s.lookup 67=none) (a b c d:AV) (Q:z3):=(zo (E:=z8 s) (f:=67) (fn:=je) hs rfl [.agg [a,b,c],d] Q rfl).trans (z0o (call:=zd (z8 s)) (lp:=zj (z8 s)) a b c d Q)
theorem z3S {call:z7} {lp:ze} (a b:AV) (Q:z3):z5 call lp Wc [(0,.v a),(1,.v b)] [] Q (zu [.cell 4 (some 3),.tmp 5] [.n,.n])=(
 bnS (call 76 [a,b] Q) fun c d => 
 bnP (ko (frz c) 0) fun e => 
 bnP (ko (frz c) 1) fun f => 
 bnP (unA .not f) fun g => 
 zG g (fun _=>some (.tup [.agg [.int .i64 0,.int .i64 0,.int .i64 0],.bool false],d))
 (fun _=>bnP (elQ 3 a e) fun h => 
 bnC 3 (cut (AV.cells h) 0 3) fun i j l => 
 bnC 3 (stC 3 (.agg [i,j,l])) fun m o p => 
 some (.tup [.agg [m,o,p],.bool true],d))):=by kernel_rfl
def z3T {s:zi} (hs:s.lookup 68=none) (a b:AV) (Q:z3):=(zo (E:=z8 s) (f:=68) (fn:=vD) hs rfl [a,b] Q rfl).trans (z3S (call:=zd (z8 s)) (lp:=zj (z8 s)) a b Q)
theorem x1 {β:Type} (call:z7) (lp:ze) (c e g:AV) (Q:z3) (k:PK β):z5 call lp vE [(0,.v c),(1,.v e),(5,.v g)] [] Q k=(
 bnP (zn c) fun j => 
 bnP (z9 0 j) fun l => 
 bnP (z9 12 l) fun m => 
 bnP (ldQ Q m) fun n => 
 bnS (call 68 [n,e] Q) fun f o => 
 bnP (ko (frz f) 0) fun p => 
 bnP (ko (frz f) 1) fun h => 
 bnC 3 (stC 3 p) fun ad ae af => 
 bnP (zn c) fun q => 
 bnP (z9 0 q) fun r => 
 bnC 13 (yk o 13 r) fun u w x y z A B C D E F G H => 
 bnS (call 25 [.agg [u,w,x,y,z,A,B,C,D,E,F,G,H]] o) fun a i => 
 bnP (gdQ (frz a) true (some c)) fun I => 
 bnP (gdQ (frz a) true (zn I)) fun J => 
 bnP (gdQ (frz a) true (z9 0 J)) fun K => 
 bnP (gdQ (frz a) true (z9 6 K)) fun L => 
 bnP (gdQ (frz a) true (ldQ i L)) fun M => 
 bnP (gdQ (frz a) true (some e)) fun N => 
 bnS (gdH (frz a) true (call 77 [M,N] i) i) fun O P => 
 bnP (gdQ (frz a) true (unA .not (frz O))) fun R => 
 bnP (zr (frz a) R (.bool false)) fun d => 
 bnP (gdQ d true (some h)) fun S => 
 bnP (gdQ d true (some S)) fun b => 
 bnP (gdQ b false (some c)) fun T => 
 bnP (gdQ b false (zn T)) fun U => 
 bnP (gdQ b false (z9 0 U)) fun V => 
 bnP (gdQ b false (z9 12 V)) fun W => 
 bnP (gdQ b false (ldQ P W)) fun X => 
 bnP (gdQ b false (km X)) fun Y => 
 bnP (gdQ b false (some g)) fun Z => 
 bnP (gdQ b false (zc .lss Y Z)) fun aa => 
 bnP (gdQ d true (zr b (.bool true) aa)) fun ab => 
 bnP (zr d ab (.bool false)) fun ac => 
 k .ret [(4,.v ac),(51,.v ac),(50,.v ab),(49,.v aa),(48,.v Z),(47,.v Y),(46,.v X),(45,.v W),(44,.v V),(43,.v U),(42,.v T),(41,.v b),(40,.v S),(39,.v d),(38,.v d),(37,.v R),(36,.v (frz O)),(35,.v N),(34,.v M),(33,.v L),(32,.v K),(31,.v J),(30,.v I),(29,.v (frz a)),(28,.v (frz a)),(27,.v (.agg [u,w,x,y,z,A,B,C,D,E,F,G,H])),(26,.v r),(25,.v q),(24,.v c),(7,.v h),(6,.lp 6 0),(23,.v h),(22,.v p),(14,.v (frz f)),(21,.v (frz f)),(20,.v e),(19,.v n),(18,.v m),(17,.v l),(16,.v j),(15,.v c),(0,.v c),(1,.v e),(5,.v g)] [(6,.cells [ad,ae,af])] P):=by kernel_rfl
theorem WJ {call:z7} {lp:ze} (a b:AV) (Q:z3):z5 call lp XI [(0,.v a),(1,.v b)] [] Q (zu [.tmp 4] [.n])=(
 bnX (bnP (zn a) fun c => 
 bnP (z9 0 c) fun d => 
 bnP (z9 0 d) fun e => 
 bnP (ldQ Q e) fun f => 
 bnP (zc .eql f (.int .i64 1)) fun g => 
 zG g (fun _=>some (.normal,[(0,.v a),(1,.v b),(5,.v (.int .i64 8))],[],Q))
 (fun _=>some (.normal,[(0,.v a),(1,.v b),(5,.v (.int .i64 3))],[],Q)))
 (goC (z5 call lp vE) (zu [.tmp 4] [.n]))):=by kernel_rfl
def WK {s:zi} (hs:s.lookup 69=none) (a b:AV) (Q:z3):=(zo (E:=z8 s) (f:=69) (fn:=qM) hs rfl [a,b] Q rfl).trans (WJ (call:=zd (z8 s)) (lp:=zj (z8 s)) a b Q)
theorem VD {call:z7} {lp:ze} (a b c d e f g h i j l:AV) (Q:z3):z5 call lp Yp [(0,.v a),(1,.v (.agg [b,c,d,e,f,g,h,i,j,l]))] [] Q (zu [] [])=(
 bnC 10 (stC 10 (.agg [b,c,d,e,f,g,h,i,j,l])) fun J n K o L M N O P R => 
 bnP (zn a) fun p => 
 bnP (z9 0 p) fun q => 
 bnP (z9 12 q) fun r => 
 bnP (ldQ Q r) fun u => 
 bnP (zn a) fun w => 
 bnP (z9 0 w) fun x => 
 bnP (z9 2 x) fun y => 
 bnP (ldQ Q y) fun z => 
 bnC 3 (vT [.int .i64 0,.int .i64 0,.int .i64 0] [(0,1,n),(1,1,o),(2,1,z)]) fun A B C => 
 bnS (call 78 [u,.agg [A,B,C]] Q) fun m D => 
 bnP (ko (frz m) 0) fun E => 
 bnP (ko (frz m) 1) fun S => 
 bnP (zn a) fun F => 
 bnP (z9 0 F) fun G => 
 bnP (z9 12 G) fun H => 
 bnS (stA D 1 H E) fun _ I => 
 some (.tup [],I)):=by kernel_rfl
def VE {s:zi} (hs:s.lookup 70=none) (a b c d e g h i j l m:AV) (Q:z3):=(zo (E:=z8 s) (f:=70) (fn:=qh) hs rfl [a,.agg [b,c,d,e,g,h,i,j,l,m]] Q rfl).trans (VD (call:=zd (z8 s)) (lp:=zj (z8 s)) a b c d e g h i j l m Q)
theorem z5m {call:z7} {lp:ze} (d a:AV) (Q:z3):z5 call lp z0j [(0,.v d),(1,.v a)] [] Q (zu [.tmp 4,.tmp 5] [.f 1,.n])=(
 bnS (call 64 [d] Q) fun g b=>bnL (owZ 1 g) fun c => 
 pinB (JV 1 a) <| 
 pinB (room 8 ((c:List AV).length+(([a]:List AV):List AV).length)) <| 
 bnS (call 79 [.fz 1 (c++([a]:List AV))] ⟨b.size,.leaf⟩) fun e _=>pinB (vU e) <| 
 bnP (unA .not e) fun h => 
 zG h (fun _=>some (.tup [.fz 1 [],.bool false],b))
 (fun _=>some (.tup [.fz 1 (c++([a]:List AV)),.bool true],b))):=by kernel_rfl
def z5n {s:zi} (hs:s.lookup 71=none) (a b:AV) (Q:z3):=(zo (E:=z8 s) (f:=71) (fn:=wE) hs rfl [a,b] Q rfl).trans (z5m (call:=zd (z8 s)) (lp:=zj (z8 s)) a b Q)
theorem z0q {call:z7} {lp:ze} (a c d e f g h i j l m n:AV) (Q:z3):z5 call lp Qs [(0,.v a),(1,.v (.agg [c,d,e,f,g,h,i,j,l,m])),(2,.v n)] [] Q (zu [] [])=(
 bnC 10 (stC 10 (.agg [c,d,e,f,g,h,i,j,l,m])) fun K L M N O P o R S T => 
 bnS (call 80 [o] Q) fun p q => 
 bnP (zn a) fun r => 
 bnP (z9 0 r) fun u => 
 bnP (z9 6 u) fun w => 
 bnS (stA q 1 w n) fun _ x => 
 bnP (zn a) fun y => 
 bnP (z9 0 y) fun z => 
 bnP (z9 5 z) fun A => 
 bnS (stA x 1 A (frz p)) fun _ b => 
 bnP (zn a) fun B => 
 bnP (z9 0 B) fun C => 
 bnP (z9 5 C) fun D => 
 bnP (ldQ b D) fun E => 
 bnP (zc .eql E (.int .i64 0)) fun F => 
 zG F (fun _=>bnP (zn a) fun G => 
 bnP (z9 0 G) fun H => 
 bnP (z9 5 H) fun I => 
 bnS (stA b 1 I (.int .i64 1)) fun _ J => 
 some (.tup [],J))
 (fun _=>some (.tup [],b))):=by kernel_rfl
def z0r {s:zi} (hs:s.lookup 72=none) (a b c d e g h i j l m n:AV) (Q:z3):=(zo (E:=z8 s) (f:=72) (fn:=jf) hs rfl [a,.agg [b,c,d,e,g,h,i,j,l,m],n] Q rfl).trans (z0q (call:=zd (z8 s)) (lp:=zj (z8 s)) a b c d e g h i j l m n Q)
theorem z1f {call:z7} {lp:ze} (a b c d:AV) (Q:z3):z5 call lp Jl [(0,.v (.agg [a,b,c])),(1,.v d)] [] Q (zu [.tmp 3] [.n])=(
 bnC 3 (stC 3 (.agg [a,b,c])) fun e i j => 
 bnP (ldQ Q d) fun f => 
 bnP (zc .eql e f) fun g => 
 bnP (rcv false .n g) fun h=>some (h,Q)):=by kernel_rfl
def z1g {s:zi} (hs:s.lookup 73=none) (a b c d:AV) (Q:z3):=(zo (E:=z8 s) (f:=73) (fn:=jF) hs rfl [.agg [a,b,c],d] Q rfl).trans (z1f (call:=zd (z8 s)) (lp:=zj (z8 s)) a b c d Q)
theorem xC {β:Type} (call:z7) (lp:ze) (b c d a:AV) (Q:z3) (k:PK β):z5 call lp zt [(0,.v b),(1,.v c),(7,.v d),(8,.v a)] [] Q k=(
 bnP (zc .lss a d) fun f => 
 zG f (fun _=>bnP (elQ 3 b a) fun g => 
 bnC 3 (cut (AV.cells g) 0 3) fun h i j => 
 bnF c fun f8 f8f f8c => 
 bnS (Zu call f8 (f8f++[.agg [h,i,j]]++f8c) Q) fun l e => 
 zG (frz l) (fun _=>k .ret [(4,.v a)] [] e)
 (fun _=>bnP (zc .add a (.int .i64 1)) fun m => 
 k .normal [(0,.v b),(1,.v c),(7,.v d),(8,.v m)] [] e))
 (fun _=>k (.exit 0) [] [] Q)):=by kernel_rfl
noncomputable def yx (s:zi) (a b c d:AV) (Q:z3):Option ja:=zj (z8 s) zt [(0,.v a),(1,.v b),(7,.v c),(8,.v d)] [] Q
theorem yb (s:zi) (a b c d:AV) (Q:z3):zj (z8 s) zt [(0,.v a),(1,.v b),(7,.v c),(8,.v d)] [] Q=yx s a b c d Q:=rfl
theorem xk (s:zi) (a b c d:AV) (Q:z3):yx s a b c d Q=z5 (zd (z8 s)) (zj (z8 s)) zt [(0,.v a),(1,.v b),(7,.v c),(8,.v d)] [] Q (goX (fun τ ω Q=>zj (z8 s) zt τ ω Q) jk):=xh
abbrev jz (Q:z3):Option ja:=some (.exit 0,[],[],Q)
abbrev jt (a:AV) (Q:z3):Option ja:=some (.ret,[(4,.v a)],[],Q)
theorem kh {β:Type} (call:z7) (lp:ze) (Q:z3) (k:PK β):z5 call lp yw [] [] Q k=(
 k .ret [(4,.v (.int .i64 (-1)))] [] Q):=by kernel_rfl
theorem kU {call:z7} {lp:ze} (a b:AV) (Q:z3):z5 call lp xU [(0,.v a),(1,.v b)] [] Q (zu [.tmp 4] [.n])=(
 bnP (km a) fun c => 
 bnX (lp zt [(0,.v a),(1,.v b),(7,.v c),(8,.v (.int .i64 0))] [] Q) (kB 0 (goC (z5 call lp yw) (zu [.tmp 4] [.n])))):=by kernel_rfl
def kV {s:zi} (hs:s.lookup 75=none) (a b:AV) (Q:z3):=(zo (E:=z8 s) (f:=75) (fn:=zK) hs rfl [a,b] Q rfl).trans (kU (call:=zd (z8 s)) (lp:=zj (z8 s)) a b Q)
theorem z2L {call:z7} {lp:ze} (a b:AV) (Q:z3):z5 call lp Kp [(0,.v a),(1,.v b)] [] Q (zu [.tmp 4,.tmp 5] [.n,.n])=(
 bnS (call 81 [a,b,.fn 82 [] []] Q) fun c d => 
 bnP (ko (frz c) 0) fun e => 
 bnP (ko (frz c) 1) fun f => 
 bnP (rcv false .n e) fun g=>bnP (rcv false .n f) fun h=>some (.tup [frz g,frz h],d)):=by kernel_rfl
def z2M {s:zi} (hs:s.lookup 76=none) (a b:AV) (Q:z3):=(zo (E:=z8 s) (f:=76) (fn:=kq) hs rfl [a,b] Q rfl).trans (z2L (call:=zd (z8 s)) (lp:=zj (z8 s)) a b Q)
theorem z5o {call:z7} {lp:ze} (a b:AV) (Q:z3):z5 call lp z0k [(0,.v a),(1,.v b)] [] Q (zu [.tmp 4] [.n])=(
 bnS (call 84 [a,b] Q) fun c d => 
 bnP (rcv false .n (frz c)) fun e=>some (e,d)):=by kernel_rfl
def z5p {s:zi} (hs:s.lookup 77=none) (a b:AV) (Q:z3):=(zo (E:=z8 s) (f:=77) (fn:=wF) hs rfl [a,b] Q rfl).trans (z5o (call:=zd (z8 s)) (lp:=zj (z8 s)) a b Q)
theorem z3U {call:z7} {lp:ze} (c g h i:AV) (Q:z3):z5 call lp Wd [(0,.v c),(1,.v (.agg [g,h,i]))] [] Q (zu [.tmp 4,.tmp 5] [.f 3,.n])=(
 bnC 3 (stC 3 (.agg [g,h,i])) fun a d e => 
 bnS (call 65 [c] Q) fun p q=>bnL (owZ 3 p) fun b => 
 bnS (call 48 [c,a,d] q) fun r j => 
 zG (frz r) (fun _=>some (.tup [.fz 3 b,.bool false],j))
 (fun _=>bnS (call 76 [c,a] j) fun l m => 
 bnP (ko (frz l) 0) fun o => 
 bnP (ko (frz l) 1) fun u => 
 zG u (fun _=>bnN (JU (b:List AV).length o) fun i13 => 
 bnC 3 (stC 3 (.agg [a,d,e])) fun w x y => 
 bnP ((b)[i13]?) fun z=>bnP (z1j z 0 [w,x,y]) fun A => 
 some (.tup [.fz 3 ((b).set i13 A),.bool true],m))
 (fun _=>pinB (JV 3 (.agg [a,d,e])) <| 
 bnS (call 1000085 [.ow 3 b,o,.lt 3 [.agg [a,d,e]]] m) fun B C=>bnL (owZ 3 B) fun D => 
 some (.tup [.fz 3 D,.bool true],C)))):=by kernel_rfl
def z3V {s:zi} (hs:s.lookup 78=none) (a b c d:AV) (Q:z3):=(zo (E:=z8 s) (f:=78) (fn:=vF) hs rfl [a,.agg [b,c,d]] Q rfl).trans (z3U (call:=zd (z8 s)) (lp:=zj (z8 s)) a b c d Q)
theorem z5q {call:z7} {lp:ze} (a:AV) (Q:z3):z5 call lp z0l [(0,.v a)] [] Q (zu [.tmp 2] [.n])=(
 bnS (call 86 [a] Q) fun c d => 
 bnP (VW 101 (.agg [.int .i64 0]) true (frz c)) fun b => 
 bnP (ko b 0) fun e => 
 bnP (ko b 1) fun f => 
 bnC 1 (stC 1 e) fun i => 
 bnP (unA .not f) fun g => 
 bnP (rcv false .n g) fun h=>some (h,d)):=by kernel_rfl
def z5r {s:zi} (hs:s.lookup 79=none) (a:AV) (Q:z3):=(zo (E:=z8 s) (f:=79) (fn:=wG) hs rfl [a] Q rfl).trans (z5q (call:=zd (z8 s)) (lp:=zj (z8 s)) a Q)
theorem z2N {call:z7} {lp:ze} (a:AV) (Q:z3):z5 call lp Kq [(0,.v a)] [] Q (zu [.tmp 2] [.n])=(
 bnP (km a) fun b => 
 bnP (zc .lss b (.int .i64 2)) fun c => 
 zG c (fun _=>some (.int .i64 0,Q))
 (fun _=>bnP (km a) fun d => 
 bnP (zc .sub d (.int .i64 2)) fun e => 
 bnP (elQ 1 a e) fun f => 
 bnP ((AV.cells f)[0]?) fun g => 
 bnP (rcv false .n g) fun h=>some (h,Q))):=by kernel_rfl
def z2O {s:zi} (hs:s.lookup 80=none) (a:AV) (Q:z3):=(zo (E:=z8 s) (f:=80) (fn:=kr) hs rfl [a] Q rfl).trans (z2N (call:=zd (z8 s)) (lp:=zj (z8 s)) a Q)
theorem yz {β:Type} (call:z7) (lp:ze) (a b c e d f:AV) (Q:z3) (k:PK β):z5 call lp zm [(0,.v a),(1,.v b),(2,.v c),(8,.v e),(9,.v d),(10,.v f)] [] Q k=(
 bnP (zc .lss d f) fun i => 
 zG i (fun _=>bnX (bnP (zc .add d f) fun j => 
 bnP (z0Q .u64 j) fun l => 
 bnP (zc .shr l (.int .u64 1)) fun m => 
 bnP (z0Q .i64 m) fun g => 
 bnP (elQ 3 a g) fun n => 
 bnC 3 (cut (AV.cells n) 0 3) fun o p q => 
 bnF c fun f12 f12f f12c => 
 bnS (Zu call f12 (f12f++[.agg [o,p,q],b]++f12c) Q) fun r h => 
 bnP (zc .lss (frz r) (.int .i64 0)) fun u => 
 zG u (fun _=>bnP (zc .add g (.int .i64 1)) fun w => 
 some (.normal,[(0,.v a),(1,.v b),(2,.v c),(8,.v e),(9,.v w),(10,.v f)],[],h))
 (fun _=>some (.normal,[(0,.v a),(1,.v b),(2,.v c),(8,.v e),(9,.v d),(10,.v g)],[],h)))
 (kB 1 (z1m [] [] [0,1,2,8,9,10] [] k)))
 (fun _=>k (.exit 0) [(0,.v a),(1,.v b),(2,.v c),(8,.v e),(9,.v d)] [] Q)):=by kernel_rfl
noncomputable def zS (s:zi) (a b c d e f:AV) (Q:z3):Option ja:=zj (z8 s) zm [(0,.v a),(1,.v b),(2,.v c),(8,.v d),(9,.v e),(10,.v f)] [] Q
theorem zy (s:zi) (a b c d e f:AV) (Q:z3):zj (z8 s) zm [(0,.v a),(1,.v b),(2,.v c),(8,.v d),(9,.v e),(10,.v f)] [] Q=zS s a b c d e f Q:=rfl
theorem yn (s:zi) (a b c d e f:AV) (Q:z3):zS s a b c d e f Q=z5 (zd (z8 s)) (zj (z8 s)) zm [(0,.v a),(1,.v b),(2,.v c),(8,.v d),(9,.v e),(10,.v f)] [] Q (goX (fun τ ω Q=>zj (z8 s) zm τ ω Q) jk):=xh
abbrev xX (a b c d e:AV) (Q:z3):Option ja:=some (.exit 0,[(0,.v a),(1,.v b),(2,.v c),(8,.v d),(9,.v e)],[],Q)
theorem qi {β:Type} (call:z7) (lp:ze) (d e f c b:AV) (Q:z3) (k:PK β):z5 call lp zR [(0,.v d),(1,.v e),(2,.v f),(8,.v c),(9,.v b)] [] Q k=(
 bnP (zc .lss b c) fun a => 
 bnP (gdQ a true (some f)) fun g => 
 bnP (gdQ a true (some d)) fun h => 
 bnP (gdQ a true (some b)) fun i => 
 bnP (gdQ a true (elQ 3 h i)) fun j => 
 bnP (gdQ a true ((cut (AV.cells j) 0 3).map AV.agg)) fun l => 
 bnP (gdQ a true (some e)) fun m => 
 bnS (gdH a true (bnF g fun f10 f10f f10c=>Zu call f10 (f10f++[l,m]++f10c) Q) Q) fun n q => 
 bnP (gdQ a true (zc .eql (frz n) (.int .i64 0))) fun o => 
 bnP (zr a o (.bool false)) fun p => 
 k .ret [(7,.v p),(6,.v b),(48,.v p),(47,.v o),(46,.v (frz n)),(45,.v m),(44,.v l),(43,.gd 39 true (.fp j 0)),(42,.v i),(41,.v h),(40,.v g),(39,.v a),(38,.v a),(37,.v c),(36,.v b),(35,.v b),(0,.v d),(1,.v e),(2,.v f),(8,.v c),(9,.v b)] [] q):=by kernel_rfl
theorem qB {call:z7} {lp:ze} (a b c:AV) (Q:z3):z5 call lp yH [(0,.v a),(1,.v b),(2,.v c)] [] Q (zu [.tmp 6,.tmp 7] [.n,.n])=(
 bnP (km a) fun d => 
 bnX (lp zm [(0,.v a),(1,.v b),(2,.v c),(8,.v d),(9,.v (.int .i64 0)),(10,.v d)] [] Q) (kB 0 (goC (z5 call lp zR) (zu [.tmp 6,.tmp 7] [.n,.n])))):=by kernel_rfl
def qC {s:zi} (hs:s.lookup 81=none) (a b c:AV) (Q:z3):=(zo (E:=z8 s) (f:=81) (fn:=zw) hs rfl [a,b,c] Q rfl).trans (qB (call:=zd (z8 s)) (lp:=zj (z8 s)) a b c Q)
theorem z0s {call:z7} {lp:ze} (a b c d:AV) (Q:z3):z5 call lp Qt [(0,.v (.agg [a,b,c])),(1,.v d)] [] Q (zu [.tmp 4] [.n])=(
 bnC 3 (stC 3 (.agg [a,b,c])) fun e i j => 
 bnS (call 83 [e,d] Q) fun f g => 
 bnP (rcv false .n (frz f)) fun h=>some (h,g)):=by kernel_rfl
def z0t {s:zi} (hs:s.lookup 82=none) (a b c d:AV) (Q:z3):=(zo (E:=z8 s) (f:=82) (fn:=jg) hs rfl [.agg [a,b,c],d] Q rfl).trans (z0s (call:=zd (z8 s)) (lp:=zj (z8 s)) a b c d Q)
theorem KN {call:z7} {lp:ze} (b c:AV) (Q:z3):z5 call lp ZS [(0,.v b),(1,.v c)] [] Q (zu [.tmp 4] [.n])=(
 bnS (call 87 [b] Q) fun e f => 
 bnS (call 87 [c] f) fun d a => 
 zG (frz e) (fun _=>zG (frz d) (fun _=>some (.int .i64 0,a))
 (fun _=>some (.int .i64 (-1),a)))
 (fun _=>zG (frz d) (fun _=>some (.int .i64 1,a))
 (fun _=>bnP (zc .lss b c) fun g => 
 zG g (fun _=>some (.int .i64 (-1),a))
 (fun _=>bnP (zc .gtr b c) fun h => 
 zG h (fun _=>some (.int .i64 1,a))
 (fun _=>some (.int .i64 0,a)))))):=by kernel_rfl
def KO {s:zi} (hs:s.lookup 83=none) (a b:AV) (Q:z3):=(zo (E:=z8 s) (f:=83) (fn:=xV) hs rfl [a,b] Q rfl).trans (KN (call:=zd (z8 s)) (lp:=zj (z8 s)) a b Q)
theorem ZH {call:z7} {lp:ze} (a b:AV) (Q:z3):z5 call lp jV [(0,.v a),(1,.v b)] [] Q (zu [.tmp 4] [.n])=(
 bnS (call 88 [a,b] Q) fun c d => 
 bnP (zc .geq (frz c) (.int .i64 0)) fun e => 
 bnP (rcv false .n e) fun f=>some (f,d)):=by kernel_rfl
def ZI {s:zi} (hs:s.lookup 84=none) (a b:AV) (Q:z3):=(zo (E:=z8 s) (f:=84) (fn:=ym) hs rfl [a,b] Q rfl).trans (ZH (call:=zd (z8 s)) (lp:=zj (z8 s)) a b Q)
theorem Jm {β:Type} (call:z7) (lp:ze) (c d e a:AV) (Q:z3) (k:PK β):z5 call lp qo [(0,.v c),(21,.v d),(22,.v e),(23,.v a)] [] Q k=(
 bnP (zc .lss a e) fun i => 
 zG i (fun _=>bnP (elQ 1 d a) fun j => 
 bnP ((AV.cells j)[0]?) fun f => 
 bnP (zc .lss f (.int .i64 1)) fun g => 
 bnP (gdQ g false (some f)) fun l => 
 bnP (gdQ g false (zc .gtr l (.int .i64 8))) fun m => 
 bnP (zr g (.bool true) m) fun b => 
 bnP (gdQ b false (some c)) fun n => 
 bnP (gdQ b false (some a)) fun o => 
 bnP (gdQ b false (WN 1 n none (some o))) fun p => 
 bnP (gdQ b false (some f)) fun q => 
 bnS (gdH b false (call 84 [p,q] Q) Q) fun r h => 
 bnP (zr b (.bool true) (frz r)) fun u => 
 zG u (fun _=>bnC 1 (vT [.int .i64 0] [(0,1,a)]) fun w => 
 k .ret [(2,.v (.ifc 101 (.agg [w])))] [] h)
 (fun _=>bnP (zc .add a (.int .i64 1)) fun x => 
 k .normal [(0,.v c),(21,.v d),(22,.v e),(23,.v x)] [] h))
 (fun _=>k (.exit 0) [] [] Q)):=by kernel_rfl
noncomputable def wg (s:zi) (a b c d:AV) (Q:z3):Option ja:=zj (z8 s) qo [(0,.v a),(21,.v b),(22,.v c),(23,.v d)] [] Q
theorem j9 (s:zi) (a b c d:AV) (Q:z3):zj (z8 s) qo [(0,.v a),(21,.v b),(22,.v c),(23,.v d)] [] Q=wg s a b c d Q:=rfl
theorem YH (s:zi) (a b c d:AV) (Q:z3):wg s a b c d Q=z5 (zd (z8 s)) (zj (z8 s)) qo [(0,.v a),(21,.v b),(22,.v c),(23,.v d)] [] Q (goX (fun τ ω Q=>zj (z8 s) qo τ ω Q) jk):=xh
abbrev VF (Q:z3):Option ja:=some (.exit 0,[],[],Q)
abbrev KP (a:AV) (Q:z3):Option ja:=some (.ret,[(2,.v a)],[],Q)
theorem z1h {β:Type} (call:z7) (lp:ze) (Q:z3) (k:PK β):z5 call lp Y2 [] [] Q k=(
 k .ret [(2,.v .nilifc)] [] Q):=by kernel_rfl
theorem z3W {call:z7} {lp:ze} (a:AV) (Q:z3):z5 call lp We [(0,.v a)] [] Q (zu [.tmp 2] [.n])=(
 bnP (km a) fun d => 
 bnP (zc .lss d (.int .i64 1)) fun c => 
 bnP (gdQ c false (some a)) fun e => 
 bnP (gdQ c false (km e)) fun f => 
 bnP (gdQ c false (zc .gtr f (.int .i64 10))) fun g => 
 bnP (zr c (.bool true) g) fun b => 
 bnP (gdQ b false (some a)) fun h => 
 bnP (gdQ b false (elQ 1 h (.int .i64 0))) fun i => 
 bnP (gdQ b false ((AV.cells i)[0]?)) fun j => 
 bnP (gdQ b false (zc .neq j (.int .i64 1))) fun l => 
 bnP (zr b (.bool true) l) fun m => 
 zG m (fun _=>some (.ifc 101 (.agg [.int .i64 0]),Q))
 (fun _=>bnP (km a) fun o => 
 bnX (lp qo [(0,.v a),(21,.v a),(22,.v o),(23,.v (.int .i64 0))] [] Q) (kB 0 (goC (z5 call lp Y2) (zu [.tmp 2] [.n]))))):=by kernel_rfl
def z3X {s:zi} (hs:s.lookup 86=none) (a:AV) (Q:z3):=(zo (E:=z8 s) (f:=86) (fn:=vG) hs rfl [a] Q rfl).trans (z3W (call:=zd (z8 s)) (lp:=zj (z8 s)) a Q)
theorem WL {call:z7} {lp:ze} (a:AV) (Q:z3):z5 call lp XJ [(0,.v a)] [] Q (zu [.tmp 2] [.n])=(
 bnP (zc .neq a a) fun b => 
 bnP (rcv false .n b) fun c=>some (c,Q)):=by kernel_rfl
def WM {s:zi} (hs:s.lookup 87=none) (a:AV) (Q:z3):=(zo (E:=z8 s) (f:=87) (fn:=qN) hs rfl [a] Q rfl).trans (WL (call:=zd (z8 s)) (lp:=zj (z8 s)) a Q)
theorem kz {β:Type} (call:z7) (lp:ze) (b c d a:AV) (Q:z3) (k:PK β):z5 call lp zU [(0,.v b),(1,.v c),(7,.v d),(8,.v a)] [] Q k=(
 bnP (zc .lss a d) fun e => 
 zG e (fun _=>bnP (elQ 1 b a) fun f => 
 bnP ((AV.cells f)[0]?) fun g => 
 bnP (zc .eql c g) fun h => 
 zG h (fun _=>k .ret [(4,.v a)] [] Q)
 (fun _=>bnP (zc .add a (.int .i64 1)) fun i => 
 k .normal [(0,.v b),(1,.v c),(7,.v d),(8,.v i)] [] Q))
 (fun _=>k (.exit 0) [] [] Q)):=by kernel_rfl
noncomputable def xm (s:zi) (a b c d:AV) (Q:z3):Option ja:=zj (z8 s) zU [(0,.v a),(1,.v b),(7,.v c),(8,.v d)] [] Q
theorem yA (s:zi) (a b c d:AV) (Q:z3):zj (z8 s) zU [(0,.v a),(1,.v b),(7,.v c),(8,.v d)] [] Q=xm s a b c d Q:=rfl
theorem jx (s:zi) (a b c d:AV) (Q:z3):xm s a b c d Q=z5 (zd (z8 s)) (zj (z8 s)) zU [(0,.v a),(1,.v b),(7,.v c),(8,.v d)] [] Q (goX (fun τ ω Q=>zj (z8 s) zU τ ω Q) jk):=xh
abbrev Z4 (Q:z3):Option ja:=some (.exit 0,[],[],Q)
abbrev wX (a:AV) (Q:z3):Option ja:=some (.ret,[(4,.v a)],[],Q)
theorem Ya {β:Type} (call:z7) (lp:ze) (Q:z3) (k:PK β):z5 call lp qp [] [] Q k=(
 k .ret [(4,.v (.int .i64 (-1)))] [] Q):=by kernel_rfl
theorem Xq {call:z7} {lp:ze} (a b:AV) (Q:z3):z5 call lp vH [(0,.v a),(1,.v b)] [] Q (zu [.tmp 4] [.n])=(
 bnP (km a) fun c => 
 bnX (lp zU [(0,.v a),(1,.v b),(7,.v c),(8,.v (.int .i64 0))] [] Q) (kB 0 (goC (z5 call lp qp) (zu [.tmp 4] [.n])))):=by kernel_rfl
def Xr {s:zi} (hs:s.lookup 88=none) (a b:AV) (Q:z3):=(zo (E:=z8 s) (f:=88) (fn:=yO) hs rfl [a,b] Q rfl).trans (Xq (call:=zd (z8 s)) (lp:=zj (z8 s)) a b Q)
end Go.Proofs.Ytdbbdfmkglgjdaa.Pi
