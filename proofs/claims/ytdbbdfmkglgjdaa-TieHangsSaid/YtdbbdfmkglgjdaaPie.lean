/- Equations by values. Printed by mkpv.py of this repo. -/
import Derived.Test.YtdbbdfmkglgjdaaPid
import Derived.Test.YtdbbdfmkglgjdaaPvE
namespace Go.Proofs.Ytdbbdfmkglgjdaa.Pi
open Go.Ab
set_option maxRecDepth 100000
set_option linter.unusedVariables false
set_option linter.unusedSimpArgs false
set_option linter.defProp false
theorem YS {β:Type} (call:z7) (lp:zd) (p q r j b u w x y z l A B C D a E F G e c H I J:AV) (Q:z3) (k:PK β):z5 call lp xn [(11,.v p),(12,.lp 12 0),(13,.lp 13 0)] [(12,.cells [q,r,j,b,u,w,x,y,z,l,A,B,C]),(13,.cells [D,a,E,F,G,e,c,H,I,J])] Q k=(
 bnS (call 22 [.agg [q,r,j,b,u,w,x,y,z,l,A,B,C],.agg [D,a,E,F,G,e,c,H,I,J],.int .i64 1] Q) fun K b0 => 
 bnP (xf (frz K) 0) fun X => 
 bnP (xf (frz K) 1) fun d => 
 bnC 13 (stC 13 X) fun ap aq ar m Y au Z av aa ab aw ac ax => 
 bnS (call 35 [c,p] b0) fun L ad => 
 bnP (xf (frz L) 0) fun R => 
 bnP (xf (frz L) 1) fun S => 
 bnP (z9 .eql b (.int .i64 0)) fun f => 
 bnP (gdQ f true (some l)) fun ae => 
 bnP (gdQ f true (some a)) fun af => 
 bnP (gdQ f true (z9 .eql ae af)) fun ag => 
 bnP (zF f ag (.bool false)) fun M => 
 bnP (gdQ M true (some S)) fun ah => 
 bnP (zF M ah (.bool false)) fun n => 
 bnP (gdQ n true (some e)) fun ai => 
 bnP (gdQ n true (z9 .leq ai (.int .i64 20))) fun aj => 
 bnP (zF n aj (.bool false)) fun ak => 
 zw ak (fun _=>bnP (z9 .eql m a) fun T => 
 bnP (gdQ T true (some Y)) fun ay => 
 bnP (gdQ T true (z9 .eql ay (.int .i64 9))) fun az => 
 bnP (zF T az (.bool false)) fun N => 
 bnP (gdQ N true (some Z)) fun a0 => 
 bnP (gdQ N true (some R)) fun a1 => 
 bnS (gdH N true (call 36 [a0,a1] ad) ad) fun a2 b1 => 
 bnP (zF N (frz a2) (.bool false)) fun U => 
 bnP (gdQ U true (some ab)) fun a3 => 
 bnP (gdQ U true (z9 .eql a3 (.int .i64 0))) fun a4 => 
 bnP (zF U a4 (.bool false)) fun V => 
 bnP (gdQ V true (some ac)) fun a5 => 
 bnP (gdQ V true (z9 .eql a5 (.int .i64 0))) fun a6 => 
 bnP (zF V a6 (.bool false)) fun g => 
 bnP (gdQ g true (some aa)) fun a7 => 
 bnP (gdQ g true (some j)) fun a8 => 
 bnP (gdQ g true (some e)) fun a9 => 
 bnP (gdQ g true (z9 .sub a8 a9)) fun ba => 
 bnP (gdQ g true (z9 .eql a7 ba)) fun bb => 
 bnP (zF g bb (.bool false)) fun O => 
 bnP (gdQ O true (some d)) fun bc => 
 bnP (gdQ O true (km bc)) fun bd => 
 bnP (gdQ O true (z9 .eql bd (.int .i64 0))) fun bf => 
 bnP (zF O bf (.bool false)) fun bg => 
 k .ret [(10,.v bg),(139,.v bg),(138,.v bf),(137,.v bd),(136,.v bc),(135,.v O),(134,.v O),(133,.v bb),(132,.v ba),(131,.v a9),(130,.gd 125 true (.lp 13 5)),(129,.v a8),(128,.gd 125 true (.lp 12 2)),(127,.v a7),(126,.gd 125 true (.lp 14 8)),(125,.v g),(124,.v g),(123,.v a6),(122,.v a5),(121,.gd 120 true (.lp 14 11)),(120,.v V),(119,.v V),(118,.v a4),(117,.v a3),(116,.gd 115 true (.lp 14 9)),(115,.v U),(114,.v U),(113,.v (frz a2)),(112,.v a1),(111,.v a0),(110,.gd 109 true (.lp 14 6)),(109,.v N),(108,.v N),(107,.v az),(106,.v ay),(105,.gd 104 true (.lp 14 4)),(104,.v T),(103,.v T),(102,.v a),(101,.lp 13 1),(100,.v m),(99,.lp 14 3),(98,.v ak),(97,.v aj),(96,.v ai),(95,.gd 94 true (.lp 13 5)),(94,.v n),(93,.v n),(92,.v ah),(91,.v M),(90,.v M),(89,.v ag),(88,.v af),(87,.gd 84 true (.lp 13 1)),(86,.v ae),(85,.gd 84 true (.lp 12 9)),(84,.v f),(83,.v f),(82,.v b),(81,.lp 12 3),(17,.v S),(16,.v R),(80,.v S),(79,.v R),(74,.v (frz L)),(78,.v (frz L)),(77,.v p),(76,.v c),(75,.lp 13 6),(15,.v d),(14,.lp 14 0),(73,.v d),(72,.v X),(68,.v (frz K)),(71,.v (frz K)),(70,.v (.agg [D,a,E,F,G,e,c,H,I,J])),(69,.v (.agg [q,r,j,b,u,w,x,y,z,l,A,B,C])),(11,.v p),(12,.lp 12 0),(13,.lp 13 0)] [(14,.cells [ap,aq,ar,m,Y,au,Z,av,aa,ab,aw,ac,ax]),(12,.cells [q,r,j,b,u,w,x,y,z,l,A,B,C]),(13,.cells [D,a,E,F,G,e,c,H,I,J])] b1)
 (fun _=>bnP (km d) fun bh => 
 bnP (z9 .eql bh (.int .i64 1)) fun o => 
 bnP (gdQ o true (some d)) fun bi => 
 bnP (gdQ o true (elQ 10 bi (.int .i64 0))) fun al => 
 bnP (gdQ o true ((AV.cells al)[0]?)) fun bj => 
 bnP (gdQ o true (z9 .eql bj (.int .i64 6))) fun bk => 
 bnP (zF o bk (.bool false)) fun h => 
 bnP (gdQ h true (some d)) fun bl => 
 bnP (gdQ h true (elQ 10 bl (.int .i64 0))) fun ao => 
 bnP (gdQ h true ((AV.cells ao)[2]?)) fun bm => 
 bnP (gdQ h true (some a)) fun bn => 
 bnP (gdQ h true (z9 .eql bm bn)) fun bo => 
 bnP (zF h bo (.bool false)) fun i => 
 bnP (gdQ i true (some m)) fun bp => 
 bnP (gdQ i true (some b)) fun bq => 
 bnP (gdQ i true (z9 .eql bp bq)) fun br => 
 bnP (gdQ i true (some br)) fun W => 
 bnP (gdQ W false (some m)) fun bs => 
 bnP (gdQ W false (z9 .eql bs (.int .i64 0))) fun bt => 
 bnP (gdQ i true (zF W (.bool true) bt)) fun bu => 
 bnP (zF i bu (.bool false)) fun P => 
 bnP (gdQ P true (some m)) fun bv => 
 bnP (gdQ P true (some a)) fun bw => 
 bnP (gdQ P true (z9 .neq bv bw)) fun bx => 
 bnP (zF P bx (.bool false)) fun bz => 
 k .ret [(10,.v bz),(177,.v bz),(176,.v bx),(175,.v bw),(174,.gd 171 true (.lp 13 1)),(173,.v bv),(172,.gd 171 true (.lp 14 3)),(171,.v P),(170,.v P),(169,.v bu),(168,.v bt),(167,.v bs),(166,.gd 165 false (.lp 14 3)),(165,.v W),(164,.v br),(163,.v bq),(162,.gd 159 true (.lp 12 3)),(161,.v bp),(160,.gd 159 true (.lp 14 3)),(159,.v i),(158,.v i),(157,.v bo),(156,.v bn),(155,.gd 150 true (.lp 13 1)),(154,.v bm),(153,.gd 150 true (.fp ao 2)),(152,.gd 150 true (.fp ao 0)),(151,.v bl),(150,.v h),(149,.v h),(148,.v bk),(147,.v bj),(146,.gd 143 true (.fp al 0)),(145,.gd 143 true (.fp al 0)),(144,.v bi),(143,.v o),(142,.v o),(141,.v bh),(140,.v d),(98,.v ak),(97,.v aj),(96,.v ai),(95,.gd 94 true (.lp 13 5)),(94,.v n),(93,.v n),(92,.v ah),(91,.v M),(90,.v M),(89,.v ag),(88,.v af),(87,.gd 84 true (.lp 13 1)),(86,.v ae),(85,.gd 84 true (.lp 12 9)),(84,.v f),(83,.v f),(82,.v b),(81,.lp 12 3),(17,.v S),(16,.v R),(80,.v S),(79,.v R),(74,.v (frz L)),(78,.v (frz L)),(77,.v p),(76,.v c),(75,.lp 13 6),(15,.v d),(14,.lp 14 0),(73,.v d),(72,.v X),(68,.v (frz K)),(71,.v (frz K)),(70,.v (.agg [D,a,E,F,G,e,c,H,I,J])),(69,.v (.agg [q,r,j,b,u,w,x,y,z,l,A,B,C])),(11,.v p),(12,.lp 12 0),(13,.lp 13 0)] [(14,.cells [ap,aq,ar,m,Y,au,Z,av,aa,ab,aw,ac,ax]),(12,.cells [q,r,j,b,u,w,x,y,z,l,A,B,C]),(13,.cells [D,a,E,F,G,e,c,H,I,J])] ad)):=by kernel_rfl
theorem Qh {call:z7} {lp:zd} (e f l g m:AV) (Q:z3):z5 call lp wh [(0,.v e),(1,.v f),(2,.v l),(3,.v g),(4,.v m)] [] Q (zp [.tmp 10] [.n])=(
 bnS (call 11 [] Q) fun N h => 
 bnP (unA .not (frz N)) fun O => 
 zw O (fun _=>some (.bool false,h))
 (fun _=>bnP (km e) fun P => 
 bnP (z9 .gtr P (.int .i64 200)) fun c => 
 bnP (gdQ c false (some f)) fun R => 
 bnP (gdQ c false (km R)) fun S => 
 bnP (gdQ c false (z9 .gtr S (.int .i64 6))) fun T => 
 bnP (zF c (.bool true) T) fun U => 
 zw U (fun _=>some (.bool true,h))
 (fun _=>bnP (z9 .rem l (.int .u8 7)) fun V => 
 bnP (z0C .i64 V) fun W => 
 bnP (z9 .add (.int .i64 2) W) fun a => 
 bnS (call 12 [e] h) fun X Y => 
 bnS (call 33 [(frz X),a,.int .i64 40] Y) fun Z aa => 
 bnC 13 (stC 13 (frz Z)) fun o p q r u w x y z b A B C => 
 bnP (z9 .rem g (.int .u8 8)) fun ab => 
 bnP (z0C .i64 ab) fun ac => 
 bnP (z9 .add (.int .i64 1) ac) fun ad => 
 bnP (z9 .rem m (.int .u8 30)) fun ae => 
 bnP (z0C .i64 ae) fun af => 
 bnS (call 12 [f] aa) fun ag ah => 
 bnS (call 21 [(frz ag)] ah) fun ai i => 
 bnC 10 (vg [.int .i64 0,.int .i64 0,.int .i64 0,.int .i64 0,.int .i64 0,.int .i64 0,.nils,.int .i64 0,.int .i64 0,.str []] [(0,1,.int .i64 2),(1,1,ad),(2,1,a),(3,1,.int .i64 9),(4,1,.int .i64 3),(5,1,af),(6,1,(frz ai)),(7,1,.int .i64 1)]) fun aj ak al ao ap aq ar au av aw => 
 bnC 10 (stC 10 (.agg [aj,ak,al,ao,ap,aq,ar,au,av,aw])) fun D E F G H I J K L M => 
 bnP (z9 .eql E a) fun ax => 
 zw ax (fun _=>some (.bool true,i))
 (fun _=>bnX (bnP (z9 .geq g (.int .u8 128)) fun j => 
 bnP (gdQ j true (some b)) fun ay => 
 bnP (gdQ j true (z9 .neq ay (.int .i64 0))) fun az => 
 bnP (zF j az (.bool false)) fun d => 
 bnP (gdQ d true (some b)) fun a0 => 
 bnP (gdQ d true (some a)) fun a1 => 
 bnP (gdQ d true (z9 .neq a0 a1)) fun a2 => 
 bnP (zF d a2 (.bool false)) fun a3 => 
 zw a3 (fun _=>bnC 1 (stC 1 b) fun a4 => 
 some (.normal,[(11,.v a),(12,.lp 12 0),(13,.lp 13 0)],[(12,.cells [o,p,q,r,u,w,x,y,z,b,A,B,C]),(13,.cells [D,a4,F,G,H,I,J,K,L,M])],i))
 (fun _=>some (.normal,[(11,.v a),(12,.lp 12 0),(13,.lp 13 0)],[(12,.cells [o,p,q,r,u,w,x,y,z,b,A,B,C]),(13,.cells [D,E,F,G,H,I,J,K,L,M])],i)))
 (goC (z5 call lp xn) (zp [.tmp 10] [.n])))))):=by kernel_rfl
def Qi {s:zg} (hs:s.lookup 10=none) (a b c d e:AV) (Q:z3):=(zm (E:=z6 s) (f:=10) (fn:=yO) hs rfl [a,b,c,d,e] Q rfl).trans (Qh (call:=zc (z6 s)) (lp:=zi (z6 s)) a b c d e Q)
theorem W5 {call:z7} {lp:zd} (a:AV) (Q:z3):z5 call lp Yq [(0,.v a)] [] Q (zp [.tmp 2] [.n])=(
 bnC 2 (vg [.nils,.int .i64 0] [(0,1,a)]) fun b c => 
 bnS (JJ Q (AV.cells (.agg [b,c]))) fun d e => 
 bnP (rcv false .n d) fun f=>some (f,e)):=by kernel_rfl
def W6 {s:zg} (hs:s.lookup 12=none) (a:AV) (Q:z3):=(zm (E:=z6 s) (f:=12) (fn:=xW) hs rfl [a] Q rfl).trans (W5 (call:=zc (z6 s)) (lp:=zi (z6 s)) a Q)
theorem Qj {call:z7} {lp:zd} (a b:AV) (Q:z3):z5 call lp wj [(0,.v a),(1,.v b)] [] Q (zp [.tmp 4] [.n])=(
 bnP (zA a) fun e => 
 bnP (zn 1 e) fun f => 
 bnP (ldQ Q f) fun g => 
 bnP (zA a) fun h => 
 bnP (zn 0 h) fun i => 
 bnP (ldQ Q i) fun j => 
 bnP (km j) fun l => 
 bnP (z9 .geq g l) fun c => 
 bnP (gdQ c false (some b)) fun m => 
 bnP (gdQ c false (z9 .lss m (.int .i64 1))) fun o => 
 bnP (zF c (.bool true) o) fun p => 
 zw p (fun _=>some (.int .i64 0,Q))
 (fun _=>bnP (zA a) fun q => 
 bnP (zn 1 q) fun r => 
 bnP (ldQ Q r) fun u => 
 bnP (z9 .add u (.int .i64 1)) fun w => 
 bnP (zA a) fun x => 
 bnP (zn 1 x) fun y => 
 bnS (stA Q 1 y w) fun _ d => 
 bnP (zA a) fun z => 
 bnP (zn 0 z) fun A => 
 bnP (ldQ d A) fun B => 
 bnP (zA a) fun C => 
 bnP (zn 1 C) fun D => 
 bnP (ldQ d D) fun E => 
 bnP (z9 .sub E (.int .i64 1)) fun F => 
 bnP (elQ 1 B F) fun G => 
 bnP ((AV.cells G)[0]?) fun H => 
 bnP (z0C .i64 H) fun I => 
 bnP (z9 .rem I b) fun J => 
 bnP (rcv false .n J) fun K=>some (K,d))):=by kernel_rfl
def wz {s:zg} (hs:s.lookup 13=none) (a b:AV) (Q:z3):=(zm (E:=z6 s) (f:=13) (fn:=yP) hs rfl [a,b] Q rfl).trans (Qj (call:=zc (z6 s)) (lp:=zi (z6 s)) a b Q)
theorem ZD {β:Type} (call:z7) (lp:zd) (o p q r u w x y z A B C D a b c d e f g h i j l m n:AV) (Q:z3) (k:PK β):z5 call lp kM [(8,.lp 8 0),(9,.lp 9 0)] [(8,.cells [o,p,q,r,u,w,x,y,z,A,B,C,D]),(9,.cells [a,b,c,d,e,f,g,h,i,j,l,m,n])] Q k=(
 bnC 13 (stC 13 (.agg [a,b,c,d,e,f,g,h,i,j,l,m,n])) fun E F G H I J K L M N O P R => 
 k .ret [(21,.v (.agg [a,b,c,d,e,f,g,h,i,j,l,m,n])),(8,.lp 8 0),(9,.lp 9 0)] [(8,.cells [E,F,G,H,I,J,K,L,M,N,O,P,R]),(9,.cells [a,b,c,d,e,f,g,h,i,j,l,m,n])] Q):=by kernel_rfl
theorem W7 {call:z7} {lp:zd} (a c b d:AV) (Q:z3):z5 call lp Yr [(0,.v a),(1,.v c),(2,.v b),(3,.v d)] [] Q (zp [.cell 8 (some 13)] [.n])=(
 bnC 13 (vg [.int .i64 0,.int .i64 0,.int .i64 0,.int .i64 0,.int .i64 0,.int .i64 0,.nils,.int .i64 0,.int .i64 0,.int .i64 0,.int .i64 0,.int .i64 0,.nils] [(0,1,a),(1,1,c),(2,1,b),(5,1,d)]) fun r u w x y z A B C D E F G => 
 bnC 13 (stC 13 (.agg [r,u,w,x,y,z,A,B,C,D,E,F,G])) fun e f g h i j H l I m o p q => 
 bnX (bnP (z9 .eql a (.int .i64 1)) fun J => 
 zw J (fun _=>bnC 1 (stC 1 b) fun K => 
 some (.normal,[(8,.lp 8 0),(9,.lp 9 0)],[(8,.cells [.int .i64 0,.int .i64 0,.int .i64 0,.int .i64 0,.int .i64 0,.int .i64 0,.nils,.int .i64 0,.int .i64 0,.int .i64 0,.int .i64 0,.int .i64 0,.nils]),(9,.cells [e,f,g,h,i,j,.fz 1 [.int .i64 1],l,K,m,o,p,q])],Q))
 (fun _=>some (.normal,[(8,.lp 8 0),(9,.lp 9 0)],[(8,.cells [.int .i64 0,.int .i64 0,.int .i64 0,.int .i64 0,.int .i64 0,.int .i64 0,.nils,.int .i64 0,.int .i64 0,.int .i64 0,.int .i64 0,.int .i64 0,.nils]),(9,.cells [e,f,g,h,i,j,H,l,I,m,o,p,q])],Q)))
 (goC (z5 call lp kM) (zp [.cell 8 (some 13)] [.n]))):=by kernel_rfl
def W8 {s:zg} (hs:s.lookup 15=none) (a b c d:AV) (Q:z3):=(zm (E:=z6 s) (f:=15) (fn:=xX) hs rfl [a,b,c,d] Q rfl).trans (W7 (call:=zc (z6 s)) (lp:=zi (z6 s)) a b c d Q)
theorem Xo {call:z7} {lp:zd} (a:AV) (Q:z3):z5 call lp vI [(0,.v a)] [] Q (zp [.tmp 2] [.n])=(
 bnP (zA a) fun b => 
 bnP (zn 1 b) fun c => 
 bnP (ldQ Q c) fun d => 
 bnP (zA a) fun e => 
 bnP (zn 0 e) fun f => 
 bnP (ldQ Q f) fun g => 
 bnP (km g) fun h => 
 bnP (z9 .geq d h) fun i => 
 bnP (rcv false .n i) fun j=>some (j,Q)):=by kernel_rfl
def Xp {s:zg} (hs:s.lookup 17=none) (a:AV) (Q:z3):=(zm (E:=z6 s) (f:=17) (fn:=yE) hs rfl [a] Q rfl).trans (Xo (call:=zc (z6 s)) (lp:=zi (z6 s)) a Q)
theorem qE {β:Type} (call:z7) (lp:zd) (p b c d e f g h i j a l m n q r u w x y z A B C D E F:AV) (Q:z3) (k:PK β):z5 call lp jX [(1,.lp 1 0),(2,.lp 2 0),(4,.v p),(5,.v .nils)] [(1,.cells [b,c,d,e,f,g,h,i,j,a,l,m,n]),(2,.cells [q,r,u,w,x,y,z,A,B,C,D,E,F])] Q k=(
 bnS (call 45 [.agg [b,c,d,e,f,g,h,i,j,a,l,m,n],.int .i64 1,a] Q) fun o G => 
 pinB (wE 10 (frz o)) <| 
 pinB (room 104 (([(frz o)]:List AV):List AV).length) <| 
 k .normal [(1,.lp 1 0),(2,.lp 2 0),(4,.v p),(5,.ls 5)] [(1,.cells [b,c,d,e,f,g,h,i,j,a,l,m,n]),(2,.cells [q,r,u,w,x,y,z,A,B,C,D,E,F]),(5,.own 10 ([(frz o)]:List AV))] G):=by kernel_rfl
theorem Zg {β:Type} (call:z7) (lp:zd) (e b f c g h a i j l E G d m n o p q r u w x y z A B C:AV) (Q:z3) (k:PK β):z5 call lp qx [(1,.lp 1 0),(2,.lp 2 0),(4,.v e),(5,.v .nils)] [(1,.cells [b,f,c,g,h,a,i,j,l,E,G,d,m]),(2,.cells [n,o,p,q,r,u,w,x,y,z,A,B,C])] Q k=(
 bnP (z9 .eql E (.int .i64 0)) fun I => 
 zw I (fun _=>bnP (z9 .add c (.int .i64 3)) fun J => 
 bnC 1 (stC 1 J) fun H => 
 bnX (bnP (z9 .eql d (.int .i64 0)) fun F => 
 bnP (gdQ F true (some a)) fun K => 
 bnP (gdQ F true (z9 .neq K (.int .i64 0))) fun L => 
 bnP (zF F L (.bool false)) fun D => 
 bnP (gdQ D true (some a)) fun M => 
 bnP (gdQ D true (some b)) fun N => 
 bnP (gdQ D true (z9 .neq M N)) fun O => 
 bnP (zF D O (.bool false)) fun P => 
 zw P (fun _=>bnC 1 (stC 1 a) fun R => 
 some (.normal,[(1,.lp 1 0),(2,.lp 2 0),(4,.v e),(5,.v .nils)],[(1,.cells [b,f,c,g,h,a,i,j,l,R,H,d,m]),(2,.cells [n,o,p,q,r,u,w,x,y,z,A,B,C])],Q))
 (fun _=>some (.normal,[(1,.lp 1 0),(2,.lp 2 0),(4,.v e),(5,.v .nils)],[(1,.cells [b,f,c,g,h,a,i,j,l,.int .i64 1,H,d,m]),(2,.cells [n,o,p,q,r,u,w,x,y,z,A,B,C])],Q)))
 (goC (z5 call lp jX) (QZ [] [] [1,2,4,5] [(1,1),(2,2),(5,5)] k)))
 (fun _=>k .normal [(1,.lp 1 0),(2,.lp 2 0),(4,.v e),(5,.ls 5)] [(1,.cells [b,f,c,g,h,a,i,j,l,E,G,d,m]),(2,.cells [n,o,p,q,r,u,w,x,y,z,A,B,C]),(5,.own 10 ([]:List AV))] Q)):=by kernel_rfl
theorem Jk {β:Type} (call:z7) (lp:zd) (d e f a b g h i j l m c n o p q r u w x y z A B C D E:AV) (Q:z3) (k:PK β):z5 call lp qy [(1,.lp 1 0),(2,.lp 2 0),(4,.v d),(5,.v .nils)] [(1,.cells [e,f,a,b,g,h,i,j,l,m,c,n,o]),(2,.cells [p,q,r,u,w,x,y,z,A,B,C,D,E])] Q k=(
 bnP (z9 .eql b (.int .i64 0)) fun G => 
 zw G (fun _=>bnX (bnP (z9 .neq m (.int .i64 0)) fun F => 
 bnP (gdQ F true (some a)) fun H => 
 bnP (gdQ F true (some c)) fun I => 
 bnP (gdQ F true (z9 .geq H I)) fun J => 
 bnP (zF F J (.bool false)) fun K => 
 zw K (fun _=>bnP (z9 .add n (.int .i64 1)) fun L => 
 bnC 1 (stC 1 L) fun M => 
 some (.normal,[(1,.lp 1 0),(2,.lp 2 0),(4,.v d),(5,.v .nils)],[(1,.cells [e,f,a,b,g,h,i,j,l,.int .i64 0,c,M,o]),(2,.cells [p,q,r,u,w,x,y,z,A,B,C,D,E])],Q))
 (fun _=>some (.normal,[(1,.lp 1 0),(2,.lp 2 0),(4,.v d),(5,.v .nils)],[(1,.cells [e,f,a,b,g,h,i,j,l,m,c,n,o]),(2,.cells [p,q,r,u,w,x,y,z,A,B,C,D,E])],Q)))
 (goC (z5 call lp qx) (QZ [] [] [1,2,4,5] [(1,1),(2,2),(5,5)] k)))
 (fun _=>k .normal [(1,.lp 1 0),(2,.lp 2 0),(4,.v d),(5,.ls 5)] [(1,.cells [e,f,a,b,g,h,i,j,l,m,c,n,o]),(2,.cells [p,q,r,u,w,x,y,z,A,B,C,D,E]),(5,.own 10 ([]:List AV))] Q)):=by kernel_rfl
theorem Zh {β:Type} (call:z7) (lp:zd) (o b c d e f g h i j l m n a q r u w x y z A B C D E F:AV) (p:List AV) (Q:z3) (k:PK β):z5 call lp yl [(1,.lp 1 0),(2,.lp 2 0),(5,.ls 5),(6,.v o)] [(1,.cells [b,c,d,e,f,g,h,i,j,l,m,n,a]),(2,.cells [q,r,u,w,x,y,z,A,B,C,D,E,F]),(5,.own 10 p)] Q k=(
 bnP (km a) fun J => 
 bnP (z9 .lss o J) fun G => 
 bnP (gdQ G true (some (.agg [b,c,d,e,f,g,h,i,j,l,m,n,a]))) fun K => 
 bnS (gdH G true (call 26 [K] Q) Q) fun L I => 
 bnP (zF G (frz L) (.bool false)) fun M => 
 zw M (fun _=>bnP (elQ 3 a o) fun N => 
 bnP ((AV.cells N)[0]?) fun O => 
 bnS (call 46 [.agg [b,c,d,e,f,g,h,i,j,l,m,n,a],.int .i64 5,O] I) fun H P => 
 pinB (wE 10 (frz H)) <| 
 pinB (room 104 ((p:List AV).length+(([(frz H)]:List AV):List AV).length)) <| 
 bnP (z9 .add o (.int .i64 1)) fun R => 
 k .normal [(1,.lp 1 0),(2,.lp 2 0),(5,.ls 5),(6,.v R)] [(1,.cells [b,c,d,e,f,g,h,i,j,l,m,n,a]),(2,.cells [q,r,u,w,x,y,z,A,B,C,D,E,F]),(5,.own 10 (p++([(frz H)]:List AV)))] P)
 (fun _=>k (.exit 0) [(1,.lp 1 0),(2,.lp 2 0),(5,.ls 5)] [(1,.cells [b,c,d,e,f,g,h,i,j,l,m,n,a]),(2,.cells [q,r,u,w,x,y,z,A,B,C,D,E,F]),(5,.own 10 p)] I)):=by kernel_rfl
noncomputable def kf (s:zg) (a b c d e f g h i j l m n o p q r u w x y z A B C D E:AV) (F:List AV) (Q:z3):Option ji:=zi (z6 s) yl [(1,.lp 1 0),(2,.lp 2 0),(5,.ls 5),(6,.v a)] [(1,.cells [b,c,d,e,f,g,h,i,j,l,m,n,o]),(2,.cells [p,q,r,u,w,x,y,z,A,B,C,D,E]),(5,.own 10 F)] Q
theorem qr (s:zg) (a b c d e f g h i j l m n o p q r u w x y z A B C D E:AV) (F:List AV) (Q:z3):zi (z6 s) yl [(1,.lp 1 0),(2,.lp 2 0),(5,.ls 5),(6,.v a)] [(1,.cells [b,c,d,e,f,g,h,i,j,l,m,n,o]),(2,.cells [p,q,r,u,w,x,y,z,A,B,C,D,E]),(5,.own 10 F)] Q=kf s a b c d e f g h i j l m n o p q r u w x y z A B C D E F Q:=rfl
theorem vM (s:zg) (a b c d e f g h i j l m n o p q r u w x y z A B C D E:AV) (F:List AV) (Q:z3):kf s a b c d e f g h i j l m n o p q r u w x y z A B C D E F Q=z5 (zc (z6 s)) (zi (z6 s)) yl [(1,.lp 1 0),(2,.lp 2 0),(5,.ls 5),(6,.v a)] [(1,.cells [b,c,d,e,f,g,h,i,j,l,m,n,o]),(2,.cells [p,q,r,u,w,x,y,z,A,B,C,D,E]),(5,.own 10 F)] Q (goX (fun τ ω Q=>zi (z6 s) yl τ ω Q) j7):=yN
abbrev Xq (a b c d e f g h i j l m n o p q r u v w x y z A B C:AV) (D:List AV) (Q:z3):Option ji:=some (.exit 0,[(1,.lp 1 0),(2,.lp 2 0),(5,.ls 5)],[(1,.cells [a,b,c,d,e,f,g,h,i,j,l,m,n]),(2,.cells [o,p,q,r,u,v,w,x,y,z,A,B,C]),(5,.own 10 D)],Q)
theorem Zi {β:Type} (call:z7) (lp:zd) (a b c d e f g h i j l m n p q r u w x y z A B C D E:AV) (o:List AV) (Q:z3) (k:PK β):z5 call lp jY [(1,.lp 1 0),(2,.lp 2 0),(5,.ls 5)] [(1,.cells [a,b,c,d,e,f,g,h,i,j,l,m,n]),(2,.cells [p,q,r,u,w,x,y,z,A,B,C,D,E]),(5,.own 10 o)] Q k=(
 bnC 13 (stC 13 (.agg [a,b,c,d,e,f,g,h,i,j,l,m,n])) fun F G H I J K L M N O P R S => 
 k .ret [(3,.ls 5),(130,.ls 5),(129,.v (.agg [a,b,c,d,e,f,g,h,i,j,l,m,n])),(1,.lp 1 0),(2,.lp 2 0),(5,.ls 5)] [(2,.cells [F,G,H,I,J,K,L,M,N,O,P,R,S]),(1,.cells [a,b,c,d,e,f,g,h,i,j,l,m,n]),(5,.own 10 o)] Q):=by kernel_rfl
theorem Zj {β:Type} (call:z7) (lp:zd) (a b c d e f g h i j l m n o p q r u w x y z A B C D:AV) (E:List AV) (Q:z3) (k:PK β):z5 call lp jZ [(1,.lp 1 0),(2,.lp 2 0),(5,.ls 5)] [(1,.cells [a,b,c,d,e,f,g,h,i,j,l,m,n]),(2,.cells [o,p,q,r,u,w,x,y,z,A,B,C,D]),(5,.own 10 E)] Q k=(
 bnX (lp yl [(1,.lp 1 0),(2,.lp 2 0),(5,.ls 5),(6,.v (.int .i64 0))] [(1,.cells [a,b,c,d,e,f,g,h,i,j,l,m,n]),(2,.cells [o,p,q,r,u,w,x,y,z,A,B,C,D]),(5,.own 10 E)] Q) (kx 0 (goC (z5 call lp jY) k))):=by kernel_rfl
theorem Jl {β:Type} (call:z7) (lp:zd) (p b c d a e f g h i j l m n q r u w x y z A B C D E F:AV) (o:List AV) (Q:z3) (k:PK β):z5 call lp qz [(1,.lp 1 0),(2,.lp 2 0),(4,.v p),(5,.ls 5)] [(1,.cells [b,c,d,a,e,f,g,h,i,j,l,m,n]),(2,.cells [q,r,u,w,x,y,z,A,B,C,D,E,F]),(5,.own 10 o)] Q k=(
 bnP (unA .not p) fun H => 
 zw H (fun _=>bnC 13 (stC 13 (.agg [b,c,d,a,e,f,g,h,i,j,l,m,n])) fun I J K L M N O P R S T U V => 
 k .ret [(3,.ls 5),(96,.ls 5),(95,.v (.agg [b,c,d,a,e,f,g,h,i,j,l,m,n])),(94,.v H),(93,.v p),(1,.lp 1 0),(2,.lp 2 0),(4,.v p),(5,.ls 5)] [(2,.cells [I,J,K,L,M,N,O,P,R,S,T,U,V]),(1,.cells [b,c,d,a,e,f,g,h,i,j,l,m,n]),(5,.own 10 o)] Q)
 (fun _=>bnX (bnP (z9 .neq a (.int .i64 0)) fun W => 
 zw W (fun _=>bnS (call 45 [.agg [b,c,d,a,e,f,g,h,i,j,l,m,n],.int .i64 4,a] Q) fun G X => 
 pinB (wE 10 (frz G)) <| 
 pinB (room 104 ((o:List AV).length+(([(frz G)]:List AV):List AV).length)) <| 
 some (.normal,[(1,.lp 1 0),(2,.lp 2 0),(5,.ls 5)],[(1,.cells [b,c,d,a,e,f,g,h,i,j,l,m,n]),(2,.cells [q,r,u,w,x,y,z,A,B,C,D,E,F]),(5,.own 10 (o++([(frz G)]:List AV)))],X))
 (fun _=>some (.normal,[(1,.lp 1 0),(2,.lp 2 0),(5,.ls 5)],[(1,.cells [b,c,d,a,e,f,g,h,i,j,l,m,n]),(2,.cells [q,r,u,w,x,y,z,A,B,C,D,E,F]),(5,.own 10 o)],Q)))
 (goC (z5 call lp jZ) k))):=by kernel_rfl
theorem Vg {call:z7} {lp:zd} (w x y z A B C D E F G H I:AV) (Q:z3):z5 call lp ZY [(0,.v (.agg [w,x,y,z,A,B,C,D,E,F,G,H,I]))] [] Q (zp [.cell 2 (some 13),.tmp 3] [.n,.f 10])=(
 bnC 13 (stC 13 (.agg [w,x,y,z,A,B,C,D,E,F,G,H,I])) fun b d K c e g h i q j l m L => 
 bnP (z9 .add K (.int .i64 1)) fun M => 
 bnC 1 (stC 1 M) fun a => 
 bnS (call 43 [L,a] Q) fun N r => 
 bnC 1 (stC 1 (frz N)) fun o => 
 bnP (z9 .rem a (.int .i64 2)) fun O => 
 bnP (z9 .eql O (.int .i64 0)) fun p => 
 bnX (bnP (z9 .eql b (.int .i64 1)) fun P => 
 zw P (fun _=>zw p (fun _=>bnP (z9 .add i (.int .i64 1)) fun R => 
 bnC 1 (stC 1 R) fun S => 
 bnC 1 (stC 1 a) fun T => 
 some (.normal,[(1,.lp 1 0),(2,.lp 2 0),(4,.v p),(5,.ls 5)],[(1,.cells [b,d,a,c,e,g,h,S,T,j,l,m,o]),(2,.cells [.int .i64 0,.int .i64 0,.int .i64 0,.int .i64 0,.int .i64 0,.int .i64 0,.nils,.int .i64 0,.int .i64 0,.int .i64 0,.int .i64 0,.int .i64 0,.nils]),(5,.own 10 ([]:List AV))],r))
 (fun _=>some (.normal,[(1,.lp 1 0),(2,.lp 2 0),(4,.v p),(5,.ls 5)],[(1,.cells [b,d,a,c,e,g,h,i,q,j,l,m,o]),(2,.cells [.int .i64 0,.int .i64 0,.int .i64 0,.int .i64 0,.int .i64 0,.int .i64 0,.nils,.int .i64 0,.int .i64 0,.int .i64 0,.int .i64 0,.int .i64 0,.nils]),(5,.own 10 ([]:List AV))],r)))
 (fun _=>bnX (bnP (z9 .neq c (.int .i64 0)) fun u => 
 bnP (gdQ u true (some (.agg [b,d,a,c,e,g,h,i,q,j,l,m,o]))) fun U => 
 bnS (gdH u true (call 26 [U] r) r) fun V J => 
 bnP (gdQ u true (unA .not (frz V))) fun W => 
 bnP (zF u W (.bool false)) fun X => 
 zw X (fun _=>bnS (call 44 [.agg [b,d,a,c,e,g,h,i,q,j,l,m,o],.int .i64 0] J) fun Y Z => 
 bnC 13 (stC 13 (frz Y)) fun aa ab ac ad ae af ag ah ai aj ak al ao => 
 some (.normal,[(1,.lp 1 0),(2,.lp 2 0),(4,.v p),(5,.v .nils)],[(1,.cells [aa,ab,ac,ad,ae,af,ag,ah,ai,aj,ak,al,ao]),(2,.cells [.int .i64 0,.int .i64 0,.int .i64 0,.int .i64 0,.int .i64 0,.int .i64 0,.nils,.int .i64 0,.int .i64 0,.int .i64 0,.int .i64 0,.int .i64 0,.nils])],Z))
 (fun _=>some (.normal,[(1,.lp 1 0),(2,.lp 2 0),(4,.v p),(5,.v .nils)],[(1,.cells [b,d,a,c,e,g,h,i,q,j,l,m,o]),(2,.cells [.int .i64 0,.int .i64 0,.int .i64 0,.int .i64 0,.int .i64 0,.int .i64 0,.nils,.int .i64 0,.int .i64 0,.int .i64 0,.int .i64 0,.int .i64 0,.nils])],J)))
 (goC (z5 call lp qy) j7)))
 (goC (z5 call lp qz) (zp [.cell 2 (some 13),.tmp 3] [.n,.f 10]))):=by kernel_rfl
def Vh {s:zg} (hs:s.lookup 19=none) (a b c d e g h i j l m n o:AV) (Q:z3):=(zm (E:=z6 s) (f:=19) (fn:=xF) hs rfl [.agg [a,b,c,d,e,g,h,i,j,l,m,n,o]] Q rfl).trans (Vg (call:=zc (z6 s)) (lp:=zi (z6 s)) a b c d e g h i j l m n o Q)
theorem qS {β:Type} (call:z7) (lp:zd) (a x b c d e f g h i j l m n o p q r u y z w:AV) (Q:z3) (k:PK β):z5 call lp qI [(0,.v a),(4,.lp 4 0),(6,.lp 6 0),(64,.v x)] [(4,.cells [b,c,d,e,f,g,h,i,j,l]),(6,.cells [m,n,o,p,q,r,u,y,z,w])] Q k=(
 zw x (fun _=>bnS (call 13 [a,.int .i64 9] Q) fun B C => 
 bnP (z9 .add (.int .i64 1) (frz B)) fun D => 
 bnC 1 (stC 1 D) fun A => 
 bnS (call 13 [a,.int .i64 6] C) fun E F => 
 bnP (z9 .add A (frz E)) fun G => 
 bnC 1 (stC 1 G) fun H => 
 k .normal [(4,.lp 4 0),(6,.lp 6 0)] [(4,.cells [b,c,d,e,f,g,h,i,j,l]),(6,.cells [m,n,o,p,q,r,u,A,H,w])] F)
 (fun _=>k .normal [(4,.lp 4 0),(6,.lp 6 0)] [(4,.cells [b,c,d,e,f,g,h,i,j,l]),(6,.cells [m,n,o,p,q,r,u,y,z,w])] Q)):=by kernel_rfl
theorem yc {β:Type} (call:z7) (lp:zd) (l m n o p q r u w x a b c d e f g h i j:AV) (Q:z3) (k:PK β):z5 call lp qJ [(4,.lp 4 0),(6,.lp 6 0)] [(4,.cells [l,m,n,o,p,q,r,u,w,x]),(6,.cells [a,b,c,d,e,f,g,h,i,j])] Q k=(
 bnC 10 (stC 10 (.agg [a,b,c,d,e,f,g,h,i,j])) fun y z A B C D E F G H => 
 k .ret [(77,.v (.agg [a,b,c,d,e,f,g,h,i,j])),(4,.lp 4 0),(6,.lp 6 0)] [(4,.cells [y,z,A,B,C,D,E,F,G,H]),(6,.cells [a,b,c,d,e,f,g,h,i,j])] Q):=by kernel_rfl
theorem YT {β:Type} (call:z7) (lp:zd) (a A B c d e f g h i j l m:AV) (Q:z3) (k:PK β):z5 call lp xo [(0,.v a),(1,.v A),(4,.lp 4 0),(5,.v B)] [(4,.cells [c,d,e,f,g,h,i,j,l,m])] Q k=(
 bnS (call 13 [a,.int .i64 9] Q) fun D E => 
 bnP (z9 .add (.int .i64 1) (frz D)) fun F => 
 bnS (call 13 [a,.int .i64 3] E) fun G n => 
 bnP (z9 .add (.int .i64 1) (frz G)) fun H => 
 bnC 10 (vg [.int .i64 0,.int .i64 0,.int .i64 0,.int .i64 0,.int .i64 0,.int .i64 0,.nils,.int .i64 0,.int .i64 0,.str []] [(0,1,F),(1,1,B),(2,1,A),(3,1,H)]) fun I J K L M N O P R S => 
 bnC 10 (stC 10 (.agg [I,J,K,L,M,N,O,P,R,S])) fun b o p q w x y z r u => 
 bnX (bnX (bnP (z9 .eql b (.int .i64 2)) fun T => 
 zw T (fun _=>bnS (call 13 [a,.int .i64 20] n) fun U V => 
 bnS (call 13 [a,.int .i64 25] V) fun W X => 
 bnS (call 21 [a] X) fun Y Z => 
 bnS (call 13 [a,.int .i64 9] Z) fun aa ab => 
 bnC 1 (stC 1 (frz U)) fun ac => 
 bnC 1 (stC 1 (frz W)) fun ad => 
 bnC 1 (stC 1 (frz Y)) fun ae => 
 bnC 1 (stC 1 (frz aa)) fun af => 
 some (.normal,[(4,.lp 4 0),(6,.lp 6 0)],[(4,.cells [c,d,e,f,g,h,i,j,l,m]),(6,.cells [b,o,p,q,ac,ad,ae,af,r,u])],ab))
 (fun _=>bnP (z9 .eql b (.int .i64 5)) fun ag => 
 zw ag (fun _=>bnS (call 13 [a,.int .i64 20] n) fun ah ai => 
 bnS (call 13 [a,.int .i64 25] ai) fun aj ak => 
 bnS (call 21 [a] ak) fun al ao => 
 bnS (call 13 [a,.int .i64 12] ao) fun ap aq => 
 bnC 1 (stC 1 (frz ah)) fun ar => 
 bnC 1 (stC 1 (frz aj)) fun au => 
 bnC 1 (stC 1 (frz al)) fun av => 
 bnC 1 (stC 1 (frz ap)) fun aw => 
 some (.normal,[(4,.lp 4 0),(6,.lp 6 0)],[(4,.cells [c,d,e,f,g,h,i,j,l,m]),(6,.cells [b,o,p,q,ar,au,av,z,aw,u])],aq))
 (fun _=>bnP (z9 .eql b (.int .i64 7)) fun ax => 
 zw ax (fun _=>bnS (call 13 [a,.int .i64 12] n) fun ay az => 
 bnP (z9 .add (.int .i64 1) (frz ay)) fun a0 => 
 bnS (call 47 [a] az) fun a1 a2 => 
 bnC 1 (stC 1 a0) fun a3 => 
 bnC 1 (stC 1 (frz a1)) fun a4 => 
 some (.normal,[(4,.lp 4 0),(6,.lp 6 0)],[(4,.cells [c,d,e,f,g,h,i,j,l,m]),(6,.cells [b,o,p,q,w,x,y,a3,r,a4])],a2))
 (fun _=>bnX (bnP (z9 .eql b (.int .i64 8)) fun C => 
 zw C (fun _=>some (.normal,[(0,.v a),(4,.lp 4 0),(6,.lp 6 0),(64,.v C)],[(4,.cells [c,d,e,f,g,h,i,j,l,m]),(6,.cells [b,o,p,q,w,x,y,z,r,u])],n))
 (fun _=>bnP (z9 .eql b (.int .i64 9)) fun a5 => 
 some (.normal,[(0,.v a),(4,.lp 4 0),(6,.lp 6 0),(64,.v a5)],[(4,.cells [c,d,e,f,g,h,i,j,l,m]),(6,.cells [b,o,p,q,w,x,y,z,r,u])],n)))
 (goC (z5 call lp qI) (QZ [] [] [4,6] [(4,4),(6,6)] (QZ [] [] [4,6] [(4,4),(6,6)] (QZ [] [] [4,6] [(4,4),(6,6)] j7))))))))
 (kx 0 j7))
 (goC (z5 call lp qJ) k)):=by kernel_rfl
theorem Qk {call:z7} {lp:zd} (b a:AV) (Q:z3):z5 call lp wk [(0,.v b),(1,.v a)] [] Q (zp [.cell 4 (some 10)] [.n])=(
 bnS (call 13 [b,.int .i64 8] Q) fun e c => 
 bnP (z9 .add (.int .i64 1) (frz e)) fun d => 
 bnX (bnP (z9 .eql d a) fun f => 
 zw f (fun _=>bnP (z9 .rem a (.int .i64 8)) fun g => 
 bnP (z9 .add (.int .i64 1) g) fun h => 
 some (.normal,[(0,.v b),(1,.v a),(4,.lp 4 0),(5,.v h)],[(4,.cells [.int .i64 0,.int .i64 0,.int .i64 0,.int .i64 0,.int .i64 0,.int .i64 0,.nils,.int .i64 0,.int .i64 0,.str []])],c))
 (fun _=>some (.normal,[(0,.v b),(1,.v a),(4,.lp 4 0),(5,.v d)],[(4,.cells [.int .i64 0,.int .i64 0,.int .i64 0,.int .i64 0,.int .i64 0,.int .i64 0,.nils,.int .i64 0,.int .i64 0,.str []])],c)))
 (goC (z5 call lp xo) (zp [.cell 4 (some 10)] [.n]))):=by kernel_rfl
def Ql {s:zg} (hs:s.lookup 20=none) (a b:AV) (Q:z3):=(zm (E:=z6 s) (f:=20) (fn:=yQ) hs rfl [a,b] Q rfl).trans (Qk (call:=zc (z6 s)) (lp:=zi (z6 s)) a b Q)
theorem kG {β:Type} (call:z7) (lp:zd) (a b c:AV) (Q:z3) (k:PK β):z5 call lp qo [(0,.v a),(3,.v b),(4,.v c)] [] Q k=(
 bnP (z9 .sub c (.int .i64 1)) fun d => 
 k .normal [(0,.v a),(3,.v b),(4,.v d)] [] Q):=by kernel_rfl
theorem kH {β:Type} (call:z7) (lp:zd) (a b c:AV) (Q:z3) (k:PK β):z5 call lp zP [(0,.v a),(3,.v b),(4,.v c)] [] Q k=(
 bnP (z9 .gtr c (.int .i64 0)) fun f => 
 zw f (fun _=>bnX (bnX (bnS (call 13 [a,.int .i64 7] Q) fun g h => 
 bnP (z9 .add (.int .i64 2) (frz g)) fun i => 
 bnS (call 35 [b,i] h) fun d e => 
 bnP (xf (frz d) 0) fun j => 
 bnP (xf (frz d) 1) fun l => 
 zw l (fun _=>some (.normal,[(0,.v a),(3,.v j),(4,.v c)],[],e))
 (fun _=>some (.normal,[(0,.v a),(3,.v b),(4,.v c)],[],e)))
 (kx 1 j7))
 (goC (z5 call lp qo) k))
 (fun _=>k (.exit 0) [(3,.v b)] [] Q)):=by kernel_rfl
noncomputable def qt (s:zg) (a b c:AV) (Q:z3):Option ji:=zi (z6 s) zP [(0,.v a),(3,.v b),(4,.v c)] [] Q
theorem xj (s:zg) (a b c:AV) (Q:z3):zi (z6 s) zP [(0,.v a),(3,.v b),(4,.v c)] [] Q=qt s a b c Q:=rfl
theorem jx (s:zg) (a b c:AV) (Q:z3):qt s a b c Q=z5 (zc (z6 s)) (zi (z6 s)) zP [(0,.v a),(3,.v b),(4,.v c)] [] Q (goX (fun τ ω Q=>zi (z6 s) zP τ ω Q) j7):=yN
abbrev Zw (a:AV) (Q:z3):Option ji:=some (.exit 0,[(3,.v a)],[],Q)
theorem Yj {β:Type} (call:z7) (lp:zd) (a:AV) (Q:z3) (k:PK β):z5 call lp qp [(3,.v a)] [] Q k=(
 k .ret [(2,.v a),(24,.v a),(3,.v a)] [] Q):=by kernel_rfl
theorem Xr {call:z7} {lp:zd} (a:AV) (Q:z3):z5 call lp vJ [(0,.v a)] [] Q (zp [.tmp 2] [.f 1])=(
 bnS (call 13 [a,.int .i64 4] Q) fun b c => 
 bnX (lp zP [(0,.v a),(3,.v (.fz 1 ([.int .i64 1]:List AV))),(4,.v (frz b))] [] c) (kx 0 (goC (z5 call lp qp) (zp [.tmp 2] [.f 1])))):=by kernel_rfl
def Xs {s:zg} (hs:s.lookup 21=none) (a:AV) (Q:z3):=(zm (E:=z6 s) (f:=21) (fn:=yF) hs rfl [a] Q rfl).trans (Xr (call:=zc (z6 s)) (lp:=zi (z6 s)) a Q)
theorem z2R {β:Type} (call:z7) (lp:zd) (a x y z A B C D E F G H I J:AV) (Q:z3) (k:PK β):z5 call lp wV [(6,.lp 6 0),(8,.v a)] [(6,.cells [x,y,z,A,B,C,D,E,F,G,H,I,J])] Q k=(
 bnP (zA a) fun c => 
 bnP (zn 0 c) fun d => 
 bnC 13 (xQ Q 13 d) fun e f g h i j l m n o p q r => 
 bnP (zA a) fun u => 
 bnP (zn 13 u) fun w => 
 bnP (ldQ Q w) fun b => 
 bnC 13 (stC 13 (.agg [e,f,g,h,i,j,l,m,n,o,p,q,r])) fun K L M N O P R S T U V W X => 
 bnS (z7d Q 10 b) fun Y Z =>
 k .ret [(7,.v Y),(7,.v b),(122,.v b),(121,.v w),(120,.v u),(119,.v a),(118,.v (.agg [e,f,g,h,i,j,l,m,n,o,p,q,r])),(117,.v d),(116,.v c),(115,.v a),(6,.lp 6 0),(8,.v a)] [(6,.cells [K,L,M,N,O,P,R,S,T,U,V,W,X])] Z):=by kernel_rfl
theorem z2S {β:Type} (call:z7) (lp:zd) (C a b q r u w x y z A B c d e f g h i j l m n o p:AV) (Q:z3) (k:PK β):z5 call lp wW [(2,.v C),(4,.lp 4 0),(6,.lp 6 0),(8,.v a)] [(4,.cells [b,q,r,u,w,x,y,z,A,B]),(6,.cells [c,d,e,f,g,h,i,j,l,m,n,o,p])] Q k=(
 bnX (bnX (bnP (z9 .eql b (.int .i64 1)) fun D => 
 zw D (fun _=>bnS (call 49 [a,.agg [b,q,r,u,w,x,y,z,A,B],C] Q) fun Z E => 
 some (.normal,[(6,.lp 6 0),(8,.v a)],[(6,.cells [c,d,e,f,g,h,i,j,l,m,n,o,p])],E))
 (fun _=>bnP (z9 .eql b (.int .i64 2)) fun F => 
 zw F (fun _=>bnS (call 50 [a,.agg [b,q,r,u,w,x,y,z,A,B]] Q) fun aa G => 
 some (.normal,[(6,.lp 6 0),(8,.v a)],[(6,.cells [c,d,e,f,g,h,i,j,l,m,n,o,p])],G))
 (fun _=>bnP (z9 .eql b (.int .i64 3)) fun H => 
 zw H (fun _=>bnS (call 51 [a,.agg [b,q,r,u,w,x,y,z,A,B]] Q) fun ab I => 
 some (.normal,[(6,.lp 6 0),(8,.v a)],[(6,.cells [c,d,e,f,g,h,i,j,l,m,n,o,p])],I))
 (fun _=>bnP (z9 .eql b (.int .i64 4)) fun J => 
 zw J (fun _=>bnS (call 52 [a,.agg [b,q,r,u,w,x,y,z,A,B]] Q) fun ac K => 
 some (.normal,[(6,.lp 6 0),(8,.v a)],[(6,.cells [c,d,e,f,g,h,i,j,l,m,n,o,p])],K))
 (fun _=>bnP (z9 .eql b (.int .i64 5)) fun L => 
 zw L (fun _=>bnS (call 53 [a,.agg [b,q,r,u,w,x,y,z,A,B]] Q) fun ad M => 
 some (.normal,[(6,.lp 6 0),(8,.v a)],[(6,.cells [c,d,e,f,g,h,i,j,l,m,n,o,p])],M))
 (fun _=>bnP (z9 .eql b (.int .i64 6)) fun N => 
 zw N (fun _=>bnP (zA a) fun O => 
 bnP (zn 0 O) fun P => 
 bnP (zn 12 P) fun R => 
 bnP (ldQ Q R) fun S => 
 bnS (call 54 [S,q] Q) fun T U => 
 bnP (zA a) fun V => 
 bnP (zn 0 V) fun W => 
 bnP (zn 12 W) fun X => 
 bnS (stA U 1 X (frz T)) fun _ Y => 
 some (.normal,[(6,.lp 6 0),(8,.v a)],[(6,.cells [c,d,e,f,g,h,i,j,l,m,n,o,p])],Y))
 (fun _=>some (.normal,[(6,.lp 6 0),(8,.v a)],[(6,.cells [c,d,e,f,g,h,i,j,l,m,n,o,p])],Q))))))))
 (kx 0 j7))
 (goC (z5 call lp wV) k)):=by kernel_rfl
theorem z5p {call:z7} {lp:zd} (l m o p q r u w x y z A B C D E F G H I J K L j:AV) (Q:z3):z5 call lp z0R [(0,.v (.agg [l,m,o,p,q,r,u,w,x,y,z,A,B])),(1,.v (.agg [C,D,E,F,G,H,I,J,K,L])),(2,.v j)] [] Q (zp [.cell 6 (some 13),.tmp 7] [.n,.f 10])=(
 bnC 13 (stC 13 (.agg [l,m,o,p,q,r,u,w,x,y,z,A,B])) fun W X Y Z aa ab ac ad ae af ag ah ai => 
 bnC 10 (stC 10 (.agg [C,D,E,F,G,H,I,J,K,L])) fun M h N i O P R S T U => 
 bnS (call 38 [.agg [W,X,Y,Z,aa,ab,ac,ad,ae,af,ag,ah,ai]] Q) fun a V => 
 bnP (zA (frz a)) fun aj => 
 bnP (zn 0 aj) fun ak => 
 bnP (zn 12 ak) fun al => 
 bnP (ldQ V al) fun ao => 
 bnS (call 48 [ao,h,i] V) fun b c => 
 bnP (gdQ (frz b) false (some h)) fun ap => 
 bnP (gdQ (frz b) false (some (frz a))) fun aq => 
 bnP (gdQ (frz b) false (zA aq)) fun ar => 
 bnP (gdQ (frz b) false (zn 0 ar)) fun au => 
 bnP (gdQ (frz b) false (zn 3 au)) fun av => 
 bnP (gdQ (frz b) false (ldQ c av)) fun aw => 
 bnP (gdQ (frz b) false (z9 .eql ap aw)) fun ax => 
 bnP (gdQ (frz b) false (some ax)) fun d => 
 bnP (gdQ d true (some i)) fun ay => 
 bnP (gdQ d true (some (frz a))) fun az => 
 bnP (gdQ d true (zA az)) fun a0 => 
 bnP (gdQ d true (zn 0 a0)) fun a1 => 
 bnP (gdQ d true (zn 4 a1)) fun a2 => 
 bnP (gdQ d true (ldQ c a2)) fun a3 => 
 bnP (gdQ d true (z9 .lss ay a3)) fun a4 => 
 bnP (gdQ (frz b) false (zF d a4 (.bool false))) fun a5 => 
 bnP (zF (frz b) (.bool true) a5) fun a6 => 
 zw a6 (fun _=>bnP (zA (frz a)) fun a7 => 
 bnP (zn 0 a7) fun a8 => 
 bnC 13 (xQ c 13 a8) fun a9 ba bb bc bd bf bg bh bi bj bk bl bm => 
 bnC 13 (stC 13 (.agg [a9,ba,bb,bc,bd,bf,bg,bh,bi,bj,bk,bl,bm])) fun bn bo bp bq br bs bt bu bv bw bx bz b0 => 
 some (.tup [.agg [bn,bo,bp,bq,br,bs,bt,bu,bv,bw,bx,bz,b0],.fz 10 []],c))
 (fun _=>bnX (bnP (zA (frz a)) fun b1 => 
 bnP (zn 0 b1) fun b2 => 
 bnP (zn 3 b2) fun b3 => 
 bnP (ldQ c b3) fun b4 => 
 bnP (z9 .neq b4 (.int .i64 0)) fun e => 
 bnP (gdQ e true (some h)) fun b5 => 
 bnP (gdQ e true (some (frz a))) fun b6 => 
 bnP (gdQ e true (zA b6)) fun b7 => 
 bnP (gdQ e true (zn 0 b7)) fun b8 => 
 bnP (gdQ e true (zn 3 b8)) fun b9 => 
 bnP (gdQ e true (ldQ c b9)) fun ca => 
 bnP (gdQ e true (z9 .eql b5 ca)) fun cb => 
 bnP (zF e cb (.bool false)) fun g => 
 bnP (gdQ g true (some i)) fun cc => 
 bnP (gdQ g true (some (frz a))) fun cd => 
 bnP (gdQ g true (zA cd)) fun ce => 
 bnP (gdQ g true (zn 0 ce)) fun cf => 
 bnP (gdQ g true (zn 4 cf)) fun cg => 
 bnP (gdQ g true (ldQ c cg)) fun ch => 
 bnP (gdQ g true (z9 .gtr cc ch)) fun ci => 
 bnP (zF g ci (.bool false)) fun cj => 
 zw cj (fun _=>bnS (call 40 [(frz a),.int .i64 0] c) fun cl ck => 
 some (.normal,[(2,.v j),(4,.lp 4 0),(6,.lp 6 0),(8,.v (frz a))],[(4,.cells [M,h,N,i,O,P,R,S,T,U]),(6,.cells [.int .i64 0,.int .i64 0,.int .i64 0,.int .i64 0,.int .i64 0,.int .i64 0,.nils,.int .i64 0,.int .i64 0,.int .i64 0,.int .i64 0,.int .i64 0,.nils])],ck))
 (fun _=>some (.normal,[(2,.v j),(4,.lp 4 0),(6,.lp 6 0),(8,.v (frz a))],[(4,.cells [M,h,N,i,O,P,R,S,T,U]),(6,.cells [.int .i64 0,.int .i64 0,.int .i64 0,.int .i64 0,.int .i64 0,.int .i64 0,.nils,.int .i64 0,.int .i64 0,.int .i64 0,.int .i64 0,.int .i64 0,.nils])],c)))
 (goC (z5 call lp wW) (zp [.cell 6 (some 13),.tmp 7] [.n,.f 10])))):=by kernel_rfl
def z5q {s:zg} (hs:s.lookup 22=none) (a b c d e g h i j l m n o p q r u v w x y z A B:AV) (Q:z3):=(zm (E:=z6 s) (f:=22) (fn:=wl) hs rfl [.agg [a,b,c,d,e,g,h,i,j,l,m,n,o],.agg [p,q,r,u,v,w,x,y,z,A],B] Q rfl).trans (z5p (call:=zc (z6 s)) (lp:=zi (z6 s)) a b c d e g h i j l m n o p q r u v w x y z A B Q)
theorem ye {β:Type} (call:z7) (lp:zd) (u w x c d a e f g b h i j l m n O o P y R S T U V W X Y Z aa ab ac ad ae af ag ah ai aj:AV) (Q:z3) (k:PK β):z5 call lp jG [(2,.v u),(3,.lp 3 0),(4,.lp 4 0),(6,.lp 6 0),(10,.v w),(11,.v x)] [(3,.cells [c,d,a,e,f,g,b,h,i,j,l,m,n]),(4,.cells [O,o,P,y,R,S,T,U,V,W]),(6,.cells [X,Y,Z,aa,ab,ac,ad,ae,af,ag,ah,ai,aj])] Q k=(
 bnS (call 26 [.agg [c,d,a,e,f,g,b,h,i,j,l,m,n]] Q) fun ak z => 
 bnP (unA .not (frz ak)) fun r => 
 bnP (gdQ r false (some b)) fun al => 
 bnP (gdQ r false (some o)) fun ao => 
 bnS (gdH r false (call 32 [al,ao] z) z) fun ap A => 
 bnP (zF r (.bool true) (frz ap)) fun p => 
 bnP (gdQ p false (some w)) fun aq => 
 bnP (gdQ p false (unA .not aq)) fun ar => 
 bnP (gdQ p false (some ar)) fun q => 
 bnP (gdQ q true (some n)) fun au => 
 bnP (gdQ q true (km au)) fun av => 
 bnP (gdQ q true (some x)) fun aw => 
 bnP (gdQ q true (z9 .geq av aw)) fun ax => 
 bnP (gdQ p false (zF q ax (.bool false))) fun ay => 
 bnP (zF p (.bool true) ay) fun az => 
 zw az (fun _=>bnS (call 45 [.agg [c,d,a,e,f,g,b,h,i,j,l,m,n],.int .i64 3,o] A) fun B a0 => 
 pinB (wE 10 (frz B)) <| 
 bnC 13 (stC 13 (.agg [c,d,a,e,f,g,b,h,i,j,l,m,n])) fun a1 a2 a3 a4 a5 a6 a7 a8 a9 ba bb bc bd => 
 k .ret [(6,.lp 6 0),(7,.ls 7)] [(6,.cells [a1,a2,a3,a4,a5,a6,a7,a8,a9,ba,bb,bc,bd]),(7,.own 10 ([(frz B)]:List AV))] a0)
 (fun _=>bnC 3 (vg [.int .i64 0,.int .i64 0,.int .i64 0] [(0,1,o),(1,1,y),(2,1,a)]) fun bf bg bh => 
 bnS (call 56 [n,.agg [bf,bg,bh]] A) fun C bi => 
 bnP (xf (frz C) 0) fun bj => 
 bnP (xf (frz C) 1) fun b0 => 
 bnC 1 (stC 1 bj) fun D => 
 bnS (call 46 [.agg [c,d,a,e,f,g,b,h,i,j,l,m,D],.int .i64 2,o] bi) fun bk bl => 
 bnC 10 (stC 10 (frz bk)) fun E F G H I J K b1 L M => 
 bnC 1 (stC 1 u) fun N => 
 pinB (wE 10 (.agg [E,F,G,H,I,J,K,N,L,M])) <| 
 bnC 13 (stC 13 (.agg [c,d,a,e,f,g,b,h,i,j,l,m,D])) fun bm bn bo bp bq br bs bt bu bv bw bx bz => 
 k .ret [(6,.lp 6 0),(7,.ls 7)] [(6,.cells [bm,bn,bo,bp,bq,br,bs,bt,bu,bv,bw,bx,bz]),(7,.own 10 ([.agg [E,F,G,H,I,J,K,N,L,M]]:List AV))] bl)):=by kernel_rfl
theorem jJ {β:Type} (call:z7) (lp:zd) (E a b c d e f g h i j l m n o p q r u w x y z A B C D:AV) (Q:z3) (k:PK β):z5 call lp jH [(3,.lp 3 0),(6,.lp 6 0),(8,.v E)] [(3,.cells [a,b,c,d,e,f,g,h,i,j,l,m,n]),(6,.cells [o,p,q,r,u,w,x,y,z,A,B,C,D])] Q k=(
 zw E (fun _=>bnS (call 44 [.agg [a,b,c,d,e,f,g,h,i,j,l,m,n],.int .i64 0] Q) fun F G => 
 bnC 13 (stC 13 (frz F)) fun H I J K L M N O P R S T U => 
 k .normal [(3,.lp 3 0),(6,.lp 6 0)] [(3,.cells [H,I,J,K,L,M,N,O,P,R,S,T,U]),(6,.cells [o,p,q,r,u,w,x,y,z,A,B,C,D])] G)
 (fun _=>k .normal [(3,.lp 3 0),(6,.lp 6 0)] [(3,.cells [a,b,c,d,e,f,g,h,i,j,l,m,n]),(6,.cells [o,p,q,r,u,w,x,y,z,A,B,C,D])] Q)):=by kernel_rfl
theorem zX {β:Type} (call:z7) (lp:zd) (a b c d e f g h i j l m n o p q r u w x y z A B C D:AV) (Q:z3) (k:PK β):z5 call lp jI [(3,.lp 3 0),(6,.lp 6 0)] [(3,.cells [a,b,c,d,e,f,g,h,i,j,l,m,n]),(6,.cells [o,p,q,r,u,w,x,y,z,A,B,C,D])] Q k=(
 bnC 13 (stC 13 (.agg [a,b,c,d,e,f,g,h,i,j,l,m,n])) fun E F G H I J K L M N O P R => 
 k .ret [(7,.v .nils),(245,.v (.agg [a,b,c,d,e,f,g,h,i,j,l,m,n])),(3,.lp 3 0),(6,.lp 6 0)] [(6,.cells [E,F,G,H,I,J,K,L,M,N,O,P,R]),(3,.cells [a,b,c,d,e,f,g,h,i,j,l,m,n])] Q):=by kernel_rfl
theorem QS {β:Type} (call:z7) (lp:zd) (R b f a c g m n l h e i j d p o K I J G H L M N q r u w x y z A B C D E F:AV) (Q:z3) (k:PK β):z5 call lp qk [(2,.v R),(3,.lp 3 0),(4,.lp 4 0),(6,.lp 6 0)] [(3,.cells [b,f,a,c,g,m,n,l,h,e,i,j,d]),(4,.cells [p,o,K,I,J,G,H,L,M,N]),(6,.cells [q,r,u,w,x,y,z,A,B,C,D,E,F])] Q k=(
 bnP (z9 .neq c (.int .i64 0)) fun O => 
 bnP (gdQ O true (some o)) fun ai => 
 bnP (gdQ O true (some c)) fun aj => 
 bnP (gdQ O true (z9 .eql ai aj)) fun ak => 
 bnP (zF O ak (.bool false)) fun S => 
 bnX (bnX (bnP (z9 .eql p (.int .i64 1)) fun al => 
 zw al (fun _=>bnS (call 34 [d,o] Q) fun T U => 
 bnP (xf (frz T) 0) fun ao => 
 bnP (xf (frz T) 1) fun V => 
 bnC 3 (stC 3 ao) fun df dg dh => 
 bnX (bnP (z9 .eql b (.int .i64 1)) fun ap => 
 zw ap (fun _=>some (.normal,[(2,.v R),(3,.lp 3 0),(4,.lp 4 0),(6,.lp 6 0),(10,.v V),(11,.v (.int .i64 8))],[(3,.cells [b,f,a,c,g,m,n,l,h,e,i,j,d]),(4,.cells [p,o,K,I,J,G,H,L,M,N]),(6,.cells [q,r,u,w,x,y,z,A,B,C,D,E,F])],U))
 (fun _=>some (.normal,[(2,.v R),(3,.lp 3 0),(4,.lp 4 0),(6,.lp 6 0),(10,.v V),(11,.v (.int .i64 3))],[(3,.cells [b,f,a,c,g,m,n,l,h,e,i,j,d]),(4,.cells [p,o,K,I,J,G,H,L,M,N]),(6,.cells [q,r,u,w,x,y,z,A,B,C,D,E,F])],U)))
 (goC (z5 call lp jG) (QZ [] [] [3,6] [(3,3),(6,6)] j7)))
 (fun _=>bnP (z9 .eql p (.int .i64 2)) fun aq => 
 zw aq (fun _=>bnS (call 57 [.agg [b,f,a,c,g,m,n,l,h,e,i,j,d],.agg [p,o,K,I,J,G,H,L,M,N]] Q) fun W ar => 
 bnP (xf (frz W) 0) fun au => 
 bnP (xf (frz W) 1) fun av => 
 bnC 13 (stC 13 au) fun aw ax ay az a0 a1 a2 a3 a4 a5 a6 a7 a8 => 
 some (.ret,[(6,.lp 6 0),(7,.v av)],[(6,.cells [aw,ax,ay,az,a0,a1,a2,a3,a4,a5,a6,a7,a8])],ar))
 (fun _=>bnP (z9 .eql p (.int .i64 3)) fun a9 => 
 zw a9 (fun _=>bnX (bnP (z9 .neq e (.int .i64 0)) fun P => 
 bnP (gdQ P true (some e)) fun ba => 
 bnP (gdQ P true (some o)) fun bb => 
 bnP (gdQ P true (z9 .eql ba bb)) fun bc => 
 bnP (zF P bc (.bool false)) fun bd => 
 zw bd (fun _=>bnP (z9 .add j (.int .i64 1)) fun bf => 
 bnC 1 (stC 1 bf) fun bg => 
 some (.normal,[(3,.lp 3 0),(6,.lp 6 0),(8,.v S)],[(3,.cells [b,f,a,c,g,m,n,l,h,.int .i64 0,i,bg,d]),(6,.cells [q,r,u,w,x,y,z,A,B,C,D,E,F])],Q))
 (fun _=>some (.normal,[(3,.lp 3 0),(6,.lp 6 0),(8,.v S)],[(3,.cells [b,f,a,c,g,m,n,l,h,e,i,j,d]),(6,.cells [q,r,u,w,x,y,z,A,B,C,D,E,F])],Q)))
 (goC (z5 call lp jH) (QZ [] [] [3,6] [(3,3),(6,6)] j7)))
 (fun _=>bnP (z9 .eql p (.int .i64 4)) fun bh => 
 zw bh (fun _=>bnS (call 34 [d,o] Q) fun X Y => 
 bnP (xf (frz X) 0) fun bi => 
 bnP (xf (frz X) 1) fun bj => 
 bnC 3 (stC 3 bi) fun di dj dk => 
 bnP (unA .not bj) fun bk => 
 zw bk (fun _=>bnS (call 45 [.agg [b,f,a,c,g,m,n,l,h,e,i,j,d],.int .i64 3,o] Y) fun Z bl => 
 pinB (wE 10 (frz Z)) <| 
 bnC 13 (stC 13 (.agg [b,f,a,c,g,m,n,l,h,e,i,j,d])) fun bm bn bo bp bq br bs bt bu bv bw bx bz => 
 some (.ret,[(6,.lp 6 0),(7,.ls 7)],[(6,.cells [bm,bn,bo,bp,bq,br,bs,bt,bu,bv,bw,bx,bz]),(7,.own 10 ([(frz Z)]:List AV))],bl))
 (fun _=>bnC 3 (vg [.int .i64 0,.int .i64 0,.int .i64 0] [(0,1,o),(1,1,I),(2,1,a)]) fun b0 b1 b2 => 
 bnS (call 56 [d,.agg [b0,b1,b2]] Y) fun aa b3 => 
 bnP (xf (frz aa) 0) fun b4 => 
 bnP (xf (frz aa) 1) fun dl => 
 bnC 1 (stC 1 b4) fun b5 => 
 some (.normal,[(3,.lp 3 0),(6,.lp 6 0)],[(3,.cells [b,f,a,c,g,m,n,l,h,e,i,j,b5]),(6,.cells [q,r,u,w,x,y,z,A,B,C,D,E,F])],b3)))
 (fun _=>bnP (z9 .eql p (.int .i64 5)) fun b6 => 
 zw b6 (fun _=>bnP (unA .not S) fun b7 => 
 zw b7 (fun _=>bnS (call 45 [.agg [b,f,a,c,g,m,n,l,h,e,i,j,d],.int .i64 6,o] Q) fun ab b8 => 
 pinB (wE 10 (frz ab)) <| 
 bnC 13 (stC 13 (.agg [b,f,a,c,g,m,n,l,h,e,i,j,d])) fun b9 ca cb cc cd ce cf cg ch ci cj ck cl => 
 some (.ret,[(6,.lp 6 0),(7,.ls 7)],[(6,.cells [b9,ca,cb,cc,cd,ce,cf,cg,ch,ci,cj,ck,cl]),(7,.own 10 ([(frz ab)]:List AV))],b8))
 (fun _=>bnS (call 35 [H,b] Q) fun ac ad => 
 bnP (xf (frz ac) 0) fun cm => 
 bnP (xf (frz ac) 1) fun cn => 
 bnP (unA .not cn) fun co => 
 zw co (fun _=>bnS (call 44 [.agg [b,f,a,c,g,m,n,l,h,e,i,j,d],.int .i64 1] ad) fun cp cq => 
 bnS (call 45 [.agg [b,f,a,c,g,m,n,l,h,e,i,j,d],.int .i64 6,o] cq) fun ae cr => 
 pinB (wE 10 (frz ae)) <| 
 bnC 13 (stC 13 (frz cp)) fun cs ct cu cv cw cx cy cz c0 c1 c2 c3 c4 => 
 some (.ret,[(6,.lp 6 0),(7,.ls 7)],[(6,.cells [cs,ct,cu,cv,cw,cx,cy,cz,c0,c1,c2,c3,c4]),(7,.own 10 ([(frz ae)]:List AV))],cr))
 (fun _=>bnS (call 58 [H] ad) fun c5 af => 
 bnC 1 (stC 1 cm) fun ag => 
 bnC 1 (stC 1 (frz c5)) fun ah => 
 bnP (z9 .sub a G) fun c6 => 
 bnP (z9 .gtr c6 h) fun c7 => 
 zw c7 (fun _=>bnP (z9 .sub a G) fun c8 => 
 bnC 1 (stC 1 c8) fun c9 => 
 bnC 1 (stC 1 J) fun da => 
 some (.normal,[(3,.lp 3 0),(6,.lp 6 0)],[(3,.cells [b,f,a,c,g,ah,ag,da,c9,e,i,j,d]),(6,.cells [q,r,u,w,x,y,z,A,B,C,D,E,F])],af))
 (fun _=>some (.normal,[(3,.lp 3 0),(6,.lp 6 0)],[(3,.cells [b,f,a,c,g,ah,ag,l,h,e,i,j,d]),(6,.cells [q,r,u,w,x,y,z,A,B,C,D,E,F])],af)))))
 (fun _=>bnP (z9 .eql p (.int .i64 6)) fun db => 
 zw db (fun _=>bnS (call 59 [d,o] Q) fun dc dd => 
 bnC 1 (stC 1 (frz dc)) fun de => 
 some (.normal,[(3,.lp 3 0),(6,.lp 6 0)],[(3,.cells [b,f,a,c,g,m,n,l,h,e,i,j,de]),(6,.cells [q,r,u,w,x,y,z,A,B,C,D,E,F])],dd))
 (fun _=>some (.normal,[(3,.lp 3 0),(6,.lp 6 0)],[(3,.cells [b,f,a,c,g,m,n,l,h,e,i,j,d]),(6,.cells [q,r,u,w,x,y,z,A,B,C,D,E,F])],Q))))))))
 (kx 0 j7))
 (goC (z5 call lp jI) k)):=by kernel_rfl
theorem Kc {call:z7} {lp:zd} (A B C D E F G H I J K L M N O P R S T U V W X j:AV) (Q:z3):z5 call lp Zz [(0,.v (.agg [A,B,C,D,E,F,G,H,I,J,K,L,M])),(1,.v (.agg [N,O,P,R,S,T,U,V,W,X])),(2,.v j)] [] Q (zp [.cell 6 (some 13),.tmp 7] [.n,.f 10])=(
 bnC 13 (stC 13 (.agg [A,B,C,D,E,F,G,H,I,J,K,L,M])) fun l m o b c p q r u w x y g => 
 bnC 10 (stC 10 (.agg [N,O,P,R,S,T,U,V,W,X])) fun Y d Z e aa ab ac ad ae af => 
 bnS (call 55 [g,d,e] Q) fun a z => 
 bnP (gdQ (frz a) false (some d)) fun ag => 
 bnP (gdQ (frz a) false (some b)) fun ah => 
 bnP (gdQ (frz a) false (z9 .eql ag ah)) fun ai => 
 bnP (gdQ (frz a) false (some ai)) fun h => 
 bnP (gdQ h true (some e)) fun aj => 
 bnP (gdQ h true (some c)) fun ak => 
 bnP (gdQ h true (z9 .lss aj ak)) fun al => 
 bnP (gdQ (frz a) false (zF h al (.bool false))) fun ao => 
 bnP (zF (frz a) (.bool true) ao) fun ap => 
 zw ap (fun _=>bnC 13 (stC 13 (.agg [l,m,o,b,c,p,q,r,u,w,x,y,g])) fun aq ar au av aw ax ay az a0 a1 a2 a3 a4 => 
 some (.tup [.agg [aq,ar,au,av,aw,ax,ay,az,a0,a1,a2,a3,a4],.fz 10 []],z))
 (fun _=>bnX (bnP (z9 .eql d b) fun i => 
 bnP (gdQ i true (some e)) fun a5 => 
 bnP (gdQ i true (some c)) fun a6 => 
 bnP (gdQ i true (z9 .gtr a5 a6)) fun a7 => 
 bnP (zF i a7 (.bool false)) fun a8 => 
 zw a8 (fun _=>bnS (call 44 [.agg [l,m,o,b,c,p,q,r,u,w,x,y,g],.int .i64 0] z) fun a9 ba => 
 bnC 13 (stC 13 (frz a9)) fun bb bc bd bf bg bh bi bj bk bl bm bn bo => 
 some (.normal,[(2,.v j),(3,.lp 3 0),(4,.lp 4 0),(6,.lp 6 0)],[(3,.cells [bb,bc,bd,bf,bg,bh,bi,bj,bk,bl,bm,bn,bo]),(4,.cells [Y,d,Z,e,aa,ab,ac,ad,ae,af]),(6,.cells [.int .i64 0,.int .i64 0,.int .i64 0,.int .i64 0,.int .i64 0,.int .i64 0,.nils,.int .i64 0,.int .i64 0,.int .i64 0,.int .i64 0,.int .i64 0,.nils])],ba))
 (fun _=>some (.normal,[(2,.v j),(3,.lp 3 0),(4,.lp 4 0),(6,.lp 6 0)],[(3,.cells [l,m,o,b,c,p,q,r,u,w,x,y,g]),(4,.cells [Y,d,Z,e,aa,ab,ac,ad,ae,af]),(6,.cells [.int .i64 0,.int .i64 0,.int .i64 0,.int .i64 0,.int .i64 0,.int .i64 0,.nils,.int .i64 0,.int .i64 0,.int .i64 0,.int .i64 0,.int .i64 0,.nils])],z)))
 (goC (z5 call lp qk) (zp [.cell 6 (some 13),.tmp 7] [.n,.f 10])))):=by kernel_rfl
def Ke {s:zg} (hs:s.lookup 23=none) (a b c d e g h i j l m n o p q r u v w x y z A B:AV) (Q:z3):=(zm (E:=z6 s) (f:=23) (fn:=xw) hs rfl [.agg [a,b,c,d,e,g,h,i,j,l,m,n,o],.agg [p,q,r,u,v,w,x,y,z,A],B] Q rfl).trans (Kc (call:=zc (z6 s)) (lp:=zi (z6 s)) a b c d e g h i j l m n o p q r u v w x y z A B Q)
theorem z5r {call:z7} {lp:zd} (c d e f g h i j l m o p q:AV) (Q:z3):z5 call lp z0S [(0,.v (.agg [c,d,e,f,g,h,i,j,l,m,o,p,q]))] [] Q (zp [.tmp 2] [.n])=(
 bnC 13 (stC 13 (.agg [c,d,e,f,g,h,i,j,l,m,o,p,q])) fun r H u w I J K L x M N O P => 
 bnP (z9 .eql r (.int .i64 1)) fun a => 
 bnP (gdQ a false (some w)) fun y => 
 bnP (gdQ a false (z9 .neq y (.int .i64 0))) fun z => 
 bnP (gdQ a false (some z)) fun b => 
 bnP (gdQ b true (some u)) fun A => 
 bnP (gdQ b true (some x)) fun B => 
 bnP (gdQ b true (z9 .sub A B)) fun C => 
 bnP (gdQ b true (z9 .leq C (.int .i64 20))) fun D => 
 bnP (gdQ a false (zF b D (.bool false))) fun E => 
 bnP (zF a (.bool true) E) fun F => 
 bnP (rcv false .n F) fun G=>some (G,Q)):=by kernel_rfl
def z5s {s:zg} (hs:s.lookup 25=none) (a b c d e g h i j l m n o:AV) (Q:z3):=(zm (E:=z6 s) (f:=25) (fn:=wm) hs rfl [.agg [a,b,c,d,e,g,h,i,j,l,m,n,o]] Q rfl).trans (z5r (call:=zc (z6 s)) (lp:=zi (z6 s)) a b c d e g h i j l m n o Q)
theorem Kf {call:z7} {lp:zd} (c d e f g h i j l m o p q:AV) (Q:z3):z5 call lp ZA [(0,.v (.agg [c,d,e,f,g,h,i,j,l,m,o,p,q]))] [] Q (zp [.tmp 2] [.n])=(
 bnC 13 (stC 13 (.agg [c,d,e,f,g,h,i,j,l,m,o,p,q])) fun r H u w I J K L x M N O P => 
 bnP (z9 .eql r (.int .i64 1)) fun a => 
 bnP (gdQ a false (some w)) fun y => 
 bnP (gdQ a false (z9 .neq y (.int .i64 0))) fun z => 
 bnP (gdQ a false (some z)) fun b => 
 bnP (gdQ b true (some u)) fun A => 
 bnP (gdQ b true (some x)) fun B => 
 bnP (gdQ b true (z9 .sub A B)) fun C => 
 bnP (gdQ b true (z9 .leq C (.int .i64 20))) fun D => 
 bnP (gdQ a false (zF b D (.bool false))) fun E => 
 bnP (zF a (.bool true) E) fun F => 
 bnP (rcv false .n F) fun G=>some (G,Q)):=by kernel_rfl
def Kg {s:zg} (hs:s.lookup 26=none) (a b c d e g h i j l m n o:AV) (Q:z3):=(zm (E:=z6 s) (f:=26) (fn:=xx) hs rfl [.agg [a,b,c,d,e,g,h,i,j,l,m,n,o]] Q rfl).trans (Kf (call:=zc (z6 s)) (lp:=zi (z6 s)) a b c d e g h i j l m n o Q)
theorem wA {β:Type} (call:z7) (lp:zd) (b c:AV) (Q:z3) (k:PK β):z5 call lp y8 [(0,.v b),(3,.v c)] [] Q k=(
 bnP (km b) fun f => 
 bnP (z9 .lss c f) fun g => 
 zw g (fun _=>bnP (elQ 1 b c) fun h => 
 bnP ((AV.cells h)[0]?) fun i => 
 bnP (z9 .lss i (.int .i64 1)) fun d => 
 bnP (gdQ d false (some b)) fun j => 
 bnP (gdQ d false (some c)) fun l => 
 bnP (gdQ d false (elQ 1 j l)) fun m => 
 bnP (gdQ d false ((AV.cells m)[0]?)) fun n => 
 bnP (gdQ d false (z9 .gtr n (.int .i64 8))) fun o => 
 bnP (zF d (.bool true) o) fun a => 
 bnP (gdQ a false (some b)) fun p => 
 bnP (gdQ a false (some c)) fun q => 
 bnP (gdQ a false (QW 1 p none (some q))) fun r => 
 bnP (gdQ a false (some b)) fun u => 
 bnP (gdQ a false (some c)) fun w => 
 bnP (gdQ a false (elQ 1 u w)) fun x => 
 bnP (gdQ a false ((AV.cells x)[0]?)) fun y => 
 bnS (gdH a false (call 32 [r,y] Q) Q) fun z e => 
 bnP (zF a (.bool true) (frz z)) fun A => 
 zw A (fun _=>k .ret [(2,.v (.bool false))] [] e)
 (fun _=>bnP (z9 .add c (.int .i64 1)) fun B => 
 k .normal [(0,.v b),(3,.v B)] [] e))
 (fun _=>k (.exit 0) [] [] Q)):=by kernel_rfl
noncomputable def xN (s:zg) (a b:AV) (Q:z3):Option ji:=zi (z6 s) y8 [(0,.v a),(3,.v b)] [] Q
theorem yV (s:zg) (a b:AV) (Q:z3):zi (z6 s) y8 [(0,.v a),(3,.v b)] [] Q=xN s a b Q:=rfl
theorem kI (s:zg) (a b:AV) (Q:z3):xN s a b Q=z5 (zc (z6 s)) (zi (z6 s)) y8 [(0,.v a),(3,.v b)] [] Q (goX (fun τ ω Q=>zi (z6 s) y8 τ ω Q) j7):=yN
abbrev Yk (Q:z3):Option ji:=some (.exit 0,[],[],Q)
abbrev Y6 (a:AV) (Q:z3):Option ji:=some (.ret,[(2,.v a)],[],Q)
theorem Qm {β:Type} (call:z7) (lp:zd) (Q:z3) (k:PK β):z5 call lp jo [] [] Q k=(
 k .ret [(2,.v (.bool true))] [] Q):=by kernel_rfl
theorem Jm {call:z7} {lp:zd} (a:AV) (Q:z3):z5 call lp Z9 [(0,.v a)] [] Q (zp [.tmp 2] [.n])=(
 bnP (km a) fun d => 
 bnP (z9 .lss d (.int .i64 1)) fun c => 
 bnP (gdQ c false (some a)) fun e => 
 bnP (gdQ c false (km e)) fun f => 
 bnP (gdQ c false (z9 .gtr f (.int .i64 10))) fun g => 
 bnP (zF c (.bool true) g) fun b => 
 bnP (gdQ b false (some a)) fun h => 
 bnP (gdQ b false (elQ 1 h (.int .i64 0))) fun i => 
 bnP (gdQ b false ((AV.cells i)[0]?)) fun j => 
 bnP (gdQ b false (z9 .neq j (.int .i64 1))) fun l => 
 bnP (zF b (.bool true) l) fun m => 
 zw m (fun _=>some (.bool false,Q))
 (fun _=>bnX (lp y8 [(0,.v a),(3,.v (.int .i64 0))] [] Q) (kx 0 (goC (z5 call lp jo) (zp [.tmp 2] [.n]))))):=by kernel_rfl
def Jn {s:zg} (hs:s.lookup 29=none) (a:AV) (Q:z3):=(zm (E:=z6 s) (f:=29) (fn:=xh) hs rfl [a] Q rfl).trans (Jm (call:=zc (z6 s)) (lp:=zi (z6 s)) a Q)
theorem Y7 {β:Type} (call:z7) (lp:zd) (a c b:AV) (Q:z3) (k:PK β):z5 call lp yM [(0,.v a),(1,.v c),(5,.v b)] [] Q k=(
 bnP (km a) fun d => 
 bnP (z9 .lss b d) fun e => 
 zw e (fun _=>bnP (elQ 1 a b) fun f => 
 bnP ((AV.cells f)[0]?) fun g => 
 bnP (z9 .eql g c) fun h => 
 zw h (fun _=>k .ret [(4,.v (.bool true))] [] Q)
 (fun _=>bnP (z9 .add b (.int .i64 1)) fun i => 
 k .normal [(0,.v a),(1,.v c),(5,.v i)] [] Q))
 (fun _=>k (.exit 0) [] [] Q)):=by kernel_rfl
noncomputable def vy (s:zg) (a b c:AV) (Q:z3):Option ji:=zi (z6 s) yM [(0,.v a),(1,.v b),(5,.v c)] [] Q
theorem jg (s:zg) (a b c:AV) (Q:z3):zi (z6 s) yM [(0,.v a),(1,.v b),(5,.v c)] [] Q=vy s a b c Q:=rfl
theorem wJ (s:zg) (a b c:AV) (Q:z3):vy s a b c Q=z5 (zc (z6 s)) (zi (z6 s)) yM [(0,.v a),(1,.v b),(5,.v c)] [] Q (goX (fun τ ω Q=>zi (z6 s) yM τ ω Q) j7):=yN
abbrev QT (Q:z3):Option ji:=some (.exit 0,[],[],Q)
abbrev Qn (a:AV) (Q:z3):Option ji:=some (.ret,[(4,.v a)],[],Q)
theorem Vi {β:Type} (call:z7) (lp:zd) (Q:z3) (k:PK β):z5 call lp vu [] [] Q k=(
 k .ret [(4,.v (.bool false))] [] Q):=by kernel_rfl
theorem z0d {call:z7} {lp:zd} (a b:AV) (Q:z3):z5 call lp X6 [(0,.v a),(1,.v b)] [] Q (zp [.tmp 4] [.n])=(
 bnX (lp yM [(0,.v a),(1,.v b),(5,.v (.int .i64 0))] [] Q) (kx 0 (goC (z5 call lp vu) (zp [.tmp 4] [.n])))):=by kernel_rfl
def z0e {s:zg} (hs:s.lookup 32=none) (a b:AV) (Q:z3):=(zm (E:=z6 s) (f:=32) (fn:=qA) hs rfl [a,b] Q rfl).trans (z0d (call:=zc (z6 s)) (lp:=zi (z6 s)) a b Q)
theorem qT {β:Type} (call:z7) (lp:zd) (a b c d e f g h i j l m n o p q r u w x y z A B C D E F G H I J K L M N O P R S:AV) (Q:z3) (k:PK β):z5 call lp qK [(0,.v a),(1,.v b),(2,.v c),(6,.lp 6 0),(7,.lp 7 0),(8,.v d),(9,.lp 9 0)] [(6,.cells [e,f,g,h,i,j,l,m,n,o,p,q,r]),(7,.cells [u,w,x,y,z,A,B,C,D,E,F,G,H]),(9,.cells [I,J,K,L,M,N,O,P,R,S])] Q k=(
 bnS (call 23 [.agg [u,w,x,y,z,A,B,C,D,E,F,G,H],.agg [I,J,K,L,M,N,O,P,R,S],.int .i64 1] Q) fun T U => 
 bnP (xf (frz T) 0) fun V => 
 bnP (xf (frz T) 1) fun aj => 
 bnC 13 (stC 13 V) fun W X Y Z aa ab ac ad ae af ag ah ai => 
 k .normal [(0,.v a),(1,.v b),(2,.v c),(6,.lp 6 0),(7,.lp 7 0),(8,.v d)] [(6,.cells [e,f,g,h,i,j,l,m,n,o,p,q,r]),(7,.cells [W,X,Y,Z,aa,ab,ac,ad,ae,af,ag,ah,ai])] U):=by kernel_rfl
theorem v7 {β:Type} (call:z7) (lp:zd) (a b c d e f g h i j l m n o p q r u w x y z A B C D E F G H I J K L M N O P R S:AV) (Q:z3) (k:PK β):z5 call lp qL [(0,.v a),(1,.v b),(2,.v c),(6,.lp 6 0),(7,.lp 7 0),(8,.v d),(10,.lp 10 0)] [(6,.cells [e,f,g,h,i,j,l,m,n,o,p,q,r]),(7,.cells [u,w,x,y,z,A,B,C,D,E,F,G,H]),(10,.cells [I,J,K,L,M,N,O,P,R,S])] Q k=(
 bnS (call 23 [.agg [u,w,x,y,z,A,B,C,D,E,F,G,H],.agg [I,J,K,L,M,N,O,P,R,S],.int .i64 1] Q) fun T U => 
 bnP (xf (frz T) 0) fun V => 
 bnP (xf (frz T) 1) fun aj => 
 bnC 13 (stC 13 V) fun W X Y Z aa ab ac ad ae af ag ah ai => 
 k .normal [(0,.v a),(1,.v b),(2,.v c),(6,.lp 6 0),(7,.lp 7 0),(8,.v d)] [(6,.cells [e,f,g,h,i,j,l,m,n,o,p,q,r]),(7,.cells [W,X,Y,Z,aa,ab,ac,ad,ae,af,ag,ah,ai])] U):=by kernel_rfl
theorem zW {β:Type} (call:z7) (lp:zd) (a b c d e f g h i j l m n o p q r u w x y z A B C D E F G H:AV) (Q:z3) (k:PK β):z5 call lp qM [(0,.v a),(1,.v b),(2,.v c),(6,.lp 6 0),(7,.lp 7 0),(8,.v d)] [(6,.cells [e,f,g,h,i,j,l,m,n,o,p,q,r]),(7,.cells [u,w,x,y,z,A,B,C,D,E,F,G,H])] Q k=(
 bnP (z9 .add d (.int .i64 1)) fun I => 
 k .normal [(0,.v a),(1,.v b),(2,.v c),(6,.lp 6 0),(7,.lp 7 0),(8,.v I)] [(6,.cells [e,f,g,h,i,j,l,m,n,o,p,q,r]),(7,.cells [u,w,x,y,z,A,B,C,D,E,F,G,H])] Q):=by kernel_rfl
theorem qU {β:Type} (call:z7) (lp:zd) (a b f g h i j l m n o p q r u w x y z A d e B C D E c F G H:AV) (Q:z3) (k:PK β):z5 call lp zU [(0,.v a),(1,.v b),(2,.v f),(6,.lp 6 0),(7,.lp 7 0),(8,.v g)] [(6,.cells [h,i,j,l,m,n,o,p,q,r,u,w,x]),(7,.cells [y,z,A,d,e,B,C,D,E,c,F,G,H])] Q k=(
 bnP (z9 .lss g f) fun I => 
 bnP (gdQ I true (some a)) fun T => 
 bnS (gdH I true (call 17 [T] Q) Q) fun U M => 
 bnP (gdQ I true (unA .not (frz U))) fun V => 
 bnP (zF I V (.bool false)) fun W => 
 zw W (fun _=>bnX (bnX (bnS (call 13 [a,.int .i64 4] M) fun L J => 
 bnX (bnP (z9 .eql (frz L) (.int .i64 0)) fun X => 
 zw X (fun _=>bnS (call 19 [.agg [y,z,A,d,e,B,C,D,E,c,F,G,H]] J) fun N Y => 
 bnP (xf (frz N) 0) fun Z => 
 bnP (xf (frz N) 1) fun dt => 
 bnC 13 (stC 13 Z) fun aa ab ac ad ae af ag ah ai aj ak al ao => 
 some (.normal,[(0,.v a),(1,.v b),(2,.v f),(6,.lp 6 0),(7,.lp 7 0),(8,.v g)],[(6,.cells [h,i,j,l,m,n,o,p,q,r,u,w,x]),(7,.cells [aa,ab,ac,ad,ae,af,ag,ah,ai,aj,ak,al,ao])],Y))
 (fun _=>bnP (z9 .eql (frz L) (.int .i64 1)) fun ap => 
 zw ap (fun _=>bnS (call 20 [a,b] J) fun aq O => 
 bnC 10 (stC 10 (frz aq)) fun ar au av aw ax ay az a0 a1 a2 => 
 bnX (bnP (z9 .neq c (.int .i64 0)) fun K => 
 bnP (gdQ K true (some c)) fun a3 => 
 bnP (gdQ K true (some b)) fun a4 => 
 bnP (gdQ K true (z9 .neq a3 a4)) fun a5 => 
 bnP (zF K a5 (.bool false)) fun a6 => 
 zw a6 (fun _=>bnS (call 13 [a,.int .i64 2] O) fun a7 a8 => 
 bnP (z9 .add (.int .i64 1) (frz a7)) fun a9 => 
 bnS (call 13 [a,.int .i64 9] a8) fun ba bb => 
 bnS (call 13 [a,.int .i64 22] bb) fun bc bd => 
 bnS (call 21 [a] bd) fun bf bg => 
 bnP (QW 1 (frz bf) (some (.int .i64 1)) none) fun bh => 
 bnL (Xz [] 1 (.v bh)) fun P => 
 pinB (room 8 ((([.int .i64 1]:List AV):List AV).length+(P:List AV).length)) <| 
 bnS (call 13 [a,.int .i64 4] bg) fun bi bj => 
 bnP (z9 .add (.int .i64 1) (frz bi)) fun bk => 
 bnC 10 (vg [.int .i64 0,.int .i64 0,.int .i64 0,.int .i64 0,.int .i64 0,.int .i64 0,.nils,.int .i64 0,.int .i64 0,.str []] [(0,1,.int .i64 2),(1,1,c),(2,1,b),(3,1,a9),(4,1,(frz ba)),(5,1,(frz bc)),(6,1,(.fz 1 (([.int .i64 1]:List AV)++P))),(7,1,bk)]) fun bl bm bn bo bp bq br bs bt bu => 
 bnC 10 (stC 10 (.agg [bl,bm,bn,bo,bp,bq,br,bs,bt,bu])) fun bv bw bx bz b0 b1 b2 b3 b4 b5 => 
 some (.normal,[(0,.v a),(1,.v b),(2,.v f),(6,.lp 6 0),(7,.lp 7 0),(8,.v g),(9,.lp 9 0)],[(6,.cells [h,i,j,l,m,n,o,p,q,r,u,w,x]),(7,.cells [y,z,A,d,e,B,C,D,E,c,F,G,H]),(9,.cells [bv,bw,bx,bz,b0,b1,b2,b3,b4,b5])],bj))
 (fun _=>some (.normal,[(0,.v a),(1,.v b),(2,.v f),(6,.lp 6 0),(7,.lp 7 0),(8,.v g),(9,.lp 9 0)],[(6,.cells [h,i,j,l,m,n,o,p,q,r,u,w,x]),(7,.cells [y,z,A,d,e,B,C,D,E,c,F,G,H]),(9,.cells [ar,au,av,aw,ax,ay,az,a0,a1,a2])],O)))
 (goC (z5 call lp qK) (QZ [] [] [0,1,2,6,7,8] [(6,6),(7,7)] (QZ [] [] [0,1,2,6,7,8] [(6,6),(7,7)] j7))))
 (fun _=>bnP (z9 .eql (frz L) (.int .i64 2)) fun b6 => 
 zw b6 (fun _=>bnS (call 20 [a,b] J) fun b7 R => 
 bnC 10 (stC 10 (frz b7)) fun b8 b9 ca cb cc cd ce cf cg ch => 
 bnX (bnP (z9 .neq d (.int .i64 0)) fun ci => 
 zw ci (fun _=>bnS (call 13 [a,.int .i64 30] R) fun cj ck => 
 bnS (call 13 [a,.int .i64 20] ck) fun cl cm => 
 bnS (call 21 [a] cm) fun cn co => 
 bnS (call 13 [a,.int .i64 9] co) fun cp cq => 
 bnC 10 (vg [.int .i64 0,.int .i64 0,.int .i64 0,.int .i64 0,.int .i64 0,.int .i64 0,.nils,.int .i64 0,.int .i64 0,.str []] [(0,1,.int .i64 5),(1,1,d),(2,1,b),(3,1,e),(4,1,(frz cj)),(5,1,(frz cl)),(6,1,(frz cn)),(8,1,(frz cp))]) fun cr cs ct cu cv cw cx cy cz c0 => 
 bnC 10 (stC 10 (.agg [cr,cs,ct,cu,cv,cw,cx,cy,cz,c0])) fun c1 c2 c3 c4 c5 c6 c7 c8 c9 da => 
 some (.normal,[(0,.v a),(1,.v b),(2,.v f),(6,.lp 6 0),(7,.lp 7 0),(8,.v g),(10,.lp 10 0)],[(6,.cells [h,i,j,l,m,n,o,p,q,r,u,w,x]),(7,.cells [y,z,A,d,e,B,C,D,E,c,F,G,H]),(10,.cells [c1,c2,c3,c4,c5,c6,c7,c8,c9,da])],cq))
 (fun _=>some (.normal,[(0,.v a),(1,.v b),(2,.v f),(6,.lp 6 0),(7,.lp 7 0),(8,.v g),(10,.lp 10 0)],[(6,.cells [h,i,j,l,m,n,o,p,q,r,u,w,x]),(7,.cells [y,z,A,d,e,B,C,D,E,c,F,G,H]),(10,.cells [b8,b9,ca,cb,cc,cd,ce,cf,cg,ch])],R)))
 (goC (z5 call lp qL) (QZ [] [] [0,1,2,6,7,8] [(6,6),(7,7)] (QZ [] [] [0,1,2,6,7,8] [(6,6),(7,7)] (QZ [] [] [0,1,2,6,7,8] [(6,6),(7,7)] j7)))))
 (fun _=>bnS (call 20 [a,b] J) fun db dc => 
 bnS (call 23 [.agg [y,z,A,d,e,B,C,D,E,c,F,G,H],(frz db),.int .i64 1] dc) fun S dd => 
 bnP (xf (frz S) 0) fun de => 
 bnP (xf (frz S) 1) fun du => 
 bnC 13 (stC 13 de) fun df dg dh di dj dk dl dm dn dp dq dr ds => 
 some (.normal,[(0,.v a),(1,.v b),(2,.v f),(6,.lp 6 0),(7,.lp 7 0),(8,.v g)],[(6,.cells [h,i,j,l,m,n,o,p,q,r,u,w,x]),(7,.cells [df,dg,dh,di,dj,dk,dl,dm,dn,dp,dq,dr,ds])],dd)))))
 (kx 2 (QZ [] [] [0,1,2,6,7,8] [(6,6),(7,7)] j7)))
 (kx 1 j7))
 (goC (z5 call lp qM) k))
 (fun _=>k (.exit 0) [(6,.lp 6 0),(7,.lp 7 0)] [(6,.cells [h,i,j,l,m,n,o,p,q,r,u,w,x]),(7,.cells [y,z,A,d,e,B,C,D,E,c,F,G,H])] M)):=by kernel_rfl
noncomputable def xp (s:zg) (a b c d e f g h i j l m n o p q r u w x y z A B C D E F G H:AV) (Q:z3):Option ji:=zi (z6 s) zU [(0,.v a),(1,.v b),(2,.v c),(6,.lp 6 0),(7,.lp 7 0),(8,.v d)] [(6,.cells [e,f,g,h,i,j,l,m,n,o,p,q,r]),(7,.cells [u,w,x,y,z,A,B,C,D,E,F,G,H])] Q
theorem zy (s:zg) (a b c d e f g h i j l m n o p q r u w x y z A B C D E F G H:AV) (Q:z3):zi (z6 s) zU [(0,.v a),(1,.v b),(2,.v c),(6,.lp 6 0),(7,.lp 7 0),(8,.v d)] [(6,.cells [e,f,g,h,i,j,l,m,n,o,p,q,r]),(7,.cells [u,w,x,y,z,A,B,C,D,E,F,G,H])] Q=xp s a b c d e f g h i j l m n o p q r u w x y z A B C D E F G H Q:=rfl
theorem xO (s:zg) (a b c d e f g h i j l m n o p q r u w x y z A B C D E F G H:AV) (Q:z3):xp s a b c d e f g h i j l m n o p q r u w x y z A B C D E F G H Q=z5 (zc (z6 s)) (zi (z6 s)) zU [(0,.v a),(1,.v b),(2,.v c),(6,.lp 6 0),(7,.lp 7 0),(8,.v d)] [(6,.cells [e,f,g,h,i,j,l,m,n,o,p,q,r]),(7,.cells [u,w,x,y,z,A,B,C,D,E,F,G,H])] Q (goX (fun τ ω Q=>zi (z6 s) zU τ ω Q) j7):=yN
abbrev jN (a b c d e f g h i j l m n o p q r u v w x y z A B C:AV) (Q:z3):Option ji:=some (.exit 0,[(6,.lp 6 0),(7,.lp 7 0)],[(6,.cells [a,b,c,d,e,f,g,h,i,j,l,m,n]),(7,.cells [o,p,q,r,u,v,w,x,y,z,A,B,C])],Q)
theorem YU {β:Type} (call:z7) (lp:zd) (o p q r u w x y z A B C D a b c d e f g h i j l m n:AV) (Q:z3) (k:PK β):z5 call lp qN [(6,.lp 6 0),(7,.lp 7 0)] [(6,.cells [o,p,q,r,u,w,x,y,z,A,B,C,D]),(7,.cells [a,b,c,d,e,f,g,h,i,j,l,m,n])] Q k=(
 bnC 13 (stC 13 (.agg [a,b,c,d,e,f,g,h,i,j,l,m,n])) fun E F G H I J K L M N O P R => 
 k .ret [(111,.v (.agg [a,b,c,d,e,f,g,h,i,j,l,m,n])),(6,.lp 6 0),(7,.lp 7 0)] [(6,.cells [E,F,G,H,I,J,K,L,M,N,O,P,R]),(7,.cells [a,b,c,d,e,f,g,h,i,j,l,m,n])] Q):=by kernel_rfl
theorem Qo {call:z7} {lp:zd} (a b c:AV) (Q:z3):z5 call lp wn [(0,.v a),(1,.v b),(2,.v c)] [] Q (zp [.cell 6 (some 13)] [.n])=(
 bnS (call 13 [a,.int .i64 5] Q) fun d e => 
 bnS (call 13 [a,.int .i64 4] e) fun f g => 
 bnS (call 15 [b,.int .i64 2,(frz d),(frz f)] g) fun h i => 
 bnC 13 (stC 13 (frz h)) fun j l m o p q r u w x y z A => 
 bnX (lp zU [(0,.v a),(1,.v b),(2,.v c),(6,.lp 6 0),(7,.lp 7 0),(8,.v (.int .i64 0))] [(6,.cells [.int .i64 0,.int .i64 0,.int .i64 0,.int .i64 0,.int .i64 0,.int .i64 0,.nils,.int .i64 0,.int .i64 0,.int .i64 0,.int .i64 0,.int .i64 0,.nils]),(7,.cells [j,l,m,o,p,q,r,u,w,x,y,z,A])] i) (kx 0 (goC (z5 call lp qN) (zp [.cell 6 (some 13)] [.n])))):=by kernel_rfl
def Qp {s:zg} (hs:s.lookup 33=none) (a b c:AV) (Q:z3):=(zm (E:=z6 s) (f:=33) (fn:=yR) hs rfl [a,b,c] Q rfl).trans (Qo (call:=zc (z6 s)) (lp:=zi (z6 s)) a b c Q)
theorem ZE {β:Type} (call:z7) (lp:zd) (a c b d e f:AV) (Q:z3) (k:PK β):z5 call lp yx [(0,.v a),(1,.v c),(4,.lp 4 0),(6,.v b)] [(4,.cells [d,e,f])] Q k=(
 bnP (km a) fun g => 
 bnP (z9 .lss b g) fun h => 
 zw h (fun _=>bnP (elQ 3 a b) fun i => 
 bnP ((AV.cells i)[0]?) fun j => 
 bnP (z9 .eql j c) fun l => 
 zw l (fun _=>bnP (elQ 3 a b) fun m => 
 bnC 3 (cut (AV.cells m) 0 3) fun n o p => 
 bnC 3 (stC 3 (.agg [n,o,p])) fun q r u => 
 k .ret [(4,.lp 4 0),(5,.v (.bool true))] [(4,.cells [q,r,u])] Q)
 (fun _=>bnP (z9 .add b (.int .i64 1)) fun w => 
 k .normal [(0,.v a),(1,.v c),(4,.lp 4 0),(6,.v w)] [(4,.cells [d,e,f])] Q))
 (fun _=>k (.exit 0) [(4,.lp 4 0)] [(4,.cells [d,e,f])] Q)):=by kernel_rfl
noncomputable def kT (s:zg) (a b c d e f:AV) (Q:z3):Option ji:=zi (z6 s) yx [(0,.v a),(1,.v b),(4,.lp 4 0),(6,.v c)] [(4,.cells [d,e,f])] Q
theorem v8 (s:zg) (a b c d e f:AV) (Q:z3):zi (z6 s) yx [(0,.v a),(1,.v b),(4,.lp 4 0),(6,.v c)] [(4,.cells [d,e,f])] Q=kT s a b c d e f Q:=rfl
theorem wB (s:zg) (a b c d e f:AV) (Q:z3):kT s a b c d e f Q=z5 (zc (z6 s)) (zi (z6 s)) yx [(0,.v a),(1,.v b),(4,.lp 4 0),(6,.v c)] [(4,.cells [d,e,f])] Q (goX (fun τ ω Q=>zi (z6 s) yx τ ω Q) j7):=yN
theorem Kh {β:Type} (call:z7) (lp:zd) (a b c:AV) (Q:z3) (k:PK β):z5 call lp kN [(4,.lp 4 0)] [(4,.cells [a,b,c])] Q k=(
 k .ret [(5,.v (.bool false)),(24,.v (.agg [.int .i64 0,.int .i64 0,.int .i64 0])),(4,.lp 4 0)] [(4,.cells [.int .i64 0,.int .i64 0,.int .i64 0])] Q):=by kernel_rfl
theorem W9 {call:z7} {lp:zd} (a b:AV) (Q:z3):z5 call lp Yt [(0,.v a),(1,.v b)] [] Q (zp [.cell 4 (some 3),.tmp 5] [.n,.n])=(
 bnX (lp yx [(0,.v a),(1,.v b),(4,.lp 4 0),(6,.v (.int .i64 0))] [(4,.cells [.int .i64 0,.int .i64 0,.int .i64 0])] Q) (kx 0 (goC (z5 call lp kN) (zp [.cell 4 (some 3),.tmp 5] [.n,.n])))):=by kernel_rfl
def Wa {s:zg} (hs:s.lookup 34=none) (a b:AV) (Q:z3):=(zm (E:=z6 s) (f:=34) (fn:=xY) hs rfl [a,b] Q rfl).trans (W9 (call:=zc (z6 s)) (lp:=zi (z6 s)) a b Q)
theorem Jo {call:z7} {lp:zd} (c a:AV) (Q:z3):z5 call lp Za [(0,.v c),(1,.v a)] [] Q (zp [.tmp 4,.tmp 5] [.f 1,.n])=(
 bnL (Xz [] 1 (.v c)) fun b => 
 pinB (room 8 ((([]:List AV):List AV).length+(b:List AV).length)) <| 
 pinB (wE 1 a) <| 
 pinB (room 8 (((([]:List AV)++b):List AV).length+(([a]:List AV):List AV).length)) <| 
 bnS (call 29 [.fz 1 ((([]:List AV)++b)++([a]:List AV))] ⟨Q.size,.leaf⟩) fun d _=>pinB (wK d) <| 
 bnP (unA .not d) fun e => 
 zw e (fun _=>some (.tup [.fz 1 [],.bool false],Q))
 (fun _=>some (.tup [.fz 1 ((([]:List AV)++b)++([a]:List AV)),.bool true],Q))):=by kernel_rfl
def Zk {s:zg} (hs:s.lookup 35=none) (a b:AV) (Q:z3):=(zm (E:=z6 s) (f:=35) (fn:=xi) hs rfl [a,b] Q rfl).trans (Jo (call:=zc (z6 s)) (lp:=zi (z6 s)) a b Q)
theorem vN {β:Type} (call:z7) (lp:zd) (b c a:AV) (Q:z3) (k:PK β):z5 call lp zZ [(0,.v b),(1,.v c),(5,.v a)] [] Q k=(
 bnP (km b) fun d => 
 bnP (z9 .lss a d) fun e => 
 zw e (fun _=>bnP (elQ 1 b a) fun f => 
 bnP ((AV.cells f)[0]?) fun g => 
 bnP (elQ 1 c a) fun h => 
 bnP ((AV.cells h)[0]?) fun i => 
 bnP (z9 .neq g i) fun j => 
 zw j (fun _=>k .ret [(4,.v (.bool false))] [] Q)
 (fun _=>bnP (z9 .add a (.int .i64 1)) fun l => 
 k .normal [(0,.v b),(1,.v c),(5,.v l)] [] Q))
 (fun _=>k (.exit 0) [] [] Q)):=by kernel_rfl
noncomputable def jh (s:zg) (a b c:AV) (Q:z3):Option ji:=zi (z6 s) zZ [(0,.v a),(1,.v b),(5,.v c)] [] Q
theorem jy (s:zg) (a b c:AV) (Q:z3):zi (z6 s) zZ [(0,.v a),(1,.v b),(5,.v c)] [] Q=jh s a b c Q:=rfl
theorem kg (s:zg) (a b c:AV) (Q:z3):jh s a b c Q=z5 (zc (z6 s)) (zi (z6 s)) zZ [(0,.v a),(1,.v b),(5,.v c)] [] Q (goX (fun τ ω Q=>zi (z6 s) zZ τ ω Q) j7):=yN
abbrev Y8 (Q:z3):Option ji:=some (.exit 0,[],[],Q)
theorem Xt {β:Type} (call:z7) (lp:zd) (Q:z3) (k:PK β):z5 call lp jc [] [] Q k=(
 k .ret [(4,.v (.bool true))] [] Q):=by kernel_rfl
theorem QU {call:z7} {lp:zd} (a b:AV) (Q:z3):z5 call lp wI [(0,.v a),(1,.v b)] [] Q (zp [.tmp 4] [.n])=(
 bnP (km a) fun c => 
 bnP (km b) fun d => 
 bnP (z9 .neq c d) fun e => 
 zw e (fun _=>some (.bool false,Q))
 (fun _=>bnX (lp zZ [(0,.v a),(1,.v b),(5,.v (.int .i64 0))] [] Q) (kx 0 (goC (z5 call lp jc) (zp [.tmp 4] [.n]))))):=by kernel_rfl
def QV {s:zg} (hs:s.lookup 36=none) (a b:AV) (Q:z3):=(zm (E:=z6 s) (f:=36) (fn:=x4) hs rfl [a,b] Q rfl).trans (QU (call:=zc (z6 s)) (lp:=zi (z6 s)) a b Q)
theorem za8 {call:z7} {lp:zd} (a b c d e f g h i j l m o:AV) (Q:z3):z5 call lp z5e [(0,.v (.agg [a,b,c,d,e,f,g,h,i,j,l,m,o]))] [] Q (zp [.tmp 2] [.n])=(
 bnC 13 (stC 13 (.agg [a,b,c,d,e,f,g,h,i,j,l,m,o])) fun p q r u w x y z A B C D E => 
 bnS (call 64 [y] Q) fun F G => 
 bnS (call 65 [E] G) fun H I => 
 bnC 1 (stC 1 (frz F)) fun J => 
 bnC 1 (stC 1 (frz H)) fun K => 
 bnS (JJ I (AV.cells (.agg [p,q,r,u,w,x,J,z,A,B,C,D,K,.nils]))) fun L M => 
 bnP (rcv false .n L) fun N=>some (N,M)):=by kernel_rfl
def za9 {s:zg} (hs:s.lookup 38=none) (a b c d e g h i j l m n o:AV) (Q:z3):=(zm (E:=z6 s) (f:=38) (fn:=X7) hs rfl [.agg [a,b,c,d,e,g,h,i,j,l,m,n,o]] Q rfl).trans (za8 (call:=zc (z6 s)) (lp:=zi (z6 s)) a b c d e g h i j l m n o Q)
theorem z1l {call:z7} {lp:zd} (a b:AV) (Q:z3):z5 call lp QJ [(0,.v a),(1,.v b)] [] Q (zp [] [])=(
 bnP (zA a) fun c => 
 bnP (zn 0 c) fun d => 
 bnP (zn 3 d) fun e => 
 bnS (stA Q 1 e (.int .i64 0)) fun _ f => 
 bnP (zA a) fun g => 
 bnP (zn 0 g) fun h => 
 bnP (zn 4 h) fun i => 
 bnS (stA f 1 i (.int .i64 0)) fun _ j => 
 bnP (zA a) fun l => 
 bnP (zn 0 l) fun m => 
 bnP (zn 6 m) fun n => 
 bnS (stA j 1 n .nils) fun _ o => 
 bnP (zA a) fun p => 
 bnP (zn 0 p) fun q => 
 bnP (zn 9 q) fun r => 
 bnS (stA o 1 r (.int .i64 0)) fun _ u => 
 bnP (zA a) fun w => 
 bnP (zn 0 w) fun x => 
 bnP (zn 11 x) fun y => 
 bnS (stA u 1 y b) fun _ z => 
 some (.tup [],z)):=by kernel_rfl
def z1m {s:zg} (hs:s.lookup 40=none) (a b:AV) (Q:z3):=(zm (E:=z6 s) (f:=40) (fn:=jd) hs rfl [a,b] Q rfl).trans (z1l (call:=zc (z6 s)) (lp:=zi (z6 s)) a b Q)
theorem Zl {β:Type} (call:z7) (lp:zd) (a b c:AV) (d:List AV) (Q:z3) (k:PK β):z5 call lp ka [(0,.v a),(1,.v b),(5,.ls 5),(6,.v c)] [(5,.own 3 d)] Q k=(
 bnP (z9 .add c (.int .i64 1)) fun e => 
 k .normal [(0,.v a),(1,.v b),(5,.ls 5),(6,.v e)] [(5,.own 3 d)] Q):=by kernel_rfl
theorem Zm {β:Type} (call:z7) (lp:zd) (a d b:AV) (c:List AV) (Q:z3) (k:PK β):z5 call lp ym [(0,.v a),(1,.v d),(5,.ls 5),(6,.v b)] [(5,.own 3 c)] Q k=(
 bnP (km a) fun h => 
 bnP (z9 .lss b h) fun i => 
 zw i (fun _=>bnX (bnX (bnP (elQ 3 a b) fun j => 
 bnP ((AV.cells j)[2]?) fun l => 
 bnP (z9 .sub d l) fun m => 
 bnP (z9 .leq m (.int .i64 20)) fun n => 
 zw n (fun _=>bnP (elQ 3 a b) fun o => 
 bnC 3 (cut (AV.cells o) 0 3) fun e f g => 
 pinB (wE 3 (.agg [e,f,g])) <| 
 pinB (room 24 ((c:List AV).length+(([.agg [e,f,g]]:List AV):List AV).length)) <| 
 some (.normal,[(0,.v a),(1,.v d),(5,.ls 5),(6,.v b)],[(5,.own 3 (c++([.agg [e,f,g]]:List AV)))],Q))
 (fun _=>some (.normal,[(0,.v a),(1,.v d),(5,.ls 5),(6,.v b)],[(5,.own 3 c)],Q)))
 (kx 1 j7))
 (goC (z5 call lp ka) k))
 (fun _=>k (.exit 0) [(5,.ls 5)] [(5,.own 3 c)] Q)):=by kernel_rfl
noncomputable def kh (s:zg) (a b c:AV) (d:List AV) (Q:z3):Option ji:=zi (z6 s) ym [(0,.v a),(1,.v b),(5,.ls 5),(6,.v c)] [(5,.own 3 d)] Q
theorem qu (s:zg) (a b c:AV) (d:List AV) (Q:z3):zi (z6 s) ym [(0,.v a),(1,.v b),(5,.ls 5),(6,.v c)] [(5,.own 3 d)] Q=kh s a b c d Q:=rfl
theorem vO (s:zg) (a b c:AV) (d:List AV) (Q:z3):kh s a b c d Q=z5 (zc (z6 s)) (zi (z6 s)) ym [(0,.v a),(1,.v b),(5,.ls 5),(6,.v c)] [(5,.own 3 d)] Q (goX (fun τ ω Q=>zi (z6 s) ym τ ω Q) j7):=yN
abbrev Xu (a:List AV) (Q:z3):Option ji:=some (.exit 0,[(5,.ls 5)],[(5,.own 3 a)],Q)
theorem Jp {β:Type} (call:z7) (lp:zd) (a:List AV) (Q:z3) (k:PK β):z5 call lp kb [(5,.ls 5)] [(5,.own 3 a)] Q k=(
 k .ret [(4,.ls 5),(28,.ls 5),(5,.ls 5)] [(5,.own 3 a)] Q):=by kernel_rfl
theorem Vj {call:z7} {lp:zd} (a b:AV) (Q:z3):z5 call lp ZZ [(0,.v a),(1,.v b)] [] Q (zp [.tmp 4] [.o 3])=(
 bnX (lp ym [(0,.v a),(1,.v b),(5,.ls 5),(6,.v (.int .i64 0))] [(5,.own 3 ([]:List AV))] Q) (kx 0 (goC (z5 call lp kb) (zp [.tmp 4] [.o 3])))):=by kernel_rfl
def Vk {s:zg} (hs:s.lookup 43=none) (a b:AV) (Q:z3):=(zm (E:=z6 s) (f:=43) (fn:=xG) hs rfl [a,b] Q rfl).trans (Vj (call:=zc (z6 s)) (lp:=zi (z6 s)) a b Q)
theorem Wb {call:z7} {lp:zd} (a b c d e f g h i j l m o p:AV) (Q:z3):z5 call lp Yu [(0,.v (.agg [a,b,c,d,e,f,g,h,i,j,l,m,o])),(1,.v p)] [] Q (zp [.cell 4 (some 13)] [.n])=(
 bnC 13 (stC 13 (.agg [a,b,c,d,e,f,g,h,i,j,l,m,o])) fun q r u P R w S x y T z U A => 
 bnC 1 (stC 1 p) fun B => 
 bnC 13 (stC 13 (.agg [q,r,u,.int .i64 0,.int .i64 0,w,.nils,x,y,.int .i64 0,z,B,A])) fun C D E F G H I J K L M N O => 
 some (.agg [C,D,E,F,G,H,I,J,K,L,M,N,O],Q)):=by kernel_rfl
def Wc {s:zg} (hs:s.lookup 44=none) (a b c d e g h i j l m n o p:AV) (Q:z3):=(zm (E:=z6 s) (f:=44) (fn:=xZ) hs rfl [.agg [a,b,c,d,e,g,h,i,j,l,m,n,o],p] Q rfl).trans (Wb (call:=zc (z6 s)) (lp:=zi (z6 s)) a b c d e g h i j l m n o p Q)
theorem Vl {call:z7} {lp:zd} (a b c d e f g h i j l m o p q:AV) (Q:z3):z5 call lp Y0 [(0,.v (.agg [a,b,c,d,e,f,g,h,i,j,l,m,o])),(1,.v p),(2,.v q)] [] Q (zp [.cell 6 (some 10)] [.n])=(
 bnC 13 (stC 13 (.agg [a,b,c,d,e,f,g,h,i,j,l,m,o])) fun r u R S T U V W X Y Z aa ab => 
 bnC 10 (vg [.int .i64 0,.int .i64 0,.int .i64 0,.int .i64 0,.int .i64 0,.int .i64 0,.nils,.int .i64 0,.int .i64 0,.str []] [(0,1,p),(1,1,r),(2,1,q),(3,1,u)]) fun w x y z A B C D E F => 
 bnC 10 (stC 10 (.agg [w,x,y,z,A,B,C,D,E,F])) fun G H I J K L M N O P => 
 some (.agg [G,H,I,J,K,L,M,N,O,P],Q)):=by kernel_rfl
def Vm {s:zg} (hs:s.lookup 45=none) (a b c d e g h i j l m n o p q:AV) (Q:z3):=(zm (E:=z6 s) (f:=45) (fn:=xH) hs rfl [.agg [a,b,c,d,e,g,h,i,j,l,m,n,o],p,q] Q rfl).trans (Vl (call:=zc (z6 s)) (lp:=zi (z6 s)) a b c d e g h i j l m n o p q Q)
theorem Vn {call:z7} {lp:zd} (a b c d e f g h i j l m o p q:AV) (Q:z3):z5 call lp Y1 [(0,.v (.agg [a,b,c,d,e,f,g,h,i,j,l,m,o])),(1,.v p),(2,.v q)] [] Q (zp [.cell 6 (some 10)] [.n])=(
 bnC 13 (stC 13 (.agg [a,b,c,d,e,f,g,h,i,j,l,m,o])) fun z A r B C D u w x E F G H => 
 bnS (call 45 [.agg [z,A,r,B,C,D,u,w,x,E,F,G,H],p,q] Q) fun I J => 
 bnC 10 (stC 10 (frz I)) fun K L M N ag ah ai O P R => 
 bnP (z9 .sub r x) fun S => 
 bnL (Xz [] 1 (.v u)) fun y => 
 pinB (room 8 ((([]:List AV):List AV).length+(y:List AV).length)) <| 
 bnC 1 (stC 1 w) fun T => 
 bnC 1 (stC 1 S) fun U => 
 bnC 1 (stC 1 (.fz 1 (([]:List AV)++y))) fun V => 
 bnC 10 (stC 10 (.agg [K,L,M,N,T,U,V,O,P,R])) fun W X Y Z aa ab ac ad ae af => 
 some (.agg [W,X,Y,Z,aa,ab,ac,ad,ae,af],J)):=by kernel_rfl
def Vo {s:zg} (hs:s.lookup 46=none) (a b c d e g h i j l m n o p q:AV) (Q:z3):=(zm (E:=z6 s) (f:=46) (fn:=xI) hs rfl [.agg [a,b,c,d,e,g,h,i,j,l,m,n,o],p,q] Q rfl).trans (Vn (call:=zc (z6 s)) (lp:=zi (z6 s)) a b c d e g h i j l m n o p q Q)
theorem Xv {call:z7} {lp:zd} (a:AV) (Q:z3):z5 call lp vK [(0,.v a)] [] Q (zp [.tmp 2] [.n])=(
 bnS (call 13 [a,.int .i64 5] Q) fun b c => 
 bnP (elQ 1 (.fz 1 [.str [],.str [97],.str [98,99],.str [104,101,108,108,111],.str [116,119,101,108,118,101,32,98,121,116,101,115]]) (frz b)) fun d => 
 bnP ((AV.cells d)[0]?) fun e => 
 bnP (rcv false .n e) fun f=>some (f,c)):=by kernel_rfl
def Xw {s:zg} (hs:s.lookup 47=none) (a:AV) (Q:z3):=(zm (E:=z6 s) (f:=47) (fn:=yG) hs rfl [a] Q rfl).trans (Xv (call:=zc (z6 s)) (lp:=zi (z6 s)) a Q)
theorem z6V {call:z7} {lp:zd} (b c d:AV) (Q:z3):z5 call lp z1V [(0,.v b),(1,.v c),(2,.v d)] [] Q (zp [.tmp 6] [.n])=(
 bnS (call 68 [b,c] Q) fun e f => 
 bnP (xf (frz e) 0) fun g => 
 bnP (xf (frz e) 1) fun a => 
 bnC 3 (stC 3 g) fun p h q => 
 bnP (gdQ a true (some h)) fun i => 
 bnP (gdQ a true (some d)) fun j => 
 bnP (gdQ a true (z9 .gtr i j)) fun l => 
 bnP (zF a l (.bool false)) fun m => 
 bnP (rcv false .n m) fun o=>some (o,f)):=by kernel_rfl
def z6W {s:zg} (hs:s.lookup 48=none) (a b c:AV) (Q:z3):=(zm (E:=z6 s) (f:=48) (fn:=Zb) hs rfl [a,b,c] Q rfl).trans (z6V (call:=zc (z6 s)) (lp:=zi (z6 s)) a b c Q)
theorem Wd {call:z7} {lp:zd} (a c d e f g h i j l m n:AV) (Q:z3):z5 call lp Yv [(0,.v a),(1,.v (.agg [c,d,e,f,g,h,i,j,l,m])),(2,.v n)] [] Q (zp [] [])=(
 bnC 10 (stC 10 (.agg [c,d,e,f,g,h,i,j,l,m])) fun p b q r u w x y z A => 
 bnS (call 69 [a,b] Q) fun B o => 
 bnP (unA .not (frz B)) fun C => 
 zw C (fun _=>bnS (call 61 [a,.int .i64 3,b,.int .i64 0] o) fun G D => 
 some (.tup [],D))
 (fun _=>bnS (call 70 [a,.agg [p,b,q,r,u,w,x,y,z,A]] o) fun H E => 
 bnS (call 61 [a,.int .i64 2,b,n] E) fun I F => 
 some (.tup [],F))):=by kernel_rfl
def We {s:zg} (hs:s.lookup 49=none) (a b c d e g h i j l m n:AV) (Q:z3):=(zm (E:=z6 s) (f:=49) (fn:=q6) hs rfl [a,.agg [b,c,d,e,g,h,i,j,l,m],n] Q rfl).trans (Wd (call:=zc (z6 s)) (lp:=zi (z6 s)) a b c d e g h i j l m n Q)
theorem Wf {call:z7} {lp:zd} (a f g h i j l m n o p:AV) (Q:z3):z5 call lp Yw [(0,.v a),(1,.v (.agg [f,g,h,i,j,l,m,n,o,p]))] [] Q (zp [] [])=(
 bnC 10 (stC 10 (.agg [f,g,h,i,j,l,m,n,o,p])) fun B c C q r d u D E F => 
 bnP (zA a) fun G => 
 bnP (zn 0 G) fun H => 
 bnP (zn 9 H) fun I => 
 bnP (ldQ Q I) fun J => 
 bnP (z9 .neq J c) fun b => 
 bnP (gdQ b false (some a)) fun K => 
 bnP (gdQ b false (zA K)) fun L => 
 bnP (gdQ b false (zn 0 L)) fun M => 
 bnP (gdQ b false (zn 3 M)) fun N => 
 bnP (gdQ b false (ldQ Q N)) fun O => 
 bnP (gdQ b false (z9 .neq O (.int .i64 0))) fun P => 
 bnP (zF b (.bool true) P) fun R => 
 zw R (fun _=>bnX (bnP (zA a) fun S => 
 bnP (zn 0 S) fun T => 
 bnP (zn 3 T) fun U => 
 bnP (ldQ Q U) fun V => 
 bnP (z9 .neq V c) fun W => 
 zw W (fun _=>bnS (call 61 [a,.int .i64 6,c,.int .i64 0] Q) fun bn X => 
 some (.normal,[],[],X))
 (fun _=>some (.normal,[],[],Q)))
 (goC (z5 call lp .ret) (goC (z5 call lp ZB) (zp [] []))))
 (fun _=>bnP (zA a) fun Y => 
 bnP (zn 0 Y) fun Z => 
 bnP (zn 9 Z) fun aa => 
 bnS (stA Q 1 aa (.int .i64 0)) fun _ w => 
 bnP (zA a) fun ab => 
 bnP (zn 0 ab) fun ac => 
 bnP (zn 0 ac) fun ad => 
 bnP (ldQ w ad) fun ae => 
 bnS (call 71 [u,ae] w) fun x y => 
 bnP (xf (frz x) 0) fun af => 
 bnP (xf (frz x) 1) fun ag => 
 bnP (unA .not ag) fun e => 
 bnP (gdQ e false (some d)) fun ah => 
 bnP (gdQ e false (z9 .gtr ah (.int .i64 20))) fun ai => 
 bnP (zF e (.bool true) ai) fun aj => 
 zw aj (fun _=>bnS (call 61 [a,.int .i64 6,c,.int .i64 0] y) fun bo z => 
 bnP (zA a) fun ak => 
 bnP (zn 0 ak) fun al => 
 bnP (zn 11 al) fun ao => 
 bnP (ldQ z ao) fun ap => 
 bnP (z9 .add ap (.int .i64 1)) fun aq => 
 bnP (zA a) fun ar => 
 bnP (zn 0 ar) fun au => 
 bnP (zn 11 au) fun av => 
 bnS (stA z 1 av aq) fun _ aw => 
 some (.tup [],aw))
 (fun _=>bnS (call 72 [a,.agg [B,c,C,q,r,d,u,D,E,F],af] y) fun bp A => 
 bnP (zA a) fun ax => 
 bnP (zn 0 ax) fun ay => 
 bnP (zn 2 ay) fun az => 
 bnP (ldQ A az) fun a0 => 
 bnP (z9 .sub a0 d) fun a1 => 
 bnP (zA a) fun a2 => 
 bnP (zn 0 a2) fun a3 => 
 bnP (zn 3 a3) fun a4 => 
 bnS (stA A 1 a4 c) fun _ a5 => 
 bnP (zA a) fun a6 => 
 bnP (zn 0 a6) fun a7 => 
 bnP (zn 4 a7) fun a8 => 
 bnS (stA a5 1 a8 q) fun _ a9 => 
 bnP (zA a) fun ba => 
 bnP (zn 0 ba) fun bb => 
 bnP (zn 7 bb) fun bc => 
 bnS (stA a9 1 bc r) fun _ bd => 
 bnP (zA a) fun bf => 
 bnP (zn 0 bf) fun bg => 
 bnP (zn 8 bg) fun bh => 
 bnS (stA bd 1 bh a1) fun _ bi => 
 bnP (zA a) fun bj => 
 bnP (zn 0 bj) fun bk => 
 bnP (zn 11 bk) fun bl => 
 bnS (stA bi 1 bl (.int .i64 0)) fun _ bm => 
 some (.tup [],bm)))):=by kernel_rfl
def Wg {s:zg} (hs:s.lookup 50=none) (a b c d e g h i j l m:AV) (Q:z3):=(zm (E:=z6 s) (f:=50) (fn:=q7) hs rfl [a,.agg [b,c,d,e,g,h,i,j,l,m]] Q rfl).trans (Wf (call:=zc (z6 s)) (lp:=zi (z6 s)) a b c d e g h i j l m Q)
theorem Wh {call:z7} {lp:zd} (a b c d e f g h i j l:AV) (Q:z3):z5 call lp Yx [(0,.v a),(1,.v (.agg [b,c,d,e,f,g,h,i,j,l]))] [] Q (zp [] [])=(
 bnC 10 (stC 10 (.agg [b,c,d,e,f,g,h,i,j,l])) fun O m P R S T U V W X => 
 bnX (bnP (zA a) fun o => 
 bnP (zn 0 o) fun p => 
 bnP (zn 9 p) fun q => 
 bnP (ldQ Q q) fun r => 
 bnP (z9 .eql m r) fun u => 
 zw u (fun _=>bnP (zA a) fun w => 
 bnP (zn 0 w) fun x => 
 bnP (zn 9 x) fun y => 
 bnS (stA Q 1 y (.int .i64 0)) fun _ n => 
 bnP (zA a) fun z => 
 bnP (zn 0 z) fun A => 
 bnP (zn 11 A) fun B => 
 bnP (ldQ n B) fun C => 
 bnP (z9 .add C (.int .i64 1)) fun D => 
 bnP (zA a) fun E => 
 bnP (zn 0 E) fun F => 
 bnP (zn 11 F) fun G => 
 bnS (stA n 1 G D) fun _ H => 
 some (.normal,[],[],H))
 (fun _=>bnP (zA a) fun I => 
 bnP (zn 0 I) fun J => 
 bnP (zn 3 J) fun K => 
 bnP (ldQ Q K) fun L => 
 bnP (z9 .eql m L) fun M => 
 zw M (fun _=>bnS (call 40 [a,.int .i64 0] Q) fun Y N => 
 some (.normal,[],[],N))
 (fun _=>some (.normal,[],[],Q))))
 (kx 0 (zp [] []))):=by kernel_rfl
def Wi {s:zg} (hs:s.lookup 51=none) (a b c d e g h i j l m:AV) (Q:z3):=(zm (E:=z6 s) (f:=51) (fn:=q8) hs rfl [a,.agg [b,c,d,e,g,h,i,j,l,m]] Q rfl).trans (Wh (call:=zc (z6 s)) (lp:=zi (z6 s)) a b c d e g h i j l m Q)
theorem Wj {call:z7} {lp:zd} (a c d e f g h i j l m:AV) (Q:z3):z5 call lp Yy [(0,.v a),(1,.v (.agg [c,d,e,f,g,h,i,j,l,m]))] [] Q (zp [] [])=(
 bnC 10 (stC 10 (.agg [c,d,e,f,g,h,i,j,l,m])) fun p b q r u w x y z A => 
 bnP (zA a) fun B => 
 bnP (zn 0 B) fun C => 
 bnP (zn 12 C) fun D => 
 bnP (ldQ Q D) fun E => 
 bnS (call 68 [E,b] Q) fun n o => 
 bnP (xf (frz n) 0) fun F => 
 bnP (xf (frz n) 1) fun G => 
 bnC 3 (stC 3 F) fun J K L => 
 zw G (fun _=>bnS (call 70 [a,.agg [p,b,q,r,u,w,x,y,z,A]] o) fun M H => 
 some (.tup [],H))
 (fun _=>bnS (call 61 [a,.int .i64 3,b,.int .i64 0] o) fun N I => 
 some (.tup [],I))):=by kernel_rfl
def Wk {s:zg} (hs:s.lookup 52=none) (a b c d e g h i j l m:AV) (Q:z3):=(zm (E:=z6 s) (f:=52) (fn:=q9) hs rfl [a,.agg [b,c,d,e,g,h,i,j,l,m]] Q rfl).trans (Wj (call:=zc (z6 s)) (lp:=zi (z6 s)) a b c d e g h i j l m Q)
theorem Wl {call:z7} {lp:zd} (a e f g h i j l m n o:AV) (Q:z3):z5 call lp Yz [(0,.v a),(1,.v (.agg [e,f,g,h,i,j,l,m,n,o]))] [] Q (zp [] [])=(
 bnC 10 (stC 10 (.agg [e,f,g,h,i,j,l,m,n,o])) fun w c x y p d q z A B => 
 bnP (zA a) fun C => 
 bnP (zn 0 C) fun D => 
 bnP (zn 3 D) fun E => 
 bnP (ldQ Q E) fun F => 
 bnP (z9 .neq c F) fun G => 
 zw G (fun _=>bnS (call 61 [a,.int .i64 6,c,.int .i64 0] Q) fun ar H => 
 some (.tup [],H))
 (fun _=>bnP (zA a) fun I => 
 bnP (zn 0 I) fun J => 
 bnP (zn 0 J) fun K => 
 bnP (ldQ Q K) fun L => 
 bnS (call 71 [q,L] Q) fun r u => 
 bnP (xf (frz r) 0) fun M => 
 bnP (xf (frz r) 1) fun N => 
 bnP (unA .not N) fun O => 
 zw O (fun _=>bnS (call 61 [a,.int .i64 6,c,.int .i64 0] u) fun au P => 
 bnS (call 40 [a,.int .i64 1] P) fun av R => 
 some (.tup [],R))
 (fun _=>bnS (call 72 [a,.agg [w,c,x,y,p,d,q,z,A,B],M] u) fun aw b => 
 bnP (zA a) fun S => 
 bnP (zn 0 S) fun T => 
 bnP (zn 2 T) fun U => 
 bnP (ldQ b U) fun V => 
 bnP (z9 .sub V d) fun W => 
 bnP (zA a) fun X => 
 bnP (zn 0 X) fun Y => 
 bnP (zn 8 Y) fun Z => 
 bnP (ldQ b Z) fun aa => 
 bnP (z9 .gtr W aa) fun ab => 
 zw ab (fun _=>bnP (zA a) fun ac => 
 bnP (zn 0 ac) fun ad => 
 bnP (zn 2 ad) fun ae => 
 bnP (ldQ b ae) fun af => 
 bnP (z9 .sub af d) fun ag => 
 bnP (zA a) fun ah => 
 bnP (zn 0 ah) fun ai => 
 bnP (zn 8 ai) fun aj => 
 bnS (stA b 1 aj ag) fun _ ak => 
 bnP (zA a) fun al => 
 bnP (zn 0 al) fun ao => 
 bnP (zn 7 ao) fun ap => 
 bnS (stA ak 1 ap p) fun _ aq => 
 some (.tup [],aq))
 (fun _=>some (.tup [],b))))):=by kernel_rfl
def Wm {s:zg} (hs:s.lookup 53=none) (a b c d e g h i j l m:AV) (Q:z3):=(zm (E:=z6 s) (f:=53) (fn:=qa) hs rfl [a,.agg [b,c,d,e,g,h,i,j,l,m]] Q rfl).trans (Wl (call:=zc (z6 s)) (lp:=zi (z6 s)) a b c d e g h i j l m Q)
theorem z5t {call:z7} {lp:zd} (a b:AV) (Q:z3):z5 call lp z0T [(0,.v a),(1,.v b)] [] Q (zp [.tmp 4] [.f 3])=(
 bnC 1 (stC 1 b) fun c => 
 bnS (call 65 [a] Q) fun d e=>bnL (owZ 3 d) fun g => 
 bnS (call 1000066 [.ow 3 g,.fn 73 [] [.cp [c] 0]] e) fun h i => 
 bnP (rcv false (.f 3) (frz h)) fun j=>some (j,i)):=by kernel_rfl
def z5u {s:zg} (hs:s.lookup 54=none) (a b:AV) (Q:z3):=(zm (E:=z6 s) (f:=54) (fn:=wo) hs rfl [a,b] Q rfl).trans (z5t (call:=zc (z6 s)) (lp:=zi (z6 s)) a b Q)
theorem z0f {call:z7} {lp:zd} (b c d:AV) (Q:z3):z5 call lp X8 [(0,.v b),(1,.v c),(2,.v d)] [] Q (zp [.tmp 6] [.n])=(
 bnS (call 34 [b,c] Q) fun e f => 
 bnP (xf (frz e) 0) fun g => 
 bnP (xf (frz e) 1) fun a => 
 bnC 3 (stC 3 g) fun p h q => 
 bnP (gdQ a true (some h)) fun i => 
 bnP (gdQ a true (some d)) fun j => 
 bnP (gdQ a true (z9 .gtr i j)) fun l => 
 bnP (zF a l (.bool false)) fun m => 
 bnP (rcv false .n m) fun o=>some (o,f)):=by kernel_rfl
def z0g {s:zg} (hs:s.lookup 55=none) (a b c:AV) (Q:z3):=(zm (E:=z6 s) (f:=55) (fn:=qB) hs rfl [a,b,c] Q rfl).trans (z0f (call:=zc (z6 s)) (lp:=zi (z6 s)) a b c Q)
theorem ZF {β:Type} (call:z7) (lp:zd) (e a c d:AV) (b:List AV) (Q:z3) (k:PK β):z5 call lp yy [(3,.lp 3 0),(6,.ls 6),(7,.v e)] [(3,.cells [a,c,d]),(6,.own 3 b)] Q k=(
 bnP (z9 .lss e (.int .i64 ((b:List AV).length:Nat))) fun h => 
 zw h (fun _=>bnN (Km (b:List AV).length e) fun i2 => 
 bnP (elC b i2 0) fun i => 
 bnP (z9 .gtr i a) fun j => 
 zw j (fun _=>bnP (QW 3 (.fz 3 b) none (some e)) fun l => 
 pinB (wE 3 (.agg [a,c,d])) <| 
 bnP (QW 3 (.fz 3 b) (some e) none) fun m => 
 bnL (Xz [] 3 (.v l)) fun f => 
 pinB (room 24 ((([]:List AV):List AV).length+(f:List AV).length)) <| 
 pinB (room 24 (((([]:List AV)++f):List AV).length+(([.agg [a,c,d]]:List AV):List AV).length)) <| 
 bnL (Xz [] 3 (.v m)) fun g => 
 pinB (room 24 ((((([]:List AV)++f)++([.agg [a,c,d]]:List AV)):List AV).length+(g:List AV).length)) <| 
 k .ret [(4,.ls 4),(5,.v (.bool true))] [(4,.own 3 (((([]:List AV)++f)++([.agg [a,c,d]]:List AV))++g))] Q)
 (fun _=>bnP (z9 .add e (.int .i64 1)) fun n => 
 k .normal [(3,.lp 3 0),(6,.ls 6),(7,.v n)] [(3,.cells [a,c,d]),(6,.own 3 b)] Q))
 (fun _=>k (.exit 0) [(3,.lp 3 0),(6,.ls 6)] [(3,.cells [a,c,d]),(6,.own 3 b)] Q)):=by kernel_rfl
noncomputable def j8 (s:zg) (a b c d:AV) (e:List AV) (Q:z3):Option ji:=zi (z6 s) yy [(3,.lp 3 0),(6,.ls 6),(7,.v a)] [(3,.cells [b,c,d]),(6,.own 3 e)] Q
theorem xq (s:zg) (a b c d:AV) (e:List AV) (Q:z3):zi (z6 s) yy [(3,.lp 3 0),(6,.ls 6),(7,.v a)] [(3,.cells [b,c,d]),(6,.own 3 e)] Q=j8 s a b c d e Q:=rfl
theorem wC (s:zg) (a b c d:AV) (e:List AV) (Q:z3):j8 s a b c d e Q=z5 (zc (z6 s)) (zi (z6 s)) yy [(3,.lp 3 0),(6,.ls 6),(7,.v a)] [(3,.cells [b,c,d]),(6,.own 3 e)] Q (goX (fun τ ω Q=>zi (z6 s) yy τ ω Q) j7):=yN
theorem Ki {β:Type} (call:z7) (lp:zd) (a b c:AV) (d:List AV) (Q:z3) (k:PK β):z5 call lp kO [(3,.lp 3 0),(6,.ls 6)] [(3,.cells [a,b,c]),(6,.own 3 d)] Q k=(
 pinB (wE 3 (.agg [a,b,c])) <| 
 pinB (room 24 ((d:List AV).length+(([.agg [a,b,c]]:List AV):List AV).length)) <| 
 k .ret [(5,.v (.bool true)),(4,.ls 6),(48,.ls 6),(47,.v (.fz 3 [.agg [a,b,c]])),(46,.v (.agg [a,b,c])),(45,.v z4),(3,.lp 3 0),(6,.v z4)] [(6,.own 3 (d++([.agg [a,b,c]]:List AV))),(3,.cells [a,b,c])] Q):=by kernel_rfl
theorem Wn {call:z7} {lp:zd} (a c d e:AV) (Q:z3):z5 call lp YA [(0,.v a),(1,.v (.agg [c,d,e]))] [] Q (zp [.tmp 4,.tmp 5] [.f 3,.n])=(
 bnC 3 (stC 3 (.agg [c,d,e])) fun b g i => 
 bnS (call 55 [a,b,g] Q) fun j h => 
 zw (frz j) (fun _=>bnP (rcv false (.f 3) a) fun l=>some (.tup [frz l,.bool false],h))
 (fun _=>bnS (call 59 [a,b] h) fun m o=>bnL (owZ 3 m) fun p => 
 bnX (lp yy [(3,.lp 3 0),(6,.ls 6),(7,.v (.int .i64 0))] [(3,.cells [b,g,i]),(6,.own 3 p)] o) (kx 0 (goC (z5 call lp kO) (zp [.tmp 4,.tmp 5] [.f 3,.n]))))):=by kernel_rfl
def Wo {s:zg} (hs:s.lookup 56=none) (a b c d:AV) (Q:z3):=(zm (E:=z6 s) (f:=56) (fn:=qb) hs rfl [a,.agg [b,c,d]] Q rfl).trans (Wn (call:=zc (z6 s)) (lp:=zi (z6 s)) a b c d Q)
theorem Qq {call:z7} {lp:zd} (y z A B C D E F G H I J K L M N O P R S T U V:AV) (Q:z3):z5 call lp wq [(0,.v (.agg [y,z,A,B,C,D,E,F,G,H,I,J,K])),(1,.v (.agg [L,M,N,O,P,R,S,T,U,V]))] [] Q (zp [.cell 4 (some 13),.tmp 5] [.n,.f 10])=(
 bnC 13 (stC 13 (.agg [y,z,A,B,C,D,E,F,G,H,I,J,K])) fun b d c a h i j l m o e q g => 
 bnC 10 (stC 10 (.agg [L,M,N,O,P,R,S,T,U,V])) fun cs p ct ad ae W X cu cv cw => 
 bnP (z9 .neq a (.int .i64 0)) fun r => 
 bnP (gdQ r true (some p)) fun af => 
 bnP (gdQ r true (some a)) fun ag => 
 bnP (gdQ r true (z9 .eql af ag)) fun ah => 
 bnP (zF r ah (.bool false)) fun ai => 
 zw ai (fun _=>bnC 13 (stC 13 (.agg [b,d,c,a,h,i,j,l,m,o,e,q,g])) fun aj ak al ao ap aq ar au av aw ax ay az => 
 some (.tup [.agg [aj,ak,al,ao,ap,aq,ar,au,av,aw,ax,ay,az],.fz 10 []],Q))
 (fun _=>bnP (z9 .eql o (.int .i64 0)) fun u => 
 bnP (gdQ u false (some o)) fun a0 => 
 bnP (gdQ u false (some p)) fun a1 => 
 bnP (gdQ u false (z9 .neq a0 a1)) fun a2 => 
 bnP (zF u (.bool true) a2) fun w => 
 bnP (gdQ w false (some a)) fun a3 => 
 bnP (gdQ w false (z9 .neq a3 (.int .i64 0))) fun a4 => 
 bnP (zF w (.bool true) a4) fun a5 => 
 zw a5 (fun _=>bnS (call 45 [.agg [b,d,c,a,h,i,j,l,m,o,e,q,g],.int .i64 6,p] Q) fun Y a6 => 
 pinB (wE 10 (frz Y)) <| 
 bnC 13 (stC 13 (.agg [b,d,c,a,h,i,j,l,m,o,e,q,g])) fun a7 a8 a9 ba bb bc bd bf bg bh bi bj bk => 
 some (.tup [.agg [a7,a8,a9,ba,bb,bc,bd,bf,bg,bh,bi,bj,bk],.fz 10 ([(frz Y)]:List AV)],a6))
 (fun _=>bnS (call 35 [X,b] Q) fun Z aa => 
 bnP (xf (frz Z) 0) fun bl => 
 bnP (xf (frz Z) 1) fun bm => 
 bnP (unA .not bm) fun x => 
 bnP (gdQ x false (some W)) fun bn => 
 bnP (gdQ x false (z9 .gtr bn (.int .i64 20))) fun bo => 
 bnP (zF x (.bool true) bo) fun bp => 
 zw bp (fun _=>bnP (z9 .add q (.int .i64 1)) fun bq => 
 bnC 1 (stC 1 bq) fun ab => 
 bnS (call 45 [.agg [b,d,c,a,h,i,j,l,m,.int .i64 0,e,ab,g],.int .i64 6,p] aa) fun ac br => 
 pinB (wE 10 (frz ac)) <| 
 bnC 13 (stC 13 (.agg [b,d,c,a,h,i,j,l,m,.int .i64 0,e,ab,g])) fun bs bt bu bv bw bx bz b0 b1 b2 b3 b4 b5 => 
 some (.tup [.agg [bs,bt,bu,bv,bw,bx,bz,b0,b1,b2,b3,b4,b5],.fz 10 ([(frz ac)]:List AV)],br))
 (fun _=>bnS (call 58 [X] aa) fun b6 b7 => 
 bnC 1 (stC 1 p) fun b8 => 
 bnC 1 (stC 1 ad) fun b9 => 
 bnC 1 (stC 1 bl) fun ca => 
 bnC 1 (stC 1 (frz b6)) fun cb => 
 bnP (z9 .sub c W) fun cc => 
 bnC 1 (stC 1 ae) fun cd => 
 bnC 1 (stC 1 cc) fun ce => 
 bnC 13 (stC 13 (.agg [b,d,c,b8,b9,cb,ca,cd,ce,.int .i64 0,e,.int .i64 0,g])) fun cf cg ch ci cj ck cl cm cn co cp cq cr => 
 some (.tup [.agg [cf,cg,ch,ci,cj,ck,cl,cm,cn,co,cp,cq,cr],.fz 10 []],b7))))):=by kernel_rfl
def Qr {s:zg} (hs:s.lookup 57=none) (a b c d e g h i j l m n o p q r u v w x y z A:AV) (Q:z3):=(zm (E:=z6 s) (f:=57) (fn:=yS) hs rfl [.agg [a,b,c,d,e,g,h,i,j,l,m,n,o],.agg [p,q,r,u,v,w,x,y,z,A]] Q rfl).trans (Qq (call:=zc (z6 s)) (lp:=zi (z6 s)) a b c d e g h i j l m n o p q r u v w x y z A Q)
theorem Kj {call:z7} {lp:zd} (a:AV) (Q:z3):z5 call lp ZC [(0,.v a)] [] Q (zp [.tmp 2] [.n])=(
 bnS (call 74 [a] Q) fun b c => 
 bnP (z9 .eql (frz b) (.int .i64 0)) fun d => 
 zw d (fun _=>some (.int .i64 1,c))
 (fun _=>bnP (rcv false .n (frz b)) fun e=>some (e,c))):=by kernel_rfl
def Kk {s:zg} (hs:s.lookup 58=none) (a:AV) (Q:z3):=(zm (E:=z6 s) (f:=58) (fn:=xy) hs rfl [a] Q rfl).trans (Kj (call:=zc (z6 s)) (lp:=zi (z6 s)) a Q)
theorem ZG {β:Type} (call:z7) (lp:zd) (a b c:AV) (d:List AV) (Q:z3) (k:PK β):z5 call lp kP [(0,.v a),(1,.v b),(5,.ls 5),(6,.v c)] [(5,.own 3 d)] Q k=(
 bnP (z9 .add c (.int .i64 1)) fun e => 
 k .normal [(0,.v a),(1,.v b),(5,.ls 5),(6,.v e)] [(5,.own 3 d)] Q):=by kernel_rfl
theorem ZH {β:Type} (call:z7) (lp:zd) (a d b:AV) (c:List AV) (Q:z3) (k:PK β):z5 call lp yz [(0,.v a),(1,.v d),(5,.ls 5),(6,.v b)] [(5,.own 3 c)] Q k=(
 bnP (km a) fun h => 
 bnP (z9 .lss b h) fun i => 
 zw i (fun _=>bnX (bnX (bnP (elQ 3 a b) fun j => 
 bnP ((AV.cells j)[0]?) fun l => 
 bnP (z9 .neq l d) fun m => 
 zw m (fun _=>bnP (elQ 3 a b) fun n => 
 bnC 3 (cut (AV.cells n) 0 3) fun e f g => 
 pinB (wE 3 (.agg [e,f,g])) <| 
 pinB (room 24 ((c:List AV).length+(([.agg [e,f,g]]:List AV):List AV).length)) <| 
 some (.normal,[(0,.v a),(1,.v d),(5,.ls 5),(6,.v b)],[(5,.own 3 (c++([.agg [e,f,g]]:List AV)))],Q))
 (fun _=>some (.normal,[(0,.v a),(1,.v d),(5,.ls 5),(6,.v b)],[(5,.own 3 c)],Q)))
 (kx 1 j7))
 (goC (z5 call lp kP) k))
 (fun _=>k (.exit 0) [(5,.ls 5)] [(5,.own 3 c)] Q)):=by kernel_rfl
noncomputable def kU (s:zg) (a b c:AV) (d:List AV) (Q:z3):Option ji:=zi (z6 s) yz [(0,.v a),(1,.v b),(5,.ls 5),(6,.v c)] [(5,.own 3 d)] Q
theorem qV (s:zg) (a b c:AV) (d:List AV) (Q:z3):zi (z6 s) yz [(0,.v a),(1,.v b),(5,.ls 5),(6,.v c)] [(5,.own 3 d)] Q=kU s a b c d Q:=rfl
theorem wD (s:zg) (a b c:AV) (d:List AV) (Q:z3):kU s a b c d Q=z5 (zc (z6 s)) (zi (z6 s)) yz [(0,.v a),(1,.v b),(5,.ls 5),(6,.v c)] [(5,.own 3 d)] Q (goX (fun τ ω Q=>zi (z6 s) yz τ ω Q) j7):=yN
abbrev Qs (a:List AV) (Q:z3):Option ji:=some (.exit 0,[(5,.ls 5)],[(5,.own 3 a)],Q)
theorem Kl {β:Type} (call:z7) (lp:zd) (a:List AV) (Q:z3) (k:PK β):z5 call lp kQ [(5,.ls 5)] [(5,.own 3 a)] Q k=(
 k .ret [(4,.ls 5),(27,.ls 5),(5,.ls 5)] [(5,.own 3 a)] Q):=by kernel_rfl
theorem Wp {call:z7} {lp:zd} (a b:AV) (Q:z3):z5 call lp YB [(0,.v a),(1,.v b)] [] Q (zp [.tmp 4] [.o 3])=(
 bnX (lp yz [(0,.v a),(1,.v b),(5,.ls 5),(6,.v (.int .i64 0))] [(5,.own 3 ([]:List AV))] Q) (kx 0 (goC (z5 call lp kQ) (zp [.tmp 4] [.o 3])))):=by kernel_rfl
def Wq {s:zg} (hs:s.lookup 59=none) (a b:AV) (Q:z3):=(zm (E:=z6 s) (f:=59) (fn:=qc) hs rfl [a,b] Q rfl).trans (Wp (call:=zc (z6 s)) (lp:=zi (z6 s)) a b Q)
theorem vz {β:Type} (call:z7) (lp:zd) (a b c d e f g h i j l:AV) (Q:z3) (k:PK β):z5 call lp vw [(0,.v a),(8,.lp 8 0)] [(8,.cells [b,c,d,e,f,g,h,i,j,l])] Q k=(
 bnP (zA a) fun m => 
 bnP (zn 13 m) fun n => 
 bnP (ldQ Q n) fun o => 
 pinB (wE 10 (.agg [b,c,d,e,f,g,h,i,j,l])) <| 
 bnS (z7c Q 10 104 o ([.agg [b,c,d,e,f,g,h,i,j,l]]:List AV)) fun p u => 
 bnP (zA a) fun q => 
 bnP (zn 13 q) fun r => 
 bnS (stA u 1 r p) fun _ w => 
 k .normal [(63,.v r),(62,.v q),(61,.v p),(60,.v (.fz 10 [.agg [b,c,d,e,f,g,h,i,j,l]])),(59,.v (.agg [b,c,d,e,f,g,h,i,j,l])),(58,.v o),(57,.v n),(56,.v m),(55,.v a),(54,.v a),(0,.v a),(8,.lp 8 0)] [(8,.cells [b,c,d,e,f,g,h,i,j,l])] w):=by kernel_rfl
theorem z0h {call:z7} {lp:zd} (a c g h:AV) (Q:z3):z5 call lp X9 [(0,.v a),(1,.v c),(2,.v g),(3,.v h)] [] Q (zp [] [])=(
 bnP (zA a) fun r => 
 bnP (zn 0 r) fun u => 
 bnP (zn 0 u) fun w => 
 bnP (ldQ Q w) fun x => 
 bnP (zA a) fun y => 
 bnP (zn 0 y) fun z => 
 bnP (zn 1 z) fun A => 
 bnP (ldQ Q A) fun B => 
 bnC 10 (vg [.int .i64 0,.int .i64 0,.int .i64 0,.int .i64 0,.int .i64 0,.int .i64 0,.nils,.int .i64 0,.int .i64 0,.str []] [(0,1,c),(1,1,x),(2,1,g),(3,1,B),(7,1,h)]) fun C D E F G H I J K L => 
 bnC 10 (stC 10 (.agg [C,D,E,F,G,H,I,J,K,L])) fun i j l m M N O n o p => 
 bnX (bnP (z9 .eql c (.int .i64 2)) fun d => 
 bnP (gdQ d false (some c)) fun P => 
 bnP (gdQ d false (z9 .eql P (.int .i64 5))) fun R => 
 bnP (zF d (.bool true) R) fun S => 
 zw S (fun _=>bnP (zA a) fun T => 
 bnP (zn 0 T) fun U => 
 bnP (zn 7 U) fun q => 
 bnP (ldQ Q q) fun V => 
 bnP (zA a) fun W => 
 bnP (zn 0 W) fun X => 
 bnP (zn 2 X) fun e => 
 bnP (ldQ Q e) fun Y => 
 bnP (zA a) fun Z => 
 bnP (zn 0 Z) fun aa => 
 bnP (zn 8 aa) fun f => 
 bnP (ldQ Q f) fun ab => 
 bnP (z9 .sub Y ab) fun ac => 
 bnP (zA a) fun ad => 
 bnP (zn 0 ad) fun ae => 
 bnP (zn 6 ae) fun af => 
 bnP (ldQ Q af) fun ag => 
 bnS (call 64 [ag] Q) fun ah b => 
 pinB ((true && Zo Q b q 1) && ((true && Zo Q b e 1) && ((true && Zo Q b f 1) && true))) <| 
 bnC 1 (stC 1 V) fun ai => 
 pinB ((true && Zo Q b e 1) && ((true && Zo Q b f 1) && true)) <| 
 bnC 1 (stC 1 ac) fun aj => 
 bnC 1 (stC 1 (frz ah)) fun ak => 
 some (.normal,[(0,.v a),(8,.lp 8 0)],[(8,.cells [i,j,l,m,ai,aj,ak,n,o,p])],b))
 (fun _=>some (.normal,[(0,.v a),(8,.lp 8 0)],[(8,.cells [i,j,l,m,M,N,O,n,o,p])],Q)))
 (goC (z5 call lp vw) (zp [] []))):=by kernel_rfl
def z0i {s:zg} (hs:s.lookup 61=none) (a b c d:AV) (Q:z3):=(zm (E:=z6 s) (f:=61) (fn:=qC) hs rfl [a,b,c,d] Q rfl).trans (z0h (call:=zc (z6 s)) (lp:=zi (z6 s)) a b c d Q)
theorem xB {β:Type} (call:z7) (lp:zd) (a b c:AV) (d:List AV) (Q:z3) (k:PK β):z5 call lp yp [(0,.ls 0),(1,.v a),(5,.v b),(6,.v c)] [(0,.own 3 d)] Q k=(
 bnP (z9 .add c (.int .i64 1)) fun e => 
 k .normal [(0,.ls 0),(1,.v a),(5,.v b),(6,.v e)] [(0,.own 3 d)] Q):=by kernel_rfl
theorem yr {β:Type} (call:z7) (lp:zd) (d b c:AV) (a:List AV) (Q:z3) (k:PK β):z5 call lp zq [(0,.ls 0),(1,.v d),(5,.v b),(6,.v c)] [(0,.own 3 a)] Q k=(
 bnP (z9 .lss c (.int .i64 ((a:List AV).length:Nat))) fun i => 
 zw i (fun _=>bnX (bnX (bnN (Km (a:List AV).length c) fun i2 => 
 bnC 3 (elN a i2 0 3) fun j l m => 
 bnC 3 (stC 3 (.agg [j,l,m])) fun e f g => 
 bnF d fun f11 f11f f11c => 
 bnS (Y9 call f11 (f11f++[.agg [e,f,g]]++f11c) Q) fun n h => 
 bnP (unA .not (frz n)) fun o => 
 zw o (fun _=>bnN (Km (a:List AV).length b) fun i13 => 
 bnC 3 (stC 3 (.agg [e,f,g])) fun p q r => 
 bnP ((a)[i13]?) fun u=>bnP (z2X u 0 [p,q,r]) fun w => 
 bnP (z9 .add b (.int .i64 1)) fun x => 
 some (.normal,[(0,.ls 0),(1,.v d),(5,.v x),(6,.v c)],[(0,.own 3 ((a).set i13 w))],h))
 (fun _=>some (.normal,[(0,.ls 0),(1,.v d),(5,.v b),(6,.v c)],[(0,.own 3 a)],h)))
 (kx 1 j7))
 (goC (z5 call lp yp) k))
 (fun _=>k (.exit 0) [(0,.ls 0),(5,.v b)] [(0,.own 3 a)] Q)):=by kernel_rfl
noncomputable def yt (s:zg) (a b c:AV) (d:List AV) (Q:z3):Option ji:=zi (z6 s) zq [(0,.ls 0),(1,.v a),(5,.v b),(6,.v c)] [(0,.own 3 d)] Q
theorem y9 (s:zg) (a b c:AV) (d:List AV) (Q:z3):zi (z6 s) zq [(0,.ls 0),(1,.v a),(5,.v b),(6,.v c)] [(0,.own 3 d)] Q=yt s a b c d Q:=rfl
theorem yf (s:zg) (a b c:AV) (d:List AV) (Q:z3):yt s a b c d Q=z5 (zc (z6 s)) (zi (z6 s)) zq [(0,.ls 0),(1,.v a),(5,.v b),(6,.v c)] [(0,.own 3 d)] Q (goX (fun τ ω Q=>zi (z6 s) zq τ ω Q) j7):=yN
abbrev jK (a:AV) (b:List AV) (Q:z3):Option ji:=some (.exit 0,[(0,.ls 0),(5,.v a)],[(0,.own 3 b)],Q)
theorem ku {β:Type} (call:z7) (lp:zd) (a:AV) (b:List AV) (Q:z3) (k:PK β):z5 call lp yq [(0,.ls 0),(5,.v a)] [(0,.own 3 b)] Q k=(
 bnN (Km (b:List AV).length a) fun i1 => 
 bnP (QW 3 (.fz 3 ((b).take i1++List.replicate ((b).length - i1) (mkE [.int .i64 0,.int .i64 0,.int .i64 0]))) none (some a)) fun c => 
 k .ret [(4,.v c),(41,.v c),(39,.v (.fz 3 ((b).take i1++List.replicate ((b).length - i1) (mkE [.int .i64 0,.int .i64 0,.int .i64 0])))),(40,.v a),(39,.v z4),(38,.v z4),(37,.v a),(36,.v z4),(0,.v z4),(5,.v a)] [] Q):=by kernel_rfl
theorem v9 {call:z7} {lp:zd} (a:List AV) (c:AV) (Q:z3):z5 call lp xR [(0,.ls 0),(1,.v c)] [(0,.own 3 a)] Q (zp [.tmp 4] [.f 3])=(
 bnS (call 75 [.fz 3 a,c] ⟨Q.size,.leaf⟩) fun b _=>pinB (wK b) <| 
 bnP (z9 .eql b (.int .i64 (-1))) fun d => 
 zw d (fun _=>some (.fz 3 a,Q))
 (fun _=>bnP (z9 .add b (.int .i64 1)) fun e => 
 bnX (lp zq [(0,.ls 0),(1,.v c),(5,.v b),(6,.v e)] [(0,.own 3 a)] Q) (kx 0 (goC (z5 call lp yq) (zp [.tmp 4] [.f 3]))))):=by kernel_rfl
def vc {s:zg} (hs:s.lookup 1000066=none) (a:List AV) (b:AV) (Q:z3):=(z8G (E:=z6 s) (f:=1000066) (fn:=zJ) hs rfl rfl a b Q rfl).trans (v9 (call:=zc (z6 s)) (lp:=zi (z6 s)) a b Q)
theorem z5v {call:z7} {lp:zd} (a b:AV) (Q:z3):z5 call lp z0U [(0,.v a),(1,.v b)] [] Q (zp [.cell 4 (some 3),.tmp 5] [.n,.n])=(
 bnS (call 76 [a,b] Q) fun c d => 
 bnP (xf (frz c) 0) fun e => 
 bnP (xf (frz c) 1) fun f => 
 bnP (unA .not f) fun g => 
 zw g (fun _=>some (.tup [.agg [.int .i64 0,.int .i64 0,.int .i64 0],.bool false],d))
 (fun _=>bnP (elQ 3 a e) fun h => 
 bnC 3 (cut (AV.cells h) 0 3) fun i j l => 
 bnC 3 (stC 3 (.agg [i,j,l])) fun m o p => 
 some (.tup [.agg [m,o,p],.bool true],d))):=by kernel_rfl
def z5w {s:zg} (hs:s.lookup 68=none) (a b:AV) (Q:z3):=(zm (E:=z6 s) (f:=68) (fn:=wr) hs rfl [a,b] Q rfl).trans (z5v (call:=zc (z6 s)) (lp:=zi (z6 s)) a b Q)
theorem x5 {β:Type} (call:z7) (lp:zd) (c e g:AV) (Q:z3) (k:PK β):z5 call lp wt [(0,.v c),(1,.v e),(5,.v g)] [] Q k=(
 bnP (zA c) fun j => 
 bnP (zn 0 j) fun l => 
 bnP (zn 12 l) fun m => 
 bnP (ldQ Q m) fun n => 
 bnS (call 68 [n,e] Q) fun f o => 
 bnP (xf (frz f) 0) fun p => 
 bnP (xf (frz f) 1) fun h => 
 bnC 3 (stC 3 p) fun ad ae af => 
 bnP (zA c) fun q => 
 bnP (zn 0 q) fun r => 
 bnC 13 (xQ o 13 r) fun u w x y z A B C D E F G H => 
 bnS (call 25 [.agg [u,w,x,y,z,A,B,C,D,E,F,G,H]] o) fun a i => 
 bnP (gdQ (frz a) true (some c)) fun I => 
 bnP (gdQ (frz a) true (zA I)) fun J => 
 bnP (gdQ (frz a) true (zn 0 J)) fun K => 
 bnP (gdQ (frz a) true (zn 6 K)) fun L => 
 bnP (gdQ (frz a) true (ldQ i L)) fun M => 
 bnP (gdQ (frz a) true (some e)) fun N => 
 bnS (gdH (frz a) true (call 77 [M,N] i) i) fun O P => 
 bnP (gdQ (frz a) true (unA .not (frz O))) fun R => 
 bnP (zF (frz a) R (.bool false)) fun d => 
 bnP (gdQ d true (some h)) fun S => 
 bnP (gdQ d true (some S)) fun b => 
 bnP (gdQ b false (some c)) fun T => 
 bnP (gdQ b false (zA T)) fun U => 
 bnP (gdQ b false (zn 0 U)) fun V => 
 bnP (gdQ b false (zn 12 V)) fun W => 
 bnP (gdQ b false (ldQ P W)) fun X => 
 bnP (gdQ b false (km X)) fun Y => 
 bnP (gdQ b false (some g)) fun Z => 
 bnP (gdQ b false (z9 .lss Y Z)) fun aa => 
 bnP (gdQ d true (zF b (.bool true) aa)) fun ab => 
 bnP (zF d ab (.bool false)) fun ac => 
 k .ret [(4,.v ac),(51,.v ac),(50,.v ab),(49,.v aa),(48,.v Z),(47,.v Y),(46,.v X),(45,.v W),(44,.v V),(43,.v U),(42,.v T),(41,.v b),(40,.v S),(39,.v d),(38,.v d),(37,.v R),(36,.v (frz O)),(35,.v N),(34,.v M),(33,.v L),(32,.v K),(31,.v J),(30,.v I),(29,.v (frz a)),(28,.v (frz a)),(27,.v (.agg [u,w,x,y,z,A,B,C,D,E,F,G,H])),(26,.v r),(25,.v q),(24,.v c),(7,.v h),(6,.lp 6 0),(23,.v h),(22,.v p),(14,.v (frz f)),(21,.v (frz f)),(20,.v e),(19,.v n),(18,.v m),(17,.v l),(16,.v j),(15,.v c),(0,.v c),(1,.v e),(5,.v g)] [(6,.cells [ad,ae,af])] P):=by kernel_rfl
theorem z1n {call:z7} {lp:zd} (a b:AV) (Q:z3):z5 call lp QK [(0,.v a),(1,.v b)] [] Q (zp [.tmp 4] [.n])=(
 bnX (bnP (zA a) fun c => 
 bnP (zn 0 c) fun d => 
 bnP (zn 0 d) fun e => 
 bnP (ldQ Q e) fun f => 
 bnP (z9 .eql f (.int .i64 1)) fun g => 
 zw g (fun _=>some (.normal,[(0,.v a),(1,.v b),(5,.v (.int .i64 8))],[],Q))
 (fun _=>some (.normal,[(0,.v a),(1,.v b),(5,.v (.int .i64 3))],[],Q)))
 (goC (z5 call lp wt) (zp [.tmp 4] [.n]))):=by kernel_rfl
def z1o {s:zg} (hs:s.lookup 69=none) (a b:AV) (Q:z3):=(zm (E:=z6 s) (f:=69) (fn:=je) hs rfl [a,b] Q rfl).trans (z1n (call:=zc (z6 s)) (lp:=zi (z6 s)) a b Q)
theorem z0j {call:z7} {lp:zd} (a b c d e f g h i j l:AV) (Q:z3):z5 call lp Xa [(0,.v a),(1,.v (.agg [b,c,d,e,f,g,h,i,j,l]))] [] Q (zp [] [])=(
 bnC 10 (stC 10 (.agg [b,c,d,e,f,g,h,i,j,l])) fun J n K o L M N O P R => 
 bnP (zA a) fun p => 
 bnP (zn 0 p) fun q => 
 bnP (zn 12 q) fun r => 
 bnP (ldQ Q r) fun u => 
 bnP (zA a) fun w => 
 bnP (zn 0 w) fun x => 
 bnP (zn 2 x) fun y => 
 bnP (ldQ Q y) fun z => 
 bnC 3 (vg [.int .i64 0,.int .i64 0,.int .i64 0] [(0,1,n),(1,1,o),(2,1,z)]) fun A B C => 
 bnS (call 78 [u,.agg [A,B,C]] Q) fun m D => 
 bnP (xf (frz m) 0) fun E => 
 bnP (xf (frz m) 1) fun S => 
 bnP (zA a) fun F => 
 bnP (zn 0 F) fun G => 
 bnP (zn 12 G) fun H => 
 bnS (stA D 1 H E) fun _ I => 
 some (.tup [],I)):=by kernel_rfl
def z0k {s:zg} (hs:s.lookup 70=none) (a b c d e g h i j l m:AV) (Q:z3):=(zm (E:=z6 s) (f:=70) (fn:=qD) hs rfl [a,.agg [b,c,d,e,g,h,i,j,l,m]] Q rfl).trans (z0j (call:=zc (z6 s)) (lp:=zi (z6 s)) a b c d e g h i j l m Q)
theorem z6X {call:z7} {lp:zd} (d a:AV) (Q:z3):z5 call lp z1X [(0,.v d),(1,.v a)] [] Q (zp [.tmp 4,.tmp 5] [.f 1,.n])=(
 bnS (call 64 [d] Q) fun g b=>bnL (owZ 1 g) fun c => 
 pinB (wE 1 a) <| 
 pinB (room 8 ((c:List AV).length+(([a]:List AV):List AV).length)) <| 
 bnS (call 79 [.fz 1 (c++([a]:List AV))] ⟨b.size,.leaf⟩) fun e _=>pinB (wK e) <| 
 bnP (unA .not e) fun h => 
 zw h (fun _=>some (.tup [.fz 1 [],.bool false],b))
 (fun _=>some (.tup [.fz 1 (c++([a]:List AV)),.bool true],b))):=by kernel_rfl
def z6Y {s:zg} (hs:s.lookup 71=none) (a b:AV) (Q:z3):=(zm (E:=z6 s) (f:=71) (fn:=Zc) hs rfl [a,b] Q rfl).trans (z6X (call:=zc (z6 s)) (lp:=zi (z6 s)) a b Q)
theorem z22 {call:z7} {lp:zd} (a c d e f g h i j l m n:AV) (Q:z3):z5 call lp Jb [(0,.v a),(1,.v (.agg [c,d,e,f,g,h,i,j,l,m])),(2,.v n)] [] Q (zp [] [])=(
 bnC 10 (stC 10 (.agg [c,d,e,f,g,h,i,j,l,m])) fun K L M N O P o R S T => 
 bnS (call 80 [o] Q) fun p q => 
 bnP (zA a) fun r => 
 bnP (zn 0 r) fun u => 
 bnP (zn 6 u) fun w => 
 bnS (stA q 1 w n) fun _ x => 
 bnP (zA a) fun y => 
 bnP (zn 0 y) fun z => 
 bnP (zn 5 z) fun A => 
 bnS (stA x 1 A (frz p)) fun _ b => 
 bnP (zA a) fun B => 
 bnP (zn 0 B) fun C => 
 bnP (zn 5 C) fun D => 
 bnP (ldQ b D) fun E => 
 bnP (z9 .eql E (.int .i64 0)) fun F => 
 zw F (fun _=>bnP (zA a) fun G => 
 bnP (zn 0 G) fun H => 
 bnP (zn 5 H) fun I => 
 bnS (stA b 1 I (.int .i64 1)) fun _ J => 
 some (.tup [],J))
 (fun _=>some (.tup [],b))):=by kernel_rfl
def z23 {s:zg} (hs:s.lookup 72=none) (a b c d e g h i j l m n:AV) (Q:z3):=(zm (E:=z6 s) (f:=72) (fn:=ju) hs rfl [a,.agg [b,c,d,e,g,h,i,j,l,m],n] Q rfl).trans (z22 (call:=zc (z6 s)) (lp:=zi (z6 s)) a b c d e g h i j l m n Q)
theorem z2T {call:z7} {lp:zd} (a b c d:AV) (Q:z3):z5 call lp Kv [(0,.v (.agg [a,b,c])),(1,.v d)] [] Q (zp [.tmp 3] [.n])=(
 bnC 3 (stC 3 (.agg [a,b,c])) fun e i j => 
 bnP (ldQ Q d) fun f => 
 bnP (z9 .eql e f) fun g => 
 bnP (rcv false .n g) fun h=>some (h,Q)):=by kernel_rfl
def z2U {s:zg} (hs:s.lookup 73=none) (a b c d:AV) (Q:z3):=(zm (E:=z6 s) (f:=73) (fn:=ke) hs rfl [.agg [a,b,c],d] Q rfl).trans (z2T (call:=zc (z6 s)) (lp:=zi (z6 s)) a b c d Q)
theorem Vp {call:z7} {lp:zd} (a:AV) (Q:z3):z5 call lp Y2 [(0,.v a)] [] Q (zp [.tmp 2] [.n])=(
 bnP (km a) fun b => 
 bnP (z9 .lss b (.int .i64 2)) fun c => 
 zw c (fun _=>some (.int .i64 0,Q))
 (fun _=>bnP (km a) fun d => 
 bnP (z9 .sub d (.int .i64 2)) fun e => 
 bnP (elQ 1 a e) fun f => 
 bnP ((AV.cells f)[0]?) fun g => 
 bnP (rcv false .n g) fun h=>some (h,Q))):=by kernel_rfl
def Vq {s:zg} (hs:s.lookup 74=none) (a:AV) (Q:z3):=(zm (E:=z6 s) (f:=74) (fn:=xJ) hs rfl [a] Q rfl).trans (Vp (call:=zc (z6 s)) (lp:=zi (z6 s)) a Q)
theorem xK {β:Type} (call:z7) (lp:zd) (b c d a:AV) (Q:z3) (k:PK β):z5 call lp zr [(0,.v b),(1,.v c),(7,.v d),(8,.v a)] [] Q k=(
 bnP (z9 .lss a d) fun f => 
 zw f (fun _=>bnP (elQ 3 b a) fun g => 
 bnC 3 (cut (AV.cells g) 0 3) fun h i j => 
 bnF c fun f8 f8f f8c => 
 bnS (Y9 call f8 (f8f++[.agg [h,i,j]]++f8c) Q) fun l e => 
 zw (frz l) (fun _=>k .ret [(4,.v a)] [] e)
 (fun _=>bnP (z9 .add a (.int .i64 1)) fun m => 
 k .normal [(0,.v b),(1,.v c),(7,.v d),(8,.v m)] [] e))
 (fun _=>k (.exit 0) [] [] Q)):=by kernel_rfl
noncomputable def yB (s:zg) (a b c d:AV) (Q:z3):Option ji:=zi (z6 s) zr [(0,.v a),(1,.v b),(7,.v c),(8,.v d)] [] Q
theorem yb (s:zg) (a b c d:AV) (Q:z3):zi (z6 s) zr [(0,.v a),(1,.v b),(7,.v c),(8,.v d)] [] Q=yB s a b c d Q:=rfl
theorem xm (s:zg) (a b c d:AV) (Q:z3):yB s a b c d Q=z5 (zc (z6 s)) (zi (z6 s)) zr [(0,.v a),(1,.v b),(7,.v c),(8,.v d)] [] Q (goX (fun τ ω Q=>zi (z6 s) zr τ ω Q) j7):=yN
abbrev jS (Q:z3):Option ji:=some (.exit 0,[],[],Q)
abbrev jL (a:AV) (Q:z3):Option ji:=some (.ret,[(4,.v a)],[],Q)
theorem kV {β:Type} (call:z7) (lp:zd) (Q:z3) (k:PK β):z5 call lp yA [] [] Q k=(
 k .ret [(4,.v (.int .i64 (-1)))] [] Q):=by kernel_rfl
theorem vA {call:z7} {lp:zd} (a b:AV) (Q:z3):z5 call lp qd [(0,.v a),(1,.v b)] [] Q (zp [.tmp 4] [.n])=(
 bnP (km a) fun c => 
 bnX (lp zr [(0,.v a),(1,.v b),(7,.v c),(8,.v (.int .i64 0))] [] Q) (kx 0 (goC (z5 call lp yA) (zp [.tmp 4] [.n])))):=by kernel_rfl
def vB {s:zg} (hs:s.lookup 75=none) (a b:AV) (Q:z3):=(zm (E:=z6 s) (f:=75) (fn:=zL) hs rfl [a,b] Q rfl).trans (vA (call:=zc (z6 s)) (lp:=zi (z6 s)) a b Q)
theorem z4l {call:z7} {lp:zd} (a b:AV) (Q:z3):z5 call lp VT [(0,.v a),(1,.v b)] [] Q (zp [.tmp 4,.tmp 5] [.n,.n])=(
 bnS (call 81 [a,b,.fn 82 [] []] Q) fun c d => 
 bnP (xf (frz c) 0) fun e => 
 bnP (xf (frz c) 1) fun f => 
 bnP (rcv false .n e) fun g=>bnP (rcv false .n f) fun h=>some (.tup [frz g,frz h],d)):=by kernel_rfl
def z4m {s:zg} (hs:s.lookup 76=none) (a b:AV) (Q:z3):=(zm (E:=z6 s) (f:=76) (fn:=kX) hs rfl [a,b] Q rfl).trans (z4l (call:=zc (z6 s)) (lp:=zi (z6 s)) a b Q)
theorem z6Z {call:z7} {lp:zd} (a b:AV) (Q:z3):z5 call lp z1Y [(0,.v a),(1,.v b)] [] Q (zp [.tmp 4] [.n])=(
 bnS (call 84 [a,b] Q) fun c d => 
 bnP (rcv false .n (frz c)) fun e=>some (e,d)):=by kernel_rfl
def z70 {s:zg} (hs:s.lookup 77=none) (a b:AV) (Q:z3):=(zm (E:=z6 s) (f:=77) (fn:=Zd) hs rfl [a,b] Q rfl).trans (z6Z (call:=zc (z6 s)) (lp:=zi (z6 s)) a b Q)
theorem z5x {call:z7} {lp:zd} (c g h i:AV) (Q:z3):z5 call lp z0V [(0,.v c),(1,.v (.agg [g,h,i]))] [] Q (zp [.tmp 4,.tmp 5] [.f 3,.n])=(
 bnC 3 (stC 3 (.agg [g,h,i])) fun a d e => 
 bnS (call 65 [c] Q) fun p q=>bnL (owZ 3 p) fun b => 
 bnS (call 48 [c,a,d] q) fun r j => 
 zw (frz r) (fun _=>some (.tup [.fz 3 b,.bool false],j))
 (fun _=>bnS (call 76 [c,a] j) fun l m => 
 bnP (xf (frz l) 0) fun o => 
 bnP (xf (frz l) 1) fun u => 
 zw u (fun _=>bnN (Km (b:List AV).length o) fun i13 => 
 bnC 3 (stC 3 (.agg [a,d,e])) fun w x y => 
 bnP ((b)[i13]?) fun z=>bnP (z2X z 0 [w,x,y]) fun A => 
 some (.tup [.fz 3 ((b).set i13 A),.bool true],m))
 (fun _=>pinB (wE 3 (.agg [a,d,e])) <| 
 bnS (call 1000085 [.ow 3 b,o,.lt 3 [.agg [a,d,e]]] m) fun B C=>bnL (owZ 3 B) fun D => 
 some (.tup [.fz 3 D,.bool true],C)))):=by kernel_rfl
def z5y {s:zg} (hs:s.lookup 78=none) (a b c d:AV) (Q:z3):=(zm (E:=z6 s) (f:=78) (fn:=wu) hs rfl [a,.agg [b,c,d]] Q rfl).trans (z5x (call:=zc (z6 s)) (lp:=zi (z6 s)) a b c d Q)
theorem z71 {call:z7} {lp:zd} (a:AV) (Q:z3):z5 call lp z1Z [(0,.v a)] [] Q (zp [.tmp 2] [.n])=(
 bnS (call 86 [a] Q) fun c d => 
 bnP (z0D 101 (.agg [.int .i64 0]) true (frz c)) fun b => 
 bnP (xf b 0) fun e => 
 bnP (xf b 1) fun f => 
 bnC 1 (stC 1 e) fun i => 
 bnP (unA .not f) fun g => 
 bnP (rcv false .n g) fun h=>some (h,d)):=by kernel_rfl
def z72 {s:zg} (hs:s.lookup 79=none) (a:AV) (Q:z3):=(zm (E:=z6 s) (f:=79) (fn:=Ze) hs rfl [a] Q rfl).trans (z71 (call:=zc (z6 s)) (lp:=zi (z6 s)) a Q)
theorem z4n {call:z7} {lp:zd} (a:AV) (Q:z3):z5 call lp VU [(0,.v a)] [] Q (zp [.tmp 2] [.n])=(
 bnP (km a) fun b => 
 bnP (z9 .lss b (.int .i64 2)) fun c => 
 zw c (fun _=>some (.int .i64 0,Q))
 (fun _=>bnP (km a) fun d => 
 bnP (z9 .sub d (.int .i64 2)) fun e => 
 bnP (elQ 1 a e) fun f => 
 bnP ((AV.cells f)[0]?) fun g => 
 bnP (rcv false .n g) fun h=>some (h,Q))):=by kernel_rfl
def z4o {s:zg} (hs:s.lookup 80=none) (a:AV) (Q:z3):=(zm (E:=z6 s) (f:=80) (fn:=kY) hs rfl [a] Q rfl).trans (z4n (call:=zc (z6 s)) (lp:=zi (z6 s)) a Q)
theorem yC {β:Type} (call:z7) (lp:zd) (a b c e d f:AV) (Q:z3) (k:PK β):z5 call lp zk [(0,.v a),(1,.v b),(2,.v c),(8,.v e),(9,.v d),(10,.v f)] [] Q k=(
 bnP (z9 .lss d f) fun i => 
 zw i (fun _=>bnX (bnP (z9 .add d f) fun j => 
 bnP (z0C .u64 j) fun l => 
 bnP (z9 .shr l (.int .u64 1)) fun m => 
 bnP (z0C .i64 m) fun g => 
 bnP (elQ 3 a g) fun n => 
 bnC 3 (cut (AV.cells n) 0 3) fun o p q => 
 bnF c fun f12 f12f f12c => 
 bnS (Y9 call f12 (f12f++[.agg [o,p,q],b]++f12c) Q) fun r h => 
 bnP (z9 .lss (frz r) (.int .i64 0)) fun u => 
 zw u (fun _=>bnP (z9 .add g (.int .i64 1)) fun w => 
 some (.normal,[(0,.v a),(1,.v b),(2,.v c),(8,.v e),(9,.v w),(10,.v f)],[],h))
 (fun _=>some (.normal,[(0,.v a),(1,.v b),(2,.v c),(8,.v e),(9,.v d),(10,.v g)],[],h)))
 (kx 1 (QZ [] [] [0,1,2,8,9,10] [] k)))
 (fun _=>k (.exit 0) [(0,.v a),(1,.v b),(2,.v c),(8,.v e),(9,.v d)] [] Q)):=by kernel_rfl
noncomputable def zS (s:zg) (a b c d e f:AV) (Q:z3):Option ji:=zi (z6 s) zk [(0,.v a),(1,.v b),(2,.v c),(8,.v d),(9,.v e),(10,.v f)] [] Q
theorem zx (s:zg) (a b c d e f:AV) (Q:z3):zi (z6 s) zk [(0,.v a),(1,.v b),(2,.v c),(8,.v d),(9,.v e),(10,.v f)] [] Q=zS s a b c d e f Q:=rfl
theorem yo (s:zg) (a b c d e f:AV) (Q:z3):zS s a b c d e f Q=z5 (zc (z6 s)) (zi (z6 s)) zk [(0,.v a),(1,.v b),(2,.v c),(8,.v d),(9,.v e),(10,.v f)] [] Q (goX (fun τ ω Q=>zi (z6 s) zk τ ω Q) j7):=yN
abbrev qf (a b c d e:AV) (Q:z3):Option ji:=some (.exit 0,[(0,.v a),(1,.v b),(2,.v c),(8,.v d),(9,.v e)],[],Q)
theorem qF {β:Type} (call:z7) (lp:zd) (d e f c b:AV) (Q:z3) (k:PK β):z5 call lp zR [(0,.v d),(1,.v e),(2,.v f),(8,.v c),(9,.v b)] [] Q k=(
 bnP (z9 .lss b c) fun a => 
 bnP (gdQ a true (some f)) fun g => 
 bnP (gdQ a true (some d)) fun h => 
 bnP (gdQ a true (some b)) fun i => 
 bnP (gdQ a true (elQ 3 h i)) fun j => 
 bnP (gdQ a true ((cut (AV.cells j) 0 3).map AV.agg)) fun l => 
 bnP (gdQ a true (some e)) fun m => 
 bnS (gdH a true (bnF g fun f10 f10f f10c=>Y9 call f10 (f10f++[l,m]++f10c) Q) Q) fun n q => 
 bnP (gdQ a true (z9 .eql (frz n) (.int .i64 0))) fun o => 
 bnP (zF a o (.bool false)) fun p => 
 k .ret [(7,.v p),(6,.v b),(48,.v p),(47,.v o),(46,.v (frz n)),(45,.v m),(44,.v l),(43,.gd 39 true (.fp j 0)),(42,.v i),(41,.v h),(40,.v g),(39,.v a),(38,.v a),(37,.v c),(36,.v b),(35,.v b),(0,.v d),(1,.v e),(2,.v f),(8,.v c),(9,.v b)] [] q):=by kernel_rfl
theorem j4 {call:z7} {lp:zd} (a b c:AV) (Q:z3):z5 call lp yJ [(0,.v a),(1,.v b),(2,.v c)] [] Q (zp [.tmp 6,.tmp 7] [.n,.n])=(
 bnP (km a) fun d => 
 bnX (lp zk [(0,.v a),(1,.v b),(2,.v c),(8,.v d),(9,.v (.int .i64 0)),(10,.v d)] [] Q) (kx 0 (goC (z5 call lp zR) (zp [.tmp 6,.tmp 7] [.n,.n])))):=by kernel_rfl
def j5 {s:zg} (hs:s.lookup 81=none) (a b c:AV) (Q:z3):=(zm (E:=z6 s) (f:=81) (fn:=zt) hs rfl [a,b,c] Q rfl).trans (j4 (call:=zc (z6 s)) (lp:=zi (z6 s)) a b c Q)
theorem z24 {call:z7} {lp:zd} (a b c d:AV) (Q:z3):z5 call lp Jc [(0,.v (.agg [a,b,c])),(1,.v d)] [] Q (zp [.tmp 4] [.n])=(
 bnC 3 (stC 3 (.agg [a,b,c])) fun e i j => 
 bnS (call 83 [e,d] Q) fun f g => 
 bnP (rcv false .n (frz f)) fun h=>some (h,g)):=by kernel_rfl
def z25 {s:zg} (hs:s.lookup 82=none) (a b c d:AV) (Q:z3):=(zm (E:=z6 s) (f:=82) (fn:=jv) hs rfl [.agg [a,b,c],d] Q rfl).trans (z24 (call:=zc (z6 s)) (lp:=zi (z6 s)) a b c d Q)
theorem Wr {call:z7} {lp:zd} (b c:AV) (Q:z3):z5 call lp YC [(0,.v b),(1,.v c)] [] Q (zp [.tmp 4] [.n])=(
 bnS (call 87 [b] Q) fun e f => 
 bnS (call 87 [c] f) fun d a => 
 zw (frz e) (fun _=>zw (frz d) (fun _=>some (.int .i64 0,a))
 (fun _=>some (.int .i64 (-1),a)))
 (fun _=>zw (frz d) (fun _=>some (.int .i64 1,a))
 (fun _=>bnP (z9 .lss b c) fun g => 
 zw g (fun _=>some (.int .i64 (-1),a))
 (fun _=>bnP (z9 .gtr b c) fun h => 
 zw h (fun _=>some (.int .i64 1,a))
 (fun _=>some (.int .i64 0,a)))))):=by kernel_rfl
def Ws {s:zg} (hs:s.lookup 83=none) (a b:AV) (Q:z3):=(zm (E:=z6 s) (f:=83) (fn:=qe) hs rfl [a,b] Q rfl).trans (Wr (call:=zc (z6 s)) (lp:=zi (z6 s)) a b Q)
theorem Yl {call:z7} {lp:zd} (a b:AV) (Q:z3):z5 call lp kF [(0,.v a),(1,.v b)] [] Q (zp [.tmp 4] [.n])=(
 bnS (call 88 [a,b] Q) fun c d => 
 bnP (z9 .geq (frz c) (.int .i64 0)) fun e => 
 bnP (rcv false .n e) fun f=>some (f,d)):=by kernel_rfl
def Ym {s:zg} (hs:s.lookup 84=none) (a b:AV) (Q:z3):=(zm (E:=z6 s) (f:=84) (fn:=yn) hs rfl [a,b] Q rfl).trans (Yl (call:=zc (z6 s)) (lp:=zi (z6 s)) a b Q)
theorem Kw {β:Type} (call:z7) (lp:zd) (c d e a:AV) (Q:z3) (k:PK β):z5 call lp qO [(0,.v c),(21,.v d),(22,.v e),(23,.v a)] [] Q k=(
 bnP (z9 .lss a e) fun i => 
 zw i (fun _=>bnP (elQ 1 d a) fun j => 
 bnP ((AV.cells j)[0]?) fun f => 
 bnP (z9 .lss f (.int .i64 1)) fun g => 
 bnP (gdQ g false (some f)) fun l => 
 bnP (gdQ g false (z9 .gtr l (.int .i64 8))) fun m => 
 bnP (zF g (.bool true) m) fun b => 
 bnP (gdQ b false (some c)) fun n => 
 bnP (gdQ b false (some a)) fun o => 
 bnP (gdQ b false (QW 1 n none (some o))) fun p => 
 bnP (gdQ b false (some f)) fun q => 
 bnS (gdH b false (call 84 [p,q] Q) Q) fun r h => 
 bnP (zF b (.bool true) (frz r)) fun u => 
 zw u (fun _=>bnC 1 (vg [.int .i64 0] [(0,1,a)]) fun w => 
 k .ret [(2,.v (.ifc 101 (.agg [w])))] [] h)
 (fun _=>bnP (z9 .add a (.int .i64 1)) fun x => 
 k .normal [(0,.v c),(21,.v d),(22,.v e),(23,.v x)] [] h))
 (fun _=>k (.exit 0) [] [] Q)):=by kernel_rfl
noncomputable def wY (s:zg) (a b c d:AV) (Q:z3):Option ji:=zi (z6 s) qO [(0,.v a),(21,.v b),(22,.v c),(23,.v d)] [] Q
theorem jp (s:zg) (a b c d:AV) (Q:z3):zi (z6 s) qO [(0,.v a),(21,.v b),(22,.v c),(23,.v d)] [] Q=wY s a b c d Q:=rfl
theorem Xx (s:zg) (a b c d:AV) (Q:z3):wY s a b c d Q=z5 (zc (z6 s)) (zi (z6 s)) qO [(0,.v a),(21,.v b),(22,.v c),(23,.v d)] [] Q (goX (fun τ ω Q=>zi (z6 s) qO τ ω Q) j7):=yN
abbrev z0l (Q:z3):Option ji:=some (.exit 0,[],[],Q)
abbrev Wt (a:AV) (Q:z3):Option ji:=some (.ret,[(2,.v a)],[],Q)
theorem z2V {β:Type} (call:z7) (lp:zd) (Q:z3) (k:PK β):z5 call lp YL [] [] Q k=(
 k .ret [(2,.v .nilifc)] [] Q):=by kernel_rfl
theorem z5z {call:z7} {lp:zd} (a:AV) (Q:z3):z5 call lp z0W [(0,.v a)] [] Q (zp [.tmp 2] [.n])=(
 bnP (km a) fun d => 
 bnP (z9 .lss d (.int .i64 1)) fun c => 
 bnP (gdQ c false (some a)) fun e => 
 bnP (gdQ c false (km e)) fun f => 
 bnP (gdQ c false (z9 .gtr f (.int .i64 10))) fun g => 
 bnP (zF c (.bool true) g) fun b => 
 bnP (gdQ b false (some a)) fun h => 
 bnP (gdQ b false (elQ 1 h (.int .i64 0))) fun i => 
 bnP (gdQ b false ((AV.cells i)[0]?)) fun j => 
 bnP (gdQ b false (z9 .neq j (.int .i64 1))) fun l => 
 bnP (zF b (.bool true) l) fun m => 
 zw m (fun _=>some (.ifc 101 (.agg [.int .i64 0]),Q))
 (fun _=>bnP (km a) fun o => 
 bnX (lp qO [(0,.v a),(21,.v a),(22,.v o),(23,.v (.int .i64 0))] [] Q) (kx 0 (goC (z5 call lp YL) (zp [.tmp 2] [.n]))))):=by kernel_rfl
def z5A {s:zg} (hs:s.lookup 86=none) (a:AV) (Q:z3):=(zm (E:=z6 s) (f:=86) (fn:=ww) hs rfl [a] Q rfl).trans (z5z (call:=zc (z6 s)) (lp:=zi (z6 s)) a Q)
theorem z1p {call:z7} {lp:zd} (a:AV) (Q:z3):z5 call lp QL [(0,.v a)] [] Q (zp [.tmp 2] [.n])=(
 bnP (z9 .neq a a) fun b => 
 bnP (rcv false .n b) fun c=>some (c,Q)):=by kernel_rfl
def z1q {s:zg} (hs:s.lookup 87=none) (a:AV) (Q:z3):=(zm (E:=z6 s) (f:=87) (fn:=jf) hs rfl [a] Q rfl).trans (z1p (call:=zc (z6 s)) (lp:=zi (z6 s)) a Q)
theorem vd {β:Type} (call:z7) (lp:zd) (b c d a:AV) (Q:z3) (k:PK β):z5 call lp zV [(0,.v b),(1,.v c),(7,.v d),(8,.v a)] [] Q k=(
 bnP (z9 .lss a d) fun e => 
 zw e (fun _=>bnP (elQ 1 b a) fun f => 
 bnP ((AV.cells f)[0]?) fun g => 
 bnP (z9 .eql c g) fun h => 
 zw h (fun _=>k .ret [(4,.v a)] [] Q)
 (fun _=>bnP (z9 .add a (.int .i64 1)) fun i => 
 k .normal [(0,.v b),(1,.v c),(7,.v d),(8,.v i)] [] Q))
 (fun _=>k (.exit 0) [] [] Q)):=by kernel_rfl
noncomputable def xr (s:zg) (a b c d:AV) (Q:z3):Option ji:=zi (z6 s) zV [(0,.v a),(1,.v b),(7,.v c),(8,.v d)] [] Q
theorem yD (s:zg) (a b c d:AV) (Q:z3):zi (z6 s) zV [(0,.v a),(1,.v b),(7,.v c),(8,.v d)] [] Q=xr s a b c d Q:=rfl
theorem jO (s:zg) (a b c d:AV) (Q:z3):xr s a b c d Q=z5 (zc (z6 s)) (zi (z6 s)) zV [(0,.v a),(1,.v b),(7,.v c),(8,.v d)] [] Q (goX (fun τ ω Q=>zi (z6 s) zV τ ω Q) j7):=yN
abbrev ZK (Q:z3):Option ji:=some (.exit 0,[],[],Q)
abbrev Zx (a:AV) (Q:z3):Option ji:=some (.ret,[(4,.v a)],[],Q)
theorem YV {β:Type} (call:z7) (lp:zd) (Q:z3) (k:PK β):z5 call lp qP [] [] Q k=(
 k .ret [(4,.v (.int .i64 (-1)))] [] Q):=by kernel_rfl
theorem Qt {call:z7} {lp:zd} (a b:AV) (Q:z3):z5 call lp wx [(0,.v a),(1,.v b)] [] Q (zp [.tmp 4] [.n])=(
 bnP (km a) fun c => 
 bnX (lp zV [(0,.v a),(1,.v b),(7,.v c),(8,.v (.int .i64 0))] [] Q) (kx 0 (goC (z5 call lp qP) (zp [.tmp 4] [.n])))):=by kernel_rfl
def Qu {s:zg} (hs:s.lookup 88=none) (a b:AV) (Q:z3):=(zm (E:=z6 s) (f:=88) (fn:=yT) hs rfl [a,b] Q rfl).trans (Qt (call:=zc (z6 s)) (lp:=zi (z6 s)) a b Q)
end Go.Proofs.Ytdbbdfmkglgjdaa.Pi
