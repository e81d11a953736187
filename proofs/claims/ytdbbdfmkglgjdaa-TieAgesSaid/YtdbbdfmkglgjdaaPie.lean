/- Equations by values. Printed by mkpv.py of this repo. -/
import Derived.Test.YtdbbdfmkglgjdaaPid
import Derived.Test.YtdbbdfmkglgjdaaPvE
namespace Go.Proofs.Ytdbbdfmkglgjdaa.Pi
open Go.Ab
set_option maxRecDepth 100000
set_option linter.unusedVariables false
set_option linter.unusedSimpArgs false
set_option linter.defProp false
theorem vt {β : Type} (call : z6) (lp : ze) (i c d j l m n o p q r u w x y z A B f g C D E F h G H I J : AV) (Q : z3) (k : PK β) : z5 call lp zT [(6, .lp 6 0), (7, .v i), (10, .lp 10 0), (11, .v c), (12, .v d)] [(6, .cells [j, l, m, n, o, p, q, r, u, w, x, y, z]), (10, .cells [A, B, f, g, C, D, E, F, h, G, H, I, J])] Q k = (
 bnP (Zs c) fun K => 
 bnP (zc .lss d K) fun L => 
 zF L (fun _ => bnP (elQ 10 c d) fun M => 
 bnP ((AV.cells M)[0]?) fun N => 
 bnP (zc .eql N (.int .i64 5)) fun a => 
 bnP (gdQ a true (some c)) fun O => 
 bnP (gdQ a true (some d)) fun P => 
 bnP (gdQ a true (elQ 10 O P)) fun R => 
 bnP (gdQ a true ((AV.cells R)[5]?)) fun S => 
 bnP (gdQ a true (some f)) fun T => 
 bnP (gdQ a true (some h)) fun U => 
 bnP (gdQ a true (zc .sub T U)) fun V => 
 bnP (gdQ a true (zc .neq S V)) fun W => 
 bnP (y6 a W (.bool false)) fun b => 
 bnP (gdQ b false (some c)) fun X => 
 bnP (gdQ b false (some d)) fun Y => 
 bnP (gdQ b false (elQ 10 X Y)) fun Z => 
 bnP (gdQ b false ((AV.cells Z)[0]?)) fun aa => 
 bnP (gdQ b false (zc .eql aa (.int .i64 4))) fun ab => 
 bnP (gdQ b false (some ab)) fun e => 
 bnP (gdQ e true (some c)) fun ac => 
 bnP (gdQ e true (some d)) fun ad => 
 bnP (gdQ e true (elQ 10 ac ad)) fun ae => 
 bnP (gdQ e true ((AV.cells ae)[2]?)) fun af => 
 bnP (gdQ e true (some g)) fun ag => 
 bnP (gdQ e true (zc .neq af ag)) fun ah => 
 bnP (gdQ b false (y6 e ah (.bool false))) fun ai => 
 bnP (y6 b (.bool true) ai) fun aj => 
 zF aj (fun _ => k .ret [(4, .v (.bool false))] [] Q)
 (fun _ => bnP (zc .add d (.int .i64 1)) fun ak => 
 k .normal [(6, .lp 6 0), (7, .v i), (10, .lp 10 0), (11, .v c), (12, .v ak)] [(6, .cells [j, l, m, n, o, p, q, r, u, w, x, y, z]), (10, .cells [A, B, f, g, C, D, E, F, h, G, H, I, J])] Q))
 (fun _ => k (.exit 2) [(6, .lp 6 0), (7, .v i), (10, .lp 10 0)] [(6, .cells [j, l, m, n, o, p, q, r, u, w, x, y, z]), (10, .cells [A, B, f, g, C, D, E, F, h, G, H, I, J])] Q)) := by kernel_rfl
noncomputable def qQ (s : zi) (a b c d e f g h i j l m n o p q r u w x y z A B C D E F G : AV) (Q : z3) : Option js := zh (za s) zT [(6, .lp 6 0), (7, .v a), (10, .lp 10 0), (11, .v b), (12, .v c)] [(6, .cells [d, e, f, g, h, i, j, l, m, n, o, p, q]), (10, .cells [r, u, w, x, y, z, A, B, C, D, E, F, G])] Q
theorem y7 (s : zi) (a b c d e f g h i j l m n o p q r u w x y z A B C D E F G : AV) (Q : z3) : zh (za s) zT [(6, .lp 6 0), (7, .v a), (10, .lp 10 0), (11, .v b), (12, .v c)] [(6, .cells [d, e, f, g, h, i, j, l, m, n, o, p, q]), (10, .cells [r, u, w, x, y, z, A, B, C, D, E, F, G])] Q = qQ s a b c d e f g h i j l m n o p q r u w x y z A B C D E F G Q := rfl
theorem jL (s : zi) (a b c d e f g h i j l m n o p q r u w x y z A B C D E F G : AV) (Q : z3) : qQ s a b c d e f g h i j l m n o p q r u w x y z A B C D E F G Q = z5 (zf (za s)) (zh (za s)) zT [(6, .lp 6 0), (7, .v a), (10, .lp 10 0), (11, .v b), (12, .v c)] [(6, .cells [d, e, f, g, h, i, j, l, m, n, o, p, q]), (10, .cells [r, u, w, x, y, z, A, B, C, D, E, F, G])] Q (goX (fun τ ω Q => zh (za s) zT τ ω Q) qH) := yU
abbrev ZO (a b c d e f g h i j l m n o p q r u w x y z A B C D E : AV) (Q : z3) : Option js := some (.exit 2, [(6, .lp 6 0), (7, .v a), (10, .lp 10 0)], [(6, .cells [b, c, d, e, f, g, h, i, j, l, m, n, o]), (10, .cells [p, q, r, u, w, x, y, z, A, B, C, D, E])], Q)
theorem vu {β : Type} (call : z6) (lp : ze) (f u w g x y z A B c C D E F h i b d j l m n e o p q r : AV) (Q : z3) (k : PK β) : z5 call lp qM [(6, .lp 6 0), (7, .v f), (10, .lp 10 0)] [(6, .cells [u, w, g, x, y, z, A, B, c, C, D, E, F]), (10, .cells [h, i, b, d, j, l, m, n, e, o, p, q, r])] Q k = (
 bnP (zc .neq e c) fun a => 
 bnP (gdQ a false (some b)) fun G => 
 bnP (gdQ a false (some g)) fun H => 
 bnP (gdQ a false (zc .add H (.int .i64 1))) fun I => 
 bnP (gdQ a false (zc .neq G I)) fun J => 
 bnP (y6 a (.bool true) J) fun K => 
 zF K (fun _ => k .ret [(4, .v (.bool false))] [] Q)
 (fun _ => bnP (zc .eql d (.int .i64 0)) fun L => 
 zF L (fun _ => bnP (zc .sub b c) fun M => 
 bnP (zc .gtr M (.int .i64 20)) fun N => 
 k .ret [(4, .v N)] [] Q)
 (fun _ => bnC 13 (stC 13 (.agg [h, i, b, d, j, l, m, n, e, o, p, q, r])) fun O P R S T U V W X Y Z aa ab => 
 k .normal [(6, .lp 6 0), (7, .v f)] [(6, .cells [O, P, R, S, T, U, V, W, X, Y, Z, aa, ab])] Q))) := by kernel_rfl
theorem X3 {β : Type} (call : z6) (lp : ze) (a b c d e f g h i j l m n o : AV) (Q : z3) (k : PK β) : z5 call lp qN [(6, .lp 6 0), (7, .v a)] [(6, .cells [b, c, d, e, f, g, h, i, j, l, m, n, o])] Q k = (
 bnP (zc .add a (.int .i64 1)) fun p => 
 k .normal [(6, .lp 6 0), (7, .v p)] [(6, .cells [b, c, d, e, f, g, h, i, j, l, m, n, o])] Q) := by kernel_rfl
theorem X4 {β : Type} (call : z6) (lp : ze) (q e f a b g h i j c l m n o : AV) (Q : z3) (k : PK β) : z5 call lp zU [(6, .lp 6 0), (7, .v q)] [(6, .cells [e, f, a, b, g, h, i, j, c, l, m, n, o])] Q k = (
 bnP (zc .leq q (.int .i64 21)) fun w => 
 zF w (fun _ => bnP (zc .neq b (.int .i64 0)) fun d => 
 bnP (gdQ d true (some a)) fun x => 
 bnP (gdQ d true (some c)) fun y => 
 bnP (gdQ d true (zc .sub x y)) fun z => 
 bnP (gdQ d true (zc .gtr z (.int .i64 20))) fun A => 
 bnP (y6 d A (.bool false)) fun B => 
 zF B (fun _ => bnS (call 18 [.agg [e, f, a, b, g, h, i, j, c, l, m, n, o]] Q) fun r C => 
 bnP (jt (frz r) 0) fun D => 
 bnP (jt (frz r) 1) fun ab => 
 bnC 13 (stC 13 D) fun ac ad ae E af ag F ah ai aj ak al ao => 
 bnP (zc .eql E (.int .i64 0)) fun p => 
 bnP (gdQ p true (some F)) fun G => 
 bnP (gdQ p true (Zs G)) fun H => 
 bnP (gdQ p true (zc .eql H (.int .i64 0))) fun I => 
 bnP (y6 p I (.bool false)) fun J => 
 k .ret [(4, .v J)] [] C)
 (fun _ => bnS (call 18 [.agg [e, f, a, b, g, h, i, j, c, l, m, n, o]] Q) fun u K => 
 bnP (jt (frz u) 0) fun L => 
 bnP (jt (frz u) 1) fun M => 
 bnC 13 (stC 13 L) fun N O P R S T U V W X Y Z aa => 
 bnX (lp zT [(6, .lp 6 0), (7, .v q), (10, .lp 10 0), (11, .v M), (12, .v (.int .i64 0))] [(6, .cells [e, f, a, b, g, h, i, j, c, l, m, n, o]), (10, .cells [N, O, P, R, S, T, U, V, W, X, Y, Z, aa])] K) (kD 2 (goC (z5 call lp qM) (kD 1 (goC (z5 call lp qN) k))))))
 (fun _ => k (.exit 0) [] [] Q)) := by kernel_rfl
noncomputable def qR (s : zi) (a b c d e f g h i j l m n o : AV) (Q : z3) : Option js := zh (za s) zU [(6, .lp 6 0), (7, .v a)] [(6, .cells [b, c, d, e, f, g, h, i, j, l, m, n, o])] Q
theorem jc (s : zi) (a b c d e f g h i j l m n o : AV) (Q : z3) : zh (za s) zU [(6, .lp 6 0), (7, .v a)] [(6, .cells [b, c, d, e, f, g, h, i, j, l, m, n, o])] Q = qR s a b c d e f g h i j l m n o Q := rfl
theorem ZP (s : zi) (a b c d e f g h i j l m n o : AV) (Q : z3) : qR s a b c d e f g h i j l m n o Q = z5 (zf (za s)) (zh (za s)) zU [(6, .lp 6 0), (7, .v a)] [(6, .cells [b, c, d, e, f, g, h, i, j, l, m, n, o])] Q (goX (fun τ ω Q => zh (za s) zU τ ω Q) qH) := yU
abbrev Zr (a : AV) (Q : z3) : Option js := some (.ret, [(4, .v a)], [], Q)
theorem Qr {call : z6} {lp : ze} (b g : AV) (Q : z3) : z5 call lp w9 [(0, .v b), (1, .v g)] [] Q (zA [.tmp 4] [.n]) = (
 bnS (call 11 [] Q) fun x c => 
 bnP (unA .not (frz x)) fun y => 
 zF y (fun _ => some (.bool false, c))
 (fun _ => bnP (Zs b) fun z => 
 bnP (zc .gtr z (.int .i64 200)) fun A => 
 zF A (fun _ => some (.bool true, c))
 (fun _ => bnP (zc .rem g (.int .u8 7)) fun B => 
 bnP (z3M .i64 B) fun C => 
 bnP (zc .add (.int .i64 2) C) fun D => 
 bnS (call 12 [b] c) fun E F => 
 bnS (call 33 [(frz E), D, .int .i64 40] F) fun G H => 
 bnC 13 (stC 13 (frz G)) fun h i d e j l m o f p q r u => 
 bnS (call 25 [.agg [h, i, d, e, j, l, m, o, f, p, q, r, u]] H) fun I w => 
 bnP (unA .not (frz I)) fun J => 
 zF J (fun _ => bnP (zc .eql e (.int .i64 0)) fun a => 
 bnP (gdQ a false (some d)) fun K => 
 bnP (gdQ a false (some f)) fun L => 
 bnP (gdQ a false (zc .sub K L)) fun M => 
 bnP (gdQ a false (zc .gtr M (.int .i64 20))) fun N => 
 bnP (y6 a (.bool true) N) fun O => 
 bnP (rcv false .n O) fun P => some (P, w))
 (fun _ => bnX (lp zU [(6, .lp 6 0), (7, .v (.int .i64 0))] [(6, .cells [h, i, d, e, j, l, m, o, f, p, q, r, u])] w) (kD 0 (goC (z5 call lp vn) (zA [.tmp 4] [.n]))))))) := by kernel_rfl
def Qs {s : zi} (hs : s.lookup 5 = none) (a b : AV) (Q : z3) := (zr (E := za s) (f := 5) (fn := yS) hs rfl [a, b] Q rfl).trans (Qr (call := zf (za s)) (lp := zh (za s)) a b Q)
theorem Vz {call : z6} {lp : ze} (a : AV) (Q : z3) : z5 call lp Y9 [(0, .v a)] [] Q (zA [.tmp 2] [.n]) = (
 bnC 2 (wg [.nils, .int .i64 0] [(0, 1, a)]) fun b c => 
 bnS (Jh Q (AV.cells (.agg [b, c]))) fun d e => 
 bnP (rcv false .n d) fun f => some (f, e)) := by kernel_rfl
def VA {s : zi} (hs : s.lookup 12 = none) (a : AV) (Q : z3) := (zr (E := za s) (f := 12) (fn := xK) hs rfl [a] Q rfl).trans (Vz (call := zf (za s)) (lp := zh (za s)) a Q)
theorem XO {call : z6} {lp : ze} (a b : AV) (Q : z3) : z5 call lp vN [(0, .v a), (1, .v b)] [] Q (zA [.tmp 4] [.n]) = (
 bnP (zN a) fun e => 
 bnP (zm 1 e) fun f => 
 bnP (ldQ Q f) fun g => 
 bnP (zN a) fun h => 
 bnP (zm 0 h) fun i => 
 bnP (ldQ Q i) fun j => 
 bnP (Zs j) fun l => 
 bnP (zc .geq g l) fun c => 
 bnP (gdQ c false (some b)) fun m => 
 bnP (gdQ c false (zc .lss m (.int .i64 1))) fun o => 
 bnP (y6 c (.bool true) o) fun p => 
 zF p (fun _ => some (.int .i64 0, Q))
 (fun _ => bnP (zN a) fun q => 
 bnP (zm 1 q) fun r => 
 bnP (ldQ Q r) fun u => 
 bnP (zc .add u (.int .i64 1)) fun w => 
 bnP (zN a) fun x => 
 bnP (zm 1 x) fun y => 
 bnS (stA Q 1 y w) fun _ d => 
 bnP (zN a) fun z => 
 bnP (zm 0 z) fun A => 
 bnP (ldQ d A) fun B => 
 bnP (zN a) fun C => 
 bnP (zm 1 C) fun D => 
 bnP (ldQ d D) fun E => 
 bnP (zc .sub E (.int .i64 1)) fun F => 
 bnP (elQ 1 B F) fun G => 
 bnP ((AV.cells G)[0]?) fun H => 
 bnP (z3M .i64 H) fun I => 
 bnP (zc .rem I b) fun J => 
 bnP (rcv false .n J) fun K => some (K, d))) := by kernel_rfl
def vU {s : zi} (hs : s.lookup 13 = none) (a b : AV) (Q : z3) := (zr (E := za s) (f := 13) (fn := yG) hs rfl [a, b] Q rfl).trans (XO (call := zf (za s)) (lp := zh (za s)) a b Q)
theorem Ze {β : Type} (call : z6) (lp : ze) (o p q r u w x y z A B C D a b c d e f g h i j l m n : AV) (Q : z3) (k : PK β) : z5 call lp ko [(8, .lp 8 0), (9, .lp 9 0)] [(8, .cells [o, p, q, r, u, w, x, y, z, A, B, C, D]), (9, .cells [a, b, c, d, e, f, g, h, i, j, l, m, n])] Q k = (
 bnC 13 (stC 13 (.agg [a, b, c, d, e, f, g, h, i, j, l, m, n])) fun E F G H I J K L M N O P R => 
 k .ret [(21, .v (.agg [a, b, c, d, e, f, g, h, i, j, l, m, n])), (8, .lp 8 0), (9, .lp 9 0)] [(8, .cells [E, F, G, H, I, J, K, L, M, N, O, P, R]), (9, .cells [a, b, c, d, e, f, g, h, i, j, l, m, n])] Q) := by kernel_rfl
theorem VB {call : z6} {lp : ze} (a c b d : AV) (Q : z3) : z5 call lp Ya [(0, .v a), (1, .v c), (2, .v b), (3, .v d)] [] Q (zA [.cell 8 (some 13)] [.n]) = (
 bnC 13 (wg [.int .i64 0, .int .i64 0, .int .i64 0, .int .i64 0, .int .i64 0, .int .i64 0, .nils, .int .i64 0, .int .i64 0, .int .i64 0, .int .i64 0, .int .i64 0, .nils] [(0, 1, a), (1, 1, c), (2, 1, b), (5, 1, d)]) fun r u w x y z A B C D E F G => 
 bnC 13 (stC 13 (.agg [r, u, w, x, y, z, A, B, C, D, E, F, G])) fun e f g h i j H l I m o p q => 
 bnX (bnP (zc .eql a (.int .i64 1)) fun J => 
 zF J (fun _ => bnC 1 (stC 1 b) fun K => 
 some (.normal, [(8, .lp 8 0), (9, .lp 9 0)], [(8, .cells [.int .i64 0, .int .i64 0, .int .i64 0, .int .i64 0, .int .i64 0, .int .i64 0, .nils, .int .i64 0, .int .i64 0, .int .i64 0, .int .i64 0, .int .i64 0, .nils]), (9, .cells [e, f, g, h, i, j, .fz 1 [.int .i64 1], l, K, m, o, p, q])], Q))
 (fun _ => some (.normal, [(8, .lp 8 0), (9, .lp 9 0)], [(8, .cells [.int .i64 0, .int .i64 0, .int .i64 0, .int .i64 0, .int .i64 0, .int .i64 0, .nils, .int .i64 0, .int .i64 0, .int .i64 0, .int .i64 0, .int .i64 0, .nils]), (9, .cells [e, f, g, h, i, j, H, l, I, m, o, p, q])], Q)))
 (goC (z5 call lp ko) (zA [.cell 8 (some 13)] [.n]))) := by kernel_rfl
def VC {s : zi} (hs : s.lookup 15 = none) (a b c d : AV) (Q : z3) := (zr (E := za s) (f := 15) (fn := xL) hs rfl [a, b, c, d] Q rfl).trans (VB (call := zf (za s)) (lp := zh (za s)) a b c d Q)
theorem X5 {call : z6} {lp : ze} (a : AV) (Q : z3) : z5 call lp vo [(0, .v a)] [] Q (zA [.tmp 2] [.n]) = (
 bnP (zN a) fun b => 
 bnP (zm 1 b) fun c => 
 bnP (ldQ Q c) fun d => 
 bnP (zN a) fun e => 
 bnP (zm 0 e) fun f => 
 bnP (ldQ Q f) fun g => 
 bnP (Zs g) fun h => 
 bnP (zc .geq d h) fun i => 
 bnP (rcv false .n i) fun j => some (j, Q)) := by kernel_rfl
def X6 {s : zi} (hs : s.lookup 17 = none) (a : AV) (Q : z3) := (zr (E := za s) (f := 17) (fn := yx) hs rfl [a] Q rfl).trans (X5 (call := zf (za s)) (lp := zh (za s)) a Q)
theorem z3p {β : Type} (call : z6) (lp : ze) (a y z A B C D E F G H I J K : AV) (Q : z3) (k : PK β) : z5 call lp Zk [(2, .lp 2 0), (4, .v a)] [(2, .cells [y, z, A, B, C, D, E, F, G, H, I, J, K])] Q k = (
 bnS (call 41 [a] Q) fun L M => 
 bnS (call 42 [a] M) fun N b => 
 bnP (zN a) fun d => 
 bnP (zm 0 d) fun e => 
 bnC 13 (jU b 13 e) fun f g h i j l m n o p q r u => 
 bnP (zN a) fun w => 
 bnP (zm 13 w) fun x => 
 bnP (ldQ b x) fun c => 
 bnC 13 (stC 13 (.agg [f, g, h, i, j, l, m, n, o, p, q, r, u])) fun O P R S T U V W X Y Z aa ab => 
 bnS (z66 b 10 c) fun ac ad =>
 k .ret [(3, .v ac), (3, .v c), (102, .v c), (101, .v x), (100, .v w), (99, .v a), (98, .v (.agg [f, g, h, i, j, l, m, n, o, p, q, r, u])), (97, .v e), (96, .v d), (95, .v a), (94, .v (frz N)), (93, .v a), (92, .v (frz L)), (91, .v a), (2, .lp 2 0), (4, .v a)] [(2, .cells [O, P, R, S, T, U, V, W, X, Y, Z, aa, ab])] ad) := by kernel_rfl
theorem z5Y {call : z6} {lp : ze} (h i j l m o p q r u w x y : AV) (Q : z3) : z5 call lp z11 [(0, .v (.agg [h, i, j, l, m, o, p, q, r, u, w, x, y]))] [] Q (zA [.cell 2 (some 13), .tmp 3] [.n, .f 10]) = (
 bnC 13 (stC 13 (.agg [h, i, j, l, m, o, p, q, r, u, w, x, y])) fun B C D E F G H I J K L M N => 
 bnS (call 38 [.agg [B, C, D, E, F, G, H, I, J, K, L, M, N]] Q) fun a z => 
 bnP (zN (frz a)) fun O => 
 bnP (zm 0 O) fun P => 
 bnP (zm 2 P) fun R => 
 bnP (ldQ z R) fun S => 
 bnP (zc .add S (.int .i64 1)) fun T => 
 bnP (zN (frz a)) fun U => 
 bnP (zm 0 U) fun V => 
 bnP (zm 2 V) fun W => 
 bnS (stA z 1 W T) fun _ g => 
 bnP (zN (frz a)) fun X => 
 bnP (zm 0 X) fun Y => 
 bnP (zm 12 Y) fun Z => 
 bnP (ldQ g Z) fun aa => 
 bnP (zN (frz a)) fun ab => 
 bnP (zm 0 ab) fun ac => 
 bnP (zm 2 ac) fun ad => 
 bnP (ldQ g ad) fun ae => 
 bnS (call 39 [aa, ae] g) fun af ag => 
 bnP (zN (frz a)) fun ah => 
 bnP (zm 0 ah) fun ai => 
 bnP (zm 12 ai) fun aj => 
 bnS (stA ag 1 aj (frz af)) fun _ b => 
 bnX (bnX (bnP (zN (frz a)) fun ak => 
 bnP (zm 0 ak) fun al => 
 bnP (zm 0 al) fun ao => 
 bnP (ldQ b ao) fun ap => 
 bnP (zc .eql ap (.int .i64 1)) fun c => 
 bnP (gdQ c true (some (frz a))) fun aq => 
 bnP (gdQ c true (zN aq)) fun ar => 
 bnP (gdQ c true (zm 0 ar)) fun au => 
 bnP (gdQ c true (zm 2 au)) fun av => 
 bnP (gdQ c true (ldQ b av)) fun aw => 
 bnP (gdQ c true (zc .rem aw (.int .i64 2))) fun ax => 
 bnP (gdQ c true (zc .eql ax (.int .i64 0))) fun ay => 
 bnP (y6 c ay (.bool false)) fun az => 
 zF az (fun _ => bnP (zN (frz a)) fun a0 => 
 bnP (zm 0 a0) fun a1 => 
 bnP (zm 7 a1) fun a2 => 
 bnP (ldQ b a2) fun a3 => 
 bnP (zc .add a3 (.int .i64 1)) fun a4 => 
 bnP (zN (frz a)) fun a5 => 
 bnP (zm 0 a5) fun a6 => 
 bnP (zm 2 a6) fun a7 => 
 bnP (ldQ b a7) fun a8 => 
 bnP (zN (frz a)) fun a9 => 
 bnP (zm 0 a9) fun ba => 
 bnP (zm 7 ba) fun bb => 
 bnS (stA b 1 bb a4) fun _ bc => 
 bnP (zN (frz a)) fun bd => 
 bnP (zm 0 bd) fun bf => 
 bnP (zm 8 bf) fun bg => 
 bnS (stA bc 1 bg a8) fun _ bh => 
 some (.normal, [(2, .lp 2 0), (4, .v (frz a))], [(2, .cells [.int .i64 0, .int .i64 0, .int .i64 0, .int .i64 0, .int .i64 0, .int .i64 0, .nils, .int .i64 0, .int .i64 0, .int .i64 0, .int .i64 0, .int .i64 0, .nils])], bh))
 (fun _ => bnP (zN (frz a)) fun bi => 
 bnP (zm 0 bi) fun bj => 
 bnP (zm 0 bj) fun bk => 
 bnP (ldQ b bk) fun bl => 
 bnP (zc .neq bl (.int .i64 1)) fun d => 
 bnP (gdQ d true (some (frz a))) fun bm => 
 bnP (gdQ d true (zN bm)) fun bn => 
 bnP (gdQ d true (zm 0 bn)) fun bo => 
 bnP (gdQ d true (zm 3 bo)) fun bp => 
 bnP (gdQ d true (ldQ b bp)) fun bq => 
 bnP (gdQ d true (zc .neq bq (.int .i64 0))) fun br => 
 bnP (y6 d br (.bool false)) fun e => 
 bnP (gdQ e true (some (frz a))) fun bs => 
 bnP (gdQ e true (zN bs)) fun bt => 
 bnP (gdQ e true (zm 0 bt)) fun bu => 
 bnP (gdQ e true ((jU b 13 bu).map AV.agg)) fun bv => 
 bnS (gdH e true (call 25 [bv] b) b) fun bw A => 
 bnP (gdQ e true (unA .not (frz bw))) fun bx => 
 bnP (y6 e bx (.bool false)) fun bz => 
 zF bz (fun _ => bnS (call 40 [(frz a), .int .i64 0] A) fun b1 b0 => 
 some (.normal, [(2, .lp 2 0), (4, .v (frz a))], [(2, .cells [.int .i64 0, .int .i64 0, .int .i64 0, .int .i64 0, .int .i64 0, .int .i64 0, .nils, .int .i64 0, .int .i64 0, .int .i64 0, .int .i64 0, .int .i64 0, .nils])], b0))
 (fun _ => some (.normal, [(2, .lp 2 0), (4, .v (frz a))], [(2, .cells [.int .i64 0, .int .i64 0, .int .i64 0, .int .i64 0, .int .i64 0, .int .i64 0, .nils, .int .i64 0, .int .i64 0, .int .i64 0, .int .i64 0, .int .i64 0, .nils])], A))))
 (kD 0 qH))
 (goC (z5 call lp Zk) (zA [.cell 2 (some 13), .tmp 3] [.n, .f 10]))) := by kernel_rfl
def z5Z {s : zi} (hs : s.lookup 18 = none) (a b c d e g h i j l m n o : AV) (Q : z3) := (zr (E := za s) (f := 18) (fn := wM) hs rfl [.agg [a, b, c, d, e, g, h, i, j, l, m, n, o]] Q rfl).trans (z5Y (call := zf (za s)) (lp := zh (za s)) a b c d e g h i j l m n o Q)
theorem qi {β : Type} (call : z6) (lp : ze) (p b c d e f g h i j a l m n q r u w x y z A B C D E F : AV) (Q : z3) (k : PK β) : z5 call lp jG [(1, .lp 1 0), (2, .lp 2 0), (4, .v p), (5, .v .nils)] [(1, .cells [b, c, d, e, f, g, h, i, j, a, l, m, n]), (2, .cells [q, r, u, w, x, y, z, A, B, C, D, E, F])] Q k = (
 bnS (call 45 [.agg [b, c, d, e, f, g, h, i, j, a, l, m, n], .int .i64 1, a] Q) fun o G => 
 pinB (wo 10 (frz o)) <| 
 pinB (room 104 (([(frz o)] : List AV) : List AV).length) <| 
 k .normal [(1, .lp 1 0), (2, .lp 2 0), (4, .v p), (5, .ls 5)] [(1, .cells [b, c, d, e, f, g, h, i, j, a, l, m, n]), (2, .cells [q, r, u, w, x, y, z, A, B, C, D, E, F]), (5, .own 10 ([(frz o)] : List AV))] G) := by kernel_rfl
theorem wQ {β : Type} (call : z6) (lp : ze) (e b f c g h a i j l E G d m n o p q r u w x y z A B C : AV) (Q : z3) (k : PK β) : z5 call lp q8 [(1, .lp 1 0), (2, .lp 2 0), (4, .v e), (5, .v .nils)] [(1, .cells [b, f, c, g, h, a, i, j, l, E, G, d, m]), (2, .cells [n, o, p, q, r, u, w, x, y, z, A, B, C])] Q k = (
 bnP (zc .eql E (.int .i64 0)) fun I => 
 zF I (fun _ => bnP (zc .add c (.int .i64 3)) fun J => 
 bnC 1 (stC 1 J) fun H => 
 bnX (bnP (zc .eql d (.int .i64 0)) fun F => 
 bnP (gdQ F true (some a)) fun K => 
 bnP (gdQ F true (zc .neq K (.int .i64 0))) fun L => 
 bnP (y6 F L (.bool false)) fun D => 
 bnP (gdQ D true (some a)) fun M => 
 bnP (gdQ D true (some b)) fun N => 
 bnP (gdQ D true (zc .neq M N)) fun O => 
 bnP (y6 D O (.bool false)) fun P => 
 zF P (fun _ => bnC 1 (stC 1 a) fun R => 
 some (.normal, [(1, .lp 1 0), (2, .lp 2 0), (4, .v e), (5, .v .nils)], [(1, .cells [b, f, c, g, h, a, i, j, l, R, H, d, m]), (2, .cells [n, o, p, q, r, u, w, x, y, z, A, B, C])], Q))
 (fun _ => some (.normal, [(1, .lp 1 0), (2, .lp 2 0), (4, .v e), (5, .v .nils)], [(1, .cells [b, f, c, g, h, a, i, j, l, .int .i64 1, H, d, m]), (2, .cells [n, o, p, q, r, u, w, x, y, z, A, B, C])], Q)))
 (goC (z5 call lp jG) (Jd [] [] [1, 2, 4, 5] [(1, 1), (2, 2), (5, 5)] k)))
 (fun _ => k .normal [(1, .lp 1 0), (2, .lp 2 0), (4, .v e), (5, .ls 5)] [(1, .cells [b, f, c, g, h, a, i, j, l, E, G, d, m]), (2, .cells [n, o, p, q, r, u, w, x, y, z, A, B, C]), (5, .own 10 ([] : List AV))] Q)) := by kernel_rfl
theorem QS {β : Type} (call : z6) (lp : ze) (d e f a b g h i j l m c n o p q r u w x y z A B C D E : AV) (Q : z3) (k : PK β) : z5 call lp q9 [(1, .lp 1 0), (2, .lp 2 0), (4, .v d), (5, .v .nils)] [(1, .cells [e, f, a, b, g, h, i, j, l, m, c, n, o]), (2, .cells [p, q, r, u, w, x, y, z, A, B, C, D, E])] Q k = (
 bnP (zc .eql b (.int .i64 0)) fun G => 
 zF G (fun _ => bnX (bnP (zc .neq m (.int .i64 0)) fun F => 
 bnP (gdQ F true (some a)) fun H => 
 bnP (gdQ F true (some c)) fun I => 
 bnP (gdQ F true (zc .geq H I)) fun J => 
 bnP (y6 F J (.bool false)) fun K => 
 zF K (fun _ => bnP (zc .add n (.int .i64 1)) fun L => 
 bnC 1 (stC 1 L) fun M => 
 some (.normal, [(1, .lp 1 0), (2, .lp 2 0), (4, .v d), (5, .v .nils)], [(1, .cells [e, f, a, b, g, h, i, j, l, .int .i64 0, c, M, o]), (2, .cells [p, q, r, u, w, x, y, z, A, B, C, D, E])], Q))
 (fun _ => some (.normal, [(1, .lp 1 0), (2, .lp 2 0), (4, .v d), (5, .v .nils)], [(1, .cells [e, f, a, b, g, h, i, j, l, m, c, n, o]), (2, .cells [p, q, r, u, w, x, y, z, A, B, C, D, E])], Q)))
 (goC (z5 call lp q8) (Jd [] [] [1, 2, 4, 5] [(1, 1), (2, 2), (5, 5)] k)))
 (fun _ => k .normal [(1, .lp 1 0), (2, .lp 2 0), (4, .v d), (5, .ls 5)] [(1, .cells [e, f, a, b, g, h, i, j, l, m, c, n, o]), (2, .cells [p, q, r, u, w, x, y, z, A, B, C, D, E]), (5, .own 10 ([] : List AV))] Q)) := by kernel_rfl
theorem wR {β : Type} (call : z6) (lp : ze) (o b c d e f g h i j l m n a q r u w x y z A B C D E F : AV) (p : List AV) (Q : z3) (k : PK β) : z5 call lp yi [(1, .lp 1 0), (2, .lp 2 0), (5, .ls 5), (6, .v o)] [(1, .cells [b, c, d, e, f, g, h, i, j, l, m, n, a]), (2, .cells [q, r, u, w, x, y, z, A, B, C, D, E, F]), (5, .own 10 p)] Q k = (
 bnP (Zs a) fun J => 
 bnP (zc .lss o J) fun G => 
 bnP (gdQ G true (some (.agg [b, c, d, e, f, g, h, i, j, l, m, n, a]))) fun K => 
 bnS (gdH G true (call 26 [K] Q) Q) fun L I => 
 bnP (y6 G (frz L) (.bool false)) fun M => 
 zF M (fun _ => bnP (elQ 3 a o) fun N => 
 bnP ((AV.cells N)[0]?) fun O => 
 bnS (call 46 [.agg [b, c, d, e, f, g, h, i, j, l, m, n, a], .int .i64 5, O] I) fun H P => 
 pinB (wo 10 (frz H)) <| 
 pinB (room 104 ((p : List AV).length + (([(frz H)] : List AV) : List AV).length)) <| 
 bnP (zc .add o (.int .i64 1)) fun R => 
 k .normal [(1, .lp 1 0), (2, .lp 2 0), (5, .ls 5), (6, .v R)] [(1, .cells [b, c, d, e, f, g, h, i, j, l, m, n, a]), (2, .cells [q, r, u, w, x, y, z, A, B, C, D, E, F]), (5, .own 10 (p ++ ([(frz H)] : List AV)))] P)
 (fun _ => k (.exit 0) [(1, .lp 1 0), (2, .lp 2 0), (5, .ls 5)] [(1, .cells [b, c, d, e, f, g, h, i, j, l, m, n, a]), (2, .cells [q, r, u, w, x, y, z, A, B, C, D, E, F]), (5, .own 10 p)] I)) := by kernel_rfl
noncomputable def jM (s : zi) (a b c d e f g h i j l m n o p q r u w x y z A B C D E : AV) (F : List AV) (Q : z3) : Option js := zh (za s) yi [(1, .lp 1 0), (2, .lp 2 0), (5, .ls 5), (6, .v a)] [(1, .cells [b, c, d, e, f, g, h, i, j, l, m, n, o]), (2, .cells [p, q, r, u, w, x, y, z, A, B, C, D, E]), (5, .own 10 F)] Q
theorem xX (s : zi) (a b c d e f g h i j l m n o p q r u w x y z A B C D E : AV) (F : List AV) (Q : z3) : zh (za s) yi [(1, .lp 1 0), (2, .lp 2 0), (5, .ls 5), (6, .v a)] [(1, .cells [b, c, d, e, f, g, h, i, j, l, m, n, o]), (2, .cells [p, q, r, u, w, x, y, z, A, B, C, D, E]), (5, .own 10 F)] Q = jM s a b c d e f g h i j l m n o p q r u w x y z A B C D E F Q := rfl
theorem vw (s : zi) (a b c d e f g h i j l m n o p q r u w x y z A B C D E : AV) (F : List AV) (Q : z3) : jM s a b c d e f g h i j l m n o p q r u w x y z A B C D E F Q = z5 (zf (za s)) (zh (za s)) yi [(1, .lp 1 0), (2, .lp 2 0), (5, .ls 5), (6, .v a)] [(1, .cells [b, c, d, e, f, g, h, i, j, l, m, n, o]), (2, .cells [p, q, r, u, w, x, y, z, A, B, C, D, E]), (5, .own 10 F)] Q (goX (fun τ ω Q => zh (za s) yi τ ω Q) qH) := yU
abbrev X7 (a b c d e f g h i j l m n o p q r u v w x y z A B C : AV) (D : List AV) (Q : z3) : Option js := some (.exit 0, [(1, .lp 1 0), (2, .lp 2 0), (5, .ls 5)], [(1, .cells [a, b, c, d, e, f, g, h, i, j, l, m, n]), (2, .cells [o, p, q, r, u, v, w, x, y, z, A, B, C]), (5, .own 10 D)], Q)
theorem wS {β : Type} (call : z6) (lp : ze) (a b c d e f g h i j l m n p q r u w x y z A B C D E : AV) (o : List AV) (Q : z3) (k : PK β) : z5 call lp jH [(1, .lp 1 0), (2, .lp 2 0), (5, .ls 5)] [(1, .cells [a, b, c, d, e, f, g, h, i, j, l, m, n]), (2, .cells [p, q, r, u, w, x, y, z, A, B, C, D, E]), (5, .own 10 o)] Q k = (
 bnC 13 (stC 13 (.agg [a, b, c, d, e, f, g, h, i, j, l, m, n])) fun F G H I J K L M N O P R S => 
 k .ret [(3, .ls 5), (130, .ls 5), (129, .v (.agg [a, b, c, d, e, f, g, h, i, j, l, m, n])), (1, .lp 1 0), (2, .lp 2 0), (5, .ls 5)] [(2, .cells [F, G, H, I, J, K, L, M, N, O, P, R, S]), (1, .cells [a, b, c, d, e, f, g, h, i, j, l, m, n]), (5, .own 10 o)] Q) := by kernel_rfl
theorem wT {β : Type} (call : z6) (lp : ze) (a b c d e f g h i j l m n o p q r u w x y z A B C D : AV) (E : List AV) (Q : z3) (k : PK β) : z5 call lp jI [(1, .lp 1 0), (2, .lp 2 0), (5, .ls 5)] [(1, .cells [a, b, c, d, e, f, g, h, i, j, l, m, n]), (2, .cells [o, p, q, r, u, w, x, y, z, A, B, C, D]), (5, .own 10 E)] Q k = (
 bnX (lp yi [(1, .lp 1 0), (2, .lp 2 0), (5, .ls 5), (6, .v (.int .i64 0))] [(1, .cells [a, b, c, d, e, f, g, h, i, j, l, m, n]), (2, .cells [o, p, q, r, u, w, x, y, z, A, B, C, D]), (5, .own 10 E)] Q) (kD 0 (goC (z5 call lp jH) k))) := by kernel_rfl
theorem QT {β : Type} (call : z6) (lp : ze) (p b c d a e f g h i j l m n q r u w x y z A B C D E F : AV) (o : List AV) (Q : z3) (k : PK β) : z5 call lp qa [(1, .lp 1 0), (2, .lp 2 0), (4, .v p), (5, .ls 5)] [(1, .cells [b, c, d, a, e, f, g, h, i, j, l, m, n]), (2, .cells [q, r, u, w, x, y, z, A, B, C, D, E, F]), (5, .own 10 o)] Q k = (
 bnP (unA .not p) fun H => 
 zF H (fun _ => bnC 13 (stC 13 (.agg [b, c, d, a, e, f, g, h, i, j, l, m, n])) fun I J K L M N O P R S T U V => 
 k .ret [(3, .ls 5), (96, .ls 5), (95, .v (.agg [b, c, d, a, e, f, g, h, i, j, l, m, n])), (94, .v H), (93, .v p), (1, .lp 1 0), (2, .lp 2 0), (4, .v p), (5, .ls 5)] [(2, .cells [I, J, K, L, M, N, O, P, R, S, T, U, V]), (1, .cells [b, c, d, a, e, f, g, h, i, j, l, m, n]), (5, .own 10 o)] Q)
 (fun _ => bnX (bnP (zc .neq a (.int .i64 0)) fun W => 
 zF W (fun _ => bnS (call 45 [.agg [b, c, d, a, e, f, g, h, i, j, l, m, n], .int .i64 4, a] Q) fun G X => 
 pinB (wo 10 (frz G)) <| 
 pinB (room 104 ((o : List AV).length + (([(frz G)] : List AV) : List AV).length)) <| 
 some (.normal, [(1, .lp 1 0), (2, .lp 2 0), (5, .ls 5)], [(1, .cells [b, c, d, a, e, f, g, h, i, j, l, m, n]), (2, .cells [q, r, u, w, x, y, z, A, B, C, D, E, F]), (5, .own 10 (o ++ ([(frz G)] : List AV)))], X))
 (fun _ => some (.normal, [(1, .lp 1 0), (2, .lp 2 0), (5, .ls 5)], [(1, .cells [b, c, d, a, e, f, g, h, i, j, l, m, n]), (2, .cells [q, r, u, w, x, y, z, A, B, C, D, E, F]), (5, .own 10 o)], Q)))
 (goC (z5 call lp jI) k))) := by kernel_rfl
theorem KE {call : z6} {lp : ze} (w x y z A B C D E F G H I : AV) (Q : z3) : z5 call lp ZG [(0, .v (.agg [w, x, y, z, A, B, C, D, E, F, G, H, I]))] [] Q (zA [.cell 2 (some 13), .tmp 3] [.n, .f 10]) = (
 bnC 13 (stC 13 (.agg [w, x, y, z, A, B, C, D, E, F, G, H, I])) fun b d K c e g h i q j l m L => 
 bnP (zc .add K (.int .i64 1)) fun M => 
 bnC 1 (stC 1 M) fun a => 
 bnS (call 43 [L, a] Q) fun N r => 
 bnC 1 (stC 1 (frz N)) fun o => 
 bnP (zc .rem a (.int .i64 2)) fun O => 
 bnP (zc .eql O (.int .i64 0)) fun p => 
 bnX (bnP (zc .eql b (.int .i64 1)) fun P => 
 zF P (fun _ => zF p (fun _ => bnP (zc .add i (.int .i64 1)) fun R => 
 bnC 1 (stC 1 R) fun S => 
 bnC 1 (stC 1 a) fun T => 
 some (.normal, [(1, .lp 1 0), (2, .lp 2 0), (4, .v p), (5, .ls 5)], [(1, .cells [b, d, a, c, e, g, h, S, T, j, l, m, o]), (2, .cells [.int .i64 0, .int .i64 0, .int .i64 0, .int .i64 0, .int .i64 0, .int .i64 0, .nils, .int .i64 0, .int .i64 0, .int .i64 0, .int .i64 0, .int .i64 0, .nils]), (5, .own 10 ([] : List AV))], r))
 (fun _ => some (.normal, [(1, .lp 1 0), (2, .lp 2 0), (4, .v p), (5, .ls 5)], [(1, .cells [b, d, a, c, e, g, h, i, q, j, l, m, o]), (2, .cells [.int .i64 0, .int .i64 0, .int .i64 0, .int .i64 0, .int .i64 0, .int .i64 0, .nils, .int .i64 0, .int .i64 0, .int .i64 0, .int .i64 0, .int .i64 0, .nils]), (5, .own 10 ([] : List AV))], r)))
 (fun _ => bnX (bnP (zc .neq c (.int .i64 0)) fun u => 
 bnP (gdQ u true (some (.agg [b, d, a, c, e, g, h, i, q, j, l, m, o]))) fun U => 
 bnS (gdH u true (call 26 [U] r) r) fun V J => 
 bnP (gdQ u true (unA .not (frz V))) fun W => 
 bnP (y6 u W (.bool false)) fun X => 
 zF X (fun _ => bnS (call 44 [.agg [b, d, a, c, e, g, h, i, q, j, l, m, o], .int .i64 0] J) fun Y Z => 
 bnC 13 (stC 13 (frz Y)) fun aa ab ac ad ae af ag ah ai aj ak al ao => 
 some (.normal, [(1, .lp 1 0), (2, .lp 2 0), (4, .v p), (5, .v .nils)], [(1, .cells [aa, ab, ac, ad, ae, af, ag, ah, ai, aj, ak, al, ao]), (2, .cells [.int .i64 0, .int .i64 0, .int .i64 0, .int .i64 0, .int .i64 0, .int .i64 0, .nils, .int .i64 0, .int .i64 0, .int .i64 0, .int .i64 0, .int .i64 0, .nils])], Z))
 (fun _ => some (.normal, [(1, .lp 1 0), (2, .lp 2 0), (4, .v p), (5, .v .nils)], [(1, .cells [b, d, a, c, e, g, h, i, q, j, l, m, o]), (2, .cells [.int .i64 0, .int .i64 0, .int .i64 0, .int .i64 0, .int .i64 0, .int .i64 0, .nils, .int .i64 0, .int .i64 0, .int .i64 0, .int .i64 0, .int .i64 0, .nils])], J)))
 (goC (z5 call lp q9) qH)))
 (goC (z5 call lp qa) (zA [.cell 2 (some 13), .tmp 3] [.n, .f 10]))) := by kernel_rfl
def KF {s : zi} (hs : s.lookup 19 = none) (a b c d e g h i j l m n o : AV) (Q : z3) := (zr (E := za s) (f := 19) (fn := xu) hs rfl [.agg [a, b, c, d, e, g, h, i, j, l, m, n, o]] Q rfl).trans (KE (call := zf (za s)) (lp := zh (za s)) a b c d e g h i j l m n o Q)
theorem qw {β : Type} (call : z6) (lp : ze) (a x b c d e f g h i j l m n o p q r u y z w : AV) (Q : z3) (k : PK β) : z5 call lp ql [(0, .v a), (4, .lp 4 0), (6, .lp 6 0), (64, .v x)] [(4, .cells [b, c, d, e, f, g, h, i, j, l]), (6, .cells [m, n, o, p, q, r, u, y, z, w])] Q k = (
 zF x (fun _ => bnS (call 13 [a, .int .i64 9] Q) fun B C => 
 bnP (zc .add (.int .i64 1) (frz B)) fun D => 
 bnC 1 (stC 1 D) fun A => 
 bnS (call 13 [a, .int .i64 6] C) fun E F => 
 bnP (zc .add A (frz E)) fun G => 
 bnC 1 (stC 1 G) fun H => 
 k .normal [(4, .lp 4 0), (6, .lp 6 0)] [(4, .cells [b, c, d, e, f, g, h, i, j, l]), (6, .cells [m, n, o, p, q, r, u, A, H, w])] F)
 (fun _ => k .normal [(4, .lp 4 0), (6, .lp 6 0)] [(4, .cells [b, c, d, e, f, g, h, i, j, l]), (6, .cells [m, n, o, p, q, r, u, y, z, w])] Q)) := by kernel_rfl
theorem y9 {β : Type} (call : z6) (lp : ze) (l m n o p q r u w x a b c d e f g h i j : AV) (Q : z3) (k : PK β) : z5 call lp qm [(4, .lp 4 0), (6, .lp 6 0)] [(4, .cells [l, m, n, o, p, q, r, u, w, x]), (6, .cells [a, b, c, d, e, f, g, h, i, j])] Q k = (
 bnC 10 (stC 10 (.agg [a, b, c, d, e, f, g, h, i, j])) fun y z A B C D E F G H => 
 k .ret [(77, .v (.agg [a, b, c, d, e, f, g, h, i, j])), (4, .lp 4 0), (6, .lp 6 0)] [(4, .cells [y, z, A, B, C, D, E, F, G, H]), (6, .cells [a, b, c, d, e, f, g, h, i, j])] Q) := by kernel_rfl
theorem YA {β : Type} (call : z6) (lp : ze) (a A B c d e f g h i j l m : AV) (Q : z3) (k : PK β) : z5 call lp xd [(0, .v a), (1, .v A), (4, .lp 4 0), (5, .v B)] [(4, .cells [c, d, e, f, g, h, i, j, l, m])] Q k = (
 bnS (call 13 [a, .int .i64 9] Q) fun D E => 
 bnP (zc .add (.int .i64 1) (frz D)) fun F => 
 bnS (call 13 [a, .int .i64 3] E) fun G n => 
 bnP (zc .add (.int .i64 1) (frz G)) fun H => 
 bnC 10 (wg [.int .i64 0, .int .i64 0, .int .i64 0, .int .i64 0, .int .i64 0, .int .i64 0, .nils, .int .i64 0, .int .i64 0, .str []] [(0, 1, F), (1, 1, B), (2, 1, A), (3, 1, H)]) fun I J K L M N O P R S => 
 bnC 10 (stC 10 (.agg [I, J, K, L, M, N, O, P, R, S])) fun b o p q w x y z r u => 
 bnX (bnX (bnP (zc .eql b (.int .i64 2)) fun T => 
 zF T (fun _ => bnS (call 13 [a, .int .i64 20] n) fun U V => 
 bnS (call 13 [a, .int .i64 25] V) fun W X => 
 bnS (call 21 [a] X) fun Y Z => 
 bnS (call 13 [a, .int .i64 9] Z) fun aa ab => 
 bnC 1 (stC 1 (frz U)) fun ac => 
 bnC 1 (stC 1 (frz W)) fun ad => 
 bnC 1 (stC 1 (frz Y)) fun ae => 
 bnC 1 (stC 1 (frz aa)) fun af => 
 some (.normal, [(4, .lp 4 0), (6, .lp 6 0)], [(4, .cells [c, d, e, f, g, h, i, j, l, m]), (6, .cells [b, o, p, q, ac, ad, ae, af, r, u])], ab))
 (fun _ => bnP (zc .eql b (.int .i64 5)) fun ag => 
 zF ag (fun _ => bnS (call 13 [a, .int .i64 20] n) fun ah ai => 
 bnS (call 13 [a, .int .i64 25] ai) fun aj ak => 
 bnS (call 21 [a] ak) fun al ao => 
 bnS (call 13 [a, .int .i64 12] ao) fun ap aq => 
 bnC 1 (stC 1 (frz ah)) fun ar => 
 bnC 1 (stC 1 (frz aj)) fun au => 
 bnC 1 (stC 1 (frz al)) fun av => 
 bnC 1 (stC 1 (frz ap)) fun aw => 
 some (.normal, [(4, .lp 4 0), (6, .lp 6 0)], [(4, .cells [c, d, e, f, g, h, i, j, l, m]), (6, .cells [b, o, p, q, ar, au, av, z, aw, u])], aq))
 (fun _ => bnP (zc .eql b (.int .i64 7)) fun ax => 
 zF ax (fun _ => bnS (call 13 [a, .int .i64 12] n) fun ay az => 
 bnP (zc .add (.int .i64 1) (frz ay)) fun a0 => 
 bnS (call 47 [a] az) fun a1 a2 => 
 bnC 1 (stC 1 a0) fun a3 => 
 bnC 1 (stC 1 (frz a1)) fun a4 => 
 some (.normal, [(4, .lp 4 0), (6, .lp 6 0)], [(4, .cells [c, d, e, f, g, h, i, j, l, m]), (6, .cells [b, o, p, q, w, x, y, a3, r, a4])], a2))
 (fun _ => bnX (bnP (zc .eql b (.int .i64 8)) fun C => 
 zF C (fun _ => some (.normal, [(0, .v a), (4, .lp 4 0), (6, .lp 6 0), (64, .v C)], [(4, .cells [c, d, e, f, g, h, i, j, l, m]), (6, .cells [b, o, p, q, w, x, y, z, r, u])], n))
 (fun _ => bnP (zc .eql b (.int .i64 9)) fun a5 => 
 some (.normal, [(0, .v a), (4, .lp 4 0), (6, .lp 6 0), (64, .v a5)], [(4, .cells [c, d, e, f, g, h, i, j, l, m]), (6, .cells [b, o, p, q, w, x, y, z, r, u])], n)))
 (goC (z5 call lp ql) (Jd [] [] [4, 6] [(4, 4), (6, 6)] (Jd [] [] [4, 6] [(4, 4), (6, 6)] (Jd [] [] [4, 6] [(4, 4), (6, 6)] qH))))))))
 (kD 0 qH))
 (goC (z5 call lp qm) k)) := by kernel_rfl
theorem XP {call : z6} {lp : ze} (b a : AV) (Q : z3) : z5 call lp vO [(0, .v b), (1, .v a)] [] Q (zA [.cell 4 (some 10)] [.n]) = (
 bnS (call 13 [b, .int .i64 8] Q) fun e c => 
 bnP (zc .add (.int .i64 1) (frz e)) fun d => 
 bnX (bnP (zc .eql d a) fun f => 
 zF f (fun _ => bnP (zc .rem a (.int .i64 8)) fun g => 
 bnP (zc .add (.int .i64 1) g) fun h => 
 some (.normal, [(0, .v b), (1, .v a), (4, .lp 4 0), (5, .v h)], [(4, .cells [.int .i64 0, .int .i64 0, .int .i64 0, .int .i64 0, .int .i64 0, .int .i64 0, .nils, .int .i64 0, .int .i64 0, .str []])], c))
 (fun _ => some (.normal, [(0, .v b), (1, .v a), (4, .lp 4 0), (5, .v d)], [(4, .cells [.int .i64 0, .int .i64 0, .int .i64 0, .int .i64 0, .int .i64 0, .int .i64 0, .nils, .int .i64 0, .int .i64 0, .str []])], c)))
 (goC (z5 call lp xd) (zA [.cell 4 (some 10)] [.n]))) := by kernel_rfl
def XQ {s : zi} (hs : s.lookup 20 = none) (a b : AV) (Q : z3) := (zr (E := za s) (f := 20) (fn := yH) hs rfl [a, b] Q rfl).trans (XP (call := zf (za s)) (lp := zh (za s)) a b Q)
theorem ke {β : Type} (call : z6) (lp : ze) (a b c : AV) (Q : z3) (k : PK β) : z5 call lp xV [(0, .v a), (3, .v b), (4, .v c)] [] Q k = (
 bnP (zc .sub c (.int .i64 1)) fun d => 
 k .normal [(0, .v a), (3, .v b), (4, .v d)] [] Q) := by kernel_rfl
theorem kf {β : Type} (call : z6) (lp : ze) (a b c : AV) (Q : z3) (k : PK β) : z5 call lp zL [(0, .v a), (3, .v b), (4, .v c)] [] Q k = (
 bnP (zc .gtr c (.int .i64 0)) fun f => 
 zF f (fun _ => bnX (bnX (bnS (call 13 [a, .int .i64 7] Q) fun g h => 
 bnP (zc .add (.int .i64 2) (frz g)) fun i => 
 bnS (call 35 [b, i] h) fun d e => 
 bnP (jt (frz d) 0) fun j => 
 bnP (jt (frz d) 1) fun l => 
 zF l (fun _ => some (.normal, [(0, .v a), (3, .v j), (4, .v c)], [], e))
 (fun _ => some (.normal, [(0, .v a), (3, .v b), (4, .v c)], [], e)))
 (kD 1 qH))
 (goC (z5 call lp xV) k))
 (fun _ => k (.exit 0) [(3, .v b)] [] Q)) := by kernel_rfl
noncomputable def xY (s : zi) (a b c : AV) (Q : z3) : Option js := zh (za s) zL [(0, .v a), (3, .v b), (4, .v c)] [] Q
theorem x6 (s : zi) (a b c : AV) (Q : z3) : zh (za s) zL [(0, .v a), (3, .v b), (4, .v c)] [] Q = xY s a b c Q := rfl
theorem jd (s : zi) (a b c : AV) (Q : z3) : xY s a b c Q = z5 (zf (za s)) (zh (za s)) zL [(0, .v a), (3, .v b), (4, .v c)] [] Q (goX (fun τ ω Q => zh (za s) zL τ ω Q) qH) := yU
abbrev Z9 (a : AV) (Q : z3) : Option js := some (.exit 0, [(3, .v a)], [], Q)
theorem Y5 {β : Type} (call : z6) (lp : ze) (a : AV) (Q : z3) (k : PK β) : z5 call lp xW [(3, .v a)] [] Q k = (
 k .ret [(2, .v a), (24, .v a), (3, .v a)] [] Q) := by kernel_rfl
theorem X8 {call : z6} {lp : ze} (a : AV) (Q : z3) : z5 call lp vp [(0, .v a)] [] Q (zA [.tmp 2] [.f 1]) = (
 bnS (call 13 [a, .int .i64 4] Q) fun b c => 
 bnX (lp zL [(0, .v a), (3, .v (.fz 1 ([.int .i64 1] : List AV))), (4, .v (frz b))] [] c) (kD 0 (goC (z5 call lp xW) (zA [.tmp 2] [.f 1])))) := by kernel_rfl
def X9 {s : zi} (hs : s.lookup 21 = none) (a : AV) (Q : z3) := (zr (E := za s) (f := 21) (fn := yy) hs rfl [a] Q rfl).trans (X8 (call := zf (za s)) (lp := zh (za s)) a Q)
theorem yb {β : Type} (call : z6) (lp : ze) (u w x c d a e f g b h i j l m n O o P y R S T U V W X Y Z aa ab ac ad ae af ag ah ai aj : AV) (Q : z3) (k : PK β) : z5 call lp jl [(2, .v u), (3, .lp 3 0), (4, .lp 4 0), (6, .lp 6 0), (10, .v w), (11, .v x)] [(3, .cells [c, d, a, e, f, g, b, h, i, j, l, m, n]), (4, .cells [O, o, P, y, R, S, T, U, V, W]), (6, .cells [X, Y, Z, aa, ab, ac, ad, ae, af, ag, ah, ai, aj])] Q k = (
 bnS (call 26 [.agg [c, d, a, e, f, g, b, h, i, j, l, m, n]] Q) fun ak z => 
 bnP (unA .not (frz ak)) fun r => 
 bnP (gdQ r false (some b)) fun al => 
 bnP (gdQ r false (some o)) fun ao => 
 bnS (gdH r false (call 32 [al, ao] z) z) fun ap A => 
 bnP (y6 r (.bool true) (frz ap)) fun p => 
 bnP (gdQ p false (some w)) fun aq => 
 bnP (gdQ p false (unA .not aq)) fun ar => 
 bnP (gdQ p false (some ar)) fun q => 
 bnP (gdQ q true (some n)) fun au => 
 bnP (gdQ q true (Zs au)) fun av => 
 bnP (gdQ q true (some x)) fun aw => 
 bnP (gdQ q true (zc .geq av aw)) fun ax => 
 bnP (gdQ p false (y6 q ax (.bool false))) fun ay => 
 bnP (y6 p (.bool true) ay) fun az => 
 zF az (fun _ => bnS (call 45 [.agg [c, d, a, e, f, g, b, h, i, j, l, m, n], .int .i64 3, o] A) fun B a0 => 
 pinB (wo 10 (frz B)) <| 
 bnC 13 (stC 13 (.agg [c, d, a, e, f, g, b, h, i, j, l, m, n])) fun a1 a2 a3 a4 a5 a6 a7 a8 a9 ba bb bc bd => 
 k .ret [(6, .lp 6 0), (7, .ls 7)] [(6, .cells [a1, a2, a3, a4, a5, a6, a7, a8, a9, ba, bb, bc, bd]), (7, .own 10 ([(frz B)] : List AV))] a0)
 (fun _ => bnC 3 (wg [.int .i64 0, .int .i64 0, .int .i64 0] [(0, 1, o), (1, 1, y), (2, 1, a)]) fun bf bg bh => 
 bnS (call 56 [n, .agg [bf, bg, bh]] A) fun C bi => 
 bnP (jt (frz C) 0) fun bj => 
 bnP (jt (frz C) 1) fun b0 => 
 bnC 1 (stC 1 bj) fun D => 
 bnS (call 46 [.agg [c, d, a, e, f, g, b, h, i, j, l, m, D], .int .i64 2, o] bi) fun bk bl => 
 bnC 10 (stC 10 (frz bk)) fun E F G H I J K b1 L M => 
 bnC 1 (stC 1 u) fun N => 
 pinB (wo 10 (.agg [E, F, G, H, I, J, K, N, L, M])) <| 
 bnC 13 (stC 13 (.agg [c, d, a, e, f, g, b, h, i, j, l, m, D])) fun bm bn bo bp bq br bs bt bu bv bw bx bz => 
 k .ret [(6, .lp 6 0), (7, .ls 7)] [(6, .cells [bm, bn, bo, bp, bq, br, bs, bt, bu, bv, bw, bx, bz]), (7, .own 10 ([.agg [E, F, G, H, I, J, K, N, L, M]] : List AV))] bl)) := by kernel_rfl
theorem jp {β : Type} (call : z6) (lp : ze) (E a b c d e f g h i j l m n o p q r u w x y z A B C D : AV) (Q : z3) (k : PK β) : z5 call lp jm [(3, .lp 3 0), (6, .lp 6 0), (8, .v E)] [(3, .cells [a, b, c, d, e, f, g, h, i, j, l, m, n]), (6, .cells [o, p, q, r, u, w, x, y, z, A, B, C, D])] Q k = (
 zF E (fun _ => bnS (call 44 [.agg [a, b, c, d, e, f, g, h, i, j, l, m, n], .int .i64 0] Q) fun F G => 
 bnC 13 (stC 13 (frz F)) fun H I J K L M N O P R S T U => 
 k .normal [(3, .lp 3 0), (6, .lp 6 0)] [(3, .cells [H, I, J, K, L, M, N, O, P, R, S, T, U]), (6, .cells [o, p, q, r, u, w, x, y, z, A, B, C, D])] G)
 (fun _ => k .normal [(3, .lp 3 0), (6, .lp 6 0)] [(3, .cells [a, b, c, d, e, f, g, h, i, j, l, m, n]), (6, .cells [o, p, q, r, u, w, x, y, z, A, B, C, D])] Q)) := by kernel_rfl
theorem zR {β : Type} (call : z6) (lp : ze) (a b c d e f g h i j l m n o p q r u w x y z A B C D : AV) (Q : z3) (k : PK β) : z5 call lp jo [(3, .lp 3 0), (6, .lp 6 0)] [(3, .cells [a, b, c, d, e, f, g, h, i, j, l, m, n]), (6, .cells [o, p, q, r, u, w, x, y, z, A, B, C, D])] Q k = (
 bnC 13 (stC 13 (.agg [a, b, c, d, e, f, g, h, i, j, l, m, n])) fun E F G H I J K L M N O P R => 
 k .ret [(7, .v .nils), (245, .v (.agg [a, b, c, d, e, f, g, h, i, j, l, m, n])), (3, .lp 3 0), (6, .lp 6 0)] [(6, .cells [E, F, G, H, I, J, K, L, M, N, O, P, R]), (3, .cells [a, b, c, d, e, f, g, h, i, j, l, m, n])] Q) := by kernel_rfl
theorem Qt {β : Type} (call : z6) (lp : ze) (R b f a c g m n l h e i j d p o K I J G H L M N q r u w x y z A B C D E F : AV) (Q : z3) (k : PK β) : z5 call lp xT [(2, .v R), (3, .lp 3 0), (4, .lp 4 0), (6, .lp 6 0)] [(3, .cells [b, f, a, c, g, m, n, l, h, e, i, j, d]), (4, .cells [p, o, K, I, J, G, H, L, M, N]), (6, .cells [q, r, u, w, x, y, z, A, B, C, D, E, F])] Q k = (
 bnP (zc .neq c (.int .i64 0)) fun O => 
 bnP (gdQ O true (some o)) fun ai => 
 bnP (gdQ O true (some c)) fun aj => 
 bnP (gdQ O true (zc .eql ai aj)) fun ak => 
 bnP (y6 O ak (.bool false)) fun S => 
 bnX (bnX (bnP (zc .eql p (.int .i64 1)) fun al => 
 zF al (fun _ => bnS (call 34 [d, o] Q) fun T U => 
 bnP (jt (frz T) 0) fun ao => 
 bnP (jt (frz T) 1) fun V => 
 bnC 3 (stC 3 ao) fun df dg dh => 
 bnX (bnP (zc .eql b (.int .i64 1)) fun ap => 
 zF ap (fun _ => some (.normal, [(2, .v R), (3, .lp 3 0), (4, .lp 4 0), (6, .lp 6 0), (10, .v V), (11, .v (.int .i64 8))], [(3, .cells [b, f, a, c, g, m, n, l, h, e, i, j, d]), (4, .cells [p, o, K, I, J, G, H, L, M, N]), (6, .cells [q, r, u, w, x, y, z, A, B, C, D, E, F])], U))
 (fun _ => some (.normal, [(2, .v R), (3, .lp 3 0), (4, .lp 4 0), (6, .lp 6 0), (10, .v V), (11, .v (.int .i64 3))], [(3, .cells [b, f, a, c, g, m, n, l, h, e, i, j, d]), (4, .cells [p, o, K, I, J, G, H, L, M, N]), (6, .cells [q, r, u, w, x, y, z, A, B, C, D, E, F])], U)))
 (goC (z5 call lp jl) (Jd [] [] [3, 6] [(3, 3), (6, 6)] qH)))
 (fun _ => bnP (zc .eql p (.int .i64 2)) fun aq => 
 zF aq (fun _ => bnS (call 57 [.agg [b, f, a, c, g, m, n, l, h, e, i, j, d], .agg [p, o, K, I, J, G, H, L, M, N]] Q) fun W ar => 
 bnP (jt (frz W) 0) fun au => 
 bnP (jt (frz W) 1) fun av => 
 bnC 13 (stC 13 au) fun aw ax ay az a0 a1 a2 a3 a4 a5 a6 a7 a8 => 
 some (.ret, [(6, .lp 6 0), (7, .v av)], [(6, .cells [aw, ax, ay, az, a0, a1, a2, a3, a4, a5, a6, a7, a8])], ar))
 (fun _ => bnP (zc .eql p (.int .i64 3)) fun a9 => 
 zF a9 (fun _ => bnX (bnP (zc .neq e (.int .i64 0)) fun P => 
 bnP (gdQ P true (some e)) fun ba => 
 bnP (gdQ P true (some o)) fun bb => 
 bnP (gdQ P true (zc .eql ba bb)) fun bc => 
 bnP (y6 P bc (.bool false)) fun bd => 
 zF bd (fun _ => bnP (zc .add j (.int .i64 1)) fun bf => 
 bnC 1 (stC 1 bf) fun bg => 
 some (.normal, [(3, .lp 3 0), (6, .lp 6 0), (8, .v S)], [(3, .cells [b, f, a, c, g, m, n, l, h, .int .i64 0, i, bg, d]), (6, .cells [q, r, u, w, x, y, z, A, B, C, D, E, F])], Q))
 (fun _ => some (.normal, [(3, .lp 3 0), (6, .lp 6 0), (8, .v S)], [(3, .cells [b, f, a, c, g, m, n, l, h, e, i, j, d]), (6, .cells [q, r, u, w, x, y, z, A, B, C, D, E, F])], Q)))
 (goC (z5 call lp jm) (Jd [] [] [3, 6] [(3, 3), (6, 6)] qH)))
 (fun _ => bnP (zc .eql p (.int .i64 4)) fun bh => 
 zF bh (fun _ => bnS (call 34 [d, o] Q) fun X Y => 
 bnP (jt (frz X) 0) fun bi => 
 bnP (jt (frz X) 1) fun bj => 
 bnC 3 (stC 3 bi) fun di dj dk => 
 bnP (unA .not bj) fun bk => 
 zF bk (fun _ => bnS (call 45 [.agg [b, f, a, c, g, m, n, l, h, e, i, j, d], .int .i64 3, o] Y) fun Z bl => 
 pinB (wo 10 (frz Z)) <| 
 bnC 13 (stC 13 (.agg [b, f, a, c, g, m, n, l, h, e, i, j, d])) fun bm bn bo bp bq br bs bt bu bv bw bx bz => 
 some (.ret, [(6, .lp 6 0), (7, .ls 7)], [(6, .cells [bm, bn, bo, bp, bq, br, bs, bt, bu, bv, bw, bx, bz]), (7, .own 10 ([(frz Z)] : List AV))], bl))
 (fun _ => bnC 3 (wg [.int .i64 0, .int .i64 0, .int .i64 0] [(0, 1, o), (1, 1, I), (2, 1, a)]) fun b0 b1 b2 => 
 bnS (call 56 [d, .agg [b0, b1, b2]] Y) fun aa b3 => 
 bnP (jt (frz aa) 0) fun b4 => 
 bnP (jt (frz aa) 1) fun dl => 
 bnC 1 (stC 1 b4) fun b5 => 
 some (.normal, [(3, .lp 3 0), (6, .lp 6 0)], [(3, .cells [b, f, a, c, g, m, n, l, h, e, i, j, b5]), (6, .cells [q, r, u, w, x, y, z, A, B, C, D, E, F])], b3)))
 (fun _ => bnP (zc .eql p (.int .i64 5)) fun b6 => 
 zF b6 (fun _ => bnP (unA .not S) fun b7 => 
 zF b7 (fun _ => bnS (call 45 [.agg [b, f, a, c, g, m, n, l, h, e, i, j, d], .int .i64 6, o] Q) fun ab b8 => 
 pinB (wo 10 (frz ab)) <| 
 bnC 13 (stC 13 (.agg [b, f, a, c, g, m, n, l, h, e, i, j, d])) fun b9 ca cb cc cd ce cf cg ch ci cj ck cl => 
 some (.ret, [(6, .lp 6 0), (7, .ls 7)], [(6, .cells [b9, ca, cb, cc, cd, ce, cf, cg, ch, ci, cj, ck, cl]), (7, .own 10 ([(frz ab)] : List AV))], b8))
 (fun _ => bnS (call 35 [H, b] Q) fun ac ad => 
 bnP (jt (frz ac) 0) fun cm => 
 bnP (jt (frz ac) 1) fun cn => 
 bnP (unA .not cn) fun co => 
 zF co (fun _ => bnS (call 44 [.agg [b, f, a, c, g, m, n, l, h, e, i, j, d], .int .i64 1] ad) fun cp cq => 
 bnS (call 45 [.agg [b, f, a, c, g, m, n, l, h, e, i, j, d], .int .i64 6, o] cq) fun ae cr => 
 pinB (wo 10 (frz ae)) <| 
 bnC 13 (stC 13 (frz cp)) fun cs ct cu cv cw cx cy cz c0 c1 c2 c3 c4 => 
 some (.ret, [(6, .lp 6 0), (7, .ls 7)], [(6, .cells [cs, ct, cu, cv, cw, cx, cy, cz, c0, c1, c2, c3, c4]), (7, .own 10 ([(frz ae)] : List AV))], cr))
 (fun _ => bnS (call 58 [H] ad) fun c5 af => 
 bnC 1 (stC 1 cm) fun ag => 
 bnC 1 (stC 1 (frz c5)) fun ah => 
 bnP (zc .sub a G) fun c6 => 
 bnP (zc .gtr c6 h) fun c7 => 
 zF c7 (fun _ => bnP (zc .sub a G) fun c8 => 
 bnC 1 (stC 1 c8) fun c9 => 
 bnC 1 (stC 1 J) fun da => 
 some (.normal, [(3, .lp 3 0), (6, .lp 6 0)], [(3, .cells [b, f, a, c, g, ah, ag, da, c9, e, i, j, d]), (6, .cells [q, r, u, w, x, y, z, A, B, C, D, E, F])], af))
 (fun _ => some (.normal, [(3, .lp 3 0), (6, .lp 6 0)], [(3, .cells [b, f, a, c, g, ah, ag, l, h, e, i, j, d]), (6, .cells [q, r, u, w, x, y, z, A, B, C, D, E, F])], af)))))
 (fun _ => bnP (zc .eql p (.int .i64 6)) fun db => 
 zF db (fun _ => bnS (call 59 [d, o] Q) fun dc dd => 
 bnC 1 (stC 1 (frz dc)) fun de => 
 some (.normal, [(3, .lp 3 0), (6, .lp 6 0)], [(3, .cells [b, f, a, c, g, m, n, l, h, e, i, j, de]), (6, .cells [q, r, u, w, x, y, z, A, B, C, D, E, F])], dd))
 (fun _ => some (.normal, [(3, .lp 3 0), (6, .lp 6 0)], [(3, .cells [b, f, a, c, g, m, n, l, h, e, i, j, d]), (6, .cells [q, r, u, w, x, y, z, A, B, C, D, E, F])], Q))))))))
 (kD 0 qH))
 (goC (z5 call lp jo) k)) := by kernel_rfl
theorem JH {call : z6} {lp : ze} (A B C D E F G H I J K L M N O P R S T U V W X j : AV) (Q : z3) : z5 call lp Zb [(0, .v (.agg [A, B, C, D, E, F, G, H, I, J, K, L, M])), (1, .v (.agg [N, O, P, R, S, T, U, V, W, X])), (2, .v j)] [] Q (zA [.cell 6 (some 13), .tmp 7] [.n, .f 10]) = (
 bnC 13 (stC 13 (.agg [A, B, C, D, E, F, G, H, I, J, K, L, M])) fun l m o b c p q r u w x y g => 
 bnC 10 (stC 10 (.agg [N, O, P, R, S, T, U, V, W, X])) fun Y d Z e aa ab ac ad ae af => 
 bnS (call 55 [g, d, e] Q) fun a z => 
 bnP (gdQ (frz a) false (some d)) fun ag => 
 bnP (gdQ (frz a) false (some b)) fun ah => 
 bnP (gdQ (frz a) false (zc .eql ag ah)) fun ai => 
 bnP (gdQ (frz a) false (some ai)) fun h => 
 bnP (gdQ h true (some e)) fun aj => 
 bnP (gdQ h true (some c)) fun ak => 
 bnP (gdQ h true (zc .lss aj ak)) fun al => 
 bnP (gdQ (frz a) false (y6 h al (.bool false))) fun ao => 
 bnP (y6 (frz a) (.bool true) ao) fun ap => 
 zF ap (fun _ => bnC 13 (stC 13 (.agg [l, m, o, b, c, p, q, r, u, w, x, y, g])) fun aq ar au av aw ax ay az a0 a1 a2 a3 a4 => 
 some (.tup [.agg [aq, ar, au, av, aw, ax, ay, az, a0, a1, a2, a3, a4], .fz 10 []], z))
 (fun _ => bnX (bnP (zc .eql d b) fun i => 
 bnP (gdQ i true (some e)) fun a5 => 
 bnP (gdQ i true (some c)) fun a6 => 
 bnP (gdQ i true (zc .gtr a5 a6)) fun a7 => 
 bnP (y6 i a7 (.bool false)) fun a8 => 
 zF a8 (fun _ => bnS (call 44 [.agg [l, m, o, b, c, p, q, r, u, w, x, y, g], .int .i64 0] z) fun a9 ba => 
 bnC 13 (stC 13 (frz a9)) fun bb bc bd bf bg bh bi bj bk bl bm bn bo => 
 some (.normal, [(2, .v j), (3, .lp 3 0), (4, .lp 4 0), (6, .lp 6 0)], [(3, .cells [bb, bc, bd, bf, bg, bh, bi, bj, bk, bl, bm, bn, bo]), (4, .cells [Y, d, Z, e, aa, ab, ac, ad, ae, af]), (6, .cells [.int .i64 0, .int .i64 0, .int .i64 0, .int .i64 0, .int .i64 0, .int .i64 0, .nils, .int .i64 0, .int .i64 0, .int .i64 0, .int .i64 0, .int .i64 0, .nils])], ba))
 (fun _ => some (.normal, [(2, .v j), (3, .lp 3 0), (4, .lp 4 0), (6, .lp 6 0)], [(3, .cells [l, m, o, b, c, p, q, r, u, w, x, y, g]), (4, .cells [Y, d, Z, e, aa, ab, ac, ad, ae, af]), (6, .cells [.int .i64 0, .int .i64 0, .int .i64 0, .int .i64 0, .int .i64 0, .int .i64 0, .nils, .int .i64 0, .int .i64 0, .int .i64 0, .int .i64 0, .int .i64 0, .nils])], z)))
 (goC (z5 call lp xT) (zA [.cell 6 (some 13), .tmp 7] [.n, .f 10])))) := by kernel_rfl
def JI {s : zi} (hs : s.lookup 23 = none) (a b c d e g h i j l m n o p q r u v w x y z A B : AV) (Q : z3) := (zr (E := za s) (f := 23) (fn := xi) hs rfl [.agg [a, b, c, d, e, g, h, i, j, l, m, n, o], .agg [p, q, r, u, v, w, x, y, z, A], B] Q rfl).trans (JH (call := zf (za s)) (lp := zh (za s)) a b c d e g h i j l m n o p q r u v w x y z A B Q)
theorem z4B {call : z6} {lp : ze} (c d e f g h i j l m o p q : AV) (Q : z3) : z5 call lp z06 [(0, .v (.agg [c, d, e, f, g, h, i, j, l, m, o, p, q]))] [] Q (zA [.tmp 2] [.n]) = (
 bnC 13 (stC 13 (.agg [c, d, e, f, g, h, i, j, l, m, o, p, q])) fun r H u w I J K L x M N O P => 
 bnP (zc .eql r (.int .i64 1)) fun a => 
 bnP (gdQ a false (some w)) fun y => 
 bnP (gdQ a false (zc .neq y (.int .i64 0))) fun z => 
 bnP (gdQ a false (some z)) fun b => 
 bnP (gdQ b true (some u)) fun A => 
 bnP (gdQ b true (some x)) fun B => 
 bnP (gdQ b true (zc .sub A B)) fun C => 
 bnP (gdQ b true (zc .leq C (.int .i64 20))) fun D => 
 bnP (gdQ a false (y6 b D (.bool false))) fun E => 
 bnP (y6 a (.bool true) E) fun F => 
 bnP (rcv false .n F) fun G => some (G, Q)) := by kernel_rfl
def z4C {s : zi} (hs : s.lookup 25 = none) (a b c d e g h i j l m n o : AV) (Q : z3) := (zr (E := za s) (f := 25) (fn := vP) hs rfl [.agg [a, b, c, d, e, g, h, i, j, l, m, n, o]] Q rfl).trans (z4B (call := zf (za s)) (lp := zh (za s)) a b c d e g h i j l m n o Q)
theorem JJ {call : z6} {lp : ze} (c d e f g h i j l m o p q : AV) (Q : z3) : z5 call lp Zc [(0, .v (.agg [c, d, e, f, g, h, i, j, l, m, o, p, q]))] [] Q (zA [.tmp 2] [.n]) = (
 bnC 13 (stC 13 (.agg [c, d, e, f, g, h, i, j, l, m, o, p, q])) fun r H u w I J K L x M N O P => 
 bnP (zc .eql r (.int .i64 1)) fun a => 
 bnP (gdQ a false (some w)) fun y => 
 bnP (gdQ a false (zc .neq y (.int .i64 0))) fun z => 
 bnP (gdQ a false (some z)) fun b => 
 bnP (gdQ b true (some u)) fun A => 
 bnP (gdQ b true (some x)) fun B => 
 bnP (gdQ b true (zc .sub A B)) fun C => 
 bnP (gdQ b true (zc .leq C (.int .i64 20))) fun D => 
 bnP (gdQ a false (y6 b D (.bool false))) fun E => 
 bnP (y6 a (.bool true) E) fun F => 
 bnP (rcv false .n F) fun G => some (G, Q)) := by kernel_rfl
def JK {s : zi} (hs : s.lookup 26 = none) (a b c d e g h i j l m n o : AV) (Q : z3) := (zr (E := za s) (f := 26) (fn := xj) hs rfl [.agg [a, b, c, d, e, g, h, i, j, l, m, n, o]] Q rfl).trans (JJ (call := zf (za s)) (lp := zh (za s)) a b c d e g h i j l m n o Q)
theorem vV {β : Type} (call : z6) (lp : ze) (b c : AV) (Q : z3) (k : PK β) : z5 call lp y3 [(0, .v b), (3, .v c)] [] Q k = (
 bnP (Zs b) fun f => 
 bnP (zc .lss c f) fun g => 
 zF g (fun _ => bnP (elQ 1 b c) fun h => 
 bnP ((AV.cells h)[0]?) fun i => 
 bnP (zc .lss i (.int .i64 1)) fun d => 
 bnP (gdQ d false (some b)) fun j => 
 bnP (gdQ d false (some c)) fun l => 
 bnP (gdQ d false (elQ 1 j l)) fun m => 
 bnP (gdQ d false ((AV.cells m)[0]?)) fun n => 
 bnP (gdQ d false (zc .gtr n (.int .i64 8))) fun o => 
 bnP (y6 d (.bool true) o) fun a => 
 bnP (gdQ a false (some b)) fun p => 
 bnP (gdQ a false (some c)) fun q => 
 bnP (gdQ a false (QZ 1 p none (some q))) fun r => 
 bnP (gdQ a false (some b)) fun u => 
 bnP (gdQ a false (some c)) fun w => 
 bnP (gdQ a false (elQ 1 u w)) fun x => 
 bnP (gdQ a false ((AV.cells x)[0]?)) fun y => 
 bnS (gdH a false (call 32 [r, y] Q) Q) fun z e => 
 bnP (y6 a (.bool true) (frz z)) fun A => 
 zF A (fun _ => k .ret [(2, .v (.bool false))] [] e)
 (fun _ => bnP (zc .add c (.int .i64 1)) fun B => 
 k .normal [(0, .v b), (3, .v B)] [] e))
 (fun _ => k (.exit 0) [] [] Q)) := by kernel_rfl
noncomputable def xD (s : zi) (a b : AV) (Q : z3) : Option js := zh (za s) y3 [(0, .v a), (3, .v b)] [] Q
theorem yL (s : zi) (a b : AV) (Q : z3) : zh (za s) y3 [(0, .v a), (3, .v b)] [] Q = xD s a b Q := rfl
theorem kg (s : zi) (a b : AV) (Q : z3) : xD s a b Q = z5 (zf (za s)) (zh (za s)) y3 [(0, .v a), (3, .v b)] [] Q (goX (fun τ ω Q => zh (za s) y3 τ ω Q) qH) := yU
abbrev Y6 (Q : z3) : Option js := some (.exit 0, [], [], Q)
abbrev ZQ (a : AV) (Q : z3) : Option js := some (.ret, [(2, .v a)], [], Q)
theorem XR {β : Type} (call : z6) (lp : ze) (Q : z3) (k : PK β) : z5 call lp qY [] [] Q k = (
 k .ret [(2, .v (.bool true))] [] Q) := by kernel_rfl
theorem QU {call : z6} {lp : ze} (a : AV) (Q : z3) : z5 call lp wN [(0, .v a)] [] Q (zA [.tmp 2] [.n]) = (
 bnP (Zs a) fun d => 
 bnP (zc .lss d (.int .i64 1)) fun c => 
 bnP (gdQ c false (some a)) fun e => 
 bnP (gdQ c false (Zs e)) fun f => 
 bnP (gdQ c false (zc .gtr f (.int .i64 10))) fun g => 
 bnP (y6 c (.bool true) g) fun b => 
 bnP (gdQ b false (some a)) fun h => 
 bnP (gdQ b false (elQ 1 h (.int .i64 0))) fun i => 
 bnP (gdQ b false ((AV.cells i)[0]?)) fun j => 
 bnP (gdQ b false (zc .neq j (.int .i64 1))) fun l => 
 bnP (y6 b (.bool true) l) fun m => 
 zF m (fun _ => some (.bool false, Q))
 (fun _ => bnX (lp y3 [(0, .v a), (3, .v (.int .i64 0))] [] Q) (kD 0 (goC (z5 call lp qY) (zA [.tmp 2] [.n]))))) := by kernel_rfl
def QV {s : zi} (hs : s.lookup 29 = none) (a : AV) (Q : z3) := (zr (E := za s) (f := 29) (fn := x4) hs rfl [a] Q rfl).trans (QU (call := zf (za s)) (lp := zh (za s)) a Q)
theorem ZR {β : Type} (call : z6) (lp : ze) (a c b : AV) (Q : z3) (k : PK β) : z5 call lp yE [(0, .v a), (1, .v c), (5, .v b)] [] Q k = (
 bnP (Zs a) fun d => 
 bnP (zc .lss b d) fun e => 
 zF e (fun _ => bnP (elQ 1 a b) fun f => 
 bnP ((AV.cells f)[0]?) fun g => 
 bnP (zc .eql g c) fun h => 
 zF h (fun _ => k .ret [(4, .v (.bool true))] [] Q)
 (fun _ => bnP (zc .add b (.int .i64 1)) fun i => 
 k .normal [(0, .v a), (1, .v c), (5, .v i)] [] Q))
 (fun _ => k (.exit 0) [] [] Q)) := by kernel_rfl
noncomputable def v9 (s : zi) (a b c : AV) (Q : z3) : Option js := zh (za s) yE [(0, .v a), (1, .v b), (5, .v c)] [] Q
theorem qS (s : zi) (a b c : AV) (Q : z3) : zh (za s) yE [(0, .v a), (1, .v b), (5, .v c)] [] Q = v9 s a b c Q := rfl
theorem wc (s : zi) (a b c : AV) (Q : z3) : v9 s a b c Q = z5 (zf (za s)) (zh (za s)) yE [(0, .v a), (1, .v b), (5, .v c)] [] Q (goX (fun τ ω Q => zh (za s) yE τ ω Q) qH) := yU
abbrev Qu (Q : z3) : Option js := some (.exit 0, [], [], Q)
abbrev XS (a : AV) (Q : z3) : Option js := some (.ret, [(4, .v a)], [], Q)
theorem KG {β : Type} (call : z6) (lp : ze) (Q : z3) (k : PK β) : z5 call lp v4 [] [] Q k = (
 k .ret [(4, .v (.bool false))] [] Q) := by kernel_rfl
theorem Wu {call : z6} {lp : ze} (a b : AV) (Q : z3) : z5 call lp YN [(0, .v a), (1, .v b)] [] Q (zA [.tmp 4] [.n]) = (
 bnX (lp yE [(0, .v a), (1, .v b), (5, .v (.int .i64 0))] [] Q) (kD 0 (goC (z5 call lp v4) (zA [.tmp 4] [.n])))) := by kernel_rfl
def Wv {s : zi} (hs : s.lookup 32 = none) (a b : AV) (Q : z3) := (zr (E := za s) (f := 32) (fn := qb) hs rfl [a, b] Q rfl).trans (Wu (call := zf (za s)) (lp := zh (za s)) a b Q)
theorem qx {β : Type} (call : z6) (lp : ze) (a b c d e f g h i j l m n o p q r u w x y z A B C D E F G H I J K L M N O P R S : AV) (Q : z3) (k : PK β) : z5 call lp qo [(0, .v a), (1, .v b), (2, .v c), (6, .lp 6 0), (7, .lp 7 0), (8, .v d), (9, .lp 9 0)] [(6, .cells [e, f, g, h, i, j, l, m, n, o, p, q, r]), (7, .cells [u, w, x, y, z, A, B, C, D, E, F, G, H]), (9, .cells [I, J, K, L, M, N, O, P, R, S])] Q k = (
 bnS (call 23 [.agg [u, w, x, y, z, A, B, C, D, E, F, G, H], .agg [I, J, K, L, M, N, O, P, R, S], .int .i64 1] Q) fun T U => 
 bnP (jt (frz T) 0) fun V => 
 bnP (jt (frz T) 1) fun aj => 
 bnC 13 (stC 13 V) fun W X Y Z aa ab ac ad ae af ag ah ai => 
 k .normal [(0, .v a), (1, .v b), (2, .v c), (6, .lp 6 0), (7, .lp 7 0), (8, .v d)] [(6, .cells [e, f, g, h, i, j, l, m, n, o, p, q, r]), (7, .cells [W, X, Y, Z, aa, ab, ac, ad, ae, af, ag, ah, ai])] U) := by kernel_rfl
theorem kH {β : Type} (call : z6) (lp : ze) (a b c d e f g h i j l m n o p q r u w x y z A B C D E F G H I J K L M N O P R S : AV) (Q : z3) (k : PK β) : z5 call lp qp [(0, .v a), (1, .v b), (2, .v c), (6, .lp 6 0), (7, .lp 7 0), (8, .v d), (10, .lp 10 0)] [(6, .cells [e, f, g, h, i, j, l, m, n, o, p, q, r]), (7, .cells [u, w, x, y, z, A, B, C, D, E, F, G, H]), (10, .cells [I, J, K, L, M, N, O, P, R, S])] Q k = (
 bnS (call 23 [.agg [u, w, x, y, z, A, B, C, D, E, F, G, H], .agg [I, J, K, L, M, N, O, P, R, S], .int .i64 1] Q) fun T U => 
 bnP (jt (frz T) 0) fun V => 
 bnP (jt (frz T) 1) fun aj => 
 bnC 13 (stC 13 V) fun W X Y Z aa ab ac ad ae af ag ah ai => 
 k .normal [(0, .v a), (1, .v b), (2, .v c), (6, .lp 6 0), (7, .lp 7 0), (8, .v d)] [(6, .cells [e, f, g, h, i, j, l, m, n, o, p, q, r]), (7, .cells [W, X, Y, Z, aa, ab, ac, ad, ae, af, ag, ah, ai])] U) := by kernel_rfl
theorem zQ {β : Type} (call : z6) (lp : ze) (a b c d e f g h i j l m n o p q r u w x y z A B C D E F G H : AV) (Q : z3) (k : PK β) : z5 call lp qr [(0, .v a), (1, .v b), (2, .v c), (6, .lp 6 0), (7, .lp 7 0), (8, .v d)] [(6, .cells [e, f, g, h, i, j, l, m, n, o, p, q, r]), (7, .cells [u, w, x, y, z, A, B, C, D, E, F, G, H])] Q k = (
 bnP (zc .add d (.int .i64 1)) fun I => 
 k .normal [(0, .v a), (1, .v b), (2, .v c), (6, .lp 6 0), (7, .lp 7 0), (8, .v I)] [(6, .cells [e, f, g, h, i, j, l, m, n, o, p, q, r]), (7, .cells [u, w, x, y, z, A, B, C, D, E, F, G, H])] Q) := by kernel_rfl
theorem qy {β : Type} (call : z6) (lp : ze) (a b f g h i j l m n o p q r u w x y z A d e B C D E c F G H : AV) (Q : z3) (k : PK β) : z5 call lp zP [(0, .v a), (1, .v b), (2, .v f), (6, .lp 6 0), (7, .lp 7 0), (8, .v g)] [(6, .cells [h, i, j, l, m, n, o, p, q, r, u, w, x]), (7, .cells [y, z, A, d, e, B, C, D, E, c, F, G, H])] Q k = (
 bnP (zc .lss g f) fun I => 
 bnP (gdQ I true (some a)) fun T => 
 bnS (gdH I true (call 17 [T] Q) Q) fun U M => 
 bnP (gdQ I true (unA .not (frz U))) fun V => 
 bnP (y6 I V (.bool false)) fun W => 
 zF W (fun _ => bnX (bnX (bnS (call 13 [a, .int .i64 4] M) fun L J => 
 bnX (bnP (zc .eql (frz L) (.int .i64 0)) fun X => 
 zF X (fun _ => bnS (call 19 [.agg [y, z, A, d, e, B, C, D, E, c, F, G, H]] J) fun N Y => 
 bnP (jt (frz N) 0) fun Z => 
 bnP (jt (frz N) 1) fun dt => 
 bnC 13 (stC 13 Z) fun aa ab ac ad ae af ag ah ai aj ak al ao => 
 some (.normal, [(0, .v a), (1, .v b), (2, .v f), (6, .lp 6 0), (7, .lp 7 0), (8, .v g)], [(6, .cells [h, i, j, l, m, n, o, p, q, r, u, w, x]), (7, .cells [aa, ab, ac, ad, ae, af, ag, ah, ai, aj, ak, al, ao])], Y))
 (fun _ => bnP (zc .eql (frz L) (.int .i64 1)) fun ap => 
 zF ap (fun _ => bnS (call 20 [a, b] J) fun aq O => 
 bnC 10 (stC 10 (frz aq)) fun ar au av aw ax ay az a0 a1 a2 => 
 bnX (bnP (zc .neq c (.int .i64 0)) fun K => 
 bnP (gdQ K true (some c)) fun a3 => 
 bnP (gdQ K true (some b)) fun a4 => 
 bnP (gdQ K true (zc .neq a3 a4)) fun a5 => 
 bnP (y6 K a5 (.bool false)) fun a6 => 
 zF a6 (fun _ => bnS (call 13 [a, .int .i64 2] O) fun a7 a8 => 
 bnP (zc .add (.int .i64 1) (frz a7)) fun a9 => 
 bnS (call 13 [a, .int .i64 9] a8) fun ba bb => 
 bnS (call 13 [a, .int .i64 22] bb) fun bc bd => 
 bnS (call 21 [a] bd) fun bf bg => 
 bnP (QZ 1 (frz bf) (some (.int .i64 1)) none) fun bh => 
 bnL (Xe [] 1 (.v bh)) fun P => 
 pinB (room 8 ((([.int .i64 1] : List AV) : List AV).length + (P : List AV).length)) <| 
 bnS (call 13 [a, .int .i64 4] bg) fun bi bj => 
 bnP (zc .add (.int .i64 1) (frz bi)) fun bk => 
 bnC 10 (wg [.int .i64 0, .int .i64 0, .int .i64 0, .int .i64 0, .int .i64 0, .int .i64 0, .nils, .int .i64 0, .int .i64 0, .str []] [(0, 1, .int .i64 2), (1, 1, c), (2, 1, b), (3, 1, a9), (4, 1, (frz ba)), (5, 1, (frz bc)), (6, 1, (.fz 1 (([.int .i64 1] : List AV) ++ P))), (7, 1, bk)]) fun bl bm bn bo bp bq br bs bt bu => 
 bnC 10 (stC 10 (.agg [bl, bm, bn, bo, bp, bq, br, bs, bt, bu])) fun bv bw bx bz b0 b1 b2 b3 b4 b5 => 
 some (.normal, [(0, .v a), (1, .v b), (2, .v f), (6, .lp 6 0), (7, .lp 7 0), (8, .v g), (9, .lp 9 0)], [(6, .cells [h, i, j, l, m, n, o, p, q, r, u, w, x]), (7, .cells [y, z, A, d, e, B, C, D, E, c, F, G, H]), (9, .cells [bv, bw, bx, bz, b0, b1, b2, b3, b4, b5])], bj))
 (fun _ => some (.normal, [(0, .v a), (1, .v b), (2, .v f), (6, .lp 6 0), (7, .lp 7 0), (8, .v g), (9, .lp 9 0)], [(6, .cells [h, i, j, l, m, n, o, p, q, r, u, w, x]), (7, .cells [y, z, A, d, e, B, C, D, E, c, F, G, H]), (9, .cells [ar, au, av, aw, ax, ay, az, a0, a1, a2])], O)))
 (goC (z5 call lp qo) (Jd [] [] [0, 1, 2, 6, 7, 8] [(6, 6), (7, 7)] (Jd [] [] [0, 1, 2, 6, 7, 8] [(6, 6), (7, 7)] qH))))
 (fun _ => bnP (zc .eql (frz L) (.int .i64 2)) fun b6 => 
 zF b6 (fun _ => bnS (call 20 [a, b] J) fun b7 R => 
 bnC 10 (stC 10 (frz b7)) fun b8 b9 ca cb cc cd ce cf cg ch => 
 bnX (bnP (zc .neq d (.int .i64 0)) fun ci => 
 zF ci (fun _ => bnS (call 13 [a, .int .i64 30] R) fun cj ck => 
 bnS (call 13 [a, .int .i64 20] ck) fun cl cm => 
 bnS (call 21 [a] cm) fun cn co => 
 bnS (call 13 [a, .int .i64 9] co) fun cp cq => 
 bnC 10 (wg [.int .i64 0, .int .i64 0, .int .i64 0, .int .i64 0, .int .i64 0, .int .i64 0, .nils, .int .i64 0, .int .i64 0, .str []] [(0, 1, .int .i64 5), (1, 1, d), (2, 1, b), (3, 1, e), (4, 1, (frz cj)), (5, 1, (frz cl)), (6, 1, (frz cn)), (8, 1, (frz cp))]) fun cr cs ct cu cv cw cx cy cz c0 => 
 bnC 10 (stC 10 (.agg [cr, cs, ct, cu, cv, cw, cx, cy, cz, c0])) fun c1 c2 c3 c4 c5 c6 c7 c8 c9 da => 
 some (.normal, [(0, .v a), (1, .v b), (2, .v f), (6, .lp 6 0), (7, .lp 7 0), (8, .v g), (10, .lp 10 0)], [(6, .cells [h, i, j, l, m, n, o, p, q, r, u, w, x]), (7, .cells [y, z, A, d, e, B, C, D, E, c, F, G, H]), (10, .cells [c1, c2, c3, c4, c5, c6, c7, c8, c9, da])], cq))
 (fun _ => some (.normal, [(0, .v a), (1, .v b), (2, .v f), (6, .lp 6 0), (7, .lp 7 0), (8, .v g), (10, .lp 10 0)], [(6, .cells [h, i, j, l, m, n, o, p, q, r, u, w, x]), (7, .cells [y, z, A, d, e, B, C, D, E, c, F, G, H]), (10, .cells [b8, b9, ca, cb, cc, cd, ce, cf, cg, ch])], R)))
 (goC (z5 call lp qp) (Jd [] [] [0, 1, 2, 6, 7, 8] [(6, 6), (7, 7)] (Jd [] [] [0, 1, 2, 6, 7, 8] [(6, 6), (7, 7)] (Jd [] [] [0, 1, 2, 6, 7, 8] [(6, 6), (7, 7)] qH)))))
 (fun _ => bnS (call 20 [a, b] J) fun db dc => 
 bnS (call 23 [.agg [y, z, A, d, e, B, C, D, E, c, F, G, H], (frz db), .int .i64 1] dc) fun S dd => 
 bnP (jt (frz S) 0) fun de => 
 bnP (jt (frz S) 1) fun du => 
 bnC 13 (stC 13 de) fun df dg dh di dj dk dl dm dn dp dq dr ds => 
 some (.normal, [(0, .v a), (1, .v b), (2, .v f), (6, .lp 6 0), (7, .lp 7 0), (8, .v g)], [(6, .cells [h, i, j, l, m, n, o, p, q, r, u, w, x]), (7, .cells [df, dg, dh, di, dj, dk, dl, dm, dn, dp, dq, dr, ds])], dd)))))
 (kD 2 (Jd [] [] [0, 1, 2, 6, 7, 8] [(6, 6), (7, 7)] qH)))
 (kD 1 qH))
 (goC (z5 call lp qr) k))
 (fun _ => k (.exit 0) [(6, .lp 6 0), (7, .lp 7 0)] [(6, .cells [h, i, j, l, m, n, o, p, q, r, u, w, x]), (7, .cells [y, z, A, d, e, B, C, D, E, c, F, G, H])] M)) := by kernel_rfl
noncomputable def xe (s : zi) (a b c d e f g h i j l m n o p q r u w x y z A B C D E F G H : AV) (Q : z3) : Option js := zh (za s) zP [(0, .v a), (1, .v b), (2, .v c), (6, .lp 6 0), (7, .lp 7 0), (8, .v d)] [(6, .cells [e, f, g, h, i, j, l, m, n, o, p, q, r]), (7, .cells [u, w, x, y, z, A, B, C, D, E, F, G, H])] Q
theorem zq (s : zi) (a b c d e f g h i j l m n o p q r u w x y z A B C D E F G H : AV) (Q : z3) : zh (za s) zP [(0, .v a), (1, .v b), (2, .v c), (6, .lp 6 0), (7, .lp 7 0), (8, .v d)] [(6, .cells [e, f, g, h, i, j, l, m, n, o, p, q, r]), (7, .cells [u, w, x, y, z, A, B, C, D, E, F, G, H])] Q = xe s a b c d e f g h i j l m n o p q r u w x y z A B C D E F G H Q := rfl
theorem xE (s : zi) (a b c d e f g h i j l m n o p q r u w x y z A B C D E F G H : AV) (Q : z3) : xe s a b c d e f g h i j l m n o p q r u w x y z A B C D E F G H Q = z5 (zf (za s)) (zh (za s)) zP [(0, .v a), (1, .v b), (2, .v c), (6, .lp 6 0), (7, .lp 7 0), (8, .v d)] [(6, .cells [e, f, g, h, i, j, l, m, n, o, p, q, r]), (7, .cells [u, w, x, y, z, A, B, C, D, E, F, G, H])] Q (goX (fun τ ω Q => zh (za s) zP τ ω Q) qH) := yU
abbrev jx (a b c d e f g h i j l m n o p q r u v w x y z A B C : AV) (Q : z3) : Option js := some (.exit 0, [(6, .lp 6 0), (7, .lp 7 0)], [(6, .cells [a, b, c, d, e, f, g, h, i, j, l, m, n]), (7, .cells [o, p, q, r, u, v, w, x, y, z, A, B, C])], Q)
theorem YB {β : Type} (call : z6) (lp : ze) (o p q r u w x y z A B C D a b c d e f g h i j l m n : AV) (Q : z3) (k : PK β) : z5 call lp qt [(6, .lp 6 0), (7, .lp 7 0)] [(6, .cells [o, p, q, r, u, w, x, y, z, A, B, C, D]), (7, .cells [a, b, c, d, e, f, g, h, i, j, l, m, n])] Q k = (
 bnC 13 (stC 13 (.agg [a, b, c, d, e, f, g, h, i, j, l, m, n])) fun E F G H I J K L M N O P R => 
 k .ret [(111, .v (.agg [a, b, c, d, e, f, g, h, i, j, l, m, n])), (6, .lp 6 0), (7, .lp 7 0)] [(6, .cells [E, F, G, H, I, J, K, L, M, N, O, P, R]), (7, .cells [a, b, c, d, e, f, g, h, i, j, l, m, n])] Q) := by kernel_rfl
theorem XT {call : z6} {lp : ze} (a b c : AV) (Q : z3) : z5 call lp vQ [(0, .v a), (1, .v b), (2, .v c)] [] Q (zA [.cell 6 (some 13)] [.n]) = (
 bnS (call 13 [a, .int .i64 5] Q) fun d e => 
 bnS (call 13 [a, .int .i64 4] e) fun f g => 
 bnS (call 15 [b, .int .i64 2, (frz d), (frz f)] g) fun h i => 
 bnC 13 (stC 13 (frz h)) fun j l m o p q r u w x y z A => 
 bnX (lp zP [(0, .v a), (1, .v b), (2, .v c), (6, .lp 6 0), (7, .lp 7 0), (8, .v (.int .i64 0))] [(6, .cells [.int .i64 0, .int .i64 0, .int .i64 0, .int .i64 0, .int .i64 0, .int .i64 0, .nils, .int .i64 0, .int .i64 0, .int .i64 0, .int .i64 0, .int .i64 0, .nils]), (7, .cells [j, l, m, o, p, q, r, u, w, x, y, z, A])] i) (kD 0 (goC (z5 call lp qt) (zA [.cell 6 (some 13)] [.n])))) := by kernel_rfl
def XU {s : zi} (hs : s.lookup 33 = none) (a b c : AV) (Q : z3) := (zr (E := za s) (f := 33) (fn := yI) hs rfl [a, b, c] Q rfl).trans (XT (call := zf (za s)) (lp := zh (za s)) a b c Q)
theorem Zf {β : Type} (call : z6) (lp : ze) (a c b d e f : AV) (Q : z3) (k : PK β) : z5 call lp yq [(0, .v a), (1, .v c), (4, .lp 4 0), (6, .v b)] [(4, .cells [d, e, f])] Q k = (
 bnP (Zs a) fun g => 
 bnP (zc .lss b g) fun h => 
 zF h (fun _ => bnP (elQ 3 a b) fun i => 
 bnP ((AV.cells i)[0]?) fun j => 
 bnP (zc .eql j c) fun l => 
 zF l (fun _ => bnP (elQ 3 a b) fun m => 
 bnC 3 (cut (AV.cells m) 0 3) fun n o p => 
 bnC 3 (stC 3 (.agg [n, o, p])) fun q r u => 
 k .ret [(4, .lp 4 0), (5, .v (.bool true))] [(4, .cells [q, r, u])] Q)
 (fun _ => bnP (zc .add b (.int .i64 1)) fun w => 
 k .normal [(0, .v a), (1, .v c), (4, .lp 4 0), (6, .v w)] [(4, .cells [d, e, f])] Q))
 (fun _ => k (.exit 0) [(4, .lp 4 0)] [(4, .cells [d, e, f])] Q)) := by kernel_rfl
noncomputable def kz (s : zi) (a b c d e f : AV) (Q : z3) : Option js := zh (za s) yq [(0, .v a), (1, .v b), (4, .lp 4 0), (6, .v c)] [(4, .cells [d, e, f])] Q
theorem kI (s : zi) (a b c d e f : AV) (Q : z3) : zh (za s) yq [(0, .v a), (1, .v b), (4, .lp 4 0), (6, .v c)] [(4, .cells [d, e, f])] Q = kz s a b c d e f Q := rfl
theorem vW (s : zi) (a b c d e f : AV) (Q : z3) : kz s a b c d e f Q = z5 (zf (za s)) (zh (za s)) yq [(0, .v a), (1, .v b), (4, .lp 4 0), (6, .v c)] [(4, .cells [d, e, f])] Q (goX (fun τ ω Q => zh (za s) yq τ ω Q) qH) := yU
theorem JL {β : Type} (call : z6) (lp : ze) (a b c : AV) (Q : z3) (k : PK β) : z5 call lp kp [(4, .lp 4 0)] [(4, .cells [a, b, c])] Q k = (
 k .ret [(5, .v (.bool false)), (24, .v (.agg [.int .i64 0, .int .i64 0, .int .i64 0])), (4, .lp 4 0)] [(4, .cells [.int .i64 0, .int .i64 0, .int .i64 0])] Q) := by kernel_rfl
theorem VD {call : z6} {lp : ze} (a b : AV) (Q : z3) : z5 call lp Yb [(0, .v a), (1, .v b)] [] Q (zA [.cell 4 (some 3), .tmp 5] [.n, .n]) = (
 bnX (lp yq [(0, .v a), (1, .v b), (4, .lp 4 0), (6, .v (.int .i64 0))] [(4, .cells [.int .i64 0, .int .i64 0, .int .i64 0])] Q) (kD 0 (goC (z5 call lp kp) (zA [.cell 4 (some 3), .tmp 5] [.n, .n])))) := by kernel_rfl
def VE {s : zi} (hs : s.lookup 34 = none) (a b : AV) (Q : z3) := (zr (E := za s) (f := 34) (fn := xM) hs rfl [a, b] Q rfl).trans (VD (call := zf (za s)) (lp := zh (za s)) a b Q)
theorem QW {call : z6} {lp : ze} (c a : AV) (Q : z3) : z5 call lp wO [(0, .v c), (1, .v a)] [] Q (zA [.tmp 4, .tmp 5] [.f 1, .n]) = (
 bnL (Xe [] 1 (.v c)) fun b => 
 pinB (room 8 ((([] : List AV) : List AV).length + (b : List AV).length)) <| 
 pinB (wo 1 a) <| 
 pinB (room 8 (((([] : List AV) ++ b) : List AV).length + (([a] : List AV) : List AV).length)) <| 
 bnS (call 29 [.fz 1 ((([] : List AV) ++ b) ++ ([a] : List AV))] ⟨Q.size, .leaf⟩) fun d _ => pinB (wZ d) <| 
 bnP (unA .not d) fun e => 
 zF e (fun _ => some (.tup [.fz 1 [], .bool false], Q))
 (fun _ => some (.tup [.fz 1 ((([] : List AV) ++ b) ++ ([a] : List AV)), .bool true], Q))) := by kernel_rfl
def wU {s : zi} (hs : s.lookup 35 = none) (a b : AV) (Q : z3) := (zr (E := za s) (f := 35) (fn := x5) hs rfl [a, b] Q rfl).trans (QW (call := zf (za s)) (lp := zh (za s)) a b Q)
theorem z8Z {call : z6} {lp : ze} (a b c d e f g h i j l m o : AV) (Q : z3) : z5 call lp z4m [(0, .v (.agg [a, b, c, d, e, f, g, h, i, j, l, m, o]))] [] Q (zA [.tmp 2] [.n]) = (
 bnC 13 (stC 13 (.agg [a, b, c, d, e, f, g, h, i, j, l, m, o])) fun p q r u w x y z A B C D E => 
 bnS (call 64 [y] Q) fun F G => 
 bnS (call 65 [E] G) fun H I => 
 bnC 1 (stC 1 (frz F)) fun J => 
 bnC 1 (stC 1 (frz H)) fun K => 
 bnS (Jh I (AV.cells (.agg [p, q, r, u, w, x, J, z, A, B, C, D, K, .nils]))) fun L M => 
 bnP (rcv false .n L) fun N => some (N, M)) := by kernel_rfl
def z90 {s : zi} (hs : s.lookup 38 = none) (a b c d e g h i j l m n o : AV) (Q : z3) := (zr (E := za s) (f := 38) (fn := YO) hs rfl [.agg [a, b, c, d, e, g, h, i, j, l, m, n, o]] Q rfl).trans (z8Z (call := zf (za s)) (lp := zh (za s)) a b c d e g h i j l m n o Q)
theorem z3q {call : z6} {lp : ze} (a b : AV) (Q : z3) : z5 call lp Vh [(0, .v a), (1, .v b)] [] Q (zA [.tmp 4] [.f 3]) = (
 bnC 1 (stC 1 b) fun c => 
 bnS (call 65 [a] Q) fun d e => bnL (owZ 3 d) fun g => 
 bnS (call 1000066 [.ow 3 g, .fn 67 [] [.cp [c] 0]] e) fun h i => 
 bnP (rcv false (.f 3) (frz h)) fun j => some (j, i)) := by kernel_rfl
def z3r {s : zi} (hs : s.lookup 39 = none) (a b : AV) (Q : z3) := (zr (E := za s) (f := 39) (fn := kE) hs rfl [a, b] Q rfl).trans (z3q (call := zf (za s)) (lp := zh (za s)) a b Q)
theorem z0w {call : z6} {lp : ze} (a b : AV) (Q : z3) : z5 call lp Qj [(0, .v a), (1, .v b)] [] Q (zA [] []) = (
 bnP (zN a) fun c => 
 bnP (zm 0 c) fun d => 
 bnP (zm 3 d) fun e => 
 bnS (stA Q 1 e (.int .i64 0)) fun _ f => 
 bnP (zN a) fun g => 
 bnP (zm 0 g) fun h => 
 bnP (zm 4 h) fun i => 
 bnS (stA f 1 i (.int .i64 0)) fun _ j => 
 bnP (zN a) fun l => 
 bnP (zm 0 l) fun m => 
 bnP (zm 6 m) fun n => 
 bnS (stA j 1 n .nils) fun _ o => 
 bnP (zN a) fun p => 
 bnP (zm 0 p) fun q => 
 bnP (zm 9 q) fun r => 
 bnS (stA o 1 r (.int .i64 0)) fun _ u => 
 bnP (zN a) fun w => 
 bnP (zm 0 w) fun x => 
 bnP (zm 11 x) fun y => 
 bnS (stA u 1 y b) fun _ z => 
 some (.tup [], z)) := by kernel_rfl
def z0x {s : zi} (hs : s.lookup 40 = none) (a b : AV) (Q : z3) := (zr (E := za s) (f := 40) (fn := qO) hs rfl [a, b] Q rfl).trans (z0w (call := zf (za s)) (lp := zh (za s)) a b Q)
theorem jy {β : Type} (call : z6) (lp : ze) (a : AV) (Q : z3) (k : PK β) : z5 call lp vR [(0, .v a)] [] Q k = (
 bnP (zN a) fun b => 
 bnP (zm 0 b) fun c => 
 bnP (zm 2 c) fun d => 
 bnP (ldQ Q d) fun e => 
 bnP (zc .add e (.int .i64 3)) fun f => 
 bnP (zN a) fun g => 
 bnP (zm 0 g) fun h => 
 bnP (zm 10 h) fun i => 
 bnS (stA Q 1 i f) fun _ j => 
 bnP (zN a) fun l => 
 bnP (zm 0 l) fun m => 
 bnP (zm 9 m) fun n => 
 bnP (ldQ j n) fun o => 
 bnS (call 61 [a, .int .i64 1, o, .int .i64 0] j) fun p q => 
 k .normal [(110, .v (frz p)), (109, .v o), (108, .v n), (107, .v m), (106, .v l), (105, .v a), (104, .v a), (103, .v i), (102, .v h), (101, .v g), (100, .v f), (99, .v e), (98, .v d), (97, .v c), (96, .v b), (95, .v a), (94, .v a), (0, .v a)] [] q) := by kernel_rfl
theorem Yj {β : Type} (call : z6) (lp : ze) (a : AV) (Q : z3) (k : PK β) : z5 call lp ju [(0, .v a)] [] Q k = (
 bnP (zN a) fun e => 
 bnP (zm 0 e) fun f => 
 bnP (zm 9 f) fun g => 
 bnP (ldQ Q g) fun h => 
 bnP (zc .neq h (.int .i64 0)) fun i => 
 zF i (fun _ => k .ret [(53, .v i), (52, .v h), (51, .v g), (50, .v f), (49, .v e), (48, .v a), (0, .v a)] [] Q)
 (fun _ => bnP (zN a) fun j => 
 bnP (zm 0 j) fun l => 
 bnP (zm 9 l) fun m => 
 bnS (stA Q 1 m (.int .i64 1)) fun _ c => 
 bnX (bnP (zN a) fun n => 
 bnP (zm 0 n) fun o => 
 bnP (zm 11 o) fun p => 
 bnP (ldQ c p) fun q => 
 bnP (zc .eql q (.int .i64 0)) fun d => 
 bnP (gdQ d true (some a)) fun r => 
 bnP (gdQ d true (zN r)) fun u => 
 bnP (gdQ d true (zm 0 u)) fun w => 
 bnP (gdQ d true (zm 5 w)) fun x => 
 bnP (gdQ d true (ldQ c x)) fun y => 
 bnP (gdQ d true (zc .neq y (.int .i64 0))) fun z => 
 bnP (y6 d z (.bool false)) fun b => 
 bnP (gdQ b true (some a)) fun A => 
 bnP (gdQ b true (zN A)) fun B => 
 bnP (gdQ b true (zm 0 B)) fun C => 
 bnP (gdQ b true (zm 5 C)) fun D => 
 bnP (gdQ b true (ldQ c D)) fun E => 
 bnP (gdQ b true (some a)) fun F => 
 bnP (gdQ b true (zN F)) fun G => 
 bnP (gdQ b true (zm 0 G)) fun H => 
 bnP (gdQ b true (zm 0 H)) fun I => 
 bnP (gdQ b true (ldQ c I)) fun J => 
 bnP (gdQ b true (zc .neq E J)) fun K => 
 bnP (y6 b K (.bool false)) fun L => 
 zF L (fun _ => bnP (zN a) fun M => 
 bnP (zm 0 M) fun N => 
 bnP (zm 5 N) fun O => 
 bnP (ldQ c O) fun P => 
 bnP (zN a) fun R => 
 bnP (zm 0 R) fun S => 
 bnP (zm 9 S) fun T => 
 bnS (stA c 1 T P) fun _ U => 
 some (.normal, [(0, .v a)], [], U))
 (fun _ => some (.normal, [(0, .v a)], [], c)))
 (goC (z5 call lp vR) k))) := by kernel_rfl
theorem z0y {call : z6} {lp : ze} (b : AV) (Q : z3) : z5 call lp Qk [(0, .v b)] [] Q (zA [] []) = (
 bnP (zN b) fun e => 
 bnP (zm 0 e) fun f => 
 bnP (zm 0 f) fun g => 
 bnP (ldQ Q g) fun h => 
 bnP (zc .eql h (.int .i64 1)) fun c => 
 bnP (gdQ c false (some b)) fun i => 
 bnP (gdQ c false (zN i)) fun j => 
 bnP (gdQ c false (zm 0 j)) fun l => 
 bnP (gdQ c false (zm 3 l)) fun m => 
 bnP (gdQ c false (ldQ Q m)) fun n => 
 bnP (gdQ c false (zc .neq n (.int .i64 0))) fun o => 
 bnP (y6 c (.bool true) o) fun p => 
 zF p (fun _ => some (.tup [], Q))
 (fun _ => bnX (bnP (zN b) fun q => 
 bnP (zm 0 q) fun r => 
 bnP (zm 9 r) fun u => 
 bnP (ldQ Q u) fun w => 
 bnP (zc .neq w (.int .i64 0)) fun a => 
 bnP (gdQ a true (some b)) fun x => 
 bnP (gdQ a true (zN x)) fun y => 
 bnP (gdQ a true (zm 0 y)) fun z => 
 bnP (gdQ a true (zm 2 z)) fun A => 
 bnP (gdQ a true (ldQ Q A)) fun B => 
 bnP (gdQ a true (some b)) fun C => 
 bnP (gdQ a true (zN C)) fun D => 
 bnP (gdQ a true (zm 0 D)) fun E => 
 bnP (gdQ a true (zm 10 E)) fun F => 
 bnP (gdQ a true (ldQ Q F)) fun G => 
 bnP (gdQ a true (zc .geq B G)) fun H => 
 bnP (y6 a H (.bool false)) fun I => 
 zF I (fun _ => bnP (zN b) fun J => 
 bnP (zm 0 J) fun K => 
 bnP (zm 9 K) fun L => 
 bnS (stA Q 1 L (.int .i64 0)) fun _ d => 
 bnP (zN b) fun M => 
 bnP (zm 0 M) fun N => 
 bnP (zm 11 N) fun O => 
 bnP (ldQ d O) fun P => 
 bnP (zc .add P (.int .i64 1)) fun R => 
 bnP (zN b) fun S => 
 bnP (zm 0 S) fun T => 
 bnP (zm 11 T) fun U => 
 bnS (stA d 1 U R) fun _ V => 
 some (.normal, [(0, .v b)], [], V))
 (fun _ => some (.normal, [(0, .v b)], [], Q)))
 (goC (z5 call lp ju) (zA [] [])))) := by kernel_rfl
def z0z {s : zi} (hs : s.lookup 41 = none) (a : AV) (Q : z3) := (zr (E := za s) (f := 41) (fn := qP) hs rfl [a] Q rfl).trans (z0y (call := zf (za s)) (lp := zh (za s)) a Q)
theorem ZS {β : Type} (call : z6) (lp : ze) (a b c d : AV) (Q : z3) (k : PK β) : z5 call lp v5 [(0, .v a), (28, .v b), (29, .v c), (30, .v d)] [] Q k = (
 bnP (zc .add d (.int .i64 1)) fun e => 
 k .normal [(0, .v a), (28, .v b), (29, .v c), (30, .v e)] [] Q) := by kernel_rfl
theorem ZT {β : Type} (call : z6) (lp : ze) (a c d b : AV) (Q : z3) (k : PK β) : z5 call lp yF [(0, .v a), (28, .v c), (29, .v d), (30, .v b)] [] Q k = (
 bnP (zc .lss b d) fun f => 
 zF f (fun _ => bnX (bnX (bnP (elQ 3 c b) fun g => 
 bnC 3 (cut (AV.cells g) 0 3) fun h i j => 
 bnC 3 (stC 3 (.agg [h, i, j])) fun l G H => 
 bnP (zN a) fun m => 
 bnP (zm 0 m) fun n => 
 bnC 13 (jU Q 13 n) fun o p q r u w x y z A B C D => 
 bnS (call 25 [.agg [o, p, q, r, u, w, x, y, z, A, B, C, D]] Q) fun E e => 
 zF (frz E) (fun _ => bnS (call 61 [a, .int .i64 5, l, .int .i64 0] e) fun I F => 
 some (.normal, [(0, .v a), (28, .v c), (29, .v d), (30, .v b)], [], F))
 (fun _ => some (.normal, [(0, .v a), (28, .v c), (29, .v d), (30, .v b)], [], e)))
 (kD 1 qH))
 (goC (z5 call lp v5) k))
 (fun _ => k (.exit 0) [] [] Q)) := by kernel_rfl
noncomputable def va (s : zi) (a b c d : AV) (Q : z3) : Option js := zh (za s) yF [(0, .v a), (28, .v b), (29, .v c), (30, .v d)] [] Q
theorem xo (s : zi) (a b c d : AV) (Q : z3) : zh (za s) yF [(0, .v a), (28, .v b), (29, .v c), (30, .v d)] [] Q = va s a b c d Q := rfl
theorem wd (s : zi) (a b c d : AV) (Q : z3) : va s a b c d Q = z5 (zf (za s)) (zh (za s)) yF [(0, .v a), (28, .v b), (29, .v c), (30, .v d)] [] Q (goX (fun τ ω Q => zh (za s) yF τ ω Q) qH) := yU
abbrev Qv (Q : z3) : Option js := some (.exit 0, [], [], Q)
theorem ZU {β : Type} (call : z6) (lp : ze) (a : AV) (Q : z3) (k : PK β) : z5 call lp v6 [(0, .v a)] [] Q k = (
 bnP (zN a) fun c => 
 bnP (zm 0 c) fun d => 
 bnP (zm 12 d) fun e => 
 bnP (ldQ Q e) fun b => 
 bnP (Zs b) fun f => 
 bnX (lp yF [(0, .v a), (28, .v b), (29, .v f), (30, .v (.int .i64 0))] [] Q) (kD 0 k)) := by kernel_rfl
theorem Ww {call : z6} {lp : ze} (a : AV) (Q : z3) : z5 call lp YP [(0, .v a)] [] Q (zA [] []) = (
 bnP (zN a) fun b => 
 bnP (zm 0 b) fun c => 
 bnP (zm 2 c) fun d => 
 bnP (ldQ Q d) fun e => 
 bnP (zc .rem e (.int .i64 2)) fun f => 
 bnP (zc .neq f (.int .i64 0)) fun g => 
 zF g (fun _ => some (.tup [], Q))
 (fun _ => bnX (bnP (zN a) fun h => 
 bnP (zm 0 h) fun i => 
 bnP (zm 3 i) fun j => 
 bnP (ldQ Q j) fun l => 
 bnP (zc .neq l (.int .i64 0)) fun m => 
 zF m (fun _ => bnP (zN a) fun n => 
 bnP (zm 0 n) fun o => 
 bnP (zm 3 o) fun p => 
 bnP (ldQ Q p) fun q => 
 bnS (call 61 [a, .int .i64 4, q, .int .i64 0] Q) fun u r => 
 some (.normal, [(0, .v a)], [], r))
 (fun _ => some (.normal, [(0, .v a)], [], Q)))
 (goC (z5 call lp v6) (zA [] [])))) := by kernel_rfl
def Wx {s : zi} (hs : s.lookup 42 = none) (a : AV) (Q : z3) := (zr (E := za s) (f := 42) (fn := qc) hs rfl [a] Q rfl).trans (Ww (call := zf (za s)) (lp := zh (za s)) a Q)
theorem wV {β : Type} (call : z6) (lp : ze) (a b c : AV) (d : List AV) (Q : z3) (k : PK β) : z5 call lp jJ [(0, .v a), (1, .v b), (5, .ls 5), (6, .v c)] [(5, .own 3 d)] Q k = (
 bnP (zc .add c (.int .i64 1)) fun e => 
 k .normal [(0, .v a), (1, .v b), (5, .ls 5), (6, .v e)] [(5, .own 3 d)] Q) := by kernel_rfl
theorem wW {β : Type} (call : z6) (lp : ze) (a d b : AV) (c : List AV) (Q : z3) (k : PK β) : z5 call lp yj [(0, .v a), (1, .v d), (5, .ls 5), (6, .v b)] [(5, .own 3 c)] Q k = (
 bnP (Zs a) fun h => 
 bnP (zc .lss b h) fun i => 
 zF i (fun _ => bnX (bnX (bnP (elQ 3 a b) fun j => 
 bnP ((AV.cells j)[2]?) fun l => 
 bnP (zc .sub d l) fun m => 
 bnP (zc .leq m (.int .i64 20)) fun n => 
 zF n (fun _ => bnP (elQ 3 a b) fun o => 
 bnC 3 (cut (AV.cells o) 0 3) fun e f g => 
 pinB (wo 3 (.agg [e, f, g])) <| 
 pinB (room 24 ((c : List AV).length + (([.agg [e, f, g]] : List AV) : List AV).length)) <| 
 some (.normal, [(0, .v a), (1, .v d), (5, .ls 5), (6, .v b)], [(5, .own 3 (c ++ ([.agg [e, f, g]] : List AV)))], Q))
 (fun _ => some (.normal, [(0, .v a), (1, .v d), (5, .ls 5), (6, .v b)], [(5, .own 3 c)], Q)))
 (kD 1 qH))
 (goC (z5 call lp jJ) k))
 (fun _ => k (.exit 0) [(5, .ls 5)] [(5, .own 3 c)] Q)) := by kernel_rfl
noncomputable def jN (s : zi) (a b c : AV) (d : List AV) (Q : z3) : Option js := zh (za s) yj [(0, .v a), (1, .v b), (5, .ls 5), (6, .v c)] [(5, .own 3 d)] Q
theorem xZ (s : zi) (a b c : AV) (d : List AV) (Q : z3) : zh (za s) yj [(0, .v a), (1, .v b), (5, .ls 5), (6, .v c)] [(5, .own 3 d)] Q = jN s a b c d Q := rfl
theorem vx (s : zi) (a b c : AV) (d : List AV) (Q : z3) : jN s a b c d Q = z5 (zf (za s)) (zh (za s)) yj [(0, .v a), (1, .v b), (5, .ls 5), (6, .v c)] [(5, .own 3 d)] Q (goX (fun τ ω Q => zh (za s) yj τ ω Q) qH) := yU
abbrev Xa (a : List AV) (Q : z3) : Option js := some (.exit 0, [(5, .ls 5)], [(5, .own 3 a)], Q)
theorem QX {β : Type} (call : z6) (lp : ze) (a : List AV) (Q : z3) (k : PK β) : z5 call lp jK [(5, .ls 5)] [(5, .own 3 a)] Q k = (
 k .ret [(4, .ls 5), (28, .ls 5), (5, .ls 5)] [(5, .own 3 a)] Q) := by kernel_rfl
theorem KH {call : z6} {lp : ze} (a b : AV) (Q : z3) : z5 call lp ZH [(0, .v a), (1, .v b)] [] Q (zA [.tmp 4] [.o 3]) = (
 bnX (lp yj [(0, .v a), (1, .v b), (5, .ls 5), (6, .v (.int .i64 0))] [(5, .own 3 ([] : List AV))] Q) (kD 0 (goC (z5 call lp jK) (zA [.tmp 4] [.o 3])))) := by kernel_rfl
def KI {s : zi} (hs : s.lookup 43 = none) (a b : AV) (Q : z3) := (zr (E := za s) (f := 43) (fn := xw) hs rfl [a, b] Q rfl).trans (KH (call := zf (za s)) (lp := zh (za s)) a b Q)
theorem VF {call : z6} {lp : ze} (a b c d e f g h i j l m o p : AV) (Q : z3) : z5 call lp Yc [(0, .v (.agg [a, b, c, d, e, f, g, h, i, j, l, m, o])), (1, .v p)] [] Q (zA [.cell 4 (some 13)] [.n]) = (
 bnC 13 (stC 13 (.agg [a, b, c, d, e, f, g, h, i, j, l, m, o])) fun q r u P R w S x y T z U A => 
 bnC 1 (stC 1 p) fun B => 
 bnC 13 (stC 13 (.agg [q, r, u, .int .i64 0, .int .i64 0, w, .nils, x, y, .int .i64 0, z, B, A])) fun C D E F G H I J K L M N O => 
 some (.agg [C, D, E, F, G, H, I, J, K, L, M, N, O], Q)) := by kernel_rfl
def VG {s : zi} (hs : s.lookup 44 = none) (a b c d e g h i j l m n o p : AV) (Q : z3) := (zr (E := za s) (f := 44) (fn := xN) hs rfl [.agg [a, b, c, d, e, g, h, i, j, l, m, n, o], p] Q rfl).trans (VF (call := zf (za s)) (lp := zh (za s)) a b c d e g h i j l m n o p Q)
theorem KJ {call : z6} {lp : ze} (a b c d e f g h i j l m o p q : AV) (Q : z3) : z5 call lp ZI [(0, .v (.agg [a, b, c, d, e, f, g, h, i, j, l, m, o])), (1, .v p), (2, .v q)] [] Q (zA [.cell 6 (some 10)] [.n]) = (
 bnC 13 (stC 13 (.agg [a, b, c, d, e, f, g, h, i, j, l, m, o])) fun r u R S T U V W X Y Z aa ab => 
 bnC 10 (wg [.int .i64 0, .int .i64 0, .int .i64 0, .int .i64 0, .int .i64 0, .int .i64 0, .nils, .int .i64 0, .int .i64 0, .str []] [(0, 1, p), (1, 1, r), (2, 1, q), (3, 1, u)]) fun w x y z A B C D E F => 
 bnC 10 (stC 10 (.agg [w, x, y, z, A, B, C, D, E, F])) fun G H I J K L M N O P => 
 some (.agg [G, H, I, J, K, L, M, N, O, P], Q)) := by kernel_rfl
def KK {s : zi} (hs : s.lookup 45 = none) (a b c d e g h i j l m n o p q : AV) (Q : z3) := (zr (E := za s) (f := 45) (fn := xx) hs rfl [.agg [a, b, c, d, e, g, h, i, j, l, m, n, o], p, q] Q rfl).trans (KJ (call := zf (za s)) (lp := zh (za s)) a b c d e g h i j l m n o p q Q)
theorem KL {call : z6} {lp : ze} (a b c d e f g h i j l m o p q : AV) (Q : z3) : z5 call lp ZJ [(0, .v (.agg [a, b, c, d, e, f, g, h, i, j, l, m, o])), (1, .v p), (2, .v q)] [] Q (zA [.cell 6 (some 10)] [.n]) = (
 bnC 13 (stC 13 (.agg [a, b, c, d, e, f, g, h, i, j, l, m, o])) fun z A r B C D u w x E F G H => 
 bnS (call 45 [.agg [z, A, r, B, C, D, u, w, x, E, F, G, H], p, q] Q) fun I J => 
 bnC 10 (stC 10 (frz I)) fun K L M N ag ah ai O P R => 
 bnP (zc .sub r x) fun S => 
 bnL (Xe [] 1 (.v u)) fun y => 
 pinB (room 8 ((([] : List AV) : List AV).length + (y : List AV).length)) <| 
 bnC 1 (stC 1 w) fun T => 
 bnC 1 (stC 1 S) fun U => 
 bnC 1 (stC 1 (.fz 1 (([] : List AV) ++ y))) fun V => 
 bnC 10 (stC 10 (.agg [K, L, M, N, T, U, V, O, P, R])) fun W X Y Z aa ab ac ad ae af => 
 some (.agg [W, X, Y, Z, aa, ab, ac, ad, ae, af], J)) := by kernel_rfl
def KM {s : zi} (hs : s.lookup 46 = none) (a b c d e g h i j l m n o p q : AV) (Q : z3) := (zr (E := za s) (f := 46) (fn := xy) hs rfl [.agg [a, b, c, d, e, g, h, i, j, l, m, n, o], p, q] Q rfl).trans (KL (call := zf (za s)) (lp := zh (za s)) a b c d e g h i j l m n o p q Q)
theorem Xb {call : z6} {lp : ze} (a : AV) (Q : z3) : z5 call lp vq [(0, .v a)] [] Q (zA [.tmp 2] [.n]) = (
 bnS (call 13 [a, .int .i64 5] Q) fun b c => 
 bnP (elQ 1 (.fz 1 [.str [], .str [97], .str [98, 99], .str [104, 101, 108, 108, 111], .str [116, 119, 101, 108, 118, 101, 32, 98, 121, 116, 101, 115]]) (frz b)) fun d => 
 bnP ((AV.cells d)[0]?) fun e => 
 bnP (rcv false .n e) fun f => some (f, c)) := by kernel_rfl
def Xc {s : zi} (hs : s.lookup 47 = none) (a : AV) (Q : z3) := (zr (E := za s) (f := 47) (fn := yz) hs rfl [a] Q rfl).trans (Xb (call := zf (za s)) (lp := zh (za s)) a Q)
theorem Wy {call : z6} {lp : ze} (b c d : AV) (Q : z3) : z5 call lp YQ [(0, .v b), (1, .v c), (2, .v d)] [] Q (zA [.tmp 6] [.n]) = (
 bnS (call 34 [b, c] Q) fun e f => 
 bnP (jt (frz e) 0) fun g => 
 bnP (jt (frz e) 1) fun a => 
 bnC 3 (stC 3 g) fun p h q => 
 bnP (gdQ a true (some h)) fun i => 
 bnP (gdQ a true (some d)) fun j => 
 bnP (gdQ a true (zc .gtr i j)) fun l => 
 bnP (y6 a l (.bool false)) fun m => 
 bnP (rcv false .n m) fun o => some (o, f)) := by kernel_rfl
def Wz {s : zi} (hs : s.lookup 55 = none) (a b c : AV) (Q : z3) := (zr (E := za s) (f := 55) (fn := qd) hs rfl [a, b, c] Q rfl).trans (Wy (call := zf (za s)) (lp := zh (za s)) a b c Q)
theorem Zg {β : Type} (call : z6) (lp : ze) (e a c d : AV) (b : List AV) (Q : z3) (k : PK β) : z5 call lp yr [(3, .lp 3 0), (6, .ls 6), (7, .v e)] [(3, .cells [a, c, d]), (6, .own 3 b)] Q k = (
 bnP (zc .lss e (.int .i64 ((b : List AV).length : Nat))) fun h => 
 zF h (fun _ => bnN (KP (b : List AV).length e) fun i2 => 
 bnP (elC b i2 0) fun i => 
 bnP (zc .gtr i a) fun j => 
 zF j (fun _ => bnP (QZ 3 (.fz 3 b) none (some e)) fun l => 
 pinB (wo 3 (.agg [a, c, d])) <| 
 bnP (QZ 3 (.fz 3 b) (some e) none) fun m => 
 bnL (Xe [] 3 (.v l)) fun f => 
 pinB (room 24 ((([] : List AV) : List AV).length + (f : List AV).length)) <| 
 pinB (room 24 (((([] : List AV) ++ f) : List AV).length + (([.agg [a, c, d]] : List AV) : List AV).length)) <| 
 bnL (Xe [] 3 (.v m)) fun g => 
 pinB (room 24 ((((([] : List AV) ++ f) ++ ([.agg [a, c, d]] : List AV)) : List AV).length + (g : List AV).length)) <| 
 k .ret [(4, .ls 4), (5, .v (.bool true))] [(4, .own 3 (((([] : List AV) ++ f) ++ ([.agg [a, c, d]] : List AV)) ++ g))] Q)
 (fun _ => bnP (zc .add e (.int .i64 1)) fun n => 
 k .normal [(3, .lp 3 0), (6, .ls 6), (7, .v n)] [(3, .cells [a, c, d]), (6, .own 3 b)] Q))
 (fun _ => k (.exit 0) [(3, .lp 3 0), (6, .ls 6)] [(3, .cells [a, c, d]), (6, .own 3 b)] Q)) := by kernel_rfl
noncomputable def qI (s : zi) (a b c d : AV) (e : List AV) (Q : z3) : Option js := zh (za s) yr [(3, .lp 3 0), (6, .ls 6), (7, .v a)] [(3, .cells [b, c, d]), (6, .own 3 e)] Q
theorem xf (s : zi) (a b c d : AV) (e : List AV) (Q : z3) : zh (za s) yr [(3, .lp 3 0), (6, .ls 6), (7, .v a)] [(3, .cells [b, c, d]), (6, .own 3 e)] Q = qI s a b c d e Q := rfl
theorem vX (s : zi) (a b c d : AV) (e : List AV) (Q : z3) : qI s a b c d e Q = z5 (zf (za s)) (zh (za s)) yr [(3, .lp 3 0), (6, .ls 6), (7, .v a)] [(3, .cells [b, c, d]), (6, .own 3 e)] Q (goX (fun τ ω Q => zh (za s) yr τ ω Q) qH) := yU
theorem JM {β : Type} (call : z6) (lp : ze) (a b c : AV) (d : List AV) (Q : z3) (k : PK β) : z5 call lp kq [(3, .lp 3 0), (6, .ls 6)] [(3, .cells [a, b, c]), (6, .own 3 d)] Q k = (
 pinB (wo 3 (.agg [a, b, c])) <| 
 pinB (room 24 ((d : List AV).length + (([.agg [a, b, c]] : List AV) : List AV).length)) <| 
 k .ret [(5, .v (.bool true)), (4, .ls 6), (48, .ls 6), (47, .v (.fz 3 [.agg [a, b, c]])), (46, .v (.agg [a, b, c])), (45, .v z4), (3, .lp 3 0), (6, .v z4)] [(6, .own 3 (d ++ ([.agg [a, b, c]] : List AV))), (3, .cells [a, b, c])] Q) := by kernel_rfl
theorem VH {call : z6} {lp : ze} (a c d e : AV) (Q : z3) : z5 call lp Ye [(0, .v a), (1, .v (.agg [c, d, e]))] [] Q (zA [.tmp 4, .tmp 5] [.f 3, .n]) = (
 bnC 3 (stC 3 (.agg [c, d, e])) fun b g i => 
 bnS (call 55 [a, b, g] Q) fun j h => 
 zF (frz j) (fun _ => bnP (rcv false (.f 3) a) fun l => some (.tup [frz l, .bool false], h))
 (fun _ => bnS (call 59 [a, b] h) fun m o => bnL (owZ 3 m) fun p => 
 bnX (lp yr [(3, .lp 3 0), (6, .ls 6), (7, .v (.int .i64 0))] [(3, .cells [b, g, i]), (6, .own 3 p)] o) (kD 0 (goC (z5 call lp kq) (zA [.tmp 4, .tmp 5] [.f 3, .n]))))) := by kernel_rfl
def VI {s : zi} (hs : s.lookup 56 = none) (a b c d : AV) (Q : z3) := (zr (E := za s) (f := 56) (fn := xO) hs rfl [a, .agg [b, c, d]] Q rfl).trans (VH (call := zf (za s)) (lp := zh (za s)) a b c d Q)
theorem XV {call : z6} {lp : ze} (y z A B C D E F G H I J K L M N O P R S T U V : AV) (Q : z3) : z5 call lp vS [(0, .v (.agg [y, z, A, B, C, D, E, F, G, H, I, J, K])), (1, .v (.agg [L, M, N, O, P, R, S, T, U, V]))] [] Q (zA [.cell 4 (some 13), .tmp 5] [.n, .f 10]) = (
 bnC 13 (stC 13 (.agg [y, z, A, B, C, D, E, F, G, H, I, J, K])) fun b d c a h i j l m o e q g => 
 bnC 10 (stC 10 (.agg [L, M, N, O, P, R, S, T, U, V])) fun cs p ct ad ae W X cu cv cw => 
 bnP (zc .neq a (.int .i64 0)) fun r => 
 bnP (gdQ r true (some p)) fun af => 
 bnP (gdQ r true (some a)) fun ag => 
 bnP (gdQ r true (zc .eql af ag)) fun ah => 
 bnP (y6 r ah (.bool false)) fun ai => 
 zF ai (fun _ => bnC 13 (stC 13 (.agg [b, d, c, a, h, i, j, l, m, o, e, q, g])) fun aj ak al ao ap aq ar au av aw ax ay az => 
 some (.tup [.agg [aj, ak, al, ao, ap, aq, ar, au, av, aw, ax, ay, az], .fz 10 []], Q))
 (fun _ => bnP (zc .eql o (.int .i64 0)) fun u => 
 bnP (gdQ u false (some o)) fun a0 => 
 bnP (gdQ u false (some p)) fun a1 => 
 bnP (gdQ u false (zc .neq a0 a1)) fun a2 => 
 bnP (y6 u (.bool true) a2) fun w => 
 bnP (gdQ w false (some a)) fun a3 => 
 bnP (gdQ w false (zc .neq a3 (.int .i64 0))) fun a4 => 
 bnP (y6 w (.bool true) a4) fun a5 => 
 zF a5 (fun _ => bnS (call 45 [.agg [b, d, c, a, h, i, j, l, m, o, e, q, g], .int .i64 6, p] Q) fun Y a6 => 
 pinB (wo 10 (frz Y)) <| 
 bnC 13 (stC 13 (.agg [b, d, c, a, h, i, j, l, m, o, e, q, g])) fun a7 a8 a9 ba bb bc bd bf bg bh bi bj bk => 
 some (.tup [.agg [a7, a8, a9, ba, bb, bc, bd, bf, bg, bh, bi, bj, bk], .fz 10 ([(frz Y)] : List AV)], a6))
 (fun _ => bnS (call 35 [X, b] Q) fun Z aa => 
 bnP (jt (frz Z) 0) fun bl => 
 bnP (jt (frz Z) 1) fun bm => 
 bnP (unA .not bm) fun x => 
 bnP (gdQ x false (some W)) fun bn => 
 bnP (gdQ x false (zc .gtr bn (.int .i64 20))) fun bo => 
 bnP (y6 x (.bool true) bo) fun bp => 
 zF bp (fun _ => bnP (zc .add q (.int .i64 1)) fun bq => 
 bnC 1 (stC 1 bq) fun ab => 
 bnS (call 45 [.agg [b, d, c, a, h, i, j, l, m, .int .i64 0, e, ab, g], .int .i64 6, p] aa) fun ac br => 
 pinB (wo 10 (frz ac)) <| 
 bnC 13 (stC 13 (.agg [b, d, c, a, h, i, j, l, m, .int .i64 0, e, ab, g])) fun bs bt bu bv bw bx bz b0 b1 b2 b3 b4 b5 => 
 some (.tup [.agg [bs, bt, bu, bv, bw, bx, bz, b0, b1, b2, b3, b4, b5], .fz 10 ([(frz ac)] : List AV)], br))
 (fun _ => bnS (call 58 [X] aa) fun b6 b7 => 
 bnC 1 (stC 1 p) fun b8 => 
 bnC 1 (stC 1 ad) fun b9 => 
 bnC 1 (stC 1 bl) fun ca => 
 bnC 1 (stC 1 (frz b6)) fun cb => 
 bnP (zc .sub c W) fun cc => 
 bnC 1 (stC 1 ae) fun cd => 
 bnC 1 (stC 1 cc) fun ce => 
 bnC 13 (stC 13 (.agg [b, d, c, b8, b9, cb, ca, cd, ce, .int .i64 0, e, .int .i64 0, g])) fun cf cg ch ci cj ck cl cm cn co cp cq cr => 
 some (.tup [.agg [cf, cg, ch, ci, cj, ck, cl, cm, cn, co, cp, cq, cr], .fz 10 []], b7))))) := by kernel_rfl
def XW {s : zi} (hs : s.lookup 57 = none) (a b c d e g h i j l m n o p q r u v w x y z A : AV) (Q : z3) := (zr (E := za s) (f := 57) (fn := yJ) hs rfl [.agg [a, b, c, d, e, g, h, i, j, l, m, n, o], .agg [p, q, r, u, v, w, x, y, z, A]] Q rfl).trans (XV (call := zf (za s)) (lp := zh (za s)) a b c d e g h i j l m n o p q r u v w x y z A Q)
theorem JN {call : z6} {lp : ze} (a : AV) (Q : z3) : z5 call lp Zd [(0, .v a)] [] Q (zA [.tmp 2] [.n]) = (
 bnS (call 74 [a] Q) fun b c => 
 bnP (zc .eql (frz b) (.int .i64 0)) fun d => 
 zF d (fun _ => some (.int .i64 1, c))
 (fun _ => bnP (rcv false .n (frz b)) fun e => some (e, c))) := by kernel_rfl
def JO {s : zi} (hs : s.lookup 58 = none) (a : AV) (Q : z3) := (zr (E := za s) (f := 58) (fn := xk) hs rfl [a] Q rfl).trans (JN (call := zf (za s)) (lp := zh (za s)) a Q)
theorem Zh {β : Type} (call : z6) (lp : ze) (a b c : AV) (d : List AV) (Q : z3) (k : PK β) : z5 call lp kr [(0, .v a), (1, .v b), (5, .ls 5), (6, .v c)] [(5, .own 3 d)] Q k = (
 bnP (zc .add c (.int .i64 1)) fun e => 
 k .normal [(0, .v a), (1, .v b), (5, .ls 5), (6, .v e)] [(5, .own 3 d)] Q) := by kernel_rfl
theorem Zi {β : Type} (call : z6) (lp : ze) (a d b : AV) (c : List AV) (Q : z3) (k : PK β) : z5 call lp yt [(0, .v a), (1, .v d), (5, .ls 5), (6, .v b)] [(5, .own 3 c)] Q k = (
 bnP (Zs a) fun h => 
 bnP (zc .lss b h) fun i => 
 zF i (fun _ => bnX (bnX (bnP (elQ 3 a b) fun j => 
 bnP ((AV.cells j)[0]?) fun l => 
 bnP (zc .neq l d) fun m => 
 zF m (fun _ => bnP (elQ 3 a b) fun n => 
 bnC 3 (cut (AV.cells n) 0 3) fun e f g => 
 pinB (wo 3 (.agg [e, f, g])) <| 
 pinB (room 24 ((c : List AV).length + (([.agg [e, f, g]] : List AV) : List AV).length)) <| 
 some (.normal, [(0, .v a), (1, .v d), (5, .ls 5), (6, .v b)], [(5, .own 3 (c ++ ([.agg [e, f, g]] : List AV)))], Q))
 (fun _ => some (.normal, [(0, .v a), (1, .v d), (5, .ls 5), (6, .v b)], [(5, .own 3 c)], Q)))
 (kD 1 qH))
 (goC (z5 call lp kr) k))
 (fun _ => k (.exit 0) [(5, .ls 5)] [(5, .own 3 c)] Q)) := by kernel_rfl
noncomputable def kA (s : zi) (a b c : AV) (d : List AV) (Q : z3) : Option js := zh (za s) yt [(0, .v a), (1, .v b), (5, .ls 5), (6, .v c)] [(5, .own 3 d)] Q
theorem qz (s : zi) (a b c : AV) (d : List AV) (Q : z3) : zh (za s) yt [(0, .v a), (1, .v b), (5, .ls 5), (6, .v c)] [(5, .own 3 d)] Q = kA s a b c d Q := rfl
theorem vY (s : zi) (a b c : AV) (d : List AV) (Q : z3) : kA s a b c d Q = z5 (zf (za s)) (zh (za s)) yt [(0, .v a), (1, .v b), (5, .ls 5), (6, .v c)] [(5, .own 3 d)] Q (goX (fun τ ω Q => zh (za s) yt τ ω Q) qH) := yU
abbrev XX (a : List AV) (Q : z3) : Option js := some (.exit 0, [(5, .ls 5)], [(5, .own 3 a)], Q)
theorem JP {β : Type} (call : z6) (lp : ze) (a : List AV) (Q : z3) (k : PK β) : z5 call lp ku [(5, .ls 5)] [(5, .own 3 a)] Q k = (
 k .ret [(4, .ls 5), (27, .ls 5), (5, .ls 5)] [(5, .own 3 a)] Q) := by kernel_rfl
theorem VJ {call : z6} {lp : ze} (a b : AV) (Q : z3) : z5 call lp Yf [(0, .v a), (1, .v b)] [] Q (zA [.tmp 4] [.o 3]) = (
 bnX (lp yt [(0, .v a), (1, .v b), (5, .ls 5), (6, .v (.int .i64 0))] [(5, .own 3 ([] : List AV))] Q) (kD 0 (goC (z5 call lp ku) (zA [.tmp 4] [.o 3])))) := by kernel_rfl
def VK {s : zi} (hs : s.lookup 59 = none) (a b : AV) (Q : z3) := (zr (E := za s) (f := 59) (fn := xP) hs rfl [a, b] Q rfl).trans (VJ (call := zf (za s)) (lp := zh (za s)) a b Q)
theorem vb {β : Type} (call : z6) (lp : ze) (a b c d e f g h i j l : AV) (Q : z3) (k : PK β) : z5 call lp v7 [(0, .v a), (8, .lp 8 0)] [(8, .cells [b, c, d, e, f, g, h, i, j, l])] Q k = (
 bnP (zN a) fun m => 
 bnP (zm 13 m) fun n => 
 bnP (ldQ Q n) fun o => 
 pinB (wo 10 (.agg [b, c, d, e, f, g, h, i, j, l])) <| 
 bnS (z65 Q 10 104 o ([.agg [b, c, d, e, f, g, h, i, j, l]] : List AV)) fun p u => 
 bnP (zN a) fun q => 
 bnP (zm 13 q) fun r => 
 bnS (stA u 1 r p) fun _ w => 
 k .normal [(63, .v r), (62, .v q), (61, .v p), (60, .v (.fz 10 [.agg [b, c, d, e, f, g, h, i, j, l]])), (59, .v (.agg [b, c, d, e, f, g, h, i, j, l])), (58, .v o), (57, .v n), (56, .v m), (55, .v a), (54, .v a), (0, .v a), (8, .lp 8 0)] [(8, .cells [b, c, d, e, f, g, h, i, j, l])] w) := by kernel_rfl
theorem WA {call : z6} {lp : ze} (a c g h : AV) (Q : z3) : z5 call lp YR [(0, .v a), (1, .v c), (2, .v g), (3, .v h)] [] Q (zA [] []) = (
 bnP (zN a) fun r => 
 bnP (zm 0 r) fun u => 
 bnP (zm 0 u) fun w => 
 bnP (ldQ Q w) fun x => 
 bnP (zN a) fun y => 
 bnP (zm 0 y) fun z => 
 bnP (zm 1 z) fun A => 
 bnP (ldQ Q A) fun B => 
 bnC 10 (wg [.int .i64 0, .int .i64 0, .int .i64 0, .int .i64 0, .int .i64 0, .int .i64 0, .nils, .int .i64 0, .int .i64 0, .str []] [(0, 1, c), (1, 1, x), (2, 1, g), (3, 1, B), (7, 1, h)]) fun C D E F G H I J K L => 
 bnC 10 (stC 10 (.agg [C, D, E, F, G, H, I, J, K, L])) fun i j l m M N O n o p => 
 bnX (bnP (zc .eql c (.int .i64 2)) fun d => 
 bnP (gdQ d false (some c)) fun P => 
 bnP (gdQ d false (zc .eql P (.int .i64 5))) fun R => 
 bnP (y6 d (.bool true) R) fun S => 
 zF S (fun _ => bnP (zN a) fun T => 
 bnP (zm 0 T) fun U => 
 bnP (zm 7 U) fun q => 
 bnP (ldQ Q q) fun V => 
 bnP (zN a) fun W => 
 bnP (zm 0 W) fun X => 
 bnP (zm 2 X) fun e => 
 bnP (ldQ Q e) fun Y => 
 bnP (zN a) fun Z => 
 bnP (zm 0 Z) fun aa => 
 bnP (zm 8 aa) fun f => 
 bnP (ldQ Q f) fun ab => 
 bnP (zc .sub Y ab) fun ac => 
 bnP (zN a) fun ad => 
 bnP (zm 0 ad) fun ae => 
 bnP (zm 6 ae) fun af => 
 bnP (ldQ Q af) fun ag => 
 bnS (call 64 [ag] Q) fun ah b => 
 pinB ((true && Z0 Q b q 1) && ((true && Z0 Q b e 1) && ((true && Z0 Q b f 1) && true))) <| 
 bnC 1 (stC 1 V) fun ai => 
 pinB ((true && Z0 Q b e 1) && ((true && Z0 Q b f 1) && true)) <| 
 bnC 1 (stC 1 ac) fun aj => 
 bnC 1 (stC 1 (frz ah)) fun ak => 
 some (.normal, [(0, .v a), (8, .lp 8 0)], [(8, .cells [i, j, l, m, ai, aj, ak, n, o, p])], b))
 (fun _ => some (.normal, [(0, .v a), (8, .lp 8 0)], [(8, .cells [i, j, l, m, M, N, O, n, o, p])], Q)))
 (goC (z5 call lp v7) (zA [] []))) := by kernel_rfl
def WB {s : zi} (hs : s.lookup 61 = none) (a b c d : AV) (Q : z3) := (zr (E := za s) (f := 61) (fn := qe) hs rfl [a, b, c, d] Q rfl).trans (WA (call := zf (za s)) (lp := zh (za s)) a b c d Q)
theorem xp {β : Type} (call : z6) (lp : ze) (a b c : AV) (d : List AV) (Q : z3) (k : PK β) : z5 call lp yk [(0, .ls 0), (1, .v a), (5, .v b), (6, .v c)] [(0, .own 3 d)] Q k = (
 bnP (zc .add c (.int .i64 1)) fun e => 
 k .normal [(0, .ls 0), (1, .v a), (5, .v b), (6, .v e)] [(0, .own 3 d)] Q) := by kernel_rfl
theorem ym {β : Type} (call : z6) (lp : ze) (d b c : AV) (a : List AV) (Q : z3) (k : PK β) : z5 call lp zk [(0, .ls 0), (1, .v d), (5, .v b), (6, .v c)] [(0, .own 3 a)] Q k = (
 bnP (zc .lss c (.int .i64 ((a : List AV).length : Nat))) fun i => 
 zF i (fun _ => bnX (bnX (bnN (KP (a : List AV).length c) fun i2 => 
 bnC 3 (elN a i2 0 3) fun j l m => 
 bnC 3 (stC 3 (.agg [j, l, m])) fun e f g => 
 bnF d fun f11 f11f f11c => 
 bnS (YC call f11 (f11f ++ [.agg [e, f, g]] ++ f11c) Q) fun n h => 
 bnP (unA .not (frz n)) fun o => 
 zF o (fun _ => bnN (KP (a : List AV).length b) fun i13 => 
 bnC 3 (stC 3 (.agg [e, f, g])) fun p q r => 
 bnP ((a)[i13]?) fun u => bnP (z4J u 0 [p, q, r]) fun w => 
 bnP (zc .add b (.int .i64 1)) fun x => 
 some (.normal, [(0, .ls 0), (1, .v d), (5, .v x), (6, .v c)], [(0, .own 3 ((a).set i13 w))], h))
 (fun _ => some (.normal, [(0, .ls 0), (1, .v d), (5, .v b), (6, .v c)], [(0, .own 3 a)], h)))
 (kD 1 qH))
 (goC (z5 call lp yk) k))
 (fun _ => k (.exit 0) [(0, .ls 0), (5, .v b)] [(0, .own 3 a)] Q)) := by kernel_rfl
noncomputable def yn (s : zi) (a b c : AV) (d : List AV) (Q : z3) : Option js := zh (za s) zk [(0, .ls 0), (1, .v a), (5, .v b), (6, .v c)] [(0, .own 3 d)] Q
theorem y4 (s : zi) (a b c : AV) (d : List AV) (Q : z3) : zh (za s) zk [(0, .ls 0), (1, .v a), (5, .v b), (6, .v c)] [(0, .own 3 d)] Q = yn s a b c d Q := rfl
theorem yc (s : zi) (a b c : AV) (d : List AV) (Q : z3) : yn s a b c d Q = z5 (zf (za s)) (zh (za s)) zk [(0, .ls 0), (1, .v a), (5, .v b), (6, .v c)] [(0, .own 3 d)] Q (goX (fun τ ω Q => zh (za s) zk τ ω Q) qH) := yU
abbrev jq (a : AV) (b : List AV) (Q : z3) : Option js := some (.exit 0, [(0, .ls 0), (5, .v a)], [(0, .own 3 b)], Q)
theorem jS {β : Type} (call : z6) (lp : ze) (a : AV) (b : List AV) (Q : z3) (k : PK β) : z5 call lp yl [(0, .ls 0), (5, .v a)] [(0, .own 3 b)] Q k = (
 bnN (KP (b : List AV).length a) fun i1 => 
 bnP (QZ 3 (.fz 3 ((b).take i1 ++ List.replicate ((b).length - i1) (mkE [.int .i64 0, .int .i64 0, .int .i64 0]))) none (some a)) fun c => 
 k .ret [(4, .v c), (41, .v c), (39, .v (.fz 3 ((b).take i1 ++ List.replicate ((b).length - i1) (mkE [.int .i64 0, .int .i64 0, .int .i64 0])))), (40, .v a), (39, .v z4), (38, .v z4), (37, .v a), (36, .v z4), (0, .v z4), (5, .v a)] [] Q) := by kernel_rfl
theorem kJ {call : z6} {lp : ze} (a : List AV) (c : AV) (Q : z3) : z5 call lp xF [(0, .ls 0), (1, .v c)] [(0, .own 3 a)] Q (zA [.tmp 4] [.f 3]) = (
 bnS (call 75 [.fz 3 a, c] ⟨Q.size, .leaf⟩) fun b _ => pinB (wZ b) <| 
 bnP (zc .eql b (.int .i64 (-1))) fun d => 
 zF d (fun _ => some (.fz 3 a, Q))
 (fun _ => bnP (zc .add b (.int .i64 1)) fun e => 
 bnX (lp zk [(0, .ls 0), (1, .v c), (5, .v b), (6, .v e)] [(0, .own 3 a)] Q) (kD 0 (goC (z5 call lp yl) (zA [.tmp 4] [.f 3]))))) := by kernel_rfl
def kK {s : zi} (hs : s.lookup 1000066 = none) (a : List AV) (b : AV) (Q : z3) := (z7B (E := za s) (f := 1000066) (fn := zE) hs rfl rfl a b Q rfl).trans (kJ (call := zf (za s)) (lp := zh (za s)) a b Q)
theorem z16 {call : z6} {lp : ze} (a b c d : AV) (Q : z3) : z5 call lp QK [(0, .v (.agg [a, b, c])), (1, .v d)] [] Q (zA [.tmp 3] [.n]) = (
 bnC 3 (stC 3 (.agg [a, b, c])) fun j l e => 
 bnP (ldQ Q d) fun f => 
 bnP (zc .sub f e) fun g => 
 bnP (zc .gtr g (.int .i64 20)) fun h => 
 bnP (rcv false .n h) fun i => some (i, Q)) := by kernel_rfl
def z17 {s : zi} (hs : s.lookup 67 = none) (a b c d : AV) (Q : z3) := (zr (E := za s) (f := 67) (fn := jb) hs rfl [.agg [a, b, c], d] Q rfl).trans (z16 (call := zf (za s)) (lp := zh (za s)) a b c d Q)
theorem KN {call : z6} {lp : ze} (a : AV) (Q : z3) : z5 call lp ZK [(0, .v a)] [] Q (zA [.tmp 2] [.n]) = (
 bnP (Zs a) fun b => 
 bnP (zc .lss b (.int .i64 2)) fun c => 
 zF c (fun _ => some (.int .i64 0, Q))
 (fun _ => bnP (Zs a) fun d => 
 bnP (zc .sub d (.int .i64 2)) fun e => 
 bnP (elQ 1 a e) fun f => 
 bnP ((AV.cells f)[0]?) fun g => 
 bnP (rcv false .n g) fun h => some (h, Q))) := by kernel_rfl
def KO {s : zi} (hs : s.lookup 74 = none) (a : AV) (Q : z3) := (zr (E := za s) (f := 74) (fn := xz) hs rfl [a] Q rfl).trans (KN (call := zf (za s)) (lp := zh (za s)) a Q)
theorem xA {β : Type} (call : z6) (lp : ze) (b c d a : AV) (Q : z3) (k : PK β) : z5 call lp zn [(0, .v b), (1, .v c), (7, .v d), (8, .v a)] [] Q k = (
 bnP (zc .lss a d) fun f => 
 zF f (fun _ => bnP (elQ 3 b a) fun g => 
 bnC 3 (cut (AV.cells g) 0 3) fun h i j => 
 bnF c fun f8 f8f f8c => 
 bnS (YC call f8 (f8f ++ [.agg [h, i, j]] ++ f8c) Q) fun l e => 
 zF (frz l) (fun _ => k .ret [(4, .v a)] [] e)
 (fun _ => bnP (zc .add a (.int .i64 1)) fun m => 
 k .normal [(0, .v b), (1, .v c), (7, .v d), (8, .v m)] [] e))
 (fun _ => k (.exit 0) [] [] Q)) := by kernel_rfl
noncomputable def yw (s : zi) (a b c d : AV) (Q : z3) : Option js := zh (za s) zn [(0, .v a), (1, .v b), (7, .v c), (8, .v d)] [] Q
theorem y8 (s : zi) (a b c d : AV) (Q : z3) : zh (za s) zn [(0, .v a), (1, .v b), (7, .v c), (8, .v d)] [] Q = yw s a b c d Q := rfl
theorem xc (s : zi) (a b c d : AV) (Q : z3) : yw s a b c d Q = z5 (zf (za s)) (zh (za s)) zn [(0, .v a), (1, .v b), (7, .v c), (8, .v d)] [] Q (goX (fun τ ω Q => zh (za s) zn τ ω Q) qH) := yU
abbrev jB (Q : z3) : Option js := some (.exit 0, [], [], Q)
abbrev jr (a : AV) (Q : z3) : Option js := some (.ret, [(4, .v a)], [], Q)
theorem kB {β : Type} (call : z6) (lp : ze) (Q : z3) (k : PK β) : z5 call lp yu [] [] Q k = (
 k .ret [(4, .v (.int .i64 (-1)))] [] Q) := by kernel_rfl
theorem vc {call : z6} {lp : ze} (a b : AV) (Q : z3) : z5 call lp xQ [(0, .v a), (1, .v b)] [] Q (zA [.tmp 4] [.n]) = (
 bnP (Zs a) fun c => 
 bnX (lp zn [(0, .v a), (1, .v b), (7, .v c), (8, .v (.int .i64 0))] [] Q) (kD 0 (goC (z5 call lp yu) (zA [.tmp 4] [.n])))) := by kernel_rfl
def vd {s : zi} (hs : s.lookup 75 = none) (a b : AV) (Q : z3) := (zr (E := za s) (f := 75) (fn := zH) hs rfl [a, b] Q rfl).trans (vc (call := zf (za s)) (lp := zh (za s)) a b Q)
end Go.Proofs.Ytdbbdfmkglgjdaa.Pi
