/- Each operation's own run against the evaluator's: the other operations that zdh memory alone. -/
import Derived.Test.YtdbbdfmkglgjdaaAb6
set_option linter.unusedVariables false
set_option linter.unusedSimpArgs false
set_option linter.unusedSectionVars false
namespace Go.Ab
open Go.RowKit
section
variable {P : Program} {B : Nat} {ρ : Rho} {w : World} {H H' : z3} {v : AV}
theorem Vc {t : TypeId} {q : EqT} {a b : AV} {xv yv : Value} {r : Bool} {x y : Operand} (hx : z8 ρ a = some xv) (hy : z8 ρ b = some yv) (hr : eqA q a b = some r)
  (hq : K5 P 20 t = some q) (hcl : (q = .b ∧ P.underlying t = some .bool) ∨ (∃ fs, q = .st fs) ∧ P.eqGuardType P.depth t = false) (op : BinOp) (neg : Bool) (hop : (op = .eql ∧ neg = false) ∨ (op = .neq ∧ neg = true)) :
  Pur P ρ (do eqGuard op t x y xv yv; binOp op t xv yv) (.bool (r != neg)) := by
 refine Pur.mk' (x := .bool (r != neg)) (fun w => ?_) rfl
 have hE : ∀ w : World, (Op.equal t xv yv).run P w = .ok r w := fun w => z8i 20 t q hq a b r xv yv hr hx hy 9980 w
 rcases hcl with ⟨rfl, _⟩ | ⟨⟨fs, rfl⟩, hg⟩
 ·unfold eqA at hr
  split at hr <;> first | (cases hr; done) | contradiction | skip
  all_goals first | contradiction | skip
  obtain rfl := wm hx
  obtain rfl := wm hy
  rcases hop with ⟨rfl, rfl⟩ | ⟨rfl, rfl⟩ <;> simp [Wg, binOp, hE]
 ·unfold eqA at hr
  split at hr <;> first | (cases hr; done) | contradiction | skip
  all_goals first | contradiction | skip
  obtain ⟨xs, hxs, rfl⟩ := YI hx
  obtain ⟨ys, hys, rfl⟩ := YI hy
  rcases hop with ⟨rfl, rfl⟩ | ⟨rfl, rfl⟩ <;> simp [eqGuard, binOp, hE, hg]
theorem zab {op : UnOp} {a : AV} {xv : Value} (hx : z8 ρ a = some xv) (h : unA op a = some v) : Pur P ρ (Op.unary op xv) v := by
 unfold unA at h
 split at h
 ·obtain rfl := zY hx
  obtain rfl := Option.some.inj h
  exact Pur.mk' _ (fun w => by simp [Op.unary, Op.intArith]; rfl) (by simp [z8])
 ·obtain rfl := zY hx
  unfold YE at h
  simp only at h
  obtain rfl := Option.some.inj h
  exact Pur.mk' _ (fun w => by simp [Op.unary, Op.intBits]; rfl) (by simp [z8])
 ·obtain rfl := wm hx
  obtain rfl := Option.some.inj h
  exact Pur.mk' _ (fun w => by simp [Op.unary]; rfl) (by simp [z8])
 ·cases h
theorem z8j {s d : TypeId} {k k0 k' : IntKind} {n : Int} {xv : Value} (h1 : P.underlying s = some (.int k0)) (h2 : P.underlying d = some (.int k)) (hx : z8 ρ (.int k' n) = some xv) :
  Pur P ρ (convert s d xv) (.int k (k.wrap n)) := by
 obtain rfl := zY hx
 exact Pur.mk' _ (fun w => by simp [convert, run_underlying h1, run_underlying h2, Conv.intToInt]; rfl) (by simp [z8])
theorem z8k {s d : TypeId} {b : List UInt8} {xv : Value} (h1 : P.underlying s = some .string) (h2 : P.underlying d = some .string) (hx : z8 ρ (.str b) = some xv) :
  Pur P ρ (convert s d xv) (.str b) := by
 obtain rfl := ja hx
 exact Pur.mk' _ (fun w => by simp [convert, run_underlying h1, run_underlying h2]; rfl) (by simp [z8])
theorem z8l {t : TypeId} {d : TypeDesc} {a : AV} {xv : Value} (ht : P.underlying t = some d) (hd : ∀ ms, d ≠ .interface ms) (hx : z8 ρ a = some xv) :
  Pur P ρ (Instr.makeInterface t xv) (.ifc t a) := by
 refine Pur.mk' (x := .iface t xv) (fun w => ?_) (by simp [z8, hx])
 cases d <;> first | exact absurd rfl (hd _) | simp [Instr.makeInterface, run_underlying ht]
theorem YK {τ : Tau} {ev : Operand → Value} : ∀ {xs : List Operand} {as : List AX}, zK dX xs = some as → (∀ x ∈ xs, ∀ x', dX x = some x' → z8 ρ (τ.at x') = some (ev x)) →
  zd ρ (as.map τ.at) = some (xs.map ev)
 | [], as, h, _ => by simp [zK] at h; subst h; rfl
 | x :: xs, as, h, hx => by
  obtain ⟨y, ys, h1, h2, rfl⟩ := jh h
  exact yR (hx x (by simp) y h1) (YK h2 fun z hz => hx z (by simp [hz]))
theorem z8m {f : Nat} {fs cs : List AV} {xs ys : List Value} (hx : zd ρ fs = some xs) (hy : zd ρ cs = some ys) :
  Pur P ρ (Instr.makeFunc (.func f) xs.toArray ys.toArray) (.fn f fs cs) :=
 Pur.mk' _ (fun w => by simp [Instr.makeFunc]; rfl) (by simp [z8, hx, hy])
theorem z8n {s : TypeId} {fs : Array Field} {f n : Nat} {fl : Field} {r o : Nat} {xv : Value} (ht : P.underlying s = some (.struct fs)) (hf : fs[f]? = some fl)
  (hn : jC P fl.type = some (n + 1)) (hx : z8 ρ (.ptr r o) = some xv) : Pur P ρ (Instr.fieldAt s xv f) (.ptr r (o + fl.offset)) := by
 obtain ⟨L, hr, rfl⟩ := vJ hx
 refine Pur.mk' _ (fun w => ?_) (vm hr)
 simp [Instr.fieldAt, run_underlying ht, hf, Instr.sureAddr, fieldPlace, zJ hn, jF, Nat.add_assoc]
theorem z8o {t : TypeId} {fs : Array Field} {f : Nat} {fl : Field} {m : Option Nat} {cs : List AV} {xv : Value} (ht : P.underlying t = some (.struct fs)) (hf : fs[f]? = some fl)
  (hm : wF P fl.type = some m) (hx : z8 ρ (.agg cs) = some xv) (hp : jZ cs fl.offset m = some v) : Pur P ρ (Instr.field t xv f) v := by
 obtain ⟨xs, hxs, rfl⟩ := YI hx
 obtain ⟨y, hy, hc⟩ := Vb (P := P) hm hxs hp
 exact Pur.mk' _ (fun w => by simp [Instr.field, run_underlying ht, hf, asAgg, hy]) hc
theorem z8p {t e : TypeId} {z r o len : Nat} {cap : kj} {k : IntKind} {i : Int} {xv iv : Value} (ht : P.underlying t = some (.slice e)) (he : jC P e = some z)
  (hx : z8 ρ (.sl r o len cap) = some xv) (hi : z8 ρ (.int k i) = some iv) (h : 0 ≤ i ∧ i < len) : Pur P ρ (Instr.indexAt t xv iv) (.ptr r (o + i.toNat * z)) := by
 obtain ⟨L, hr, rfl, _⟩ := xm hx
 obtain rfl := zY hi
 refine Pur.mk' _ (fun w => ?_) (vm hr)
 simp [Instr.indexAt, asIntOf, run_underlying ht, h, zJ he, jF, Nat.add_assoc]
theorem z8q {t e : TypeId} {n z r o : Nat} {k : IntKind} {i : Int} {xv iv : Value} (ht : P.underlying t = some (.array n e)) (he : jC P e = some z)
  (hx : z8 ρ (.ptr r o) = some xv) (hi : z8 ρ (.int k i) = some iv) (h : 0 ≤ i ∧ i < n) : Pur P ρ (Instr.indexAt t xv iv) (.ptr r (o + i.toNat * z)) := by
 obtain ⟨L, hr, rfl⟩ := vJ hx
 obtain rfl := zY hi
 refine Pur.mk' _ (fun w => ?_) (vm hr)
 simp [Instr.indexAt, asIntOf, run_underlying ht, Instr.sureAddr, h, zJ he, jF, Nat.add_assoc]
theorem z8r {t : TypeId} {s : List UInt8} {b : UInt8} {k : IntKind} {i : Int} {xv iv : Value} (ht : P.underlying t = some .string)
  (hx : z8 ρ (.str s) = some xv) (hi : z8 ρ (.int k i) = some iv) (h0 : 0 ≤ i) (hb : s[i.toNat]? = some b) : Pur P ρ (Instr.index t xv iv) (.int .u8 b.toNat) := by
 obtain rfl := ja hx
 obtain rfl := zY hi
 refine Pur.mk' (x := .int .u8 b.toNat) (fun w => ?_) rfl
 have hlt : i.toNat < s.length := (List.getElem?_eq_some_iff.1 hb).1
 have hg : (⟨⟨s⟩⟩ : ByteArray)[i.toNat]? = some b := by
  rw [getElem?_pos (h := by simpa [ByteArray.size] using hlt)]
  have := (List.getElem?_eq_some_iff.1 hb).2
  exact congrArg some this
 simp [Instr.index, asIntOf, run_underlying ht, h0, hg]
theorem z8s {t e : TypeId} {n z : Nat} {m : Option Nat} {cs : List AV} {k : IntKind} {i : Int} {xv iv : Value} (ht : P.underlying t = some (.array n e)) (he : jC P e = some z)
  (hm : wF P e = some m) (hx : z8 ρ (.agg cs) = some xv) (hi : z8 ρ (.int k i) = some iv) (h : 0 ≤ i ∧ i < n) (hp : jZ cs (i.toNat * z) m = some v) : Pur P ρ (Instr.index t xv iv) v := by
 obtain ⟨xs, hxs, rfl⟩ := YI hx
 obtain rfl := zY hi
 obtain ⟨y, hy, hc⟩ := Vb (P := P) hm hxs hp
 exact Pur.mk' _ (fun w => by simp [Instr.index, asIntOf, run_underlying ht, h, zJ he, hy]) hc
theorem z8t {t s : TypeId} {d : TypeDesc} {z a : AV} {ok : Bool} {xv : Value} (hs : Sim B ρ w H) (ht : P.underlying t = some d) (hd : ∀ ms, d ≠ .interface ms) (hz : Xw P t = some z)
  (hx : z8 ρ a = some xv)
  (h : z72 t z ok a H = some (v, H')) : zD P B ρ w H (Instr.typeAssert xv s t ok) v H' := by
 obtain ⟨i, zv, hi, hzv, hzc⟩ := z2X hz
 have hzr := qL hi hzv
 unfold z72 at h
 cases a <;> simp only at h <;> first | (cases h; done) | skip
 ·rename_i t' b
  obtain ⟨y, hy, rfl⟩ := z3Z hx
  split at h
  ·rename_i e
   subst e
   cases ok
   ·simp at h
    obtain ⟨rfl, rfl⟩ := h
    refine zD.same hs (x := y) ?_ hy
    cases d <;> first | exact absurd rfl (hd _) | simp [Instr.typeAssert, run_underlying ht]
   ·simp at h
    obtain ⟨rfl, rfl⟩ := h
    refine zD.same hs (x := .tuple #[y, .bool true]) ?_ (by simp [z8, zd, hy])
    cases d <;> first | exact absurd rfl (hd _) | simp [Instr.typeAssert, run_underlying ht]
  ·rename_i e
   split at h
   ·rename_i hok
    subst hok
    simp at h
    obtain ⟨rfl, rfl⟩ := h
    refine zD.same hs (x := .tuple #[zv, .bool false]) ?_ (by simp [z8, zd, hzc])
    cases d <;> first | exact absurd rfl (hd _) | simp [Instr.typeAssert, run_underlying ht, e, hzr]
   ·cases h
 ·have : xv = .nilIface := by simp [z8] at hx; exact hx.symm
  subst this
  split at h
  ·rename_i hok
   subst hok
   simp at h
   obtain ⟨rfl, rfl⟩ := h
   refine zD.same hs (x := .tuple #[zv, .bool false]) ?_ (by simp [z8, zd, hzc])
   cases d <;> first | exact absurd rfl (hd _) | simp [Instr.typeAssert, run_underlying ht, hzr]
  ·cases h
theorem z8u {i : Nat} {vs : List AV} {xv : Value} (hx : z8 ρ (.tup vs) = some xv) (h : vs[i]? = some v) : Pur P ρ (Instr.extract xv i) v := by
 obtain ⟨xs, hxs, rfl⟩ := z8g hx
 obtain ⟨y, hy, hy2⟩ := jP hxs h
 exact Pur.mk' _ (fun w => by simp [Instr.extract, hy2]) hy

theorem z2Z {t ty : TypeId} {s : List UInt8} {xv : Value} (ht : P.underlying t = some .string) (hx : z8 ρ (.str s) = some xv) :
  Pur P ρ (Builtin.len_ #[t] ty #[xv]) (.int .i64 s.length) := by
 obtain rfl := ja hx
 exact Pur.mk' (x := .int .i64 s.length) (fun w => by simp [Builtin.len_, run_underlying ht, goInt, XI]) rfl
theorem z30 {t e ty : TypeId} {xv : Value} (ht : P.underlying t = some (.slice e)) (hx : z8 ρ .nils = some xv) :
  Pur P ρ (Builtin.len_ #[t] ty #[xv]) (.int .i64 0) := by
 obtain rfl := vl hx
 exact Pur.mk' (x := .int .i64 0) (fun w => by simp [Builtin.len_, run_underlying ht, goInt]) rfl
theorem z45 {t e ty : TypeId} {r o k d : Nat} {xv : Value} (ht : P.underlying t = some (.slice e)) (hx : z8 ρ (.zs r o k d) = some xv) :
  Pur P ρ (Builtin.len_ #[t] ty #[xv]) (.int .i64 0) := by
 obtain ⟨ad, c, rfl⟩ := V9 hx
 exact Pur.mk' (x := .int .i64 0) (fun w => by simp [Builtin.len_, run_underlying ht, goInt]) rfl
theorem z46 {t e ty : TypeId} {r o n : Nat} {cap : kj} {xv : Value} (ht : P.underlying t = some (.slice e)) (hx : z8 ρ (.sl r o n cap) = some xv) :
  Pur P ρ (Builtin.len_ #[t] ty #[xv]) (.int .i64 n) := by
 obtain ⟨L, _, rfl, _⟩ := xm hx
 exact Pur.mk' (x := .int .i64 n) (fun w => by simp [Builtin.len_, run_underlying ht, goInt]) rfl
theorem z7a {t e ty : TypeId} {n : Nat} {xv : Value} (ht : P.underlying t = some (.array n e)) :
  Pur P ρ (Builtin.len_ #[t] ty #[xv]) (.int .i64 n) :=
 Pur.mk' (x := .int .i64 n) (fun w => by simp [Builtin.len_, run_underlying ht, goInt]) rfl
theorem z31 {t e ty : TypeId} {xv : Value} (ht : P.underlying t = some (.slice e)) (hx : z8 ρ .nils = some xv) :
  Pur P ρ (Builtin.cap_ #[t] ty #[xv]) (.int .i64 0) := by
 obtain rfl := vl hx
 exact Pur.mk' (x := .int .i64 0) (fun w => by simp [Builtin.cap_, run_underlying ht, goInt]) rfl
theorem z47 {t e ty : TypeId} {r o n c : Nat} {xv : Value} (ht : P.underlying t = some (.slice e)) (hx : z8 ρ (.sl r o n (.ex c)) = some xv) :
  Pur P ρ (Builtin.cap_ #[t] ty #[xv]) (.int .i64 c) := by
 obtain ⟨L, _, rfl, _⟩ := xm hx
 exact Pur.mk' (x := .int .i64 c) (fun w => by simp [Builtin.cap_, run_underlying ht, goInt, x9]) rfl
theorem Vd : ∀ l : List AV, l.foldl kR none = none
 | [] => rfl
 | _ :: l => by simp only [List.foldl_cons]; exact Vd l
theorem Ve : ∀ l : List AV, l.foldl kS none = none
 | [] => rfl
 | _ :: l => by simp only [List.foldl_cons]; exact Ve l
theorem z6m : ∀ {l : List AV} {xs : List Value} {a : AV} {x : Value}, zd ρ l = some xs → z8 ρ a = some x → l.foldl kR (some a) = some v →
  ∃ y, (∀ w : World, (xs.foldlM Builtin.max2 x).run P w = .ok y w) ∧ z8 ρ v = some y
 | [], xs, a, x, h, ha, hv => by
  simp [zd] at h; subst h
  simp at hv; subst hv
  exact ⟨x, fun w => by simp, ha⟩
 | b :: l, xs, a, x, h, ha, hv => by
  obtain ⟨y, ys, hy, hys, rfl⟩ := zO h
  simp only [List.foldl_cons] at hv
  unfold kR at hv
  split at hv
  ·rename_i k n k' m heq
   obtain rfl := Option.some.inj heq
   obtain rfl := zY ha
   obtain rfl := zY hy
   obtain ⟨z, hz, hz2⟩ := z6m (x := .int k (if m > n then m else n)) hys (by simp [z8]) hv
   exact ⟨z, fun w => by simp only [List.foldlM_cons, Builtin.max2, Sem.run_bind, Sem.run_pure, Result.andThen_ok]; exact hz w, hz2⟩
  ·have := Vd l
   unfold kR at this
   rw [this] at hv; cases hv
theorem z6n : ∀ {l : List AV} {xs : List Value} {a : AV} {x : Value}, zd ρ l = some xs → z8 ρ a = some x → l.foldl kS (some a) = some v →
  ∃ y, (∀ w : World, (xs.foldlM Builtin.min2 x).run P w = .ok y w) ∧ z8 ρ v = some y
 | [], xs, a, x, h, ha, hv => by
  simp [zd] at h; subst h
  simp at hv; subst hv
  exact ⟨x, fun w => by simp, ha⟩
 | b :: l, xs, a, x, h, ha, hv => by
  obtain ⟨y, ys, hy, hys, rfl⟩ := zO h
  simp only [List.foldl_cons] at hv
  unfold kS at hv
  split at hv
  ·rename_i k n k' m heq
   obtain rfl := Option.some.inj heq
   obtain rfl := zY ha
   obtain rfl := zY hy
   obtain ⟨z, hz, hz2⟩ := z6n (x := .int k (if m < n then m else n)) hys (by simp [z8]) hv
   exact ⟨z, fun w => by simp only [List.foldlM_cons, Builtin.min2, Sem.run_bind, Sem.run_pure, Result.andThen_ok]; exact hz w, hz2⟩
  ·have := Ve l
   unfold kS at this
   rw [this] at hv; cases hv
theorem z8v {ts : Array TypeId} {ty : TypeId} {a : AV} {l : List AV} {xs : List Value} (hx : zd ρ (a :: l) = some xs) (h : l.foldl kR (some a) = some v) :
  Pur P ρ (Builtin.max_ ts ty xs.toArray) v := by
 obtain ⟨x, ys, hx1, hys, rfl⟩ := zO hx
 obtain ⟨y, hy, hc⟩ := z6m (P := P) hys hx1 h
 exact Pur.mk' _ (fun w => by simp only [Builtin.max_]; exact hy w) hc
theorem z8w {ts : Array TypeId} {ty : TypeId} {a : AV} {l : List AV} {xs : List Value} (hx : zd ρ (a :: l) = some xs) (h : l.foldl kS (some a) = some v) :
  Pur P ρ (Builtin.min_ ts ty xs.toArray) v := by
 obtain ⟨x, ys, hx1, hys, rfl⟩ := zO hx
 obtain ⟨y, hy, hc⟩ := z6n (P := P) hys hx1 h
 exact Pur.mk' _ (fun w => by simp only [Builtin.min_]; exact hy w) hc
end
end Go.Ab
