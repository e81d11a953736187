/- Each operation's own run against the evaluator's: the other operations that leave memory alone. -/
import Derived.Test.YtdbbdfmkglgjdaaAb6
set_option linter.unusedVariables false
set_option linter.unusedSimpArgs false
set_option linter.unusedSectionVars false
namespace Go.Ab
open Go.RowKit
section
variable {P : Program} {B : Nat} {ρ : Rho} {w : World} {H H' : AHeap} {v : AV}
theorem good_eqs {t : TypeId} {q : EqT} {a b : AV} {xv yv : Value} {r : Bool} {x y : Operand} (hx : conc ρ a = some xv) (hy : conc ρ b = some yv) (hr : eqA q a b = some r)
    (hq : eqTy P 20 t = some q) (hcl : (q = .b ∧ P.underlying t = some .bool) ∨ (∃ fs, q = .st fs) ∧ P.eqGuardType P.depth t = false) (op : BinOp) (neg : Bool) (hop : (op = .eql ∧ neg = false) ∨ (op = .neq ∧ neg = true)) :
    Pur P ρ (do eqGuard op t x y xv yv; binOp op t xv yv) (.bool (r != neg)) := by
  refine Pur.mk' (x := .bool (r != neg)) (fun w => ?_) rfl
  have hE : ∀ w : World, (Op.equal t xv yv).run P w = .ok r w := fun w => eqTy_run 20 t q hq a b r xv yv hr hx hy 9980 w
  rcases hcl with ⟨rfl, _⟩ | ⟨⟨fs, rfl⟩, hg⟩
  · unfold eqA at hr
    split at hr <;> first | (cases hr; done) | contradiction | skip
    all_goals first | contradiction | skip
    obtain rfl := conc_bool hx
    obtain rfl := conc_bool hy
    rcases hop with ⟨rfl, rfl⟩ | ⟨rfl, rfl⟩ <;> simp [run_eqGuard_bool, binOp, hE]
  · unfold eqA at hr
    split at hr <;> first | (cases hr; done) | contradiction | skip
    all_goals first | contradiction | skip
    obtain ⟨xs, hxs, rfl⟩ := conc_agg hx
    obtain ⟨ys, hys, rfl⟩ := conc_agg hy
    rcases hop with ⟨rfl, rfl⟩ | ⟨rfl, rfl⟩ <;> simp [eqGuard, binOp, hE, hg]
theorem good_un {op : UnOp} {a : AV} {xv : Value} (hx : conc ρ a = some xv) (h : unA op a = some v) : Pur P ρ (Op.unary op xv) v := by
  unfold unA at h
  split at h
  · obtain rfl := conc_int hx
    obtain rfl := Option.some.inj h
    exact Pur.mk' _ (fun w => by simp [Op.unary, Op.intArith]; rfl) (by simp [conc])
  · obtain rfl := conc_int hx
    unfold binI at h
    simp only at h
    obtain rfl := Option.some.inj h
    exact Pur.mk' _ (fun w => by simp [Op.unary, Op.intBits]; rfl) (by simp [conc])
  · obtain rfl := conc_bool hx
    obtain rfl := Option.some.inj h
    exact Pur.mk' _ (fun w => by simp [Op.unary]; rfl) (by simp [conc])
  · cases h
theorem good_cvi {s d : TypeId} {k k0 k' : IntKind} {n : Int} {xv : Value} (h1 : P.underlying s = some (.int k0)) (h2 : P.underlying d = some (.int k)) (hx : conc ρ (.int k' n) = some xv) :
    Pur P ρ (convert s d xv) (.int k (k.wrap n)) := by
  obtain rfl := conc_int hx
  exact Pur.mk' _ (fun w => by simp [convert, run_underlying h1, run_underlying h2, Conv.intToInt]; rfl) (by simp [conc])
theorem good_cvs {s d : TypeId} {b : List UInt8} {xv : Value} (h1 : P.underlying s = some .string) (h2 : P.underlying d = some .string) (hx : conc ρ (.str b) = some xv) :
    Pur P ρ (convert s d xv) (.str b) := by
  obtain rfl := conc_str hx
  exact Pur.mk' _ (fun w => by simp [convert, run_underlying h1, run_underlying h2]; rfl) (by simp [conc])
theorem good_mki {t : TypeId} {d : TypeDesc} {a : AV} {xv : Value} (ht : P.underlying t = some d) (hd : ∀ ms, d ≠ .interface ms) (hx : conc ρ a = some xv) :
    Pur P ρ (Instr.makeInterface t xv) (.ifc t a) := by
  refine Pur.mk' (x := .iface t xv) (fun w => ?_) (by simp [conc, hx])
  cases d <;> first | exact absurd rfl (hd _) | simp [Instr.makeInterface, run_underlying ht]
theorem dXs_conc {τ : Tau} {ev : Operand → Value} : ∀ {xs : List Operand} {as : List AX}, mapO dX xs = some as → (∀ x ∈ xs, ∀ x', dX x = some x' → conc ρ (τ.at x') = some (ev x)) →
    concL ρ (as.map τ.at) = some (xs.map ev)
  | [], as, h, _ => by simp [mapO] at h; subst h; rfl
  | x :: xs, as, h, hx => by
    obtain ⟨y, ys, h1, h2, rfl⟩ := mapO_cons h
    exact concL_mk (hx x (by simp) y h1) (dXs_conc h2 fun z hz => hx z (by simp [hz]))
theorem good_mkf {f : Nat} {fs cs : List AV} {xs ys : List Value} (hx : concL ρ fs = some xs) (hy : concL ρ cs = some ys) :
    Pur P ρ (Instr.makeFunc (.func f) xs.toArray ys.toArray) (.fn f fs cs) :=
  Pur.mk' _ (fun w => by simp [Instr.makeFunc]; rfl) (by simp [conc, hx, hy])
theorem good_fad {s : TypeId} {fs : Array Field} {f n : Nat} {fl : Field} {r o : Nat} {xv : Value} (ht : P.underlying s = some (.struct fs)) (hf : fs[f]? = some fl)
    (hn : szOf P fl.type = some (n + 1)) (hx : conc ρ (.ptr r o) = some xv) : Pur P ρ (Instr.fieldAt s xv f) (.ptr r (o + fl.offset)) := by
  obtain ⟨L, hr, rfl⟩ := conc_ptr hx
  refine Pur.mk' _ (fun w => ?_) (conc_ptr_mk hr)
  simp [Instr.fieldAt, run_underlying ht, hf, Instr.sureAddr, fieldPlace, run_sizeOf' hn, addr_add, Nat.add_assoc]
theorem good_fld {t : TypeId} {fs : Array Field} {f : Nat} {fl : Field} {m : Option Nat} {cs : List AV} {xv : Value} (ht : P.underlying t = some (.struct fs)) (hf : fs[f]? = some fl)
    (hm : aggOf P fl.type = some m) (hx : conc ρ (.agg cs) = some xv) (hp : partA cs fl.offset m = some v) : Pur P ρ (Instr.field t xv f) v := by
  obtain ⟨xs, hxs, rfl⟩ := conc_agg hx
  obtain ⟨y, hy, hc⟩ := run_part (P := P) hm hxs hp
  exact Pur.mk' _ (fun w => by simp [Instr.field, run_underlying ht, hf, asAgg, hy]) hc
theorem good_iad {t e : TypeId} {z r o len : Nat} {cap : ACap} {k : IntKind} {i : Int} {xv iv : Value} (ht : P.underlying t = some (.slice e)) (he : szOf P e = some z)
    (hx : conc ρ (.sl r o len cap) = some xv) (hi : conc ρ (.int k i) = some iv) (h : 0 ≤ i ∧ i < len) : Pur P ρ (Instr.indexAt t xv iv) (.ptr r (o + i.toNat * z)) := by
  obtain ⟨L, hr, rfl, _⟩ := conc_sl hx
  obtain rfl := conc_int hi
  refine Pur.mk' _ (fun w => ?_) (conc_ptr_mk hr)
  simp [Instr.indexAt, asIntOf, run_underlying ht, h, run_sizeOf' he, addr_add, Nat.add_assoc]
theorem good_iaa {t e : TypeId} {n z r o : Nat} {k : IntKind} {i : Int} {xv iv : Value} (ht : P.underlying t = some (.array n e)) (he : szOf P e = some z)
    (hx : conc ρ (.ptr r o) = some xv) (hi : conc ρ (.int k i) = some iv) (h : 0 ≤ i ∧ i < n) : Pur P ρ (Instr.indexAt t xv iv) (.ptr r (o + i.toNat * z)) := by
  obtain ⟨L, hr, rfl⟩ := conc_ptr hx
  obtain rfl := conc_int hi
  refine Pur.mk' _ (fun w => ?_) (conc_ptr_mk hr)
  simp [Instr.indexAt, asIntOf, run_underlying ht, Instr.sureAddr, h, run_sizeOf' he, addr_add, Nat.add_assoc]
theorem good_ixs {t : TypeId} {s : List UInt8} {b : UInt8} {k : IntKind} {i : Int} {xv iv : Value} (ht : P.underlying t = some .string)
    (hx : conc ρ (.str s) = some xv) (hi : conc ρ (.int k i) = some iv) (h0 : 0 ≤ i) (hb : s[i.toNat]? = some b) : Pur P ρ (Instr.index t xv iv) (.int .u8 b.toNat) := by
  obtain rfl := conc_str hx
  obtain rfl := conc_int hi
  refine Pur.mk' (x := .int .u8 b.toNat) (fun w => ?_) rfl
  have hlt : i.toNat < s.length := (List.getElem?_eq_some_iff.1 hb).1
  have hg : (⟨⟨s⟩⟩ : ByteArray)[i.toNat]? = some b := by
    rw [getElem?_pos (h := by simpa [ByteArray.size] using hlt)]
    have := (List.getElem?_eq_some_iff.1 hb).2
    exact congrArg some this
  simp [Instr.index, asIntOf, run_underlying ht, h0, hg]
theorem good_ixa {t e : TypeId} {n z : Nat} {m : Option Nat} {cs : List AV} {k : IntKind} {i : Int} {xv iv : Value} (ht : P.underlying t = some (.array n e)) (he : szOf P e = some z)
    (hm : aggOf P e = some m) (hx : conc ρ (.agg cs) = some xv) (hi : conc ρ (.int k i) = some iv) (h : 0 ≤ i ∧ i < n) (hp : partA cs (i.toNat * z) m = some v) : Pur P ρ (Instr.index t xv iv) v := by
  obtain ⟨xs, hxs, rfl⟩ := conc_agg hx
  obtain rfl := conc_int hi
  obtain ⟨y, hy, hc⟩ := run_part (P := P) hm hxs hp
  exact Pur.mk' _ (fun w => by simp [Instr.index, asIntOf, run_underlying ht, h, run_sizeOf' he, hy]) hc
theorem good_tas {t s : TypeId} {d : TypeDesc} {z a : AV} {ok : Bool} {xv : Value} (hs : Sim B ρ w H) (ht : P.underlying t = some d) (hd : ∀ ms, d ≠ .interface ms) (hz : zeroVOf P t = some z)
    (hx : conc ρ a = some xv)
    (h : tasA t z ok a H = some (v, H')) : GoodV P B ρ w H (Instr.typeAssert xv s t ok) v H' := by
  obtain ⟨i, zv, hi, hzv, hzc⟩ := zeroVOf_spec hz
  have hzr := run_zeroValue' hi hzv
  unfold tasA at h
  cases a <;> simp only at h <;> first | (cases h; done) | skip
  · rename_i t' b
    obtain ⟨y, hy, rfl⟩ := conc_ifc hx
    split at h
    · rename_i e
      subst e
      cases ok
      · simp at h
        obtain ⟨rfl, rfl⟩ := h
        refine GoodV.same hs (x := y) ?_ hy
        cases d <;> first | exact absurd rfl (hd _) | simp [Instr.typeAssert, run_underlying ht]
      · simp at h
        obtain ⟨rfl, rfl⟩ := h
        refine GoodV.same hs (x := .tuple #[y, .bool true]) ?_ (by simp [conc, concL, hy])
        cases d <;> first | exact absurd rfl (hd _) | simp [Instr.typeAssert, run_underlying ht]
    · rename_i e
      split at h
      · rename_i hok
        subst hok
        simp at h
        obtain ⟨rfl, rfl⟩ := h
        refine GoodV.same hs (x := .tuple #[zv, .bool false]) ?_ (by simp [conc, concL, hzc])
        cases d <;> first | exact absurd rfl (hd _) | simp [Instr.typeAssert, run_underlying ht, e, hzr]
      · cases h
  · have : xv = .nilIface := by simp [conc] at hx; exact hx.symm
    subst this
    split at h
    · rename_i hok
      subst hok
      simp at h
      obtain ⟨rfl, rfl⟩ := h
      refine GoodV.same hs (x := .tuple #[zv, .bool false]) ?_ (by simp [conc, concL, hzc])
      cases d <;> first | exact absurd rfl (hd _) | simp [Instr.typeAssert, run_underlying ht, hzr]
    · cases h
theorem good_ext {i : Nat} {vs : List AV} {xv : Value} (hx : conc ρ (.tup vs) = some xv) (h : vs[i]? = some v) : Pur P ρ (Instr.extract xv i) v := by
  obtain ⟨xs, hxs, rfl⟩ := conc_tup hx
  obtain ⟨y, hy, hy2⟩ := concL_get hxs h
  exact Pur.mk' _ (fun w => by simp [Instr.extract, hy2]) hy

theorem good_len_str {t ty : TypeId} {s : List UInt8} {xv : Value} (ht : P.underlying t = some .string) (hx : conc ρ (.str s) = some xv) :
    Pur P ρ (Builtin.len_ #[t] ty #[xv]) (.int .i64 s.length) := by
  obtain rfl := conc_str hx
  exact Pur.mk' (x := .int .i64 s.length) (fun w => by simp [Builtin.len_, run_underlying ht, goInt, size_mk]) rfl
theorem good_len_nil {t e ty : TypeId} {xv : Value} (ht : P.underlying t = some (.slice e)) (hx : conc ρ .nils = some xv) :
    Pur P ρ (Builtin.len_ #[t] ty #[xv]) (.int .i64 0) := by
  obtain rfl := conc_nils hx
  exact Pur.mk' (x := .int .i64 0) (fun w => by simp [Builtin.len_, run_underlying ht, goInt]) rfl
theorem good_len_zs {t e ty : TypeId} {r o k d : Nat} {xv : Value} (ht : P.underlying t = some (.slice e)) (hx : conc ρ (.zs r o k d) = some xv) :
    Pur P ρ (Builtin.len_ #[t] ty #[xv]) (.int .i64 0) := by
  obtain ⟨ad, c, rfl⟩ := conc_zs hx
  exact Pur.mk' (x := .int .i64 0) (fun w => by simp [Builtin.len_, run_underlying ht, goInt]) rfl
theorem good_len_sl {t e ty : TypeId} {r o n : Nat} {cap : ACap} {xv : Value} (ht : P.underlying t = some (.slice e)) (hx : conc ρ (.sl r o n cap) = some xv) :
    Pur P ρ (Builtin.len_ #[t] ty #[xv]) (.int .i64 n) := by
  obtain ⟨L, _, rfl, _⟩ := conc_sl hx
  exact Pur.mk' (x := .int .i64 n) (fun w => by simp [Builtin.len_, run_underlying ht, goInt]) rfl
theorem good_lena {t e ty : TypeId} {n : Nat} {xv : Value} (ht : P.underlying t = some (.array n e)) :
    Pur P ρ (Builtin.len_ #[t] ty #[xv]) (.int .i64 n) :=
  Pur.mk' (x := .int .i64 n) (fun w => by simp [Builtin.len_, run_underlying ht, goInt]) rfl
theorem good_cap_nil {t e ty : TypeId} {xv : Value} (ht : P.underlying t = some (.slice e)) (hx : conc ρ .nils = some xv) :
    Pur P ρ (Builtin.cap_ #[t] ty #[xv]) (.int .i64 0) := by
  obtain rfl := conc_nils hx
  exact Pur.mk' (x := .int .i64 0) (fun w => by simp [Builtin.cap_, run_underlying ht, goInt]) rfl
theorem good_cap_sl {t e ty : TypeId} {r o n c : Nat} {xv : Value} (ht : P.underlying t = some (.slice e)) (hx : conc ρ (.sl r o n (.ex c)) = some xv) :
    Pur P ρ (Builtin.cap_ #[t] ty #[xv]) (.int .i64 c) := by
  obtain ⟨L, _, rfl, _⟩ := conc_sl hx
  exact Pur.mk' (x := .int .i64 c) (fun w => by simp [Builtin.cap_, run_underlying ht, goInt, capOf]) rfl
theorem stepMax_none : ∀ l : List AV, l.foldl stepMax none = none
  | [] => rfl
  | _ :: l => by simp only [List.foldl_cons]; exact stepMax_none l
theorem stepMin_none : ∀ l : List AV, l.foldl stepMin none = none
  | [] => rfl
  | _ :: l => by simp only [List.foldl_cons]; exact stepMin_none l
theorem run_max : ∀ {l : List AV} {xs : List Value} {a : AV} {x : Value}, concL ρ l = some xs → conc ρ a = some x → l.foldl stepMax (some a) = some v →
    ∃ y, (∀ w : World, (xs.foldlM Builtin.max2 x).run P w = .ok y w) ∧ conc ρ v = some y
  | [], xs, a, x, h, ha, hv => by
    simp [concL] at h; subst h
    simp at hv; subst hv
    exact ⟨x, fun w => by simp, ha⟩
  | b :: l, xs, a, x, h, ha, hv => by
    obtain ⟨y, ys, hy, hys, rfl⟩ := concL_cons h
    simp only [List.foldl_cons] at hv
    unfold stepMax at hv
    split at hv
    · rename_i k n k' m heq
      obtain rfl := Option.some.inj heq
      obtain rfl := conc_int ha
      obtain rfl := conc_int hy
      obtain ⟨z, hz, hz2⟩ := run_max (x := .int k (if m > n then m else n)) hys (by simp [conc]) hv
      exact ⟨z, fun w => by simp only [List.foldlM_cons, Builtin.max2, Sem.run_bind, Sem.run_pure, Result.andThen_ok]; exact hz w, hz2⟩
    · have := stepMax_none l
      unfold stepMax at this
      rw [this] at hv; cases hv
theorem run_min : ∀ {l : List AV} {xs : List Value} {a : AV} {x : Value}, concL ρ l = some xs → conc ρ a = some x → l.foldl stepMin (some a) = some v →
    ∃ y, (∀ w : World, (xs.foldlM Builtin.min2 x).run P w = .ok y w) ∧ conc ρ v = some y
  | [], xs, a, x, h, ha, hv => by
    simp [concL] at h; subst h
    simp at hv; subst hv
    exact ⟨x, fun w => by simp, ha⟩
  | b :: l, xs, a, x, h, ha, hv => by
    obtain ⟨y, ys, hy, hys, rfl⟩ := concL_cons h
    simp only [List.foldl_cons] at hv
    unfold stepMin at hv
    split at hv
    · rename_i k n k' m heq
      obtain rfl := Option.some.inj heq
      obtain rfl := conc_int ha
      obtain rfl := conc_int hy
      obtain ⟨z, hz, hz2⟩ := run_min (x := .int k (if m < n then m else n)) hys (by simp [conc]) hv
      exact ⟨z, fun w => by simp only [List.foldlM_cons, Builtin.min2, Sem.run_bind, Sem.run_pure, Result.andThen_ok]; exact hz w, hz2⟩
    · have := stepMin_none l
      unfold stepMin at this
      rw [this] at hv; cases hv
theorem good_mxi {ts : Array TypeId} {ty : TypeId} {a : AV} {l : List AV} {xs : List Value} (hx : concL ρ (a :: l) = some xs) (h : l.foldl stepMax (some a) = some v) :
    Pur P ρ (Builtin.max_ ts ty xs.toArray) v := by
  obtain ⟨x, ys, hx1, hys, rfl⟩ := concL_cons hx
  obtain ⟨y, hy, hc⟩ := run_max (P := P) hys hx1 h
  exact Pur.mk' _ (fun w => by simp only [Builtin.max_]; exact hy w) hc
theorem good_mni {ts : Array TypeId} {ty : TypeId} {a : AV} {l : List AV} {xs : List Value} (hx : concL ρ (a :: l) = some xs) (h : l.foldl stepMin (some a) = some v) :
    Pur P ρ (Builtin.min_ ts ty xs.toArray) v := by
  obtain ⟨x, ys, hx1, hys, rfl⟩ := concL_cons hx
  obtain ⟨y, hy, hc⟩ := run_min (P := P) hys hx1 h
  exact Pur.mk' _ (fun w => by simp only [Builtin.min_]; exact hy w) hc
end
end Go.Ab
