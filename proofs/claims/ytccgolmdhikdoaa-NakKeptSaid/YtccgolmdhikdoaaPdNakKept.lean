/- The law NakKept: the walk. -/
import Derived.Test.YtccgolmdhikdoaaPcPicksL
import Derived.Test.YtccgolmdhikdoaaPdNakAll
set_option linter.unusedVariables false
set_option linter.unusedSimpArgs false
namespace Go.Proofs.Ytccgolmdhikdoaa.Pn
open Go.Ab Go.Feed
set_option maxRecDepth 100000
theorem EvV (e : Ev) : Ev.v e = .agg [.int .i64 e.kind, .int .i64 e.lo, .int .i64 e.hi, .str e.text, .int .i64 e.why] := rfl
theorem evD {l : List Ev} {i : Nat} (hi : i < l.length) : l.drop i = l.getD i default :: l.drop (i + 1) := by
  rw [List.drop_eq_getElem_cons hi, List.getD_eq_getElem?_getD, List.getElem?_eq_getElem hi]; rfl
@[simp] theorem binA_eqlS (a b : List UInt8) : binA .eql (.str a) (.str b) = some (.bool (decide (a = b))) := by
  show some (AV.bool (a == b)) = _
  congr 2
  by_cases h : a = b <;> simp [h]
section
variable {Q : AHeap}
theorem loop_dMay2 {l : List Ev} {v : AV} (h : Sl 5 (l.map Ev.v) v) (hl : l.length ≤ 900000) {b : Int} : ∀ (k i : Nat) (n : Int), i + k = l.length → 1 ≤ n → Chain n (l.drop i) b →
    L_pleachref13_MayLog_2 P1 v (.int .i64 n) (.int .i64 i) Q = X_pleachref13_MayLog_2_x0 Q := by
  intro k
  induction k with
  | zero =>
    intro i n hi hn hc
    have c : ¬ ((i : Int) < l.length) := by omega
    rw [L_pleachref13_MayLog_2_eq, p_pleachref13_MayLog_2]
    simp [h.len, c]
  | succ k ih =>
    intro i n hi hn hc
    have c : ((i : Int) < l.length) = True := eq_true (by omega)
    have e := h.get (k := .i64) (getD_at (l := l) (k := i) (by omega))
    have w := w64 (i := (i : Int) + 1) (by omega) (by omega)
    rw [evD (by omega)] at hc
    generalize l.getD i default = x at *
    obtain ⟨kd, lo, hi', tx, wy⟩ := x
    obtain ⟨ok, hlo, hc⟩ := hc
    obtain ⟨o1, o2, o3⟩ := ok
    simp only at hlo hc o1 o2 o3
    subst hlo
    rw [EvV] at e
    simp only at e
    have ih := ih (i + 1) (hi' + 1) (by omega) (by omega) hc
    have w2 := w64 (i := hi' + 1) (by omega) (by omega)
    have c1 : (hi' < lo) = False := eq_false (by omega)
    have c2 : (1000000 < hi') = False := eq_false (by omega)
    rw [L_pleachref13_MayLog_2_eq, p_pleachref13_MayLog_2]
    rcases o3 with ⟨rfl, rfl, h3, rfl⟩ | ⟨rfl, rfl, h3⟩
    · have h3' : ((12 : Int) < tx.length) = False := eq_false (by omega)
      simp [h.len, c, e, c2, h3', p_pleachref13_MayLog_0, p_pleachref13_MayLog_1, w, w2]
      simpa [L_pleachref13_MayLog_2_fold] using ih
    · rcases h3 with rfl | rfl
      · simp [h.len, c, e, c1, c2, p_pleachref13_MayLog_0, p_pleachref13_MayLog_1, w, w2]
        simpa [L_pleachref13_MayLog_2_fold] using ih
      · simp [h.len, c, e, c1, c2, p_pleachref13_MayLog_0, p_pleachref13_MayLog_1, w, w2]
        simpa [L_pleachref13_MayLog_2_fold] using ih
theorem d_May {l : List Ev} {v : AV} (h : Sl 5 (l.map Ev.v) v) (hl : l.length ≤ 900000) {a b : Int} (ha : 1 ≤ a) (hc : Chain a l b) : callP (penv P1) 31 [v, .int .i64 a] Q = some (.bool true, Q) := by
  have lp := loop_dMay2 (Q := Q) h hl l.length 0 a (by omega) ha hc
  rw [f_pleachref13_MayLog rfl]
  have c : (a < 1) = False := eq_false (by omega)
  rw [show ((0 : Nat) : Int) = 0 from rfl] at lp
  simp [c, lp, L_pleachref13_MayLog_2_fold, p_pleachref13_MayLog_3]
theorem d_Next {l : List Ev} {v : AV} (h : Sl 5 (l.map Ev.v) v) (hl : l.length ≤ 900000) {a b : Int} (ha : 1 ≤ a) (hb : b ≤ 2000000) (hc : Chain a l b) (hne : l ≠ []) (n : Int) : callP (penv P1) 32 [v, .int .i64 n] Q = some (.int .i64 b, Q) := by
  have hp : 0 < l.length := List.length_pos_iff.2 hne
  have e0 : l[l.length - 1]? = some (l.getD (l.length - 1) default) := getD_at (by omega)
  have hlast := hc.last (l.getD (l.length - 1) default) (by rw [List.getLast?_eq_getElem?]; exact e0)
  have e := h.get (k := .i64) e0
  generalize l.getD (l.length - 1) default = x at *
  have le := hc.le
  have c : ((l.length : Int) = 0) = False := eq_false (by omega)
  have w := w64 (i := (l.length : Int) - 1) (by omega) (by omega)
  have w2 := w64 (i := b) (by omega) (by omega)
  rw [show ((l.length - 1 : Nat) : Int) = (l.length : Int) - 1 by omega, EvV] at e
  rw [f_pleachref13_NextLog rfl]
  simp [h.len, c, hne, w, e, w2, hlast]
theorem loop_K0 {G : List Ev} (hG : G.length ≤ 900000) {t6 t8 t11 t13 a0 a1 a2 a3 a4 a5 a6 b0 b1 b2 b3 b5 b6 : AV} (n : Int) (tx : List UInt8) : ∀ (m i : Nat) (b : Bool), i + m = G.length →
    L_pleachlaw17_NakKept_0 P1 t6 t8 (.int .i64 n) (.str tx) t11 (.bool b) t13 (.int .i64 i) a0 a1 a2 a3 a4 a5 a6 b0 b1 b2 b3 (evs G) b5 b6 Q =
      X_pleachlaw17_NakKept_0_x2 t6 t8 (.int .i64 n) t11 (.bool (b || (G.drop i).any fun e => decide (e.kind = 1 ∧ e.lo = n ∧ e.text = tx))) t13 a0 a1 a2 a3 a4 a5 a6 b0 b1 b2 b3 (evs G) b5 b6 Q := by
  intro m
  induction m with
  | zero =>
    intro i b hi
    obtain rfl : i = G.length := by omega
    rw [List.drop_length, L_pleachlaw17_NakKept_0_eq, p_pleachlaw17_NakKept_0]
    simp
  | succ m ih =>
    intro i b hi
    have c : ((i : Int) < G.length) = True := eq_true (by omega)
    have e := elQ_at (z := 5) (f := Ev.v) (k := .i64) (getD_at (l := G) (k := i) (by omega))
    have w := w64 (i := (i : Int) + 1) (by omega) (by omega)
    rw [evD (by omega)]
    generalize G.getD i default = x at *
    rw [EvV] at e
    rw [List.any_cons, ← Bool.or_assoc]
    have ih := ih (i + 1) (b || decide (x.kind = 1 ∧ x.lo = n ∧ x.text = tx)) (by omega)
    rw [← ih, L_pleachlaw17_NakKept_0_eq, p_pleachlaw17_NakKept_0]
    cases b with
    | true => simp [c, e, w, L_pleachlaw17_NakKept_0_fold]
    | false =>
      by_cases c1 : x.kind = 1
      · by_cases c2 : x.lo = n
        · by_cases c3 : x.text = tx
          · simp [c, e, w, c1, c2, c3, L_pleachlaw17_NakKept_0_fold]
          · simp [c, e, w, c1, c2, c3, L_pleachlaw17_NakKept_0_fold]
        · simp [c, e, w, c1, c2, L_pleachlaw17_NakKept_0_fold]
      · simp [c, e, w, c1, L_pleachlaw17_NakKept_0_fold]
theorem loop_K3 {f g : Fed} {r w l : AV} (hs : Sls f r w l) (hw : f.win.length ≤ 800000) (hl0 : f.log.length ≤ 800000) (hG : g.log.length ≤ 800000) {hi : Int} {o : List Sp} (ho : o.length ≤ 800000) (hn2 : g.next ≤ 2000000)
    (hK : ∀ n, f.next ≤ n → n < g.next → (there f.win n = true ∧ ((g.log.drop f.log.length).any fun e => decide (e.kind = 1 ∧ e.lo = n ∧ e.text = getR f.win n)) = true ∧ Go.Span.has o n = false) ∨
      (there f.win n = false ∧ ((g.log.drop f.log.length).any fun e => decide (e.kind = 1 ∧ e.lo = n ∧ e.text = getR f.win n)) = false ∧ Go.Span.has o n = true ∧ n ≤ hi))
    (hle : f.log.length ≤ g.log.length) : ∀ (m : Nat) (n : Int), n + m = g.next → f.next ≤ n → -1000000 ≤ n →
    L_pleachlaw17_NakKept_3 P1 (.int .i64 hi) (.fz 2 (o.map Sp.v)) (.int .i64 n) (.int .i64 f.next) (.int .i64 f.top) r w l (.int .i64 f.tries) (.int .i64 f.due) (.int .i64 g.next) (.int .i64 g.top) (its g.ring) (its g.win) (evs g.log) (.int .i64 g.tries) (.int .i64 g.due) Q =
      X_pleachlaw17_NakKept_3_x0 (.int .i64 g.next) (.int .i64 g.top) (its g.ring) (its g.win) (evs g.log) (.int .i64 g.tries) (.int .i64 g.due) Q := by
  intro m
  induction m with
  | zero =>
    intro n hn h1 h2
    have c : ¬ n < g.next := by omega
    rw [L_pleachlaw17_NakKept_3_eq, p_pleachlaw17_NakKept_3]
    simp [c]
  | succ m ih =>
    intro n hn h1 h2
    have c : (n < g.next) = True := eq_true (by omega)
    have w1 := w64 (i := n + 1) (by omega) (by omega)
    have cg := fun (Q : AHeap) => d_Get (Q := Q) hs.w (by omega) n
    have ch := fun (Q : AHeap) => d_Has (Q := Q) (Sl.fz 2 (o.map Sp.v)) (by omega) n
    have hll := hs.l.len
    simp only [List.length_map] at hll
    have ih := ih (n + 1) (by omega) (by omega) (by omega)
    rw [L_pleachlaw17_NakKept_3_eq, p_pleachlaw17_NakKept_3]
    have l0 := fun (Q : AHeap) (t11 t13 : AV) => loop_K0 (Q := Q) (by omega) (t6 := .int .i64 hi) (t8 := .fz 2 (o.map Sp.v)) (t11 := t11) (t13 := t13) (a0 := .int .i64 f.next) (a1 := .int .i64 f.top) (a2 := r) (a3 := w) (a4 := l) (a5 := .int .i64 f.tries) (a6 := .int .i64 f.due) (b0 := .int .i64 g.next) (b1 := .int .i64 g.top) (b2 := its g.ring) (b3 := its g.win) (G := g.log) (b5 := .int .i64 g.tries) (b6 := .int .i64 g.due) n (getR f.win n) (g.log.length - f.log.length) f.log.length false (by omega)
    simp only [Bool.false_or] at l0
    rcases hK n h1 (by omega) with ⟨k1, k2, k3⟩ | ⟨k1, k2, k3, k4⟩
    · rw [k1] at cg
      rw [k2] at l0
      rw [k3] at ch
      simp [c, cg, ch, hll, L_pleachlaw17_NakKept_0_fold, l0, p_pleachlaw17_NakKept_1, p_pleachlaw17_NakKept_2, w1]
      simpa [L_pleachlaw17_NakKept_3_fold] using ih
    · rw [k1] at cg
      rw [k2] at l0
      rw [k3] at ch
      have k4' : (hi < n) = False := eq_false (by omega)
      simp [c, cg, ch, hll, L_pleachlaw17_NakKept_0_fold, l0, p_pleachlaw17_NakKept_1, p_pleachlaw17_NakKept_2, w1, k4']
      simpa [L_pleachlaw17_NakKept_3_fold] using ih
theorem kept_true {L : List Int} (rL : Bs L) {a : Int} (ha : 0 ≤ a ∧ a ≤ 255) : ∃ Q', callP (penv P1) 4 [.fz 1 (L.map (AV.int .u8)), .int .u8 a] Q = some (.bool true, Q') := by
  have hb0 : ∀ Q, callP (penv P1) 14 [] Q = some (.bool true, Q) := fun Q => (callP_spec (E := penv P1) (f := 14) (g := gYes) rfl [] Q).trans (by simp [gYes])
  rw [f_pleachlaw17_NakKept rfl]
  by_cases hA : 60 < L.length
  · have hA' : (60 : Int) < L.length := by omega
    exact ⟨Q, by simp [hb0, hA']⟩
  have hA' : ¬ (60 : Int) < L.length := by omega
  obtain ⟨Q1, em, hp, _⟩ := c_Made (l := L) Q
  obtain ⟨x, f, r, w, l, Q2, hx, hm, hl, hs, _, _, ef⟩ := c_FeedL (p := Q.size) (by omega) rL hp
  refine ⟨Q2, ?_⟩
  have n1 := hm.on.n1
  have ln := hl.n
  have bd := hm.dd.bd
  have bl := bd.l
  have bw := bd.r
  have m1 := tmodE (a := a) (b := 12) ha.1
  have w1 := wrapU8 (i := a % 12) (by omega) (by omega)
  have v1 := w64 (i := a % 12) (by omega) (by omega)
  have v2 := w64 (i := f.next + a % 12) (by omega) (by omega)
  have v3 := w64 (i := f.next + a % 12 - 2) (by omega) (by omega)
  have v4 := w64 (i := f.next + a % 12 - 2 + 1) (by omega) (by omega)
  have hh : f.next + a % 12 - 2 ≤ 1000 := by omega
  have hh0 : -10 ≤ f.next + a % 12 - 2 := by omega
  generalize hH : f.next + a % 12 - 2 = hi at *
  have cs := fun (Q : AHeap) => c_Skips (Q := Q) (bd.weaken (by omega)) hs hi 1
  obtain ⟨D, sk⟩ := skips_sk hm.dd.inv (hi := hi) 1 n1 (by omega)
  have past := skips_past hm.dd.inv (why := 1) n1 (show hi ≤ 1000000 by omega)
  have on2 := hm.on.skips hm.wo hi (why := 1) (Or.inl rfl)
  have bd2 := Bd.skips (k := 400000) (f := f) (bd.weaken (by omega)) hi 1
  have lim2 := (hl.mono (show (100 : Int) ≤ 1000 by omega)).skips hm.dd.inv n1 (hi := hi) 1 (by omega)
  have ol := skips_len (k := 400000) (f := f) (bd.weaken (by omega)) hi 1
  generalize Go.Feed.skips f hi 1 = S at *
  obtain ⟨g, o⟩ := S
  simp only at cs sk past on2 bd2 lim2 ol
  have bl2 := bd2.l
  have nx := sk.nx
  have lg := sk.log
  have hle : f.log.length ≤ g.log.length := by rw [lg]; simp
  have hD : g.log.drop f.log.length = D := by rw [lg]; simp
  have ht : g.log.take f.log.length = f.log := by rw [lg]; simp
  have hK : ∀ n, f.next ≤ n → n < g.next → (there f.win n = true ∧ ((g.log.drop f.log.length).any fun e => decide (e.kind = 1 ∧ e.lo = n ∧ e.text = getR f.win n)) = true ∧ Go.Span.has o n = false) ∨
      (there f.win n = false ∧ ((g.log.drop f.log.length).any fun e => decide (e.kind = 1 ∧ e.lo = n ∧ e.text = getR f.win n)) = false ∧ Go.Span.has o n = true ∧ n ≤ hi) := by
    intro n h1 h2
    rw [hD]
    cases hc : there f.win n with
    | true =>
      obtain ⟨x, hx, rfl⟩ := (there_iff' f.win n).1 hc
      refine Or.inl ⟨rfl, List.any_eq_true.2 ⟨told x, sk.d2 x hx h2, ?_⟩, ?_⟩
      · rw [getR_win hm.dd.inv.so hx]; simp [told]
      · rw [Bool.eq_false_iff]; intro hh; exact (((sk.o1 _).1 hh).2.2 x hx) rfl
    | false =>
      have nx' : ∀ x ∈ f.win, x.seq ≠ n := fun x hx e => by
        have := (there_iff' f.win n).2 ⟨x, hx, e⟩
        rw [this] at hc; cases hc
      have ho := (sk.o1 n).2 ⟨h1, h2, nx'⟩
      refine Or.inr ⟨rfl, ?_, ho, sk.le n ho⟩
      rw [Bool.eq_false_iff]; intro hh
      obtain ⟨e, he, hd⟩ := List.any_eq_true.1 hh
      simp only [decide_eq_true_eq] at hd
      obtain ⟨x, hx, rfl, _⟩ := sk.d1 e he hd.1
      exact nx' x hx hd.2.1
  have lp := fun (Q : AHeap) => loop_K3 (Q := Q) (g := g) (hi := hi) (o := o) hs (by omega) (by omega) (by omega) ol (by have := lim2.n; omega) hK hle (g.next - f.next).toNat f.next (by omega) (by omega) (by omega)
  have c1 : (g.next < max f.next (hi + 1)) = False := eq_false (by omega)
  have hll := hs.l.len
  simp only [List.length_map] at hll
  have c2 : ((g.log.length : Int) < (f.log.length : Int)) = False := eq_false (by omega)
  have b : (0 ≤ (f.log.length : Int) ∧ (f.log.length : Int) ≤ (g.log.length : Int)) = True := eq_true (by omega)
  have sl : slcQ 5 (evs g.log) none (some (.int .i64 (f.log.length : Int))) = some (evs f.log) := by
    rw [evs, slcQ_fz (by omega)]
    simp only [bndo_none, bndo_int, List.length_map, b, if_true, Int.toNat_natCast, List.drop_zero]
    rw [← List.map_take, ht]
  have se := fun (Q : AHeap) => d_SameE (Q := Q) (Sl.fz 5 (f.log.map Ev.v)) hs.l (by omega)
  have lim := lim2.n
  simp only [Fed.v, Fed.z, its, evs] at ef cs lp sl se
  by_cases hz : g.log = []
  · have z1 : f.log = [] := by rw [lg] at hz; exact (List.append_eq_nil_iff.1 hz).1
    rw [hz, z1] at sl
    rw [hz] at cs lp
    rw [z1] at se hll
    simp only [List.map_nil, List.length_nil, show ((0 : Nat) : Int) = 0 from rfl] at sl cs lp se hll
    simp [hb0, hA', em, ef, hs.r.one, hs.w.one, hs.l.one, m1, w1, v1, v2, hH, v3, cs, v4, c1, hll, sl, se, L_pleachlaw17_NakKept_3_fold, lp, p_pleachlaw17_NakKept_4]
  · obtain ⟨y, G, hy⟩ := List.exists_cons_of_ne_nil hz
    have ch := on2.ch
    have hlo : y.lo = x := by rw [hy] at ch; exact ch.2.1
    have dm := fun (Q : AHeap) => d_May (Q := Q) (Sl.fz 5 (g.log.map Ev.v)) (by omega) on2.a1 ch
    have dn := fun (Q : AHeap) => d_Next (Q := Q) (Sl.fz 5 (g.log.map Ev.v)) (by omega) on2.a1 (by omega) ch hz 1
    have e0 : elQ 5 (.fz 5 (g.log.map Ev.v)) (.int .i64 0) = some (Ev.v y) := by rw [hy, elQ_0]; rfl
    rw [EvV, hlo] at e0
    have gl : ((g.log.length : Int) = 0) = False := eq_false (by have := List.length_pos_iff.2 hz; omega)
    simp [hb0, hA', em, ef, hs.r.one, hs.w.one, hs.l.one, m1, w1, v1, v2, hH, v3, cs, v4, c1, c2, hll, sl, se, L_pleachlaw17_NakKept_3_fold, lp, p_pleachlaw17_NakKept_4, gl, hz, e0, dm, dn]
end
end Go.Proofs.Ytccgolmdhikdoaa.Pn
