/- The law NakServes: the walk. -/
import Derived.Test.YtccgolmdhikdoaaPcServ
import Derived.Test.YtccgolmdhikdoaaPcFeed2
set_option linter.unusedVariables false
set_option linter.unusedSimpArgs false
namespace Go.Proofs.Ytccgolmdhikdoaa.Pn
open Go.Ab Go.Feed
set_option maxRecDepth 100000
theorem wrapU8 {i : Int} (h : 0 ≤ i) (h2 : i ≤ 255) : IntKind.u8.wrap i = i := by
  have : IntKind.u8.wrap i = i % 256 := rfl
  rw [this]; omega
theorem tmodE {a b : Int} (h : 0 ≤ a) : a.tmod b = a % b := Int.tmod_eq_emod_of_nonneg h
@[simp] theorem binA_neqS (a b : List UInt8) : binA .neq (.str a) (.str b) = some (.bool (!decide (a = b))) := by
  show some (AV.bool (!(a == b))) = _
  congr 3
  by_cases h : a = b <;> simp [h]
section
variable {Q : AHeap}
end
end Go.Proofs.Ytccgolmdhikdoaa.Pn
/- The law NakAll: the walk. -/
set_option linter.unusedVariables false
set_option linter.unusedSimpArgs false
namespace Go.Proofs.Ytccgolmdhikdoaa.Pn
open Go.Ab Go.Feed
set_option maxRecDepth 100000
section
variable {Q : AHeap}
theorem skipsN_len {hi why : Int} : ∀ (n : Nat) (f : Fed) (out : List Sp) (g : Fed) (o : List Sp), skipsN n f hi why out = some (g, o) → o.length ≤ out.length + n := by
  intro n
  induction n with
  | zero => intro f out g o h; cases h
  | succ n ih =>
    intro f out g o h
    unfold skipsN at h
    by_cases c : f.next ≤ hi
    · rw [if_pos c] at h
      simp only at h
      generalize fahead f hi = a at *
      have b1 : ∃ f1 o1, (if f.next ≤ a.1 then skip1 f a.1 why else f) = f1 ∧ (if f.next ≤ a.1 then out ++ [(f.next, a.1)] else out) = o1 ∧ o1.length ≤ out.length + 1 := by
        by_cases c1 : f.next ≤ a.1
        · exact ⟨_, _, rfl, rfl, by rw [if_pos c1]; simp⟩
        · exact ⟨_, _, rfl, rfl, by rw [if_neg c1]; omega⟩
      obtain ⟨f1, o1, e1, e2, b1⟩ := b1
      rw [e1, e2] at h
      split at h
      · split at h
        · simp only [Option.some.injEq, Prod.mk.injEq] at h
          obtain ⟨rfl, rfl⟩ := h
          omega
        · have := ih _ _ g o h
          omega
      · simp only [Option.some.injEq, Prod.mk.injEq] at h
        obtain ⟨rfl, rfl⟩ := h
        omega
    · rw [if_neg c] at h
      simp only [Option.some.injEq, Prod.mk.injEq] at h
      obtain ⟨rfl, rfl⟩ := h
      omega
theorem skips_len {f : Fed} {k : Nat} (h : Bd f (k + 1)) (hi why : Int) : (skips f hi why).2.length ≤ 800000 := by
  unfold skips
  split
  · simp
  · split
    · rename_i g o e
      have := skipsN_len _ _ _ _ _ e
      have := h.l
      simp at *; omega
    · simp
theorem loop_NA {f : Fed} {r w l : AV} {a : Int} (hs : Sls f r w l) (hm : Md a 500000 f) {why : Int} {t4 : AV} {A B : List Int} (hA : A.length = 2) (hB : B.length = 2) (rA : ∀ n ∈ A, 1 ≤ n) : ∀ (m i : Nat), i + m = 2 →
    L_pleachlaw17_NakAll_2 P1 (.int .i64 why) t4 (.fz 1 (A.map (AV.int .i64))) (.fz 1 (B.map (AV.int .i64))) (.int .i64 i) (.int .i64 f.next) (.int .i64 f.top) r w l (.int .i64 f.tries) (.int .i64 f.due) Q =
      X_pleachlaw17_NakAll_2_x0 t4 (.int .i64 f.next) (.int .i64 f.top) r w l (.int .i64 f.tries) (.int .i64 f.due) Q := by
  intro m
  induction m with
  | zero =>
    intro i hi
    obtain rfl : i = 2 := by omega
    rw [L_pleachlaw17_NakAll_2_eq, p_pleachlaw17_NakAll_2]
    simp
  | succ m ih =>
    intro i hi
    have c : ((i : Int) < 2) = True := eq_true (by omega)
    have e1 := elQ_ints (k := .i64) (kk := .i64) (l := A) (i := (i : Int)) (by omega) (by omega)
    have e2 := elQ_ints (k := .i64) (kk := .i64) (l := B) (i := (i : Int)) (by omega) (by omega)
    simp only [Int.toNat_natCast] at e1 e2
    have w1 := w64 (i := (i : Int) + 1) (by omega) (by omega)
    have hlo : 1 ≤ A.getD i 0 := by
      rw [List.getD_eq_getElem?_getD, List.getElem?_eq_getElem (by omega)]; exact rA _ (List.getElem_mem _)
    have ih := ih (i + 1) (by omega)
    generalize A.getD i 0 = lo at *
    generalize B.getD i 0 = hi' at *
    have bd := hm.dd.bd
    have s1 := fun (Q : AHeap) => c_Skips (Q := Q) (bd.weaken (by omega)) hs hi' why
    obtain ⟨r2, w2, l2, hs2, s2⟩ := d_Skips (bd.weaken (by omega)) hm.dd.inv hs hi' why
    have s3 := fun (Q : AHeap) => d_SameF (Q := Q) (sls_z (skips f hi' why).1) hs2 ((Bd.skips (k := 400000) (bd.weaken (by omega)) hi' why))
    have s4 := fun (Q : AHeap) => d_SameS (Q := Q) (Sl.fz 2 ((skips f hi' why).2.map Sp.v)) (Sl.fz 2 ((skips f hi' why).2.map Sp.v)) (by have := skips_len (k := 400000) (bd.weaken (by omega)) hi' why; omega)
    generalize skips f hi' why = S at *
    simp only [Fed.v, Fed.z, its, evs] at s1 s2 s3 s4
    rw [L_pleachlaw17_NakAll_2_eq, p_pleachlaw17_NakAll_2]
    by_cases c1 : lo < 1099511627776
    · have v1 := fun (Q : AHeap) => c_Serves (Q := Q) hs hm.on.rg hm.on.n1 hm.dd.n1 (lo := lo) (hi := hi') (by omega)
      have v2 := fun (Q : AHeap) => d_Serves (Q := Q) hs hm.on.rg hm.on.n1 hm.dd.n1 (lo := lo) (hi := hi') (by omega)
      have l1 := servI_len f.ring 8 lo (min hi' (f.next - 1))
      have l2 := servN_len f.ring 8 lo (min hi' (f.next - 1)) [] Go.Span.Gd.nil hlo (by have := hm.dd.n1; omega)
      simp only [List.length_nil, Nat.zero_add] at l2
      have v3 := fun (Q : AHeap) => d_SameI (Q := Q) (Sl.fz 2 ((servI f.ring 8 lo (min hi' (f.next - 1))).map It.v)) (Sl.fz 2 ((servI f.ring 8 lo (min hi' (f.next - 1))).map It.v)) (by omega)
      have v4 := fun (Q : AHeap) => d_SameS (Q := Q) (Sl.fz 2 ((servN f.ring 8 lo (min hi' (f.next - 1)) []).map Sp.v)) (Sl.fz 2 ((servN f.ring 8 lo (min hi' (f.next - 1)) []).map Sp.v)) (by omega)
      generalize servI f.ring 8 lo (min hi' (f.next - 1)) = I at *
      generalize servN f.ring 8 lo (min hi' (f.next - 1)) [] = N at *
      simp only [Fed.v, its] at v1 v2
      simp [c, e1, e2, c1, v1, v2, v3, v4, p_pleachlaw17_NakAll_0, s1, s2, s3, s4, hs2.r.one, hs2.w.one, hs2.l.one, p_pleachlaw17_NakAll_1, w1]
      simpa [L_pleachlaw17_NakAll_2_fold] using ih
    · simp [c, e1, e2, c1, p_pleachlaw17_NakAll_0, s1, s2, s3, s4, hs2.r.one, hs2.w.one, hs2.l.one, p_pleachlaw17_NakAll_1, w1]
      simpa [L_pleachlaw17_NakAll_2_fold] using ih
theorem nall_true {L : List Int} (rL : Bs L) {lo hi why a b : Int} (hlo : -9223372036854775808 ≤ lo ∧ lo ≤ 9223372036854775807) (ha : 0 ≤ a ∧ a ≤ 255) (hb : 0 ≤ b ∧ b ≤ 255) : ∃ Q', callP (penv P1) 3 [.fz 1 (L.map (AV.int .u8)), .int .i64 lo, .int .i64 hi, .int .i64 why, .int .u8 a, .int .u8 b] Q = some (.bool true, Q') := by
  have hb0 : ∀ Q, callP (penv P1) 14 [] Q = some (.bool true, Q) := fun Q => (callP_spec (E := penv P1) (f := 14) (g := gYes) rfl [] Q).trans (by simp [gYes])
  rw [f_pleachlaw17_NakAll rfl]
  by_cases hA : 60 < L.length
  · have hA' : (60 : Int) < L.length := by omega
    exact ⟨Q, by simp [hb0, hA']⟩
  have hA' : ¬ (60 : Int) < L.length := by omega
  obtain ⟨Q1, em, hp, _⟩ := c_Made (l := L) Q
  obtain ⟨x, f, r, w, l, Q2, hx, hm, hs, _, _, ef⟩ := c_Feed (p := Q.size) (by omega) rL hp
  refine ⟨Q2, ?_⟩
  have n1 := hm.on.n1
  have hn := hm.dd.n1
  have bd := hm.dd.bd
  have bl := bd.l
  have rg := hm.dd.inv.rg
  have m1 := tmodE (a := a) (b := 20) ha.1
  have m2 := tmodE (a := b) (b := 30) hb.1
  have m3 := tmodE (a := a) (b := 3) ha.1
  have w1 := wrapU8 (i := a % 20) (by omega) (by omega)
  have w2 := wrapU8 (i := b % 30) (by omega) (by omega)
  have w3 := wrapU8 (i := a % 3) (by omega) (by omega)
  have v1 := w64 (i := a % 20) (by omega) (by omega)
  have v2 := w64 (i := b % 30) (by omega) (by omega)
  have v3 := w64 (i := 1 + a % 20) (by omega) (by omega)
  have v4 := w64 (i := a % 3) (by omega) (by omega)
  have v5 := w64 (i := f.next + 1) (by omega) (by omega)
  have v6 := w64 (i := f.next + 3) (by omega) (by omega)
  have v7 := w64 (i := f.next + 3 + a % 3) (by omega) (by omega)
  have q1 := fun (Q : AHeap) => c_Wants (Q := Q) hs bd.w
  have q2 := fun (Q : AHeap) => d_Wants (Q := Q) hs bd.w
  generalize wants f = W at *
  obtain ⟨⟨wa, wb⟩, wc⟩ := W
  have lp := fun (Q : AHeap) => loop_NA (Q := Q) hs hm (why := why) (t4 := .int .u8 a) (A := [1 + a % 20, max lo 1]) (B := [b % 30, hi]) rfl rfl (fun n hn => by simp at hn; omega) 2 0 rfl
  -- some that have come
  have hg : Bd ({ f with win := [⟨f.next, [97]⟩, ⟨f.next + 1, [98]⟩, ⟨f.next + 3 + a % 3, [99]⟩] } : Fed) 100 := by
    refine ⟨?_, ?_, ?_, ?_, fun x hx => ?_⟩
    · show f.ring.length + 3 ≤ 700000; omega
    · show f.log.length + 2 * 3 + 100 ≤ 700000; omega
    · show -4000000000 ≤ f.next; omega
    · show f.next + 3 ≤ 4000000000; omega
    · simp only [List.mem_cons, List.not_mem_nil, or_false] at hx
      rcases hx with rfl | rfl | rfl <;> simp only <;> omega
  have sg : Sls ({ f with win := [⟨f.next, [97]⟩, ⟨f.next + 1, [98]⟩, ⟨f.next + 3 + a % 3, [99]⟩] } : Fed) r (its [⟨f.next, [97]⟩, ⟨f.next + 1, [98]⟩, ⟨f.next + 3 + a % 3, [99]⟩]) l := ⟨hs.r, Sl.fz 2 _, hs.l⟩
  have g1 := fun (Q : AHeap) => c_Goes (Q := Q) hg sg
  obtain ⟨r2, w2', l2, hs2, g2⟩ := d_Goes hg (by exact rg) sg
  have g3 := fun (Q : AHeap) => d_SameF (Q := Q) (sls_z ({ f with win := [⟨f.next, [97]⟩, ⟨f.next + 1, [98]⟩, ⟨f.next + 3 + a % 3, [99]⟩] } : Fed).tells.1) hs2 hg.tells.1
  have tb := hg.tells.2
  have g4 := fun (Q : AHeap) => d_SameI (Q := Q) (Sl.fz 2 (({ f with win := [⟨f.next, [97]⟩, ⟨f.next + 1, [98]⟩, ⟨f.next + 3 + a % 3, [99]⟩] } : Fed).tells.2.map It.v)) (Sl.fz 2 (({ f with win := [⟨f.next, [97]⟩, ⟨f.next + 1, [98]⟩, ⟨f.next + 3 + a % 3, [99]⟩] } : Fed).tells.2.map It.v)) (by simp at tb; omega)
  simp only [Fed.v, Fed.z, its, evs, List.map_cons, List.map_nil, It_v] at g1 g2 g3 g4
  generalize ({ f with win := [⟨f.next, [97]⟩, ⟨f.next + 1, [98]⟩, ⟨f.next + 3 + a % 3, [99]⟩] } : Fed).tells = G at *
  have k1 := fun (Q : AHeap) => c_Goes (Q := Q) bd hs
  obtain ⟨r3, w3', l3, hs3, k2⟩ := d_Goes bd rg hs
  have k3 := fun (Q : AHeap) => d_SameF (Q := Q) (sls_z f.tells.1) hs3 bd.tells.1
  have tb2 := bd.tells.2
  have k4 := fun (Q : AHeap) => d_SameI (Q := Q) (Sl.fz 2 (f.tells.2.map It.v)) (Sl.fz 2 (f.tells.2.map It.v)) (by omega)
  simp only [Fed.v, Fed.z, its, evs] at k1 k2 k3 k4
  generalize f.tells = K at *
  simp only [Fed.v, Sp_v, List.map_cons, List.map_nil, show ((0 : Nat) : Int) = 0 from rfl] at ef q1 q2 lp
  simp [hb0, hA', em, ef, hs.r.one, hs.w.one, hs.l.one, q1, q2, m1, m2, w1, w2, v1, v2, v3, L_pleachlaw17_NakAll_2_fold, lp, p_pleachlaw17_NakAll_3, v5, v6, m3, w3, v4, v7, g1, g2, g3, g4, k1, k2, k3, k4, hs2.r.one, hs2.w.one, hs2.l.one, hs3.r.one, hs3.w.one, hs3.l.one]
end
end Go.Proofs.Ytccgolmdhikdoaa.Pn
/- The law NakAll. -/
set_option linter.unusedVariables false
set_option linter.unusedSimpArgs false
namespace Go.Proofs.Ytccgolmdhikdoaa.Pn
open Go.Ab
set_option maxRecDepth 100000
theorem law_NakAll {H : AHeap} (v : AV) (A : List Int) (hA : rdI .u8 H v = some A) (hl : A.length ≤ maxLen) (rA : ∀ n ∈ A, IntKind.u8.min ≤ n ∧ n ≤ IntKind.u8.max) (hc : capOk v = true)
    (lo : Int) (hlo : IntKind.i64.min ≤ lo ∧ lo ≤ IntKind.i64.max) (hi : Int) (hhi : IntKind.i64.min ≤ hi ∧ hi ≤ IntKind.i64.max) (why : Int) (hwhy : IntKind.i64.min ≤ why ∧ why ≤ IntKind.i64.max)
    (n : Int) (hn : IntKind.u8.min ≤ n ∧ n ≤ IntKind.u8.max) (m : Int) (hm : IntKind.u8.min ≤ m ∧ m ≤ IntKind.u8.max) :
    EndsV (callV (env S1) 3 [v, .int .i64 lo, .int .i64 hi, .int .i64 why, .int .u8 n, .int .u8 m] H) fun v _ => v = .bool true := by
  refine law_ends pe1 (by decide) (nall_true (L := A) rA hlo hn hm) (RL.cons (RV.ints hA hc) (RL.cons RV.int (RL.cons RV.int (RL.cons RV.int (RL.cons RV.int (RL.cons RV.int RL.nil'))))))
end Go.Proofs.Ytccgolmdhikdoaa.Pn
