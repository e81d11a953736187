/- What the laws of nak lean on: the natives' rules. -/
import Derived.Test.YtccgolmdhikdoaaPcFeed
set_option linter.unusedVariables false
set_option linter.unusedSimpArgs false
namespace Go.Proofs.Ytccgolmdhikdoaa.Pn
open Go.Ab
set_option maxRecDepth 100000
theorem begun_runs : tellsTrue ((frun (env []) 100000).1 14 [] AHeap.empty) = true := by kernel_rfl
def S1 : Specs := [(14, gTrue)]
theorem ok_S1 : SpecsOk S1 := ok_cons (closedOk begun_runs) ok_nil
theorem pe1 : PEnvOk (env S1) (penv P1) := by
  refine penvOk (by decide) fun q hq => ?_
  simp only [P1, List.mem_cons, List.not_mem_nil, or_false] at hq
  rcases hq with rfl | rfl | rfl
  · exact yes_ok (by decide) rfl
  · exact clone_slices_Clone_api_Event_api_Event rfl
  · exact clone_slices_Clone_api_Item_api_Item rfl
end Go.Proofs.Ytccgolmdhikdoaa.Pn
/- Numbers from which choices are read. -/
set_option linter.unusedVariables false
set_option linter.unusedSimpArgs false
namespace Go.Proofs.Ytccgolmdhikdoaa.Pn
open Go.Ab Go.Feed
set_option maxRecDepth 100000
def Pk (Q : AHeap) (r : Nat) (l : List Int) : Prop := ∃ n : Nat, n ≤ l.length ∧ Q.get r = some (.cells .exact 2 [.fz 1 (l.map (AV.int .u8)), .int .i64 n])
def Oth (r : Nat) (Q Q' : AHeap) : Prop := Q'.size = Q.size ∧ ∀ s, s ≠ r → Q'.get s = Q.get s
theorem Oth.refl (r : Nat) (Q : AHeap) : Oth r Q Q := ⟨rfl, fun _ _ => rfl⟩
theorem Oth.trans {r : Nat} {Q Q1 Q2 : AHeap} (a : Oth r Q Q1) (b : Oth r Q1 Q2) : Oth r Q Q2 := ⟨b.1.trans a.1, fun s hs => (b.2 s hs).trans (a.2 s hs)⟩
def Bs (l : List Int) : Prop := ∀ n ∈ l, 0 ≤ n ∧ n ≤ 255
@[simp] theorem rcv_ptr (b : Bool) (r o : Nat) : rcv b .n (.ptr r o) = some (.ptr r o) := (Eq.refl _).trans (Eq.refl _)
section
variable {Q : AHeap} {r : Nat} {l : List Int}
theorem ld_2 {k : Kd} {z : Nat} {a b : AV} (h : Q.get r = some (.cells k z [a, b])) : ldQ Q (.ptr r 0) = some a ∧ ldQ Q (.ptr r 1) = some b := by
  simp [ldQ, ldA, AHeap.cell, h]
theorem ow_2 {z : Nat} {a b : AV} {x : Int} (h : Q.get r = some (.cells .exact z [a, b])) : objWrite (Q.get r) 1 [.int .i64 x] = some (.cells .exact z [a, .int .i64 x]) := by
  rw [h]; simp [objWrite, splice, AV.one]
theorem c_Num (h : Pk Q r l) (hl : l.length ≤ 1000) (rl : Bs l) {m : Int} (hm : 1 ≤ m ∧ m ≤ 1000) :
    ∃ (v : Int) (Q' : AHeap), callP (penv P1) 56 [.ptr r 0, .int .i64 m] Q = some (.int .i64 v, Q') ∧ (0 ≤ v ∧ v < m) ∧ Pk Q' r l ∧ Oth r Q Q' := by
  obtain ⟨n, hn, hg⟩ := h
  obtain ⟨l0, l1⟩ := ld_2 hg
  by_cases c : n = l.length
  · refine ⟨0, Q, ?_, by omega, ⟨n, hn, hg⟩, Oth.refl r Q⟩
    rw [f_pleachmade_Picks_Num rfl]
    simp [nckQ, nckA, fadQ, fadA, l0, l1, c]
  · have hlt : n < l.length := by omega
    have c' : ((l.length : Int) ≤ n) = False := eq_false (by omega)
    have w := w64 (i := (n : Int) + 1) (by omega) (by omega)
    have st := ow_2 (x := (n : Int) + 1) hg
    have hg2 : (Q.put r (some (.cells .exact 2 [.fz 1 (l.map (AV.int .u8)), .int .i64 ((n : Int) + 1)]))).get r = some (.cells .exact 2 [.fz 1 (l.map (AV.int .u8)), .int .i64 ((n : Int) + 1)]) := put_get _ _ _
    obtain ⟨l2, l3⟩ := ld_2 hg2
    have e := elQ_ints (k := .u8) (kk := .i64) (l := l) (i := (n : Int)) (by omega) (by omega)
    have hv : 0 ≤ l.getD n 0 ∧ l.getD n 0 ≤ 255 := by
      rw [List.getD_eq_getElem?_getD, List.getElem?_eq_getElem hlt]; exact rl _ (List.getElem_mem _)
    simp only [Int.toNat_natCast] at e
    have m1 : ((m : Int) < 1) = False := eq_false (by omega)
    have m0 : ¬ m = 0 := by omega
    have w1 := w64 (i := l.getD n 0) (by omega) (by omega)
    have w2 := w64 (i := (n : Int) + 1 - 1) (by omega) (by omega)
    rw [Int.add_sub_cancel] at w2
    have tm : (l.getD n 0).tmod m = l.getD n 0 % m := Int.tmod_eq_emod_of_nonneg hv.1
    have r0 := Int.emod_nonneg (l.getD n 0) m0
    have r1 := Int.emod_lt_of_pos (l.getD n 0) (show 0 < m by omega)
    have w3 := w64 (i := l.getD n 0 % m) (by omega) (by omega)
    refine ⟨l.getD n 0 % m, _, ?_, ⟨r0, r1⟩, ⟨n + 1, hlt, hg2⟩, ⟨by simp, fun s hs => put_ne Q _ hs⟩⟩
    generalize l.getD n 0 = x at *
    rw [f_pleachmade_Picks_Num rfl]
    simp [nckQ, nckA, fadQ, fadA, l0, l1, l2, l3, c', w, st, m1, m0, w1, w2, tm, w3, e, Int.add_sub_cancel]
theorem c_Over (h : Pk Q r l) (hl : l.length ≤ 1000) : ∃ b, callP (penv P1) 57 [.ptr r 0] Q = some (.bool b, Q) := by
  obtain ⟨n, hn, hg⟩ := h
  obtain ⟨l0, l1⟩ := ld_2 hg
  refine ⟨decide ((l.length : Int) ≤ n), ?_⟩
  rw [f_pleachmade_Picks_Over rfl]
  simp [nckQ, nckA, fadQ, fadA, l0, l1]
theorem c_Made {l : List Int} (Q : AHeap) : ∃ Q', callP (penv P1) 15 [.fz 1 (l.map (AV.int .u8))] Q = some (.ptr Q.size 0, Q') ∧ Pk Q' Q.size l ∧ Q'.size = Q.size + 1 ∧ ∀ s, s ≠ Q.size → Q'.get s = Q.get s := by
  refine ⟨Q.push (some (.cells .exact 2 [.fz 1 (l.map (AV.int .u8)), .int .i64 0])), ?_, ⟨0, Nat.zero_le _, by rw [AHeap.get_push]; simp⟩, by simp, fun s hs => by rw [AHeap.get_push, if_neg hs]⟩
  rw [f_pleachmade_Made rfl]
  simp [newcA, AV.cells, AV.one]
theorem c_Text (h : Pk Q r l) (hl : l.length ≤ 1000) (rl : Bs l) : ∃ (t : List UInt8) (Q' : AHeap), callP (penv P1) 60 [.ptr r 0] Q = some (.str t, Q') ∧ t.length ≤ 12 ∧ Pk Q' r l ∧ Oth r Q Q' := by
  obtain ⟨v, Q', e, hv, hp, ho⟩ := c_Num h hl rl (m := 5) (by omega)
  have key : ∀ (v : Int) (t : List UInt8), t.length ≤ 12 → elQ 1 (.fz 1 [.str [], .str [97], .str [98, 99], .str [104, 101, 108, 108, 111], .str [116, 119, 101, 108, 118, 101, 32, 98, 121, 116, 101, 115]]) (.int .i64 v) = some (.str t) → callP (penv P1) 56 [.ptr r 0, .int .i64 5] Q = some (.int .i64 v, Q') →
      ∃ (t : List UInt8) (Q' : AHeap), callP (penv P1) 60 [.ptr r 0] Q = some (.str t, Q') ∧ t.length ≤ 12 ∧ Pk Q' r l ∧ Oth r Q Q' := fun v t ht he e => by
    refine ⟨t, Q', ?_, ht, hp, ho⟩
    rw [f_pleachmade_Picks_Text rfl]
    simp [e, he]
  have c : v = 0 ∨ v = 1 ∨ v = 2 ∨ v = 3 ∨ v = 4 := by omega
  rcases c with rfl | rfl | rfl | rfl | rfl
  · exact key 0 [] (by decide) rfl e
  · exact key 1 [97] (by decide) rfl e
  · exact key 2 [98, 99] (by decide) rfl e
  · exact key 3 [104, 101, 108, 108, 111] (by decide) rfl e
  · exact key 4 [116, 119, 101, 108, 118, 101, 32, 98, 121, 116, 101, 115] (by decide) rfl e
end
end Go.Proofs.Ytccgolmdhikdoaa.Pn
/- What the functions of feed come to. -/
set_option linter.unusedVariables false
set_option linter.unusedSimpArgs false
namespace Go.Proofs.Ytccgolmdhikdoaa.Pn
open Go.Ab Go.Feed
set_option maxRecDepth 100000
section
variable {Q : AHeap}
end
end Go.Proofs.Ytccgolmdhikdoaa.Pn
