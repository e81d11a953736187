/- The laws FeedOrder, FeedResumes: the walks. -/
import Derived.Test.YtmogepinpdibdaaPcFeed2
import Derived.Test.YtmogepinpdibdaaPmFeed2
set_option linter.unusedVariables false
set_option linter.unusedSimpArgs false
namespace Go.Proofs.Ytmogepinpdibdaa.Pf
open Go.Ab Go.Feed
set_option maxRecDepth 100000
def tx (n : Int) : List UInt8 := [UInt8.ofNat (97 + n % 26).toNat, UInt8.ofNat (97 + n / 26 % 26).toNat]
@[simp] theorem b2sQ_2 (a b : Int) : b2sQ (.fz 1 [.int .u8 a, .int .u8 b]) = some (.str [UInt8.ofNat a.toNat, UInt8.ofNat b.toNat]) := (Eq.refl _).trans (Eq.refl _)
theorem wrap_u8 {i : Int} (h : 0 ≤ i) (h2 : i ≤ 255) : IntKind.u8.wrap i = i := by
  have : IntKind.u8.wrap i = i % 256 := rfl
  rw [this]; omega
theorem u8v {A : List Int} (rA : ∀ n ∈ A, 0 ≤ n ∧ n ≤ 255) {i : Nat} (h : i < A.length) : 0 ≤ A.getD i 0 ∧ A.getD i 0 ≤ 255 := by
  rw [List.getD_eq_getElem?_getD, List.getElem?_eq_getElem h]; exact rA _ (List.getElem_mem _)
theorem tmod_e {a b : Int} (h : 0 ≤ a) : a.tmod b = a % b := Int.tmod_eq_emod_of_nonneg h
theorem tdiv_e {a b : Int} (h : 0 ≤ a) : a.tdiv b = a / b := Int.tdiv_eq_ediv_of_nonneg h
section
variable {Q : AHeap}
theorem c_one {n : Int} (h : 0 ≤ n) (h2 : n ≤ 2000000) : callP (penv P1) 31 [.int .i64 n] Q = some (.str (tx n), Q) := by
  rw [f_pleachlaw18_one rfl]
  have m1 := tmod_e (a := n) (b := 26) h
  have d1 := tdiv_e (a := n) (b := 26) h
  have m2 := tmod_e (a := n / 26) (b := 26) (by omega)
  have w1 := w64 (i := n % 26) (by omega) (by omega)
  have w2 := w64 (i := 97 + n % 26) (by omega) (by omega)
  have w3 := wrap_u8 (i := 97 + n % 26) (by omega) (by omega)
  have w4 := w64 (i := n / 26) (by omega) (by omega)
  have w5 := w64 (i := n / 26 % 26) (by omega) (by omega)
  have w6 := w64 (i := 97 + n / 26 % 26) (by omega) (by omega)
  have w7 := wrap_u8 (i := 97 + n / 26 % 26) (by omega) (by omega)
  simp [m1, d1, m2, w1, w2, w3, w4, w5, w6, w7, tx]
theorem Told1_bd {a : Int} {f : Fed} (h : Told1 tx a f) (ha : 1 ≤ a) (ha2 : a ≤ 1000) (hc : f.log.length + f.win.length ≤ 10000) (ht : f.top ≤ 1000000) : Bd f 10 ∧ f.ring.length + f.win.length ≤ 600000 ∧ f.next + f.win.length ≤ 3000000000 := by
  have h1 := h.row.an
  have h2 := h.row.tp
  have h3 := h.row.rl
  exact ⟨⟨by omega, by omega, by omega, by omega, fun x hx => by have := h.gt x hx; have := (h.wt x hx).2; omega⟩, by omega, by omega⟩
theorem Told1_comes {a : Int} {f : Fed} (h : Told1 tx a f) (ha : 1 ≤ a) (ha2 : a ≤ 1000) (hc : f.log.length + f.win.length ≤ 10000) (ht : f.top ≤ 1000000) (i : It) :
    callP (penv P1) 24 [.agg [.int .i64 f.next, .int .i64 f.top, its f.ring, its f.win, evs f.log, .int .i64 f.tries, .int .i64 f.due], .agg [.int .i64 i.seq, .str i.text]] Q = some (Fed.z (f.comes i), Q) := by
  have b := Told1_bd h ha ha2 hc ht
  exact c_Comes (sls_z f) b.1 b.2.1 h.so b.2.2 i
end
def Fed0 : Fed := ⟨0, 0, [], [], [], 0, 0⟩
theorem sls0 : Sls Fed0 .nils .nils .nils := ⟨Sl.nil 2, Sl.nil 2, Sl.nil 5⟩
theorem begin0 {a : Int} (h : 1 ≤ a) (h2 : a ≤ 1000000) : Fed0.begin_ a = { Fed0 with next := a } := by
  unfold Fed.begin_
  rw [if_neg (by decide), if_pos ⟨h, h2⟩]
theorem told0 {a : Int} : Told1 tx a { Fed0 with next := a } :=
  ⟨⟨Int.le_refl _, by show ((0 : Nat) : Int) = a - a; omega, fun k hk => absurd hk (Nat.not_lt_zero _), rfl, (by simp [Fed0]), Or.inl rfl⟩, List.Pairwise.nil, (by simp [Fed0]), (by simp [Fed0])⟩
section
variable {Q : AHeap}
end
end Go.Proofs.Ytmogepinpdibdaa.Pf
