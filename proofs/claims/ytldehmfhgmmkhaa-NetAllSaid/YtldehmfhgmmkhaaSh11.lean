/- Structs and arrays that came in as arguments. -/
import Derived.Test.YtldehmfhgmmkhaaSh10
set_option linter.unusedVariables false
set_option linter.unusedSimpArgs false
set_option linter.unusedSectionVars false
namespace Go.Ab
section
variable {P : Program} {w : World} {r : Reach} {base : Nat}
theorem okWide_flat {t : TypeId} {ts : List TypeId} {v : Value} (hu : (∃ fs, P.underlying t = some (.struct fs)) ∨ ∃ n e, P.underlying t = some (.array n e)) (hts : P.cellTypes P.depth t = some ts) (hc : P.cellsOf t = ts.length)
    (h : Value.okWide P w r base t v) : ∃ cs, v = .agg cs ∧ cs.size = ts.length ∧ ∀ (i : Nat) x, cs[i]? = some x → ∃ u, ts[i]? = some u ∧ Cell.okWide P w r base u x := by
  have h' : ∃ cs, v = .agg cs ∧ cs.size = P.cellsOf t ∧ Row.okWide P w r base t cs := by
    rcases hu with ⟨fs, hu⟩ | ⟨n, e, hu⟩ <;> (simp only [Value.okWide, hu] at h; exact h)
  obtain ⟨cs, rfl, hs, ts', h1, _, h2⟩ := h'
  rw [hts] at h1
  obtain rfl := Option.some.inj h1
  refine ⟨cs, rfl, hs.trans hc, fun i x hx => ?_⟩
  obtain ⟨u, hu, ho⟩ := h2 i x hx
  have hi : i < cs.size := (Array.getElem?_eq_some_iff.1 hx).1
  rw [Nat.mod_eq_of_lt (by omega)] at hu
  exact ⟨u, hu, ho⟩
theorem cell_int {u : TypeId} {k : IntKind} {x : Value} (hu : P.underlying u = some (.int k)) (h : Cell.okWide P w r base u x) : ∃ n, x = .int k n ∧ k.min ≤ n ∧ n ≤ k.max := by
  simp only [Cell.okWide, hu] at h
  cases x <;> simp only [Cell.ok, hu] at h
  rename_i k' n
  obtain ⟨rfl, h1, h2⟩ := h
  exact ⟨n, rfl, h1, h2⟩
theorem cell_str {u : TypeId} {x : Value} (hu : P.underlying u = some .string) (h : Cell.okWide P w r base u x) : ∃ s, x = .string s := by
  simp only [Cell.okWide, hu] at h
  cases x <;> simp only [Cell.ok, hu] at h
  exact ⟨_, rfl⟩
theorem cell_bool {u : TypeId} {x : Value} (hu : P.underlying u = some .bool) (h : Cell.okWide P w r base u x) : ∃ b, x = .bool b := by
  simp only [Cell.okWide, hu] at h
  cases x <;> simp only [Cell.ok, hu] at h
  exact ⟨_, rfl⟩
theorem agg_three {t u0 u1 u2 : TypeId} {v : Value} (hu : (∃ fs, P.underlying t = some (.struct fs)) ∨ ∃ n e, P.underlying t = some (.array n e)) (hts : P.cellTypes P.depth t = some [u0, u1, u2]) (hc : P.cellsOf t = 3)
    (h : Value.okWide P w r base t v) : ∃ x0 x1 x2, v = .agg #[x0, x1, x2] ∧ Cell.okWide P w r base u0 x0 ∧ Cell.okWide P w r base u1 x1 ∧ Cell.okWide P w r base u2 x2 := by
  obtain ⟨⟨l⟩, rfl, hs, hx⟩ := okWide_flat hu hts hc h
  match l, hs with
  | [x0, x1, x2], _ =>
    obtain ⟨a0, e0, h0⟩ := hx 0 x0 rfl
    obtain ⟨a1, e1, h1⟩ := hx 1 x1 rfl
    obtain ⟨a2, e2, h2⟩ := hx 2 x2 rfl
    simp at e0 e1 e2; subst e0 e1 e2
    exact ⟨x0, x1, x2, rfl, h0, h1, h2⟩
theorem wf_range {k : IntKind} {n : Int} (h : (Lit.int k n).wf = true) : k.min ≤ n ∧ n ≤ k.max := by
  simpa [Lit.wf] using h
end
end Go.Ab
