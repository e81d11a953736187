/- What Leave, New come to. -/
import Derived.Test.YtdbbdfmkglgjdaaPcTie7
import Derived.Test.YtdbbdfmkglgjdaaPmTie
set_option linter.unusedVariables false
set_option linter.unusedSimpArgs false
namespace Go.Proofs.Ytdbbdfmkglgjdaa.Pi
open Go.Ab Go.Feed Go.Kids Go.Tie
set_option maxRecDepth 100000
section
variable {Q : AHeap} {r : Nat} {t : Tie} {ms : List Msg} {pv kv tv : AV}
theorem c_New (id inc now g : Int) : ∃ pv, Sl 1 (ints (New id inc now g).path) pv ∧ callP (penv P1) 14 [.int .i64 id, .int .i64 inc, .int .i64 now, .int .i64 g] Q = some (Tv (New id inc now g) pv .nils, Q) := by
  unfold New
  rw [f_tie_New rfl]
  by_cases c : id = 1
  · rw [if_pos c]
    exact ⟨.fz 1 (ints [1]), Sl.fz _ _, by simp [c, p_tie_New_0]⟩
  · rw [if_neg c]
    exact ⟨.nils, Sl.nil 1, by simp [c, p_tie_New_0]⟩
theorem New_kids (id inc now g : Int) : (New id inc now g).kids = [] := by unfold New; split <;> rfl
end
end Go.Proofs.Ytdbbdfmkglgjdaa.Pi
/- Who hangs on nobody asks. -/
set_option linter.unusedVariables false
namespace Go.Tie
open Go.Feed Go.Kids
def firstA (id g : Int) : Int := if g ≠ 0 ∧ g ≠ id then g else 1
def wantA (id g a : Int) : Int := if a = 0 then firstA id g else 1
structure Ia (id g : Int) (t : Tie) : Prop where
  id : t.id = id
  pa : t.parent = 0
  ki : t.kids = []
  gr : t.grand = g
  sp : 0 ≤ t.step
structure Aa (t : Tie) (a : Int) : Prop where
  a0 : 0 ≤ a
  z : a = 0 → t.step = 0 ∧ t.asked = 0
  s : 1 ≤ a → t.asked ≠ 0 ∨ 1 ≤ t.step
theorem firstA_ne (id g : Int) : firstA id g ≠ 0 := by
  unfold firstA; split
  · rename_i c; exact c.1
  · decide
theorem wantA_ne (id g a : Int) : wantA id g a ≠ 0 := by
  unfold wantA; split
  · exact firstA_ne id g
  · decide
theorem Ia.new {id g : Int} (h : 2 ≤ id) : Ia id g (New id 1 0 g) ∧ Aa (New id 1 0 g) 0 := by
  unfold New
  rw [if_neg (by omega)]
  exact ⟨⟨rfl, rfl, rfl, rfl, Int.le_refl _⟩, ⟨Int.le_refl _, fun _ => ⟨rfl, rfl⟩, fun h => absurd h (by decide)⟩⟩
theorem beats_no {t : Tie} (h1 : t.id ≠ 1) (h2 : t.parent = 0) : beats t = [] := by
  unfold beats
  split
  · rfl
  · rw [if_neg (fun c => c h2), if_neg (by rintro (c | c); exact h1 c; exact c.1 h2)]; rfl
theorem tick_asks {id g a : Int} {t : Tie} (hi : 2 ≤ id) (h : Ia id g t) (ha : Aa t a) :
    Ia id g (tick t).1 ∧ (((tick t).2 = [] ∧ 1 ≤ a ∧ (tick t).1.asked ≠ 0) ∨
      ((tick t).2 = [says (tick t).1 1 (wantA id g a) 0] ∧ (tick t).1.asked = wantA id g a ∧ (tick t).1.till = (tick t).1.now + 3)) := by
  have hid := h.id
  have e1 : turned (later t) = later t := by
    unfold turned
    rw [if_neg (by rintro ⟨c, _⟩; have : t.id = 1 := c; omega), if_neg (by rintro ⟨_, c, _⟩; exact c h.pa)]
  have hk : (later t).kids = [] := by show outs _ t.kids = []; rw [h.ki]; rfl
  have hn : ¬ ((later t).id = 1 ∨ (later t).parent ≠ 0) := by
    rintro (c | c)
    · have : t.id = 1 := c; omega
    · exact c h.pa
  unfold tick
  rw [e1]
  unfold asks
  rw [if_neg hn]
  by_cases c : t.asked ≠ 0 ∧ t.till ≤ t.now + 1
  · have et : Go.Tie.tired (later t) = { later t with asked := 0, step := t.step + 1 } := if_pos c
    rw [et, if_neg (fun x => x rfl)]
    have a1 : 1 ≤ a := by
      have := ha.a0
      by_cases c0 : a = 0
      · exact absurd (ha.z c0).2 c.1
      · omega
    have sp := h.sp
    have ew : whom { later t with asked := 0, step := t.step + 1 } = 1 := if_neg (by rintro ⟨c, _⟩; have : t.step + 1 = 0 := c; omega)
    have eq : wantA id g a = 1 := if_neg (by omega)
    refine ⟨⟨h.id, h.pa, hk, h.gr, ?_⟩, Or.inr ⟨?_, ?_, rfl⟩⟩
    · show 0 ≤ t.step + 1; omega
    · have : beats (Go.Tie.asked { later t with asked := 0, step := t.step + 1 }) = [] := beats_no (by show t.id ≠ 1; omega) h.pa
      simp only
      rw [this, List.append_nil]
      show [says _ 1 (whom _) 0] = _
      rw [ew, eq]
    · show whom _ = _
      rw [ew, eq]
  · have et : Go.Tie.tired (later t) = later t := if_neg c
    rw [et]
    by_cases c2 : t.asked = 0
    · rw [if_neg (show ¬ (later t).asked ≠ 0 from fun x => x c2)]
      have ew : whom (later t) = wantA id g a := by
        by_cases c0 : a = 0
        · have := (ha.z c0).1
          unfold whom wantA firstA
          rw [if_pos c0]
          show (if t.step = 0 ∧ t.grand ≠ 0 ∧ t.grand ≠ t.id then t.grand else 1) = _
          rw [h.gr, h.id]
          simp only [this, true_and]
        · have hs : 1 ≤ t.step := by
            have := ha.a0
            rcases ha.s (by omega) with x | x
            · exact absurd c2 x
            · exact x
          have e1 : whom (later t) = 1 := if_neg (by rintro ⟨c, _⟩; have : t.step = 0 := c; omega)
          have e2 : wantA id g a = 1 := if_neg c0
          rw [e1, e2]
      refine ⟨⟨h.id, h.pa, hk, h.gr, h.sp⟩, Or.inr ⟨?_, ?_, rfl⟩⟩
      · have : beats (Go.Tie.asked (later t)) = [] := beats_no (by show t.id ≠ 1; omega) h.pa
        simp only
        rw [this, List.append_nil]
        show [says _ 1 (whom _) 0] = _
        rw [ew]
      · exact ew
    · rw [if_pos (show (later t).asked ≠ 0 from c2)]
      have a1 : 1 ≤ a := by
        have := ha.a0
        by_cases c0 : a = 0
        · exact absurd (ha.z c0).2 c2
        · omega
      refine ⟨⟨h.id, h.pa, hk, h.gr, h.sp⟩, Or.inl ⟨?_, a1, c2⟩⟩
      have : beats (later t) = [] := beats_no (by show t.id ≠ 1; omega) h.pa
      simp only
      rw [this, List.append_nil]
theorem refused {id g : Int} {t : Tie} (h : Ia id g t) (hn : t.asked ≠ 0) (m : Msg) (hk : m.kind = 3) (hf : m.frm = t.asked) (lo : Int) : Ia id g (comes t m lo).1 ∧ (comes t m lo).1.asked = 0 ∧ 1 ≤ (comes t m lo).1.step := by
  have e : (comes t m lo).1 = { t with asked := 0, step := t.step + 1 } := by
    unfold comes
    have o : oldK t.kids m.frm m.inc = false := by unfold oldK; rw [h.ki]; rfl
    have nf : ¬ m.frm = t.parent := by rw [hf, h.pa]; exact hn
    rw [if_neg (by rintro (c | c); rw [o] at c; cases c; exact nf c.1)]
    have eg : gone t m = t := if_neg (fun c => nf c.2.1)
    rw [eg]
    unfold comesK
    rw [hk, if_neg (by decide), if_neg (by decide), if_pos rfl]
    exact if_pos hf
  rw [e]
  have := h.sp
  exact ⟨⟨h.id, h.pa, h.ki, h.gr, by show 0 ≤ t.step + 1; omega⟩, rfl, by show 1 ≤ t.step + 1; omega⟩
end Go.Tie
