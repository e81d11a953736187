/- slices.Delete, of a slice of one's own. -/
import Derived.Test.YtldehmfhgmmkhaaBee
import Derived.Test.YtldehmfhgmmkhaaSh16
set_option linter.unusedVariables false
set_option linter.unusedSimpArgs false
namespace Go.Proofs.Ytldehmfhgmmkhaa.Be.WcIe0
open Go.Ab Go.RowKit Go
set_option maxRecDepth 100000
def gDel : List AV → AHeap → Option (AV × AHeap) := gDelG 3 32 [.int .i64 0, .str [], .bool false]
theorem run_del (args : List AV) (H : AHeap) (v : AV) (H' : AHeap) (h : gDel args H = some (v, H')) : callV (env []) 60 args H = some (v, H') := by
  unfold gDel gDelG at h
  split at h
  · rename_i r n c i j
    split at h
    · rename_i k z' cs hg
      split at h
      · rename_i hc
        obtain ⟨rfl, hz, hzs, hza, hr, hn, ha, hi0, hij, hj, hb, hb2⟩ := hc
        obtain ⟨a, rfl⟩ : ∃ a : Nat, i = a := ⟨i.toNat, by omega⟩
        obtain ⟨b, rfl⟩ : ∃ b : Nat, j = b := ⟨j.toNat, by omega⟩
        simp only [Int.toNat_natCast] at h
        have hr := roomy_of hr
        obtain ⟨ym, em⟩ := del_mid (i := a) (j := b) (k1 := .i64) (k2 := .i64) (k3 := .i64) hr hg hz hn (by omega) (by omega)
        rw [f_slices_Delete_api_Gram_api_Gram (s := []) rfl, p_slices_Delete_api_Gram_api_Gram]
        by_cases e : a = b
        · subst e
          rw [if_pos rfl] at h
          cases h
          simp [em]
        · rw [if_neg (by omega)] at h
          obtain ⟨s1, y, s2, H1, s3, y2, s4, s5⟩ := del_steps (i := a) (j := b) (k1 := .i64) (k2 := .i64) (bytes := 32) hr hg hz hzs hza hn ha (by omega) (by omega) hb hb2
          cases h
          have e' : ((a : Int) = b) = False := eq_false (by omega)
          generalize a + (n - b) = m at *
          unfold appS at s3
          rw [if_pos hzs] at s3
          simp [em, e', e, s1, s2, s3, s4, s5]
      · cases h
    · cases h
  · cases h
theorem ok_gDel : SpecOk Try.prog 60 gDel := SpecOk.run (envOk ok_nil) (strips _) rfl run_del
end Go.Proofs.Ytldehmfhgmmkhaa.Be.WcIe0
