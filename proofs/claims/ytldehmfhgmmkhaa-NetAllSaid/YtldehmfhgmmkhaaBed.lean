/- The functions that Gram] reach, digested for the evaluator, with what nothing reads any more forgotten; that they are the program's. Printed by mkeq.py of this repo. -/
import Derived.Test.YtldehmfhgmmkhaaChecked
import Derived.Test.YtldehmfhgmmkhaaSh15
import Derived.KernelRfl
namespace Go.Proofs.Ytldehmfhgmmkhaa.Be
open Go.Ab
def c_slices_Delete_api_Gram_api_Gram : ACode := .seq (.reg [⟨some 6, .mv (.c .nils), none⟩]) (.seq (.reg [⟨some 8, .mv (.t 0), none⟩, ⟨some 9, .mv (.t 1), none⟩, ⟨some 10, .mv (.t 2), none⟩, ⟨some 11, .mv (.t 0), none⟩, ⟨some 12, .len (.t 11), none⟩, ⟨some 13, .slc 3 (.t 8) (some (.t 9)) (some (.t 10)) (some (.t 12)), none⟩]) (.seq (.seq (.reg [⟨some 14, .mv (.t 1), none⟩, ⟨some 15, .mv (.t 2), none⟩, ⟨some 16, .bin .eql (.t 14) (.t 15), none⟩]) (.cond (.t 16) (.seq (.reg [⟨some 17, .mv (.t 0), none⟩, ⟨some 6, .mv (.t 17), none⟩]) .ret) .skip)) (.seq (.reg [⟨some 18, .mv (.t 0), none⟩, ⟨some 19, .len (.t 18), none⟩, ⟨some 7, .mv (.t 19), none⟩]) (.seq (.dreg 0 [(⟨some 20, .mv (.t 0), none⟩, .q), (⟨some 21, .mv (.t 1), none⟩, .q), (⟨some 22, .slc 3 (.t 20) none (some (.t 21)) none, none⟩, .q), (⟨some 23, .mv (.t 0), none⟩, .q), (⟨some 24, .mv (.t 2), none⟩, .q), (⟨some 25, .slc 3 (.t 23) (some (.t 24)) none none, none⟩, .q), (⟨some 26, .app 3 32 [.int .i64 0, .str [], .bool false] (.t 22) (.t 25), none⟩, .ef []), (⟨some 0, .mv (.t 26), none⟩, .q)]) (.seq (.reg [⟨some 27, .mv (.t 0), none⟩, ⟨some 28, .mv (.t 0), none⟩, ⟨some 29, .len (.t 28), none⟩, ⟨some 30, .mv (.t 7), none⟩, ⟨some 31, .slc 3 (.t 27) (some (.t 29)) (some (.t 30)) none, none⟩, ⟨none, .clr 3 [.int .i64 0, .str [], .bool false] (.t 31), none⟩]) (.seq (.reg [⟨some 32, .mv (.t 0), none⟩, ⟨some 6, .mv (.t 32), none⟩]) .ret))))))
def af_slices_Delete_api_Gram_api_Gram : AFn := ⟨33, c_slices_Delete_api_Gram_api_Gram, [.tmp 6]⟩
set_option maxRecDepth 100000
theorem ok_slices_Delete_api_Gram_api_Gram : Callable Try.prog 60 ∧ ∃ fn, Try.prog.funcs[60]? = some fn ∧ dFn Try.prog fn = some (unkill af_slices_Delete_api_Gram_api_Gram) := ⟨⟨_, _, Try.func60, rfl, by kernel_rfl⟩, _, Try.func60, by kernel_rfl⟩
theorem lv_slices_Delete_api_Gram_api_Gram : liveOk af_slices_Delete_api_Gram_api_Gram = true := by kernel_rfl
def fns : Nat → Option AFn
  | 60 => some af_slices_Delete_api_Gram_api_Gram
  | _ => none
abbrev Specs := List (Nat × (List AV → AHeap → Option (AV × AHeap)))
def env (s : Specs) : Env := ⟨fns, fun f => s.lookup f⟩
def env0 (s : Specs) : Env := ⟨fun f => (fns f).map unkill, fun f => s.lookup f⟩
def SpecsOk (s : Specs) : Prop := ∀ p ∈ s, SpecOk Try.prog p.1 p.2
theorem lookup_mem {s : Specs} {f : Nat} {g : List AV → AHeap → Option (AV × AHeap)} (h : s.lookup f = some g) : (f, g) ∈ s := by
  induction s with
  | nil => cases h
  | cons p l ih =>
    obtain ⟨a, b⟩ := p
    rw [List.lookup_cons] at h
    split at h
    · rename_i e
      obtain rfl := Option.some.inj h
      rw [eq_of_beq e]
      exact List.mem_cons_self
    · exact List.mem_cons_of_mem _ (ih h)
theorem envOk {s : Specs} (hs : SpecsOk s) : EnvOk Try.prog (env0 s) := by
  refine ⟨Try.checked.mixed, fun f af h => ?_, fun f g h => hs _ (lookup_mem h)⟩
  change (fns f).map unkill = some af at h
  obtain ⟨x, hx, rfl⟩ := Option.map_eq_some_iff.1 h
  unfold fns at hx
  split at hx
  · obtain rfl := Option.some.inj hx; exact ok_slices_Delete_api_Gram_api_Gram
  · cases hx
theorem strips (s : Specs) : Strips (env0 s) (env s) := by
  refine ⟨rfl, fun f af h => ⟨?_, ?_⟩⟩
  · change (fns f).map unkill = _
    change fns f = some af at h
    rw [h]; rfl
  · change fns f = some af at h
    unfold fns at h
    split at h
    · obtain rfl := Option.some.inj h; exact lv_slices_Delete_api_Gram_api_Gram
    · cases h
theorem ok_nil : SpecsOk [] := fun p h => by cases h
theorem ok_cons {n : Nat} {g : List AV → AHeap → Option (AV × AHeap)} {s : Specs} (h : SpecOk Try.prog n g) (hs : SpecsOk s) : SpecsOk ((n, g) :: s) := fun p hp => by
  rcases List.mem_cons.1 hp with rfl | hp
  · exact h
  · exact hs p hp
theorem fok (s : Specs) : FOk (env s) := by
  intro f af h
  change fns f = some af at h
  unfold fns at h
  split at h
  · obtain rfl := Option.some.inj h; kernel_rfl
  · cases h
end Go.Proofs.Ytldehmfhgmmkhaa.Be
