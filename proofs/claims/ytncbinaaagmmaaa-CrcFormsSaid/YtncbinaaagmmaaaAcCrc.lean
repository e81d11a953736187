/- The program's functions that the laws CrcForms reach, digested for the evaluator, and that they are these. Printed by mkseat.py of this repo. -/
import Derived.Test.YtncbinaaagmmaaaChecked
import Derived.Test.YtncbinaaagmmaaaAb15
import Derived.KernelRfl
namespace Go.Proofs.Ytncbinaaagmmaaa.AcCrc
open Go.Ab
/-- pleach/pleachlaw10.CrcForms -/
def af8 : AFn := ⟨28, .seq (.reg [⟨some 0, .mv (.c (.bool false)), none⟩]) (.seq (.seq (.reg [⟨some 1, .call (.c (.fn 25 [] [])) [], none⟩, ⟨some 2, .un (.not) (.t 1), none⟩]) (.cond (.t 2) (.seq (.reg [⟨some 0, .mv (.c (.bool false)), none⟩]) (.ret)) (.skip))) (.seq (.reg [⟨some 3, .bsl 1 [.int (.u8) 0] 1 [(0, 1, .c (.int (.u8) 97))], none⟩, ⟨some 4, .stf (.t 3), none⟩, ⟨some 5, .call (.c (.fn 26 [] [])) [.t 4], none⟩, ⟨some 6, .bin (.eql) (.t 5) (.c (.int (.u32) 3904355907)), none⟩, ⟨some 7, .mv (.t 6), none⟩, ⟨some 8, .bsl 1 [.int (.u8) 0] 3 [(0, 1, .c (.int (.u8) 97)), (1, 1, .c (.int (.u8) 98)), (2, 1, .c (.int (.u8) 99))], some (7, true)⟩, ⟨some 9, .stf (.t 8), some (7, true)⟩, ⟨some 10, .call (.c (.fn 26 [] [])) [.t 9], some (7, true)⟩, ⟨some 11, .bin (.eql) (.t 10) (.c (.int (.u32) 891568578)), some (7, true)⟩, ⟨some 12, .pick (.t 7) (.t 11) (.c (.bool false)), none⟩, ⟨some 13, .mv (.t 12), none⟩, ⟨some 14, .bsl 1 [.int (.u8) 0] 1 [(0, 1, .c (.int (.u8) 0))], some (13, true)⟩, ⟨some 15, .call (.c (.fn 26 [] [])) [.t 14], some (13, true)⟩, ⟨some 16, .bin (.eql) (.t 15) (.c (.int (.u32) 3523407757)), some (13, true)⟩, ⟨some 17, .pick (.t 13) (.t 16) (.c (.bool false)), none⟩, ⟨some 18, .mv (.t 17), none⟩, ⟨some 19, .bsl 1 [.int (.u8) 0] 4 [(0, 1, .c (.int (.u8) 0)), (1, 1, .c (.int (.u8) 0)), (2, 1, .c (.int (.u8) 0)), (3, 1, .c (.int (.u8) 0))], some (18, true)⟩, ⟨some 20, .call (.c (.fn 26 [] [])) [.t 19], some (18, true)⟩, ⟨some 21, .bin (.eql) (.t 20) (.c (.int (.u32) 558161692)), some (18, true)⟩, ⟨some 22, .pick (.t 18) (.t 21) (.c (.bool false)), none⟩, ⟨some 23, .mv (.t 22), none⟩, ⟨some 24, .bsl 1 [.int (.u8) 0] 4 [(0, 1, .c (.int (.u8) 255)), (1, 1, .c (.int (.u8) 255)), (2, 1, .c (.int (.u8) 255)), (3, 1, .c (.int (.u8) 255))], some (23, true)⟩, ⟨some 25, .call (.c (.fn 26 [] [])) [.t 24], some (23, true)⟩, ⟨some 26, .bin (.eql) (.t 25) (.c (.int (.u32) 4294967295)), some (23, true)⟩, ⟨some 27, .pick (.t 23) (.t 26) (.c (.bool false)), none⟩, ⟨some 0, .mv (.t 27), none⟩]) (.ret))), [.tmp 0]⟩
/-- pleach/pleachlaw10.begun -/
def af25 : AFn := ⟨9, .seq (.reg [⟨some 0, .mv (.c (.bool false)), none⟩]) (.seq (.reg [⟨some 1, .bsl 1 [.int (.u8) 0] 9 [(0, 1, .c (.int (.u8) 49)), (1, 1, .c (.int (.u8) 50)), (2, 1, .c (.int (.u8) 51)), (3, 1, .c (.int (.u8) 52)), (4, 1, .c (.int (.u8) 53)), (5, 1, .c (.int (.u8) 54)), (6, 1, .c (.int (.u8) 55)), (7, 1, .c (.int (.u8) 56)), (8, 1, .c (.int (.u8) 57))], none⟩, ⟨some 2, .stf (.t 1), none⟩, ⟨some 3, .call (.c (.fn 26 [] [])) [.t 2], none⟩, ⟨some 4, .bin (.eql) (.t 3) (.c (.int (.u32) 3421780262)), none⟩, ⟨some 5, .mv (.t 4), none⟩, ⟨some 6, .call (.c (.fn 26 [] [])) [.c (.nils)], some (5, true)⟩, ⟨some 7, .bin (.eql) (.t 6) (.c (.int (.u32) 0)), some (5, true)⟩, ⟨some 8, .pick (.t 5) (.t 7) (.c (.bool false)), none⟩, ⟨some 0, .mv (.t 8), none⟩]) (.ret)), [.tmp 0]⟩
/-- pleach/crc.Sum -/
def af26 : AFn := ⟨31, .seq (.reg [⟨some 2, .mv (.c (.int (.u32) 0)), none⟩]) (.seq (.reg [⟨some 3, .mv (.c (.int (.u32) 4294967295)), none⟩]) (.seq (.seq (.reg [⟨some 7, .mv (.t 0), none⟩, ⟨some 8, .len (.t 7), none⟩, ⟨some 9, .mv (.c (.int (.i64) 0)), none⟩]) (.block 0 (.loop (.seq (.reg [⟨some 10, .bin (.lss) (.t 9) (.t 8), none⟩]) (.seq (.cond (.t 10) (.skip) (.exit 0)) (.seq (.block 1 (.seq (.reg [⟨some 11, .iad 1 (.t 7) (.t 9), none⟩, ⟨some 12, .ld (.t 11), none⟩, ⟨some 5, .mv (.t 12), none⟩]) (.seq (.reg [⟨some 13, .mv (.t 3), none⟩, ⟨some 14, .mv (.t 5), none⟩, ⟨some 15, .cvi (.u32) (.t 14), none⟩, ⟨some 16, .bin (.xor) (.t 13) (.t 15), none⟩, ⟨some 3, .mv (.t 16), none⟩]) (.seq (.reg [⟨some 17, .mv (.c (.int (.i64) 0)), none⟩]) (.block 2 (.loop (.seq (.reg [⟨some 18, .bin (.lss) (.t 17) (.c (.int (.i64) 8)), none⟩]) (.seq (.cond (.t 18) (.skip) (.exit 2)) (.seq (.block 3 (.seq (.reg [⟨some 19, .mv (.t 3), none⟩, ⟨some 20, .bin (.and) (.t 19) (.c (.int (.u32) 1)), none⟩, ⟨some 6, .mv (.t 20), none⟩]) (.seq (.reg [⟨some 21, .mv (.t 3), none⟩, ⟨some 22, .bin (.shr) (.t 21) (.c (.int (.u64) 1)), none⟩, ⟨some 3, .mv (.t 22), none⟩]) (.seq (.reg [⟨some 23, .mv (.t 6), none⟩, ⟨some 24, .bin (.eql) (.t 23) (.c (.int (.u32) 1)), none⟩]) (.cond (.t 24) (.reg [⟨some 25, .mv (.t 3), none⟩, ⟨some 26, .bin (.xor) (.t 25) (.c (.int (.u32) 3988292384)), none⟩, ⟨some 3, .mv (.t 26), none⟩]) (.skip)))))) (.reg [⟨some 27, .bin (.add) (.t 17) (.c (.int (.i64) 1)), none⟩, ⟨some 17, .mv (.t 27), none⟩])))))))))) (.reg [⟨some 28, .bin (.add) (.t 9) (.c (.int (.i64) 1)), none⟩, ⟨some 9, .mv (.t 28), none⟩]))))))) (.seq (.reg [⟨some 29, .mv (.t 3), none⟩, ⟨some 30, .bin (.xor) (.t 29) (.c (.int (.u32) 4294967295)), none⟩, ⟨some 2, .mv (.t 30), none⟩]) (.ret)))), [.tmp 2]⟩
set_option maxRecDepth 100000
theorem ok8 : Callable Try.prog 8 ∧ ∃ fn, Try.prog.funcs[8]? = some fn ∧ dFn Try.prog fn = some af8 := ⟨⟨_, _, Try.func8, rfl, by kernel_rfl⟩, _, Try.func8, by kernel_rfl⟩
theorem ok25 : Callable Try.prog 25 ∧ ∃ fn, Try.prog.funcs[25]? = some fn ∧ dFn Try.prog fn = some af25 := ⟨⟨_, _, Try.func25, rfl, by kernel_rfl⟩, _, Try.func25, by kernel_rfl⟩
theorem ok26 : Callable Try.prog 26 ∧ ∃ fn, Try.prog.funcs[26]? = some fn ∧ dFn Try.prog fn = some af26 := ⟨⟨_, _, Try.func26, rfl, by kernel_rfl⟩, _, Try.func26, by kernel_rfl⟩
def fns : Nat → Option AFn
  | 8 => some af8
  | 25 => some af25
  | 26 => some af26
  | _ => none
def env : Env := ⟨fns, fun _ => none⟩
theorem envOk : EnvOk Try.prog env := by
  refine ⟨Try.checked.mixed, fun f af h => ?_, fun f g h => by cases h⟩
  change fns f = some af at h
  unfold fns at h
  split at h
  · obtain rfl := Option.some.inj h; exact ok8
  · obtain rfl := Option.some.inj h; exact ok25
  · obtain rfl := Option.some.inj h; exact ok26
  · cases h
end Go.Proofs.Ytncbinaaagmmaaa.AcCrc
