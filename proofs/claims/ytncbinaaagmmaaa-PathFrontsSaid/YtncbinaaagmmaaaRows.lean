/-
  No cell of these rows narrows 'for every input' (looked for: loops, veiled, ifaces, maps, wideKeys, modest, calm, conditions, laid).
  DERIVED. THE GIVEN ROWS OF THIS SEAT. 15 by the template 'for every input the law returns true; each argument reads behind the call as it read before'; 0 by the template 'total and deterministic' (their statements: YtncbinaaagmmaaaTotals.lean).
  GIVEN WITH THE SEED: the statements are not yours to turn. If you find one false, say at which input.
  Laid BY PROGRAM, IN A SANDBOX (cutbox-rows.mjs): the forced cells as the released guide's own fill.sh prints them over the translation 46be1904080f518f… (all of the seat's roots in one cut). By AI agents, Wed Nov 11 2026. No macro, syntax, notation, axiom, sorry.
-/
import Derived.Test.YtncbinaaagmmaaaChecked
import GoSem.Claim
import GoSem.ClaimJoined
import GoSem.ClaimMapViews
import Derived.JoinedTies
import Derived.KernelRfl
namespace Go.Proofs.Ytncbinaaagmmaaa
/- THE CELL 'sum', in the pinned program and in every row, IS THE sha256 OF THE DUMP (.gsa) THAT YtncbinaaagmmaaaProg.lean LOADS. Nothing in Lean hashes anything: it is a label: what it is worth is what the hold of that sum in a sandbox is worth. -/
noncomputable def Try.pinned : Pinned := { name := "ytncbinaaagmmaaa", sum := "46be1904080f518fff4d944fb6e48f53ff5149b20b57ca0057edde1fab6c1f8e", checked := Try.checked }
namespace Rows
def none {H : Type} : Left H := { results := [], args := [] }

/-- 'pleachlaw4.WaitAll': WHATEVER THE INPUT: true; the input reads as it did. -/
def waitAllSpec : ChangeSpec := { name := "waitAll", fn := fun _ => fun
  | [d1, d2, d3] => { results := [.lit (.bool true)], args := [d1, d2, d3] }
  | _ => none }
def waitAllRow : OpenClaim := { program := "ytncbinaaagmmaaa", sum := "46be1904080f518fff4d944fb6e48f53ff5149b20b57ca0057edde1fab6c1f8e", func := "pleach/pleachlaw4.WaitAll", spec := "waitAll", apart := false }
def WaitAllSaid : Prop := waitAllRow.holds Try.pinned (OpenSpec.ofChange waitAllSpec)

/-- ITS FALSE NEIGHBOUR: 'it returns false'. Refute it at one input. -/
def waitAllWrong : ChangeSpec := { name := "waitAll", fn := fun _ => fun
  | [d1, d2, d3] => { results := [.lit (.bool false)], args := [d1, d2, d3] }
  | _ => none }
def WaitAllWrongFalsely : Prop := waitAllRow.holds Try.pinned (OpenSpec.ofChange waitAllWrong)

/-- 'pleachlaw4.WaitGaps': WHATEVER THE INPUT: true; the input reads as it did. -/
def waitGapsSpec : ChangeSpec := { name := "waitGaps", fn := fun _ => fun
  | [d] => { results := [.lit (.bool true)], args := [d] }
  | _ => none }
def waitGapsRow : OpenClaim := { program := "ytncbinaaagmmaaa", sum := "46be1904080f518fff4d944fb6e48f53ff5149b20b57ca0057edde1fab6c1f8e", func := "pleach/pleachlaw4.WaitGaps", spec := "waitGaps", apart := false }
def WaitGapsSaid : Prop := waitGapsRow.holds Try.pinned (OpenSpec.ofChange waitGapsSpec)

/-- ITS FALSE NEIGHBOUR: 'it returns false'. Refute it at one input. -/
def waitGapsWrong : ChangeSpec := { name := "waitGaps", fn := fun _ => fun
  | [d] => { results := [.lit (.bool false)], args := [d] }
  | _ => none }
def WaitGapsWrongFalsely : Prop := waitGapsRow.holds Try.pinned (OpenSpec.ofChange waitGapsWrong)

/-- 'pleachlaw4.WaitForms': WHATEVER THE INPUT: true; the input reads as it did. -/
def waitFormsSpec : ChangeSpec := { name := "waitForms", fn := fun _ => fun
  | [] => { results := [.lit (.bool true)], args := [] }
  | _ => none }
def waitFormsRow : OpenClaim := { program := "ytncbinaaagmmaaa", sum := "46be1904080f518fff4d944fb6e48f53ff5149b20b57ca0057edde1fab6c1f8e", func := "pleach/pleachlaw4.WaitForms", spec := "waitForms", apart := false }
def WaitFormsSaid : Prop := waitFormsRow.holds Try.pinned (OpenSpec.ofChange waitFormsSpec)

/-- ITS FALSE NEIGHBOUR: 'it returns false'. Refute it at one input. -/
def waitFormsWrong : ChangeSpec := { name := "waitForms", fn := fun _ => fun
  | [] => { results := [.lit (.bool false)], args := [] }
  | _ => none }
def WaitFormsWrongFalsely : Prop := waitFormsRow.holds Try.pinned (OpenSpec.ofChange waitFormsWrong)

/-- 'pleachlaw10.CrcAll': WHATEVER THE INPUT: true; the input reads as it did. -/
def crcAllSpec : ChangeSpec := { name := "crcAll", fn := fun _ => fun
  | [d] => { results := [.lit (.bool true)], args := [d] }
  | _ => none }
def crcAllRow : OpenClaim := { program := "ytncbinaaagmmaaa", sum := "46be1904080f518fff4d944fb6e48f53ff5149b20b57ca0057edde1fab6c1f8e", func := "pleach/pleachlaw10.CrcAll", spec := "crcAll", apart := false }
def CrcAllSaid : Prop := crcAllRow.holds Try.pinned (OpenSpec.ofChange crcAllSpec)

/-- ITS FALSE NEIGHBOUR: 'it returns false'. Refute it at one input. -/
def crcAllWrong : ChangeSpec := { name := "crcAll", fn := fun _ => fun
  | [d] => { results := [.lit (.bool false)], args := [d] }
  | _ => none }
def CrcAllWrongFalsely : Prop := crcAllRow.holds Try.pinned (OpenSpec.ofChange crcAllWrong)

/-- 'pleachlaw10.CrcTurned': WHATEVER THE INPUT: true; the input reads as it did. -/
def crcTurnedSpec : ChangeSpec := { name := "crcTurned", fn := fun _ => fun
  | [d1, d2, d3] => { results := [.lit (.bool true)], args := [d1, d2, d3] }
  | _ => none }
def crcTurnedRow : OpenClaim := { program := "ytncbinaaagmmaaa", sum := "46be1904080f518fff4d944fb6e48f53ff5149b20b57ca0057edde1fab6c1f8e", func := "pleach/pleachlaw10.CrcTurned", spec := "crcTurned", apart := false }
def CrcTurnedSaid : Prop := crcTurnedRow.holds Try.pinned (OpenSpec.ofChange crcTurnedSpec)

/-- ITS FALSE NEIGHBOUR: 'it returns false'. Refute it at one input. -/
def crcTurnedWrong : ChangeSpec := { name := "crcTurned", fn := fun _ => fun
  | [d1, d2, d3] => { results := [.lit (.bool false)], args := [d1, d2, d3] }
  | _ => none }
def CrcTurnedWrongFalsely : Prop := crcTurnedRow.holds Try.pinned (OpenSpec.ofChange crcTurnedWrong)

/-- 'pleachlaw10.CrcForms': WHATEVER THE INPUT: true; the input reads as it did. -/
def crcFormsSpec : ChangeSpec := { name := "crcForms", fn := fun _ => fun
  | [] => { results := [.lit (.bool true)], args := [] }
  | _ => none }
def crcFormsRow : OpenClaim := { program := "ytncbinaaagmmaaa", sum := "46be1904080f518fff4d944fb6e48f53ff5149b20b57ca0057edde1fab6c1f8e", func := "pleach/pleachlaw10.CrcForms", spec := "crcForms", apart := false }
def CrcFormsSaid : Prop := crcFormsRow.holds Try.pinned (OpenSpec.ofChange crcFormsSpec)

/-- ITS FALSE NEIGHBOUR: 'it returns false'. Refute it at one input. -/
def crcFormsWrong : ChangeSpec := { name := "crcForms", fn := fun _ => fun
  | [] => { results := [.lit (.bool false)], args := [] }
  | _ => none }
def CrcFormsWrongFalsely : Prop := crcFormsRow.holds Try.pinned (OpenSpec.ofChange crcFormsWrong)

/-- 'pleachlaw10.CrcJoin': WHATEVER THE INPUT: true; the input reads as it did. -/
def crcJoinSpec : ChangeSpec := { name := "crcJoin", fn := fun _ => fun
  | [d1, d2, d3] => { results := [.lit (.bool true)], args := [d1, d2, d3] }
  | _ => none }
def crcJoinRow : OpenClaim := { program := "ytncbinaaagmmaaa", sum := "46be1904080f518fff4d944fb6e48f53ff5149b20b57ca0057edde1fab6c1f8e", func := "pleach/pleachlaw10.CrcJoin", spec := "crcJoin", apart := false }
def CrcJoinSaid : Prop := crcJoinRow.holds Try.pinned (OpenSpec.ofChange crcJoinSpec)

/-- ITS FALSE NEIGHBOUR: 'it returns false'. Refute it at one input. -/
def crcJoinWrong : ChangeSpec := { name := "crcJoin", fn := fun _ => fun
  | [d1, d2, d3] => { results := [.lit (.bool false)], args := [d1, d2, d3] }
  | _ => none }
def CrcJoinWrongFalsely : Prop := crcJoinRow.holds Try.pinned (OpenSpec.ofChange crcJoinWrong)

/-- 'pleachlaw7.MidAll': WHATEVER THE INPUT: true; the input reads as it did. -/
def midAllSpec : ChangeSpec := { name := "midAll", fn := fun _ => fun
  | [d1, d2, d3] => { results := [.lit (.bool true)], args := [d1, d2, d3] }
  | _ => none }
def midAllRow : OpenClaim := { program := "ytncbinaaagmmaaa", sum := "46be1904080f518fff4d944fb6e48f53ff5149b20b57ca0057edde1fab6c1f8e", func := "pleach/pleachlaw7.MidAll", spec := "midAll", unfollowed := true, recurses := true, apart := false }
def MidAllSaid : Prop := midAllRow.holds Try.pinned (OpenSpec.ofChange midAllSpec)

/-- ITS FALSE NEIGHBOUR: 'it returns false'. Refute it at one input. -/
def midAllWrong : ChangeSpec := { name := "midAll", fn := fun _ => fun
  | [d1, d2, d3] => { results := [.lit (.bool false)], args := [d1, d2, d3] }
  | _ => none }
def MidAllWrongFalsely : Prop := midAllRow.holds Try.pinned (OpenSpec.ofChange midAllWrong)

/-- 'pleachlaw7.MidBest': WHATEVER THE INPUT: true; the input reads as it did. -/
def midBestSpec : ChangeSpec := { name := "midBest", fn := fun _ => fun
  | [d1, d2, d3] => { results := [.lit (.bool true)], args := [d1, d2, d3] }
  | _ => none }
def midBestRow : OpenClaim := { program := "ytncbinaaagmmaaa", sum := "46be1904080f518fff4d944fb6e48f53ff5149b20b57ca0057edde1fab6c1f8e", func := "pleach/pleachlaw7.MidBest", spec := "midBest", unfollowed := true, recurses := true, apart := false }
def MidBestSaid : Prop := midBestRow.holds Try.pinned (OpenSpec.ofChange midBestSpec)

/-- ITS FALSE NEIGHBOUR: 'it returns false'. Refute it at one input. -/
def midBestWrong : ChangeSpec := { name := "midBest", fn := fun _ => fun
  | [d1, d2, d3] => { results := [.lit (.bool false)], args := [d1, d2, d3] }
  | _ => none }
def MidBestWrongFalsely : Prop := midBestRow.holds Try.pinned (OpenSpec.ofChange midBestWrong)

/-- 'pleachlaw7.MidForms': WHATEVER THE INPUT: true; the input reads as it did. -/
def midFormsSpec : ChangeSpec := { name := "midForms", fn := fun _ => fun
  | [] => { results := [.lit (.bool true)], args := [] }
  | _ => none }
def midFormsRow : OpenClaim := { program := "ytncbinaaagmmaaa", sum := "46be1904080f518fff4d944fb6e48f53ff5149b20b57ca0057edde1fab6c1f8e", func := "pleach/pleachlaw7.MidForms", spec := "midForms", unfollowed := true, recurses := true, apart := false }
def MidFormsSaid : Prop := midFormsRow.holds Try.pinned (OpenSpec.ofChange midFormsSpec)

/-- ITS FALSE NEIGHBOUR: 'it returns false'. Refute it at one input. -/
def midFormsWrong : ChangeSpec := { name := "midForms", fn := fun _ => fun
  | [] => { results := [.lit (.bool false)], args := [] }
  | _ => none }
def MidFormsWrongFalsely : Prop := midFormsRow.holds Try.pinned (OpenSpec.ofChange midFormsWrong)

/-- 'pleachlaw7.MidMoved': WHATEVER THE INPUT: true; the input reads as it did. -/
def midMovedSpec : ChangeSpec := { name := "midMoved", fn := fun _ => fun
  | [d1, d2, d3] => { results := [.lit (.bool true)], args := [d1, d2, d3] }
  | _ => none }
def midMovedRow : OpenClaim := { program := "ytncbinaaagmmaaa", sum := "46be1904080f518fff4d944fb6e48f53ff5149b20b57ca0057edde1fab6c1f8e", func := "pleach/pleachlaw7.MidMoved", spec := "midMoved", unfollowed := true, recurses := true, apart := false }
def MidMovedSaid : Prop := midMovedRow.holds Try.pinned (OpenSpec.ofChange midMovedSpec)

/-- ITS FALSE NEIGHBOUR: 'it returns false'. Refute it at one input. -/
def midMovedWrong : ChangeSpec := { name := "midMoved", fn := fun _ => fun
  | [d1, d2, d3] => { results := [.lit (.bool false)], args := [d1, d2, d3] }
  | _ => none }
def MidMovedWrongFalsely : Prop := midMovedRow.holds Try.pinned (OpenSpec.ofChange midMovedWrong)

/-- 'pleachlaw2.PathAll': WHATEVER THE INPUT: true; the input reads as it did. -/
def pathAllSpec : ChangeSpec := { name := "pathAll", fn := fun _ => fun
  | [d1, d2, d3] => { results := [.lit (.bool true)], args := [d1, d2, d3] }
  | _ => none }
def pathAllRow : OpenClaim := { program := "ytncbinaaagmmaaa", sum := "46be1904080f518fff4d944fb6e48f53ff5149b20b57ca0057edde1fab6c1f8e", func := "pleach/pleachlaw2.PathAll", spec := "pathAll", apart := false }
def PathAllSaid : Prop := pathAllRow.holds Try.pinned (OpenSpec.ofChange pathAllSpec)

/-- ITS FALSE NEIGHBOUR: 'it returns false'. Refute it at one input. -/
def pathAllWrong : ChangeSpec := { name := "pathAll", fn := fun _ => fun
  | [d1, d2, d3] => { results := [.lit (.bool false)], args := [d1, d2, d3] }
  | _ => none }
def PathAllWrongFalsely : Prop := pathAllRow.holds Try.pinned (OpenSpec.ofChange pathAllWrong)

/-- 'pleachlaw2.PathOnce': WHATEVER THE INPUT: true; the input reads as it did. -/
def pathOnceSpec : ChangeSpec := { name := "pathOnce", fn := fun _ => fun
  | [d] => { results := [.lit (.bool true)], args := [d] }
  | _ => none }
def pathOnceRow : OpenClaim := { program := "ytncbinaaagmmaaa", sum := "46be1904080f518fff4d944fb6e48f53ff5149b20b57ca0057edde1fab6c1f8e", func := "pleach/pleachlaw2.PathOnce", spec := "pathOnce", apart := false }
def PathOnceSaid : Prop := pathOnceRow.holds Try.pinned (OpenSpec.ofChange pathOnceSpec)

/-- ITS FALSE NEIGHBOUR: 'it returns false'. Refute it at one input. -/
def pathOnceWrong : ChangeSpec := { name := "pathOnce", fn := fun _ => fun
  | [d] => { results := [.lit (.bool false)], args := [d] }
  | _ => none }
def PathOnceWrongFalsely : Prop := pathOnceRow.holds Try.pinned (OpenSpec.ofChange pathOnceWrong)

/-- 'pleachlaw2.PathForms': WHATEVER THE INPUT: true; the input reads as it did. -/
def pathFormsSpec : ChangeSpec := { name := "pathForms", fn := fun _ => fun
  | [] => { results := [.lit (.bool true)], args := [] }
  | _ => none }
def pathFormsRow : OpenClaim := { program := "ytncbinaaagmmaaa", sum := "46be1904080f518fff4d944fb6e48f53ff5149b20b57ca0057edde1fab6c1f8e", func := "pleach/pleachlaw2.PathForms", spec := "pathForms", apart := false }
def PathFormsSaid : Prop := pathFormsRow.holds Try.pinned (OpenSpec.ofChange pathFormsSpec)

/-- ITS FALSE NEIGHBOUR: 'it returns false'. Refute it at one input. -/
def pathFormsWrong : ChangeSpec := { name := "pathForms", fn := fun _ => fun
  | [] => { results := [.lit (.bool false)], args := [] }
  | _ => none }
def PathFormsWrongFalsely : Prop := pathFormsRow.holds Try.pinned (OpenSpec.ofChange pathFormsWrong)

/-- 'pleachlaw2.PathFronts': WHATEVER THE INPUT: true; the input reads as it did. -/
def pathFrontsSpec : ChangeSpec := { name := "pathFronts", fn := fun _ => fun
  | [d1, d2] => { results := [.lit (.bool true)], args := [d1, d2] }
  | _ => none }
def pathFrontsRow : OpenClaim := { program := "ytncbinaaagmmaaa", sum := "46be1904080f518fff4d944fb6e48f53ff5149b20b57ca0057edde1fab6c1f8e", func := "pleach/pleachlaw2.PathFronts", spec := "pathFronts", apart := false }
def PathFrontsSaid : Prop := pathFrontsRow.holds Try.pinned (OpenSpec.ofChange pathFrontsSpec)

/-- ITS FALSE NEIGHBOUR: 'it returns false'. Refute it at one input. -/
def pathFrontsWrong : ChangeSpec := { name := "pathFronts", fn := fun _ => fun
  | [d1, d2] => { results := [.lit (.bool false)], args := [d1, d2] }
  | _ => none }
def PathFrontsWrongFalsely : Prop := pathFrontsRow.holds Try.pinned (OpenSpec.ofChange pathFrontsWrong)

/- THE SECOND FORM. 'bulk': how many values and letters a reading holds, each counted each time it is reached (what is shared counts as often as it is met; a slice's spare places count too). A statement '..UptoSaid' is the law's where the arguments, and the package variables that the reading takes, are together of bulk at most 1048576: NARROWER than '..Said'. Prove '..Said' where nothing that the law and all that it calls make is longer than what came in: it says more and counts as full. Else prove '..UptoSaid'. A law counts once. -/
mutual
def uptoBulk {H : Type} : DataW H → Nat
  | .lit (.string bytes) => bytes.length + 1
  | .lit _ => 1
  | .nil => 1
  | .ptr d => uptoBulk d + 1
  | .slice elems spare => uptoBulkAll elems + uptoBulkAll spare + 1
  | .agg parts => uptoBulkAll parts + 1
  | .iface _ d => uptoBulk d + 1
  | .map entries => uptoBulkEntries entries + 1
  | .held _ => 1
def uptoBulkAll {H : Type} : List (DataW H) → Nat
  | [] => 0
  | d :: r => uptoBulk d + uptoBulkAll r
def uptoBulkEntries {H : Type} : List (Lit × DataW H) → Nat
  | [] => 0
  | x :: r => uptoBulkEntry x + uptoBulkEntries r
def uptoBulkEntry {H : Type} : Lit × DataW H → Nat
  | (.string bytes, d) => bytes.length + uptoBulk d + 1
  | (_, d) => uptoBulk d + 1
 end
def uptoSmall : (H : Type) → List (DataW H) → Bool := fun _ ds => decide (uptoBulkAll ds ≤ 1048576)
def OpenSpec.upto (s : _root_.Go.ChangeSpec) : _root_.Go.OpenSpec := { _root_.Go.OpenSpec.ofChange s with cond := some uptoSmall }

/-- 'pleachlaw4.WaitAll', WHERE WHAT IT READS IS OF BULK AT MOST 1048576: true; the input reads as it did. -/
def waitAllUptoRow : OpenClaim := { program := "ytncbinaaagmmaaa", sum := "46be1904080f518fff4d944fb6e48f53ff5149b20b57ca0057edde1fab6c1f8e", func := "pleach/pleachlaw4.WaitAll", spec := "waitAll", apart := false, narrowed := true }
def WaitAllUptoSaid : Prop := waitAllUptoRow.holds Try.pinned (OpenSpec.upto waitAllSpec)

/-- 'pleachlaw4.WaitGaps', WHERE WHAT IT READS IS OF BULK AT MOST 1048576: true; the input reads as it did. -/
def waitGapsUptoRow : OpenClaim := { program := "ytncbinaaagmmaaa", sum := "46be1904080f518fff4d944fb6e48f53ff5149b20b57ca0057edde1fab6c1f8e", func := "pleach/pleachlaw4.WaitGaps", spec := "waitGaps", apart := false, narrowed := true }
def WaitGapsUptoSaid : Prop := waitGapsUptoRow.holds Try.pinned (OpenSpec.upto waitGapsSpec)

/-- 'pleachlaw4.WaitForms', WHERE WHAT IT READS IS OF BULK AT MOST 1048576: true; the input reads as it did. -/
def waitFormsUptoRow : OpenClaim := { program := "ytncbinaaagmmaaa", sum := "46be1904080f518fff4d944fb6e48f53ff5149b20b57ca0057edde1fab6c1f8e", func := "pleach/pleachlaw4.WaitForms", spec := "waitForms", apart := false, narrowed := true }
def WaitFormsUptoSaid : Prop := waitFormsUptoRow.holds Try.pinned (OpenSpec.upto waitFormsSpec)

/-- 'pleachlaw10.CrcAll', WHERE WHAT IT READS IS OF BULK AT MOST 1048576: true; the input reads as it did. -/
def crcAllUptoRow : OpenClaim := { program := "ytncbinaaagmmaaa", sum := "46be1904080f518fff4d944fb6e48f53ff5149b20b57ca0057edde1fab6c1f8e", func := "pleach/pleachlaw10.CrcAll", spec := "crcAll", apart := false, narrowed := true }
def CrcAllUptoSaid : Prop := crcAllUptoRow.holds Try.pinned (OpenSpec.upto crcAllSpec)

/-- 'pleachlaw10.CrcTurned', WHERE WHAT IT READS IS OF BULK AT MOST 1048576: true; the input reads as it did. -/
def crcTurnedUptoRow : OpenClaim := { program := "ytncbinaaagmmaaa", sum := "46be1904080f518fff4d944fb6e48f53ff5149b20b57ca0057edde1fab6c1f8e", func := "pleach/pleachlaw10.CrcTurned", spec := "crcTurned", apart := false, narrowed := true }
def CrcTurnedUptoSaid : Prop := crcTurnedUptoRow.holds Try.pinned (OpenSpec.upto crcTurnedSpec)

/-- 'pleachlaw10.CrcForms', WHERE WHAT IT READS IS OF BULK AT MOST 1048576: true; the input reads as it did. -/
def crcFormsUptoRow : OpenClaim := { program := "ytncbinaaagmmaaa", sum := "46be1904080f518fff4d944fb6e48f53ff5149b20b57ca0057edde1fab6c1f8e", func := "pleach/pleachlaw10.CrcForms", spec := "crcForms", apart := false, narrowed := true }
def CrcFormsUptoSaid : Prop := crcFormsUptoRow.holds Try.pinned (OpenSpec.upto crcFormsSpec)

/-- 'pleachlaw10.CrcJoin', WHERE WHAT IT READS IS OF BULK AT MOST 1048576: true; the input reads as it did. -/
def crcJoinUptoRow : OpenClaim := { program := "ytncbinaaagmmaaa", sum := "46be1904080f518fff4d944fb6e48f53ff5149b20b57ca0057edde1fab6c1f8e", func := "pleach/pleachlaw10.CrcJoin", spec := "crcJoin", apart := false, narrowed := true }
def CrcJoinUptoSaid : Prop := crcJoinUptoRow.holds Try.pinned (OpenSpec.upto crcJoinSpec)

/-- 'pleachlaw7.MidAll', WHERE WHAT IT READS IS OF BULK AT MOST 1048576: true; the input reads as it did. -/
def midAllUptoRow : OpenClaim := { program := "ytncbinaaagmmaaa", sum := "46be1904080f518fff4d944fb6e48f53ff5149b20b57ca0057edde1fab6c1f8e", func := "pleach/pleachlaw7.MidAll", spec := "midAll", unfollowed := true, recurses := true, apart := false, narrowed := true }
def MidAllUptoSaid : Prop := midAllUptoRow.holds Try.pinned (OpenSpec.upto midAllSpec)

/-- 'pleachlaw7.MidBest', WHERE WHAT IT READS IS OF BULK AT MOST 1048576: true; the input reads as it did. -/
def midBestUptoRow : OpenClaim := { program := "ytncbinaaagmmaaa", sum := "46be1904080f518fff4d944fb6e48f53ff5149b20b57ca0057edde1fab6c1f8e", func := "pleach/pleachlaw7.MidBest", spec := "midBest", unfollowed := true, recurses := true, apart := false, narrowed := true }
def MidBestUptoSaid : Prop := midBestUptoRow.holds Try.pinned (OpenSpec.upto midBestSpec)

/-- 'pleachlaw7.MidForms', WHERE WHAT IT READS IS OF BULK AT MOST 1048576: true; the input reads as it did. -/
def midFormsUptoRow : OpenClaim := { program := "ytncbinaaagmmaaa", sum := "46be1904080f518fff4d944fb6e48f53ff5149b20b57ca0057edde1fab6c1f8e", func := "pleach/pleachlaw7.MidForms", spec := "midForms", unfollowed := true, recurses := true, apart := false, narrowed := true }
def MidFormsUptoSaid : Prop := midFormsUptoRow.holds Try.pinned (OpenSpec.upto midFormsSpec)

/-- 'pleachlaw7.MidMoved', WHERE WHAT IT READS IS OF BULK AT MOST 1048576: true; the input reads as it did. -/
def midMovedUptoRow : OpenClaim := { program := "ytncbinaaagmmaaa", sum := "46be1904080f518fff4d944fb6e48f53ff5149b20b57ca0057edde1fab6c1f8e", func := "pleach/pleachlaw7.MidMoved", spec := "midMoved", unfollowed := true, recurses := true, apart := false, narrowed := true }
def MidMovedUptoSaid : Prop := midMovedUptoRow.holds Try.pinned (OpenSpec.upto midMovedSpec)

/-- 'pleachlaw2.PathAll', WHERE WHAT IT READS IS OF BULK AT MOST 1048576: true; the input reads as it did. -/
def pathAllUptoRow : OpenClaim := { program := "ytncbinaaagmmaaa", sum := "46be1904080f518fff4d944fb6e48f53ff5149b20b57ca0057edde1fab6c1f8e", func := "pleach/pleachlaw2.PathAll", spec := "pathAll", apart := false, narrowed := true }
def PathAllUptoSaid : Prop := pathAllUptoRow.holds Try.pinned (OpenSpec.upto pathAllSpec)

/-- 'pleachlaw2.PathOnce', WHERE WHAT IT READS IS OF BULK AT MOST 1048576: true; the input reads as it did. -/
def pathOnceUptoRow : OpenClaim := { program := "ytncbinaaagmmaaa", sum := "46be1904080f518fff4d944fb6e48f53ff5149b20b57ca0057edde1fab6c1f8e", func := "pleach/pleachlaw2.PathOnce", spec := "pathOnce", apart := false, narrowed := true }
def PathOnceUptoSaid : Prop := pathOnceUptoRow.holds Try.pinned (OpenSpec.upto pathOnceSpec)

/-- 'pleachlaw2.PathForms', WHERE WHAT IT READS IS OF BULK AT MOST 1048576: true; the input reads as it did. -/
def pathFormsUptoRow : OpenClaim := { program := "ytncbinaaagmmaaa", sum := "46be1904080f518fff4d944fb6e48f53ff5149b20b57ca0057edde1fab6c1f8e", func := "pleach/pleachlaw2.PathForms", spec := "pathForms", apart := false, narrowed := true }
def PathFormsUptoSaid : Prop := pathFormsUptoRow.holds Try.pinned (OpenSpec.upto pathFormsSpec)

/-- 'pleachlaw2.PathFronts', WHERE WHAT IT READS IS OF BULK AT MOST 1048576: true; the input reads as it did. -/
def pathFrontsUptoRow : OpenClaim := { program := "ytncbinaaagmmaaa", sum := "46be1904080f518fff4d944fb6e48f53ff5149b20b57ca0057edde1fab6c1f8e", func := "pleach/pleachlaw2.PathFronts", spec := "pathFronts", apart := false, narrowed := true }
def PathFrontsUptoSaid : Prop := pathFrontsUptoRow.holds Try.pinned (OpenSpec.upto pathFrontsSpec)

end Rows
end Go.Proofs.Ytncbinaaagmmaaa
