/-
  No cell of these rows narrows 'for every input' (looked for: loops, veiled, ifaces, maps, wideKeys, modest, calm, conditions, laid).
  DERIVED. THE GIVEN ROWS OF THIS SEAT. 11 by the template 'for every input the law returns true; each argument reads behind the call as it read before'; 0 by the template 'total and deterministic' (their statements: YtccgolmdhikdoaaTotals.lean).
  GIVEN WITH THE SEED: the statements are not yours to turn. If you find one false, say at which input.
  Laid BY PROGRAM, IN A SANDBOX (cutbox-rows.mjs): the forced cells as the released guide's own fill.sh prints them over the translation b39a689291c3689f… (all of the seat's roots in one cut). By AI agents, Wed Nov 11 2026. No macro, syntax, notation, axiom, sorry.
-/
import Derived.Test.YtccgolmdhikdoaaChecked
import GoSem.Claim
import GoSem.ClaimJoined
import GoSem.ClaimMapViews
import Derived.JoinedTies
import Derived.KernelRfl
namespace Go.Proofs.Ytccgolmdhikdoaa
/- THE CELL 'sum', in the pinned program and in every row, IS THE sha256 OF THE DUMP (.gsa) THAT YtccgolmdhikdoaaProg.lean LOADS. Nothing in Lean hashes anything: it is a label: what it is worth is what the hold of that sum in a sandbox is worth. -/
noncomputable def Try.pinned : Pinned := { name := "ytccgolmdhikdoaa", sum := "b39a689291c3689f3d683c6e7978d86539a2a681f2755f6b24a85841863c4dd7", checked := Try.checked }
namespace Rows
def none {H : Type} : Left H := { results := [], args := [] }

/-- 'pleachlaw17.NakAll': WHATEVER THE INPUT: true; the input reads as it did. -/
def nakAllSpec : ChangeSpec := { name := "nakAll", fn := fun _ => fun
  | [d1, d2, d3, d4, d5, d6] => { results := [.lit (.bool true)], args := [d1, d2, d3, d4, d5, d6] }
  | _ => none }
def nakAllRow : OpenClaim := { program := "ytccgolmdhikdoaa", sum := "b39a689291c3689f3d683c6e7978d86539a2a681f2755f6b24a85841863c4dd7", func := "pleach/pleachlaw17.NakAll", spec := "nakAll", unfollowed := true, recurses := true, apart := false }
def NakAllSaid : Prop := nakAllRow.holds Try.pinned (OpenSpec.ofChange nakAllSpec)

/-- ITS FALSE NEIGHBOUR: 'it returns false'. Refute it at one input. -/
def nakAllWrong : ChangeSpec := { name := "nakAll", fn := fun _ => fun
  | [d1, d2, d3, d4, d5, d6] => { results := [.lit (.bool false)], args := [d1, d2, d3, d4, d5, d6] }
  | _ => none }
def NakAllWrongFalsely : Prop := nakAllRow.holds Try.pinned (OpenSpec.ofChange nakAllWrong)

/-- 'pleachlaw17.NakKept': WHATEVER THE INPUT: true; the input reads as it did. -/
def nakKeptSpec : ChangeSpec := { name := "nakKept", fn := fun _ => fun
  | [d1, d2] => { results := [.lit (.bool true)], args := [d1, d2] }
  | _ => none }
def nakKeptRow : OpenClaim := { program := "ytccgolmdhikdoaa", sum := "b39a689291c3689f3d683c6e7978d86539a2a681f2755f6b24a85841863c4dd7", func := "pleach/pleachlaw17.NakKept", spec := "nakKept", unfollowed := true, recurses := true, apart := false }
def NakKeptSaid : Prop := nakKeptRow.holds Try.pinned (OpenSpec.ofChange nakKeptSpec)

/-- ITS FALSE NEIGHBOUR: 'it returns false'. Refute it at one input. -/
def nakKeptWrong : ChangeSpec := { name := "nakKept", fn := fun _ => fun
  | [d1, d2] => { results := [.lit (.bool false)], args := [d1, d2] }
  | _ => none }
def NakKeptWrongFalsely : Prop := nakKeptRow.holds Try.pinned (OpenSpec.ofChange nakKeptWrong)

/-- 'pleachlaw17.NakServes': WHATEVER THE INPUT: true; the input reads as it did. -/
def nakServesSpec : ChangeSpec := { name := "nakServes", fn := fun _ => fun
  | [d1, d2, d3] => { results := [.lit (.bool true)], args := [d1, d2, d3] }
  | _ => none }
def nakServesRow : OpenClaim := { program := "ytccgolmdhikdoaa", sum := "b39a689291c3689f3d683c6e7978d86539a2a681f2755f6b24a85841863c4dd7", func := "pleach/pleachlaw17.NakServes", spec := "nakServes", unfollowed := true, recurses := true, apart := false }
def NakServesSaid : Prop := nakServesRow.holds Try.pinned (OpenSpec.ofChange nakServesSpec)

/-- ITS FALSE NEIGHBOUR: 'it returns false'. Refute it at one input. -/
def nakServesWrong : ChangeSpec := { name := "nakServes", fn := fun _ => fun
  | [d1, d2, d3] => { results := [.lit (.bool false)], args := [d1, d2, d3] }
  | _ => none }
def NakServesWrongFalsely : Prop := nakServesRow.holds Try.pinned (OpenSpec.ofChange nakServesWrong)

/-- 'pleachlaw17.NakForms': WHATEVER THE INPUT: true; the input reads as it did. -/
def nakFormsSpec : ChangeSpec := { name := "nakForms", fn := fun _ => fun
  | [] => { results := [.lit (.bool true)], args := [] }
  | _ => none }
def nakFormsRow : OpenClaim := { program := "ytccgolmdhikdoaa", sum := "b39a689291c3689f3d683c6e7978d86539a2a681f2755f6b24a85841863c4dd7", func := "pleach/pleachlaw17.NakForms", spec := "nakForms", unfollowed := true, recurses := true, apart := false }
def NakFormsSaid : Prop := nakFormsRow.holds Try.pinned (OpenSpec.ofChange nakFormsSpec)

/-- ITS FALSE NEIGHBOUR: 'it returns false'. Refute it at one input. -/
def nakFormsWrong : ChangeSpec := { name := "nakForms", fn := fun _ => fun
  | [] => { results := [.lit (.bool false)], args := [] }
  | _ => none }
def NakFormsWrongFalsely : Prop := nakFormsRow.holds Try.pinned (OpenSpec.ofChange nakFormsWrong)

/-- 'pleachlaw17.NakCatches': WHATEVER THE INPUT: true; the input reads as it did. -/
def nakCatchesSpec : ChangeSpec := { name := "nakCatches", fn := fun _ => fun
  | [d1, d2] => { results := [.lit (.bool true)], args := [d1, d2] }
  | _ => none }
def nakCatchesRow : OpenClaim := { program := "ytccgolmdhikdoaa", sum := "b39a689291c3689f3d683c6e7978d86539a2a681f2755f6b24a85841863c4dd7", func := "pleach/pleachlaw17.NakCatches", spec := "nakCatches", unfollowed := true, recurses := true, apart := false }
def NakCatchesSaid : Prop := nakCatchesRow.holds Try.pinned (OpenSpec.ofChange nakCatchesSpec)

/-- ITS FALSE NEIGHBOUR: 'it returns false'. Refute it at one input. -/
def nakCatchesWrong : ChangeSpec := { name := "nakCatches", fn := fun _ => fun
  | [d1, d2] => { results := [.lit (.bool false)], args := [d1, d2] }
  | _ => none }
def NakCatchesWrongFalsely : Prop := nakCatchesRow.holds Try.pinned (OpenSpec.ofChange nakCatchesWrong)

/-- 'pleachlaw16.LogAll': WHATEVER THE INPUT: true; the input reads as it did. -/
def logAllSpec : ChangeSpec := { name := "logAll", fn := fun _ => fun
  | [d1, d2, d3, d4, d5, d6, d7] => { results := [.lit (.bool true)], args := [d1, d2, d3, d4, d5, d6, d7] }
  | _ => none }
def logAllRow : OpenClaim := { program := "ytccgolmdhikdoaa", sum := "b39a689291c3689f3d683c6e7978d86539a2a681f2755f6b24a85841863c4dd7", func := "pleach/pleachlaw16.LogAll", spec := "logAll", inPlace := ["slices.overlaps[pleach/api.Span]"], unfollowed := true, recurses := true, apart := false }
def LogAllSaid : Prop := logAllRow.holds Try.pinned (OpenSpec.ofChange logAllSpec)

/-- ITS FALSE NEIGHBOUR: 'it returns false'. Refute it at one input. -/
def logAllWrong : ChangeSpec := { name := "logAll", fn := fun _ => fun
  | [d1, d2, d3, d4, d5, d6, d7] => { results := [.lit (.bool false)], args := [d1, d2, d3, d4, d5, d6, d7] }
  | _ => none }
def LogAllWrongFalsely : Prop := logAllRow.holds Try.pinned (OpenSpec.ofChange logAllWrong)

/-- 'pleachlaw16.LogWhole': WHATEVER THE INPUT: true; the input reads as it did. -/
def logWholeSpec : ChangeSpec := { name := "logWhole", fn := fun _ => fun
  | [d1, d2, d3] => { results := [.lit (.bool true)], args := [d1, d2, d3] }
  | _ => none }
def logWholeRow : OpenClaim := { program := "ytccgolmdhikdoaa", sum := "b39a689291c3689f3d683c6e7978d86539a2a681f2755f6b24a85841863c4dd7", func := "pleach/pleachlaw16.LogWhole", spec := "logWhole", inPlace := ["slices.overlaps[pleach/api.Span]"], unfollowed := true, recurses := true, apart := false }
def LogWholeSaid : Prop := logWholeRow.holds Try.pinned (OpenSpec.ofChange logWholeSpec)

/-- ITS FALSE NEIGHBOUR: 'it returns false'. Refute it at one input. -/
def logWholeWrong : ChangeSpec := { name := "logWhole", fn := fun _ => fun
  | [d1, d2, d3] => { results := [.lit (.bool false)], args := [d1, d2, d3] }
  | _ => none }
def LogWholeWrongFalsely : Prop := logWholeRow.holds Try.pinned (OpenSpec.ofChange logWholeWrong)

/-- 'pleachlaw16.LogForms': WHATEVER THE INPUT: true; the input reads as it did. -/
def logFormsSpec : ChangeSpec := { name := "logForms", fn := fun _ => fun
  | [] => { results := [.lit (.bool true)], args := [] }
  | _ => none }
def logFormsRow : OpenClaim := { program := "ytccgolmdhikdoaa", sum := "b39a689291c3689f3d683c6e7978d86539a2a681f2755f6b24a85841863c4dd7", func := "pleach/pleachlaw16.LogForms", spec := "logForms", inPlace := ["slices.overlaps[pleach/api.Span]"], unfollowed := true, recurses := true, apart := false }
def LogFormsSaid : Prop := logFormsRow.holds Try.pinned (OpenSpec.ofChange logFormsSpec)

/-- ITS FALSE NEIGHBOUR: 'it returns false'. Refute it at one input. -/
def logFormsWrong : ChangeSpec := { name := "logForms", fn := fun _ => fun
  | [] => { results := [.lit (.bool false)], args := [] }
  | _ => none }
def LogFormsWrongFalsely : Prop := logFormsRow.holds Try.pinned (OpenSpec.ofChange logFormsWrong)

/-- 'pleachlaw16.LogCut': WHATEVER THE INPUT: true; the input reads as it did. -/
def logCutSpec : ChangeSpec := { name := "logCut", fn := fun _ => fun
  | [d1, d2, d3] => { results := [.lit (.bool true)], args := [d1, d2, d3] }
  | _ => none }
def logCutRow : OpenClaim := { program := "ytccgolmdhikdoaa", sum := "b39a689291c3689f3d683c6e7978d86539a2a681f2755f6b24a85841863c4dd7", func := "pleach/pleachlaw16.LogCut", spec := "logCut", inPlace := ["slices.overlaps[pleach/api.Span]"], unfollowed := true, recurses := true, apart := false }
def LogCutSaid : Prop := logCutRow.holds Try.pinned (OpenSpec.ofChange logCutSpec)

/-- ITS FALSE NEIGHBOUR: 'it returns false'. Refute it at one input. -/
def logCutWrong : ChangeSpec := { name := "logCut", fn := fun _ => fun
  | [d1, d2, d3] => { results := [.lit (.bool false)], args := [d1, d2, d3] }
  | _ => none }
def LogCutWrongFalsely : Prop := logCutRow.holds Try.pinned (OpenSpec.ofChange logCutWrong)

/-- 'pleachlaw6.KidsHeard': WHATEVER THE INPUT: true; the input reads as it did. -/
def kidsHeardSpec : ChangeSpec := { name := "kidsHeard", fn := fun _ => fun
  | [d1, d2] => { results := [.lit (.bool true)], args := [d1, d2] }
  | _ => none }
def kidsHeardRow : OpenClaim := { program := "ytccgolmdhikdoaa", sum := "b39a689291c3689f3d683c6e7978d86539a2a681f2755f6b24a85841863c4dd7", func := "pleach/pleachlaw6.KidsHeard", spec := "kidsHeard", inPlace := ["slices.overlaps[pleach/api.Kid]"], unfollowed := true, recurses := true, apart := false }
def KidsHeardSaid : Prop := kidsHeardRow.holds Try.pinned (OpenSpec.ofChange kidsHeardSpec)

/-- ITS FALSE NEIGHBOUR: 'it returns false'. Refute it at one input. -/
def kidsHeardWrong : ChangeSpec := { name := "kidsHeard", fn := fun _ => fun
  | [d1, d2] => { results := [.lit (.bool false)], args := [d1, d2] }
  | _ => none }
def KidsHeardWrongFalsely : Prop := kidsHeardRow.holds Try.pinned (OpenSpec.ofChange kidsHeardWrong)

/-- 'pleachlaw6.KidsForms': WHATEVER THE INPUT: true; the input reads as it did. -/
def kidsFormsSpec : ChangeSpec := { name := "kidsForms", fn := fun _ => fun
  | [] => { results := [.lit (.bool true)], args := [] }
  | _ => none }
def kidsFormsRow : OpenClaim := { program := "ytccgolmdhikdoaa", sum := "b39a689291c3689f3d683c6e7978d86539a2a681f2755f6b24a85841863c4dd7", func := "pleach/pleachlaw6.KidsForms", spec := "kidsForms", inPlace := ["slices.overlaps[pleach/api.Kid]"], unfollowed := true, recurses := true, apart := false }
def KidsFormsSaid : Prop := kidsFormsRow.holds Try.pinned (OpenSpec.ofChange kidsFormsSpec)

/-- ITS FALSE NEIGHBOUR: 'it returns false'. Refute it at one input. -/
def kidsFormsWrong : ChangeSpec := { name := "kidsForms", fn := fun _ => fun
  | [] => { results := [.lit (.bool false)], args := [] }
  | _ => none }
def KidsFormsWrongFalsely : Prop := kidsFormsRow.holds Try.pinned (OpenSpec.ofChange kidsFormsWrong)

/- THE SECOND FORM. 'bulk': how many values and letters a reading holds, each counted each time it is reached (what is shared counts as often as it is met; a slice's spare places count too). A statement '..UptoSaid' is the law's where the arguments, and the package variables that the reading takes, are together of bulk at most 1048576: NARROWER than '..Said'. Prove '..Said' where nothing that the law and all that it calls make is longer than what came in: it says more and counts as full. Else prove '..UptoSaid'. A law counts once. -/
mutual
def uptoBulk {H : Type} : DataW H → Nat
  | .lit (.string bytes) => bytes.length + 1
  | .lit _ => 1
  | .nil => 1
  | .ptr d => uptoBulk d + 1
  | .slice elems spare => uptoBulkAll elems + uptoBulkAll spare + 1
  | .agg parts => uptoBulkAll parts + 1
  | .iface _ d => uptoBulk d + 1
  | .map entries => uptoBulkEntries entries + 1
  | .held _ => 1
def uptoBulkAll {H : Type} : List (DataW H) → Nat
  | [] => 0
  | d :: r => uptoBulk d + uptoBulkAll r
def uptoBulkEntries {H : Type} : List (Lit × DataW H) → Nat
  | [] => 0
  | x :: r => uptoBulkEntry x + uptoBulkEntries r
def uptoBulkEntry {H : Type} : Lit × DataW H → Nat
  | (.string bytes, d) => bytes.length + uptoBulk d + 1
  | (_, d) => uptoBulk d + 1
 end
def uptoSmall : (H : Type) → List (DataW H) → Bool := fun _ ds => decide (uptoBulkAll ds ≤ 1048576)
def OpenSpec.upto (s : _root_.Go.ChangeSpec) : _root_.Go.OpenSpec := { _root_.Go.OpenSpec.ofChange s with cond := some uptoSmall }

/-- 'pleachlaw17.NakAll', WHERE WHAT IT READS IS OF BULK AT MOST 1048576: true; the input reads as it did. -/
def nakAllUptoRow : OpenClaim := { program := "ytccgolmdhikdoaa", sum := "b39a689291c3689f3d683c6e7978d86539a2a681f2755f6b24a85841863c4dd7", func := "pleach/pleachlaw17.NakAll", spec := "nakAll", unfollowed := true, recurses := true, apart := false, narrowed := true }
def NakAllUptoSaid : Prop := nakAllUptoRow.holds Try.pinned (OpenSpec.upto nakAllSpec)

/-- 'pleachlaw17.NakKept', WHERE WHAT IT READS IS OF BULK AT MOST 1048576: true; the input reads as it did. -/
def nakKeptUptoRow : OpenClaim := { program := "ytccgolmdhikdoaa", sum := "b39a689291c3689f3d683c6e7978d86539a2a681f2755f6b24a85841863c4dd7", func := "pleach/pleachlaw17.NakKept", spec := "nakKept", unfollowed := true, recurses := true, apart := false, narrowed := true }
def NakKeptUptoSaid : Prop := nakKeptUptoRow.holds Try.pinned (OpenSpec.upto nakKeptSpec)

/-- 'pleachlaw17.NakServes', WHERE WHAT IT READS IS OF BULK AT MOST 1048576: true; the input reads as it did. -/
def nakServesUptoRow : OpenClaim := { program := "ytccgolmdhikdoaa", sum := "b39a689291c3689f3d683c6e7978d86539a2a681f2755f6b24a85841863c4dd7", func := "pleach/pleachlaw17.NakServes", spec := "nakServes", unfollowed := true, recurses := true, apart := false, narrowed := true }
def NakServesUptoSaid : Prop := nakServesUptoRow.holds Try.pinned (OpenSpec.upto nakServesSpec)

/-- 'pleachlaw17.NakForms', WHERE WHAT IT READS IS OF BULK AT MOST 1048576: true; the input reads as it did. -/
def nakFormsUptoRow : OpenClaim := { program := "ytccgolmdhikdoaa", sum := "b39a689291c3689f3d683c6e7978d86539a2a681f2755f6b24a85841863c4dd7", func := "pleach/pleachlaw17.NakForms", spec := "nakForms", unfollowed := true, recurses := true, apart := false, narrowed := true }
def NakFormsUptoSaid : Prop := nakFormsUptoRow.holds Try.pinned (OpenSpec.upto nakFormsSpec)

/-- 'pleachlaw17.NakCatches', WHERE WHAT IT READS IS OF BULK AT MOST 1048576: true; the input reads as it did. -/
def nakCatchesUptoRow : OpenClaim := { program := "ytccgolmdhikdoaa", sum := "b39a689291c3689f3d683c6e7978d86539a2a681f2755f6b24a85841863c4dd7", func := "pleach/pleachlaw17.NakCatches", spec := "nakCatches", unfollowed := true, recurses := true, apart := false, narrowed := true }
def NakCatchesUptoSaid : Prop := nakCatchesUptoRow.holds Try.pinned (OpenSpec.upto nakCatchesSpec)

/-- 'pleachlaw16.LogAll', WHERE WHAT IT READS IS OF BULK AT MOST 1048576: true; the input reads as it did. -/
def logAllUptoRow : OpenClaim := { program := "ytccgolmdhikdoaa", sum := "b39a689291c3689f3d683c6e7978d86539a2a681f2755f6b24a85841863c4dd7", func := "pleach/pleachlaw16.LogAll", spec := "logAll", inPlace := ["slices.overlaps[pleach/api.Span]"], unfollowed := true, recurses := true, apart := false, narrowed := true }
def LogAllUptoSaid : Prop := logAllUptoRow.holds Try.pinned (OpenSpec.upto logAllSpec)

/-- 'pleachlaw16.LogWhole', WHERE WHAT IT READS IS OF BULK AT MOST 1048576: true; the input reads as it did. -/
def logWholeUptoRow : OpenClaim := { program := "ytccgolmdhikdoaa", sum := "b39a689291c3689f3d683c6e7978d86539a2a681f2755f6b24a85841863c4dd7", func := "pleach/pleachlaw16.LogWhole", spec := "logWhole", inPlace := ["slices.overlaps[pleach/api.Span]"], unfollowed := true, recurses := true, apart := false, narrowed := true }
def LogWholeUptoSaid : Prop := logWholeUptoRow.holds Try.pinned (OpenSpec.upto logWholeSpec)

/-- 'pleachlaw16.LogForms', WHERE WHAT IT READS IS OF BULK AT MOST 1048576: true; the input reads as it did. -/
def logFormsUptoRow : OpenClaim := { program := "ytccgolmdhikdoaa", sum := "b39a689291c3689f3d683c6e7978d86539a2a681f2755f6b24a85841863c4dd7", func := "pleach/pleachlaw16.LogForms", spec := "logForms", inPlace := ["slices.overlaps[pleach/api.Span]"], unfollowed := true, recurses := true, apart := false, narrowed := true }
def LogFormsUptoSaid : Prop := logFormsUptoRow.holds Try.pinned (OpenSpec.upto logFormsSpec)

/-- 'pleachlaw16.LogCut', WHERE WHAT IT READS IS OF BULK AT MOST 1048576: true; the input reads as it did. -/
def logCutUptoRow : OpenClaim := { program := "ytccgolmdhikdoaa", sum := "b39a689291c3689f3d683c6e7978d86539a2a681f2755f6b24a85841863c4dd7", func := "pleach/pleachlaw16.LogCut", spec := "logCut", inPlace := ["slices.overlaps[pleach/api.Span]"], unfollowed := true, recurses := true, apart := false, narrowed := true }
def LogCutUptoSaid : Prop := logCutUptoRow.holds Try.pinned (OpenSpec.upto logCutSpec)

/-- 'pleachlaw6.KidsHeard', WHERE WHAT IT READS IS OF BULK AT MOST 1048576: true; the input reads as it did. -/
def kidsHeardUptoRow : OpenClaim := { program := "ytccgolmdhikdoaa", sum := "b39a689291c3689f3d683c6e7978d86539a2a681f2755f6b24a85841863c4dd7", func := "pleach/pleachlaw6.KidsHeard", spec := "kidsHeard", inPlace := ["slices.overlaps[pleach/api.Kid]"], unfollowed := true, recurses := true, apart := false, narrowed := true }
def KidsHeardUptoSaid : Prop := kidsHeardUptoRow.holds Try.pinned (OpenSpec.upto kidsHeardSpec)

/-- 'pleachlaw6.KidsForms', WHERE WHAT IT READS IS OF BULK AT MOST 1048576: true; the input reads as it did. -/
def kidsFormsUptoRow : OpenClaim := { program := "ytccgolmdhikdoaa", sum := "b39a689291c3689f3d683c6e7978d86539a2a681f2755f6b24a85841863c4dd7", func := "pleach/pleachlaw6.KidsForms", spec := "kidsForms", inPlace := ["slices.overlaps[pleach/api.Kid]"], unfollowed := true, recurses := true, apart := false, narrowed := true }
def KidsFormsUptoSaid : Prop := kidsFormsUptoRow.holds Try.pinned (OpenSpec.upto kidsFormsSpec)

end Rows
end Go.Proofs.Ytccgolmdhikdoaa
