/-
  No cell of these rows narrows 'for every input' (looked for: loops, veiled, ifaces, maps, wideKeys, modest, calm, conditions, laid).
  DERIVED. THE GIVEN ROWS OF THIS SEAT. 8 by the template 'for every input the law returns true; each argument reads behind the call as it read before'; 0 by the template 'total and deterministic' (their statements: YtdbbdfmkglgjdaaTotals.lean).
  GIVEN WITH THE SEED: the statements are not yours to turn. If you find one false, say at which input.
  Laid BY PROGRAM, IN A SANDBOX (cutbox-rows.mjs): the forced cells as the released guide's own fill.sh prints them over the translation f26440b7eeba3f3d… (all of the seat's roots in one cut). By AI agents, Wed Nov 11 2026. No macro, syntax, notation, axiom, sorry.
-/
import Derived.Test.YtdbbdfmkglgjdaaChecked
import GoSem.Claim
import GoSem.ClaimJoined
import GoSem.ClaimMapViews
import Derived.JoinedTies
import Derived.KernelRfl
namespace Go.Proofs.Ytdbbdfmkglgjdaa
/- THE CELL 'sum', in the pinned program and in every row, IS THE sha256 OF THE DUMP (.gsa) THAT YtdbbdfmkglgjdaaProg.lean LOADS. Nothing in Lean hashes anything: it is a label: what it is worth is what the hold of that sum in a sandbox is worth. -/
noncomputable def Try.pinned : Pinned := { name := "ytdbbdfmkglgjdaa", sum := "f26440b7eeba3f3df4163134d47fd5c90df1423bbe2b0c0b6a965bfe05cc2787", checked := Try.checked }
namespace Rows
def none {H : Type} : Left H := { results := [], args := [] }

/-- 'pleachlaw19.TieAll': WHATEVER THE INPUT: true; the input reads as it did. -/
def tieAllSpec : ChangeSpec := { name := "tieAll", fn := fun _ => fun
  | [d1, d2, d3, d4] => { results := [.lit (.bool true)], args := [d1, d2, d3, d4] }
  | _ => none }
def tieAllRow : OpenClaim := { program := "ytdbbdfmkglgjdaa", sum := "f26440b7eeba3f3df4163134d47fd5c90df1423bbe2b0c0b6a965bfe05cc2787", func := "pleach/pleachlaw19.TieAll", spec := "tieAll", inPlace := ["slices.overlaps[pleach/api.Kid]"], unfollowed := true, recurses := true, apart := false }
def TieAllSaid : Prop := tieAllRow.holds Try.pinned (OpenSpec.ofChange tieAllSpec)

/-- ITS FALSE NEIGHBOUR: 'it returns false'. Refute it at one input. -/
def tieAllWrong : ChangeSpec := { name := "tieAll", fn := fun _ => fun
  | [d1, d2, d3, d4] => { results := [.lit (.bool false)], args := [d1, d2, d3, d4] }
  | _ => none }
def TieAllWrongFalsely : Prop := tieAllRow.holds Try.pinned (OpenSpec.ofChange tieAllWrong)

/-- 'pleachlaw19.TieWays': WHATEVER THE INPUT: true; the input reads as it did. -/
def tieWaysSpec : ChangeSpec := { name := "tieWays", fn := fun _ => fun
  | [d1, d2] => { results := [.lit (.bool true)], args := [d1, d2] }
  | _ => none }
def tieWaysRow : OpenClaim := { program := "ytdbbdfmkglgjdaa", sum := "f26440b7eeba3f3df4163134d47fd5c90df1423bbe2b0c0b6a965bfe05cc2787", func := "pleach/pleachlaw19.TieWays", spec := "tieWays", inPlace := ["slices.overlaps[pleach/api.Kid]"], unfollowed := true, recurses := true, apart := false }
def TieWaysSaid : Prop := tieWaysRow.holds Try.pinned (OpenSpec.ofChange tieWaysSpec)

/-- ITS FALSE NEIGHBOUR: 'it returns false'. Refute it at one input. -/
def tieWaysWrong : ChangeSpec := { name := "tieWays", fn := fun _ => fun
  | [d1, d2] => { results := [.lit (.bool false)], args := [d1, d2] }
  | _ => none }
def TieWaysWrongFalsely : Prop := tieWaysRow.holds Try.pinned (OpenSpec.ofChange tieWaysWrong)

/-- 'pleachlaw19.TieAges': WHATEVER THE INPUT: true; the input reads as it did. -/
def tieAgesSpec : ChangeSpec := { name := "tieAges", fn := fun _ => fun
  | [d1, d2] => { results := [.lit (.bool true)], args := [d1, d2] }
  | _ => none }
def tieAgesRow : OpenClaim := { program := "ytdbbdfmkglgjdaa", sum := "f26440b7eeba3f3df4163134d47fd5c90df1423bbe2b0c0b6a965bfe05cc2787", func := "pleach/pleachlaw19.TieAges", spec := "tieAges", inPlace := ["slices.overlaps[pleach/api.Kid]"], unfollowed := true, recurses := true, apart := false }
def TieAgesSaid : Prop := tieAgesRow.holds Try.pinned (OpenSpec.ofChange tieAgesSpec)

/-- ITS FALSE NEIGHBOUR: 'it returns false'. Refute it at one input. -/
def tieAgesWrong : ChangeSpec := { name := "tieAges", fn := fun _ => fun
  | [d1, d2] => { results := [.lit (.bool false)], args := [d1, d2] }
  | _ => none }
def TieAgesWrongFalsely : Prop := tieAgesRow.holds Try.pinned (OpenSpec.ofChange tieAgesWrong)

/-- 'pleachlaw19.TieAsks': WHATEVER THE INPUT: true; the input reads as it did. -/
def tieAsksSpec : ChangeSpec := { name := "tieAsks", fn := fun _ => fun
  | [d1, d2, d3] => { results := [.lit (.bool true)], args := [d1, d2, d3] }
  | _ => none }
def tieAsksRow : OpenClaim := { program := "ytdbbdfmkglgjdaa", sum := "f26440b7eeba3f3df4163134d47fd5c90df1423bbe2b0c0b6a965bfe05cc2787", func := "pleach/pleachlaw19.TieAsks", spec := "tieAsks", inPlace := ["slices.overlaps[pleach/api.Kid]"], unfollowed := true, recurses := true, apart := false }
def TieAsksSaid : Prop := tieAsksRow.holds Try.pinned (OpenSpec.ofChange tieAsksSpec)

/-- ITS FALSE NEIGHBOUR: 'it returns false'. Refute it at one input. -/
def tieAsksWrong : ChangeSpec := { name := "tieAsks", fn := fun _ => fun
  | [d1, d2, d3] => { results := [.lit (.bool false)], args := [d1, d2, d3] }
  | _ => none }
def TieAsksWrongFalsely : Prop := tieAsksRow.holds Try.pinned (OpenSpec.ofChange tieAsksWrong)

/-- 'pleachlaw19.TieForms': WHATEVER THE INPUT: true; the input reads as it did. -/
def tieFormsSpec : ChangeSpec := { name := "tieForms", fn := fun _ => fun
  | [] => { results := [.lit (.bool true)], args := [] }
  | _ => none }
def tieFormsRow : OpenClaim := { program := "ytdbbdfmkglgjdaa", sum := "f26440b7eeba3f3df4163134d47fd5c90df1423bbe2b0c0b6a965bfe05cc2787", func := "pleach/pleachlaw19.TieForms", spec := "tieForms", inPlace := ["slices.overlaps[pleach/api.Kid]"], unfollowed := true, recurses := true, apart := false }
def TieFormsSaid : Prop := tieFormsRow.holds Try.pinned (OpenSpec.ofChange tieFormsSpec)

/-- ITS FALSE NEIGHBOUR: 'it returns false'. Refute it at one input. -/
def tieFormsWrong : ChangeSpec := { name := "tieForms", fn := fun _ => fun
  | [] => { results := [.lit (.bool false)], args := [] }
  | _ => none }
def TieFormsWrongFalsely : Prop := tieFormsRow.holds Try.pinned (OpenSpec.ofChange tieFormsWrong)

/-- 'pleachlaw19.TieKids': WHATEVER THE INPUT: true; the input reads as it did. -/
def tieKidsSpec : ChangeSpec := { name := "tieKids", fn := fun _ => fun
  | [] => { results := [.lit (.bool true)], args := [] }
  | _ => none }
def tieKidsRow : OpenClaim := { program := "ytdbbdfmkglgjdaa", sum := "f26440b7eeba3f3df4163134d47fd5c90df1423bbe2b0c0b6a965bfe05cc2787", func := "pleach/pleachlaw19.TieKids", spec := "tieKids", inPlace := ["slices.overlaps[pleach/api.Kid]"], unfollowed := true, recurses := true, apart := false }
def TieKidsSaid : Prop := tieKidsRow.holds Try.pinned (OpenSpec.ofChange tieKidsSpec)

/-- ITS FALSE NEIGHBOUR: 'it returns false'. Refute it at one input. -/
def tieKidsWrong : ChangeSpec := { name := "tieKids", fn := fun _ => fun
  | [] => { results := [.lit (.bool false)], args := [] }
  | _ => none }
def TieKidsWrongFalsely : Prop := tieKidsRow.holds Try.pinned (OpenSpec.ofChange tieKidsWrong)

/-- 'pleachlaw19.TieRoot': WHATEVER THE INPUT: true; the input reads as it did. -/
def tieRootSpec : ChangeSpec := { name := "tieRoot", fn := fun _ => fun
  | [d] => { results := [.lit (.bool true)], args := [d] }
  | _ => none }
def tieRootRow : OpenClaim := { program := "ytdbbdfmkglgjdaa", sum := "f26440b7eeba3f3df4163134d47fd5c90df1423bbe2b0c0b6a965bfe05cc2787", func := "pleach/pleachlaw19.TieRoot", spec := "tieRoot", inPlace := ["slices.overlaps[pleach/api.Kid]"], unfollowed := true, recurses := true, apart := false }
def TieRootSaid : Prop := tieRootRow.holds Try.pinned (OpenSpec.ofChange tieRootSpec)

/-- ITS FALSE NEIGHBOUR: 'it returns false'. Refute it at one input. -/
def tieRootWrong : ChangeSpec := { name := "tieRoot", fn := fun _ => fun
  | [d] => { results := [.lit (.bool false)], args := [d] }
  | _ => none }
def TieRootWrongFalsely : Prop := tieRootRow.holds Try.pinned (OpenSpec.ofChange tieRootWrong)

/-- 'pleachlaw19.TieHangs': WHATEVER THE INPUT: true; the input reads as it did. -/
def tieHangsSpec : ChangeSpec := { name := "tieHangs", fn := fun _ => fun
  | [d1, d2, d3, d4, d5] => { results := [.lit (.bool true)], args := [d1, d2, d3, d4, d5] }
  | _ => none }
def tieHangsRow : OpenClaim := { program := "ytdbbdfmkglgjdaa", sum := "f26440b7eeba3f3df4163134d47fd5c90df1423bbe2b0c0b6a965bfe05cc2787", func := "pleach/pleachlaw19.TieHangs", spec := "tieHangs", inPlace := ["slices.overlaps[pleach/api.Kid]"], unfollowed := true, recurses := true, apart := false }
def TieHangsSaid : Prop := tieHangsRow.holds Try.pinned (OpenSpec.ofChange tieHangsSpec)

/-- ITS FALSE NEIGHBOUR: 'it returns false'. Refute it at one input. -/
def tieHangsWrong : ChangeSpec := { name := "tieHangs", fn := fun _ => fun
  | [d1, d2, d3, d4, d5] => { results := [.lit (.bool false)], args := [d1, d2, d3, d4, d5] }
  | _ => none }
def TieHangsWrongFalsely : Prop := tieHangsRow.holds Try.pinned (OpenSpec.ofChange tieHangsWrong)

/- THE SECOND FORM. 'bulk': how many values and letters a reading holds, each counted each time it is reached (what is shared counts as often as it is met; a slice's spare places count too). A statement '..UptoSaid' is the law's where the arguments, and the package variables that the reading takes, are together of bulk at most 1048576: NARROWER than '..Said'. Prove '..Said' where nothing that the law and all that it calls make is longer than what came in: it says more and counts as full. Else prove '..UptoSaid'. A law counts once. -/
mutual
def uptoBulk {H : Type} : DataW H → Nat
  | .lit (.string bytes) => bytes.length + 1
  | .lit _ => 1
  | .nil => 1
  | .ptr d => uptoBulk d + 1
  | .slice elems spare => uptoBulkAll elems + uptoBulkAll spare + 1
  | .agg parts => uptoBulkAll parts + 1
  | .iface _ d => uptoBulk d + 1
  | .map entries => uptoBulkEntries entries + 1
  | .held _ => 1
def uptoBulkAll {H : Type} : List (DataW H) → Nat
  | [] => 0
  | d :: r => uptoBulk d + uptoBulkAll r
def uptoBulkEntries {H : Type} : List (Lit × DataW H) → Nat
  | [] => 0
  | x :: r => uptoBulkEntry x + uptoBulkEntries r
def uptoBulkEntry {H : Type} : Lit × DataW H → Nat
  | (.string bytes, d) => bytes.length + uptoBulk d + 1
  | (_, d) => uptoBulk d + 1
 end
def uptoSmall : (H : Type) → List (DataW H) → Bool := fun _ ds => decide (uptoBulkAll ds ≤ 1048576)
def OpenSpec.upto (s : _root_.Go.ChangeSpec) : _root_.Go.OpenSpec := { _root_.Go.OpenSpec.ofChange s with cond := some uptoSmall }

/-- 'pleachlaw19.TieAll', WHERE WHAT IT READS IS OF BULK AT MOST 1048576: true; the input reads as it did. -/
def tieAllUptoRow : OpenClaim := { program := "ytdbbdfmkglgjdaa", sum := "f26440b7eeba3f3df4163134d47fd5c90df1423bbe2b0c0b6a965bfe05cc2787", func := "pleach/pleachlaw19.TieAll", spec := "tieAll", inPlace := ["slices.overlaps[pleach/api.Kid]"], unfollowed := true, recurses := true, apart := false, narrowed := true }
def TieAllUptoSaid : Prop := tieAllUptoRow.holds Try.pinned (OpenSpec.upto tieAllSpec)

/-- 'pleachlaw19.TieWays', WHERE WHAT IT READS IS OF BULK AT MOST 1048576: true; the input reads as it did. -/
def tieWaysUptoRow : OpenClaim := { program := "ytdbbdfmkglgjdaa", sum := "f26440b7eeba3f3df4163134d47fd5c90df1423bbe2b0c0b6a965bfe05cc2787", func := "pleach/pleachlaw19.TieWays", spec := "tieWays", inPlace := ["slices.overlaps[pleach/api.Kid]"], unfollowed := true, recurses := true, apart := false, narrowed := true }
def TieWaysUptoSaid : Prop := tieWaysUptoRow.holds Try.pinned (OpenSpec.upto tieWaysSpec)

/-- 'pleachlaw19.TieAges', WHERE WHAT IT READS IS OF BULK AT MOST 1048576: true; the input reads as it did. -/
def tieAgesUptoRow : OpenClaim := { program := "ytdbbdfmkglgjdaa", sum := "f26440b7eeba3f3df4163134d47fd5c90df1423bbe2b0c0b6a965bfe05cc2787", func := "pleach/pleachlaw19.TieAges", spec := "tieAges", inPlace := ["slices.overlaps[pleach/api.Kid]"], unfollowed := true, recurses := true, apart := false, narrowed := true }
def TieAgesUptoSaid : Prop := tieAgesUptoRow.holds Try.pinned (OpenSpec.upto tieAgesSpec)

/-- 'pleachlaw19.TieAsks', WHERE WHAT IT READS IS OF BULK AT MOST 1048576: true; the input reads as it did. -/
def tieAsksUptoRow : OpenClaim := { program := "ytdbbdfmkglgjdaa", sum := "f26440b7eeba3f3df4163134d47fd5c90df1423bbe2b0c0b6a965bfe05cc2787", func := "pleach/pleachlaw19.TieAsks", spec := "tieAsks", inPlace := ["slices.overlaps[pleach/api.Kid]"], unfollowed := true, recurses := true, apart := false, narrowed := true }
def TieAsksUptoSaid : Prop := tieAsksUptoRow.holds Try.pinned (OpenSpec.upto tieAsksSpec)

/-- 'pleachlaw19.TieForms', WHERE WHAT IT READS IS OF BULK AT MOST 1048576: true; the input reads as it did. -/
def tieFormsUptoRow : OpenClaim := { program := "ytdbbdfmkglgjdaa", sum := "f26440b7eeba3f3df4163134d47fd5c90df1423bbe2b0c0b6a965bfe05cc2787", func := "pleach/pleachlaw19.TieForms", spec := "tieForms", inPlace := ["slices.overlaps[pleach/api.Kid]"], unfollowed := true, recurses := true, apart := false, narrowed := true }
def TieFormsUptoSaid : Prop := tieFormsUptoRow.holds Try.pinned (OpenSpec.upto tieFormsSpec)

/-- 'pleachlaw19.TieKids', WHERE WHAT IT READS IS OF BULK AT MOST 1048576: true; the input reads as it did. -/
def tieKidsUptoRow : OpenClaim := { program := "ytdbbdfmkglgjdaa", sum := "f26440b7eeba3f3df4163134d47fd5c90df1423bbe2b0c0b6a965bfe05cc2787", func := "pleach/pleachlaw19.TieKids", spec := "tieKids", inPlace := ["slices.overlaps[pleach/api.Kid]"], unfollowed := true, recurses := true, apart := false, narrowed := true }
def TieKidsUptoSaid : Prop := tieKidsUptoRow.holds Try.pinned (OpenSpec.upto tieKidsSpec)

/-- 'pleachlaw19.TieRoot', WHERE WHAT IT READS IS OF BULK AT MOST 1048576: true; the input reads as it did. -/
def tieRootUptoRow : OpenClaim := { program := "ytdbbdfmkglgjdaa", sum := "f26440b7eeba3f3df4163134d47fd5c90df1423bbe2b0c0b6a965bfe05cc2787", func := "pleach/pleachlaw19.TieRoot", spec := "tieRoot", inPlace := ["slices.overlaps[pleach/api.Kid]"], unfollowed := true, recurses := true, apart := false, narrowed := true }
def TieRootUptoSaid : Prop := tieRootUptoRow.holds Try.pinned (OpenSpec.upto tieRootSpec)

/-- 'pleachlaw19.TieHangs', WHERE WHAT IT READS IS OF BULK AT MOST 1048576: true; the input reads as it did. -/
def tieHangsUptoRow : OpenClaim := { program := "ytdbbdfmkglgjdaa", sum := "f26440b7eeba3f3df4163134d47fd5c90df1423bbe2b0c0b6a965bfe05cc2787", func := "pleach/pleachlaw19.TieHangs", spec := "tieHangs", inPlace := ["slices.overlaps[pleach/api.Kid]"], unfollowed := true, recurses := true, apart := false, narrowed := true }
def TieHangsUptoSaid : Prop := tieHangsUptoRow.holds Try.pinned (OpenSpec.upto tieHangsSpec)

end Rows
end Go.Proofs.Ytdbbdfmkglgjdaa
