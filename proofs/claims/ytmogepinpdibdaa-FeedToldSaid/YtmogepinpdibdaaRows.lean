/-
  No cell of these rows narrows 'for every input' (looked for: loops, veiled, ifaces, maps, wideKeys, modest, calm, conditions, laid).
  DERIVED. THE GIVEN ROWS OF THIS SEAT. 10 by the template 'for every input the law returns true; each argument reads behind the call as it read before'; 0 by the template 'total and deterministic' (their statements: YtmogepinpdibdaaTotals.lean).
  GIVEN WITH THE SEED: the statements are not yours to turn. If you find one false, say at which input.
  Laid BY PROGRAM, IN A SANDBOX (cutbox-rows.mjs): the forced cells as the released guide's own fill.sh prints them over the translation 662fc51552ce1d91… (all of the seat's roots in one cut). By AI agents, Wed Nov 11 2026. No macro, syntax, notation, axiom, sorry.
-/
import Derived.Test.YtmogepinpdibdaaChecked
import GoSem.Claim
import GoSem.ClaimJoined
import GoSem.ClaimMapViews
import Derived.JoinedTies
import Derived.KernelRfl
namespace Go.Proofs.Ytmogepinpdibdaa
/- THE CELL 'sum', in the pinned program and in every row, IS THE sha256 OF THE DUMP (.gsa) THAT YtmogepinpdibdaaProg.lean LOADS. Nothing in Lean hashes anything: it is a label: what it is worth is what the hold of that sum in a sandbox is worth. -/
noncomputable def Try.pinned : Pinned := { name := "ytmogepinpdibdaa", sum := "662fc51552ce1d911ea2a2ad4b76054f66f1763db8f6ceb4d0301004d961e07b", checked := Try.checked }
namespace Rows
def none {H : Type} : Left H := { results := [], args := [] }

/-- 'pleachlaw18.FeedAll': WHATEVER THE INPUT: true; the input reads as it did. -/
def feedAllSpec : ChangeSpec := { name := "feedAll", fn := fun _ => fun
  | [d1, d2, d3, d4] => { results := [.lit (.bool true)], args := [d1, d2, d3, d4] }
  | _ => none }
def feedAllRow : OpenClaim := { program := "ytmogepinpdibdaa", sum := "662fc51552ce1d911ea2a2ad4b76054f66f1763db8f6ceb4d0301004d961e07b", func := "pleach/pleachlaw18.FeedAll", spec := "feedAll", inPlace := ["slices.overlaps[pleach/api.Item]"], unfollowed := true, recurses := true, apart := false }
def FeedAllSaid : Prop := feedAllRow.holds Try.pinned (OpenSpec.ofChange feedAllSpec)

/-- ITS FALSE NEIGHBOUR: 'it returns false'. Refute it at one input. -/
def feedAllWrong : ChangeSpec := { name := "feedAll", fn := fun _ => fun
  | [d1, d2, d3, d4] => { results := [.lit (.bool false)], args := [d1, d2, d3, d4] }
  | _ => none }
def FeedAllWrongFalsely : Prop := feedAllRow.holds Try.pinned (OpenSpec.ofChange feedAllWrong)

/-- 'pleachlaw18.FeedSays': WHATEVER THE INPUT: true; the input reads as it did. -/
def feedSaysSpec : ChangeSpec := { name := "feedSays", fn := fun _ => fun
  | [d] => { results := [.lit (.bool true)], args := [d] }
  | _ => none }
def feedSaysRow : OpenClaim := { program := "ytmogepinpdibdaa", sum := "662fc51552ce1d911ea2a2ad4b76054f66f1763db8f6ceb4d0301004d961e07b", func := "pleach/pleachlaw18.FeedSays", spec := "feedSays", inPlace := ["slices.overlaps[pleach/api.Item]"], unfollowed := true, recurses := true, apart := false }
def FeedSaysSaid : Prop := feedSaysRow.holds Try.pinned (OpenSpec.ofChange feedSaysSpec)

/-- ITS FALSE NEIGHBOUR: 'it returns false'. Refute it at one input. -/
def feedSaysWrong : ChangeSpec := { name := "feedSays", fn := fun _ => fun
  | [d] => { results := [.lit (.bool false)], args := [d] }
  | _ => none }
def FeedSaysWrongFalsely : Prop := feedSaysRow.holds Try.pinned (OpenSpec.ofChange feedSaysWrong)

/-- 'pleachlaw18.FeedOne': WHATEVER THE INPUT: true; the input reads as it did. -/
def feedOneSpec : ChangeSpec := { name := "feedOne", fn := fun _ => fun
  | [d] => { results := [.lit (.bool true)], args := [d] }
  | _ => none }
def feedOneRow : OpenClaim := { program := "ytmogepinpdibdaa", sum := "662fc51552ce1d911ea2a2ad4b76054f66f1763db8f6ceb4d0301004d961e07b", func := "pleach/pleachlaw18.FeedOne", spec := "feedOne", inPlace := ["slices.overlaps[pleach/api.Item]"], unfollowed := true, recurses := true, apart := false }
def FeedOneSaid : Prop := feedOneRow.holds Try.pinned (OpenSpec.ofChange feedOneSpec)

/-- ITS FALSE NEIGHBOUR: 'it returns false'. Refute it at one input. -/
def feedOneWrong : ChangeSpec := { name := "feedOne", fn := fun _ => fun
  | [d] => { results := [.lit (.bool false)], args := [d] }
  | _ => none }
def FeedOneWrongFalsely : Prop := feedOneRow.holds Try.pinned (OpenSpec.ofChange feedOneWrong)

/-- 'pleachlaw18.FeedTold': WHATEVER THE INPUT: true; the input reads as it did. -/
def feedToldSpec : ChangeSpec := { name := "feedTold", fn := fun _ => fun
  | [d] => { results := [.lit (.bool true)], args := [d] }
  | _ => none }
def feedToldRow : OpenClaim := { program := "ytmogepinpdibdaa", sum := "662fc51552ce1d911ea2a2ad4b76054f66f1763db8f6ceb4d0301004d961e07b", func := "pleach/pleachlaw18.FeedTold", spec := "feedTold", inPlace := ["slices.overlaps[pleach/api.Item]"], unfollowed := true, recurses := true, apart := false }
def FeedToldSaid : Prop := feedToldRow.holds Try.pinned (OpenSpec.ofChange feedToldSpec)

/-- ITS FALSE NEIGHBOUR: 'it returns false'. Refute it at one input. -/
def feedToldWrong : ChangeSpec := { name := "feedTold", fn := fun _ => fun
  | [d] => { results := [.lit (.bool false)], args := [d] }
  | _ => none }
def FeedToldWrongFalsely : Prop := feedToldRow.holds Try.pinned (OpenSpec.ofChange feedToldWrong)

/-- 'pleachlaw18.FeedOrder': WHATEVER THE INPUT: true; the input reads as it did. -/
def feedOrderSpec : ChangeSpec := { name := "feedOrder", fn := fun _ => fun
  | [d1, d2, d3] => { results := [.lit (.bool true)], args := [d1, d2, d3] }
  | _ => none }
def feedOrderRow : OpenClaim := { program := "ytmogepinpdibdaa", sum := "662fc51552ce1d911ea2a2ad4b76054f66f1763db8f6ceb4d0301004d961e07b", func := "pleach/pleachlaw18.FeedOrder", spec := "feedOrder", inPlace := ["slices.overlaps[pleach/api.Item]"], unfollowed := true, recurses := true, apart := false }
def FeedOrderSaid : Prop := feedOrderRow.holds Try.pinned (OpenSpec.ofChange feedOrderSpec)

/-- ITS FALSE NEIGHBOUR: 'it returns false'. Refute it at one input. -/
def feedOrderWrong : ChangeSpec := { name := "feedOrder", fn := fun _ => fun
  | [d1, d2, d3] => { results := [.lit (.bool false)], args := [d1, d2, d3] }
  | _ => none }
def FeedOrderWrongFalsely : Prop := feedOrderRow.holds Try.pinned (OpenSpec.ofChange feedOrderWrong)

/-- 'pleachlaw18.FeedForms': WHATEVER THE INPUT: true; the input reads as it did. -/
def feedFormsSpec : ChangeSpec := { name := "feedForms", fn := fun _ => fun
  | [] => { results := [.lit (.bool true)], args := [] }
  | _ => none }
def feedFormsRow : OpenClaim := { program := "ytmogepinpdibdaa", sum := "662fc51552ce1d911ea2a2ad4b76054f66f1763db8f6ceb4d0301004d961e07b", func := "pleach/pleachlaw18.FeedForms", spec := "feedForms", inPlace := ["slices.overlaps[pleach/api.Item]"], unfollowed := true, recurses := true, apart := false }
def FeedFormsSaid : Prop := feedFormsRow.holds Try.pinned (OpenSpec.ofChange feedFormsSpec)

/-- ITS FALSE NEIGHBOUR: 'it returns false'. Refute it at one input. -/
def feedFormsWrong : ChangeSpec := { name := "feedForms", fn := fun _ => fun
  | [] => { results := [.lit (.bool false)], args := [] }
  | _ => none }
def FeedFormsWrongFalsely : Prop := feedFormsRow.holds Try.pinned (OpenSpec.ofChange feedFormsWrong)

/-- 'pleachlaw18.FeedTwice': WHATEVER THE INPUT: true; the input reads as it did. -/
def feedTwiceSpec : ChangeSpec := { name := "feedTwice", fn := fun _ => fun
  | [d1, d2] => { results := [.lit (.bool true)], args := [d1, d2] }
  | _ => none }
def feedTwiceRow : OpenClaim := { program := "ytmogepinpdibdaa", sum := "662fc51552ce1d911ea2a2ad4b76054f66f1763db8f6ceb4d0301004d961e07b", func := "pleach/pleachlaw18.FeedTwice", spec := "feedTwice", inPlace := ["slices.overlaps[pleach/api.Item]"], unfollowed := true, recurses := true, apart := false }
def FeedTwiceSaid : Prop := feedTwiceRow.holds Try.pinned (OpenSpec.ofChange feedTwiceSpec)

/-- ITS FALSE NEIGHBOUR: 'it returns false'. Refute it at one input. -/
def feedTwiceWrong : ChangeSpec := { name := "feedTwice", fn := fun _ => fun
  | [d1, d2] => { results := [.lit (.bool false)], args := [d1, d2] }
  | _ => none }
def FeedTwiceWrongFalsely : Prop := feedTwiceRow.holds Try.pinned (OpenSpec.ofChange feedTwiceWrong)

/-- 'pleachlaw18.FeedWants': WHATEVER THE INPUT: true; the input reads as it did. -/
def feedWantsSpec : ChangeSpec := { name := "feedWants", fn := fun _ => fun
  | [d1, d2] => { results := [.lit (.bool true)], args := [d1, d2] }
  | _ => none }
def feedWantsRow : OpenClaim := { program := "ytmogepinpdibdaa", sum := "662fc51552ce1d911ea2a2ad4b76054f66f1763db8f6ceb4d0301004d961e07b", func := "pleach/pleachlaw18.FeedWants", spec := "feedWants", inPlace := ["slices.overlaps[pleach/api.Item]"], unfollowed := true, recurses := true, apart := false }
def FeedWantsSaid : Prop := feedWantsRow.holds Try.pinned (OpenSpec.ofChange feedWantsSpec)

/-- ITS FALSE NEIGHBOUR: 'it returns false'. Refute it at one input. -/
def feedWantsWrong : ChangeSpec := { name := "feedWants", fn := fun _ => fun
  | [d1, d2] => { results := [.lit (.bool false)], args := [d1, d2] }
  | _ => none }
def FeedWantsWrongFalsely : Prop := feedWantsRow.holds Try.pinned (OpenSpec.ofChange feedWantsWrong)

/-- 'pleachlaw18.FeedResumes': WHATEVER THE INPUT: true; the input reads as it did. -/
def feedResumesSpec : ChangeSpec := { name := "feedResumes", fn := fun _ => fun
  | [d1, d2, d3] => { results := [.lit (.bool true)], args := [d1, d2, d3] }
  | _ => none }
def feedResumesRow : OpenClaim := { program := "ytmogepinpdibdaa", sum := "662fc51552ce1d911ea2a2ad4b76054f66f1763db8f6ceb4d0301004d961e07b", func := "pleach/pleachlaw18.FeedResumes", spec := "feedResumes", inPlace := ["slices.overlaps[pleach/api.Item]"], unfollowed := true, recurses := true, apart := false }
def FeedResumesSaid : Prop := feedResumesRow.holds Try.pinned (OpenSpec.ofChange feedResumesSpec)

/-- ITS FALSE NEIGHBOUR: 'it returns false'. Refute it at one input. -/
def feedResumesWrong : ChangeSpec := { name := "feedResumes", fn := fun _ => fun
  | [d1, d2, d3] => { results := [.lit (.bool false)], args := [d1, d2, d3] }
  | _ => none }
def FeedResumesWrongFalsely : Prop := feedResumesRow.holds Try.pinned (OpenSpec.ofChange feedResumesWrong)

/-- 'pleachlaw18.FeedEnds': WHATEVER THE INPUT: true; the input reads as it did. -/
def feedEndsSpec : ChangeSpec := { name := "feedEnds", fn := fun _ => fun
  | [d] => { results := [.lit (.bool true)], args := [d] }
  | _ => none }
def feedEndsRow : OpenClaim := { program := "ytmogepinpdibdaa", sum := "662fc51552ce1d911ea2a2ad4b76054f66f1763db8f6ceb4d0301004d961e07b", func := "pleach/pleachlaw18.FeedEnds", spec := "feedEnds", inPlace := ["slices.overlaps[pleach/api.Item]"], unfollowed := true, recurses := true, apart := false }
def FeedEndsSaid : Prop := feedEndsRow.holds Try.pinned (OpenSpec.ofChange feedEndsSpec)

/-- ITS FALSE NEIGHBOUR: 'it returns false'. Refute it at one input. -/
def feedEndsWrong : ChangeSpec := { name := "feedEnds", fn := fun _ => fun
  | [d] => { results := [.lit (.bool false)], args := [d] }
  | _ => none }
def FeedEndsWrongFalsely : Prop := feedEndsRow.holds Try.pinned (OpenSpec.ofChange feedEndsWrong)

/- THE SECOND FORM. 'bulk': how many values and letters a reading holds, each counted each time it is reached (what is shared counts as often as it is met; a slice's spare places count too). A statement '..UptoSaid' is the law's where the arguments, and the package variables that the reading takes, are together of bulk at most 1048576: NARROWER than '..Said'. Prove '..Said' where nothing that the law and all that it calls make is longer than what came in: it says more and counts as full. Else prove '..UptoSaid'. A law counts once. -/
mutual
def uptoBulk {H : Type} : DataW H → Nat
  | .lit (.string bytes) => bytes.length + 1
  | .lit _ => 1
  | .nil => 1
  | .ptr d => uptoBulk d + 1
  | .slice elems spare => uptoBulkAll elems + uptoBulkAll spare + 1
  | .agg parts => uptoBulkAll parts + 1
  | .iface _ d => uptoBulk d + 1
  | .map entries => uptoBulkEntries entries + 1
  | .held _ => 1
def uptoBulkAll {H : Type} : List (DataW H) → Nat
  | [] => 0
  | d :: r => uptoBulk d + uptoBulkAll r
def uptoBulkEntries {H : Type} : List (Lit × DataW H) → Nat
  | [] => 0
  | x :: r => uptoBulkEntry x + uptoBulkEntries r
def uptoBulkEntry {H : Type} : Lit × DataW H → Nat
  | (.string bytes, d) => bytes.length + uptoBulk d + 1
  | (_, d) => uptoBulk d + 1
 end
def uptoSmall : (H : Type) → List (DataW H) → Bool := fun _ ds => decide (uptoBulkAll ds ≤ 1048576)
def OpenSpec.upto (s : _root_.Go.ChangeSpec) : _root_.Go.OpenSpec := { _root_.Go.OpenSpec.ofChange s with cond := some uptoSmall }

/-- 'pleachlaw18.FeedAll', WHERE WHAT IT READS IS OF BULK AT MOST 1048576: true; the input reads as it did. -/
def feedAllUptoRow : OpenClaim := { program := "ytmogepinpdibdaa", sum := "662fc51552ce1d911ea2a2ad4b76054f66f1763db8f6ceb4d0301004d961e07b", func := "pleach/pleachlaw18.FeedAll", spec := "feedAll", inPlace := ["slices.overlaps[pleach/api.Item]"], unfollowed := true, recurses := true, apart := false, narrowed := true }
def FeedAllUptoSaid : Prop := feedAllUptoRow.holds Try.pinned (OpenSpec.upto feedAllSpec)

/-- 'pleachlaw18.FeedSays', WHERE WHAT IT READS IS OF BULK AT MOST 1048576: true; the input reads as it did. -/
def feedSaysUptoRow : OpenClaim := { program := "ytmogepinpdibdaa", sum := "662fc51552ce1d911ea2a2ad4b76054f66f1763db8f6ceb4d0301004d961e07b", func := "pleach/pleachlaw18.FeedSays", spec := "feedSays", inPlace := ["slices.overlaps[pleach/api.Item]"], unfollowed := true, recurses := true, apart := false, narrowed := true }
def FeedSaysUptoSaid : Prop := feedSaysUptoRow.holds Try.pinned (OpenSpec.upto feedSaysSpec)

/-- 'pleachlaw18.FeedOne', WHERE WHAT IT READS IS OF BULK AT MOST 1048576: true; the input reads as it did. -/
def feedOneUptoRow : OpenClaim := { program := "ytmogepinpdibdaa", sum := "662fc51552ce1d911ea2a2ad4b76054f66f1763db8f6ceb4d0301004d961e07b", func := "pleach/pleachlaw18.FeedOne", spec := "feedOne", inPlace := ["slices.overlaps[pleach/api.Item]"], unfollowed := true, recurses := true, apart := false, narrowed := true }
def FeedOneUptoSaid : Prop := feedOneUptoRow.holds Try.pinned (OpenSpec.upto feedOneSpec)

/-- 'pleachlaw18.FeedTold', WHERE WHAT IT READS IS OF BULK AT MOST 1048576: true; the input reads as it did. -/
def feedToldUptoRow : OpenClaim := { program := "ytmogepinpdibdaa", sum := "662fc51552ce1d911ea2a2ad4b76054f66f1763db8f6ceb4d0301004d961e07b", func := "pleach/pleachlaw18.FeedTold", spec := "feedTold", inPlace := ["slices.overlaps[pleach/api.Item]"], unfollowed := true, recurses := true, apart := false, narrowed := true }
def FeedToldUptoSaid : Prop := feedToldUptoRow.holds Try.pinned (OpenSpec.upto feedToldSpec)

/-- 'pleachlaw18.FeedOrder', WHERE WHAT IT READS IS OF BULK AT MOST 1048576: true; the input reads as it did. -/
def feedOrderUptoRow : OpenClaim := { program := "ytmogepinpdibdaa", sum := "662fc51552ce1d911ea2a2ad4b76054f66f1763db8f6ceb4d0301004d961e07b", func := "pleach/pleachlaw18.FeedOrder", spec := "feedOrder", inPlace := ["slices.overlaps[pleach/api.Item]"], unfollowed := true, recurses := true, apart := false, narrowed := true }
def FeedOrderUptoSaid : Prop := feedOrderUptoRow.holds Try.pinned (OpenSpec.upto feedOrderSpec)

/-- 'pleachlaw18.FeedForms', WHERE WHAT IT READS IS OF BULK AT MOST 1048576: true; the input reads as it did. -/
def feedFormsUptoRow : OpenClaim := { program := "ytmogepinpdibdaa", sum := "662fc51552ce1d911ea2a2ad4b76054f66f1763db8f6ceb4d0301004d961e07b", func := "pleach/pleachlaw18.FeedForms", spec := "feedForms", inPlace := ["slices.overlaps[pleach/api.Item]"], unfollowed := true, recurses := true, apart := false, narrowed := true }
def FeedFormsUptoSaid : Prop := feedFormsUptoRow.holds Try.pinned (OpenSpec.upto feedFormsSpec)

/-- 'pleachlaw18.FeedTwice', WHERE WHAT IT READS IS OF BULK AT MOST 1048576: true; the input reads as it did. -/
def feedTwiceUptoRow : OpenClaim := { program := "ytmogepinpdibdaa", sum := "662fc51552ce1d911ea2a2ad4b76054f66f1763db8f6ceb4d0301004d961e07b", func := "pleach/pleachlaw18.FeedTwice", spec := "feedTwice", inPlace := ["slices.overlaps[pleach/api.Item]"], unfollowed := true, recurses := true, apart := false, narrowed := true }
def FeedTwiceUptoSaid : Prop := feedTwiceUptoRow.holds Try.pinned (OpenSpec.upto feedTwiceSpec)

/-- 'pleachlaw18.FeedWants', WHERE WHAT IT READS IS OF BULK AT MOST 1048576: true; the input reads as it did. -/
def feedWantsUptoRow : OpenClaim := { program := "ytmogepinpdibdaa", sum := "662fc51552ce1d911ea2a2ad4b76054f66f1763db8f6ceb4d0301004d961e07b", func := "pleach/pleachlaw18.FeedWants", spec := "feedWants", inPlace := ["slices.overlaps[pleach/api.Item]"], unfollowed := true, recurses := true, apart := false, narrowed := true }
def FeedWantsUptoSaid : Prop := feedWantsUptoRow.holds Try.pinned (OpenSpec.upto feedWantsSpec)

/-- 'pleachlaw18.FeedResumes', WHERE WHAT IT READS IS OF BULK AT MOST 1048576: true; the input reads as it did. -/
def feedResumesUptoRow : OpenClaim := { program := "ytmogepinpdibdaa", sum := "662fc51552ce1d911ea2a2ad4b76054f66f1763db8f6ceb4d0301004d961e07b", func := "pleach/pleachlaw18.FeedResumes", spec := "feedResumes", inPlace := ["slices.overlaps[pleach/api.Item]"], unfollowed := true, recurses := true, apart := false, narrowed := true }
def FeedResumesUptoSaid : Prop := feedResumesUptoRow.holds Try.pinned (OpenSpec.upto feedResumesSpec)

/-- 'pleachlaw18.FeedEnds', WHERE WHAT IT READS IS OF BULK AT MOST 1048576: true; the input reads as it did. -/
def feedEndsUptoRow : OpenClaim := { program := "ytmogepinpdibdaa", sum := "662fc51552ce1d911ea2a2ad4b76054f66f1763db8f6ceb4d0301004d961e07b", func := "pleach/pleachlaw18.FeedEnds", spec := "feedEnds", inPlace := ["slices.overlaps[pleach/api.Item]"], unfollowed := true, recurses := true, apart := false, narrowed := true }
def FeedEndsUptoSaid : Prop := feedEndsUptoRow.holds Try.pinned (OpenSpec.upto feedEndsSpec)

end Rows
end Go.Proofs.Ytmogepinpdibdaa
