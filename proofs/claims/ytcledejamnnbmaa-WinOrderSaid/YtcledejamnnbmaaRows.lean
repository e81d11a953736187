/-
  No cell of these rows narrows 'for every input' (looked for: loops, veiled, ifaces, maps, wideKeys, modest, calm, conditions, laid).
  DERIVED. THE GIVEN ROWS OF THIS SEAT. 5 by the template 'for every input the law returns true; each argument reads behind the call as it read before'; 0 by the template 'total and deterministic' (their statements: YtcledejamnnbmaaTotals.lean).
  GIVEN WITH THE SEED: the statements are not yours to turn. If you find one false, say at which input.
  Laid BY PROGRAM, IN A SANDBOX (cutbox-rows.mjs): the forced cells as the released guide's own fill.sh prints them over the translation bcf9646ec1c19db0… (all of the seat's roots in one cut). By AI agents, Wed Nov 11 2026. No macro, syntax, notation, axiom, sorry.
-/
import Derived.Test.YtcledejamnnbmaaChecked
import GoSem.Claim
import GoSem.ClaimJoined
import GoSem.ClaimMapViews
import Derived.JoinedTies
import Derived.KernelRfl
namespace Go.Proofs.Ytcledejamnnbmaa
/- THE CELL 'sum', in the pinned program and in every row, IS THE sha256 OF THE DUMP (.gsa) THAT YtcledejamnnbmaaProg.lean LOADS. Nothing in Lean hashes anything: it is a label: what it is worth is what the hold of that sum in a sandbox is worth. -/
noncomputable def Try.pinned : Pinned := { name := "ytcledejamnnbmaa", sum := "bcf9646ec1c19db053aa5479931c73d5da5a00a2c3f416824db3603756e7b5f0", checked := Try.checked }
namespace Rows
def none {H : Type} : Left H := { results := [], args := [] }

/-- 'pleachlaw3.SpanAll': WHATEVER THE INPUT: true; the input reads as it did. -/
def spanAllSpec : ChangeSpec := { name := "spanAll", fn := fun _ => fun
  | [d1, d2, d3, d4] => { results := [.lit (.bool true)], args := [d1, d2, d3, d4] }
  | _ => none }
def spanAllRow : OpenClaim := { program := "ytcledejamnnbmaa", sum := "bcf9646ec1c19db053aa5479931c73d5da5a00a2c3f416824db3603756e7b5f0", func := "pleach/pleachlaw3.SpanAll", spec := "spanAll", inPlace := ["slices.overlaps[pleach/api.Span]"], unfollowed := true, recurses := true, apart := false }
def SpanAllSaid : Prop := spanAllRow.holds Try.pinned (OpenSpec.ofChange spanAllSpec)

/-- ITS FALSE NEIGHBOUR: 'it returns false'. Refute it at one input. -/
def spanAllWrong : ChangeSpec := { name := "spanAll", fn := fun _ => fun
  | [d1, d2, d3, d4] => { results := [.lit (.bool false)], args := [d1, d2, d3, d4] }
  | _ => none }
def SpanAllWrongFalsely : Prop := spanAllRow.holds Try.pinned (OpenSpec.ofChange spanAllWrong)

/-- 'pleachlaw3.SpanSet': WHATEVER THE INPUT: true; the input reads as it did. -/
def spanSetSpec : ChangeSpec := { name := "spanSet", fn := fun _ => fun
  | [d1, d2, d3, d4] => { results := [.lit (.bool true)], args := [d1, d2, d3, d4] }
  | _ => none }
def spanSetRow : OpenClaim := { program := "ytcledejamnnbmaa", sum := "bcf9646ec1c19db053aa5479931c73d5da5a00a2c3f416824db3603756e7b5f0", func := "pleach/pleachlaw3.SpanSet", spec := "spanSet", inPlace := ["slices.overlaps[pleach/api.Span]"], unfollowed := true, recurses := true, apart := false }
def SpanSetSaid : Prop := spanSetRow.holds Try.pinned (OpenSpec.ofChange spanSetSpec)

/-- ITS FALSE NEIGHBOUR: 'it returns false'. Refute it at one input. -/
def spanSetWrong : ChangeSpec := { name := "spanSet", fn := fun _ => fun
  | [d1, d2, d3, d4] => { results := [.lit (.bool false)], args := [d1, d2, d3, d4] }
  | _ => none }
def SpanSetWrongFalsely : Prop := spanSetRow.holds Try.pinned (OpenSpec.ofChange spanSetWrong)

/-- 'pleachlaw3.SpanForms': WHATEVER THE INPUT: true; the input reads as it did. -/
def spanFormsSpec : ChangeSpec := { name := "spanForms", fn := fun _ => fun
  | [] => { results := [.lit (.bool true)], args := [] }
  | _ => none }
def spanFormsRow : OpenClaim := { program := "ytcledejamnnbmaa", sum := "bcf9646ec1c19db053aa5479931c73d5da5a00a2c3f416824db3603756e7b5f0", func := "pleach/pleachlaw3.SpanForms", spec := "spanForms", inPlace := ["slices.overlaps[pleach/api.Span]"], unfollowed := true, recurses := true, apart := false }
def SpanFormsSaid : Prop := spanFormsRow.holds Try.pinned (OpenSpec.ofChange spanFormsSpec)

/-- ITS FALSE NEIGHBOUR: 'it returns false'. Refute it at one input. -/
def spanFormsWrong : ChangeSpec := { name := "spanForms", fn := fun _ => fun
  | [] => { results := [.lit (.bool false)], args := [] }
  | _ => none }
def SpanFormsWrongFalsely : Prop := spanFormsRow.holds Try.pinned (OpenSpec.ofChange spanFormsWrong)

/-- 'pleachlaw15.WinOrder': WHATEVER THE INPUT: true; the input reads as it did. -/
def winOrderSpec : ChangeSpec := { name := "winOrder", fn := fun _ => fun
  | [d] => { results := [.lit (.bool true)], args := [d] }
  | _ => none }
def winOrderRow : OpenClaim := { program := "ytcledejamnnbmaa", sum := "bcf9646ec1c19db053aa5479931c73d5da5a00a2c3f416824db3603756e7b5f0", func := "pleach/pleachlaw15.WinOrder", spec := "winOrder", inPlace := ["slices.overlaps[pleach/api.Item]"], unfollowed := true, recurses := true, apart := false }
def WinOrderSaid : Prop := winOrderRow.holds Try.pinned (OpenSpec.ofChange winOrderSpec)

/-- ITS FALSE NEIGHBOUR: 'it returns false'. Refute it at one input. -/
def winOrderWrong : ChangeSpec := { name := "winOrder", fn := fun _ => fun
  | [d] => { results := [.lit (.bool false)], args := [d] }
  | _ => none }
def WinOrderWrongFalsely : Prop := winOrderRow.holds Try.pinned (OpenSpec.ofChange winOrderWrong)

/-- 'pleachlaw15.WinAny': WHATEVER THE INPUT: true; the input reads as it did. -/
def winAnySpec : ChangeSpec := { name := "winAny", fn := fun _ => fun
  | [d1, d2, d3] => { results := [.lit (.bool true)], args := [d1, d2, d3] }
  | _ => none }
def winAnyRow : OpenClaim := { program := "ytcledejamnnbmaa", sum := "bcf9646ec1c19db053aa5479931c73d5da5a00a2c3f416824db3603756e7b5f0", func := "pleach/pleachlaw15.WinAny", spec := "winAny", inPlace := ["slices.overlaps[pleach/api.Item]"], unfollowed := true, recurses := true, apart := false }
def WinAnySaid : Prop := winAnyRow.holds Try.pinned (OpenSpec.ofChange winAnySpec)

/-- ITS FALSE NEIGHBOUR: 'it returns false'. Refute it at one input. -/
def winAnyWrong : ChangeSpec := { name := "winAny", fn := fun _ => fun
  | [d1, d2, d3] => { results := [.lit (.bool false)], args := [d1, d2, d3] }
  | _ => none }
def WinAnyWrongFalsely : Prop := winAnyRow.holds Try.pinned (OpenSpec.ofChange winAnyWrong)

/- THE SECOND FORM. 'bulk': how many values and letters a reading holds, each counted each time it is reached (what is shared counts as often as it is met; a slice's spare places count too). A statement '..UptoSaid' is the law's where the arguments, and the package variables that the reading takes, are together of bulk at most 1048576: NARROWER than '..Said'. Prove '..Said' where nothing that the law and all that it calls make is longer than what came in: it says more and counts as full. Else prove '..UptoSaid'. A law counts once. -/
mutual
def uptoBulk {H : Type} : DataW H → Nat
  | .lit (.string bytes) => bytes.length + 1
  | .lit _ => 1
  | .nil => 1
  | .ptr d => uptoBulk d + 1
  | .slice elems spare => uptoBulkAll elems + uptoBulkAll spare + 1
  | .agg parts => uptoBulkAll parts + 1
  | .iface _ d => uptoBulk d + 1
  | .map entries => uptoBulkEntries entries + 1
  | .held _ => 1
def uptoBulkAll {H : Type} : List (DataW H) → Nat
  | [] => 0
  | d :: r => uptoBulk d + uptoBulkAll r
def uptoBulkEntries {H : Type} : List (Lit × DataW H) → Nat
  | [] => 0
  | x :: r => uptoBulkEntry x + uptoBulkEntries r
def uptoBulkEntry {H : Type} : Lit × DataW H → Nat
  | (.string bytes, d) => bytes.length + uptoBulk d + 1
  | (_, d) => uptoBulk d + 1
 end
def uptoSmall : (H : Type) → List (DataW H) → Bool := fun _ ds => decide (uptoBulkAll ds ≤ 1048576)
def OpenSpec.upto (s : _root_.Go.ChangeSpec) : _root_.Go.OpenSpec := { _root_.Go.OpenSpec.ofChange s with cond := some uptoSmall }

/-- 'pleachlaw3.SpanAll', WHERE WHAT IT READS IS OF BULK AT MOST 1048576: true; the input reads as it did. -/
def spanAllUptoRow : OpenClaim := { program := "ytcledejamnnbmaa", sum := "bcf9646ec1c19db053aa5479931c73d5da5a00a2c3f416824db3603756e7b5f0", func := "pleach/pleachlaw3.SpanAll", spec := "spanAll", inPlace := ["slices.overlaps[pleach/api.Span]"], unfollowed := true, recurses := true, apart := false, narrowed := true }
def SpanAllUptoSaid : Prop := spanAllUptoRow.holds Try.pinned (OpenSpec.upto spanAllSpec)

/-- 'pleachlaw3.SpanSet', WHERE WHAT IT READS IS OF BULK AT MOST 1048576: true; the input reads as it did. -/
def spanSetUptoRow : OpenClaim := { program := "ytcledejamnnbmaa", sum := "bcf9646ec1c19db053aa5479931c73d5da5a00a2c3f416824db3603756e7b5f0", func := "pleach/pleachlaw3.SpanSet", spec := "spanSet", inPlace := ["slices.overlaps[pleach/api.Span]"], unfollowed := true, recurses := true, apart := false, narrowed := true }
def SpanSetUptoSaid : Prop := spanSetUptoRow.holds Try.pinned (OpenSpec.upto spanSetSpec)

/-- 'pleachlaw3.SpanForms', WHERE WHAT IT READS IS OF BULK AT MOST 1048576: true; the input reads as it did. -/
def spanFormsUptoRow : OpenClaim := { program := "ytcledejamnnbmaa", sum := "bcf9646ec1c19db053aa5479931c73d5da5a00a2c3f416824db3603756e7b5f0", func := "pleach/pleachlaw3.SpanForms", spec := "spanForms", inPlace := ["slices.overlaps[pleach/api.Span]"], unfollowed := true, recurses := true, apart := false, narrowed := true }
def SpanFormsUptoSaid : Prop := spanFormsUptoRow.holds Try.pinned (OpenSpec.upto spanFormsSpec)

/-- 'pleachlaw15.WinOrder', WHERE WHAT IT READS IS OF BULK AT MOST 1048576: true; the input reads as it did. -/
def winOrderUptoRow : OpenClaim := { program := "ytcledejamnnbmaa", sum := "bcf9646ec1c19db053aa5479931c73d5da5a00a2c3f416824db3603756e7b5f0", func := "pleach/pleachlaw15.WinOrder", spec := "winOrder", inPlace := ["slices.overlaps[pleach/api.Item]"], unfollowed := true, recurses := true, apart := false, narrowed := true }
def WinOrderUptoSaid : Prop := winOrderUptoRow.holds Try.pinned (OpenSpec.upto winOrderSpec)

/-- 'pleachlaw15.WinAny', WHERE WHAT IT READS IS OF BULK AT MOST 1048576: true; the input reads as it did. -/
def winAnyUptoRow : OpenClaim := { program := "ytcledejamnnbmaa", sum := "bcf9646ec1c19db053aa5479931c73d5da5a00a2c3f416824db3603756e7b5f0", func := "pleach/pleachlaw15.WinAny", spec := "winAny", inPlace := ["slices.overlaps[pleach/api.Item]"], unfollowed := true, recurses := true, apart := false, narrowed := true }
def WinAnyUptoSaid : Prop := winAnyUptoRow.holds Try.pinned (OpenSpec.upto winAnySpec)

end Rows
end Go.Proofs.Ytcledejamnnbmaa
