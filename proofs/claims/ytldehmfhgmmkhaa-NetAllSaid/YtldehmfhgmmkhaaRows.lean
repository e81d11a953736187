/-
  No cell of these rows narrows 'for every input' (looked for: loops, veiled, ifaces, maps, wideKeys, modest, calm, conditions, laid).
  DERIVED. THE GIVEN ROWS OF THIS SEAT. 14 by the template 'for every input the law returns true; each argument reads behind the call as it read before'; 0 by the template 'total and deterministic' (their statements: YtldehmfhgmmkhaaTotals.lean).
  GIVEN WITH THE SEED: the statements are not yours to turn. If you find one false, say at which input.
  Laid BY PROGRAM, IN A SANDBOX (cutbox-rows.mjs): the forced cells as the released guide's own fill.sh prints them over the translation 050a87497050b4fb… (all of the seat's roots in one cut). By AI agents, Wed Nov 11 2026. No macro, syntax, notation, axiom, sorry.
-/
import Derived.Test.YtldehmfhgmmkhaaChecked
import GoSem.Claim
import GoSem.ClaimJoined
import GoSem.ClaimMapViews
import Derived.JoinedTies
import Derived.KernelRfl
namespace Go.Proofs.Ytldehmfhgmmkhaa
/- THE CELL 'sum', in the pinned program and in every row, IS THE sha256 OF THE DUMP (.gsa) THAT YtldehmfhgmmkhaaProg.lean LOADS. Nothing in Lean hashes anything: it is a label: what it is worth is what the hold of that sum in a sandbox is worth. -/
noncomputable def Try.pinned : Pinned := { name := "ytldehmfhgmmkhaa", sum := "050a87497050b4fb7e8ec4cc2e4bf59b6671d04f63c0a173cc60a63538987a41", checked := Try.checked }
namespace Rows
def none {H : Type} : Left H := { results := [], args := [] }

/-- 'pleachlaw5.RttAll': WHATEVER THE INPUT: true; the input reads as it did. -/
def rttAllSpec : ChangeSpec := { name := "rttAll", fn := fun _ => fun
  | [d1, d2, d3, d4, d5, d6, d7, d8] => { results := [.lit (.bool true)], args := [d1, d2, d3, d4, d5, d6, d7, d8] }
  | _ => none }
def rttAllRow : OpenClaim := { program := "ytldehmfhgmmkhaa", sum := "050a87497050b4fb7e8ec4cc2e4bf59b6671d04f63c0a173cc60a63538987a41", func := "pleach/pleachlaw5.RttAll", spec := "rttAll", unfollowed := true, recurses := true, apart := false }
def RttAllSaid : Prop := rttAllRow.holds Try.pinned (OpenSpec.ofChange rttAllSpec)

/-- ITS FALSE NEIGHBOUR: 'it returns false'. Refute it at one input. -/
def rttAllWrong : ChangeSpec := { name := "rttAll", fn := fun _ => fun
  | [d1, d2, d3, d4, d5, d6, d7, d8] => { results := [.lit (.bool false)], args := [d1, d2, d3, d4, d5, d6, d7, d8] }
  | _ => none }
def RttAllWrongFalsely : Prop := rttAllRow.holds Try.pinned (OpenSpec.ofChange rttAllWrong)

/-- 'pleachlaw5.RttBetween': WHATEVER THE INPUT: true; the input reads as it did. -/
def rttBetweenSpec : ChangeSpec := { name := "rttBetween", fn := fun _ => fun
  | [d1, d2, d3] => { results := [.lit (.bool true)], args := [d1, d2, d3] }
  | _ => none }
def rttBetweenRow : OpenClaim := { program := "ytldehmfhgmmkhaa", sum := "050a87497050b4fb7e8ec4cc2e4bf59b6671d04f63c0a173cc60a63538987a41", func := "pleach/pleachlaw5.RttBetween", spec := "rttBetween", unfollowed := true, recurses := true, apart := false }
def RttBetweenSaid : Prop := rttBetweenRow.holds Try.pinned (OpenSpec.ofChange rttBetweenSpec)

/-- ITS FALSE NEIGHBOUR: 'it returns false'. Refute it at one input. -/
def rttBetweenWrong : ChangeSpec := { name := "rttBetween", fn := fun _ => fun
  | [d1, d2, d3] => { results := [.lit (.bool false)], args := [d1, d2, d3] }
  | _ => none }
def RttBetweenWrongFalsely : Prop := rttBetweenRow.holds Try.pinned (OpenSpec.ofChange rttBetweenWrong)

/-- 'pleachlaw5.RttLearn': WHATEVER THE INPUT: true; the input reads as it did. -/
def rttLearnSpec : ChangeSpec := { name := "rttLearn", fn := fun _ => fun
  | [d1, d2, d3, d4] => { results := [.lit (.bool true)], args := [d1, d2, d3, d4] }
  | _ => none }
def rttLearnRow : OpenClaim := { program := "ytldehmfhgmmkhaa", sum := "050a87497050b4fb7e8ec4cc2e4bf59b6671d04f63c0a173cc60a63538987a41", func := "pleach/pleachlaw5.RttLearn", spec := "rttLearn", unfollowed := true, recurses := true, apart := false }
def RttLearnSaid : Prop := rttLearnRow.holds Try.pinned (OpenSpec.ofChange rttLearnSpec)

/-- ITS FALSE NEIGHBOUR: 'it returns false'. Refute it at one input. -/
def rttLearnWrong : ChangeSpec := { name := "rttLearn", fn := fun _ => fun
  | [d1, d2, d3, d4] => { results := [.lit (.bool false)], args := [d1, d2, d3, d4] }
  | _ => none }
def RttLearnWrongFalsely : Prop := rttLearnRow.holds Try.pinned (OpenSpec.ofChange rttLearnWrong)

/-- 'pleachlaw5.RttForms': WHATEVER THE INPUT: true; the input reads as it did. -/
def rttFormsSpec : ChangeSpec := { name := "rttForms", fn := fun _ => fun
  | [] => { results := [.lit (.bool true)], args := [] }
  | _ => none }
def rttFormsRow : OpenClaim := { program := "ytldehmfhgmmkhaa", sum := "050a87497050b4fb7e8ec4cc2e4bf59b6671d04f63c0a173cc60a63538987a41", func := "pleach/pleachlaw5.RttForms", spec := "rttForms", unfollowed := true, recurses := true, apart := false }
def RttFormsSaid : Prop := rttFormsRow.holds Try.pinned (OpenSpec.ofChange rttFormsSpec)

/-- ITS FALSE NEIGHBOUR: 'it returns false'. Refute it at one input. -/
def rttFormsWrong : ChangeSpec := { name := "rttForms", fn := fun _ => fun
  | [] => { results := [.lit (.bool false)], args := [] }
  | _ => none }
def RttFormsWrongFalsely : Prop := rttFormsRow.holds Try.pinned (OpenSpec.ofChange rttFormsWrong)

/-- 'pleachlaw13.NetAll': WHATEVER THE INPUT: true; the input reads as it did. -/
def netAllSpec : ChangeSpec := { name := "netAll", fn := fun _ => fun
  | [d1, d2, d3] => { results := [.lit (.bool true)], args := [d1, d2, d3] }
  | _ => none }
def netAllRow : OpenClaim := { program := "ytldehmfhgmmkhaa", sum := "050a87497050b4fb7e8ec4cc2e4bf59b6671d04f63c0a173cc60a63538987a41", func := "pleach/pleachlaw13.NetAll", spec := "netAll", apart := false }
def NetAllSaid : Prop := netAllRow.holds Try.pinned (OpenSpec.ofChange netAllSpec)

/-- ITS FALSE NEIGHBOUR: 'it returns false'. Refute it at one input. -/
def netAllWrong : ChangeSpec := { name := "netAll", fn := fun _ => fun
  | [d1, d2, d3] => { results := [.lit (.bool false)], args := [d1, d2, d3] }
  | _ => none }
def NetAllWrongFalsely : Prop := netAllRow.holds Try.pinned (OpenSpec.ofChange netAllWrong)

/-- 'pleachlaw13.NetMade': WHATEVER THE INPUT: true; the input reads as it did. -/
def netMadeSpec : ChangeSpec := { name := "netMade", fn := fun _ => fun
  | [d] => { results := [.lit (.bool true)], args := [d] }
  | _ => none }
def netMadeRow : OpenClaim := { program := "ytldehmfhgmmkhaa", sum := "050a87497050b4fb7e8ec4cc2e4bf59b6671d04f63c0a173cc60a63538987a41", func := "pleach/pleachlaw13.NetMade", spec := "netMade", apart := false }
def NetMadeSaid : Prop := netMadeRow.holds Try.pinned (OpenSpec.ofChange netMadeSpec)

/-- ITS FALSE NEIGHBOUR: 'it returns false'. Refute it at one input. -/
def netMadeWrong : ChangeSpec := { name := "netMade", fn := fun _ => fun
  | [d] => { results := [.lit (.bool false)], args := [d] }
  | _ => none }
def NetMadeWrongFalsely : Prop := netMadeRow.holds Try.pinned (OpenSpec.ofChange netMadeWrong)

/-- 'pleachlaw13.NetForms': WHATEVER THE INPUT: true; the input reads as it did. -/
def netFormsSpec : ChangeSpec := { name := "netForms", fn := fun _ => fun
  | [] => { results := [.lit (.bool true)], args := [] }
  | _ => none }
def netFormsRow : OpenClaim := { program := "ytldehmfhgmmkhaa", sum := "050a87497050b4fb7e8ec4cc2e4bf59b6671d04f63c0a173cc60a63538987a41", func := "pleach/pleachlaw13.NetForms", spec := "netForms", apart := false }
def NetFormsSaid : Prop := netFormsRow.holds Try.pinned (OpenSpec.ofChange netFormsSpec)

/-- ITS FALSE NEIGHBOUR: 'it returns false'. Refute it at one input. -/
def netFormsWrong : ChangeSpec := { name := "netForms", fn := fun _ => fun
  | [] => { results := [.lit (.bool false)], args := [] }
  | _ => none }
def NetFormsWrongFalsely : Prop := netFormsRow.holds Try.pinned (OpenSpec.ofChange netFormsWrong)

/-- 'pleachlaw13.NetOrder': WHATEVER THE INPUT: true; the input reads as it did. -/
def netOrderSpec : ChangeSpec := { name := "netOrder", fn := fun _ => fun
  | [d1, d2] => { results := [.lit (.bool true)], args := [d1, d2] }
  | _ => none }
def netOrderRow : OpenClaim := { program := "ytldehmfhgmmkhaa", sum := "050a87497050b4fb7e8ec4cc2e4bf59b6671d04f63c0a173cc60a63538987a41", func := "pleach/pleachlaw13.NetOrder", spec := "netOrder", apart := false }
def NetOrderSaid : Prop := netOrderRow.holds Try.pinned (OpenSpec.ofChange netOrderSpec)

/-- ITS FALSE NEIGHBOUR: 'it returns false'. Refute it at one input. -/
def netOrderWrong : ChangeSpec := { name := "netOrder", fn := fun _ => fun
  | [d1, d2] => { results := [.lit (.bool false)], args := [d1, d2] }
  | _ => none }
def NetOrderWrongFalsely : Prop := netOrderRow.holds Try.pinned (OpenSpec.ofChange netOrderWrong)

/-- 'pleachlaw21.TreeEither': WHATEVER THE INPUT: true; the input reads as it did. -/
def treeEitherSpec : ChangeSpec := { name := "treeEither", fn := fun _ => fun
  | [d] => { results := [.lit (.bool true)], args := [d] }
  | _ => none }
def treeEitherRow : OpenClaim := { program := "ytldehmfhgmmkhaa", sum := "050a87497050b4fb7e8ec4cc2e4bf59b6671d04f63c0a173cc60a63538987a41", func := "pleach/pleachlaw21.TreeEither", spec := "treeEither", apart := false }
def TreeEitherSaid : Prop := treeEitherRow.holds Try.pinned (OpenSpec.ofChange treeEitherSpec)

/-- ITS FALSE NEIGHBOUR: 'it returns false'. Refute it at one input. -/
def treeEitherWrong : ChangeSpec := { name := "treeEither", fn := fun _ => fun
  | [d] => { results := [.lit (.bool false)], args := [d] }
  | _ => none }
def TreeEitherWrongFalsely : Prop := treeEitherRow.holds Try.pinned (OpenSpec.ofChange treeEitherWrong)

/-- 'pleachlaw21.TreeForms': WHATEVER THE INPUT: true; the input reads as it did. -/
def treeFormsSpec : ChangeSpec := { name := "treeForms", fn := fun _ => fun
  | [] => { results := [.lit (.bool true)], args := [] }
  | _ => none }
def treeFormsRow : OpenClaim := { program := "ytldehmfhgmmkhaa", sum := "050a87497050b4fb7e8ec4cc2e4bf59b6671d04f63c0a173cc60a63538987a41", func := "pleach/pleachlaw21.TreeForms", spec := "treeForms", apart := false }
def TreeFormsSaid : Prop := treeFormsRow.holds Try.pinned (OpenSpec.ofChange treeFormsSpec)

/-- ITS FALSE NEIGHBOUR: 'it returns false'. Refute it at one input. -/
def treeFormsWrong : ChangeSpec := { name := "treeForms", fn := fun _ => fun
  | [] => { results := [.lit (.bool false)], args := [] }
  | _ => none }
def TreeFormsWrongFalsely : Prop := treeFormsRow.holds Try.pinned (OpenSpec.ofChange treeFormsWrong)

/-- 'pleachlaw21.TreeMoved': WHATEVER THE INPUT: true; the input reads as it did. -/
def treeMovedSpec : ChangeSpec := { name := "treeMoved", fn := fun _ => fun
  | [d1, d2, d3] => { results := [.lit (.bool true)], args := [d1, d2, d3] }
  | _ => none }
def treeMovedRow : OpenClaim := { program := "ytldehmfhgmmkhaa", sum := "050a87497050b4fb7e8ec4cc2e4bf59b6671d04f63c0a173cc60a63538987a41", func := "pleach/pleachlaw21.TreeMoved", spec := "treeMoved", apart := false }
def TreeMovedSaid : Prop := treeMovedRow.holds Try.pinned (OpenSpec.ofChange treeMovedSpec)

/-- ITS FALSE NEIGHBOUR: 'it returns false'. Refute it at one input. -/
def treeMovedWrong : ChangeSpec := { name := "treeMoved", fn := fun _ => fun
  | [d1, d2, d3] => { results := [.lit (.bool false)], args := [d1, d2, d3] }
  | _ => none }
def TreeMovedWrongFalsely : Prop := treeMovedRow.holds Try.pinned (OpenSpec.ofChange treeMovedWrong)

/-- 'pleachlaw14.RingLast': WHATEVER THE INPUT: true; the input reads as it did. -/
def ringLastSpec : ChangeSpec := { name := "ringLast", fn := fun _ => fun
  | [d] => { results := [.lit (.bool true)], args := [d] }
  | _ => none }
def ringLastRow : OpenClaim := { program := "ytldehmfhgmmkhaa", sum := "050a87497050b4fb7e8ec4cc2e4bf59b6671d04f63c0a173cc60a63538987a41", func := "pleach/pleachlaw14.RingLast", spec := "ringLast", unfollowed := true, recurses := true, apart := false }
def RingLastSaid : Prop := ringLastRow.holds Try.pinned (OpenSpec.ofChange ringLastSpec)

/-- ITS FALSE NEIGHBOUR: 'it returns false'. Refute it at one input. -/
def ringLastWrong : ChangeSpec := { name := "ringLast", fn := fun _ => fun
  | [d] => { results := [.lit (.bool false)], args := [d] }
  | _ => none }
def RingLastWrongFalsely : Prop := ringLastRow.holds Try.pinned (OpenSpec.ofChange ringLastWrong)

/-- 'pleachlaw14.RingForms': WHATEVER THE INPUT: true; the input reads as it did. -/
def ringFormsSpec : ChangeSpec := { name := "ringForms", fn := fun _ => fun
  | [] => { results := [.lit (.bool true)], args := [] }
  | _ => none }
def ringFormsRow : OpenClaim := { program := "ytldehmfhgmmkhaa", sum := "050a87497050b4fb7e8ec4cc2e4bf59b6671d04f63c0a173cc60a63538987a41", func := "pleach/pleachlaw14.RingForms", spec := "ringForms", unfollowed := true, recurses := true, apart := false }
def RingFormsSaid : Prop := ringFormsRow.holds Try.pinned (OpenSpec.ofChange ringFormsSpec)

/-- ITS FALSE NEIGHBOUR: 'it returns false'. Refute it at one input. -/
def ringFormsWrong : ChangeSpec := { name := "ringForms", fn := fun _ => fun
  | [] => { results := [.lit (.bool false)], args := [] }
  | _ => none }
def RingFormsWrongFalsely : Prop := ringFormsRow.holds Try.pinned (OpenSpec.ofChange ringFormsWrong)

/-- 'pleachlaw14.RingTurns': WHATEVER THE INPUT: true; the input reads as it did. -/
def ringTurnsSpec : ChangeSpec := { name := "ringTurns", fn := fun _ => fun
  | [d1, d2, d3] => { results := [.lit (.bool true)], args := [d1, d2, d3] }
  | _ => none }
def ringTurnsRow : OpenClaim := { program := "ytldehmfhgmmkhaa", sum := "050a87497050b4fb7e8ec4cc2e4bf59b6671d04f63c0a173cc60a63538987a41", func := "pleach/pleachlaw14.RingTurns", spec := "ringTurns", unfollowed := true, recurses := true, apart := false }
def RingTurnsSaid : Prop := ringTurnsRow.holds Try.pinned (OpenSpec.ofChange ringTurnsSpec)

/-- ITS FALSE NEIGHBOUR: 'it returns false'. Refute it at one input. -/
def ringTurnsWrong : ChangeSpec := { name := "ringTurns", fn := fun _ => fun
  | [d1, d2, d3] => { results := [.lit (.bool false)], args := [d1, d2, d3] }
  | _ => none }
def RingTurnsWrongFalsely : Prop := ringTurnsRow.holds Try.pinned (OpenSpec.ofChange ringTurnsWrong)

/- THE SECOND FORM. 'bulk': how many values and letters a reading holds, each counted each time it is reached (what is shared counts as often as it is met; a slice's spare places count too). A statement '..UptoSaid' is the law's where the arguments, and the package variables that the reading takes, are together of bulk at most 1048576: NARROWER than '..Said'. Prove '..Said' where nothing that the law and all that it calls make is longer than what came in: it says more and counts as full. Else prove '..UptoSaid'. A law counts once. -/
mutual
def uptoBulk {H : Type} : DataW H → Nat
  | .lit (.string bytes) => bytes.length + 1
  | .lit _ => 1
  | .nil => 1
  | .ptr d => uptoBulk d + 1
  | .slice elems spare => uptoBulkAll elems + uptoBulkAll spare + 1
  | .agg parts => uptoBulkAll parts + 1
  | .iface _ d => uptoBulk d + 1
  | .map entries => uptoBulkEntries entries + 1
  | .held _ => 1
def uptoBulkAll {H : Type} : List (DataW H) → Nat
  | [] => 0
  | d :: r => uptoBulk d + uptoBulkAll r
def uptoBulkEntries {H : Type} : List (Lit × DataW H) → Nat
  | [] => 0
  | x :: r => uptoBulkEntry x + uptoBulkEntries r
def uptoBulkEntry {H : Type} : Lit × DataW H → Nat
  | (.string bytes, d) => bytes.length + uptoBulk d + 1
  | (_, d) => uptoBulk d + 1
 end
def uptoSmall : (H : Type) → List (DataW H) → Bool := fun _ ds => decide (uptoBulkAll ds ≤ 1048576)
def OpenSpec.upto (s : _root_.Go.ChangeSpec) : _root_.Go.OpenSpec := { _root_.Go.OpenSpec.ofChange s with cond := some uptoSmall }

/-- 'pleachlaw5.RttAll', WHERE WHAT IT READS IS OF BULK AT MOST 1048576: true; the input reads as it did. -/
def rttAllUptoRow : OpenClaim := { program := "ytldehmfhgmmkhaa", sum := "050a87497050b4fb7e8ec4cc2e4bf59b6671d04f63c0a173cc60a63538987a41", func := "pleach/pleachlaw5.RttAll", spec := "rttAll", unfollowed := true, recurses := true, apart := false, narrowed := true }
def RttAllUptoSaid : Prop := rttAllUptoRow.holds Try.pinned (OpenSpec.upto rttAllSpec)

/-- 'pleachlaw5.RttBetween', WHERE WHAT IT READS IS OF BULK AT MOST 1048576: true; the input reads as it did. -/
def rttBetweenUptoRow : OpenClaim := { program := "ytldehmfhgmmkhaa", sum := "050a87497050b4fb7e8ec4cc2e4bf59b6671d04f63c0a173cc60a63538987a41", func := "pleach/pleachlaw5.RttBetween", spec := "rttBetween", unfollowed := true, recurses := true, apart := false, narrowed := true }
def RttBetweenUptoSaid : Prop := rttBetweenUptoRow.holds Try.pinned (OpenSpec.upto rttBetweenSpec)

/-- 'pleachlaw5.RttLearn', WHERE WHAT IT READS IS OF BULK AT MOST 1048576: true; the input reads as it did. -/
def rttLearnUptoRow : OpenClaim := { program := "ytldehmfhgmmkhaa", sum := "050a87497050b4fb7e8ec4cc2e4bf59b6671d04f63c0a173cc60a63538987a41", func := "pleach/pleachlaw5.RttLearn", spec := "rttLearn", unfollowed := true, recurses := true, apart := false, narrowed := true }
def RttLearnUptoSaid : Prop := rttLearnUptoRow.holds Try.pinned (OpenSpec.upto rttLearnSpec)

/-- 'pleachlaw5.RttForms', WHERE WHAT IT READS IS OF BULK AT MOST 1048576: true; the input reads as it did. -/
def rttFormsUptoRow : OpenClaim := { program := "ytldehmfhgmmkhaa", sum := "050a87497050b4fb7e8ec4cc2e4bf59b6671d04f63c0a173cc60a63538987a41", func := "pleach/pleachlaw5.RttForms", spec := "rttForms", unfollowed := true, recurses := true, apart := false, narrowed := true }
def RttFormsUptoSaid : Prop := rttFormsUptoRow.holds Try.pinned (OpenSpec.upto rttFormsSpec)

/-- 'pleachlaw13.NetAll', WHERE WHAT IT READS IS OF BULK AT MOST 1048576: true; the input reads as it did. -/
def netAllUptoRow : OpenClaim := { program := "ytldehmfhgmmkhaa", sum := "050a87497050b4fb7e8ec4cc2e4bf59b6671d04f63c0a173cc60a63538987a41", func := "pleach/pleachlaw13.NetAll", spec := "netAll", apart := false, narrowed := true }
def NetAllUptoSaid : Prop := netAllUptoRow.holds Try.pinned (OpenSpec.upto netAllSpec)

/-- 'pleachlaw13.NetMade', WHERE WHAT IT READS IS OF BULK AT MOST 1048576: true; the input reads as it did. -/
def netMadeUptoRow : OpenClaim := { program := "ytldehmfhgmmkhaa", sum := "050a87497050b4fb7e8ec4cc2e4bf59b6671d04f63c0a173cc60a63538987a41", func := "pleach/pleachlaw13.NetMade", spec := "netMade", apart := false, narrowed := true }
def NetMadeUptoSaid : Prop := netMadeUptoRow.holds Try.pinned (OpenSpec.upto netMadeSpec)

/-- 'pleachlaw13.NetForms', WHERE WHAT IT READS IS OF BULK AT MOST 1048576: true; the input reads as it did. -/
def netFormsUptoRow : OpenClaim := { program := "ytldehmfhgmmkhaa", sum := "050a87497050b4fb7e8ec4cc2e4bf59b6671d04f63c0a173cc60a63538987a41", func := "pleach/pleachlaw13.NetForms", spec := "netForms", apart := false, narrowed := true }
def NetFormsUptoSaid : Prop := netFormsUptoRow.holds Try.pinned (OpenSpec.upto netFormsSpec)

/-- 'pleachlaw13.NetOrder', WHERE WHAT IT READS IS OF BULK AT MOST 1048576: true; the input reads as it did. -/
def netOrderUptoRow : OpenClaim := { program := "ytldehmfhgmmkhaa", sum := "050a87497050b4fb7e8ec4cc2e4bf59b6671d04f63c0a173cc60a63538987a41", func := "pleach/pleachlaw13.NetOrder", spec := "netOrder", apart := false, narrowed := true }
def NetOrderUptoSaid : Prop := netOrderUptoRow.holds Try.pinned (OpenSpec.upto netOrderSpec)

/-- 'pleachlaw21.TreeEither', WHERE WHAT IT READS IS OF BULK AT MOST 1048576: true; the input reads as it did. -/
def treeEitherUptoRow : OpenClaim := { program := "ytldehmfhgmmkhaa", sum := "050a87497050b4fb7e8ec4cc2e4bf59b6671d04f63c0a173cc60a63538987a41", func := "pleach/pleachlaw21.TreeEither", spec := "treeEither", apart := false, narrowed := true }
def TreeEitherUptoSaid : Prop := treeEitherUptoRow.holds Try.pinned (OpenSpec.upto treeEitherSpec)

/-- 'pleachlaw21.TreeForms', WHERE WHAT IT READS IS OF BULK AT MOST 1048576: true; the input reads as it did. -/
def treeFormsUptoRow : OpenClaim := { program := "ytldehmfhgmmkhaa", sum := "050a87497050b4fb7e8ec4cc2e4bf59b6671d04f63c0a173cc60a63538987a41", func := "pleach/pleachlaw21.TreeForms", spec := "treeForms", apart := false, narrowed := true }
def TreeFormsUptoSaid : Prop := treeFormsUptoRow.holds Try.pinned (OpenSpec.upto treeFormsSpec)

/-- 'pleachlaw21.TreeMoved', WHERE WHAT IT READS IS OF BULK AT MOST 1048576: true; the input reads as it did. -/
def treeMovedUptoRow : OpenClaim := { program := "ytldehmfhgmmkhaa", sum := "050a87497050b4fb7e8ec4cc2e4bf59b6671d04f63c0a173cc60a63538987a41", func := "pleach/pleachlaw21.TreeMoved", spec := "treeMoved", apart := false, narrowed := true }
def TreeMovedUptoSaid : Prop := treeMovedUptoRow.holds Try.pinned (OpenSpec.upto treeMovedSpec)

/-- 'pleachlaw14.RingLast', WHERE WHAT IT READS IS OF BULK AT MOST 1048576: true; the input reads as it did. -/
def ringLastUptoRow : OpenClaim := { program := "ytldehmfhgmmkhaa", sum := "050a87497050b4fb7e8ec4cc2e4bf59b6671d04f63c0a173cc60a63538987a41", func := "pleach/pleachlaw14.RingLast", spec := "ringLast", unfollowed := true, recurses := true, apart := false, narrowed := true }
def RingLastUptoSaid : Prop := ringLastUptoRow.holds Try.pinned (OpenSpec.upto ringLastSpec)

/-- 'pleachlaw14.RingForms', WHERE WHAT IT READS IS OF BULK AT MOST 1048576: true; the input reads as it did. -/
def ringFormsUptoRow : OpenClaim := { program := "ytldehmfhgmmkhaa", sum := "050a87497050b4fb7e8ec4cc2e4bf59b6671d04f63c0a173cc60a63538987a41", func := "pleach/pleachlaw14.RingForms", spec := "ringForms", unfollowed := true, recurses := true, apart := false, narrowed := true }
def RingFormsUptoSaid : Prop := ringFormsUptoRow.holds Try.pinned (OpenSpec.upto ringFormsSpec)

/-- 'pleachlaw14.RingTurns', WHERE WHAT IT READS IS OF BULK AT MOST 1048576: true; the input reads as it did. -/
def ringTurnsUptoRow : OpenClaim := { program := "ytldehmfhgmmkhaa", sum := "050a87497050b4fb7e8ec4cc2e4bf59b6671d04f63c0a173cc60a63538987a41", func := "pleach/pleachlaw14.RingTurns", spec := "ringTurns", unfollowed := true, recurses := true, apart := false, narrowed := true }
def RingTurnsUptoSaid : Prop := ringTurnsUptoRow.holds Try.pinned (OpenSpec.upto ringTurnsSpec)

end Rows
end Go.Proofs.Ytldehmfhgmmkhaa
