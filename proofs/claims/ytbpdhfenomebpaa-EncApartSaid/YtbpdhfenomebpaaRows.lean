/-
  No cell of these rows narrows 'for every input' (looked for: loops, veiled, ifaces, maps, wideKeys, modest, calm, conditions, laid).
  DERIVED. THE GIVEN ROWS OF THIS SEAT. 16 by the template 'for every input the law returns true; each argument reads behind the call as it read before'; 0 by the template 'total and deterministic' (their statements: YtbpdhfenomebpaaTotals.lean).
  GIVEN WITH THE SEED: the statements are not yours to turn. If you find one false, say at which input.
  Laid BY PROGRAM, IN A SANDBOX (cutbox-rows.mjs): the forced cells as the released guide's own fill.sh prints them over the translation 71958ad73ae241c0… (all of the seat's roots in one cut). By AI agents, Wed Nov 11 2026. No macro, syntax, notation, axiom, sorry.
-/
import Derived.Test.YtbpdhfenomebpaaChecked
import GoSem.Claim
import GoSem.ClaimJoined
import GoSem.ClaimMapViews
import Derived.JoinedTies
import Derived.KernelRfl
namespace Go.Proofs.Ytbpdhfenomebpaa
/- THE CELL 'sum', in the pinned program and in every row, IS THE sha256 OF THE DUMP (.gsa) THAT YtbpdhfenomebpaaProg.lean LOADS. Nothing in Lean hashes anything: it is a label: what it is worth is what the hold of that sum in a sandbox is worth. -/
noncomputable def Try.pinned : Pinned := { name := "ytbpdhfenomebpaa", sum := "71958ad73ae241c0d59bd235bbc2f1332cd425e3512803d81138cb847501c56c", checked := Try.checked }
namespace Rows
def none {H : Type} : Left H := { results := [], args := [] }

/-- 'spindlelaw25.EncNames': WHATEVER THE INPUT: true; the input reads as it did. -/
def encNamesSpec : ChangeSpec := { name := "encNames", fn := fun _ => fun
  | [] => { results := [.lit (.bool true)], args := [] }
  | _ => none }
def encNamesRow : OpenClaim := { program := "ytbpdhfenomebpaa", sum := "71958ad73ae241c0d59bd235bbc2f1332cd425e3512803d81138cb847501c56c", func := "spindle/spindlelaw25.EncNames", spec := "encNames", unfollowed := true, recurses := true, apart := false }
def EncNamesSaid : Prop := encNamesRow.holds Try.pinned (OpenSpec.ofChange encNamesSpec)

/-- ITS FALSE NEIGHBOUR: 'it returns false'. Refute it at one input. -/
def encNamesWrong : ChangeSpec := { name := "encNames", fn := fun _ => fun
  | [] => { results := [.lit (.bool false)], args := [] }
  | _ => none }
def EncNamesWrongFalsely : Prop := encNamesRow.holds Try.pinned (OpenSpec.ofChange encNamesWrong)

/-- 'spindlelaw25.EncMatches': WHATEVER THE INPUT: true; the input reads as it did. -/
def encMatchesSpec : ChangeSpec := { name := "encMatches", fn := fun _ => fun
  | [d1, d2, d3, d4] => { results := [.lit (.bool true)], args := [d1, d2, d3, d4] }
  | _ => none }
def encMatchesRow : OpenClaim := { program := "ytbpdhfenomebpaa", sum := "71958ad73ae241c0d59bd235bbc2f1332cd425e3512803d81138cb847501c56c", func := "spindle/spindlelaw25.EncMatches", spec := "encMatches", unfollowed := true, recurses := true, apart := false }
def EncMatchesSaid : Prop := encMatchesRow.holds Try.pinned (OpenSpec.ofChange encMatchesSpec)

/-- ITS FALSE NEIGHBOUR: 'it returns false'. Refute it at one input. -/
def encMatchesWrong : ChangeSpec := { name := "encMatches", fn := fun _ => fun
  | [d1, d2, d3, d4] => { results := [.lit (.bool false)], args := [d1, d2, d3, d4] }
  | _ => none }
def EncMatchesWrongFalsely : Prop := encMatchesRow.holds Try.pinned (OpenSpec.ofChange encMatchesWrong)

/-- 'spindlelaw25.EncInterval': WHATEVER THE INPUT: true; the input reads as it did. -/
def encIntervalSpec : ChangeSpec := { name := "encInterval", fn := fun _ => fun
  | [d1, d2, d3, d4] => { results := [.lit (.bool true)], args := [d1, d2, d3, d4] }
  | _ => none }
def encIntervalRow : OpenClaim := { program := "ytbpdhfenomebpaa", sum := "71958ad73ae241c0d59bd235bbc2f1332cd425e3512803d81138cb847501c56c", func := "spindle/spindlelaw25.EncInterval", spec := "encInterval", unfollowed := true, recurses := true, apart := false }
def EncIntervalSaid : Prop := encIntervalRow.holds Try.pinned (OpenSpec.ofChange encIntervalSpec)

/-- ITS FALSE NEIGHBOUR: 'it returns false'. Refute it at one input. -/
def encIntervalWrong : ChangeSpec := { name := "encInterval", fn := fun _ => fun
  | [d1, d2, d3, d4] => { results := [.lit (.bool false)], args := [d1, d2, d3, d4] }
  | _ => none }
def EncIntervalWrongFalsely : Prop := encIntervalRow.holds Try.pinned (OpenSpec.ofChange encIntervalWrong)

/-- 'spindlelaw25.EncLength': WHATEVER THE INPUT: true; the input reads as it did. -/
def encLengthSpec : ChangeSpec := { name := "encLength", fn := fun _ => fun
  | [d1, d2, d3, d4] => { results := [.lit (.bool true)], args := [d1, d2, d3, d4] }
  | _ => none }
def encLengthRow : OpenClaim := { program := "ytbpdhfenomebpaa", sum := "71958ad73ae241c0d59bd235bbc2f1332cd425e3512803d81138cb847501c56c", func := "spindle/spindlelaw25.EncLength", spec := "encLength", unfollowed := true, recurses := true, apart := false }
def EncLengthSaid : Prop := encLengthRow.holds Try.pinned (OpenSpec.ofChange encLengthSpec)

/-- ITS FALSE NEIGHBOUR: 'it returns false'. Refute it at one input. -/
def encLengthWrong : ChangeSpec := { name := "encLength", fn := fun _ => fun
  | [d1, d2, d3, d4] => { results := [.lit (.bool false)], args := [d1, d2, d3, d4] }
  | _ => none }
def EncLengthWrongFalsely : Prop := encLengthRow.holds Try.pinned (OpenSpec.ofChange encLengthWrong)

/-- 'spindlelaw25.EncPieces': WHATEVER THE INPUT: true; the input reads as it did. -/
def encPiecesSpec : ChangeSpec := { name := "encPieces", fn := fun _ => fun
  | [d1, d2, d3, d4, d5] => { results := [.lit (.bool true)], args := [d1, d2, d3, d4, d5] }
  | _ => none }
def encPiecesRow : OpenClaim := { program := "ytbpdhfenomebpaa", sum := "71958ad73ae241c0d59bd235bbc2f1332cd425e3512803d81138cb847501c56c", func := "spindle/spindlelaw25.EncPieces", spec := "encPieces", unfollowed := true, recurses := true, apart := false }
def EncPiecesSaid : Prop := encPiecesRow.holds Try.pinned (OpenSpec.ofChange encPiecesSpec)

/-- ITS FALSE NEIGHBOUR: 'it returns false'. Refute it at one input. -/
def encPiecesWrong : ChangeSpec := { name := "encPieces", fn := fun _ => fun
  | [d1, d2, d3, d4, d5] => { results := [.lit (.bool false)], args := [d1, d2, d3, d4, d5] }
  | _ => none }
def EncPiecesWrongFalsely : Prop := encPiecesRow.holds Try.pinned (OpenSpec.ofChange encPiecesWrong)

/-- 'spindlelaw25.EncApart': WHATEVER THE INPUT: true; the input reads as it did. -/
def encApartSpec : ChangeSpec := { name := "encApart", fn := fun _ => fun
  | [d1, d2, d3, d4, d5] => { results := [.lit (.bool true)], args := [d1, d2, d3, d4, d5] }
  | _ => none }
def encApartRow : OpenClaim := { program := "ytbpdhfenomebpaa", sum := "71958ad73ae241c0d59bd235bbc2f1332cd425e3512803d81138cb847501c56c", func := "spindle/spindlelaw25.EncApart", spec := "encApart", unfollowed := true, recurses := true, apart := false }
def EncApartSaid : Prop := encApartRow.holds Try.pinned (OpenSpec.ofChange encApartSpec)

/-- ITS FALSE NEIGHBOUR: 'it returns false'. Refute it at one input. -/
def encApartWrong : ChangeSpec := { name := "encApart", fn := fun _ => fun
  | [d1, d2, d3, d4, d5] => { results := [.lit (.bool false)], args := [d1, d2, d3, d4, d5] }
  | _ => none }
def EncApartWrongFalsely : Prop := encApartRow.holds Try.pinned (OpenSpec.ofChange encApartWrong)

/-- 'spindlelaw26.DecReads': WHATEVER THE INPUT: true; the input reads as it did. -/
def decReadsSpec : ChangeSpec := { name := "decReads", fn := fun _ => fun
  | [d1, d2, d3, d4] => { results := [.lit (.bool true)], args := [d1, d2, d3, d4] }
  | _ => none }
def decReadsRow : OpenClaim := { program := "ytbpdhfenomebpaa", sum := "71958ad73ae241c0d59bd235bbc2f1332cd425e3512803d81138cb847501c56c", func := "spindle/spindlelaw26.DecReads", spec := "decReads", apart := false }
def DecReadsSaid : Prop := decReadsRow.holds Try.pinned (OpenSpec.ofChange decReadsSpec)

/-- ITS FALSE NEIGHBOUR: 'it returns false'. Refute it at one input. -/
def decReadsWrong : ChangeSpec := { name := "decReads", fn := fun _ => fun
  | [d1, d2, d3, d4] => { results := [.lit (.bool false)], args := [d1, d2, d3, d4] }
  | _ => none }
def DecReadsWrongFalsely : Prop := decReadsRow.holds Try.pinned (OpenSpec.ofChange decReadsWrong)

/-- 'spindlelaw26.DecMatches': WHATEVER THE INPUT: true; the input reads as it did. -/
def decMatchesSpec : ChangeSpec := { name := "decMatches", fn := fun _ => fun
  | [d1, d2, d3, d4, d5] => { results := [.lit (.bool true)], args := [d1, d2, d3, d4, d5] }
  | _ => none }
def decMatchesRow : OpenClaim := { program := "ytbpdhfenomebpaa", sum := "71958ad73ae241c0d59bd235bbc2f1332cd425e3512803d81138cb847501c56c", func := "spindle/spindlelaw26.DecMatches", spec := "decMatches", apart := false }
def DecMatchesSaid : Prop := decMatchesRow.holds Try.pinned (OpenSpec.ofChange decMatchesSpec)

/-- ITS FALSE NEIGHBOUR: 'it returns false'. Refute it at one input. -/
def decMatchesWrong : ChangeSpec := { name := "decMatches", fn := fun _ => fun
  | [d1, d2, d3, d4, d5] => { results := [.lit (.bool false)], args := [d1, d2, d3, d4, d5] }
  | _ => none }
def DecMatchesWrongFalsely : Prop := decMatchesRow.holds Try.pinned (OpenSpec.ofChange decMatchesWrong)

/-- 'spindlelaw26.DecCut': WHATEVER THE INPUT: true; the input reads as it did. -/
def decCutSpec : ChangeSpec := { name := "decCut", fn := fun _ => fun
  | [d1, d2, d3, d4, d5] => { results := [.lit (.bool true)], args := [d1, d2, d3, d4, d5] }
  | _ => none }
def decCutRow : OpenClaim := { program := "ytbpdhfenomebpaa", sum := "71958ad73ae241c0d59bd235bbc2f1332cd425e3512803d81138cb847501c56c", func := "spindle/spindlelaw26.DecCut", spec := "decCut", apart := false }
def DecCutSaid : Prop := decCutRow.holds Try.pinned (OpenSpec.ofChange decCutSpec)

/-- ITS FALSE NEIGHBOUR: 'it returns false'. Refute it at one input. -/
def decCutWrong : ChangeSpec := { name := "decCut", fn := fun _ => fun
  | [d1, d2, d3, d4, d5] => { results := [.lit (.bool false)], args := [d1, d2, d3, d4, d5] }
  | _ => none }
def DecCutWrongFalsely : Prop := decCutRow.holds Try.pinned (OpenSpec.ofChange decCutWrong)

/-- 'spindlelaw26.DecBack': WHATEVER THE INPUT: true; the input reads as it did. -/
def decBackSpec : ChangeSpec := { name := "decBack", fn := fun _ => fun
  | [d1, d2, d3, d4, d5] => { results := [.lit (.bool true)], args := [d1, d2, d3, d4, d5] }
  | _ => none }
def decBackRow : OpenClaim := { program := "ytbpdhfenomebpaa", sum := "71958ad73ae241c0d59bd235bbc2f1332cd425e3512803d81138cb847501c56c", func := "spindle/spindlelaw26.DecBack", spec := "decBack", unfollowed := true, recurses := true, apart := false }
def DecBackSaid : Prop := decBackRow.holds Try.pinned (OpenSpec.ofChange decBackSpec)

/-- ITS FALSE NEIGHBOUR: 'it returns false'. Refute it at one input. -/
def decBackWrong : ChangeSpec := { name := "decBack", fn := fun _ => fun
  | [d1, d2, d3, d4, d5] => { results := [.lit (.bool false)], args := [d1, d2, d3, d4, d5] }
  | _ => none }
def DecBackWrongFalsely : Prop := decBackRow.holds Try.pinned (OpenSpec.ofChange decBackWrong)

/-- 'spindlelaw26.DecForth': WHATEVER THE INPUT: true; the input reads as it did. -/
def decForthSpec : ChangeSpec := { name := "decForth", fn := fun _ => fun
  | [d1, d2, d3, d4] => { results := [.lit (.bool true)], args := [d1, d2, d3, d4] }
  | _ => none }
def decForthRow : OpenClaim := { program := "ytbpdhfenomebpaa", sum := "71958ad73ae241c0d59bd235bbc2f1332cd425e3512803d81138cb847501c56c", func := "spindle/spindlelaw26.DecForth", spec := "decForth", unfollowed := true, recurses := true, apart := false }
def DecForthSaid : Prop := decForthRow.holds Try.pinned (OpenSpec.ofChange decForthSpec)

/-- ITS FALSE NEIGHBOUR: 'it returns false'. Refute it at one input. -/
def decForthWrong : ChangeSpec := { name := "decForth", fn := fun _ => fun
  | [d1, d2, d3, d4] => { results := [.lit (.bool false)], args := [d1, d2, d3, d4] }
  | _ => none }
def DecForthWrongFalsely : Prop := decForthRow.holds Try.pinned (OpenSpec.ofChange decForthWrong)

/-- 'spindlelaw26.DecNames': WHATEVER THE INPUT: true; the input reads as it did. -/
def decNamesSpec : ChangeSpec := { name := "decNames", fn := fun _ => fun
  | [] => { results := [.lit (.bool true)], args := [] }
  | _ => none }
def decNamesRow : OpenClaim := { program := "ytbpdhfenomebpaa", sum := "71958ad73ae241c0d59bd235bbc2f1332cd425e3512803d81138cb847501c56c", func := "spindle/spindlelaw26.DecNames", spec := "decNames", inPlace := ["internal/abi.NoEscape", "internal/bytealg.MakeNoZero"], apart := false }
def DecNamesSaid : Prop := decNamesRow.holds Try.pinned (OpenSpec.ofChange decNamesSpec)

/-- ITS FALSE NEIGHBOUR: 'it returns false'. Refute it at one input. -/
def decNamesWrong : ChangeSpec := { name := "decNames", fn := fun _ => fun
  | [] => { results := [.lit (.bool false)], args := [] }
  | _ => none }
def DecNamesWrongFalsely : Prop := decNamesRow.holds Try.pinned (OpenSpec.ofChange decNamesWrong)

/-- 'spindlelaw27.BinsNames': WHATEVER THE INPUT: true; the input reads as it did. -/
def binsNamesSpec : ChangeSpec := { name := "binsNames", fn := fun _ => fun
  | [] => { results := [.lit (.bool true)], args := [] }
  | _ => none }
def binsNamesRow : OpenClaim := { program := "ytbpdhfenomebpaa", sum := "71958ad73ae241c0d59bd235bbc2f1332cd425e3512803d81138cb847501c56c", func := "spindle/spindlelaw27.BinsNames", spec := "binsNames", unfollowed := true, recurses := true, apart := false }
def BinsNamesSaid : Prop := binsNamesRow.holds Try.pinned (OpenSpec.ofChange binsNamesSpec)

/-- ITS FALSE NEIGHBOUR: 'it returns false'. Refute it at one input. -/
def binsNamesWrong : ChangeSpec := { name := "binsNames", fn := fun _ => fun
  | [] => { results := [.lit (.bool false)], args := [] }
  | _ => none }
def BinsNamesWrongFalsely : Prop := binsNamesRow.holds Try.pinned (OpenSpec.ofChange binsNamesWrong)

/-- 'spindlelaw27.BinsReads': WHATEVER THE INPUT: true; the input reads as it did. -/
def binsReadsSpec : ChangeSpec := { name := "binsReads", fn := fun _ => fun
  | [d1, d2, d3, d4] => { results := [.lit (.bool true)], args := [d1, d2, d3, d4] }
  | _ => none }
def binsReadsRow : OpenClaim := { program := "ytbpdhfenomebpaa", sum := "71958ad73ae241c0d59bd235bbc2f1332cd425e3512803d81138cb847501c56c", func := "spindle/spindlelaw27.BinsReads", spec := "binsReads", unfollowed := true, recurses := true, apart := false }
def BinsReadsSaid : Prop := binsReadsRow.holds Try.pinned (OpenSpec.ofChange binsReadsSpec)

/-- ITS FALSE NEIGHBOUR: 'it returns false'. Refute it at one input. -/
def binsReadsWrong : ChangeSpec := { name := "binsReads", fn := fun _ => fun
  | [d1, d2, d3, d4] => { results := [.lit (.bool false)], args := [d1, d2, d3, d4] }
  | _ => none }
def BinsReadsWrongFalsely : Prop := binsReadsRow.holds Try.pinned (OpenSpec.ofChange binsReadsWrong)

/-- 'spindlelaw27.BinsStops': WHATEVER THE INPUT: true; the input reads as it did. -/
def binsStopsSpec : ChangeSpec := { name := "binsStops", fn := fun _ => fun
  | [d1, d2, d3, d4] => { results := [.lit (.bool true)], args := [d1, d2, d3, d4] }
  | _ => none }
def binsStopsRow : OpenClaim := { program := "ytbpdhfenomebpaa", sum := "71958ad73ae241c0d59bd235bbc2f1332cd425e3512803d81138cb847501c56c", func := "spindle/spindlelaw27.BinsStops", spec := "binsStops", unfollowed := true, recurses := true, apart := false }
def BinsStopsSaid : Prop := binsStopsRow.holds Try.pinned (OpenSpec.ofChange binsStopsSpec)

/-- ITS FALSE NEIGHBOUR: 'it returns false'. Refute it at one input. -/
def binsStopsWrong : ChangeSpec := { name := "binsStops", fn := fun _ => fun
  | [d1, d2, d3, d4] => { results := [.lit (.bool false)], args := [d1, d2, d3, d4] }
  | _ => none }
def BinsStopsWrongFalsely : Prop := binsStopsRow.holds Try.pinned (OpenSpec.ofChange binsStopsWrong)

/-- 'spindlelaw27.BinsBack': WHATEVER THE INPUT: true; the input reads as it did. -/
def binsBackSpec : ChangeSpec := { name := "binsBack", fn := fun _ => fun
  | [d1, d2, d3] => { results := [.lit (.bool true)], args := [d1, d2, d3] }
  | _ => none }
def binsBackRow : OpenClaim := { program := "ytbpdhfenomebpaa", sum := "71958ad73ae241c0d59bd235bbc2f1332cd425e3512803d81138cb847501c56c", func := "spindle/spindlelaw27.BinsBack", spec := "binsBack", unfollowed := true, recurses := true, apart := false }
def BinsBackSaid : Prop := binsBackRow.holds Try.pinned (OpenSpec.ofChange binsBackSpec)

/-- ITS FALSE NEIGHBOUR: 'it returns false'. Refute it at one input. -/
def binsBackWrong : ChangeSpec := { name := "binsBack", fn := fun _ => fun
  | [d1, d2, d3] => { results := [.lit (.bool false)], args := [d1, d2, d3] }
  | _ => none }
def BinsBackWrongFalsely : Prop := binsBackRow.holds Try.pinned (OpenSpec.ofChange binsBackWrong)

/- THE SECOND FORM. 'bulk': how many values and letters a reading holds, each counted each time it is reached (what is shared counts as often as it is met; a slice's spare places count too). A statement '..UptoSaid' is the law's where the arguments, and the package variables that the reading takes, are together of bulk at most 1048576: NARROWER than '..Said'. Prove '..Said' where nothing that the law and all that it calls make is longer than what came in: it says more and counts as full. Else prove '..UptoSaid'. A law counts once. -/
mutual
def uptoBulk {H : Type} : DataW H → Nat
  | .lit (.string bytes) => bytes.length + 1
  | .lit _ => 1
  | .nil => 1
  | .ptr d => uptoBulk d + 1
  | .slice elems spare => uptoBulkAll elems + uptoBulkAll spare + 1
  | .agg parts => uptoBulkAll parts + 1
  | .iface _ d => uptoBulk d + 1
  | .map entries => uptoBulkEntries entries + 1
  | .held _ => 1
def uptoBulkAll {H : Type} : List (DataW H) → Nat
  | [] => 0
  | d :: r => uptoBulk d + uptoBulkAll r
def uptoBulkEntries {H : Type} : List (Lit × DataW H) → Nat
  | [] => 0
  | x :: r => uptoBulkEntry x + uptoBulkEntries r
def uptoBulkEntry {H : Type} : Lit × DataW H → Nat
  | (.string bytes, d) => bytes.length + uptoBulk d + 1
  | (_, d) => uptoBulk d + 1
 end
def uptoSmall : (H : Type) → List (DataW H) → Bool := fun _ ds => decide (uptoBulkAll ds ≤ 1048576)
def OpenSpec.upto (s : _root_.Go.ChangeSpec) : _root_.Go.OpenSpec := { _root_.Go.OpenSpec.ofChange s with cond := some uptoSmall }

/-- 'spindlelaw25.EncNames', WHERE WHAT IT READS IS OF BULK AT MOST 1048576: true; the input reads as it did. -/
def encNamesUptoRow : OpenClaim := { program := "ytbpdhfenomebpaa", sum := "71958ad73ae241c0d59bd235bbc2f1332cd425e3512803d81138cb847501c56c", func := "spindle/spindlelaw25.EncNames", spec := "encNames", unfollowed := true, recurses := true, apart := false, narrowed := true }
def EncNamesUptoSaid : Prop := encNamesUptoRow.holds Try.pinned (OpenSpec.upto encNamesSpec)

/-- 'spindlelaw25.EncMatches', WHERE WHAT IT READS IS OF BULK AT MOST 1048576: true; the input reads as it did. -/
def encMatchesUptoRow : OpenClaim := { program := "ytbpdhfenomebpaa", sum := "71958ad73ae241c0d59bd235bbc2f1332cd425e3512803d81138cb847501c56c", func := "spindle/spindlelaw25.EncMatches", spec := "encMatches", unfollowed := true, recurses := true, apart := false, narrowed := true }
def EncMatchesUptoSaid : Prop := encMatchesUptoRow.holds Try.pinned (OpenSpec.upto encMatchesSpec)

/-- 'spindlelaw25.EncInterval', WHERE WHAT IT READS IS OF BULK AT MOST 1048576: true; the input reads as it did. -/
def encIntervalUptoRow : OpenClaim := { program := "ytbpdhfenomebpaa", sum := "71958ad73ae241c0d59bd235bbc2f1332cd425e3512803d81138cb847501c56c", func := "spindle/spindlelaw25.EncInterval", spec := "encInterval", unfollowed := true, recurses := true, apart := false, narrowed := true }
def EncIntervalUptoSaid : Prop := encIntervalUptoRow.holds Try.pinned (OpenSpec.upto encIntervalSpec)

/-- 'spindlelaw25.EncLength', WHERE WHAT IT READS IS OF BULK AT MOST 1048576: true; the input reads as it did. -/
def encLengthUptoRow : OpenClaim := { program := "ytbpdhfenomebpaa", sum := "71958ad73ae241c0d59bd235bbc2f1332cd425e3512803d81138cb847501c56c", func := "spindle/spindlelaw25.EncLength", spec := "encLength", unfollowed := true, recurses := true, apart := false, narrowed := true }
def EncLengthUptoSaid : Prop := encLengthUptoRow.holds Try.pinned (OpenSpec.upto encLengthSpec)

/-- 'spindlelaw25.EncPieces', WHERE WHAT IT READS IS OF BULK AT MOST 1048576: true; the input reads as it did. -/
def encPiecesUptoRow : OpenClaim := { program := "ytbpdhfenomebpaa", sum := "71958ad73ae241c0d59bd235bbc2f1332cd425e3512803d81138cb847501c56c", func := "spindle/spindlelaw25.EncPieces", spec := "encPieces", unfollowed := true, recurses := true, apart := false, narrowed := true }
def EncPiecesUptoSaid : Prop := encPiecesUptoRow.holds Try.pinned (OpenSpec.upto encPiecesSpec)

/-- 'spindlelaw25.EncApart', WHERE WHAT IT READS IS OF BULK AT MOST 1048576: true; the input reads as it did. -/
def encApartUptoRow : OpenClaim := { program := "ytbpdhfenomebpaa", sum := "71958ad73ae241c0d59bd235bbc2f1332cd425e3512803d81138cb847501c56c", func := "spindle/spindlelaw25.EncApart", spec := "encApart", unfollowed := true, recurses := true, apart := false, narrowed := true }
def EncApartUptoSaid : Prop := encApartUptoRow.holds Try.pinned (OpenSpec.upto encApartSpec)

/-- 'spindlelaw26.DecReads', WHERE WHAT IT READS IS OF BULK AT MOST 1048576: true; the input reads as it did. -/
def decReadsUptoRow : OpenClaim := { program := "ytbpdhfenomebpaa", sum := "71958ad73ae241c0d59bd235bbc2f1332cd425e3512803d81138cb847501c56c", func := "spindle/spindlelaw26.DecReads", spec := "decReads", apart := false, narrowed := true }
def DecReadsUptoSaid : Prop := decReadsUptoRow.holds Try.pinned (OpenSpec.upto decReadsSpec)

/-- 'spindlelaw26.DecMatches', WHERE WHAT IT READS IS OF BULK AT MOST 1048576: true; the input reads as it did. -/
def decMatchesUptoRow : OpenClaim := { program := "ytbpdhfenomebpaa", sum := "71958ad73ae241c0d59bd235bbc2f1332cd425e3512803d81138cb847501c56c", func := "spindle/spindlelaw26.DecMatches", spec := "decMatches", apart := false, narrowed := true }
def DecMatchesUptoSaid : Prop := decMatchesUptoRow.holds Try.pinned (OpenSpec.upto decMatchesSpec)

/-- 'spindlelaw26.DecCut', WHERE WHAT IT READS IS OF BULK AT MOST 1048576: true; the input reads as it did. -/
def decCutUptoRow : OpenClaim := { program := "ytbpdhfenomebpaa", sum := "71958ad73ae241c0d59bd235bbc2f1332cd425e3512803d81138cb847501c56c", func := "spindle/spindlelaw26.DecCut", spec := "decCut", apart := false, narrowed := true }
def DecCutUptoSaid : Prop := decCutUptoRow.holds Try.pinned (OpenSpec.upto decCutSpec)

/-- 'spindlelaw26.DecBack', WHERE WHAT IT READS IS OF BULK AT MOST 1048576: true; the input reads as it did. -/
def decBackUptoRow : OpenClaim := { program := "ytbpdhfenomebpaa", sum := "71958ad73ae241c0d59bd235bbc2f1332cd425e3512803d81138cb847501c56c", func := "spindle/spindlelaw26.DecBack", spec := "decBack", unfollowed := true, recurses := true, apart := false, narrowed := true }
def DecBackUptoSaid : Prop := decBackUptoRow.holds Try.pinned (OpenSpec.upto decBackSpec)

/-- 'spindlelaw26.DecForth', WHERE WHAT IT READS IS OF BULK AT MOST 1048576: true; the input reads as it did. -/
def decForthUptoRow : OpenClaim := { program := "ytbpdhfenomebpaa", sum := "71958ad73ae241c0d59bd235bbc2f1332cd425e3512803d81138cb847501c56c", func := "spindle/spindlelaw26.DecForth", spec := "decForth", unfollowed := true, recurses := true, apart := false, narrowed := true }
def DecForthUptoSaid : Prop := decForthUptoRow.holds Try.pinned (OpenSpec.upto decForthSpec)

/-- 'spindlelaw26.DecNames', WHERE WHAT IT READS IS OF BULK AT MOST 1048576: true; the input reads as it did. -/
def decNamesUptoRow : OpenClaim := { program := "ytbpdhfenomebpaa", sum := "71958ad73ae241c0d59bd235bbc2f1332cd425e3512803d81138cb847501c56c", func := "spindle/spindlelaw26.DecNames", spec := "decNames", inPlace := ["internal/abi.NoEscape", "internal/bytealg.MakeNoZero"], apart := false, narrowed := true }
def DecNamesUptoSaid : Prop := decNamesUptoRow.holds Try.pinned (OpenSpec.upto decNamesSpec)

/-- 'spindlelaw27.BinsNames', WHERE WHAT IT READS IS OF BULK AT MOST 1048576: true; the input reads as it did. -/
def binsNamesUptoRow : OpenClaim := { program := "ytbpdhfenomebpaa", sum := "71958ad73ae241c0d59bd235bbc2f1332cd425e3512803d81138cb847501c56c", func := "spindle/spindlelaw27.BinsNames", spec := "binsNames", unfollowed := true, recurses := true, apart := false, narrowed := true }
def BinsNamesUptoSaid : Prop := binsNamesUptoRow.holds Try.pinned (OpenSpec.upto binsNamesSpec)

/-- 'spindlelaw27.BinsReads', WHERE WHAT IT READS IS OF BULK AT MOST 1048576: true; the input reads as it did. -/
def binsReadsUptoRow : OpenClaim := { program := "ytbpdhfenomebpaa", sum := "71958ad73ae241c0d59bd235bbc2f1332cd425e3512803d81138cb847501c56c", func := "spindle/spindlelaw27.BinsReads", spec := "binsReads", unfollowed := true, recurses := true, apart := false, narrowed := true }
def BinsReadsUptoSaid : Prop := binsReadsUptoRow.holds Try.pinned (OpenSpec.upto binsReadsSpec)

/-- 'spindlelaw27.BinsStops', WHERE WHAT IT READS IS OF BULK AT MOST 1048576: true; the input reads as it did. -/
def binsStopsUptoRow : OpenClaim := { program := "ytbpdhfenomebpaa", sum := "71958ad73ae241c0d59bd235bbc2f1332cd425e3512803d81138cb847501c56c", func := "spindle/spindlelaw27.BinsStops", spec := "binsStops", unfollowed := true, recurses := true, apart := false, narrowed := true }
def BinsStopsUptoSaid : Prop := binsStopsUptoRow.holds Try.pinned (OpenSpec.upto binsStopsSpec)

/-- 'spindlelaw27.BinsBack', WHERE WHAT IT READS IS OF BULK AT MOST 1048576: true; the input reads as it did. -/
def binsBackUptoRow : OpenClaim := { program := "ytbpdhfenomebpaa", sum := "71958ad73ae241c0d59bd235bbc2f1332cd425e3512803d81138cb847501c56c", func := "spindle/spindlelaw27.BinsBack", spec := "binsBack", unfollowed := true, recurses := true, apart := false, narrowed := true }
def BinsBackUptoSaid : Prop := binsBackUptoRow.holds Try.pinned (OpenSpec.upto binsBackSpec)

end Rows
end Go.Proofs.Ytbpdhfenomebpaa
