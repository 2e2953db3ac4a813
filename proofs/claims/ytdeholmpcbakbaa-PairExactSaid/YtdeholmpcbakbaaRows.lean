/-
  No cell of these rows narrows 'for every input' (looked for: loops, veiled, ifaces, maps, wideKeys, modest, calm, conditions, laid).
  DERIVED. THE GIVEN ROWS OF THIS SEAT. 14 by the template 'for every input the law returns true; each argument reads behind the call as it read before'; 0 by the template 'total and deterministic' (their statements: YtdeholmpcbakbaaTotals.lean).
  GIVEN WITH THE SEED: the statements are not yours to turn. If you find one false, say at which input.
  Laid BY PROGRAM, IN A SANDBOX (cutbox-rows.mjs): the forced cells as the released guide's own fill.sh prints them over the translation 5f5fa5cabbf9be08… (all of the seat's roots in one cut). By AI agents, Wed Nov 11 2026. No macro, syntax, notation, axiom, sorry.
-/
import Derived.Test.YtdeholmpcbakbaaChecked
import GoSem.Claim
import GoSem.ClaimJoined
import GoSem.ClaimMapViews
import Derived.JoinedTies
import Derived.KernelRfl
namespace Go.Proofs.Ytdeholmpcbakbaa
/- THE CELL 'sum', in the pinned program and in every row, IS THE sha256 OF THE DUMP (.gsa) THAT YtdeholmpcbakbaaProg.lean LOADS. Nothing in Lean hashes anything: it is a label: what it is worth is what the hold of that sum in a sandbox is worth. -/
noncomputable def Try.pinned : Pinned := { name := "ytdeholmpcbakbaa", sum := "5f5fa5cabbf9be08a538e9c94f545d7823ec577ae7240a18a136ea03b4571125", checked := Try.checked }
namespace Rows
def none {H : Type} : Left H := { results := [], args := [] }

/-- 'witanlaw05.DrawScalars': WHATEVER THE INPUT: true; the input reads as it did. -/
def drawScalarsSpec : ChangeSpec := { name := "drawScalars", fn := fun _ => fun
  | [d1, d2] => { results := [.lit (.bool true)], args := [d1, d2] }
  | _ => none }
def drawScalarsRow : OpenClaim := { program := "ytdeholmpcbakbaa", sum := "5f5fa5cabbf9be08a538e9c94f545d7823ec577ae7240a18a136ea03b4571125", func := "witan/witanlaw05.DrawScalars", spec := "drawScalars", inPlace := ["math/bits.Sub64", "math/bits.Add64"], apart := false }
def DrawScalarsSaid : Prop := drawScalarsRow.holds Try.pinned (OpenSpec.ofChange drawScalarsSpec)

/-- ITS FALSE NEIGHBOUR: 'it returns false'. Refute it at one input. -/
def drawScalarsWrong : ChangeSpec := { name := "drawScalars", fn := fun _ => fun
  | [d1, d2] => { results := [.lit (.bool false)], args := [d1, d2] }
  | _ => none }
def DrawScalarsWrongFalsely : Prop := drawScalarsRow.holds Try.pinned (OpenSpec.ofChange drawScalarsWrong)

/-- 'witanlaw05.DrawPoints': WHATEVER THE INPUT: true; the input reads as it did. -/
def drawPointsSpec : ChangeSpec := { name := "drawPoints", fn := fun _ => fun
  | [d1, d2] => { results := [.lit (.bool true)], args := [d1, d2] }
  | _ => none }
def drawPointsRow : OpenClaim := { program := "ytdeholmpcbakbaa", sum := "5f5fa5cabbf9be08a538e9c94f545d7823ec577ae7240a18a136ea03b4571125", func := "witan/witanlaw05.DrawPoints", spec := "drawPoints", inPlace := ["math/bits.Sub64", "math/bits.Add64"], apart := false }
def DrawPointsSaid : Prop := drawPointsRow.holds Try.pinned (OpenSpec.ofChange drawPointsSpec)

/-- ITS FALSE NEIGHBOUR: 'it returns false'. Refute it at one input. -/
def drawPointsWrong : ChangeSpec := { name := "drawPoints", fn := fun _ => fun
  | [d1, d2] => { results := [.lit (.bool false)], args := [d1, d2] }
  | _ => none }
def DrawPointsWrongFalsely : Prop := drawPointsRow.holds Try.pinned (OpenSpec.ofChange drawPointsWrong)

/-- 'witanlaw05.DrawLong': WHATEVER THE INPUT: true; the input reads as it did. -/
def drawLongSpec : ChangeSpec := { name := "drawLong", fn := fun _ => fun
  | [d1, d2] => { results := [.lit (.bool true)], args := [d1, d2] }
  | _ => none }
def drawLongRow : OpenClaim := { program := "ytdeholmpcbakbaa", sum := "5f5fa5cabbf9be08a538e9c94f545d7823ec577ae7240a18a136ea03b4571125", func := "witan/witanlaw05.DrawLong", spec := "drawLong", inPlace := ["math/bits.Sub64", "math/bits.Add64"], apart := false }
def DrawLongSaid : Prop := drawLongRow.holds Try.pinned (OpenSpec.ofChange drawLongSpec)

/-- ITS FALSE NEIGHBOUR: 'it returns false'. Refute it at one input. -/
def drawLongWrong : ChangeSpec := { name := "drawLong", fn := fun _ => fun
  | [d1, d2] => { results := [.lit (.bool false)], args := [d1, d2] }
  | _ => none }
def DrawLongWrongFalsely : Prop := drawLongRow.holds Try.pinned (OpenSpec.ofChange drawLongWrong)

/-- 'witanlaw05.DrawTries': WHATEVER THE INPUT: true; the input reads as it did. -/
def drawTriesSpec : ChangeSpec := { name := "drawTries", fn := fun _ => fun
  | [d1, d2] => { results := [.lit (.bool true)], args := [d1, d2] }
  | _ => none }
def drawTriesRow : OpenClaim := { program := "ytdeholmpcbakbaa", sum := "5f5fa5cabbf9be08a538e9c94f545d7823ec577ae7240a18a136ea03b4571125", func := "witan/witanlaw05.DrawTries", spec := "drawTries", inPlace := ["math/bits.Sub64", "math/bits.Add64"], apart := false }
def DrawTriesSaid : Prop := drawTriesRow.holds Try.pinned (OpenSpec.ofChange drawTriesSpec)

/-- ITS FALSE NEIGHBOUR: 'it returns false'. Refute it at one input. -/
def drawTriesWrong : ChangeSpec := { name := "drawTries", fn := fun _ => fun
  | [d1, d2] => { results := [.lit (.bool false)], args := [d1, d2] }
  | _ => none }
def DrawTriesWrongFalsely : Prop := drawTriesRow.holds Try.pinned (OpenSpec.ofChange drawTriesWrong)

/-- 'witanlaw05.DrawParts': WHATEVER THE INPUT: true; the input reads as it did. -/
def drawPartsSpec : ChangeSpec := { name := "drawParts", fn := fun _ => fun
  | [d1, d2, d3] => { results := [.lit (.bool true)], args := [d1, d2, d3] }
  | _ => none }
def drawPartsRow : OpenClaim := { program := "ytdeholmpcbakbaa", sum := "5f5fa5cabbf9be08a538e9c94f545d7823ec577ae7240a18a136ea03b4571125", func := "witan/witanlaw05.DrawParts", spec := "drawParts", inPlace := ["math/bits.Sub64", "math/bits.Add64"], apart := false }
def DrawPartsSaid : Prop := drawPartsRow.holds Try.pinned (OpenSpec.ofChange drawPartsSpec)

/-- ITS FALSE NEIGHBOUR: 'it returns false'. Refute it at one input. -/
def drawPartsWrong : ChangeSpec := { name := "drawParts", fn := fun _ => fun
  | [d1, d2, d3] => { results := [.lit (.bool false)], args := [d1, d2, d3] }
  | _ => none }
def DrawPartsWrongFalsely : Prop := drawPartsRow.holds Try.pinned (OpenSpec.ofChange drawPartsWrong)

/-- 'witanlaw05.DrawStreams': WHATEVER THE INPUT: true; the input reads as it did. -/
def drawStreamsSpec : ChangeSpec := { name := "drawStreams", fn := fun _ => fun
  | [d1, d2, d3] => { results := [.lit (.bool true)], args := [d1, d2, d3] }
  | _ => none }
def drawStreamsRow : OpenClaim := { program := "ytdeholmpcbakbaa", sum := "5f5fa5cabbf9be08a538e9c94f545d7823ec577ae7240a18a136ea03b4571125", func := "witan/witanlaw05.DrawStreams", spec := "drawStreams", inPlace := ["math/bits.Sub64", "math/bits.Add64"], apart := false }
def DrawStreamsSaid : Prop := drawStreamsRow.holds Try.pinned (OpenSpec.ofChange drawStreamsSpec)

/-- ITS FALSE NEIGHBOUR: 'it returns false'. Refute it at one input. -/
def drawStreamsWrong : ChangeSpec := { name := "drawStreams", fn := fun _ => fun
  | [d1, d2, d3] => { results := [.lit (.bool false)], args := [d1, d2, d3] }
  | _ => none }
def DrawStreamsWrongFalsely : Prop := drawStreamsRow.holds Try.pinned (OpenSpec.ofChange drawStreamsWrong)

/-- 'witanlaw05.DrawBlocks': WHATEVER THE INPUT: true; the input reads as it did. -/
def drawBlocksSpec : ChangeSpec := { name := "drawBlocks", fn := fun _ => fun
  | [d1, d2] => { results := [.lit (.bool true)], args := [d1, d2] }
  | _ => none }
def drawBlocksRow : OpenClaim := { program := "ytdeholmpcbakbaa", sum := "5f5fa5cabbf9be08a538e9c94f545d7823ec577ae7240a18a136ea03b4571125", func := "witan/witanlaw05.DrawBlocks", spec := "drawBlocks", inPlace := ["math/bits.Sub64", "math/bits.Add64"], apart := false }
def DrawBlocksSaid : Prop := drawBlocksRow.holds Try.pinned (OpenSpec.ofChange drawBlocksSpec)

/-- ITS FALSE NEIGHBOUR: 'it returns false'. Refute it at one input. -/
def drawBlocksWrong : ChangeSpec := { name := "drawBlocks", fn := fun _ => fun
  | [d1, d2] => { results := [.lit (.bool false)], args := [d1, d2] }
  | _ => none }
def DrawBlocksWrongFalsely : Prop := drawBlocksRow.holds Try.pinned (OpenSpec.ofChange drawBlocksWrong)

/-- 'witanlaw08.PairStreams': WHATEVER THE INPUT: true; the input reads as it did. -/
def pairStreamsSpec : ChangeSpec := { name := "pairStreams", fn := fun _ => fun
  | [d1, d2, d3, d4, d5] => { results := [.lit (.bool true)], args := [d1, d2, d3, d4, d5] }
  | _ => none }
def pairStreamsRow : OpenClaim := { program := "ytdeholmpcbakbaa", sum := "5f5fa5cabbf9be08a538e9c94f545d7823ec577ae7240a18a136ea03b4571125", func := "witan/witanlaw08.PairStreams", spec := "pairStreams", inPlace := ["math/bits.Add64", "math/bits.Sub64"], apart := false }
def PairStreamsSaid : Prop := pairStreamsRow.holds Try.pinned (OpenSpec.ofChange pairStreamsSpec)

/-- ITS FALSE NEIGHBOUR: 'it returns false'. Refute it at one input. -/
def pairStreamsWrong : ChangeSpec := { name := "pairStreams", fn := fun _ => fun
  | [d1, d2, d3, d4, d5] => { results := [.lit (.bool false)], args := [d1, d2, d3, d4, d5] }
  | _ => none }
def PairStreamsWrongFalsely : Prop := pairStreamsRow.holds Try.pinned (OpenSpec.ofChange pairStreamsWrong)

/-- 'witanlaw08.PairExact': WHATEVER THE INPUT: true; the input reads as it did. -/
def pairExactSpec : ChangeSpec := { name := "pairExact", fn := fun _ => fun
  | [d1, d2, d3, d4, d5, d6, d7] => { results := [.lit (.bool true)], args := [d1, d2, d3, d4, d5, d6, d7] }
  | _ => none }
def pairExactRow : OpenClaim := { program := "ytdeholmpcbakbaa", sum := "5f5fa5cabbf9be08a538e9c94f545d7823ec577ae7240a18a136ea03b4571125", func := "witan/witanlaw08.PairExact", spec := "pairExact", inPlace := ["math/bits.Sub64", "math/bits.Add64"], apart := false }
def PairExactSaid : Prop := pairExactRow.holds Try.pinned (OpenSpec.ofChange pairExactSpec)

/-- ITS FALSE NEIGHBOUR: 'it returns false'. Refute it at one input. -/
def pairExactWrong : ChangeSpec := { name := "pairExact", fn := fun _ => fun
  | [d1, d2, d3, d4, d5, d6, d7] => { results := [.lit (.bool false)], args := [d1, d2, d3, d4, d5, d6, d7] }
  | _ => none }
def PairExactWrongFalsely : Prop := pairExactRow.holds Try.pinned (OpenSpec.ofChange pairExactWrong)

/-- 'witanlaw08.PairBack': WHATEVER THE INPUT: true; the input reads as it did. -/
def pairBackSpec : ChangeSpec := { name := "pairBack", fn := fun _ => fun
  | [d1, d2, d3, d4, d5, d6] => { results := [.lit (.bool true)], args := [d1, d2, d3, d4, d5, d6] }
  | _ => none }
def pairBackRow : OpenClaim := { program := "ytdeholmpcbakbaa", sum := "5f5fa5cabbf9be08a538e9c94f545d7823ec577ae7240a18a136ea03b4571125", func := "witan/witanlaw08.PairBack", spec := "pairBack", inPlace := ["math/bits.Add64", "math/bits.Sub64"], apart := false }
def PairBackSaid : Prop := pairBackRow.holds Try.pinned (OpenSpec.ofChange pairBackSpec)

/-- ITS FALSE NEIGHBOUR: 'it returns false'. Refute it at one input. -/
def pairBackWrong : ChangeSpec := { name := "pairBack", fn := fun _ => fun
  | [d1, d2, d3, d4, d5, d6] => { results := [.lit (.bool false)], args := [d1, d2, d3, d4, d5, d6] }
  | _ => none }
def PairBackWrongFalsely : Prop := pairBackRow.holds Try.pinned (OpenSpec.ofChange pairBackWrong)

/-- 'witanlaw09.DleqProves': WHATEVER THE INPUT: true; the input reads as it did. -/
def dleqProvesSpec : ChangeSpec := { name := "dleqProves", fn := fun _ => fun
  | [d1, d2, d3] => { results := [.lit (.bool true)], args := [d1, d2, d3] }
  | _ => none }
def dleqProvesRow : OpenClaim := { program := "ytdeholmpcbakbaa", sum := "5f5fa5cabbf9be08a538e9c94f545d7823ec577ae7240a18a136ea03b4571125", func := "witan/witanlaw09.DleqProves", spec := "dleqProves", inPlace := ["math/bits.Sub64", "math/bits.Add64"], apart := false }
def DleqProvesSaid : Prop := dleqProvesRow.holds Try.pinned (OpenSpec.ofChange dleqProvesSpec)

/-- ITS FALSE NEIGHBOUR: 'it returns false'. Refute it at one input. -/
def dleqProvesWrong : ChangeSpec := { name := "dleqProves", fn := fun _ => fun
  | [d1, d2, d3] => { results := [.lit (.bool false)], args := [d1, d2, d3] }
  | _ => none }
def DleqProvesWrongFalsely : Prop := dleqProvesRow.holds Try.pinned (OpenSpec.ofChange dleqProvesWrong)

/-- 'witanlaw09.DleqHolds': WHATEVER THE INPUT: true; the input reads as it did. -/
def dleqHoldsSpec : ChangeSpec := { name := "dleqHolds", fn := fun _ => fun
  | [d1, d2, d3, d4] => { results := [.lit (.bool true)], args := [d1, d2, d3, d4] }
  | _ => none }
def dleqHoldsRow : OpenClaim := { program := "ytdeholmpcbakbaa", sum := "5f5fa5cabbf9be08a538e9c94f545d7823ec577ae7240a18a136ea03b4571125", func := "witan/witanlaw09.DleqHolds", spec := "dleqHolds", inPlace := ["math/bits.Sub64", "math/bits.Add64"], apart := false }
def DleqHoldsSaid : Prop := dleqHoldsRow.holds Try.pinned (OpenSpec.ofChange dleqHoldsSpec)

/-- ITS FALSE NEIGHBOUR: 'it returns false'. Refute it at one input. -/
def dleqHoldsWrong : ChangeSpec := { name := "dleqHolds", fn := fun _ => fun
  | [d1, d2, d3, d4] => { results := [.lit (.bool false)], args := [d1, d2, d3, d4] }
  | _ => none }
def DleqHoldsWrongFalsely : Prop := dleqHoldsRow.holds Try.pinned (OpenSpec.ofChange dleqHoldsWrong)

/-- 'witanlaw09.DleqBack': WHATEVER THE INPUT: true; the input reads as it did. -/
def dleqBackSpec : ChangeSpec := { name := "dleqBack", fn := fun _ => fun
  | [d1, d2, d3] => { results := [.lit (.bool true)], args := [d1, d2, d3] }
  | _ => none }
def dleqBackRow : OpenClaim := { program := "ytdeholmpcbakbaa", sum := "5f5fa5cabbf9be08a538e9c94f545d7823ec577ae7240a18a136ea03b4571125", func := "witan/witanlaw09.DleqBack", spec := "dleqBack", inPlace := ["math/bits.Add64", "math/bits.Sub64"], apart := false }
def DleqBackSaid : Prop := dleqBackRow.holds Try.pinned (OpenSpec.ofChange dleqBackSpec)

/-- ITS FALSE NEIGHBOUR: 'it returns false'. Refute it at one input. -/
def dleqBackWrong : ChangeSpec := { name := "dleqBack", fn := fun _ => fun
  | [d1, d2, d3] => { results := [.lit (.bool false)], args := [d1, d2, d3] }
  | _ => none }
def DleqBackWrongFalsely : Prop := dleqBackRow.holds Try.pinned (OpenSpec.ofChange dleqBackWrong)

/-- 'witanlaw09.DleqParts': WHATEVER THE INPUT: true; the input reads as it did. -/
def dleqPartsSpec : ChangeSpec := { name := "dleqParts", fn := fun _ => fun
  | [d1, d2, d3] => { results := [.lit (.bool true)], args := [d1, d2, d3] }
  | _ => none }
def dleqPartsRow : OpenClaim := { program := "ytdeholmpcbakbaa", sum := "5f5fa5cabbf9be08a538e9c94f545d7823ec577ae7240a18a136ea03b4571125", func := "witan/witanlaw09.DleqParts", spec := "dleqParts", inPlace := ["math/bits.Add64", "math/bits.Sub64"], apart := false }
def DleqPartsSaid : Prop := dleqPartsRow.holds Try.pinned (OpenSpec.ofChange dleqPartsSpec)

/-- ITS FALSE NEIGHBOUR: 'it returns false'. Refute it at one input. -/
def dleqPartsWrong : ChangeSpec := { name := "dleqParts", fn := fun _ => fun
  | [d1, d2, d3] => { results := [.lit (.bool false)], args := [d1, d2, d3] }
  | _ => none }
def DleqPartsWrongFalsely : Prop := dleqPartsRow.holds Try.pinned (OpenSpec.ofChange dleqPartsWrong)

/- THE SECOND FORM. 'bulk': how many values and letters a reading holds, each counted each time it is reached (what is shared counts as often as it is met; a slice's spare places count too). A statement '..UptoSaid' is the law's where the arguments, and the package variables that the reading takes, are together of bulk at most 1048576: NARROWER than '..Said'. Prove '..Said' where nothing that the law and all that it calls make is longer than what came in: it says more and counts as full. Else prove '..UptoSaid'. A law counts once. -/
mutual
def uptoBulk {H : Type} : DataW H → Nat
  | .lit (.string bytes) => bytes.length + 1
  | .lit _ => 1
  | .nil => 1
  | .ptr d => uptoBulk d + 1
  | .slice elems spare => uptoBulkAll elems + uptoBulkAll spare + 1
  | .agg parts => uptoBulkAll parts + 1
  | .iface _ d => uptoBulk d + 1
  | .map entries => uptoBulkEntries entries + 1
  | .held _ => 1
def uptoBulkAll {H : Type} : List (DataW H) → Nat
  | [] => 0
  | d :: r => uptoBulk d + uptoBulkAll r
def uptoBulkEntries {H : Type} : List (Lit × DataW H) → Nat
  | [] => 0
  | x :: r => uptoBulkEntry x + uptoBulkEntries r
def uptoBulkEntry {H : Type} : Lit × DataW H → Nat
  | (.string bytes, d) => bytes.length + uptoBulk d + 1
  | (_, d) => uptoBulk d + 1
 end
def uptoSmall : (H : Type) → List (DataW H) → Bool := fun _ ds => decide (uptoBulkAll ds ≤ 1048576)
def OpenSpec.upto (s : _root_.Go.ChangeSpec) : _root_.Go.OpenSpec := { _root_.Go.OpenSpec.ofChange s with cond := some uptoSmall }

/-- 'witanlaw05.DrawScalars', WHERE WHAT IT READS IS OF BULK AT MOST 1048576: true; the input reads as it did. -/
def drawScalarsUptoRow : OpenClaim := { program := "ytdeholmpcbakbaa", sum := "5f5fa5cabbf9be08a538e9c94f545d7823ec577ae7240a18a136ea03b4571125", func := "witan/witanlaw05.DrawScalars", spec := "drawScalars", inPlace := ["math/bits.Sub64", "math/bits.Add64"], apart := false, narrowed := true }
def DrawScalarsUptoSaid : Prop := drawScalarsUptoRow.holds Try.pinned (OpenSpec.upto drawScalarsSpec)

/-- 'witanlaw05.DrawPoints', WHERE WHAT IT READS IS OF BULK AT MOST 1048576: true; the input reads as it did. -/
def drawPointsUptoRow : OpenClaim := { program := "ytdeholmpcbakbaa", sum := "5f5fa5cabbf9be08a538e9c94f545d7823ec577ae7240a18a136ea03b4571125", func := "witan/witanlaw05.DrawPoints", spec := "drawPoints", inPlace := ["math/bits.Sub64", "math/bits.Add64"], apart := false, narrowed := true }
def DrawPointsUptoSaid : Prop := drawPointsUptoRow.holds Try.pinned (OpenSpec.upto drawPointsSpec)

/-- 'witanlaw05.DrawLong', WHERE WHAT IT READS IS OF BULK AT MOST 1048576: true; the input reads as it did. -/
def drawLongUptoRow : OpenClaim := { program := "ytdeholmpcbakbaa", sum := "5f5fa5cabbf9be08a538e9c94f545d7823ec577ae7240a18a136ea03b4571125", func := "witan/witanlaw05.DrawLong", spec := "drawLong", inPlace := ["math/bits.Sub64", "math/bits.Add64"], apart := false, narrowed := true }
def DrawLongUptoSaid : Prop := drawLongUptoRow.holds Try.pinned (OpenSpec.upto drawLongSpec)

/-- 'witanlaw05.DrawTries', WHERE WHAT IT READS IS OF BULK AT MOST 1048576: true; the input reads as it did. -/
def drawTriesUptoRow : OpenClaim := { program := "ytdeholmpcbakbaa", sum := "5f5fa5cabbf9be08a538e9c94f545d7823ec577ae7240a18a136ea03b4571125", func := "witan/witanlaw05.DrawTries", spec := "drawTries", inPlace := ["math/bits.Sub64", "math/bits.Add64"], apart := false, narrowed := true }
def DrawTriesUptoSaid : Prop := drawTriesUptoRow.holds Try.pinned (OpenSpec.upto drawTriesSpec)

/-- 'witanlaw05.DrawParts', WHERE WHAT IT READS IS OF BULK AT MOST 1048576: true; the input reads as it did. -/
def drawPartsUptoRow : OpenClaim := { program := "ytdeholmpcbakbaa", sum := "5f5fa5cabbf9be08a538e9c94f545d7823ec577ae7240a18a136ea03b4571125", func := "witan/witanlaw05.DrawParts", spec := "drawParts", inPlace := ["math/bits.Sub64", "math/bits.Add64"], apart := false, narrowed := true }
def DrawPartsUptoSaid : Prop := drawPartsUptoRow.holds Try.pinned (OpenSpec.upto drawPartsSpec)

/-- 'witanlaw05.DrawStreams', WHERE WHAT IT READS IS OF BULK AT MOST 1048576: true; the input reads as it did. -/
def drawStreamsUptoRow : OpenClaim := { program := "ytdeholmpcbakbaa", sum := "5f5fa5cabbf9be08a538e9c94f545d7823ec577ae7240a18a136ea03b4571125", func := "witan/witanlaw05.DrawStreams", spec := "drawStreams", inPlace := ["math/bits.Sub64", "math/bits.Add64"], apart := false, narrowed := true }
def DrawStreamsUptoSaid : Prop := drawStreamsUptoRow.holds Try.pinned (OpenSpec.upto drawStreamsSpec)

/-- 'witanlaw05.DrawBlocks', WHERE WHAT IT READS IS OF BULK AT MOST 1048576: true; the input reads as it did. -/
def drawBlocksUptoRow : OpenClaim := { program := "ytdeholmpcbakbaa", sum := "5f5fa5cabbf9be08a538e9c94f545d7823ec577ae7240a18a136ea03b4571125", func := "witan/witanlaw05.DrawBlocks", spec := "drawBlocks", inPlace := ["math/bits.Sub64", "math/bits.Add64"], apart := false, narrowed := true }
def DrawBlocksUptoSaid : Prop := drawBlocksUptoRow.holds Try.pinned (OpenSpec.upto drawBlocksSpec)

/-- 'witanlaw08.PairStreams', WHERE WHAT IT READS IS OF BULK AT MOST 1048576: true; the input reads as it did. -/
def pairStreamsUptoRow : OpenClaim := { program := "ytdeholmpcbakbaa", sum := "5f5fa5cabbf9be08a538e9c94f545d7823ec577ae7240a18a136ea03b4571125", func := "witan/witanlaw08.PairStreams", spec := "pairStreams", inPlace := ["math/bits.Add64", "math/bits.Sub64"], apart := false, narrowed := true }
def PairStreamsUptoSaid : Prop := pairStreamsUptoRow.holds Try.pinned (OpenSpec.upto pairStreamsSpec)

/-- 'witanlaw08.PairExact', WHERE WHAT IT READS IS OF BULK AT MOST 1048576: true; the input reads as it did. -/
def pairExactUptoRow : OpenClaim := { program := "ytdeholmpcbakbaa", sum := "5f5fa5cabbf9be08a538e9c94f545d7823ec577ae7240a18a136ea03b4571125", func := "witan/witanlaw08.PairExact", spec := "pairExact", inPlace := ["math/bits.Sub64", "math/bits.Add64"], apart := false, narrowed := true }
def PairExactUptoSaid : Prop := pairExactUptoRow.holds Try.pinned (OpenSpec.upto pairExactSpec)

/-- 'witanlaw08.PairBack', WHERE WHAT IT READS IS OF BULK AT MOST 1048576: true; the input reads as it did. -/
def pairBackUptoRow : OpenClaim := { program := "ytdeholmpcbakbaa", sum := "5f5fa5cabbf9be08a538e9c94f545d7823ec577ae7240a18a136ea03b4571125", func := "witan/witanlaw08.PairBack", spec := "pairBack", inPlace := ["math/bits.Add64", "math/bits.Sub64"], apart := false, narrowed := true }
def PairBackUptoSaid : Prop := pairBackUptoRow.holds Try.pinned (OpenSpec.upto pairBackSpec)

/-- 'witanlaw09.DleqProves', WHERE WHAT IT READS IS OF BULK AT MOST 1048576: true; the input reads as it did. -/
def dleqProvesUptoRow : OpenClaim := { program := "ytdeholmpcbakbaa", sum := "5f5fa5cabbf9be08a538e9c94f545d7823ec577ae7240a18a136ea03b4571125", func := "witan/witanlaw09.DleqProves", spec := "dleqProves", inPlace := ["math/bits.Sub64", "math/bits.Add64"], apart := false, narrowed := true }
def DleqProvesUptoSaid : Prop := dleqProvesUptoRow.holds Try.pinned (OpenSpec.upto dleqProvesSpec)

/-- 'witanlaw09.DleqHolds', WHERE WHAT IT READS IS OF BULK AT MOST 1048576: true; the input reads as it did. -/
def dleqHoldsUptoRow : OpenClaim := { program := "ytdeholmpcbakbaa", sum := "5f5fa5cabbf9be08a538e9c94f545d7823ec577ae7240a18a136ea03b4571125", func := "witan/witanlaw09.DleqHolds", spec := "dleqHolds", inPlace := ["math/bits.Sub64", "math/bits.Add64"], apart := false, narrowed := true }
def DleqHoldsUptoSaid : Prop := dleqHoldsUptoRow.holds Try.pinned (OpenSpec.upto dleqHoldsSpec)

/-- 'witanlaw09.DleqBack', WHERE WHAT IT READS IS OF BULK AT MOST 1048576: true; the input reads as it did. -/
def dleqBackUptoRow : OpenClaim := { program := "ytdeholmpcbakbaa", sum := "5f5fa5cabbf9be08a538e9c94f545d7823ec577ae7240a18a136ea03b4571125", func := "witan/witanlaw09.DleqBack", spec := "dleqBack", inPlace := ["math/bits.Add64", "math/bits.Sub64"], apart := false, narrowed := true }
def DleqBackUptoSaid : Prop := dleqBackUptoRow.holds Try.pinned (OpenSpec.upto dleqBackSpec)

/-- 'witanlaw09.DleqParts', WHERE WHAT IT READS IS OF BULK AT MOST 1048576: true; the input reads as it did. -/
def dleqPartsUptoRow : OpenClaim := { program := "ytdeholmpcbakbaa", sum := "5f5fa5cabbf9be08a538e9c94f545d7823ec577ae7240a18a136ea03b4571125", func := "witan/witanlaw09.DleqParts", spec := "dleqParts", inPlace := ["math/bits.Add64", "math/bits.Sub64"], apart := false, narrowed := true }
def DleqPartsUptoSaid : Prop := dleqPartsUptoRow.holds Try.pinned (OpenSpec.upto dleqPartsSpec)

end Rows
end Go.Proofs.Ytdeholmpcbakbaa
