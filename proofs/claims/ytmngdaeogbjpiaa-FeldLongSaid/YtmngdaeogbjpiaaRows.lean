/-
  No cell of these rows narrows 'for every input' (looked for: loops, veiled, ifaces, maps, wideKeys, modest, calm, conditions, laid).
  DERIVED. THE GIVEN ROWS OF THIS SEAT. 18 by the template 'for every input the law returns true; each argument reads behind the call as it read before'; 0 by the template 'total and deterministic' (their statements: YtmngdaeogbjpiaaTotals.lean).
  GIVEN WITH THE SEED: the statements are not yours to turn. If you find one false, say at which input.
  Laid BY PROGRAM, IN A SANDBOX (cutbox-rows.mjs): the forced cells as the released guide's own fill.sh prints them over the translation 463838308b911731… (all of the seat's roots in one cut). By AI agents, Wed Nov 11 2026. No macro, syntax, notation, axiom, sorry.
-/
import Derived.Test.YtmngdaeogbjpiaaChecked
import GoSem.Claim
import GoSem.ClaimJoined
import GoSem.ClaimMapViews
import Derived.JoinedTies
import Derived.KernelRfl
namespace Go.Proofs.Ytmngdaeogbjpiaa
/- THE CELL 'sum', in the pinned program and in every row, IS THE sha256 OF THE DUMP (.gsa) THAT YtmngdaeogbjpiaaProg.lean LOADS. Nothing in Lean hashes anything: it is a label: what it is worth is what the hold of that sum in a sandbox is worth. -/
noncomputable def Try.pinned : Pinned := { name := "ytmngdaeogbjpiaa", sum := "463838308b9117313b25dbf0c8828ead513d0d4ff11e1c48e50d372d8ae2b97e", checked := Try.checked }
namespace Rows
def none {H : Type} : Left H := { results := [], args := [] }

/-- 'witanlaw16.BlockReads': WHATEVER THE INPUT: true; the input reads as it did. -/
def blockReadsSpec : ChangeSpec := { name := "blockReads", fn := fun _ => fun
  | [d] => { results := [.lit (.bool true)], args := [d] }
  | _ => none }
def blockReadsRow : OpenClaim := { program := "ytmngdaeogbjpiaa", sum := "463838308b9117313b25dbf0c8828ead513d0d4ff11e1c48e50d372d8ae2b97e", func := "witan/witanlaw16.BlockReads", spec := "blockReads", apart := false }
def BlockReadsSaid : Prop := blockReadsRow.holds Try.pinned (OpenSpec.ofChange blockReadsSpec)

/-- ITS FALSE NEIGHBOUR: 'it returns false'. Refute it at one input. -/
def blockReadsWrong : ChangeSpec := { name := "blockReads", fn := fun _ => fun
  | [d] => { results := [.lit (.bool false)], args := [d] }
  | _ => none }
def BlockReadsWrongFalsely : Prop := blockReadsRow.holds Try.pinned (OpenSpec.ofChange blockReadsWrong)

/-- 'witanlaw16.BlockCut': WHATEVER THE INPUT: true; the input reads as it did. -/
def blockCutSpec : ChangeSpec := { name := "blockCut", fn := fun _ => fun
  | [d1, d2, d3, d4] => { results := [.lit (.bool true)], args := [d1, d2, d3, d4] }
  | _ => none }
def blockCutRow : OpenClaim := { program := "ytmngdaeogbjpiaa", sum := "463838308b9117313b25dbf0c8828ead513d0d4ff11e1c48e50d372d8ae2b97e", func := "witan/witanlaw16.BlockCut", spec := "blockCut", apart := false }
def BlockCutSaid : Prop := blockCutRow.holds Try.pinned (OpenSpec.ofChange blockCutSpec)

/-- ITS FALSE NEIGHBOUR: 'it returns false'. Refute it at one input. -/
def blockCutWrong : ChangeSpec := { name := "blockCut", fn := fun _ => fun
  | [d1, d2, d3, d4] => { results := [.lit (.bool false)], args := [d1, d2, d3, d4] }
  | _ => none }
def BlockCutWrongFalsely : Prop := blockCutRow.holds Try.pinned (OpenSpec.ofChange blockCutWrong)

/-- 'witanlaw16.BlockSizes': WHATEVER THE INPUT: true; the input reads as it did. -/
def blockSizesSpec : ChangeSpec := { name := "blockSizes", fn := fun _ => fun
  | [d1, d2, d3, d4] => { results := [.lit (.bool true)], args := [d1, d2, d3, d4] }
  | _ => none }
def blockSizesRow : OpenClaim := { program := "ytmngdaeogbjpiaa", sum := "463838308b9117313b25dbf0c8828ead513d0d4ff11e1c48e50d372d8ae2b97e", func := "witan/witanlaw16.BlockSizes", spec := "blockSizes", apart := false }
def BlockSizesSaid : Prop := blockSizesRow.holds Try.pinned (OpenSpec.ofChange blockSizesSpec)

/-- ITS FALSE NEIGHBOUR: 'it returns false'. Refute it at one input. -/
def blockSizesWrong : ChangeSpec := { name := "blockSizes", fn := fun _ => fun
  | [d1, d2, d3, d4] => { results := [.lit (.bool false)], args := [d1, d2, d3, d4] }
  | _ => none }
def BlockSizesWrongFalsely : Prop := blockSizesRow.holds Try.pinned (OpenSpec.ofChange blockSizesWrong)

/-- 'witanlaw16.BlockExact': WHATEVER THE INPUT: true; the input reads as it did. -/
def blockExactSpec : ChangeSpec := { name := "blockExact", fn := fun _ => fun
  | [d1, d2] => { results := [.lit (.bool true)], args := [d1, d2] }
  | _ => none }
def blockExactRow : OpenClaim := { program := "ytmngdaeogbjpiaa", sum := "463838308b9117313b25dbf0c8828ead513d0d4ff11e1c48e50d372d8ae2b97e", func := "witan/witanlaw16.BlockExact", spec := "blockExact", apart := false }
def BlockExactSaid : Prop := blockExactRow.holds Try.pinned (OpenSpec.ofChange blockExactSpec)

/-- ITS FALSE NEIGHBOUR: 'it returns false'. Refute it at one input. -/
def blockExactWrong : ChangeSpec := { name := "blockExact", fn := fun _ => fun
  | [d1, d2] => { results := [.lit (.bool false)], args := [d1, d2] }
  | _ => none }
def BlockExactWrongFalsely : Prop := blockExactRow.holds Try.pinned (OpenSpec.ofChange blockExactWrong)

/-- 'witanlaw03.CurveGroup': WHATEVER THE INPUT: true; the input reads as it did. -/
def curveGroupSpec : ChangeSpec := { name := "curveGroup", fn := fun _ => fun
  | [d1, d2, d3] => { results := [.lit (.bool true)], args := [d1, d2, d3] }
  | _ => none }
def curveGroupRow : OpenClaim := { program := "ytmngdaeogbjpiaa", sum := "463838308b9117313b25dbf0c8828ead513d0d4ff11e1c48e50d372d8ae2b97e", func := "witan/witanlaw03.CurveGroup", spec := "curveGroup", inPlace := ["math/bits.Add64", "math/bits.Sub64"], apart := false }
def CurveGroupSaid : Prop := curveGroupRow.holds Try.pinned (OpenSpec.ofChange curveGroupSpec)

/-- ITS FALSE NEIGHBOUR: 'it returns false'. Refute it at one input. -/
def curveGroupWrong : ChangeSpec := { name := "curveGroup", fn := fun _ => fun
  | [d1, d2, d3] => { results := [.lit (.bool false)], args := [d1, d2, d3] }
  | _ => none }
def CurveGroupWrongFalsely : Prop := curveGroupRow.holds Try.pinned (OpenSpec.ofChange curveGroupWrong)

/-- 'witanlaw03.CurveLines': WHATEVER THE INPUT: true; the input reads as it did. -/
def curveLinesSpec : ChangeSpec := { name := "curveLines", fn := fun _ => fun
  | [d1, d2] => { results := [.lit (.bool true)], args := [d1, d2] }
  | _ => none }
def curveLinesRow : OpenClaim := { program := "ytmngdaeogbjpiaa", sum := "463838308b9117313b25dbf0c8828ead513d0d4ff11e1c48e50d372d8ae2b97e", func := "witan/witanlaw03.CurveLines", spec := "curveLines", inPlace := ["math/bits.Add64", "math/bits.Sub64"], apart := false }
def CurveLinesSaid : Prop := curveLinesRow.holds Try.pinned (OpenSpec.ofChange curveLinesSpec)

/-- ITS FALSE NEIGHBOUR: 'it returns false'. Refute it at one input. -/
def curveLinesWrong : ChangeSpec := { name := "curveLines", fn := fun _ => fun
  | [d1, d2] => { results := [.lit (.bool false)], args := [d1, d2] }
  | _ => none }
def CurveLinesWrongFalsely : Prop := curveLinesRow.holds Try.pinned (OpenSpec.ofChange curveLinesWrong)

/-- 'witanlaw03.CurveMultiples': WHATEVER THE INPUT: true; the input reads as it did. -/
def curveMultiplesSpec : ChangeSpec := { name := "curveMultiples", fn := fun _ => fun
  | [d1, d2, d3] => { results := [.lit (.bool true)], args := [d1, d2, d3] }
  | _ => none }
def curveMultiplesRow : OpenClaim := { program := "ytmngdaeogbjpiaa", sum := "463838308b9117313b25dbf0c8828ead513d0d4ff11e1c48e50d372d8ae2b97e", func := "witan/witanlaw03.CurveMultiples", spec := "curveMultiples", inPlace := ["math/bits.Add64", "math/bits.Sub64"], apart := false }
def CurveMultiplesSaid : Prop := curveMultiplesRow.holds Try.pinned (OpenSpec.ofChange curveMultiplesSpec)

/-- ITS FALSE NEIGHBOUR: 'it returns false'. Refute it at one input. -/
def curveMultiplesWrong : ChangeSpec := { name := "curveMultiples", fn := fun _ => fun
  | [d1, d2, d3] => { results := [.lit (.bool false)], args := [d1, d2, d3] }
  | _ => none }
def CurveMultiplesWrongFalsely : Prop := curveMultiplesRow.holds Try.pinned (OpenSpec.ofChange curveMultiplesWrong)

/-- 'witanlaw03.CurveDoubles': WHATEVER THE INPUT: true; the input reads as it did. -/
def curveDoublesSpec : ChangeSpec := { name := "curveDoubles", fn := fun _ => fun
  | [d1, d2] => { results := [.lit (.bool true)], args := [d1, d2] }
  | _ => none }
def curveDoublesRow : OpenClaim := { program := "ytmngdaeogbjpiaa", sum := "463838308b9117313b25dbf0c8828ead513d0d4ff11e1c48e50d372d8ae2b97e", func := "witan/witanlaw03.CurveDoubles", spec := "curveDoubles", inPlace := ["math/bits.Add64", "math/bits.Sub64"], apart := false }
def CurveDoublesSaid : Prop := curveDoublesRow.holds Try.pinned (OpenSpec.ofChange curveDoublesSpec)

/-- ITS FALSE NEIGHBOUR: 'it returns false'. Refute it at one input. -/
def curveDoublesWrong : ChangeSpec := { name := "curveDoubles", fn := fun _ => fun
  | [d1, d2] => { results := [.lit (.bool false)], args := [d1, d2] }
  | _ => none }
def CurveDoublesWrongFalsely : Prop := curveDoublesRow.holds Try.pinned (OpenSpec.ofChange curveDoublesWrong)

/-- 'witanlaw03.CurveExact': WHATEVER THE INPUT: true; the input reads as it did. -/
def curveExactSpec : ChangeSpec := { name := "curveExact", fn := fun _ => fun
  | [d1, d2, d3, d4] => { results := [.lit (.bool true)], args := [d1, d2, d3, d4] }
  | _ => none }
def curveExactRow : OpenClaim := { program := "ytmngdaeogbjpiaa", sum := "463838308b9117313b25dbf0c8828ead513d0d4ff11e1c48e50d372d8ae2b97e", func := "witan/witanlaw03.CurveExact", spec := "curveExact", inPlace := ["math/bits.Sub64", "math/bits.Add64"], apart := false }
def CurveExactSaid : Prop := curveExactRow.holds Try.pinned (OpenSpec.ofChange curveExactSpec)

/-- ITS FALSE NEIGHBOUR: 'it returns false'. Refute it at one input. -/
def curveExactWrong : ChangeSpec := { name := "curveExact", fn := fun _ => fun
  | [d1, d2, d3, d4] => { results := [.lit (.bool false)], args := [d1, d2, d3, d4] }
  | _ => none }
def CurveExactWrongFalsely : Prop := curveExactRow.holds Try.pinned (OpenSpec.ofChange curveExactWrong)

/-- 'witanlaw03.CurveOrder': WHATEVER THE INPUT: true; the input reads as it did. -/
def curveOrderSpec : ChangeSpec := { name := "curveOrder", fn := fun _ => fun
  | [d] => { results := [.lit (.bool true)], args := [d] }
  | _ => none }
def curveOrderRow : OpenClaim := { program := "ytmngdaeogbjpiaa", sum := "463838308b9117313b25dbf0c8828ead513d0d4ff11e1c48e50d372d8ae2b97e", func := "witan/witanlaw03.CurveOrder", spec := "curveOrder", inPlace := ["math/bits.Add64", "math/bits.Sub64"], apart := false }
def CurveOrderSaid : Prop := curveOrderRow.holds Try.pinned (OpenSpec.ofChange curveOrderSpec)

/-- ITS FALSE NEIGHBOUR: 'it returns false'. Refute it at one input. -/
def curveOrderWrong : ChangeSpec := { name := "curveOrder", fn := fun _ => fun
  | [d] => { results := [.lit (.bool false)], args := [d] }
  | _ => none }
def CurveOrderWrongFalsely : Prop := curveOrderRow.holds Try.pinned (OpenSpec.ofChange curveOrderWrong)

/-- 'witanlaw07.FeldExact': WHATEVER THE INPUT: true; the input reads as it did. -/
def feldExactSpec : ChangeSpec := { name := "feldExact", fn := fun _ => fun
  | [d1, d2, d3, d4] => { results := [.lit (.bool true)], args := [d1, d2, d3, d4] }
  | _ => none }
def feldExactRow : OpenClaim := { program := "ytmngdaeogbjpiaa", sum := "463838308b9117313b25dbf0c8828ead513d0d4ff11e1c48e50d372d8ae2b97e", func := "witan/witanlaw07.FeldExact", spec := "feldExact", inPlace := ["math/bits.Add64", "math/bits.Sub64"], apart := false }
def FeldExactSaid : Prop := feldExactRow.holds Try.pinned (OpenSpec.ofChange feldExactSpec)

/-- ITS FALSE NEIGHBOUR: 'it returns false'. Refute it at one input. -/
def feldExactWrong : ChangeSpec := { name := "feldExact", fn := fun _ => fun
  | [d1, d2, d3, d4] => { results := [.lit (.bool false)], args := [d1, d2, d3, d4] }
  | _ => none }
def FeldExactWrongFalsely : Prop := feldExactRow.holds Try.pinned (OpenSpec.ofChange feldExactWrong)

/-- 'witanlaw07.FeldFits': WHATEVER THE INPUT: true; the input reads as it did. -/
def feldFitsSpec : ChangeSpec := { name := "feldFits", fn := fun _ => fun
  | [d1, d2, d3] => { results := [.lit (.bool true)], args := [d1, d2, d3] }
  | _ => none }
def feldFitsRow : OpenClaim := { program := "ytmngdaeogbjpiaa", sum := "463838308b9117313b25dbf0c8828ead513d0d4ff11e1c48e50d372d8ae2b97e", func := "witan/witanlaw07.FeldFits", spec := "feldFits", inPlace := ["math/bits.Add64", "math/bits.Sub64"], apart := false }
def FeldFitsSaid : Prop := feldFitsRow.holds Try.pinned (OpenSpec.ofChange feldFitsSpec)

/-- ITS FALSE NEIGHBOUR: 'it returns false'. Refute it at one input. -/
def feldFitsWrong : ChangeSpec := { name := "feldFits", fn := fun _ => fun
  | [d1, d2, d3] => { results := [.lit (.bool false)], args := [d1, d2, d3] }
  | _ => none }
def FeldFitsWrongFalsely : Prop := feldFitsRow.holds Try.pinned (OpenSpec.ofChange feldFitsWrong)

/-- 'witanlaw07.FeldAt': WHATEVER THE INPUT: true; the input reads as it did. -/
def feldAtSpec : ChangeSpec := { name := "feldAt", fn := fun _ => fun
  | [d1, d2] => { results := [.lit (.bool true)], args := [d1, d2] }
  | _ => none }
def feldAtRow : OpenClaim := { program := "ytmngdaeogbjpiaa", sum := "463838308b9117313b25dbf0c8828ead513d0d4ff11e1c48e50d372d8ae2b97e", func := "witan/witanlaw07.FeldAt", spec := "feldAt", inPlace := ["math/bits.Add64", "math/bits.Sub64"], apart := false }
def FeldAtSaid : Prop := feldAtRow.holds Try.pinned (OpenSpec.ofChange feldAtSpec)

/-- ITS FALSE NEIGHBOUR: 'it returns false'. Refute it at one input. -/
def feldAtWrong : ChangeSpec := { name := "feldAt", fn := fun _ => fun
  | [d1, d2] => { results := [.lit (.bool false)], args := [d1, d2] }
  | _ => none }
def FeldAtWrongFalsely : Prop := feldAtRow.holds Try.pinned (OpenSpec.ofChange feldAtWrong)

/-- 'witanlaw03.CurveSides': WHATEVER THE INPUT: true; the input reads as it did. -/
def curveSidesSpec : ChangeSpec := { name := "curveSides", fn := fun _ => fun
  | [d] => { results := [.lit (.bool true)], args := [d] }
  | _ => none }
def curveSidesRow : OpenClaim := { program := "ytmngdaeogbjpiaa", sum := "463838308b9117313b25dbf0c8828ead513d0d4ff11e1c48e50d372d8ae2b97e", func := "witan/witanlaw03.CurveSides", spec := "curveSides", inPlace := ["math/bits.Sub64", "math/bits.Add64"], apart := false }
def CurveSidesSaid : Prop := curveSidesRow.holds Try.pinned (OpenSpec.ofChange curveSidesSpec)

/-- ITS FALSE NEIGHBOUR: 'it returns false'. Refute it at one input. -/
def curveSidesWrong : ChangeSpec := { name := "curveSides", fn := fun _ => fun
  | [d] => { results := [.lit (.bool false)], args := [d] }
  | _ => none }
def CurveSidesWrongFalsely : Prop := curveSidesRow.holds Try.pinned (OpenSpec.ofChange curveSidesWrong)

/-- 'witanlaw07.FeldSums': WHATEVER THE INPUT: true; the input reads as it did. -/
def feldSumsSpec : ChangeSpec := { name := "feldSums", fn := fun _ => fun
  | [d1, d2, d3, d4] => { results := [.lit (.bool true)], args := [d1, d2, d3, d4] }
  | _ => none }
def feldSumsRow : OpenClaim := { program := "ytmngdaeogbjpiaa", sum := "463838308b9117313b25dbf0c8828ead513d0d4ff11e1c48e50d372d8ae2b97e", func := "witan/witanlaw07.FeldSums", spec := "feldSums", inPlace := ["math/bits.Add64", "math/bits.Sub64"], apart := false }
def FeldSumsSaid : Prop := feldSumsRow.holds Try.pinned (OpenSpec.ofChange feldSumsSpec)

/-- ITS FALSE NEIGHBOUR: 'it returns false'. Refute it at one input. -/
def feldSumsWrong : ChangeSpec := { name := "feldSums", fn := fun _ => fun
  | [d1, d2, d3, d4] => { results := [.lit (.bool false)], args := [d1, d2, d3, d4] }
  | _ => none }
def FeldSumsWrongFalsely : Prop := feldSumsRow.holds Try.pinned (OpenSpec.ofChange feldSumsWrong)

/-- 'witanlaw07.FeldLong': WHATEVER THE INPUT: true; the input reads as it did. -/
def feldLongSpec : ChangeSpec := { name := "feldLong", fn := fun _ => fun
  | [d1, d2] => { results := [.lit (.bool true)], args := [d1, d2] }
  | _ => none }
def feldLongRow : OpenClaim := { program := "ytmngdaeogbjpiaa", sum := "463838308b9117313b25dbf0c8828ead513d0d4ff11e1c48e50d372d8ae2b97e", func := "witan/witanlaw07.FeldLong", spec := "feldLong", inPlace := ["math/bits.Add64", "math/bits.Sub64"], apart := false }
def FeldLongSaid : Prop := feldLongRow.holds Try.pinned (OpenSpec.ofChange feldLongSpec)

/-- ITS FALSE NEIGHBOUR: 'it returns false'. Refute it at one input. -/
def feldLongWrong : ChangeSpec := { name := "feldLong", fn := fun _ => fun
  | [d1, d2] => { results := [.lit (.bool false)], args := [d1, d2] }
  | _ => none }
def FeldLongWrongFalsely : Prop := feldLongRow.holds Try.pinned (OpenSpec.ofChange feldLongWrong)

/-- 'witanlaw07.FeldRows': WHATEVER THE INPUT: true; the input reads as it did. -/
def feldRowsSpec : ChangeSpec := { name := "feldRows", fn := fun _ => fun
  | [d1, d2, d3] => { results := [.lit (.bool true)], args := [d1, d2, d3] }
  | _ => none }
def feldRowsRow : OpenClaim := { program := "ytmngdaeogbjpiaa", sum := "463838308b9117313b25dbf0c8828ead513d0d4ff11e1c48e50d372d8ae2b97e", func := "witan/witanlaw07.FeldRows", spec := "feldRows", inPlace := ["math/bits.Add64", "math/bits.Sub64"], apart := false }
def FeldRowsSaid : Prop := feldRowsRow.holds Try.pinned (OpenSpec.ofChange feldRowsSpec)

/-- ITS FALSE NEIGHBOUR: 'it returns false'. Refute it at one input. -/
def feldRowsWrong : ChangeSpec := { name := "feldRows", fn := fun _ => fun
  | [d1, d2, d3] => { results := [.lit (.bool false)], args := [d1, d2, d3] }
  | _ => none }
def FeldRowsWrongFalsely : Prop := feldRowsRow.holds Try.pinned (OpenSpec.ofChange feldRowsWrong)

/-- 'witanlaw03.CurveBytes': WHATEVER THE INPUT: true; the input reads as it did. -/
def curveBytesSpec : ChangeSpec := { name := "curveBytes", fn := fun _ => fun
  | [d1, d2] => { results := [.lit (.bool true)], args := [d1, d2] }
  | _ => none }
def curveBytesRow : OpenClaim := { program := "ytmngdaeogbjpiaa", sum := "463838308b9117313b25dbf0c8828ead513d0d4ff11e1c48e50d372d8ae2b97e", func := "witan/witanlaw03.CurveBytes", spec := "curveBytes", inPlace := ["math/bits.Sub64", "math/bits.Add64"], apart := false }
def CurveBytesSaid : Prop := curveBytesRow.holds Try.pinned (OpenSpec.ofChange curveBytesSpec)

/-- ITS FALSE NEIGHBOUR: 'it returns false'. Refute it at one input. -/
def curveBytesWrong : ChangeSpec := { name := "curveBytes", fn := fun _ => fun
  | [d1, d2] => { results := [.lit (.bool false)], args := [d1, d2] }
  | _ => none }
def CurveBytesWrongFalsely : Prop := curveBytesRow.holds Try.pinned (OpenSpec.ofChange curveBytesWrong)

/- THE SECOND FORM. 'bulk': how many values and letters a reading holds, each counted each time it is reached (what is shared counts as often as it is met; a slice's spare places count too). A statement '..UptoSaid' is the law's where the arguments, and the package variables that the reading takes, are together of bulk at most 1048576: NARROWER than '..Said'. Prove '..Said' where nothing that the law and all that it calls make is longer than what came in: it says more and counts as full. Else prove '..UptoSaid'. A law counts once. -/
mutual
def uptoBulk {H : Type} : DataW H → Nat
  | .lit (.string bytes) => bytes.length + 1
  | .lit _ => 1
  | .nil => 1
  | .ptr d => uptoBulk d + 1
  | .slice elems spare => uptoBulkAll elems + uptoBulkAll spare + 1
  | .agg parts => uptoBulkAll parts + 1
  | .iface _ d => uptoBulk d + 1
  | .map entries => uptoBulkEntries entries + 1
  | .held _ => 1
def uptoBulkAll {H : Type} : List (DataW H) → Nat
  | [] => 0
  | d :: r => uptoBulk d + uptoBulkAll r
def uptoBulkEntries {H : Type} : List (Lit × DataW H) → Nat
  | [] => 0
  | x :: r => uptoBulkEntry x + uptoBulkEntries r
def uptoBulkEntry {H : Type} : Lit × DataW H → Nat
  | (.string bytes, d) => bytes.length + uptoBulk d + 1
  | (_, d) => uptoBulk d + 1
 end
def uptoSmall : (H : Type) → List (DataW H) → Bool := fun _ ds => decide (uptoBulkAll ds ≤ 1048576)
def OpenSpec.upto (s : _root_.Go.ChangeSpec) : _root_.Go.OpenSpec := { _root_.Go.OpenSpec.ofChange s with cond := some uptoSmall }

/-- 'witanlaw16.BlockReads', WHERE WHAT IT READS IS OF BULK AT MOST 1048576: true; the input reads as it did. -/
def blockReadsUptoRow : OpenClaim := { program := "ytmngdaeogbjpiaa", sum := "463838308b9117313b25dbf0c8828ead513d0d4ff11e1c48e50d372d8ae2b97e", func := "witan/witanlaw16.BlockReads", spec := "blockReads", apart := false, narrowed := true }
def BlockReadsUptoSaid : Prop := blockReadsUptoRow.holds Try.pinned (OpenSpec.upto blockReadsSpec)

/-- 'witanlaw16.BlockCut', WHERE WHAT IT READS IS OF BULK AT MOST 1048576: true; the input reads as it did. -/
def blockCutUptoRow : OpenClaim := { program := "ytmngdaeogbjpiaa", sum := "463838308b9117313b25dbf0c8828ead513d0d4ff11e1c48e50d372d8ae2b97e", func := "witan/witanlaw16.BlockCut", spec := "blockCut", apart := false, narrowed := true }
def BlockCutUptoSaid : Prop := blockCutUptoRow.holds Try.pinned (OpenSpec.upto blockCutSpec)

/-- 'witanlaw16.BlockSizes', WHERE WHAT IT READS IS OF BULK AT MOST 1048576: true; the input reads as it did. -/
def blockSizesUptoRow : OpenClaim := { program := "ytmngdaeogbjpiaa", sum := "463838308b9117313b25dbf0c8828ead513d0d4ff11e1c48e50d372d8ae2b97e", func := "witan/witanlaw16.BlockSizes", spec := "blockSizes", apart := false, narrowed := true }
def BlockSizesUptoSaid : Prop := blockSizesUptoRow.holds Try.pinned (OpenSpec.upto blockSizesSpec)

/-- 'witanlaw16.BlockExact', WHERE WHAT IT READS IS OF BULK AT MOST 1048576: true; the input reads as it did. -/
def blockExactUptoRow : OpenClaim := { program := "ytmngdaeogbjpiaa", sum := "463838308b9117313b25dbf0c8828ead513d0d4ff11e1c48e50d372d8ae2b97e", func := "witan/witanlaw16.BlockExact", spec := "blockExact", apart := false, narrowed := true }
def BlockExactUptoSaid : Prop := blockExactUptoRow.holds Try.pinned (OpenSpec.upto blockExactSpec)

/-- 'witanlaw03.CurveGroup', WHERE WHAT IT READS IS OF BULK AT MOST 1048576: true; the input reads as it did. -/
def curveGroupUptoRow : OpenClaim := { program := "ytmngdaeogbjpiaa", sum := "463838308b9117313b25dbf0c8828ead513d0d4ff11e1c48e50d372d8ae2b97e", func := "witan/witanlaw03.CurveGroup", spec := "curveGroup", inPlace := ["math/bits.Add64", "math/bits.Sub64"], apart := false, narrowed := true }
def CurveGroupUptoSaid : Prop := curveGroupUptoRow.holds Try.pinned (OpenSpec.upto curveGroupSpec)

/-- 'witanlaw03.CurveLines', WHERE WHAT IT READS IS OF BULK AT MOST 1048576: true; the input reads as it did. -/
def curveLinesUptoRow : OpenClaim := { program := "ytmngdaeogbjpiaa", sum := "463838308b9117313b25dbf0c8828ead513d0d4ff11e1c48e50d372d8ae2b97e", func := "witan/witanlaw03.CurveLines", spec := "curveLines", inPlace := ["math/bits.Add64", "math/bits.Sub64"], apart := false, narrowed := true }
def CurveLinesUptoSaid : Prop := curveLinesUptoRow.holds Try.pinned (OpenSpec.upto curveLinesSpec)

/-- 'witanlaw03.CurveMultiples', WHERE WHAT IT READS IS OF BULK AT MOST 1048576: true; the input reads as it did. -/
def curveMultiplesUptoRow : OpenClaim := { program := "ytmngdaeogbjpiaa", sum := "463838308b9117313b25dbf0c8828ead513d0d4ff11e1c48e50d372d8ae2b97e", func := "witan/witanlaw03.CurveMultiples", spec := "curveMultiples", inPlace := ["math/bits.Add64", "math/bits.Sub64"], apart := false, narrowed := true }
def CurveMultiplesUptoSaid : Prop := curveMultiplesUptoRow.holds Try.pinned (OpenSpec.upto curveMultiplesSpec)

/-- 'witanlaw03.CurveDoubles', WHERE WHAT IT READS IS OF BULK AT MOST 1048576: true; the input reads as it did. -/
def curveDoublesUptoRow : OpenClaim := { program := "ytmngdaeogbjpiaa", sum := "463838308b9117313b25dbf0c8828ead513d0d4ff11e1c48e50d372d8ae2b97e", func := "witan/witanlaw03.CurveDoubles", spec := "curveDoubles", inPlace := ["math/bits.Add64", "math/bits.Sub64"], apart := false, narrowed := true }
def CurveDoublesUptoSaid : Prop := curveDoublesUptoRow.holds Try.pinned (OpenSpec.upto curveDoublesSpec)

/-- 'witanlaw03.CurveExact', WHERE WHAT IT READS IS OF BULK AT MOST 1048576: true; the input reads as it did. -/
def curveExactUptoRow : OpenClaim := { program := "ytmngdaeogbjpiaa", sum := "463838308b9117313b25dbf0c8828ead513d0d4ff11e1c48e50d372d8ae2b97e", func := "witan/witanlaw03.CurveExact", spec := "curveExact", inPlace := ["math/bits.Sub64", "math/bits.Add64"], apart := false, narrowed := true }
def CurveExactUptoSaid : Prop := curveExactUptoRow.holds Try.pinned (OpenSpec.upto curveExactSpec)

/-- 'witanlaw03.CurveOrder', WHERE WHAT IT READS IS OF BULK AT MOST 1048576: true; the input reads as it did. -/
def curveOrderUptoRow : OpenClaim := { program := "ytmngdaeogbjpiaa", sum := "463838308b9117313b25dbf0c8828ead513d0d4ff11e1c48e50d372d8ae2b97e", func := "witan/witanlaw03.CurveOrder", spec := "curveOrder", inPlace := ["math/bits.Add64", "math/bits.Sub64"], apart := false, narrowed := true }
def CurveOrderUptoSaid : Prop := curveOrderUptoRow.holds Try.pinned (OpenSpec.upto curveOrderSpec)

/-- 'witanlaw07.FeldExact', WHERE WHAT IT READS IS OF BULK AT MOST 1048576: true; the input reads as it did. -/
def feldExactUptoRow : OpenClaim := { program := "ytmngdaeogbjpiaa", sum := "463838308b9117313b25dbf0c8828ead513d0d4ff11e1c48e50d372d8ae2b97e", func := "witan/witanlaw07.FeldExact", spec := "feldExact", inPlace := ["math/bits.Add64", "math/bits.Sub64"], apart := false, narrowed := true }
def FeldExactUptoSaid : Prop := feldExactUptoRow.holds Try.pinned (OpenSpec.upto feldExactSpec)

/-- 'witanlaw07.FeldFits', WHERE WHAT IT READS IS OF BULK AT MOST 1048576: true; the input reads as it did. -/
def feldFitsUptoRow : OpenClaim := { program := "ytmngdaeogbjpiaa", sum := "463838308b9117313b25dbf0c8828ead513d0d4ff11e1c48e50d372d8ae2b97e", func := "witan/witanlaw07.FeldFits", spec := "feldFits", inPlace := ["math/bits.Add64", "math/bits.Sub64"], apart := false, narrowed := true }
def FeldFitsUptoSaid : Prop := feldFitsUptoRow.holds Try.pinned (OpenSpec.upto feldFitsSpec)

/-- 'witanlaw07.FeldAt', WHERE WHAT IT READS IS OF BULK AT MOST 1048576: true; the input reads as it did. -/
def feldAtUptoRow : OpenClaim := { program := "ytmngdaeogbjpiaa", sum := "463838308b9117313b25dbf0c8828ead513d0d4ff11e1c48e50d372d8ae2b97e", func := "witan/witanlaw07.FeldAt", spec := "feldAt", inPlace := ["math/bits.Add64", "math/bits.Sub64"], apart := false, narrowed := true }
def FeldAtUptoSaid : Prop := feldAtUptoRow.holds Try.pinned (OpenSpec.upto feldAtSpec)

/-- 'witanlaw03.CurveSides', WHERE WHAT IT READS IS OF BULK AT MOST 1048576: true; the input reads as it did. -/
def curveSidesUptoRow : OpenClaim := { program := "ytmngdaeogbjpiaa", sum := "463838308b9117313b25dbf0c8828ead513d0d4ff11e1c48e50d372d8ae2b97e", func := "witan/witanlaw03.CurveSides", spec := "curveSides", inPlace := ["math/bits.Sub64", "math/bits.Add64"], apart := false, narrowed := true }
def CurveSidesUptoSaid : Prop := curveSidesUptoRow.holds Try.pinned (OpenSpec.upto curveSidesSpec)

/-- 'witanlaw07.FeldSums', WHERE WHAT IT READS IS OF BULK AT MOST 1048576: true; the input reads as it did. -/
def feldSumsUptoRow : OpenClaim := { program := "ytmngdaeogbjpiaa", sum := "463838308b9117313b25dbf0c8828ead513d0d4ff11e1c48e50d372d8ae2b97e", func := "witan/witanlaw07.FeldSums", spec := "feldSums", inPlace := ["math/bits.Add64", "math/bits.Sub64"], apart := false, narrowed := true }
def FeldSumsUptoSaid : Prop := feldSumsUptoRow.holds Try.pinned (OpenSpec.upto feldSumsSpec)

/-- 'witanlaw07.FeldLong', WHERE WHAT IT READS IS OF BULK AT MOST 1048576: true; the input reads as it did. -/
def feldLongUptoRow : OpenClaim := { program := "ytmngdaeogbjpiaa", sum := "463838308b9117313b25dbf0c8828ead513d0d4ff11e1c48e50d372d8ae2b97e", func := "witan/witanlaw07.FeldLong", spec := "feldLong", inPlace := ["math/bits.Add64", "math/bits.Sub64"], apart := false, narrowed := true }
def FeldLongUptoSaid : Prop := feldLongUptoRow.holds Try.pinned (OpenSpec.upto feldLongSpec)

/-- 'witanlaw07.FeldRows', WHERE WHAT IT READS IS OF BULK AT MOST 1048576: true; the input reads as it did. -/
def feldRowsUptoRow : OpenClaim := { program := "ytmngdaeogbjpiaa", sum := "463838308b9117313b25dbf0c8828ead513d0d4ff11e1c48e50d372d8ae2b97e", func := "witan/witanlaw07.FeldRows", spec := "feldRows", inPlace := ["math/bits.Add64", "math/bits.Sub64"], apart := false, narrowed := true }
def FeldRowsUptoSaid : Prop := feldRowsUptoRow.holds Try.pinned (OpenSpec.upto feldRowsSpec)

/-- 'witanlaw03.CurveBytes', WHERE WHAT IT READS IS OF BULK AT MOST 1048576: true; the input reads as it did. -/
def curveBytesUptoRow : OpenClaim := { program := "ytmngdaeogbjpiaa", sum := "463838308b9117313b25dbf0c8828ead513d0d4ff11e1c48e50d372d8ae2b97e", func := "witan/witanlaw03.CurveBytes", spec := "curveBytes", inPlace := ["math/bits.Sub64", "math/bits.Add64"], apart := false, narrowed := true }
def CurveBytesUptoSaid : Prop := curveBytesUptoRow.holds Try.pinned (OpenSpec.upto curveBytesSpec)

end Rows
end Go.Proofs.Ytmngdaeogbjpiaa
