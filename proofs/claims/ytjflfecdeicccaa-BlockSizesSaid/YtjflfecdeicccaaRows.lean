/-
  No cell of these rows narrows 'for every input' (looked for: loops, veiled, ifaces, maps, wideKeys, modest, calm, conditions, laid).
  DERIVED. THE GIVEN ROWS OF THIS SEAT. 7 by the template 'for every input the law returns true; each argument reads behind the call as it read before'; 0 by the template 'total and deterministic' (their statements: YtjflfecdeicccaaTotals.lean).
  GIVEN WITH THE SEED: the statements are not yours to turn. If you find one false, say at which input.
  Laid BY PROGRAM, IN A SANDBOX (cutbox-rows.mjs): the forced cells as the released guide's own fill.sh prints them over the translation 9076dd3995e69abd… (all of the seat's roots in one cut). By AI agents, Wed Nov 11 2026. No macro, syntax, notation, axiom, sorry.
-/
import Derived.Test.YtjflfecdeicccaaChecked
import GoSem.Claim
import GoSem.ClaimJoined
import GoSem.ClaimMapViews
import Derived.JoinedTies
import Derived.KernelRfl
namespace Go.Proofs.Ytjflfecdeicccaa
/- THE CELL 'sum', in the pinned program and in every row, IS THE sha256 OF THE DUMP (.gsa) THAT YtjflfecdeicccaaProg.lean LOADS. Nothing in Lean hashes anything: it is a label: what it is worth is what the hold of that sum in a sandbox is worth. -/
noncomputable def Try.pinned : Pinned := { name := "ytjflfecdeicccaa", sum := "9076dd3995e69abd4f396fd0759e9b451997791bfd6dd3700d3a1e048d7b8923", checked := Try.checked }
namespace Rows
def none {H : Type} : Left H := { results := [], args := [] }

/-- 'witanlaw04.ShaExact': WHATEVER THE INPUT: true; the input reads as it did. -/
def shaExactSpec : ChangeSpec := { name := "shaExact", fn := fun _ => fun
  | [d1, d2] => { results := [.lit (.bool true)], args := [d1, d2] }
  | _ => none }
def shaExactRow : OpenClaim := { program := "ytjflfecdeicccaa", sum := "9076dd3995e69abd4f396fd0759e9b451997791bfd6dd3700d3a1e048d7b8923", func := "witan/witanlaw04.ShaExact", spec := "shaExact", apart := false }
def ShaExactSaid : Prop := shaExactRow.holds Try.pinned (OpenSpec.ofChange shaExactSpec)

/-- ITS FALSE NEIGHBOUR: 'it returns false'. Refute it at one input. -/
def shaExactWrong : ChangeSpec := { name := "shaExact", fn := fun _ => fun
  | [d1, d2] => { results := [.lit (.bool false)], args := [d1, d2] }
  | _ => none }
def ShaExactWrongFalsely : Prop := shaExactRow.holds Try.pinned (OpenSpec.ofChange shaExactWrong)

/-- 'witanlaw04.ShaParts': WHATEVER THE INPUT: true; the input reads as it did. -/
def shaPartsSpec : ChangeSpec := { name := "shaParts", fn := fun _ => fun
  | [d1, d2] => { results := [.lit (.bool true)], args := [d1, d2] }
  | _ => none }
def shaPartsRow : OpenClaim := { program := "ytjflfecdeicccaa", sum := "9076dd3995e69abd4f396fd0759e9b451997791bfd6dd3700d3a1e048d7b8923", func := "witan/witanlaw04.ShaParts", spec := "shaParts", apart := false }
def ShaPartsSaid : Prop := shaPartsRow.holds Try.pinned (OpenSpec.ofChange shaPartsSpec)

/-- ITS FALSE NEIGHBOUR: 'it returns false'. Refute it at one input. -/
def shaPartsWrong : ChangeSpec := { name := "shaParts", fn := fun _ => fun
  | [d1, d2] => { results := [.lit (.bool false)], args := [d1, d2] }
  | _ => none }
def ShaPartsWrongFalsely : Prop := shaPartsRow.holds Try.pinned (OpenSpec.ofChange shaPartsWrong)

/-- 'witanlaw16.BlockReads': WHATEVER THE INPUT: true; the input reads as it did. -/
def blockReadsSpec : ChangeSpec := { name := "blockReads", fn := fun _ => fun
  | [d] => { results := [.lit (.bool true)], args := [d] }
  | _ => none }
def blockReadsRow : OpenClaim := { program := "ytjflfecdeicccaa", sum := "9076dd3995e69abd4f396fd0759e9b451997791bfd6dd3700d3a1e048d7b8923", func := "witan/witanlaw16.BlockReads", spec := "blockReads", apart := false }
def BlockReadsSaid : Prop := blockReadsRow.holds Try.pinned (OpenSpec.ofChange blockReadsSpec)

/-- ITS FALSE NEIGHBOUR: 'it returns false'. Refute it at one input. -/
def blockReadsWrong : ChangeSpec := { name := "blockReads", fn := fun _ => fun
  | [d] => { results := [.lit (.bool false)], args := [d] }
  | _ => none }
def BlockReadsWrongFalsely : Prop := blockReadsRow.holds Try.pinned (OpenSpec.ofChange blockReadsWrong)

/-- 'witanlaw16.BlockCut': WHATEVER THE INPUT: true; the input reads as it did. -/
def blockCutSpec : ChangeSpec := { name := "blockCut", fn := fun _ => fun
  | [d1, d2, d3, d4] => { results := [.lit (.bool true)], args := [d1, d2, d3, d4] }
  | _ => none }
def blockCutRow : OpenClaim := { program := "ytjflfecdeicccaa", sum := "9076dd3995e69abd4f396fd0759e9b451997791bfd6dd3700d3a1e048d7b8923", func := "witan/witanlaw16.BlockCut", spec := "blockCut", apart := false }
def BlockCutSaid : Prop := blockCutRow.holds Try.pinned (OpenSpec.ofChange blockCutSpec)

/-- ITS FALSE NEIGHBOUR: 'it returns false'. Refute it at one input. -/
def blockCutWrong : ChangeSpec := { name := "blockCut", fn := fun _ => fun
  | [d1, d2, d3, d4] => { results := [.lit (.bool false)], args := [d1, d2, d3, d4] }
  | _ => none }
def BlockCutWrongFalsely : Prop := blockCutRow.holds Try.pinned (OpenSpec.ofChange blockCutWrong)

/-- 'witanlaw16.BlockSizes': WHATEVER THE INPUT: true; the input reads as it did. -/
def blockSizesSpec : ChangeSpec := { name := "blockSizes", fn := fun _ => fun
  | [d1, d2, d3, d4] => { results := [.lit (.bool true)], args := [d1, d2, d3, d4] }
  | _ => none }
def blockSizesRow : OpenClaim := { program := "ytjflfecdeicccaa", sum := "9076dd3995e69abd4f396fd0759e9b451997791bfd6dd3700d3a1e048d7b8923", func := "witan/witanlaw16.BlockSizes", spec := "blockSizes", apart := false }
def BlockSizesSaid : Prop := blockSizesRow.holds Try.pinned (OpenSpec.ofChange blockSizesSpec)

/-- ITS FALSE NEIGHBOUR: 'it returns false'. Refute it at one input. -/
def blockSizesWrong : ChangeSpec := { name := "blockSizes", fn := fun _ => fun
  | [d1, d2, d3, d4] => { results := [.lit (.bool false)], args := [d1, d2, d3, d4] }
  | _ => none }
def BlockSizesWrongFalsely : Prop := blockSizesRow.holds Try.pinned (OpenSpec.ofChange blockSizesWrong)

/-- 'witanlaw16.BlockExact': WHATEVER THE INPUT: true; the input reads as it did. -/
def blockExactSpec : ChangeSpec := { name := "blockExact", fn := fun _ => fun
  | [d1, d2] => { results := [.lit (.bool true)], args := [d1, d2] }
  | _ => none }
def blockExactRow : OpenClaim := { program := "ytjflfecdeicccaa", sum := "9076dd3995e69abd4f396fd0759e9b451997791bfd6dd3700d3a1e048d7b8923", func := "witan/witanlaw16.BlockExact", spec := "blockExact", apart := false }
def BlockExactSaid : Prop := blockExactRow.holds Try.pinned (OpenSpec.ofChange blockExactSpec)

/-- ITS FALSE NEIGHBOUR: 'it returns false'. Refute it at one input. -/
def blockExactWrong : ChangeSpec := { name := "blockExact", fn := fun _ => fun
  | [d1, d2] => { results := [.lit (.bool false)], args := [d1, d2] }
  | _ => none }
def BlockExactWrongFalsely : Prop := blockExactRow.holds Try.pinned (OpenSpec.ofChange blockExactWrong)

/-- 'witanlaw05.DrawLong': WHATEVER THE INPUT: true; the input reads as it did. -/
def drawLongSpec : ChangeSpec := { name := "drawLong", fn := fun _ => fun
  | [d1, d2] => { results := [.lit (.bool true)], args := [d1, d2] }
  | _ => none }
def drawLongRow : OpenClaim := { program := "ytjflfecdeicccaa", sum := "9076dd3995e69abd4f396fd0759e9b451997791bfd6dd3700d3a1e048d7b8923", func := "witan/witanlaw05.DrawLong", spec := "drawLong", inPlace := ["math/bits.Sub64", "math/bits.Add64"], apart := false }
def DrawLongSaid : Prop := drawLongRow.holds Try.pinned (OpenSpec.ofChange drawLongSpec)

/-- ITS FALSE NEIGHBOUR: 'it returns false'. Refute it at one input. -/
def drawLongWrong : ChangeSpec := { name := "drawLong", fn := fun _ => fun
  | [d1, d2] => { results := [.lit (.bool false)], args := [d1, d2] }
  | _ => none }
def DrawLongWrongFalsely : Prop := drawLongRow.holds Try.pinned (OpenSpec.ofChange drawLongWrong)

/- THE SECOND FORM. 'bulk': how many values and letters a reading holds, each counted each time it is reached (what is shared counts as often as it is met; a slice's spare places count too). A statement '..UptoSaid' is the law's where the arguments, and the package variables that the reading takes, are together of bulk at most 1048576: NARROWER than '..Said'. Prove '..Said' where nothing that the law and all that it calls make is longer than what came in: it says more and counts as full. Else prove '..UptoSaid'. A law counts once. -/
mutual
def uptoBulk {H : Type} : DataW H → Nat
  | .lit (.string bytes) => bytes.length + 1
  | .lit _ => 1
  | .nil => 1
  | .ptr d => uptoBulk d + 1
  | .slice elems spare => uptoBulkAll elems + uptoBulkAll spare + 1
  | .agg parts => uptoBulkAll parts + 1
  | .iface _ d => uptoBulk d + 1
  | .map entries => uptoBulkEntries entries + 1
  | .held _ => 1
def uptoBulkAll {H : Type} : List (DataW H) → Nat
  | [] => 0
  | d :: r => uptoBulk d + uptoBulkAll r
def uptoBulkEntries {H : Type} : List (Lit × DataW H) → Nat
  | [] => 0
  | x :: r => uptoBulkEntry x + uptoBulkEntries r
def uptoBulkEntry {H : Type} : Lit × DataW H → Nat
  | (.string bytes, d) => bytes.length + uptoBulk d + 1
  | (_, d) => uptoBulk d + 1
 end
def uptoSmall : (H : Type) → List (DataW H) → Bool := fun _ ds => decide (uptoBulkAll ds ≤ 1048576)
def OpenSpec.upto (s : _root_.Go.ChangeSpec) : _root_.Go.OpenSpec := { _root_.Go.OpenSpec.ofChange s with cond := some uptoSmall }

/-- 'witanlaw04.ShaExact', WHERE WHAT IT READS IS OF BULK AT MOST 1048576: true; the input reads as it did. -/
def shaExactUptoRow : OpenClaim := { program := "ytjflfecdeicccaa", sum := "9076dd3995e69abd4f396fd0759e9b451997791bfd6dd3700d3a1e048d7b8923", func := "witan/witanlaw04.ShaExact", spec := "shaExact", apart := false, narrowed := true }
def ShaExactUptoSaid : Prop := shaExactUptoRow.holds Try.pinned (OpenSpec.upto shaExactSpec)

/-- 'witanlaw04.ShaParts', WHERE WHAT IT READS IS OF BULK AT MOST 1048576: true; the input reads as it did. -/
def shaPartsUptoRow : OpenClaim := { program := "ytjflfecdeicccaa", sum := "9076dd3995e69abd4f396fd0759e9b451997791bfd6dd3700d3a1e048d7b8923", func := "witan/witanlaw04.ShaParts", spec := "shaParts", apart := false, narrowed := true }
def ShaPartsUptoSaid : Prop := shaPartsUptoRow.holds Try.pinned (OpenSpec.upto shaPartsSpec)

/-- 'witanlaw16.BlockReads', WHERE WHAT IT READS IS OF BULK AT MOST 1048576: true; the input reads as it did. -/
def blockReadsUptoRow : OpenClaim := { program := "ytjflfecdeicccaa", sum := "9076dd3995e69abd4f396fd0759e9b451997791bfd6dd3700d3a1e048d7b8923", func := "witan/witanlaw16.BlockReads", spec := "blockReads", apart := false, narrowed := true }
def BlockReadsUptoSaid : Prop := blockReadsUptoRow.holds Try.pinned (OpenSpec.upto blockReadsSpec)

/-- 'witanlaw16.BlockCut', WHERE WHAT IT READS IS OF BULK AT MOST 1048576: true; the input reads as it did. -/
def blockCutUptoRow : OpenClaim := { program := "ytjflfecdeicccaa", sum := "9076dd3995e69abd4f396fd0759e9b451997791bfd6dd3700d3a1e048d7b8923", func := "witan/witanlaw16.BlockCut", spec := "blockCut", apart := false, narrowed := true }
def BlockCutUptoSaid : Prop := blockCutUptoRow.holds Try.pinned (OpenSpec.upto blockCutSpec)

/-- 'witanlaw16.BlockSizes', WHERE WHAT IT READS IS OF BULK AT MOST 1048576: true; the input reads as it did. -/
def blockSizesUptoRow : OpenClaim := { program := "ytjflfecdeicccaa", sum := "9076dd3995e69abd4f396fd0759e9b451997791bfd6dd3700d3a1e048d7b8923", func := "witan/witanlaw16.BlockSizes", spec := "blockSizes", apart := false, narrowed := true }
def BlockSizesUptoSaid : Prop := blockSizesUptoRow.holds Try.pinned (OpenSpec.upto blockSizesSpec)

/-- 'witanlaw16.BlockExact', WHERE WHAT IT READS IS OF BULK AT MOST 1048576: true; the input reads as it did. -/
def blockExactUptoRow : OpenClaim := { program := "ytjflfecdeicccaa", sum := "9076dd3995e69abd4f396fd0759e9b451997791bfd6dd3700d3a1e048d7b8923", func := "witan/witanlaw16.BlockExact", spec := "blockExact", apart := false, narrowed := true }
def BlockExactUptoSaid : Prop := blockExactUptoRow.holds Try.pinned (OpenSpec.upto blockExactSpec)

/-- 'witanlaw05.DrawLong', WHERE WHAT IT READS IS OF BULK AT MOST 1048576: true; the input reads as it did. -/
def drawLongUptoRow : OpenClaim := { program := "ytjflfecdeicccaa", sum := "9076dd3995e69abd4f396fd0759e9b451997791bfd6dd3700d3a1e048d7b8923", func := "witan/witanlaw05.DrawLong", spec := "drawLong", inPlace := ["math/bits.Sub64", "math/bits.Add64"], apart := false, narrowed := true }
def DrawLongUptoSaid : Prop := drawLongUptoRow.holds Try.pinned (OpenSpec.upto drawLongSpec)

end Rows
end Go.Proofs.Ytjflfecdeicccaa
