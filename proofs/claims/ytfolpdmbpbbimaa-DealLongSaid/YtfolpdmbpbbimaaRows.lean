/-
  No cell of these rows narrows 'for every input' (looked for: loops, veiled, ifaces, maps, wideKeys, modest, calm, conditions, laid).
  DERIVED. THE GIVEN ROWS OF THIS SEAT. 8 by the template 'for every input the law returns true; each argument reads behind the call as it read before'; 0 by the template 'total and deterministic' (their statements: YtfolpdmbpbbimaaTotals.lean).
  GIVEN WITH THE SEED: the statements are not yours to turn. If you find one false, say at which input.
  Laid BY PROGRAM, IN A SANDBOX (cutbox-rows.mjs): the forced cells as the released guide's own fill.sh prints them over the translation c8f959c8a16fb21e… (all of the seat's roots in one cut). By AI agents, Wed Nov 11 2026. No macro, syntax, notation, axiom, sorry.
-/
import Derived.Test.YtfolpdmbpbbimaaChecked
import GoSem.Claim
import GoSem.ClaimJoined
import GoSem.ClaimMapViews
import Derived.JoinedTies
import Derived.KernelRfl
namespace Go.Proofs.Ytfolpdmbpbbimaa
/- THE CELL 'sum', in the pinned program and in every row, IS THE sha256 OF THE DUMP (.gsa) THAT YtfolpdmbpbbimaaProg.lean LOADS. Nothing in Lean hashes anything: it is a label: what it is worth is what the hold of that sum in a sandbox is worth. -/
noncomputable def Try.pinned : Pinned := { name := "ytfolpdmbpbbimaa", sum := "c8f959c8a16fb21e8f2bf511ccd5f0a5813775667f905a73280d19914bb6bf41", checked := Try.checked }
namespace Rows
def none {H : Type} : Left H := { results := [], args := [] }

/-- 'witanlaw21.DealSecrets': WHATEVER THE INPUT: true; the input reads as it did. -/
def dealSecretsSpec : ChangeSpec := { name := "dealSecrets", fn := fun _ => fun
  | [d1, d2, d3] => { results := [.lit (.bool true)], args := [d1, d2, d3] }
  | _ => none }
def dealSecretsRow : OpenClaim := { program := "ytfolpdmbpbbimaa", sum := "c8f959c8a16fb21e8f2bf511ccd5f0a5813775667f905a73280d19914bb6bf41", func := "witan/witanlaw21.DealSecrets", spec := "dealSecrets", inPlace := ["math/bits.Sub64", "math/bits.Add64"], apart := false }
def DealSecretsSaid : Prop := dealSecretsRow.holds Try.pinned (OpenSpec.ofChange dealSecretsSpec)

/-- ITS FALSE NEIGHBOUR: 'it returns false'. Refute it at one input. -/
def dealSecretsWrong : ChangeSpec := { name := "dealSecrets", fn := fun _ => fun
  | [d1, d2, d3] => { results := [.lit (.bool false)], args := [d1, d2, d3] }
  | _ => none }
def DealSecretsWrongFalsely : Prop := dealSecretsRow.holds Try.pinned (OpenSpec.ofChange dealSecretsWrong)

/-- 'witanlaw12.ActExact': WHATEVER THE INPUT: true; the input reads as it did. -/
def actExactSpec : ChangeSpec := { name := "actExact", fn := fun _ => fun
  | [d] => { results := [.lit (.bool true)], args := [d] }
  | _ => none }
def actExactRow : OpenClaim := { program := "ytfolpdmbpbbimaa", sum := "c8f959c8a16fb21e8f2bf511ccd5f0a5813775667f905a73280d19914bb6bf41", func := "witan/witanlaw12.ActExact", spec := "actExact", inPlace := ["math/bits.Sub64", "math/bits.Add64"], apart := false }
def ActExactSaid : Prop := actExactRow.holds Try.pinned (OpenSpec.ofChange actExactSpec)

/-- ITS FALSE NEIGHBOUR: 'it returns false'. Refute it at one input. -/
def actExactWrong : ChangeSpec := { name := "actExact", fn := fun _ => fun
  | [d] => { results := [.lit (.bool false)], args := [d] }
  | _ => none }
def ActExactWrongFalsely : Prop := actExactRow.holds Try.pinned (OpenSpec.ofChange actExactWrong)

/-- 'witanlaw12.ActSpoilt': WHATEVER THE INPUT: true; the input reads as it did. -/
def actSpoiltSpec : ChangeSpec := { name := "actSpoilt", fn := fun _ => fun
  | [d1, d2, d3] => { results := [.lit (.bool true)], args := [d1, d2, d3] }
  | _ => none }
def actSpoiltRow : OpenClaim := { program := "ytfolpdmbpbbimaa", sum := "c8f959c8a16fb21e8f2bf511ccd5f0a5813775667f905a73280d19914bb6bf41", func := "witan/witanlaw12.ActSpoilt", spec := "actSpoilt", inPlace := ["math/bits.Sub64", "math/bits.Add64"], apart := false }
def ActSpoiltSaid : Prop := actSpoiltRow.holds Try.pinned (OpenSpec.ofChange actSpoiltSpec)

/-- ITS FALSE NEIGHBOUR: 'it returns false'. Refute it at one input. -/
def actSpoiltWrong : ChangeSpec := { name := "actSpoilt", fn := fun _ => fun
  | [d1, d2, d3] => { results := [.lit (.bool false)], args := [d1, d2, d3] }
  | _ => none }
def ActSpoiltWrongFalsely : Prop := actSpoiltRow.holds Try.pinned (OpenSpec.ofChange actSpoiltWrong)

/-- 'witanlaw12.ActKinds': WHATEVER THE INPUT: true; the input reads as it did. -/
def actKindsSpec : ChangeSpec := { name := "actKinds", fn := fun _ => fun
  | [d1, d2, d3] => { results := [.lit (.bool true)], args := [d1, d2, d3] }
  | _ => none }
def actKindsRow : OpenClaim := { program := "ytfolpdmbpbbimaa", sum := "c8f959c8a16fb21e8f2bf511ccd5f0a5813775667f905a73280d19914bb6bf41", func := "witan/witanlaw12.ActKinds", spec := "actKinds", inPlace := ["math/bits.Sub64", "math/bits.Add64"], apart := false }
def ActKindsSaid : Prop := actKindsRow.holds Try.pinned (OpenSpec.ofChange actKindsSpec)

/-- ITS FALSE NEIGHBOUR: 'it returns false'. Refute it at one input. -/
def actKindsWrong : ChangeSpec := { name := "actKinds", fn := fun _ => fun
  | [d1, d2, d3] => { results := [.lit (.bool false)], args := [d1, d2, d3] }
  | _ => none }
def ActKindsWrongFalsely : Prop := actKindsRow.holds Try.pinned (OpenSpec.ofChange actKindsWrong)

/-- 'witanlaw12.ActBounds': WHATEVER THE INPUT: true; the input reads as it did. -/
def actBoundsSpec : ChangeSpec := { name := "actBounds", fn := fun _ => fun
  | [d1, d2] => { results := [.lit (.bool true)], args := [d1, d2] }
  | _ => none }
def actBoundsRow : OpenClaim := { program := "ytfolpdmbpbbimaa", sum := "c8f959c8a16fb21e8f2bf511ccd5f0a5813775667f905a73280d19914bb6bf41", func := "witan/witanlaw12.ActBounds", spec := "actBounds", inPlace := ["math/bits.Add64", "math/bits.Sub64"], apart := false }
def ActBoundsSaid : Prop := actBoundsRow.holds Try.pinned (OpenSpec.ofChange actBoundsSpec)

/-- ITS FALSE NEIGHBOUR: 'it returns false'. Refute it at one input. -/
def actBoundsWrong : ChangeSpec := { name := "actBounds", fn := fun _ => fun
  | [d1, d2] => { results := [.lit (.bool false)], args := [d1, d2] }
  | _ => none }
def ActBoundsWrongFalsely : Prop := actBoundsRow.holds Try.pinned (OpenSpec.ofChange actBoundsWrong)

/-- 'witanlaw21.DealShares': WHATEVER THE INPUT: true; the input reads as it did. -/
def dealSharesSpec : ChangeSpec := { name := "dealShares", fn := fun _ => fun
  | [d1, d2, d3, d4, d5] => { results := [.lit (.bool true)], args := [d1, d2, d3, d4, d5] }
  | _ => none }
def dealSharesRow : OpenClaim := { program := "ytfolpdmbpbbimaa", sum := "c8f959c8a16fb21e8f2bf511ccd5f0a5813775667f905a73280d19914bb6bf41", func := "witan/witanlaw21.DealShares", spec := "dealShares", inPlace := ["math/bits.Sub64", "math/bits.Add64"], apart := false }
def DealSharesSaid : Prop := dealSharesRow.holds Try.pinned (OpenSpec.ofChange dealSharesSpec)

/-- ITS FALSE NEIGHBOUR: 'it returns false'. Refute it at one input. -/
def dealSharesWrong : ChangeSpec := { name := "dealShares", fn := fun _ => fun
  | [d1, d2, d3, d4, d5] => { results := [.lit (.bool false)], args := [d1, d2, d3, d4, d5] }
  | _ => none }
def DealSharesWrongFalsely : Prop := dealSharesRow.holds Try.pinned (OpenSpec.ofChange dealSharesWrong)

/-- 'witanlaw21.DealSubmits': WHATEVER THE INPUT: true; the input reads as it did. -/
def dealSubmitsSpec : ChangeSpec := { name := "dealSubmits", fn := fun _ => fun
  | [d] => { results := [.lit (.bool true)], args := [d] }
  | _ => none }
def dealSubmitsRow : OpenClaim := { program := "ytfolpdmbpbbimaa", sum := "c8f959c8a16fb21e8f2bf511ccd5f0a5813775667f905a73280d19914bb6bf41", func := "witan/witanlaw21.DealSubmits", spec := "dealSubmits", inPlace := ["math/bits.Sub64", "math/bits.Add64"], apart := false }
def DealSubmitsSaid : Prop := dealSubmitsRow.holds Try.pinned (OpenSpec.ofChange dealSubmitsSpec)

/-- ITS FALSE NEIGHBOUR: 'it returns false'. Refute it at one input. -/
def dealSubmitsWrong : ChangeSpec := { name := "dealSubmits", fn := fun _ => fun
  | [d] => { results := [.lit (.bool false)], args := [d] }
  | _ => none }
def DealSubmitsWrongFalsely : Prop := dealSubmitsRow.holds Try.pinned (OpenSpec.ofChange dealSubmitsWrong)

/-- 'witanlaw21.DealLong': WHATEVER THE INPUT: true; the input reads as it did. -/
def dealLongSpec : ChangeSpec := { name := "dealLong", fn := fun _ => fun
  | [d] => { results := [.lit (.bool true)], args := [d] }
  | _ => none }
def dealLongRow : OpenClaim := { program := "ytfolpdmbpbbimaa", sum := "c8f959c8a16fb21e8f2bf511ccd5f0a5813775667f905a73280d19914bb6bf41", func := "witan/witanlaw21.DealLong", spec := "dealLong", inPlace := ["math/bits.Sub64", "math/bits.Add64"], unfollowed := true, recurses := true, apart := false }
def DealLongSaid : Prop := dealLongRow.holds Try.pinned (OpenSpec.ofChange dealLongSpec)

/-- ITS FALSE NEIGHBOUR: 'it returns false'. Refute it at one input. -/
def dealLongWrong : ChangeSpec := { name := "dealLong", fn := fun _ => fun
  | [d] => { results := [.lit (.bool false)], args := [d] }
  | _ => none }
def DealLongWrongFalsely : Prop := dealLongRow.holds Try.pinned (OpenSpec.ofChange dealLongWrong)

/- THE SECOND FORM. 'bulk': how many values and letters a reading holds, each counted each time it is reached (what is shared counts as often as it is met; a slice's spare places count too). A statement '..UptoSaid' is the law's where the arguments, and the package variables that the reading takes, are together of bulk at most 1048576: NARROWER than '..Said'. Prove '..Said' where nothing that the law and all that it calls make is longer than what came in: it says more and counts as full. Else prove '..UptoSaid'. A law counts once. -/
mutual
def uptoBulk {H : Type} : DataW H → Nat
  | .lit (.string bytes) => bytes.length + 1
  | .lit _ => 1
  | .nil => 1
  | .ptr d => uptoBulk d + 1
  | .slice elems spare => uptoBulkAll elems + uptoBulkAll spare + 1
  | .agg parts => uptoBulkAll parts + 1
  | .iface _ d => uptoBulk d + 1
  | .map entries => uptoBulkEntries entries + 1
  | .held _ => 1
def uptoBulkAll {H : Type} : List (DataW H) → Nat
  | [] => 0
  | d :: r => uptoBulk d + uptoBulkAll r
def uptoBulkEntries {H : Type} : List (Lit × DataW H) → Nat
  | [] => 0
  | x :: r => uptoBulkEntry x + uptoBulkEntries r
def uptoBulkEntry {H : Type} : Lit × DataW H → Nat
  | (.string bytes, d) => bytes.length + uptoBulk d + 1
  | (_, d) => uptoBulk d + 1
 end
def uptoSmall : (H : Type) → List (DataW H) → Bool := fun _ ds => decide (uptoBulkAll ds ≤ 1048576)
def OpenSpec.upto (s : _root_.Go.ChangeSpec) : _root_.Go.OpenSpec := { _root_.Go.OpenSpec.ofChange s with cond := some uptoSmall }

/-- 'witanlaw21.DealSecrets', WHERE WHAT IT READS IS OF BULK AT MOST 1048576: true; the input reads as it did. -/
def dealSecretsUptoRow : OpenClaim := { program := "ytfolpdmbpbbimaa", sum := "c8f959c8a16fb21e8f2bf511ccd5f0a5813775667f905a73280d19914bb6bf41", func := "witan/witanlaw21.DealSecrets", spec := "dealSecrets", inPlace := ["math/bits.Sub64", "math/bits.Add64"], apart := false, narrowed := true }
def DealSecretsUptoSaid : Prop := dealSecretsUptoRow.holds Try.pinned (OpenSpec.upto dealSecretsSpec)

/-- 'witanlaw12.ActExact', WHERE WHAT IT READS IS OF BULK AT MOST 1048576: true; the input reads as it did. -/
def actExactUptoRow : OpenClaim := { program := "ytfolpdmbpbbimaa", sum := "c8f959c8a16fb21e8f2bf511ccd5f0a5813775667f905a73280d19914bb6bf41", func := "witan/witanlaw12.ActExact", spec := "actExact", inPlace := ["math/bits.Sub64", "math/bits.Add64"], apart := false, narrowed := true }
def ActExactUptoSaid : Prop := actExactUptoRow.holds Try.pinned (OpenSpec.upto actExactSpec)

/-- 'witanlaw12.ActSpoilt', WHERE WHAT IT READS IS OF BULK AT MOST 1048576: true; the input reads as it did. -/
def actSpoiltUptoRow : OpenClaim := { program := "ytfolpdmbpbbimaa", sum := "c8f959c8a16fb21e8f2bf511ccd5f0a5813775667f905a73280d19914bb6bf41", func := "witan/witanlaw12.ActSpoilt", spec := "actSpoilt", inPlace := ["math/bits.Sub64", "math/bits.Add64"], apart := false, narrowed := true }
def ActSpoiltUptoSaid : Prop := actSpoiltUptoRow.holds Try.pinned (OpenSpec.upto actSpoiltSpec)

/-- 'witanlaw12.ActKinds', WHERE WHAT IT READS IS OF BULK AT MOST 1048576: true; the input reads as it did. -/
def actKindsUptoRow : OpenClaim := { program := "ytfolpdmbpbbimaa", sum := "c8f959c8a16fb21e8f2bf511ccd5f0a5813775667f905a73280d19914bb6bf41", func := "witan/witanlaw12.ActKinds", spec := "actKinds", inPlace := ["math/bits.Sub64", "math/bits.Add64"], apart := false, narrowed := true }
def ActKindsUptoSaid : Prop := actKindsUptoRow.holds Try.pinned (OpenSpec.upto actKindsSpec)

/-- 'witanlaw12.ActBounds', WHERE WHAT IT READS IS OF BULK AT MOST 1048576: true; the input reads as it did. -/
def actBoundsUptoRow : OpenClaim := { program := "ytfolpdmbpbbimaa", sum := "c8f959c8a16fb21e8f2bf511ccd5f0a5813775667f905a73280d19914bb6bf41", func := "witan/witanlaw12.ActBounds", spec := "actBounds", inPlace := ["math/bits.Add64", "math/bits.Sub64"], apart := false, narrowed := true }
def ActBoundsUptoSaid : Prop := actBoundsUptoRow.holds Try.pinned (OpenSpec.upto actBoundsSpec)

/-- 'witanlaw21.DealShares', WHERE WHAT IT READS IS OF BULK AT MOST 1048576: true; the input reads as it did. -/
def dealSharesUptoRow : OpenClaim := { program := "ytfolpdmbpbbimaa", sum := "c8f959c8a16fb21e8f2bf511ccd5f0a5813775667f905a73280d19914bb6bf41", func := "witan/witanlaw21.DealShares", spec := "dealShares", inPlace := ["math/bits.Sub64", "math/bits.Add64"], apart := false, narrowed := true }
def DealSharesUptoSaid : Prop := dealSharesUptoRow.holds Try.pinned (OpenSpec.upto dealSharesSpec)

/-- 'witanlaw21.DealSubmits', WHERE WHAT IT READS IS OF BULK AT MOST 1048576: true; the input reads as it did. -/
def dealSubmitsUptoRow : OpenClaim := { program := "ytfolpdmbpbbimaa", sum := "c8f959c8a16fb21e8f2bf511ccd5f0a5813775667f905a73280d19914bb6bf41", func := "witan/witanlaw21.DealSubmits", spec := "dealSubmits", inPlace := ["math/bits.Sub64", "math/bits.Add64"], apart := false, narrowed := true }
def DealSubmitsUptoSaid : Prop := dealSubmitsUptoRow.holds Try.pinned (OpenSpec.upto dealSubmitsSpec)

/-- 'witanlaw21.DealLong', WHERE WHAT IT READS IS OF BULK AT MOST 1048576: true; the input reads as it did. -/
def dealLongUptoRow : OpenClaim := { program := "ytfolpdmbpbbimaa", sum := "c8f959c8a16fb21e8f2bf511ccd5f0a5813775667f905a73280d19914bb6bf41", func := "witan/witanlaw21.DealLong", spec := "dealLong", inPlace := ["math/bits.Sub64", "math/bits.Add64"], unfollowed := true, recurses := true, apart := false, narrowed := true }
def DealLongUptoSaid : Prop := dealLongUptoRow.holds Try.pinned (OpenSpec.upto dealLongSpec)

end Rows
end Go.Proofs.Ytfolpdmbpbbimaa
