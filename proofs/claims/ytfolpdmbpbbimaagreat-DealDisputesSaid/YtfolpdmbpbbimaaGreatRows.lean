/-
  No cell of these rows narrows 'for every input' (looked for: loops, veiled, ifaces, maps, wideKeys, modest, calm, conditions, laid).
  DERIVED. THE GIVEN ROWS OF THIS SEAT. 9 by the template 'for every input the law returns true; each argument reads behind the call as it read before'; 0 by the template 'total and deterministic' (their statements: YtfolpdmbpbbimaaGreatTotals.lean).
  GIVEN WITH THE SEED: the statements are not yours to turn. If you find one false, say at which input.
  Laid BY PROGRAM, IN A SANDBOX (cutbox-rows.mjs): the forced cells as the released guide's own fill.sh prints them over the translation 1162a69f5091cad2… (all of the seat's roots in one cut). By AI agents, Wed Nov 11 2026. No macro, syntax, notation, axiom, sorry.
-/
import Derived.Test.YtfolpdmbpbbimaaGreatChecked
import GoSem.Claim
import GoSem.ClaimJoined
import GoSem.ClaimMapViews
import Derived.JoinedTies
import Derived.KernelRfl
namespace Go.Proofs.YtfolpdmbpbbimaaGreat
/- THE CELL 'sum', in the pinned program and in every row, IS THE sha256 OF THE DUMP (.gsa) THAT YtfolpdmbpbbimaaGreatProg.lean LOADS. Nothing in Lean hashes anything: it is a label: what it is worth is what the hold of that sum in a sandbox is worth. -/
noncomputable def Tryz.pinned : Pinned := { name := "ytfolpdmbpbbimaagreat", sum := "1162a69f5091cad2abe973a779b6806446c82102da01067d4d0833295a5865a4", checked := Tryz.checked }
namespace Rows
def none {H : Type} : Left H := { results := [], args := [] }

/-- 'witanlaw12.ActReads': WHATEVER THE INPUT: true; the input reads as it did. -/
def actReadsSpec : ChangeSpec := { name := "actReads", fn := fun _ => fun
  | [d] => { results := [.lit (.bool true)], args := [d] }
  | _ => none }
def actReadsRow : OpenClaim := { program := "ytfolpdmbpbbimaagreat", sum := "1162a69f5091cad2abe973a779b6806446c82102da01067d4d0833295a5865a4", func := "witan/witanlaw12.ActReads", spec := "actReads", inPlace := ["math/bits.Sub64", "math/bits.Add64"], apart := false }
def ActReadsSaid : Prop := actReadsRow.holds Tryz.pinned (OpenSpec.ofChange actReadsSpec)

/-- ITS FALSE NEIGHBOUR: 'it returns false'. Refute it at one input. -/
def actReadsWrong : ChangeSpec := { name := "actReads", fn := fun _ => fun
  | [d] => { results := [.lit (.bool false)], args := [d] }
  | _ => none }
def ActReadsWrongFalsely : Prop := actReadsRow.holds Tryz.pinned (OpenSpec.ofChange actReadsWrong)

/-- 'witanlaw14.JudgeExact': WHATEVER THE INPUT: true; the input reads as it did. -/
def judgeExactSpec : ChangeSpec := { name := "judgeExact", fn := fun _ => fun
  | [d1, d2, d3, d4, d5] => { results := [.lit (.bool true)], args := [d1, d2, d3, d4, d5] }
  | _ => none }
def judgeExactRow : OpenClaim := { program := "ytfolpdmbpbbimaagreat", sum := "1162a69f5091cad2abe973a779b6806446c82102da01067d4d0833295a5865a4", func := "witan/witanlaw14.JudgeExact", spec := "judgeExact", inPlace := ["math/bits.Sub64", "math/bits.Add64"], apart := false }
def JudgeExactSaid : Prop := judgeExactRow.holds Tryz.pinned (OpenSpec.ofChange judgeExactSpec)

/-- ITS FALSE NEIGHBOUR: 'it returns false'. Refute it at one input. -/
def judgeExactWrong : ChangeSpec := { name := "judgeExact", fn := fun _ => fun
  | [d1, d2, d3, d4, d5] => { results := [.lit (.bool false)], args := [d1, d2, d3, d4, d5] }
  | _ => none }
def JudgeExactWrongFalsely : Prop := judgeExactRow.holds Tryz.pinned (OpenSpec.ofChange judgeExactWrong)

/-- 'witanlaw14.JudgeTrue': WHATEVER THE INPUT: true; the input reads as it did. -/
def judgeTrueSpec : ChangeSpec := { name := "judgeTrue", fn := fun _ => fun
  | [d1, d2, d3, d4, d5] => { results := [.lit (.bool true)], args := [d1, d2, d3, d4, d5] }
  | _ => none }
def judgeTrueRow : OpenClaim := { program := "ytfolpdmbpbbimaagreat", sum := "1162a69f5091cad2abe973a779b6806446c82102da01067d4d0833295a5865a4", func := "witan/witanlaw14.JudgeTrue", spec := "judgeTrue", inPlace := ["math/bits.Add64", "math/bits.Sub64"], apart := false }
def JudgeTrueSaid : Prop := judgeTrueRow.holds Tryz.pinned (OpenSpec.ofChange judgeTrueSpec)

/-- ITS FALSE NEIGHBOUR: 'it returns false'. Refute it at one input. -/
def judgeTrueWrong : ChangeSpec := { name := "judgeTrue", fn := fun _ => fun
  | [d1, d2, d3, d4, d5] => { results := [.lit (.bool false)], args := [d1, d2, d3, d4, d5] }
  | _ => none }
def JudgeTrueWrongFalsely : Prop := judgeTrueRow.holds Tryz.pinned (OpenSpec.ofChange judgeTrueWrong)

/-- 'witanlaw14.JudgeFalse': WHATEVER THE INPUT: true; the input reads as it did. -/
def judgeFalseSpec : ChangeSpec := { name := "judgeFalse", fn := fun _ => fun
  | [d1, d2] => { results := [.lit (.bool true)], args := [d1, d2] }
  | _ => none }
def judgeFalseRow : OpenClaim := { program := "ytfolpdmbpbbimaagreat", sum := "1162a69f5091cad2abe973a779b6806446c82102da01067d4d0833295a5865a4", func := "witan/witanlaw14.JudgeFalse", spec := "judgeFalse", inPlace := ["math/bits.Add64", "math/bits.Sub64"], apart := false }
def JudgeFalseSaid : Prop := judgeFalseRow.holds Tryz.pinned (OpenSpec.ofChange judgeFalseSpec)

/-- ITS FALSE NEIGHBOUR: 'it returns false'. Refute it at one input. -/
def judgeFalseWrong : ChangeSpec := { name := "judgeFalse", fn := fun _ => fun
  | [d1, d2] => { results := [.lit (.bool false)], args := [d1, d2] }
  | _ => none }
def JudgeFalseWrongFalsely : Prop := judgeFalseRow.holds Tryz.pinned (OpenSpec.ofChange judgeFalseWrong)

/-- 'witanlaw14.JudgeOthers': WHATEVER THE INPUT: true; the input reads as it did. -/
def judgeOthersSpec : ChangeSpec := { name := "judgeOthers", fn := fun _ => fun
  | [d1, d2] => { results := [.lit (.bool true)], args := [d1, d2] }
  | _ => none }
def judgeOthersRow : OpenClaim := { program := "ytfolpdmbpbbimaagreat", sum := "1162a69f5091cad2abe973a779b6806446c82102da01067d4d0833295a5865a4", func := "witan/witanlaw14.JudgeOthers", spec := "judgeOthers", inPlace := ["math/bits.Add64", "math/bits.Sub64"], apart := false }
def JudgeOthersSaid : Prop := judgeOthersRow.holds Tryz.pinned (OpenSpec.ofChange judgeOthersSpec)

/-- ITS FALSE NEIGHBOUR: 'it returns false'. Refute it at one input. -/
def judgeOthersWrong : ChangeSpec := { name := "judgeOthers", fn := fun _ => fun
  | [d1, d2] => { results := [.lit (.bool false)], args := [d1, d2] }
  | _ => none }
def JudgeOthersWrongFalsely : Prop := judgeOthersRow.holds Tryz.pinned (OpenSpec.ofChange judgeOthersWrong)

/-- 'witanlaw21.DealMakes': WHATEVER THE INPUT: true; the input reads as it did. -/
def dealMakesSpec : ChangeSpec := { name := "dealMakes", fn := fun _ => fun
  | [d1, d2, d3] => { results := [.lit (.bool true)], args := [d1, d2, d3] }
  | _ => none }
def dealMakesRow : OpenClaim := { program := "ytfolpdmbpbbimaagreat", sum := "1162a69f5091cad2abe973a779b6806446c82102da01067d4d0833295a5865a4", func := "witan/witanlaw21.DealMakes", spec := "dealMakes", inPlace := ["math/bits.Sub64", "math/bits.Add64"], apart := false }
def DealMakesSaid : Prop := dealMakesRow.holds Tryz.pinned (OpenSpec.ofChange dealMakesSpec)

/-- ITS FALSE NEIGHBOUR: 'it returns false'. Refute it at one input. -/
def dealMakesWrong : ChangeSpec := { name := "dealMakes", fn := fun _ => fun
  | [d1, d2, d3] => { results := [.lit (.bool false)], args := [d1, d2, d3] }
  | _ => none }
def DealMakesWrongFalsely : Prop := dealMakesRow.holds Tryz.pinned (OpenSpec.ofChange dealMakesWrong)

/-- 'witanlaw21.DealDisputes': WHATEVER THE INPUT: true; the input reads as it did. -/
def dealDisputesSpec : ChangeSpec := { name := "dealDisputes", fn := fun _ => fun
  | [d1, d2, d3, d4] => { results := [.lit (.bool true)], args := [d1, d2, d3, d4] }
  | _ => none }
def dealDisputesRow : OpenClaim := { program := "ytfolpdmbpbbimaagreat", sum := "1162a69f5091cad2abe973a779b6806446c82102da01067d4d0833295a5865a4", func := "witan/witanlaw21.DealDisputes", spec := "dealDisputes", inPlace := ["math/bits.Add64", "math/bits.Sub64"], unfollowed := true, recurses := true, apart := false }
def DealDisputesSaid : Prop := dealDisputesRow.holds Tryz.pinned (OpenSpec.ofChange dealDisputesSpec)

/-- ITS FALSE NEIGHBOUR: 'it returns false'. Refute it at one input. -/
def dealDisputesWrong : ChangeSpec := { name := "dealDisputes", fn := fun _ => fun
  | [d1, d2, d3, d4] => { results := [.lit (.bool false)], args := [d1, d2, d3, d4] }
  | _ => none }
def DealDisputesWrongFalsely : Prop := dealDisputesRow.holds Tryz.pinned (OpenSpec.ofChange dealDisputesWrong)

/-- 'witanlaw21.DealPosts': WHATEVER THE INPUT: true; the input reads as it did. -/
def dealPostsSpec : ChangeSpec := { name := "dealPosts", fn := fun _ => fun
  | [d1, d2, d3, d4, d5] => { results := [.lit (.bool true)], args := [d1, d2, d3, d4, d5] }
  | _ => none }
def dealPostsRow : OpenClaim := { program := "ytfolpdmbpbbimaagreat", sum := "1162a69f5091cad2abe973a779b6806446c82102da01067d4d0833295a5865a4", func := "witan/witanlaw21.DealPosts", spec := "dealPosts", inPlace := ["math/bits.Sub64", "math/bits.Add64"], unfollowed := true, recurses := true, apart := false }
def DealPostsSaid : Prop := dealPostsRow.holds Tryz.pinned (OpenSpec.ofChange dealPostsSpec)

/-- ITS FALSE NEIGHBOUR: 'it returns false'. Refute it at one input. -/
def dealPostsWrong : ChangeSpec := { name := "dealPosts", fn := fun _ => fun
  | [d1, d2, d3, d4, d5] => { results := [.lit (.bool false)], args := [d1, d2, d3, d4, d5] }
  | _ => none }
def DealPostsWrongFalsely : Prop := dealPostsRow.holds Tryz.pinned (OpenSpec.ofChange dealPostsWrong)

/-- 'witanlaw21.DealFits': WHATEVER THE INPUT: true; the input reads as it did. -/
def dealFitsSpec : ChangeSpec := { name := "dealFits", fn := fun _ => fun
  | [d1, d2, d3, d4] => { results := [.lit (.bool true)], args := [d1, d2, d3, d4] }
  | _ => none }
def dealFitsRow : OpenClaim := { program := "ytfolpdmbpbbimaagreat", sum := "1162a69f5091cad2abe973a779b6806446c82102da01067d4d0833295a5865a4", func := "witan/witanlaw21.DealFits", spec := "dealFits", inPlace := ["math/bits.Sub64", "math/bits.Add64"], unfollowed := true, recurses := true, apart := false }
def DealFitsSaid : Prop := dealFitsRow.holds Tryz.pinned (OpenSpec.ofChange dealFitsSpec)

/-- ITS FALSE NEIGHBOUR: 'it returns false'. Refute it at one input. -/
def dealFitsWrong : ChangeSpec := { name := "dealFits", fn := fun _ => fun
  | [d1, d2, d3, d4] => { results := [.lit (.bool false)], args := [d1, d2, d3, d4] }
  | _ => none }
def DealFitsWrongFalsely : Prop := dealFitsRow.holds Tryz.pinned (OpenSpec.ofChange dealFitsWrong)

/- THE SECOND FORM. 'bulk': how many values and letters a reading holds, each counted each time it is reached (what is shared counts as often as it is met; a slice's spare places count too). A statement '..UptoSaid' is the law's where the arguments, and the package variables that the reading takes, are together of bulk at most 1048576: NARROWER than '..Said'. Prove '..Said' where nothing that the law and all that it calls make is longer than what came in: it says more and counts as full. Else prove '..UptoSaid'. A law counts once. -/
mutual
def uptoBulk {H : Type} : DataW H → Nat
  | .lit (.string bytes) => bytes.length + 1
  | .lit _ => 1
  | .nil => 1
  | .ptr d => uptoBulk d + 1
  | .slice elems spare => uptoBulkAll elems + uptoBulkAll spare + 1
  | .agg parts => uptoBulkAll parts + 1
  | .iface _ d => uptoBulk d + 1
  | .map entries => uptoBulkEntries entries + 1
  | .held _ => 1
def uptoBulkAll {H : Type} : List (DataW H) → Nat
  | [] => 0
  | d :: r => uptoBulk d + uptoBulkAll r
def uptoBulkEntries {H : Type} : List (Lit × DataW H) → Nat
  | [] => 0
  | x :: r => uptoBulkEntry x + uptoBulkEntries r
def uptoBulkEntry {H : Type} : Lit × DataW H → Nat
  | (.string bytes, d) => bytes.length + uptoBulk d + 1
  | (_, d) => uptoBulk d + 1
 end
def uptoSmall : (H : Type) → List (DataW H) → Bool := fun _ ds => decide (uptoBulkAll ds ≤ 1048576)
def OpenSpec.upto (s : _root_.Go.ChangeSpec) : _root_.Go.OpenSpec := { _root_.Go.OpenSpec.ofChange s with cond := some uptoSmall }

/-- 'witanlaw12.ActReads', WHERE WHAT IT READS IS OF BULK AT MOST 1048576: true; the input reads as it did. -/
def actReadsUptoRow : OpenClaim := { program := "ytfolpdmbpbbimaagreat", sum := "1162a69f5091cad2abe973a779b6806446c82102da01067d4d0833295a5865a4", func := "witan/witanlaw12.ActReads", spec := "actReads", inPlace := ["math/bits.Sub64", "math/bits.Add64"], apart := false, narrowed := true }
def ActReadsUptoSaid : Prop := actReadsUptoRow.holds Tryz.pinned (OpenSpec.upto actReadsSpec)

/-- 'witanlaw14.JudgeExact', WHERE WHAT IT READS IS OF BULK AT MOST 1048576: true; the input reads as it did. -/
def judgeExactUptoRow : OpenClaim := { program := "ytfolpdmbpbbimaagreat", sum := "1162a69f5091cad2abe973a779b6806446c82102da01067d4d0833295a5865a4", func := "witan/witanlaw14.JudgeExact", spec := "judgeExact", inPlace := ["math/bits.Sub64", "math/bits.Add64"], apart := false, narrowed := true }
def JudgeExactUptoSaid : Prop := judgeExactUptoRow.holds Tryz.pinned (OpenSpec.upto judgeExactSpec)

/-- 'witanlaw14.JudgeTrue', WHERE WHAT IT READS IS OF BULK AT MOST 1048576: true; the input reads as it did. -/
def judgeTrueUptoRow : OpenClaim := { program := "ytfolpdmbpbbimaagreat", sum := "1162a69f5091cad2abe973a779b6806446c82102da01067d4d0833295a5865a4", func := "witan/witanlaw14.JudgeTrue", spec := "judgeTrue", inPlace := ["math/bits.Add64", "math/bits.Sub64"], apart := false, narrowed := true }
def JudgeTrueUptoSaid : Prop := judgeTrueUptoRow.holds Tryz.pinned (OpenSpec.upto judgeTrueSpec)

/-- 'witanlaw14.JudgeFalse', WHERE WHAT IT READS IS OF BULK AT MOST 1048576: true; the input reads as it did. -/
def judgeFalseUptoRow : OpenClaim := { program := "ytfolpdmbpbbimaagreat", sum := "1162a69f5091cad2abe973a779b6806446c82102da01067d4d0833295a5865a4", func := "witan/witanlaw14.JudgeFalse", spec := "judgeFalse", inPlace := ["math/bits.Add64", "math/bits.Sub64"], apart := false, narrowed := true }
def JudgeFalseUptoSaid : Prop := judgeFalseUptoRow.holds Tryz.pinned (OpenSpec.upto judgeFalseSpec)

/-- 'witanlaw14.JudgeOthers', WHERE WHAT IT READS IS OF BULK AT MOST 1048576: true; the input reads as it did. -/
def judgeOthersUptoRow : OpenClaim := { program := "ytfolpdmbpbbimaagreat", sum := "1162a69f5091cad2abe973a779b6806446c82102da01067d4d0833295a5865a4", func := "witan/witanlaw14.JudgeOthers", spec := "judgeOthers", inPlace := ["math/bits.Add64", "math/bits.Sub64"], apart := false, narrowed := true }
def JudgeOthersUptoSaid : Prop := judgeOthersUptoRow.holds Tryz.pinned (OpenSpec.upto judgeOthersSpec)

/-- 'witanlaw21.DealMakes', WHERE WHAT IT READS IS OF BULK AT MOST 1048576: true; the input reads as it did. -/
def dealMakesUptoRow : OpenClaim := { program := "ytfolpdmbpbbimaagreat", sum := "1162a69f5091cad2abe973a779b6806446c82102da01067d4d0833295a5865a4", func := "witan/witanlaw21.DealMakes", spec := "dealMakes", inPlace := ["math/bits.Sub64", "math/bits.Add64"], apart := false, narrowed := true }
def DealMakesUptoSaid : Prop := dealMakesUptoRow.holds Tryz.pinned (OpenSpec.upto dealMakesSpec)

/-- 'witanlaw21.DealDisputes', WHERE WHAT IT READS IS OF BULK AT MOST 1048576: true; the input reads as it did. -/
def dealDisputesUptoRow : OpenClaim := { program := "ytfolpdmbpbbimaagreat", sum := "1162a69f5091cad2abe973a779b6806446c82102da01067d4d0833295a5865a4", func := "witan/witanlaw21.DealDisputes", spec := "dealDisputes", inPlace := ["math/bits.Add64", "math/bits.Sub64"], unfollowed := true, recurses := true, apart := false, narrowed := true }
def DealDisputesUptoSaid : Prop := dealDisputesUptoRow.holds Tryz.pinned (OpenSpec.upto dealDisputesSpec)

/-- 'witanlaw21.DealPosts', WHERE WHAT IT READS IS OF BULK AT MOST 1048576: true; the input reads as it did. -/
def dealPostsUptoRow : OpenClaim := { program := "ytfolpdmbpbbimaagreat", sum := "1162a69f5091cad2abe973a779b6806446c82102da01067d4d0833295a5865a4", func := "witan/witanlaw21.DealPosts", spec := "dealPosts", inPlace := ["math/bits.Sub64", "math/bits.Add64"], unfollowed := true, recurses := true, apart := false, narrowed := true }
def DealPostsUptoSaid : Prop := dealPostsUptoRow.holds Tryz.pinned (OpenSpec.upto dealPostsSpec)

/-- 'witanlaw21.DealFits', WHERE WHAT IT READS IS OF BULK AT MOST 1048576: true; the input reads as it did. -/
def dealFitsUptoRow : OpenClaim := { program := "ytfolpdmbpbbimaagreat", sum := "1162a69f5091cad2abe973a779b6806446c82102da01067d4d0833295a5865a4", func := "witan/witanlaw21.DealFits", spec := "dealFits", inPlace := ["math/bits.Sub64", "math/bits.Add64"], unfollowed := true, recurses := true, apart := false, narrowed := true }
def DealFitsUptoSaid : Prop := dealFitsUptoRow.holds Tryz.pinned (OpenSpec.upto dealFitsSpec)

end Rows
end Go.Proofs.YtfolpdmbpbbimaaGreat
