/-
  No cell of these rows narrows 'for every input' (looked for: loops, veiled, ifaces, maps, wideKeys, modest, calm, conditions, laid).
  DERIVED. THE GIVEN ROWS OF THIS SEAT. 11 by the template 'for every input the law returns true; each argument reads behind the call as it read before'; 0 by the template 'total and deterministic' (their statements: YtdobchoiiihfiaaTotals.lean).
  GIVEN WITH THE SEED: the statements are not yours to turn. If you find one false, say at which input.
  Laid BY PROGRAM, IN A SANDBOX (cutbox-rows.mjs): the forced cells as the released guide's own fill.sh prints them over the translation 9ac8ff700ef62467… (all of the seat's roots in one cut). By AI agents, Wed Nov 11 2026. No macro, syntax, notation, axiom, sorry.
-/
import Derived.Test.YtdobchoiiihfiaaChecked
import GoSem.Claim
import GoSem.ClaimJoined
import GoSem.ClaimMapViews
import Derived.JoinedTies
import Derived.KernelRfl
namespace Go.Proofs.Ytdobchoiiihfiaa
/- THE CELL 'sum', in the pinned program and in every row, IS THE sha256 OF THE DUMP (.gsa) THAT YtdobchoiiihfiaaProg.lean LOADS. Nothing in Lean hashes anything: it is a label: what it is worth is what the hold of that sum in a sandbox is worth. -/
noncomputable def Try.pinned : Pinned := { name := "ytdobchoiiihfiaa", sum := "9ac8ff700ef624675599b6b561315d5c2714d30baef70abc40faf154f9dd9352", checked := Try.checked }
namespace Rows
def none {H : Type} : Left H := { results := [], args := [] }

/-- 'witanlaw14.JudgeSeals': WHATEVER THE INPUT: true; the input reads as it did. -/
def judgeSealsSpec : ChangeSpec := { name := "judgeSeals", fn := fun _ => fun
  | [d1, d2] => { results := [.lit (.bool true)], args := [d1, d2] }
  | _ => none }
def judgeSealsRow : OpenClaim := { program := "ytdobchoiiihfiaa", sum := "9ac8ff700ef624675599b6b561315d5c2714d30baef70abc40faf154f9dd9352", func := "witan/witanlaw14.JudgeSeals", spec := "judgeSeals", apart := false }
def JudgeSealsSaid : Prop := judgeSealsRow.holds Try.pinned (OpenSpec.ofChange judgeSealsSpec)

/-- ITS FALSE NEIGHBOUR: 'it returns false'. Refute it at one input. -/
def judgeSealsWrong : ChangeSpec := { name := "judgeSeals", fn := fun _ => fun
  | [d1, d2] => { results := [.lit (.bool false)], args := [d1, d2] }
  | _ => none }
def JudgeSealsWrongFalsely : Prop := judgeSealsRow.holds Try.pinned (OpenSpec.ofChange judgeSealsWrong)

/-- 'witanlaw10.BinOrder': WHATEVER THE INPUT: true; the input reads as it did. -/
def binOrderSpec : ChangeSpec := { name := "binOrder", fn := fun _ => fun
  | [d1, d2, d3] => { results := [.lit (.bool true)], args := [d1, d2, d3] }
  | _ => none }
def binOrderRow : OpenClaim := { program := "ytdobchoiiihfiaa", sum := "9ac8ff700ef624675599b6b561315d5c2714d30baef70abc40faf154f9dd9352", func := "witan/witanlaw10.BinOrder", spec := "binOrder", apart := false }
def BinOrderSaid : Prop := binOrderRow.holds Try.pinned (OpenSpec.ofChange binOrderSpec)

/-- ITS FALSE NEIGHBOUR: 'it returns false'. Refute it at one input. -/
def binOrderWrong : ChangeSpec := { name := "binOrder", fn := fun _ => fun
  | [d1, d2, d3] => { results := [.lit (.bool false)], args := [d1, d2, d3] }
  | _ => none }
def BinOrderWrongFalsely : Prop := binOrderRow.holds Try.pinned (OpenSpec.ofChange binOrderWrong)

/-- 'witanlaw10.BinExact': WHATEVER THE INPUT: true; the input reads as it did. -/
def binExactSpec : ChangeSpec := { name := "binExact", fn := fun _ => fun
  | [d1, d2, d3, d4, d5] => { results := [.lit (.bool true)], args := [d1, d2, d3, d4, d5] }
  | _ => none }
def binExactRow : OpenClaim := { program := "ytdobchoiiihfiaa", sum := "9ac8ff700ef624675599b6b561315d5c2714d30baef70abc40faf154f9dd9352", func := "witan/witanlaw10.BinExact", spec := "binExact", apart := false }
def BinExactSaid : Prop := binExactRow.holds Try.pinned (OpenSpec.ofChange binExactSpec)

/-- ITS FALSE NEIGHBOUR: 'it returns false'. Refute it at one input. -/
def binExactWrong : ChangeSpec := { name := "binExact", fn := fun _ => fun
  | [d1, d2, d3, d4, d5] => { results := [.lit (.bool false)], args := [d1, d2, d3, d4, d5] }
  | _ => none }
def BinExactWrongFalsely : Prop := binExactRow.holds Try.pinned (OpenSpec.ofChange binExactWrong)

/-- 'witanlaw10.BinBack': WHATEVER THE INPUT: true; the input reads as it did. -/
def binBackSpec : ChangeSpec := { name := "binBack", fn := fun _ => fun
  | [d1, d2, d3] => { results := [.lit (.bool true)], args := [d1, d2, d3] }
  | _ => none }
def binBackRow : OpenClaim := { program := "ytdobchoiiihfiaa", sum := "9ac8ff700ef624675599b6b561315d5c2714d30baef70abc40faf154f9dd9352", func := "witan/witanlaw10.BinBack", spec := "binBack", apart := false }
def BinBackSaid : Prop := binBackRow.holds Try.pinned (OpenSpec.ofChange binBackSpec)

/-- ITS FALSE NEIGHBOUR: 'it returns false'. Refute it at one input. -/
def binBackWrong : ChangeSpec := { name := "binBack", fn := fun _ => fun
  | [d1, d2, d3] => { results := [.lit (.bool false)], args := [d1, d2, d3] }
  | _ => none }
def BinBackWrongFalsely : Prop := binBackRow.holds Try.pinned (OpenSpec.ofChange binBackWrong)

/-- 'witanlaw10.BinEnds': WHATEVER THE INPUT: true; the input reads as it did. -/
def binEndsSpec : ChangeSpec := { name := "binEnds", fn := fun _ => fun
  | [d1, d2, d3] => { results := [.lit (.bool true)], args := [d1, d2, d3] }
  | _ => none }
def binEndsRow : OpenClaim := { program := "ytdobchoiiihfiaa", sum := "9ac8ff700ef624675599b6b561315d5c2714d30baef70abc40faf154f9dd9352", func := "witan/witanlaw10.BinEnds", spec := "binEnds", apart := false }
def BinEndsSaid : Prop := binEndsRow.holds Try.pinned (OpenSpec.ofChange binEndsSpec)

/-- ITS FALSE NEIGHBOUR: 'it returns false'. Refute it at one input. -/
def binEndsWrong : ChangeSpec := { name := "binEnds", fn := fun _ => fun
  | [d1, d2, d3] => { results := [.lit (.bool false)], args := [d1, d2, d3] }
  | _ => none }
def BinEndsWrongFalsely : Prop := binEndsRow.holds Try.pinned (OpenSpec.ofChange binEndsWrong)

/-- 'witanlaw04.ShaLengths': WHATEVER THE INPUT: true; the input reads as it did. -/
def shaLengthsSpec : ChangeSpec := { name := "shaLengths", fn := fun _ => fun
  | [] => { results := [.lit (.bool true)], args := [] }
  | _ => none }
def shaLengthsRow : OpenClaim := { program := "ytdobchoiiihfiaa", sum := "9ac8ff700ef624675599b6b561315d5c2714d30baef70abc40faf154f9dd9352", func := "witan/witanlaw04.ShaLengths", spec := "shaLengths", apart := false }
def ShaLengthsSaid : Prop := shaLengthsRow.holds Try.pinned (OpenSpec.ofChange shaLengthsSpec)

/-- ITS FALSE NEIGHBOUR: 'it returns false'. Refute it at one input. -/
def shaLengthsWrong : ChangeSpec := { name := "shaLengths", fn := fun _ => fun
  | [] => { results := [.lit (.bool false)], args := [] }
  | _ => none }
def ShaLengthsWrongFalsely : Prop := shaLengthsRow.holds Try.pinned (OpenSpec.ofChange shaLengthsWrong)

/-- 'witanlaw04.ShaAlone': WHATEVER THE INPUT: true; the input reads as it did. -/
def shaAloneSpec : ChangeSpec := { name := "shaAlone", fn := fun _ => fun
  | [d1, d2, d3] => { results := [.lit (.bool true)], args := [d1, d2, d3] }
  | _ => none }
def shaAloneRow : OpenClaim := { program := "ytdobchoiiihfiaa", sum := "9ac8ff700ef624675599b6b561315d5c2714d30baef70abc40faf154f9dd9352", func := "witan/witanlaw04.ShaAlone", spec := "shaAlone", apart := false }
def ShaAloneSaid : Prop := shaAloneRow.holds Try.pinned (OpenSpec.ofChange shaAloneSpec)

/-- ITS FALSE NEIGHBOUR: 'it returns false'. Refute it at one input. -/
def shaAloneWrong : ChangeSpec := { name := "shaAlone", fn := fun _ => fun
  | [d1, d2, d3] => { results := [.lit (.bool false)], args := [d1, d2, d3] }
  | _ => none }
def ShaAloneWrongFalsely : Prop := shaAloneRow.holds Try.pinned (OpenSpec.ofChange shaAloneWrong)

/-- 'witanlaw04.ShaChains': WHATEVER THE INPUT: true; the input reads as it did. -/
def shaChainsSpec : ChangeSpec := { name := "shaChains", fn := fun _ => fun
  | [d1, d2] => { results := [.lit (.bool true)], args := [d1, d2] }
  | _ => none }
def shaChainsRow : OpenClaim := { program := "ytdobchoiiihfiaa", sum := "9ac8ff700ef624675599b6b561315d5c2714d30baef70abc40faf154f9dd9352", func := "witan/witanlaw04.ShaChains", spec := "shaChains", apart := false }
def ShaChainsSaid : Prop := shaChainsRow.holds Try.pinned (OpenSpec.ofChange shaChainsSpec)

/-- ITS FALSE NEIGHBOUR: 'it returns false'. Refute it at one input. -/
def shaChainsWrong : ChangeSpec := { name := "shaChains", fn := fun _ => fun
  | [d1, d2] => { results := [.lit (.bool false)], args := [d1, d2] }
  | _ => none }
def ShaChainsWrongFalsely : Prop := shaChainsRow.holds Try.pinned (OpenSpec.ofChange shaChainsWrong)

/-- 'witanlaw04.ShaExact': WHATEVER THE INPUT: true; the input reads as it did. -/
def shaExactSpec : ChangeSpec := { name := "shaExact", fn := fun _ => fun
  | [d1, d2] => { results := [.lit (.bool true)], args := [d1, d2] }
  | _ => none }
def shaExactRow : OpenClaim := { program := "ytdobchoiiihfiaa", sum := "9ac8ff700ef624675599b6b561315d5c2714d30baef70abc40faf154f9dd9352", func := "witan/witanlaw04.ShaExact", spec := "shaExact", apart := false }
def ShaExactSaid : Prop := shaExactRow.holds Try.pinned (OpenSpec.ofChange shaExactSpec)

/-- ITS FALSE NEIGHBOUR: 'it returns false'. Refute it at one input. -/
def shaExactWrong : ChangeSpec := { name := "shaExact", fn := fun _ => fun
  | [d1, d2] => { results := [.lit (.bool false)], args := [d1, d2] }
  | _ => none }
def ShaExactWrongFalsely : Prop := shaExactRow.holds Try.pinned (OpenSpec.ofChange shaExactWrong)

/-- 'witanlaw04.ShaKeys': WHATEVER THE INPUT: true; the input reads as it did. -/
def shaKeysSpec : ChangeSpec := { name := "shaKeys", fn := fun _ => fun
  | [d1, d2, d3] => { results := [.lit (.bool true)], args := [d1, d2, d3] }
  | _ => none }
def shaKeysRow : OpenClaim := { program := "ytdobchoiiihfiaa", sum := "9ac8ff700ef624675599b6b561315d5c2714d30baef70abc40faf154f9dd9352", func := "witan/witanlaw04.ShaKeys", spec := "shaKeys", apart := false }
def ShaKeysSaid : Prop := shaKeysRow.holds Try.pinned (OpenSpec.ofChange shaKeysSpec)

/-- ITS FALSE NEIGHBOUR: 'it returns false'. Refute it at one input. -/
def shaKeysWrong : ChangeSpec := { name := "shaKeys", fn := fun _ => fun
  | [d1, d2, d3] => { results := [.lit (.bool false)], args := [d1, d2, d3] }
  | _ => none }
def ShaKeysWrongFalsely : Prop := shaKeysRow.holds Try.pinned (OpenSpec.ofChange shaKeysWrong)

/-- 'witanlaw04.ShaParts': WHATEVER THE INPUT: true; the input reads as it did. -/
def shaPartsSpec : ChangeSpec := { name := "shaParts", fn := fun _ => fun
  | [d1, d2] => { results := [.lit (.bool true)], args := [d1, d2] }
  | _ => none }
def shaPartsRow : OpenClaim := { program := "ytdobchoiiihfiaa", sum := "9ac8ff700ef624675599b6b561315d5c2714d30baef70abc40faf154f9dd9352", func := "witan/witanlaw04.ShaParts", spec := "shaParts", apart := false }
def ShaPartsSaid : Prop := shaPartsRow.holds Try.pinned (OpenSpec.ofChange shaPartsSpec)

/-- ITS FALSE NEIGHBOUR: 'it returns false'. Refute it at one input. -/
def shaPartsWrong : ChangeSpec := { name := "shaParts", fn := fun _ => fun
  | [d1, d2] => { results := [.lit (.bool false)], args := [d1, d2] }
  | _ => none }
def ShaPartsWrongFalsely : Prop := shaPartsRow.holds Try.pinned (OpenSpec.ofChange shaPartsWrong)

/- THE SECOND FORM. 'bulk': how many values and letters a reading holds, each counted each time it is reached (what is shared counts as often as it is met; a slice's spare places count too). A statement '..UptoSaid' is the law's where the arguments, and the package variables that the reading takes, are together of bulk at most 1048576: NARROWER than '..Said'. Prove '..Said' where nothing that the law and all that it calls make is longer than what came in: it says more and counts as full. Else prove '..UptoSaid'. A law counts once. -/
mutual
def uptoBulk {H : Type} : DataW H → Nat
  | .lit (.string bytes) => bytes.length + 1
  | .lit _ => 1
  | .nil => 1
  | .ptr d => uptoBulk d + 1
  | .slice elems spare => uptoBulkAll elems + uptoBulkAll spare + 1
  | .agg parts => uptoBulkAll parts + 1
  | .iface _ d => uptoBulk d + 1
  | .map entries => uptoBulkEntries entries + 1
  | .held _ => 1
def uptoBulkAll {H : Type} : List (DataW H) → Nat
  | [] => 0
  | d :: r => uptoBulk d + uptoBulkAll r
def uptoBulkEntries {H : Type} : List (Lit × DataW H) → Nat
  | [] => 0
  | x :: r => uptoBulkEntry x + uptoBulkEntries r
def uptoBulkEntry {H : Type} : Lit × DataW H → Nat
  | (.string bytes, d) => bytes.length + uptoBulk d + 1
  | (_, d) => uptoBulk d + 1
 end
def uptoSmall : (H : Type) → List (DataW H) → Bool := fun _ ds => decide (uptoBulkAll ds ≤ 1048576)
def OpenSpec.upto (s : _root_.Go.ChangeSpec) : _root_.Go.OpenSpec := { _root_.Go.OpenSpec.ofChange s with cond := some uptoSmall }

/-- 'witanlaw14.JudgeSeals', WHERE WHAT IT READS IS OF BULK AT MOST 1048576: true; the input reads as it did. -/
def judgeSealsUptoRow : OpenClaim := { program := "ytdobchoiiihfiaa", sum := "9ac8ff700ef624675599b6b561315d5c2714d30baef70abc40faf154f9dd9352", func := "witan/witanlaw14.JudgeSeals", spec := "judgeSeals", apart := false, narrowed := true }
def JudgeSealsUptoSaid : Prop := judgeSealsUptoRow.holds Try.pinned (OpenSpec.upto judgeSealsSpec)

/-- 'witanlaw10.BinOrder', WHERE WHAT IT READS IS OF BULK AT MOST 1048576: true; the input reads as it did. -/
def binOrderUptoRow : OpenClaim := { program := "ytdobchoiiihfiaa", sum := "9ac8ff700ef624675599b6b561315d5c2714d30baef70abc40faf154f9dd9352", func := "witan/witanlaw10.BinOrder", spec := "binOrder", apart := false, narrowed := true }
def BinOrderUptoSaid : Prop := binOrderUptoRow.holds Try.pinned (OpenSpec.upto binOrderSpec)

/-- 'witanlaw10.BinExact', WHERE WHAT IT READS IS OF BULK AT MOST 1048576: true; the input reads as it did. -/
def binExactUptoRow : OpenClaim := { program := "ytdobchoiiihfiaa", sum := "9ac8ff700ef624675599b6b561315d5c2714d30baef70abc40faf154f9dd9352", func := "witan/witanlaw10.BinExact", spec := "binExact", apart := false, narrowed := true }
def BinExactUptoSaid : Prop := binExactUptoRow.holds Try.pinned (OpenSpec.upto binExactSpec)

/-- 'witanlaw10.BinBack', WHERE WHAT IT READS IS OF BULK AT MOST 1048576: true; the input reads as it did. -/
def binBackUptoRow : OpenClaim := { program := "ytdobchoiiihfiaa", sum := "9ac8ff700ef624675599b6b561315d5c2714d30baef70abc40faf154f9dd9352", func := "witan/witanlaw10.BinBack", spec := "binBack", apart := false, narrowed := true }
def BinBackUptoSaid : Prop := binBackUptoRow.holds Try.pinned (OpenSpec.upto binBackSpec)

/-- 'witanlaw10.BinEnds', WHERE WHAT IT READS IS OF BULK AT MOST 1048576: true; the input reads as it did. -/
def binEndsUptoRow : OpenClaim := { program := "ytdobchoiiihfiaa", sum := "9ac8ff700ef624675599b6b561315d5c2714d30baef70abc40faf154f9dd9352", func := "witan/witanlaw10.BinEnds", spec := "binEnds", apart := false, narrowed := true }
def BinEndsUptoSaid : Prop := binEndsUptoRow.holds Try.pinned (OpenSpec.upto binEndsSpec)

/-- 'witanlaw04.ShaLengths', WHERE WHAT IT READS IS OF BULK AT MOST 1048576: true; the input reads as it did. -/
def shaLengthsUptoRow : OpenClaim := { program := "ytdobchoiiihfiaa", sum := "9ac8ff700ef624675599b6b561315d5c2714d30baef70abc40faf154f9dd9352", func := "witan/witanlaw04.ShaLengths", spec := "shaLengths", apart := false, narrowed := true }
def ShaLengthsUptoSaid : Prop := shaLengthsUptoRow.holds Try.pinned (OpenSpec.upto shaLengthsSpec)

/-- 'witanlaw04.ShaAlone', WHERE WHAT IT READS IS OF BULK AT MOST 1048576: true; the input reads as it did. -/
def shaAloneUptoRow : OpenClaim := { program := "ytdobchoiiihfiaa", sum := "9ac8ff700ef624675599b6b561315d5c2714d30baef70abc40faf154f9dd9352", func := "witan/witanlaw04.ShaAlone", spec := "shaAlone", apart := false, narrowed := true }
def ShaAloneUptoSaid : Prop := shaAloneUptoRow.holds Try.pinned (OpenSpec.upto shaAloneSpec)

/-- 'witanlaw04.ShaChains', WHERE WHAT IT READS IS OF BULK AT MOST 1048576: true; the input reads as it did. -/
def shaChainsUptoRow : OpenClaim := { program := "ytdobchoiiihfiaa", sum := "9ac8ff700ef624675599b6b561315d5c2714d30baef70abc40faf154f9dd9352", func := "witan/witanlaw04.ShaChains", spec := "shaChains", apart := false, narrowed := true }
def ShaChainsUptoSaid : Prop := shaChainsUptoRow.holds Try.pinned (OpenSpec.upto shaChainsSpec)

/-- 'witanlaw04.ShaExact', WHERE WHAT IT READS IS OF BULK AT MOST 1048576: true; the input reads as it did. -/
def shaExactUptoRow : OpenClaim := { program := "ytdobchoiiihfiaa", sum := "9ac8ff700ef624675599b6b561315d5c2714d30baef70abc40faf154f9dd9352", func := "witan/witanlaw04.ShaExact", spec := "shaExact", apart := false, narrowed := true }
def ShaExactUptoSaid : Prop := shaExactUptoRow.holds Try.pinned (OpenSpec.upto shaExactSpec)

/-- 'witanlaw04.ShaKeys', WHERE WHAT IT READS IS OF BULK AT MOST 1048576: true; the input reads as it did. -/
def shaKeysUptoRow : OpenClaim := { program := "ytdobchoiiihfiaa", sum := "9ac8ff700ef624675599b6b561315d5c2714d30baef70abc40faf154f9dd9352", func := "witan/witanlaw04.ShaKeys", spec := "shaKeys", apart := false, narrowed := true }
def ShaKeysUptoSaid : Prop := shaKeysUptoRow.holds Try.pinned (OpenSpec.upto shaKeysSpec)

/-- 'witanlaw04.ShaParts', WHERE WHAT IT READS IS OF BULK AT MOST 1048576: true; the input reads as it did. -/
def shaPartsUptoRow : OpenClaim := { program := "ytdobchoiiihfiaa", sum := "9ac8ff700ef624675599b6b561315d5c2714d30baef70abc40faf154f9dd9352", func := "witan/witanlaw04.ShaParts", spec := "shaParts", apart := false, narrowed := true }
def ShaPartsUptoSaid : Prop := shaPartsUptoRow.holds Try.pinned (OpenSpec.upto shaPartsSpec)

end Rows
end Go.Proofs.Ytdobchoiiihfiaa
