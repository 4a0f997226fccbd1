/-
  No cell of these rows narrows 'for every input' (looked for: loops, veiled, ifaces, maps, wideKeys, modest, calm, conditions, laid).
  DERIVED. THE GIVEN ROWS OF THIS SEAT. 9 by the template 'for every input the law returns true; each argument reads behind the call as it read before'; 0 by the template 'total and deterministic' (their statements: YtdkfeaodgfnhgaaTotals.lean).
  GIVEN WITH THE SEED: the statements are not yours to turn. If you find one false, say at which input.
  Laid BY PROGRAM, IN A SANDBOX (cutbox-rows.mjs): the forced cells as the released guide's own fill.sh prints them over the translation c872383f72787401… (all of the seat's roots in one cut). By AI agents, Wed Nov 11 2026. No macro, syntax, notation, axiom, sorry.
-/
import Derived.Test.YtdkfeaodgfnhgaaChecked
import GoSem.Claim
import GoSem.ClaimJoined
import GoSem.ClaimMapViews
import Derived.JoinedTies
import Derived.KernelRfl
namespace Go.Proofs.Ytdkfeaodgfnhgaa
/- THE CELL 'sum', in the pinned program and in every row, IS THE sha256 OF THE DUMP (.gsa) THAT YtdkfeaodgfnhgaaProg.lean LOADS. Nothing in Lean hashes anything: it is a label: what it is worth is what the hold of that sum in a sandbox is worth. -/
noncomputable def Try.pinned : Pinned := { name := "ytdkfeaodgfnhgaa", sum := "c872383f727874011529a9c264897db24c58944a2f0d496fb0012fee1fca6e97", checked := Try.checked }
namespace Rows
def none {H : Type} : Left H := { results := [], args := [] }

/-- 'censuslaw01.NatProducts': WHATEVER THE INPUT: true; the input reads as it did. -/
def natProductsSpec : ChangeSpec := { name := "natProducts", fn := fun _ => fun
  | [d1, d2] => { results := [.lit (.bool true)], args := [d1, d2] }
  | _ => none }
def natProductsRow : OpenClaim := { program := "ytdkfeaodgfnhgaa", sum := "c872383f727874011529a9c264897db24c58944a2f0d496fb0012fee1fca6e97", func := "census/censuslaw01.NatProducts", spec := "natProducts", inPlace := ["internal/abi.NoEscape"], apart := false }
def NatProductsSaid : Prop := natProductsRow.holds Try.pinned (OpenSpec.ofChange natProductsSpec)

/-- ITS FALSE NEIGHBOUR: 'it returns false'. Refute it at one input. -/
def natProductsWrong : ChangeSpec := { name := "natProducts", fn := fun _ => fun
  | [d1, d2] => { results := [.lit (.bool false)], args := [d1, d2] }
  | _ => none }
def NatProductsWrongFalsely : Prop := natProductsRow.holds Try.pinned (OpenSpec.ofChange natProductsWrong)

/-- 'censuslaw01.NatReads': WHATEVER THE INPUT: true; the input reads as it did. -/
def natReadsSpec : ChangeSpec := { name := "natReads", fn := fun _ => fun
  | [d] => { results := [.lit (.bool true)], args := [d] }
  | _ => none }
def natReadsRow : OpenClaim := { program := "ytdkfeaodgfnhgaa", sum := "c872383f727874011529a9c264897db24c58944a2f0d496fb0012fee1fca6e97", func := "census/censuslaw01.NatReads", spec := "natReads", inPlace := ["internal/abi.NoEscape"], apart := false }
def NatReadsSaid : Prop := natReadsRow.holds Try.pinned (OpenSpec.ofChange natReadsSpec)

/-- ITS FALSE NEIGHBOUR: 'it returns false'. Refute it at one input. -/
def natReadsWrong : ChangeSpec := { name := "natReads", fn := fun _ => fun
  | [d] => { results := [.lit (.bool false)], args := [d] }
  | _ => none }
def NatReadsWrongFalsely : Prop := natReadsRow.holds Try.pinned (OpenSpec.ofChange natReadsWrong)

/-- 'censuslaw01.NatOf': WHATEVER THE INPUT: true; the input reads as it did. -/
def natOfSpec : ChangeSpec := { name := "natOf", fn := fun _ => fun
  | [d1, d2, d3] => { results := [.lit (.bool true)], args := [d1, d2, d3] }
  | _ => none }
def natOfRow : OpenClaim := { program := "ytdkfeaodgfnhgaa", sum := "c872383f727874011529a9c264897db24c58944a2f0d496fb0012fee1fca6e97", func := "census/censuslaw01.NatOf", spec := "natOf", inPlace := ["internal/abi.NoEscape"], apart := false }
def NatOfSaid : Prop := natOfRow.holds Try.pinned (OpenSpec.ofChange natOfSpec)

/-- ITS FALSE NEIGHBOUR: 'it returns false'. Refute it at one input. -/
def natOfWrong : ChangeSpec := { name := "natOf", fn := fun _ => fun
  | [d1, d2, d3] => { results := [.lit (.bool false)], args := [d1, d2, d3] }
  | _ => none }
def NatOfWrongFalsely : Prop := natOfRow.holds Try.pinned (OpenSpec.ofChange natOfWrong)

/-- 'censuslaw01.NatDivides': WHATEVER THE INPUT: true; the input reads as it did. -/
def natDividesSpec : ChangeSpec := { name := "natDivides", fn := fun _ => fun
  | [d1, d2, d3] => { results := [.lit (.bool true)], args := [d1, d2, d3] }
  | _ => none }
def natDividesRow : OpenClaim := { program := "ytdkfeaodgfnhgaa", sum := "c872383f727874011529a9c264897db24c58944a2f0d496fb0012fee1fca6e97", func := "census/censuslaw01.NatDivides", spec := "natDivides", inPlace := ["internal/abi.NoEscape"], apart := false }
def NatDividesSaid : Prop := natDividesRow.holds Try.pinned (OpenSpec.ofChange natDividesSpec)

/-- ITS FALSE NEIGHBOUR: 'it returns false'. Refute it at one input. -/
def natDividesWrong : ChangeSpec := { name := "natDivides", fn := fun _ => fun
  | [d1, d2, d3] => { results := [.lit (.bool false)], args := [d1, d2, d3] }
  | _ => none }
def NatDividesWrongFalsely : Prop := natDividesRow.holds Try.pinned (OpenSpec.ofChange natDividesWrong)

/-- 'censuslaw01.NatDivisors': WHATEVER THE INPUT: true; the input reads as it did. -/
def natDivisorsSpec : ChangeSpec := { name := "natDivisors", fn := fun _ => fun
  | [d1, d2, d3] => { results := [.lit (.bool true)], args := [d1, d2, d3] }
  | _ => none }
def natDivisorsRow : OpenClaim := { program := "ytdkfeaodgfnhgaa", sum := "c872383f727874011529a9c264897db24c58944a2f0d496fb0012fee1fca6e97", func := "census/censuslaw01.NatDivisors", spec := "natDivisors", inPlace := ["internal/abi.NoEscape"], apart := false }
def NatDivisorsSaid : Prop := natDivisorsRow.holds Try.pinned (OpenSpec.ofChange natDivisorsSpec)

/-- ITS FALSE NEIGHBOUR: 'it returns false'. Refute it at one input. -/
def natDivisorsWrong : ChangeSpec := { name := "natDivisors", fn := fun _ => fun
  | [d1, d2, d3] => { results := [.lit (.bool false)], args := [d1, d2, d3] }
  | _ => none }
def NatDivisorsWrongFalsely : Prop := natDivisorsRow.holds Try.pinned (OpenSpec.ofChange natDivisorsWrong)

/-- 'censuslaw01.NatTexts': WHATEVER THE INPUT: true; the input reads as it did. -/
def natTextsSpec : ChangeSpec := { name := "natTexts", fn := fun _ => fun
  | [d1, d2] => { results := [.lit (.bool true)], args := [d1, d2] }
  | _ => none }
def natTextsRow : OpenClaim := { program := "ytdkfeaodgfnhgaa", sum := "c872383f727874011529a9c264897db24c58944a2f0d496fb0012fee1fca6e97", func := "census/censuslaw01.NatTexts", spec := "natTexts", inPlace := ["internal/abi.NoEscape"], apart := false }
def NatTextsSaid : Prop := natTextsRow.holds Try.pinned (OpenSpec.ofChange natTextsSpec)

/-- ITS FALSE NEIGHBOUR: 'it returns false'. Refute it at one input. -/
def natTextsWrong : ChangeSpec := { name := "natTexts", fn := fun _ => fun
  | [d1, d2] => { results := [.lit (.bool false)], args := [d1, d2] }
  | _ => none }
def NatTextsWrongFalsely : Prop := natTextsRow.holds Try.pinned (OpenSpec.ofChange natTextsWrong)

/-- 'censuslaw01.NatSums': WHATEVER THE INPUT: true; the input reads as it did. -/
def natSumsSpec : ChangeSpec := { name := "natSums", fn := fun _ => fun
  | [d1, d2] => { results := [.lit (.bool true)], args := [d1, d2] }
  | _ => none }
def natSumsRow : OpenClaim := { program := "ytdkfeaodgfnhgaa", sum := "c872383f727874011529a9c264897db24c58944a2f0d496fb0012fee1fca6e97", func := "census/censuslaw01.NatSums", spec := "natSums", inPlace := ["internal/abi.NoEscape"], apart := false }
def NatSumsSaid : Prop := natSumsRow.holds Try.pinned (OpenSpec.ofChange natSumsSpec)

/-- ITS FALSE NEIGHBOUR: 'it returns false'. Refute it at one input. -/
def natSumsWrong : ChangeSpec := { name := "natSums", fn := fun _ => fun
  | [d1, d2] => { results := [.lit (.bool false)], args := [d1, d2] }
  | _ => none }
def NatSumsWrongFalsely : Prop := natSumsRow.holds Try.pinned (OpenSpec.ofChange natSumsWrong)

/-- 'censuslaw01.NatRings': WHATEVER THE INPUT: true; the input reads as it did. -/
def natRingsSpec : ChangeSpec := { name := "natRings", fn := fun _ => fun
  | [d1, d2, d3] => { results := [.lit (.bool true)], args := [d1, d2, d3] }
  | _ => none }
def natRingsRow : OpenClaim := { program := "ytdkfeaodgfnhgaa", sum := "c872383f727874011529a9c264897db24c58944a2f0d496fb0012fee1fca6e97", func := "census/censuslaw01.NatRings", spec := "natRings", inPlace := ["internal/abi.NoEscape"], apart := false }
def NatRingsSaid : Prop := natRingsRow.holds Try.pinned (OpenSpec.ofChange natRingsSpec)

/-- ITS FALSE NEIGHBOUR: 'it returns false'. Refute it at one input. -/
def natRingsWrong : ChangeSpec := { name := "natRings", fn := fun _ => fun
  | [d1, d2, d3] => { results := [.lit (.bool false)], args := [d1, d2, d3] }
  | _ => none }
def NatRingsWrongFalsely : Prop := natRingsRow.holds Try.pinned (OpenSpec.ofChange natRingsWrong)

/-- 'censuslaw01.NatKnown': WHATEVER THE INPUT: true; the input reads as it did. -/
def natKnownSpec : ChangeSpec := { name := "natKnown", fn := fun _ => fun
  | [] => { results := [.lit (.bool true)], args := [] }
  | _ => none }
def natKnownRow : OpenClaim := { program := "ytdkfeaodgfnhgaa", sum := "c872383f727874011529a9c264897db24c58944a2f0d496fb0012fee1fca6e97", func := "census/censuslaw01.NatKnown", spec := "natKnown", inPlace := ["internal/abi.NoEscape"], apart := false }
def NatKnownSaid : Prop := natKnownRow.holds Try.pinned (OpenSpec.ofChange natKnownSpec)

/-- ITS FALSE NEIGHBOUR: 'it returns false'. Refute it at one input. -/
def natKnownWrong : ChangeSpec := { name := "natKnown", fn := fun _ => fun
  | [] => { results := [.lit (.bool false)], args := [] }
  | _ => none }
def NatKnownWrongFalsely : Prop := natKnownRow.holds Try.pinned (OpenSpec.ofChange natKnownWrong)

/- THE SECOND FORM. 'bulk': how many values and letters a reading holds, each counted each time it is reached (what is shared counts as often as it is met; a slice's spare places count too). A statement '..UptoSaid' is the law's where the arguments, and the package variables that the reading takes, are together of bulk at most 1048576: NARROWER than '..Said'. Prove '..Said' where nothing that the law and all that it calls make is longer than what came in: it says more and counts as full. Else prove '..UptoSaid'. A law counts once. -/
mutual
def uptoBulk {H : Type} : DataW H → Nat
  | .lit (.string bytes) => bytes.length + 1
  | .lit _ => 1
  | .nil => 1
  | .ptr d => uptoBulk d + 1
  | .slice elems spare => uptoBulkAll elems + uptoBulkAll spare + 1
  | .agg parts => uptoBulkAll parts + 1
  | .iface _ d => uptoBulk d + 1
  | .map entries => uptoBulkEntries entries + 1
  | .held _ => 1
def uptoBulkAll {H : Type} : List (DataW H) → Nat
  | [] => 0
  | d :: r => uptoBulk d + uptoBulkAll r
def uptoBulkEntries {H : Type} : List (Lit × DataW H) → Nat
  | [] => 0
  | x :: r => uptoBulkEntry x + uptoBulkEntries r
def uptoBulkEntry {H : Type} : Lit × DataW H → Nat
  | (.string bytes, d) => bytes.length + uptoBulk d + 1
  | (_, d) => uptoBulk d + 1
 end
def uptoSmall : (H : Type) → List (DataW H) → Bool := fun _ ds => decide (uptoBulkAll ds ≤ 1048576)
def OpenSpec.upto (s : _root_.Go.ChangeSpec) : _root_.Go.OpenSpec := { _root_.Go.OpenSpec.ofChange s with cond := some uptoSmall }

/-- 'censuslaw01.NatProducts', WHERE WHAT IT READS IS OF BULK AT MOST 1048576: true; the input reads as it did. -/
def natProductsUptoRow : OpenClaim := { program := "ytdkfeaodgfnhgaa", sum := "c872383f727874011529a9c264897db24c58944a2f0d496fb0012fee1fca6e97", func := "census/censuslaw01.NatProducts", spec := "natProducts", inPlace := ["internal/abi.NoEscape"], apart := false, narrowed := true }
def NatProductsUptoSaid : Prop := natProductsUptoRow.holds Try.pinned (OpenSpec.upto natProductsSpec)

/-- 'censuslaw01.NatReads', WHERE WHAT IT READS IS OF BULK AT MOST 1048576: true; the input reads as it did. -/
def natReadsUptoRow : OpenClaim := { program := "ytdkfeaodgfnhgaa", sum := "c872383f727874011529a9c264897db24c58944a2f0d496fb0012fee1fca6e97", func := "census/censuslaw01.NatReads", spec := "natReads", inPlace := ["internal/abi.NoEscape"], apart := false, narrowed := true }
def NatReadsUptoSaid : Prop := natReadsUptoRow.holds Try.pinned (OpenSpec.upto natReadsSpec)

/-- 'censuslaw01.NatOf', WHERE WHAT IT READS IS OF BULK AT MOST 1048576: true; the input reads as it did. -/
def natOfUptoRow : OpenClaim := { program := "ytdkfeaodgfnhgaa", sum := "c872383f727874011529a9c264897db24c58944a2f0d496fb0012fee1fca6e97", func := "census/censuslaw01.NatOf", spec := "natOf", inPlace := ["internal/abi.NoEscape"], apart := false, narrowed := true }
def NatOfUptoSaid : Prop := natOfUptoRow.holds Try.pinned (OpenSpec.upto natOfSpec)

/-- 'censuslaw01.NatDivides', WHERE WHAT IT READS IS OF BULK AT MOST 1048576: true; the input reads as it did. -/
def natDividesUptoRow : OpenClaim := { program := "ytdkfeaodgfnhgaa", sum := "c872383f727874011529a9c264897db24c58944a2f0d496fb0012fee1fca6e97", func := "census/censuslaw01.NatDivides", spec := "natDivides", inPlace := ["internal/abi.NoEscape"], apart := false, narrowed := true }
def NatDividesUptoSaid : Prop := natDividesUptoRow.holds Try.pinned (OpenSpec.upto natDividesSpec)

/-- 'censuslaw01.NatDivisors', WHERE WHAT IT READS IS OF BULK AT MOST 1048576: true; the input reads as it did. -/
def natDivisorsUptoRow : OpenClaim := { program := "ytdkfeaodgfnhgaa", sum := "c872383f727874011529a9c264897db24c58944a2f0d496fb0012fee1fca6e97", func := "census/censuslaw01.NatDivisors", spec := "natDivisors", inPlace := ["internal/abi.NoEscape"], apart := false, narrowed := true }
def NatDivisorsUptoSaid : Prop := natDivisorsUptoRow.holds Try.pinned (OpenSpec.upto natDivisorsSpec)

/-- 'censuslaw01.NatTexts', WHERE WHAT IT READS IS OF BULK AT MOST 1048576: true; the input reads as it did. -/
def natTextsUptoRow : OpenClaim := { program := "ytdkfeaodgfnhgaa", sum := "c872383f727874011529a9c264897db24c58944a2f0d496fb0012fee1fca6e97", func := "census/censuslaw01.NatTexts", spec := "natTexts", inPlace := ["internal/abi.NoEscape"], apart := false, narrowed := true }
def NatTextsUptoSaid : Prop := natTextsUptoRow.holds Try.pinned (OpenSpec.upto natTextsSpec)

/-- 'censuslaw01.NatSums', WHERE WHAT IT READS IS OF BULK AT MOST 1048576: true; the input reads as it did. -/
def natSumsUptoRow : OpenClaim := { program := "ytdkfeaodgfnhgaa", sum := "c872383f727874011529a9c264897db24c58944a2f0d496fb0012fee1fca6e97", func := "census/censuslaw01.NatSums", spec := "natSums", inPlace := ["internal/abi.NoEscape"], apart := false, narrowed := true }
def NatSumsUptoSaid : Prop := natSumsUptoRow.holds Try.pinned (OpenSpec.upto natSumsSpec)

/-- 'censuslaw01.NatRings', WHERE WHAT IT READS IS OF BULK AT MOST 1048576: true; the input reads as it did. -/
def natRingsUptoRow : OpenClaim := { program := "ytdkfeaodgfnhgaa", sum := "c872383f727874011529a9c264897db24c58944a2f0d496fb0012fee1fca6e97", func := "census/censuslaw01.NatRings", spec := "natRings", inPlace := ["internal/abi.NoEscape"], apart := false, narrowed := true }
def NatRingsUptoSaid : Prop := natRingsUptoRow.holds Try.pinned (OpenSpec.upto natRingsSpec)

/-- 'censuslaw01.NatKnown', WHERE WHAT IT READS IS OF BULK AT MOST 1048576: true; the input reads as it did. -/
def natKnownUptoRow : OpenClaim := { program := "ytdkfeaodgfnhgaa", sum := "c872383f727874011529a9c264897db24c58944a2f0d496fb0012fee1fca6e97", func := "census/censuslaw01.NatKnown", spec := "natKnown", inPlace := ["internal/abi.NoEscape"], apart := false, narrowed := true }
def NatKnownUptoSaid : Prop := natKnownUptoRow.holds Try.pinned (OpenSpec.upto natKnownSpec)

end Rows
end Go.Proofs.Ytdkfeaodgfnhgaa
