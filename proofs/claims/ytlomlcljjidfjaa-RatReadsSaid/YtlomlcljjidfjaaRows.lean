/-
  No cell of these rows narrows 'for every input' (looked for: loops, veiled, ifaces, maps, wideKeys, modest, calm, conditions, laid).
  DERIVED. THE GIVEN ROWS OF THIS SEAT. 10 by the template 'for every input the law returns true; each argument reads behind the call as it read before'; 0 by the template 'total and deterministic' (their statements: YtlomlcljjidfjaaTotals.lean).
  GIVEN WITH THE SEED: the statements are not yours to turn. If you find one false, say at which input.
  Laid BY PROGRAM, IN A SANDBOX (cutbox-rows.mjs): the forced cells as the released guide's own fill.sh prints them over the translation 155d864055aca1c6… (all of the seat's roots in one cut). By AI agents, Wed Nov 11 2026. No macro, syntax, notation, axiom, sorry.
-/
import Derived.Test.YtlomlcljjidfjaaChecked
import GoSem.Claim
import GoSem.ClaimJoined
import GoSem.ClaimMapViews
import Derived.JoinedTies
import Derived.KernelRfl
namespace Go.Proofs.Ytlomlcljjidfjaa
/- THE CELL 'sum', in the pinned program and in every row, IS THE sha256 OF THE DUMP (.gsa) THAT YtlomlcljjidfjaaProg.lean LOADS. Nothing in Lean hashes anything: it is a label: what it is worth is what the hold of that sum in a sandbox is worth. -/
noncomputable def Try.pinned : Pinned := { name := "ytlomlcljjidfjaa", sum := "155d864055aca1c65d193637768a4a9063851690603f6267bb05e92012c73a94", checked := Try.checked }
namespace Rows
def none {H : Type} : Left H := { results := [], args := [] }

/-- 'censuslaw02.RatField': WHATEVER THE INPUT: true; the input reads as it did. -/
def ratFieldSpec : ChangeSpec := { name := "ratField", fn := fun _ => fun
  | [d1, d2, d3] => { results := [.lit (.bool true)], args := [d1, d2, d3] }
  | _ => none }
def ratFieldRow : OpenClaim := { program := "ytlomlcljjidfjaa", sum := "155d864055aca1c65d193637768a4a9063851690603f6267bb05e92012c73a94", func := "census/censuslaw02.RatField", spec := "ratField", inPlace := ["internal/abi.NoEscape"], unfollowed := true, recurses := true, apart := false }
def RatFieldSaid : Prop := ratFieldRow.holds Try.pinned (OpenSpec.ofChange ratFieldSpec)

/-- ITS FALSE NEIGHBOUR: 'it returns false'. Refute it at one input. -/
def ratFieldWrong : ChangeSpec := { name := "ratField", fn := fun _ => fun
  | [d1, d2, d3] => { results := [.lit (.bool false)], args := [d1, d2, d3] }
  | _ => none }
def RatFieldWrongFalsely : Prop := ratFieldRow.holds Try.pinned (OpenSpec.ofChange ratFieldWrong)

/-- 'censuslaw02.RatNews': WHATEVER THE INPUT: true; the input reads as it did. -/
def ratNewsSpec : ChangeSpec := { name := "ratNews", fn := fun _ => fun
  | [d1, d2, d3, d4] => { results := [.lit (.bool true)], args := [d1, d2, d3, d4] }
  | _ => none }
def ratNewsRow : OpenClaim := { program := "ytlomlcljjidfjaa", sum := "155d864055aca1c65d193637768a4a9063851690603f6267bb05e92012c73a94", func := "census/censuslaw02.RatNews", spec := "ratNews", inPlace := ["internal/abi.NoEscape"], unfollowed := true, recurses := true, apart := false }
def RatNewsSaid : Prop := ratNewsRow.holds Try.pinned (OpenSpec.ofChange ratNewsSpec)

/-- ITS FALSE NEIGHBOUR: 'it returns false'. Refute it at one input. -/
def ratNewsWrong : ChangeSpec := { name := "ratNews", fn := fun _ => fun
  | [d1, d2, d3, d4] => { results := [.lit (.bool false)], args := [d1, d2, d3, d4] }
  | _ => none }
def RatNewsWrongFalsely : Prop := ratNewsRow.holds Try.pinned (OpenSpec.ofChange ratNewsWrong)

/-- 'censuslaw02.RatProducts': WHATEVER THE INPUT: true; the input reads as it did. -/
def ratProductsSpec : ChangeSpec := { name := "ratProducts", fn := fun _ => fun
  | [d1, d2] => { results := [.lit (.bool true)], args := [d1, d2] }
  | _ => none }
def ratProductsRow : OpenClaim := { program := "ytlomlcljjidfjaa", sum := "155d864055aca1c65d193637768a4a9063851690603f6267bb05e92012c73a94", func := "census/censuslaw02.RatProducts", spec := "ratProducts", inPlace := ["internal/abi.NoEscape"], unfollowed := true, recurses := true, apart := false }
def RatProductsSaid : Prop := ratProductsRow.holds Try.pinned (OpenSpec.ofChange ratProductsSpec)

/-- ITS FALSE NEIGHBOUR: 'it returns false'. Refute it at one input. -/
def ratProductsWrong : ChangeSpec := { name := "ratProducts", fn := fun _ => fun
  | [d1, d2] => { results := [.lit (.bool false)], args := [d1, d2] }
  | _ => none }
def RatProductsWrongFalsely : Prop := ratProductsRow.holds Try.pinned (OpenSpec.ofChange ratProductsWrong)

/-- 'censuslaw02.RatUndoes': WHATEVER THE INPUT: true; the input reads as it did. -/
def ratUndoesSpec : ChangeSpec := { name := "ratUndoes", fn := fun _ => fun
  | [d1, d2] => { results := [.lit (.bool true)], args := [d1, d2] }
  | _ => none }
def ratUndoesRow : OpenClaim := { program := "ytlomlcljjidfjaa", sum := "155d864055aca1c65d193637768a4a9063851690603f6267bb05e92012c73a94", func := "census/censuslaw02.RatUndoes", spec := "ratUndoes", inPlace := ["internal/abi.NoEscape"], unfollowed := true, recurses := true, apart := false }
def RatUndoesSaid : Prop := ratUndoesRow.holds Try.pinned (OpenSpec.ofChange ratUndoesSpec)

/-- ITS FALSE NEIGHBOUR: 'it returns false'. Refute it at one input. -/
def ratUndoesWrong : ChangeSpec := { name := "ratUndoes", fn := fun _ => fun
  | [d1, d2] => { results := [.lit (.bool false)], args := [d1, d2] }
  | _ => none }
def RatUndoesWrongFalsely : Prop := ratUndoesRow.holds Try.pinned (OpenSpec.ofChange ratUndoesWrong)

/-- 'censuslaw02.RatOrder': WHATEVER THE INPUT: true; the input reads as it did. -/
def ratOrderSpec : ChangeSpec := { name := "ratOrder", fn := fun _ => fun
  | [d1, d2, d3] => { results := [.lit (.bool true)], args := [d1, d2, d3] }
  | _ => none }
def ratOrderRow : OpenClaim := { program := "ytlomlcljjidfjaa", sum := "155d864055aca1c65d193637768a4a9063851690603f6267bb05e92012c73a94", func := "census/censuslaw02.RatOrder", spec := "ratOrder", inPlace := ["internal/abi.NoEscape"], unfollowed := true, recurses := true, apart := false }
def RatOrderSaid : Prop := ratOrderRow.holds Try.pinned (OpenSpec.ofChange ratOrderSpec)

/-- ITS FALSE NEIGHBOUR: 'it returns false'. Refute it at one input. -/
def ratOrderWrong : ChangeSpec := { name := "ratOrder", fn := fun _ => fun
  | [d1, d2, d3] => { results := [.lit (.bool false)], args := [d1, d2, d3] }
  | _ => none }
def RatOrderWrongFalsely : Prop := ratOrderRow.holds Try.pinned (OpenSpec.ofChange ratOrderWrong)

/-- 'censuslaw02.RatSums': WHATEVER THE INPUT: true; the input reads as it did. -/
def ratSumsSpec : ChangeSpec := { name := "ratSums", fn := fun _ => fun
  | [d1, d2] => { results := [.lit (.bool true)], args := [d1, d2] }
  | _ => none }
def ratSumsRow : OpenClaim := { program := "ytlomlcljjidfjaa", sum := "155d864055aca1c65d193637768a4a9063851690603f6267bb05e92012c73a94", func := "census/censuslaw02.RatSums", spec := "ratSums", inPlace := ["internal/abi.NoEscape"], unfollowed := true, recurses := true, apart := false }
def RatSumsSaid : Prop := ratSumsRow.holds Try.pinned (OpenSpec.ofChange ratSumsSpec)

/-- ITS FALSE NEIGHBOUR: 'it returns false'. Refute it at one input. -/
def ratSumsWrong : ChangeSpec := { name := "ratSums", fn := fun _ => fun
  | [d1, d2] => { results := [.lit (.bool false)], args := [d1, d2] }
  | _ => none }
def RatSumsWrongFalsely : Prop := ratSumsRow.holds Try.pinned (OpenSpec.ofChange ratSumsWrong)

/-- 'censuslaw02.RatZero': WHATEVER THE INPUT: true; the input reads as it did. -/
def ratZeroSpec : ChangeSpec := { name := "ratZero", fn := fun _ => fun
  | [d] => { results := [.lit (.bool true)], args := [d] }
  | _ => none }
def ratZeroRow : OpenClaim := { program := "ytlomlcljjidfjaa", sum := "155d864055aca1c65d193637768a4a9063851690603f6267bb05e92012c73a94", func := "census/censuslaw02.RatZero", spec := "ratZero", inPlace := ["internal/abi.NoEscape"], unfollowed := true, recurses := true, apart := false }
def RatZeroSaid : Prop := ratZeroRow.holds Try.pinned (OpenSpec.ofChange ratZeroSpec)

/-- ITS FALSE NEIGHBOUR: 'it returns false'. Refute it at one input. -/
def ratZeroWrong : ChangeSpec := { name := "ratZero", fn := fun _ => fun
  | [d] => { results := [.lit (.bool false)], args := [d] }
  | _ => none }
def RatZeroWrongFalsely : Prop := ratZeroRow.holds Try.pinned (OpenSpec.ofChange ratZeroWrong)

/-- 'censuslaw02.RatReads': WHATEVER THE INPUT: true; the input reads as it did. -/
def ratReadsSpec : ChangeSpec := { name := "ratReads", fn := fun _ => fun
  | [d] => { results := [.lit (.bool true)], args := [d] }
  | _ => none }
def ratReadsRow : OpenClaim := { program := "ytlomlcljjidfjaa", sum := "155d864055aca1c65d193637768a4a9063851690603f6267bb05e92012c73a94", func := "census/censuslaw02.RatReads", spec := "ratReads", inPlace := ["internal/abi.NoEscape", "internal/bytealg.IndexByteString", "internal/bytealg.IndexString"], unfollowed := true, recurses := true, named := ["internal/bytealg.MaxLen"], apart := false }
def RatReadsSaid : Prop := ratReadsRow.holds Try.pinned (OpenSpec.ofChange ratReadsSpec)

/-- ITS FALSE NEIGHBOUR: 'it returns false'. Refute it at one input. -/
def ratReadsWrong : ChangeSpec := { name := "ratReads", fn := fun _ => fun
  | [d] => { results := [.lit (.bool false)], args := [d] }
  | _ => none }
def RatReadsWrongFalsely : Prop := ratReadsRow.holds Try.pinned (OpenSpec.ofChange ratReadsWrong)

/-- 'censuslaw02.RatTexts': WHATEVER THE INPUT: true; the input reads as it did. -/
def ratTextsSpec : ChangeSpec := { name := "ratTexts", fn := fun _ => fun
  | [d] => { results := [.lit (.bool true)], args := [d] }
  | _ => none }
def ratTextsRow : OpenClaim := { program := "ytlomlcljjidfjaa", sum := "155d864055aca1c65d193637768a4a9063851690603f6267bb05e92012c73a94", func := "census/censuslaw02.RatTexts", spec := "ratTexts", inPlace := ["internal/abi.NoEscape", "internal/bytealg.IndexByteString", "internal/bytealg.IndexString"], unfollowed := true, recurses := true, named := ["internal/bytealg.MaxLen"], apart := false }
def RatTextsSaid : Prop := ratTextsRow.holds Try.pinned (OpenSpec.ofChange ratTextsSpec)

/-- ITS FALSE NEIGHBOUR: 'it returns false'. Refute it at one input. -/
def ratTextsWrong : ChangeSpec := { name := "ratTexts", fn := fun _ => fun
  | [d] => { results := [.lit (.bool false)], args := [d] }
  | _ => none }
def RatTextsWrongFalsely : Prop := ratTextsRow.holds Try.pinned (OpenSpec.ofChange ratTextsWrong)

/-- 'censuslaw02.RatKnown': WHATEVER THE INPUT: true; the input reads as it did. -/
def ratKnownSpec : ChangeSpec := { name := "ratKnown", fn := fun _ => fun
  | [] => { results := [.lit (.bool true)], args := [] }
  | _ => none }
def ratKnownRow : OpenClaim := { program := "ytlomlcljjidfjaa", sum := "155d864055aca1c65d193637768a4a9063851690603f6267bb05e92012c73a94", func := "census/censuslaw02.RatKnown", spec := "ratKnown", inPlace := ["internal/bytealg.IndexByteString", "internal/bytealg.IndexString", "internal/abi.NoEscape"], unfollowed := true, recurses := true, named := ["internal/bytealg.MaxLen"], apart := false }
def RatKnownSaid : Prop := ratKnownRow.holds Try.pinned (OpenSpec.ofChange ratKnownSpec)

/-- ITS FALSE NEIGHBOUR: 'it returns false'. Refute it at one input. -/
def ratKnownWrong : ChangeSpec := { name := "ratKnown", fn := fun _ => fun
  | [] => { results := [.lit (.bool false)], args := [] }
  | _ => none }
def RatKnownWrongFalsely : Prop := ratKnownRow.holds Try.pinned (OpenSpec.ofChange ratKnownWrong)

/- THE SECOND FORM. 'bulk': how many values and letters a reading holds, each counted each time it is reached (what is shared counts as often as it is met; a slice's spare places count too). A statement '..UptoSaid' is the law's where the arguments, and the package variables that the reading takes, are together of bulk at most 1048576: NARROWER than '..Said'. Prove '..Said' where nothing that the law and all that it calls make is longer than what came in: it says more and counts as full. Else prove '..UptoSaid'. A law counts once. -/
mutual
def uptoBulk {H : Type} : DataW H → Nat
  | .lit (.string bytes) => bytes.length + 1
  | .lit _ => 1
  | .nil => 1
  | .ptr d => uptoBulk d + 1
  | .slice elems spare => uptoBulkAll elems + uptoBulkAll spare + 1
  | .agg parts => uptoBulkAll parts + 1
  | .iface _ d => uptoBulk d + 1
  | .map entries => uptoBulkEntries entries + 1
  | .held _ => 1
def uptoBulkAll {H : Type} : List (DataW H) → Nat
  | [] => 0
  | d :: r => uptoBulk d + uptoBulkAll r
def uptoBulkEntries {H : Type} : List (Lit × DataW H) → Nat
  | [] => 0
  | x :: r => uptoBulkEntry x + uptoBulkEntries r
def uptoBulkEntry {H : Type} : Lit × DataW H → Nat
  | (.string bytes, d) => bytes.length + uptoBulk d + 1
  | (_, d) => uptoBulk d + 1
 end
def uptoSmall : (H : Type) → List (DataW H) → Bool := fun _ ds => decide (uptoBulkAll ds ≤ 1048576)
def OpenSpec.upto (s : _root_.Go.ChangeSpec) : _root_.Go.OpenSpec := { _root_.Go.OpenSpec.ofChange s with cond := some uptoSmall }

/-- 'censuslaw02.RatField', WHERE WHAT IT READS IS OF BULK AT MOST 1048576: true; the input reads as it did. -/
def ratFieldUptoRow : OpenClaim := { program := "ytlomlcljjidfjaa", sum := "155d864055aca1c65d193637768a4a9063851690603f6267bb05e92012c73a94", func := "census/censuslaw02.RatField", spec := "ratField", inPlace := ["internal/abi.NoEscape"], unfollowed := true, recurses := true, apart := false, narrowed := true }
def RatFieldUptoSaid : Prop := ratFieldUptoRow.holds Try.pinned (OpenSpec.upto ratFieldSpec)

/-- 'censuslaw02.RatNews', WHERE WHAT IT READS IS OF BULK AT MOST 1048576: true; the input reads as it did. -/
def ratNewsUptoRow : OpenClaim := { program := "ytlomlcljjidfjaa", sum := "155d864055aca1c65d193637768a4a9063851690603f6267bb05e92012c73a94", func := "census/censuslaw02.RatNews", spec := "ratNews", inPlace := ["internal/abi.NoEscape"], unfollowed := true, recurses := true, apart := false, narrowed := true }
def RatNewsUptoSaid : Prop := ratNewsUptoRow.holds Try.pinned (OpenSpec.upto ratNewsSpec)

/-- 'censuslaw02.RatProducts', WHERE WHAT IT READS IS OF BULK AT MOST 1048576: true; the input reads as it did. -/
def ratProductsUptoRow : OpenClaim := { program := "ytlomlcljjidfjaa", sum := "155d864055aca1c65d193637768a4a9063851690603f6267bb05e92012c73a94", func := "census/censuslaw02.RatProducts", spec := "ratProducts", inPlace := ["internal/abi.NoEscape"], unfollowed := true, recurses := true, apart := false, narrowed := true }
def RatProductsUptoSaid : Prop := ratProductsUptoRow.holds Try.pinned (OpenSpec.upto ratProductsSpec)

/-- 'censuslaw02.RatUndoes', WHERE WHAT IT READS IS OF BULK AT MOST 1048576: true; the input reads as it did. -/
def ratUndoesUptoRow : OpenClaim := { program := "ytlomlcljjidfjaa", sum := "155d864055aca1c65d193637768a4a9063851690603f6267bb05e92012c73a94", func := "census/censuslaw02.RatUndoes", spec := "ratUndoes", inPlace := ["internal/abi.NoEscape"], unfollowed := true, recurses := true, apart := false, narrowed := true }
def RatUndoesUptoSaid : Prop := ratUndoesUptoRow.holds Try.pinned (OpenSpec.upto ratUndoesSpec)

/-- 'censuslaw02.RatOrder', WHERE WHAT IT READS IS OF BULK AT MOST 1048576: true; the input reads as it did. -/
def ratOrderUptoRow : OpenClaim := { program := "ytlomlcljjidfjaa", sum := "155d864055aca1c65d193637768a4a9063851690603f6267bb05e92012c73a94", func := "census/censuslaw02.RatOrder", spec := "ratOrder", inPlace := ["internal/abi.NoEscape"], unfollowed := true, recurses := true, apart := false, narrowed := true }
def RatOrderUptoSaid : Prop := ratOrderUptoRow.holds Try.pinned (OpenSpec.upto ratOrderSpec)

/-- 'censuslaw02.RatSums', WHERE WHAT IT READS IS OF BULK AT MOST 1048576: true; the input reads as it did. -/
def ratSumsUptoRow : OpenClaim := { program := "ytlomlcljjidfjaa", sum := "155d864055aca1c65d193637768a4a9063851690603f6267bb05e92012c73a94", func := "census/censuslaw02.RatSums", spec := "ratSums", inPlace := ["internal/abi.NoEscape"], unfollowed := true, recurses := true, apart := false, narrowed := true }
def RatSumsUptoSaid : Prop := ratSumsUptoRow.holds Try.pinned (OpenSpec.upto ratSumsSpec)

/-- 'censuslaw02.RatZero', WHERE WHAT IT READS IS OF BULK AT MOST 1048576: true; the input reads as it did. -/
def ratZeroUptoRow : OpenClaim := { program := "ytlomlcljjidfjaa", sum := "155d864055aca1c65d193637768a4a9063851690603f6267bb05e92012c73a94", func := "census/censuslaw02.RatZero", spec := "ratZero", inPlace := ["internal/abi.NoEscape"], unfollowed := true, recurses := true, apart := false, narrowed := true }
def RatZeroUptoSaid : Prop := ratZeroUptoRow.holds Try.pinned (OpenSpec.upto ratZeroSpec)

/-- 'censuslaw02.RatReads', WHERE WHAT IT READS IS OF BULK AT MOST 1048576: true; the input reads as it did. -/
def ratReadsUptoRow : OpenClaim := { program := "ytlomlcljjidfjaa", sum := "155d864055aca1c65d193637768a4a9063851690603f6267bb05e92012c73a94", func := "census/censuslaw02.RatReads", spec := "ratReads", inPlace := ["internal/abi.NoEscape", "internal/bytealg.IndexByteString", "internal/bytealg.IndexString"], unfollowed := true, recurses := true, named := ["internal/bytealg.MaxLen"], apart := false, narrowed := true }
def RatReadsUptoSaid : Prop := ratReadsUptoRow.holds Try.pinned (OpenSpec.upto ratReadsSpec)

/-- 'censuslaw02.RatTexts', WHERE WHAT IT READS IS OF BULK AT MOST 1048576: true; the input reads as it did. -/
def ratTextsUptoRow : OpenClaim := { program := "ytlomlcljjidfjaa", sum := "155d864055aca1c65d193637768a4a9063851690603f6267bb05e92012c73a94", func := "census/censuslaw02.RatTexts", spec := "ratTexts", inPlace := ["internal/abi.NoEscape", "internal/bytealg.IndexByteString", "internal/bytealg.IndexString"], unfollowed := true, recurses := true, named := ["internal/bytealg.MaxLen"], apart := false, narrowed := true }
def RatTextsUptoSaid : Prop := ratTextsUptoRow.holds Try.pinned (OpenSpec.upto ratTextsSpec)

/-- 'censuslaw02.RatKnown', WHERE WHAT IT READS IS OF BULK AT MOST 1048576: true; the input reads as it did. -/
def ratKnownUptoRow : OpenClaim := { program := "ytlomlcljjidfjaa", sum := "155d864055aca1c65d193637768a4a9063851690603f6267bb05e92012c73a94", func := "census/censuslaw02.RatKnown", spec := "ratKnown", inPlace := ["internal/bytealg.IndexByteString", "internal/bytealg.IndexString", "internal/abi.NoEscape"], unfollowed := true, recurses := true, named := ["internal/bytealg.MaxLen"], apart := false, narrowed := true }
def RatKnownUptoSaid : Prop := ratKnownUptoRow.holds Try.pinned (OpenSpec.upto ratKnownSpec)

end Rows
end Go.Proofs.Ytlomlcljjidfjaa
