/-
  No cell of these rows narrows 'for every input' (looked for: loops, veiled, ifaces, maps, wideKeys, modest, calm, conditions, laid).
  DERIVED. THE GIVEN ROWS OF THIS SEAT. 6 by the template 'for every input the law returns true; each argument reads behind the call as it read before'; 0 by the template 'total and deterministic' (their statements: YtbacloneddnaeaaTotals.lean).
  GIVEN WITH THE SEED: the statements are not yours to turn. If you find one false, say at which input.
  Laid BY PROGRAM, IN A SANDBOX (cutbox-rows.mjs): the forced cells as the released guide's own fill.sh prints them over the translation d0f4579637a41cd2… (all of the seat's roots in one cut). By AI agents, Wed Nov 11 2026. No macro, syntax, notation, axiom, sorry.
-/
import Derived.Test.YtbacloneddnaeaaChecked
import GoSem.Claim
import GoSem.ClaimJoined
import GoSem.ClaimMapViews
import Derived.JoinedTies
import Derived.KernelRfl
namespace Go.Proofs.Ytbacloneddnaeaa
/- THE CELL 'sum', in the pinned program and in every row, IS THE sha256 OF THE DUMP (.gsa) THAT YtbacloneddnaeaaProg.lean LOADS. Nothing in Lean hashes anything: it is a label: what it is worth is what the hold of that sum in a sandbox is worth. -/
noncomputable def Try.pinned : Pinned := { name := "ytbacloneddnaeaa", sum := "d0f4579637a41cd22e9fe8ddb442f0491b08e0988504fdbe1bf8fc9275544e28", checked := Try.checked }
namespace Rows
def none {H : Type} : Left H := { results := [], args := [] }

/-- 'censuslaw40.BayesChecks': WHATEVER THE INPUT: true; the input reads as it did. -/
def bayesChecksSpec : ChangeSpec := { name := "bayesChecks", fn := fun _ => fun
  | [d] => { results := [.lit (.bool true)], args := [d] }
  | _ => none }
def bayesChecksRow : OpenClaim := { program := "ytbacloneddnaeaa", sum := "d0f4579637a41cd22e9fe8ddb442f0491b08e0988504fdbe1bf8fc9275544e28", func := "census/censuslaw40.BayesChecks", spec := "bayesChecks", inPlace := ["internal/bytealg.IndexByteString", "internal/bytealg.IndexString", "internal/abi.NoEscape"], unfollowed := true, recurses := true, named := ["internal/bytealg.MaxLen"], apart := false }
def BayesChecksSaid : Prop := bayesChecksRow.holds Try.pinned (OpenSpec.ofChange bayesChecksSpec)

/-- ITS FALSE NEIGHBOUR: 'it returns false'. Refute it at one input. -/
def bayesChecksWrong : ChangeSpec := { name := "bayesChecks", fn := fun _ => fun
  | [d] => { results := [.lit (.bool false)], args := [d] }
  | _ => none }
def BayesChecksWrongFalsely : Prop := bayesChecksRow.holds Try.pinned (OpenSpec.ofChange bayesChecksWrong)

/-- 'censuslaw40.BayesJoints': WHATEVER THE INPUT: true; the input reads as it did. -/
def bayesJointsSpec : ChangeSpec := { name := "bayesJoints", fn := fun _ => fun
  | [d1, d2] => { results := [.lit (.bool true)], args := [d1, d2] }
  | _ => none }
def bayesJointsRow : OpenClaim := { program := "ytbacloneddnaeaa", sum := "d0f4579637a41cd22e9fe8ddb442f0491b08e0988504fdbe1bf8fc9275544e28", func := "census/censuslaw40.BayesJoints", spec := "bayesJoints", inPlace := ["internal/bytealg.IndexByteString", "internal/bytealg.IndexString", "internal/abi.NoEscape"], unfollowed := true, recurses := true, named := ["internal/bytealg.MaxLen"], apart := false }
def BayesJointsSaid : Prop := bayesJointsRow.holds Try.pinned (OpenSpec.ofChange bayesJointsSpec)

/-- ITS FALSE NEIGHBOUR: 'it returns false'. Refute it at one input. -/
def bayesJointsWrong : ChangeSpec := { name := "bayesJoints", fn := fun _ => fun
  | [d1, d2] => { results := [.lit (.bool false)], args := [d1, d2] }
  | _ => none }
def BayesJointsWrongFalsely : Prop := bayesJointsRow.holds Try.pinned (OpenSpec.ofChange bayesJointsWrong)

/-- 'censuslaw40.BayesEncodes': WHATEVER THE INPUT: true; the input reads as it did. -/
def bayesEncodesSpec : ChangeSpec := { name := "bayesEncodes", fn := fun _ => fun
  | [d] => { results := [.lit (.bool true)], args := [d] }
  | _ => none }
def bayesEncodesRow : OpenClaim := { program := "ytbacloneddnaeaa", sum := "d0f4579637a41cd22e9fe8ddb442f0491b08e0988504fdbe1bf8fc9275544e28", func := "census/censuslaw40.BayesEncodes", spec := "bayesEncodes", inPlace := ["internal/bytealg.IndexByteString", "internal/bytealg.IndexString", "internal/abi.NoEscape"], unfollowed := true, recurses := true, named := ["internal/bytealg.MaxLen"], apart := false }
def BayesEncodesSaid : Prop := bayesEncodesRow.holds Try.pinned (OpenSpec.ofChange bayesEncodesSpec)

/-- ITS FALSE NEIGHBOUR: 'it returns false'. Refute it at one input. -/
def bayesEncodesWrong : ChangeSpec := { name := "bayesEncodes", fn := fun _ => fun
  | [d] => { results := [.lit (.bool false)], args := [d] }
  | _ => none }
def BayesEncodesWrongFalsely : Prop := bayesEncodesRow.holds Try.pinned (OpenSpec.ofChange bayesEncodesWrong)

/-- 'censuslaw40.BayesModels': WHATEVER THE INPUT: true; the input reads as it did. -/
def bayesModelsSpec : ChangeSpec := { name := "bayesModels", fn := fun _ => fun
  | [d1, d2, d3] => { results := [.lit (.bool true)], args := [d1, d2, d3] }
  | _ => none }
def bayesModelsRow : OpenClaim := { program := "ytbacloneddnaeaa", sum := "d0f4579637a41cd22e9fe8ddb442f0491b08e0988504fdbe1bf8fc9275544e28", func := "census/censuslaw40.BayesModels", spec := "bayesModels", inPlace := ["internal/bytealg.IndexByteString", "internal/bytealg.IndexString", "internal/abi.NoEscape"], unfollowed := true, recurses := true, named := ["internal/bytealg.MaxLen"], apart := false }
def BayesModelsSaid : Prop := bayesModelsRow.holds Try.pinned (OpenSpec.ofChange bayesModelsSpec)

/-- ITS FALSE NEIGHBOUR: 'it returns false'. Refute it at one input. -/
def bayesModelsWrong : ChangeSpec := { name := "bayesModels", fn := fun _ => fun
  | [d1, d2, d3] => { results := [.lit (.bool false)], args := [d1, d2, d3] }
  | _ => none }
def BayesModelsWrongFalsely : Prop := bayesModelsRow.holds Try.pinned (OpenSpec.ofChange bayesModelsWrong)

/-- 'censuslaw40.BayesAdds': WHATEVER THE INPUT: true; the input reads as it did. -/
def bayesAddsSpec : ChangeSpec := { name := "bayesAdds", fn := fun _ => fun
  | [d1, d2, d3] => { results := [.lit (.bool true)], args := [d1, d2, d3] }
  | _ => none }
def bayesAddsRow : OpenClaim := { program := "ytbacloneddnaeaa", sum := "d0f4579637a41cd22e9fe8ddb442f0491b08e0988504fdbe1bf8fc9275544e28", func := "census/censuslaw40.BayesAdds", spec := "bayesAdds", inPlace := ["internal/bytealg.IndexByteString", "internal/bytealg.IndexString", "internal/abi.NoEscape"], unfollowed := true, recurses := true, named := ["internal/bytealg.MaxLen"], apart := false }
def BayesAddsSaid : Prop := bayesAddsRow.holds Try.pinned (OpenSpec.ofChange bayesAddsSpec)

/-- ITS FALSE NEIGHBOUR: 'it returns false'. Refute it at one input. -/
def bayesAddsWrong : ChangeSpec := { name := "bayesAdds", fn := fun _ => fun
  | [d1, d2, d3] => { results := [.lit (.bool false)], args := [d1, d2, d3] }
  | _ => none }
def BayesAddsWrongFalsely : Prop := bayesAddsRow.holds Try.pinned (OpenSpec.ofChange bayesAddsWrong)

/-- 'censuslaw40.BayesKnown': WHATEVER THE INPUT: true; the input reads as it did. -/
def bayesKnownSpec : ChangeSpec := { name := "bayesKnown", fn := fun _ => fun
  | [] => { results := [.lit (.bool true)], args := [] }
  | _ => none }
def bayesKnownRow : OpenClaim := { program := "ytbacloneddnaeaa", sum := "d0f4579637a41cd22e9fe8ddb442f0491b08e0988504fdbe1bf8fc9275544e28", func := "census/censuslaw40.BayesKnown", spec := "bayesKnown", inPlace := ["internal/bytealg.IndexByteString", "internal/bytealg.IndexString", "internal/abi.NoEscape"], unfollowed := true, recurses := true, named := ["internal/bytealg.MaxLen"], apart := false }
def BayesKnownSaid : Prop := bayesKnownRow.holds Try.pinned (OpenSpec.ofChange bayesKnownSpec)

/-- ITS FALSE NEIGHBOUR: 'it returns false'. Refute it at one input. -/
def bayesKnownWrong : ChangeSpec := { name := "bayesKnown", fn := fun _ => fun
  | [] => { results := [.lit (.bool false)], args := [] }
  | _ => none }
def BayesKnownWrongFalsely : Prop := bayesKnownRow.holds Try.pinned (OpenSpec.ofChange bayesKnownWrong)

/- THE SECOND FORM. 'bulk': how many values and letters a reading holds, each counted each time it is reached (what is shared counts as often as it is met; a slice's spare places count too). A statement '..UptoSaid' is the law's where the arguments, and the package variables that the reading takes, are together of bulk at most 1048576: NARROWER than '..Said'. Prove '..Said' where nothing that the law and all that it calls make is longer than what came in: it says more and counts as full. Else prove '..UptoSaid'. A law counts once. -/
mutual
def uptoBulk {H : Type} : DataW H → Nat
  | .lit (.string bytes) => bytes.length + 1
  | .lit _ => 1
  | .nil => 1
  | .ptr d => uptoBulk d + 1
  | .slice elems spare => uptoBulkAll elems + uptoBulkAll spare + 1
  | .agg parts => uptoBulkAll parts + 1
  | .iface _ d => uptoBulk d + 1
  | .map entries => uptoBulkEntries entries + 1
  | .held _ => 1
def uptoBulkAll {H : Type} : List (DataW H) → Nat
  | [] => 0
  | d :: r => uptoBulk d + uptoBulkAll r
def uptoBulkEntries {H : Type} : List (Lit × DataW H) → Nat
  | [] => 0
  | x :: r => uptoBulkEntry x + uptoBulkEntries r
def uptoBulkEntry {H : Type} : Lit × DataW H → Nat
  | (.string bytes, d) => bytes.length + uptoBulk d + 1
  | (_, d) => uptoBulk d + 1
 end
def uptoSmall : (H : Type) → List (DataW H) → Bool := fun _ ds => decide (uptoBulkAll ds ≤ 1048576)
def OpenSpec.upto (s : _root_.Go.ChangeSpec) : _root_.Go.OpenSpec := { _root_.Go.OpenSpec.ofChange s with cond := some uptoSmall }

/-- 'censuslaw40.BayesChecks', WHERE WHAT IT READS IS OF BULK AT MOST 1048576: true; the input reads as it did. -/
def bayesChecksUptoRow : OpenClaim := { program := "ytbacloneddnaeaa", sum := "d0f4579637a41cd22e9fe8ddb442f0491b08e0988504fdbe1bf8fc9275544e28", func := "census/censuslaw40.BayesChecks", spec := "bayesChecks", inPlace := ["internal/bytealg.IndexByteString", "internal/bytealg.IndexString", "internal/abi.NoEscape"], unfollowed := true, recurses := true, named := ["internal/bytealg.MaxLen"], apart := false, narrowed := true }
def BayesChecksUptoSaid : Prop := bayesChecksUptoRow.holds Try.pinned (OpenSpec.upto bayesChecksSpec)

/-- 'censuslaw40.BayesJoints', WHERE WHAT IT READS IS OF BULK AT MOST 1048576: true; the input reads as it did. -/
def bayesJointsUptoRow : OpenClaim := { program := "ytbacloneddnaeaa", sum := "d0f4579637a41cd22e9fe8ddb442f0491b08e0988504fdbe1bf8fc9275544e28", func := "census/censuslaw40.BayesJoints", spec := "bayesJoints", inPlace := ["internal/bytealg.IndexByteString", "internal/bytealg.IndexString", "internal/abi.NoEscape"], unfollowed := true, recurses := true, named := ["internal/bytealg.MaxLen"], apart := false, narrowed := true }
def BayesJointsUptoSaid : Prop := bayesJointsUptoRow.holds Try.pinned (OpenSpec.upto bayesJointsSpec)

/-- 'censuslaw40.BayesEncodes', WHERE WHAT IT READS IS OF BULK AT MOST 1048576: true; the input reads as it did. -/
def bayesEncodesUptoRow : OpenClaim := { program := "ytbacloneddnaeaa", sum := "d0f4579637a41cd22e9fe8ddb442f0491b08e0988504fdbe1bf8fc9275544e28", func := "census/censuslaw40.BayesEncodes", spec := "bayesEncodes", inPlace := ["internal/bytealg.IndexByteString", "internal/bytealg.IndexString", "internal/abi.NoEscape"], unfollowed := true, recurses := true, named := ["internal/bytealg.MaxLen"], apart := false, narrowed := true }
def BayesEncodesUptoSaid : Prop := bayesEncodesUptoRow.holds Try.pinned (OpenSpec.upto bayesEncodesSpec)

/-- 'censuslaw40.BayesModels', WHERE WHAT IT READS IS OF BULK AT MOST 1048576: true; the input reads as it did. -/
def bayesModelsUptoRow : OpenClaim := { program := "ytbacloneddnaeaa", sum := "d0f4579637a41cd22e9fe8ddb442f0491b08e0988504fdbe1bf8fc9275544e28", func := "census/censuslaw40.BayesModels", spec := "bayesModels", inPlace := ["internal/bytealg.IndexByteString", "internal/bytealg.IndexString", "internal/abi.NoEscape"], unfollowed := true, recurses := true, named := ["internal/bytealg.MaxLen"], apart := false, narrowed := true }
def BayesModelsUptoSaid : Prop := bayesModelsUptoRow.holds Try.pinned (OpenSpec.upto bayesModelsSpec)

/-- 'censuslaw40.BayesAdds', WHERE WHAT IT READS IS OF BULK AT MOST 1048576: true; the input reads as it did. -/
def bayesAddsUptoRow : OpenClaim := { program := "ytbacloneddnaeaa", sum := "d0f4579637a41cd22e9fe8ddb442f0491b08e0988504fdbe1bf8fc9275544e28", func := "census/censuslaw40.BayesAdds", spec := "bayesAdds", inPlace := ["internal/bytealg.IndexByteString", "internal/bytealg.IndexString", "internal/abi.NoEscape"], unfollowed := true, recurses := true, named := ["internal/bytealg.MaxLen"], apart := false, narrowed := true }
def BayesAddsUptoSaid : Prop := bayesAddsUptoRow.holds Try.pinned (OpenSpec.upto bayesAddsSpec)

/-- 'censuslaw40.BayesKnown', WHERE WHAT IT READS IS OF BULK AT MOST 1048576: true; the input reads as it did. -/
def bayesKnownUptoRow : OpenClaim := { program := "ytbacloneddnaeaa", sum := "d0f4579637a41cd22e9fe8ddb442f0491b08e0988504fdbe1bf8fc9275544e28", func := "census/censuslaw40.BayesKnown", spec := "bayesKnown", inPlace := ["internal/bytealg.IndexByteString", "internal/bytealg.IndexString", "internal/abi.NoEscape"], unfollowed := true, recurses := true, named := ["internal/bytealg.MaxLen"], apart := false, narrowed := true }
def BayesKnownUptoSaid : Prop := bayesKnownUptoRow.holds Try.pinned (OpenSpec.upto bayesKnownSpec)

end Rows
end Go.Proofs.Ytbacloneddnaeaa
