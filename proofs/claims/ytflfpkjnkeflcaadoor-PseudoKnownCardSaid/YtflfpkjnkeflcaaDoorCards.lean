/-
  DERIVED. GIVEN WITH THE SEED: THE CARDS: each row of YtflfpkjnkeflcaaDoorRows.lean that lists a variable, with what it lists TIED to the program's text (the seventh form; the later family's looks); each row that meets fmt, with fmt's text TOLD by the authors' own Lean function (tested against real Go, not proved from fmt's source: count such statements apart). THE CARD IS WHAT COUNTS. Prove the row's statement (the work); the ties are given (YtflfpkjnkeflcaaDoorTie.lean); close each card by the builder's one call (the guide's Derived/Test/ToyasCard.lean, 'card_holds'). Laid BY PROGRAM, IN A SANDBOX (cutbox-door.mjs). By AI agents, Wed Nov 11 2026. No macro, syntax, notation, axiom, sorry.
-/
import Derived.Test.YtflfpkjnkeflcaaDoorRows
import GoSem.ClaimSeven
namespace Go.Proofs.YtflfpkjnkeflcaaDoor
namespace Rows

/-- THE TIED CARD OF 'censuslaw09.PseudoSame'. -/
def pseudoSameCard : Claim7 := { stood := { row := pseudoSameRow, standIns := [], harness := (true, "75f8320c8235c5880a188109f48a454b87ffe924da7128987817fef0fdcf5186"), looks := true }, kinds := [], alts := [], laidByText := true, laidKinds := [.data, .data, .data, .sentinel, .sentinel], laidTests := true, laidLooks := .later }
def PseudoSameCardSaid : Prop := Claim7.holds Tryd.pinned (.plain (OpenSpec.ofChange pseudoSameSpec)) pseudoSameCard

/-- THE TIED CARD OF 'censuslaw09.PseudoConditions'. -/
def pseudoConditionsCard : Claim7 := { stood := { row := pseudoConditionsRow, standIns := [], harness := (true, "75f8320c8235c5880a188109f48a454b87ffe924da7128987817fef0fdcf5186"), looks := true }, kinds := [], alts := [], laidByText := true, laidKinds := [.data, .data, .data, .sentinel, .sentinel], laidTests := true, laidLooks := .later }
def PseudoConditionsCardSaid : Prop := Claim7.holds Tryd.pinned (.plain (OpenSpec.ofChange pseudoConditionsSpec)) pseudoConditionsCard

/-- THE TIED CARD OF 'censuslaw09.PseudoMore'. -/
def pseudoMoreCard : Claim7 := { stood := { row := pseudoMoreRow, standIns := [], harness := (true, "75f8320c8235c5880a188109f48a454b87ffe924da7128987817fef0fdcf5186"), looks := true }, kinds := [], alts := [], laidByText := true, laidKinds := [.data, .data, .data, .sentinel, .sentinel], laidTests := true, laidLooks := .later }
def PseudoMoreCardSaid : Prop := Claim7.holds Tryd.pinned (.plain (OpenSpec.ofChange pseudoMoreSpec)) pseudoMoreCard

/-- THE TIED CARD OF 'censuslaw09.PseudoKnown'. -/
def pseudoKnownCard : Claim7 := { stood := { row := pseudoKnownRow, standIns := [], harness := (true, "75f8320c8235c5880a188109f48a454b87ffe924da7128987817fef0fdcf5186"), looks := true }, kinds := [], alts := [], laidByText := true, laidKinds := [.data, .data, .data, .sentinel, .sentinel], laidTests := true, laidLooks := .later }
def PseudoKnownCardSaid : Prop := Claim7.holds Tryd.pinned (.plain (OpenSpec.ofChange pseudoKnownSpec)) pseudoKnownCard

/-- THE SECOND FORM's CARD OF 'censuslaw09.PseudoSame'. -/
def pseudoSameUptoCard : Claim7 := { stood := { row := pseudoSameUptoRow, standIns := [], harness := (true, "75f8320c8235c5880a188109f48a454b87ffe924da7128987817fef0fdcf5186"), looks := true }, kinds := [], alts := [], laidByText := true, laidKinds := [.data, .data, .data, .sentinel, .sentinel], laidTests := true, laidLooks := .later }
def PseudoSameUptoCardSaid : Prop := Claim7.holds Tryd.pinned (.plain (OpenSpec.upto pseudoSameSpec)) pseudoSameUptoCard

/-- THE SECOND FORM's CARD OF 'censuslaw09.PseudoConditions'. -/
def pseudoConditionsUptoCard : Claim7 := { stood := { row := pseudoConditionsUptoRow, standIns := [], harness := (true, "75f8320c8235c5880a188109f48a454b87ffe924da7128987817fef0fdcf5186"), looks := true }, kinds := [], alts := [], laidByText := true, laidKinds := [.data, .data, .data, .sentinel, .sentinel], laidTests := true, laidLooks := .later }
def PseudoConditionsUptoCardSaid : Prop := Claim7.holds Tryd.pinned (.plain (OpenSpec.upto pseudoConditionsSpec)) pseudoConditionsUptoCard

/-- THE SECOND FORM's CARD OF 'censuslaw09.PseudoMore'. -/
def pseudoMoreUptoCard : Claim7 := { stood := { row := pseudoMoreUptoRow, standIns := [], harness := (true, "75f8320c8235c5880a188109f48a454b87ffe924da7128987817fef0fdcf5186"), looks := true }, kinds := [], alts := [], laidByText := true, laidKinds := [.data, .data, .data, .sentinel, .sentinel], laidTests := true, laidLooks := .later }
def PseudoMoreUptoCardSaid : Prop := Claim7.holds Tryd.pinned (.plain (OpenSpec.upto pseudoMoreSpec)) pseudoMoreUptoCard

/-- THE SECOND FORM's CARD OF 'censuslaw09.PseudoKnown'. -/
def pseudoKnownUptoCard : Claim7 := { stood := { row := pseudoKnownUptoRow, standIns := [], harness := (true, "75f8320c8235c5880a188109f48a454b87ffe924da7128987817fef0fdcf5186"), looks := true }, kinds := [], alts := [], laidByText := true, laidKinds := [.data, .data, .data, .sentinel, .sentinel], laidTests := true, laidLooks := .later }
def PseudoKnownUptoCardSaid : Prop := Claim7.holds Tryd.pinned (.plain (OpenSpec.upto pseudoKnownSpec)) pseudoKnownUptoCard
end Rows
end Go.Proofs.YtflfpkjnkeflcaaDoor
