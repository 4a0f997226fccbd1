/-
  DERIVED. GIVEN WITH THE SEED: THE CARDS: each row of YtchamkbnapjidaaDoorRows.lean that lists a variable, with what it lists TIED to the program's text (the seventh form; the later family's looks); each row that meets fmt, with fmt's text TOLD by the authors' own Lean function (tested against real Go, not proved from fmt's source: count such statements apart). THE CARD IS WHAT COUNTS. Prove the row's statement (the work); the ties are given (YtchamkbnapjidaaDoorTie.lean); close each card by the builder's one call (the guide's Derived/Test/ToyasCard.lean, 'card_holds'). Laid BY PROGRAM, IN A SANDBOX (cutbox-door.mjs). By AI agents, Wed Nov 11 2026. No macro, syntax, notation, axiom, sorry.
-/
import Derived.Test.YtchamkbnapjidaaDoorRows
import GoSem.ClaimSeven
namespace Go.Proofs.YtchamkbnapjidaaDoor
namespace Rows

/-- THE TIED CARD OF 'censuslaw09.PseudoNormals'. -/
def pseudoNormalsCard : Claim7 := { stood := { row := pseudoNormalsRow, standIns := [], harness := (true, "3ca1605713db3a019be379ab0d7d3ad64c6ac70f361b1922d9fcf6e3cee98ac7"), looks := true }, kinds := [], alts := [], laidByText := true, laidKinds := [.data, .data, .data, .sentinel, .sentinel], laidTests := true, laidLooks := .later }
def PseudoNormalsCardSaid : Prop := Claim7.holds Tryd.pinned (.plain (OpenSpec.ofChange pseudoNormalsSpec)) pseudoNormalsCard

/-- THE TIED CARD OF 'censuslaw09.PseudoGivens'. -/
def pseudoGivensCard : Claim7 := { stood := { row := pseudoGivensRow, standIns := [], harness := (true, "3ca1605713db3a019be379ab0d7d3ad64c6ac70f361b1922d9fcf6e3cee98ac7"), looks := true }, kinds := [], alts := [], laidByText := true, laidKinds := [.data, .data, .data, .sentinel, .sentinel], laidTests := true, laidLooks := .later }
def PseudoGivensCardSaid : Prop := Claim7.holds Tryd.pinned (.plain (OpenSpec.ofChange pseudoGivensSpec)) pseudoGivensCard

/-- THE TIED CARD OF 'censuslaw09.PseudoTexts'. -/
def pseudoTextsCard : Claim7 := { stood := { row := pseudoTextsRow, standIns := [], harness := (true, "3ca1605713db3a019be379ab0d7d3ad64c6ac70f361b1922d9fcf6e3cee98ac7"), looks := true }, kinds := [], alts := [], laidByText := true, laidKinds := [.data, .data, .data, .sentinel, .sentinel], laidTests := true, laidLooks := .later }
def PseudoTextsCardSaid : Prop := Claim7.holds Tryd.pinned (.plain (OpenSpec.ofChange pseudoTextsSpec)) pseudoTextsCard

/-- THE TIED CARD OF 'censuslaw09.PseudoReads'. -/
def pseudoReadsCard : Claim7 := { stood := { row := pseudoReadsRow, standIns := [], harness := (true, "3ca1605713db3a019be379ab0d7d3ad64c6ac70f361b1922d9fcf6e3cee98ac7"), looks := true }, kinds := [], alts := [], laidByText := true, laidKinds := [.data, .data, .data, .sentinel, .sentinel], laidTests := true, laidLooks := .later }
def PseudoReadsCardSaid : Prop := Claim7.holds Tryd.pinned (.plain (OpenSpec.ofChange pseudoReadsSpec)) pseudoReadsCard

/-- THE SECOND FORM's CARD OF 'censuslaw09.PseudoNormals'. -/
def pseudoNormalsUptoCard : Claim7 := { stood := { row := pseudoNormalsUptoRow, standIns := [], harness := (true, "3ca1605713db3a019be379ab0d7d3ad64c6ac70f361b1922d9fcf6e3cee98ac7"), looks := true }, kinds := [], alts := [], laidByText := true, laidKinds := [.data, .data, .data, .sentinel, .sentinel], laidTests := true, laidLooks := .later }
def PseudoNormalsUptoCardSaid : Prop := Claim7.holds Tryd.pinned (.plain (OpenSpec.upto pseudoNormalsSpec)) pseudoNormalsUptoCard

/-- THE SECOND FORM's CARD OF 'censuslaw09.PseudoGivens'. -/
def pseudoGivensUptoCard : Claim7 := { stood := { row := pseudoGivensUptoRow, standIns := [], harness := (true, "3ca1605713db3a019be379ab0d7d3ad64c6ac70f361b1922d9fcf6e3cee98ac7"), looks := true }, kinds := [], alts := [], laidByText := true, laidKinds := [.data, .data, .data, .sentinel, .sentinel], laidTests := true, laidLooks := .later }
def PseudoGivensUptoCardSaid : Prop := Claim7.holds Tryd.pinned (.plain (OpenSpec.upto pseudoGivensSpec)) pseudoGivensUptoCard

/-- THE SECOND FORM's CARD OF 'censuslaw09.PseudoTexts'. -/
def pseudoTextsUptoCard : Claim7 := { stood := { row := pseudoTextsUptoRow, standIns := [], harness := (true, "3ca1605713db3a019be379ab0d7d3ad64c6ac70f361b1922d9fcf6e3cee98ac7"), looks := true }, kinds := [], alts := [], laidByText := true, laidKinds := [.data, .data, .data, .sentinel, .sentinel], laidTests := true, laidLooks := .later }
def PseudoTextsUptoCardSaid : Prop := Claim7.holds Tryd.pinned (.plain (OpenSpec.upto pseudoTextsSpec)) pseudoTextsUptoCard

/-- THE SECOND FORM's CARD OF 'censuslaw09.PseudoReads'. -/
def pseudoReadsUptoCard : Claim7 := { stood := { row := pseudoReadsUptoRow, standIns := [], harness := (true, "3ca1605713db3a019be379ab0d7d3ad64c6ac70f361b1922d9fcf6e3cee98ac7"), looks := true }, kinds := [], alts := [], laidByText := true, laidKinds := [.data, .data, .data, .sentinel, .sentinel], laidTests := true, laidLooks := .later }
def PseudoReadsUptoCardSaid : Prop := Claim7.holds Tryd.pinned (.plain (OpenSpec.upto pseudoReadsSpec)) pseudoReadsUptoCard
end Rows
end Go.Proofs.YtchamkbnapjidaaDoor
