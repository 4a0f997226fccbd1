/-
  DERIVED. GIVEN WITH THE SEED: THE CARDS: each row of YtajjgfiojlagmaaGreatDoorRows.lean that lists a variable, with what it lists TIED to the program's text (the seventh form; the later family's looks); each row that meets fmt, with fmt's text TOLD by the authors' own Lean function (tested against real Go, not proved from fmt's source: count such statements apart). THE CARD IS WHAT COUNTS. Prove the row's statement (the work); the ties are given (YtajjgfiojlagmaaGreatDoorTie.lean); close each card by the builder's one call (the guide's Derived/Test/ToyasCard.lean, 'card_holds'). Laid BY PROGRAM, IN A SANDBOX (cutbox-door.mjs). By AI agents, Wed Nov 11 2026. No macro, syntax, notation, axiom, sorry.
-/
import Derived.Test.YtajjgfiojlagmaaGreatDoorRows
import GoSem.ClaimSeven
namespace Go.Proofs.YtajjgfiojlagmaaGreatDoor
namespace Rows

/-- THE TIED CARD OF 'censuslaw06.DimacsPrints'. -/
def dimacsPrintsCard : Claim7 := { stood := { row := dimacsPrintsRow, standIns := [], harness := (true, "372d7921ee2747c6f2c1a954e6668e20c4f500e40acc51a33e91ed2a22f6e8e2"), looks := false }, kinds := [], alts := [], laidByText := true, laidKinds := [.data, .data, .data, .data, .pinned], laidTests := true, laidLooks := .later }
def DimacsPrintsCardSaid : Prop := Claim7.holds Tryz.pinned (.plain (OpenSpec.ofChange dimacsPrintsSpec)) dimacsPrintsCard

/-- THE TIED CARD OF 'censuslaw06.DimacsFull'. -/
def dimacsFullCard : Claim7 := { stood := { row := dimacsFullRow, standIns := [], harness := (true, "372d7921ee2747c6f2c1a954e6668e20c4f500e40acc51a33e91ed2a22f6e8e2"), looks := false }, kinds := [], alts := [], laidByText := true, laidKinds := [.data, .data, .data, .data, .pinned], laidTests := true, laidLooks := .later }
def DimacsFullCardSaid : Prop := Claim7.holds Tryz.pinned (.plain (OpenSpec.ofChange dimacsFullSpec)) dimacsFullCard

/-- THE TIED CARD OF 'censuslaw06.DimacsOwn'. -/
def dimacsOwnCard : Claim7 := { stood := { row := dimacsOwnRow, standIns := [], harness := (true, "372d7921ee2747c6f2c1a954e6668e20c4f500e40acc51a33e91ed2a22f6e8e2"), looks := false }, kinds := [], alts := [], laidByText := true, laidKinds := [.data, .data, .data, .data, .pinned], laidTests := true, laidLooks := .later }
def DimacsOwnCardSaid : Prop := Claim7.holds Tryz.pinned (.plain (OpenSpec.ofChange dimacsOwnSpec)) dimacsOwnCard

/-- THE SECOND FORM's CARD OF 'censuslaw06.DimacsPrints'. -/
def dimacsPrintsUptoCard : Claim7 := { stood := { row := dimacsPrintsUptoRow, standIns := [], harness := (true, "372d7921ee2747c6f2c1a954e6668e20c4f500e40acc51a33e91ed2a22f6e8e2"), looks := false }, kinds := [], alts := [], laidByText := true, laidKinds := [.data, .data, .data, .data, .pinned], laidTests := true, laidLooks := .later }
def DimacsPrintsUptoCardSaid : Prop := Claim7.holds Tryz.pinned (.plain (OpenSpec.upto dimacsPrintsSpec)) dimacsPrintsUptoCard

/-- THE SECOND FORM's CARD OF 'censuslaw06.DimacsFull'. -/
def dimacsFullUptoCard : Claim7 := { stood := { row := dimacsFullUptoRow, standIns := [], harness := (true, "372d7921ee2747c6f2c1a954e6668e20c4f500e40acc51a33e91ed2a22f6e8e2"), looks := false }, kinds := [], alts := [], laidByText := true, laidKinds := [.data, .data, .data, .data, .pinned], laidTests := true, laidLooks := .later }
def DimacsFullUptoCardSaid : Prop := Claim7.holds Tryz.pinned (.plain (OpenSpec.upto dimacsFullSpec)) dimacsFullUptoCard

/-- THE SECOND FORM's CARD OF 'censuslaw06.DimacsOwn'. -/
def dimacsOwnUptoCard : Claim7 := { stood := { row := dimacsOwnUptoRow, standIns := [], harness := (true, "372d7921ee2747c6f2c1a954e6668e20c4f500e40acc51a33e91ed2a22f6e8e2"), looks := false }, kinds := [], alts := [], laidByText := true, laidKinds := [.data, .data, .data, .data, .pinned], laidTests := true, laidLooks := .later }
def DimacsOwnUptoCardSaid : Prop := Claim7.holds Tryz.pinned (.plain (OpenSpec.upto dimacsOwnSpec)) dimacsOwnUptoCard
end Rows
end Go.Proofs.YtajjgfiojlagmaaGreatDoor
