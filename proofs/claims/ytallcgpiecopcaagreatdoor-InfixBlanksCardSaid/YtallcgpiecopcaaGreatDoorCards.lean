/-
  DERIVED. GIVEN WITH THE SEED: THE CARDS: each row of YtallcgpiecopcaaGreatDoorRows.lean that lists a variable, with what it lists TIED to the program's text (the seventh form; the later family's looks); each row that meets fmt, with fmt's text TOLD by the authors' own Lean function (tested against real Go, not proved from fmt's source: count such statements apart). THE CARD IS WHAT COUNTS. Prove the row's statement (the work); the ties are given (YtallcgpiecopcaaGreatDoorTie.lean); close each card by the builder's one call (the guide's Derived/Test/ToyasCard.lean, 'card_holds'). Laid BY PROGRAM, IN A SANDBOX (cutbox-door.mjs). By AI agents, Wed Nov 11 2026. No macro, syntax, notation, axiom, sorry.
-/
import Derived.Test.YtallcgpiecopcaaGreatDoorRows
import GoSem.ClaimSeven
namespace Go.Proofs.YtallcgpiecopcaaGreatDoor
namespace Rows

/-- THE TIED CARD OF 'censuslaw08.InfixBlanks'. -/
def infixBlanksCard : Claim7 := { stood := { row := infixBlanksRow, standIns := [], harness := (true, "06812f683c4daad63de442748b3d2e2ccd5fb948bf42649e4626e87f754c3158"), looks := true }, kinds := [], alts := [], laidByText := true, laidKinds := [.data, .data, .data, .data, .sentinel, .sentinel, .pinned], laidTests := true, laidLooks := .later }
def InfixBlanksCardSaid : Prop := Claim7.holds Tryz.pinned (.plain (OpenSpec.ofChange infixBlanksSpec)) infixBlanksCard

/-- THE SECOND FORM's CARD OF 'censuslaw08.InfixBlanks'. -/
def infixBlanksUptoCard : Claim7 := { stood := { row := infixBlanksUptoRow, standIns := [], harness := (true, "06812f683c4daad63de442748b3d2e2ccd5fb948bf42649e4626e87f754c3158"), looks := true }, kinds := [], alts := [], laidByText := true, laidKinds := [.data, .data, .data, .data, .sentinel, .sentinel, .pinned], laidTests := true, laidLooks := .later }
def InfixBlanksUptoCardSaid : Prop := Claim7.holds Tryz.pinned (.plain (OpenSpec.upto infixBlanksSpec)) infixBlanksUptoCard
end Rows
end Go.Proofs.YtallcgpiecopcaaGreatDoor
