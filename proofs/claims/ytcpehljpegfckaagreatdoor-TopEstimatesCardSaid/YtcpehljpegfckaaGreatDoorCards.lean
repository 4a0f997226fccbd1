/-
  DERIVED. GIVEN WITH THE SEED: THE CARDS: each row of YtcpehljpegfckaaGreatDoorRows.lean that lists a variable, with what it lists TIED to the program's text (the seventh form; the later family's looks); each row that meets fmt, with fmt's text TOLD by the authors' own Lean function (tested against real Go, not proved from fmt's source: count such statements apart). THE CARD IS WHAT COUNTS. Prove the row's statement (the work); the ties are given (YtcpehljpegfckaaGreatDoorTie.lean); close each card by the builder's one call (the guide's Derived/Test/ToyasCard.lean, 'card_holds'). Laid BY PROGRAM, IN A SANDBOX (cutbox-door.mjs). By AI agents, Wed Nov 11 2026. No macro, syntax, notation, axiom, sorry.
-/
import Derived.Test.YtcpehljpegfckaaGreatDoorRows
import GoSem.ClaimSeven
namespace Go.Proofs.YtcpehljpegfckaaGreatDoor
namespace Rows

/-- THE TIED CARD OF 'censustop.TopEstimates'. -/
def topEstimatesCard : Claim7 := { stood := { row := topEstimatesRow, standIns := [], harness := (true, "6275a7e438799c2020bd0ca2463c8c66408f31c750258d1af94d9717a1718f4e"), looks := true }, kinds := [], alts := [], laidByText := true, laidKinds := [.data, .data, .data], laidTests := true, laidLooks := .later }
def TopEstimatesCardSaid : Prop := Claim7.holds Tryz.pinned (.plain (OpenSpec.ofChange topEstimatesSpec)) topEstimatesCard

/-- THE SECOND FORM's CARD OF 'censustop.TopEstimates'. -/
def topEstimatesUptoCard : Claim7 := { stood := { row := topEstimatesUptoRow, standIns := [], harness := (true, "6275a7e438799c2020bd0ca2463c8c66408f31c750258d1af94d9717a1718f4e"), looks := true }, kinds := [], alts := [], laidByText := true, laidKinds := [.data, .data, .data], laidTests := true, laidLooks := .later }
def TopEstimatesUptoCardSaid : Prop := Claim7.holds Tryz.pinned (.plain (OpenSpec.upto topEstimatesSpec)) topEstimatesUptoCard
end Rows
end Go.Proofs.YtcpehljpegfckaaGreatDoor
