/-
  DERIVED. GIVEN WITH THE SEED: THE CARDS: each row of YtajjgfiojlagmaaDoorRows.lean that lists a variable, with what it lists TIED to the program's text (the seventh form; the later family's looks); each row that meets fmt, with fmt's text TOLD by the authors' own Lean function (tested against real Go, not proved from fmt's source: count such statements apart). THE CARD IS WHAT COUNTS. Prove the row's statement (the work); the ties are given (YtajjgfiojlagmaaDoorTie.lean); close each card by the builder's one call (the guide's Derived/Test/ToyasCard.lean, 'card_holds'). Laid BY PROGRAM, IN A SANDBOX (cutbox-door.mjs). By AI agents, Wed Nov 11 2026. No macro, syntax, notation, axiom, sorry.
-/
import Derived.Test.YtajjgfiojlagmaaDoorRows
import GoSem.ClaimSeven
namespace Go.Proofs.YtajjgfiojlagmaaDoor
namespace Rows

/-- THE TIED CARD OF 'censuslaw06.DimacsBack'. -/
def dimacsBackCard : Claim7 := { stood := { row := dimacsBackRow, standIns := [], harness := (true, "a8d98504709033b7adcbe15fd8641ea683ed5718b7c7a3ed62c214c61bb08bf5"), looks := false }, kinds := [], alts := [], laidByText := true, laidKinds := [.data, .data, .data, .data, .pinned], laidTests := true, laidLooks := .later }
def DimacsBackCardSaid : Prop := Claim7.holds Tryd.pinned (.plain (OpenSpec.ofChange dimacsBackSpec)) dimacsBackCard

/-- THE TIED CARD OF 'censuslaw06.DimacsOne'. -/
def dimacsOneCard : Claim7 := { stood := { row := dimacsOneRow, standIns := [], harness := (true, "a8d98504709033b7adcbe15fd8641ea683ed5718b7c7a3ed62c214c61bb08bf5"), looks := false }, kinds := [], alts := [], laidByText := true, laidKinds := [.data, .data, .data, .data, .pinned], laidTests := true, laidLooks := .later }
def DimacsOneCardSaid : Prop := Claim7.holds Tryd.pinned (.plain (OpenSpec.ofChange dimacsOneSpec)) dimacsOneCard

/-- THE TIED CARD OF 'censuslaw06.DimacsKnown'. -/
def dimacsKnownCard : Claim7 := { stood := { row := dimacsKnownRow, standIns := [], harness := (true, "a8d98504709033b7adcbe15fd8641ea683ed5718b7c7a3ed62c214c61bb08bf5"), looks := false }, kinds := [], alts := [], laidByText := true, laidKinds := [.data, .data, .data, .data, .pinned], laidTests := true, laidLooks := .later }
def DimacsKnownCardSaid : Prop := Claim7.holds Tryd.pinned (.plain (OpenSpec.ofChange dimacsKnownSpec)) dimacsKnownCard

/-- THE SECOND FORM's CARD OF 'censuslaw06.DimacsBack'. -/
def dimacsBackUptoCard : Claim7 := { stood := { row := dimacsBackUptoRow, standIns := [], harness := (true, "a8d98504709033b7adcbe15fd8641ea683ed5718b7c7a3ed62c214c61bb08bf5"), looks := false }, kinds := [], alts := [], laidByText := true, laidKinds := [.data, .data, .data, .data, .pinned], laidTests := true, laidLooks := .later }
def DimacsBackUptoCardSaid : Prop := Claim7.holds Tryd.pinned (.plain (OpenSpec.upto dimacsBackSpec)) dimacsBackUptoCard

/-- THE SECOND FORM's CARD OF 'censuslaw06.DimacsOne'. -/
def dimacsOneUptoCard : Claim7 := { stood := { row := dimacsOneUptoRow, standIns := [], harness := (true, "a8d98504709033b7adcbe15fd8641ea683ed5718b7c7a3ed62c214c61bb08bf5"), looks := false }, kinds := [], alts := [], laidByText := true, laidKinds := [.data, .data, .data, .data, .pinned], laidTests := true, laidLooks := .later }
def DimacsOneUptoCardSaid : Prop := Claim7.holds Tryd.pinned (.plain (OpenSpec.upto dimacsOneSpec)) dimacsOneUptoCard

/-- THE SECOND FORM's CARD OF 'censuslaw06.DimacsKnown'. -/
def dimacsKnownUptoCard : Claim7 := { stood := { row := dimacsKnownUptoRow, standIns := [], harness := (true, "a8d98504709033b7adcbe15fd8641ea683ed5718b7c7a3ed62c214c61bb08bf5"), looks := false }, kinds := [], alts := [], laidByText := true, laidKinds := [.data, .data, .data, .data, .pinned], laidTests := true, laidLooks := .later }
def DimacsKnownUptoCardSaid : Prop := Claim7.holds Tryd.pinned (.plain (OpenSpec.upto dimacsKnownSpec)) dimacsKnownUptoCard
end Rows
end Go.Proofs.YtajjgfiojlagmaaDoor
