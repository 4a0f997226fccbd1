/-
  DERIVED. GIVEN WITH THE SEED: THE CARDS: each row of YtallcgpiecopcaaDoorRows.lean that lists a variable, with what it lists TIED to the program's text (the seventh form; the later family's looks); each row that meets fmt, with fmt's text TOLD by the authors' own Lean function (tested against real Go, not proved from fmt's source: count such statements apart). THE CARD IS WHAT COUNTS. Prove the row's statement (the work); the ties are given (YtallcgpiecopcaaDoorTie.lean); close each card by the builder's one call (the guide's Derived/Test/ToyasCard.lean, 'card_holds'). Laid BY PROGRAM, IN A SANDBOX (cutbox-door.mjs). By AI agents, Wed Nov 11 2026. No macro, syntax, notation, axiom, sorry.
-/
import Derived.Test.YtallcgpiecopcaaDoorRows
import GoSem.ClaimSeven
namespace Go.Proofs.YtallcgpiecopcaaDoor
namespace Rows

/-- THE TIED CARD OF 'censuslaw08.InfixWrites'. -/
def infixWritesCard : Claim7 := { stood := { row := infixWritesRow, standIns := [], harness := (true, "ca124beba38c17b18126751d3ff6a3decc056fd394b364b64c8d75751647f853"), looks := true }, kinds := [], alts := [], laidByText := true, laidKinds := [.data, .data, .data, .sentinel, .sentinel], laidTests := true, laidLooks := .later }
def InfixWritesCardSaid : Prop := Claim7.holds Tryd.pinned (.plain (OpenSpec.ofChange infixWritesSpec)) infixWritesCard

/-- THE TIED CARD OF 'censuslaw08.InfixBack'. -/
def infixBackCard : Claim7 := { stood := { row := infixBackRow, standIns := [], harness := (true, "ca124beba38c17b18126751d3ff6a3decc056fd394b364b64c8d75751647f853"), looks := true }, kinds := [], alts := [], laidByText := true, laidKinds := [.data, .data, .data, .sentinel, .sentinel], laidTests := true, laidLooks := .later }
def InfixBackCardSaid : Prop := Claim7.holds Tryd.pinned (.plain (OpenSpec.ofChange infixBackSpec)) infixBackCard

/-- THE TIED CARD OF 'censuslaw08.InfixAgain'. -/
def infixAgainCard : Claim7 := { stood := { row := infixAgainRow, standIns := [], harness := (true, "ca124beba38c17b18126751d3ff6a3decc056fd394b364b64c8d75751647f853"), looks := true }, kinds := [], alts := [], laidByText := true, laidKinds := [.data, .data, .data, .sentinel, .sentinel], laidTests := true, laidLooks := .later }
def InfixAgainCardSaid : Prop := Claim7.holds Tryd.pinned (.plain (OpenSpec.ofChange infixAgainSpec)) infixAgainCard

/-- THE TIED CARD OF 'censuslaw08.InfixTrue'. -/
def infixTrueCard : Claim7 := { stood := { row := infixTrueRow, standIns := [], harness := (true, "ca124beba38c17b18126751d3ff6a3decc056fd394b364b64c8d75751647f853"), looks := true }, kinds := [], alts := [], laidByText := true, laidKinds := [.data, .data, .data, .sentinel, .sentinel], laidTests := true, laidLooks := .later }
def InfixTrueCardSaid : Prop := Claim7.holds Tryd.pinned (.plain (OpenSpec.ofChange infixTrueSpec)) infixTrueCard

/-- THE TIED CARD OF 'censuslaw08.InfixParens'. -/
def infixParensCard : Claim7 := { stood := { row := infixParensRow, standIns := [], harness := (true, "ca124beba38c17b18126751d3ff6a3decc056fd394b364b64c8d75751647f853"), looks := true }, kinds := [], alts := [], laidByText := true, laidKinds := [.data, .data, .data, .sentinel, .sentinel], laidTests := true, laidLooks := .later }
def InfixParensCardSaid : Prop := Claim7.holds Tryd.pinned (.plain (OpenSpec.ofChange infixParensSpec)) infixParensCard

/-- THE TIED CARD OF 'censuslaw08.InfixOpen'. -/
def infixOpenCard : Claim7 := { stood := { row := infixOpenRow, standIns := [], harness := (true, "ca124beba38c17b18126751d3ff6a3decc056fd394b364b64c8d75751647f853"), looks := true }, kinds := [], alts := [], laidByText := true, laidKinds := [.data, .data, .data, .sentinel, .sentinel], laidTests := true, laidLooks := .later }
def InfixOpenCardSaid : Prop := Claim7.holds Tryd.pinned (.plain (OpenSpec.ofChange infixOpenSpec)) infixOpenCard

/-- THE TIED CARD OF 'censuslaw08.InfixKnown'. -/
def infixKnownCard : Claim7 := { stood := { row := infixKnownRow, standIns := [], harness := (true, "ca124beba38c17b18126751d3ff6a3decc056fd394b364b64c8d75751647f853"), looks := true }, kinds := [], alts := [], laidByText := true, laidKinds := [.data, .data, .data, .sentinel, .sentinel], laidTests := true, laidLooks := .later }
def InfixKnownCardSaid : Prop := Claim7.holds Tryd.pinned (.plain (OpenSpec.ofChange infixKnownSpec)) infixKnownCard

/-- THE SECOND FORM's CARD OF 'censuslaw08.InfixWrites'. -/
def infixWritesUptoCard : Claim7 := { stood := { row := infixWritesUptoRow, standIns := [], harness := (true, "ca124beba38c17b18126751d3ff6a3decc056fd394b364b64c8d75751647f853"), looks := true }, kinds := [], alts := [], laidByText := true, laidKinds := [.data, .data, .data, .sentinel, .sentinel], laidTests := true, laidLooks := .later }
def InfixWritesUptoCardSaid : Prop := Claim7.holds Tryd.pinned (.plain (OpenSpec.upto infixWritesSpec)) infixWritesUptoCard

/-- THE SECOND FORM's CARD OF 'censuslaw08.InfixBack'. -/
def infixBackUptoCard : Claim7 := { stood := { row := infixBackUptoRow, standIns := [], harness := (true, "ca124beba38c17b18126751d3ff6a3decc056fd394b364b64c8d75751647f853"), looks := true }, kinds := [], alts := [], laidByText := true, laidKinds := [.data, .data, .data, .sentinel, .sentinel], laidTests := true, laidLooks := .later }
def InfixBackUptoCardSaid : Prop := Claim7.holds Tryd.pinned (.plain (OpenSpec.upto infixBackSpec)) infixBackUptoCard

/-- THE SECOND FORM's CARD OF 'censuslaw08.InfixAgain'. -/
def infixAgainUptoCard : Claim7 := { stood := { row := infixAgainUptoRow, standIns := [], harness := (true, "ca124beba38c17b18126751d3ff6a3decc056fd394b364b64c8d75751647f853"), looks := true }, kinds := [], alts := [], laidByText := true, laidKinds := [.data, .data, .data, .sentinel, .sentinel], laidTests := true, laidLooks := .later }
def InfixAgainUptoCardSaid : Prop := Claim7.holds Tryd.pinned (.plain (OpenSpec.upto infixAgainSpec)) infixAgainUptoCard

/-- THE SECOND FORM's CARD OF 'censuslaw08.InfixTrue'. -/
def infixTrueUptoCard : Claim7 := { stood := { row := infixTrueUptoRow, standIns := [], harness := (true, "ca124beba38c17b18126751d3ff6a3decc056fd394b364b64c8d75751647f853"), looks := true }, kinds := [], alts := [], laidByText := true, laidKinds := [.data, .data, .data, .sentinel, .sentinel], laidTests := true, laidLooks := .later }
def InfixTrueUptoCardSaid : Prop := Claim7.holds Tryd.pinned (.plain (OpenSpec.upto infixTrueSpec)) infixTrueUptoCard

/-- THE SECOND FORM's CARD OF 'censuslaw08.InfixParens'. -/
def infixParensUptoCard : Claim7 := { stood := { row := infixParensUptoRow, standIns := [], harness := (true, "ca124beba38c17b18126751d3ff6a3decc056fd394b364b64c8d75751647f853"), looks := true }, kinds := [], alts := [], laidByText := true, laidKinds := [.data, .data, .data, .sentinel, .sentinel], laidTests := true, laidLooks := .later }
def InfixParensUptoCardSaid : Prop := Claim7.holds Tryd.pinned (.plain (OpenSpec.upto infixParensSpec)) infixParensUptoCard

/-- THE SECOND FORM's CARD OF 'censuslaw08.InfixOpen'. -/
def infixOpenUptoCard : Claim7 := { stood := { row := infixOpenUptoRow, standIns := [], harness := (true, "ca124beba38c17b18126751d3ff6a3decc056fd394b364b64c8d75751647f853"), looks := true }, kinds := [], alts := [], laidByText := true, laidKinds := [.data, .data, .data, .sentinel, .sentinel], laidTests := true, laidLooks := .later }
def InfixOpenUptoCardSaid : Prop := Claim7.holds Tryd.pinned (.plain (OpenSpec.upto infixOpenSpec)) infixOpenUptoCard

/-- THE SECOND FORM's CARD OF 'censuslaw08.InfixKnown'. -/
def infixKnownUptoCard : Claim7 := { stood := { row := infixKnownUptoRow, standIns := [], harness := (true, "ca124beba38c17b18126751d3ff6a3decc056fd394b364b64c8d75751647f853"), looks := true }, kinds := [], alts := [], laidByText := true, laidKinds := [.data, .data, .data, .sentinel, .sentinel], laidTests := true, laidLooks := .later }
def InfixKnownUptoCardSaid : Prop := Claim7.holds Tryd.pinned (.plain (OpenSpec.upto infixKnownSpec)) infixKnownUptoCard
end Rows
end Go.Proofs.YtallcgpiecopcaaDoor
