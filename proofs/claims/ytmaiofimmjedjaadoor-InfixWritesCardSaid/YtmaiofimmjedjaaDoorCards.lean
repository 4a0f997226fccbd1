/-
  DERIVED. GIVEN WITH THE SEED: THE CARDS: each row of YtmaiofimmjedjaaDoorRows.lean that lists a variable, with what it lists TIED to the program's text (the seventh form; the later family's looks); each row that meets fmt, with fmt's text TOLD by the authors' own Lean function (tested against real Go, not proved from fmt's source: count such statements apart). THE CARD IS WHAT COUNTS. Prove the row's statement (the work); the ties are given (YtmaiofimmjedjaaDoorTie.lean); close each card by the builder's one call (the guide's Derived/Test/ToyasCard.lean, 'card_holds'). Laid BY PROGRAM, IN A SANDBOX (cutbox-door.mjs). By AI agents, Wed Nov 11 2026. No macro, syntax, notation, axiom, sorry.
-/
import Derived.Test.YtmaiofimmjedjaaDoorRows
import GoSem.ClaimSeven
namespace Go.Proofs.YtmaiofimmjedjaaDoor
namespace Rows

/-- THE TIED CARD OF 'censuslaw08.InfixWrites'. -/
def infixWritesCard : Claim7 := { stood := { row := infixWritesRow, standIns := [], harness := (true, "a9cc6308f65063d53dd1e29f3e8bd07e2263bb37cd0467db8caaf1cfb6e19cb9"), looks := true }, kinds := [], alts := [], laidByText := true, laidKinds := [.data, .data, .data, .sentinel, .sentinel], laidTests := true, laidLooks := .later }
def InfixWritesCardSaid : Prop := Claim7.holds Tryd.pinned (.plain (OpenSpec.ofChange infixWritesSpec)) infixWritesCard

/-- THE TIED CARD OF 'censuslaw08.InfixKnown'. -/
def infixKnownCard : Claim7 := { stood := { row := infixKnownRow, standIns := [], harness := (true, "a9cc6308f65063d53dd1e29f3e8bd07e2263bb37cd0467db8caaf1cfb6e19cb9"), looks := true }, kinds := [], alts := [], laidByText := true, laidKinds := [.data, .data, .data, .sentinel, .sentinel], laidTests := true, laidLooks := .later }
def InfixKnownCardSaid : Prop := Claim7.holds Tryd.pinned (.plain (OpenSpec.ofChange infixKnownSpec)) infixKnownCard

/-- THE SECOND FORM's CARD OF 'censuslaw08.InfixWrites'. -/
def infixWritesUptoCard : Claim7 := { stood := { row := infixWritesUptoRow, standIns := [], harness := (true, "a9cc6308f65063d53dd1e29f3e8bd07e2263bb37cd0467db8caaf1cfb6e19cb9"), looks := true }, kinds := [], alts := [], laidByText := true, laidKinds := [.data, .data, .data, .sentinel, .sentinel], laidTests := true, laidLooks := .later }
def InfixWritesUptoCardSaid : Prop := Claim7.holds Tryd.pinned (.plain (OpenSpec.upto infixWritesSpec)) infixWritesUptoCard

/-- THE SECOND FORM's CARD OF 'censuslaw08.InfixKnown'. -/
def infixKnownUptoCard : Claim7 := { stood := { row := infixKnownUptoRow, standIns := [], harness := (true, "a9cc6308f65063d53dd1e29f3e8bd07e2263bb37cd0467db8caaf1cfb6e19cb9"), looks := true }, kinds := [], alts := [], laidByText := true, laidKinds := [.data, .data, .data, .sentinel, .sentinel], laidTests := true, laidLooks := .later }
def InfixKnownUptoCardSaid : Prop := Claim7.holds Tryd.pinned (.plain (OpenSpec.upto infixKnownSpec)) infixKnownUptoCard
end Rows
end Go.Proofs.YtmaiofimmjedjaaDoor
