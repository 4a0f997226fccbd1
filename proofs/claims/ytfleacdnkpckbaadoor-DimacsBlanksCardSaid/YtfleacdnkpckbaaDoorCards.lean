/-
  DERIVED. GIVEN WITH THE SEED: THE CARDS: each row of YtfleacdnkpckbaaDoorRows.lean that lists a variable, with what it lists TIED to the program's text (the seventh form; the later family's looks); each row that meets fmt, with fmt's text TOLD by the authors' own Lean function (tested against real Go, not proved from fmt's source: count such statements apart). THE CARD IS WHAT COUNTS. Prove the row's statement (the work); the ties are given (YtfleacdnkpckbaaDoorTie.lean); close each card by the builder's one call (the guide's Derived/Test/ToyasCard.lean, 'card_holds'). Laid BY PROGRAM, IN A SANDBOX (cutbox-door.mjs). By AI agents, Wed Nov 11 2026. No macro, syntax, notation, axiom, sorry.
-/
import Derived.Test.YtfleacdnkpckbaaDoorRows
import GoSem.ClaimSeven
namespace Go.Proofs.YtfleacdnkpckbaaDoor
namespace Rows

/-- THE TIED CARD OF 'censuslaw06.DimacsParses'. -/
def dimacsParsesCard : Claim7 := { stood := { row := dimacsParsesRow, standIns := [], harness := (true, "086651fe6d4a0366cc617b68dfc02d572bb25abe8d692f893d47a6d17f02f790"), looks := false }, kinds := [], alts := [], laidByText := true, laidKinds := [.data, .pinned], laidTests := true, laidLooks := .later }
def DimacsParsesCardSaid : Prop := Claim7.holds Tryd.pinned (.plain (OpenSpec.ofChange dimacsParsesSpec)) dimacsParsesCard

/-- THE TIED CARD OF 'censuslaw06.DimacsLong'. -/
def dimacsLongCard : Claim7 := { stood := { row := dimacsLongRow, standIns := [], harness := (true, "086651fe6d4a0366cc617b68dfc02d572bb25abe8d692f893d47a6d17f02f790"), looks := false }, kinds := [], alts := [], laidByText := true, laidKinds := [.data, .pinned], laidTests := true, laidLooks := .later }
def DimacsLongCardSaid : Prop := Claim7.holds Tryd.pinned (.plain (OpenSpec.ofChange dimacsLongSpec)) dimacsLongCard

/-- THE TIED CARD OF 'censuslaw06.DimacsBlanks'. -/
def dimacsBlanksCard : Claim7 := { stood := { row := dimacsBlanksRow, standIns := [], harness := (true, "086651fe6d4a0366cc617b68dfc02d572bb25abe8d692f893d47a6d17f02f790"), looks := false }, kinds := [], alts := [], laidByText := true, laidKinds := [.data, .pinned], laidTests := true, laidLooks := .later }
def DimacsBlanksCardSaid : Prop := Claim7.holds Tryd.pinned (.plain (OpenSpec.ofChange dimacsBlanksSpec)) dimacsBlanksCard

/-- THE SECOND FORM's CARD OF 'censuslaw06.DimacsParses'. -/
def dimacsParsesUptoCard : Claim7 := { stood := { row := dimacsParsesUptoRow, standIns := [], harness := (true, "086651fe6d4a0366cc617b68dfc02d572bb25abe8d692f893d47a6d17f02f790"), looks := false }, kinds := [], alts := [], laidByText := true, laidKinds := [.data, .pinned], laidTests := true, laidLooks := .later }
def DimacsParsesUptoCardSaid : Prop := Claim7.holds Tryd.pinned (.plain (OpenSpec.upto dimacsParsesSpec)) dimacsParsesUptoCard

/-- THE SECOND FORM's CARD OF 'censuslaw06.DimacsLong'. -/
def dimacsLongUptoCard : Claim7 := { stood := { row := dimacsLongUptoRow, standIns := [], harness := (true, "086651fe6d4a0366cc617b68dfc02d572bb25abe8d692f893d47a6d17f02f790"), looks := false }, kinds := [], alts := [], laidByText := true, laidKinds := [.data, .pinned], laidTests := true, laidLooks := .later }
def DimacsLongUptoCardSaid : Prop := Claim7.holds Tryd.pinned (.plain (OpenSpec.upto dimacsLongSpec)) dimacsLongUptoCard

/-- THE SECOND FORM's CARD OF 'censuslaw06.DimacsBlanks'. -/
def dimacsBlanksUptoCard : Claim7 := { stood := { row := dimacsBlanksUptoRow, standIns := [], harness := (true, "086651fe6d4a0366cc617b68dfc02d572bb25abe8d692f893d47a6d17f02f790"), looks := false }, kinds := [], alts := [], laidByText := true, laidKinds := [.data, .pinned], laidTests := true, laidLooks := .later }
def DimacsBlanksUptoCardSaid : Prop := Claim7.holds Tryd.pinned (.plain (OpenSpec.upto dimacsBlanksSpec)) dimacsBlanksUptoCard
end Rows
end Go.Proofs.YtfleacdnkpckbaaDoor
