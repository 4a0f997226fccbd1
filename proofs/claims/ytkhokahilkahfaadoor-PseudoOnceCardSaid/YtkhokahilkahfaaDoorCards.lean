/-
  DERIVED. GIVEN WITH THE SEED: THE CARDS: each row of YtkhokahilkahfaaDoorRows.lean that lists a variable, with what it lists TIED to the program's text (the seventh form; the later family's looks); each row that meets fmt, with fmt's text TOLD by the authors' own Lean function (tested against real Go, not proved from fmt's source: count such statements apart). THE CARD IS WHAT COUNTS. Prove the row's statement (the work); the ties are given (YtkhokahilkahfaaDoorTie.lean); close each card by the builder's one call (the guide's Derived/Test/ToyasCard.lean, 'card_holds'). Laid BY PROGRAM, IN A SANDBOX (cutbox-door.mjs). By AI agents, Wed Nov 11 2026. No macro, syntax, notation, axiom, sorry.
-/
import Derived.Test.YtkhokahilkahfaaDoorRows
import GoSem.ClaimSeven
namespace Go.Proofs.YtkhokahilkahfaaDoor
namespace Rows

/-- THE TIED CARD OF 'censuslaw09.PseudoChecks'. -/
def pseudoChecksCard : Claim7 := { stood := { row := pseudoChecksRow, standIns := [], harness := (true, "56e70ca5c9d2409dcb5d0ee150d2b352a49229ae8a243f1b51f0e94f2cbd87b4"), looks := true }, kinds := [], alts := [], laidByText := true, laidKinds := [.data, .data, .data, .sentinel, .sentinel], laidTests := true, laidLooks := .later }
def PseudoChecksCardSaid : Prop := Claim7.holds Tryd.pinned (.plain (OpenSpec.ofChange pseudoChecksSpec)) pseudoChecksCard

/-- THE TIED CARD OF 'censuslaw09.PseudoEvals'. -/
def pseudoEvalsCard : Claim7 := { stood := { row := pseudoEvalsRow, standIns := [], harness := (true, "56e70ca5c9d2409dcb5d0ee150d2b352a49229ae8a243f1b51f0e94f2cbd87b4"), looks := true }, kinds := [], alts := [], laidByText := true, laidKinds := [.data, .data, .data, .sentinel, .sentinel], laidTests := true, laidLooks := .later }
def PseudoEvalsCardSaid : Prop := Claim7.holds Tryd.pinned (.plain (OpenSpec.ofChange pseudoEvalsSpec)) pseudoEvalsCard

/-- THE TIED CARD OF 'censuslaw09.PseudoNormals'. -/
def pseudoNormalsCard : Claim7 := { stood := { row := pseudoNormalsRow, standIns := [], harness := (true, "56e70ca5c9d2409dcb5d0ee150d2b352a49229ae8a243f1b51f0e94f2cbd87b4"), looks := true }, kinds := [], alts := [], laidByText := true, laidKinds := [.data, .data, .data, .sentinel, .sentinel], laidTests := true, laidLooks := .later }
def PseudoNormalsCardSaid : Prop := Claim7.holds Tryd.pinned (.plain (OpenSpec.ofChange pseudoNormalsSpec)) pseudoNormalsCard

/-- THE TIED CARD OF 'censuslaw09.PseudoGivens'. -/
def pseudoGivensCard : Claim7 := { stood := { row := pseudoGivensRow, standIns := [], harness := (true, "56e70ca5c9d2409dcb5d0ee150d2b352a49229ae8a243f1b51f0e94f2cbd87b4"), looks := true }, kinds := [], alts := [], laidByText := true, laidKinds := [.data, .data, .data, .sentinel, .sentinel], laidTests := true, laidLooks := .later }
def PseudoGivensCardSaid : Prop := Claim7.holds Tryd.pinned (.plain (OpenSpec.ofChange pseudoGivensSpec)) pseudoGivensCard

/-- THE TIED CARD OF 'censuslaw09.PseudoTexts'. -/
def pseudoTextsCard : Claim7 := { stood := { row := pseudoTextsRow, standIns := [], harness := (true, "56e70ca5c9d2409dcb5d0ee150d2b352a49229ae8a243f1b51f0e94f2cbd87b4"), looks := true }, kinds := [], alts := [], laidByText := true, laidKinds := [.data, .data, .data, .sentinel, .sentinel], laidTests := true, laidLooks := .later }
def PseudoTextsCardSaid : Prop := Claim7.holds Tryd.pinned (.plain (OpenSpec.ofChange pseudoTextsSpec)) pseudoTextsCard

/-- THE TIED CARD OF 'censuslaw09.PseudoReads'. -/
def pseudoReadsCard : Claim7 := { stood := { row := pseudoReadsRow, standIns := [], harness := (true, "56e70ca5c9d2409dcb5d0ee150d2b352a49229ae8a243f1b51f0e94f2cbd87b4"), looks := true }, kinds := [], alts := [], laidByText := true, laidKinds := [.data, .data, .data, .sentinel, .sentinel], laidTests := true, laidLooks := .later }
def PseudoReadsCardSaid : Prop := Claim7.holds Tryd.pinned (.plain (OpenSpec.ofChange pseudoReadsSpec)) pseudoReadsCard

/-- THE TIED CARD OF 'censuslaw09.PseudoSame'. -/
def pseudoSameCard : Claim7 := { stood := { row := pseudoSameRow, standIns := [], harness := (true, "56e70ca5c9d2409dcb5d0ee150d2b352a49229ae8a243f1b51f0e94f2cbd87b4"), looks := true }, kinds := [], alts := [], laidByText := true, laidKinds := [.data, .data, .data, .sentinel, .sentinel], laidTests := true, laidLooks := .later }
def PseudoSameCardSaid : Prop := Claim7.holds Tryd.pinned (.plain (OpenSpec.ofChange pseudoSameSpec)) pseudoSameCard

/-- THE TIED CARD OF 'censuslaw09.PseudoOnce'. -/
def pseudoOnceCard : Claim7 := { stood := { row := pseudoOnceRow, standIns := [], harness := (true, "56e70ca5c9d2409dcb5d0ee150d2b352a49229ae8a243f1b51f0e94f2cbd87b4"), looks := true }, kinds := [], alts := [], laidByText := true, laidKinds := [.data, .data, .data, .sentinel, .sentinel], laidTests := true, laidLooks := .later }
def PseudoOnceCardSaid : Prop := Claim7.holds Tryd.pinned (.plain (OpenSpec.ofChange pseudoOnceSpec)) pseudoOnceCard

/-- THE TIED CARD OF 'censuslaw09.PseudoConditions'. -/
def pseudoConditionsCard : Claim7 := { stood := { row := pseudoConditionsRow, standIns := [], harness := (true, "56e70ca5c9d2409dcb5d0ee150d2b352a49229ae8a243f1b51f0e94f2cbd87b4"), looks := true }, kinds := [], alts := [], laidByText := true, laidKinds := [.data, .data, .data, .sentinel, .sentinel], laidTests := true, laidLooks := .later }
def PseudoConditionsCardSaid : Prop := Claim7.holds Tryd.pinned (.plain (OpenSpec.ofChange pseudoConditionsSpec)) pseudoConditionsCard

/-- THE TIED CARD OF 'censuslaw09.PseudoLeft'. -/
def pseudoLeftCard : Claim7 := { stood := { row := pseudoLeftRow, standIns := [], harness := (true, "56e70ca5c9d2409dcb5d0ee150d2b352a49229ae8a243f1b51f0e94f2cbd87b4"), looks := true }, kinds := [], alts := [], laidByText := true, laidKinds := [.data, .data, .data, .sentinel, .sentinel], laidTests := true, laidLooks := .later }
def PseudoLeftCardSaid : Prop := Claim7.holds Tryd.pinned (.plain (OpenSpec.ofChange pseudoLeftSpec)) pseudoLeftCard

/-- THE TIED CARD OF 'censuslaw09.PseudoBack'. -/
def pseudoBackCard : Claim7 := { stood := { row := pseudoBackRow, standIns := [], harness := (true, "56e70ca5c9d2409dcb5d0ee150d2b352a49229ae8a243f1b51f0e94f2cbd87b4"), looks := true }, kinds := [], alts := [], laidByText := true, laidKinds := [.data, .data, .data, .sentinel, .sentinel], laidTests := true, laidLooks := .later }
def PseudoBackCardSaid : Prop := Claim7.holds Tryd.pinned (.plain (OpenSpec.ofChange pseudoBackSpec)) pseudoBackCard

/-- THE TIED CARD OF 'censuslaw09.PseudoMore'. -/
def pseudoMoreCard : Claim7 := { stood := { row := pseudoMoreRow, standIns := [], harness := (true, "56e70ca5c9d2409dcb5d0ee150d2b352a49229ae8a243f1b51f0e94f2cbd87b4"), looks := true }, kinds := [], alts := [], laidByText := true, laidKinds := [.data, .data, .data, .sentinel, .sentinel], laidTests := true, laidLooks := .later }
def PseudoMoreCardSaid : Prop := Claim7.holds Tryd.pinned (.plain (OpenSpec.ofChange pseudoMoreSpec)) pseudoMoreCard

/-- THE TIED CARD OF 'censuslaw09.PseudoKnown'. -/
def pseudoKnownCard : Claim7 := { stood := { row := pseudoKnownRow, standIns := [], harness := (true, "56e70ca5c9d2409dcb5d0ee150d2b352a49229ae8a243f1b51f0e94f2cbd87b4"), looks := true }, kinds := [], alts := [], laidByText := true, laidKinds := [.data, .data, .data, .sentinel, .sentinel], laidTests := true, laidLooks := .later }
def PseudoKnownCardSaid : Prop := Claim7.holds Tryd.pinned (.plain (OpenSpec.ofChange pseudoKnownSpec)) pseudoKnownCard

/-- THE SECOND FORM's CARD OF 'censuslaw09.PseudoChecks'. -/
def pseudoChecksUptoCard : Claim7 := { stood := { row := pseudoChecksUptoRow, standIns := [], harness := (true, "56e70ca5c9d2409dcb5d0ee150d2b352a49229ae8a243f1b51f0e94f2cbd87b4"), looks := true }, kinds := [], alts := [], laidByText := true, laidKinds := [.data, .data, .data, .sentinel, .sentinel], laidTests := true, laidLooks := .later }
def PseudoChecksUptoCardSaid : Prop := Claim7.holds Tryd.pinned (.plain (OpenSpec.upto pseudoChecksSpec)) pseudoChecksUptoCard

/-- THE SECOND FORM's CARD OF 'censuslaw09.PseudoEvals'. -/
def pseudoEvalsUptoCard : Claim7 := { stood := { row := pseudoEvalsUptoRow, standIns := [], harness := (true, "56e70ca5c9d2409dcb5d0ee150d2b352a49229ae8a243f1b51f0e94f2cbd87b4"), looks := true }, kinds := [], alts := [], laidByText := true, laidKinds := [.data, .data, .data, .sentinel, .sentinel], laidTests := true, laidLooks := .later }
def PseudoEvalsUptoCardSaid : Prop := Claim7.holds Tryd.pinned (.plain (OpenSpec.upto pseudoEvalsSpec)) pseudoEvalsUptoCard

/-- THE SECOND FORM's CARD OF 'censuslaw09.PseudoNormals'. -/
def pseudoNormalsUptoCard : Claim7 := { stood := { row := pseudoNormalsUptoRow, standIns := [], harness := (true, "56e70ca5c9d2409dcb5d0ee150d2b352a49229ae8a243f1b51f0e94f2cbd87b4"), looks := true }, kinds := [], alts := [], laidByText := true, laidKinds := [.data, .data, .data, .sentinel, .sentinel], laidTests := true, laidLooks := .later }
def PseudoNormalsUptoCardSaid : Prop := Claim7.holds Tryd.pinned (.plain (OpenSpec.upto pseudoNormalsSpec)) pseudoNormalsUptoCard

/-- THE SECOND FORM's CARD OF 'censuslaw09.PseudoGivens'. -/
def pseudoGivensUptoCard : Claim7 := { stood := { row := pseudoGivensUptoRow, standIns := [], harness := (true, "56e70ca5c9d2409dcb5d0ee150d2b352a49229ae8a243f1b51f0e94f2cbd87b4"), looks := true }, kinds := [], alts := [], laidByText := true, laidKinds := [.data, .data, .data, .sentinel, .sentinel], laidTests := true, laidLooks := .later }
def PseudoGivensUptoCardSaid : Prop := Claim7.holds Tryd.pinned (.plain (OpenSpec.upto pseudoGivensSpec)) pseudoGivensUptoCard

/-- THE SECOND FORM's CARD OF 'censuslaw09.PseudoTexts'. -/
def pseudoTextsUptoCard : Claim7 := { stood := { row := pseudoTextsUptoRow, standIns := [], harness := (true, "56e70ca5c9d2409dcb5d0ee150d2b352a49229ae8a243f1b51f0e94f2cbd87b4"), looks := true }, kinds := [], alts := [], laidByText := true, laidKinds := [.data, .data, .data, .sentinel, .sentinel], laidTests := true, laidLooks := .later }
def PseudoTextsUptoCardSaid : Prop := Claim7.holds Tryd.pinned (.plain (OpenSpec.upto pseudoTextsSpec)) pseudoTextsUptoCard

/-- THE SECOND FORM's CARD OF 'censuslaw09.PseudoReads'. -/
def pseudoReadsUptoCard : Claim7 := { stood := { row := pseudoReadsUptoRow, standIns := [], harness := (true, "56e70ca5c9d2409dcb5d0ee150d2b352a49229ae8a243f1b51f0e94f2cbd87b4"), looks := true }, kinds := [], alts := [], laidByText := true, laidKinds := [.data, .data, .data, .sentinel, .sentinel], laidTests := true, laidLooks := .later }
def PseudoReadsUptoCardSaid : Prop := Claim7.holds Tryd.pinned (.plain (OpenSpec.upto pseudoReadsSpec)) pseudoReadsUptoCard

/-- THE SECOND FORM's CARD OF 'censuslaw09.PseudoSame'. -/
def pseudoSameUptoCard : Claim7 := { stood := { row := pseudoSameUptoRow, standIns := [], harness := (true, "56e70ca5c9d2409dcb5d0ee150d2b352a49229ae8a243f1b51f0e94f2cbd87b4"), looks := true }, kinds := [], alts := [], laidByText := true, laidKinds := [.data, .data, .data, .sentinel, .sentinel], laidTests := true, laidLooks := .later }
def PseudoSameUptoCardSaid : Prop := Claim7.holds Tryd.pinned (.plain (OpenSpec.upto pseudoSameSpec)) pseudoSameUptoCard

/-- THE SECOND FORM's CARD OF 'censuslaw09.PseudoOnce'. -/
def pseudoOnceUptoCard : Claim7 := { stood := { row := pseudoOnceUptoRow, standIns := [], harness := (true, "56e70ca5c9d2409dcb5d0ee150d2b352a49229ae8a243f1b51f0e94f2cbd87b4"), looks := true }, kinds := [], alts := [], laidByText := true, laidKinds := [.data, .data, .data, .sentinel, .sentinel], laidTests := true, laidLooks := .later }
def PseudoOnceUptoCardSaid : Prop := Claim7.holds Tryd.pinned (.plain (OpenSpec.upto pseudoOnceSpec)) pseudoOnceUptoCard

/-- THE SECOND FORM's CARD OF 'censuslaw09.PseudoConditions'. -/
def pseudoConditionsUptoCard : Claim7 := { stood := { row := pseudoConditionsUptoRow, standIns := [], harness := (true, "56e70ca5c9d2409dcb5d0ee150d2b352a49229ae8a243f1b51f0e94f2cbd87b4"), looks := true }, kinds := [], alts := [], laidByText := true, laidKinds := [.data, .data, .data, .sentinel, .sentinel], laidTests := true, laidLooks := .later }
def PseudoConditionsUptoCardSaid : Prop := Claim7.holds Tryd.pinned (.plain (OpenSpec.upto pseudoConditionsSpec)) pseudoConditionsUptoCard

/-- THE SECOND FORM's CARD OF 'censuslaw09.PseudoLeft'. -/
def pseudoLeftUptoCard : Claim7 := { stood := { row := pseudoLeftUptoRow, standIns := [], harness := (true, "56e70ca5c9d2409dcb5d0ee150d2b352a49229ae8a243f1b51f0e94f2cbd87b4"), looks := true }, kinds := [], alts := [], laidByText := true, laidKinds := [.data, .data, .data, .sentinel, .sentinel], laidTests := true, laidLooks := .later }
def PseudoLeftUptoCardSaid : Prop := Claim7.holds Tryd.pinned (.plain (OpenSpec.upto pseudoLeftSpec)) pseudoLeftUptoCard

/-- THE SECOND FORM's CARD OF 'censuslaw09.PseudoBack'. -/
def pseudoBackUptoCard : Claim7 := { stood := { row := pseudoBackUptoRow, standIns := [], harness := (true, "56e70ca5c9d2409dcb5d0ee150d2b352a49229ae8a243f1b51f0e94f2cbd87b4"), looks := true }, kinds := [], alts := [], laidByText := true, laidKinds := [.data, .data, .data, .sentinel, .sentinel], laidTests := true, laidLooks := .later }
def PseudoBackUptoCardSaid : Prop := Claim7.holds Tryd.pinned (.plain (OpenSpec.upto pseudoBackSpec)) pseudoBackUptoCard

/-- THE SECOND FORM's CARD OF 'censuslaw09.PseudoMore'. -/
def pseudoMoreUptoCard : Claim7 := { stood := { row := pseudoMoreUptoRow, standIns := [], harness := (true, "56e70ca5c9d2409dcb5d0ee150d2b352a49229ae8a243f1b51f0e94f2cbd87b4"), looks := true }, kinds := [], alts := [], laidByText := true, laidKinds := [.data, .data, .data, .sentinel, .sentinel], laidTests := true, laidLooks := .later }
def PseudoMoreUptoCardSaid : Prop := Claim7.holds Tryd.pinned (.plain (OpenSpec.upto pseudoMoreSpec)) pseudoMoreUptoCard

/-- THE SECOND FORM's CARD OF 'censuslaw09.PseudoKnown'. -/
def pseudoKnownUptoCard : Claim7 := { stood := { row := pseudoKnownUptoRow, standIns := [], harness := (true, "56e70ca5c9d2409dcb5d0ee150d2b352a49229ae8a243f1b51f0e94f2cbd87b4"), looks := true }, kinds := [], alts := [], laidByText := true, laidKinds := [.data, .data, .data, .sentinel, .sentinel], laidTests := true, laidLooks := .later }
def PseudoKnownUptoCardSaid : Prop := Claim7.holds Tryd.pinned (.plain (OpenSpec.upto pseudoKnownSpec)) pseudoKnownUptoCard
end Rows
end Go.Proofs.YtkhokahilkahfaaDoor
