/- Two cards together (so that their hand-ins share what is built). -/
import Derived.Test.YtajjgfiojlagmaaGreatDoorMZ37
import Derived.Test.YtajjgfiojlagmaaGreatDoorMZ39
namespace Go.Proofs.YtajjgfiojlagmaaGreatDoor
theorem two : Rows.DimacsPrintsCardSaid ∧ Rows.DimacsFullCardSaid := ⟨dimacsPrints.proved, dimacsFull.proved⟩
end Go.Proofs.YtajjgfiojlagmaaGreatDoor
