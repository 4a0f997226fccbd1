/- The three cards together (so that their hand-ins share what is built). -/
import Derived.Test.YtajjgfiojlagmaaDoorMD35
import Derived.Test.YtajjgfiojlagmaaDoorMD37
namespace Go.Proofs.YtajjgfiojlagmaaDoor
theorem three : Rows.DimacsOneCardSaid ∧ Rows.DimacsBackCardSaid ∧ Rows.DimacsKnownCardSaid := ⟨dimacsOne.proved, dimacsBack.proved, dimacsKnown.proved⟩
end Go.Proofs.YtajjgfiojlagmaaDoor
