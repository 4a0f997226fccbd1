/- The five cards together (so that their hand-ins share what is built). -/
import Derived.Test.YtallcgpiecopcaaDoorMI30
import Derived.Test.YtallcgpiecopcaaDoorMI35
import Derived.Test.YtallcgpiecopcaaDoorMI37
namespace Go.Proofs.YtallcgpiecopcaaDoor
theorem five : Rows.InfixParensCardSaid ∧ Rows.InfixOpenCardSaid ∧ Rows.InfixTrueCardSaid ∧ Rows.InfixBackCardSaid ∧ Rows.InfixAgainCardSaid := ⟨infixParens.proved, infixOpen.proved, infixTrue.proved, infixBack.proved, infixAgain.proved⟩
end Go.Proofs.YtallcgpiecopcaaDoor
