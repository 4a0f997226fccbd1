/- A law of chapter 02. -/
import Derived.Test.YtlomlcljjidfjaaZGive
import Derived.Test.YtlomlcljjidfjaaZProductsW
namespace Go.Proofs.Ytlomlcljjidfjaa
open Go.RowKit Num

theorem ratProducts_law (Na Da Nb Db : ByteArray) (h1 : Na.size ≤ 9223372036854775807) (h2 : Da.size ≤ 9223372036854775807) (h3 : Nb.size ≤ 9223372036854775807) (h4 : Db.size ≤ 9223372036854775807) :
    Gives 5 #[.agg #[.string Na, .string Da], .agg #[.string Nb, .string Db]] (.bool true) := by
  have KA := gVRat Na Da h1 h2
  have KB := gVRat Nb Db h3 h4
  have XA := gVRef Na Da h1 h2
  have XB := gVRef Nb Db h3 h4
  have sa := vq_small Na Da
  have sb := vq_small Nb Db
  have la := vq_low Na Da
  have lb := vq_low Nb Db
  generalize vq Na Da = a at *
  generalize vq Nb Db = b at *
  have KM := kMul sa sb (by omega) la lb
  have XM := gXMul2 a b (sa.mono (by omega)) (sb.mono (by omega)) la lb
  have S1 := gSameL _ ((sa.mul sb).mono (by omega)) (Q.mul_low la lb)
  rcases Nat.eq_zero_or_pos b.1 with h | h
  · exact w_prods Na Da Nb Db false _ _ _ _ _ _ _ _ _ _ _ _ _ _ _ _ KA KB XA XB (gRDivZ a b (sa.mono (by omega)) (sb.mono (by omega)) h) (gXDivZ2 a b h) KM XM S1 gSame0 gWorks2
  · exact w_prods Na Da Nb Db true _ _ _ _ _ _ _ _ _ _ _ _ _ _ _ _ KA KB XA XB (kDiv sa sb (by omega) la lb h) (gXDiv2 a b (sa.mono (by omega)) (sb.mono (by omega)) la h) KM XM S1 (gSameL _ ((sa.div sb).mono (by omega)) (Q.div_low la h)) gWorks2

end Go.Proofs.Ytlomlcljjidfjaa
