/- A law of chapter 02. -/
import Derived.Test.YtlomlcljjidfjaaZGive
import Derived.Test.YtlomlcljjidfjaaZSumsW
namespace Go.Proofs.Ytlomlcljjidfjaa
open Go.RowKit Num

theorem ratSums_law (Na Da Nb Db : ByteArray) (h1 : Na.size ≤ 9223372036854775807) (h2 : Da.size ≤ 9223372036854775807) (h3 : Nb.size ≤ 9223372036854775807) (h4 : Db.size ≤ 9223372036854775807) :
    Gives 8 #[.agg #[.string Na, .string Da], .agg #[.string Nb, .string Db]] (.bool true) := by
  have KA := gVRat Na Da h1 h2
  have KB := gVRat Nb Db h3 h4
  have XA := gVRef Na Da h1 h2
  have XB := gVRef Nb Db h3 h4
  have sa := vq_small Na Da
  have sb := vq_small Nb Db
  have la := vq_low Na Da
  have lb := vq_low Nb Db
  generalize vq Na Da = a at *
  generalize vq Nb Db = b at *
  have KM := kAdd sa sb (by omega) la lb
  have XM := gXAdd2 a b (sa.mono (by omega)) (sb.mono (by omega)) la lb
  have KC := kCmp sa sb (by omega) la lb
  have XC := gXCmp2 a b (sa.mono (by omega)) (sb.mono (by omega))
  have S1 := gSameL _ ((sa.add sb).mono (by omega)) (Q.add_low la lb)
  have S3 := gSameL a (sa.mono (by omega)) la
  have S4 := gSameL b (sb.mono (by omega)) lb
  rcases Nat.lt_or_ge (a.1 * b.2) (b.1 * a.2) with h | h
  · exact w_rsums Na Da Nb Db false _ _ _ _ _ _ _ _ _ _ _ _ _ _ _ _ _ KA KB XA XB (kSubL sa sb (by omega) la lb h) (gXSubL2 a b (sa.mono (by omega)) (sb.mono (by omega)) h) KM XM KC XC S1 gSame0 S3 S4 gWorks2
  · exact w_rsums Na Da Nb Db true _ _ _ _ _ _ _ _ _ _ _ _ _ _ _ _ _ KA KB XA XB (kSub sa sb (by omega) la lb h) (gXSub2 a b (sa.mono (by omega)) (sb.mono (by omega)) la lb h) KM XM KC XC S1 (gSameL _ ((sa.sub sb).mono (by omega)) (Q.sub_low la lb)) S3 S4 gWorks2

end Go.Proofs.Ytlomlcljjidfjaa
