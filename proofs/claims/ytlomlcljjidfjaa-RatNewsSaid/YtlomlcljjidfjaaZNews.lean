/- A law of chapter 02. -/
import Derived.Test.YtlomlcljjidfjaaZGive
import Derived.Test.YtlomlcljjidfjaaZNewsW
namespace Go.Proofs.Ytlomlcljjidfjaa
open Go.RowKit Num

theorem ratNews_law (s t : ByteArray) (m k : Nat) (hs : s.size ≤ 9223372036854775807) (ht : t.size ≤ 9223372036854775807) (hm : m < 18446744073709551616) (hk : k < 18446744073709551616) :
    Gives 4 #[.string s, .string t, .int .u64 (m : Nat), .int .u64 (k : Nat)] (.bool true) := by
  have KN1 := gNumber s hs
  have KN2 := gNumber t ht
  have KD1 := gDigits s hs
  have KD2 := gDigits t ht
  rw [digS_dec] at KD1 KD2
  have b1 := dval_nl s
  have b2 := dval_nl t
  have bm := nl_u64 hm
  have bk := nl_u64 hk
  have one : ∃ (r q : Nat × Nat) (ok : Bool), Gives 19 #[natV (dval s), natV (dval t)] (.tuple #[ratV r, .bool ok]) ∧ Gives 21 #[.string (dec (dval s)), .string (dec (dval t))] (.tuple #[xratV q, .bool ok]) ∧ Gives 24 #[ratV r, xratV q] (.bool true) := by
    rcases Nat.eq_zero_or_pos (dval t) with h | h
    · rw [h]
      exact ⟨_, _, false, gRNewZ _, gXNewZ _, gSame0⟩
    · exact ⟨_, _, true, gRNew _ _ (by omega) (by omega) h, gXNew _ _ (by omega) (by omega) h, gSameL _ (Sm.red (by omega) (by omega)) (Q.red_low h)⟩
  have two : ∃ (r q : Nat × Nat) (ok : Bool), Gives 14 #[.int .u64 (m : Nat), .int .u64 (k : Nat)] (.tuple #[ratV r, .bool ok]) ∧ Gives 23 #[.int .u64 (m : Nat), .int .u64 (k : Nat)] (.tuple #[xratV q, .bool ok]) ∧ Gives 24 #[ratV r, xratV q] (.bool true) := by
    rcases Nat.eq_zero_or_pos k with h | h
    · subst h
      exact ⟨_, _, false, gROfZ m hm, w_xof _ _ _ _ _ _ _ (gXOf m hm) (gXOf 0 (by decide)) (gXNewZ m), gSame0⟩
    · exact ⟨_, _, true, gROf m k hm hk h, w_xof _ _ _ _ _ _ _ (gXOf m hm) (gXOf k hk) (gXNew m k (by omega) (by omega) h), gSameL _ (Sm.red (by omega) (by omega)) (Q.red_low h)⟩
  obtain ⟨r, q, ok, KR, KX, S1⟩ := one
  obtain ⟨r2, q2, good, KO, XO, S2⟩ := two
  exact w_news s t _ _ _ _ ok good _ _ _ _ _ _ _ _ _ _ KN1 KN2 KR KD1 KD2 KX KO XO S1 S2 gWorks2

end Go.Proofs.Ytlomlcljjidfjaa
