/- The contracts of the laws' own functions. -/
import Derived.Test.YtdkfeaodgfnhgaaLGive
import Derived.Test.YtdkfeaodgfnhgaaLWork
import Derived.Test.YtdkfeaodgfnhgaaWLen
namespace Go.Proofs.Ytdkfeaodgfnhgaa
open Go.RowKit Num

theorem gFrom {xs : List Nat} {a : Option Addr} {n c A k : Nat} (w : World) (hn : xs.length = n) (hx : AllLt W xs) (hA : digs W xs = A) (hk : n ≤ k) (hk2 : k ≤ 1000) (hc : CellsU w a xs) :
    nl A ≤ 4 * k ∧ GivesFrom w 31 #[.slice a n c] (natV A) := by
  refine ⟨Nat.le_trans (text_nl (by rw [← hA]; exact digs_lt (B := W) (by decide) hx)) (by omega), fun w' hb => ?_⟩
  rw [← hA]
  exact from_law a xs n c hn hx (by omega) w' (cells_below hc hb)

theorem gLen (a : Nat) (ha : nl a ≤ 1099511627776) : Gives 26 #[natV a] (.int .i64 (blen a : Nat)) := len_any a ha
theorem gPow (n : Nat) (h : n ≤ 4096) : Gives 29 #[.int .i64 (n : Nat)] (natV (2 ^ n)) := pow2_any n h
theorem gPowO (n : Int) (h : n < 0 ∨ 4096 < n) : Gives 29 #[.int .i64 n] (natV 0) := pow2_out n h
theorem gWorks : Gives 12 #[] (.bool true) := works_law

end Go.Proofs.Ytdkfeaodgfnhgaa
