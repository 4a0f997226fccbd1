/- The walk of Len. -/
import Derived.Test.YtdkfeaodgfnhgaaWSmall
namespace Go.Proofs.Ytdkfeaodgfnhgaa
open Go.RowKit Num

set_option maxHeartbeats 400000 in
set_option maxRecDepth 100000 in
theorem len_any (n : Nat) (hn : nl n ≤ 1099511627776) (w : World) :
    Calls Try.prog 26 #[natV n] w fun e w' => e = .returned (.int .i64 (blen n : Nat)) ∧ Below w.heap.size w w' := by
  have hs := nb_size n
  unfold natV
  by_cases h0 : n = 0
  · subst h0
    go_enter Try.func26, Try.ntmps26
    go_wp2_with fail
    go_ret
    exact ⟨rfl, (Below.refl _ _).alloc (Nat.le_refl _) _⟩
  · have hp : 0 < nl n := Nat.pos_of_ne_zero (fun h => h0 (nl_eq_zero.1 h))
    have HD := Lib.hid (blen_bytes n h0)
    have hk : nl n - 1 < (nb n).size := by omega
    have hg := nb_get n (nl n - 1) hk
    have h1 := (digitsOf_lt (B := 256) (by omega) n).getD (by omega) (nl n - 1)
    have HBL : Hid (Lib.bitLen ((digitsOf 256 n).getD (nl n - 1) 0) = blen ((digitsOf 256 n).getD (nl n - 1) 0)) := bitLen_eq _ (by omega)
    have hb8 : blen ((digitsOf 256 n).getD (nl n - 1) 0) ≤ 8 := length_le_of_lt_pow (by omega) 8 _ h1
    generalize (digitsOf 256 n).getD (nl n - 1) 0 = d at *
    have hne : ((nl n : Int) == 0) = false := by simp; omega
    clear h0
    go_enter Try.func26, Try.ntmps26
    go_wp2_with fail
    refine (Try.bits_Len8 d _ (by omega) (by omega)).mono ?_
    rintro e w' ⟨rfl, rfl⟩
    rw [Int.toNat_natCast, HBL.out]
    go_wp2
    go_ret
    refine ⟨?_, (Below.refl _ _).alloc (Nat.le_refl _) _⟩
    rw [HD.out]
    go_num
end Go.Proofs.Ytdkfeaodgfnhgaa
