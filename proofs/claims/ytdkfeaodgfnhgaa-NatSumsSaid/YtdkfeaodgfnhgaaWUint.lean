/- Uint of package nat. -/
import Derived.Test.YtdkfeaodgfnhgaaLGive
import Derived.Laws.BitsAllLaws
namespace Go.Proofs.Ytdkfeaodgfnhgaa
open Go.RowKit Num

theorem uint_or (m b k : Nat) (hm : m < 2 ^ (8 * k)) (hb : b < 256) (hk : k < 8) :
    bits BinOp.or IntKind.u64 (m : Int) (IntKind.u64.wrap ((b : Int) * 2 ^ (8 * k))) = ((m + 2 ^ (8 * k) * b : Nat) : Int) := by
  have hp : (2 : Nat) ^ (8 * k) ≤ 2 ^ 56 := Nat.pow_le_pow_right (by omega) (by omega)
  have hbp : 2 ^ (8 * k) * b ≤ 2 ^ 56 * 255 := Nat.mul_le_mul hp (by omega)
  have e1 : (b : Int) * 2 ^ (8 * k) = ((2 ^ (8 * k) * b : Nat) : Int) := by
    rw [Int.natCast_mul, Int.natCast_pow, Int.mul_comm]; rfl
  rw [e1]
  have e3 : m ||| 2 ^ (8 * k) * b = m + 2 ^ (8 * k) * b := by
    rw [Nat.or_comm, Nat.add_comm]
    exact (Nat.two_pow_add_eq_or_of_lt hm b).symm
  generalize 2 ^ (8 * k) * b = q at *
  have e2 : IntKind.u64.wrap (q : Int) = (q : Int) := by
    simp only [IntKind.wrap_u64]
    omega
  rw [e2, Go.u64_or_nat m q (by omega) (by omega), e3]

set_option maxHeartbeats 400000 in
set_option maxRecDepth 100000 in
theorem uint_out (n : Nat) (hn : nl n ≤ 1099511627776) (h8 : 8 < nl n) (w : World) :
    Calls Try.prog 24 #[natV n] w fun e w' => e = .returned (.tuple #[.int .u64 0, .bool false]) ∧ Below w.heap.size w w' := by
  have hs := nb_size n
  unfold natV
  generalize nb n = s at *
  have h8 : 8 < s.size := by omega
  clear hs hn
  go_enter Try.func24, Try.ntmps24
  go_wp2_with fail
  go_ret2
  exact ⟨rfl, (Below.refl _ _).alloc (Nat.le_refl _) _⟩

set_option maxHeartbeats 1000000 in
set_option maxRecDepth 100000 in
theorem uint_fits (n : Nat) (h8 : nl n ≤ 8) (w : World) :
    Calls Try.prog 24 #[natV n] w fun e w' => e = .returned (.tuple #[.int .u64 (n : Nat), .bool true]) ∧ Below w.heap.size w w' := by
  have hs := nb_size n
  unfold natV
  have HG := Lib.hid (fun k h => nb_get n k h)
  have HL := Lib.hid (digitsOf_lt (B := 256) (by omega) n)
  have HLN : Hid ((digitsOf 256 n).length = (nb n).size) := (show _ = nl n from rfl).trans hs.symm
  have HV := Lib.hid (digs_digitsOf (B := 256) (by omega) n)
  have h8 : (nb n).size ≤ 8 := by omega
  clear hs
  generalize nb n = s at *
  generalize digitsOf 256 n = l at *
  go_enter Try.func24, Try.ntmps24
  go_wp2_with fail
  go_loop [4, 13] (fun nv iv => ∃ k m : Nat, k ≤ s.size ∧ iv = .int .i64 (k : Nat) ∧ nv = .int .u64 (m : Nat) ∧ Hid (m = digs 256 (l.take k)))
    (fun _ iv => s.size - (intOf iv).toNat)
  case atStart => exact ⟨0, 0, by omega, rfl, rfl, by simp [Hid, digs]⟩
  case round =>
    obtain ⟨k, m, hk, rfl, rfl, HM⟩ := hrel
    by_cases hlt : k < s.size
    · have hg := HG.out k hlt
      have hb := HL.out.getD (by omega) k
      have hb2 : s[k].toNat < 256 := by omega
      have HGK := Lib.hid hg
      clear hg hb
      have hm : m < 2 ^ (8 * k) := by
        rw [HM.out]
        have := digs_lt (B := 256) (by omega) (HL.out.take k)
        rw [List.length_take, HLN.out, Nat.min_eq_left hk] at this
        exact Nat.lt_of_lt_of_eq this (Nat.pow_mul 2 8 k).symm
      have HO := Lib.hid (uint_or m s[k].toNat k hm hb2 (by omega))
      have HS : Hid (m + 2 ^ (8 * k) * s[k].toNat = digs 256 (l.take (k + 1))) := by
        unfold Hid
        rw [digs_take_succ l k (by rw [HLN.out]; exact hlt), ← HM.out, HGK.out]
        have : (2 : Nat) ^ (8 * k) = 256 ^ k := Nat.pow_mul 2 8 k
        rw [this]
      clear hm
      go_wp2_with fail
      go_round
      case rel => exact ⟨k + 1, m + 2 ^ (8 * k) * s[k].toNat, by omega, by go_num, by rw [HO.out], HS.out⟩
      case measure => simp [intOf]; omega
    · obtain rfl : k = s.size := by omega
      have HE : Hid (m = n) := by
        have := HM.out
        rw [List.take_of_length_le (by rw [HLN.out]; exact Nat.le_refl _), HV.out] at this
        exact this
      go_wp2_with fail
      go_ret2
      refine ⟨?_, (Below.refl _ _).alloc (Nat.le_refl _) _⟩
      rw [← HE.out]; rfl
end Go.Proofs.Ytdkfeaodgfnhgaa
