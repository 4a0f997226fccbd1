/- The law RatZero. -/
import Derived.Test.YtlomlcljjidfjaaZGive
import Derived.Test.YtlomlcljjidfjaaZZeroW
namespace Go.Proofs.Ytlomlcljjidfjaa
open Go.RowKit Num

theorem Q.mul_zero {a : Nat × Nat} (la : Q.Low a) : Q.mul a (0, 1) = (0, 1) := by
  have l1 : Q.Low (0, 1) := ⟨by decide, by decide⟩
  have h : Q.red (a.1 * 0) (a.2 * 1) = Q.red 0 1 := Q.red_eq (by have := la.1; omega) (by decide) (by simp)
  exact h.trans (Q.red_of_low l1)
theorem Q.zero_div {a : Nat × Nat} (h : 0 < a.1) : Q.div (0, 1) a = (0, 1) := by
  have l1 : Q.Low (0, 1) := ⟨by decide, by decide⟩
  have h : Q.red (0 * a.2) (1 * a.1) = Q.red 0 1 := Q.red_eq (by omega) (by decide) (by simp)
  exact h.trans (Q.red_of_low l1)
theorem Q.sub_zero {a : Nat × Nat} (la : Q.Low a) : Q.sub a (0, 1) = a := by
  unfold Q.sub; simp only [Nat.mul_one, Nat.zero_mul, Nat.sub_zero]; exact Q.red_of_low la
theorem Q.zero_add {a : Nat × Nat} (la : Q.Low a) : Q.add (0, 1) a = a := by
  unfold Q.add; simp only [Nat.mul_one, Nat.zero_mul, Nat.zero_add, Nat.one_mul]; exact Q.red_of_low la

theorem ratZero_law (N D : ByteArray) (h1 : N.size ≤ 9223372036854775807) (h2 : D.size ≤ 9223372036854775807) : Gives 9 #[.agg #[.string N, .string D]] (.bool true) := by
  have KA := gVRat N D h1 h2
  have XA := gVRef N D h1 h2
  have sa := vq_small N D
  have la := vq_low N D
  generalize vq N D = a at *
  have so' : Sm 10000 (0, 0) := ⟨by decide, by decide⟩
  have sa' : Sm 10000 a := sa.mono (by omega)
  have zo : nz (0, 0) = (0, 1) := rfl
  have za : nz a = a := nz_low la
  have K1 := gRSub a (0, 0) sa' so'
  rw [zo, za] at K1
  have K1 := K1 (by simp)
  rw [Q.sub_zero la] at K1
  have K4 := gRAdd (0, 0) a so' sa'
  rw [zo, za, Q.zero_add la] at K4
  have K5 := gRMul a (0, 0) sa' so'
  rw [zo, za, Q.mul_zero la] at K5
  have S := gSameL a (sa.mono (by omega)) la
  have S0 := gSameL (0, 1) ⟨by decide, by decide⟩ ⟨by decide, by decide⟩
  have KT := gRText a (sa.mono (by omega))
  rcases Nat.eq_zero_or_pos a.1 with h | h
  · have K3 := gRDivZ (0, 0) a so' sa' h
    exact w_rzero_z N D _ (rtext_is0 la h) _ _ _ _ _ _ _ _ _ _ _ _ _ _ KA XA gXZero K1 (gRDivZ a (0, 0) sa' so' rfl) K3 K4 K5 KT gSame0 S S gSame0 S0 gWorks2
  · have K3 := gRDiv (0, 0) a so' sa' h
    rw [zo, za, Q.zero_div h] at K3
    exact w_rzero_n N D _ (rtext_not0 la (by omega)) _ _ _ _ _ _ _ _ _ _ _ _ _ _ KA XA gXZero K1 (gRDivZ a (0, 0) sa' so' rfl) K3 K4 K5 KT gSame0 S S S0 S0 gWorks2

end Go.Proofs.Ytlomlcljjidfjaa
