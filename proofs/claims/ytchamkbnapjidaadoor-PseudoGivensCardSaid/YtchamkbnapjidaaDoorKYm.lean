/- The law: a true normal form stays true as literals become true. -/
import Derived.Test.YtchamkbnapjidaaDoorKYs
import Derived.Test.YtchamkbnapjidaaDoorSMo
import Derived.Laws.BitsAllLaws
import Derived.Deep.DeepCutAuto
namespace Go.Proofs.YtchamkbnapjidaaDoor
open Go.RowKit

theorem bits_nat (op : BinOp) (x y : Int) : ∃ P : Nat, bits op .u64 x y = (P : Int) ∧ P < 18446744073709551616 := u64_nat _

theorem set_bit {Y e : Nat} (i : Nat) : (Y ||| 2 ^ e).testBit i = if i = e then true else Y.testBit i := by
  rw [Nat.testBit_or, Nat.testBit_two_pow]
  by_cases h : i = e
  · subst h; simp
  · rw [if_neg h, decide_eq_false (fun x => h x.symm), Bool.or_false]
theorem clr_bit {Y e : Nat} (hY : Y < 18446744073709551616) (he : e < 64) (i : Nat) : ((Y ||| 2 ^ e) &&& (18446744073709551615 - 2 ^ e)).testBit i = if i = e then false else Y.testBit i := by
  have hp : (2 : Nat) ^ e < 2 ^ 64 := Nat.pow_lt_pow_right (by omega) he
  have hq : 18446744073709551615 - 2 ^ e = 2 ^ 64 - (2 ^ e + 1) := by omega
  rw [Nat.testBit_and, set_bit, hq, Nat.testBit_two_pow_sub_succ hp, Nat.testBit_two_pow]
  by_cases h : i = e
  · subst h; simp
  · rw [if_neg h, if_neg h, show decide (e = i) = false from decide_eq_false (fun x => h x.symm), Bool.not_false, Bool.and_true]
    by_cases h6 : i < 64
    · rw [decide_eq_true h6, Bool.and_true]
    · rw [decide_eq_false h6, Bool.and_false]
      exact (Nat.testBit_lt_two_pow (Nat.lt_of_lt_of_le hY (Nat.pow_le_pow_right (n := 2) (by omega) (show 64 ≤ i by omega)))).symm
theorem abs_ne {L : List Int} (h : L.Pairwise (fun x y => absI x < absI y)) {m l : Int} (hm : m ∈ L) (hl : l ∈ L) (hne : m ≠ l) : absI m ≠ absI l := by
  obtain ⟨i, hi, rfl⟩ := List.mem_iff_getElem.1 hm
  obtain ⟨j, hj, rfl⟩ := List.mem_iff_getElem.1 hl
  rcases Nat.lt_trichotomy i j with h1 | h1 | h1
  · have := List.pairwise_iff_getElem.1 h i j hi hj h1; omega
  · subst h1; exact absurd rfl hne
  · have := List.pairwise_iff_getElem.1 h j i hj hi h1; omega
/-- One literal more is true, and the others are as before. -/
theorem step_more {L : List Int} (ha : L.Pairwise (fun x y => absI x < absI y)) (hz : ∀ l ∈ L, l ≠ 0 ∧ absI l ≤ 64) {X Y Z e : Nat} {l : Int} (hl : l ∈ L) (he : absI l = (e : Int) + 1) (h : ∀ i, i ≠ e → Z.testBit i = Y.testBit i) (ht : litB (bitS Z 0) l = true)
    (hm : ∀ m ∈ L, litB (bitS X 0) m = true → litB (bitS Y 0) m = true) : ∀ m ∈ L, litB (bitS X 0) m = true → litB (bitS Z 0) m = true := fun m hmm hx => by
  by_cases hml : m = l
  · rw [hml]; exact ht
  · have h1 := abs_ne ha hmm hl hml
    have h2 := hm m hmm hx
    obtain ⟨h3, h4⟩ := hz m hmm
    rw [← h2]
    unfold absI at *
    unfold litB bitS
    by_cases hp : m < 0
    · rw [if_pos hp] at h4 h1
      have q1 : ¬ 0 < m := by omega
      have q2 : -m ≤ 64 := by omega
      simp only [if_neg q1, if_pos q2, h _ (show (-m - 1).toNat ≠ e by omega)]
    · rw [if_neg hp] at h4 h1
      have q1 : 0 < m := by omega
      have q2 : m ≤ 64 := by omega
      simp only [if_pos q1, if_pos q2, h _ (show (m - 1).toNat ≠ e by omega)]
theorem lit_pos {Z e : Nat} (he : e < 64) : litB (bitS Z 0) ((e : Int) + 1) = Z.testBit e := by
  unfold litB bitS
  rw [if_pos (by omega), if_pos (by omega), show ((e : Int) + 1 - 1).toNat = e by omega]
theorem lit_neg {Z e : Nat} (he : e < 64) : litB (bitS Z 0) (-(e : Int) - 1) = !Z.testBit e := by
  unfold litB bitS
  rw [if_neg (by omega), if_pos (by omega), show (-(-(e : Int) - 1) - 1).toNat = e by omega]

end Go.Proofs.YtchamkbnapjidaaDoor
