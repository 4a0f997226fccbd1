/- The law: what a term leaves of a small sum says the same where the term is true. -/
import Derived.Test.YtchamkbnapjidaaDoorKYm
import Derived.Test.YtchamkbnapjidaaDoorKI
import Derived.Test.YtchamkbnapjidaaDoorSG
import Derived.Deep.DeepCutAuto
namespace Go.Proofs.YtchamkbnapjidaaDoor
open Go.RowKit

theorem given_good {s : PS} {n : Int} {t : List Int} (h : s.Ok n) (ht : termOk t n = true) : givenS s t n = (gSum s t, 0) := by
  unfold givenS
  rw [if_neg (by simpa using check_ok.2 h), if_neg (by simp [ht])]
  rfl
theorem term_good {t : List Int} {n : Int} (h1 : ∀ l ∈ t, l ≠ 0 ∧ absI l ≤ n) (h2 : ∀ l ∈ t, -l ∉ t) : termOk t n = true := by
  unfold termOk
  rw [Bool.and_eq_true, List.all_eq_true, List.all_eq_true]
  refine ⟨fun l hl => litOk_iff.2 ?_, fun l hl => ?_⟩
  · have := h1 l hl
    unfold absI at this
    split at this <;> omega
  · have := h2 l hl
    simpa using this
theorem term_more {t : List Int} {d : Nat} (h1 : ∀ l ∈ t, l ≠ 0 ∧ absI l < (d : Int) + 1) (h2 : ∀ l ∈ t, -l ∉ t) {l : Int} (hl : absI l = (d : Int) + 1) : (∀ m ∈ t ++ [l], m ≠ 0 ∧ absI m < ((d + 1 : Nat) : Int) + 1) ∧ ∀ m ∈ t ++ [l], -m ∉ t ++ [l] := by
  have hz : l ≠ 0 := fun h => by subst h; simp [absI] at hl; omega
  have hn : ∀ m : Int, absI (-m) = absI m := fun m => by unfold absI; split <;> split <;> omega
  refine ⟨fun m hm => ?_, fun m hm hm2 => ?_⟩
  · rcases List.mem_append.1 hm with h | h
    · have := h1 m h; exact ⟨this.1, by omega⟩
    · have : m = l := by simpa using h
      subst this; exact ⟨hz, by omega⟩
  · rcases List.mem_append.1 hm with h | h <;> rcases List.mem_append.1 hm2 with h' | h'
    · exact h2 m h h'
    · have e : -m = l := by simpa using h'
      have := h1 m h
      have e2 := hn m
      rw [e] at e2
      omega
    · have e : m = l := by simpa using h
      subst e
      have := h1 _ h'
      have e2 := hn m
      omega
    · have e : m = l := by simpa using h
      subst e
      have e : -m = m := by simpa using h'
      omega

theorem shr_bit {j : Nat} (hj : j < 18446744073709551616) (e : Nat) : (bits BinOp.and IntKind.u64 ((j : Int) / 2 ^ e) 1 == 1) = j.testBit e := by
  have e1 : (j : Int) / 2 ^ e = ((j / 2 ^ e : Nat) : Int) := by rw [Int.natCast_ediv, Int.natCast_pow]; rfl
  have h1 := u64_and_nat (j / 2 ^ e) 1 (Nat.lt_of_le_of_lt (Nat.div_le_self _ _) hj) (by omega)
  rw [e1, show (1 : Int) = ((1 : Nat) : Int) from rfl, h1, Nat.and_one_is_mod, Nat.testBit_eq_decide_div_mod_eq]
  rcases Nat.mod_two_eq_zero_or_one (j / 2 ^ e) with h | h <;> rw [h] <;> rfl

end Go.Proofs.YtchamkbnapjidaaDoor
