/- What Text does: plain laws. -/
import Derived.Test.YtlomlcljjidfjaaNatD
namespace Go.Proofs.Ytlomlcljjidfjaa
namespace Num

/-- One digit of a number that is p + 10^j q, j > 0. -/
theorem text_digit (p q j : Nat) : (p + 10 ^ (j + 1) * q) % 10 = p % 10 ∧ (p + 10 ^ (j + 1) * q) / 10 = p / 10 + 10 ^ j * q := by
  rw [Nat.pow_succ, Nat.mul_comm (10 ^ j) 10, Nat.mul_assoc]
  generalize 10 ^ j * q = z
  omega

theorem text_step (out : List Nat) (N p q j : Nat) (h : digitsOf 10 N = out ++ digitsOf 10 (p + 10 ^ (j + 1) * q)) (hp : 0 < p ∨ 0 < q) :
    digitsOf 10 N = (out ++ [p % 10]) ++ digitsOf 10 (p / 10 + 10 ^ j * q) := by
  have hpos : 0 < p + 10 ^ (j + 1) * q := by
    rcases hp with hp | hp
    · omega
    · have := Nat.mul_pos (Nat.pow_pos (n := j + 1) (show 0 < 10 by omega)) hp
      omega
  rw [digitsOf_pos (by omega) hpos, (text_digit p q j).1, (text_digit p q j).2] at h
  rw [h, List.append_assoc]; rfl

theorem text_bound (p j : Nat) (h : p < 10 ^ (j + 1)) : p / 10 < 10 ^ j := by
  rw [Nat.pow_succ] at h
  omega

/-- The words of a slice whose last one isn't 0. -/
theorem canon_digs_pos (l : List Nat) (h : Canon l) : 0 < digs W l ↔ 0 < l.length := by
  constructor
  · intro h1
    rcases Nat.eq_zero_or_pos l.length with h2 | h2
    · rw [List.eq_nil_of_length_eq_zero h2] at h1; simp [digs] at h1
    · exact h2
  · intro h1
    exact digs_pos_of_canon (by decide) h (by intro e; rw [e] at h1; simp at h1)

theorem canon_take_of_last (cells : List Nat) (n : Nat) (hn : n ≤ cells.length) (h : n = 0 ∨ cells.getD (n - 1) 0 ≠ 0) : Canon (cells.take n) := by
  unfold Canon
  by_cases h0 : n = 0
  · subst h0; simp
  · rw [List.getLast?_take, if_neg h0, List.getElem?_eq_getElem (by omega)]
    rcases h with h | h
    · exact absurd h h0
    · rw [List.getD_eq_getElem?_getD, List.getElem?_eq_getElem (by omega)] at h
      simpa using h

theorem digs_take_drop_zero (cells : List Nat) (n : Nat) (hn : n + 1 ≤ cells.length) (h : cells.getD n 0 = 0) : digs W (cells.take (n + 1)) = digs W (cells.take n) := by
  rw [digs_take_succ _ _ (by omega), h]; simp

/-- The text at the end: the digits, the last one first. -/
theorem text_dec (N : Nat) (out : List Nat) (h : digitsOf 10 N = out) : decL N = if out = [] then [48] else (out.map (· + 48)).reverse := by
  unfold decL
  by_cases h0 : N = 0
  · subst h0
    rw [← h, digitsOf_zero]; rfl
  · rw [if_neg h0, h, if_neg]
    intro e
    rw [e] at h
    exact h0 ((digitsOf_eq_nil (by omega)).1 h)

end Num
end Go.Proofs.Ytlomlcljjidfjaa
