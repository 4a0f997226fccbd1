/- Long division: one step, plain laws. -/
import Derived.Test.YtlomlcljjidfjaaNatH
namespace Go.Proofs.Ytlomlcljjidfjaa
namespace Num

theorem split2 (Y : List Nat) (n : Nat) (hn : Y.length = n) (h2 : 2 ≤ n) (hY : AllLt W Y) :
    (Y.getD (n - 1) 0 * W + Y.getD (n - 2) 0) * W ^ (n - 2) ≤ digs W Y ∧ digs W Y < (Y.getD (n - 1) 0 * W + Y.getD (n - 2) 0 + 1) * W ^ (n - 2) := by
  have e1 := digs_take_succ (B := W) Y (n - 1) (by omega)
  have e2 := digs_take_succ (B := W) Y (n - 2) (by omega)
  rw [show n - 1 + 1 = n by omega, List.take_of_length_le (by omega)] at e1
  rw [show n - 2 + 1 = n - 1 by omega] at e2
  have h3 := digs_lt (show 0 < W by decide) (hY.take (n - 2))
  rw [List.length_take, Nat.min_eq_left (by omega)] at h3
  have e4 : W ^ (n - 1) = W ^ (n - 2) * W := by rw [← Nat.pow_succ]; congr 1; omega
  rw [e1, e2, e4]
  generalize digs W (Y.take (n - 2)) = r at *
  generalize Y.getD (n - 1) 0 = a
  generalize Y.getD (n - 2) 0 = b
  generalize W ^ (n - 2) = m at *
  generalize W = w at *
  constructor <;> grind

theorem split3 (X : List Nat) (n : Nat) (hn : X.length = n + 1) (h2 : 2 ≤ n) (hX : AllLt W X) :
    ((X.getD n 0 * W + X.getD (n - 1) 0) * W + X.getD (n - 2) 0) * W ^ (n - 2) ≤ digs W X ∧ digs W X < ((X.getD n 0 * W + X.getD (n - 1) 0) * W + X.getD (n - 2) 0 + 1) * W ^ (n - 2) := by
  have e0 := digs_take_succ (B := W) X n (by omega)
  have e1 := digs_take_succ (B := W) X (n - 1) (by omega)
  have e2 := digs_take_succ (B := W) X (n - 2) (by omega)
  rw [List.take_of_length_le (by omega)] at e0
  rw [show n - 1 + 1 = n by omega] at e1
  rw [show n - 2 + 1 = n - 1 by omega] at e2
  have h3 := digs_lt (show 0 < W by decide) (hX.take (n - 2))
  rw [List.length_take, Nat.min_eq_left (by omega)] at h3
  have e4 : W ^ (n - 1) = W ^ (n - 2) * W := by rw [← Nat.pow_succ]; congr 1; omega
  have e5 : W ^ n = W ^ (n - 2) * W * W := by rw [← Nat.pow_succ, ← Nat.pow_succ]; congr 1; omega
  rw [e0, e1, e2, e4, e5]
  generalize digs W (X.take (n - 2)) = r at *
  generalize X.getD n 0 = a
  generalize X.getD (n - 1) 0 = b
  generalize X.getD (n - 2) 0 = c
  generalize W ^ (n - 2) = m at *
  generalize W = w at *
  constructor <;> grind

/-- All that the loop of the digit wants to know: x0, x1, x2 the leading digits of u, y1, y2 those of v. -/
structure Guess (u v x0 x1 x2 y1 y2 q : Nat) : Prop where
  hx0 : x0 < W
  hx1 : x1 < W
  hx2 : x2 < W
  hy1 : y1 < W
  hy2 : y2 < W
  big : 2147483648 ≤ y1
  qW : q < W
  top : x0 * W + x1 ≤ y1 * W + y2
  ge : ∀ d, (x0 * W + x1) * W + x2 < d * (y1 * W + y2) → q < d
  le : ∀ d, d * (y1 * W + y2) ≤ (x0 * W + x1) * W + x2 → d < W → d ≤ q + 1

theorem Guess.mk' {Y S : List Nat} {n : Nat} (hn : Y.length = n) (h2 : 2 ≤ n) (hY : AllLt W Y) (hS : S.length = n + 1) (hSl : AllLt W S) (hbig : 2147483648 ≤ Y.getD (n - 1) 0) (hu : digs W S < W * digs W Y) :
    Guess (digs W S) (digs W Y) (S.getD n 0) (S.getD (n - 1) 0) (S.getD (n - 2) 0) (Y.getD (n - 1) 0) (Y.getD (n - 2) 0) (digs W S / digs W Y) := by
  have hW : (0 : Nat) < W := by decide
  obtain ⟨a1, a2⟩ := split2 Y n hn h2 hY
  obtain ⟨b1, b2⟩ := split3 S n hS h2 hSl
  have g1 := hY.getD hW (n - 1)
  have g2 := hY.getD hW (n - 2)
  have g3 := hSl.getD hW n
  have g4 := hSl.getD hW (n - 1)
  have g5 := hSl.getD hW (n - 2)
  have hm : 0 < W ^ (n - 2) := Nat.pow_pos hW
  generalize Y.getD (n - 1) 0 = y1 at *
  generalize Y.getD (n - 2) 0 = y2 at *
  generalize S.getD n 0 = x0 at *
  generalize S.getD (n - 1) 0 = x1 at *
  generalize S.getD (n - 2) 0 = x2 at *
  generalize W ^ (n - 2) = m at *
  generalize digs W S = u at *
  generalize digs W Y = v at *
  have hyW : W ≤ y1 * W := Nat.le_mul_of_pos_left _ (by omega)
  have hv0 : 0 < v := by
    have : 1 * m ≤ (y1 * W + y2) * m := Nat.mul_le_mul_right _ (Nat.le_trans (Nat.le_trans hW hyW) (Nat.le_add_right _ _))
    omega
  refine ⟨g3, g4, g5, g1, g2, hbig, ?_, ?_, fun d hd => guess_ge a1 b2 hd, fun d hd hdW => guess_le hm a2 hv0 b1 hd (Nat.le_trans (Nat.le_of_lt hdW) (Nat.le_trans hyW (Nat.le_add_right _ _)))⟩
  · rw [Nat.div_lt_iff_lt_mul hv0]; exact hu
  · have h1 : ((x0 * W + x1) * W + x2) * m < W * ((y1 * W + y2 + 1) * m) := by
      calc ((x0 * W + x1) * W + x2) * m ≤ u := b1
        _ < W * v := hu
        _ ≤ W * ((y1 * W + y2 + 1) * m) := Nat.mul_le_mul_left _ (Nat.le_of_lt a2)
    rw [← Nat.mul_assoc] at h1
    have h2 := Nat.lt_of_mul_lt_mul_right h1
    generalize W = ww at *
    have h3 : ww * (x0 * ww + x1) < ww * (y1 * ww + y2 + 1) := by rw [Nat.mul_comm ww (x0 * ww + x1)]; omega
    have := Nat.lt_of_mul_lt_mul_left h3
    omega

/-- The first guess. -/
theorem Guess.start {u v x0 x1 x2 y1 y2 q : Nat} (G : Guess u v x0 x1 x2 y1 y2 q) :
    q ≤ (x0 * W + x1) / y1 ∧ (x0 * W + x1) / y1 ≤ W + 1 ∧ (x0 * W + x1) % y1 < y1 ∧ (x0 * W + x1) / y1 * y1 + (x0 * W + x1) % y1 = x0 * W + x1 := by
  have hy : 0 < y1 := by have := G.big; omega
  have h1 := Nat.div_add_mod (x0 * W + x1) y1
  have h2 := Nat.mod_lt (x0 * W + x1) hy
  have h3 := G.top
  have hbig := G.big
  have hy2 := G.hy2
  have hx2 := G.hx2
  have hge := G.ge q
  have hWv : W ≤ 4294967296 := Nat.le_refl _
  have hW1 : 0 < W := by decide
  refine ⟨?_, ?_, h2, by rw [Nat.mul_comm]; exact h1⟩
  · rcases Nat.lt_or_ge ((x0 * W + x1) / y1) q with h | h
    · exfalso
      clear G
      generalize W = ww at *
      have h4 := hge ?_
      · omega
      · have h5 : ((x0 * ww + x1) / y1 + 1) * y1 ≤ q * y1 := Nat.mul_le_mul_right _ h
        rw [Nat.add_mul, Nat.mul_comm _ y1] at h5
        have h6 : (x0 * ww + x1 + 1) * ww ≤ q * y1 * ww := Nat.mul_le_mul_right _ (by omega)
        rw [Nat.add_mul _ 1 ww] at h6
        rw [Nat.mul_add, ← Nat.mul_assoc]
        generalize (x0 * ww + x1) * ww = z at *
        generalize q * y1 * ww = z2 at *
        omega
    · exact h
  · rw [Nat.div_le_iff_le_mul_add_pred hy]
    clear G hge
    generalize W = ww at *
    have : y1 * (ww + 1) = y1 * ww + y1 := by rw [Nat.mul_add, Nat.mul_one]
    omega

/-- A guess that is too great. -/
theorem Guess.down {u v x0 x1 x2 y1 y2 q : Nat} (G : Guess u v x0 x1 x2 y1 y2 q) {d r : Nat} (he : d * y1 + r = x0 * W + x1) (ht : W ≤ d ∨ r * W + x2 < d * y2) : q < d := by
  rcases ht with h | h
  · have := G.qW; omega
  · apply G.ge
    rw [Nat.mul_add, ← Nat.mul_assoc, ← he, Nat.add_mul]
    clear G he
    generalize W = ww at *
    omega

/-- The last guess, the test being false. -/
theorem Guess.done {u v x0 x1 x2 y1 y2 q : Nat} (G : Guess u v x0 x1 x2 y1 y2 q) {d r : Nat} (he : d * y1 + r = x0 * W + x1) (h1 : d < W) (ht : d * y2 ≤ r * W + x2) : d ≤ q + 1 := by
  refine G.le d ?_ h1
  rw [Nat.mul_add, ← Nat.mul_assoc, ← he, Nat.add_mul]
  clear G he h1
  generalize W = ww at *
  omega

/-- The last guess, the rest being too great. -/
theorem Guess.done2 {u v x0 x1 x2 y1 y2 q : Nat} (G : Guess u v x0 x1 x2 y1 y2 q) {d r : Nat} (he : d * y1 + r = x0 * W + x1) (h1 : d ≤ W) (hr : W ≤ r) : d < W ∧ d ≤ q + 1 := by
  have hlt : d < W := by
    rcases Nat.lt_or_ge d W with h | h
    · exact h
    · exfalso
      have hd : d = W := Nat.le_antisymm h1 h
      have h3 := G.top
      have h4 := G.hy2
      rw [hd, Nat.mul_comm W y1] at he
      clear G hd h h1
      generalize W = ww at *
      omega
  refine ⟨hlt, G.le d ?_ hlt⟩
  have h5 : d * y2 ≤ W * W := Nat.mul_le_mul h1 (Nat.le_of_lt G.hy2)
  have h6 : W * W ≤ r * W := Nat.mul_le_mul_right _ hr
  rw [Nat.mul_add, ← Nat.mul_assoc, ← he, Nat.add_mul]
  clear G he h1 hr hlt
  generalize W = ww at *
  omega

/-- A guess that is down by one. -/
theorem Guess.next {u v x0 x1 x2 y1 y2 q : Nat} (_ : Guess u v x0 x1 x2 y1 y2 q) {d r : Nat} (he : d * y1 + r = x0 * W + x1) (hd : 0 < d) : (d - 1) * y1 + (r + y1) = x0 * W + x1 := by
  obtain ⟨e, rfl⟩ : ∃ e, d = e + 1 := ⟨d - 1, by omega⟩
  rw [Nat.add_mul] at he
  simp only [Nat.add_sub_cancel]
  omega

/-- The true digit, taken away. -/
theorem take_digit {u v q d : Nat} (hv : 0 < v) (hq : q = u / v) (h1 : q ≤ d) (h2 : d ≤ q + 1) :
    (u < d * v ↔ d = q + 1) ∧ (d = q → u - d * v = u % v) ∧ (d = q + 1 → ∀ M, v ≤ M → (u + M - d * v + v) % M = u % v) := by
  subst hq
  have e := Nat.div_add_mod u v
  have hm := Nat.mod_lt u hv
  generalize u / v = q at *
  generalize u % v = r at *
  have e2 : q * v = v * q := Nat.mul_comm _ _
  refine ⟨⟨fun h => ?_, fun h => ?_⟩, fun h => ?_, fun h M hM => ?_⟩
  · rcases Nat.lt_or_ge q d with h3 | h3
    · omega
    · obtain rfl : d = q := by omega
      omega
  · subst h; rw [Nat.add_mul]; omega
  · subst h; omega
  · subst h
    rw [Nat.add_mul]
    have : u + M - (q * v + 1 * v) + v = M + r := by omega
    rw [this, Nat.add_mod_left, Nat.mod_eq_of_lt (by omega)]

end Num
end Go.Proofs.Ytlomlcljjidfjaa
