/- Long division: plain laws. -/
import Derived.Test.YtlomlcljjidfjaaNatF
namespace Go.Proofs.Ytlomlcljjidfjaa
namespace Num

/-! ### A multiple is taken away -/
def ta1 (x r : Nat) : Nat := if x < r then x + W - r else x - r
def ta2 (x r p : Nat) : Nat := p / W + if x < r then 1 else 0

def ta (d : Nat) : Nat → List Nat → List Nat → List Nat × Nat
  | b, x :: xs, y :: ys => let p := d * y + b; let t := ta d (ta2 x (p % W) p) xs ys; (ta1 x (p % W) :: t.1, t.2)
  | b, _, _ => ([], b)

theorem ta_length (d : Nat) : ∀ (xs ys : List Nat) (b : Nat), xs.length = ys.length → (ta d b xs ys).1.length = xs.length
  | [], _, _, _ => by simp [ta]
  | x :: xs, y :: ys, b, h => by simp [ta, ta_length d xs ys _ (by simpa using h)]

theorem ta_snoc (d : Nat) : ∀ (xs ys : List Nat) (b x y : Nat), xs.length = ys.length →
    ta d b (xs ++ [x]) (ys ++ [y]) = ((ta d b xs ys).1 ++ [ta1 x ((d * y + (ta d b xs ys).2) % W)], ta2 x ((d * y + (ta d b xs ys).2) % W) (d * y + (ta d b xs ys).2))
  | [], [], b, x, y, _ => rfl
  | u :: xs, v :: ys, b, x, y, h => by simp [ta, ta_snoc d xs ys _ x y (by simpa using h)]

theorem ta_take_succ (d b : Nat) (xs ys : List Nat) (k : Nat) (h : xs.length = ys.length) (hk : k < xs.length) :
    ta d b (xs.take (k + 1)) (ys.take (k + 1)) = ((ta d b (xs.take k) (ys.take k)).1 ++ [ta1 (xs.getD k 0) ((d * ys.getD k 0 + (ta d b (xs.take k) (ys.take k)).2) % W)],
      ta2 (xs.getD k 0) ((d * ys.getD k 0 + (ta d b (xs.take k) (ys.take k)).2) % W) (d * ys.getD k 0 + (ta d b (xs.take k) (ys.take k)).2)) := by
  rw [List.take_succ_eq_append_getElem hk, List.take_succ_eq_append_getElem (by omega), ta_snoc _ _ _ _ _ _ (by simp; omega)]
  simp [List.getD_eq_getElem?_getD, hk, show k < ys.length by omega]

theorem ta2_lt {x y b d : Nat} (hy : y < W) (hb : b < W) (hd : d < W) : ta2 x ((d * y + b) % W) (d * y + b) < W := by
  have h1 : d * y ≤ (W - 1) * (W - 1) := Nat.mul_le_mul (by omega) (by omega)
  unfold ta2 W at *
  generalize d * y = p at *
  split <;> omega

theorem ta1_lt {x r : Nat} (hx : x < W) (hr : r < W) : ta1 x r < W := by unfold ta1; split <;> omega

theorem ta_eq (x r p : Nat) (hx : x < W) (hr : r = p % W) : x + W * ta2 x r p = p + ta1 x r := by
  subst hr
  unfold ta1 ta2
  have := Nat.div_add_mod p W
  have := Nat.mod_lt p (show 0 < W by decide)
  split
  · rw [Nat.mul_add]; omega
  · rw [Nat.mul_add]; omega

theorem ta_spec (d : Nat) (hd : d < W) : ∀ (xs ys : List Nat) (b : Nat), xs.length = ys.length → AllLt W xs → AllLt W ys → b < W →
    digs W xs + W ^ xs.length * (ta d b xs ys).2 = d * digs W ys + b + digs W (ta d b xs ys).1 ∧ AllLt W (ta d b xs ys).1 ∧ (ta d b xs ys).2 < W
  | [], [], b, _, _, _, hb => by simp [ta, digs, AllLt.nil, hb]
  | x :: xs, y :: ys, b, h, hx, hy, hb => by
    have hx0 : x < W := hx x (by simp)
    have hy0 : y < W := hy y (by simp)
    have hm := Nat.mod_lt (d * y + b) (show 0 < W by decide)
    obtain ⟨h1, h2, h3⟩ := ta_spec d hd xs ys (ta2 x ((d * y + b) % W) (d * y + b)) (by simpa using h) (fun z hz => hx z (by simp [hz])) (fun z hz => hy z (by simp [hz])) (ta2_lt hy0 hb hd)
    refine ⟨?_, AllLt.cons (ta1_lt hx0 hm) h2, h3⟩
    have h4 := ta_eq x ((d * y + b) % W) (d * y + b) hx0 rfl
    simp only [ta, digs, List.length_cons, Nat.pow_succ]
    generalize (ta d (ta2 x ((d * y + b) % W) (d * y + b)) xs ys).2 = z at *
    generalize digs W (ta d (ta2 x ((d * y + b) % W) (d * y + b)) xs ys).1 = o at *
    generalize ta1 x ((d * y + b) % W) = s at *
    generalize ta2 x ((d * y + b) % W) (d * y + b) = c at *
    generalize W ^ xs.length = p at *
    generalize digs W xs = u at *
    generalize digs W ys = v at *
    generalize W = w at *
    grind

/-- The highest digit, too. -/
theorem ta_top (d : Nat) (hd : d < W) (xs ys : List Nat) (t : Nat) (h : xs.length = ys.length) (hx : AllLt W xs) (hy : AllLt W ys) (ht : t < W) :
    (t < (ta d 0 xs ys).2 ↔ digs W (xs ++ [t]) < d * digs W ys) ∧
    digs W ((ta d 0 xs ys).1 ++ [ta1 t (ta d 0 xs ys).2]) = (if digs W (xs ++ [t]) < d * digs W ys then digs W (xs ++ [t]) + W ^ (xs.length + 1) - d * digs W ys else digs W (xs ++ [t]) - d * digs W ys) := by
  obtain ⟨h1, h2, h3⟩ := ta_spec d hd xs ys 0 h hx hy (by decide)
  have hl := ta_length d xs ys 0 h
  have hlo := digs_lt (show 0 < W by decide) h2
  rw [hl] at hlo
  rw [digs_snoc, digs_snoc, hl, Nat.pow_succ]
  generalize (ta d 0 xs ys).2 = b at *
  generalize digs W (ta d 0 xs ys).1 = o at *
  generalize digs W xs = u at *
  generalize d * digs W ys = v at *
  generalize hp : W ^ xs.length = p at *
  by_cases htb : t < b
  · have e1 : p * (t + 1) ≤ p * b := Nat.mul_le_mul_left _ htb
    rw [Nat.mul_add] at e1
    have hlt : u + p * t < v := by omega
    refine ⟨⟨fun _ => hlt, fun _ => htb⟩, ?_⟩
    rw [if_pos hlt]
    unfold ta1
    rw [if_pos htb]
    have e2 : p * (t + W - b) + p * b = p * t + p * W := by rw [← Nat.mul_add, ← Nat.mul_add]; congr 1; omega
    omega
  · have e1 : p * b ≤ p * t := Nat.mul_le_mul_left _ (by omega)
    have hlt : ¬ u + p * t < v := by omega
    refine ⟨⟨fun h => absurd h htb, fun h => absurd h hlt⟩, ?_⟩
    rw [if_neg hlt]
    unfold ta1
    rw [if_neg htb]
    have e2 : p * (t - b) + p * b = p * t := by rw [← Nat.mul_add]; congr 1; omega
    omega

/-! ### Given back -/
theorem gb_top (xs ys : List Nat) (t : Nat) (h : xs.length = ys.length) :
    digs W ((cl W 0 (addL xs ys)).1 ++ [(t + (cl W 0 (addL xs ys)).2) % W]) = (digs W (xs ++ [t]) + digs W ys) % W ^ (xs.length + 1) := by
  have h1 := cl_digs W (addL xs ys) 0
  have hl := cl_length W (addL xs ys) 0
  have hlt := digs_lt (show 0 < W by decide) (cl_lt W (by decide) (addL xs ys) 0)
  rw [addL_length _ _ h] at h1 hl
  rw [hl] at hlt
  rw [digs_addL _ _ _ h] at h1
  rw [digs_snoc, digs_snoc, hl, Nat.pow_succ]
  generalize (cl W 0 (addL xs ys)).2 = b at *
  generalize digs W (cl W 0 (addL xs ys)).1 = o at *
  generalize digs W xs = u at *
  generalize digs W ys = v at *
  generalize hp : W ^ xs.length = p at *
  have e1 : u + p * t + v = o + p * (t + b) := by rw [Nat.mul_add]; omega
  have e2 := Nat.div_add_mod (t + b) W
  have e3 := Nat.mod_lt (t + b) (show 0 < W by decide)
  rw [e1]
  generalize (t + b) / W = q at *
  generalize (t + b) % W = r at *
  rw [← e2]
  have e4 : o + p * (W * q + r) = o + p * r + p * W * q := by rw [Nat.mul_add, Nat.mul_assoc]; omega
  rw [e4, Nat.add_mul_mod_self_left, Nat.mod_eq_of_lt]
  have e5 : p * (r + 1) ≤ p * W := Nat.mul_le_mul_left _ e3
  rw [Nat.mul_add] at e5
  omega

/-! ### The digit of a quotient -/

/-- Of a guess d for u / v, where yy are the two leading digits of v, and t3 the three of u. -/
theorem guess_ge {u v yy t3 m d : Nat} (hv : yy * m ≤ v) (hu : u < (t3 + 1) * m) (hd : t3 < d * yy) : u / v < d := by
  have hv0 : 0 < v := by
    rcases Nat.eq_zero_or_pos v with h | h
    · subst h
      have : yy * m = 0 := by omega
      rcases Nat.mul_eq_zero.1 this with h1 | h1
      · subst h1; simp at hd
      · subst h1; simp at hu
    · exact h
  rw [Nat.div_lt_iff_lt_mul hv0]
  calc u < (t3 + 1) * m := hu
    _ ≤ (d * yy) * m := Nat.mul_le_mul_right _ hd
    _ = d * (yy * m) := Nat.mul_assoc _ _ _
    _ ≤ d * v := Nat.mul_le_mul_left _ hv

theorem guess_le {u v yy t3 m d : Nat} (hm : 0 < m) (hv : v < (yy + 1) * m) (hv0 : 0 < v) (hu : t3 * m ≤ u) (hd : d * yy ≤ t3) (hyy : d ≤ yy) : d ≤ u / v + 1 := by
  rcases Nat.lt_or_ge (u / v + 1) d with h | h
  · exfalso
    have h1 : u < (u / v + 1) * v := Nat.lt_mul_of_div_lt (Nat.lt_succ_self _) hv0
    generalize u / v = q at *
    obtain ⟨e, rfl⟩ : ∃ e, d = e + 1 := ⟨d - 1, by omega⟩
    have h2 : (q + 1) * v ≤ e * v := Nat.mul_le_mul_right _ (by omega)
    have h3 : e * v ≤ e * ((yy + 1) * m) := Nat.mul_le_mul_left _ (Nat.le_of_lt hv)
    have h4 : (e + 1) * yy * m ≤ u := Nat.le_trans (Nat.mul_le_mul_right _ hd) hu
    have h5 : (e + 1) * yy * m < e * ((yy + 1) * m) := by omega
    rw [← Nat.mul_assoc] at h5
    have h6 := Nat.lt_of_mul_lt_mul_right h5
    rw [Nat.add_mul, Nat.mul_add] at h6
    omega
  · exact h

end Num
end Go.Proofs.Ytlomlcljjidfjaa
