/- Rational numbers as pairs in lowest terms: differences, quotients, the order; texts. -/
import Derived.Test.YtlomlcljjidfjaaRPlain
import Derived.Test.YtlomlcljjidfjaaRGive
namespace Go.Proofs.Ytlomlcljjidfjaa
open Num

namespace Q

theorem le_of_mul {a b c : Nat} (hc : 0 < c) (h : c * a ≤ c * b) : a ≤ b := Nat.le_of_mul_le_mul_left h hc

theorem sub_add_ok {a b : Nat × Nat} (ha : Low a) (hb : Low b) : b.1 * (add a b).2 ≤ (add a b).1 * b.2 := by
  obtain ⟨g, hg, e1, e2, e3, e4⟩ := red_spec (a.1 * b.2 + b.1 * a.2) (a.2 * b.2) (Nat.mul_pos ha.1 hb.1)
  unfold add
  generalize red (a.1 * b.2 + b.1 * a.2) (a.2 * b.2) = s at *
  refine le_of_mul hg ?_
  calc g * (b.1 * s.2) = b.1 * (a.2 * b.2) := by rw [e2]; grind
    _ ≤ (a.1 * b.2 + b.1 * a.2) * b.2 := by
      rw [Nat.add_mul, ← Nat.mul_assoc]
      exact Nat.le_add_left _ _
    _ = g * (s.1 * b.2) := by rw [e1]; grind

theorem sub_add {a b : Nat × Nat} (ha : Low a) (hb : Low b) : sub (add a b) b = a := by
  have hok := sub_add_ok ha hb
  obtain ⟨g, hg, e1, e2, e3, e4⟩ := red_spec (a.1 * b.2 + b.1 * a.2) (a.2 * b.2) (Nat.mul_pos ha.1 hb.1)
  unfold sub
  unfold add at *
  generalize red (a.1 * b.2 + b.1 * a.2) (a.2 * b.2) = s at *
  refine (red_eq (Nat.mul_pos e4 hb.1) ha.1 ?_).trans (red_of_low ha)
  refine Nat.eq_of_mul_eq_mul_left hg ?_
  obtain ⟨t, ht⟩ := Nat.exists_eq_add_of_le hok
  have h1 : s.1 * b.2 - b.1 * s.2 = t := by omega
  rw [h1]
  have h2 : g * t = a.1 * b.2 * b.2 := by
    have h3 : g * (s.1 * b.2) = g * (b.1 * s.2) + g * t := by rw [ht, Nat.mul_add]
    have h4 : g * (s.1 * b.2) = (a.1 * b.2 + b.1 * a.2) * b.2 := by rw [e1]; grind
    have h5 : g * (b.1 * s.2) = b.1 * (a.2 * b.2) := by rw [e2]; grind
    have h6 : (a.1 * b.2 + b.1 * a.2) * b.2 = b.1 * (a.2 * b.2) + a.1 * b.2 * b.2 := by grind
    omega
  calc g * (t * a.2) = (g * t) * a.2 := by grind
    _ = a.1 * b.2 * b.2 * a.2 := by rw [h2]
    _ = a.1 * ((a.2 * b.2) * b.2) := by grind
    _ = g * (a.1 * (s.2 * b.2)) := by rw [e2]; grind

theorem div_mul {a b : Nat × Nat} (ha : Low a) (hb : Low b) (h : 0 < b.1) : div (mul a b) b = a := by
  obtain ⟨g, hg, e1, e2, e3, e4⟩ := red_spec (a.1 * b.1) (a.2 * b.2) (Nat.mul_pos ha.1 hb.1)
  unfold div mul
  generalize red (a.1 * b.1) (a.2 * b.2) = m at *
  refine (red_eq (Nat.mul_pos e4 h) ha.1 ?_).trans (red_of_low ha)
  refine Nat.eq_of_mul_eq_mul_left hg ?_
  calc g * (m.1 * b.2 * a.2) = (g * m.1) * (a.2 * b.2) := by grind
    _ = (a.1 * b.1) * (g * m.2) := by rw [← e1, ← e2]
    _ = g * (a.1 * (m.2 * b.1)) := by grind

theorem mul_div {a b : Nat × Nat} (ha : Low a) (hb : Low b) (h : 0 < b.1) : mul (div a b) b = a := by
  obtain ⟨g, hg, e1, e2, e3, e4⟩ := red_spec (a.1 * b.2) (a.2 * b.1) (Nat.mul_pos ha.1 h)
  unfold div mul
  generalize red (a.1 * b.2) (a.2 * b.1) = m at *
  refine (red_eq (Nat.mul_pos e4 hb.1) ha.1 ?_).trans (red_of_low ha)
  refine Nat.eq_of_mul_eq_mul_left hg ?_
  calc g * (m.1 * b.1 * a.2) = (g * m.1) * (a.2 * b.1) := by grind
    _ = (a.1 * b.2) * (g * m.2) := by rw [← e1, ← e2]
    _ = g * (a.1 * (m.2 * b.2)) := by grind

theorem cmpI_scale {x y k t : Nat} (hk : 0 < k) : cmpI (k * x + t) (k * y + t) = cmpI x y := by
  unfold cmpI
  have h1 : k * x + t < k * y + t ↔ x < y := by
    rw [Nat.add_lt_add_iff_right]; exact Nat.mul_lt_mul_left hk
  have h2 : k * x + t = k * y + t ↔ x = y := by
    rw [Nat.add_right_cancel_iff]; exact ⟨fun h => Nat.eq_of_mul_eq_mul_left hk h, fun h => by rw [h]⟩
  simp only [h1, h2]

theorem cmp_red {n d n' d' : Nat} (hd : 0 < d) (hd' : 0 < d') : cmp (red n d) (red n' d') = cmpI (n * d') (n' * d) := by
  obtain ⟨g, hg, e1, e2, e3, e4⟩ := red_spec n d hd
  obtain ⟨g', hg', f1, f2, f3, f4⟩ := red_spec n' d' hd'
  unfold cmp
  generalize red n d = u at *
  generalize red n' d' = v at *
  subst e1 e2 f1 f2
  have := cmpI_scale (x := u.1 * v.2) (y := v.1 * u.2) (k := g * g') (t := 0) (Nat.mul_pos hg hg')
  rw [← this]
  congr 1 <;> grind

theorem cmp_add {a b c : Nat × Nat} (ha : Low a) (hb : Low b) (hc : Low c) : cmp (add a c) (add b c) = cmp a b := by
  unfold add
  rw [cmp_red (Nat.mul_pos ha.1 hc.1) (Nat.mul_pos hb.1 hc.1)]
  have := cmpI_scale (x := a.1 * b.2) (y := b.1 * a.2) (k := c.2 * c.2) (t := c.1 * a.2 * b.2 * c.2) (Nat.mul_pos hc.1 hc.1)
  unfold cmp
  rw [← this]
  congr 1 <;> grind

theorem cmp_mul {a b c : Nat × Nat} (ha : Low a) (hb : Low b) (hc : Low c) (h : 0 < c.1) : cmp (mul a c) (mul b c) = cmp a b := by
  unfold mul
  rw [cmp_red (Nat.mul_pos ha.1 hc.1) (Nat.mul_pos hb.1 hc.1)]
  have := cmpI_scale (x := a.1 * b.2) (y := b.1 * a.2) (k := c.1 * c.2) (t := 0) (Nat.mul_pos h hc.1)
  unfold cmp
  rw [← this]
  congr 1 <;> grind

theorem cmp_le {p q : Nat × Nat} : cmp p q ≤ 0 ↔ p.1 * q.2 ≤ q.1 * p.2 := by
  unfold cmp cmpI
  constructor
  · intro h
    split at h
    · omega
    · split at h <;> omega
  · intro h
    split
    · omega
    · split <;> omega

theorem cmp_ge {p q : Nat × Nat} : 0 ≤ cmp p q ↔ q.1 * p.2 ≤ p.1 * q.2 := by
  unfold cmp cmpI
  constructor
  · intro h
    split at h
    · omega
    · split at h <;> omega
  · intro h
    split
    · omega
    · split <;> omega

theorem cmp_trans {a b c : Nat × Nat} (hb : Low b) (h1 : cmp a b ≤ 0) (h2 : cmp b c ≤ 0) : cmp a c ≤ 0 := by
  rw [cmp_le] at *
  refine le_of_mul hb.1 ?_
  calc b.2 * (a.1 * c.2) = (a.1 * b.2) * c.2 := by grind
    _ ≤ (b.1 * a.2) * c.2 := Nat.mul_le_mul_right _ h1
    _ = (b.1 * c.2) * a.2 := by grind
    _ ≤ (c.1 * b.2) * a.2 := Nat.mul_le_mul_right _ h2
    _ = b.2 * (c.1 * a.2) := by grind

theorem low_zero {p : Nat × Nat} (h : Low p) (h0 : p.1 = 0) : p = (0, 1) := by
  obtain ⟨a, b⟩ := p
  obtain ⟨h1, h2⟩ := h
  simp only at *
  subst h0
  rw [Nat.gcd_zero_left] at h2
  rw [h2]

end Q

theorem bts_append (a b : ByteArray) : bts (a ++ b) = bts a ++ bts b := by
  simp [bts]

theorem no47 (n : Nat) : 47 ∉ decL n := fun h => by have := decL_digit n 47 h; omega

theorem bts_rtext {p : Nat × Nat} (h : Q.Low p) : bts (rtext p) = if p.2 = 1 then decL p.1 else decL p.1 ++ 47 :: decL p.2 := by
  unfold rtext
  rw [dn_of h.1]
  split
  · exact bts_dec _
  · rw [bts_append, bts_append, bts_dec, bts_dec]
    have : bts { data := #[47] } = [47] := rfl
    rw [this]; simp

theorem split47 : ∀ (a b c d : List Nat), 47 ∉ a → 47 ∉ c → a ++ 47 :: b = c ++ 47 :: d → a = c ∧ b = d
  | [], b, [], d, _, _, h => ⟨rfl, by simpa using h⟩
  | [], b, x :: c, d, _, hc, h => by
    simp only [List.nil_append, List.cons_append, List.cons.injEq] at h
    exact absurd (by rw [h.1]; exact List.mem_cons_self) hc
  | x :: a, b, [], d, ha, _, h => by
    simp only [List.nil_append, List.cons_append, List.cons.injEq] at h
    exact absurd (by rw [← h.1]; exact List.mem_cons_self) ha
  | x :: a, b, y :: c, d, ha, hc, h => by
    simp only [List.cons_append, List.cons.injEq] at h
    have := split47 a b c d (fun m => ha (List.mem_cons_of_mem _ m)) (fun m => hc (List.mem_cons_of_mem _ m)) h.2
    exact ⟨by rw [h.1, this.1], this.2⟩

theorem decL_inj {a b : Nat} (h : decL a = decL b) : a = b := by rw [← decVal_decL a, h, decVal_decL]

theorem rtext_inj {p q : Nat × Nat} (hp : Q.Low p) (hq : Q.Low q) (h : rtext p = rtext q) : p = q := by
  have h1 := congrArg bts h
  rw [bts_rtext hp, bts_rtext hq] at h1
  obtain ⟨a, b⟩ := p
  obtain ⟨c, d⟩ := q
  simp only at h1
  split at h1 <;> split at h1
  · rename_i h2 h3
    rw [decL_inj h1, h2, h3]
  · exact absurd (by rw [h1]; simp) (no47 a)
  · exact absurd (by rw [← h1]; simp) (no47 c)
  · obtain ⟨h2, h3⟩ := split47 _ _ _ _ (no47 a) (no47 c) h1
    rw [decL_inj h2, decL_inj h3]

theorem toList_ne {a b : ByteArray} (h : a ≠ b) : ¬ a.toList = b.toList := fun e => h (by
  rw [ByteArray.toList_eq, ByteArray.toList_eq] at e
  cases a; cases b
  simpa using Array.toList_inj.1 e)

theorem rtext_zero : rtext (0, 1) = { data := #[48] } := by kernel_rfl

/-- When the text is '0'. -/
theorem rtext_is0 {p : Nat × Nat} (hp : Q.Low p) (h : p.1 = 0) : (rtext p).toList = [48] := by
  rw [Q.low_zero hp h, rtext_zero, ByteArray.toList_eq]
theorem rtext_not0 {p : Nat × Nat} (hp : Q.Low p) (h : p.1 ≠ 0) : ((rtext p).toList == [48]) = false := by
  rw [beq_eq_false_iff_ne]
  intro e
  have h0 : Q.Low (0, 1) := ⟨by decide, by decide⟩
  have : (rtext p).toList = (rtext (0, 1)).toList := by rw [e, rtext_zero, ByteArray.toList_eq]
  have h1 : rtext p = rtext (0, 1) := Decidable.byContradiction fun hne => toList_ne hne this
  exact h (by rw [rtext_inj hp h0 h1])

end Go.Proofs.Ytlomlcljjidfjaa
