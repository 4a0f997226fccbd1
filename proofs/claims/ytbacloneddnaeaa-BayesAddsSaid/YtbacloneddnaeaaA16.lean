/- Texts of this claim, joined: RGive, RPlain2, XVal, BBig. -/
import Derived.Test.YtbacloneddnaeaaA15
import Derived.Test.YtbacloneddnaeaaA10
import Derived.Test.YtbacloneddnaeaaA14

/- The contracts of package rat, in numbers. -/
namespace Go.Proofs.Ytbacloneddnaeaa
open Go.RowKit Num

/-- A denominator of 0 stands for 1. -/
def dn (d : Nat) : Nat := if d = 0 then 1 else d
theorem dn_pos (d : Nat) : 0 < dn d := by unfold dn; split <;> omega
theorem dn_of {d : Nat} (h : 0 < d) : dn d = d := if_neg (by omega)
theorem nl_one : nl 1 = 1 := by decide
theorem nl_dn (d : Nat) : nl (dn d) ≤ nl d + 1 := by
  unfold dn; split
  · have := nl_one; omega
  · omega

/-- A pair as a value of type rat.Rat. -/
def ratV (p : Nat × Nat) : Value := .agg #[.string (nb p.1), .string (nb p.2)]
def nz (p : Nat × Nat) : Nat × Nat := (p.1, dn p.2)
theorem nz_low {p : Nat × Nat} (h : Q.Low p) : nz p = p := by unfold nz; rw [dn_of h.1]
theorem nz_pos (p : Nat × Nat) : 0 < (nz p).2 := dn_pos _

/-- Both parts have at most k bytes. -/
def Sm (k : Nat) (p : Nat × Nat) : Prop := nl p.1 ≤ k ∧ nl p.2 ≤ k

theorem Sm.mono {k m : Nat} {p : Nat × Nat} (h : Sm k p) (hm : k ≤ m) : Sm m p := ⟨Nat.le_trans h.1 hm, Nat.le_trans h.2 hm⟩
theorem Sm.red {k n d : Nat} (hn : nl n ≤ k) (hd : nl d ≤ k) : Sm k (Q.red n d) := ⟨Nat.le_trans (nl_mono (Nat.div_le_self _ _)) hn, Nat.le_trans (nl_mono (Nat.div_le_self _ _)) hd⟩
theorem Sm.nz {k : Nat} {p : Nat × Nat} (h : Sm k p) : Sm (k + 1) (nz p) := ⟨Nat.le_trans h.1 (by omega), Nat.le_trans (nl_dn _) (by have := h.2; omega)⟩
theorem Sm.add {k : Nat} {p q : Nat × Nat} (hp : Sm k p) (hq : Sm k q) : Sm (2 * k + 1) (Q.add p q) := by
  obtain ⟨h1, h2⟩ := hp
  obtain ⟨h3, h4⟩ := hq
  have e1 := nl_mul p.1 q.2
  have e2 := nl_mul q.1 p.2
  have e3 := nl_mul p.2 q.2
  have e4 := nl_add (p.1 * q.2) (q.1 * p.2)
  exact Sm.red (by omega) (by omega)
theorem Sm.sub {k : Nat} {p q : Nat × Nat} (hp : Sm k p) (hq : Sm k q) : Sm (2 * k + 1) (Q.sub p q) := by
  obtain ⟨h1, h2⟩ := hp
  obtain ⟨h3, h4⟩ := hq
  have e1 := nl_mul p.1 q.2
  have e3 := nl_mul p.2 q.2
  have e4 := nl_mono (Nat.sub_le (p.1 * q.2) (q.1 * p.2))
  exact Sm.red (by omega) (by omega)
theorem Sm.mul {k : Nat} {p q : Nat × Nat} (hp : Sm k p) (hq : Sm k q) : Sm (2 * k + 1) (Q.mul p q) := by
  obtain ⟨h1, h2⟩ := hp
  obtain ⟨h3, h4⟩ := hq
  have e1 := nl_mul p.1 q.1
  have e3 := nl_mul p.2 q.2
  exact Sm.red (by omega) (by omega)
theorem Sm.div {k : Nat} {p q : Nat × Nat} (hp : Sm k p) (hq : Sm k q) : Sm (2 * k + 1) (Q.div p q) := by
  obtain ⟨h1, h2⟩ := hp
  obtain ⟨h3, h4⟩ := hq
  have e1 := nl_mul p.1 q.2
  have e3 := nl_mul p.2 q.1
  exact Sm.red (by omega) (by omega)

theorem nb_z : nb 0 = { data := #[] } := rfl

theorem gRZeroY : Gives 79 #[natV 0] (.bool true) := w_zero_yes _ (gCmp 0 0 (by decide) (by decide))
theorem gRZeroN (a : Nat) (ha : nl a ≤ 1000000) (h : 0 < a) : Gives 79 #[natV a] (.bool false) := by
  have := gCmp a 0 (by omega) (by decide)
  rw [cmpI_gt h] at this
  exact w_zero_no _ 1 rfl this

theorem gRNew (n d : Nat) (hn : nl n ≤ 1000000) (hd : nl d ≤ 1000000) (h0 : 0 < d) : Gives 60 #[natV n, natV d] (.tuple #[ratV (Q.red n d), .bool true]) := by
  have hg : 0 < Nat.gcd n d := Nat.gcd_pos_of_pos_right n h0
  have bg := nl_mono (Nat.gcd_le_right n h0)
  exact w_new_yes _ _ _ _ _ _ _ (gRZeroN d hd h0) (gGcd n d (by omega) (by omega)) (gDiv n (Nat.gcd n d) (by omega) (by omega) (by omega)) (gDiv d (Nat.gcd n d) (by omega) (by omega) (by omega))
theorem gRNewZ (n : Nat) : Gives 60 #[natV n, natV 0] (.tuple #[ratV (0, 0), .bool false]) := w_new_no _ _ gRZeroY

theorem gRDen (p : Nat × Nat) (hp : nl p.2 ≤ 1000000) : Gives 42 #[ratV p] (natV (dn p.2)) := by
  obtain ⟨n, d⟩ := p
  rcases Nat.eq_zero_or_pos d with h | h
  · subst h
    exact w_den_z _ _ _ gRZeroY (gOf 1 (by decide))
  · rw [dn_of h]
    exact w_den _ _ (gRZeroN d hp h)

theorem gROf (m n : Nat) (hm : m < 18446744073709551616) (hn : n < 18446744073709551616) (h0 : 0 < n) : Gives 25 #[.int .u64 (m : Nat), .int .u64 (n : Nat)] (.tuple #[ratV (Q.red m n), .bool true]) :=
  w_of _ _ _ _ _ _ _ (gOf m hm) (gOf n hn) (gRNew m n (Nat.le_trans (nl_u64 hm) (by omega)) (Nat.le_trans (nl_u64 hn) (by omega)) h0)
theorem gROfZ (m : Nat) (hm : m < 18446744073709551616) : Gives 25 #[.int .u64 (m : Nat), .int .u64 ((0 : Nat) : Int)] (.tuple #[ratV (0, 0), .bool false]) :=
  w_of _ _ _ _ _ _ _ (gOf m hm) (gOf 0 (by decide)) (gRNewZ m)

/-- The text of a number. -/
def rtext (p : Nat × Nat) : ByteArray := if dn p.2 = 1 then dec p.1 else dec p.1 ++ { data := #[47] } ++ dec p.2

theorem dec_small_of (a m : Nat) (hm : 0 < m) (ha : nl a ≤ m) : (dec a).size ≤ 3 * m := by
  rw [dec_size]
  refine decL_length_le a (3 * m) (by omega) ?_
  refine Nat.lt_of_lt_of_le (lt_pow_nl a) ?_
  refine Nat.le_trans (Nat.pow_le_pow_right (by omega) ha) ?_
  rw [Nat.pow_mul]
  exact Nat.pow_le_pow_left (by omega) _
theorem dec_small (a : Nat) (ha : nl a ≤ 1000000) : (dec a).size ≤ 100000000000 := Nat.le_trans (dec_small_of a 1000000 (by omega) ha) (by omega)

theorem gRText (p : Nat × Nat) (hp : Sm 1000000 p) : Gives 16 #[ratV p] (.string (rtext p)) := by
  obtain ⟨n, d⟩ := p
  obtain ⟨h1, h2⟩ := hp
  have b := nl_dn d
  simp only at h1 h2
  have KC := gCmp (dn d) 1 (by omega) (by decide)
  unfold rtext
  by_cases h : dn d = 1
  · rw [if_pos h]
    rw [h, cmpI_eq] at KC
    have KD := gRDen (n, d) h2
    simp only [h] at KD
    exact w_text1 _ _ _ _ _ KD (gOf 1 (by decide)) KC (gText n (by omega))
  · rw [if_neg h]
    have : 1 < dn d := by have := dn_pos d; omega
    rw [cmpI_gt this] at KC
    exact w_text2 _ _ _ _ _ _ 1 rfl (dec_small n h1) (dec_small d h2) (gRDen (n, d) h2) (gOf 1 (by decide)) KC (gText n (by omega)) (gText d (by omega))

section
variable (p q : Nat × Nat) (hp : Sm 10000 p) (hq : Sm 10000 q)
include hp hq

theorem gRAdd : Gives 30 #[ratV p, ratV q] (ratV (Q.add (nz p) (nz q))) := by
  obtain ⟨h1, h2⟩ := hp.nz
  obtain ⟨h3, h4⟩ := hq.nz
  have e1 := nl_mul (nz p).1 (nz q).2
  have e2 := nl_mul (nz q).1 (nz p).2
  have e3 := nl_mul (nz p).2 (nz q).2
  have e4 := nl_add ((nz p).1 * (nz q).2) ((nz q).1 * (nz p).2)
  exact w_add _ _ _ _ _ _ (w_join_add _ _ _ _ _ _ _ _ _ _ _ _ (gRDen q (by have := hq.2; omega)) (gRDen p (by have := hp.2; omega)) (gMul (nz p).1 (nz q).2 (by omega) (by omega)) (gMul (nz q).1 (nz p).2 (by omega) (by omega))
    (w_add1 _ _ _ (gAdd _ _ (by omega) (by omega))) (gMul (nz p).2 (nz q).2 (by omega) (by omega)) (gRNew _ _ (by omega) (by omega) (Nat.mul_pos (nz_pos p) (nz_pos q))))

theorem gRMul : Gives 26 #[ratV p, ratV q] (ratV (Q.mul (nz p) (nz q))) := by
  obtain ⟨h1, h2⟩ := hp.nz
  obtain ⟨h3, h4⟩ := hq.nz
  have e1 := nl_mul (nz p).1 (nz q).1
  have e3 := nl_mul (nz p).2 (nz q).2
  exact w_mul _ _ _ _ _ _ _ _ _ _ (gRDen q (by have := hq.2; omega)) (gRDen p (by have := hp.2; omega)) (gMul (nz p).1 (nz q).1 (by omega) (by omega)) (gMul (nz p).2 (nz q).2 (by omega) (by omega))
    (gRNew _ _ (by omega) (by omega) (Nat.mul_pos (nz_pos p) (nz_pos q)))

theorem gRDiv (h : 0 < q.1) : Gives 64 #[ratV p, ratV q] (.tuple #[ratV (Q.div (nz p) (nz q)), .bool true]) := by
  obtain ⟨h1, h2⟩ := hp.nz
  obtain ⟨h3, h4⟩ := hq.nz
  have e1 := nl_mul (nz p).1 (nz q).2
  have e3 := nl_mul (nz p).2 (nz q).1
  exact w_div _ _ _ _ _ _ _ _ _ _ _ (gRDen q (by have := hq.2; omega)) (gRDen p (by have := hp.2; omega)) (gMul (nz p).1 (nz q).2 (by omega) (by omega)) (gMul (nz p).2 (nz q).1 (by omega) (by omega))
    (gRNew _ _ (by omega) (by omega) (Nat.mul_pos (nz_pos p) h))

theorem gRDivZ (h : q.1 = 0) : Gives 64 #[ratV p, ratV q] (.tuple #[ratV (0, 0), .bool false]) := by
  obtain ⟨c, d⟩ := q
  simp only at h
  subst h
  obtain ⟨h1, h2⟩ := hp.nz
  obtain ⟨h3, h4⟩ := hq.nz
  have e1 := nl_mul (nz p).1 (dn d)
  have e2 : nl (dn d) ≤ 10001 := h4
  have KD : Gives 42 #[ratV (0, d)] (natV (dn d)) := gRDen (0, d) (by have := hq.2; simp only at this ⊢; omega)
  have KD2 : Gives 42 #[ratV p] (natV (nz p).2) := gRDen p (by have := hp.2; omega)
  have KM : Gives 61 #[natV (nz p).2, natV 0] (natV 0) := by
    have := gMul (nz p).2 0 (by omega) (by decide)
    rwa [Nat.mul_zero] at this
  have KM1 : Gives 61 #[natV (nz p).1, natV (dn d)] (natV ((nz p).1 * dn d)) := gMul (nz p).1 (dn d) (by omega) (by omega)
  exact w_div _ _ _ _ _ _ _ _ _ _ _ KD KD2 KM1 KM (gRNewZ _)

theorem gRCmp : Gives 27 #[ratV p, ratV q] (.int .i64 (Q.cmp (nz p) (nz q))) := by
  obtain ⟨h1, h2⟩ := hp.nz
  obtain ⟨h3, h4⟩ := hq.nz
  have e1 := nl_mul (nz p).1 (nz q).2
  have e2 := nl_mul (nz q).1 (nz p).2
  exact w_cmp _ _ _ _ _ fun g x v0 hx => w_join_cmp g _ _ _ _ _ _ _ _ _ (gRDen q (by have := hq.2; omega)) (gRDen p (by have := hp.2; omega)) (gMul (nz p).1 (nz q).2 (by omega) (by omega)) (gMul (nz q).1 (nz p).2 (by omega) (by omega))
    (fun x v0 hx => w_cmp1 g _ _ _ (gCmp _ _ (by omega) (by omega)) x v0 hx) x v0 hx
end

end Go.Proofs.Ytbacloneddnaeaa

/- Rational numbers as pairs in lowest terms: differences, quotients, the order; texts. -/
namespace Go.Proofs.Ytbacloneddnaeaa
open Num

namespace Q

theorem le_of_mul {a b c : Nat} (hc : 0 < c) (h : c * a ≤ c * b) : a ≤ b := Nat.le_of_mul_le_mul_left h hc

theorem sub_add_ok {a b : Nat × Nat} (ha : Low a) (hb : Low b) : b.1 * (add a b).2 ≤ (add a b).1 * b.2 := by
  obtain ⟨g, hg, e1, e2, e3, e4⟩ := red_spec (a.1 * b.2 + b.1 * a.2) (a.2 * b.2) (Nat.mul_pos ha.1 hb.1)
  unfold add
  generalize red (a.1 * b.2 + b.1 * a.2) (a.2 * b.2) = s at *
  refine le_of_mul hg ?_
  calc g * (b.1 * s.2) = b.1 * (a.2 * b.2) := by rw [e2]; grind
    _ ≤ (a.1 * b.2 + b.1 * a.2) * b.2 := by
      rw [Nat.add_mul, ← Nat.mul_assoc]
      exact Nat.le_add_left _ _
    _ = g * (s.1 * b.2) := by rw [e1]; grind

theorem sub_add {a b : Nat × Nat} (ha : Low a) (hb : Low b) : sub (add a b) b = a := by
  have hok := sub_add_ok ha hb
  obtain ⟨g, hg, e1, e2, e3, e4⟩ := red_spec (a.1 * b.2 + b.1 * a.2) (a.2 * b.2) (Nat.mul_pos ha.1 hb.1)
  unfold sub
  unfold add at *
  generalize red (a.1 * b.2 + b.1 * a.2) (a.2 * b.2) = s at *
  refine (red_eq (Nat.mul_pos e4 hb.1) ha.1 ?_).trans (red_of_low ha)
  refine Nat.eq_of_mul_eq_mul_left hg ?_
  obtain ⟨t, ht⟩ := Nat.exists_eq_add_of_le hok
  have h1 : s.1 * b.2 - b.1 * s.2 = t := by omega
  rw [h1]
  have h2 : g * t = a.1 * b.2 * b.2 := by
    have h3 : g * (s.1 * b.2) = g * (b.1 * s.2) + g * t := by rw [ht, Nat.mul_add]
    have h4 : g * (s.1 * b.2) = (a.1 * b.2 + b.1 * a.2) * b.2 := by rw [e1]; grind
    have h5 : g * (b.1 * s.2) = b.1 * (a.2 * b.2) := by rw [e2]; grind
    have h6 : (a.1 * b.2 + b.1 * a.2) * b.2 = b.1 * (a.2 * b.2) + a.1 * b.2 * b.2 := by grind
    omega
  calc g * (t * a.2) = (g * t) * a.2 := by grind
    _ = a.1 * b.2 * b.2 * a.2 := by rw [h2]
    _ = a.1 * ((a.2 * b.2) * b.2) := by grind
    _ = g * (a.1 * (s.2 * b.2)) := by rw [e2]; grind

theorem div_mul {a b : Nat × Nat} (ha : Low a) (hb : Low b) (h : 0 < b.1) : div (mul a b) b = a := by
  obtain ⟨g, hg, e1, e2, e3, e4⟩ := red_spec (a.1 * b.1) (a.2 * b.2) (Nat.mul_pos ha.1 hb.1)
  unfold div mul
  generalize red (a.1 * b.1) (a.2 * b.2) = m at *
  refine (red_eq (Nat.mul_pos e4 h) ha.1 ?_).trans (red_of_low ha)
  refine Nat.eq_of_mul_eq_mul_left hg ?_
  calc g * (m.1 * b.2 * a.2) = (g * m.1) * (a.2 * b.2) := by grind
    _ = (a.1 * b.1) * (g * m.2) := by rw [← e1, ← e2]
    _ = g * (a.1 * (m.2 * b.1)) := by grind

theorem mul_div {a b : Nat × Nat} (ha : Low a) (hb : Low b) (h : 0 < b.1) : mul (div a b) b = a := by
  obtain ⟨g, hg, e1, e2, e3, e4⟩ := red_spec (a.1 * b.2) (a.2 * b.1) (Nat.mul_pos ha.1 h)
  unfold div mul
  generalize red (a.1 * b.2) (a.2 * b.1) = m at *
  refine (red_eq (Nat.mul_pos e4 hb.1) ha.1 ?_).trans (red_of_low ha)
  refine Nat.eq_of_mul_eq_mul_left hg ?_
  calc g * (m.1 * b.1 * a.2) = (g * m.1) * (a.2 * b.1) := by grind
    _ = (a.1 * b.2) * (g * m.2) := by rw [← e1, ← e2]
    _ = g * (a.1 * (m.2 * b.2)) := by grind

theorem cmpI_scale {x y k t : Nat} (hk : 0 < k) : cmpI (k * x + t) (k * y + t) = cmpI x y := by
  unfold cmpI
  have h1 : k * x + t < k * y + t ↔ x < y := by
    rw [Nat.add_lt_add_iff_right]; exact Nat.mul_lt_mul_left hk
  have h2 : k * x + t = k * y + t ↔ x = y := by
    rw [Nat.add_right_cancel_iff]; exact ⟨fun h => Nat.eq_of_mul_eq_mul_left hk h, fun h => by rw [h]⟩
  simp only [h1, h2]

theorem cmp_red {n d n' d' : Nat} (hd : 0 < d) (hd' : 0 < d') : cmp (red n d) (red n' d') = cmpI (n * d') (n' * d) := by
  obtain ⟨g, hg, e1, e2, e3, e4⟩ := red_spec n d hd
  obtain ⟨g', hg', f1, f2, f3, f4⟩ := red_spec n' d' hd'
  unfold cmp
  generalize red n d = u at *
  generalize red n' d' = v at *
  subst e1 e2 f1 f2
  have := cmpI_scale (x := u.1 * v.2) (y := v.1 * u.2) (k := g * g') (t := 0) (Nat.mul_pos hg hg')
  rw [← this]
  congr 1 <;> grind

theorem cmp_add {a b c : Nat × Nat} (ha : Low a) (hb : Low b) (hc : Low c) : cmp (add a c) (add b c) = cmp a b := by
  unfold add
  rw [cmp_red (Nat.mul_pos ha.1 hc.1) (Nat.mul_pos hb.1 hc.1)]
  have := cmpI_scale (x := a.1 * b.2) (y := b.1 * a.2) (k := c.2 * c.2) (t := c.1 * a.2 * b.2 * c.2) (Nat.mul_pos hc.1 hc.1)
  unfold cmp
  rw [← this]
  congr 1 <;> grind

theorem cmp_mul {a b c : Nat × Nat} (ha : Low a) (hb : Low b) (hc : Low c) (h : 0 < c.1) : cmp (mul a c) (mul b c) = cmp a b := by
  unfold mul
  rw [cmp_red (Nat.mul_pos ha.1 hc.1) (Nat.mul_pos hb.1 hc.1)]
  have := cmpI_scale (x := a.1 * b.2) (y := b.1 * a.2) (k := c.1 * c.2) (t := 0) (Nat.mul_pos h hc.1)
  unfold cmp
  rw [← this]
  congr 1 <;> grind

theorem cmp_le {p q : Nat × Nat} : cmp p q ≤ 0 ↔ p.1 * q.2 ≤ q.1 * p.2 := by
  unfold cmp cmpI
  constructor
  · intro h
    split at h
    · omega
    · split at h <;> omega
  · intro h
    split
    · omega
    · split <;> omega

theorem cmp_ge {p q : Nat × Nat} : 0 ≤ cmp p q ↔ q.1 * p.2 ≤ p.1 * q.2 := by
  unfold cmp cmpI
  constructor
  · intro h
    split at h
    · omega
    · split at h <;> omega
  · intro h
    split
    · omega
    · split <;> omega

theorem cmp_trans {a b c : Nat × Nat} (hb : Low b) (h1 : cmp a b ≤ 0) (h2 : cmp b c ≤ 0) : cmp a c ≤ 0 := by
  rw [cmp_le] at *
  refine le_of_mul hb.1 ?_
  calc b.2 * (a.1 * c.2) = (a.1 * b.2) * c.2 := by grind
    _ ≤ (b.1 * a.2) * c.2 := Nat.mul_le_mul_right _ h1
    _ = (b.1 * c.2) * a.2 := by grind
    _ ≤ (c.1 * b.2) * a.2 := Nat.mul_le_mul_right _ h2
    _ = b.2 * (c.1 * a.2) := by grind

theorem low_zero {p : Nat × Nat} (h : Low p) (h0 : p.1 = 0) : p = (0, 1) := by
  obtain ⟨a, b⟩ := p
  obtain ⟨h1, h2⟩ := h
  simp only at *
  subst h0
  rw [Nat.gcd_zero_left] at h2
  rw [h2]

end Q

theorem bts_append (a b : ByteArray) : bts (a ++ b) = bts a ++ bts b := by
  simp [bts]

theorem no47 (n : Nat) : 47 ∉ decL n := fun h => by have := decL_digit n 47 h; omega

theorem bts_rtext {p : Nat × Nat} (h : Q.Low p) : bts (rtext p) = if p.2 = 1 then decL p.1 else decL p.1 ++ 47 :: decL p.2 := by
  unfold rtext
  rw [dn_of h.1]
  split
  · exact bts_dec _
  · rw [bts_append, bts_append, bts_dec, bts_dec]
    have : bts { data := #[47] } = [47] := rfl
    rw [this]; simp

theorem split47 : ∀ (a b c d : List Nat), 47 ∉ a → 47 ∉ c → a ++ 47 :: b = c ++ 47 :: d → a = c ∧ b = d
  | [], b, [], d, _, _, h => ⟨rfl, by simpa using h⟩
  | [], b, x :: c, d, _, hc, h => by
    simp only [List.nil_append, List.cons_append, List.cons.injEq] at h
    exact absurd (by rw [h.1]; exact List.mem_cons_self) hc
  | x :: a, b, [], d, ha, _, h => by
    simp only [List.nil_append, List.cons_append, List.cons.injEq] at h
    exact absurd (by rw [← h.1]; exact List.mem_cons_self) ha
  | x :: a, b, y :: c, d, ha, hc, h => by
    simp only [List.cons_append, List.cons.injEq] at h
    have := split47 a b c d (fun m => ha (List.mem_cons_of_mem _ m)) (fun m => hc (List.mem_cons_of_mem _ m)) h.2
    exact ⟨by rw [h.1, this.1], this.2⟩

theorem decL_inj {a b : Nat} (h : decL a = decL b) : a = b := by rw [← decVal_decL a, h, decVal_decL]

theorem rtext_inj {p q : Nat × Nat} (hp : Q.Low p) (hq : Q.Low q) (h : rtext p = rtext q) : p = q := by
  have h1 := congrArg bts h
  rw [bts_rtext hp, bts_rtext hq] at h1
  obtain ⟨a, b⟩ := p
  obtain ⟨c, d⟩ := q
  simp only at h1
  split at h1 <;> split at h1
  · rename_i h2 h3
    rw [decL_inj h1, h2, h3]
  · exact absurd (by rw [h1]; simp) (no47 a)
  · exact absurd (by rw [← h1]; simp) (no47 c)
  · obtain ⟨h2, h3⟩ := split47 _ _ _ _ (no47 a) (no47 c) h1
    rw [decL_inj h2, decL_inj h3]

theorem toList_ne {a b : ByteArray} (h : a ≠ b) : ¬ a.toList = b.toList := fun e => h (by
  rw [ByteArray.toList_eq, ByteArray.toList_eq] at e
  cases a; cases b
  simpa using Array.toList_inj.1 e)

theorem rtext_zero : rtext (0, 1) = { data := #[48] } := by kernel_rfl

/-- When the text is '0'. -/
theorem rtext_is0 {p : Nat × Nat} (hp : Q.Low p) (h : p.1 = 0) : (rtext p).toList = [48] := by
  rw [Q.low_zero hp h, rtext_zero, ByteArray.toList_eq]
theorem rtext_not0 {p : Nat × Nat} (hp : Q.Low p) (h : p.1 ≠ 0) : ((rtext p).toList == [48]) = false := by
  rw [beq_eq_false_iff_ne]
  intro e
  have h0 : Q.Low (0, 1) := ⟨by decide, by decide⟩
  have : (rtext p).toList = (rtext (0, 1)).toList := by rw [e, rtext_zero, ByteArray.toList_eq]
  have h1 : rtext p = rtext (0, 1) := Decidable.byContradiction fun hne => toList_ne hne this
  exact h (by rw [rtext_inj hp h0 h1])

end Go.Proofs.Ytbacloneddnaeaa

/- Values of the laws of chapter 02, and the program's numbers. -/
namespace Go.Proofs.Ytbacloneddnaeaa
open Go.RowKit Num

/-- What counts of a string: the digits of a number of at most 150 digits, else 1. -/
def digS (s : ByteArray) : ByteArray := if decOk (bts s) = true ∧ s.size ≤ 150 then s else { data := #[49] }
def dval (s : ByteArray) : Nat := (readN (bts (digS s))).getD 0

theorem digS_size (s : ByteArray) : (digS s).size ≤ 150 := by
  unfold digS; split
  · rename_i h; exact h.2
  · decide

theorem digS_ok (s : ByteArray) : decOk (bts (digS s)) = true := by
  unfold digS; split
  · rename_i h; exact h.1
  · rfl

theorem dval_eq (s : ByteArray) : dval s = decVal (bts (digS s)) := by
  unfold dval; rw [readN_ok (digS_ok s)]; rfl

theorem digS_dec (s : ByteArray) : digS s = dec (dval s) := by
  rw [dval_eq]; exact dec_of_ok _ (digS_ok s)

theorem dval_lt (s : ByteArray) : dval s < 10 ^ 150 := by
  have h := decL_high (dval s)
  rw [← dec_size, ← digS_dec] at h
  exact Nat.lt_of_lt_of_le h (Nat.pow_le_pow_right (by omega) (digS_size s))

theorem dval_nl (s : ByteArray) : nl (dval s) ≤ 63 := nl_le_of_lt (Nat.lt_of_lt_of_le (dval_lt s) (by decide))

/-- A value of type Value, as a number. -/
def vq (N D : ByteArray) : Nat × Nat := Q.red (dval N) (dn (dval D))
theorem vq_low (N D : ByteArray) : Q.Low (vq N D) := Q.red_low (dn_pos _)
theorem vq_small (N D : ByteArray) : Sm 100 (vq N D) := Sm.red (Nat.le_trans (dval_nl N) (by omega)) (Nat.le_trans (nl_dn _) (by have := dval_nl D; omega))

section
variable {p q : Nat × Nat} {k : Nat} (hp : Sm k p) (hq : Sm k q) (hk : k ≤ 10000) (lp : Q.Low p) (lq : Q.Low q)
include hp hq hk lp lq

theorem kAdd : Gives 30 #[ratV p, ratV q] (ratV (Q.add p q)) := by
  have := gRAdd p q (hp.mono hk) (hq.mono hk); rwa [nz_low lp, nz_low lq] at this
theorem kMul : Gives 26 #[ratV p, ratV q] (ratV (Q.mul p q)) := by
  have := gRMul p q (hp.mono hk) (hq.mono hk); rwa [nz_low lp, nz_low lq] at this
theorem kCmp : Gives 27 #[ratV p, ratV q] (.int .i64 (Q.cmp p q)) := by
  have := gRCmp p q (hp.mono hk) (hq.mono hk); rwa [nz_low lp, nz_low lq] at this
theorem kDiv (h : 0 < q.1) : Gives 64 #[ratV p, ratV q] (.tuple #[ratV (Q.div p q), .bool true]) := by
  have := gRDiv p q (hp.mono hk) (hq.mono hk) h; rwa [nz_low lp, nz_low lq] at this
end

end Go.Proofs.Ytbacloneddnaeaa

/- The contracts of package rat, for greater numbers. -/
namespace Go.Proofs.Ytbacloneddnaeaa
open Go.RowKit Num

section
variable (p q : Nat × Nat) (hp : Sm 200000 p) (hq : Sm 200000 q)
include hp hq

theorem gRAddB : Gives 30 #[ratV p, ratV q] (ratV (Q.add (nz p) (nz q))) := by
  obtain ⟨h1, h2⟩ := hp.nz
  obtain ⟨h3, h4⟩ := hq.nz
  have e1 := nl_mul (nz p).1 (nz q).2
  have e2 := nl_mul (nz q).1 (nz p).2
  have e3 := nl_mul (nz p).2 (nz q).2
  have e4 := nl_add ((nz p).1 * (nz q).2) ((nz q).1 * (nz p).2)
  exact w_add _ _ _ _ _ _ (w_join_add _ _ _ _ _ _ _ _ _ _ _ _ (gRDen q (by have := hq.2; omega)) (gRDen p (by have := hp.2; omega)) (gMul (nz p).1 (nz q).2 (by omega) (by omega)) (gMul (nz q).1 (nz p).2 (by omega) (by omega))
    (w_add1 _ _ _ (gAdd _ _ (by omega) (by omega))) (gMul (nz p).2 (nz q).2 (by omega) (by omega)) (gRNew _ _ (by omega) (by omega) (Nat.mul_pos (nz_pos p) (nz_pos q))))

theorem gRMulB : Gives 26 #[ratV p, ratV q] (ratV (Q.mul (nz p) (nz q))) := by
  obtain ⟨h1, h2⟩ := hp.nz
  obtain ⟨h3, h4⟩ := hq.nz
  have e1 := nl_mul (nz p).1 (nz q).1
  have e3 := nl_mul (nz p).2 (nz q).2
  exact w_mul _ _ _ _ _ _ _ _ _ _ (gRDen q (by have := hq.2; omega)) (gRDen p (by have := hp.2; omega)) (gMul (nz p).1 (nz q).1 (by omega) (by omega)) (gMul (nz p).2 (nz q).2 (by omega) (by omega))
    (gRNew _ _ (by omega) (by omega) (Nat.mul_pos (nz_pos p) (nz_pos q)))

theorem gRDivB (h : 0 < q.1) : Gives 64 #[ratV p, ratV q] (.tuple #[ratV (Q.div (nz p) (nz q)), .bool true]) := by
  obtain ⟨h1, h2⟩ := hp.nz
  obtain ⟨h3, h4⟩ := hq.nz
  have e1 := nl_mul (nz p).1 (nz q).2
  have e3 := nl_mul (nz p).2 (nz q).1
  exact w_div _ _ _ _ _ _ _ _ _ _ _ (gRDen q (by have := hq.2; omega)) (gRDen p (by have := hp.2; omega)) (gMul (nz p).1 (nz q).2 (by omega) (by omega)) (gMul (nz p).2 (nz q).1 (by omega) (by omega))
    (gRNew _ _ (by omega) (by omega) (Nat.mul_pos (nz_pos p) h))

theorem gRDivZB (h : q.1 = 0) : Gives 64 #[ratV p, ratV q] (.tuple #[ratV (0, 0), .bool false]) := by
  obtain ⟨c, d⟩ := q
  simp only at h
  subst h
  obtain ⟨h1, h2⟩ := hp.nz
  obtain ⟨h3, h4⟩ := hq.nz
  have e1 := nl_mul (nz p).1 (dn d)
  have e2 : nl (dn d) ≤ 200001 := h4
  have KD : Gives 42 #[ratV (0, d)] (natV (dn d)) := gRDen (0, d) (by have := hq.2; simp only at this ⊢; omega)
  have KD2 : Gives 42 #[ratV p] (natV (nz p).2) := gRDen p (by have := hp.2; omega)
  have KM : Gives 61 #[natV (nz p).2, natV 0] (natV 0) := by
    have := gMul (nz p).2 0 (by omega) (by decide)
    rwa [Nat.mul_zero] at this
  have KM1 : Gives 61 #[natV (nz p).1, natV (dn d)] (natV ((nz p).1 * dn d)) := gMul (nz p).1 (dn d) (by omega) (by omega)
  exact w_div _ _ _ _ _ _ _ _ _ _ _ KD KD2 KM1 KM (gRNewZ _)

theorem gRCmpB : Gives 27 #[ratV p, ratV q] (.int .i64 (Q.cmp (nz p) (nz q))) := by
  obtain ⟨h1, h2⟩ := hp.nz
  obtain ⟨h3, h4⟩ := hq.nz
  have e1 := nl_mul (nz p).1 (nz q).2
  have e2 := nl_mul (nz q).1 (nz p).2
  exact w_cmp _ _ _ _ _ fun g x v0 hx => w_join_cmp g _ _ _ _ _ _ _ _ _ (gRDen q (by have := hq.2; omega)) (gRDen p (by have := hp.2; omega)) (gMul (nz p).1 (nz q).2 (by omega) (by omega)) (gMul (nz q).1 (nz p).2 (by omega) (by omega))
    (fun x v0 hx => w_cmp1 g _ _ _ (gCmp _ _ (by omega) (by omega)) x v0 hx) x v0 hx
end

end Go.Proofs.Ytbacloneddnaeaa
