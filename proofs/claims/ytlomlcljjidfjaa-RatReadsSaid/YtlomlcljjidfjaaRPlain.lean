/- Rational numbers as pairs in lowest terms: plain laws. -/
import Derived.Test.YtlomlcljjidfjaaNatL
import Derived.Test.YtlomlcljjidfjaaNatB
namespace Go.Proofs.Ytlomlcljjidfjaa
open Num

namespace Q

/-- A quotient in lowest terms. -/
def red (n d : Nat) : Nat × Nat := (n / Nat.gcd n d, d / Nat.gcd n d)

def Low (p : Nat × Nat) : Prop := 0 < p.2 ∧ Nat.gcd p.1 p.2 = 1

theorem red_spec (n d : Nat) (hd : 0 < d) : ∃ g, 0 < g ∧ n = g * (red n d).1 ∧ d = g * (red n d).2 ∧ Nat.gcd (red n d).1 (red n d).2 = 1 ∧ 0 < (red n d).2 := by
  have hg : 0 < Nat.gcd n d := Nat.gcd_pos_of_pos_right n hd
  refine ⟨Nat.gcd n d, hg, (Nat.mul_div_cancel' (Nat.gcd_dvd_left n d)).symm, (Nat.mul_div_cancel' (Nat.gcd_dvd_right n d)).symm, ?_, ?_⟩
  · simp only [red]; rw [Nat.gcd_div (Nat.gcd_dvd_left n d) (Nat.gcd_dvd_right n d), Nat.div_self hg]
  · exact Nat.div_pos (Nat.le_of_dvd hd (Nat.gcd_dvd_right n d)) hg

theorem red_low {n d : Nat} (hd : 0 < d) : Low (red n d) := let ⟨_, _, _, _, h1, h2⟩ := red_spec n d hd; ⟨h2, h1⟩

theorem low_eq {p q : Nat × Nat} (hp : Low p) (hq : Low q) (h : p.1 * q.2 = q.1 * p.2) : p = q := by
  obtain ⟨a, b⟩ := p
  obtain ⟨c, d⟩ := q
  obtain ⟨h1, h2⟩ := hp
  obtain ⟨h3, h4⟩ := hq
  simp only at *
  have e1 : b ∣ d := by
    have : b ∣ a * d := ⟨c, by rw [h, Nat.mul_comm]⟩
    exact (Nat.Coprime.symm h2).dvd_of_dvd_mul_left this
  have e2 : d ∣ b := by
    have : d ∣ c * b := ⟨a, by rw [← h, Nat.mul_comm]⟩
    exact (Nat.Coprime.symm h4).dvd_of_dvd_mul_left this
  have e3 : b = d := Nat.dvd_antisymm e1 e2
  subst e3
  rw [Nat.eq_of_mul_eq_mul_right h1 h]

theorem red_eq {n d n' d' : Nat} (hd : 0 < d) (hd' : 0 < d') (h : n * d' = n' * d) : red n d = red n' d' := by
  obtain ⟨g, hg, e1, e2, e3, e4⟩ := red_spec n d hd
  obtain ⟨g', hg', f1, f2, f3, f4⟩ := red_spec n' d' hd'
  refine low_eq ⟨e4, e3⟩ ⟨f4, f3⟩ ?_
  have : (g * g') * ((red n d).1 * (red n' d').2) = (g * g') * ((red n' d').1 * (red n d).2) := by
    generalize red n d = u at *
    generalize red n' d' = v at *
    subst e1 e2 f1 f2
    grind
  exact Nat.eq_of_mul_eq_mul_left (Nat.mul_pos hg hg') this

theorem eq_red {n d n' d' : Nat} (hd : 0 < d) (hd' : 0 < d') (h : red n d = red n' d') : n * d' = n' * d := by
  obtain ⟨g, hg, e1, e2, e3, e4⟩ := red_spec n d hd
  obtain ⟨g', hg', f1, f2, f3, f4⟩ := red_spec n' d' hd'
  rw [h] at e1 e2
  generalize (red n' d').1 = a at *
  generalize (red n' d').2 = b at *
  subst e1 e2 f1 f2
  grind

theorem red_of_low {p : Nat × Nat} (h : Low p) : red p.1 p.2 = p := by
  unfold red; rw [h.2]; simp

def add (p q : Nat × Nat) : Nat × Nat := red (p.1 * q.2 + q.1 * p.2) (p.2 * q.2)
def mul (p q : Nat × Nat) : Nat × Nat := red (p.1 * q.1) (p.2 * q.2)
def sub (p q : Nat × Nat) : Nat × Nat := red (p.1 * q.2 - q.1 * p.2) (p.2 * q.2)
def div (p q : Nat × Nat) : Nat × Nat := red (p.1 * q.2) (p.2 * q.1)
def cmp (p q : Nat × Nat) : Int := cmpI (p.1 * q.2) (q.1 * p.2)

theorem add_low {p q : Nat × Nat} (hp : Low p) (hq : Low q) : Low (add p q) := red_low (Nat.mul_pos hp.1 hq.1)
theorem mul_low {p q : Nat × Nat} (hp : Low p) (hq : Low q) : Low (mul p q) := red_low (Nat.mul_pos hp.1 hq.1)
theorem sub_low {p q : Nat × Nat} (hp : Low p) (hq : Low q) : Low (sub p q) := red_low (Nat.mul_pos hp.1 hq.1)
theorem div_low {p q : Nat × Nat} (hp : Low p) (hq : 0 < q.1) : Low (div p q) := red_low (Nat.mul_pos hp.1 hq)

section
variable {n d : Nat} (hd : 0 < d) {q : Nat × Nat} (hq : 0 < q.2)
include hd hq

theorem add_red : add (red n d) q = red (n * q.2 + q.1 * d) (d * q.2) := by
  obtain ⟨g, hg, e1, e2, e3, e4⟩ := red_spec n d hd
  refine red_eq (Nat.mul_pos e4 hq) (Nat.mul_pos hd hq) ?_
  generalize (red n d).1 = a at *
  generalize (red n d).2 = b at *
  subst e1 e2
  grind

theorem red_add : add q (red n d) = red (q.1 * d + n * q.2) (q.2 * d) := by
  obtain ⟨g, hg, e1, e2, e3, e4⟩ := red_spec n d hd
  refine red_eq (Nat.mul_pos hq e4) (Nat.mul_pos hq hd) ?_
  generalize (red n d).1 = a at *
  generalize (red n d).2 = b at *
  subst e1 e2
  grind

theorem mul_red : mul (red n d) q = red (n * q.1) (d * q.2) := by
  obtain ⟨g, hg, e1, e2, e3, e4⟩ := red_spec n d hd
  refine red_eq (Nat.mul_pos e4 hq) (Nat.mul_pos hd hq) ?_
  generalize (red n d).1 = a at *
  generalize (red n d).2 = b at *
  subst e1 e2
  grind

theorem red_mul : mul q (red n d) = red (q.1 * n) (q.2 * d) := by
  obtain ⟨g, hg, e1, e2, e3, e4⟩ := red_spec n d hd
  refine red_eq (Nat.mul_pos hq e4) (Nat.mul_pos hq hd) ?_
  generalize (red n d).1 = a at *
  generalize (red n d).2 = b at *
  subst e1 e2
  grind
end

theorem add_comm (p q : Nat × Nat) : add p q = add q p := by
  unfold add; rw [Nat.add_comm, Nat.mul_comm p.2]
theorem mul_comm (p q : Nat × Nat) : mul p q = mul q p := by
  unfold mul; rw [Nat.mul_comm, Nat.mul_comm p.2]

theorem one_mul {p : Nat × Nat} (hp : Low p) : mul (1, 1) p = p := by
  unfold mul; rw [Nat.one_mul, Nat.one_mul]; exact red_of_low hp

theorem add_assoc {p q r : Nat × Nat} (hp : 0 < p.2) (hq : 0 < q.2) (hr : 0 < r.2) : add (add p q) r = add p (add q r) := by
  rw [show add p q = red (p.1 * q.2 + q.1 * p.2) (p.2 * q.2) from rfl, show add q r = red (q.1 * r.2 + r.1 * q.2) (q.2 * r.2) from rfl,
    add_red (Nat.mul_pos hp hq) hr, red_add (Nat.mul_pos hq hr) hp]
  congr 1 <;> grind

theorem mul_assoc {p q r : Nat × Nat} (hp : 0 < p.2) (hq : 0 < q.2) (hr : 0 < r.2) : mul (mul p q) r = mul p (mul q r) := by
  rw [show mul p q = red (p.1 * q.1) (p.2 * q.2) from rfl, show mul q r = red (q.1 * r.1) (q.2 * r.2) from rfl,
    mul_red (Nat.mul_pos hp hq) hr, red_mul (Nat.mul_pos hq hr) hp]
  congr 1 <;> grind

theorem mul_add {p q r : Nat × Nat} (hp : 0 < p.2) (hq : 0 < q.2) (hr : 0 < r.2) : mul p (add q r) = add (mul p q) (mul p r) := by
  have h1 : 0 < (mul p r).2 := (red_low (Nat.mul_pos hp hr)).1
  rw [show mul p q = red (p.1 * q.1) (p.2 * q.2) from rfl, show add q r = red (q.1 * r.2 + r.1 * q.2) (q.2 * r.2) from rfl,
    red_mul (Nat.mul_pos hq hr) hp, add_red (Nat.mul_pos hp hq) h1]
  obtain ⟨g, hg, e1, e2, e3, e4⟩ := red_spec (p.1 * r.1) (p.2 * r.2) (Nat.mul_pos hp hr)
  have hp' := hp
  refine red_eq (Nat.mul_pos hp (Nat.mul_pos hq hr)) (Nat.mul_pos (Nat.mul_pos hp hq) h1) ?_
  rw [show mul p r = red (p.1 * r.1) (p.2 * r.2) from rfl]
  generalize (red (p.1 * r.1) (p.2 * r.2)).1 = a at *
  generalize (red (p.1 * r.1) (p.2 * r.2)).2 = b at *
  obtain ⟨p1, p2⟩ := p
  obtain ⟨q1, q2⟩ := q
  obtain ⟨r1, r2⟩ := r
  simp only at *
  -- a / b = p1 r1 / (p2 r2)
  have h : a * (p2 * r2) = p1 * r1 * b := by rw [e1, e2]; grind
  have hb : (p1 * (q1 * r2 + r1 * q2)) * (p2 * q2 * b) = p2 * q2 * ((p1 * q1 * r2) * b + (p1 * r1 * b) * q2) := by grind
  rw [hb, ← h]
  grind

theorem cmp_range (p q : Nat × Nat) : cmp p q = -1 ∨ cmp p q = 0 ∨ cmp p q = 1 := by
  unfold cmp cmpI; split
  · exact .inl rfl
  · split
    · exact .inr (.inl rfl)
    · exact .inr (.inr rfl)

theorem cmp_eq {p q : Nat × Nat} (hp : Low p) (hq : Low q) : cmp p q = 0 ↔ p = q := by
  unfold cmp cmpI
  constructor
  · intro h
    split at h
    · cases h
    · split at h
      · exact low_eq hp hq ‹_›
      · cases h
  · rintro rfl
    simp

theorem cmp_neg (p q : Nat × Nat) : cmp q p = - cmp p q := by
  unfold cmp cmpI
  rcases Nat.lt_trichotomy (p.1 * q.2) (q.1 * p.2) with h | h | h
  · rw [if_neg (by omega), if_neg (by omega), if_pos h]; rfl
  · rw [if_neg (by omega), if_pos h.symm, if_neg (by omega), if_pos h]; rfl
  · rw [if_pos h, if_neg (by omega), if_neg (by omega)]

end Q
end Go.Proofs.Ytlomlcljjidfjaa
