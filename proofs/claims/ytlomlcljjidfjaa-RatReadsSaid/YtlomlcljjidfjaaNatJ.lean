/- Long division: the loop, plain laws. -/
import Derived.Test.YtlomlcljjidfjaaNatI
namespace Go.Proofs.Ytlomlcljjidfjaa
namespace Num

/-- Before step k - 1 of long: what has been found, and what is left. -/
structure LongInv (A : Nat) (Y : List Nat) (L k : Nat) (X Q : List Nat) : Prop where
  xl : X.length = L
  ql : Q.length = L - Y.length
  xlt : AllLt W X
  qlt : AllLt W Q
  sum : A = digs W Y * digs W Q + digs W X
  less : digs W (X.drop k) < digs W Y
  zero : ∀ j, j < k → Q.getD j 0 = 0

/-- The segment of step i. -/
def seg (X : List Nat) (i n : Nat) : List Nat := (X.drop i).take n

theorem digs_set (B : Nat) : ∀ (l : List Nat) (i d : Nat), i < l.length → l.getD i 0 = 0 → digs B (l.set i d) = digs B l + B ^ i * d
  | x :: l, 0, d, _, h => by simp at h; subst h; simp [digs]; omega
  | x :: l, i + 1, d, hi, h => by
    have := digs_set B l i d (by simpa using hi) (by simpa using h)
    simp only [List.set_cons_succ, digs, this, Nat.pow_succ]
    rw [Nat.mul_add, Nat.mul_comm (B ^ i) B, Nat.mul_assoc]
    omega

theorem X_split (X : List Nat) (i n : Nat) (h : i + n < X.length) :
    X = X.take i ++ seg X i n ++ X.getD (i + n) 0 :: X.drop (i + n + 1) ∧ (X.take i).length = i ∧ (seg X i n).length = n := by
  refine ⟨?_, by simp; omega, by simp [seg]; omega⟩
  conv => lhs; rw [← List.take_append_drop i X]
  rw [List.append_assoc]
  congr 1
  conv => lhs; rw [← List.take_append_drop n (X.drop i)]
  unfold seg
  congr 1
  rw [List.drop_drop, List.drop_eq_getElem_cons h, List.getD_eq_getElem?_getD, List.getElem?_eq_getElem h]
  rfl

theorem long_seg {A : Nat} {Y : List Nat} {L i : Nat} {X Q : List Nat} (H : LongInv A Y L (i + 1) X Q) (hy : 0 < Y.length) (hY : AllLt W Y) (h : i + Y.length < L) :
    digs W (X.drop (i + Y.length + 1)) = 0 ∧ digs W (seg X i Y.length ++ [X.getD (i + Y.length) 0]) < W * digs W Y ∧
    digs W X = digs W (X.take i) + W ^ i * digs W (seg X i Y.length ++ [X.getD (i + Y.length) 0]) := by
  have hW : (0 : Nat) < W := by decide
  obtain ⟨e1, e2, e3⟩ := X_split X i Y.length (by rw [H.xl]; exact h)
  have hv := digs_lt hW hY
  have hless := H.less
  have hd : X.drop (i + 1) = (seg X i Y.length ++ [X.getD (i + Y.length) 0]).drop 1 ++ X.drop (i + Y.length + 1) := by
    conv => lhs; rw [e1]
    rw [show X.take i ++ seg X i Y.length ++ X.getD (i + Y.length) 0 :: X.drop (i + Y.length + 1) = X.take i ++ ((seg X i Y.length ++ [X.getD (i + Y.length) 0]) ++ X.drop (i + Y.length + 1)) by simp]
    rw [List.drop_append, List.drop_eq_nil_of_le (by omega), List.nil_append, e2, show i + 1 - i = 1 by omega, List.drop_append_of_le_length (by simp)]
  have hl1 : ((seg X i Y.length ++ [X.getD (i + Y.length) 0]).drop 1).length = Y.length := by simp [e3]
  rw [hd, digs_append, hl1] at hless
  have hz : digs W (X.drop (i + Y.length + 1)) = 0 := by
    rcases Nat.eq_zero_or_pos (digs W (X.drop (i + Y.length + 1))) with h0 | h0
    · exact h0
    · have : W ^ Y.length * 1 ≤ W ^ Y.length * digs W (X.drop (i + Y.length + 1)) := Nat.mul_le_mul_left _ h0
      omega
  rw [hz, Nat.mul_zero, Nat.add_zero] at hless
  refine ⟨hz, ?_, ?_⟩
  · have hne : seg X i Y.length ++ [X.getD (i + Y.length) 0] ≠ [] := by simp
    obtain ⟨a, t, hat⟩ := List.exists_cons_of_ne_nil hne
    rw [hat] at hless ⊢
    simp only [List.drop_succ_cons, List.drop_zero] at hless
    have ha : a < W := by
      have : a ∈ X := by
        rw [e1]
        have : a ∈ seg X i Y.length ++ [X.getD (i + Y.length) 0] := by rw [hat]; simp
        rcases List.mem_append.1 this with h1 | h1
        · simp [h1]
        · simp at h1; simp [h1]
      exact H.xlt a this
    rw [digs]
    have : W * (digs W t + 1) ≤ W * digs W Y := Nat.mul_le_mul_left _ hless
    rw [Nat.mul_add] at this
    omega
  · conv => lhs; rw [e1]
    rw [show X.take i ++ seg X i Y.length ++ X.getD (i + Y.length) 0 :: X.drop (i + Y.length + 1) = X.take i ++ ((seg X i Y.length ++ [X.getD (i + Y.length) 0]) ++ X.drop (i + Y.length + 1)) by simp]
    rw [digs_append, digs_append, hz, e2]
    simp

/-- One step. -/
theorem long_step {A : Nat} {Y : List Nat} {L i : Nat} {X Q : List Nat} (H : LongInv A Y L (i + 1) X Q) (hy : 0 < Y.length) (hY : AllLt W Y) (h : i + Y.length < L)
    {u : Nat} (hu : u = digs W (seg X i Y.length ++ [X.getD (i + Y.length) 0])) (hv : 0 < digs W Y) (hq : u / digs W Y < W)
    (xs' : List Nat) (t' : Nat) (hl : xs'.length = Y.length) (hlt : AllLt W (xs' ++ [t'])) (hd : digs W (xs' ++ [t']) = u % digs W Y) :
    LongInv A Y L i (X.take i ++ xs' ++ t' :: X.drop (i + Y.length + 1)) (Q.set i (u / digs W Y)) := by
  obtain ⟨h1, h2, h3⟩ := long_seg H hy hY h
  obtain ⟨e1, e2, e3⟩ := X_split X i Y.length (by rw [H.xl]; exact h)
  rw [← hu] at h3
  have ee : X.take i ++ xs' ++ t' :: X.drop (i + Y.length + 1) = X.take i ++ ((xs' ++ [t']) ++ X.drop (i + Y.length + 1)) := by simp
  rw [ee]
  refine ⟨?_, by rw [List.length_set]; exact H.ql, ?_, H.qlt.set _ _ hq, ?_, ?_, ?_⟩
  · simp [e2, hl, H.xl]; have := H.xl; omega
  · exact (H.xlt.take i).append (hlt.append (H.xlt.drop _))
  · rw [digs_set W Q i _ (by rw [H.ql]; omega) (H.zero i (by omega)), digs_append, digs_append, h1, e2, hd]
    have hs := H.sum
    rw [h3] at hs
    have hdm := Nat.div_add_mod u (digs W Y)
    generalize u / digs W Y = q at *
    generalize u % digs W Y = r at *
    generalize digs W Y = v at *
    generalize digs W Q = z at *
    generalize digs W (X.take i) = a at *
    generalize W ^ i = p at *
    rw [hs, ← hdm]
    grind
  · rw [List.drop_append, List.drop_eq_nil_of_le (by omega), List.nil_append, e2, Nat.sub_self, List.drop_zero, digs_append, h1, hd]
    have := Nat.mod_lt u hv
    simpa using this
  · intro j hj
    have := H.zero j (by omega)
    rw [List.getD_eq_getElem?_getD, List.getElem?_set_ne (by omega), ← List.getD_eq_getElem?_getD]
    exact this

theorem long_end {A : Nat} {Y : List Nat} {L : Nat} {X Q : List Nat} (H : LongInv A Y L 0 X Q) : digs W Q = A / digs W Y ∧ digs W X = A % digs W Y := by
  have h1 := H.less
  rw [List.drop_zero] at h1
  rw [H.sum]
  constructor
  · rw [Nat.mul_add_div (by omega), Nat.div_eq_of_lt h1, Nat.add_zero]
  · rw [Nat.mul_add_mod, Nat.mod_eq_of_lt h1]

end Num
end Go.Proofs.Ytlomlcljjidfjaa
