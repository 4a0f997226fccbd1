/- Texts of this claim, joined: NatI, NatJ, NatK. -/
import Derived.Test.YtajjgfiojlagmaaGreatDoorMO03

/- Long division: one step, plain laws. -/
namespace Go.Proofs.YtajjgfiojlagmaaGreatDoor
namespace Num

theorem split2 (Y : List Nat) (n : Nat) (hn : Y.length = n) (h2 : 2 ≤ n) (hY : AllLt W Y) :
    (Y.getD (n - 1) 0 * W + Y.getD (n - 2) 0) * W ^ (n - 2) ≤ digs W Y ∧ digs W Y < (Y.getD (n - 1) 0 * W + Y.getD (n - 2) 0 + 1) * W ^ (n - 2) := by
  have e1 := digs_take_succ (B := W) Y (n - 1) (by omega)
  have e2 := digs_take_succ (B := W) Y (n - 2) (by omega)
  rw [show n - 1 + 1 = n by omega, List.take_of_length_le (by omega)] at e1
  rw [show n - 2 + 1 = n - 1 by omega] at e2
  have h3 := digs_lt (show 0 < W by decide) (hY.take (n - 2))
  rw [List.length_take, Nat.min_eq_left (by omega)] at h3
  have e4 : W ^ (n - 1) = W ^ (n - 2) * W := by rw [← Nat.pow_succ]; congr 1; omega
  rw [e1, e2, e4]
  generalize digs W (Y.take (n - 2)) = r at *
  generalize Y.getD (n - 1) 0 = a
  generalize Y.getD (n - 2) 0 = b
  generalize W ^ (n - 2) = m at *
  generalize W = w at *
  constructor <;> grind

theorem split3 (X : List Nat) (n : Nat) (hn : X.length = n + 1) (h2 : 2 ≤ n) (hX : AllLt W X) :
    ((X.getD n 0 * W + X.getD (n - 1) 0) * W + X.getD (n - 2) 0) * W ^ (n - 2) ≤ digs W X ∧ digs W X < ((X.getD n 0 * W + X.getD (n - 1) 0) * W + X.getD (n - 2) 0 + 1) * W ^ (n - 2) := by
  have e0 := digs_take_succ (B := W) X n (by omega)
  have e1 := digs_take_succ (B := W) X (n - 1) (by omega)
  have e2 := digs_take_succ (B := W) X (n - 2) (by omega)
  rw [List.take_of_length_le (by omega)] at e0
  rw [show n - 1 + 1 = n by omega] at e1
  rw [show n - 2 + 1 = n - 1 by omega] at e2
  have h3 := digs_lt (show 0 < W by decide) (hX.take (n - 2))
  rw [List.length_take, Nat.min_eq_left (by omega)] at h3
  have e4 : W ^ (n - 1) = W ^ (n - 2) * W := by rw [← Nat.pow_succ]; congr 1; omega
  have e5 : W ^ n = W ^ (n - 2) * W * W := by rw [← Nat.pow_succ, ← Nat.pow_succ]; congr 1; omega
  rw [e0, e1, e2, e4, e5]
  generalize digs W (X.take (n - 2)) = r at *
  generalize X.getD n 0 = a
  generalize X.getD (n - 1) 0 = b
  generalize X.getD (n - 2) 0 = c
  generalize W ^ (n - 2) = m at *
  generalize W = w at *
  constructor <;> grind

structure Guess (u v x0 x1 x2 y1 y2 q : Nat) : Prop where
  hx0 : x0 < W
  hx1 : x1 < W
  hx2 : x2 < W
  hy1 : y1 < W
  hy2 : y2 < W
  big : 2147483648 ≤ y1
  qW : q < W
  top : x0 * W + x1 ≤ y1 * W + y2
  ge : ∀ d, (x0 * W + x1) * W + x2 < d * (y1 * W + y2) → q < d
  le : ∀ d, d * (y1 * W + y2) ≤ (x0 * W + x1) * W + x2 → d < W → d ≤ q + 1

theorem Guess.mk' {Y S : List Nat} {n : Nat} (hn : Y.length = n) (h2 : 2 ≤ n) (hY : AllLt W Y) (hS : S.length = n + 1) (hSl : AllLt W S) (hbig : 2147483648 ≤ Y.getD (n - 1) 0) (hu : digs W S < W * digs W Y) :
    Guess (digs W S) (digs W Y) (S.getD n 0) (S.getD (n - 1) 0) (S.getD (n - 2) 0) (Y.getD (n - 1) 0) (Y.getD (n - 2) 0) (digs W S / digs W Y) := by
  have hW : (0 : Nat) < W := by decide
  obtain ⟨a1, a2⟩ := split2 Y n hn h2 hY
  obtain ⟨b1, b2⟩ := split3 S n hS h2 hSl
  have g1 := hY.getD hW (n - 1)
  have g2 := hY.getD hW (n - 2)
  have g3 := hSl.getD hW n
  have g4 := hSl.getD hW (n - 1)
  have g5 := hSl.getD hW (n - 2)
  have hm : 0 < W ^ (n - 2) := Nat.pow_pos hW
  generalize Y.getD (n - 1) 0 = y1 at *
  generalize Y.getD (n - 2) 0 = y2 at *
  generalize S.getD n 0 = x0 at *
  generalize S.getD (n - 1) 0 = x1 at *
  generalize S.getD (n - 2) 0 = x2 at *
  generalize W ^ (n - 2) = m at *
  generalize digs W S = u at *
  generalize digs W Y = v at *
  have hyW : W ≤ y1 * W := Nat.le_mul_of_pos_left _ (by omega)
  have hv0 : 0 < v := by
    have : 1 * m ≤ (y1 * W + y2) * m := Nat.mul_le_mul_right _ (Nat.le_trans (Nat.le_trans hW hyW) (Nat.le_add_right _ _))
    omega
  refine ⟨g3, g4, g5, g1, g2, hbig, ?_, ?_, fun d hd => guess_ge a1 b2 hd, fun d hd hdW => guess_le hm a2 hv0 b1 hd (Nat.le_trans (Nat.le_of_lt hdW) (Nat.le_trans hyW (Nat.le_add_right _ _)))⟩
  · rw [Nat.div_lt_iff_lt_mul hv0]; exact hu
  · have h1 : ((x0 * W + x1) * W + x2) * m < W * ((y1 * W + y2 + 1) * m) := by
      calc ((x0 * W + x1) * W + x2) * m ≤ u := b1
        _ < W * v := hu
        _ ≤ W * ((y1 * W + y2 + 1) * m) := Nat.mul_le_mul_left _ (Nat.le_of_lt a2)
    rw [← Nat.mul_assoc] at h1
    have h2 := Nat.lt_of_mul_lt_mul_right h1
    generalize W = ww at *
    have h3 : ww * (x0 * ww + x1) < ww * (y1 * ww + y2 + 1) := by rw [Nat.mul_comm ww (x0 * ww + x1)]; omega
    have := Nat.lt_of_mul_lt_mul_left h3
    omega

theorem Guess.start {u v x0 x1 x2 y1 y2 q : Nat} (G : Guess u v x0 x1 x2 y1 y2 q) :
    q ≤ (x0 * W + x1) / y1 ∧ (x0 * W + x1) / y1 ≤ W + 1 ∧ (x0 * W + x1) % y1 < y1 ∧ (x0 * W + x1) / y1 * y1 + (x0 * W + x1) % y1 = x0 * W + x1 := by
  have hy : 0 < y1 := by have := G.big; omega
  have h1 := Nat.div_add_mod (x0 * W + x1) y1
  have h2 := Nat.mod_lt (x0 * W + x1) hy
  have h3 := G.top
  have hbig := G.big
  have hy2 := G.hy2
  have hx2 := G.hx2
  have hge := G.ge q
  have hWv : W ≤ 4294967296 := Nat.le_refl _
  have hW1 : 0 < W := by decide
  refine ⟨?_, ?_, h2, by rw [Nat.mul_comm]; exact h1⟩
  · rcases Nat.lt_or_ge ((x0 * W + x1) / y1) q with h | h
    · exfalso
      clear G
      generalize W = ww at *
      have h4 := hge ?_
      · omega
      · have h5 : ((x0 * ww + x1) / y1 + 1) * y1 ≤ q * y1 := Nat.mul_le_mul_right _ h
        rw [Nat.add_mul, Nat.mul_comm _ y1] at h5
        have h6 : (x0 * ww + x1 + 1) * ww ≤ q * y1 * ww := Nat.mul_le_mul_right _ (by omega)
        rw [Nat.add_mul _ 1 ww] at h6
        rw [Nat.mul_add, ← Nat.mul_assoc]
        generalize (x0 * ww + x1) * ww = z at *
        generalize q * y1 * ww = z2 at *
        omega
    · exact h
  · rw [Nat.div_le_iff_le_mul_add_pred hy]
    clear G hge
    generalize W = ww at *
    have : y1 * (ww + 1) = y1 * ww + y1 := by rw [Nat.mul_add, Nat.mul_one]
    omega

theorem Guess.down {u v x0 x1 x2 y1 y2 q : Nat} (G : Guess u v x0 x1 x2 y1 y2 q) {d r : Nat} (he : d * y1 + r = x0 * W + x1) (ht : W ≤ d ∨ r * W + x2 < d * y2) : q < d := by
  rcases ht with h | h
  · have := G.qW; omega
  · apply G.ge
    rw [Nat.mul_add, ← Nat.mul_assoc, ← he, Nat.add_mul]
    clear G he
    generalize W = ww at *
    omega

theorem Guess.done {u v x0 x1 x2 y1 y2 q : Nat} (G : Guess u v x0 x1 x2 y1 y2 q) {d r : Nat} (he : d * y1 + r = x0 * W + x1) (h1 : d < W) (ht : d * y2 ≤ r * W + x2) : d ≤ q + 1 := by
  refine G.le d ?_ h1
  rw [Nat.mul_add, ← Nat.mul_assoc, ← he, Nat.add_mul]
  clear G he h1
  generalize W = ww at *
  omega

theorem Guess.done2 {u v x0 x1 x2 y1 y2 q : Nat} (G : Guess u v x0 x1 x2 y1 y2 q) {d r : Nat} (he : d * y1 + r = x0 * W + x1) (h1 : d ≤ W) (hr : W ≤ r) : d < W ∧ d ≤ q + 1 := by
  have hlt : d < W := by
    rcases Nat.lt_or_ge d W with h | h
    · exact h
    · exfalso
      have hd : d = W := Nat.le_antisymm h1 h
      have h3 := G.top
      have h4 := G.hy2
      rw [hd, Nat.mul_comm W y1] at he
      clear G hd h h1
      generalize W = ww at *
      omega
  refine ⟨hlt, G.le d ?_ hlt⟩
  have h5 : d * y2 ≤ W * W := Nat.mul_le_mul h1 (Nat.le_of_lt G.hy2)
  have h6 : W * W ≤ r * W := Nat.mul_le_mul_right _ hr
  rw [Nat.mul_add, ← Nat.mul_assoc, ← he, Nat.add_mul]
  clear G he h1 hr hlt
  generalize W = ww at *
  omega

theorem Guess.next {u v x0 x1 x2 y1 y2 q : Nat} (_ : Guess u v x0 x1 x2 y1 y2 q) {d r : Nat} (he : d * y1 + r = x0 * W + x1) (hd : 0 < d) : (d - 1) * y1 + (r + y1) = x0 * W + x1 := by
  obtain ⟨e, rfl⟩ : ∃ e, d = e + 1 := ⟨d - 1, by omega⟩
  rw [Nat.add_mul] at he
  simp only [Nat.add_sub_cancel]
  omega

theorem take_digit {u v q d : Nat} (hv : 0 < v) (hq : q = u / v) (h1 : q ≤ d) (h2 : d ≤ q + 1) :
    (u < d * v ↔ d = q + 1) ∧ (d = q → u - d * v = u % v) ∧ (d = q + 1 → ∀ M, v ≤ M → (u + M - d * v + v) % M = u % v) := by
  subst hq
  have e := Nat.div_add_mod u v
  have hm := Nat.mod_lt u hv
  generalize u / v = q at *
  generalize u % v = r at *
  have e2 : q * v = v * q := Nat.mul_comm _ _
  refine ⟨⟨fun h => ?_, fun h => ?_⟩, fun h => ?_, fun h M hM => ?_⟩
  · rcases Nat.lt_or_ge q d with h3 | h3
    · omega
    · obtain rfl : d = q := by omega
      omega
  · subst h; rw [Nat.add_mul]; omega
  · subst h; omega
  · subst h
    rw [Nat.add_mul]
    have : u + M - (q * v + 1 * v) + v = M + r := by omega
    rw [this, Nat.add_mod_left, Nat.mod_eq_of_lt (by omega)]

end Num
end Go.Proofs.YtajjgfiojlagmaaGreatDoor

/- Long division: the loop, plain laws. -/
namespace Go.Proofs.YtajjgfiojlagmaaGreatDoor
namespace Num

structure LongInv (A : Nat) (Y : List Nat) (L k : Nat) (X Q : List Nat) : Prop where
  xl : X.length = L
  ql : Q.length = L - Y.length
  xlt : AllLt W X
  qlt : AllLt W Q
  sum : A = digs W Y * digs W Q + digs W X
  less : digs W (X.drop k) < digs W Y
  zero : ∀ j, j < k → Q.getD j 0 = 0

def seg (X : List Nat) (i n : Nat) : List Nat := (X.drop i).take n

theorem digs_set (B : Nat) : ∀ (l : List Nat) (i d : Nat), i < l.length → l.getD i 0 = 0 → digs B (l.set i d) = digs B l + B ^ i * d
  | x :: l, 0, d, _, h => by simp at h; subst h; simp [digs]; omega
  | x :: l, i + 1, d, hi, h => by
    have := digs_set B l i d (by simpa using hi) (by simpa using h)
    simp only [List.set_cons_succ, digs, this, Nat.pow_succ]
    rw [Nat.mul_add, Nat.mul_comm (B ^ i) B, Nat.mul_assoc]
    omega

theorem X_split (X : List Nat) (i n : Nat) (h : i + n < X.length) :
    X = X.take i ++ seg X i n ++ X.getD (i + n) 0 :: X.drop (i + n + 1) ∧ (X.take i).length = i ∧ (seg X i n).length = n := by
  refine ⟨?_, by simp; omega, by simp [seg]; omega⟩
  conv => lhs; rw [← List.take_append_drop i X]
  rw [List.append_assoc]
  congr 1
  conv => lhs; rw [← List.take_append_drop n (X.drop i)]
  unfold seg
  congr 1
  rw [List.drop_drop, List.drop_eq_getElem_cons h, List.getD_eq_getElem?_getD, List.getElem?_eq_getElem h]
  rfl

theorem long_seg {A : Nat} {Y : List Nat} {L i : Nat} {X Q : List Nat} (H : LongInv A Y L (i + 1) X Q) (_hy : 0 < Y.length) (hY : AllLt W Y) (h : i + Y.length < L) :
    digs W (X.drop (i + Y.length + 1)) = 0 ∧ digs W (seg X i Y.length ++ [X.getD (i + Y.length) 0]) < W * digs W Y ∧
    digs W X = digs W (X.take i) + W ^ i * digs W (seg X i Y.length ++ [X.getD (i + Y.length) 0]) := by
  have hW : (0 : Nat) < W := by decide
  obtain ⟨e1, e2, e3⟩ := X_split X i Y.length (by rw [H.xl]; exact h)
  have hv := digs_lt hW hY
  have hless := H.less
  have hd : X.drop (i + 1) = (seg X i Y.length ++ [X.getD (i + Y.length) 0]).drop 1 ++ X.drop (i + Y.length + 1) := by
    conv => lhs; rw [e1]
    rw [show X.take i ++ seg X i Y.length ++ X.getD (i + Y.length) 0 :: X.drop (i + Y.length + 1) = X.take i ++ ((seg X i Y.length ++ [X.getD (i + Y.length) 0]) ++ X.drop (i + Y.length + 1)) by simp]
    rw [List.drop_append, List.drop_eq_nil_of_le (by omega), List.nil_append, e2, show i + 1 - i = 1 by omega, List.drop_append_of_le_length (by simp)]
  have hl1 : ((seg X i Y.length ++ [X.getD (i + Y.length) 0]).drop 1).length = Y.length := by simp [e3]
  rw [hd, digs_append, hl1] at hless
  have hz : digs W (X.drop (i + Y.length + 1)) = 0 := by
    rcases Nat.eq_zero_or_pos (digs W (X.drop (i + Y.length + 1))) with h0 | h0
    · exact h0
    · have : W ^ Y.length * 1 ≤ W ^ Y.length * digs W (X.drop (i + Y.length + 1)) := Nat.mul_le_mul_left _ h0
      omega
  rw [hz, Nat.mul_zero, Nat.add_zero] at hless
  refine ⟨hz, ?_, ?_⟩
  · have hne : seg X i Y.length ++ [X.getD (i + Y.length) 0] ≠ [] := by simp
    obtain ⟨a, t, hat⟩ := List.exists_cons_of_ne_nil hne
    rw [hat] at hless ⊢
    simp only [List.drop_succ_cons, List.drop_zero] at hless
    have ha : a < W := by
      have : a ∈ X := by
        rw [e1]
        have : a ∈ seg X i Y.length ++ [X.getD (i + Y.length) 0] := by rw [hat]; simp
        rcases List.mem_append.1 this with h1 | h1
        · simp [h1]
        · simp at h1; simp [h1]
      exact H.xlt a this
    rw [digs]
    have : W * (digs W t + 1) ≤ W * digs W Y := Nat.mul_le_mul_left _ hless
    rw [Nat.mul_add] at this
    omega
  · conv => lhs; rw [e1]
    rw [show X.take i ++ seg X i Y.length ++ X.getD (i + Y.length) 0 :: X.drop (i + Y.length + 1) = X.take i ++ ((seg X i Y.length ++ [X.getD (i + Y.length) 0]) ++ X.drop (i + Y.length + 1)) by simp]
    rw [digs_append, digs_append, hz, e2]
    simp

theorem long_step {A : Nat} {Y : List Nat} {L i : Nat} {X Q : List Nat} (H : LongInv A Y L (i + 1) X Q) (hy : 0 < Y.length) (hY : AllLt W Y) (h : i + Y.length < L)
    {u : Nat} (hu : u = digs W (seg X i Y.length ++ [X.getD (i + Y.length) 0])) (hv : 0 < digs W Y) (hq : u / digs W Y < W)
    (xs' : List Nat) (t' : Nat) (hl : xs'.length = Y.length) (hlt : AllLt W (xs' ++ [t'])) (hd : digs W (xs' ++ [t']) = u % digs W Y) :
    LongInv A Y L i (X.take i ++ xs' ++ t' :: X.drop (i + Y.length + 1)) (Q.set i (u / digs W Y)) := by
  obtain ⟨h1, h2, h3⟩ := long_seg H hy hY h
  obtain ⟨e1, e2, e3⟩ := X_split X i Y.length (by rw [H.xl]; exact h)
  rw [← hu] at h3
  have ee : X.take i ++ xs' ++ t' :: X.drop (i + Y.length + 1) = X.take i ++ ((xs' ++ [t']) ++ X.drop (i + Y.length + 1)) := by simp
  rw [ee]
  refine ⟨?_, by rw [List.length_set]; exact H.ql, ?_, H.qlt.set _ _ hq, ?_, ?_, ?_⟩
  · simp [e2, hl, H.xl]; have := H.xl; omega
  · exact (H.xlt.take i).append (hlt.append (H.xlt.drop _))
  · rw [digs_set W Q i _ (by rw [H.ql]; omega) (H.zero i (by omega)), digs_append, digs_append, h1, e2, hd]
    have hs := H.sum
    rw [h3] at hs
    have hdm := Nat.div_add_mod u (digs W Y)
    generalize u / digs W Y = q at *
    generalize u % digs W Y = r at *
    generalize digs W Y = v at *
    generalize digs W Q = z at *
    generalize digs W (X.take i) = a at *
    generalize W ^ i = p at *
    rw [hs, ← hdm]
    grind
  · rw [List.drop_append, List.drop_eq_nil_of_le (by omega), List.nil_append, e2, Nat.sub_self, List.drop_zero, digs_append, h1, hd]
    have := Nat.mod_lt u hv
    simpa using this
  · intro j hj
    have := H.zero j (by omega)
    rw [List.getD_eq_getElem?_getD, List.getElem?_set_ne (by omega), ← List.getD_eq_getElem?_getD]
    exact this

theorem long_end {A : Nat} {Y : List Nat} {L : Nat} {X Q : List Nat} (H : LongInv A Y L 0 X Q) : digs W Q = A / digs W Y ∧ digs W X = A % digs W Y := by
  have h1 := H.less
  rw [List.drop_zero] at h1
  rw [H.sum]
  constructor
  · rw [Nat.mul_add_div (by omega), Nat.div_eq_of_lt h1, Nat.add_zero]
  · rw [Nat.mul_add_mod, Nat.mod_eq_of_lt h1]

end Num
end Go.Proofs.YtajjgfiojlagmaaGreatDoor

/- What Div does around long: plain laws. -/
namespace Go.Proofs.YtajjgfiojlagmaaGreatDoor
namespace Num

def shl (l : List Nat) (s : Nat) : List Nat := (cl W 0 (l.map (· * 2 ^ s))).1

theorem shl_carry (l : List Nat) (s : Nat) (_hs : s ≤ 31) (hl : AllLt W l) : ∀ k, (cl W 0 ((l.map (· * 2 ^ s)).take k)).2 < 2 ^ s := by
  intro k
  induction k with
  | zero => simp [cl]; exact Nat.pow_pos (by omega)
  | succ k ih =>
    by_cases hk : k < (l.map (· * 2 ^ s)).length
    · rw [cl_take_succ _ _ _ _ hk]
      simp only
      have hk2 : k < l.length := by simpa using hk
      have hg : (l.map (· * 2 ^ s)).getD k 0 = l.getD k 0 * 2 ^ s := by simp [List.getD_eq_getElem?_getD, hk2]
      have hx := hl.getD (by decide) k
      rw [hg, Nat.div_lt_iff_lt_mul (by decide)]
      generalize (cl W 0 ((l.map (· * 2 ^ s)).take k)).2 = c at *
      generalize l.getD k 0 = x at *
      have : (x + 1) * 2 ^ s ≤ W * 2 ^ s := Nat.mul_le_mul_right _ hx
      rw [Nat.add_mul, Nat.mul_comm W] at this
      omega
    · rw [List.take_of_length_le (by omega)]
      rw [List.take_of_length_le (by omega)] at ih
      exact ih

theorem shl_length (l : List Nat) (s : Nat) : (shl l s).length = l.length := by simp [shl, cl_length]
theorem shl_lt (l : List Nat) (s : Nat) : AllLt W (shl l s) := cl_lt W (by decide) _ _

theorem shl_last (l : List Nat) (x s : Nat) : shl (l ++ [x]) s = shl l s ++ [((cl W 0 (l.map (· * 2 ^ s))).2 + x * 2 ^ s) % W] ∧
    (cl W 0 ((l ++ [x]).map (· * 2 ^ s))).2 = ((cl W 0 (l.map (· * 2 ^ s))).2 + x * 2 ^ s) / W := by
  unfold shl
  rw [List.map_append, List.map_cons, List.map_nil, cl_snoc]
  exact ⟨rfl, rfl⟩

theorem shl_digs (l : List Nat) (s : Nat) (h : (cl W 0 (l.map (· * 2 ^ s))).2 = 0) : digs W (shl l s) = digs W l * 2 ^ s := by
  have := cl_digs W (l.map (· * 2 ^ s)) 0
  rw [h, digs_map_mul] at this
  unfold shl
  omega

theorem shl_x (X : List Nat) (s : Nat) (hs : s ≤ 31) (hX : AllLt W X) :
    digs W (shl (X ++ [0]) s) = digs W X * 2 ^ s ∧ (shl (X ++ [0]) s).getD X.length 0 < 2 ^ s := by
  have hc := shl_carry X s hs hX X.length
  rw [List.take_of_length_le (by simp)] at hc
  have h31 : (2 : Nat) ^ s ≤ 2 ^ 31 := Nat.pow_le_pow_right (by omega) hs
  have e31 : (2 : Nat) ^ 31 = 2147483648 := by decide
  obtain ⟨h1, h2⟩ := shl_last X 0 s
  have hm : ((cl W 0 (X.map (· * 2 ^ s))).2 + 0 * 2 ^ s) % W = (cl W 0 (X.map (· * 2 ^ s))).2 := by rw [Nat.zero_mul, Nat.add_zero]; exact Nat.mod_eq_of_lt (show _ < 4294967296 by omega)
  have hd : ((cl W 0 (X.map (· * 2 ^ s))).2 + 0 * 2 ^ s) / W = 0 := by rw [Nat.zero_mul, Nat.add_zero]; exact Nat.div_eq_of_lt (show _ < 4294967296 by omega)
  constructor
  · rw [shl_digs _ _ (h2.trans hd), digs_snoc]; simp
  · rw [h1, hm, List.getD_eq_getElem?_getD, List.getElem?_append_right (by rw [shl_length]; omega), shl_length, Nat.sub_self]
    exact hc

theorem shl_y (Y : List Nat) (y s : Nat) (hs : s ≤ 31) (hY : AllLt W Y) (h1 : y < 2 ^ (32 - s)) (h2 : 2 ^ (31 - s) ≤ y) :
    digs W (shl (Y ++ [y]) s) = digs W (Y ++ [y]) * 2 ^ s ∧ 2147483648 ≤ (shl (Y ++ [y]) s).getD Y.length 0 := by
  have hc := shl_carry Y s hs hY Y.length
  rw [List.take_of_length_le (by simp)] at hc
  obtain ⟨e1, e2⟩ := shl_last Y y s
  have hp : (2 : Nat) ^ (32 - s) * 2 ^ s = 4294967296 := by rw [← Nat.pow_add]; rw [show 32 - s + s = 32 by omega]
  have hp2 : (2 : Nat) ^ (31 - s) * 2 ^ s = 2147483648 := by rw [← Nat.pow_add]; rw [show 31 - s + s = 31 by omega]
  have hlt : (cl W 0 (Y.map (· * 2 ^ s))).2 + y * 2 ^ s < W := by
    have : (y + 1) * 2 ^ s ≤ 2 ^ (32 - s) * 2 ^ s := Nat.mul_le_mul_right _ h1
    rw [Nat.add_mul, hp] at this
    show _ < 4294967296
    omega
  have hge : 2147483648 ≤ y * 2 ^ s := by rw [← hp2]; exact Nat.mul_le_mul_right _ h2
  rw [Nat.mod_eq_of_lt hlt] at e1
  rw [Nat.div_eq_of_lt hlt] at e2
  constructor
  · exact shl_digs _ _ e2
  · rw [e1, List.getD_eq_getElem?_getD, List.getElem?_append_right (by rw [shl_length]; omega), shl_length, Nat.sub_self]
    simp; omega

def srw (s x y : Nat) : Nat := x / 2 ^ s + (y % 2 ^ s) * 2 ^ (32 - s)
def sr (s : Nat) : List Nat → List Nat
  | [] => []
  | [x] => [srw s x 0]
  | x :: y :: l => srw s x y :: sr s (y :: l)

theorem sr_length (s : Nat) : ∀ l, (sr s l).length = l.length
  | [] => rfl
  | [_] => rfl
  | x :: y :: l => by simp [sr, sr_length s (y :: l)]

theorem sr_get (s : Nat) : ∀ (l : List Nat) (i : Nat), i < l.length → (sr s l)[i]? = some (srw s (l.getD i 0) (l.getD (i + 1) 0))
  | [x], i, h => by obtain rfl : i = 0 := by simpa using h
                    simp [sr]
  | x :: y :: l, 0, _ => by simp [sr]
  | x :: y :: l, i + 1, h => by
    have := sr_get s (y :: l) i (by simpa using h)
    simpa [sr] using this

theorem sr_digs (s : Nat) (hs : s ≤ 32) : ∀ l, digs W l = digs W (sr s l) * 2 ^ s + l.getD 0 0 % 2 ^ s
  | [] => by simp [sr, digs]
  | [x] => by
    simp only [sr, digs, srw, Nat.zero_mod, Nat.zero_mul, Nat.add_zero, Nat.mul_zero]
    have := Nat.div_add_mod x (2 ^ s)
    rw [Nat.mul_comm] at this
    simpa using this.symm
  | x :: y :: l => by
    have ih := sr_digs s hs (y :: l)
    have h1 := Nat.div_add_mod x (2 ^ s)
    have hp : (2 : Nat) ^ (32 - s) * 2 ^ s = W := by rw [← Nat.pow_add]; rw [show 32 - s + s = 32 by omega]
    have e : digs W (x :: y :: l) = x + W * digs W (y :: l) := rfl
    rw [e, ih]
    simp only [sr, digs, srw, List.getD_cons_zero]
    generalize digs W (sr s (y :: l)) = z at *
    generalize x / 2 ^ s = a at *
    generalize x % 2 ^ s = b at *
    generalize y % 2 ^ s = c at *
    generalize (2 : Nat) ^ (32 - s) = p at *
    generalize (2 : Nat) ^ s = q at *
    rw [← h1, ← hp]
    grind

theorem sr_div (s : Nat) (hs : s ≤ 32) (l : List Nat) : digs W (sr s l) = digs W l / 2 ^ s := by
  have h1 := sr_digs s hs l
  have hp : 0 < 2 ^ s := Nat.pow_pos (by omega)
  rw [h1, Nat.mul_comm, Nat.mul_add_div hp, Nat.div_eq_of_lt (Nat.mod_lt _ hp), Nat.add_zero]

theorem srw_lt (s x y : Nat) (hs : s ≤ 32) (hx : x < W) : srw s x y < W := by
  unfold srw
  have hp : (2 : Nat) ^ (32 - s) * 2 ^ s = W := by rw [← Nat.pow_add]; rw [show 32 - s + s = 32 by omega]
  have h1 : x / 2 ^ s < 2 ^ (32 - s) := by rw [Nat.div_lt_iff_lt_mul (Nat.pow_pos (by omega)), hp]; exact hx
  have h2 : y % 2 ^ s < 2 ^ s := Nat.mod_lt _ (Nat.pow_pos (by omega))
  have h3 : (y % 2 ^ s + 1) * 2 ^ (32 - s) ≤ 2 ^ s * 2 ^ (32 - s) := Nat.mul_le_mul_right _ h2
  rw [Nat.add_mul, Nat.mul_comm (2 ^ s), hp] at h3
  omega

theorem sr_lt (s : Nat) (hs : s ≤ 32) (l : List Nat) (hl : AllLt W l) : AllLt W (sr s l) := by
  intro d hd
  rw [List.mem_iff_getElem?] at hd
  obtain ⟨i, hi⟩ := hd
  have hil : i < l.length := by rw [← sr_length s l]; exact (List.getElem?_eq_some_iff.1 hi).1
  rw [sr_get s l i hil] at hi
  obtain rfl := Option.some.inj hi
  exact srw_lt s _ _ hs (hl.getD (by decide) i)

def srT (s n : Nat) (R : List Nat) (k : Nat) : List Nat := (sr s (R.take n)).take k ++ R.drop k

theorem sr_take_length (s n : Nat) (R : List Nat) (hn : n ≤ R.length) : (sr s (R.take n)).length = n := by rw [sr_length, List.length_take]; omega

theorem srT_get (s n : Nat) (R : List Nat) (hn : n ≤ R.length) (k j : Nat) (hk : k ≤ n) (hkj : k ≤ j) (hj : j < R.length) : (srT s n R k)[j]? = some (R.getD j 0) := by
  have hl := sr_take_length s n R hn
  have hd : ((sr s (R.take n)).take k).length = k := by rw [List.length_take, hl]; omega
  unfold srT
  rw [get_done hd hkj, List.getD_eq_getElem?_getD, List.getElem?_eq_getElem hj]
  rfl

theorem srT_set (s n : Nat) (R : List Nat) (hn : n ≤ R.length) (k : Nat) (hk : k < n) :
    (srT s n R k).set k (srw s (R.getD k 0) ((R.take n).getD (k + 1) 0)) = srT s n R (k + 1) := by
  have hl := sr_take_length s n R hn
  have hd : ((sr s (R.take n)).take k).length = k := by rw [List.length_take, hl]; omega
  unfold srT
  rw [set_done hd (by omega), List.take_add_one, sr_get s _ k (by rw [List.length_take]; omega)]
  rw [show (R.take n).getD k 0 = R.getD k 0 by rw [getD_take, if_pos hk]]
  rfl

theorem srT_zero (s n : Nat) (R : List Nat) : srT s n R 0 = R := by simp [srT]
theorem srT_full (s n : Nat) (R : List Nat) (hn : n ≤ R.length) : srT s n R n = sr s (R.take n) ++ R.drop n := by
  unfold srT
  rw [List.take_of_length_le (by rw [sr_take_length s n R hn]; exact Nat.le_refl _)]

theorem digs_take_of_lt (B : Nat) (R : List Nat) (n : Nat) (hn : n ≤ R.length) (h : digs B R < B ^ n) : digs B (R.take n) = digs B R := by
  have h2 := digs_append B (R.take n) (R.drop n)
  rw [List.take_append_drop, List.length_take, Nat.min_eq_left hn] at h2
  rcases Nat.eq_zero_or_pos (digs B (R.drop n)) with h6 | h6
  · rw [h6] at h2; simpa using h2.symm
  · have : B ^ n * 1 ≤ B ^ n * digs B (R.drop n) := Nat.mul_le_mul_left _ h6
    omega

theorem div_end (a b s n : Nat) (R Q SY : List Nat) (hs : s ≤ 32) (hn : n ≤ R.length) (hl : SY.length = n) (hSY : AllLt W SY) (hlt : digs W R < digs W SY)
    (hr : digs W R = a * 2 ^ s % (b * 2 ^ s)) (hq : digs W Q = a * 2 ^ s / (b * 2 ^ s)) : digs W (sr s (R.take n)) = a % b ∧ digs W Q = a / b := by
  have h1 := digs_lt (show 0 < W by decide) hSY
  rw [hl] at h1
  have h2 := digs_take_of_lt W R n hn (Nat.lt_trans hlt h1)
  constructor
  · rw [sr_div s hs, h2, hr, Nat.mul_mod_mul_right, Nat.mul_div_cancel _ (Nat.pow_pos (by omega))]
  · rw [hq, Nat.mul_div_mul_right _ _ (Nat.pow_pos (by omega))]

theorem srw_word (s x y : Nat) (h0 : 0 < s) (hs : s ≤ 31) (hx : x < 4294967296) :
    bits BinOp.or IntKind.u32 ((x : Int) / 2 ^ s) ((y : Int) * 2 ^ (32 - s) % 4294967296) = (srw s x y : Nat) := by
  have hp : (2 : Nat) ^ (32 - s) * 2 ^ s = 4294967296 := by rw [← Nat.pow_add]; rw [show 32 - s + s = 32 by omega]
  have e1 : (x : Int) / 2 ^ s = ((x / 2 ^ s : Nat) : Int) := by simp
  have e2 : (y : Int) * 2 ^ (32 - s) % 4294967296 = ((y * 2 ^ (32 - s) % 4294967296 : Nat) : Int) := by simp
  have h1 : x / 2 ^ s < 2 ^ (32 - s) := by rw [Nat.div_lt_iff_lt_mul (Nat.pow_pos (by omega)), hp]; exact hx
  have h2 : y * 2 ^ (32 - s) % 4294967296 = (y % 2 ^ s) * 2 ^ (32 - s) := by
    rw [← hp, Nat.mul_comm y, Nat.mul_mod_mul_left, Nat.mul_comm]
  rw [e1, e2, u32_or_nat _ _ (Nat.lt_of_le_of_lt (Nat.div_le_self _ _) hx) (Nat.mod_lt _ (by decide)), h2, or_high _ _ _ h1]
  rfl

theorem srw_zero (x y : Nat) : srw 0 x y = x := by simp [srw, Nat.mod_one]
theorem srw_last (s x : Nat) : srw s x 0 = x / 2 ^ s := by simp [srw]

end Num
end Go.Proofs.YtajjgfiojlagmaaGreatDoor
