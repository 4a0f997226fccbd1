/- Numbers as bytes: lengths, order, bits: plain laws. -/
import Derived.Test.YtlomlcljjidfjaaNatA
import Derived.Lib.BitFns
namespace Go.Proofs.Ytlomlcljjidfjaa
namespace Num

theorem nb_size (n : Nat) : (nb n).size = nl n := by simp [nb, nl, mkStr_size]
theorem bts_nb (n : Nat) : bts (nb n) = digitsOf 256 n := bts_mkStr (digitsOf_lt (by omega) n)
theorem nb_get (n k : Nat) (h : k < (nb n).size) : ((nb n)[k]).toNat = (digitsOf 256 n).getD k 0 := by
  rw [← bts_getD _ _ h, bts_nb]
theorem nb_inj {a b : Nat} (h : nb a = nb b) : a = b := by
  have := congrArg bts h
  rw [bts_nb, bts_nb] at this
  exact digitsOf_inj (by omega) this
theorem natV_zero : natV 0 = .agg #[.string { data := #[] }] := rfl
theorem nb_zero : nb 0 = ByteArray.empty := rfl
theorem nl_zero : nl 0 = 0 := rfl
theorem nl_eq_zero {n : Nat} : nl n = 0 ↔ n = 0 := by
  unfold nl
  rw [List.length_eq_zero_iff]; exact digitsOf_eq_nil (by omega)

theorem nl_le_of_lt {n k : Nat} (h : n < 256 ^ k) : nl n ≤ k := length_le_of_lt_pow (by omega) k n h
theorem lt_pow_nl (n : Nat) : n < 256 ^ nl n := lt_pow_length (by omega) n
theorem nl_mono {a b : Nat} (h : a ≤ b) : nl a ≤ nl b := nl_le_of_lt (Nat.lt_of_le_of_lt h (lt_pow_nl b))
theorem pow_le_of_nl {n k : Nat} (h : k < nl n) : 256 ^ k ≤ n := pow_le_of_length (by omega) n k h
theorem nl_mul (a b : Nat) : nl (a * b) ≤ nl a + nl b := by
  apply nl_le_of_lt
  rw [Nat.pow_add]
  exact Nat.mul_lt_mul'' (lt_pow_nl a) (lt_pow_nl b)
theorem nl_add (a b : Nat) : nl (a + b) ≤ max (nl a) (nl b) + 1 := by
  apply nl_le_of_lt
  have h1 : 256 ^ nl a ≤ 256 ^ max (nl a) (nl b) := Nat.pow_le_pow_right (by omega) (by omega)
  have h2 : 256 ^ nl b ≤ 256 ^ max (nl a) (nl b) := Nat.pow_le_pow_right (by omega) (by omega)
  have h3 := lt_pow_nl a
  have h4 := lt_pow_nl b
  rw [Nat.pow_succ]; omega
theorem nl_u64 {n : Nat} (h : n < 18446744073709551616) : nl n ≤ 8 := nl_le_of_lt (k := 8) (by omega)

theorem dlen_le (n : Nat) : (digitsOf 10 n).length ≤ 3 * nl n := by
  apply length_le_of_lt_pow (by omega)
  have h1 := lt_pow_nl n
  have h2 : (256 : Nat) ^ nl n ≤ 1000 ^ nl n := Nat.pow_le_pow_left (by omega) _
  rw [Nat.pow_mul, show (10 : Nat) ^ 3 = 1000 by decide]
  omega

/-- No more words than bytes. -/
theorem wlen_le (n : Nat) : (digitsOf W n).length ≤ nl n := by
  apply length_le_of_lt_pow (by decide)
  have h1 := lt_pow_nl n
  have h2 : (256 : Nat) ^ nl n ≤ W ^ nl n := Nat.pow_le_pow_left (by decide) _
  omega

/-- The order of two lists of digits of one length is decided at the highest place where they part. -/
theorem digs_lt_of_top {B : Nat} (hB : 0 < B) {xs ys : List Nat} (hx : AllLt B xs) (hl : xs.length = ys.length) (i : Nat) (hi : i < xs.length)
    (hlt : xs.getD i 0 < ys.getD i 0) (heq : ∀ j, i < j → xs.getD j 0 = ys.getD j 0) : digs B xs < digs B ys := by
  have e1 : xs = xs.take i ++ xs[i] :: xs.drop (i + 1) := by rw [← List.drop_eq_getElem_cons hi, List.take_append_drop]
  have e2 : ys = ys.take i ++ ys[i]'(by omega) :: ys.drop (i + 1) := by rw [← List.drop_eq_getElem_cons (by omega), List.take_append_drop]
  have e3 : xs.drop (i + 1) = ys.drop (i + 1) := by
    apply List.ext_getElem
    · simp [hl]
    · intro j h1 h2
      simp only [List.length_drop] at h1 h2
      have := heq (i + 1 + j) (by omega)
      rw [List.getD_eq_getElem?_getD, List.getD_eq_getElem?_getD, List.getElem?_eq_getElem (by omega), List.getElem?_eq_getElem (by omega)] at this
      simpa using this
  have g1 : xs.getD i 0 = xs[i] := by simp [List.getD_eq_getElem?_getD, hi]
  have g2 : ys.getD i 0 = ys[i]'(by omega) := by simp [List.getD_eq_getElem?_getD, show i < ys.length by omega]
  rw [g1, g2] at hlt
  have h3 := digs_lt hB (hx.take i)
  rw [e1, e2, digs_append, digs_append, digs_cons, digs_cons, e3]
  have l1 : (xs.take i).length = i := by simp; omega
  have l2 : (ys.take i).length = i := by simp; omega
  rw [l1] at h3
  rw [l1, l2]
  have h4 : B ^ i * (xs[i] + 1 + B * digs B (ys.drop (i + 1))) ≤ B ^ i * (ys[i]'(by omega) + B * digs B (ys.drop (i + 1))) := Nat.mul_le_mul_left _ (by omega)
  have h5 : B ^ i * (xs[i] + 1 + B * digs B (ys.drop (i + 1))) = B ^ i * (xs[i] + B * digs B (ys.drop (i + 1))) + B ^ i := by
    rw [Nat.add_right_comm, Nat.mul_add (B ^ i) _ 1, Nat.mul_one]
  have h6 := Nat.zero_le (digs B (ys.take i))
  omega

theorem lt_of_top {a b : Nat} (hl : nl a = nl b) (i : Nat) (hi : i < nl a) (hlt : (digitsOf 256 a).getD i 0 < (digitsOf 256 b).getD i 0)
    (heq : ∀ j, i < j → (digitsOf 256 a).getD j 0 = (digitsOf 256 b).getD j 0) : a < b := by
  have := digs_lt_of_top (B := 256) (by omega) (digitsOf_lt (by omega) a) hl i hi hlt heq
  rwa [digs_digitsOf (by omega), digs_digitsOf (by omega)] at this

theorem eq_of_all {a b : Nat} (hl : nl a = nl b) (heq : ∀ j, (digitsOf 256 a).getD j 0 = (digitsOf 256 b).getD j 0) : a = b := by
  apply digitsOf_inj (B := 256) (by omega)
  apply List.ext_getElem hl
  intro i h1 h2
  have := heq i
  simpa [List.getD_eq_getElem?_getD, h1, h2] using this

theorem lt_of_nl {a b : Nat} (h : nl a < nl b) : a < b := Nat.lt_of_lt_of_le (lt_pow_nl a) (pow_le_of_nl h)

/-- What Cmp answers. -/
def cmpI (a b : Nat) : Int := if a < b then -1 else if a = b then 0 else 1
theorem cmpI_lt {a b : Nat} (h : a < b) : cmpI a b = -1 := by simp [cmpI, h]
theorem cmpI_eq (a : Nat) : cmpI a a = 0 := by simp [cmpI]
theorem cmpI_gt {a b : Nat} (h : b < a) : cmpI a b = 1 := by
  unfold cmpI; rw [if_neg (by omega), if_neg (by omega)]

/-! ### Bits -/
theorem bitLenAux_eq : ∀ (f x : Nat), x < 2 ^ f → Lib.bitLenAux f x = (digitsOf 2 x).length
  | 0, x, h => by obtain rfl : x = 0 := by simpa using h
                  rfl
  | f + 1, x, h => by
    unfold Lib.bitLenAux
    by_cases h0 : x = 0
    · subst h0; simp [digitsOf_zero]
    · rw [if_neg h0, digitsOf_pos (by omega) (by omega), bitLenAux_eq f (x / 2) (by rw [Nat.pow_succ] at h; omega)]
      simp; omega
theorem bitLen_eq (x : Nat) (h : x < 18446744073709551616) : Lib.bitLen x = (digitsOf 2 x).length := bitLenAux_eq 64 x h

/-- How many binary digits a number has. -/
def blen (n : Nat) : Nat := (digitsOf 2 n).length

theorem length_unique {B n k : Nat} (hB : 2 ≤ B) (h1 : n < B ^ k) (h2 : k = 0 ∨ B ^ (k - 1) ≤ n) : (digitsOf B n).length = k := by
  apply Nat.le_antisymm (length_le_of_lt_pow hB k n h1)
  rcases h2 with rfl | h2
  · exact Nat.zero_le _
  · rcases Nat.lt_or_ge (digitsOf B n).length k with h | h
    · have := lt_pow_length hB n
      have : B ^ (digitsOf B n).length ≤ B ^ (k - 1) := Nat.pow_le_pow_right (by omega) (by omega)
      omega
    · exact h

theorem blen_bytes (n : Nat) (hn : n ≠ 0) : blen n = 8 * (nl n - 1) + blen ((digitsOf 256 n).getD (nl n - 1) 0) := by
  have hp : 0 < nl n := Nat.pos_of_ne_zero (fun h => hn (nl_eq_zero.1 h))
  have hlen : nl n - 1 < (digitsOf 256 n).length := by unfold nl at hp ⊢; omega
  obtain ⟨d, hd⟩ : ∃ d, d = (digitsOf 256 n).getD (nl n - 1) 0 := ⟨_, rfl⟩
  have hg : (digitsOf 256 n).getD (nl n - 1) 0 = (digitsOf 256 n)[nl n - 1] := by simp [List.getD_eq_getElem?_getD, hlen]
  have hsplit : digitsOf 256 n = (digitsOf 256 n).take (nl n - 1) ++ [d] := by
    rw [hd, hg, List.take_append_getElem]
    exact (List.take_of_length_le (by unfold nl at *; omega)).symm
  have hv : n = digs 256 ((digitsOf 256 n).take (nl n - 1)) + 256 ^ (nl n - 1) * d := by
    have := digs_snoc 256 ((digitsOf 256 n).take (nl n - 1)) d
    rw [← hsplit, digs_digitsOf (by omega), List.length_take, Nat.min_eq_left (by omega)] at this
    exact this
  have hlow := digs_lt (B := 256) (by omega) ((digitsOf_lt (B := 256) (by omega) n).take (nl n - 1))
  rw [List.length_take, Nat.min_eq_left (by omega)] at hlow
  have hd0 : d ≠ 0 := by
    have hc := digitsOf_canon (B := 256) (by omega) n
    unfold Canon at hc
    rw [hsplit, List.getLast?_append] at hc
    simpa using hc
  rw [← hd]
  generalize digs 256 ((digitsOf 256 n).take (nl n - 1)) = r at *
  have e256 : ∀ k, 256 ^ k = 2 ^ (8 * k) := fun k => by rw [Nat.pow_mul]
  rw [e256] at hv hlow
  have b1 := lt_pow_length (B := 2) (by omega) d
  have b3 : blen d ≠ 0 := by
    unfold blen
    intro h
    exact hd0 ((digitsOf_eq_nil (B := 2) (by omega)).1 (List.eq_nil_of_length_eq_zero h))
  have b2 := pow_le_of_length (B := 2) (by omega) d (blen d - 1) (by unfold blen at *; omega)
  generalize nl n - 1 = k at *
  have hbl : (digitsOf 2 d).length = blen d := rfl
  rw [hbl] at b1
  generalize blen d = m at *
  unfold blen
  apply length_unique (by omega)
  · rw [Nat.pow_add]
    have : 2 ^ (8 * k) * (d + 1) ≤ 2 ^ (8 * k) * 2 ^ m := Nat.mul_le_mul_left _ b1
    rw [Nat.mul_add] at this
    omega
  · right
    have : 8 * k + m - 1 = 8 * k + (m - 1) := by omega
    rw [this, Nat.pow_add]
    have := Nat.mul_le_mul_left (2 ^ (8 * k)) b2
    omega

/-- A number of 64 bits out of its bytes. -/
theorem digs_take_succ {B : Nat} (l : List Nat) (k : Nat) (h : k < l.length) : digs B (l.take (k + 1)) = digs B (l.take k) + B ^ k * l.getD k 0 := by
  rw [List.take_succ_eq_append_getElem h, digs_snoc, List.length_take, Nat.min_eq_left (by omega)]
  simp [List.getD_eq_getElem?_getD, h]

theorem u64_or_step (n k b : Nat) (hn : nl n ≤ 8) (hk : k < nl n) (hb : (digitsOf 256 n).getD k 0 = b) :
    bits BinOp.or IntKind.u64 (digs 256 ((digitsOf 256 n).take k) : Nat) ((b : Int) * 2 ^ (8 * k) % 18446744073709551616) = ((digs 256 ((digitsOf 256 n).take (k + 1)) : Nat) : Int) := by
  have h1 := (digitsOf_lt (B := 256) (by omega) n).getD (by omega) k
  have hlow := digs_lt (B := 256) (by omega) ((digitsOf_lt (B := 256) (by omega) n).take k)
  have hup := digs_lt (B := 256) (by omega) ((digitsOf_lt (B := 256) (by omega) n).take (k + 1))
  have hlen : k < (digitsOf 256 n).length := hk
  rw [List.length_take, Nat.min_eq_left (by omega)] at hlow hup
  rw [hb] at h1
  rw [digs_take_succ _ _ hlen, hb] at hup ⊢
  have e256 : ∀ k, 256 ^ k = 2 ^ (8 * k) := fun k => by rw [Nat.pow_mul]
  rw [e256] at hlow hup ⊢
  have hup2 : (256 : Nat) ^ (k + 1) ≤ 256 ^ 8 := Nat.pow_le_pow_right (by omega) (by omega)
  rw [e256, e256] at hup2
  generalize digs 256 ((digitsOf 256 n).take k) = x at *
  have hbig : b * 2 ^ (8 * k) < 18446744073709551616 := by
    rw [Nat.mul_comm]; rw [e256] at hup
    have : (2 : Nat) ^ (8 * 8) = 18446744073709551616 := by decide
    omega
  have hx : x < 18446744073709551616 := by
    have : (2 : Nat) ^ (8 * k) ≤ 2 ^ 64 := Nat.pow_le_pow_right (by omega) (by omega)
    have e : (2 : Nat) ^ 64 = 18446744073709551616 := by decide
    omega
  have e : (b : Int) * 2 ^ (8 * k) % 18446744073709551616 = ((b * 2 ^ (8 * k) : Nat) : Int) := by
    have : (b : Int) * 2 ^ (8 * k) = ((b * 2 ^ (8 * k) : Nat) : Int) := by simp
    rw [this]
    generalize b * 2 ^ (8 * k) = y at *
    omega
  rw [e, u64_or_nat _ _ hx hbig, or_high _ _ _ hlow, Nat.mul_comm]

end Num
end Go.Proofs.Ytlomlcljjidfjaa
