/- Texts of this claim, joined: NatK, NatD, NatE, NatL, RPlain, BPlain. -/
import Derived.Test.YtbacloneddnaeaaM06
import GoSem.Op.String

/- What Div does around long: plain laws. -/
namespace Go.Proofs.Ytbacloneddnaeaa
namespace Num

def shl (l : List Nat) (s : Nat) : List Nat := (cl W 0 (l.map (· * 2 ^ s))).1

theorem shl_carry (l : List Nat) (s : Nat) (_hs : s ≤ 31) (hl : AllLt W l) : ∀ k, (cl W 0 ((l.map (· * 2 ^ s)).take k)).2 < 2 ^ s := by
  intro k
  induction k with
  | zero => simp [cl]; exact Nat.pow_pos (by omega)
  | succ k ih =>
    by_cases hk : k < (l.map (· * 2 ^ s)).length
    · rw [cl_take_succ _ _ _ _ hk]
      simp only
      have hk2 : k < l.length := by simpa using hk
      have hg : (l.map (· * 2 ^ s)).getD k 0 = l.getD k 0 * 2 ^ s := by simp [List.getD_eq_getElem?_getD, hk2]
      have hx := hl.getD (by decide) k
      rw [hg, Nat.div_lt_iff_lt_mul (by decide)]
      generalize (cl W 0 ((l.map (· * 2 ^ s)).take k)).2 = c at *
      generalize l.getD k 0 = x at *
      have : (x + 1) * 2 ^ s ≤ W * 2 ^ s := Nat.mul_le_mul_right _ hx
      rw [Nat.add_mul, Nat.mul_comm W] at this
      omega
    · rw [List.take_of_length_le (by omega)]
      rw [List.take_of_length_le (by omega)] at ih
      exact ih

theorem shl_length (l : List Nat) (s : Nat) : (shl l s).length = l.length := by simp [shl, cl_length]
theorem shl_lt (l : List Nat) (s : Nat) : AllLt W (shl l s) := cl_lt W (by decide) _ _

theorem shl_last (l : List Nat) (x s : Nat) : shl (l ++ [x]) s = shl l s ++ [((cl W 0 (l.map (· * 2 ^ s))).2 + x * 2 ^ s) % W] ∧
    (cl W 0 ((l ++ [x]).map (· * 2 ^ s))).2 = ((cl W 0 (l.map (· * 2 ^ s))).2 + x * 2 ^ s) / W := by
  unfold shl
  rw [List.map_append, List.map_cons, List.map_nil, cl_snoc]
  exact ⟨rfl, rfl⟩

theorem shl_digs (l : List Nat) (s : Nat) (h : (cl W 0 (l.map (· * 2 ^ s))).2 = 0) : digs W (shl l s) = digs W l * 2 ^ s := by
  have := cl_digs W (l.map (· * 2 ^ s)) 0
  rw [h, digs_map_mul] at this
  unfold shl
  omega

theorem shl_x (X : List Nat) (s : Nat) (hs : s ≤ 31) (hX : AllLt W X) :
    digs W (shl (X ++ [0]) s) = digs W X * 2 ^ s ∧ (shl (X ++ [0]) s).getD X.length 0 < 2 ^ s := by
  have hc := shl_carry X s hs hX X.length
  rw [List.take_of_length_le (by simp)] at hc
  have h31 : (2 : Nat) ^ s ≤ 2 ^ 31 := Nat.pow_le_pow_right (by omega) hs
  have e31 : (2 : Nat) ^ 31 = 2147483648 := by decide
  obtain ⟨h1, h2⟩ := shl_last X 0 s
  have hm : ((cl W 0 (X.map (· * 2 ^ s))).2 + 0 * 2 ^ s) % W = (cl W 0 (X.map (· * 2 ^ s))).2 := by rw [Nat.zero_mul, Nat.add_zero]; exact Nat.mod_eq_of_lt (show _ < 4294967296 by omega)
  have hd : ((cl W 0 (X.map (· * 2 ^ s))).2 + 0 * 2 ^ s) / W = 0 := by rw [Nat.zero_mul, Nat.add_zero]; exact Nat.div_eq_of_lt (show _ < 4294967296 by omega)
  constructor
  · rw [shl_digs _ _ (h2.trans hd), digs_snoc]; simp
  · rw [h1, hm, List.getD_eq_getElem?_getD, List.getElem?_append_right (by rw [shl_length]; omega), shl_length, Nat.sub_self]
    exact hc

theorem shl_y (Y : List Nat) (y s : Nat) (hs : s ≤ 31) (hY : AllLt W Y) (h1 : y < 2 ^ (32 - s)) (h2 : 2 ^ (31 - s) ≤ y) :
    digs W (shl (Y ++ [y]) s) = digs W (Y ++ [y]) * 2 ^ s ∧ 2147483648 ≤ (shl (Y ++ [y]) s).getD Y.length 0 := by
  have hc := shl_carry Y s hs hY Y.length
  rw [List.take_of_length_le (by simp)] at hc
  obtain ⟨e1, e2⟩ := shl_last Y y s
  have hp : (2 : Nat) ^ (32 - s) * 2 ^ s = 4294967296 := by rw [← Nat.pow_add]; rw [show 32 - s + s = 32 by omega]
  have hp2 : (2 : Nat) ^ (31 - s) * 2 ^ s = 2147483648 := by rw [← Nat.pow_add]; rw [show 31 - s + s = 31 by omega]
  have hlt : (cl W 0 (Y.map (· * 2 ^ s))).2 + y * 2 ^ s < W := by
    have : (y + 1) * 2 ^ s ≤ 2 ^ (32 - s) * 2 ^ s := Nat.mul_le_mul_right _ h1
    rw [Nat.add_mul, hp] at this
    show _ < 4294967296
    omega
  have hge : 2147483648 ≤ y * 2 ^ s := by rw [← hp2]; exact Nat.mul_le_mul_right _ h2
  rw [Nat.mod_eq_of_lt hlt] at e1
  rw [Nat.div_eq_of_lt hlt] at e2
  constructor
  · exact shl_digs _ _ e2
  · rw [e1, List.getD_eq_getElem?_getD, List.getElem?_append_right (by rw [shl_length]; omega), shl_length, Nat.sub_self]
    simp; omega

def srw (s x y : Nat) : Nat := x / 2 ^ s + (y % 2 ^ s) * 2 ^ (32 - s)
def sr (s : Nat) : List Nat → List Nat
  | [] => []
  | [x] => [srw s x 0]
  | x :: y :: l => srw s x y :: sr s (y :: l)

theorem sr_length (s : Nat) : ∀ l, (sr s l).length = l.length
  | [] => rfl
  | [_] => rfl
  | x :: y :: l => by simp [sr, sr_length s (y :: l)]

theorem sr_get (s : Nat) : ∀ (l : List Nat) (i : Nat), i < l.length → (sr s l)[i]? = some (srw s (l.getD i 0) (l.getD (i + 1) 0))
  | [x], i, h => by obtain rfl : i = 0 := by simpa using h
                    simp [sr]
  | x :: y :: l, 0, _ => by simp [sr]
  | x :: y :: l, i + 1, h => by
    have := sr_get s (y :: l) i (by simpa using h)
    simpa [sr] using this

theorem sr_digs (s : Nat) (hs : s ≤ 32) : ∀ l, digs W l = digs W (sr s l) * 2 ^ s + l.getD 0 0 % 2 ^ s
  | [] => by simp [sr, digs]
  | [x] => by
    simp only [sr, digs, srw, Nat.zero_mod, Nat.zero_mul, Nat.add_zero, Nat.mul_zero]
    have := Nat.div_add_mod x (2 ^ s)
    rw [Nat.mul_comm] at this
    simpa using this.symm
  | x :: y :: l => by
    have ih := sr_digs s hs (y :: l)
    have h1 := Nat.div_add_mod x (2 ^ s)
    have hp : (2 : Nat) ^ (32 - s) * 2 ^ s = W := by rw [← Nat.pow_add]; rw [show 32 - s + s = 32 by omega]
    have e : digs W (x :: y :: l) = x + W * digs W (y :: l) := rfl
    rw [e, ih]
    simp only [sr, digs, srw, List.getD_cons_zero]
    generalize digs W (sr s (y :: l)) = z at *
    generalize x / 2 ^ s = a at *
    generalize x % 2 ^ s = b at *
    generalize y % 2 ^ s = c at *
    generalize (2 : Nat) ^ (32 - s) = p at *
    generalize (2 : Nat) ^ s = q at *
    rw [← h1, ← hp]
    grind

theorem sr_div (s : Nat) (hs : s ≤ 32) (l : List Nat) : digs W (sr s l) = digs W l / 2 ^ s := by
  have h1 := sr_digs s hs l
  have hp : 0 < 2 ^ s := Nat.pow_pos (by omega)
  rw [h1, Nat.mul_comm, Nat.mul_add_div hp, Nat.div_eq_of_lt (Nat.mod_lt _ hp), Nat.add_zero]

theorem srw_lt (s x y : Nat) (hs : s ≤ 32) (hx : x < W) : srw s x y < W := by
  unfold srw
  have hp : (2 : Nat) ^ (32 - s) * 2 ^ s = W := by rw [← Nat.pow_add]; rw [show 32 - s + s = 32 by omega]
  have h1 : x / 2 ^ s < 2 ^ (32 - s) := by rw [Nat.div_lt_iff_lt_mul (Nat.pow_pos (by omega)), hp]; exact hx
  have h2 : y % 2 ^ s < 2 ^ s := Nat.mod_lt _ (Nat.pow_pos (by omega))
  have h3 : (y % 2 ^ s + 1) * 2 ^ (32 - s) ≤ 2 ^ s * 2 ^ (32 - s) := Nat.mul_le_mul_right _ h2
  rw [Nat.add_mul, Nat.mul_comm (2 ^ s), hp] at h3
  omega

theorem sr_lt (s : Nat) (hs : s ≤ 32) (l : List Nat) (hl : AllLt W l) : AllLt W (sr s l) := by
  intro d hd
  rw [List.mem_iff_getElem?] at hd
  obtain ⟨i, hi⟩ := hd
  have hil : i < l.length := by rw [← sr_length s l]; exact (List.getElem?_eq_some_iff.1 hi).1
  rw [sr_get s l i hil] at hi
  obtain rfl := Option.some.inj hi
  exact srw_lt s _ _ hs (hl.getD (by decide) i)

def srT (s n : Nat) (R : List Nat) (k : Nat) : List Nat := (sr s (R.take n)).take k ++ R.drop k

theorem sr_take_length (s n : Nat) (R : List Nat) (hn : n ≤ R.length) : (sr s (R.take n)).length = n := by rw [sr_length, List.length_take]; omega

theorem srT_get (s n : Nat) (R : List Nat) (hn : n ≤ R.length) (k j : Nat) (hk : k ≤ n) (hkj : k ≤ j) (hj : j < R.length) : (srT s n R k)[j]? = some (R.getD j 0) := by
  have hl := sr_take_length s n R hn
  have hd : ((sr s (R.take n)).take k).length = k := by rw [List.length_take, hl]; omega
  unfold srT
  rw [get_done hd hkj, List.getD_eq_getElem?_getD, List.getElem?_eq_getElem hj]
  rfl

theorem srT_set (s n : Nat) (R : List Nat) (hn : n ≤ R.length) (k : Nat) (hk : k < n) :
    (srT s n R k).set k (srw s (R.getD k 0) ((R.take n).getD (k + 1) 0)) = srT s n R (k + 1) := by
  have hl := sr_take_length s n R hn
  have hd : ((sr s (R.take n)).take k).length = k := by rw [List.length_take, hl]; omega
  unfold srT
  rw [set_done hd (by omega), List.take_add_one, sr_get s _ k (by rw [List.length_take]; omega)]
  rw [show (R.take n).getD k 0 = R.getD k 0 by rw [getD_take, if_pos hk]]
  rfl

theorem srT_zero (s n : Nat) (R : List Nat) : srT s n R 0 = R := by simp [srT]
theorem srT_full (s n : Nat) (R : List Nat) (hn : n ≤ R.length) : srT s n R n = sr s (R.take n) ++ R.drop n := by
  unfold srT
  rw [List.take_of_length_le (by rw [sr_take_length s n R hn]; exact Nat.le_refl _)]

theorem digs_take_of_lt (B : Nat) (R : List Nat) (n : Nat) (hn : n ≤ R.length) (h : digs B R < B ^ n) : digs B (R.take n) = digs B R := by
  have h2 := digs_append B (R.take n) (R.drop n)
  rw [List.take_append_drop, List.length_take, Nat.min_eq_left hn] at h2
  rcases Nat.eq_zero_or_pos (digs B (R.drop n)) with h6 | h6
  · rw [h6] at h2; simpa using h2.symm
  · have : B ^ n * 1 ≤ B ^ n * digs B (R.drop n) := Nat.mul_le_mul_left _ h6
    omega

theorem div_end (a b s n : Nat) (R Q SY : List Nat) (hs : s ≤ 32) (hn : n ≤ R.length) (hl : SY.length = n) (hSY : AllLt W SY) (hlt : digs W R < digs W SY)
    (hr : digs W R = a * 2 ^ s % (b * 2 ^ s)) (hq : digs W Q = a * 2 ^ s / (b * 2 ^ s)) : digs W (sr s (R.take n)) = a % b ∧ digs W Q = a / b := by
  have h1 := digs_lt (show 0 < W by decide) hSY
  rw [hl] at h1
  have h2 := digs_take_of_lt W R n hn (Nat.lt_trans hlt h1)
  constructor
  · rw [sr_div s hs, h2, hr, Nat.mul_mod_mul_right, Nat.mul_div_cancel _ (Nat.pow_pos (by omega))]
  · rw [hq, Nat.mul_div_mul_right _ _ (Nat.pow_pos (by omega))]

theorem srw_word (s x y : Nat) (h0 : 0 < s) (hs : s ≤ 31) (hx : x < 4294967296) :
    bits BinOp.or IntKind.u32 ((x : Int) / 2 ^ s) ((y : Int) * 2 ^ (32 - s) % 4294967296) = (srw s x y : Nat) := by
  have hp : (2 : Nat) ^ (32 - s) * 2 ^ s = 4294967296 := by rw [← Nat.pow_add]; rw [show 32 - s + s = 32 by omega]
  have e1 : (x : Int) / 2 ^ s = ((x / 2 ^ s : Nat) : Int) := by simp
  have e2 : (y : Int) * 2 ^ (32 - s) % 4294967296 = ((y * 2 ^ (32 - s) % 4294967296 : Nat) : Int) := by simp
  have h1 : x / 2 ^ s < 2 ^ (32 - s) := by rw [Nat.div_lt_iff_lt_mul (Nat.pow_pos (by omega)), hp]; exact hx
  have h2 : y * 2 ^ (32 - s) % 4294967296 = (y % 2 ^ s) * 2 ^ (32 - s) := by
    rw [← hp, Nat.mul_comm y, Nat.mul_mod_mul_left, Nat.mul_comm]
  rw [e1, e2, u32_or_nat _ _ (Nat.lt_of_le_of_lt (Nat.div_le_self _ _) hx) (Nat.mod_lt _ (by decide)), h2, or_high _ _ _ h1]
  rfl

theorem srw_zero (x y : Nat) : srw 0 x y = x := by simp [srw, Nat.mod_one]
theorem srw_last (s x : Nat) : srw s x 0 = x / 2 ^ s := by simp [srw]

end Num
end Go.Proofs.Ytbacloneddnaeaa

/- Decimal forms: plain laws. -/
namespace Go.Proofs.Ytbacloneddnaeaa
namespace Num

def decVal (l : List Nat) : Nat := l.foldl (fun a c => 10 * a + (c - 48)) 0

def decOk (l : List Nat) : Bool := !l.isEmpty && decide (l.length ≤ 2000) && !(decide (1 < l.length) && l.getD 0 0 == 48) && l.all fun c => decide (48 ≤ c) && decide (c ≤ 57)

def readN (l : List Nat) : Option Nat := if decOk l then some (decVal l) else none

theorem decVal_snoc (l : List Nat) (c : Nat) : decVal (l ++ [c]) = 10 * decVal l + (c - 48) := by simp [decVal]
theorem decVal_take_succ (l : List Nat) (k : Nat) (h : k < l.length) : decVal (l.take (k + 1)) = 10 * decVal (l.take k) + (l.getD k 0 - 48) := by
  rw [List.take_succ_eq_append_getElem h, decVal_snoc]
  simp [List.getD_eq_getElem?_getD, h]

def decL (n : Nat) : List Nat := if n = 0 then [48] else ((digitsOf 10 n).map (· + 48)).reverse
def dec (n : Nat) : ByteArray := mkStr (decL n)

theorem decVal_rev : ∀ (ds : List Nat), decVal ((ds.map (· + 48)).reverse) = digs 10 ds
  | [] => rfl
  | d :: ds => by
    rw [List.map_cons, List.reverse_cons, decVal_snoc, decVal_rev ds, digs]
    omega

theorem decVal_decL (n : Nat) : decVal (decL n) = n := by
  unfold decL
  split
  · rename_i h; subst h; rfl
  · rw [decVal_rev, digs_digitsOf (by omega)]

theorem decL_digit (n : Nat) : ∀ c ∈ decL n, 48 ≤ c ∧ c ≤ 57 := by
  intro c hc
  unfold decL at hc
  split at hc
  · simp at hc; omega
  · rw [List.mem_reverse] at hc
    obtain ⟨d, hd, rfl⟩ := List.mem_map.1 hc
    have := digitsOf_lt (B := 10) (by omega) n d hd
    omega

theorem decL_decVal (l : List Nat) (h : decOk l = true) : decL (decVal l) = l := by
  unfold decOk at h
  simp only [Bool.and_eq_true, Bool.not_eq_true', List.isEmpty_eq_false_iff, decide_eq_true_eq, List.all_eq_true, Bool.and_eq_false_iff, decide_eq_false_iff_not, beq_eq_false_iff_ne] at h
  obtain ⟨⟨⟨hne, _⟩, hh⟩, hd⟩ := h
  obtain ⟨ds, hds⟩ : ∃ ds : List Nat, ds = (l.map (· - 48)).reverse := ⟨_, rfl⟩
  have hl : l = (ds.map (· + 48)).reverse := by
    rw [hds, List.map_reverse, List.reverse_reverse, List.map_map]
    conv => lhs; rw [← List.map_id l]
    apply List.map_congr_left
    intro c hc
    have := hd c hc
    simp; omega
  have hlt : AllLt 10 ds := by
    intro d hd2
    rw [hds, List.mem_reverse] at hd2
    obtain ⟨c, hc, rfl⟩ := List.mem_map.1 hd2
    have := hd c hc
    omega
  have hval : decVal l = digs 10 ds := by rw [hl, decVal_rev]
  by_cases h0 : l = [48]
  · rw [h0]; rfl
  · have hcan : Canon ds := by
      unfold Canon
      rw [hds, List.getLast?_reverse, List.head?_map]
      intro hx
      cases hl2 : l with
      | nil => exact hne hl2
      | cons a t =>
        rw [hl2] at hx
        simp at hx
        have ha := hd a (by rw [hl2]; simp)
        have ha48 : a = 48 := by omega
        rcases hh with hh | hh
        · rw [hl2] at hh
          simp at hh
          rw [hl2, ha48, hh] at h0
          exact h0 rfl
        · rw [hl2, ha48] at hh
          exact hh (by simp)
    have hds0 : ds ≠ [] := by
      intro e; rw [e] at hds
      have := congrArg List.length hds
      simp at this
      exact hne (List.eq_nil_of_length_eq_zero this.symm)
    have hpos := digs_pos_of_canon (B := 10) (by omega) hcan hds0
    unfold decL
    rw [if_neg (by omega), hval, digitsOf_digs (by omega) hlt hcan, ← hl]

theorem dec_size (n : Nat) : (dec n).size = (decL n).length := by simp [dec, mkStr_size]
theorem mkStr_bts (s : ByteArray) : mkStr (bts s) = s := by
  cases s with
  | mk d =>
    unfold mkStr bts
    simp only [List.map_map, ByteArray.mk.injEq]
    have : (d.toList.map (UInt8.ofNat ∘ UInt8.toNat)) = d.toList := by
      conv => rhs; rw [← List.map_id d.toList]
      apply List.map_congr_left
      intro c _
      simp
    rw [this]
theorem dec_of_ok (s : ByteArray) (h : decOk (bts s) = true) : s = dec (decVal (bts s)) := by
  unfold dec; rw [decL_decVal _ h, mkStr_bts]

theorem decL_length (n : Nat) (h : n ≠ 0) : (decL n).length = (digitsOf 10 n).length := by
  unfold decL; rw [if_neg h]; simp
theorem decL_length_le (n k : Nat) (hk : 0 < k) (h : n < 10 ^ k) : (decL n).length ≤ k := by
  by_cases h0 : n = 0
  · subst h0; simp [decL]; omega
  · rw [decL_length n h0]; exact length_le_of_lt_pow (by omega) k n h

end Num
end Go.Proofs.Ytbacloneddnaeaa

/- What Text does: plain laws. -/
namespace Go.Proofs.Ytbacloneddnaeaa
namespace Num

theorem text_digit (p q j : Nat) : (p + 10 ^ (j + 1) * q) % 10 = p % 10 ∧ (p + 10 ^ (j + 1) * q) / 10 = p / 10 + 10 ^ j * q := by
  rw [Nat.pow_succ, Nat.mul_comm (10 ^ j) 10, Nat.mul_assoc]
  generalize 10 ^ j * q = z
  omega

theorem text_step (out : List Nat) (N p q j : Nat) (h : digitsOf 10 N = out ++ digitsOf 10 (p + 10 ^ (j + 1) * q)) (hp : 0 < p ∨ 0 < q) :
    digitsOf 10 N = (out ++ [p % 10]) ++ digitsOf 10 (p / 10 + 10 ^ j * q) := by
  have hpos : 0 < p + 10 ^ (j + 1) * q := by
    rcases hp with hp | hp
    · omega
    · have := Nat.mul_pos (Nat.pow_pos (n := j + 1) (show 0 < 10 by omega)) hp
      omega
  rw [digitsOf_pos (by omega) hpos, (text_digit p q j).1, (text_digit p q j).2] at h
  rw [h, List.append_assoc]; rfl

theorem text_bound (p j : Nat) (h : p < 10 ^ (j + 1)) : p / 10 < 10 ^ j := by
  rw [Nat.pow_succ] at h
  omega

theorem canon_digs_pos (l : List Nat) (h : Canon l) : 0 < digs W l ↔ 0 < l.length := by
  constructor
  · intro h1
    rcases Nat.eq_zero_or_pos l.length with h2 | h2
    · rw [List.eq_nil_of_length_eq_zero h2] at h1; simp [digs] at h1
    · exact h2
  · intro h1
    exact digs_pos_of_canon (by decide) h (by intro e; rw [e] at h1; simp at h1)

theorem canon_take_of_last (cells : List Nat) (n : Nat) (hn : n ≤ cells.length) (h : n = 0 ∨ cells.getD (n - 1) 0 ≠ 0) : Canon (cells.take n) := by
  unfold Canon
  by_cases h0 : n = 0
  · subst h0; simp
  · rw [List.getLast?_take, if_neg h0, List.getElem?_eq_getElem (by omega)]
    rcases h with h | h
    · exact absurd h h0
    · rw [List.getD_eq_getElem?_getD, List.getElem?_eq_getElem (by omega)] at h
      simpa using h

theorem digs_take_drop_zero (cells : List Nat) (n : Nat) (hn : n + 1 ≤ cells.length) (h : cells.getD n 0 = 0) : digs W (cells.take (n + 1)) = digs W (cells.take n) := by
  rw [digs_take_succ _ _ (by omega), h]; simp

theorem text_dec (N : Nat) (out : List Nat) (h : digitsOf 10 N = out) : decL N = if out = [] then [48] else (out.map (· + 48)).reverse := by
  unfold decL
  by_cases h0 : N = 0
  · subst h0
    rw [← h, digitsOf_zero]; rfl
  · rw [if_neg h0, h, if_neg]
    intro e
    rw [e] at h
    exact h0 ((digitsOf_eq_nil (by omega)).1 h)

end Num
end Go.Proofs.Ytbacloneddnaeaa

/- Decimal forms: order by length and bytes is order of numbers. -/
namespace Go.Proofs.Ytbacloneddnaeaa
open Num

theorem decVal_from (l : List Nat) : ∀ a, l.foldl (fun a c => 10 * a + (c - 48)) a = a * 10 ^ l.length + decVal l := by
  induction l with
  | nil => intro a; simp [decVal]
  | cons c l ih =>
    intro a
    have e : decVal (c :: l) = (10 * 0 + (c - 48)) * 10 ^ l.length + decVal l := by rw [decVal, List.foldl_cons, ih]
    rw [Nat.mul_zero, Nat.zero_add] at e
    rw [List.foldl_cons, ih, e, List.length_cons, Nat.pow_succ, Nat.add_mul]
    generalize 10 ^ l.length = t
    have : 10 * a * t = a * (t * 10) := by rw [Nat.mul_comm 10 a, Nat.mul_assoc, Nat.mul_comm 10 t]
    omega

theorem decVal_cons (c : Nat) (l : List Nat) : decVal (c :: l) = (c - 48) * 10 ^ l.length + decVal l := by
  rw [decVal, List.foldl_cons, decVal_from]; simp

theorem decVal_lt : ∀ (l : List Nat), (∀ c ∈ l, 48 ≤ c ∧ c ≤ 57) → decVal l < 10 ^ l.length
  | [], _ => by simp [decVal]
  | c :: l, h => by
    rw [decVal_cons, List.length_cons, Nat.pow_succ]
    have h1 := decVal_lt l fun c hc => h c (List.mem_cons_of_mem _ hc)
    have h2 := h c List.mem_cons_self
    have h3 : (c - 48) * 10 ^ l.length ≤ 9 * 10 ^ l.length := Nat.mul_le_mul_right _ (by omega)
    omega

theorem decL_high (n : Nat) : n < 10 ^ (decL n).length := by
  have := decVal_lt _ (decL_digit n)
  rwa [decVal_decL] at this

end Go.Proofs.Ytbacloneddnaeaa

/- Rational numbers as pairs in lowest terms: plain laws. -/
namespace Go.Proofs.Ytbacloneddnaeaa
open Num

namespace Q

def red (n d : Nat) : Nat × Nat := (n / Nat.gcd n d, d / Nat.gcd n d)

def Low (p : Nat × Nat) : Prop := 0 < p.2 ∧ Nat.gcd p.1 p.2 = 1

theorem red_spec (n d : Nat) (hd : 0 < d) : ∃ g, 0 < g ∧ n = g * (red n d).1 ∧ d = g * (red n d).2 ∧ Nat.gcd (red n d).1 (red n d).2 = 1 ∧ 0 < (red n d).2 := by
  have hg : 0 < Nat.gcd n d := Nat.gcd_pos_of_pos_right n hd
  refine ⟨Nat.gcd n d, hg, (Nat.mul_div_cancel' (Nat.gcd_dvd_left n d)).symm, (Nat.mul_div_cancel' (Nat.gcd_dvd_right n d)).symm, ?_, ?_⟩
  · simp only [red]; rw [Nat.gcd_div (Nat.gcd_dvd_left n d) (Nat.gcd_dvd_right n d), Nat.div_self hg]
  · exact Nat.div_pos (Nat.le_of_dvd hd (Nat.gcd_dvd_right n d)) hg

theorem red_low {n d : Nat} (hd : 0 < d) : Low (red n d) := let ⟨_, _, _, _, h1, h2⟩ := red_spec n d hd; ⟨h2, h1⟩

theorem low_eq {p q : Nat × Nat} (hp : Low p) (hq : Low q) (h : p.1 * q.2 = q.1 * p.2) : p = q := by
  obtain ⟨a, b⟩ := p
  obtain ⟨c, d⟩ := q
  obtain ⟨h1, h2⟩ := hp
  obtain ⟨h3, h4⟩ := hq
  simp only at *
  have e1 : b ∣ d := by
    have : b ∣ a * d := ⟨c, by rw [h, Nat.mul_comm]⟩
    exact (Nat.Coprime.symm h2).dvd_of_dvd_mul_left this
  have e2 : d ∣ b := by
    have : d ∣ c * b := ⟨a, by rw [← h, Nat.mul_comm]⟩
    exact (Nat.Coprime.symm h4).dvd_of_dvd_mul_left this
  have e3 : b = d := Nat.dvd_antisymm e1 e2
  subst e3
  rw [Nat.eq_of_mul_eq_mul_right h1 h]

theorem red_eq {n d n' d' : Nat} (hd : 0 < d) (hd' : 0 < d') (h : n * d' = n' * d) : red n d = red n' d' := by
  obtain ⟨g, hg, e1, e2, e3, e4⟩ := red_spec n d hd
  obtain ⟨g', hg', f1, f2, f3, f4⟩ := red_spec n' d' hd'
  refine low_eq ⟨e4, e3⟩ ⟨f4, f3⟩ ?_
  have : (g * g') * ((red n d).1 * (red n' d').2) = (g * g') * ((red n' d').1 * (red n d).2) := by
    generalize red n d = u at *
    generalize red n' d' = v at *
    subst e1 e2 f1 f2
    grind
  exact Nat.eq_of_mul_eq_mul_left (Nat.mul_pos hg hg') this

theorem red_of_low {p : Nat × Nat} (h : Low p) : red p.1 p.2 = p := by
  unfold red; rw [h.2]; simp

def add (p q : Nat × Nat) : Nat × Nat := red (p.1 * q.2 + q.1 * p.2) (p.2 * q.2)
def mul (p q : Nat × Nat) : Nat × Nat := red (p.1 * q.1) (p.2 * q.2)
def div (p q : Nat × Nat) : Nat × Nat := red (p.1 * q.2) (p.2 * q.1)
def cmp (p q : Nat × Nat) : Int := cmpI (p.1 * q.2) (q.1 * p.2)

theorem add_low {p q : Nat × Nat} (hp : Low p) (hq : Low q) : Low (add p q) := red_low (Nat.mul_pos hp.1 hq.1)
theorem mul_low {p q : Nat × Nat} (hp : Low p) (hq : Low q) : Low (mul p q) := red_low (Nat.mul_pos hp.1 hq.1)
section
variable {n d : Nat} (hd : 0 < d) {q : Nat × Nat} (hq : 0 < q.2)
include hd hq

theorem add_red : add (red n d) q = red (n * q.2 + q.1 * d) (d * q.2) := by
  obtain ⟨g, hg, e1, e2, e3, e4⟩ := red_spec n d hd
  refine red_eq (Nat.mul_pos e4 hq) (Nat.mul_pos hd hq) ?_
  generalize (red n d).1 = a at *
  generalize (red n d).2 = b at *
  subst e1 e2
  grind

theorem red_add : add q (red n d) = red (q.1 * d + n * q.2) (q.2 * d) := by
  obtain ⟨g, hg, e1, e2, e3, e4⟩ := red_spec n d hd
  refine red_eq (Nat.mul_pos hq e4) (Nat.mul_pos hq hd) ?_
  generalize (red n d).1 = a at *
  generalize (red n d).2 = b at *
  subst e1 e2
  grind

theorem mul_red : mul (red n d) q = red (n * q.1) (d * q.2) := by
  obtain ⟨g, hg, e1, e2, e3, e4⟩ := red_spec n d hd
  refine red_eq (Nat.mul_pos e4 hq) (Nat.mul_pos hd hq) ?_
  generalize (red n d).1 = a at *
  generalize (red n d).2 = b at *
  subst e1 e2
  grind

theorem red_mul : mul q (red n d) = red (q.1 * n) (q.2 * d) := by
  obtain ⟨g, hg, e1, e2, e3, e4⟩ := red_spec n d hd
  refine red_eq (Nat.mul_pos hq e4) (Nat.mul_pos hq hd) ?_
  generalize (red n d).1 = a at *
  generalize (red n d).2 = b at *
  subst e1 e2
  grind
end

theorem add_comm (p q : Nat × Nat) : add p q = add q p := by
  unfold add; rw [Nat.add_comm, Nat.mul_comm p.2]
theorem mul_comm (p q : Nat × Nat) : mul p q = mul q p := by
  unfold mul; rw [Nat.mul_comm, Nat.mul_comm p.2]

theorem one_mul {p : Nat × Nat} (hp : Low p) : mul (1, 1) p = p := by
  unfold mul; rw [Nat.one_mul, Nat.one_mul]; exact red_of_low hp

theorem add_assoc {p q r : Nat × Nat} (hp : 0 < p.2) (hq : 0 < q.2) (hr : 0 < r.2) : add (add p q) r = add p (add q r) := by
  rw [show add p q = red (p.1 * q.2 + q.1 * p.2) (p.2 * q.2) from rfl, show add q r = red (q.1 * r.2 + r.1 * q.2) (q.2 * r.2) from rfl,
    add_red (Nat.mul_pos hp hq) hr, red_add (Nat.mul_pos hq hr) hp]
  congr 1 <;> grind

theorem mul_assoc {p q r : Nat × Nat} (hp : 0 < p.2) (hq : 0 < q.2) (hr : 0 < r.2) : mul (mul p q) r = mul p (mul q r) := by
  rw [show mul p q = red (p.1 * q.1) (p.2 * q.2) from rfl, show mul q r = red (q.1 * r.1) (q.2 * r.2) from rfl,
    mul_red (Nat.mul_pos hp hq) hr, red_mul (Nat.mul_pos hq hr) hp]
  congr 1 <;> grind

theorem mul_add {p q r : Nat × Nat} (hp : 0 < p.2) (hq : 0 < q.2) (hr : 0 < r.2) : mul p (add q r) = add (mul p q) (mul p r) := by
  have h1 : 0 < (mul p r).2 := (red_low (Nat.mul_pos hp hr)).1
  rw [show mul p q = red (p.1 * q.1) (p.2 * q.2) from rfl, show add q r = red (q.1 * r.2 + r.1 * q.2) (q.2 * r.2) from rfl,
    red_mul (Nat.mul_pos hq hr) hp, add_red (Nat.mul_pos hp hq) h1]
  obtain ⟨g, hg, e1, e2, e3, e4⟩ := red_spec (p.1 * r.1) (p.2 * r.2) (Nat.mul_pos hp hr)
  have hp' := hp
  refine red_eq (Nat.mul_pos hp (Nat.mul_pos hq hr)) (Nat.mul_pos (Nat.mul_pos hp hq) h1) ?_
  rw [show mul p r = red (p.1 * r.1) (p.2 * r.2) from rfl]
  generalize (red (p.1 * r.1) (p.2 * r.2)).1 = a at *
  generalize (red (p.1 * r.1) (p.2 * r.2)).2 = b at *
  obtain ⟨p1, p2⟩ := p
  obtain ⟨q1, q2⟩ := q
  obtain ⟨r1, r2⟩ := r
  simp only at *
  -- a / b = p1 r1 / (p2 r2)
  have h : a * (p2 * r2) = p1 * r1 * b := by rw [e1, e2]; grind
  have hb : (p1 * (q1 * r2 + r1 * q2)) * (p2 * q2 * b) = p2 * q2 * ((p1 * q1 * r2) * b + (p1 * r1 * b) * q2) := by grind
  rw [hb, ← h]
  grind

theorem cmp_eq {p q : Nat × Nat} (hp : Low p) (hq : Low q) : cmp p q = 0 ↔ p = q := by
  unfold cmp cmpI
  constructor
  · intro h
    split at h
    · cases h
    · split at h
      · exact low_eq hp hq ‹_›
      · cases h
  · rintro rfl
    simp

end Q
end Go.Proofs.Ytbacloneddnaeaa

/- Sums of products of quotients: the sum over a tree of choices is the sum over all assignments. -/
namespace Go.Proofs.Ytbacloneddnaeaa
open Num

namespace Q
theorem low01 : Low (0, 1) := ⟨by decide, by decide⟩
theorem low11 : Low (1, 1) := ⟨by decide, by decide⟩
theorem mul0 {a : Nat × Nat} (la : Low a) : mul a (0, 1) = (0, 1) := by
  have h : red (a.1 * 0) (a.2 * 1) = red 0 1 := red_eq (by have := la.1; omega) (by decide) (by simp)
  exact h.trans (red_of_low low01)
theorem zmul {a : Nat × Nat} (la : Low a) : mul (0, 1) a = (0, 1) := by rw [mul_comm]; exact mul0 la
theorem zadd {a : Nat × Nat} (la : Low a) : add (0, 1) a = a := by
  unfold add; simp only [Nat.mul_one, Nat.zero_mul, Nat.zero_add, Nat.one_mul]; exact red_of_low la
theorem mul1 {a : Nat × Nat} (la : Low a) : mul a (1, 1) = a := by rw [mul_comm]; exact one_mul la

end Q

section
variable {p : List Nat → Nat × Nat} (hp : ∀ l, Q.Low (p l))
include hp

end

end Go.Proofs.Ytbacloneddnaeaa
