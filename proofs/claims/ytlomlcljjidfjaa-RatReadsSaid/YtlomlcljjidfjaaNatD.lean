/- Decimal forms: plain laws. -/
import Derived.Test.YtlomlcljjidfjaaNatC
namespace Go.Proofs.Ytlomlcljjidfjaa
namespace Num

/-- The number of decimal digits, the highest one first (codes of bytes). -/
def decVal (l : List Nat) : Nat := l.foldl (fun a c => 10 * a + (c - 48)) 0

/-- Is it a decimal form of at most 2000 bytes? -/
def decOk (l : List Nat) : Bool := !l.isEmpty && decide (l.length ≤ 2000) && !(decide (1 < l.length) && l.getD 0 0 == 48) && l.all fun c => decide (48 ≤ c) && decide (c ≤ 57)

def readN (l : List Nat) : Option Nat := if decOk l then some (decVal l) else none

theorem decVal_snoc (l : List Nat) (c : Nat) : decVal (l ++ [c]) = 10 * decVal l + (c - 48) := by simp [decVal]
theorem decVal_take_succ (l : List Nat) (k : Nat) (h : k < l.length) : decVal (l.take (k + 1)) = 10 * decVal (l.take k) + (l.getD k 0 - 48) := by
  rw [List.take_succ_eq_append_getElem h, decVal_snoc]
  simp [List.getD_eq_getElem?_getD, h]

/-- The decimal form of a number, as codes of bytes. -/
def decL (n : Nat) : List Nat := if n = 0 then [48] else ((digitsOf 10 n).map (· + 48)).reverse
def dec (n : Nat) : ByteArray := mkStr (decL n)

theorem decVal_rev : ∀ (ds : List Nat), decVal ((ds.map (· + 48)).reverse) = digs 10 ds
  | [] => rfl
  | d :: ds => by
    rw [List.map_cons, List.reverse_cons, decVal_snoc, decVal_rev ds, digs]
    omega

theorem decVal_decL (n : Nat) : decVal (decL n) = n := by
  unfold decL
  split
  · rename_i h; subst h; rfl
  · rw [decVal_rev, digs_digitsOf (by omega)]

theorem decL_digit (n : Nat) : ∀ c ∈ decL n, 48 ≤ c ∧ c ≤ 57 := by
  intro c hc
  unfold decL at hc
  split at hc
  · simp at hc; omega
  · rw [List.mem_reverse] at hc
    obtain ⟨d, hd, rfl⟩ := List.mem_map.1 hc
    have := digitsOf_lt (B := 10) (by omega) n d hd
    omega

theorem decL_lt (n : Nat) : AllLt 256 (decL n) := fun c hc => by have := decL_digit n c hc; omega
theorem decL_ne (n : Nat) : decL n ≠ [] := by
  unfold decL
  split
  · simp
  · rename_i h
    intro h2
    rw [List.reverse_eq_nil_iff, List.map_eq_nil_iff] at h2
    exact h ((digitsOf_eq_nil (by omega)).1 h2)

theorem decL_head (n : Nat) (h : 1 < (decL n).length) : (decL n).getD 0 0 ≠ 48 := by
  unfold decL at h ⊢
  split
  · rename_i h0; rw [if_pos h0] at h; simp at h
  · rename_i h0
    have hne : digitsOf 10 n ≠ [] := fun h2 => h0 ((digitsOf_eq_nil (by omega)).1 h2)
    have hc := digitsOf_canon (B := 10) (by omega) n
    unfold Canon at hc
    intro h1
    apply hc
    have : ((digitsOf 10 n).map (· + 48)).reverse.head? = some 48 := by
      cases hr : ((digitsOf 10 n).map (· + 48)).reverse with
      | nil => simp at hr; exact absurd hr hne
      | cons a t => rw [hr] at h1; simpa using h1
    rw [List.head?_reverse, List.getLast?_map] at this
    simpa using this

theorem decOk_decL (n : Nat) (h : (decL n).length ≤ 2000) : decOk (decL n) = true := by
  have h1 := decL_ne n
  unfold decOk
  simp only [Bool.and_eq_true, Bool.not_eq_true', List.isEmpty_eq_false_iff, decide_eq_true_eq, List.all_eq_true]
  refine ⟨⟨⟨h1, h⟩, ?_⟩, fun c hc => decL_digit n c hc⟩
  by_cases h2 : 1 < (decL n).length
  · have := decL_head n h2
    simp only [Bool.and_eq_false_iff, beq_eq_false_iff_ne]
    exact .inr this
  · simp [h2]

theorem readN_decL (n : Nat) (h : (decL n).length ≤ 2000) : readN (decL n) = some n := by
  unfold readN; rw [if_pos (decOk_decL n h), decVal_decL]

/-- A decimal form is that of its number. -/
theorem decL_decVal (l : List Nat) (h : decOk l = true) : decL (decVal l) = l := by
  unfold decOk at h
  simp only [Bool.and_eq_true, Bool.not_eq_true', List.isEmpty_eq_false_iff, decide_eq_true_eq, List.all_eq_true, Bool.and_eq_false_iff, decide_eq_false_iff_not, beq_eq_false_iff_ne] at h
  obtain ⟨⟨⟨hne, _⟩, hh⟩, hd⟩ := h
  obtain ⟨ds, hds⟩ : ∃ ds : List Nat, ds = (l.map (· - 48)).reverse := ⟨_, rfl⟩
  have hl : l = (ds.map (· + 48)).reverse := by
    rw [hds, List.map_reverse, List.reverse_reverse, List.map_map]
    conv => lhs; rw [← List.map_id l]
    apply List.map_congr_left
    intro c hc
    have := hd c hc
    simp; omega
  have hlt : AllLt 10 ds := by
    intro d hd2
    rw [hds, List.mem_reverse] at hd2
    obtain ⟨c, hc, rfl⟩ := List.mem_map.1 hd2
    have := hd c hc
    omega
  have hval : decVal l = digs 10 ds := by rw [hl, decVal_rev]
  by_cases h0 : l = [48]
  · rw [h0]; rfl
  · have hcan : Canon ds := by
      unfold Canon
      rw [hds, List.getLast?_reverse, List.head?_map]
      intro hx
      cases hl2 : l with
      | nil => exact hne hl2
      | cons a t =>
        rw [hl2] at hx
        simp at hx
        have ha := hd a (by rw [hl2]; simp)
        have ha48 : a = 48 := by omega
        rcases hh with hh | hh
        · rw [hl2] at hh
          simp at hh
          rw [hl2, ha48, hh] at h0
          exact h0 rfl
        · rw [hl2, ha48] at hh
          exact hh (by simp)
    have hds0 : ds ≠ [] := by
      intro e; rw [e] at hds
      have := congrArg List.length hds
      simp at this
      exact hne (List.eq_nil_of_length_eq_zero this.symm)
    have hpos := digs_pos_of_canon (B := 10) (by omega) hcan hds0
    unfold decL
    rw [if_neg (by omega), hval, digitsOf_digs (by omega) hlt hcan, ← hl]

theorem dec_size (n : Nat) : (dec n).size = (decL n).length := by simp [dec, mkStr_size]
theorem bts_dec (n : Nat) : bts (dec n) = decL n := bts_mkStr (decL_lt n)
theorem mkStr_bts (s : ByteArray) : mkStr (bts s) = s := by
  cases s with
  | mk d =>
    unfold mkStr bts
    simp only [List.map_map, ByteArray.mk.injEq]
    have : (d.toList.map (UInt8.ofNat ∘ UInt8.toNat)) = d.toList := by
      conv => rhs; rw [← List.map_id d.toList]
      apply List.map_congr_left
      intro c _
      simp
    rw [this]
theorem dec_inj {a b : Nat} (h : dec a = dec b) : a = b := by
  have := congrArg (fun s => decVal (bts s)) h
  simpa [bts_dec, decVal_decL] using this
theorem dec_of_ok (s : ByteArray) (h : decOk (bts s) = true) : s = dec (decVal (bts s)) := by
  unfold dec; rw [decL_decVal _ h, mkStr_bts]

theorem decL_length_pos (n : Nat) : 0 < (decL n).length := List.length_pos_iff.2 (decL_ne n)
theorem decL_length (n : Nat) (h : n ≠ 0) : (decL n).length = (digitsOf 10 n).length := by
  unfold decL; rw [if_neg h]; simp
theorem decL_length_le (n k : Nat) (hk : 0 < k) (h : n < 10 ^ k) : (decL n).length ≤ k := by
  by_cases h0 : n = 0
  · subst h0; simp [decL]; omega
  · rw [decL_length n h0]; exact length_le_of_lt_pow (by omega) k n h

end Num
end Go.Proofs.Ytlomlcljjidfjaa
