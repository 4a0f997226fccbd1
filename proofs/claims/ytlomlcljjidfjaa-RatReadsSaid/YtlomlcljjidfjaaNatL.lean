/- Decimal forms: order by length and bytes is order of numbers. -/
import Derived.Test.YtlomlcljjidfjaaNatD
import GoSem.Op.String
namespace Go.Proofs.Ytlomlcljjidfjaa
open Num

theorem decVal_from (l : List Nat) : ∀ a, l.foldl (fun a c => 10 * a + (c - 48)) a = a * 10 ^ l.length + decVal l := by
  induction l with
  | nil => intro a; simp [decVal]
  | cons c l ih =>
    intro a
    have e : decVal (c :: l) = (10 * 0 + (c - 48)) * 10 ^ l.length + decVal l := by rw [decVal, List.foldl_cons, ih]
    rw [Nat.mul_zero, Nat.zero_add] at e
    rw [List.foldl_cons, ih, e, List.length_cons, Nat.pow_succ, Nat.add_mul]
    generalize 10 ^ l.length = t
    have : 10 * a * t = a * (t * 10) := by rw [Nat.mul_comm 10 a, Nat.mul_assoc, Nat.mul_comm 10 t]
    omega

theorem decVal_cons (c : Nat) (l : List Nat) : decVal (c :: l) = (c - 48) * 10 ^ l.length + decVal l := by
  rw [decVal, List.foldl_cons, decVal_from]; simp

theorem decVal_lt : ∀ (l : List Nat), (∀ c ∈ l, 48 ≤ c ∧ c ≤ 57) → decVal l < 10 ^ l.length
  | [], _ => by simp [decVal]
  | c :: l, h => by
    rw [decVal_cons, List.length_cons, Nat.pow_succ]
    have h1 := decVal_lt l fun c hc => h c (List.mem_cons_of_mem _ hc)
    have h2 := h c List.mem_cons_self
    have h3 : (c - 48) * 10 ^ l.length ≤ 9 * 10 ^ l.length := Nat.mul_le_mul_right _ (by omega)
    omega

theorem bytesLess_dig : ∀ (x y : List Nat), x.length = y.length → (∀ c ∈ x, 48 ≤ c ∧ c ≤ 57) → (∀ c ∈ y, 48 ≤ c ∧ c ≤ 57) →
    Op.bytesLess (x.map UInt8.ofNat) (y.map UInt8.ofNat) = decide (decVal x < decVal y)
  | [], [], _, _, _ => by simp [Op.bytesLess]
  | [], _ :: _, h, _, _ => by simp at h
  | _ :: _, [], h, _, _ => by simp at h
  | a :: x, b :: y, h, hx, hy => by
    have ih := bytesLess_dig x y (by simpa using h) (fun c hc => hx c (List.mem_cons_of_mem _ hc)) (fun c hc => hy c (List.mem_cons_of_mem _ hc))
    have ha := hx a List.mem_cons_self
    have hb := hy b List.mem_cons_self
    have h1 := decVal_lt x fun c hc => hx c (List.mem_cons_of_mem _ hc)
    have h2 := decVal_lt y fun c hc => hy c (List.mem_cons_of_mem _ hc)
    have hl : x.length = y.length := by simpa using h
    rw [List.map_cons, List.map_cons, Op.bytesLess, ih, decVal_cons, decVal_cons, hl]
    rw [hl] at h1
    generalize 10 ^ y.length = t at *
    have e1 : (UInt8.ofNat a < UInt8.ofNat b) ↔ a < b := by
      rw [UInt8.lt_iff_toNat_lt, UInt8.toNat_ofNat_of_lt' (by show a < 256; omega), UInt8.toNat_ofNat_of_lt' (by show b < 256; omega)]
    have e2 : (UInt8.ofNat a = UInt8.ofNat b) ↔ a = b := by
      rw [← UInt8.toNat_inj, UInt8.toNat_ofNat_of_lt' (by show a < 256; omega), UInt8.toNat_ofNat_of_lt' (by show b < 256; omega)]
    rcases Nat.lt_trichotomy a b with hab | hab | hab
    · have : (a - 48) * t + t ≤ (b - 48) * t := by rw [← Nat.succ_mul]; exact Nat.mul_le_mul_right _ (by omega)
      rw [decide_eq_true (e1.2 hab), Bool.true_or, eq_comm, decide_eq_true_eq]; omega
    · subst hab
      simp
    · have : (b - 48) * t + t ≤ (a - 48) * t := by rw [← Nat.succ_mul]; exact Nat.mul_le_mul_right _ (by omega)
      have n1 : ¬ (UInt8.ofNat a < UInt8.ofNat b) := fun h => by have := e1.1 h; omega
      have n2 : ¬ (UInt8.ofNat a = UInt8.ofNat b) := fun h => by have := e2.1 h; omega
      rw [decide_eq_false n1, beq_eq_false_iff_ne.2 n2, Bool.false_and, Bool.or_false, eq_comm, decide_eq_false_iff_not]; omega

theorem toList_mkStr (l : List Nat) : (mkStr l).toList = l.map UInt8.ofNat := by
  rw [ByteArray.toList_eq]; simp [mkStr]

theorem dec_less (A B : Nat) (h : (decL A).length = (decL B).length) : Op.bytesLess (dec A).toList (dec B).toList = decide (A < B) := by
  unfold dec
  rw [toList_mkStr, toList_mkStr, bytesLess_dig _ _ h (decL_digit A) (decL_digit B), decVal_decL, decVal_decL]

theorem decL_low (n : Nat) (h : 1 < (decL n).length) : 10 ^ ((decL n).length - 1) ≤ n := by
  have hd := decL_digit n
  have hh := decL_head n h
  have hv := decVal_decL n
  generalize decL n = l at *
  cases l with
  | nil => simp at h
  | cons c l =>
    rw [decVal_cons] at hv
    have h1 := hd c List.mem_cons_self
    simp only [List.getD_cons_zero] at hh
    have : 1 * 10 ^ l.length ≤ (c - 48) * 10 ^ l.length := Nat.mul_le_mul_right _ (by omega)
    simp only [List.length_cons, Nat.add_sub_cancel]
    omega

theorem decL_high (n : Nat) : n < 10 ^ (decL n).length := by
  have := decVal_lt _ (decL_digit n)
  rwa [decVal_decL] at this

theorem decL_pos (n : Nat) : 0 < (decL n).length := List.length_pos_iff.2 (decL_ne n)

theorem dec_len_lt (A B : Nat) (h : (decL A).length < (decL B).length) : A < B := by
  have h1 := decL_high A
  have h2 := decL_low B (by have := decL_pos A; omega)
  have h3 : (10 : Nat) ^ (decL A).length ≤ 10 ^ ((decL B).length - 1) := Nat.pow_le_pow_right (by omega) (by omega)
  omega

theorem dec_inj {A B : Nat} (h : dec A = dec B) : A = B := by
  have := congrArg bts h
  rw [bts_dec, bts_dec] at this
  rw [← decVal_decL A, this, decVal_decL]

end Go.Proofs.Ytlomlcljjidfjaa
