/- Values of the laws of chapter 02, and the program's numbers. -/
import Derived.Test.YtlomlcljjidfjaaRPlain2
import Derived.Test.YtlomlcljjidfjaaXRead
import Derived.Test.YtlomlcljjidfjaaXFns
namespace Go.Proofs.Ytlomlcljjidfjaa
open Go.RowKit Num

/-- What counts of a string: the digits of a number of at most 150 digits, else 1. -/
def digS (s : ByteArray) : ByteArray := if decOk (bts s) = true ∧ s.size ≤ 150 then s else { data := #[49] }
def dval (s : ByteArray) : Nat := (readN (bts (digS s))).getD 0

theorem digS_size (s : ByteArray) : (digS s).size ≤ 150 := by
  unfold digS; split
  · rename_i h; exact h.2
  · decide

theorem digS_ok (s : ByteArray) : decOk (bts (digS s)) = true := by
  unfold digS; split
  · rename_i h; exact h.1
  · rfl

theorem dval_eq (s : ByteArray) : dval s = decVal (bts (digS s)) := by
  unfold dval; rw [readN_ok (digS_ok s)]; rfl

theorem digS_dec (s : ByteArray) : digS s = dec (dval s) := by
  rw [dval_eq]; exact dec_of_ok _ (digS_ok s)

theorem dval_lt (s : ByteArray) : dval s < 10 ^ 150 := by
  have h := decL_high (dval s)
  rw [← dec_size, ← digS_dec] at h
  exact Nat.lt_of_lt_of_le h (Nat.pow_le_pow_right (by omega) (digS_size s))

theorem dval_nl (s : ByteArray) : nl (dval s) ≤ 63 := nl_le_of_lt (Nat.lt_of_lt_of_le (dval_lt s) (by decide))

theorem gDigits (s : ByteArray) (hs : s.size ≤ 9223372036854775807) : Gives 22 #[.string s] (.string (digS s)) := by
  have KR := gXRead s hs
  unfold digS
  by_cases h1 : decOk (bts s) = true
  · rw [h1] at KR
    by_cases h2 : s.size ≤ 150
    · rw [if_pos ⟨h1, h2⟩]
      exact w_digits_yes s s h2 KR
    · rw [if_neg (fun h => h2 h.2)]
      exact w_digits_no2 s s (by omega) KR
  · rw [if_neg (fun h => h1 h.1)]
    have h1' : decOk (bts s) = false := by simpa using h1
    rw [h1'] at KR
    exact w_digits_no1 s _ KR

theorem gNumber (s : ByteArray) (hs : s.size ≤ 9223372036854775807) : Gives 20 #[.string s] (natV (dval s)) :=
  w_number s _ _ _ (gDigits s hs) (gRead (digS s) (by have := digS_size s; omega))

/-- A value of type Value, as a number. -/
def vq (N D : ByteArray) : Nat × Nat := Q.red (dval N) (dn (dval D))
theorem vq_low (N D : ByteArray) : Q.Low (vq N D) := Q.red_low (dn_pos _)
theorem vq_small (N D : ByteArray) : Sm 100 (vq N D) := Sm.red (Nat.le_trans (dval_nl N) (by omega)) (Nat.le_trans (nl_dn _) (by have := dval_nl D; omega))

theorem gVRat (N D : ByteArray) (hN : N.size ≤ 9223372036854775807) (hD : D.size ≤ 9223372036854775807) : Gives 13 #[.agg #[.string N, .string D]] (ratV (vq N D)) := by
  have bN := dval_nl N
  have bD := dval_nl D
  have KT := gText (dval D) (by omega)
  unfold vq
  by_cases h : dval D = 0
  · have KB := gNumber D hD
    rw [h] at KT KB
    have e : dn (dval D) = 1 := by rw [h]; rfl
    rw [e]
    have ht : (dec 0).toList = [48] := by
      unfold dec
      rw [toList_mkStr]; rfl
    exact w_vrat_z N D _ _ _ _ _ _ ht KB (gNumber N hN) KT (gOf 1 (by decide)) (gRNew (dval N) 1 (by omega) (by decide) (by decide))
  · have e : dn (dval D) = dval D := dn_of (by omega)
    rw [e]
    have ht : ((dec (dval D)).toList == [48]) = false := by
      rw [beq_eq_false_iff_ne]
      intro e2
      have h3 : (dec 0).toList = [48] := by
        unfold dec
        rw [toList_mkStr]; rfl
      have h4 : dec (dval D) = dec 0 := Decidable.byContradiction fun hne => toList_ne hne (e2.trans h3.symm)
      exact h (dec_inj h4)
    exact w_vrat_n N D _ _ _ (nb 0) _ _ ht (gNumber D hD) (gNumber N hN) KT (gRNew (dval N) (dval D) (by omega) (by omega) (by omega))

theorem gEqual (p : Nat × Nat) (hp : Sm 1000000 p) : Gives 15 #[ratV p, ratV p] (.bool true) := w_equal_yes _ _ _ _ _ (gRText p hp) (gRText p hp)
theorem gEqualN (p q : Nat × Nat) (hp : Sm 1000000 p) (hq : Sm 1000000 q) (lp : Q.Low p) (lq : Q.Low q) (h : p ≠ q) : Gives 15 #[ratV p, ratV q] (.bool false) :=
  w_equal_no _ _ _ _ _ _ (toList_ne fun e => h (rtext_inj lp lq e)) (gRText p hp) (gRText q hq)

theorem gWorks2 : Gives 18 #[] (.bool true) := by
  have s1 : Sm 1000 (1, 2) := ⟨by decide, by decide⟩
  have s2 : Sm 1000 (1, 3) := ⟨by decide, by decide⟩
  have KO1 : Gives 14 #[.int .u64 3, .int .u64 6] (.tuple #[ratV (1, 2), .bool true]) := gROf 3 6 (by decide) (by decide) (by decide)
  have KO2 : Gives 14 #[.int .u64 1, .int .u64 3] (.tuple #[ratV (1, 3), .bool true]) := gROf 1 3 (by decide) (by decide) (by decide)
  have KD : Gives 25 #[ratV (1, 2), ratV (1, 3)] (.tuple #[ratV (3, 2), .bool true]) := gRDiv (1, 2) (1, 3) (s1.mono (by omega)) (s2.mono (by omega)) (by decide)
  have KA : Gives 16 #[ratV (1, 2), ratV (1, 3)] (ratV (5, 6)) := gRAdd (1, 2) (1, 3) (s1.mono (by omega)) (s2.mono (by omega))
  have KM : Gives 17 #[ratV (1, 2), ratV (1, 3)] (ratV (1, 6)) := gRMul (1, 2) (1, 3) (s1.mono (by omega)) (s2.mono (by omega))
  have KC : Gives 31 #[ratV (1, 2), ratV (1, 3)] (.int .i64 1) := gRCmp (1, 2) (1, 3) (s1.mono (by omega)) (s2.mono (by omega))
  have KT1 : Gives 30 #[ratV (5, 6)] (.string { data := #[53, 47, 54] }) := by
    have := gRText (5, 6) ⟨by decide, by decide⟩
    rwa [show rtext (5, 6) = { data := #[53, 47, 54] } by kernel_rfl] at this
  have KT2 : Gives 30 #[ratV (1, 6)] (.string { data := #[49, 47, 54] }) := by
    have := gRText (1, 6) ⟨by decide, by decide⟩
    rwa [show rtext (1, 6) = { data := #[49, 47, 54] } by kernel_rfl] at this
  have KT3 : Gives 30 #[ratV (3, 2)] (.string { data := #[51, 47, 50] }) := by
    have := gRText (3, 2) ⟨by decide, by decide⟩
    rwa [show rtext (3, 2) = { data := #[51, 47, 50] } by kernel_rfl] at this
  exact w_works _ _ _ _ _ _ _ _ _ _ KO1 KO2 KD KA KM KC KT1 KT2 KT3

section
variable {p q : Nat × Nat} {k : Nat} (hp : Sm k p) (hq : Sm k q) (hk : k ≤ 10000) (lp : Q.Low p) (lq : Q.Low q)
include hp hq hk lp lq

theorem kAdd : Gives 16 #[ratV p, ratV q] (ratV (Q.add p q)) := by
  have := gRAdd p q (hp.mono hk) (hq.mono hk); rwa [nz_low lp, nz_low lq] at this
theorem kMul : Gives 17 #[ratV p, ratV q] (ratV (Q.mul p q)) := by
  have := gRMul p q (hp.mono hk) (hq.mono hk); rwa [nz_low lp, nz_low lq] at this
theorem kCmp : Gives 31 #[ratV p, ratV q] (.int .i64 (Q.cmp p q)) := by
  have := gRCmp p q (hp.mono hk) (hq.mono hk); rwa [nz_low lp, nz_low lq] at this
theorem kSub (h : q.1 * p.2 ≤ p.1 * q.2) : Gives 29 #[ratV p, ratV q] (.tuple #[ratV (Q.sub p q), .bool true]) := by
  have := gRSub p q (hp.mono hk) (hq.mono hk); rw [nz_low lp, nz_low lq] at this; exact this h
theorem kSubL (h : p.1 * q.2 < q.1 * p.2) : Gives 29 #[ratV p, ratV q] (.tuple #[ratV (0, 0), .bool false]) := by
  have := gRSubL p q (hp.mono hk) (hq.mono hk); rw [nz_low lp, nz_low lq] at this; exact this h
theorem kDiv (h : 0 < q.1) : Gives 25 #[ratV p, ratV q] (.tuple #[ratV (Q.div p q), .bool true]) := by
  have := gRDiv p q (hp.mono hk) (hq.mono hk) h; rwa [nz_low lp, nz_low lq] at this
end

end Go.Proofs.Ytlomlcljjidfjaa
