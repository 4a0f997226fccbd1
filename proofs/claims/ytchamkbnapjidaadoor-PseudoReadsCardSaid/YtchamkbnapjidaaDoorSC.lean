/- Sums: the outcomes of Check, one by one. Plain. -/
import Derived.Test.YtchamkbnapjidaaDoorSG
namespace Go.Proofs.YtchamkbnapjidaaDoor
open Go

theorem check_n {s : PS} {n : Int} (h : n < 0 ∨ 128 < n) : checkS s n = 6 := by unfold checkS; rw [if_pos h]
theorem check_len {s : PS} {n : Int} (h0 : 0 ≤ n) (h1 : n ≤ 128) (h : s.C.length ≠ s.L.length) : checkS s n = 1 := by
  unfold checkS; rw [if_neg (by omega), if_pos h]
theorem check_long {s : PS} {n : Int} (h0 : 0 ≤ n) (h1 : n ≤ 128) (h : s.C.length = s.L.length) (h2 : 64 < s.C.length) : checkS s n = 2 := by
  unfold checkS; rw [if_neg (by omega), if_neg (by omega), if_pos h2]
structure Pre (s : PS) (n : Int) : Prop where
  n0 : 0 ≤ n
  n1 : n ≤ 128
  len : s.C.length = s.L.length
  l64 : s.C.length ≤ 64
theorem check_pre {s : PS} {n : Int} (h : Pre s n) : checkS s n = if s.L.all (fun l => litOk l n) = false then 1
  else if s.C.all coefOk = false then 6
  else if 1000000000 < sumAbs s.C ∨ s.m < -1000000000 ∨ 1000000000 < s.m then 6
  else 0 := by
  have a1 := h.n0; have a2 := h.n1; have a3 := h.len; have a4 := h.l64
  unfold checkS; rw [if_neg (by omega), if_neg (by omega), if_neg (by omega)]
theorem all_of_upto {α : Type} [Inhabited α] (p : α → Bool) (l : List α) (d : α) (h : ∀ i, i < l.length → p (l.getD i d) = true) : l.all p = true := by
  rw [List.all_eq_true]
  intro x hx
  obtain ⟨i, hi, rfl⟩ := List.mem_iff_getElem.1 hx
  have := h i hi
  simpa [List.getD, hi] using this
theorem all_not {α : Type} (p : α → Bool) (l : List α) (d : α) (i : Nat) (hi : i < l.length) (h : p (l.getD i d) = false) : l.all p = false := by
  rw [Bool.eq_false_iff]
  intro ha
  rw [List.all_eq_true] at ha
  have := ha (l.getD i d) (by simp [List.getD, hi])
  rw [h] at this; cases this
theorem check_lit {s : PS} {n : Int} (h : Pre s n) (i : Nat) (hi : i < s.L.length) (hl : litOk (s.L.getD i 0) n = false) : checkS s n = 1 := by
  rw [check_pre h, if_pos (all_not _ _ 0 i hi hl)]
def LitsOk (s : PS) (n : Int) : Prop := ∀ i, i < s.L.length → litOk (s.L.getD i 0) n = true
theorem check_six {s : PS} {n : Int} (h : Pre s n) (hl : LitsOk s n) (hs : (s.C.all coefOk = false) ∨ 1000000000 < sumAbs s.C ∨ s.m < -1000000000 ∨ 1000000000 < s.m) : checkS s n = 6 := by
  rw [check_pre h, if_neg (by rw [all_of_upto (fun l => litOk l n) s.L 0 hl]; simp)]
  by_cases hc : s.C.all coefOk = false
  · rw [if_pos hc]
  · rw [if_neg hc, if_pos (hs.resolve_left hc)]
theorem check_co {s : PS} {n : Int} (h : Pre s n) (hl : LitsOk s n) (i : Nat) (hi : i < s.C.length) (hc : coefOk (s.C.getD i 0) = false) : checkS s n = 6 := check_six h hl (.inl (all_not _ _ 0 i hi hc))
theorem sumAbs_take (C : List Int) (j : Nat) : sumAbs (C.take j) ≤ sumAbs C := by
  conv => rhs; rw [← List.take_append_drop j C]
  rw [sumAbs_append]
  have := sumAbs_nonneg (C.drop j)
  omega
theorem sumAbs_succ {C : List Int} {j : Nat} (h : j < C.length) : sumAbs (C.take (j + 1)) = sumAbs (C.take j) + absI (C.getD j 0) := by
  rw [take_snoc h, sumAbs_append, sumAbs_cons]; simp [sumAbs]
theorem check_sum {s : PS} {n : Int} (h : Pre s n) (hl : LitsOk s n) (j : Nat) (hj : 1000000000 < sumAbs (s.C.take j)) : checkS s n = 6 :=
  check_six h hl (.inr (.inl (by have := sumAbs_take s.C j; omega)))
theorem check_m {s : PS} {n : Int} (h : Pre s n) (hl : LitsOk s n) (hm : s.m < -1000000000 ∨ 1000000000 < s.m) : checkS s n = 6 := check_six h hl (.inr (.inr hm))
theorem check_fine {s : PS} {n : Int} (h : Pre s n) (hl : LitsOk s n) (hc : ∀ i, i < s.C.length → coefOk (s.C.getD i 0) = true) (hs : sumAbs s.C ≤ 1000000000) (h0 : -1000000000 ≤ s.m) (h1 : s.m ≤ 1000000000) : checkS s n = 0 := by
  rw [check_pre h, if_neg (by rw [all_of_upto (fun l => litOk l n) s.L 0 hl]; simp), if_neg (by rw [all_of_upto coefOk s.C 0 hc]; simp), if_neg (by omega)]
/-- Where prefixes' sums stay in their bounds, every coefficient is in its own. -/
theorem co_of_sum {C : List Int} {i : Nat} (hi : i < C.length) (h : sumAbs C ≤ 1000000000) : coefOk (C.getD i 0) = true := by
  have h1 := sumAbs_succ hi
  have h2 := sumAbs_take C (i + 1)
  have h3 := sumAbs_nonneg (C.take i)
  unfold coefOk
  have : absI (C.getD i 0) ≤ 1000000000 := by omega
  unfold absI at this
  simp only [Bool.and_eq_true, decide_eq_true_eq]
  split at this <;> omega
theorem coefOk_iff {c : Int} : coefOk c = true ↔ -1000000000 ≤ c ∧ c ≤ 1000000000 := by simp [coefOk]
end Go.Proofs.YtchamkbnapjidaaDoor
