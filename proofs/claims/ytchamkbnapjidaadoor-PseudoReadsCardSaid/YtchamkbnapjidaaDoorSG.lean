/- Sums: what is left, given a term. Plain. -/
import Derived.Test.YtchamkbnapjidaaDoorSN
namespace Go.Proofs.YtchamkbnapjidaaDoor
open Go

def gSum (s : PS) (t : List Int) : PS := ⟨(gLoop s t s.L.length).C, (gLoop s t s.L.length).L, clampI (gLoop s t s.L.length).m⟩
structure GInv (s : PS) (t : List Int) (j : Nat) (u : PS) : Prop where
  len : u.C.length = u.L.length
  le : u.C.length ≤ j
  co : ∀ c ∈ u.C, c ∈ s.C
  lit : ∀ l ∈ u.L, l ∈ s.L
  sum : sumAbs u.C + absI (s.m - u.m) ≤ sumAbs (s.C.take j)
  val : ∀ hold, Sound hold → (∀ l ∈ t, hold l = true) → valS u hold u.C.length = valS s hold j + (u.m - s.m)
theorem sound_not {hold : Int → Bool} (hh : Sound hold) {l : Int} (h0 : l ≠ 0) (h : hold (-l) = true) : hold l = false := by
  by_cases hp : 0 < l
  · have := hh l.toNat (by omega)
    rw [show ((l.toNat : Nat) : Int) = l by omega, h] at this
    cases hb : hold l with
    | false => rfl
    | true => rw [hb] at this; cases this
  · have := hh (-l).toNat (by omega)
    rw [show (((-l).toNat : Nat) : Int) = -l by omega, h, show - -l = l by omega] at this
    exact this
theorem take_snoc {C : List Int} {j : Nat} (h : j < C.length) : C.take (j + 1) = C.take j ++ [C.getD j 0] := by
  rw [List.take_add_one, List.getElem?_eq_getElem h]
  simp [List.getD, List.getElem?_eq_getElem h]
theorem getD_mem {C : List Int} {j : Nat} (h : j < C.length) : C.getD j 0 ∈ C := by simp [List.getD, h]
theorem gInv (s : PS) (t : List Int) (hlen : s.C.length = s.L.length) (hL : ∀ l ∈ s.L, l ≠ 0) : ∀ j, j ≤ s.L.length → GInv s t j (gLoop s t j)
  | 0, _ => ⟨rfl, Nat.le_refl _, by simp [gLoop], by simp [gLoop], by simp [gLoop, sumAbs, absI], fun hold _ _ => by simp [gLoop, valS]⟩
  | j + 1, hj => by
    have ih := gInv s t hlen hL j (by omega)
    have e : gLoop s t (j + 1) = gStep s t (gLoop s t j) j := by unfold gLoop; rw [List.range_succ, List.foldl_append]; rfl
    rw [e]
    generalize gLoop s t j = u at ih
    have hl0 := hL _ (getD_mem (show j < s.L.length by omega))
    have hcm := getD_mem (show j < s.C.length by omega)
    have hlm := getD_mem (show j < s.L.length by omega)
    have hts := take_snoc (show j < s.C.length by omega)
    have i1 := ih.sum
    unfold gStep
    by_cases h1 : s.L.getD j 0 ∈ t
    · rw [if_pos h1]
      refine ⟨ih.len, by have := ih.le; simp only; omega, ih.co, ih.lit, ?_, fun hold hh ht => ?_⟩
      · rw [hts, sumAbs_append, sumAbs_cons]
        have h0 : sumAbs [] = 0 := rfl
        rw [h0]
        simp only
        generalize s.C.getD j 0 = c at *
        have a1 : absI (s.m - (u.m - c)) ≤ absI (s.m - u.m) + absI c := by unfold absI; split <;> split <;> split <;> omega
        omega
      · have := ih.val hold hh ht
        rw [valS_succ, if_pos (ht _ h1)]
        have e2 : valS ⟨u.C, u.L, u.m - s.C.getD j 0⟩ hold u.C.length = valS u hold u.C.length := rfl
        simp only [e2]; omega
    · rw [if_neg h1]
      by_cases h2 : -(s.L.getD j 0) ∈ t
      · rw [if_pos h2]
        refine ⟨ih.len, by have := ih.le; omega, ih.co, ih.lit, ?_, fun hold hh ht => ?_⟩
        · rw [hts, sumAbs_append, sumAbs_cons]
          have h0 : sumAbs [] = 0 := rfl
          have := absI_nonneg (s.C.getD j 0)
          rw [h0]; omega
        · have := ih.val hold hh ht
          rw [valS_succ, sound_not hh hl0 (ht _ h2)]
          simpa using this
      · rw [if_neg h2]
        refine ⟨by simp [ih.len], by have := ih.le; simp only [List.length_append, List.length_singleton]; omega, fun c hc => ?_, fun l hl => ?_, ?_, fun hold hh ht => ?_⟩
        · rcases List.mem_append.1 hc with hc | hc
          · exact ih.co c hc
          · rw [List.mem_singleton] at hc; subst hc; exact hcm
        · rcases List.mem_append.1 hl with hl | hl
          · exact ih.lit l hl
          · rw [List.mem_singleton] at hl; subst hl; exact hlm
        · rw [hts, sumAbs_append, sumAbs_append, sumAbs_cons]
          show _ + _ + absI (s.m - u.m) ≤ _
          omega
        · have := ih.val hold hh ht
          rw [List.length_append, List.length_singleton, valS_old hold ih.len, valS_succ]
          have e2 : valS ⟨u.C, u.L, u.m⟩ hold u.C.length = valS u hold u.C.length := rfl
          rw [e2]
          show _ = _ + (u.m - s.m)
          split <;> omega
theorem clamp_in (x : Int) : -1000000000 ≤ clampI x ∧ clampI x ≤ 1000000000 := by unfold clampI; omega
/-- WHAT IS LEFT: valid, not longer, true in the same sets. -/
theorem given_ok {s : PS} {n : Int} (t : List Int) (h : s.Ok n) : (gSum s t).Ok n ∧ (gSum s t).L.length ≤ s.L.length ∧ ∀ hold, Sound hold → (∀ l ∈ t, hold l = true) → evalS (gSum s t) hold = evalS s hold := by
  have hI := gInv s t h.len (fun l hl => (h.lit l hl).1) s.L.length (Nat.le_refl _)
  have hsum := hI.sum
  have htake : s.C.take s.L.length = s.C := by rw [← h.len, List.take_length]
  rw [htake] at hsum
  have hS := h.sum
  have h128 : s.Ok 128 := ⟨by omega, by omega, h.len, h.l64, fun l hl => by have := h.lit l hl; have := h.n1; omega, h.co, h.sum, h.m0, h.m1⟩
  have ha := absI_nonneg (s.m - (gLoop s t s.L.length).m)
  have ok : (gSum s t).Ok n := ⟨h.n0, h.n1, hI.len, by have := hI.le; have := h.l64; have := h.len; unfold gSum; simp only; omega, fun l hl => h.lit l (hI.lit l hl), fun c hc => h.co c (hI.co c hc), by unfold gSum; simp only; omega, (clamp_in _).1, (clamp_in _).2⟩
  refine ⟨ok, by have := hI.le; have := hI.len; unfold gSum; simp only; omega, fun hold hh ht => ?_⟩
  have ok128 : (gSum s t).Ok 128 := ⟨by omega, by omega, ok.len, ok.l64, fun l hl => by have := ok.lit l hl; have := h.n1; omega, ok.co, ok.sum, ok.m0, ok.m1⟩
  have hv := hI.val hold hh ht
  unfold evalS
  rw [check_ok.2 ok128, check_ok.2 h128]
  simp only [decide_true, Bool.true_and]
  have hb := val_le (gLoop s t s.L.length) hold _ (Nat.le_refl _)
  rw [List.take_length] at hb
  have e : valS (gSum s t) hold (gSum s t).L.length = valS (gLoop s t s.L.length) hold (gLoop s t s.L.length).C.length := by rw [hI.len]; rfl
  rw [e]
  have em : (gSum s t).m = clampI (gLoop s t s.L.length).m := rfl
  rw [em]
  have hm0 := h.m0
  have hm1 := h.m1
  generalize gLoop s t s.L.length = u at *
  generalize valS u hold u.C.length = x at *
  generalize valS s hold s.L.length = y at *
  generalize sumAbs u.C = z at *
  generalize sumAbs s.C = a at *
  congr 1
  apply propext
  unfold clampI
  have hab : (s.m - u.m ≤ absI (s.m - u.m)) ∧ (-(s.m - u.m) ≤ absI (s.m - u.m)) := by unfold absI; split <;> omega
  generalize absI (s.m - u.m) = b at *
  constructor <;> intro h' <;> omega
theorem given_gSum {s : PS} {t : List Int} {n : Int} (h : s.Ok n) (ht : termOk t n = true) : givenS s t n = (gSum s t, 0) := by
  unfold givenS
  rw [check_ok.2 h, ht]
  simp [gSum]
end Go.Proofs.YtchamkbnapjidaaDoor
