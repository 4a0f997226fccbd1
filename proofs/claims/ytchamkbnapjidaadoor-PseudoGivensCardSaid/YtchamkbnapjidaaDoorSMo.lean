/- A normal form stays true if more of its literals become true; sets of few variables. Plain. -/
import Derived.Test.YtchamkbnapjidaaDoorSO
namespace Go.Proofs.YtchamkbnapjidaaDoor
open Go

theorem val_mono (u : PS) (h1 h2 : Int → Bool) (hc : ∀ c ∈ u.C, 0 ≤ c) (hm : ∀ l ∈ u.L, h1 l = true → h2 l = true) : ∀ j, j ≤ u.L.length → j ≤ u.C.length → valS u h1 j ≤ valS u h2 j
  | 0, _, _ => Int.le_refl _
  | j + 1, hj, hj2 => by
    have ih := val_mono u h1 h2 hc hm j (by omega) (by omega)
    have hl := hm (u.L.getD j 0) (by simp [List.getD, show j < u.L.length by omega])
    have hcj := hc (u.C.getD j 0) (by simp [List.getD, show j < u.C.length by omega])
    rw [valS_succ, valS_succ]
    cases e1 : h1 (u.L.getD j 0) with
    | true => rw [hl e1]; simp only [if_true]; omega
    | false =>
      simp only [Bool.false_eq_true, if_false]
      split <;> omega
theorem eval_mono {u : PS} {h1 h2 : Int → Bool} (hl : u.C.length = u.L.length) (hc : ∀ c ∈ u.C, 0 ≤ c) (hm : ∀ l ∈ u.L, h1 l = true → h2 l = true) (h : evalS u h1 = true) : evalS u h2 = true := by
  unfold evalS at *
  rw [Bool.and_eq_true, decide_eq_true_eq, decide_eq_true_eq] at *
  have := val_mono u h1 h2 hc hm u.L.length (Nat.le_refl _) (by omega)
  exact ⟨h.1, by omega⟩
end Go.Proofs.YtchamkbnapjidaaDoor
