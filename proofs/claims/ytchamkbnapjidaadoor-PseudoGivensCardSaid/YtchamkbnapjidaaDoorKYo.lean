/- The law: a normal form is valid, and its own one. -/
import Derived.Test.YtchamkbnapjidaaDoorKYa
import Derived.Test.YtchamkbnapjidaaDoorSO
import Derived.Deep.DeepCutAuto
namespace Go.Proofs.YtchamkbnapjidaaDoor
open Go.RowKit

theorem norm_err2 (s : PS) (n : Int) : (normS s n).2 = checkS s n := by
  unfold normS; split
  · rfl
  · rename_i h; exact (Decidable.not_not.1 h).symm
theorem norm_zero2 {s : PS} {n : Int} (h : ¬ checkS s n = 0) : (normS s n).1 = .zero := by unfold normS; rw [if_pos h]
theorem norm_good {s : PS} {n : Int} (h : checkS s n = 0) : (normS s n).1.Ok n ∧ Once (normS s n).1 n := by
  have hs := check_ok.1 h
  have e : (normS s n).1 = nEnd (nLoop s (List.range 129)) := by unfold normS; rw [if_neg (by simpa using h)]
  rw [e]
  exact ⟨(norm_ok hs).1, norm_once hs⟩
theorem getD_mem' {C : List Int} {j : Nat} (h : j < C.length) : C.getD j 0 ∈ C := by simp [List.getD, h]
theorem asc_get {L : List Int} (h : L.Pairwise (fun x y => absI x < absI y)) {i j : Nat} (hij : i < j) (hj : j < L.length) : absI (L.getD i 0) < absI (L.getD j 0) := by
  have := List.pairwise_iff_getElem.1 h i j (by omega) hj hij
  simpa [List.getD, hj, show i < L.length by omega] using this
theorem absI_pos {x : Int} (h : x ≠ 0) : 0 < absI x := by unfold absI; split <;> omega
theorem max_neg_abs (x : Int) : (if x < -x then -x else x) = absI x := by unfold absI; split <;> split <;> omega

end Go.Proofs.YtchamkbnapjidaaDoor
