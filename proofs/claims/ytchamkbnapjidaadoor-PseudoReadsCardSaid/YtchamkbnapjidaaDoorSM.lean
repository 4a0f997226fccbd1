/- Normal forms: the reference's loop over the variables 1 to n. Plain. -/
import Derived.Test.YtchamkbnapjidaaDoorSN
namespace Go.Proofs.YtchamkbnapjidaaDoor
open Go

theorem valS_none (s : PS) (hold : Int → Bool) : ∀ j, j ≤ s.L.length → (∀ l ∈ s.L, hold l = false) → valS s hold j = 0
  | 0, _, _ => rfl
  | j + 1, hj, h => by
    rw [valS_succ, valS_none s hold j (by omega) h, h _ (by simp [List.getD, show j < s.L.length by omega])]; rfl
theorem ofS_none {s : PS} {x : Int} (h : x ∉ s.L) : ofS s x s.L.length = 0 := by
  unfold ofS
  refine valS_none s _ _ (Nat.le_refl _) (fun l hl => ?_)
  rw [decide_eq_false_iff_not]
  rintro rfl; exact h hl
theorem nStep_none {s : PS} {st : NSt} {v : Nat} (h1 : ofS s v s.L.length = 0) (h2 : ofS s (-(v : Int)) s.L.length = 0) : nStep s st v = st := by
  unfold nStep
  rw [h1, h2]
  cases st; simp
theorem nLoop_app (s : PS) (a b : List Nat) : nLoop s (a ++ b) = b.foldl (nStep s) (nLoop s a) := by unfold nLoop; rw [List.foldl_append]
theorem fold_same {α β : Type} (f : α → β → α) (a : α) : ∀ l : List β, (∀ x ∈ l, f a x = a) → l.foldl f a = a
  | [], _ => rfl
  | x :: l, h => by rw [List.foldl_cons, h x (by simp)]; exact fold_same f a l (fun y hy => h y (by simp [hy]))
theorem nLoop_ref {s : PS} {n : Nat} (h : s.Ok n) : nLoop s (List.range 129) = nLoop s ((List.range n).map (· + 1)) := by
  have hn : n ≤ 128 := by have := h.n1; omega
  have hl := h.lit
  have e1 : List.range 129 = 0 :: ((List.range n).map (· + 1) ++ (List.range (128 - n)).map fun i => n + i + 1) := by
    rw [show 129 = 128 + 1 from rfl, List.range_succ_eq_map, show List.range 128 = List.range (n + (128 - n)) by rw [show n + (128 - n) = 128 by omega], List.range_add]
    simp
  rw [e1]
  have e0 : nStep s ⟨s.m, 0, [], []⟩ 0 = ⟨s.m, 0, [], []⟩ :=
    nStep_none (ofS_none fun hm => (hl _ hm).1 rfl) (ofS_none fun hm => (hl _ hm).1 (by simp))
  show List.foldl (nStep s) (nStep s ⟨s.m, 0, [], []⟩ 0) _ = _
  rw [e0]
  show nLoop s _ = _
  rw [nLoop_app]
  refine fold_same _ _ _ (fun v hv => ?_)
  obtain ⟨i, hi, rfl⟩ := List.mem_map.1 hv
  exact nStep_none (ofS_none fun hm => by have := hl _ hm; omega) (ofS_none fun hm => by have := hl _ hm; omega)
end Go.Proofs.YtchamkbnapjidaaDoor
