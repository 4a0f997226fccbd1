/- Texts of this claim, joined: Game6. -/
import Derived.Test.YtmaiofimmjedjaaDoorMW03

/- Calls that write in a drawn region: what they leave is all that is new. -/
namespace Go.Proofs.YtmaiofimmjedjaaDoor
open Go.RowKit

section
variable {P : Program} {ops : Array Oper} {w : World} {Wr : List Nat} {B : Blocks}
def worldOf (w : World) (B : Blocks) (M : Nat) : World := { w with heap := Array.ofFn (n := M) fun k => (B k.val).getD ((w.heap[k.val]?).getD (.map #[] 0)) }
theorem worldOf_get {M k : Nat} (hk : k < M) : (worldOf w B M).heap[k]? = some ((B k).getD ((w.heap[k]?).getD (.map #[] 0))) := by
  unfold worldOf
  simp [hk]
theorem worldOf_size {M : Nat} : (worldOf w B M).heap.size = M := by simp [worldOf]
theorem exists_world (hf : Fin B) (hBn : ∀ g o, B g = some o → g ∈ Wr ∨ w.heap.size ≤ g) (N : Nat) : ∃ x, Behind w Wr x ∧ Has B x ∧ N ≤ x.heap.size := by
  obtain ⟨F, hF⟩ := hf
  refine ⟨worldOf w B (max N (max F w.heap.size)), ⟨rfl, rfl, rfl, by rw [worldOf_size]; omega, fun k hk hn => ?_⟩, fun b o hb => ?_, by rw [worldOf_size]; omega⟩
  · rw [worldOf_get (by omega)]
    have : B k = none := by
      cases h : B k with
      | none => rfl
      | some o =>
        rcases hBn k o h with h' | h'
        · exact absurd h' hn
        · omega
    rw [this, Array.getElem?_eq_getElem hk]; rfl
  · have : b < F := by
      rcases Nat.lt_or_ge b F with h | h
      · exact h
      · rw [hF b h] at hb; cases hb
    rw [worldOf_get (by omega), hb]; rfl

end
end Go.Proofs.YtmaiofimmjedjaaDoor
