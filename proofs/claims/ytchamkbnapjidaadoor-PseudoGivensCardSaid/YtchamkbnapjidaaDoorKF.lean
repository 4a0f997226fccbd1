/- few: a valid sum of small numbers. -/
import Derived.Test.YtchamkbnapjidaaDoorKYa
import Derived.Test.YtchamkbnapjidaaDoorSF
import Derived.Deep.DeepCutAuto
namespace Go.Proofs.YtchamkbnapjidaaDoor
open Go.RowKit

theorem fewN_le (s : PS) : fewN s ≤ s.C.length ∧ fewN s ≤ s.L.length ∧ fewN s ≤ 30 := by unfold fewN; omega
theorem take_map_succ {C : List Int} {f : Int → Int} {j : Nat} (h : j < C.length) : (C.take (j + 1)).map f = (C.take j).map f ++ [f (C.getD j 0)] := by
  rw [take_snoc h, List.map_append]; rfl
end Go.Proofs.YtchamkbnapjidaaDoor
