/- The law: the normal form of a small sum says the same everywhere. -/
import Derived.Test.YtchamkbnapjidaaDoorKYo
import Derived.Test.YtchamkbnapjidaaDoorKYe
import Derived.Test.YtchamkbnapjidaaDoorKF
import Derived.Deep.DeepCutAuto
namespace Go.Proofs.YtchamkbnapjidaaDoor
open Go.RowKit

theorem litB_sound (a b : Nat) : Sound (litB (bitS a b)) := fun v hv => by
  unfold litB
  rw [if_neg (by omega), if_pos (by omega)]
  simp
theorem norm_eval {s : PS} {n : Int} (h : s.Ok n) (a b : Nat) : evalS (normS s n).1 (litB (bitS a b)) = evalS s (litB (bitS a b)) := by
  have e : (normS s n).1 = nEnd (nLoop s (List.range 129)) := by unfold normS; rw [if_neg (by simpa using check_ok.2 h)]
  rw [e]
  exact (norm_ok h).2 _ (litB_sound a b)

theorem u64_nat (x : Int) : ∃ P : Nat, IntKind.u64.wrap x = (P : Int) ∧ P < 18446744073709551616 :=
  ⟨(x % 18446744073709551616).toNat, by simp [IntKind.wrap, IntKind.signed, IntKind.bits]; omega, by omega⟩

end Go.Proofs.YtchamkbnapjidaaDoor
