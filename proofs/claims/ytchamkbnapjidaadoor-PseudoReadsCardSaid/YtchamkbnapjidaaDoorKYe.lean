/- The law: in which sets a sum is true. -/
import Derived.Test.YtchamkbnapjidaaDoorKYa
import Derived.Deep.DeepCutAuto
namespace Go.Proofs.YtchamkbnapjidaaDoor
open Go.RowKit

theorem gEvalFrom (N : Nat) (s : PS) (a0 a1 : Nat) (ha0 : a0 < 18446744073709551616) (ha1 : a1 < 18446744073709551616) (ca la : Option Addr) (cc lc : Nat) (hcl : s.C.length ≤ 100000000000000) (hll : s.L.length ≤ 100000000000000) (w : World) (hC : AtN N w ca (ints s.C)) (hL : AtN N w la (ints s.L)) (hw : N ≤ w.heap.size) :
    GivesFrom w 21 #[sumV ca cc la lc s, setV a0 a1] (.bool (evalS s (litB (bitS a0 a1)))) := fun w1 hb => gEval a0 a1 ha0 ha1 N s ca la cc lc hcl hll w1 (hC.below hb hw) (hL.below hb hw) (Nat.le_trans hw hb.size)
end Go.Proofs.YtchamkbnapjidaaDoor
