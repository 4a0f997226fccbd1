/- The law on valid sums. -/
import Derived.Test.YtchamkbnapjidaaDoorKWk
namespace Go.Proofs.YtchamkbnapjidaaDoor
open Go.RowKit

def lightB (s : PS) : Bool := decide (s.C.length ≤ 80) && decide (s.L.length ≤ 80)
set_option maxHeartbeats 1600000 in
set_option maxRecDepth 100000 in
theorem gLight (s : PS) (ca la : Option Addr) (cc lc : Nat) (hcl : s.C.length ≤ 20000000000000) (hll : s.L.length ≤ 20000000000000) : Gives 7 #[sumV ca cc la lc s] (.bool (lightB s)) := by
  intro w
  unfold sumV
  have HQ := Lib.hid (show lightB s = (decide (s.C.length ≤ 80) && decide (s.L.length ≤ 80)) from rfl)
  generalize s.C.length = a at *
  generalize s.L.length = b at *
  by_cases h1 : a ≤ 80
  · have hd : decide ((a : Int) ≤ 80) = true := decide_eq_true (by omega)
    by_cases h2 : b ≤ 80
    · have hd2 : decide ((b : Int) ≤ 80) = true := decide_eq_true (by omega)
      go_enter Tryd.func7, Tryd.ntmps7
      go_wp2_with fail
      go_ret
      exact ⟨by rw [HQ.out, decide_eq_true h1, decide_eq_true h2]; rfl, below_one _ _⟩
    · have hd2 : decide ((b : Int) ≤ 80) = false := decide_eq_false (by omega)
      go_enter Tryd.func7, Tryd.ntmps7
      go_wp2_with fail
      go_ret
      exact ⟨by rw [HQ.out, decide_eq_true h1, decide_eq_false h2]; rfl, below_one _ _⟩
  · have hd : decide ((a : Int) ≤ 80) = false := decide_eq_false (by omega)
    go_enter Tryd.func7, Tryd.ntmps7
    go_wp2_with fail
    go_ret
    exact ⟨by rw [HQ.out, decide_eq_false h1]; rfl, below_one _ _⟩

theorem gWorksFrom {w : World} (hT : Tab w) : GivesFrom w 8 #[] (.bool true) := fun w' hb => gWorks w' (hT.below hb)
theorem gCheckFrom (N : Nat) (s : PS) (n : Int) (ca la : Option Addr) (cc lc : Nat) (hcl : s.C.length ≤ 100000000000000) (hll : s.L.length ≤ 100000000000000) (w : World) (hC : AtN N w ca (ints s.C)) (hL : AtN N w la (ints s.L)) (hw : N ≤ w.heap.size) :
    GivesFrom w 23 #[sumV ca cc la lc s, .int .i64 n] (.int .i64 (checkS s n)) := fun w1 hb => gCheck N s n ca la cc lc hcl hll w1 (hC.below hb hw) (hL.below hb hw) (Nat.le_trans hw hb.size)
theorem xCheckFrom (N : Nat) (s : PS) (n : Int) (ca la : Option Addr) (cc lc : Nat) (hcl : s.C.length ≤ 100000000000000) (hll : s.L.length ≤ 100000000000000) (w : World) (hC : AtN N w ca (ints s.C)) (hL : AtN N w la (ints s.L)) (hw : N ≤ w.heap.size) :
    GivesFrom w 24 #[sumV ca cc la lc s, .int .i64 n] (.int .i64 (checkS s n)) := fun w1 hb => xCheck N s n ca la cc lc hcl hll w1 (hC.below hb hw) (hL.below hb hw) (Nat.le_trans hw hb.size)
theorem GivesFrom.from {w x : World} {f : FuncId} {args : Array Value} {v : Value} (h : GivesFrom w f args v) (hb : Below w.heap.size w x) : GivesFrom x f args v := fun y hy => h y (hb.trans (hy.mono hb.size))

end Go.Proofs.YtchamkbnapjidaaDoor
