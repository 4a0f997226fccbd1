/- The law: the text of a sum is the reference's. -/
import Derived.Test.YtchamkbnapjidaaDoorKZt
import Derived.Test.YtchamkbnapjidaaDoorKZa
import Derived.Deep.DeepCutAuto
namespace Go.Proofs.YtchamkbnapjidaaDoor
open Go.RowKit

set_option maxHeartbeats 6400000 in
set_option maxRecDepth 100000 in
theorem texts_law (s : PS) (ca la : Option Addr) (cc lc : Nat) (hcl : s.C.length ≤ 20000000000000) (hll : s.L.length ≤ 20000000000000) (w : World) (hT : Tab w) (hC : AtN w.heap.size w ca (ints s.C)) (hL : AtN w.heap.size w la (ints s.L)) :
    Calls Tryd.prog 5 #[sumV ca cc la lc s] w fun e w' => e = .returned (.bool true) ∧ Below w.heap.size w w' := by
  have KL := gLight s ca la cc lc (by omega) (by omega)
  have KW := Lib.hid (gWorksFrom hT)
  have KP := Lib.hid (fun (w1 : World) (hb : Below w.heap.size w w1) => gPrint w.heap.size s ca la cc lc (by omega) (by omega) w1 (hT.below hb) (hC.below hb (Nat.le_refl _)) (hL.below hb (Nat.le_refl _)) hb.size)
  have KX := Lib.hid (fun (w1 : World) (hb : Below w.heap.size w w1) => xPrint w.heap.size s ca la cc lc (by omega) (by omega) w1 (hC.below hb (Nat.le_refl _)) (hL.below hb (Nat.le_refl _)) hb.size)
  generalize (printS s).1 = x at *
  generalize (printS s).2 = r at *
  generalize (⟨x.toArray⟩ : ByteArray) = y at *
  unfold sumV at *
  generalize lightB s = q at *
  clear hT hC hL
  cases q with
  | false =>
    go_enter Tryd.func5, Tryd.ntmps5
    go_wp2_with fail
    refine calls_gen fun w1 hw1 => ?_
    have HB1 := Lib.hid (show Below w.heap.size w w1 by rw [hw1]; exact below_one _ _)
    clear hw1
    refine (KL w1).mono ?_
    rintro e w2 ⟨rfl, hB2⟩
    have HB2 := Lib.hid (HB1.out.trans (hB2.mono HB1.out.size))
    clear hB2 HB1
    go_wp2_with fail
    refine (KW.out w2 HB2.out).mono ?_
    rintro e w3 ⟨rfl, hB3⟩
    have HB3 := Lib.hid (HB2.out.trans (hB3.mono HB2.out.size))
    clear hB3
    go_wp2_with fail
    go_ret
    exact ⟨rfl, HB3.out⟩
  | true =>
  go_enter Tryd.func5, Tryd.ntmps5
  go_wp2_with fail
  refine calls_gen fun w1 hw1 => ?_
  have HB1 := Lib.hid (show Below w.heap.size w w1 by rw [hw1]; exact below_one _ _)
  have M1 := (show w1.heap[w.heap.size]? = some (.cells #[.slice ca s.C.length cc, .slice la s.L.length lc, .int .i64 s.m] 24 (0, 0)) by rw [hw1]; exact new_one _ _)
  clear hw1
  refine (KL w1).mono ?_
  rintro e w2 ⟨rfl, hB2⟩
  have HB2 := Lib.hid (HB1.out.trans (hB2.mono HB1.out.size))
  have M2 := Lib.hid ((behind_of_below hB2).keep M1 (by simp))
  clear hB2 HB1 M1 KL
  have c0 := blk_cell M2.out 0 rfl
  have c1 := blk_cell M2.out 1 rfl
  have c2 := blk_cell M2.out 2 rfl
  have hm2 := lt_of_heap M2.out
  go_wp2_with fail
  refine (KP.out w2 HB2.out).mono ?_
  rintro e w3 ⟨rfl, h3⟩
  have HB3 := Lib.hid (HB2.out.trans (h3.mono HB2.out.size))
  have M3 := (behind_of_below h3).keep M2.out (by simp)
  clear h3 KP c0 c1 c2 M2
  have c0 := blk_cell M3 0 rfl
  have c1 := blk_cell M3 1 rfl
  have c2 := blk_cell M3 2 rfl
  clear M3
  go_wp2_with fail
  refine (KX.out w3 HB3.out).mono ?_
  rintro e w4 ⟨rfl, h4⟩
  have HB4 := Lib.hid (HB3.out.trans (h4.mono HB3.out.size))
  clear h4 KX c0 c1 c2
  have hrr : (r == r) = true := by simp
  go_wp2_with fail
  refine (KW.out w4 HB4.out).mono ?_
  rintro e w5 ⟨rfl, hB5⟩
  have HB5 := Lib.hid (HB4.out.trans (hB5.mono HB4.out.size))
  clear hB5
  go_wp2_with fail
  go_ret
  exact ⟨rfl, HB5.out⟩
end Go.Proofs.YtchamkbnapjidaaDoor
