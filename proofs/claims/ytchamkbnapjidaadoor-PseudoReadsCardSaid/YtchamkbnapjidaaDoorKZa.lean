/- What the laws with reference functions share: SameInts, Same. -/
import Derived.Test.YtchamkbnapjidaaDoorKYe
import Derived.Deep.DeepCutAuto
namespace Go.Proofs.YtchamkbnapjidaaDoor
open Go.RowKit

set_option maxHeartbeats 1600000 in
set_option maxRecDepth 100000 in
theorem xSameInts (xs : List Int) (N : Nat) (a b : Option Addr) (c d : Nat) (hl : xs.length ≤ 100000000000000) (w : World) (hA : AtN N w a (ints xs)) (hB : AtN N w b (ints xs)) (hw : N ≤ w.heap.size) :
    Calls Tryd.prog 26 #[.slice a xs.length c, .slice b xs.length d] w fun e w' => e = .returned (.bool true) ∧ Below w.heap.size w w' := by
  have HA := Lib.hid hA
  have HBB := Lib.hid hB
  clear hA hB
  go_enter Tryd.func26, Tryd.ntmps26
  go_wp2_with fail
  go_loopw [5] (fun t5 wr => ∃ j : Nat, j ≤ xs.length ∧ t5 = .int .i64 j ∧ Hid (Below w.heap.size w wr)) (fun t5 _ => xs.length - (intOf t5).toNat)
  case atStart => exact ⟨0, Nat.zero_le _, rfl, Below.refl _ _⟩
  case round =>
    obtain ⟨j, hj, rfl, HB⟩ := hrel
    have hsr := HB.out.size
    by_cases hlt : j < xs.length
    · have hdd : decide (j < xs.length) = true := by simpa using hlt
      have hyy : xs[j]? = some (xs.getD j 0) := by simp [List.getD, hlt]
      obtain ⟨b1, o1, hb1, e1, k1⟩ := HA.out _ _ (ints_get _ _ _ hyy)
      obtain ⟨b2, o2, hb2, e2, k2⟩ := HBB.out _ _ (ints_get _ _ _ hyy)
      subst e1 e2
      have d1 := Lib.hid (below_cell HB.out (show b1 < w.heap.size by omega) k1)
      have d2 := Lib.hid (below_cell HB.out (show b2 < w.heap.size by omega) k2)
      generalize xs.getD j 0 = y at *
      clear k1 k2 hyy
      go_upto_region 6 with fail
      refine wp_game (List.replicate 9 0) [] B0 fin_B0 (has_B0 _) (by kernel_rfl) (by kernel_rfl) ?_
      refine lex_quietE 9 (by kernel_rfl) (by rfl) ?_
      apply Exists.intro
      refine ⟨fun z hz1 => ?_, ?_⟩
      · have hzb := hz1.below
        have g1 := below_cellp hzb d1.out (by omega)
        have g2 := below_cellp hzb d2.out (by omega)
        clear hz1
        simp only [List.take_succ_cons, List.take_zero]
        unfold Cx
        repeat (go_big_quiet_step (fail))
        exact wpQuiet_nil rfl
      simp only [List.drop_succ_cons, List.drop_zero]
      refine lex_nil ?_
      intro x2 hx2 _
      have HBf := Lib.hid (HB.out.trans (hx2.below.mono HB.out.size))
      clear hx2
      go_wp2_with fail
      go_roundw
      case rel => exact ⟨j + 1, by omega, by go_num, HBf.out⟩
      case measure => simp [intOf]; omega
    · obtain rfl : j = xs.length := by omega
      have hdd : decide (xs.length < xs.length) = false := by simp
      go_wp2_with fail
      go_ret
      exact ⟨rfl, HB.out⟩

set_option maxHeartbeats 1600000 in
set_option maxRecDepth 100000 in
/-- Two sums with the same parts are the same. -/
theorem xSame (s : PS) (N : Nat) (ca la cb lb : Option Addr) (cc lc cd ld : Nat) (hcl : s.C.length ≤ 100000000000000) (hll : s.L.length ≤ 100000000000000) (w : World) (hC : AtN N w ca (ints s.C)) (hL : AtN N w la (ints s.L)) (hC2 : AtN N w cb (ints s.C)) (hL2 : AtN N w lb (ints s.L)) (hw : N ≤ w.heap.size) :
    Calls Tryd.prog 12 #[sumV ca cc la lc s, sumV cb cd lb ld s] w fun e w' => e = .returned (.bool true) ∧ Below w.heap.size w w' := by
  have K1 := Lib.hid (fun (w1 : World) (hb : Below w.heap.size w w1) => xSameInts s.C N ca cb cc cd hcl w1 (hC.below hb hw) (hC2.below hb hw) (Nat.le_trans hw hb.size))
  have K2 := Lib.hid (fun (w1 : World) (hb : Below w.heap.size w w1) => xSameInts s.L N la lb lc ld hll w1 (hL.below hb hw) (hL2.below hb hw) (Nat.le_trans hw hb.size))
  unfold sumV
  generalize s.C.length = a at *
  generalize s.L.length = b at *
  clear hC hL hC2 hL2
  go_enter Tryd.func12, Tryd.ntmps12
  go_wp2_with fail
  refine calls_gen fun w1 hw1 => ?_
  have HB1 := Lib.hid (show Below w.heap.size w w1 by rw [hw1]; exact below_two _ _ _)
  have M1 := (show w1.heap[w.heap.size]? = some (.cells #[.slice ca a cc, .slice la b lc, .int .i64 s.m] 24 (0, 0)) by rw [hw1]; exact new_two1 _ _ _)
  have N1 := (show w1.heap[w.heap.size + 1]? = some (.cells #[.slice cb a cd, .slice lb b ld, .int .i64 s.m] 24 (0, 0)) by rw [hw1]; exact new_two2 _ _ _)
  clear hw1
  refine (K1.out w1 HB1.out).mono ?_
  rintro e w2 ⟨rfl, hB2⟩
  have HB2 := Lib.hid (HB1.out.trans (hB2.mono HB1.out.size))
  have M2 := (behind_of_below hB2).keep M1 (by simp)
  have N2 := (behind_of_below hB2).keep N1 (by simp)
  have c1 := blk_cell M2 1 rfl
  have d1 := blk_cell N2 1 rfl
  clear hB2 M1 N1 M2 N2
  go_wp2_with fail
  refine (K2.out w2 HB2.out).mono ?_
  rintro e w3 ⟨rfl, hB3⟩
  have HB3 := Lib.hid (HB2.out.trans (hB3.mono HB2.out.size))
  clear hB3
  go_wp2_with fail
  go_ret
  exact ⟨rfl, HB3.out⟩
end Go.Proofs.YtchamkbnapjidaaDoor
