/- The reference's coefficient of a literal. -/
import Derived.Test.YtchamkbnapjidaaDoorKZa
import Derived.Test.YtchamkbnapjidaaDoorKH
import Derived.Deep.DeepCutAuto
namespace Go.Proofs.YtchamkbnapjidaaDoor
open Go.RowKit

set_option maxHeartbeats 1600000 in
set_option maxRecDepth 100000 in
theorem xOf (s : PS) (n z : Int) (h : s.Ok n) (N : Nat) (ca la : Option Addr) (cc lc : Nat) (w : World) (hC : AtN N w ca (ints s.C)) (hL : AtN N w la (ints s.L)) (hw : N ≤ w.heap.size) :
    Calls Tryd.prog 25 #[sumV ca cc la lc s, .int .i64 z] w fun e w' => e = .returned (.int .i64 (ofS s z s.L.length)) ∧ Below w.heap.size w w' := by
  have HC := Lib.hid hC
  have HL := Lib.hid hL
  have HOK := Lib.hid h
  have hul : s.L.length ≤ 64 := by have := h.l64; have := h.len; omega
  unfold sumV
  clear hC hL h
  go_enter Tryd.func25, Tryd.ntmps25
  go_wp2_with fail
  refine wp_gen ?_
  intro w1 hw1
  have HB1 := Lib.hid (show Below w.heap.size w w1 by rw [hw1]; exact below_one _ _)
  have M1 := Lib.hid (show w1.heap[w.heap.size]? = some (.cells #[.slice ca s.C.length cc, .slice la s.L.length lc, .int .i64 s.m] 24 (0, 0)) by rw [hw1]; exact new_one _ _)
  have hm1 := lt_of_heap M1.out
  clear hw1
  go_loopw [6, 5] (fun t6 t5 wr => ∃ (j : Nat), j ≤ s.L.length ∧ t6 = .int .i64 j ∧ t5 = .int .i64 (ofS s z j) ∧ Hid (Below w1.heap.size w1 wr)) (fun t6 _ _ => s.L.length - (intOf t6).toNat)
  case atStart => exact ⟨0, Nat.zero_le _, rfl, rfl, Below.refl _ _⟩
  case round =>
    obtain ⟨j, hj, rfl, rfl, HB⟩ := hrel
    have hsr := HB.out.size
    have MR := (behind_of_below HB.out).keep M1.out (by simp)
    have c0 := blk_cell MR 0 rfl
    have c1 := blk_cell MR 1 rfl
    clear MR
    by_cases hlt : j < s.L.length
    · have hdd : decide (j < s.L.length) = true := by simpa using hlt
      have hlC : j < s.C.length := by have := HOK.out.len; omega
      have hyy : s.L[j]? = some (s.L.getD j 0) := by simp [List.getD, hlt]
      have hcc : s.C[j]? = some (s.C.getD j 0) := by simp [List.getD, hlC]
      obtain ⟨b1, o1, hb1, e1, k1⟩ := HL.out _ _ (ints_get _ _ _ hyy)
      obtain ⟨b2, o2, hb2, e2, k2⟩ := HC.out _ _ (ints_get _ _ _ hcc)
      subst e1 e2
      have hbr := HB1.out.trans (HB.out.mono HB1.out.size)
      have d1 := below_cell hbr (show b1 < w.heap.size by omega) k1
      have d2 := below_cell hbr (show b2 < w.heap.size by omega) k2
      have HS := Lib.hid (ofS_succ s z j)
      have HI := Lib.hid (ofS_in HOK.out z (j := j) (by omega))
      have HJ := Lib.hid (ofS_in HOK.out z (j := j + 1) (by omega))
      generalize hP : ofS s z (j + 1) = p' at *
      have HP := Lib.hid hP
      clear hP
      generalize ofS s z j = p at *
      generalize s.L.getD j 0 = y at *
      generalize s.C.getD j 0 = c at *
      clear k1 k2 hyy hcc hbr
      by_cases hyz : y = z
      · subst hyz
        have hbe : (y == y) = true := by simp
        have hp1 := HI.out
        have hp2 := HJ.out
        have hp3 : p' = p + c := by rw [HS.out, if_pos rfl]
        subst hp3
        go_wp2_with fail
        go_roundw
        case rel => exact ⟨j + 1, by omega, by go_num, by rw [HP.out], HB.out⟩
        case measure => simp [intOf]; omega
      · have hbe : (y == z) = false := beq_no hyz
        have hp3 : p' = p := by rw [HS.out, if_neg hyz]
        subst hp3
        go_wp2_with fail
        go_roundw
        case rel => exact ⟨j + 1, by omega, by go_num, by rw [HP.out], HB.out⟩
        case measure => simp [intOf]; omega
    · obtain rfl : j = s.L.length := by omega
      have hdd : decide (s.L.length < s.L.length) = false := by simp
      go_wp2_with fail
      go_ret
      exact ⟨rfl, HB1.out.trans (HB.out.mono HB1.out.size)⟩
end Go.Proofs.YtchamkbnapjidaaDoor
