/- Eval: in which sets a sum is true. -/
import Derived.Test.YtchamkbnapjidaaDoorKC
namespace Go.Proofs.YtchamkbnapjidaaDoor
open Go.RowKit

theorem val_in {s : PS} {n : Int} (h : s.Ok n) (hold : Int → Bool) {j : Nat} (hj : j ≤ s.L.length) : -1000000000 ≤ valS s hold j ∧ valS s hold j ≤ 1000000000 := by
  have h1 := val_le s hold j (by have := h.len; omega)
  have h2 := sumAbs_take s.C j
  have h3 := h.sum
  omega
theorem coef_in {s : PS} {n : Int} (h : s.Ok n) {j : Nat} (hj : j < s.L.length) : -1000000000 ≤ s.C.getD j 0 ∧ s.C.getD j 0 ≤ 1000000000 := h.co _ (getD_mem (by have := h.len; omega))
theorem lit_in {s : PS} {n : Int} (h : s.Ok n) {j : Nat} (hj : j < s.L.length) : s.L.getD j 0 ≠ 0 ∧ -128 ≤ s.L.getD j 0 ∧ s.L.getD j 0 ≤ 128 := by
  have h1 := h.lit _ (getD_mem hj)
  have h2 := h.n1
  omega
theorem valS_yes {s : PS} {hold : Int → Bool} {j : Nat} (h : hold (s.L.getD j 0) = true) : valS s hold (j + 1) = valS s hold j + s.C.getD j 0 := by rw [valS_succ, if_pos h]
theorem valS_no {s : PS} {hold : Int → Bool} {j : Nat} (h : hold (s.L.getD j 0) = false) : valS s hold (j + 1) = valS s hold j := by rw [valS_succ, h]; rfl

section
variable (a0 a1 : Nat) (ha0 : a0 < 18446744073709551616) (ha1 : a1 < 18446744073709551616)
include ha0 ha1
set_option maxHeartbeats 1600000 in
set_option maxRecDepth 100000 in
theorem gEval (N : Nat) (s : PS) (ca la : Option Addr) (cc lc : Nat) (hcl : s.C.length ≤ 100000000000000) (hll : s.L.length ≤ 100000000000000) (w : World) (hC : AtN N w ca (ints s.C)) (hL : AtN N w la (ints s.L)) (hw : N ≤ w.heap.size) :
    Calls Tryd.prog 21 #[sumV ca cc la lc s, setV a0 a1] w fun e w' => e = .returned (.bool (evalS s (litB (bitS a0 a1)))) ∧ Below w.heap.size w w' := by
  have HH : ∀ y : Int, y ≠ 0 → -128 ≤ y → y ≤ 128 → Gives 42 #[setV a0 a1, .int .i64 y] (.bool (litB (bitS a0 a1) y)) := fun y h0 h1 h2 => gHolds a0 a1 ha0 ha1 y h0 h1 h2
  generalize litB (bitS a0 a1) = hold at *
  unfold sumV setV
  by_cases hc : checkS s 128 = 0
  case neg =>
    have HQ := Lib.hid (show evalS s hold = false by unfold evalS; rw [decide_eq_false hc]; rfl)
    have HC := Lib.hid (hC)
    have HL := Lib.hid (hL)
    have KC := Lib.hid (fun (w1 : World) (hb : Below w.heap.size w w1) => gCheck N s 128 ca la cc lc hcl hll w1 (hC.below hb hw) (hL.below hb hw) (Nat.le_trans hw hb.size))
    unfold sumV at KC
    generalize checkS s 128 = r at *
    have hr : (r != 0) = true := by simp [bne, beq_no hc]
    clear hC hL hc HH
    go_enter Tryd.func21, Tryd.ntmps21
    go_wp2_with fail
    refine calls_gen fun w1 hw1 => ?_
    have HB1 := Lib.hid (show Below w.heap.size w w1 by rw [hw1]; exact below_two _ _ _)
    clear hw1
    refine (KC.out w1 HB1.out).mono ?_
    rintro e w2 ⟨rfl, hB2⟩
    have HB2 := Lib.hid (HB1.out.trans (hB2.mono HB1.out.size))
    clear hB2 HB1
    go_wp2_with fail
    go_ret
    exact ⟨by rw [HQ.out]; rfl, HB2.out⟩
  have hOk := check_ok.1 hc
  have HQ := Lib.hid (show evalS s hold = decide (s.m ≤ valS s hold s.L.length) by unfold evalS; rw [decide_eq_true hc]; rfl)
  have HC := Lib.hid (hC)
  have HL := Lib.hid (hL)
  have KC := Lib.hid (fun (w1 : World) (hb : Below w.heap.size w w1) => gCheck N s 128 ca la cc lc hcl hll w1 (hC.below hb hw) (hL.below hb hw) (Nat.le_trans hw hb.size))
  unfold sumV at KC
  rw [hc] at KC
  have HOK := Lib.hid hOk
  have hl64 : s.L.length ≤ 64 := by have := hOk.len; have := hOk.l64; omega
  have HLen := Lib.hid hOk.len
  have HHH := Lib.hid HH
  clear hC hL hc HH hOk hcl hll
  obtain ⟨C, L, m⟩ := s
  simp only at hl64 HQ HC HL KC HLen
  go_enter Tryd.func21, Tryd.ntmps21
  go_wp2_with fail
  refine calls_gen fun w1 hw1 => ?_
  have HB1 := Lib.hid (show Below w.heap.size w w1 by rw [hw1]; exact below_two _ _ _)
  have M1 := (show w1.heap[w.heap.size]? = some (.cells #[.slice ca C.length cc, .slice la L.length lc, .int .i64 m] 24 (0, 0)) by rw [hw1]; exact new_two1 _ _ _)
  have M2 := (show w1.heap[w.heap.size + 1]? = some (.cells #[.int .u64 (a0 : Nat), .int .u64 (a1 : Nat)] 44 (0, 0)) by rw [hw1]; exact new_two2 _ _ _)
  clear hw1
  refine (KC.out w1 HB1.out).mono ?_
  rintro e w2 ⟨rfl, hB2⟩
  have HB2 := Lib.hid (HB1.out.trans (hB2.mono HB1.out.size))
  have P1 := Lib.hid ((behind_of_below hB2).keep M1 (by simp))
  have P2 := Lib.hid ((behind_of_below hB2).keep M2 (by simp))
  clear hB2 HB1 M1 M2 KC
  have c1 := blk_cell P1.out 1 rfl
  go_wp2_with fail
  refine wp_gen ?_
  intro w3 hw3
  have HB3 := Lib.hid (show Below w2.heap.size w2 w3 by rw [hw3]; exact Below.refl _ _)
  clear hw3 c1
  go_loopw [14, 5] (fun t14 t5 wr => ∃ (j : Nat) (S : Int), j ≤ L.length ∧ t14 = .int .i64 j ∧ t5 = .int .i64 S ∧ -1000000000 ≤ S ∧ S ≤ 1000000000 ∧ Hid (S = valS ⟨C, L, m⟩ hold j) ∧ Hid (Below w2.heap.size w2 wr)) (fun t14 _ _ => L.length - (intOf t14).toNat)
  case atStart => exact ⟨0, 0, Nat.zero_le _, rfl, rfl, by omega, by omega, rfl, HB3.out⟩
  case round =>
    obtain ⟨j, S, hj, rfl, rfl, hS0, hS1, HS, HB⟩ := hrel
    by_cases hlt : j < L.length
    · have hdd : decide (j < L.length) = true := by simpa using hlt
      have hyy : L[j]? = some (L.getD j 0) := by simp [List.getD, hlt]
      have hlC : j < C.length := by have := HLen.out; omega
      have hcc : C[j]? = some (C.getD j 0) := by simp [List.getD, hlC]
      have hly := lit_in HOK.out hlt
      have hcy := coef_in HOK.out hlt
      have hnx := val_in HOK.out hold (show j + 1 ≤ L.length by omega)
      have HY := Lib.hid (show hold (L.getD j 0) = true → S + C.getD j 0 = valS ⟨C, L, m⟩ hold (j + 1) from fun h => by rw [valS_yes h, HS.out])
      have HN := Lib.hid (show hold (L.getD j 0) = false → S = valS ⟨C, L, m⟩ hold (j + 1) from fun h => by rw [valS_no h, HS.out])
      have KH := HHH.out (L.getD j 0) hly.1 hly.2.1 hly.2.2
      obtain ⟨b, o, hb, rfl, k0⟩ := HL.out _ _ (ints_get _ _ _ hyy)
      obtain ⟨b2, o2, hb2, rfl, k2⟩ := HC.out _ _ (ints_get _ _ _ hcc)
      have c0 := below_cell (HB2.out.trans (HB.out.mono HB2.out.size)) (show b < w.heap.size by omega) k0
      have Q2 := (behind_of_below HB.out).keep P2.out (by simp)
      have d0 := blk_cell Q2 0 rfl
      have d1 := blk_cell Q2 1 rfl
      simp only at hly hcy
      generalize L.getD j 0 = y at *
      generalize C.getD j 0 = c at *
      unfold setV at KH
      clear hyy k0 Q2 hcc HS hly
      go_wp2_with fail
      refine (KH _).mono ?_
      rintro r4 w4 ⟨rfl, hB4⟩
      have HB4 := Lib.hid (HB.out.trans (hB4.mono HB.out.size))
      clear hB4 c0 d0 d1 HB KH
      cases hq : hold y with
      | true =>
        have HS2 := Lib.hid (HY.out hq)
        have Q1 := (behind_of_below HB4.out).keep P1.out (by simp)
        have e0 := blk_cell Q1 0 rfl
        have e1 := below_cell (HB2.out.trans (HB4.out.mono HB2.out.size)) (show b2 < w.heap.size by omega) k2
        have hb0 : -1000000000 ≤ S + c := by rw [HS2.out]; exact hnx.1
        have hb1 : S + c ≤ 1000000000 := by rw [HS2.out]; exact hnx.2
        clear hq HY HN Q1 k2 hnx
        go_wp2_with fail
        go_roundw
        case rel => exact ⟨j + 1, S + c, by omega, by go_num, by go_num, hb0, hb1, HS2, HB4⟩
        case measure => simp [intOf]; omega
      | false =>
        have HS2 := Lib.hid (HN.out hq)
        clear hq HY HN k2 hnx
        go_wp2_with fail
        go_roundw
        case rel => exact ⟨j + 1, S, by omega, by go_num, rfl, hS0, hS1, HS2, HB4⟩
        case measure => simp [intOf]; omega
    · obtain rfl : j = L.length := by omega
      have hdd : decide (L.length < L.length) = false := by simp
      have Q1 := (behind_of_below HB.out).keep P1.out (by simp)
      have e0 := blk_cell Q1 2 rfl
      clear Q1
      go_wp2_with fail
      go_ret
      exact ⟨by rw [HQ.out]; show _ = Ending.returned (.bool (decide (m ≤ valS ⟨C, L, m⟩ hold L.length))); rw [← HS.out]; rfl, HB2.out.trans (HB.out.mono HB2.out.size)⟩
end
end Go.Proofs.YtchamkbnapjidaaDoor
