/- Print: the text of a sum. -/
import Derived.Test.YtchamkbnapjidaaDoorKS
import Derived.Test.YtchamkbnapjidaaDoorKE
import Derived.Test.YtchamkbnapjidaaDoorSR
namespace Go.Proofs.YtchamkbnapjidaaDoor
open Go.RowKit

theorem tTerms_succ (s : PS) (j : Nat) : tTerms s (j + 1) = tTerms s j ++ tTerm j (s.C.getD j 0) (s.L.getD j 0) := by
  unfold tTerms; rw [List.range_succ, List.flatMap_append]; simp
theorem tTerm_len {i : Nat} {c l : Int} (hc : inTen c) (hl : inTen l) : (tTerm i c l).length ≤ 28 := by
  have h1 := itoa_len hc
  have h2 := itoa_len (n := -c) (by unfold inTen at *; omega)
  have h3 := tLit_len hl
  unfold tTerm
  rw [List.length_append]
  split
  · omega
  · split <;> (simp only [List.length_append, List.length_cons, List.length_nil]; omega)
theorem tTerms_len {s : PS} {n : Int} (h : s.Ok n) : ∀ j, j ≤ s.L.length → (tTerms s j).length ≤ 28 * j
  | 0, _ => Nat.le_refl _
  | j + 1, hj => by
    have ih := tTerms_len h j (by omega)
    have h1 := coef_in h (show j < s.L.length by omega)
    have h2 := lit_in h (show j < s.L.length by omega)
    have h3 := tTerm_len (i := j) (c := s.C.getD j 0) (l := s.L.getD j 0) (by unfold inTen; omega) (by unfold inTen; omega)
    rw [tTerms_succ, List.length_append]
    omega
theorem itoa_l (n : Int) (h : inTen n) : (Lib.itoa n).length ≤ 5000 := by have := itoa_len h; omega

set_option maxHeartbeats 4000000 in
set_option maxRecDepth 100000 in
theorem gPrint (N : Nat) (s : PS) (ca la : Option Addr) (cc lc : Nat) (hcl : s.C.length ≤ 100000000000000) (hll : s.L.length ≤ 100000000000000) (w : World) (hT : Tab w) (hC : AtN N w ca (ints s.C)) (hL : AtN N w la (ints s.L)) (hw : N ≤ w.heap.size) :
    Calls Tryd.prog 16 #[sumV ca cc la lc s] w fun e w' => e = .returned (.tuple #[.string ⟨(printS s).1.toArray⟩, .int .i64 (printS s).2]) ∧ Below w.heap.size w w' := by
  have HTB := Lib.hid (fun (w1 : World) (hb : Below w.heap.size w w1) => hT.below hb)
  have HC := Lib.hid hC
  have HL := Lib.hid hL
  have KC := Lib.hid (fun (w1 : World) (hb : Below w.heap.size w w1) => gCheck N s 128 ca la cc lc hcl hll w1 (hC.below hb hw) (hL.below hb hw) (Nat.le_trans hw hb.size))
  unfold sumV at *
  by_cases hc : checkS s 128 = 0
  case neg =>
    have HQ := Lib.hid (show printS s = ([], checkS s 128) by unfold printS; rw [if_pos hc])
    generalize checkS s 128 = r at *
    have hr : (r != 0) = true := by simp [bne, beq_no hc]
    clear hC hL hc hT HTB
    go_enter Tryd.func16, Tryd.ntmps16
    go_wp2_with fail
    refine calls_gen fun w1 hw1 => ?_
    have HB1 := Lib.hid (show Below w.heap.size w w1 by rw [hw1]; exact below_one _ _)
    clear hw1
    refine (KC.out w1 HB1.out).mono ?_
    rintro e w2 ⟨rfl, hB2⟩
    have HB2 := Lib.hid (HB1.out.trans (hB2.mono HB1.out.size))
    clear hB2 HB1
    go_wp2_with fail
    go_ret2
    exact ⟨by rw [HQ.out]; rfl, HB2.out⟩
  have hOk := check_ok.1 hc
  have HQ := Lib.hid (show printS s = (textS s, 0) by unfold printS; rw [if_neg (by simpa using hc)])
  rw [hc] at KC
  have HOK := Lib.hid hOk
  have hl64 : s.L.length ≤ 64 := by have := hOk.len; have := hOk.l64; omega
  have hCL : s.C.length ≤ s.L.length := by have := hOk.len; omega
  have HLn := Lib.hid (fun j hj => tTerms_len hOk j hj)
  have hm0 := hOk.m0
  have hm1 := hOk.m1
  clear hC hL hc hT hOk hcl hll
  obtain ⟨C, L, m⟩ := s
  simp only at hl64 HQ HC HL KC hCL hm0 hm1
  go_enter Tryd.func16, Tryd.ntmps16
  go_wp2_with fail
  refine calls_gen fun w1 hw1 => ?_
  have HB1 := Lib.hid (show Below w.heap.size w w1 by rw [hw1]; exact below_one _ _)
  have M1 := (show w1.heap[w.heap.size]? = some (.cells #[.slice ca C.length cc, .slice la L.length lc, .int .i64 m] 24 (0, 0)) by rw [hw1]; exact new_one _ _)
  clear hw1
  refine (KC.out w1 HB1.out).mono ?_
  rintro e w2 ⟨rfl, hB2⟩
  have HB2 := Lib.hid (HB1.out.trans (hB2.mono HB1.out.size))
  have P1 := Lib.hid ((behind_of_below hB2).keep M1 (by simp))
  clear hB2 HB1 M1 KC
  have hbw : w.heap.size < w2.heap.size := lt_of_heap P1.out
  have p3 := (behind_of_below (below_one w2 (.cells #[.pointer none, .slice none 0 0] 59 (0, 0)))).keep P1.out (by simp)
  have c0 := blk_cell p3 0 rfl
  clear p3
  go_wp2_with fail
  refine wp_gen ?_
  intro w3 hw3
  have HB3 := Lib.hid (show Below w2.heap.size w2 w3 by rw [hw3]; exact below_one _ _)
  have BU3 := Lib.hid (show Lib.IsBuilder 59 5 w2.heap.size w2.heap.size (Lib.byteCells []) w3 by rw [hw3]; exact Lib.fresh_isBuilder _ _ _)
  have hs3 : w2.heap.size ≤ w3.heap.size := HB3.out.size
  clear hw3 c0
  have HWE := Lib.hid (fun (z : World) (hz : Below w2.heap.size w2 z) => HB2.out.trans (hz.mono HB2.out.size))
  go_loopw [17] (fun t17 wr => ∃ j : Nat, j ≤ C.length ∧ t17 = .int .i64 j ∧ Hid (Lib.IsBuilder 59 5 w2.heap.size w2.heap.size (Lib.byteCells (tTerms ⟨C, L, m⟩ j)) wr) ∧ Hid (Below w2.heap.size w2 wr)) (fun t17 _ => C.length - (intOf t17).toNat)
  case atStart => exact ⟨0, Nat.zero_le _, rfl, BU3, HB3⟩
  case round =>
    obtain ⟨j, hj, rfl, BU, HB⟩ := hrel
    by_cases hlt : j < C.length
    · have hdd : decide (j < C.length) = true := by simpa using hlt
      have hltL : j < L.length := by omega
      have hyy : L[j]? = some (L.getD j 0) := by simp [List.getD, hltL]
      have hcc : C[j]? = some (C.getD j 0) := by simp [List.getD, hlt]
      have hly := lit_in HOK.out hltL
      have hcy := coef_in HOK.out hltL
      have hln := HLn.out j (show j ≤ L.length by omega)
      have HX := Lib.hid (tTerms_succ ⟨C, L, m⟩ j)
      obtain ⟨b, o, hb, rfl, k0⟩ := HL.out _ _ (ints_get _ _ _ hyy)
      obtain ⟨b2, o2, hb2, rfl, k2⟩ := HC.out _ _ (ints_get _ _ _ hcc)
      have K0 := Lib.hid k0
      simp only at hly hcy HX
      generalize L.getD j 0 = y at *
      generalize C.getD j 0 = c at *
      have c2 := below_cell (HWE.out _ HB.out) (show b2 < w.heap.size by omega) k2
      clear hyy k0 hcc k2
      generalize tTerms ⟨C, L, m⟩ j = X at *
      have hXl : X.length ≤ 2000 := by omega
      have hit : inTen c := by unfold inTen; omega
      have hitn : inTen (-c) := by unfold inTen; omega
      have hiy : inTen y := by unfold inTen; omega
      have hiyn : inTen (-y) := by unfold inTen; omega
      have e1 := itoa_len hit
      have e2 := itoa_len hitn
      have e3 := itoa_len hiy
      have e4 := itoa_len hiyn
      clear hit hitn hiy hiyn hln
      by_cases hj0 : j = 0
      · have hj1 : decide (0 < j) = false := by simp; omega
        have HJ0 := Lib.hid hj0
        clear hj0
        by_cases hyn : y < 0
        · have hyd : decide (y < 0) = true := by simpa using hyn
          go_wp2_with fail
          refine (gItoa (c) (by omega) (by omega) wr (HTB.out _ (HWE.out _ HB.out))).mono ?_
          rintro r1 x1 ⟨rfl, hb1⟩
          have U1 := Lib.hid (isB_below BU.out hb1)
          have V1 := Lib.hid (HB.out.trans (hb1.mono HB.out.size))
          clear hb1 BU HB
          go_wp2_with fail
          refine (gWrite w2.heap.size w2.heap.size (X) (Lib.itoa (c)) x1 U1.out (by first | omega | (simp only [List.length_append, List.length_cons, List.length_nil]; omega)) (by first | omega | (simp only [List.length_append, List.length_cons, List.length_nil]; omega)) V1.out.size).mono ?_
          rintro r2 x2 ⟨rfl, hu2, hb2⟩
          have U2 := Lib.hid hu2
          have V2 := Lib.hid (V1.out.trans hb2)
          clear hu2 hb2 U1 V1
          have q2 := (behind_of_below V2.out).keep P1.out (by simp)
          have d2 := blk_cell q2 1 rfl
          have f2 := below_cell (HWE.out _ V2.out) (show b < w.heap.size by omega) K0.out
          clear q2
          go_wp2_with fail
          clear d2 f2
          refine (gItoa (-y) (by omega) (by omega) x2 (HTB.out _ (HWE.out _ V2.out))).mono ?_
          rintro r3 x3 ⟨rfl, hb3⟩
          have U3 := Lib.hid (isB_below U2.out hb3)
          have V3 := Lib.hid (V2.out.trans (hb3.mono V2.out.size))
          clear hb3 U2 V2
          go_wp2_with fail
          rw [show ({ data := #[32, 126, 120] } : ByteArray) ++ ⟨(Lib.itoa (-y)).toArray⟩ = ⟨([32, 126, 120] ++ Lib.itoa (-y)).toArray⟩ from ba_app [32, 126, 120] _]
          refine (gWrite w2.heap.size w2.heap.size (X ++ Lib.itoa (c)) ([32, 126, 120] ++ Lib.itoa (-y)) x3 U3.out (by first | omega | (simp only [List.length_append, List.length_cons, List.length_nil]; omega)) (by first | omega | (simp only [List.length_append, List.length_cons, List.length_nil]; omega)) V3.out.size).mono ?_
          rintro r4 x4 ⟨rfl, hu4, hb4⟩
          have U4 := Lib.hid hu4
          have V4 := Lib.hid (V3.out.trans hb4)
          clear hu4 hb4 U3 V3
          go_wp2_with fail
          go_roundw
          case rel =>
            refine ⟨j + 1, by omega, by go_num, ?_, V4⟩
            have e9 : X ++ Lib.itoa (c) ++ ([32, 126, 120] ++ Lib.itoa (-y)) = tTerms ⟨C, L, m⟩ (j + 1) := by rw [HX.out]; unfold tTerm tLit; rw [if_pos HJ0.out]; rw [if_pos (show y < 0 by omega)]; simp only [List.append_assoc]
            rw [← e9]; exact U4
          case measure => simp [intOf]; omega
        · have hyd : decide (y < 0) = false := by simpa using hyn
          go_wp2_with fail
          refine (gItoa (c) (by omega) (by omega) wr (HTB.out _ (HWE.out _ HB.out))).mono ?_
          rintro r1 x1 ⟨rfl, hb1⟩
          have U1 := Lib.hid (isB_below BU.out hb1)
          have V1 := Lib.hid (HB.out.trans (hb1.mono HB.out.size))
          clear hb1 BU HB
          go_wp2_with fail
          refine (gWrite w2.heap.size w2.heap.size (X) (Lib.itoa (c)) x1 U1.out (by first | omega | (simp only [List.length_append, List.length_cons, List.length_nil]; omega)) (by first | omega | (simp only [List.length_append, List.length_cons, List.length_nil]; omega)) V1.out.size).mono ?_
          rintro r2 x2 ⟨rfl, hu2, hb2⟩
          have U2 := Lib.hid hu2
          have V2 := Lib.hid (V1.out.trans hb2)
          clear hu2 hb2 U1 V1
          have q2 := (behind_of_below V2.out).keep P1.out (by simp)
          have d2 := blk_cell q2 1 rfl
          have f2 := below_cell (HWE.out _ V2.out) (show b < w.heap.size by omega) K0.out
          clear q2
          go_wp2_with fail
          clear d2 f2
          refine (gItoa (y) (by omega) (by omega) x2 (HTB.out _ (HWE.out _ V2.out))).mono ?_
          rintro r3 x3 ⟨rfl, hb3⟩
          have U3 := Lib.hid (isB_below U2.out hb3)
          have V3 := Lib.hid (V2.out.trans (hb3.mono V2.out.size))
          clear hb3 U2 V2
          go_wp2_with fail
          rw [show ({ data := #[32, 120] } : ByteArray) ++ ⟨(Lib.itoa (y)).toArray⟩ = ⟨([32, 120] ++ Lib.itoa (y)).toArray⟩ from ba_app [32, 120] _]
          refine (gWrite w2.heap.size w2.heap.size (X ++ Lib.itoa (c)) ([32, 120] ++ Lib.itoa (y)) x3 U3.out (by first | omega | (simp only [List.length_append, List.length_cons, List.length_nil]; omega)) (by first | omega | (simp only [List.length_append, List.length_cons, List.length_nil]; omega)) V3.out.size).mono ?_
          rintro r4 x4 ⟨rfl, hu4, hb4⟩
          have U4 := Lib.hid hu4
          have V4 := Lib.hid (V3.out.trans hb4)
          clear hu4 hb4 U3 V3
          go_wp2_with fail
          go_roundw
          case rel =>
            refine ⟨j + 1, by omega, by go_num, ?_, V4⟩
            have e9 : X ++ Lib.itoa (c) ++ ([32, 120] ++ Lib.itoa (y)) = tTerms ⟨C, L, m⟩ (j + 1) := by rw [HX.out]; unfold tTerm tLit; rw [if_pos HJ0.out]; rw [if_neg (show ¬ y < 0 by omega)]; simp only [List.append_assoc]
            rw [← e9]; exact U4
          case measure => simp [intOf]; omega
      · have hj1 : decide (0 < j) = true := by simp; omega
        have HJ0 := Lib.hid hj0
        clear hj0
        by_cases hcn : c < 0
        · have hcd : decide (c < 0) = true := by simpa using hcn
          by_cases hyn : y < 0
          · have hyd : decide (y < 0) = true := by simpa using hyn
            go_wp2_with fail
            refine (gWrite w2.heap.size w2.heap.size (X) [32, 45, 32] wr BU.out (by first | omega | (simp only [List.length_append, List.length_cons, List.length_nil]; omega)) (by first | omega | (simp only [List.length_append, List.length_cons, List.length_nil]; omega)) HB.out.size).mono ?_
            rintro r1 x1 ⟨rfl, hu1, hb1⟩
            have U1 := Lib.hid hu1
            have V1 := Lib.hid (HB.out.trans hb1)
            clear hu1 hb1 BU HB
            go_wp2_with fail
            refine (gItoa (-c) (by omega) (by omega) x1 (HTB.out _ (HWE.out _ V1.out))).mono ?_
            rintro r2 x2 ⟨rfl, hb2⟩
            have U2 := Lib.hid (isB_below U1.out hb2)
            have V2 := Lib.hid (V1.out.trans (hb2.mono V1.out.size))
            clear hb2 U1 V1
            go_wp2_with fail
            refine (gWrite w2.heap.size w2.heap.size (X ++ [32, 45, 32]) (Lib.itoa (-c)) x2 U2.out (by first | omega | (simp only [List.length_append, List.length_cons, List.length_nil]; omega)) (by first | omega | (simp only [List.length_append, List.length_cons, List.length_nil]; omega)) V2.out.size).mono ?_
            rintro r3 x3 ⟨rfl, hu3, hb3⟩
            have U3 := Lib.hid hu3
            have V3 := Lib.hid (V2.out.trans hb3)
            clear hu3 hb3 U2 V2
            have q3 := (behind_of_below V3.out).keep P1.out (by simp)
            have d3 := blk_cell q3 1 rfl
            have f3 := below_cell (HWE.out _ V3.out) (show b < w.heap.size by omega) K0.out
            clear q3
            go_wp2_with fail
            clear d3 f3
            refine (gItoa (-y) (by omega) (by omega) x3 (HTB.out _ (HWE.out _ V3.out))).mono ?_
            rintro r4 x4 ⟨rfl, hb4⟩
            have U4 := Lib.hid (isB_below U3.out hb4)
            have V4 := Lib.hid (V3.out.trans (hb4.mono V3.out.size))
            clear hb4 U3 V3
            go_wp2_with fail
            rw [show ({ data := #[32, 126, 120] } : ByteArray) ++ ⟨(Lib.itoa (-y)).toArray⟩ = ⟨([32, 126, 120] ++ Lib.itoa (-y)).toArray⟩ from ba_app [32, 126, 120] _]
            refine (gWrite w2.heap.size w2.heap.size (X ++ [32, 45, 32] ++ Lib.itoa (-c)) ([32, 126, 120] ++ Lib.itoa (-y)) x4 U4.out (by first | omega | (simp only [List.length_append, List.length_cons, List.length_nil]; omega)) (by first | omega | (simp only [List.length_append, List.length_cons, List.length_nil]; omega)) V4.out.size).mono ?_
            rintro r5 x5 ⟨rfl, hu5, hb5⟩
            have U5 := Lib.hid hu5
            have V5 := Lib.hid (V4.out.trans hb5)
            clear hu5 hb5 U4 V4
            go_wp2_with fail
            go_roundw
            case rel =>
              refine ⟨j + 1, by omega, by go_num, ?_, V5⟩
              have e9 : X ++ [32, 45, 32] ++ Lib.itoa (-c) ++ ([32, 126, 120] ++ Lib.itoa (-y)) = tTerms ⟨C, L, m⟩ (j + 1) := by rw [HX.out]; unfold tTerm tLit; rw [if_neg HJ0.out, if_pos (show c < 0 by omega)]; rw [if_pos (show y < 0 by omega)]; simp only [List.append_assoc]
              rw [← e9]; exact U5
            case measure => simp [intOf]; omega
          · have hyd : decide (y < 0) = false := by simpa using hyn
            go_wp2_with fail
            refine (gWrite w2.heap.size w2.heap.size (X) [32, 45, 32] wr BU.out (by first | omega | (simp only [List.length_append, List.length_cons, List.length_nil]; omega)) (by first | omega | (simp only [List.length_append, List.length_cons, List.length_nil]; omega)) HB.out.size).mono ?_
            rintro r1 x1 ⟨rfl, hu1, hb1⟩
            have U1 := Lib.hid hu1
            have V1 := Lib.hid (HB.out.trans hb1)
            clear hu1 hb1 BU HB
            go_wp2_with fail
            refine (gItoa (-c) (by omega) (by omega) x1 (HTB.out _ (HWE.out _ V1.out))).mono ?_
            rintro r2 x2 ⟨rfl, hb2⟩
            have U2 := Lib.hid (isB_below U1.out hb2)
            have V2 := Lib.hid (V1.out.trans (hb2.mono V1.out.size))
            clear hb2 U1 V1
            go_wp2_with fail
            refine (gWrite w2.heap.size w2.heap.size (X ++ [32, 45, 32]) (Lib.itoa (-c)) x2 U2.out (by first | omega | (simp only [List.length_append, List.length_cons, List.length_nil]; omega)) (by first | omega | (simp only [List.length_append, List.length_cons, List.length_nil]; omega)) V2.out.size).mono ?_
            rintro r3 x3 ⟨rfl, hu3, hb3⟩
            have U3 := Lib.hid hu3
            have V3 := Lib.hid (V2.out.trans hb3)
            clear hu3 hb3 U2 V2
            have q3 := (behind_of_below V3.out).keep P1.out (by simp)
            have d3 := blk_cell q3 1 rfl
            have f3 := below_cell (HWE.out _ V3.out) (show b < w.heap.size by omega) K0.out
            clear q3
            go_wp2_with fail
            clear d3 f3
            refine (gItoa (y) (by omega) (by omega) x3 (HTB.out _ (HWE.out _ V3.out))).mono ?_
            rintro r4 x4 ⟨rfl, hb4⟩
            have U4 := Lib.hid (isB_below U3.out hb4)
            have V4 := Lib.hid (V3.out.trans (hb4.mono V3.out.size))
            clear hb4 U3 V3
            go_wp2_with fail
            rw [show ({ data := #[32, 120] } : ByteArray) ++ ⟨(Lib.itoa (y)).toArray⟩ = ⟨([32, 120] ++ Lib.itoa (y)).toArray⟩ from ba_app [32, 120] _]
            refine (gWrite w2.heap.size w2.heap.size (X ++ [32, 45, 32] ++ Lib.itoa (-c)) ([32, 120] ++ Lib.itoa (y)) x4 U4.out (by first | omega | (simp only [List.length_append, List.length_cons, List.length_nil]; omega)) (by first | omega | (simp only [List.length_append, List.length_cons, List.length_nil]; omega)) V4.out.size).mono ?_
            rintro r5 x5 ⟨rfl, hu5, hb5⟩
            have U5 := Lib.hid hu5
            have V5 := Lib.hid (V4.out.trans hb5)
            clear hu5 hb5 U4 V4
            go_wp2_with fail
            go_roundw
            case rel =>
              refine ⟨j + 1, by omega, by go_num, ?_, V5⟩
              have e9 : X ++ [32, 45, 32] ++ Lib.itoa (-c) ++ ([32, 120] ++ Lib.itoa (y)) = tTerms ⟨C, L, m⟩ (j + 1) := by rw [HX.out]; unfold tTerm tLit; rw [if_neg HJ0.out, if_pos (show c < 0 by omega)]; rw [if_neg (show ¬ y < 0 by omega)]; simp only [List.append_assoc]
              rw [← e9]; exact U5
            case measure => simp [intOf]; omega
        · have hcd : decide (c < 0) = false := by simpa using hcn
          by_cases hyn : y < 0
          · have hyd : decide (y < 0) = true := by simpa using hyn
            go_wp2_with fail
            refine (gWrite w2.heap.size w2.heap.size (X) [32, 43, 32] wr BU.out (by first | omega | (simp only [List.length_append, List.length_cons, List.length_nil]; omega)) (by first | omega | (simp only [List.length_append, List.length_cons, List.length_nil]; omega)) HB.out.size).mono ?_
            rintro r1 x1 ⟨rfl, hu1, hb1⟩
            have U1 := Lib.hid hu1
            have V1 := Lib.hid (HB.out.trans hb1)
            clear hu1 hb1 BU HB
            go_wp2_with fail
            refine (gItoa (c) (by omega) (by omega) x1 (HTB.out _ (HWE.out _ V1.out))).mono ?_
            rintro r2 x2 ⟨rfl, hb2⟩
            have U2 := Lib.hid (isB_below U1.out hb2)
            have V2 := Lib.hid (V1.out.trans (hb2.mono V1.out.size))
            clear hb2 U1 V1
            go_wp2_with fail
            refine (gWrite w2.heap.size w2.heap.size (X ++ [32, 43, 32]) (Lib.itoa (c)) x2 U2.out (by first | omega | (simp only [List.length_append, List.length_cons, List.length_nil]; omega)) (by first | omega | (simp only [List.length_append, List.length_cons, List.length_nil]; omega)) V2.out.size).mono ?_
            rintro r3 x3 ⟨rfl, hu3, hb3⟩
            have U3 := Lib.hid hu3
            have V3 := Lib.hid (V2.out.trans hb3)
            clear hu3 hb3 U2 V2
            have q3 := (behind_of_below V3.out).keep P1.out (by simp)
            have d3 := blk_cell q3 1 rfl
            have f3 := below_cell (HWE.out _ V3.out) (show b < w.heap.size by omega) K0.out
            clear q3
            go_wp2_with fail
            clear d3 f3
            refine (gItoa (-y) (by omega) (by omega) x3 (HTB.out _ (HWE.out _ V3.out))).mono ?_
            rintro r4 x4 ⟨rfl, hb4⟩
            have U4 := Lib.hid (isB_below U3.out hb4)
            have V4 := Lib.hid (V3.out.trans (hb4.mono V3.out.size))
            clear hb4 U3 V3
            go_wp2_with fail
            rw [show ({ data := #[32, 126, 120] } : ByteArray) ++ ⟨(Lib.itoa (-y)).toArray⟩ = ⟨([32, 126, 120] ++ Lib.itoa (-y)).toArray⟩ from ba_app [32, 126, 120] _]
            refine (gWrite w2.heap.size w2.heap.size (X ++ [32, 43, 32] ++ Lib.itoa (c)) ([32, 126, 120] ++ Lib.itoa (-y)) x4 U4.out (by first | omega | (simp only [List.length_append, List.length_cons, List.length_nil]; omega)) (by first | omega | (simp only [List.length_append, List.length_cons, List.length_nil]; omega)) V4.out.size).mono ?_
            rintro r5 x5 ⟨rfl, hu5, hb5⟩
            have U5 := Lib.hid hu5
            have V5 := Lib.hid (V4.out.trans hb5)
            clear hu5 hb5 U4 V4
            go_wp2_with fail
            go_roundw
            case rel =>
              refine ⟨j + 1, by omega, by go_num, ?_, V5⟩
              have e9 : X ++ [32, 43, 32] ++ Lib.itoa (c) ++ ([32, 126, 120] ++ Lib.itoa (-y)) = tTerms ⟨C, L, m⟩ (j + 1) := by rw [HX.out]; unfold tTerm tLit; rw [if_neg HJ0.out, if_neg (show ¬ c < 0 by omega)]; rw [if_pos (show y < 0 by omega)]; simp only [List.append_assoc]
              rw [← e9]; exact U5
            case measure => simp [intOf]; omega
          · have hyd : decide (y < 0) = false := by simpa using hyn
            go_wp2_with fail
            refine (gWrite w2.heap.size w2.heap.size (X) [32, 43, 32] wr BU.out (by first | omega | (simp only [List.length_append, List.length_cons, List.length_nil]; omega)) (by first | omega | (simp only [List.length_append, List.length_cons, List.length_nil]; omega)) HB.out.size).mono ?_
            rintro r1 x1 ⟨rfl, hu1, hb1⟩
            have U1 := Lib.hid hu1
            have V1 := Lib.hid (HB.out.trans hb1)
            clear hu1 hb1 BU HB
            go_wp2_with fail
            refine (gItoa (c) (by omega) (by omega) x1 (HTB.out _ (HWE.out _ V1.out))).mono ?_
            rintro r2 x2 ⟨rfl, hb2⟩
            have U2 := Lib.hid (isB_below U1.out hb2)
            have V2 := Lib.hid (V1.out.trans (hb2.mono V1.out.size))
            clear hb2 U1 V1
            go_wp2_with fail
            refine (gWrite w2.heap.size w2.heap.size (X ++ [32, 43, 32]) (Lib.itoa (c)) x2 U2.out (by first | omega | (simp only [List.length_append, List.length_cons, List.length_nil]; omega)) (by first | omega | (simp only [List.length_append, List.length_cons, List.length_nil]; omega)) V2.out.size).mono ?_
            rintro r3 x3 ⟨rfl, hu3, hb3⟩
            have U3 := Lib.hid hu3
            have V3 := Lib.hid (V2.out.trans hb3)
            clear hu3 hb3 U2 V2
            have q3 := (behind_of_below V3.out).keep P1.out (by simp)
            have d3 := blk_cell q3 1 rfl
            have f3 := below_cell (HWE.out _ V3.out) (show b < w.heap.size by omega) K0.out
            clear q3
            go_wp2_with fail
            clear d3 f3
            refine (gItoa (y) (by omega) (by omega) x3 (HTB.out _ (HWE.out _ V3.out))).mono ?_
            rintro r4 x4 ⟨rfl, hb4⟩
            have U4 := Lib.hid (isB_below U3.out hb4)
            have V4 := Lib.hid (V3.out.trans (hb4.mono V3.out.size))
            clear hb4 U3 V3
            go_wp2_with fail
            rw [show ({ data := #[32, 120] } : ByteArray) ++ ⟨(Lib.itoa (y)).toArray⟩ = ⟨([32, 120] ++ Lib.itoa (y)).toArray⟩ from ba_app [32, 120] _]
            refine (gWrite w2.heap.size w2.heap.size (X ++ [32, 43, 32] ++ Lib.itoa (c)) ([32, 120] ++ Lib.itoa (y)) x4 U4.out (by first | omega | (simp only [List.length_append, List.length_cons, List.length_nil]; omega)) (by first | omega | (simp only [List.length_append, List.length_cons, List.length_nil]; omega)) V4.out.size).mono ?_
            rintro r5 x5 ⟨rfl, hu5, hb5⟩
            have U5 := Lib.hid hu5
            have V5 := Lib.hid (V4.out.trans hb5)
            clear hu5 hb5 U4 V4
            go_wp2_with fail
            go_roundw
            case rel =>
              refine ⟨j + 1, by omega, by go_num, ?_, V5⟩
              have e9 : X ++ [32, 43, 32] ++ Lib.itoa (c) ++ ([32, 120] ++ Lib.itoa (y)) = tTerms ⟨C, L, m⟩ (j + 1) := by rw [HX.out]; unfold tTerm tLit; rw [if_neg HJ0.out, if_neg (show ¬ c < 0 by omega)]; rw [if_neg (show ¬ y < 0 by omega)]; simp only [List.append_assoc]
              rw [← e9]; exact U5
            case measure => simp [intOf]; omega
    · obtain rfl : j = C.length := by omega
      have hdd : decide (C.length < C.length) = false := by simp
      have hln := HLn.out C.length (show C.length ≤ L.length by omega)
      have HX : Hid (textS ⟨C, L, m⟩ = (if C.length = 0 then [48] else tTerms ⟨C, L, m⟩ C.length) ++ ([32, 62, 61, 32] ++ Lib.itoa m)) := rfl
      generalize hTT : tTerms ⟨C, L, m⟩ C.length = X at *
      have hXl : X.length ≤ 2000 := by omega
      have hX0 : C.length = 0 → X = [] := fun h => by rw [← hTT, h]; rfl
      have HX0 := Lib.hid hX0
      have e1 := itoa_len (n := m) (by unfold inTen; omega)
      have q0 := (behind_of_below HB.out).keep P1.out (by simp)
      have c0 := blk_cell q0 0 rfl
      clear q0 hX0 hTT hln
      by_cases hz : C.length = 0
      · have hzz : ((C.length : Int) == 0) = true := by simp [hz]
        have HZ := Lib.hid hz
        clear hz
        go_wp2_with fail
        refine (gWrite w2.heap.size w2.heap.size (X) [48] wr BU.out (by omega) (by simp) HB.out.size).mono ?_
        rintro r1 x1 ⟨rfl, hu1, hb1⟩
        have U1 := Lib.hid hu1
        have V1 := Lib.hid (HB.out.trans hb1)
        have q1 := (behind_of_below V1.out).keep P1.out (by simp)
        have c2 := blk_cell q1 2 rfl
        clear q1 hu1 hb1 c0 BU HB
        go_wp2_with fail
        clear c2
        refine (gItoa m (by omega) (by omega) x1 (HTB.out _ (HWE.out _ V1.out))).mono ?_
        rintro r2 x2 ⟨rfl, hb2⟩
        have U2 := Lib.hid (isB_below U1.out hb2)
        have V2 := Lib.hid (V1.out.trans (hb2.mono V1.out.size))
        clear hb2 U1 V1
        go_wp2_with fail
        rw [show ({ data := #[32, 62, 61, 32] } : ByteArray) ++ ⟨(Lib.itoa m).toArray⟩ = ⟨([32, 62, 61, 32] ++ Lib.itoa m).toArray⟩ from ba_app [32, 62, 61, 32] _]
        refine (gWrite w2.heap.size w2.heap.size (X ++ [48]) ([32, 62, 61, 32] ++ Lib.itoa m) x2 U2.out (by simp; omega) (by first | omega | (simp only [List.length_append, List.length_cons, List.length_nil]; omega)) V2.out.size).mono ?_
        rintro r3 x3 ⟨rfl, hu3, hb3⟩
        have U3 := Lib.hid hu3
        have V3 := Lib.hid (V2.out.trans hb3)
        clear hu3 hb3 U2 V2
        go_wp2_with fail
        refine (gStr w2.heap.size w2.heap.size _ x3 U3.out V3.out.size).mono ?_
        rintro r4 x4 ⟨rfl, hb4⟩
        have V4 := Lib.hid (V3.out.trans hb4)
        clear hb4 U3 V3
        go_wp2_with fail
        go_ret2
        refine ⟨?_, HWE.out _ V4.out⟩
        rw [HQ.out, HX.out, if_pos HZ.out, HX0.out HZ.out]; rfl
      · have hzz : ((C.length : Int) == 0) = false := by simp [hz]
        have HZ := Lib.hid hz
        clear hz
        have q1 := (behind_of_below HB.out).keep P1.out (by simp)
        have c2 := blk_cell q1 2 rfl
        clear q1
        go_wp2_with fail
        clear c2 c0
        refine (gItoa m (by omega) (by omega) wr (HTB.out _ (HWE.out _ HB.out))).mono ?_
        rintro r2 x2 ⟨rfl, hb2⟩
        have U2 := Lib.hid (isB_below BU.out hb2)
        have V2 := Lib.hid (HB.out.trans (hb2.mono HB.out.size))
        clear hb2 BU HB
        go_wp2_with fail
        rw [show ({ data := #[32, 62, 61, 32] } : ByteArray) ++ ⟨(Lib.itoa m).toArray⟩ = ⟨([32, 62, 61, 32] ++ Lib.itoa m).toArray⟩ from ba_app [32, 62, 61, 32] _]
        refine (gWrite w2.heap.size w2.heap.size (X) ([32, 62, 61, 32] ++ Lib.itoa m) x2 U2.out (by omega) (by first | omega | (simp only [List.length_append, List.length_cons, List.length_nil]; omega)) V2.out.size).mono ?_
        rintro r3 x3 ⟨rfl, hu3, hb3⟩
        have U3 := Lib.hid hu3
        have V3 := Lib.hid (V2.out.trans hb3)
        clear hu3 hb3 U2 V2
        go_wp2_with fail
        refine (gStr w2.heap.size w2.heap.size _ x3 U3.out V3.out.size).mono ?_
        rintro r4 x4 ⟨rfl, hb4⟩
        have V4 := Lib.hid (V3.out.trans hb4)
        clear hb4 U3 V3
        go_wp2_with fail
        go_ret2
        refine ⟨?_, HWE.out _ V4.out⟩
        rw [HQ.out, HX.out, if_neg HZ.out]; rfl
end Go.Proofs.YtchamkbnapjidaaDoor
