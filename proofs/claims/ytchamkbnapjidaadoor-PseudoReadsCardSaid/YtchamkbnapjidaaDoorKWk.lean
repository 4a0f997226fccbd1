/- works: the chapter's examples. -/
import Derived.Test.YtchamkbnapjidaaDoorKX
namespace Go.Proofs.YtchamkbnapjidaaDoor
open Go.RowKit

def x1L : List UInt8 := [50, 32, 120, 49, 32, 43, 32, 49, 32, 120, 50, 32, 43, 32, 49, 32, 120, 51, 32, 62, 61, 32, 50]
def x2L : List UInt8 := [50, 32, 120, 50, 32, 45, 32, 51, 32, 120, 49, 32, 43, 32, 49, 32, 126, 120, 50, 32, 62, 61, 32, 45, 49]
def x3L : List UInt8 := [50, 32, 120, 49, 32, 43, 32, 51, 32, 126, 120, 50, 32, 45, 32, 49, 32, 120, 51, 32, 62, 61, 32, 52]
def x4L : List UInt8 := [49, 32, 126, 120, 49, 32, 43, 32, 49, 32, 120, 50, 32, 62, 61, 32, 49]
def x5L : List UInt8 := [50, 32, 120, 49, 32, 45, 32, 49, 32, 120, 51, 32, 62, 61, 32, 49]
theorem read_of {l : List UInt8} {s : PS} (h : parseS l = some s) : readS l = s := by unfold readS; rw [h]
theorem shown_of {l : List UInt8} {s : PS} (h : parseS l = some s) : shownS s 0 = l := by
  obtain ⟨h1, h2⟩ := text_parse h
  have h3 : checkS s 128 = 0 := check_ok.2 h2
  unfold shownS printS
  rw [if_neg (show ¬ checkS s 128 ≠ 0 by rw [h3]; simp), if_neg (by simp)]
  exact h1
theorem p1 : parseS x1L = some ⟨[2, 1, 1], [1, 2, 3], 2⟩ := by kernel_rfl
theorem p2 : parseS x2L = some ⟨[2, -3, 1], [2, 1, -2], -1⟩ := by kernel_rfl
theorem p3 : parseS x3L = some ⟨[2, 3, -1], [1, -2, 3], 4⟩ := by kernel_rfl
theorem p4 : parseS x4L = some ⟨[1, 1], [-1, 2], 1⟩ := by kernel_rfl
theorem p5 : parseS x5L = some ⟨[2, -1], [1, 3], 1⟩ := by kernel_rfl
theorem ev1 : evalS ⟨[2, 1, 1], [1, 2, 3], 2⟩ (litB (bitS 1 0)) = true := by kernel_rfl
theorem ev2 : evalS ⟨[2, 1, 1], [1, 2, 3], 2⟩ (litB (bitS 2 0)) = false := by kernel_rfl
theorem ev6 : evalS ⟨[2, 1, 1], [1, 2, 3], 2⟩ (litB (bitS 6 0)) = true := by kernel_rfl
theorem nm2 : normS ⟨[2, -3, 1], [2, 1, -2], -1⟩ 2 = (⟨[1, 1], [-1, 2], 1⟩, 0) := by kernel_rfl
theorem gv3 : givenS ⟨[2, 3, -1], [1, -2, 3], 4⟩ [-2] 3 = (⟨[2, -1], [1, 3], 1⟩, 0) := by kernel_rfl
theorem eq_self (l : List UInt8) : ((⟨l.toArray⟩ : ByteArray).toList == l) = true := by rw [ByteArray.toList_eq]; simp

set_option maxHeartbeats 3200000 in
set_option maxRecDepth 100000 in
theorem gWorks (w : World) (hT : Tab w) : Calls Tryd.prog 8 #[] w fun e w' => e = .returned (.bool true) ∧ Below w.heap.size w w' := by
  have HT := Lib.hid hT
  have K1 := Lib.hid (fun w1 => gRead x1L w1 (by decide))
  have K2 := Lib.hid (fun w1 => gRead x2L w1 (by decide))
  have K3 := Lib.hid (fun w1 => gRead x3L w1 (by decide))
  rw [read_of p1] at K1
  rw [read_of p2] at K2
  rw [read_of p3] at K3
  unfold x1L at K1
  unfold x2L at K2
  unfold x3L at K3
  clear hT
  go_enter Tryd.func8, Tryd.ntmps8
  go_wp2_with fail
  refine (K1.out w).mono ?_
  rintro e w1 ⟨vC, vL, rfl, h2, h3⟩
  have HB1 := Lib.hid h3
  have HT1 := Lib.hid h2
  obtain ⟨aC, cC, hvC, hAC⟩ := own_at h2.o1
  obtain ⟨aL, cL, hvL, hAL⟩ := own_at h2.o2
  subst hvC
  subst hvL
  have KE := fun (a : Nat) (ha : a < 18446744073709551616) (x : World) (hx : Below w1.heap.size w1 x) => gEval a 0 ha (by decide) w1.heap.size ⟨[2, 1, 1], [1, 2, 3], 2⟩ aC aL cC cL (by decide) (by decide) x (hAC.below hx (Nat.le_refl _)) (hAL.below hx (Nat.le_refl _)) hx.size
  have E1 := KE 1 (by decide)
  have E2 := KE 2 (by decide)
  have E6 := KE 6 (by decide)
  rw [ev1] at E1
  rw [ev2] at E2
  rw [ev6] at E6
  have F1 := Lib.hid E1
  have F2 := Lib.hid E2
  have F6 := Lib.hid E6
  clear h2 h3 hAC hAL KE E1 E2 E6
  simp only []
  go_wp2_with fail
  refine calls_gen fun w2 hw2 => ?_
  have B2 := Lib.hid (show Below w1.heap.size w1 w2 by rw [hw2]; exact below_one _ _)
  have M2 := Lib.hid (show w2.heap[w1.heap.size]? = some (.cells #[.slice aC 3 cC, .slice aL 3 cL, .int .i64 2] 24 (0, 0)) by rw [hw2]; exact new_one _ _)
  clear hw2
  refine (F1.out w2 B2.out).mono ?_
  rintro e w3 ⟨rfl, hb⟩
  have B3 := Lib.hid (B2.out.trans (hb.mono B2.out.size))
  have M3 := Lib.hid ((behind_of_below hb).keep M2.out (by simp))
  have c0 := blk_cell M3.out 0 rfl
  have c1 := blk_cell M3.out 1 rfl
  have c2 := blk_cell M3.out 2 rfl
  clear hb B2 M2
  go_wp2_with fail
  refine (F2.out w3 B3.out).mono ?_
  rintro e w4 ⟨rfl, hb⟩
  have B4 := Lib.hid (B3.out.trans (hb.mono B3.out.size))
  have M4 := Lib.hid ((behind_of_below hb).keep M3.out (by simp))
  clear c0 c1 c2
  have c0 := blk_cell M4.out 0 rfl
  have c1 := blk_cell M4.out 1 rfl
  have c2 := blk_cell M4.out 2 rfl
  clear hb B3 M3
  go_wp2_with fail
  refine (F6.out w4 B4.out).mono ?_
  rintro e w5 ⟨rfl, hb⟩
  have B5 := Lib.hid (HB1.out.trans ((B4.out.trans (hb.mono B4.out.size)).mono HB1.out.size))
  clear hb B4 M4 c0 c1 c2 F1 F2 F6 HT1 HB1
  go_wp2_with fail
  refine (K2.out w5).mono ?_
  rintro e w6 ⟨vC, vL, rfl, h2, h3⟩
  have B6 := Lib.hid (B5.out.trans (h3.mono B5.out.size))
  obtain ⟨bC, dC, hvC, hAC⟩ := own_at h2.o1
  obtain ⟨bL, dL, hvL, hAL⟩ := own_at h2.o2
  subst hvC
  subst hvL
  have KN := gNormal w6.heap.size ⟨[2, -3, 1], [2, 1, -2], -1⟩ 2 bC bL dC dL (by decide) (by decide) w6 hAC hAL (Nat.le_refl _)
  rw [nm2] at KN
  have KN2 := Lib.hid KN
  clear KN h2 h3 hAC hAL K2
  simp only []
  go_wp2_with fail
  refine (KN2.out).mono ?_
  rintro e w7 ⟨vC, vL, rfl, h2, h3⟩
  have B7 := Lib.hid (B6.out.trans (h3.mono B6.out.size))
  obtain ⟨eC, fC, hvC, hAC⟩ := own_at h2.o1
  obtain ⟨eL, fL, hvL, hAL⟩ := own_at h2.o2
  subst hvC
  subst hvL
  have KS := gShown w7.heap.size ⟨[1, 1], [-1, 2], 1⟩ 0 eC eL fC fL (by decide) (by decide) w7 (HT.out.below B7.out) hAC hAL (Nat.le_refl _)
  rw [shown_of p4] at KS
  unfold x4L at KS
  have KS2 := Lib.hid KS
  clear KS h2 h3 hAC hAL KN2 B5 B6
  simp only []
  go_wp2_with fail
  refine (KS2.out).mono ?_
  rintro e w8 ⟨rfl, hb⟩
  have B8 := Lib.hid (B7.out.trans (hb.mono B7.out.size))
  clear hb KS2 B7
  go_wp2_with fail
  refine (K3.out w8).mono ?_
  rintro e w9 ⟨vC, vL, rfl, h2, h3⟩
  have B9 := Lib.hid (B8.out.trans (h3.mono B8.out.size))
  obtain ⟨gC, iC, hvC, hAC⟩ := own_at h2.o1
  obtain ⟨gL, iL, hvL, hAL⟩ := own_at h2.o2
  subst hvC
  subst hvL
  have KG := Lib.hid (fun (x : World) (ta : Option Addr) (hx : Below w9.heap.size w9 x) (hta : AtN x.heap.size x ta (ints [-2])) => gGiven x.heap.size ⟨[2, 3, -1], [1, -2, 3], 4⟩ [-2] 3 gC gL ta iC iL 1 (by decide) (by decide) (by decide) x ((hAC.below hx (Nat.le_refl _)).mono hx.size) ((hAL.below hx (Nat.le_refl _)).mono hx.size) hta (Nat.le_refl _))
  rw [gv3] at KG
  clear h2 h3 hAC hAL K3 B8
  simp only []
  go_wp2_with fail
  refine calls_gen fun w10 hw10 => ?_
  have BA := Lib.hid (show Below w9.heap.size w9 w10 by rw [hw10]; exact below_one _ _)
  have MA := (show w10.heap[w9.heap.size]? = some (.cells #[.int .i64 (-2)] 3 (0, 0)) by rw [hw10]; exact new_one _ _)
  have hta : AtN w10.heap.size w10 (some ⟨w9.heap.size, 0, none⟩) (ints [-2]) := fun i v hi => by
    have hi0 : i = 0 := by
      rcases i with _ | i
      · rfl
      · simp [ints] at hi
    subst hi0
    cases hi
    exact ⟨w9.heap.size, 0, lt_of_heap MA, rfl, blk_cell MA 0 rfl⟩
  clear hw10
  refine (KG.out w10 _ BA.out hta).mono ?_
  rintro e w11 ⟨vC, vL, rfl, h2, h3⟩
  have B11 := Lib.hid ((B9.out.trans (BA.out.mono B9.out.size)).trans (h3.mono (Nat.le_trans B9.out.size BA.out.size)))
  obtain ⟨jC, kC, hvC, hAC⟩ := own_at h2.o1
  obtain ⟨jL, kL, hvL, hAL⟩ := own_at h2.o2
  subst hvC
  subst hvL
  have KS := gShown w11.heap.size ⟨[2, -1], [1, 3], 1⟩ 0 jC jL kC kL (by decide) (by decide) w11 (HT.out.below B11.out) hAC hAL (Nat.le_refl _)
  rw [shown_of p5] at KS
  unfold x5L at KS
  have KS2 := Lib.hid KS
  clear KS h2 h3 hAC hAL KG hta MA BA B9
  simp only []
  go_wp2_with fail
  refine (KS2.out).mono ?_
  rintro e w12 ⟨rfl, hb⟩
  have B12 := Lib.hid (B11.out.trans (hb.mono B11.out.size))
  clear hb KS2 B11
  go_wp2_with fail
  go_ret
  exact ⟨rfl, B12.out⟩
end Go.Proofs.YtchamkbnapjidaaDoor
