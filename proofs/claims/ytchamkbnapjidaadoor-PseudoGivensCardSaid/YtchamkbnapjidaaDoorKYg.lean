/- The law: what is left of a sum is the reference's, and the sum stays. -/
import Derived.Test.YtchamkbnapjidaaDoorKZg
import Derived.Test.YtchamkbnapjidaaDoorKZd
import Derived.Test.YtchamkbnapjidaaDoorKZb
import Derived.Test.YtchamkbnapjidaaDoorKYc
import Derived.Deep.DeepCutAuto
namespace Go.Proofs.YtchamkbnapjidaaDoor
open Go.RowKit

theorem light_len2 {s : PS} (h : lightB s = true) : s.C.length ≤ 80 ∧ s.L.length ≤ 80 := by
  unfold lightB at h
  simpa using h
theorem given_len {s : PS} {t : List Int} {n : Int} : (givenS s t n).1.C.length ≤ 64 ∧ (givenS s t n).1.L.length ≤ 64 := by
  unfold givenS
  split
  · simp [PS.zero]
  · rename_i h
    split
    · simp [PS.zero]
    · have h2 := (given_ok t (check_ok.1 (Decidable.not_not.1 h))).1
      have h3 := h2.l64
      have h4 := h2.len
      unfold gSum at h3 h4
      simp only at h3 h4 ⊢
      omega

set_option maxHeartbeats 6400000 in
set_option maxRecDepth 100000 in
theorem givens_law (s : PS) (t : List Int) (n : Int) (ca la ta : Option Addr) (cc lc tc : Nat) (hcl : s.C.length ≤ 20000000000000) (hll : s.L.length ≤ 20000000000000) (htl : t.length ≤ 20000000000000) (hI : ∀ l ∈ t, -9223372036854775808 ≤ l ∧ l ≤ 9223372036854775807) (w : World) (hT : Tab w) (hC : AtN w.heap.size w ca (ints s.C)) (hL : AtN w.heap.size w la (ints s.L)) (hTt : AtN w.heap.size w ta (ints t)) :
    Calls Tryd.prog 4 #[sumV ca cc la lc s, .slice ta t.length tc, .int .i64 n] w fun e w' => e = .returned (.bool true) ∧ Below w.heap.size w w' := by
  have KL := gLight s ca la cc lc (by omega) (by omega)
  have KW := Lib.hid (gWorksFrom hT)
  have KN := Lib.hid (fun (h140 : ¬ 140 < t.length) (w1 : World) (hb : Below w.heap.size w w1) => gGiven w.heap.size s t n ca la ta cc lc tc (by omega) (by omega) (by omega) w1 (hC.below hb (Nat.le_refl _)) (hL.below hb (Nat.le_refl _)) (hTt.below hb (Nat.le_refl _)) hb.size)
  have KX := Lib.hid (fun (h140 : ¬ 140 < t.length) (w1 : World) (hb : Below w.heap.size w w1) => xGiven w.heap.size s t n ca la ta cc lc tc (by omega) (by omega) (by omega) hI w1 (hC.below hb (Nat.le_refl _)) (hL.below hb (Nat.le_refl _)) (hTt.below hb (Nat.le_refl _)) hb.size)
  have KK := Lib.hid (fun (hq : lightB s = true) (w1 : World) (hb : Below w.heap.size w w1) => gKept s w.heap.size ca la cc lc (Nat.le_trans (light_len2 hq).1 (by omega)) (Nat.le_trans (light_len2 hq).2 (by omega)) w1 (hC.below hb (Nat.le_refl _)) (hL.below hb (Nat.le_refl _)) hb.size)
  have KS := Lib.hid (fun (pC pL : Option Addr) (cC cL N : Nat) (w1 : World) (hb : Below w.heap.size w w1) (hN : w.heap.size ≤ N) (h1 : AtN N w1 pC (ints s.C)) (h2 : AtN N w1 pL (ints s.L)) (h3 : N ≤ w1.heap.size) => xSame s N ca la pC pL cc lc cC cL (by omega) (by omega) w1 ((hC.below hb (Nat.le_refl _)).mono hN) ((hL.below hb (Nat.le_refl _)).mono hN) h1 h2 h3)
  have hul : (givenS s t n).1.C.length ≤ 64 ∧ (givenS s t n).1.L.length ≤ 64 := given_len
  generalize (givenS s t n).1 = u at *
  generalize (givenS s t n).2 = r at *
  obtain ⟨hu1, hu2⟩ := hul
  have KR := Lib.hid (fun (pC pL pC2 pL2 : Option Addr) (cC cL cC2 cL2 N : Nat) (w1 : World) (h1 : AtN N w1 pC (ints u.C)) (h2 : AtN N w1 pL (ints u.L)) (h1' : AtN N w1 pC2 (ints u.C)) (h2' : AtN N w1 pL2 (ints u.L)) (h3 : N ≤ w1.heap.size) => xSame u N pC pL pC2 pL2 cC cL cC2 cL2 (by omega) (by omega) w1 h1 h2 h1' h2' h3)
  have KP := Lib.hid (fun (B : Nat) (pC pL : Option Addr) (cC cL : Nat) (w1 : World) (h1 : Two w1 B (.slice pC u.C.length cC) u.C (.slice pL u.L.length cL) u.L) (h2 : B ≤ w1.heap.size) => gSpoil u B pC pL cC cL (by omega) (by omega) w1 h1 h2)
  unfold sumV at *
  generalize lightB s = q at *
  clear hT hC hL hTt hI
  cases q with
  | false =>
    go_enter Tryd.func4, Tryd.ntmps4
    go_wp2_with fail
    refine calls_gen fun w1 hw1 => ?_
    have HB1 := Lib.hid (show Below w.heap.size w w1 by rw [hw1]; exact below_one _ _)
    clear hw1
    refine (KL w1).mono ?_
    rintro e w2 ⟨rfl, hB2⟩
    have HB2 := Lib.hid (HB1.out.trans (hB2.mono HB1.out.size))
    clear hB2 HB1
    go_wp2_with fail
    refine (KW.out w2 HB2.out).mono ?_
    rintro e w3 ⟨rfl, hB3⟩
    have HB3 := Lib.hid (HB2.out.trans (hB3.mono HB2.out.size))
    clear hB3
    go_wp2_with fail
    go_ret
    exact ⟨rfl, HB3.out⟩
  | true =>
  by_cases h140 : 140 < t.length
  · have hdd : decide (140 < t.length) = true := by simpa using h140
    have hdd2 : decide ((140 : Int) < (t.length : Int)) = true := by simp; omega
    go_enter Tryd.func4, Tryd.ntmps4
    go_wp2_with fail
    refine calls_gen fun w1 hw1 => ?_
    have HB1 := Lib.hid (show Below w.heap.size w w1 by rw [hw1]; exact below_one _ _)
    clear hw1
    refine (KL w1).mono ?_
    rintro e w2 ⟨rfl, hB2⟩
    have HB2 := Lib.hid (HB1.out.trans (hB2.mono HB1.out.size))
    clear hB2 HB1
    go_wp2_with fail
    refine (KW.out w2 HB2.out).mono ?_
    rintro e w3 ⟨rfl, hB3⟩
    have HB3 := Lib.hid (HB2.out.trans (hB3.mono HB2.out.size))
    clear hB3
    go_wp2_with fail
    go_ret
    exact ⟨rfl, HB3.out⟩
  have hdd : decide (140 < t.length) = false := by simpa using h140
  have hdd2 : decide ((140 : Int) < (t.length : Int)) = false := by simp; omega
  go_enter Tryd.func4, Tryd.ntmps4
  go_wp2_with fail
  refine calls_gen fun w1 hw1 => ?_
  have HB1 := Lib.hid (show Below w.heap.size w w1 by rw [hw1]; exact below_one _ _)
  have M1 := (show w1.heap[w.heap.size]? = some (.cells #[.slice ca s.C.length cc, .slice la s.L.length lc, .int .i64 s.m] 24 (0, 0)) by rw [hw1]; exact new_one _ _)
  clear hw1
  refine (KL w1).mono ?_
  rintro e w2 ⟨rfl, hB2⟩
  have HB2 := Lib.hid (HB1.out.trans (hB2.mono HB1.out.size))
  have M2 := Lib.hid ((behind_of_below hB2).keep M1 (by simp))
  clear hB2 HB1 M1 KL
  have c0 := blk_cell M2.out 0 rfl
  have c1 := blk_cell M2.out 1 rfl
  have c2 := blk_cell M2.out 2 rfl
  have hm2 := lt_of_heap M2.out
  go_wp2_with fail
  refine (KK.out trivial w2 HB2.out).mono ?_
  rintro e w3 ⟨kC, kcC, kL, kcL, rfl, hA1, hA2, h3⟩
  unfold sumV
  have HB3 := Lib.hid (HB2.out.trans (h3.mono HB2.out.size))
  have M3 := Lib.hid ((behind_of_below h3).keep M2.out (by simp))
  have hm3 : w.heap.size < w3.heap.size := lt_of_heap M3.out
  have HA1 := Lib.hid hA1
  have HA2 := Lib.hid hA2
  clear hA1 hA2 h3 KK c0 c1 c2 M2
  go_upto_region 4 with fail
  refine wp_gen ?_
  intro w4 hw4
  have HB34 := Lib.hid (show Below w3.heap.size w3 w4 by rw [hw4]; exact below_one w3 _)
  have M5 := Lib.hid (show w4.heap[w3.heap.size]? = some (.cells #[.slice kC s.C.length kcC, .slice kL s.L.length kcL, .int .i64 s.m] 24 (0, 0)) by rw [hw4]; exact new_one w3 _)
  have M4 := Lib.hid ((HB34.out.block _ hm3).trans M3.out)
  have HB4 := Lib.hid (HB3.out.trans (HB34.out.mono HB3.out.size))
  have hm4 : w3.heap.size < w4.heap.size := lt_of_heap M5.out
  have HK := Lib.hid (show ∀ x, Below w4.heap.size w4 x → x.heap[w.heap.size]? = some (.cells #[.slice ca s.C.length cc, .slice la s.L.length lc, .int .i64 s.m] 24 (0, 0)) ∧ x.heap[w3.heap.size]? = some (.cells #[.slice kC s.C.length kcC, .slice kL s.L.length kcL, .int .i64 s.m] 24 (0, 0)) ∧ Below w.heap.size w x ∧ AtN w3.heap.size x kC (ints s.C) ∧ AtN w3.heap.size x kL (ints s.L) from fun x hx =>
    have hx3 : Below w3.heap.size w3 x := HB34.out.trans (hx.mono HB34.out.size)
    ⟨(hx.block _ (by omega)).trans M4.out, (hx.block _ hm4).trans M5.out, HB4.out.trans (hx.mono HB4.out.size), HA1.out.below hx3 (Nat.le_refl _), HA2.out.below hx3 (Nat.le_refl _)⟩)
  have h0 := (HK.out w4 (Below.refl _ _)).1
  have c0 := blk_cell h0 0 rfl
  have c1 := blk_cell h0 1 rfl
  have c2 := blk_cell h0 2 rfl
  clear hw4 h0 M3 M4 M5 HA1 HA2 HB34 HB3 HB2
  go_wp2_with fail
  refine (KN.out h140 w4 HB4.out).mono ?_
  rintro e w5 ⟨vC, vL, rfl, h2, h3⟩
  obtain ⟨aC, dC, hvC, hAC⟩ := own_at h2.o1
  obtain ⟨aL, dL, hvL, hAL⟩ := own_at h2.o2
  subst hvC
  subst hvL
  have HT5 := Lib.hid h2
  have HAC := Lib.hid hAC
  have HAL := Lib.hid hAL
  have HB5 := Lib.hid h3
  clear h2 hAC hAL h3 KN c0 c1 c2
  go_upto_region 5 with fail
  refine wp_gen ?_
  intro w6 hw6
  have HB56 := Lib.hid (show Below w5.heap.size w5 w6 by rw [hw6]; exact below_one w5 _)
  have M6 := Lib.hid (show w6.heap[w5.heap.size]? = some (.cells #[.slice aC u.C.length dC, .slice aL u.L.length dL, .int .i64 u.m] 24 (0, 0)) by rw [hw6]; exact new_one w5 _)
  have hm6 : w5.heap.size < w6.heap.size := lt_of_heap M6.out
  have HB46 := Lib.hid (HB5.out.trans (HB56.out.mono HB5.out.size))
  have h0 := (HK.out w6 HB46.out).1
  have c0 := blk_cell h0 0 rfl
  have c1 := blk_cell h0 1 rfl
  have c2 := blk_cell h0 2 rfl
  have hs5 := HB5.out.size
  clear hw6 h0
  go_wp2_with fail
  refine (KX.out h140 w6 (HK.out w6 HB46.out).2.2.1).mono ?_
  rintro e w7 ⟨vC, vL, rfl, h2, h3⟩
  obtain ⟨bC, eC, hvC, hBC⟩ := own_at h2.o1
  obtain ⟨bL, eL, hvL, hBL⟩ := own_at h2.o2
  subst hvC
  subst hvL
  have HBC := Lib.hid hBC
  have HBL := Lib.hid hBL
  have HB67 := Lib.hid h3
  clear h2 hBC hBL h3 KX c0 c1 c2
  go_upto_region 6 with fail
  refine wp_gen ?_
  intro w8 hw8
  have HB78 := Lib.hid (show Below w7.heap.size w7 w8 by rw [hw8]; exact below_one w7 _)
  have M8 := (show w8.heap[w7.heap.size]? = some (.cells #[.slice bC u.C.length eC, .slice bL u.L.length eL, .int .i64 u.m] 24 (0, 0)) by rw [hw8]; exact new_one w7 _)
  have hm8 : w7.heap.size < w8.heap.size := lt_of_heap M8
  have HB68 := Lib.hid (HB67.out.trans (HB78.out.mono HB67.out.size))
  have HB58 := Lib.hid (HB56.out.trans (HB68.out.mono HB56.out.size))
  have HB48 := Lib.hid (HB5.out.trans (HB58.out.mono HB5.out.size))
  have hs67 := HB67.out.size
  have M68 := (HB68.out.block _ hm6).trans M6.out
  have KR2 := Lib.hid (KR.out aC aL bC bL dC dL eC eL w7.heap.size w8 ((HAC.out.below HB58.out (Nat.le_refl _)).mono (by omega)) ((HAL.out.below HB58.out (Nat.le_refl _)).mono (by omega)) (HBC.out.below HB78.out (Nat.le_refl _)) (HBL.out.below HB78.out (Nat.le_refl _)) (Nat.le_of_lt hm8))
  have HT8 := Lib.hid (HT5.out.keepB HB58.out)
  have hrr : (r != r) = false := by simp
  have c0 := blk_cell M68 0 rfl
  have c1 := blk_cell M68 1 rfl
  have c2 := blk_cell M68 2 rfl
  have d0 := blk_cell M8 0 rfl
  have d1 := blk_cell M8 1 rfl
  have d2 := blk_cell M8 2 rfl
  have HM68 := Lib.hid M68
  clear hw8 M8 M68 HB5 HB56 HB67 HB78 HB58 HB46 HBC HBL HAC HAL M6 HT5 KR
  go_wp2_with fail
  refine KR2.out.mono ?_
  rintro e w9 ⟨rfl, hB9⟩
  have HB49 := Lib.hid (HB48.out.trans (hB9.mono HB48.out.size))
  have HT9 := Lib.hid (HT8.out.keepB hB9)
  have M9 := (hB9.block _ (show w5.heap.size < w8.heap.size by omega)).trans HM68.out
  have hs49 := HB49.out.size
  clear c0 c1 c2 d0 d1 d2 KR2 hB9 HM68 HT8 HB48 HB68
  have c0 := blk_cell M9 0 rfl
  have c1 := blk_cell M9 1 rfl
  have c2 := blk_cell M9 2 rfl
  clear M9
  go_wp2_with fail
  refine (KP.out w4.heap.size aC aL dC dL w9 HT9.out hs49).mono ?_
  rintro e w10 ⟨⟨v, rfl⟩, hB10⟩
  have HB10 := Lib.hid (HB49.out.trans hB10)
  have hs10 := HB10.out.size
  obtain ⟨k1, k2, k3, k4, k5⟩ := HK.out w10 HB10.out
  have KS2 := Lib.hid (KS.out kC kL kcC kcL w3.heap.size w10 k3 (Nat.le_of_lt hm3) k4 k5 (by omega))
  have HBw := Lib.hid k3
  clear c0 c1 c2 KP hB10 HT9 HB49 k3 k4 k5 KS HK
  have c0 := blk_cell k1 0 rfl
  have c1 := blk_cell k1 1 rfl
  have c2 := blk_cell k1 2 rfl
  have d0 := blk_cell k2 0 rfl
  have d1 := blk_cell k2 1 rfl
  have d2 := blk_cell k2 2 rfl
  clear k1 k2
  go_wp2_with fail
  refine KS2.out.mono ?_
  rintro e w11 ⟨rfl, hB11⟩
  have HB11 := Lib.hid (HBw.out.trans (hB11.mono HBw.out.size))
  clear hB11
  go_wp2_with fail
  refine (KW.out w11 HB11.out).mono ?_
  rintro e w12 ⟨rfl, hB12⟩
  have HB12 := Lib.hid (HB11.out.trans (hB12.mono HB11.out.size))
  clear hB12
  go_wp2_with fail
  go_ret
  exact ⟨rfl, HB12.out⟩
end Go.Proofs.YtchamkbnapjidaaDoor
