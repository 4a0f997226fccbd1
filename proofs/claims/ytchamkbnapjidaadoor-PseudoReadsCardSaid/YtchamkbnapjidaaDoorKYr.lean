/- The law: what is read of a text is the reference's. -/
import Derived.Test.YtchamkbnapjidaaDoorKZp
import Derived.Test.YtchamkbnapjidaaDoorKYa
import Derived.Test.YtchamkbnapjidaaDoorKZa
import Derived.Deep.DeepCutAuto
namespace Go.Proofs.YtchamkbnapjidaaDoor
open Go.RowKit

theorem parse_len (l : List UInt8) : (parseR2 l).1.C.length ≤ 64 ∧ (parseR2 l).1.L.length ≤ 64 := by
  unfold parseR2
  cases h : parseS l with
  | none => simp [PS.zero]
  | some s =>
    have h2 := (text_parse h).2
    have h3 := h2.l64
    have h4 := h2.len
    simp only
    omega

set_option maxHeartbeats 6400000 in
set_option maxRecDepth 100000 in
theorem reads_law (l : List UInt8) (w : World) (hT : Tab w) :
    Calls Tryd.prog 6 #[.string ⟨l.toArray⟩] w fun e w' => e = .returned (.bool true) ∧ Below w.heap.size w w' := by
  have KW := Lib.hid (gWorksFrom hT)
  obtain ⟨s, hs⟩ : ∃ s : ByteArray, s = ⟨l.toArray⟩ := ⟨_, rfl⟩
  have hsz : s.size = l.length := by rw [hs]; exact ba_size l
  by_cases h5 : 5000 < l.length
  · rw [← hs]
    have hd : decide (5000 < s.size) = true := by simp; omega
    have hd2 : decide ((5000 : Int) < (s.size : Int)) = true := by simp; omega
    clear hs hsz h5 hT
    go_enter Tryd.func6, Tryd.ntmps6
    go_wp2_with fail
    refine (KW.out w (Below.refl _ _)).mono ?_
    rintro e w3 ⟨rfl, hB3⟩
    have HB3 := Lib.hid hB3
    clear hB3
    go_wp2_with fail
    go_ret
    exact ⟨rfl, HB3.out⟩
  have hd : decide (5000 < s.size) = false := by simp; omega
  have hd2 : decide ((5000 : Int) < (s.size : Int)) = false := by simp; omega
  have KP := Lib.hid (fun (w1 : World) => gParse l w1 (by omega))
  have KX := Lib.hid (fun (w1 : World) => xParse l (by omega) w1)
  have hul := parse_len l
  rw [← hs] at KP KX
  rw [← hs]
  generalize (parseR2 l).1 = u at *
  generalize (parseR2 l).2 = r at *
  obtain ⟨hu1, hu2⟩ := hul
  have KR := Lib.hid (fun (pC pL pC2 pL2 : Option Addr) (cC cL cC2 cL2 N : Nat) (w1 : World) (h1 : AtN N w1 pC (ints u.C)) (h2 : AtN N w1 pL (ints u.L)) (h1' : AtN N w1 pC2 (ints u.C)) (h2' : AtN N w1 pL2 (ints u.L)) (h3 : N ≤ w1.heap.size) => xSame u N pC pL pC2 pL2 cC cL cC2 cL2 (by omega) (by omega) w1 h1 h2 h1' h2' h3)
  unfold sumV at *
  clear hs hsz h5 hT
  go_enter Tryd.func6, Tryd.ntmps6
  go_wp2_with fail
  refine (KP.out w).mono ?_
  rintro e w5 ⟨vC, vL, rfl, h2, h3⟩
  obtain ⟨aC, dC, hvC, hAC⟩ := own_at h2.o1
  obtain ⟨aL, dL, hvL, hAL⟩ := own_at h2.o2
  subst hvC
  subst hvL
  have HAC := Lib.hid hAC
  have HAL := Lib.hid hAL
  have HB5 := Lib.hid h3
  clear h2 hAC hAL h3 KP
  go_upto_region 4 with fail
  refine wp_gen ?_
  intro w6 hw6
  have HB56 := Lib.hid (show Below w5.heap.size w5 w6 by rw [hw6]; exact below_one w5 _)
  have M6 := Lib.hid (show w6.heap[w5.heap.size]? = some (.cells #[.slice aC u.C.length dC, .slice aL u.L.length dL, .int .i64 u.m] 24 (0, 0)) by rw [hw6]; exact new_one w5 _)
  have hm6 : w5.heap.size < w6.heap.size := lt_of_heap M6.out
  clear hw6
  go_wp2_with fail
  refine (KX.out w6).mono ?_
  rintro e w7 ⟨vC, vL, rfl, h2, h3⟩
  obtain ⟨bC, eC, hvC, hBC⟩ := own_at h2.o1
  obtain ⟨bL, eL, hvL, hBL⟩ := own_at h2.o2
  subst hvC
  subst hvL
  have HBC := Lib.hid hBC
  have HBL := Lib.hid hBL
  have HB67 := Lib.hid h3
  clear h2 hBC hBL h3 KX
  go_upto_region 5 with fail
  refine wp_gen ?_
  intro w8 hw8
  have HB78 := Lib.hid (show Below w7.heap.size w7 w8 by rw [hw8]; exact below_one w7 _)
  have M8 := (show w8.heap[w7.heap.size]? = some (.cells #[.slice bC u.C.length eC, .slice bL u.L.length eL, .int .i64 u.m] 24 (0, 0)) by rw [hw8]; exact new_one w7 _)
  have hm8 : w7.heap.size < w8.heap.size := lt_of_heap M8
  have HB68 := Lib.hid (HB67.out.trans (HB78.out.mono HB67.out.size))
  have HB58 := Lib.hid (HB56.out.trans (HB68.out.mono HB56.out.size))
  have HB8 := Lib.hid (HB5.out.trans (HB58.out.mono HB5.out.size))
  have hs67 := HB67.out.size
  have M68 := (HB68.out.block _ hm6).trans M6.out
  have KR2 := Lib.hid (KR.out aC aL bC bL dC dL eC eL w7.heap.size w8 ((HAC.out.below HB58.out (Nat.le_refl _)).mono (by omega)) ((HAL.out.below HB58.out (Nat.le_refl _)).mono (by omega)) (HBC.out.below HB78.out (Nat.le_refl _)) (HBL.out.below HB78.out (Nat.le_refl _)) (Nat.le_of_lt hm8))
  have hrr : (r == r) = true := by simp
  have c0 := blk_cell M68 0 rfl
  have c1 := blk_cell M68 1 rfl
  have c2 := blk_cell M68 2 rfl
  have d0 := blk_cell M8 0 rfl
  have d1 := blk_cell M8 1 rfl
  have d2 := blk_cell M8 2 rfl
  clear hw8 M8 M68 HB5 HB56 HB67 HB78 HB58 HBC HBL HAC HAL M6 KR HB68
  go_wp2_with fail
  refine KR2.out.mono ?_
  rintro e w9 ⟨rfl, hB9⟩
  have HB9 := Lib.hid (HB8.out.trans (hB9.mono HB8.out.size))
  clear hB9 c0 c1 c2 d0 d1 d2
  go_wp2_with fail
  refine (KW.out w9 HB9.out).mono ?_
  rintro e w12 ⟨rfl, hB12⟩
  have HB12 := Lib.hid (HB9.out.trans (hB12.mono HB9.out.size))
  clear hB12
  go_wp2_with fail
  go_ret
  exact ⟨rfl, HB12.out⟩
end Go.Proofs.YtchamkbnapjidaaDoor
