/- The law: what a term leaves of a small sum says the same where the term is true. -/
import Derived.Test.YtflfpkjnkeflcaaDoorKYm
import Derived.Test.YtflfpkjnkeflcaaDoorKI
import Derived.Test.YtflfpkjnkeflcaaDoorSG
import Derived.Deep.DeepCutAuto
namespace Go.Proofs.YtflfpkjnkeflcaaDoor
open Go.RowKit

theorem given_good {s : PS} {n : Int} {t : List Int} (h : s.Ok n) (ht : termOk t n = true) : givenS s t n = (gSum s t, 0) := by
  unfold givenS
  rw [if_neg (by simpa using check_ok.2 h), if_neg (by simp [ht])]
  rfl
theorem term_good {t : List Int} {n : Int} (h1 : ∀ l ∈ t, l ≠ 0 ∧ absI l ≤ n) (h2 : ∀ l ∈ t, -l ∉ t) : termOk t n = true := by
  unfold termOk
  rw [Bool.and_eq_true, List.all_eq_true, List.all_eq_true]
  refine ⟨fun l hl => litOk_iff.2 ?_, fun l hl => ?_⟩
  · have := h1 l hl
    unfold absI at this
    split at this <;> omega
  · have := h2 l hl
    simpa using this
theorem term_more {t : List Int} {d : Nat} (h1 : ∀ l ∈ t, l ≠ 0 ∧ absI l < (d : Int) + 1) (h2 : ∀ l ∈ t, -l ∉ t) {l : Int} (hl : absI l = (d : Int) + 1) : (∀ m ∈ t ++ [l], m ≠ 0 ∧ absI m < ((d + 1 : Nat) : Int) + 1) ∧ ∀ m ∈ t ++ [l], -m ∉ t ++ [l] := by
  have hz : l ≠ 0 := fun h => by subst h; simp [absI] at hl; omega
  have hn : ∀ m : Int, absI (-m) = absI m := fun m => by unfold absI; split <;> split <;> omega
  refine ⟨fun m hm => ?_, fun m hm hm2 => ?_⟩
  · rcases List.mem_append.1 hm with h | h
    · have := h1 m h; exact ⟨this.1, by omega⟩
    · have : m = l := by simpa using h
      subst this; exact ⟨hz, by omega⟩
  · rcases List.mem_append.1 hm with h | h <;> rcases List.mem_append.1 hm2 with h' | h'
    · exact h2 m h h'
    · have e : -m = l := by simpa using h'
      have := h1 m h
      have e2 := hn m
      rw [e] at e2
      omega
    · have e : m = l := by simpa using h
      subst e
      have := h1 _ h'
      have e2 := hn m
      omega
    · have e : m = l := by simpa using h
      subst e
      have e : -m = m := by simpa using h'
      omega

theorem shr_bit {j : Nat} (hj : j < 18446744073709551616) (e : Nat) : (bits BinOp.and IntKind.u64 ((j : Int) / 2 ^ e) 1 == 1) = j.testBit e := by
  have e1 : (j : Int) / 2 ^ e = ((j / 2 ^ e : Nat) : Int) := by rw [Int.natCast_ediv, Int.natCast_pow]; rfl
  have h1 := u64_and_nat (j / 2 ^ e) 1 (Nat.lt_of_le_of_lt (Nat.div_le_self _ _) hj) (by omega)
  rw [e1, show (1 : Int) = ((1 : Nat) : Int) from rfl, h1, Nat.and_one_is_mod, Nat.testBit_eq_decide_div_mod_eq]
  rcases Nat.mod_two_eq_zero_or_one (j / 2 ^ e) with h | h <;> rw [h] <;> rfl

set_option maxHeartbeats 6400000 in
set_option maxRecDepth 100000 in
theorem conditions_law (s : PS) (k : Nat) (hk : k < 256) (x : Nat) (hx : x < 256) (y : Nat) (hy : y < 256) (ca la : Option Addr) (cc lc : Nat) (hcl : s.C.length ≤ 20000000000000) (hll : s.L.length ≤ 20000000000000) (hLi : ∀ z ∈ s.L, -9223372036854775808 ≤ z ∧ z ≤ 9223372036854775807) (w : World) (hT : Tab w) (hC : AtN w.heap.size w ca (ints s.C)) (hL : AtN w.heap.size w la (ints s.L)) :
    Calls Tryd.prog 4 #[sumV ca cc la lc s, .int .u8 (k : Int), .int .u8 (x : Int), .int .u8 (y : Int)] w fun e w' => e = .returned (.bool true) ∧ Below w.heap.size w w' := by
  obtain ⟨r, hr, hr8⟩ : ∃ r : Nat, (k : Int) % 8 = (r : Int) ∧ r < 8 := ⟨k % 8, (Int.natCast_emod k 8).symm, Nat.mod_lt _ (by omega)⟩
  have hn : ((1 + r : Nat) : Int) = 1 + (r : Int) := by omega
  have KL := gLight s ca la cc lc hcl hll
  have KW := Lib.hid (gWorksFrom hT)
  have KF := Lib.hid (fun (w1 : World) (hb : Below w.heap.size w w1) => gFew w.heap.size s (1 + r) (by omega) (by omega) ca la cc lc hcl hll hLi w1 (hC.below hb (Nat.le_refl _)) (hL.below hb (Nat.le_refl _)) hb.size)
  have hU := few_ok s (n := 1 + r) (by omega) (by omega)
  rw [hn] at KF hU
  have HU := Lib.hid hU
  have HR := Lib.hid hr
  generalize fewS s (1 + r) = u at *
  unfold sumV at *
  generalize lightB s = q at *
  generalize s.C.length = a at *
  generalize s.L.length = b at *
  clear hT hC hL hU hn hr
  cases q with
  | false =>
    go_enter Tryd.func4, Tryd.ntmps4
    go_wp2_with fail
    refine calls_gen fun w1 hw1 => ?_
    have HB1 := Lib.hid (show Below w.heap.size w w1 by rw [hw1]; exact below_one _ _)
    clear hw1
    refine (KL w1).mono ?_
    rintro e w2 ⟨rfl, hB2⟩
    have HB2 := Lib.hid (HB1.out.trans (hB2.mono HB1.out.size))
    clear hB2 HB1
    go_wp2_with fail
    refine (KW.out w2 HB2.out).mono ?_
    rintro e w3 ⟨rfl, hB3⟩
    have HB3 := Lib.hid (HB2.out.trans (hB3.mono HB2.out.size))
    clear hB3
    go_wp2_with fail
    go_ret
    exact ⟨rfl, HB3.out⟩
  | true =>
  go_enter Tryd.func4, Tryd.ntmps4
  go_wp2_with fail
  refine calls_gen fun w1 hw1 => ?_
  have HB1 := Lib.hid (show Below w.heap.size w w1 by rw [hw1]; exact below_one _ _)
  have M1 := (show w1.heap[w.heap.size]? = some (.cells #[.slice ca a cc, .slice la b lc, .int .i64 s.m] 24 (0, 0)) by rw [hw1]; exact new_one _ _)
  clear hw1
  refine (KL w1).mono ?_
  rintro e w2 ⟨rfl, hB2⟩
  have HB2 := Lib.hid (HB1.out.trans (hB2.mono HB1.out.size))
  have M2 := Lib.hid ((behind_of_below hB2).keep M1 (by simp))
  clear hB2 HB1 M1 KL
  have c0 := blk_cell M2.out 0 rfl
  have c1 := blk_cell M2.out 1 rfl
  have c2 := blk_cell M2.out 2 rfl
  have hkk : (k : Int) % 8 = (r : Int) := HR.out
  go_wp2_with fail
  refine (KF.out w2 HB2.out).mono ?_
  rintro e w3 ⟨vC, vL, rfl, h2, h3⟩
  have HB3 := Lib.hid (HB2.out.trans (h3.mono HB2.out.size))
  have hm3 := (behind_of_below h3).keep M2.out (by simp)
  have hmb := lt_of_heap M2.out
  clear c0 c1 c2 KF
  have f0 := blk_free hm3 0
  have f1 := blk_free hm3 1
  have f2 := blk_free hm3 2
  have c0 := blk_cell hm3 0 rfl
  have c1 := blk_cell hm3 1 rfl
  have c2 := blk_cell hm3 2 rfl
  have M3 := Lib.hid hm3
  obtain ⟨pC, cC, hvC, _⟩ := own_at h2.o1
  obtain ⟨pL, cL, hvL, _⟩ := own_at h2.o2
  subst hvC
  subst hvL
  have HT3 := Lib.hid h2
  have hs2 := HB2.out.size
  clear hm3 h2 h3
  go_wp2_with fail
  refine wp_gen ?_
  intro w4 hw4
  have HB4 := Lib.hid (show Below w.heap.size w w4 by rw [hw4]; exact HB3.out.trans (three_below (Nat.le_refl _)))
  have M4 := Lib.hid (show w4.heap[w.heap.size]? = some (.cells #[.slice pC u.C.length cC, .slice pL u.L.length cL, .int .i64 u.m] 24 (0, 0)) by rw [hw4]; exact three_set M3.out)
  have h2 : Two w4 w2.heap.size (.slice pC u.C.length cC) u.C (.slice pL u.L.length cL) u.L := by rw [hw4]; exact HT3.out.keepU three_behind (fun g hg => by simp at hg; omega)
  clear hw4 c0 c1 c2 f0 f1 f2 M3 HB3 HT3
  obtain ⟨pC, cC, hvC, hAC⟩ := own_at h2.o1
  obtain ⟨pL, cL, hvL, hAL⟩ := own_at h2.o2
  cases hvC
  cases hvL
  have HAC := Lib.hid hAC
  have HAL := Lib.hid hAL
  have hul : u.C.length ≤ 64 := HU.out.l64
  have HLC := Lib.hid (show u.L.length = u.C.length by have := HU.out.len; omega)
  have hul2 : u.L.length ≤ 64 := by have := HLC.out; omega
  clear h2 hAC hAL HB2 M2
  obtain ⟨i0, ii, iz0, iz1, iz2⟩ := info_parts Tryd.infoInt
  have II := Lib.hid ii
  have IZ0 := Lib.hid iz0
  have IZ1 := Lib.hid iz1
  have IZ2 := Lib.hid iz2
  clear ii iz0 iz1 iz2
  have hm4 := lt_of_heap M4.out
  go_loopw [11, 10] (fun t11 t10 wr => ∃ (d : Nat) (T : List Int), d ≤ r + 1 ∧ t11 = .int .i64 ((d : Int) + 1) ∧ T.length ≤ d ∧ Hid (OwnI wr w4.heap.size [] t10 T) ∧ Hid (∀ l ∈ T, l ≠ 0 ∧ absI l < (d : Int) + 1) ∧ Hid (∀ l ∈ T, -l ∉ T) ∧ Hid (Below w4.heap.size w4 wr)) (fun t11 _ _ => r + 2 - (intOf t11).toNat)
  case atStart => exact ⟨0, [], Nat.zero_le _, rfl, Nat.le_refl _, ⟨.nil, by simp [rowBlk], by simp [rowBlk]⟩, by simp [Hid], by simp [Hid], Below.refl _ _⟩
  case round =>
    obtain ⟨d, T, hd, rfl, hTl, HO, HT1, HT2, HB⟩ := hrel
    by_cases hlt : d < r + 1
    · have hdd : decide ((d : Int) + 1 ≤ 1 + (r : Int)) = true := decide_eq_true (by omega)
      go_upto_region 10 with fail
      go_cut [42] (fun t42 wx => (∃ bb : Bool, t42 = .bool bb) ∧ wr = wx)
      case first =>
        go_wp2_with fail
        go_meet
        case rel => exact ⟨⟨_, rfl⟩, rfl⟩
      case rest =>
      obtain ⟨⟨bb, rfl⟩, rfl⟩ := hcut
      cases bb with
      | false =>
        go_upto_region 12 with fail
        go_cut [51] (fun t51 wx => (∃ bb : Bool, t51 = .bool bb) ∧ wr = wx)
        case first =>
          go_wp2_with fail
          go_meet
          case rel => exact ⟨⟨_, rfl⟩, rfl⟩
        case rest =>
        obtain ⟨⟨bb, rfl⟩, rfl⟩ := hcut
        cases bb with
        | false =>
          go_wp2_with fail
          go_roundw
          case rel => exact ⟨d + 1, T, by omega, by go_num, by omega, HO.out, fun l hl => by have := HT1.out l hl; omega, HT2.out, HB.out⟩
          case measure => simp [intOf]; omega
        | true =>
          have hTM := term_more HT1.out HT2.out (l := (d : Int) + 1) (d := d) (by unfold absI; split <;> omega)
          have HTM := Lib.hid hTM
          clear hTM
          go_wp2_with (at_builtin; refine wpList_append_row _ rfl _ _ 22 rfl 3 i0 (.int .i64 0) 1 8 Tryd.underlying22 II.out IZ0.out IZ1.out IZ2.out rfl _ _ _ rfl (HO.out.row.keep (behind_of_below ((Below.refl _ _).alloc (Nat.le_refl _) _)) (by simp)) wr.heap.size 1 1 [.int .i64 ((d : Int) + 1)] 3 rfl (heap_alloc_new wr _) rfl (by intro u hu; simp at hu; subst hu; rfl) (by omega) (by unfold maxLen; omega) (by omega) ?_)
          intro v9 w9 hr9 hB9 hn9
          have h09 : Behind wr (rowBlk u10) w9 := ((behind_of_below ((Below.refl _ _).alloc (Nat.le_refl _) _)).mono (by simp)).trans hB9 (fun k hk => .inl hk)
          have hO9 := HO.out.grown HB.out.size (by simp) hr9 (fun g hg => (hn9 g hg).imp id (fun h => by first | omega | (simp at h; omega)))
          have HO9 := Lib.hid hO9
          have HB9 := Lib.hid (HB.out.trans (h09.below_of HO.out.ge HB.out.size))
          clear hO9 hr9 hB9 hn9 h09 HO HB
          go_wp2_with fail
          go_roundw
          case rel => exact ⟨d + 1, T ++ [(d : Int) + 1], by omega, by go_num, by simp; omega, HO9.out, HTM.out.1, HTM.out.2, HB9.out⟩
          case measure => simp [intOf]; omega

      | true =>
        go_upto_region 12 with fail
        go_cut [51] (fun t51 wx => (∃ bb : Bool, t51 = .bool bb) ∧ wr = wx)
        case first =>
          go_wp2_with fail
          go_meet
          case rel => exact ⟨⟨_, rfl⟩, rfl⟩
        case rest =>
        obtain ⟨⟨bb, rfl⟩, rfl⟩ := hcut
        cases bb with
        | false =>
          go_wp2_with fail
          go_roundw
          case rel => exact ⟨d + 1, T, by omega, by go_num, by omega, HO.out, fun l hl => by have := HT1.out l hl; omega, HT2.out, HB.out⟩
          case measure => simp [intOf]; omega
        | true =>
          have hTM := term_more HT1.out HT2.out (l := -((d : Int) + 1)) (d := d) (by unfold absI; split <;> omega)
          have HTM := Lib.hid hTM
          clear hTM
          go_wp2_with (at_builtin; refine wpList_append_row _ rfl _ _ 22 rfl 3 i0 (.int .i64 0) 1 8 Tryd.underlying22 II.out IZ0.out IZ1.out IZ2.out rfl _ _ _ rfl (HO.out.row.keep (behind_of_below ((Below.refl _ _).alloc (Nat.le_refl _) _)) (by simp)) wr.heap.size 1 1 [.int .i64 (-((d : Int) + 1))] 3 rfl (heap_alloc_new wr _) rfl (by intro u hu; simp at hu; subst hu; rfl) (by omega) (by unfold maxLen; omega) (by omega) ?_)
          intro v9 w9 hr9 hB9 hn9
          have h09 : Behind wr (rowBlk u10) w9 := ((behind_of_below ((Below.refl _ _).alloc (Nat.le_refl _) _)).mono (by simp)).trans hB9 (fun k hk => .inl hk)
          have hO9 := HO.out.grown HB.out.size (by simp) hr9 (fun g hg => (hn9 g hg).imp id (fun h => by first | omega | (simp at h; omega)))
          have HO9 := Lib.hid hO9
          have HB9 := Lib.hid (HB.out.trans (h09.below_of HO.out.ge HB.out.size))
          clear hO9 hr9 hB9 hn9 h09 HO HB
          go_wp2_with fail
          go_roundw
          case rel => exact ⟨d + 1, T ++ [-((d : Int) + 1)], by omega, by go_num, by simp; omega, HO9.out, HTM.out.1, HTM.out.2, HB9.out⟩
          case measure => simp [intOf]; omega

    · obtain rfl : d = r + 1 := by omega
      have hdd : decide (((r + 1 : Nat) : Int) + 1 ≤ 1 + (r : Int)) = false := decide_eq_false (by omega)
      have hdd2 : decide ((r : Int) + 1 + 1 ≤ 1 + (r : Int)) = false := decide_eq_false (by omega)
      have hTG := term_good (t := T) (n := 1 + (r : Int)) (fun l hl => by have := HT1.out l hl; omega) HT2.out
      have HGG := Lib.hid (given_ok T HU.out)
      have hAC := HAC.out.below HB.out (Nat.le_refl _)
      have hAL := HAL.out.below HB.out (Nat.le_refl _)
      have MR := (behind_of_below HB.out).keep M4.out (by simp)
      have hs4 := HB.out.size
      have hs0 := HB4.out.size
      have HBr := Lib.hid (HB4.out.trans (HB.out.mono HB4.out.size))
      obtain ⟨tC, dT, hvT, hAT⟩ := own_at HO.out
      subst hvT
      have hT128 : ∀ l ∈ T, l ≠ 0 ∧ -64 ≤ l ∧ l ≤ 64 := fun l hl => by
        have := HT1.out l hl
        unfold absI at this
        split at this <;> omega
      have HT8 := Lib.hid hT128
      have KG := Lib.hid (gGiven wr.heap.size u T (1 + (r : Int)) pC pL tC cC cL dT (by omega) (by omega) (by omega) wr (hAC.mono hs4) (hAL.mono hs4) hAT (Nat.le_refl _))
      have KE := Lib.hid (fun (i : Nat) (hi : i < 18446744073709551616) => gEvalFrom _ u i 0 hi (by omega) pC pL cC cL (by omega) (by omega) wr (hAC.mono hs4) (hAL.mono hs4) (Nat.le_refl _))
      rw [given_good HU.out hTG] at KG
      have HMR := Lib.hid MR
      have HAT := Lib.hid hAT
      generalize gSum u T = v at *
      have hvl : v.C.length ≤ 64 := HGG.out.1.l64
      have hvl2 : v.L.length ≤ 64 := by have := HGG.out.1.len; omega
      have hcv := check_ok.2 HGG.out.1
      unfold sumV setV at *
      clear hTG hAC hAL MR hAT hT128 HO HT1 HT2 HB M4 HAC HAL HB4
      have c0 := blk_cell HMR.out 0 rfl
      have c1 := blk_cell HMR.out 1 rfl
      have c2 := blk_cell HMR.out 2 rfl
      go_wp2_with fail
      refine KG.out.mono ?_
      rintro e w5 ⟨vC, vL, rfl, h2, h3⟩
      have HB5 := Lib.hid (HBr.out.trans (h3.mono HBr.out.size))
      have HBr5 := Lib.hid h3
      have M5 := Lib.hid ((behind_of_below h3).keep HMR.out (by simp))
      obtain ⟨qC, dC, hvC, hAC⟩ := own_at h2.o1
      obtain ⟨qL, dL, hvL, hAL⟩ := own_at h2.o2
      subst hvC
      subst hvL
      have KV := Lib.hid (fun (i : Nat) (hi : i < 18446744073709551616) => gEvalFrom _ v i 0 hi (by omega) qC qL dC dL (by omega) (by omega) w5 hAC hAL (Nat.le_refl _))
      have KK := Lib.hid (gCheckFrom _ v (1 + (r : Int)) qC qL dC dL (by omega) (by omega) w5 hAC hAL (Nat.le_refl _))
      rw [hcv] at KK
      unfold sumV setV at KV
      unfold sumV at KK
      clear h2 h3 hAC hAL KG c0 c1 c2 hcv
      go_wp2_with fail
      refine calls_gen fun w6 hw6 => ?_
      have HB56 := Lib.hid (show Below w5.heap.size w5 w6 by rw [hw6]; exact below_one w5 _)
      have N6 := Lib.hid (show w6.heap[w5.heap.size]? = some (.cells #[.slice qC v.C.length dC, .slice qL v.L.length dL, .int .i64 v.m] 24 (0, 0)) by rw [hw6]; exact new_one _ _)
      have M6 := Lib.hid ((behind_of_below HB56.out).keep M5.out (by simp))
      clear hw6
      refine (KK.out w6 HB56.out).mono ?_
      rintro e w7 ⟨rfl, hB⟩
      have HB57 := Lib.hid (HB56.out.trans (hB.mono HB56.out.size))
      have N7 := Lib.hid ((behind_of_below hB).keep N6.out (by simp))
      have M7 := Lib.hid ((behind_of_below hB).keep M6.out (by simp))
      have HB7 := Lib.hid (HB5.out.trans (HB57.out.mono HB5.out.size))
      have HBr7 := Lib.hid (HBr5.out.trans (HB57.out.mono HBr5.out.size))
      clear hB N6 M6 HB56 M5 HB5 HBr5 KK
      go_wp2_with fail
      obtain ⟨P, hP, hP1⟩ := u64_nat (2 ^ (1 + r))
      rw [hP]
      clear hP
      obtain ⟨w0, hw0⟩ : ∃ w0, w0 = wr := ⟨_, rfl⟩
      subst hw0
      have hs7 := HBr7.out.size
      have hs57 := HB57.out.size
      go_loopw [74] (fun t74 wr => ∃ j : Nat, j ≤ P ∧ t74 = .int .u64 j ∧ Hid (Below w7.heap.size w7 wr)) (fun t74 _ => P - (intOf t74).toNat)
      case atStart => exact ⟨0, Nat.zero_le _, rfl, Below.refl _ _⟩
      case round =>
        obtain ⟨j, hj, rfl, HB⟩ := hrel
        obtain ⟨wo, hwo⟩ : ∃ wo, wo = wr := ⟨_, rfl⟩
        subst hwo
        have hso := HB.out.size
        by_cases hlt : j < P
        · have hdd3 : decide (j < P) = true := by simpa using hlt
          go_wp2_with fail
          go_loopw [79, 16] (fun t79 t16 wr => ∃ (i : Nat) (f : Bool), i ≤ T.length ∧ t79 = .int .i64 i ∧ t16 = .bool f ∧ Hid (f = true → ∀ l ∈ T.take i, litB (bitS j 0) l = true) ∧ Hid (Below wo.heap.size wo wr)) (fun t79 _ _ => T.length - (intOf t79).toNat)
          case atStart => exact ⟨0, true, Nat.zero_le _, rfl, rfl, by simp [Hid], Below.refl _ _⟩
          case round =>
            obtain ⟨i, f, hi, rfl, rfl, HF, HI⟩ := hrel
            have hsi := HI.out.size
            by_cases hlt2 : i < T.length
            · have hdd4 : decide (i < T.length) = true := by simpa using hlt2
              have hyy : T[i]? = some (T.getD i 0) := by simp [List.getD, hlt2]
              have hl8 := HT8.out _ (getD_mem' hlt2)
              have HTK := Lib.hid (take_snoc hlt2)
              obtain ⟨b1, o1, hb1, e1, k1⟩ := HAT.out _ _ (ints_get _ _ _ hyy)
              subst e1
              have d1 := below_cell (HBr7.out.trans ((HB.out.trans (HI.out.mono HB.out.size)).mono HBr7.out.size)) hb1 k1
              generalize T.getD i 0 = l at *
              clear k1 hyy
              cases f with
              | false =>
                go_wp2_with fail
                go_roundw
                case rel => exact ⟨i + 1, false, by omega, by go_num, rfl, by simp [Hid], HI.out⟩
                case measure => simp [intOf]; omega
              | true =>
                go_upto_region 24 with fail
                by_cases hl : 0 < l
                · obtain ⟨e, rfl⟩ : ∃ e : Nat, l = (e : Int) + 1 := ⟨(l - 1).toNat, by omega⟩
                  have he : e < 64 := by omega
                  have hm1 : max ((e : Int) + 1) (-((e : Int) + 1)) = (e : Int) + 1 := by omega
                  have hm2 : max ((e : Int) + 1) (-1 - (e : Int)) = (e : Int) + 1 := by omega
                  have hm3 : max ((e : Int) + 1) (-(e : Int) - 1) = (e : Int) + 1 := by omega
                  have hlz : decide (0 < (e : Int) + 1) = true := decide_eq_true hl
                  go_wp2_with fail
                  go_roundw
                  case rel =>
                    refine ⟨i + 1, _, by omega, by go_num, rfl, fun hf m hm => ?_, HI.out⟩
                    rw [HTK.out, List.mem_append] at hm
                    rcases hm with h | h
                    · exact HF.out rfl m h
                    · rw [List.mem_singleton.1 h, lit_pos he]
                      rw [← shr_bit (show j < 18446744073709551616 by omega)]
                      exact hf
                  case measure => simp [intOf]; omega
                · obtain ⟨e, rfl⟩ : ∃ e : Nat, l = -(e : Int) - 1 := ⟨(-l - 1).toNat, by omega⟩
                  have he : e < 64 := by omega
                  have hm1 : max (-(e : Int) - 1) ((e : Int) + 1) = (e : Int) + 1 := by omega
                  have hm2 : max (-(e : Int) - 1) (1 + (e : Int)) = (e : Int) + 1 := by omega
                  have hm3 : max (-(e : Int) - 1) (-(-(e : Int) - 1)) = (e : Int) + 1 := by omega
                  have hlz : decide (0 < -(e : Int) - 1) = false := decide_eq_false hl
                  go_wp2_with fail
                  go_roundw
                  case rel =>
                    refine ⟨i + 1, _, by omega, by go_num, rfl, fun hf m hm => ?_, HI.out⟩
                    rw [HTK.out, List.mem_append] at hm
                    rcases hm with h | h
                    · exact HF.out rfl m h
                    · rw [List.mem_singleton.1 h, lit_neg he]
                      rw [shr_bit (show j < 18446744073709551616 by omega), show decide (1 < -(e : Int)) = false from decide_eq_false (by omega)] at hf
                      simpa using hf
                  case measure => simp [intOf]; omega
            · obtain rfl : i = T.length := by omega
              have hdd4 : decide (T.length < T.length) = false := by simp
              have HBI := Lib.hid (HB.out.trans (HI.out.mono HB.out.size))
              cases f with
              | false =>
                go_upto_region 26 with fail
                refine wp_game (List.replicate 12 0) [] B0 fin_B0 (has_B0 _) (by kernel_rfl) (by kernel_rfl) ?_
                refine lex_quietE 12 (by kernel_rfl) (by rfl) ?_
                apply Exists.intro
                refine ⟨fun z hz1 => ?_, ?_⟩
                · have hzb := hz1.below
                  clear hz1
                  simp only [List.take_succ_cons, List.take_zero]
                  unfold Cx
                  repeat (go_big_quiet_step (fail))
                  exact wpQuiet_nil rfl
                simp only [List.drop_succ_cons, List.drop_zero]
                refine lex_nil ?_
                intro x2 hx2 _
                have HBf := Lib.hid (HB.out.trans ((HI.out.trans (hx2.below.mono HI.out.size)).mono HB.out.size))
                clear hx2
                go_wp2_with fail
                go_roundw
                case rel => exact ⟨j + 1, by omega, by go_num, HBf.out⟩
                case measure => simp [intOf]; omega
              | true =>
                have hev := HGG.out.2.2 (litB (bitS j 0)) (litB_sound j 0) (by have h := HF.out rfl; rw [List.take_length] at h; exact h)
                have NR := Lib.hid ((behind_of_below HBI.out).keep N7.out (by simp))
                have MR := Lib.hid ((behind_of_below HBI.out).keep M7.out (by simp))
                have KA := (KE.out j (by omega)).from (HBr7.out.trans (HBI.out.mono HBr7.out.size))
                have KB := (KV.out j (by omega)).from (HB57.out.trans (HBI.out.mono HB57.out.size))
                rw [hev] at KB
                rw [show ((0 : Nat) : Int) = 0 from rfl] at KA KB
                generalize evalS u (litB (bitS j 0)) = q at *
                go_upto_region 26 with fail
                refine wp_game (List.replicate 12 0) [] B0 fin_B0 (has_B0 _) (by kernel_rfl) (by kernel_rfl) ?_
                refine lex_quietE 12 (by kernel_rfl) (by rfl) ?_
                apply Exists.intro
                refine ⟨fun z hz1 => ?_, ?_⟩
                · have hzb := hz1.below
                  have g0 := blk_cellp (hz1.keep MR.out (by simp)) 0 rfl
                  have g1 := blk_cellp (hz1.keep MR.out (by simp)) 1 rfl
                  have g2 := blk_cellp (hz1.keep MR.out (by simp)) 2 rfl
                  have g3 := blk_cellp (hz1.keep NR.out (by simp)) 0 rfl
                  have g4 := blk_cellp (hz1.keep NR.out (by simp)) 1 rfl
                  have g5 := blk_cellp (hz1.keep NR.out (by simp)) 2 rfl
                  clear hz1
                  simp only [List.take_succ_cons, List.take_zero]
                  unfold Cx
                  repeat (go_big_quiet_step (first | with_reducible exact KA.at2 hzb _ | with_reducible exact KB.at2 hzb _))
                  exact wpQuiet_nil rfl
                simp only [List.drop_succ_cons, List.drop_zero]
                refine lex_nil ?_
                intro x2 hx2 _
                have HBf := Lib.hid (HB.out.trans ((HI.out.trans (hx2.below.mono HI.out.size)).mono HB.out.size))
                clear hx2
                go_wp2_with fail
                go_roundw
                case rel => exact ⟨j + 1, by omega, by go_num, HBf.out⟩
                case measure => simp [intOf]; omega
        · obtain rfl : j = P := by omega
          have hdd3 : decide (j < j) = false := by simp
          have HB9 := Lib.hid (HB7.out.trans (HB.out.mono HB7.out.size))
          go_wp2_with fail
          refine (KW.out wo HB9.out).mono ?_
          rintro e w9 ⟨rfl, hB⟩
          have HB10 := Lib.hid (HB9.out.trans (hB.mono HB9.out.size))
          clear hB
          go_wp2_with fail
          go_ret
          exact ⟨rfl, HB10.out⟩
end Go.Proofs.YtflfpkjnkeflcaaDoor
