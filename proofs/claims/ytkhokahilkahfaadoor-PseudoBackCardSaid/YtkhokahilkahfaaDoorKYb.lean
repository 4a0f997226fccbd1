/- The law: texts are read back. -/
import Derived.Test.YtkhokahilkahfaaDoorKYa
import Derived.Deep.DeepCutAuto
namespace Go.Proofs.YtkhokahilkahfaaDoor
open Go.RowKit

theorem print_err (s : PS) : (printS s).2 = checkS s 128 := by
  unfold printS; split
  · rfl
  · rename_i h; exact (Decidable.not_not.1 h).symm
theorem parse_some {l : List UInt8} {s : PS} (h : parseS l = some s) : parseR2 l = (s, 0) := by unfold parseR2; rw [h]
theorem parse_none {l : List UInt8} (h : parseS l = none) : parseR2 l = (.zero, 5) := by unfold parseR2; rw [h]
theorem gPrintFrom (N : Nat) (s : PS) (ca la : Option Addr) (cc lc : Nat) (hcl : s.C.length ≤ 100000000000000) (hll : s.L.length ≤ 100000000000000) (w : World) (hT : Tab w) (hC : AtN N w ca (ints s.C)) (hL : AtN N w la (ints s.L)) (hw : N ≤ w.heap.size) :
    GivesFrom w 29 #[sumV ca cc la lc s] (.tuple #[.string ⟨(printS s).1.toArray⟩, .int .i64 (printS s).2]) := fun w1 hb => gPrint N s ca la cc lc hcl hll w1 (hT.below hb) (hC.below hb hw) (hL.below hb hw) (Nat.le_trans hw hb.size)

set_option maxHeartbeats 3200000 in
set_option maxRecDepth 100000 in
/-- The second half: a text that is read has the text. -/
theorem back_law (s : PS) (l : List UInt8) (ca la : Option Addr) (cc lc : Nat) (hcl : s.C.length ≤ 20000000000000) (hll : s.L.length ≤ 20000000000000) (w : World) (hT : Tab w) (hC : AtN w.heap.size w ca (ints s.C)) (hL : AtN w.heap.size w la (ints s.L)) :
    Calls Tryd.prog 13 #[sumV ca cc la lc s, .string ⟨l.toArray⟩] w fun e w' => e = .returned (.bool true) ∧ Below w.heap.size w w' := by
  have KL := gLight s ca la cc lc hcl hll
  have HT := Lib.hid hT
  have KW := Lib.hid (gWorksFrom hT)
  have KC := Lib.hid (gCheckFrom _ s 128 ca la cc lc (by omega) (by omega) w hC hL (Nat.le_refl _))
  have KP := Lib.hid (gPrintFrom _ s ca la cc lc (by omega) (by omega) w hT hC hL (Nat.le_refl _))
  have HC := Lib.hid hC
  have HL := Lib.hid hL
  have KR := Lib.hid (fun (h : l.length ≤ 5000) (w1 : World) => gParse l w1 (by omega))
  have HPO := Lib.hid (fun (s : PS) (h : parseS l = some s) => text_parse h)
  have HPE := Lib.hid (print_err s)
  rw [print_err] at KP
  have hsz : (⟨l.toArray⟩ : ByteArray).size = l.length := ba_size l
  unfold sumV at *
  generalize hq : lightB s = q at *
  clear hT hC hL
  cases q with
  | false =>
    go_enter Tryd.func13, Tryd.ntmps13
    go_wp2_with fail
    refine calls_gen fun w1 hw1 => ?_
    have HB1 := Lib.hid (show Below w.heap.size w w1 by rw [hw1]; exact below_one _ _)
    clear hw1
    refine (KL w1).mono ?_
    rintro e w2 ⟨rfl, hB2⟩
    have HB2 := Lib.hid (HB1.out.trans (hB2.mono HB1.out.size))
    clear hB2 HB1
    go_wp2_with fail
    refine (KW.out w2 HB2.out).mono ?_
    rintro e w3 ⟨rfl, hB3⟩
    have HB3 := Lib.hid (HB2.out.trans (hB3.mono HB2.out.size))
    clear hB3
    go_wp2_with fail
    go_ret
    exact ⟨rfl, HB3.out⟩
  | true =>
  by_cases ht : 5000 < l.length
  · have htd : decide ((5000 : Int) < (l.length : Int)) = true := decide_eq_true (by omega)
    go_enter Tryd.func13, Tryd.ntmps13
    go_wp2_with fail
    refine calls_gen fun w1 hw1 => ?_
    have HB1 := Lib.hid (show Below w.heap.size w w1 by rw [hw1]; exact below_one _ _)
    clear hw1
    refine (KL w1).mono ?_
    rintro e w2 ⟨rfl, hB2⟩
    have HB2 := Lib.hid (HB1.out.trans (hB2.mono HB1.out.size))
    clear hB2 HB1
    go_wp2_with fail
    refine (KW.out w2 HB2.out).mono ?_
    rintro e w3 ⟨rfl, hB3⟩
    have HB3 := Lib.hid (HB2.out.trans (hB3.mono HB2.out.size))
    clear hB3
    go_wp2_with fail
    go_ret
    exact ⟨rfl, HB3.out⟩
  have htd : decide ((5000 : Int) < (l.length : Int)) = false := decide_eq_false (by omega)
  have KR2 := Lib.hid (KR.out (by omega))
  clear KR ht hq
  go_enter Tryd.func13, Tryd.ntmps13
  go_wp2_with fail
  refine calls_gen fun w1 hw1 => ?_
  have HB1 := Lib.hid (show Below w.heap.size w w1 by rw [hw1]; exact below_one _ _)
  have M1 := (show w1.heap[w.heap.size]? = some (.cells #[.slice ca s.C.length cc, .slice la s.L.length lc, .int .i64 s.m] 24 (0, 0)) by rw [hw1]; exact new_one _ _)
  clear hw1
  refine (KL w1).mono ?_
  rintro e w2 ⟨rfl, hB2⟩
  have HB2 := Lib.hid (HB1.out.trans (hB2.mono HB1.out.size))
  have M2 := Lib.hid ((behind_of_below hB2).keep M1 (by simp))
  clear hB2 HB1 M1 KL
  have c0 := blk_cell M2.out 0 rfl
  have c1 := blk_cell M2.out 1 rfl
  have c2 := blk_cell M2.out 2 rfl
  go_wp2_with fail
  refine (KP.out w2 HB2.out).mono ?_
  rintro e w3 ⟨rfl, hB3⟩
  have HB3 := Lib.hid (HB2.out.trans (hB3.mono HB2.out.size))
  have M3 := Lib.hid ((behind_of_below hB3).keep M2.out (by simp))
  clear hB3 c0 c1 c2
  have c0 := blk_cell M3.out 0 rfl
  have c1 := blk_cell M3.out 1 rfl
  have c2 := blk_cell M3.out 2 rfl
  go_wp2_with fail
  refine (KC.out w3 HB3.out).mono ?_
  rintro e w4 ⟨rfl, hB4⟩
  have HB4 := Lib.hid (HB3.out.trans (hB4.mono HB3.out.size))
  have M4 := Lib.hid ((behind_of_below hB4).keep M3.out (by simp))
  clear hB4 c0 c1 c2 KP
  have HCK := Lib.hid (show checkS s 128 = checkS s 128 ∧ (printS s).1 = (printS s).1 from ⟨rfl, rfl⟩)
  obtain ⟨ck, hck⟩ : ∃ ck, ck = checkS s 128 := ⟨_, rfl⟩
  obtain ⟨tx, htx⟩ : ∃ tx, tx = (printS s).1 := ⟨_, rfl⟩
  rw [← hck, ← htx]
  have HK := Lib.hid hck
  have HX := Lib.hid htx
  clear hck htx HCK KC HPE
  go_upto_if 31 with fail
  go_cut [] (fun wx => Hid (Below w4.heap.size w4 wx))
  case first =>
    by_cases hc : ck = 0
    case neg =>
      have hcd : (ck == 0) = false := beq_no hc
      go_wp2_with fail
      go_meet
      case rel => exact Below.refl _ _
    subst hc
    have hc : checkS s 128 = 0 := HK.out.symm
    have hOk := check_ok.1 hc
    have hpt := parse_text hOk
    have hx : tx = textS s := HX.out.trans (by unfold printS; rw [if_neg (by simpa using hc)])
    have hxl : (textS s).length ≤ 1000000 := by have := text_len hOk; omega
    have KQ := Lib.hid (gParse (textS s) w4 hxl)
    rw [parse_some hpt, ← hx] at KQ
    have HLC := Lib.hid (show s.L.length = s.C.length by have := hOk.len; omega)
    have hl64 : s.C.length ≤ 64 := hOk.l64
    have hlL : s.L.length ≤ 64 := by have := HLC.out; omega
    clear hx hxl hpt hc hOk
    go_wp2_with fail
    refine KQ.out.mono ?_
    rintro e w5 ⟨vC, vL, rfl, h2, h3⟩
    have HB5 := Lib.hid h3
    have HB5' := Lib.hid (HB4.out.trans (h3.mono HB4.out.size))
    have M5 := Lib.hid ((behind_of_below h3).keep M4.out (by simp))
    obtain ⟨aC, dC, hvC, hAC⟩ := own_at h2.o1
    obtain ⟨aL, dL, hvL, hAL⟩ := own_at h2.o2
    subst hvC
    subst hvL
    have HAC := Lib.hid hAC
    have HAL := Lib.hid hAL
    have hmb := lt_of_heap M5.out
    have c0 := blk_cell M5.out 0 rfl
    have c1 := blk_cell M5.out 1 rfl
    have c2 := blk_cell M5.out 2 rfl
    clear h2 h3 hAC hAL KQ
    go_wp2_with fail
    refine wp_gen ?_
    intro w6 hw6
    have HB56 := (show Below w5.heap.size w5 w6 by rw [hw6]; exact below_one _ _)
    have N6 := Lib.hid (show w6.heap[w5.heap.size]? = some (.cells #[.slice aC s.C.length dC, .slice aL s.L.length dL, .int .i64 s.m] 24 (0, 0)) by rw [hw6]; exact new_one _ _)
    have M6 := Lib.hid ((behind_of_below HB56).keep M5.out (by simp))
    have HB6 := Lib.hid (HB5.out.trans (HB56.mono HB5.out.size))
    have HB56' := Lib.hid HB56
    have hw5s := HB5.out.size
    have hw4s := HB4.out.size
    clear hw6 HB56 c0 c1 c2
    go_loopw [67] (fun t67 wr => ∃ j : Nat, j ≤ s.L.length ∧ t67 = .int .i64 j ∧ Hid (Below w6.heap.size w6 wr)) (fun t67 _ => s.L.length - (intOf t67).toNat)
    case atStart => exact ⟨0, Nat.zero_le _, rfl, Below.refl _ _⟩
    case round =>
      obtain ⟨j, hj, rfl, HB⟩ := hrel
      have NR := Lib.hid ((behind_of_below HB.out).keep N6.out (by simp))
      have MR := Lib.hid ((behind_of_below HB.out).keep M6.out (by simp))
      have hw6s := HB56'.out.size
      have hwrs := HB.out.size
      by_cases hlt : j < s.L.length
      · have hdd : decide (j < s.L.length) = true := by simpa using hlt
        have hyy : s.L[j]? = some (s.L.getD j 0) := by simp [List.getD, hlt]
        have hlC : j < s.C.length := by have := HLC.out; omega
        have hcc : s.C[j]? = some (s.C.getD j 0) := by simp [List.getD, hlC]
        obtain ⟨b1, o1, hb1, e1, k1⟩ := HL.out _ _ (ints_get _ _ _ hyy)
        obtain ⟨b2, o2, hb2, e2, k2⟩ := HC.out _ _ (ints_get _ _ _ hcc)
        obtain ⟨b3, o3, hb3, e3, k3⟩ := HAL.out _ _ (ints_get _ _ _ hyy)
        obtain ⟨b4, o4, hb4, e4, k4⟩ := HAC.out _ _ (ints_get _ _ _ hcc)
        subst e1 e2 e3 e4
        have hb5r := (HB56'.out.trans (HB.out.mono HB56'.out.size))
        have hb4r := HB4.out.trans ((HB5.out.trans (hb5r.mono HB5.out.size)).mono HB4.out.size)
        have d1 := Lib.hid (below_cell hb4r (show b1 < w.heap.size by omega) k1)
        have d2 := Lib.hid (below_cell hb4r (show b2 < w.heap.size by omega) k2)
        have d3 := Lib.hid (below_cell hb5r (show b3 < w5.heap.size by omega) k3)
        have d4 := Lib.hid (below_cell hb5r (show b4 < w5.heap.size by omega) k4)
        generalize s.L.getD j 0 = y at *
        generalize s.C.getD j 0 = c at *
        clear k1 k2 k3 k4 hyy hcc hb4r hb5r
        go_wp2_with fail
        go_upto_region 13 with fail
        go_cut [93] (fun t93 wx => t93 = .bool false ∧ Hid (Below wr.heap.size wr wx))
        case first =>
          refine wp_game (List.replicate 24 0) [] B0 fin_B0 (has_B0 _) (by kernel_rfl) (by kernel_rfl) ?_
          refine lex_quietE 24 (by kernel_rfl) (by rfl) ?_
          apply Exists.intro
          refine ⟨fun z hz1 => ?_, ?_⟩
          · have hzb := hz1.below
            have g0 := blk_cellp (hz1.keep NR.out (by simp)) 0 rfl
            have g1 := blk_cellp (hz1.keep NR.out (by simp)) 1 rfl
            have g2 := blk_cellp (hz1.keep MR.out (by simp)) 0 rfl
            have g3 := blk_cellp (hz1.keep MR.out (by simp)) 1 rfl
            have g4 := below_cellp hzb d1.out (by omega)
            have g5 := below_cellp hzb d2.out (by omega)
            have g6 := below_cellp hzb d3.out (by omega)
            have g7 := below_cellp hzb d4.out (by omega)
            clear hz1
            simp only [List.take_succ_cons, List.take_zero]
            unfold Cx
            repeat (go_big_quiet_step (fail))
            exact wpQuiet_nil rfl
          simp only [List.drop_succ_cons, List.drop_zero]
          refine lex_nil ?_
          intro x2 hx2 _
          have HX2 := Lib.hid hx2.below
          clear hx2
          go_wp2_with fail
          go_meet
          case rel => exact ⟨rfl, HX2.out⟩
        case rest =>
        obtain ⟨rfl, HX⟩ := hcut
        go_wp2_with fail
        go_roundw
        case rel => exact ⟨j + 1, by omega, by go_num, HB.out.trans (HX.out.mono HB.out.size)⟩
        case measure => simp [intOf]; omega
      · obtain rfl : j = s.L.length := by omega
        have hdd : decide (s.L.length < s.L.length) = false := by simp
        go_wp2_with fail
        go_meet
        case rel => exact HB6.out.trans (HB.out.mono HB6.out.size)
  case rest =>
  have HB7 := Lib.hid (HB4.out.trans (hcut.out.mono HB4.out.size))
  obtain ⟨w7, hw7⟩ : ∃ w7, w7 = wc := ⟨_, rfl⟩
  subst hw7
  clear hcut M4 HB4
  cases hp : parseS l with
  | none =>
    have KQ := KR2.out w7
    rw [parse_none hp] at KQ
    have KQ2 := Lib.hid KQ
    clear KQ KR2 hp
    go_wp2_with fail
    refine KQ2.out.mono ?_
    rintro e w8 ⟨vC, vL, rfl, h2, h3⟩
    have HB8 := Lib.hid (HB7.out.trans (h3.mono HB7.out.size))
    obtain ⟨aC, dC, hvC, _⟩ := own_at h2.o1
    obtain ⟨aL, dL, hvL, _⟩ := own_at h2.o2
    subst hvC
    subst hvL
    clear h2 h3 KQ2
    simp only [PS.zero]
    go_wp2_with fail
    refine calls_gen fun w9 hw9 => ?_
    have HB9 := Lib.hid (show Below w.heap.size w w9 by rw [hw9]; exact HB8.out.trans ((below_one w8 _).mono HB8.out.size))
    clear hw9
    refine (KW.out w9 HB9.out).mono ?_
    rintro e w10 ⟨rfl, hB⟩
    have HB10 := Lib.hid (HB9.out.trans (hB.mono HB9.out.size))
    clear hB
    go_wp2_with fail
    go_ret
    exact ⟨rfl, HB10.out⟩
  | some u =>
    have KQ := KR2.out w7
    rw [parse_some hp] at KQ
    have KQ2 := Lib.hid KQ
    have hu := (HPO.out u hp).2
    have hul : u.C.length ≤ 64 ∧ u.L.length ≤ 64 := by have := hu.len; have := hu.l64; omega
    have HSH := Lib.hid (shown_of hp)
    clear KQ KR2 hp hu
    go_wp2_with fail
    refine KQ2.out.mono ?_
    rintro e w8 ⟨vC, vL, rfl, h2, h3⟩
    have HB8 := Lib.hid (HB7.out.trans (h3.mono HB7.out.size))
    obtain ⟨aC, dC, hvC, hAC⟩ := own_at h2.o1
    obtain ⟨aL, dL, hvL, hAL⟩ := own_at h2.o2
    subst hvC
    subst hvL
    have KS := Lib.hid (fun (w9 : World) (hb : Below w8.heap.size w8 w9) => gShown w8.heap.size u 0 aC aL dC dL (by omega) (by omega) w9 (HT.out.below (HB8.out.trans (hb.mono HB8.out.size))) (hAC.below hb (Nat.le_refl _)) (hAL.below hb (Nat.le_refl _)) hb.size)
    rw [HSH.out] at KS
    unfold sumV at KS
    clear h2 h3 KQ2 hAC hAL
    simp only []
    go_wp2_with fail
    refine calls_gen fun w9 hw9 => ?_
    have HB89 := Lib.hid (show Below w8.heap.size w8 w9 by rw [hw9]; exact below_one w8 _)
    have HB9 := Lib.hid (HB8.out.trans (HB89.out.mono HB8.out.size))
    clear hw9
    refine (KS.out w9 HB89.out).mono ?_
    rintro e w10 ⟨rfl, hB⟩
    have HB10 := Lib.hid (HB9.out.trans (hB.mono HB9.out.size))
    clear hB KS
    go_wp2_with fail
    refine (KW.out w10 HB10.out).mono ?_
    rintro e w11 ⟨rfl, hB⟩
    have HB11 := Lib.hid (HB10.out.trans (hB.mono HB10.out.size))
    clear hB
    go_wp2_with fail
    go_ret
    exact ⟨rfl, HB11.out⟩
end Go.Proofs.YtkhokahilkahfaaDoor
