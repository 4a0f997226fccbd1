/- The law: the normal form of a small sum says the same everywhere. -/
import Derived.Test.YtflfpkjnkeflcaaDoorKYo
import Derived.Test.YtflfpkjnkeflcaaDoorKYe
import Derived.Test.YtflfpkjnkeflcaaDoorKF
import Derived.Deep.DeepCutAuto
namespace Go.Proofs.YtflfpkjnkeflcaaDoor
open Go.RowKit

theorem litB_sound (a b : Nat) : Sound (litB (bitS a b)) := fun v hv => by
  unfold litB
  rw [if_neg (by omega), if_pos (by omega)]
  simp
theorem norm_eval {s : PS} {n : Int} (h : s.Ok n) (a b : Nat) : evalS (normS s n).1 (litB (bitS a b)) = evalS s (litB (bitS a b)) := by
  have e : (normS s n).1 = nEnd (nLoop s (List.range 129)) := by unfold normS; rw [if_neg (by simpa using check_ok.2 h)]
  rw [e]
  exact (norm_ok h).2 _ (litB_sound a b)

theorem u64_nat (x : Int) : ∃ P : Nat, IntKind.u64.wrap x = (P : Int) ∧ P < 18446744073709551616 :=
  ⟨(x % 18446744073709551616).toNat, by simp [IntKind.wrap, IntKind.signed, IntKind.bits]; omega, by omega⟩

set_option maxHeartbeats 6400000 in
set_option maxRecDepth 100000 in
theorem same_law (s : PS) (k : Nat) (hk : k < 256) (ca la : Option Addr) (cc lc : Nat) (hcl : s.C.length ≤ 20000000000000) (hll : s.L.length ≤ 20000000000000) (hLi : ∀ z ∈ s.L, -9223372036854775808 ≤ z ∧ z ≤ 9223372036854775807) (w : World) (hT : Tab w) (hC : AtN w.heap.size w ca (ints s.C)) (hL : AtN w.heap.size w la (ints s.L)) :
    Calls Tryd.prog 3 #[sumV ca cc la lc s, .int .u8 (k : Int)] w fun e w' => e = .returned (.bool true) ∧ Below w.heap.size w w' := by
  obtain ⟨r, hr, hr8⟩ : ∃ r : Nat, (k : Int) % 8 = (r : Int) ∧ r < 8 := ⟨k % 8, (Int.natCast_emod k 8).symm, Nat.mod_lt _ (by omega)⟩
  have hn : ((1 + r : Nat) : Int) = 1 + (r : Int) := by omega
  have KL := gLight s ca la cc lc hcl hll
  have KW := Lib.hid (gWorksFrom hT)
  have KF := Lib.hid (fun (w1 : World) (hb : Below w.heap.size w w1) => gFew w.heap.size s (1 + r) (by omega) (by omega) ca la cc lc hcl hll hLi w1 (hC.below hb (Nat.le_refl _)) (hL.below hb (Nat.le_refl _)) hb.size)
  have hU := few_ok s (n := 1 + r) (by omega) (by omega)
  rw [hn] at KF hU
  have HU := Lib.hid hU
  have HR := Lib.hid hr
  generalize fewS s (1 + r) = u at *
  unfold sumV at *
  generalize lightB s = q at *
  generalize s.C.length = a at *
  generalize s.L.length = b at *
  clear hT hC hL hU hn hr
  cases q with
  | false =>
    go_enter Tryd.func3, Tryd.ntmps3
    go_wp2_with fail
    refine calls_gen fun w1 hw1 => ?_
    have HB1 := Lib.hid (show Below w.heap.size w w1 by rw [hw1]; exact below_one _ _)
    clear hw1
    refine (KL w1).mono ?_
    rintro e w2 ⟨rfl, hB2⟩
    have HB2 := Lib.hid (HB1.out.trans (hB2.mono HB1.out.size))
    clear hB2 HB1
    go_wp2_with fail
    refine (KW.out w2 HB2.out).mono ?_
    rintro e w3 ⟨rfl, hB3⟩
    have HB3 := Lib.hid (HB2.out.trans (hB3.mono HB2.out.size))
    clear hB3
    go_wp2_with fail
    go_ret
    exact ⟨rfl, HB3.out⟩
  | true =>
  go_enter Tryd.func3, Tryd.ntmps3
  go_wp2_with fail
  refine calls_gen fun w1 hw1 => ?_
  have HB1 := Lib.hid (show Below w.heap.size w w1 by rw [hw1]; exact below_one _ _)
  have M1 := (show w1.heap[w.heap.size]? = some (.cells #[.slice ca a cc, .slice la b lc, .int .i64 s.m] 24 (0, 0)) by rw [hw1]; exact new_one _ _)
  clear hw1
  refine (KL w1).mono ?_
  rintro e w2 ⟨rfl, hB2⟩
  have HB2 := Lib.hid (HB1.out.trans (hB2.mono HB1.out.size))
  have M2 := Lib.hid ((behind_of_below hB2).keep M1 (by simp))
  clear hB2 HB1 M1 KL
  have c0 := blk_cell M2.out 0 rfl
  have c1 := blk_cell M2.out 1 rfl
  have c2 := blk_cell M2.out 2 rfl
  have hkk : (k : Int) % 8 = (r : Int) := HR.out
  go_wp2_with fail
  refine (KF.out w2 HB2.out).mono ?_
  rintro e w3 ⟨vC, vL, rfl, h2, h3⟩
  have HB3 := Lib.hid (HB2.out.trans (h3.mono HB2.out.size))
  have hm3 := (behind_of_below h3).keep M2.out (by simp)
  have hmb := lt_of_heap M2.out
  clear c0 c1 c2 KF
  have f0 := blk_free hm3 0
  have f1 := blk_free hm3 1
  have f2 := blk_free hm3 2
  have c0 := blk_cell hm3 0 rfl
  have c1 := blk_cell hm3 1 rfl
  have c2 := blk_cell hm3 2 rfl
  have M3 := Lib.hid hm3
  obtain ⟨pC, cC, hvC, _⟩ := own_at h2.o1
  obtain ⟨pL, cL, hvL, _⟩ := own_at h2.o2
  subst hvC
  subst hvL
  have HT3 := Lib.hid h2
  have hs2 := HB2.out.size
  clear hm3 h2 h3
  go_wp2_with fail
  refine calls_gen fun w4 hw4 => ?_
  have HB4 := Lib.hid (show Below w.heap.size w w4 by rw [hw4]; exact HB3.out.trans (three_below (Nat.le_refl _)))
  have M4 := Lib.hid (show w4.heap[w.heap.size]? = some (.cells #[.slice pC u.C.length cC, .slice pL u.L.length cL, .int .i64 u.m] 24 (0, 0)) by rw [hw4]; exact three_set M3.out)
  have h2 : Two w4 w2.heap.size (.slice pC u.C.length cC) u.C (.slice pL u.L.length cL) u.L := by rw [hw4]; exact HT3.out.keepU three_behind (fun g hg => by simp at hg; omega)
  clear hw4 c0 c1 c2 f0 f1 f2 M3 HB3 HT3
  obtain ⟨pC, cC, hvC, hAC⟩ := own_at h2.o1
  obtain ⟨pL, cL, hvL, hAL⟩ := own_at h2.o2
  cases hvC
  cases hvL
  have HAC := Lib.hid hAC
  have HAL := Lib.hid hAL
  have hul : u.C.length ≤ 64 := HU.out.l64
  have HLC := Lib.hid (show u.L.length = u.C.length by have := HU.out.len; omega)
  have hul2 : u.L.length ≤ 64 := by have := HLC.out; omega
  have KN := Lib.hid (gNormal w4.heap.size u (1 + (r : Int)) pC pL cC cL (by omega) (by omega) w4 hAC hAL (Nat.le_refl _))
  have KE := Lib.hid (fun (i : Nat) (hi : i < 18446744073709551616) => gEvalFrom _ u i 0 hi (by omega) pC pL cC cL (by omega) (by omega) w4 hAC hAL (Nat.le_refl _))
  have hr0 := norm_err2 u (1 + (r : Int))
  rw [check_ok.2 HU.out] at hr0
  rw [hr0] at KN
  have HE := Lib.hid (norm_eval HU.out)
  have HG := Lib.hid (norm_good (check_ok.2 HU.out)).1
  generalize (normS u (1 + (r : Int))).1 = v at *
  have hvl : v.C.length ≤ 64 := HG.out.l64
  have hvl2 : v.L.length ≤ 64 := by have := HG.out.len; omega
  unfold sumV setV at *
  clear h2 hAC hAL hr0
  refine KN.out.mono ?_
  rintro e w5 ⟨vC, vL, rfl, h2, h3⟩
  have HB5 := Lib.hid (HB4.out.trans (h3.mono HB4.out.size))
  have HB45 := Lib.hid h3
  have M5 := Lib.hid ((behind_of_below h3).keep M4.out (by have := lt_of_heap M4.out; simp))
  obtain ⟨qC, dC, hvC, hAC⟩ := own_at h2.o1
  obtain ⟨qL, dL, hvL, hAL⟩ := own_at h2.o2
  subst hvC
  subst hvL
  have KV := Lib.hid (fun (i : Nat) (hi : i < 18446744073709551616) => gEvalFrom _ v i 0 hi (by omega) qC qL dC dL (by omega) (by omega) w5 hAC hAL (Nat.le_refl _))
  unfold sumV setV at KV
  clear h2 h3 hAC hAL KN
  go_wp2_with fail
  refine wp_gen ?_
  intro w6 hw6
  have HB56 := Lib.hid (show Below w5.heap.size w5 w6 by rw [hw6]; exact below_one w5 _)
  have N6 := Lib.hid (show w6.heap[w5.heap.size]? = some (.cells #[.slice qC v.C.length dC, .slice qL v.L.length dL, .int .i64 v.m] 24 (0, 0)) by rw [hw6]; exact new_one _ _)
  have M6 := Lib.hid ((behind_of_below HB56.out).keep M5.out (by have := lt_of_heap M5.out; simp))
  clear hw6
  obtain ⟨P, hP, hP1⟩ := u64_nat (2 ^ (1 + r))
  rw [hP]
  clear hP
  have hs6 := HB56.out.size
  have hmb4 := lt_of_heap M4.out
  have hmb5 := lt_of_heap M5.out
  have HB46 := Lib.hid (HB45.out.trans (HB56.out.mono HB45.out.size))
  have HB6 := Lib.hid (HB5.out.trans (HB56.out.mono HB5.out.size))
  clear M2 M4 M5 HB2 HB4 HB5 HB45 HR HAC HAL HG HU
  go_loopw [31] (fun t31 wr => ∃ j : Nat, j ≤ P ∧ t31 = .int .u64 j ∧ Hid (Below w6.heap.size w6 wr)) (fun t31 _ => P - (intOf t31).toNat)
  case atStart => exact ⟨0, Nat.zero_le _, rfl, Below.refl _ _⟩
  case round =>
    obtain ⟨j, hj, rfl, HB⟩ := hrel
    have NR := Lib.hid ((behind_of_below HB.out).keep N6.out (by simp))
    have MR := Lib.hid ((behind_of_below HB.out).keep M6.out (by simp))
    have hsr := HB.out.size
    by_cases hlt : j < P
    · have hdd : decide (j < P) = true := by simpa using hlt
      have KA := (KE.out j (by omega)).from (HB46.out.trans (HB.out.mono HB46.out.size))
      have KB := (KV.out j (by omega)).from (HB56.out.trans (HB.out.mono HB56.out.size))
      rw [HE.out] at KB
      rw [show ((0 : Nat) : Int) = 0 from rfl] at KA KB
      generalize evalS u (litB (bitS j 0)) = q at *
      go_upto_region 11 with fail
      refine wp_game (List.replicate 9 0) [] B0 fin_B0 (has_B0 _) (by kernel_rfl) (by kernel_rfl) ?_
      refine lex_quietE 9 (by kernel_rfl) (by rfl) ?_
      apply Exists.intro
      refine ⟨fun z hz1 => ?_, ?_⟩
      · have hzb := hz1.below
        have g0 := blk_cellp (hz1.keep MR.out (by simp)) 0 rfl
        have g1 := blk_cellp (hz1.keep MR.out (by simp)) 1 rfl
        have g2 := blk_cellp (hz1.keep MR.out (by simp)) 2 rfl
        have g3 := blk_cellp (hz1.keep NR.out (by simp)) 0 rfl
        have g4 := blk_cellp (hz1.keep NR.out (by simp)) 1 rfl
        have g5 := blk_cellp (hz1.keep NR.out (by simp)) 2 rfl
        clear hz1
        simp only [List.take_succ_cons, List.take_zero]
        unfold Cx
        repeat (go_big_quiet_step (first | with_reducible exact KA.at2 hzb _ | with_reducible exact KB.at2 hzb _))
        exact wpQuiet_nil rfl
      simp only [List.drop_succ_cons, List.drop_zero]
      refine lex_nil ?_
      intro x2 hx2 _
      have HBf := Lib.hid (HB.out.trans (hx2.below.mono HB.out.size))
      clear hx2
      go_wp2_with fail
      go_roundw
      case rel => exact ⟨j + 1, by omega, by go_num, HBf.out⟩
      case measure => simp [intOf]; omega
    · obtain rfl : j = P := by omega
      have hdd : decide (j < j) = false := by simp
      have HB9 := Lib.hid (HB6.out.trans (HB.out.mono HB6.out.size))
      go_wp2_with fail
      refine (KW.out wr HB9.out).mono ?_
      rintro e w9 ⟨rfl, hB⟩
      have HB10 := Lib.hid (HB9.out.trans (hB.mono HB9.out.size))
      clear hB
      go_wp2_with fail
      go_ret
      exact ⟨rfl, HB10.out⟩
end Go.Proofs.YtflfpkjnkeflcaaDoor
