/- The law: in which sets a sum is true. -/
import Derived.Test.YtkhokahilkahfaaDoorKYa
import Derived.Deep.DeepCutAuto
namespace Go.Proofs.YtkhokahilkahfaaDoor
open Go.RowKit

set_option maxHeartbeats 3200000 in
set_option maxRecDepth 100000 in
theorem xValue (N : Nat) (s : PS) (a0 a1 : Nat) (ca la : Option Addr) (cc lc : Nat) (hOk : s.Ok 128) (w : World) (hC : AtN N w ca (ints s.C)) (hL : AtN N w la (ints s.L)) (hw : N ≤ w.heap.size) :
    Calls Tryd.prog 39 #[sumV ca cc la lc s, setV a0 a1] w fun e w' => e = .returned (.int .i64 (valS s (litB (bitS a0 a1)) s.L.length)) ∧ Below w.heap.size w w' := by
  have HH : ∀ y : Int, y ≠ 0 → -128 ≤ y → y ≤ 128 → Gives 59 #[setV a0 a1, .int .i64 y] (.bool (litB (bitS a0 a1) y)) := fun y h0 h1 h2 => xHolds a0 a1 y h0 h1 h2
  generalize litB (bitS a0 a1) = hold at *
  unfold sumV setV
  have HC := Lib.hid (hC)
  have HL := Lib.hid (hL)
  have HOK := Lib.hid hOk
  have hl64 : s.L.length ≤ 64 := by have := hOk.len; have := hOk.l64; omega
  have HLen := Lib.hid hOk.len
  have HHH := Lib.hid HH
  clear hC hL HH hOk
  obtain ⟨C, L, m⟩ := s
  simp only at hl64 HC HL HLen
  have HQ := Lib.hid (show valS ⟨C, L, m⟩ hold L.length = valS ⟨C, L, m⟩ hold L.length from rfl)
  go_enter Tryd.func39, Tryd.ntmps39
  go_wp2_with fail
  refine wp_gen ?_
  intro w1 hw1
  have HB1 := Lib.hid (show Below w.heap.size w w1 by rw [hw1]; exact below_two _ _ _)
  have P1 := Lib.hid (show w1.heap[w.heap.size]? = some (.cells #[.slice ca C.length cc, .slice la L.length lc, .int .i64 m] 24 (0, 0)) by rw [hw1]; exact new_two1 _ _ _)
  have P2 := Lib.hid (show w1.heap[w.heap.size + 1]? = some (.cells #[.int .u64 (a0 : Nat), .int .u64 (a1 : Nat)] 32 (0, 0)) by rw [hw1]; exact new_two2 _ _ _)
  clear hw1
  go_loopw [6, 5] (fun t6 t5 wr => ∃ (j : Nat) (S : Int), j ≤ L.length ∧ t6 = .int .i64 j ∧ t5 = .int .i64 S ∧ -1000000000 ≤ S ∧ S ≤ 1000000000 ∧ Hid (S = valS ⟨C, L, m⟩ hold j) ∧ Hid (Below w1.heap.size w1 wr)) (fun t6 _ _ => L.length - (intOf t6).toNat)
  case atStart => exact ⟨0, 0, Nat.zero_le _, rfl, rfl, by omega, by omega, rfl, Below.refl _ _⟩
  case round =>
    obtain ⟨j, S, hj, rfl, rfl, hS0, hS1, HS, HB⟩ := hrel
    have Q1 := Lib.hid ((behind_of_below HB.out).keep P1.out (by simp))
    have Q2 := Lib.hid ((behind_of_below HB.out).keep P2.out (by simp))
    have q1 := blk_cell Q1.out 1 rfl
    by_cases hlt : j < L.length
    · have hdd : decide (j < L.length) = true := by simpa using hlt
      have hyy : L[j]? = some (L.getD j 0) := by simp [List.getD, hlt]
      have hlC : j < C.length := by have := HLen.out; omega
      have hcc : C[j]? = some (C.getD j 0) := by simp [List.getD, hlC]
      have hly := lit_in HOK.out hlt
      have hcy := coef_in HOK.out hlt
      have hnx := val_in HOK.out hold (show j + 1 ≤ L.length by omega)
      have HY := Lib.hid (show hold (L.getD j 0) = true → S + C.getD j 0 = valS ⟨C, L, m⟩ hold (j + 1) from fun h => by rw [valS_yes h, HS.out])
      have HN := Lib.hid (show hold (L.getD j 0) = false → S = valS ⟨C, L, m⟩ hold (j + 1) from fun h => by rw [valS_no h, HS.out])
      have KH := HHH.out (L.getD j 0) hly.1 hly.2.1 hly.2.2
      obtain ⟨b, o, hb, rfl, k0⟩ := HL.out _ _ (ints_get _ _ _ hyy)
      obtain ⟨b2, o2, hb2, rfl, k2⟩ := HC.out _ _ (ints_get _ _ _ hcc)
      have hBW := HB1.out.trans (HB.out.mono HB1.out.size)
      have c0 := Lib.hid (below_cell hBW (show b < w.heap.size by omega) k0)
      have c2 := Lib.hid (below_cell hBW (show b2 < w.heap.size by omega) k2)
      have hsw := hBW.size
      simp only at hly hcy
      generalize L.getD j 0 = y at *
      generalize C.getD j 0 = c at *
      unfold setV at KH
      clear hyy k0 k2 hcc HS hly hBW
      go_wp2_with fail
      go_upto_region 5 with fail
      go_cut [20] (fun t20 wx => t20 = .bool (hold y) ∧ Hid (Below wr.heap.size wr wx))
      case first =>
        refine wp_game (List.replicate 7 0) [] B0 fin_B0 (has_B0 _) (by kernel_rfl) (by kernel_rfl) ?_
        refine lex_quietE 7 (by kernel_rfl) (by rfl) ?_
        apply Exists.intro
        refine ⟨fun z hz1 => ?_, ?_⟩
        · have hzb := hz1.below
          have g0 := blk_cellp (hz1.keep Q2.out (by simp)) 0 rfl
          have g1 := blk_cellp (hz1.keep Q2.out (by simp)) 1 rfl
          have g2 := blk_cellp (hz1.keep Q1.out (by simp)) 1 rfl
          have g3 := below_cellp hzb c0.out (by omega)
          clear hz1
          simp only [List.take_succ_cons, List.take_zero]
          unfold Cx
          repeat (go_big_quiet_step (first | with_reducible exact KH.at _ _))
          exact wpQuiet_nil rfl
        simp only [List.drop_succ_cons, List.drop_zero]
        refine lex_nil ?_
        intro x2 hx2 _
        have HX2 := Lib.hid hx2.below
        clear hx2
        go_wp2_with fail
        go_meet
        case rel => exact ⟨rfl, HX2.out⟩
      case rest =>
      obtain ⟨rfl, HX⟩ := hcut
      have HB4 := Lib.hid (HB.out.trans (HX.out.mono HB.out.size))
      cases hq : hold y with
      | true =>
        have HS2 := Lib.hid (HY.out hq)
        have Q3 := (behind_of_below HX.out).keep Q1.out (by simp)
        have e0 := blk_cell Q3 0 rfl
        have e1 := below_cell HX.out (show b2 < wr.heap.size by omega) c2.out
        have hb0 : -1000000000 ≤ S + c := by rw [HS2.out]; exact hnx.1
        have hb1 : S + c ≤ 1000000000 := by rw [HS2.out]; exact hnx.2
        clear hq HY HN Q3 hnx q1
        go_wp2_with fail
        go_roundw
        case rel => exact ⟨j + 1, S + c, by omega, by go_num, by go_num, hb0, hb1, HS2, HB4⟩
        case measure => simp [intOf]; omega
      | false =>
        have HS2 := Lib.hid (HN.out hq)
        clear hq HY HN hnx q1
        go_wp2_with fail
        go_roundw
        case rel => exact ⟨j + 1, S, by omega, by go_num, rfl, hS0, hS1, HS2, HB4⟩
        case measure => simp [intOf]; omega
    · obtain rfl : j = L.length := by omega
      have hdd : decide (L.length < L.length) = false := by simp
      go_wp2_with fail
      go_ret
      exact ⟨by rw [← HS.out]; rfl, HB1.out.trans (HB.out.mono HB1.out.size)⟩

set_option maxHeartbeats 3200000 in
set_option maxRecDepth 100000 in
theorem xEval (N : Nat) (s : PS) (a0 a1 : Nat) (ca la : Option Addr) (cc lc : Nat) (hcl : s.C.length ≤ 100000000000000) (hll : s.L.length ≤ 100000000000000) (w : World) (hC : AtN N w ca (ints s.C)) (hL : AtN N w la (ints s.L)) (hw : N ≤ w.heap.size) :
    Calls Tryd.prog 21 #[sumV ca cc la lc s, setV a0 a1] w fun e w' => e = .returned (.bool (evalS s (litB (bitS a0 a1)))) ∧ Below w.heap.size w w' := by
  have KC := Lib.hid (xCheckFrom N s 128 ca la cc lc hcl hll w hC hL hw)
  have KV := Lib.hid (fun (hOk : s.Ok 128) (w1 : World) (hb : Below w.heap.size w w1) => xValue N s a0 a1 ca la cc lc hOk w1 (hC.below hb hw) (hL.below hb hw) (Nat.le_trans hw hb.size))
  have HE := Lib.hid (show evalS s (litB (bitS a0 a1)) = (decide (checkS s 128 = 0) && decide (s.m ≤ valS s (litB (bitS a0 a1)) s.L.length)) from rfl)
  generalize evalS s (litB (bitS a0 a1)) = r at *
  generalize valS s (litB (bitS a0 a1)) s.L.length = V at *
  unfold sumV setV at *
  by_cases hc : checkS s 128 = 0
  · have KV2 := Lib.hid (show GivesFrom w 39 _ _ from KV.out (check_ok.1 hc))
    have HR := Lib.hid (show r = decide (s.m ≤ V) by rw [HE.out, hc]; rfl)
    rw [hc] at KC
    clear KV HE hC hL hc
    go_enter Tryd.func21, Tryd.ntmps21
    go_wp2_with fail
    refine wp_gen ?_
    intro w1 hw1
    have HB1 := Lib.hid (show Below w.heap.size w w1 by rw [hw1]; exact below_two _ _ _)
    have P1 := Lib.hid (show w1.heap[w.heap.size]? = some (.cells #[.slice ca s.C.length cc, .slice la s.L.length lc, .int .i64 s.m] 24 (0, 0)) by rw [hw1]; exact new_two1 _ _ _)
    have P2 := Lib.hid (show w1.heap[w.heap.size + 1]? = some (.cells #[.int .u64 (a0 : Nat), .int .u64 (a1 : Nat)] 32 (0, 0)) by rw [hw1]; exact new_two2 _ _ _)
    have KC2 := KC.out.from HB1.out
    have KV3 := KV2.out.from HB1.out
    clear hw1 KC KV2
    refine wp_game (List.replicate 12 0) [] B0 fin_B0 (has_B0 _) (by kernel_rfl) (by kernel_rfl) ?_
    refine lex_quietE 12 (by kernel_rfl) (by rfl) ?_
    apply Exists.intro
    refine ⟨fun z hz1 => ?_, ?_⟩
    · have hzb := hz1.below
      have g0 := blk_cellp (hz1.keep P1.out (by simp)) 0 rfl
      have g1 := blk_cellp (hz1.keep P1.out (by simp)) 1 rfl
      have g2 := blk_cellp (hz1.keep P1.out (by simp)) 2 rfl
      have g3 := blk_cellp (hz1.keep P2.out (by simp)) 0 rfl
      have g4 := blk_cellp (hz1.keep P2.out (by simp)) 1 rfl
      clear hz1
      simp only [List.take_succ_cons, List.take_zero]
      unfold Cx
      repeat (go_big_quiet_step (first | with_reducible exact KC2.at2 hzb _ | with_reducible exact KV3.at2 hzb _))
      exact wpQuiet_nil rfl
    simp only [List.drop_succ_cons, List.drop_zero]
    refine lex_nil ?_
    intro x2 hx2 _
    have HB3 := Lib.hid (HB1.out.trans (hx2.below.mono HB1.out.size))
    clear hx2
    go_wp2_with fail
    go_ret
    exact ⟨by rw [HR.out]; rfl, HB3.out⟩
  · have HR := Lib.hid (show r = false by rw [HE.out, decide_eq_false hc]; rfl)
    generalize checkS s 128 = ck at *
    have hcd : (ck == 0) = false := beq_no hc
    clear KV HE hC hL hc
    go_enter Tryd.func21, Tryd.ntmps21
    go_wp2_with fail
    refine wp_gen ?_
    intro w1 hw1
    have HB1 := Lib.hid (show Below w.heap.size w w1 by rw [hw1]; exact below_two _ _ _)
    have P1 := Lib.hid (show w1.heap[w.heap.size]? = some (.cells #[.slice ca s.C.length cc, .slice la s.L.length lc, .int .i64 s.m] 24 (0, 0)) by rw [hw1]; exact new_two1 _ _ _)
    have KC2 := KC.out.from HB1.out
    clear hw1 KC
    refine wp_game (List.replicate 12 0) [] B0 fin_B0 (has_B0 _) (by kernel_rfl) (by kernel_rfl) ?_
    refine lex_quietE 12 (by kernel_rfl) (by rfl) ?_
    apply Exists.intro
    refine ⟨fun z hz1 => ?_, ?_⟩
    · have hzb := hz1.below
      have g0 := blk_cellp (hz1.keep P1.out (by simp)) 0 rfl
      have g1 := blk_cellp (hz1.keep P1.out (by simp)) 1 rfl
      have g2 := blk_cellp (hz1.keep P1.out (by simp)) 2 rfl
      clear hz1
      simp only [List.take_succ_cons, List.take_zero]
      unfold Cx
      repeat (go_big_quiet_step (first | with_reducible exact KC2.at2 hzb _))
      exact wpQuiet_nil rfl
    simp only [List.drop_succ_cons, List.drop_zero]
    refine lex_nil ?_
    intro x2 hx2 _
    have HB3 := Lib.hid (HB1.out.trans (hx2.below.mono HB1.out.size))
    clear hx2
    go_wp2_with fail
    go_ret
    exact ⟨by rw [HR.out]; rfl, HB3.out⟩

theorem gEvalFrom (N : Nat) (s : PS) (a0 a1 : Nat) (ha0 : a0 < 18446744073709551616) (ha1 : a1 < 18446744073709551616) (ca la : Option Addr) (cc lc : Nat) (hcl : s.C.length ≤ 100000000000000) (hll : s.L.length ≤ 100000000000000) (w : World) (hC : AtN N w ca (ints s.C)) (hL : AtN N w la (ints s.L)) (hw : N ≤ w.heap.size) :
    GivesFrom w 20 #[sumV ca cc la lc s, setV a0 a1] (.bool (evalS s (litB (bitS a0 a1)))) := fun w1 hb => gEval a0 a1 ha0 ha1 N s ca la cc lc hcl hll w1 (hC.below hb hw) (hL.below hb hw) (Nat.le_trans hw hb.size)
theorem xEvalFrom (N : Nat) (s : PS) (a0 a1 : Nat) (ca la : Option Addr) (cc lc : Nat) (hcl : s.C.length ≤ 100000000000000) (hll : s.L.length ≤ 100000000000000) (w : World) (hC : AtN N w ca (ints s.C)) (hL : AtN N w la (ints s.L)) (hw : N ≤ w.heap.size) :
    GivesFrom w 21 #[sumV ca cc la lc s, setV a0 a1] (.bool (evalS s (litB (bitS a0 a1)))) := fun w1 hb => xEval N s a0 a1 ca la cc lc hcl hll w1 (hC.below hb hw) (hL.below hb hw) (Nat.le_trans hw hb.size)

set_option maxHeartbeats 1600000 in
set_option maxRecDepth 100000 in
theorem evals_law (s : PS) (a0 a1 : Nat) (ha0 : a0 < 18446744073709551616) (ha1 : a1 < 18446744073709551616) (ca la : Option Addr) (cc lc : Nat) (hcl : s.C.length ≤ 20000000000000) (hll : s.L.length ≤ 20000000000000) (w : World) (hT : Tab w) (hC : AtN w.heap.size w ca (ints s.C)) (hL : AtN w.heap.size w la (ints s.L)) :
    Calls Tryd.prog 4 #[sumV ca cc la lc s, setV a0 a1] w fun e w' => e = .returned (.bool true) ∧ Below w.heap.size w w' := by
  have KL := gLight s ca la cc lc hcl hll
  have KW := Lib.hid (gWorksFrom hT)
  have KC := Lib.hid (gEvalFrom _ s a0 a1 ha0 ha1 ca la cc lc (by omega) (by omega) w hC hL (Nat.le_refl _))
  have KX := Lib.hid (xEvalFrom _ s a0 a1 ca la cc lc (by omega) (by omega) w hC hL (Nat.le_refl _))
  generalize evalS s (litB (bitS a0 a1)) = r at *
  unfold sumV setV at *
  generalize lightB s = q at *
  generalize s.C.length = a at *
  generalize s.L.length = b at *
  clear hT hC hL
  cases q with
  | false =>
    go_enter Tryd.func4, Tryd.ntmps4
    go_wp2_with fail
    refine calls_gen fun w1 hw1 => ?_
    have HB1 := Lib.hid (show Below w.heap.size w w1 by rw [hw1]; exact below_two _ _ _)
    clear hw1
    refine (KL w1).mono ?_
    rintro e w2 ⟨rfl, hB2⟩
    have HB2 := Lib.hid (HB1.out.trans (hB2.mono HB1.out.size))
    clear hB2 HB1
    go_wp2_with fail
    refine (KW.out w2 HB2.out).mono ?_
    rintro e w3 ⟨rfl, hB3⟩
    have HB3 := Lib.hid (HB2.out.trans (hB3.mono HB2.out.size))
    clear hB3
    go_wp2_with fail
    go_ret
    exact ⟨rfl, HB3.out⟩
  | true =>
    go_enter Tryd.func4, Tryd.ntmps4
    go_wp2_with fail
    refine calls_gen fun w1 hw1 => ?_
    have HB1 := Lib.hid (show Below w.heap.size w w1 by rw [hw1]; exact below_two _ _ _)
    have M1 := (show w1.heap[w.heap.size]? = some (.cells #[.slice ca a cc, .slice la b lc, .int .i64 s.m] 24 (0, 0)) by rw [hw1]; exact new_two1 _ _ _)
    have N1 := (show w1.heap[w.heap.size + 1]? = some (.cells #[.int .u64 (a0 : Nat), .int .u64 (a1 : Nat)] 32 (0, 0)) by rw [hw1]; exact new_two2 _ _ _)
    clear hw1
    refine (KL w1).mono ?_
    rintro e w2 ⟨rfl, hB2⟩
    have HB2 := Lib.hid (HB1.out.trans (hB2.mono HB1.out.size))
    have M2 := Lib.hid ((behind_of_below hB2).keep M1 (by simp))
    have N2 := Lib.hid ((behind_of_below hB2).keep N1 (by simp))
    have KW2 := KW.out.from HB2.out
    have KC2 := KC.out.from HB2.out
    have KX2 := KX.out.from HB2.out
    clear hB2 HB1 M1 N1 KW KC KX
    go_wp2_with fail
    refine wp_game (List.replicate 11 0) [] B0 fin_B0 (has_B0 _) (by kernel_rfl) (by kernel_rfl) ?_
    refine lex_quietE 11 (by kernel_rfl) (by rfl) ?_
    apply Exists.intro
    refine ⟨fun z hz1 => ?_, ?_⟩
    · have hzb := hz1.below
      have g0 := blk_cellp (hz1.keep M2.out (by simp)) 0 rfl
      have g1 := blk_cellp (hz1.keep M2.out (by simp)) 1 rfl
      have g2 := blk_cellp (hz1.keep M2.out (by simp)) 2 rfl
      have g3 := blk_cellp (hz1.keep N2.out (by simp)) 0 rfl
      have g4 := blk_cellp (hz1.keep N2.out (by simp)) 1 rfl
      clear hz1
      simp only [List.take_succ_cons, List.take_zero]
      unfold Cx
      repeat (go_big_quiet_step (first | with_reducible exact KC2.at2 hzb _ | with_reducible exact KX2.at2 hzb _ | with_reducible exact KW2.at2 hzb _))
      exact wpQuiet_nil rfl
    simp only [List.drop_succ_cons, List.drop_zero]
    refine lex_nil ?_
    intro x2 hx2 _
    have HB3 := Lib.hid (HB2.out.trans (hx2.below.mono HB2.out.size))
    clear hx2
    go_wp2_with fail
    go_ret
    exact ⟨rfl, HB3.out⟩
end Go.Proofs.YtkhokahilkahfaaDoor
