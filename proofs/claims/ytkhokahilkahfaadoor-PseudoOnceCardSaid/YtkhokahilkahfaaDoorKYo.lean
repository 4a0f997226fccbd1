/- The law: a normal form is valid, and its own one. -/
import Derived.Test.YtkhokahilkahfaaDoorKYa
import Derived.Test.YtkhokahilkahfaaDoorSO
import Derived.Deep.DeepCutAuto
namespace Go.Proofs.YtkhokahilkahfaaDoor
open Go.RowKit

theorem norm_err2 (s : PS) (n : Int) : (normS s n).2 = checkS s n := by
  unfold normS; split
  · rfl
  · rename_i h; exact (Decidable.not_not.1 h).symm
theorem norm_zero2 {s : PS} {n : Int} (h : ¬ checkS s n = 0) : (normS s n).1 = .zero := by unfold normS; rw [if_pos h]
theorem norm_good {s : PS} {n : Int} (h : checkS s n = 0) : (normS s n).1.Ok n ∧ Once (normS s n).1 n := by
  have hs := check_ok.1 h
  have e : (normS s n).1 = nEnd (nLoop s (List.range 129)) := by unfold normS; rw [if_neg (by simpa using h)]
  rw [e]
  exact ⟨(norm_ok hs).1, norm_once hs⟩
theorem getD_mem' {C : List Int} {j : Nat} (h : j < C.length) : C.getD j 0 ∈ C := by simp [List.getD, h]
theorem asc_get {L : List Int} (h : L.Pairwise (fun x y => absI x < absI y)) {i j : Nat} (hij : i < j) (hj : j < L.length) : absI (L.getD i 0) < absI (L.getD j 0) := by
  have := List.pairwise_iff_getElem.1 h i j (by omega) hj hij
  simpa [List.getD, hj, show i < L.length by omega] using this
theorem absI_pos {x : Int} (h : x ≠ 0) : 0 < absI x := by unfold absI; split <;> omega
theorem max_neg_abs (x : Int) : (if x < -x then -x else x) = absI x := by unfold absI; split <;> split <;> omega

set_option maxHeartbeats 6400000 in
set_option maxRecDepth 100000 in
theorem once_law (s : PS) (n : Int) (ca la : Option Addr) (cc lc : Nat) (hcl : s.C.length ≤ 20000000000000) (hll : s.L.length ≤ 20000000000000) (w : World) (hT : Tab w) (hC : AtN w.heap.size w ca (ints s.C)) (hL : AtN w.heap.size w la (ints s.L)) :
    Calls Tryd.prog 10 #[sumV ca cc la lc s, .int .i64 n] w fun e w' => e = .returned (.bool true) ∧ Below w.heap.size w w' := by
  have KL := gLight s ca la cc lc hcl hll
  have KW := Lib.hid (gWorksFrom hT)
  have KC := Lib.hid (gCheckFrom _ s n ca la cc lc (by omega) (by omega) w hC hL (Nat.le_refl _))
  have KN := Lib.hid (fun (w1 : World) (hb : Below w.heap.size w w1) => gNormal w.heap.size s n ca la cc lc (by omega) (by omega) w1 (hC.below hb (Nat.le_refl _)) (hL.below hb (Nat.le_refl _)) hb.size)
  rw [norm_err2] at KN
  have HZ := Lib.hid (@norm_zero2 s n)
  have HG := Lib.hid (@norm_good s n)
  generalize (normS s n).1 = u at *
  generalize checkS s n = r at *
  unfold sumV at *
  generalize lightB s = q at *
  generalize s.C.length = a at *
  generalize s.L.length = b at *
  clear hT hC hL
  cases q with
  | false =>
    go_enter Tryd.func10, Tryd.ntmps10
    go_wp2_with fail
    refine calls_gen fun w1 hw1 => ?_
    have HB1 := Lib.hid (show Below w.heap.size w w1 by rw [hw1]; exact below_one _ _)
    clear hw1
    refine (KL w1).mono ?_
    rintro e w2 ⟨rfl, hB2⟩
    have HB2 := Lib.hid (HB1.out.trans (hB2.mono HB1.out.size))
    clear hB2 HB1
    go_wp2_with fail
    refine (KW.out w2 HB2.out).mono ?_
    rintro e w3 ⟨rfl, hB3⟩
    have HB3 := Lib.hid (HB2.out.trans (hB3.mono HB2.out.size))
    clear hB3
    go_wp2_with fail
    go_ret
    exact ⟨rfl, HB3.out⟩
  | true =>
  go_enter Tryd.func10, Tryd.ntmps10
  go_wp2_with fail
  refine calls_gen fun w1 hw1 => ?_
  have HB1 := Lib.hid (show Below w.heap.size w w1 by rw [hw1]; exact below_one _ _)
  have M1 := (show w1.heap[w.heap.size]? = some (.cells #[.slice ca a cc, .slice la b lc, .int .i64 s.m] 24 (0, 0)) by rw [hw1]; exact new_one _ _)
  clear hw1
  refine (KL w1).mono ?_
  rintro e w2 ⟨rfl, hB2⟩
  have HB2 := Lib.hid (HB1.out.trans (hB2.mono HB1.out.size))
  have M2 := Lib.hid ((behind_of_below hB2).keep M1 (by simp))
  clear hB2 HB1 M1 KL
  have c0 := blk_cell M2.out 0 rfl
  have c1 := blk_cell M2.out 1 rfl
  have c2 := blk_cell M2.out 2 rfl
  go_wp2_with fail
  refine (KN.out w2 HB2.out).mono ?_
  rintro e w3 ⟨vC, vL, rfl, h2, h3⟩
  have HB3 := Lib.hid (HB2.out.trans (h3.mono HB2.out.size))
  have M3 := Lib.hid ((behind_of_below h3).keep M2.out (by simp))
  obtain ⟨aC, dC, hvC, hAC⟩ := own_at h2.o1
  obtain ⟨aL, dL, hvL, hAL⟩ := own_at h2.o2
  subst hvC
  subst hvL
  have hmb := lt_of_heap M3.out
  have HAC := Lib.hid hAC
  have HAL := Lib.hid hAL
  clear c0 c1 c2 KN h2 h3 hAC hAL
  have c0 := blk_cell M3.out 0 rfl
  have c1 := blk_cell M3.out 1 rfl
  have c2 := blk_cell M3.out 2 rfl
  go_wp2_with fail
  refine calls_gen fun w4 hw4 => ?_
  have HB34 := Lib.hid (show Below w3.heap.size w3 w4 by rw [hw4]; exact below_one w3 _)
  have N4 := Lib.hid (show w4.heap[w3.heap.size]? = some (.cells #[.slice aC u.C.length dC, .slice aL u.L.length dL, .int .i64 u.m] 24 (0, 0)) by rw [hw4]; exact new_one _ _)
  have HB4 := Lib.hid (HB3.out.trans (HB34.out.mono HB3.out.size))
  clear hw4 c0 c1 c2
  refine (KC.out w4 HB4.out).mono ?_
  rintro e w5 ⟨rfl, hB5⟩
  have HB35 := Lib.hid (HB34.out.trans (hB5.mono HB34.out.size))
  have HB5 := Lib.hid (HB4.out.trans (hB5.mono HB4.out.size))
  have N5 := Lib.hid ((behind_of_below hB5).keep N4.out (by simp))
  clear hB5 HB34 N4 HB4 KC
  have c0 := blk_cell N5.out 0 rfl
  have c1 := blk_cell N5.out 1 rfl
  have c2 := blk_cell N5.out 2 rfl
  by_cases hr : r = 0
  case neg =>
    have hu := HZ.out hr
    subst hu
    have hrd : (r != 0) = true := by simp [bne, beq_no hr]
    clear HZ HG hr
    simp only [PS.zero, List.length_nil] at c0 c1 c2
    simp only [PS.zero, List.length_nil]
    go_wp2_with fail
    refine (KW.out w5 HB5.out).mono ?_
    rintro e w6 ⟨rfl, hB⟩
    have HB6 := Lib.hid (HB5.out.trans (hB.mono HB5.out.size))
    clear hB
    go_wp2_with fail
    go_ret
    exact ⟨rfl, HB6.out⟩
  subst hr
  obtain ⟨hok, hon⟩ := HG.out rfl
  have hul : u.C.length ≤ 64 := hok.l64
  have HLC := Lib.hid (show u.L.length = u.C.length by have := hok.len; omega)
  have hul2 : u.L.length ≤ 64 := by have := HLC.out; omega
  have KN2 := Lib.hid (fun (w6 : World) (hb : Below w3.heap.size w3 w6) => gNormal w3.heap.size u n aC aL dC dL (by omega) (by omega) w6 (HAC.out.below hb (Nat.le_refl _)) (HAL.out.below hb (Nat.le_refl _)) hb.size)
  rw [hon.own] at KN2
  unfold sumV at KN2
  have HON := Lib.hid hon
  have HOK := Lib.hid hok
  clear hon hok HZ HG
  go_wp2_with fail
  refine (KN2.out w5 HB35.out).mono ?_
  rintro e w6 ⟨vC, vL, rfl, h2, h3⟩
  have HB36 := Lib.hid (HB35.out.trans (h3.mono HB35.out.size))
  have HB6 := Lib.hid (HB5.out.trans (h3.mono HB5.out.size))
  have N6 := Lib.hid ((behind_of_below h3).keep N5.out (by simp))
  obtain ⟨eC, fC, hvC, hEC⟩ := own_at h2.o1
  obtain ⟨eL, fL, hvL, hEL⟩ := own_at h2.o2
  subst hvC
  subst hvL
  have HEC := Lib.hid hEC
  have HEL := Lib.hid hEL
  have hnb := lt_of_heap N6.out
  clear c0 c1 c2 KN2 h2 h3 hEC hEL HB5 HB35 N5
  have c0 := blk_cell N6.out 0 rfl
  have c1 := blk_cell N6.out 1 rfl
  have c2 := blk_cell N6.out 2 rfl
  simp only []
  have hdl : ((u.C.length : Int) != (u.L.length : Int)) = false := by rw [HLC.out]; simp
  go_wp2_with fail
  refine wp_gen ?_
  intro w7 hw7
  have HB67 := Lib.hid (show Below w6.heap.size w6 w7 by rw [hw7]; exact below_one w6 _)
  have O7 := Lib.hid (show w7.heap[w6.heap.size]? = some (.cells #[.slice eC u.C.length fC, .slice eL u.L.length fL, .int .i64 u.m] 24 (0, 0)) by rw [hw7]; exact new_one _ _)
  have N7 := Lib.hid ((behind_of_below HB67.out).keep N6.out (by simp))
  have HB7 := Lib.hid (HB6.out.trans (HB67.out.mono HB6.out.size))
  have HB37 := Lib.hid (HB36.out.trans (HB67.out.mono HB36.out.size))
  have hs6 := HB36.out.size
  have hs7 := HB67.out.size
  have hu128 : n ≤ 128 := HOK.out.n1
  clear hw7 c0 c1 c2 N6 HB6 HB36
  go_loopw [92, 9] (fun t92 t9 wr => ∃ (j : Nat) (last : Int), j ≤ u.L.length ∧ t92 = .int .i64 j ∧ t9 = .int .i64 last ∧ 0 ≤ last ∧ last ≤ 128 ∧ Hid (∀ k, j ≤ k → k < u.L.length → last < absI (u.L.getD k 0)) ∧ Hid (Below w7.heap.size w7 wr)) (fun t92 _ _ => u.L.length - (intOf t92).toNat)
  case atStart => exact ⟨0, 0, Nat.zero_le _, rfl, rfl, Int.le_refl _, by omega, fun k _ hk => absI_pos (HON.out.lit _ (getD_mem' hk)), Below.refl _ _⟩
  case round =>
    obtain ⟨j, last, hj, rfl, rfl, hl0, hl1, HK, HB⟩ := hrel
    have NR := Lib.hid ((behind_of_below HB.out).keep N7.out (by simp))
    have OR := Lib.hid ((behind_of_below HB.out).keep O7.out (by simp))
    have hsr := HB.out.size
    by_cases hlt : j < u.L.length
    · have hdd : decide (j < u.L.length) = true := by simpa using hlt
      have hyy : u.L[j]? = some (u.L.getD j 0) := by simp [List.getD, hlt]
      have hlC : j < u.C.length := by have := HLC.out; omega
      have hcc : u.C[j]? = some (u.C.getD j 0) := by simp [List.getD, hlC]
      have hly := lit_in (n := n) HOK.out hlt
      have hco := HON.out.co _ (getD_mem' hlC)
      have hlast := HK.out j (Nat.le_refl _) hlt
      have HK2 := Lib.hid (fun k (h1 : j + 1 ≤ k) (h2 : k < u.L.length) => asc_get HON.out.asc (show j < k by omega) h2)
      have hab : absI (u.L.getD j 0) ≤ 128 := by unfold absI; split <;> omega
      obtain ⟨b1, o1, hb1, e1, k1⟩ := HAL.out _ _ (ints_get _ _ _ hyy)
      obtain ⟨b2, o2, hb2, e2, k2⟩ := HAC.out _ _ (ints_get _ _ _ hcc)
      obtain ⟨b3, o3, hb3, e3, k3⟩ := HEL.out _ _ (ints_get _ _ _ hyy)
      obtain ⟨b4, o4, hb4, e4, k4⟩ := HEC.out _ _ (ints_get _ _ _ hcc)
      subst e1 e2 e3 e4
      have h3r := HB37.out.trans (HB.out.mono HB37.out.size)
      have h6r := HB67.out.trans (HB.out.mono HB67.out.size)
      have d1 := Lib.hid (below_cell h3r (show b1 < w3.heap.size by omega) k1)
      have d2 := Lib.hid (below_cell h3r (show b2 < w3.heap.size by omega) k2)
      have d3 := Lib.hid (below_cell h6r (show b3 < w6.heap.size by omega) k3)
      have d4 := Lib.hid (below_cell h6r (show b4 < w6.heap.size by omega) k4)
      have HMA := Lib.hid (max_abs (u.L.getD j 0))
      have HA2 := Lib.hid (max_neg_abs (u.L.getD j 0))
      generalize absI (u.L.getD j 0) = A at *
      generalize u.L.getD j 0 = y at *
      generalize u.C.getD j 0 = c at *
      generalize hM : u.m = M at *
      have q1 : decide (A ≤ last) = false := decide_eq_false (by omega)
      have q2 : decide (c < 1) = false := decide_eq_false (by omega)
      have q3 : decide (M < c) = false := decide_eq_false (by omega)
      clear k1 k2 k3 k4 hyy hcc h3r h6r hM
      go_wp2_with fail
      go_upto_region 15 with fail
      go_cut [11] (fun t11 wx => t11 = .int .i64 A ∧ Hid (Below wr.heap.size wr wx))
      case first =>
        refine wp_game (List.replicate 13 0) [] B0 fin_B0 (has_B0 _) (by kernel_rfl) (by kernel_rfl) ?_
        refine lex_quietE 13 (by kernel_rfl) (by rfl) ?_
        apply Exists.intro
        refine ⟨fun z hz1 => ?_, ?_⟩
        · have hzb := hz1.below
          have g1 := blk_cellp (hz1.keep NR.out (by simp)) 1 rfl
          have g4 := below_cellp hzb d1.out (by omega)
          clear hz1
          simp only [List.take_succ_cons, List.take_zero]
          unfold Cx
          repeat (go_big_quiet_step (fail))
          exact wpQuiet_nil rfl
        simp only [List.drop_succ_cons, List.drop_zero]
        refine lex_nil ?_
        intro x2 hx2 _
        have HX2 := Lib.hid hx2.below
        clear hx2
        go_wp2_with fail
        go_meet
        case rel => exact ⟨by first | (rw [← HA2.out]; done) | (rw [← HMA.out]; done) | (rw [HA2.out]) | (rw [HMA.out]), HX2.out⟩
      case rest =>
      obtain ⟨rfl, HX⟩ := hcut
      obtain ⟨w8, hw8⟩ : ∃ w8, w8 = wc := ⟨_, rfl⟩
      subst hw8
      have NS := Lib.hid ((behind_of_below HX.out).keep NR.out (by simp))
      have OS := Lib.hid ((behind_of_below HX.out).keep OR.out (by simp))
      have e1 := Lib.hid (below_cell HX.out (show b1 < wr.heap.size by omega) d1.out)
      have e2 := Lib.hid (below_cell HX.out (show b2 < wr.heap.size by omega) d2.out)
      have e3 := Lib.hid (below_cell HX.out (show b3 < wr.heap.size by omega) d3.out)
      have e4 := Lib.hid (below_cell HX.out (show b4 < wr.heap.size by omega) d4.out)
      have hs8 := HX.out.size
      clear d1 d2 d3 d4 HMA HA2
      go_upto_region 16 with fail
      go_cut [153] (fun t153 wx => t153 = .bool false ∧ Hid (Below w8.heap.size w8 wx))
      case first =>
        refine wp_game (List.replicate 47 0) [] B0 fin_B0 (has_B0 _) (by kernel_rfl) (by kernel_rfl) ?_
        refine lex_quietE 47 (by kernel_rfl) (by rfl) ?_
        apply Exists.intro
        refine ⟨fun z hz1 => ?_, ?_⟩
        · have hzb := hz1.below
          have g0 := blk_cellp (hz1.keep NS.out (by simp)) 0 rfl
          have g1 := blk_cellp (hz1.keep NS.out (by simp)) 1 rfl
          have g2 := blk_cellp (hz1.keep NS.out (by simp)) 2 rfl
          have g3 := blk_cellp (hz1.keep OS.out (by simp)) 0 rfl
          have g4 := blk_cellp (hz1.keep OS.out (by simp)) 1 rfl
          have g5 := below_cellp hzb e1.out (by omega)
          have g6 := below_cellp hzb e2.out (by omega)
          have g7 := below_cellp hzb e3.out (by omega)
          have g8 := below_cellp hzb e4.out (by omega)
          clear hz1
          simp only [List.take_succ_cons, List.take_zero]
          unfold Cx
          repeat (go_big_quiet_step (fail))
          exact wpQuiet_nil rfl
        simp only [List.drop_succ_cons, List.drop_zero]
        refine lex_nil ?_
        intro x2 hx2 _
        have HX2 := Lib.hid hx2.below
        clear hx2
        go_wp2_with fail
        go_meet
        case rel => exact ⟨rfl, HX2.out⟩
      case rest =>
      obtain ⟨rfl, HX2⟩ := hcut
      have HBf := Lib.hid (HB.out.trans ((HX.out.trans (HX2.out.mono HX.out.size)).mono HB.out.size))
      go_wp2_with fail
      go_roundw
      case rel => exact ⟨j + 1, A, by omega, by go_num, rfl, by omega, by omega, HK2.out, HBf.out⟩
      case measure => simp [intOf]; omega
    · obtain rfl : j = u.L.length := by omega
      have hdd : decide (u.L.length < u.L.length) = false := by simp
      have HB9 := Lib.hid (HB7.out.trans (HB.out.mono HB7.out.size))
      go_wp2_with fail
      refine (KW.out wr HB9.out).mono ?_
      rintro e w9 ⟨rfl, hB⟩
      have HB10 := Lib.hid (HB9.out.trans (hB.mono HB9.out.size))
      clear hB
      go_wp2_with fail
      go_ret
      exact ⟨rfl, HB10.out⟩
end Go.Proofs.YtkhokahilkahfaaDoor
