/- Normal: a sum in normal form. -/
import Derived.Test.YtchamkbnapjidaaDoorKH
import Derived.Deep.DeepCutAuto
namespace Go.Proofs.YtchamkbnapjidaaDoor
open Go.RowKit

set_option maxHeartbeats 4000000 in
set_option maxRecDepth 100000 in
theorem gNormal (N : Nat) (s : PS) (n : Int) (ca la : Option Addr) (cc lc : Nat) (hcl : s.C.length ≤ 100000000000000) (hll : s.L.length ≤ 100000000000000) (w : World) (hC : AtN N w ca (ints s.C)) (hL : AtN N w la (ints s.L)) (hw : N ≤ w.heap.size) :
    Calls Tryd.prog 10 #[sumV ca cc la lc s, .int .i64 n] w (SumPost w (normS s n).1 (normS s n).2) := by
  have HC := Lib.hid hC
  have HL := Lib.hid hL
  have KC := Lib.hid (fun (w1 : World) (hb : Below w.heap.size w w1) => gCheck N s n ca la cc lc hcl hll w1 (hC.below hb hw) (hL.below hb hw) (Nat.le_trans hw hb.size))
  unfold sumV at *
  obtain ⟨Post, hPost⟩ : ∃ P : Ending → World → Prop, P = SumPost w (normS s n).1 (normS s n).2 := ⟨_, rfl⟩
  rw [← hPost]
  by_cases hc : checkS s n = 0
  case neg =>
    have HQ := Lib.hid (fun (w' : World) (hb : Below w.heap.size w w') => show Post (.returned (.tuple #[.agg #[.slice none 0 0, .slice none 0 0, .int .i64 0], .int .i64 (checkS s n)])) w' by
      rw [hPost, show normS s n = (.zero, checkS s n) by unfold normS; rw [if_pos hc]]; exact ⟨_, _, rfl, two_none _ _, hb⟩)
    generalize checkS s n = r at *
    have hr : (r != 0) = true := by simp [bne, beq_no hc]
    clear hC hL hc hPost
    go_enter Tryd.func10, Tryd.ntmps10
    go_wp2_with fail
    refine calls_gen fun w1 hw1 => ?_
    have HB1 := Lib.hid (show Below w.heap.size w w1 by rw [hw1]; exact below_two _ _ _)
    have M2 := (show w1.heap[w.heap.size + 1]? = some (.cells #[.slice none 0 0, .slice none 0 0, .int .i64 0] 24 (0, 0)) by rw [hw1]; exact new_two2 _ _ _)
    clear hw1
    refine (KC.out w1 HB1.out).mono ?_
    rintro e w2 ⟨rfl, hB2⟩
    have HB2 := Lib.hid (HB1.out.trans (hB2.mono HB1.out.size))
    have P2 := Lib.hid ((behind_of_below hB2).keep M2 (by simp))
    clear hB2 HB1 M2
    have c0 := blk_cell P2.out 0 rfl
    have c1 := blk_cell P2.out 1 rfl
    have c2 := blk_cell P2.out 2 rfl
    have f0 := blk_free P2.out 0
    have f1 := blk_free P2.out 1
    have f2 := blk_free P2.out 2
    go_wp2_with fail
    refine bodyPost_ret (results_cell_tmp (p := 4) (q := 5) rfl _ _ (w.heap.size + 1) _ _ (0, 0) _ rfl (three_set P2.out) Tryd.underlying24 rfl Tryd.sizeSum _ rfl) rfl ?_
    exact HQ.out _ (HB2.out.trans (three_below (by omega)))
  have hOk := check_ok.1 hc
  have HQ := Lib.hid (show normS s n = (nEnd (nLoop s (List.range 129)), 0) by unfold normS; rw [if_neg (by simpa using hc)])
  rw [hc] at KC
  have HOK := Lib.hid hOk
  have hl64 : s.L.length ≤ 64 := by have := hOk.len; have := hOk.l64; omega
  have hCL : s.C.length ≤ s.L.length := by have := hOk.len; omega
  have hm0 := hOk.m0
  have hm1 := hOk.m1
  have HP := Lib.hid hPost
  clear hC hL hc hOk hcl hll hPost
  obtain ⟨i0, ii, iz0, iz1, iz2⟩ := info_parts Tryd.infoInt
  have II := Lib.hid ii
  have IZ0 := Lib.hid iz0
  have IZ1 := Lib.hid iz1
  have IZ2 := Lib.hid iz2
  clear ii iz0 iz1 iz2
  obtain ⟨C, L, m⟩ := s
  simp only at hl64 HQ HC HL KC hCL hm0 hm1
  go_enter Tryd.func10, Tryd.ntmps10
  go_wp2_with fail
  refine calls_gen fun w1 hw1 => ?_
  have HB1 := Lib.hid (show Below w.heap.size w w1 by rw [hw1]; exact below_two _ _ _)
  have M1 := (show w1.heap[w.heap.size]? = some (.cells #[.slice ca C.length cc, .slice la L.length lc, .int .i64 m] 24 (0, 0)) by rw [hw1]; exact new_two1 _ _ _)
  have M2 := (show w1.heap[w.heap.size + 1]? = some (.cells #[.slice none 0 0, .slice none 0 0, .int .i64 0] 24 (0, 0)) by rw [hw1]; exact new_two2 _ _ _)
  clear hw1
  refine (KC.out w1 HB1.out).mono ?_
  rintro e w2 ⟨rfl, hB2⟩
  have HB2 := Lib.hid (HB1.out.trans (hB2.mono HB1.out.size))
  have P1 := Lib.hid ((behind_of_below hB2).keep M1 (by simp))
  have P2 := Lib.hid ((behind_of_below hB2).keep M2 (by simp))
  clear hB2 HB1 M1 M2 KC
  have c1 := blk_cell P1.out 1 rfl
  have d1 : ∀ o, (w2.alloc o).cell? ⟨w.heap.size, 1, none⟩ = some (.slice la L.length lc) := fun o => blk_cell ((behind_of_below (below_one w2 o)).keep P1.out (by simp)) 1 rfl
  go_wp2_with fail
  refine wp_gen ?_
  intro w3 hw3
  have HB3 := Lib.hid (show Below w2.heap.size w2 w3 by rw [hw3]; exact below_one _ _)
  have MP := Lib.hid (show w3.heap[w2.heap.size]? = some (.cells (pairA ⟨C, L, m⟩ 0) 49 (0, 0)) by rw [hw3, pairA_zero]; exact new_one _ _)
  have hs3 : w2.heap.size < w3.heap.size := lt_of_heap MP.out
  have hs2 : w.heap.size + 1 < w2.heap.size := lt_of_heap P2.out
  clear hw3 c1 d1
  go_loopw [26] (fun t26 wr => ∃ j : Nat, j ≤ L.length ∧ t26 = .int .i64 j ∧ Hid (wr.heap[w2.heap.size]? = some (.cells (pairA ⟨C, L, m⟩ j) 49 (0, 0))) ∧ Hid (Below w2.heap.size w2 wr)) (fun t26 _ => L.length - (intOf t26).toNat)
  case atStart => exact ⟨0, Nat.zero_le _, rfl, MP, HB3⟩
  case round =>
    obtain ⟨j, hj, rfl, MJ, HB⟩ := hrel
    by_cases hlt : j < L.length
    · have hdd : decide (j < L.length) = true := by simpa using hlt
      have hyy : L[j]? = some (L.getD j 0) := by simp [List.getD, hlt]
      have hlC : j < C.length := by have := HOK.out.len; simp only at this; omega
      have hcc : C[j]? = some (C.getD j 0) := by simp [List.getD, hlC]
      have hly := lit_in HOK.out hlt
      have hcy := coef_in HOK.out hlt
      have HYES := Lib.hid (@pair_yes ⟨C, L, m⟩ j)
      have HNO := Lib.hid (@pair_no ⟨C, L, m⟩ j)
      have HIN := Lib.hid (fun i => pv_in HOK.out i hj)
      have HIN2 := Lib.hid (fun i => pv_in HOK.out i (show j + 1 ≤ L.length by omega))
      have HG := Lib.hid (fun i hi => pairA_get ⟨C, L, m⟩ j (i := i) hi)
      obtain ⟨b, o, hb, rfl, k0⟩ := HL.out _ _ (ints_get _ _ _ hyy)
      obtain ⟨b2, o2, hb2, rfl, k2⟩ := HC.out _ _ (ints_get _ _ _ hcc)
      have c0 := below_cell (HB2.out.trans (HB.out.mono HB2.out.size)) (show b < w.heap.size by omega) k0
      have c2 := Lib.hid (below_cell (HB2.out.trans (HB.out.mono HB2.out.size)) (show b2 < w.heap.size by omega) k2)
      have Q1 := (behind_of_below HB.out).keep P1.out (by simp)
      have d0 := Lib.hid (blk_cell Q1 0 rfl)
      simp only at hly hcy HYES HNO
      generalize L.getD j 0 = y at *
      generalize C.getD j 0 = c at *
      clear hyy k0 hcc k2 Q1
      have hswr : w2.heap.size ≤ wr.heap.size := HB.out.size
      by_cases hy : 0 < y
      · obtain ⟨u, rfl⟩ : ∃ u : Nat, y = (u : Int) := ⟨y.toNat, by omega⟩
        have hdy : decide ((0 : Int) < (u : Int)) = true := by simpa using hy
        have hu1 : u < 129 := by omega
        have HY := Lib.hid (HYES.out u rfl (by omega) (by omega))
        have hg := HG.out (u * 2) (by omega)
        have hpi := HIN.out (u * 2)
        have HGu := Lib.hid hg
        clear HYES HNO HIN HIN2 HG hg
        generalize pv ⟨C, L, m⟩ j (u * 2) = q at *
        go_wp2_with fail
        refine wp_game_tail 12 (List.replicate 13 0) [] B0 fin_B0 (has_B0 _) (by kernel_rfl) (by kernel_rfl) ?_
        simp only [List.take_succ_cons, List.take_zero]
        refine lex_quietE 12 (by kernel_rfl) (by rfl) ?_
        apply Exists.intro
        refine ⟨fun z hz1 => ?_, ?_⟩
        · have g0 := blk_cellp (hz1.keep MJ.out (by simp)) (u * 2) HGu.out
          have g1 := below_cellp hz1.below d0.out (by omega)
          have g2 := below_cellp hz1.below c2.out (by omega)
          clear hz1
          simp only [List.take_succ_cons, List.take_zero]
          unfold Cx
          repeat (go_big_quiet_step (fail))
          exact wpQuiet_nil rfl
        simp only [List.drop_succ_cons, List.drop_zero]
        refine lex_nil ?_
        intro x2 hx2 _
        have M4 := hx2.keep MJ.out (by simp)
        have HM4 := Lib.hid M4
        have c4 := blk_cell M4 (u * 2) HGu.out
        have f4 := blk_free M4 (u * 2)
        have HB4 := Lib.hid (HB.out.trans (hx2.below.mono HB.out.size))
        clear hx2 M4 HB MJ
        go_wp2_with fail
        go_roundw
        case rel => exact ⟨j + 1, by omega, by go_num, by rw [HY.out]; exact heap_setCell_same _ _ _ _ _ _ HM4.out, HB4.out.setCell (by simp) _⟩
        case measure => simp [intOf]; omega
      · obtain ⟨u, rfl⟩ : ∃ u : Nat, y = -(u : Int) := ⟨(-y).toNat, by omega⟩
        have hdy : decide ((0 : Int) < -(u : Int)) = false := by simp
        have hu1 : u < 129 := by omega
        have HY := Lib.hid (HNO.out u rfl (by omega) (by omega))
        have hg := HG.out (u * 2 + 1) (by omega)
        have hpi := HIN.out (u * 2 + 1)
        have HGu := Lib.hid hg
        clear HYES HNO HIN HIN2 HG hg
        generalize pv ⟨C, L, m⟩ j (u * 2 + 1) = q at *
        go_wp2_with fail
        refine wp_game_tail 13 (List.replicate 14 0) [] B0 fin_B0 (has_B0 _) (by kernel_rfl) (by kernel_rfl) ?_
        simp only [List.take_succ_cons, List.take_zero]
        refine lex_quietE 13 (by kernel_rfl) (by rfl) ?_
        apply Exists.intro
        refine ⟨fun z hz1 => ?_, ?_⟩
        · have g0 := blk_cellp (hz1.keep MJ.out (by simp)) (u * 2 + 1) HGu.out
          have g1 := below_cellp hz1.below d0.out (by omega)
          have g2 := below_cellp hz1.below c2.out (by omega)
          clear hz1
          simp only [List.take_succ_cons, List.take_zero]
          unfold Cx
          repeat (go_big_quiet_step (fail))
          exact wpQuiet_nil rfl
        simp only [List.drop_succ_cons, List.drop_zero]
        refine lex_nil ?_
        intro x2 hx2 _
        have M4 := hx2.keep MJ.out (by simp)
        have HM4 := Lib.hid M4
        have c4 := blk_cell M4 (u * 2 + 1) HGu.out
        have f4 := blk_free M4 (u * 2 + 1)
        have HB4 := Lib.hid (HB.out.trans (hx2.below.mono HB.out.size))
        clear hx2 M4 HB MJ
        go_wp2_with fail
        go_roundw
        case rel => exact ⟨j + 1, by omega, by go_num, by rw [HY.out]; exact heap_setCell_same _ _ _ _ _ _ HM4.out, HB4.out.setCell (by simp) _⟩
        case measure => simp [intOf]; omega
    · obtain rfl : j = L.length := by omega
      have hdd : decide (L.length < L.length) = false := by simp
      have Q1 := (behind_of_below HB.out).keep P1.out (by simp)
      have d2 := blk_cell Q1 2 rfl
      have QM := (behind_of_below (below_one wr (.cells #[.slice none 0 0, .slice none 0 0, .int .i64 m] 24 (0, 0)))).keep MJ.out (by simp)
      have HQM := Lib.hid QM
      have HB5 := Lib.hid (HB.out.trans ((below_one wr (.cells #[.slice none 0 0, .slice none 0 0, .int .i64 m] 24 (0, 0))).mono HB.out.size))
      have HS5 := Lib.hid (new_one wr (.cells #[.slice none 0 0, .slice none 0 0, .int .i64 m] 24 (0, 0)))
      clear Q1 QM
      go_wp2_with fail
      refine wp_load_row 49 _ rfl w2.heap.size rfl _ _ (0, 0) _ HQM.out Tryd.underlying49 rfl (Tryd.sizePairs.trans (by rw [pairA_size])) ?_
      apply_assumption
      go_wp2_with fail
      refine wp_gen ?_
      intro w5 hw5
      have HS6 := Lib.hid (show w5.heap[wr.heap.size]? = some (.cells #[.slice none 0 0, .slice none 0 0, .int .i64 m] 24 (0, 0)) by rw [hw5]; exact HS5.out)
      have HB6 := Lib.hid (show Below w2.heap.size w2 w5 by rw [hw5]; exact HB5.out)
      have hs6 : wr.heap.size < w5.heap.size := lt_of_heap HS6.out
      have hsr : w2.heap.size < wr.heap.size := lt_of_heap MJ.out
      obtain ⟨bo, hbo⟩ : ∃ bo, bo = wr.heap.size := ⟨_, rfl⟩
      rw [← hbo] at HS6 hs6 hsr
      obtain ⟨PA, hPA⟩ : ∃ PA, PA = pairA ⟨C, L, m⟩ L.length := ⟨_, rfl⟩
      have HPA := Lib.hid hPA
      rw [← hPA, ← hbo]
      clear hw5 HS5 HB5 HQM HB MJ d2 hbo hPA hj hlt hs3 HB3 MP
      obtain ⟨w4, hw4⟩ : ∃ w4, w4 = wr := ⟨_, rfl⟩
      subst hw4
      have HL0 := Lib.hid (show nLoop ⟨C, L, m⟩ (List.range 0) = ⟨m, 0, [], []⟩ from rfl)
      go_loopw [63, 11] (fun t63 t11 wr => ∃ (v : Nat) (m1 t1 : Int) (C1 L1 : List Int) (vC vL : Value), v ≤ 129 ∧ t63 = .int .i64 v ∧ t11 = .int .i64 t1 ∧ -1000000000 * ((v : Int) + 1) ≤ m1 ∧ m1 ≤ 1000000000 * ((v : Int) + 1) ∧ -4000000000 * (v : Int) ≤ t1 ∧ t1 ≤ 4000000000 * (v : Int) ∧ C1.length ≤ v ∧ L1.length = C1.length ∧
        Hid (nLoop ⟨C, L, m⟩ (List.range v) = ⟨m1, t1, C1, L1⟩) ∧ Hid (wr.heap[bo]? = some (.cells #[vC, vL, .int .i64 m1] 24 (0, 0))) ∧ Hid (Two wr (bo + 1) vC C1 vL L1) ∧ Hid (Below w2.heap.size w2 wr)) (fun t63 _ _ => 129 - (intOf t63).toNat)
      case atStart => exact ⟨0, m, 0, [], [], _, _, by omega, rfl, rfl, by omega, by omega, by omega, by omega, Nat.le_refl _, rfl, HL0, HS6, two_none _ _, HB6⟩
      case round =>
        obtain ⟨v, m1, t1, C1, L1, vC, vL, hv, rfl, rfl, hm1, hm2, ht1, ht2, hC1, hL1, HN, HS, HT, HB⟩ := hrel
        have HL1 := Lib.hid hL1
        have hL1le : L1.length ≤ v := by omega
        clear hL1
        by_cases hlt : v < 129
        · have hvd : decide ((v : Int) < 129) = true := by simp; omega
          have hwr : w.heap.size + 1 < wr.heap.size := by have := HB.out.size; omega
          have hbr : bo < wr.heap.size := lt_of_heap HS.out
          have hp0 := pairA_get ⟨C, L, m⟩ L.length (i := v * 2) (by omega)
          have hq0 := pairA_get ⟨C, L, m⟩ L.length (i := v * 2 + 1) (by omega)
          rw [show pv ⟨C, L, m⟩ L.length (v * 2) = ofS ⟨C, L, m⟩ v L.length by unfold pv; rw [if_pos (by omega), show v * 2 / 2 = v by omega], ← HPA.out] at hp0
          rw [show pv ⟨C, L, m⟩ L.length (v * 2 + 1) = ofS ⟨C, L, m⟩ (-(v : Int)) L.length by unfold pv; rw [if_neg (show ¬ (v * 2 + 1) % 2 = 0 by omega), show (v * 2 + 1) / 2 = v by omega], ← HPA.out] at hq0
          have hpb := ofS_in HOK.out (v : Int) (Nat.le_refl L.length)
          have hqb := ofS_in HOK.out (-(v : Int)) (Nat.le_refl L.length)
          have HNS := Lib.hid (show nLoop ⟨C, L, m⟩ (List.range (v + 1)) = ⟨m1 - min (ofS ⟨C, L, m⟩ v L.length) (ofS ⟨C, L, m⟩ (-(v : Int)) L.length), t1 + (ofS ⟨C, L, m⟩ v L.length + ofS ⟨C, L, m⟩ (-(v : Int)) L.length - 2 * min (ofS ⟨C, L, m⟩ v L.length) (ofS ⟨C, L, m⟩ (-(v : Int)) L.length)),
              if ofS ⟨C, L, m⟩ (-(v : Int)) L.length < ofS ⟨C, L, m⟩ v L.length then C1 ++ [ofS ⟨C, L, m⟩ v L.length - ofS ⟨C, L, m⟩ (-(v : Int)) L.length] else if ofS ⟨C, L, m⟩ v L.length < ofS ⟨C, L, m⟩ (-(v : Int)) L.length then C1 ++ [ofS ⟨C, L, m⟩ (-(v : Int)) L.length - ofS ⟨C, L, m⟩ v L.length] else C1,
              if ofS ⟨C, L, m⟩ (-(v : Int)) L.length < ofS ⟨C, L, m⟩ v L.length then L1 ++ [(v : Int)] else if ofS ⟨C, L, m⟩ v L.length < ofS ⟨C, L, m⟩ (-(v : Int)) L.length then L1 ++ [-(v : Int)] else L1⟩ from (nLoop_succ ⟨C, L, m⟩ v).trans ((congrArg (fun x => nStep ⟨C, L, m⟩ x v) HN.out).trans rfl))
          generalize ofS ⟨C, L, m⟩ v L.length = p at *
          generalize ofS ⟨C, L, m⟩ (-(v : Int)) L.length = q at *
          have HIX := index_pair PA v hlt _ _ hp0 hq0
          clear hp0 hq0
          have b2 := blk_cell HS.out 2 rfl
          have b2f := blk_free HS.out 2
          obtain ⟨pC, cC, hvC⟩ := HT.out.o1.row.slice
          obtain ⟨pL, cL, hvL⟩ := HT.out.o2.row.slice
          subst hvC
          subst hvL
          by_cases hz : p = 0 ∧ q = 0
          · obtain ⟨rfl, rfl⟩ := hz
            have HF := Lib.hid (HNS.out.trans (show _ = NSt.mk m1 t1 C1 L1 by simp))
            have hB2 := HB.out.trans ((below_one wr (.cells #[.int .i64 0, .int .i64 0] 48 (0, 0))).mono HB.out.size)
            have hK := (behind_of_below (below_one wr (.cells #[.int .i64 0, .int .i64 0] 48 (0, 0)))).keep HS.out (by simp)
            have hTT := HT.out.keepB (below_one wr (.cells #[.int .i64 0, .int .i64 0] 48 (0, 0)))
            have HR := Lib.hid (And.intro hB2 (And.intro hK hTT))
            clear HNS hB2 hK hTT
            go_wp2_with fail
            go_roundw
            case rel => exact ⟨v + 1, m1, t1, C1, L1, _, _, by omega, by go_num, rfl, by omega, by omega, by omega, by omega, by omega, HL1.out, HF.out, HR.out.2.1, HR.out.2.2, HR.out.1⟩
            case measure => simp [intOf]; omega
          have HZ := Lib.hid hz
          clear hz
          have hq1 : p ≠ 0 ∨ q ≠ 0 := by have := HZ.out; omega
          go_upto_region 17 with fail
          refine wp_gen ?_
          intro w6 hw6
          have HB6' := Lib.hid (show Below w2.heap.size w2 w6 by rw [hw6]; exact HB.out.trans ((below_one wr _).mono HB.out.size))
          have HS6 := Lib.hid (show w6.heap[bo]? = some (.cells #[.slice pC C1.length cC, .slice pL L1.length cL, .int .i64 m1] 24 (0, 0)) by rw [hw6]; exact (behind_of_below (below_one wr _)).keep HS.out (by simp))
          have HT6 := Lib.hid (show Two w6 (bo + 1) (.slice pC C1.length cC) C1 (.slice pL L1.length cL) L1 by rw [hw6]; exact HT.out.keepB (below_one wr _))
          have HP6 := Lib.hid (show w6.heap[wr.heap.size]? = some (.cells #[.int .i64 p, .int .i64 q] 48 (0, 0)) by rw [hw6]; exact new_one _ _)
          have HnP := Lib.hid (show wr.heap.size ∉ (rowBlk (.slice pC C1.length cC) ++ rowBlk (.slice pL L1.length cL)) from fun h => (List.mem_append.1 h).elim (fun h => by have := HT.out.o1.row.lt _ h; omega) (fun h => by have := HT.out.o2.row.lt _ h; omega))
          have HnS := Lib.hid (show bo ∉ (rowBlk (.slice pC C1.length cC) ++ rowBlk (.slice pL L1.length cL)) from fun h => (List.mem_append.1 h).elim (fun h => by have := HT.out.o1.ge _ h; omega) (fun h => by have := HT.out.o2.ge _ h; omega))
          obtain ⟨bp, hbp⟩ : ∃ bp, bp = wr.heap.size := ⟨_, rfl⟩
          rw [← hbp] at HP6 hbr HnP
          rw [← hbp]
          clear hw6 HB HS HT b2 b2f HIX hbp
          have b0 := blk_cell HP6.out 0 rfl
          have b1 := blk_cell HP6.out 1 rfl
          have b2 := blk_cell HS6.out 2 rfl
          have b2f := blk_free HS6.out 2
          go_cut [69] (fun t69 wx => t69 = .bool false ∧ w6 = wx)
          case first =>
            by_cases hpz : p = 0
            · have hqz : ¬ q = 0 := by omega
              go_wp2_with fail
              all_goals
                go_meet
                case rel => exact ⟨by simp [hpz, hqz], rfl⟩
            · go_wp2_with fail
              all_goals
                go_meet
                case rel => exact ⟨by simp [hpz], rfl⟩
          case rest =>
          obtain ⟨rfl, rfl⟩ := hcut
          have hbp6 : bp < w6.heap.size := lt_of_heap HP6.out
          rcases Int.lt_trichotomy q p with hqp | hqp | hqp
          · have HF := Lib.hid (HNS.out.trans (show _ = NSt.mk (m1 - q) (t1 + (p + q - 2 * q)) (C1 ++ [p - q]) (L1 ++ [(v : Int)]) by
              rw [show min p q = q by omega]; rw [if_pos hqp, if_pos hqp]))
            have hmin : min p q = q := by omega
            have hlt1 : decide (q < p) = true := by simp; omega
            have hlt2 : decide (p < q) = false := by simp; omega
            clear HNS hq1
            go_wp2_with fail
            refine wp_gen ?_
            intro w7 hw7
            have HB7 := Lib.hid (show Below w2.heap.size w2 w7 by rw [hw7]; exact HB6'.out.setCell (by show w2.heap.size ≤ bo; omega) _)
            have HS7 := Lib.hid (show w7.heap[bo]? = some (.cells #[.slice pC C1.length cC, .slice pL L1.length cL, .int .i64 (m1 - q)] 24 (0, 0)) by rw [hw7]; exact heap_setCell_same _ bo 2 _ _ _ HS6.out)
            have HT7 := Lib.hid (show Two w7 (bo + 1) (.slice pC C1.length cC) C1 (.slice pL L1.length cL) L1 by rw [hw7]; exact HT6.out.keepU (behind_set2 (Wr := [bo])) (fun g hg => by simp at hg; omega))
            have HP7 := Lib.hid (show w7.heap[bp]? = some (.cells #[.int .i64 p, .int .i64 q] 48 (0, 0)) by rw [hw7]; exact (heap_setCell_other _ _ bp _ (by show bp ≠ bo; omega)).trans HP6.out)
            have hb7 : bo < w7.heap.size := lt_of_heap HS7.out
            have hb7w : w2.heap.size ≤ w7.heap.size := HB7.out.size
            clear hw7 HB6' HS6 HT6 HP6
            obtain ⟨kF1, hkF1⟩ : ∃ kF1, kF1 = kA (.slice pC C1.length cC) C1.length 1 := ⟨_, rfl⟩
            have hkF1' : kF1 = 2 ∨ kF1 = 5 := by rw [hkF1]; exact kA_or _ _ _
            obtain ⟨kF2, hkF2⟩ : ∃ kF2, kF2 = kA (.slice pL L1.length cL) L1.length 1 := ⟨_, rfl⟩
            have hkF2' : kF2 = 2 ∨ kF2 = 5 := by rw [hkF2]; exact kA_or _ _ _
            have HK1 := Lib.hid hkF1
            have HK2 := Lib.hid hkF2
            clear hkF1 hkF2
            have HWG := Lib.hid (show ∀ g ∈ (rowBlk (.slice pC C1.length cC) ++ rowBlk (.slice pL L1.length cL)), (bo + 1) ≤ g from fun g hg => (List.mem_append.1 hg).elim (fun h => HT7.out.o1.ge g h) (fun h => HT7.out.o2.ge g h))
            have HLT1 := Lib.hid HT7.out.o1.row.lt
            have HLT2 := Lib.hid HT7.out.o2.row.lt
            refine wp_game_tail 15 [0, 0, 0, 0, 0, 0, 0, 3, kF1, 0, 0, 0, 3, kF2, 0, 0, 0, 0] (rowBlk (.slice pC C1.length cC) ++ rowBlk (.slice pL L1.length cL)) (rowsB w7 (rowBlk (.slice pC C1.length cC) ++ rowBlk (.slice pL L1.length cL))) (fin_rowsB _ _) (has_rowsB _ _) (by kernel_rfl) (by rcases hkF1' with h | h <;> rcases hkF2' with h' | h' <;> rw [h, h'] <;> kernel_rfl) ?_
            simp only [List.take_succ_cons, List.take_zero]
            refine lex_quietE 7 (by kernel_rfl) (by rfl) ?_
            apply Exists.intro
            refine ⟨fun z hz1 => ?_, ?_⟩
            · skip
              have g0 := blk_cellp (hz1.keep HS7.out HnS.out) 0 rfl
              have g1 := blk_cellp (hz1.keep HP7.out HnP.out) 0 rfl
              have g2 := blk_cellp (hz1.keep HP7.out HnP.out) 1 rfl
              clear hz1
              simp only [List.take_succ_cons, List.take_zero]
              unfold Cx
              repeat (go_big_quiet_step (fail))
              exact wpQuiet_nil rfl
            simp only [List.drop_succ_cons, List.drop_zero]
            refine lex_slice 1 (.cells #[.int .i64 (p - q)] 3) (by rfl) (fun x => by go_simp) (fun g21 q21 hn21 => ?_)
            unfold setSlot
            go_big_quiet_step (fail)
            refine wpQuiet_nil ?_
            have n21v : g21 ∉ rowBlk (.slice pC C1.length cC) := fun h => by have := HLT1.out g21 h; omega
            have n21w : g21 ∉ rowBlk (.slice pL L1.length cL) := fun h => by have := HLT2.out g21 h; omega
            clear hn21
            refine lex_append_v (.tmp 97) (.tmp 103) 22 3 i0 _ 1 8 Tryd.underlying22 II.out IZ0.out IZ1.out IZ2.out (by rfl) (.slice pC C1.length cC) C1.length (ints C1) ((rowV_rowsB HT7.out.o1.row (fun g hg => List.mem_append.2 (.inl hg))).of_put n21v) (by rfl) g21 1 1 [.int .i64 (p - q)] 3 (by rfl) (Blocks.put_same _ _ _) rfl (by simp [Value.oneCell']) (by omega) (by unfold maxLen; omega) (by omega) (fun g hg => .inl (List.mem_append.2 (.inl hg))) HK1.out (fun g22 c22 ob22 hr22 hg22 => ?_)
            unfold setSlot
            go_big_quiet_step (fail)
            refine wpQuiet_nil ?_
            have n22w : g22 ∉ rowBlk (.slice pL L1.length cL) := fun e => hg22.elim (fun h => HT7.out.dis g22 h e) (fun h => by have := HLT2.out g22 e; omega)
            have hn22 : ∀ g ∈ rowBlk (.slice (some ⟨g22, 0, none⟩) (C1.length + 1) c22), g ∈ rowBlk (.slice pC C1.length cC) ∨ w7.heap.size ≤ g := fun g hg => by
              have : g = g22 := by simpa [rowBlk] using hg
              subst this
              exact hg22.imp id (fun h => h.1)
            clear hg22
            refine lex_quietE 3 (by kernel_rfl) (by rfl) ?_
            apply Exists.intro
            refine ⟨fun z hz1 => ?_, ?_⟩
            · skip
              have g0 := blk_cellp (hz1.keep HS7.out HnS.out) 1 rfl
              clear hz1
              simp only [List.take_succ_cons, List.take_zero]
              unfold Cx
              repeat (go_big_quiet_step (fail))
              exact wpQuiet_nil rfl
            simp only [List.drop_succ_cons, List.drop_zero]
            refine lex_slice 1 (.cells #[.int .i64 (v : Int)] 3) (by rfl) (fun x => by go_simp) (fun g23 q23 hn23 => ?_)
            unfold setSlot
            go_big_quiet_step (fail)
            refine wpQuiet_nil ?_
            have n23w : g23 ∉ rowBlk (.slice pL L1.length cL) := fun h => by have := HLT2.out g23 h; omega
            have n2322 : g23 ≠ g22 := ne_of_put hn23
            clear hn23
            refine lex_append_v (.tmp 106) (.tmp 108) 22 3 i0 _ 1 8 Tryd.underlying22 II.out IZ0.out IZ1.out IZ2.out (by rfl) (.slice pL L1.length cL) L1.length (ints L1) ((((rowV_rowsB HT7.out.o2.row (fun g hg => List.mem_append.2 (.inr hg))).of_put n21w).of_put n22w).of_put n23w) (by rfl) g23 1 1 [.int .i64 (v : Int)] 3 (by rfl) (Blocks.put_same _ _ _) rfl (by simp [Value.oneCell']) (by omega) (by unfold maxLen; omega) (by omega) (fun g hg => .inl (List.mem_append.2 (.inr hg))) HK2.out (fun g24 c24 ob24 hr24 hg24 => ?_)
            unfold setSlot
            go_big_quiet_step (fail)
            refine wpQuiet_nil ?_
            have n2422 : g24 ≠ g22 := hg24.elim (fun h e => n22w (e ▸ h)) (fun h => ne_of_put (none_of_put h.2))
            have hn24 : ∀ g ∈ rowBlk (.slice (some ⟨g24, 0, none⟩) (L1.length + 1) c24), g ∈ rowBlk (.slice pL L1.length cL) ∨ w7.heap.size ≤ g := fun g hg => by
              have : g = g24 := by simpa [rowBlk] using hg
              subst this
              exact hg24.imp id (fun h => h.1)
            clear hg24
            refine lex_quietE 1 (by kernel_rfl) (by rfl) ?_
            apply Exists.intro
            refine ⟨fun z hz1 => ?_, ?_⟩
            · skip
              clear hz1
              simp only [List.take_succ_cons, List.take_zero]
              unfold Cx
              repeat (go_big_quiet_step (fail))
              exact wpQuiet_nil rfl
            simp only [List.drop_succ_cons, List.drop_zero]
            refine lex_nil ?_
            intro x2 hx2 hH2
            have hr25 := (hr22.of_put (b := g23) (ob := .cells #[.int .i64 (v : Int)] 3 (0, 0)) (fun h => n2322 (by simpa [rowBlk] using h))).of_put (b := g24) (ob := ob24) (fun h => n2422 (by simpa [rowBlk] using h))
            have hT2 := HT7.out.both (show (bo + 1) ≤ w7.heap.size by omega) (hr25.of_has hH2) hn22 (hr24.of_has hH2) hn24 (fun g hg hm => by
              have e1 : g = g22 := by simpa [rowBlk] using hg
              have e2 : g = g24 := by simpa [rowBlk] using hm
              exact n2422 (e2.symm.trans e1))
            have T2 := Lib.hid hT2
            have X2 := Lib.hid hx2
            clear hx2 hH2 hT2 hn22 hn24 hr22 hr24 hr25 HLT1 HLT2
            have hS2 := X2.out.keep HS7.out HnS.out
            have e0 := blk_cell hS2 0 rfl
            have e1 := blk_cell hS2 1 rfl
            have e2 := blk_free hS2 0
            have e3 := blk_free hS2 1
            have HS8 := Lib.hid hS2
            have HB8 := Lib.hid (HB7.out.trans (X2.out.below_of (b := w2.heap.size) (fun g hg => by have := HWG.out g hg; omega) (by omega)))
            clear hS2 X2 HWG HnS HnP HS7 HP7 HT7 HB7
            go_wp2_with fail
            go_roundw
            case rel =>
              refine ⟨v + 1, _, _, C1 ++ [p - q], L1 ++ [(v : Int)], .slice (some ⟨g22, 0, none⟩) (C1.length + 1) c22, .slice (some ⟨g24, 0, none⟩) (L1.length + 1) c24, by omega, by go_num, rfl, by omega, by omega, by omega, by omega, by simp; omega, by simp [HL1.out], HF.out, ?_, T2.out.keepU ((behind_set2 (b := bo) (Wr := [bo])).trans (behind_set2 (b := bo) (Wr := [bo])) (by simp)) (fun g hg => by simp at hg; omega), (HB8.out.setCell (by show w2.heap.size ≤ bo; omega) _).setCell (by show w2.heap.size ≤ bo; omega) _⟩
              exact heap_setCell_same _ bo 1 _ _ _ (heap_setCell_same _ bo 0 _ _ _ HS8.out)
            case measure => simp [intOf]; omega
          · subst hqp
            have HF := Lib.hid (HNS.out.trans (show _ = NSt.mk (m1 - q) (t1 + (q + q - 2 * q)) C1 L1 by simp))
            have hmin : min q q = q := by omega
            have hlt1 : decide (q < q) = false := by simp
            clear HNS hq1
            go_wp2_with fail
            go_roundw
            case rel =>
              exact ⟨v + 1, m1 - q, t1 + (q + q - 2 * q), C1, L1, _, _, by omega, by go_num, rfl, by omega, by omega, by omega, by omega, by omega, HL1.out, HF.out, heap_setCell_same _ bo 2 _ _ _ HS6.out, HT6.out.keepU (behind_set2 (Wr := [bo])) (fun g hg => by simp at hg; omega), HB6'.out.setCell (by show w2.heap.size ≤ bo; omega) _⟩
            case measure => simp [intOf]; omega
          · have HF := Lib.hid (HNS.out.trans (show _ = NSt.mk (m1 - p) (t1 + (p + q - 2 * p)) (C1 ++ [q - p]) (L1 ++ [-(v : Int)]) by
              rw [show min p q = p by omega]; rw [if_neg (show ¬ q < p by omega), if_pos hqp, if_neg (show ¬ q < p by omega), if_pos hqp]))
            have hmin : min p q = p := by omega
            have hlt1 : decide (q < p) = false := by simp; omega
            have hlt2 : decide (p < q) = true := by simp; omega
            clear HNS hq1
            go_wp2_with fail
            refine wp_gen ?_
            intro w7 hw7
            have HB7 := Lib.hid (show Below w2.heap.size w2 w7 by rw [hw7]; exact HB6'.out.setCell (by show w2.heap.size ≤ bo; omega) _)
            have HS7 := Lib.hid (show w7.heap[bo]? = some (.cells #[.slice pC C1.length cC, .slice pL L1.length cL, .int .i64 (m1 - p)] 24 (0, 0)) by rw [hw7]; exact heap_setCell_same _ bo 2 _ _ _ HS6.out)
            have HT7 := Lib.hid (show Two w7 (bo + 1) (.slice pC C1.length cC) C1 (.slice pL L1.length cL) L1 by rw [hw7]; exact HT6.out.keepU (behind_set2 (Wr := [bo])) (fun g hg => by simp at hg; omega))
            have HP7 := Lib.hid (show w7.heap[bp]? = some (.cells #[.int .i64 p, .int .i64 q] 48 (0, 0)) by rw [hw7]; exact (heap_setCell_other _ _ bp _ (by show bp ≠ bo; omega)).trans HP6.out)
            have hb7 : bo < w7.heap.size := lt_of_heap HS7.out
            have hb7w : w2.heap.size ≤ w7.heap.size := HB7.out.size
            clear hw7 HB6' HS6 HT6 HP6
            obtain ⟨kF1, hkF1⟩ : ∃ kF1, kF1 = kA (.slice pC C1.length cC) C1.length 1 := ⟨_, rfl⟩
            have hkF1' : kF1 = 2 ∨ kF1 = 5 := by rw [hkF1]; exact kA_or _ _ _
            obtain ⟨kF2, hkF2⟩ : ∃ kF2, kF2 = kA (.slice pL L1.length cL) L1.length 1 := ⟨_, rfl⟩
            have hkF2' : kF2 = 2 ∨ kF2 = 5 := by rw [hkF2]; exact kA_or _ _ _
            have HK1 := Lib.hid hkF1
            have HK2 := Lib.hid hkF2
            clear hkF1 hkF2
            have HWG := Lib.hid (show ∀ g ∈ (rowBlk (.slice pC C1.length cC) ++ rowBlk (.slice pL L1.length cL)), (bo + 1) ≤ g from fun g hg => (List.mem_append.1 hg).elim (fun h => HT7.out.o1.ge g h) (fun h => HT7.out.o2.ge g h))
            have HLT1 := Lib.hid HT7.out.o1.row.lt
            have HLT2 := Lib.hid HT7.out.o2.row.lt
            refine wp_game_tail 16 [0, 0, 0, 0, 0, 0, 0, 3, kF1, 0, 0, 0, 0, 3, kF2, 0, 0, 0, 0] (rowBlk (.slice pC C1.length cC) ++ rowBlk (.slice pL L1.length cL)) (rowsB w7 (rowBlk (.slice pC C1.length cC) ++ rowBlk (.slice pL L1.length cL))) (fin_rowsB _ _) (has_rowsB _ _) (by kernel_rfl) (by rcases hkF1' with h | h <;> rcases hkF2' with h' | h' <;> rw [h, h'] <;> kernel_rfl) ?_
            simp only [List.take_succ_cons, List.take_zero]
            refine lex_quietE 7 (by kernel_rfl) (by rfl) ?_
            apply Exists.intro
            refine ⟨fun z hz1 => ?_, ?_⟩
            · skip
              have g0 := blk_cellp (hz1.keep HS7.out HnS.out) 0 rfl
              have g1 := blk_cellp (hz1.keep HP7.out HnP.out) 0 rfl
              have g2 := blk_cellp (hz1.keep HP7.out HnP.out) 1 rfl
              clear hz1
              simp only [List.take_succ_cons, List.take_zero]
              unfold Cx
              repeat (go_big_quiet_step (fail))
              exact wpQuiet_nil rfl
            simp only [List.drop_succ_cons, List.drop_zero]
            refine lex_slice 1 (.cells #[.int .i64 (q - p)] 3) (by rfl) (fun x => by go_simp) (fun g21 q21 hn21 => ?_)
            unfold setSlot
            go_big_quiet_step (fail)
            refine wpQuiet_nil ?_
            have n21v : g21 ∉ rowBlk (.slice pC C1.length cC) := fun h => by have := HLT1.out g21 h; omega
            have n21w : g21 ∉ rowBlk (.slice pL L1.length cL) := fun h => by have := HLT2.out g21 h; omega
            clear hn21
            refine lex_append_v (.tmp 119) (.tmp 125) 22 3 i0 _ 1 8 Tryd.underlying22 II.out IZ0.out IZ1.out IZ2.out (by rfl) (.slice pC C1.length cC) C1.length (ints C1) ((rowV_rowsB HT7.out.o1.row (fun g hg => List.mem_append.2 (.inl hg))).of_put n21v) (by rfl) g21 1 1 [.int .i64 (q - p)] 3 (by rfl) (Blocks.put_same _ _ _) rfl (by simp [Value.oneCell']) (by omega) (by unfold maxLen; omega) (by omega) (fun g hg => .inl (List.mem_append.2 (.inl hg))) HK1.out (fun g22 c22 ob22 hr22 hg22 => ?_)
            unfold setSlot
            go_big_quiet_step (fail)
            refine wpQuiet_nil ?_
            have n22w : g22 ∉ rowBlk (.slice pL L1.length cL) := fun e => hg22.elim (fun h => HT7.out.dis g22 h e) (fun h => by have := HLT2.out g22 e; omega)
            have hn22 : ∀ g ∈ rowBlk (.slice (some ⟨g22, 0, none⟩) (C1.length + 1) c22), g ∈ rowBlk (.slice pC C1.length cC) ∨ w7.heap.size ≤ g := fun g hg => by
              have : g = g22 := by simpa [rowBlk] using hg
              subst this
              exact hg22.imp id (fun h => h.1)
            clear hg22
            refine lex_quietE 4 (by kernel_rfl) (by rfl) ?_
            apply Exists.intro
            refine ⟨fun z hz1 => ?_, ?_⟩
            · skip
              have g0 := blk_cellp (hz1.keep HS7.out HnS.out) 1 rfl
              clear hz1
              simp only [List.take_succ_cons, List.take_zero]
              unfold Cx
              repeat (go_big_quiet_step (fail))
              exact wpQuiet_nil rfl
            simp only [List.drop_succ_cons, List.drop_zero]
            refine lex_slice 1 (.cells #[.int .i64 (-(v : Int))] 3) (by rfl) (fun x => by go_simp) (fun g23 q23 hn23 => ?_)
            unfold setSlot
            go_big_quiet_step (fail)
            refine wpQuiet_nil ?_
            have n23w : g23 ∉ rowBlk (.slice pL L1.length cL) := fun h => by have := HLT2.out g23 h; omega
            have n2322 : g23 ≠ g22 := ne_of_put hn23
            clear hn23
            refine lex_append_v (.tmp 128) (.tmp 131) 22 3 i0 _ 1 8 Tryd.underlying22 II.out IZ0.out IZ1.out IZ2.out (by rfl) (.slice pL L1.length cL) L1.length (ints L1) ((((rowV_rowsB HT7.out.o2.row (fun g hg => List.mem_append.2 (.inr hg))).of_put n21w).of_put n22w).of_put n23w) (by rfl) g23 1 1 [.int .i64 (-(v : Int))] 3 (by rfl) (Blocks.put_same _ _ _) rfl (by simp [Value.oneCell']) (by omega) (by unfold maxLen; omega) (by omega) (fun g hg => .inl (List.mem_append.2 (.inr hg))) HK2.out (fun g24 c24 ob24 hr24 hg24 => ?_)
            unfold setSlot
            go_big_quiet_step (fail)
            refine wpQuiet_nil ?_
            have n2422 : g24 ≠ g22 := hg24.elim (fun h e => n22w (e ▸ h)) (fun h => ne_of_put (none_of_put h.2))
            have hn24 : ∀ g ∈ rowBlk (.slice (some ⟨g24, 0, none⟩) (L1.length + 1) c24), g ∈ rowBlk (.slice pL L1.length cL) ∨ w7.heap.size ≤ g := fun g hg => by
              have : g = g24 := by simpa [rowBlk] using hg
              subst this
              exact hg24.imp id (fun h => h.1)
            clear hg24
            refine lex_quietE 1 (by kernel_rfl) (by rfl) ?_
            apply Exists.intro
            refine ⟨fun z hz1 => ?_, ?_⟩
            · skip
              clear hz1
              simp only [List.take_succ_cons, List.take_zero]
              unfold Cx
              repeat (go_big_quiet_step (fail))
              exact wpQuiet_nil rfl
            simp only [List.drop_succ_cons, List.drop_zero]
            refine lex_nil ?_
            intro x2 hx2 hH2
            have hr25 := (hr22.of_put (b := g23) (ob := .cells #[.int .i64 (-(v : Int))] 3 (0, 0)) (fun h => n2322 (by simpa [rowBlk] using h))).of_put (b := g24) (ob := ob24) (fun h => n2422 (by simpa [rowBlk] using h))
            have hT2 := HT7.out.both (show (bo + 1) ≤ w7.heap.size by omega) (hr25.of_has hH2) hn22 (hr24.of_has hH2) hn24 (fun g hg hm => by
              have e1 : g = g22 := by simpa [rowBlk] using hg
              have e2 : g = g24 := by simpa [rowBlk] using hm
              exact n2422 (e2.symm.trans e1))
            have T2 := Lib.hid hT2
            have X2 := Lib.hid hx2
            clear hx2 hH2 hT2 hn22 hn24 hr22 hr24 hr25 HLT1 HLT2
            have hS2 := X2.out.keep HS7.out HnS.out
            have e0 := blk_cell hS2 0 rfl
            have e1 := blk_cell hS2 1 rfl
            have e2 := blk_free hS2 0
            have e3 := blk_free hS2 1
            have HS8 := Lib.hid hS2
            have HB8 := Lib.hid (HB7.out.trans (X2.out.below_of (b := w2.heap.size) (fun g hg => by have := HWG.out g hg; omega) (by omega)))
            clear hS2 X2 HWG HnS HnP HS7 HP7 HT7 HB7
            go_wp2_with fail
            go_roundw
            case rel =>
              refine ⟨v + 1, _, _, C1 ++ [q - p], L1 ++ [-(v : Int)], .slice (some ⟨g22, 0, none⟩) (C1.length + 1) c22, .slice (some ⟨g24, 0, none⟩) (L1.length + 1) c24, by omega, by go_num, rfl, by omega, by omega, by omega, by omega, by simp; omega, by simp [HL1.out], HF.out, ?_, T2.out.keepU ((behind_set2 (b := bo) (Wr := [bo])).trans (behind_set2 (b := bo) (Wr := [bo])) (by simp)) (fun g hg => by simp at hg; omega), (HB8.out.setCell (by show w2.heap.size ≤ bo; omega) _).setCell (by show w2.heap.size ≤ bo; omega) _⟩
              exact heap_setCell_same _ bo 1 _ _ _ (heap_setCell_same _ bo 0 _ _ _ HS8.out)
            case measure => simp [intOf]; omega
        · obtain rfl : v = 129 := by omega
          have hvd : decide ((129 : Int) < 129) = false := by simp
          have b2 := blk_cell HS.out 2 rfl
          have HE := Lib.hid (show normS ⟨C, L, m⟩ n = (nEnd ⟨m1, t1, C1, L1⟩, 0) by rw [HQ.out, HN.out])
          have P4 := HB.out.block (w.heap.size + 1) hs2
          rw [P2.out] at P4
          have HBw := Lib.hid (HB2.out.trans (HB.out.mono HB2.out.size))
          have d0 := blk_cell P4 0 rfl
          have d1 := blk_cell P4 1 rfl
          have d2 := blk_cell P4 2 rfl
          have e0 := blk_free P4 0
          have e1 := blk_free P4 1
          have e2 := blk_free P4 2
          have HP4 := Lib.hid P4
          clear P4 hvd hlt HQ
          by_cases hz1 : m1 ≤ 0
          · have hzd : decide (m1 ≤ 0) = true := by simpa using hz1
            have HF := Lib.hid (HE.out.trans (show _ = (PS.zero, 0) by unfold nEnd; rw [if_pos hz1]))
            clear HE
            go_wp2_with fail
            refine bodyPost_ret (results_cell_tmp (p := 4) (q := 5) rfl _ _ (w.heap.size + 1) _ _ (0, 0) _ rfl (three_set HP4.out) Tryd.underlying24 rfl Tryd.sizeSum _ rfl) rfl ?_
            rw [HP.out, HF.out]
            exact ⟨_, _, rfl, two_none _ _, HBw.out.trans (three_below (by omega))⟩
          have hzd : decide (m1 ≤ 0) = false := by simpa using hz1
          by_cases hz2 : t1 < m1
          · have hzd2 : decide (t1 < m1) = true := by simpa using hz2
            have HF := Lib.hid (HE.out.trans (show _ = (PS.mk [] [] 1, 0) by unfold nEnd; rw [if_neg hz1, if_pos hz2]))
            clear HE
            go_wp2_with fail
            refine bodyPost_ret (results_cell_tmp (p := 4) (q := 5) rfl _ _ (w.heap.size + 1) _ _ (0, 0) _ rfl (three_set HP4.out) Tryd.underlying24 rfl Tryd.sizeSum _ rfl) rfl ?_
            rw [HP.out, HF.out]
            exact ⟨_, _, rfl, two_none _ _, HBw.out.trans (three_below (by omega))⟩
          have hzd2 : decide (t1 < m1) = false := by simpa using hz2
          have HF := Lib.hid (HE.out.trans (show _ = (PS.mk (C1.map fun c => min c m1) L1 m1, 0) by unfold nEnd; rw [if_neg hz1, if_neg hz2]))
          obtain ⟨pC, cC, hvC⟩ := HT.out.o1.row.slice
          obtain ⟨pL, cL, hvL⟩ := HT.out.o2.row.slice
          subst hvC
          subst hvL
          have b0 := blk_cell HS.out 0 rfl
          clear HE hz2 d0 d1 d2 e0 e1 e2
          go_wp2_with fail
          have HS0 := Lib.hid HS.out
          obtain ⟨w8, hw8⟩ : ∃ w8, w8 = wr := ⟨_, rfl⟩
          subst hw8
          go_loopw [148] (fun t148 wr => ∃ j : Nat, j ≤ C1.length ∧ t148 = .int .i64 j ∧ Hid (wr.heap[bo]? = some (.cells #[.slice pC C1.length cC, .slice pL L1.length cL, .int .i64 m1] 24 (0, 0))) ∧ Hid (Two wr (bo + 1) (.slice pC C1.length cC) (clipL C1 m1 j) (.slice pL L1.length cL) L1) ∧ Hid (Below (w.heap.size + 2) w8 wr)) (fun t148 _ => C1.length - (intOf t148).toNat)
          case atStart => exact ⟨0, Nat.zero_le _, rfl, HS0, by rw [clipL_zero]; exact HT, Below.refl _ _⟩
          case round =>
            obtain ⟨j, hj, rfl, HSj, HTj, HBj⟩ := hrel
            have hsj : w8.heap.size ≤ wr.heap.size := HBj.out.size
            have hbj : bo < wr.heap.size := lt_of_heap HSj.out
            have hs8 : w2.heap.size ≤ w8.heap.size := HB.out.size
            by_cases hlt : j < C1.length
            · have hdd : decide (j < C1.length) = true := by simpa using hlt
              obtain ⟨g, hpg, hbg, _, hgl, hfz, hce⟩ := HTj.out.first (by rw [clipL_len]; omega)
              subst hpg
              have HCE := Lib.hid (hce j _ (clipL_get hlt))
              have HFZ := Lib.hid hfz
              have HSU := Lib.hid (clipL_succ (m := m1) hlt)
              clear hce hfz
              generalize C1.getD j 0 = c at *
              go_wp2_with fail
              refine wp_game_tail 12 (List.replicate 13 0) [] B0 fin_B0 (has_B0 _) (by kernel_rfl) (by kernel_rfl) ?_
              simp only [List.take_succ_cons, List.take_zero]
              refine lex_quietE 12 (by kernel_rfl) (by rfl) ?_
              apply Exists.intro
              refine ⟨fun z hz1 => ?_, ?_⟩
              · have g0 := blk_cellp (hz1.keep HSj.out (by simp)) 0 rfl
                have g2 := blk_cellp (hz1.keep HSj.out (by simp)) 2 rfl
                have g1 := below_cellp hz1.below HCE.out hgl
                clear hz1
                simp only [List.take_succ_cons, List.take_zero]
                unfold Cx
                repeat (go_big_quiet_step (fail))
                exact wpQuiet_nil rfl
              simp only [List.drop_succ_cons, List.drop_zero]
              refine lex_nil ?_
              intro x2 hx2 _
              have c4 := below_cell hx2.below hgl HCE.out
              have HT4 := Lib.hid (HTj.out.keepB hx2.below)
              have f4 : x2.frozen? ⟨g, j, none⟩ = false := by
                obtain ⟨g', e1, _, _, _, e5, _⟩ := HT4.out.first (by rw [clipL_len]; omega)
                cases e1
                exact e5 j
              have HS4 := Lib.hid (hx2.keep HSj.out (by simp))
              have HB4 := Lib.hid (HBj.out.trans (hx2.below.mono (by omega)))
              clear hx2 HSj HTj HBj
              go_wp2_with fail
              go_roundw
              case rel => exact ⟨j + 1, by omega, by go_num, (heap_setCell_other _ _ bo _ (by show bo ≠ g; omega)).trans HS4.out, by rw [HSU.out, show min c m1 = if m1 < c then m1 else c by split <;> omega]; exact HT4.out.set1 (clipL_len _ _ _), HB4.out.setCell (by show w.heap.size + 2 ≤ g; omega) _⟩
              case measure => simp [intOf]; omega
            · obtain rfl : j = C1.length := by omega
              have hdd : decide (C1.length < C1.length) = false := by simp
              have d0 := blk_cell HSj.out 0 rfl
              have d1 := blk_cell HSj.out 1 rfl
              have d2 := blk_cell HSj.out 2 rfl
              have P5 := HBj.out.block (w.heap.size + 1) (by omega)
              rw [HP4.out] at P5
              have e0 := blk_cell P5 0 rfl
              have e1 := blk_cell P5 1 rfl
              have e2 := blk_cell P5 2 rfl
              have k0 := blk_free P5 0
              have k1 := blk_free P5 1
              have k2 := blk_free P5 2
              have HP5 := Lib.hid P5
              have HT5 := Lib.hid HTj.out
              rw [clipL_all] at HT5
              have HB5 := Lib.hid (HBw.out.trans (HBj.out.mono (by omega)))
              clear P5 HTj HBj
              go_wp2_with fail
              refine bodyPost_ret (results_cell_tmp (p := 4) (q := 5) rfl _ _ (w.heap.size + 1) _ _ (0, 0) _ rfl (three_set HP5.out) Tryd.underlying24 rfl Tryd.sizeSum _ rfl) rfl ?_
              rw [HP.out, HF.out]
              exact ⟨_, _, rfl, (HT5.out.keepU three_behind (fun g hg => by simp at hg; omega)).mono (by omega), HB5.out.trans (three_below (by omega))⟩
end Go.Proofs.YtchamkbnapjidaaDoor
