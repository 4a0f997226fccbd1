/- Given: what is left of a sum, given a term. -/
import Derived.Test.YtchamkbnapjidaaDoorKL
import Derived.Deep.DeepCutAuto
import Derived.Test.YtchamkbnapjidaaDoorSG
namespace Go.Proofs.YtchamkbnapjidaaDoor
open Go.RowKit

/-- Which literals are true, behind j of the term's. -/
def isA (t : List Int) (j : Nat) : Array Value := ((List.range 257).map fun (i : Nat) => Value.bool (decide ((i : Int) - 128 ∈ t.take j))).toArray
theorem isA_size (t : List Int) (j : Nat) : (isA t j).size = 257 := by simp [isA]
theorem isA_get (t : List Int) (j : Nat) {i : Nat} (hi : i < 257) : (isA t j)[i]? = some (.bool (decide ((i : Int) - 128 ∈ t.take j))) := by
  unfold isA
  simp [List.getElem?_range hi]
set_option maxRecDepth 100000 in
theorem isA_zero (t : List Int) : isA t 0 = Tryd.zeroCells54 := by
  have h : isA t 0 = ((List.range 257).map fun _ => Value.bool false).toArray := by
    unfold isA
    congr 1
  exact h.trans rfl
theorem isA_succ {t : List Int} {j u : Nat} (hj : j < t.length) (hu : t.getD j 0 + 128 = (u : Int)) (hu2 : u < 257) : isA t (j + 1) = (isA t j).setIfInBounds u (.bool true) := by
  have hjj : t[j]? = some (t.getD j 0) := by simp [List.getD, hj]
  have htk : t.take (j + 1) = t.take j ++ [t.getD j 0] := by rw [List.take_add_one, hjj]; rfl
  apply Array.ext_getElem?
  intro i
  by_cases hi : i < 257
  · rw [isA_get t (j + 1) hi]
    by_cases hik : i = u
    · subst hik
      rw [Array.getElem?_setIfInBounds_self_of_lt (by rw [isA_size]; exact hi)]
      rw [decide_eq_true]
      rw [htk]
      exact List.mem_append_right _ (List.mem_singleton.2 (by omega))
    · rw [Array.getElem?_setIfInBounds_ne (Ne.symm hik), isA_get t j hi]
      congr 2
      rw [htk, decide_eq_decide, List.mem_append, List.mem_singleton]
      constructor
      · rintro (h | h)
        · exact h
        · omega
      · exact .inl
  · rw [Array.getElem?_eq_none (by rw [isA_size]; omega), Array.getElem?_eq_none (by rw [Array.size_setIfInBounds, isA_size]; omega)]
theorem gLoop_succ (s : PS) (t : List Int) (j : Nat) : gLoop s t (j + 1) = gStep s t (gLoop s t j) j := by
  unfold gLoop
  rw [List.range_succ, List.foldl_append]; rfl
theorem Tryd.sizeIs : (Tryd.prog.info? 54).map (·.size) = some 257 := by kernel_rfl

set_option maxHeartbeats 8000000 in
set_option maxRecDepth 100000 in
theorem gGiven (N : Nat) (s : PS) (t : List Int) (n : Int) (ca la ta : Option Addr) (cc lc tc : Nat) (hcl : s.C.length ≤ 100000000000000) (hll : s.L.length ≤ 100000000000000) (htl : t.length ≤ 10000000000000) (w : World) (hC : AtN N w ca (ints s.C)) (hL : AtN N w la (ints s.L)) (hT : AtN N w ta (ints t)) (hw : N ≤ w.heap.size) :
    Calls Tryd.prog 14 #[sumV ca cc la lc s, .slice ta t.length tc, .int .i64 n] w (SumPost w (givenS s t n).1 (givenS s t n).2) := by
  have HC := Lib.hid hC
  have HL := Lib.hid hL
  have HT := Lib.hid hT
  have KC := Lib.hid (fun (w1 : World) (hb : Below w.heap.size w w1) => gCheck N s n ca la cc lc hcl hll w1 (hC.below hb hw) (hL.below hb hw) (Nat.le_trans hw hb.size))
  have KTm := Lib.hid (fun (hn : n ≤ 128) (w1 : World) (hb : Below w.heap.size w w1) => gTermL t n hn N ta tc w1 (hT.below hb hw) htl (Nat.le_trans hw hb.size))
  unfold sumV at *
  obtain ⟨Post, hPost⟩ : ∃ P : Ending → World → Prop, P = SumPost w (givenS s t n).1 (givenS s t n).2 := ⟨_, rfl⟩
  rw [← hPost]
  by_cases hc : checkS s n = 0
  case neg =>
    have HQ := Lib.hid (fun (w' : World) (hb : Below w.heap.size w w') => show Post (.returned (.tuple #[.agg #[.slice none 0 0, .slice none 0 0, .int .i64 0], .int .i64 (checkS s n)])) w' by
      rw [hPost, show givenS s t n = (.zero, checkS s n) by unfold givenS; rw [if_pos hc]]; exact ⟨_, _, rfl, two_none _ _, hb⟩)
    generalize checkS s n = r at *
    have hr : (r != 0) = true := by simp [bne, beq_no hc]
    clear hC hL hT hc hPost KTm
    go_enter Tryd.func14, Tryd.ntmps14
    go_wp2_with fail
    refine calls_gen fun w1 hw1 => ?_
    have HB1 := Lib.hid (show Below w.heap.size w w1 by rw [hw1]; exact below_two _ _ _)
    have M2 := (show w1.heap[w.heap.size + 1]? = some (.cells #[.slice none 0 0, .slice none 0 0, .int .i64 0] 24 (0, 0)) by rw [hw1]; exact new_two2 _ _ _)
    clear hw1
    refine (KC.out w1 HB1.out).mono ?_
    rintro e w2 ⟨rfl, hB2⟩
    have HB2 := Lib.hid (HB1.out.trans (hB2.mono HB1.out.size))
    have P2 := Lib.hid ((behind_of_below hB2).keep M2 (by simp))
    clear hB2 HB1 M2
    have c0 := blk_cell P2.out 0 rfl
    have c1 := blk_cell P2.out 1 rfl
    have c2 := blk_cell P2.out 2 rfl
    have f0 := blk_free P2.out 0
    have f1 := blk_free P2.out 1
    have f2 := blk_free P2.out 2
    go_wp2_with fail
    refine bodyPost_ret (results_cell_tmp (p := 6) (q := 7) rfl _ _ (w.heap.size + 1) _ _ (0, 0) _ rfl (three_set P2.out) Tryd.underlying24 rfl Tryd.sizeSum _ rfl) rfl ?_
    exact HQ.out _ (HB2.out.trans (three_below (by omega)))
  have hOk := check_ok.1 hc
  have HQ := Lib.hid (show givenS s t n = if termOk t n = false then (.zero, 1) else (⟨(gLoop s t s.L.length).C, (gLoop s t s.L.length).L, clampI (gLoop s t s.L.length).m⟩, 0) by unfold givenS; rw [if_neg (by simpa using hc)])
  rw [hc] at KC
  have KT2 := Lib.hid (KTm.out hOk.n1)
  have HOK := Lib.hid hOk
  have hn1 := hOk.n1
  have hl64 : s.L.length ≤ 64 := by have := hOk.len; have := hOk.l64; omega
  have hm0 := hOk.m0
  have hm1 := hOk.m1
  have HP := Lib.hid hPost
  clear hC hL hT hc hOk hcl hll hPost KTm
  obtain ⟨i0, ii, iz0, iz1, iz2⟩ := info_parts Tryd.infoInt
  have II := Lib.hid ii
  have IZ0 := Lib.hid iz0
  have IZ1 := Lib.hid iz1
  have IZ2 := Lib.hid iz2
  clear ii iz0 iz1 iz2
  obtain ⟨C, L, m⟩ := s
  simp only at hl64 HQ HC HL KC hm0 hm1
  go_enter Tryd.func14, Tryd.ntmps14
  go_wp2_with fail
  refine calls_gen fun w1 hw1 => ?_
  have HB1 := Lib.hid (show Below w.heap.size w w1 by rw [hw1]; exact below_two _ _ _)
  have M1 := (show w1.heap[w.heap.size]? = some (.cells #[.slice ca C.length cc, .slice la L.length lc, .int .i64 m] 24 (0, 0)) by rw [hw1]; exact new_two1 _ _ _)
  have M2 := (show w1.heap[w.heap.size + 1]? = some (.cells #[.slice none 0 0, .slice none 0 0, .int .i64 0] 24 (0, 0)) by rw [hw1]; exact new_two2 _ _ _)
  clear hw1
  refine (KC.out w1 HB1.out).mono ?_
  rintro e w2 ⟨rfl, hB2⟩
  have HB2 := Lib.hid (HB1.out.trans (hB2.mono HB1.out.size))
  have P1 := Lib.hid ((behind_of_below hB2).keep M1 (by simp))
  have P2 := Lib.hid ((behind_of_below hB2).keep M2 (by simp))
  clear hB2 HB1 M1 M2 KC
  go_wp2_with fail
  refine (KT2.out w2 HB2.out).mono ?_
  rintro e w3 ⟨vt, rfl, hB3⟩
  have HB3 := Lib.hid (HB2.out.trans (hB3.mono HB2.out.size))
  have P3 := Lib.hid ((behind_of_below hB3).keep P1.out (by simp))
  have P4 := Lib.hid ((behind_of_below hB3).keep P2.out (by simp))
  clear hB3 HB2 P1 P2 KT2
  cases htm : termOk t n with
  | false =>
    have HF := Lib.hid (HQ.out.trans (by rw [htm, if_pos rfl]))
    have c0 := blk_cell P4.out 0 rfl
    have c1 := blk_cell P4.out 1 rfl
    have c2 := blk_cell P4.out 2 rfl
    have f0 := blk_free P4.out 0
    have f1 := blk_free P4.out 1
    have f2 := blk_free P4.out 2
    clear htm HQ
    go_wp2_with fail
    refine bodyPost_ret (results_cell_tmp (p := 6) (q := 7) rfl _ _ (w.heap.size + 1) _ _ (0, 0) _ rfl (three_set P4.out) Tryd.underlying24 rfl Tryd.sizeSum _ rfl) rfl ?_
    rw [HP.out, HF.out]
    exact ⟨_, _, rfl, two_none _ _, HB3.out.trans (three_below (by omega))⟩
  | true =>
  have HF := Lib.hid (HQ.out.trans (by rw [htm, if_neg (by simp)]))
  have hval : ∀ x ∈ t, x ≠ 0 ∧ -128 ≤ x ∧ x ≤ 128 := fun x hx => by
    unfold termOk at htm
    rw [Bool.and_eq_true] at htm
    have := litOk_iff.1 (List.all_eq_true.1 htm.1 x hx)
    omega
  have HV := Lib.hid hval
  clear hval htm HQ
  go_wp2_with fail
  refine wp_gen ?_
  intro w4 hw4
  have HB4 := Lib.hid (show Below w3.heap.size w3 w4 by rw [hw4]; exact below_one _ _)
  have MP := Lib.hid (show w4.heap[w3.heap.size]? = some (.cells (isA t 0) 54 (0, 0)) by rw [hw4, isA_zero]; exact new_one _ _)
  have hs3 : w3.heap.size < w4.heap.size := lt_of_heap MP.out
  have hs2 : w.heap.size + 1 < w3.heap.size := lt_of_heap P4.out
  clear hw4
  go_loopw [35] (fun t35 wr => ∃ j : Nat, j ≤ t.length ∧ t35 = .int .i64 j ∧ Hid (wr.heap[w3.heap.size]? = some (.cells (isA t j) 54 (0, 0))) ∧ Hid (Below w3.heap.size w3 wr)) (fun t35 _ => t.length - (intOf t35).toNat)
  case atStart => exact ⟨0, Nat.zero_le _, rfl, MP, HB4⟩
  case round =>
    obtain ⟨j, hj, rfl, MJ, HB⟩ := hrel
    by_cases hlt : j < t.length
    · have hdd : decide (j < t.length) = true := by simpa using hlt
      have hyy : t[j]? = some (t.getD j 0) := by simp [List.getD, hlt]
      have hly := HV.out (t.getD j 0) (by simp [List.getD, hlt])
      obtain ⟨b, o, hb, rfl, k0⟩ := HT.out _ _ (ints_get _ _ _ hyy)
      have c0 := below_cell (HB3.out.trans (HB.out.mono HB3.out.size)) (show b < w.heap.size by omega) k0
      obtain ⟨u, hu⟩ : ∃ u : Nat, t.getD j 0 + 128 = (u : Int) := ⟨(t.getD j 0 + 128).toNat, by omega⟩
      have hu2 : u < 257 := by omega
      have HS := Lib.hid (isA_succ hlt hu hu2)
      have c4 := blk_cell MJ.out u (isA_get t j hu2)
      have f4 := blk_free MJ.out u
      generalize decide ((u : Int) - 128 ∈ t.take j) = q at *
      generalize t.getD j 0 = y at *
      have hu3 : (128 : Int) + y = (u : Int) := by omega
      have HSZ := HB.out.size
      clear hyy k0 hu
      go_wp2_with fail
      go_roundw
      case rel => exact ⟨j + 1, by omega, by go_num, by rw [HS.out]; exact heap_setCell_same _ _ _ _ _ _ MJ.out, HB.out.setCell (by simp) _⟩
      case measure => simp [intOf]; omega
    · obtain rfl : j = t.length := by omega
      have hdd : decide (t.length < t.length) = false := by simp
      have Q1 := (behind_of_below HB.out).keep P3.out (by simp)
      have d2 := blk_cell Q1 2 rfl
      have Q2 := HB.out.block (w.heap.size + 1) hs2
      rw [P4.out] at Q2
      have HP1 := Lib.hid Q1
      have HP2 := Lib.hid Q2
      have HB5 := Lib.hid (HB3.out.trans (HB.out.mono HB3.out.size))
      have hsr : w3.heap.size < wr.heap.size := lt_of_heap MJ.out
      obtain ⟨w5, hw5⟩ : ∃ w5, w5 = wr := ⟨_, rfl⟩
      subst hw5
      clear Q1 Q2
      have e1 : ∀ o, (w5.alloc o).cell? ⟨w.heap.size, 1, none⟩ = some (.slice la L.length lc) := fun o => blk_cell ((behind_of_below (below_one w5 o)).keep HP1.out (by simp)) 1 rfl
      go_wp2_with fail
      refine wp_gen ?_
      intro w6 hw6
      have HSo := Lib.hid (show w6.heap[w5.heap.size]? = some (.cells #[.slice none 0 0, .slice none 0 0, .int .i64 m] 24 (0, 0)) by rw [hw6]; exact new_one _ _)
      have HB6 := Lib.hid (show Below w5.heap.size w5 w6 by rw [hw6]; exact below_one _ _)
      have HMI := Lib.hid (show w5.heap[w3.heap.size]? = some (.cells (isA t t.length) 54 (0, 0)) from MJ.out)
      obtain ⟨bo, hbo⟩ : ∃ bo, bo = w5.heap.size := ⟨_, rfl⟩
      rw [← hbo] at HSo hsr
      rw [← hbo]
      have hsb : w.heap.size + 1 < bo := by omega
      have HBO := Lib.hid (show ∀ x : World, Below bo w6 x → Below w.heap.size w x from fun x hx => HB5.out.trans ((HB6.out.mono HB5.out.size).trans (hx.mono (by omega))))
      have HKa := Lib.hid (show ∀ x : World, Below bo w6 x → x.heap[w.heap.size]? = some (.cells #[.slice ca C.length cc, .slice la L.length lc, .int .i64 m] 24 (0, 0)) from fun x hx => (hx.block _ (by omega)).trans ((HB6.out.block _ (by omega)).trans HP1.out))
      have HKb := Lib.hid (show ∀ x : World, Below bo w6 x → x.heap[w.heap.size + 1]? = some (.cells #[.slice none 0 0, .slice none 0 0, .int .i64 0] 24 (0, 0)) from fun x hx => (hx.block _ (by omega)).trans ((HB6.out.block _ (by omega)).trans HP2.out))
      have HKc := Lib.hid (show ∀ x : World, Below bo w6 x → x.heap[w3.heap.size]? = some (.cells (isA t t.length) 54 (0, 0)) from fun x hx => (hx.block _ (by omega)).trans ((HB6.out.block _ (by omega)).trans HMI.out))
      have HL0 := Lib.hid (show gLoop ⟨C, L, m⟩ t 0 = ⟨[], [], m⟩ from rfl)
      have hb6 : bo < w6.heap.size := lt_of_heap HSo.out
      clear hw6 d2 e1 MJ HB hj hlt hdd HP1 HP2 HB6 HMI HB5 hbo HB3 P3 P4 HB4 MP
      go_loopw [49] (fun t49 wr => ∃ (j : Nat) (m1 : Int) (C1 L1 : List Int) (vC vL : Value), j ≤ L.length ∧ t49 = .int .i64 j ∧ -1000000000 * ((j : Int) + 1) ≤ m1 ∧ m1 ≤ 1000000000 * ((j : Int) + 1) ∧ C1.length ≤ j ∧ Hid (L1.length = C1.length) ∧
        Hid (gLoop ⟨C, L, m⟩ t j = ⟨C1, L1, m1⟩) ∧ Hid (wr.heap[bo]? = some (.cells #[vC, vL, .int .i64 m1] 24 (0, 0))) ∧ Hid (Two wr (bo + 1) vC C1 vL L1) ∧ Hid (Below bo w6 wr)) (fun t49 _ => L.length - (intOf t49).toNat)
      case atStart => exact ⟨0, m, [], [], _, _, Nat.zero_le _, rfl, by omega, by omega, Nat.le_refl _, rfl, HL0, HSo, two_none _ _, Below.refl _ _⟩
      case round =>
        obtain ⟨j, m1, C1, L1, vC, vL, hj, rfl, hm1, hm2, hC1, HL1, HG, HS, HT2, HB⟩ := hrel
        have hL1le : L1.length ≤ j := by have := HL1.out; omega
        have hbr : bo < wr.heap.size := lt_of_heap HS.out
        have hK1 := HKa.out _ HB.out
        obtain ⟨pC, cC, hvC⟩ := HT2.out.o1.row.slice
        obtain ⟨pL, cL, hvL⟩ := HT2.out.o2.row.slice
        subst hvC
        subst hvL
        by_cases hlt : j < L.length
        · have hdd : decide (j < L.length) = true := by simpa using hlt
          have hyy : L[j]? = some (L.getD j 0) := by simp [List.getD, hlt]
          have hlC : j < C.length := by have := HOK.out.len; simp only at this; omega
          have hcc : C[j]? = some (C.getD j 0) := by simp [List.getD, hlC]
          have hly := lit_in HOK.out hlt
          have hcy := coef_in HOK.out hlt
          obtain ⟨b, o, hb, rfl, k0⟩ := HL.out _ _ (ints_get _ _ _ hyy)
          obtain ⟨b2, o2, hb2, rfl, k2⟩ := HC.out _ _ (ints_get _ _ _ hcc)
          have c0 := below_cell (HBO.out _ HB.out) (show b < w.heap.size by omega) k0
          have c2 := Lib.hid (below_cell (HBO.out _ HB.out) (show b2 < w.heap.size by omega) k2)
          have d0 := Lib.hid (blk_cell hK1 0 rfl)
          have hgs : gLoop ⟨C, L, m⟩ t (j + 1) = if L.getD j 0 ∈ t then ⟨C1, L1, m1 - C.getD j 0⟩ else if -(L.getD j 0) ∈ t then ⟨C1, L1, m1⟩ else ⟨C1 ++ [C.getD j 0], L1 ++ [L.getD j 0], m1⟩ := by
            rw [gLoop_succ, HG.out]; rfl
          have HGS := Lib.hid hgs
          clear hgs
          simp only at hly hcy
          have hK3 := HKc.out _ HB.out
          obtain ⟨u, hu⟩ : ∃ u : Nat, (128 : Int) + L.getD j 0 = (u : Int) := ⟨(128 + L.getD j 0).toNat, by omega⟩
          obtain ⟨u', hu'⟩ : ∃ u' : Nat, (128 : Int) - L.getD j 0 = (u' : Int) := ⟨(128 - L.getD j 0).toNat, by omega⟩
          have hu2 : u < 257 := by omega
          have hu3 : u' < 257 := by omega
          have b1 := blk_cell hK3 u (isA_get t t.length hu2)
          have b2' := blk_cell hK3 u' (isA_get t t.length hu3)
          rw [List.take_length, show (u : Int) - 128 = L.getD j 0 by omega] at b1
          rw [List.take_length, show (u' : Int) - 128 = -(L.getD j 0) by omega] at b2'
          generalize L.getD j 0 = y at *
          generalize C.getD j 0 = c at *
          clear hyy k0 hcc k2 hK1 hK3
          by_cases hy1 : y ∈ t
          · have HF2 := Lib.hid (HGS.out.trans (if_pos hy1))
            rw [decide_eq_true hy1] at b1
            clear HGS hy1 b2' hu'
            go_wp2_with fail
            refine wp_game_tail 9 (List.replicate 10 0) [] B0 fin_B0 (has_B0 _) (by kernel_rfl) (by kernel_rfl) ?_
            simp only [List.take_succ_cons, List.take_zero]
            refine lex_quietE 9 (by kernel_rfl) (by rfl) ?_
            apply Exists.intro
            refine ⟨fun z hz1 => ?_, ?_⟩
            · have g0 := blk_cellp (hz1.keep HS.out (by simp)) 2 rfl
              have g1 := below_cellp hz1.below d0.out (by omega)
              have g2 := below_cellp hz1.below c2.out (by omega)
              clear hz1
              simp only [List.take_succ_cons, List.take_zero]
              unfold Cx
              repeat (go_big_quiet_step (fail))
              exact wpQuiet_nil rfl
            simp only [List.drop_succ_cons, List.drop_zero]
            refine lex_nil ?_
            intro x2 hx2 _
            have hS2 := hx2.keep HS.out (by simp)
            have a2 := blk_cell hS2 2 rfl
            have a2f := blk_free hS2 2
            have HS2 := Lib.hid hS2
            have HT3 := Lib.hid (HT2.out.keepB hx2.below)
            have HB7 := Lib.hid (HB.out.trans (hx2.below.mono (Nat.le_of_lt hbr)))
            clear hx2 hS2 HS HT2 HB
            go_wp2_with fail
            go_roundw
            case rel => exact ⟨j + 1, m1 - c, C1, L1, _, _, by omega, by go_num, by omega, by omega, by omega, HL1, HF2.out, heap_setCell_same _ bo 2 _ _ _ HS2.out, HT3.out.keepU (behind_set2 (b := bo) (Wr := [bo])) (fun g hg => by simp at hg; omega), HB7.out.setCell (Nat.le_refl _) _⟩
            case measure => simp [intOf]; omega
          rw [decide_eq_false hy1] at b1
          by_cases hy2 : -y ∈ t
          · have HF2 := Lib.hid (HGS.out.trans ((if_neg hy1).trans (if_pos hy2)))
            rw [decide_eq_true hy2] at b2'
            clear HGS hy1 hy2
            go_wp2_with fail
            go_roundw
            case rel => exact ⟨j + 1, m1, C1, L1, _, _, by omega, by go_num, by omega, by omega, by omega, HL1, HF2.out, HS, HT2, HB⟩
            case measure => simp [intOf]; omega
          have HF2 := Lib.hid (HGS.out.trans ((if_neg hy1).trans (if_neg hy2)))
          rw [decide_eq_false hy2] at b2'
          have HnS := Lib.hid (show bo ∉ (rowBlk (.slice pC C1.length cC) ++ rowBlk (.slice pL L1.length cL)) from fun h => (List.mem_append.1 h).elim (fun h => by have := HT2.out.o1.ge _ h; omega) (fun h => by have := HT2.out.o2.ge _ h; omega))
          have HnD := Lib.hid (show ∀ k, k < bo → k ∉ (rowBlk (.slice pC C1.length cC) ++ rowBlk (.slice pL L1.length cL)) from fun k hk h => (List.mem_append.1 h).elim (fun h => by have := HT2.out.o1.ge _ h; omega) (fun h => by have := HT2.out.o2.ge _ h; omega))
          clear HGS hy1 hy2
          go_wp2_with fail
          obtain ⟨kF1, hkF1⟩ : ∃ kF1, kF1 = kA (.slice pC C1.length cC) C1.length 1 := ⟨_, rfl⟩
          have hkF1' : kF1 = 2 ∨ kF1 = 5 := by rw [hkF1]; exact kA_or _ _ _
          obtain ⟨kF2, hkF2⟩ : ∃ kF2, kF2 = kA (.slice pL L1.length cL) L1.length 1 := ⟨_, rfl⟩
          have hkF2' : kF2 = 2 ∨ kF2 = 5 := by rw [hkF2]; exact kA_or _ _ _
          have HK1 := Lib.hid hkF1
          have HK2 := Lib.hid hkF2
          clear hkF1 hkF2
          have HWG := Lib.hid (show ∀ g ∈ (rowBlk (.slice pC C1.length cC) ++ rowBlk (.slice pL L1.length cL)), (bo + 1) ≤ g from fun g hg => (List.mem_append.1 hg).elim (fun h => HT2.out.o1.ge g h) (fun h => HT2.out.o2.ge g h))
          have HLT1 := Lib.hid HT2.out.o1.row.lt
          have HLT2 := Lib.hid HT2.out.o2.row.lt
          refine wp_game_tail 15 [0, 0, 0, 0, 0, 0, 0, 3, kF1, 0, 0, 0, 3, kF2, 0, 0, 0, 0] (rowBlk (.slice pC C1.length cC) ++ rowBlk (.slice pL L1.length cL)) (rowsB wr (rowBlk (.slice pC C1.length cC) ++ rowBlk (.slice pL L1.length cL))) (fin_rowsB _ _) (has_rowsB _ _) (by kernel_rfl) (by rcases hkF1' with h | h <;> rcases hkF2' with h' | h' <;> rw [h, h'] <;> kernel_rfl) ?_
          simp only [List.take_succ_cons, List.take_zero]
          refine lex_quietE 7 (by kernel_rfl) (by rfl) ?_
          apply Exists.intro
          refine ⟨fun z hz1 => ?_, ?_⟩
          · skip
            have g0 := blk_cellp (hz1.keep HS.out HnS.out) 0 rfl
            have g1 := blk_cellp (hz1.keep (HKa.out _ HB.out) (HnD.out _ (by omega))) 0 rfl
            have g2 := below_cellp (hz1.below_of (b := bo) (fun g hg => by have := HWG.out g hg; omega) (by omega)) c2.out (by omega)
            clear hz1
            simp only [List.take_succ_cons, List.take_zero]
            unfold Cx
            repeat (go_big_quiet_step (fail))
            exact wpQuiet_nil rfl
          simp only [List.drop_succ_cons, List.drop_zero]
          refine lex_slice 1 (.cells #[.int .i64 c] 3) (by rfl) (fun x => by go_simp) (fun g21 q21 hn21 => ?_)
          unfold setSlot
          go_big_quiet_step (fail)
          refine wpQuiet_nil ?_
          have n21v : g21 ∉ rowBlk (.slice pC C1.length cC) := fun h => by have := HLT1.out g21 h; omega
          have n21w : g21 ∉ rowBlk (.slice pL L1.length cL) := fun h => by have := HLT2.out g21 h; omega
          clear hn21
          refine lex_append_v (.tmp 75) (.tmp 81) 22 3 i0 _ 1 8 Tryd.underlying22 II.out IZ0.out IZ1.out IZ2.out (by rfl) (.slice pC C1.length cC) C1.length (ints C1) ((rowV_rowsB HT2.out.o1.row (fun g hg => List.mem_append.2 (.inl hg))).of_put n21v) (by rfl) g21 1 1 [.int .i64 c] 3 (by rfl) (Blocks.put_same _ _ _) rfl (by simp [Value.oneCell']) (by omega) (by unfold maxLen; omega) (by omega) (fun g hg => .inl (List.mem_append.2 (.inl hg))) HK1.out (fun g22 c22 ob22 hr22 hg22 => ?_)
          unfold setSlot
          go_big_quiet_step (fail)
          refine wpQuiet_nil ?_
          have n22w : g22 ∉ rowBlk (.slice pL L1.length cL) := fun e => hg22.elim (fun h => HT2.out.dis g22 h e) (fun h => by have := HLT2.out g22 e; omega)
          have hn22 : ∀ g ∈ rowBlk (.slice (some ⟨g22, 0, none⟩) (C1.length + 1) c22), g ∈ rowBlk (.slice pC C1.length cC) ∨ wr.heap.size ≤ g := fun g hg => by
            have : g = g22 := by simpa [rowBlk] using hg
            subst this
            exact hg22.imp id (fun h => h.1)
          clear hg22
          refine lex_quietE 3 (by kernel_rfl) (by rfl) ?_
          apply Exists.intro
          refine ⟨fun z hz1 => ?_, ?_⟩
          · skip
            have g0 := blk_cellp (hz1.keep HS.out HnS.out) 1 rfl
            clear hz1
            simp only [List.take_succ_cons, List.take_zero]
            unfold Cx
            repeat (go_big_quiet_step (fail))
            exact wpQuiet_nil rfl
          simp only [List.drop_succ_cons, List.drop_zero]
          refine lex_slice 1 (.cells #[.int .i64 y] 3) (by rfl) (fun x => by go_simp) (fun g23 q23 hn23 => ?_)
          unfold setSlot
          go_big_quiet_step (fail)
          refine wpQuiet_nil ?_
          have n23w : g23 ∉ rowBlk (.slice pL L1.length cL) := fun h => by have := HLT2.out g23 h; omega
          have n2322 : g23 ≠ g22 := ne_of_put hn23
          clear hn23
          refine lex_append_v (.tmp 84) (.tmp 86) 22 3 i0 _ 1 8 Tryd.underlying22 II.out IZ0.out IZ1.out IZ2.out (by rfl) (.slice pL L1.length cL) L1.length (ints L1) ((((rowV_rowsB HT2.out.o2.row (fun g hg => List.mem_append.2 (.inr hg))).of_put n21w).of_put n22w).of_put n23w) (by rfl) g23 1 1 [.int .i64 y] 3 (by rfl) (Blocks.put_same _ _ _) rfl (by simp [Value.oneCell']) (by omega) (by unfold maxLen; omega) (by omega) (fun g hg => .inl (List.mem_append.2 (.inr hg))) HK2.out (fun g24 c24 ob24 hr24 hg24 => ?_)
          unfold setSlot
          go_big_quiet_step (fail)
          refine wpQuiet_nil ?_
          have n2422 : g24 ≠ g22 := hg24.elim (fun h e => n22w (e ▸ h)) (fun h => ne_of_put (none_of_put h.2))
          have hn24 : ∀ g ∈ rowBlk (.slice (some ⟨g24, 0, none⟩) (L1.length + 1) c24), g ∈ rowBlk (.slice pL L1.length cL) ∨ wr.heap.size ≤ g := fun g hg => by
            have : g = g24 := by simpa [rowBlk] using hg
            subst this
            exact hg24.imp id (fun h => h.1)
          clear hg24
          refine lex_quietE 1 (by kernel_rfl) (by rfl) ?_
          apply Exists.intro
          refine ⟨fun z hz1 => ?_, ?_⟩
          · skip
            clear hz1
            simp only [List.take_succ_cons, List.take_zero]
            unfold Cx
            repeat (go_big_quiet_step (fail))
            exact wpQuiet_nil rfl
          simp only [List.drop_succ_cons, List.drop_zero]
          refine lex_nil ?_
          intro x2 hx2 hH2
          have hr25 := (hr22.of_put (b := g23) (ob := .cells #[.int .i64 y] 3 (0, 0)) (fun h => n2322 (by simpa [rowBlk] using h))).of_put (b := g24) (ob := ob24) (fun h => n2422 (by simpa [rowBlk] using h))
          have hT2 := HT2.out.both (show (bo + 1) ≤ wr.heap.size by omega) (hr25.of_has hH2) hn22 (hr24.of_has hH2) hn24 (fun g hg hm => by
            have e1 : g = g22 := by simpa [rowBlk] using hg
            have e2 : g = g24 := by simpa [rowBlk] using hm
            exact n2422 (e2.symm.trans e1))
          have T2 := Lib.hid hT2
          have X2 := Lib.hid hx2
          clear hx2 hH2 hT2 hn22 hn24 hr22 hr24 hr25 HLT1 HLT2
          have hS2 := X2.out.keep HS.out HnS.out
          have e0 := blk_cell hS2 0 rfl
          have e1 := blk_cell hS2 1 rfl
          have e2 := blk_free hS2 0
          have e3 := blk_free hS2 1
          have HS8 := Lib.hid hS2
          have HB8 := Lib.hid (HB.out.trans (X2.out.below_of (b := bo) (fun g hg => by have := HWG.out g hg; omega) (by omega)))
          clear hS2 X2 HWG HnS HnD HS HT2 HB
          go_wp2_with fail
          go_roundw
          case rel =>
            refine ⟨j + 1, m1, C1 ++ [c], L1 ++ [y], .slice (some ⟨g22, 0, none⟩) (C1.length + 1) c22, .slice (some ⟨g24, 0, none⟩) (L1.length + 1) c24, by omega, by go_num, by omega, by omega, by simp; omega, Lib.hid (by rw [List.length_append, List.length_append, HL1.out]; rfl), HF2.out, ?_, T2.out.keepU ((behind_set2 (b := bo) (Wr := [bo])).trans (behind_set2 (b := bo) (Wr := [bo])) (by simp)) (fun g hg => by simp at hg; omega), (HB8.out.setCell (Nat.le_refl _) _).setCell (Nat.le_refl _) _⟩
            exact heap_setCell_same _ bo 1 _ _ _ (heap_setCell_same _ bo 0 _ _ _ HS8.out)
          case measure => simp [intOf]; omega
        · obtain rfl : j = L.length := by omega
          have hdd : decide (L.length < L.length) = false := by simp
          have a2 := blk_cell HS.out 2 rfl
          have a2f := blk_free HS.out 2
          have a0 := blk_cell HS.out 0 rfl
          have a1 := blk_cell HS.out 1 rfl
          have P5 := HKb.out _ HB.out
          have e0 := blk_cell P5 0 rfl
          have e1 := blk_cell P5 1 rfl
          have e2 := blk_cell P5 2 rfl
          have k0 := blk_free P5 0
          have k1 := blk_free P5 1
          have k2 := blk_free P5 2
          have HP5 := Lib.hid P5
          clear P5 hK1
          go_wp2_with fail
          refine bodyPost_ret (results_cell_tmp (p := 6) (q := 7) rfl _ _ (w.heap.size + 1) _ _ (0, 0) _ rfl (three_set ((heap_setCell_other _ _ _ _ (by show w.heap.size + 1 ≠ bo; omega)).trans HP5.out)) Tryd.underlying24 rfl Tryd.sizeSum _ rfl) rfl ?_
          rw [HP.out, HF.out, HG.out]
          exact ⟨_, _, rfl, ((HT2.out.keepU (behind_set2 (b := bo) (Wr := [bo])) (fun g hg => by simp at hg; omega)).keepU three_behind (fun g hg => by simp at hg; omega)).mono (by omega), ((HBO.out _ HB.out).setCell (by show w.heap.size ≤ bo; omega) _).trans (three_below (by omega))⟩
end Go.Proofs.YtchamkbnapjidaaDoor
