/- The reference's Given: what is left of a sum. -/
import Derived.Test.YtchamkbnapjidaaDoorKZe
import Derived.Test.YtchamkbnapjidaaDoorKI
import Derived.Deep.DeepCutAuto
namespace Go.Proofs.YtchamkbnapjidaaDoor
open Go.RowKit

set_option maxHeartbeats 8000000 in
set_option maxRecDepth 100000 in
theorem xGiven (N : Nat) (s : PS) (t : List Int) (n : Int) (ca la ta : Option Addr) (cc lc tc : Nat) (hcl : s.C.length ≤ 100000000000000) (hll : s.L.length ≤ 100000000000000) (htl : t.length ≤ 10000000000000) (hI : ∀ l ∈ t, -9223372036854775808 ≤ l ∧ l ≤ 9223372036854775807) (w : World) (hC : AtN N w ca (ints s.C)) (hL : AtN N w la (ints s.L)) (hT : AtN N w ta (ints t)) (hw : N ≤ w.heap.size) :
    Calls Tryd.prog 15 #[sumV ca cc la lc s, .slice ta t.length tc, .int .i64 n] w (SumPost w (givenS s t n).1 (givenS s t n).2) := by
  have HC := Lib.hid hC
  have HL := Lib.hid hL
  have KC := Lib.hid (fun (w1 : World) (hb : Below w.heap.size w w1) => xCheck N s n ca la cc lc hcl hll w1 (hC.below hb hw) (hL.below hb hw) (Nat.le_trans hw hb.size))
  have KTm := Lib.hid (fun (h0 : 0 ≤ n) (hn : n ≤ 128) (w1 : World) (hb : Below w.heap.size w w1) => xTerm t n h0 hn N ta tc (by omega) hI w1 (hT.below hb hw) (Nat.le_trans hw hb.size))
  have KCT := Lib.hid (fun (z : Int) (w1 : World) (hb : Below w.heap.size w w1) => xContains t z N ta tc (by omega) w1 (hT.below hb hw) (Nat.le_trans hw hb.size))
  unfold sumV at *
  obtain ⟨Post, hPost⟩ : ∃ P : Ending → World → Prop, P = SumPost w (givenS s t n).1 (givenS s t n).2 := ⟨_, rfl⟩
  rw [← hPost]
  by_cases hc : checkS s n = 0
  case neg =>
    have HQ := Lib.hid (fun (w' : World) (hb : Below w.heap.size w w') => show Post (.returned (.tuple #[.agg #[.slice none 0 0, .slice none 0 0, .int .i64 0], .int .i64 (checkS s n)])) w' by
      rw [hPost, show givenS s t n = (.zero, checkS s n) by unfold givenS; rw [if_pos hc]]; exact ⟨_, _, rfl, two_none _ _, hb⟩)
    generalize checkS s n = r at *
    have hr : (r != 0) = true := by simp [bne, beq_no hc]
    clear hC hL hT hI hc hPost KTm KCT
    go_enter Tryd.func15, Tryd.ntmps15
    go_wp2_with fail
    refine calls_gen fun w1 hw1 => ?_
    have HB1 := Lib.hid (show Below w.heap.size w w1 by rw [hw1]; exact below_two _ _ _)
    have M2 := (show w1.heap[w.heap.size + 1]? = some (.cells #[.slice none 0 0, .slice none 0 0, .int .i64 0] 24 (0, 0)) by rw [hw1]; exact new_two2 _ _ _)
    clear hw1
    refine (KC.out w1 HB1.out).mono ?_
    rintro e w2 ⟨rfl, hB2⟩
    have HB2 := Lib.hid (HB1.out.trans (hB2.mono HB1.out.size))
    have P2 := Lib.hid ((behind_of_below hB2).keep M2 (by simp))
    clear hB2 HB1 M2
    have c0 := blk_cell P2.out 0 rfl
    have c1 := blk_cell P2.out 1 rfl
    have c2 := blk_cell P2.out 2 rfl
    have f0 := blk_free P2.out 0
    have f1 := blk_free P2.out 1
    have f2 := blk_free P2.out 2
    go_wp2_with fail
    refine bodyPost_ret (results_cell_tmp (p := 6) (q := 7) rfl _ _ (w.heap.size + 1) _ _ (0, 0) _ rfl (three_set P2.out) Tryd.underlying24 rfl Tryd.sizeSum _ rfl) rfl ?_
    exact HQ.out _ (HB2.out.trans (three_below (by omega)))
  have hOk := check_ok.1 hc
  have HQ := Lib.hid (show givenS s t n = if termOk t n = false then (.zero, 1) else (⟨(gLoop s t s.L.length).C, (gLoop s t s.L.length).L, clampI (gLoop s t s.L.length).m⟩, 0) by unfold givenS; rw [if_neg (by simpa using hc)])
  rw [hc] at KC
  have KT2 := Lib.hid (KTm.out hOk.n0 hOk.n1)
  have HOK := Lib.hid hOk
  have hl64 : s.L.length ≤ 64 := by have := hOk.len; have := hOk.l64; omega
  have hm0 := hOk.m0
  have hm1 := hOk.m1
  have HP := Lib.hid hPost
  have hn1 := hOk.n1
  clear hC hL hT hI hc hOk hcl hll hPost KTm
  obtain ⟨i0, ii, iz0, iz1, iz2⟩ := info_parts Tryd.infoInt
  have II := Lib.hid ii
  have IZ0 := Lib.hid iz0
  have IZ1 := Lib.hid iz1
  have IZ2 := Lib.hid iz2
  clear ii iz0 iz1 iz2
  obtain ⟨C, L, m⟩ := s
  simp only at hl64 HQ HC HL KC hm0 hm1
  go_enter Tryd.func15, Tryd.ntmps15
  go_wp2_with fail
  refine calls_gen fun w1 hw1 => ?_
  have HB1 := Lib.hid (show Below w.heap.size w w1 by rw [hw1]; exact below_two _ _ _)
  have M1 := (show w1.heap[w.heap.size]? = some (.cells #[.slice ca C.length cc, .slice la L.length lc, .int .i64 m] 24 (0, 0)) by rw [hw1]; exact new_two1 _ _ _)
  have M2 := (show w1.heap[w.heap.size + 1]? = some (.cells #[.slice none 0 0, .slice none 0 0, .int .i64 0] 24 (0, 0)) by rw [hw1]; exact new_two2 _ _ _)
  clear hw1
  refine (KC.out w1 HB1.out).mono ?_
  rintro e w2 ⟨rfl, hB2⟩
  have HB2 := Lib.hid (HB1.out.trans (hB2.mono HB1.out.size))
  have P1 := Lib.hid ((behind_of_below hB2).keep M1 (by simp))
  have P2 := Lib.hid ((behind_of_below hB2).keep M2 (by simp))
  clear hB2 HB1 M1 M2 KC
  go_wp2_with fail
  refine (KT2.out w2 HB2.out).mono ?_
  rintro e w3 ⟨rfl, hB3⟩
  have HB3 := Lib.hid (HB2.out.trans (hB3.mono HB2.out.size))
  have P3 := Lib.hid ((behind_of_below hB3).keep P1.out (by simp))
  have P4 := Lib.hid ((behind_of_below hB3).keep P2.out (by simp))
  clear hB3 HB2 P1 P2 KT2
  cases htm : termOk t n with
  | false =>
    have HF := Lib.hid (HQ.out.trans (by rw [htm, if_pos rfl]))
    have c0 := blk_cell P4.out 0 rfl
    have c1 := blk_cell P4.out 1 rfl
    have c2 := blk_cell P4.out 2 rfl
    have f0 := blk_free P4.out 0
    have f1 := blk_free P4.out 1
    have f2 := blk_free P4.out 2
    clear htm HQ
    go_wp2_with fail
    refine bodyPost_ret (results_cell_tmp (p := 6) (q := 7) rfl _ _ (w.heap.size + 1) _ _ (0, 0) _ rfl (three_set P4.out) Tryd.underlying24 rfl Tryd.sizeSum _ rfl) rfl ?_
    rw [HP.out, HF.out]
    exact ⟨_, _, rfl, two_none _ _, HB3.out.trans (three_below (by omega))⟩
  | true =>
  have HF := Lib.hid (HQ.out.trans (by rw [htm, if_neg (by simp)]))
  clear htm HQ
  have c2 := blk_cell P3.out 2 rfl
  have hs2 : w.heap.size + 1 < w3.heap.size := lt_of_heap P4.out
  go_wp2_with fail
  refine wp_gen ?_
  intro wo hwo
  have HSo := Lib.hid (show wo.heap[w3.heap.size]? = some (.cells #[.slice none 0 0, .slice none 0 0, .int .i64 m] 24 (0, 0)) by rw [hwo]; exact new_one w3 _)
  have HB6 := Lib.hid (show Below w3.heap.size w3 wo by rw [hwo]; exact below_one w3 _)
  obtain ⟨bo, hbo⟩ : ∃ bo, bo = w3.heap.size := ⟨_, rfl⟩
  rw [← hbo] at HSo HB6
  rw [← hbo]
  have hbo2 : w.heap.size + 1 < bo := by omega
  have HBO := Lib.hid (show ∀ x : World, Below bo wo x → Below w.heap.size w x from fun x hx => HB3.out.trans ((HB6.out.mono (by omega)).trans (hx.mono (by omega))))
  have HKa := Lib.hid (show ∀ x : World, Below bo wo x → x.heap[w.heap.size]? = some (.cells #[.slice ca C.length cc, .slice la L.length lc, .int .i64 m] 24 (0, 0)) from fun x hx => (hx.block _ (by omega)).trans ((HB6.out.block _ (by omega)).trans P3.out))
  have HKb := Lib.hid (show ∀ x : World, Below bo wo x → x.heap[w.heap.size + 1]? = some (.cells #[.slice none 0 0, .slice none 0 0, .int .i64 0] 24 (0, 0)) from fun x hx => (hx.block _ (by omega)).trans ((HB6.out.block _ (by omega)).trans P4.out))
  have HL0 := Lib.hid (show gLoop ⟨C, L, m⟩ t 0 = ⟨[], [], m⟩ from rfl)
  have hb6 : bo < wo.heap.size := lt_of_heap HSo.out
  clear hwo c2 hbo P3 P4 HB6 HB3 hs2
  go_loopw [10] (fun t10 wr => ∃ (j : Nat) (m1 : Int) (C1 L1 : List Int) (vC vL : Value), j ≤ L.length ∧ t10 = .int .i64 j ∧ -1000000000 * ((j : Int) + 1) ≤ m1 ∧ m1 ≤ 1000000000 * ((j : Int) + 1) ∧ C1.length ≤ j ∧ Hid (L1.length = C1.length) ∧
    Hid (gLoop ⟨C, L, m⟩ t j = ⟨C1, L1, m1⟩) ∧ Hid (wr.heap[bo]? = some (.cells #[vC, vL, .int .i64 m1] 24 (0, 0))) ∧ Hid (Two wr (bo + 1) vC C1 vL L1) ∧ Hid (Below bo wo wr)) (fun t10 _ => L.length - (intOf t10).toNat)
  case atStart => exact ⟨0, m, [], [], _, _, Nat.zero_le _, rfl, by omega, by omega, Nat.le_refl _, rfl, HL0, HSo, two_none _ _, Below.refl _ _⟩
  case round =>
    obtain ⟨j, m1, C1, L1, vC, vL, hj, rfl, hm1, hm2, hC1, HL1, HG, HS, HT2, HB⟩ := hrel
    have hL1le : L1.length ≤ j := by have := HL1.out; omega
    have hbr : bo < wr.heap.size := lt_of_heap HS.out
    have hK1 := HKa.out _ HB.out
    obtain ⟨pC, cC, hvC⟩ := HT2.out.o1.row.slice
    obtain ⟨pL, cL, hvL⟩ := HT2.out.o2.row.slice
    subst hvC
    subst hvL
    have d1 := blk_cell hK1 1 rfl
    by_cases hlt : j < L.length
    · have hdd : decide (j < L.length) = true := by simpa using hlt
      have hyy : L[j]? = some (L.getD j 0) := by simp [List.getD, hlt]
      have hlC : j < C.length := by have := HOK.out.len; simp only at this; omega
      have hcc : C[j]? = some (C.getD j 0) := by simp [List.getD, hlC]
      have hly := lit_in HOK.out hlt
      have hcy := coef_in HOK.out hlt
      obtain ⟨b, o, hb, rfl, k0⟩ := HL.out _ _ (ints_get _ _ _ hyy)
      obtain ⟨b2, o2, hb2, rfl, k2⟩ := HC.out _ _ (ints_get _ _ _ hcc)
      have c0 := below_cell (HBO.out _ HB.out) (show b < w.heap.size by omega) k0
      have K0 := Lib.hid k0
      have K2 := Lib.hid k2
      have hgs : gLoop ⟨C, L, m⟩ t (j + 1) = if L.getD j 0 ∈ t then ⟨C1, L1, m1 - C.getD j 0⟩ else if -(L.getD j 0) ∈ t then ⟨C1, L1, m1⟩ else ⟨C1 ++ [C.getD j 0], L1 ++ [L.getD j 0], m1⟩ := by
        rw [gLoop_succ, HG.out]; rfl
      have HGS := Lib.hid hgs
      have KA := Lib.hid (KCT.out (L.getD j 0))
      have KB := Lib.hid (KCT.out (-(L.getD j 0)))
      clear hgs
      simp only at hly hcy
      generalize L.getD j 0 = y at *
      generalize C.getD j 0 = c at *
      clear hyy k0 hcc k2
      go_wp2_with fail
      refine (KA.out wr (HBO.out _ HB.out)).mono ?_
      rintro e w4 ⟨rfl, hb'⟩
      have HB4 := Lib.hid (HB.out.trans (hb'.mono (Nat.le_of_lt hbr)))
      have HT4 := Lib.hid (HT2.out.keepB hb')
      have HS4 := Lib.hid ((behind_of_below hb').keep HS.out (by simp))
      clear hb' HB HT2 HS KA hK1 c0 d1
      have hbr4 : bo < w4.heap.size := lt_of_heap HS4.out
      have hK1 := HKa.out _ HB4.out
      have d0 := Lib.hid (blk_cell hK1 0 rfl)
      have d1 := blk_cell hK1 1 rfl
      have c0 := below_cell (HBO.out _ HB4.out) (show b < w.heap.size by omega) K0.out
      have c2 := Lib.hid (below_cell (HBO.out _ HB4.out) (show b2 < w.heap.size by omega) K2.out)
      clear hK1
      by_cases hy1 : y ∈ t
      · have HF2 := Lib.hid (HGS.out.trans (if_pos hy1))
        have hct : t.contains y = true := by simpa using hy1
        rw [hct]
        clear HGS hy1 KB hct
        go_wp2_with fail
        refine wp_game_tail 9 (List.replicate 10 0) [] B0 fin_B0 (has_B0 _) (by kernel_rfl) (by kernel_rfl) ?_
        simp only [List.take_succ_cons, List.take_zero]
        refine lex_quietE 9 (by kernel_rfl) (by rfl) ?_
        apply Exists.intro
        refine ⟨fun z hz1 => ?_, ?_⟩
        · have g0 := blk_cellp (hz1.keep HS4.out (by simp)) 2 rfl
          have g1 := below_cellp hz1.below d0.out (by omega)
          have g2 := below_cellp hz1.below c2.out (by omega)
          clear hz1
          simp only [List.take_succ_cons, List.take_zero]
          unfold Cx
          repeat (go_big_quiet_step (fail))
          exact wpQuiet_nil rfl
        simp only [List.drop_succ_cons, List.drop_zero]
        refine lex_nil ?_
        intro x2 hx2 _
        have hS2 := hx2.keep HS4.out (by simp)
        have a2 := blk_cell hS2 2 rfl
        have a2f := blk_free hS2 2
        have HS2 := Lib.hid hS2
        have HT3 := Lib.hid (HT4.out.keepB hx2.below)
        have HB7 := Lib.hid (HB4.out.trans (hx2.below.mono (Nat.le_of_lt hbr4)))
        clear hx2 hS2 HS4 HT4 HB4
        go_wp2_with fail
        go_roundw
        case rel => exact ⟨j + 1, m1 - c, C1, L1, _, _, by omega, by go_num, by omega, by omega, by omega, HL1, HF2.out, heap_setCell_same _ bo 2 _ _ _ HS2.out, HT3.out.keepU (behind_set2 (b := bo) (Wr := [bo])) (fun g hg => by simp at hg; omega), HB7.out.setCell (Nat.le_refl _) _⟩
        case measure => simp [intOf]; omega
      have hct : t.contains y = false := by simpa using hy1
      rw [hct]
      clear hct
      go_wp2_with fail
      refine (KB.out w4 (HBO.out _ HB4.out)).mono ?_
      rintro e w5 ⟨rfl, hb'⟩
      have HB := Lib.hid (HB4.out.trans (hb'.mono (Nat.le_of_lt hbr4)))
      have HT2 := Lib.hid (HT4.out.keepB hb')
      have HS := Lib.hid ((behind_of_below hb').keep HS4.out (by simp))
      clear hb' HB4 HT4 HS4 KB c0 d1 c2 d0
      by_cases hy2 : -y ∈ t
      · have HF2 := Lib.hid (HGS.out.trans ((if_neg hy1).trans (if_pos hy2)))
        have hct : t.contains (-y) = true := by simpa using hy2
        rw [hct]
        clear HGS hy1 hy2 hct
        go_wp2_with fail
        go_roundw
        case rel => exact ⟨j + 1, m1, C1, L1, _, _, by omega, by go_num, by omega, by omega, by omega, HL1, HF2.out, HS.out, HT2.out, HB.out⟩
        case measure => simp [intOf]; omega
      have HF2 := Lib.hid (HGS.out.trans ((if_neg hy1).trans (if_neg hy2)))
      have hct : t.contains (-y) = false := by simpa using hy2
      rw [hct]
      have hbr5 : bo < w5.heap.size := lt_of_heap HS.out
      have c2 := Lib.hid (below_cell (HBO.out _ HB.out) (show b2 < w.heap.size by omega) K2.out)
      have HnS := Lib.hid (And.intro (show bo ∉ rowBlk (.slice pC C1.length cC) from fun h => by have := HT2.out.o1.ge _ h; omega) True.intro)
      have HnD := Lib.hid (And.intro (show ∀ k, k < bo → k ∉ rowBlk (.slice pC C1.length cC) from fun k hk h => by have := HT2.out.o1.ge _ h; omega) True.intro)
      clear HGS hy1 hy2 hct
      go_wp2_with fail
      obtain ⟨kF1, hkF1⟩ : ∃ kF1, kF1 = kA (.slice pC C1.length cC) C1.length 1 := ⟨_, rfl⟩
      have hkF1' : kF1 = 2 ∨ kF1 = 5 := by rw [hkF1]; exact kA_or _ _ _
      have HK1 := Lib.hid hkF1
      clear hkF1
      have HWG := Lib.hid (show ∀ g ∈ (rowBlk (.slice pC C1.length cC)), (bo + 1) ≤ g from fun g hg => HT2.out.o1.ge g hg)
      have HLT1 := Lib.hid HT2.out.o1.row.lt
      refine wp_game_tail 10 [0, 0, 0, 0, 0, 0, 0, 3, kF1, 0] (rowBlk (.slice pC C1.length cC)) (rowsB w5 (rowBlk (.slice pC C1.length cC))) (fin_rowsB _ _) (has_rowsB _ _) (by kernel_rfl) (by rcases hkF1' with h | h <;> rw [h] <;> kernel_rfl) ?_
      simp only [List.take_succ_cons, List.take_zero]
      refine lex_quietE 7 (by kernel_rfl) (by rfl) ?_
      apply Exists.intro
      refine ⟨fun z hz1 => ?_, ?_⟩
      · skip
        have g0 := blk_cellp (hz1.keep HS.out HnS.out.1) 0 rfl
        have g1 := blk_cellp (hz1.keep (HKa.out _ HB.out) (HnD.out.1 _ (by omega))) 0 rfl
        have g2 := below_cellp (hz1.below_of (b := bo) (fun g hg => by have := HWG.out g hg; omega) (by omega)) c2.out (by omega)
        clear hz1
        simp only [List.take_succ_cons, List.take_zero]
        unfold Cx
        repeat (go_big_quiet_step (fail))
        exact wpQuiet_nil rfl
      simp only [List.drop_succ_cons, List.drop_zero]
      refine lex_slice 1 (.cells #[.int .i64 c] 3) (by rfl) (fun x => by go_simp) (fun g21 q21 hn21 => ?_)
      unfold setSlot
      go_big_quiet_step (fail)
      refine wpQuiet_nil ?_
      have n21v : g21 ∉ rowBlk (.slice pC C1.length cC) := fun h => by have := HLT1.out g21 h; omega
      clear hn21
      refine lex_append_v (.tmp 59) (.tmp 65) 22 3 i0 _ 1 8 Tryd.underlying22 II.out IZ0.out IZ1.out IZ2.out (by rfl) (.slice pC C1.length cC) C1.length (ints C1) ((rowV_rowsB HT2.out.o1.row (fun g hg => hg)).of_put n21v) (by rfl) g21 1 1 [.int .i64 c] 3 (by rfl) (Blocks.put_same _ _ _) rfl (by simp [Value.oneCell']) (by omega) (by unfold maxLen; omega) (by omega) (fun g hg => .inl hg) HK1.out (fun g22 c22 ob22 hr22 hg22 => ?_)
      unfold setSlot
      go_big_quiet_step (fail)
      refine wpQuiet_nil ?_
      have hn22 : ∀ g ∈ rowBlk (.slice (some ⟨g22, 0, none⟩) (C1.length + 1) c22), g ∈ rowBlk (.slice pC C1.length cC) ∨ w5.heap.size ≤ g := fun g hg => by
        have : g = g22 := by simpa [rowBlk] using hg
        subst this
        exact hg22.imp id (fun h => h.1)
      clear hg22
      refine lex_quietE 1 (by kernel_rfl) (by rfl) ?_
      apply Exists.intro
      refine ⟨fun z hz1 => ?_, ?_⟩
      · skip
        clear hz1
        simp only [List.take_succ_cons, List.take_zero]
        unfold Cx
        repeat (go_big_quiet_step (fail))
        exact wpQuiet_nil rfl
      simp only [List.drop_succ_cons, List.drop_zero]
      refine lex_nil ?_
      intro x2 hx2 hH2
      have hT2 := HT2.out.app (show (bo + 1) ≤ w5.heap.size by omega) hx2 (hr22.of_has hH2) hn22
      have T2 := Lib.hid hT2
      have X2 := Lib.hid hx2
      clear hx2 hH2 hT2 hn22 hr22 HLT1
      have hS2 := X2.out.keep HS.out HnS.out.1
      have e0 := blk_cell hS2 0 rfl
      have e2 := blk_free hS2 0
      have HS8 := Lib.hid hS2
      have HB8 := Lib.hid (HB.out.trans (X2.out.below_of (b := bo) (fun g hg => by have := HWG.out g hg; omega) (by omega)))
      clear hS2 X2 HWG HnS HnD HS HT2 HB
      go_upto_region 14 with fail
      refine wp_gen ?_
      intro w6 hw6
      have HS := Lib.hid (show w6.heap[bo]? = some (.cells #[.slice (some ⟨g22, 0, none⟩) (C1.length + 1) c22, .slice pL L1.length cL, .int .i64 m1] 24 (0, 0)) by rw [hw6]; exact heap_setCell_same _ bo 0 _ _ _ HS8.out)
      have HT2 := Lib.hid (show Two w6 (bo + 1) (.slice (some ⟨g22, 0, none⟩) (C1.length + 1) c22) (C1 ++ [c]) (.slice pL L1.length cL) L1 by rw [hw6]; exact T2.out.keepU (behind_set2 (b := bo) (Wr := [bo])) (fun g hg => by simp at hg; omega))
      have HB := Lib.hid (show Below bo wo w6 by rw [hw6]; exact HB8.out.setCell (Nat.le_refl _) _)
      have hbr6 : bo < w6.heap.size := lt_of_heap HS.out
      have HnS := Lib.hid (show bo ∉ rowBlk (.slice pL L1.length cL) from fun h => by have := HT2.out.o2.ge _ h; omega)
      have HnD := Lib.hid (show ∀ k, k < bo → k ∉ rowBlk (.slice pL L1.length cL) from fun k hk h => by have := HT2.out.o2.ge _ h; omega)
      have c3 := Lib.hid (below_cell (HBO.out _ HB.out) (show b < w.heap.size by omega) K0.out)
      clear hw6 HS8 HB8 T2 e0 e2 hkF1' HK1
      obtain ⟨kF1, hkF1⟩ : ∃ kF1, kF1 = kA (.slice pL L1.length cL) L1.length 1 := ⟨_, rfl⟩
      have hkF1' : kF1 = 2 ∨ kF1 = 5 := by rw [hkF1]; exact kA_or _ _ _
      have HK1 := Lib.hid hkF1
      clear hkF1
      have HWG := Lib.hid (show ∀ g ∈ (rowBlk (.slice pL L1.length cL)), (bo + 1) ≤ g from fun g hg => HT2.out.sym.o1.ge g hg)
      have HLT1 := Lib.hid HT2.out.sym.o1.row.lt
      refine wp_game_tail 10 [0, 0, 0, 0, 0, 0, 0, 3, kF1, 0] (rowBlk (.slice pL L1.length cL)) (rowsB w6 (rowBlk (.slice pL L1.length cL))) (fin_rowsB _ _) (has_rowsB _ _) (by kernel_rfl) (by rcases hkF1' with h | h <;> rw [h] <;> kernel_rfl) ?_
      simp only [List.take_succ_cons, List.take_zero]
      refine lex_quietE 7 (by kernel_rfl) (by rfl) ?_
      apply Exists.intro
      refine ⟨fun z hz1 => ?_, ?_⟩
      · skip
        have g0 := blk_cellp (hz1.keep HS.out HnS.out) 1 rfl
        have g1 := blk_cellp (hz1.keep (HKa.out _ HB.out) (HnD.out _ (by omega))) 1 rfl
        have g2 := below_cellp (hz1.below_of (b := bo) (fun g hg => by have := HWG.out g hg; omega) (by omega)) c3.out (by omega)
        clear hz1
        simp only [List.take_succ_cons, List.take_zero]
        unfold Cx
        repeat (go_big_quiet_step (fail))
        exact wpQuiet_nil rfl
      simp only [List.drop_succ_cons, List.drop_zero]
      refine lex_slice 1 (.cells #[.int .i64 y] 3) (by rfl) (fun x => by go_simp) (fun g21 q21 hn21 => ?_)
      unfold setSlot
      go_big_quiet_step (fail)
      refine wpQuiet_nil ?_
      have n21v : g21 ∉ rowBlk (.slice pL L1.length cL) := fun h => by have := HLT1.out g21 h; omega
      clear hn21
      refine lex_append_v (.tmp 69) (.tmp 75) 22 3 i0 _ 1 8 Tryd.underlying22 II.out IZ0.out IZ1.out IZ2.out (by rfl) (.slice pL L1.length cL) L1.length (ints L1) ((rowV_rowsB HT2.out.sym.o1.row (fun g hg => hg)).of_put n21v) (by rfl) g21 1 1 [.int .i64 y] 3 (by rfl) (Blocks.put_same _ _ _) rfl (by simp [Value.oneCell']) (by omega) (by unfold maxLen; omega) (by omega) (fun g hg => .inl hg) HK1.out (fun g24 c24 ob22 hr22 hg24 => ?_)
      unfold setSlot
      go_big_quiet_step (fail)
      refine wpQuiet_nil ?_
      have hn22 : ∀ g ∈ rowBlk (.slice (some ⟨g24, 0, none⟩) (L1.length + 1) c24), g ∈ rowBlk (.slice pL L1.length cL) ∨ w6.heap.size ≤ g := fun g hg => by
        have : g = g24 := by simpa [rowBlk] using hg
        subst this
        exact hg24.imp id (fun h => h.1)
      clear hg24
      refine lex_quietE 1 (by kernel_rfl) (by rfl) ?_
      apply Exists.intro
      refine ⟨fun z hz1 => ?_, ?_⟩
      · skip
        clear hz1
        simp only [List.take_succ_cons, List.take_zero]
        unfold Cx
        repeat (go_big_quiet_step (fail))
        exact wpQuiet_nil rfl
      simp only [List.drop_succ_cons, List.drop_zero]
      refine lex_nil ?_
      intro x2 hx2 hH2
      have hT2 := HT2.out.sym.app (show (bo + 1) ≤ w6.heap.size by omega) hx2 (hr22.of_has hH2) hn22
      have T2 := Lib.hid hT2
      have X2 := Lib.hid hx2
      clear hx2 hH2 hT2 hn22 hr22 HLT1
      have hS2 := X2.out.keep HS.out HnS.out
      have e1 := blk_cell hS2 1 rfl
      have e3 := blk_free hS2 1
      have HS8 := Lib.hid hS2
      have HB8 := Lib.hid (HB.out.trans (X2.out.below_of (b := bo) (fun g hg => by have := HWG.out g hg; omega) (by omega)))
      have T3 := Lib.hid T2.out.sym
      clear hS2 X2 HWG HnS HnD HS HT2 HB
      go_wp2_with fail
      go_roundw
      case rel =>
        refine ⟨j + 1, m1, C1 ++ [c], L1 ++ [y], .slice (some ⟨g22, 0, none⟩) (C1.length + 1) c22, .slice (some ⟨g24, 0, none⟩) (L1.length + 1) c24, by omega, by go_num, by omega, by omega, by simp; omega, Lib.hid (by rw [List.length_append, List.length_append, HL1.out]; rfl), HF2.out, ?_, T3.out.keepU (behind_set2 (b := bo) (Wr := [bo])) (fun g hg => by simp at hg; omega), HB8.out.setCell (Nat.le_refl _) _⟩
        exact heap_setCell_same _ bo 1 _ _ _ HS8.out
      case measure => simp [intOf]; omega
    · obtain rfl : j = L.length := by omega
      have hdd : decide (L.length < L.length) = false := by simp
      have a2 := blk_cell HS.out 2 rfl
      have a2f := blk_free HS.out 2
      have a0 := blk_cell HS.out 0 rfl
      have a1 := blk_cell HS.out 1 rfl
      have P5 := HKb.out _ HB.out
      have e0 := blk_cell P5 0 rfl
      have e1 := blk_cell P5 1 rfl
      have e2 := blk_cell P5 2 rfl
      have k0 := blk_free P5 0
      have k1 := blk_free P5 1
      have k2 := blk_free P5 2
      have HP5 := Lib.hid P5
      clear P5 hK1
      go_wp2_with fail
      refine bodyPost_ret (results_cell_tmp (p := 6) (q := 7) rfl _ _ (w.heap.size + 1) _ _ (0, 0) _ rfl (three_set ((heap_setCell_other _ _ _ _ (by show w.heap.size + 1 ≠ bo; omega)).trans HP5.out)) Tryd.underlying24 rfl Tryd.sizeSum _ rfl) rfl ?_
      rw [HP.out, HF.out, HG.out]
      exact ⟨_, _, rfl, ((HT2.out.keepU (behind_set2 (b := bo) (Wr := [bo])) (fun g hg => by simp at hg; omega)).keepU three_behind (fun g hg => by simp at hg; omega)).mono (by omega), ((HBO.out _ HB.out).setCell (by show w.heap.size ≤ bo; omega) _).trans (three_below (by omega))⟩
end Go.Proofs.YtchamkbnapjidaaDoor
