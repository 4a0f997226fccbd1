/- Check: which sums are valid. -/
import Derived.Test.YtchamkbnapjidaaDoorKA
namespace Go.Proofs.YtchamkbnapjidaaDoor
open Go.RowKit

/-- A sum as a value. -/
def sumV (ca : Option Addr) (cc : Nat) (la : Option Addr) (lc : Nat) (s : PS) : Value := .agg #[.slice ca s.C.length cc, .slice la s.L.length lc, .int .i64 s.m]

theorem max_abs (c : Int) : max c (-c) = absI c := by unfold absI; split <;> omega

set_option maxHeartbeats 1600000 in
set_option maxRecDepth 100000 in
theorem gCheck (N : Nat) (s : PS) (n : Int) (ca la : Option Addr) (cc lc : Nat) (hcl : s.C.length ≤ 100000000000000) (hll : s.L.length ≤ 100000000000000) (w : World) (hC : AtN N w ca (ints s.C)) (hL : AtN N w la (ints s.L)) (hw : N ≤ w.heap.size) :
    Calls Tryd.prog 23 #[sumV ca cc la lc s, .int .i64 n] w fun e w' => e = .returned (.int .i64 (checkS s n)) ∧ Below w.heap.size w w' := by
  obtain ⟨C, L, m⟩ := s
  simp only at hcl hll hC hL
  unfold sumV
  simp only
  by_cases h1 : n < 0
  · have HQ := Lib.hid (check_n (s := ⟨C, L, m⟩) (Or.inl h1))
    clear hC hL
    go_enter Tryd.func23, Tryd.ntmps23
    go_wp2_with fail
    go_ret
    exact ⟨by rw [HQ.out]; rfl, below_one _ _⟩
  by_cases h2 : 128 < n
  · have HQ := Lib.hid (check_n (s := ⟨C, L, m⟩) (Or.inr h2))
    clear hC hL
    go_enter Tryd.func23, Tryd.ntmps23
    go_wp2_with fail
    go_ret
    exact ⟨by rw [HQ.out]; rfl, below_one _ _⟩
  by_cases h3 : C.length = L.length
  case neg =>
    have HQ := Lib.hid (check_len (s := ⟨C, L, m⟩) (n := n) (by omega) (by omega) h3)
    have hne : ((C.length : Int) != (L.length : Int)) = true := by simp [bne]; omega
    clear hC hL h3
    go_enter Tryd.func23, Tryd.ntmps23
    go_wp2_with fail
    go_ret
    exact ⟨by rw [HQ.out]; rfl, below_one _ _⟩
  have hne : ((C.length : Int) != (L.length : Int)) = false := by simp [bne]; omega
  by_cases h4 : 64 < C.length
  · have HQ := Lib.hid (check_long (s := ⟨C, L, m⟩) (n := n) (by omega) (by omega) h3 h4)
    have hd4 : decide ((64 : Int) < (C.length : Int)) = true := by simp; omega
    clear hC hL h3 h4
    go_enter Tryd.func23, Tryd.ntmps23
    go_wp2_with fail
    go_ret
    exact ⟨by rw [HQ.out]; rfl, below_one _ _⟩
  have hd4 : decide ((64 : Int) < (C.length : Int)) = false := by simp; omega
  have HP := Lib.hid (show Pre ⟨C, L, m⟩ n from ⟨by omega, by omega, h3, by simp only; omega⟩)
  have hn0 : decide (n < 0) = false := by simpa using h1
  have hn1 : decide (128 < n) = false := by simpa using h2
  have hcl64 : C.length ≤ 64 := by omega
  have H3 := Lib.hid h3
  have HC := Lib.hid hC
  have HL := Lib.hid hL
  clear hC hL h3 h4 h1 hcl
  go_enter Tryd.func23, Tryd.ntmps23
  go_wp2_with fail
  refine wp_gen ?_
  intro w1 hw1
  have HB1 := Lib.hid (show Below w.heap.size w w1 by rw [hw1]; exact below_one _ _)
  have M1 := Lib.hid (show w1.heap[w.heap.size]? = some (.cells #[.slice ca C.length cc, .slice la L.length lc, .int .i64 m] 24 (0, 0)) by rw [hw1]; exact new_one _ _)
  clear hw1
  go_loopw [33] (fun t33 wr => ∃ j : Nat, j ≤ L.length ∧ t33 = .int .i64 j ∧ Hid (∀ i, i < j → litOk (L.getD i 0) n = true) ∧ Hid (Below w1.heap.size w1 wr)) (fun t33 _ => L.length - (intOf t33).toNat)
  case atStart => exact ⟨0, Nat.zero_le _, rfl, fun i hi => by omega, Below.refl _ _⟩
  case round =>
    obtain ⟨j, hj, rfl, HO, HB⟩ := hrel
    by_cases hlt : j < L.length
    · have hdd : decide (j < L.length) = true := by simpa using hlt
      have hyy : L[j]? = some (L.getD j 0) := by simp [List.getD, hlt]
      have KV := gValid (L.getD j 0) n (by omega)
      have HY := Lib.hid (show litOk (L.getD j 0) n = false → checkS ⟨C, L, m⟩ n = 1 from fun h => check_lit HP.out j hlt h)
      have HO2 := Lib.hid (show litOk (L.getD j 0) n = true → ∀ i, i < j + 1 → litOk (L.getD i 0) n = true from fun h i hi => by
        rcases Nat.lt_or_ge i j with h' | h'
        · exact HO.out i h'
        · obtain rfl : i = j := by omega
          exact h)
      obtain ⟨b, o, hb, rfl, k0⟩ := HL.out _ _ (ints_get _ _ _ hyy)
      have c0 := below_cell (HB1.out.trans (HB.out.mono HB1.out.size)) (show b < w.heap.size by omega) k0
      generalize L.getD j 0 = y at *
      clear hyy k0
      go_wp2_with fail
      refine (KV _).mono ?_
      rintro r1 w2 ⟨rfl, hB2⟩
      have HB2 := Lib.hid (HB.out.trans (hB2.mono HB.out.size))
      clear hB2 c0 HB KV
      cases hq : litOk y n with
      | true =>
        have HO3 := Lib.hid (HO2.out hq)
        clear hq HO2 HY
        go_wp2_with fail
        go_roundw
        case rel => exact ⟨j + 1, by omega, by go_num, HO3, HB2⟩
        case measure => simp [intOf]; omega
      | false =>
        have HQ := Lib.hid (HY.out hq)
        clear hq HO2 HY
        go_wp2_with fail
        go_ret
        exact ⟨by rw [HQ.out]; rfl, HB1.out.trans (HB2.out.mono HB1.out.size)⟩
    · obtain rfl : j = L.length := by omega
      have hdd : decide (L.length < L.length) = false := by simp
      have HLO := Lib.hid (show LitsOk ⟨C, L, m⟩ n from fun i hi => HO.out i hi)
      have mB := (behind_of_below HB.out).keep M1.out (by simp)
      have c0 := blk_cell mB 0 rfl
      have HBw := Lib.hid (HB1.out.trans (HB.out.mono HB1.out.size))
      have M2 := Lib.hid mB
      clear mB hlt hj HO
      go_wp2_with fail
      obtain ⟨w2, rfl⟩ : ∃ w2, w2 = wr := ⟨_, rfl⟩
      clear c0
      go_loopw [45, 7] (fun t45 t7 wr => ∃ (j : Nat) (S : Int), j ≤ C.length ∧ t45 = .int .i64 j ∧ t7 = .int .i64 S ∧ 0 ≤ S ∧ S ≤ 64000000000 ∧ S ≤ 1000000000 * j ∧ Hid (S = sumAbs (C.take j)) ∧ Hid (∀ i, i < j → coefOk (C.getD i 0) = true) ∧ wr = w2) (fun t45 _ _ => C.length - (intOf t45).toNat)
      case atStart => exact ⟨0, 0, Nat.zero_le _, rfl, rfl, by omega, by omega, by omega, rfl, fun i hi => by omega, rfl⟩
      case round =>
        obtain ⟨j, S, hj, rfl, rfl, hS0, hS1, hS2, HS, HO, rfl⟩ := hrel
        by_cases hlt : j < C.length
        · have hdd : decide (j < C.length) = true := by simpa using hlt
          have hyy : C[j]? = some (C.getD j 0) := by simp [List.getD, hlt]
          have HY := Lib.hid (show coefOk (C.getD j 0) = false → checkS ⟨C, L, m⟩ n = 6 from fun h => check_co HP.out HLO.out j hlt h)
          have HO2 := Lib.hid (show coefOk (C.getD j 0) = true → ∀ i, i < j + 1 → coefOk (C.getD i 0) = true from fun h i hi => by
            rcases Nat.lt_or_ge i j with h' | h'
            · exact HO.out i h'
            · obtain rfl : i = j := by omega
              exact h)
          have HS2 := Lib.hid (show S + absI (C.getD j 0) = sumAbs (C.take (j + 1)) by rw [sumAbs_succ hlt, HS.out])
          obtain ⟨b, o, hb, rfl, k0⟩ := HC.out _ _ (ints_get _ _ _ hyy)
          have c0 := below_cell HBw.out (show b < w.heap.size by omega) k0
          generalize C.getD j 0 = y at *
          clear hyy k0 HS HO
          by_cases y1 : y < -1000000000
          · have HQ := Lib.hid (HY.out (by unfold coefOk; simp; omega))
            clear HY HO2 HS2
            go_wp2_with fail
            go_ret
            exact ⟨by rw [HQ.out]; rfl, HBw.out⟩
          · by_cases y2 : 1000000000 < y
            · have HQ := Lib.hid (HY.out (by unfold coefOk; simp; omega))
              clear HY HO2 HS2
              go_wp2_with fail
              go_ret
              exact ⟨by rw [HQ.out]; rfl, HBw.out⟩
            · have HO3 := Lib.hid (HO2.out (by unfold coefOk; simp; omega))
              have y1n : decide (y < -1000000000) = false := by simpa using y1
              have y2n : decide (1000000000 < y) = false := by simpa using y2
              have hm0 : 0 ≤ max y (-y) := by omega
              have hm1 : max y (-y) ≤ 1000000000 := by omega
              have HM := Lib.hid (max_abs y)
              clear HY HO2
              go_wp2_with fail
              go_roundw
              case rel =>
                refine ⟨j + 1, S + max y (-y), by omega, by go_num, by go_num, by omega, by omega, by omega, ?_, HO3, trivial⟩
                show _ = _
                rw [HM.out]; exact HS2.out
              case measure => simp [intOf]; omega
        · obtain rfl : j = C.length := by omega
          have hdd : decide (C.length < C.length) = false := by simp
          have HS2 := Lib.hid (show S = sumAbs C by rw [HS.out, List.take_length])
          have c2 := blk_cell M2.out 2 rfl
          clear hlt hj HS
          by_cases s1 : 1000000000 < S
          · have HQ := Lib.hid (check_six HP.out HLO.out (.inr (.inl (by rw [← HS2.out]; exact s1))))
            clear HS2 HO
            go_wp2_with fail
            go_ret
            exact ⟨by rw [HQ.out]; rfl, HBw.out⟩
          by_cases m1 : m < -1000000000
          · have HQ := Lib.hid (check_m HP.out HLO.out (.inl m1))
            clear HS2 HO
            go_wp2_with fail
            go_ret
            exact ⟨by rw [HQ.out]; rfl, HBw.out⟩
          by_cases m2 : 1000000000 < m
          · have HQ := Lib.hid (check_m HP.out HLO.out (.inr m2))
            clear HS2 HO
            go_wp2_with fail
            go_ret
            exact ⟨by rw [HQ.out]; rfl, HBw.out⟩
          have HQ := Lib.hid (check_fine HP.out HLO.out HO.out (by rw [← HS2.out]; omega) (show -1000000000 ≤ m by omega) (show m ≤ 1000000000 by omega))
          clear HS2 HO
          go_wp2_with fail
          go_ret
          exact ⟨by rw [HQ.out]; rfl, HBw.out⟩

set_option maxHeartbeats 1600000 in
set_option maxRecDepth 100000 in
theorem xCheck (N : Nat) (s : PS) (n : Int) (ca la : Option Addr) (cc lc : Nat) (hcl : s.C.length ≤ 100000000000000) (hll : s.L.length ≤ 100000000000000) (w : World) (hC : AtN N w ca (ints s.C)) (hL : AtN N w la (ints s.L)) (hw : N ≤ w.heap.size) :
    Calls Tryd.prog 24 #[sumV ca cc la lc s, .int .i64 n] w fun e w' => e = .returned (.int .i64 (checkS s n)) ∧ Below w.heap.size w w' := by
  obtain ⟨C, L, m⟩ := s
  simp only at hcl hll hC hL
  unfold sumV
  simp only
  by_cases h1 : n < 0
  · have HQ := Lib.hid (check_n (s := ⟨C, L, m⟩) (Or.inl h1))
    clear hC hL
    go_enter Tryd.func24, Tryd.ntmps24
    go_wp2_with fail
    go_ret
    exact ⟨by rw [HQ.out]; rfl, below_one _ _⟩
  by_cases h2 : 128 < n
  · have HQ := Lib.hid (check_n (s := ⟨C, L, m⟩) (Or.inr h2))
    clear hC hL
    go_enter Tryd.func24, Tryd.ntmps24
    go_wp2_with fail
    go_ret
    exact ⟨by rw [HQ.out]; rfl, below_one _ _⟩
  by_cases h3 : C.length = L.length
  case neg =>
    have HQ := Lib.hid (check_len (s := ⟨C, L, m⟩) (n := n) (by omega) (by omega) h3)
    have hne : ((C.length : Int) != (L.length : Int)) = true := by simp [bne]; omega
    clear hC hL h3
    go_enter Tryd.func24, Tryd.ntmps24
    go_wp2_with fail
    go_ret
    exact ⟨by rw [HQ.out]; rfl, below_one _ _⟩
  have hne : ((C.length : Int) != (L.length : Int)) = false := by simp [bne]; omega
  by_cases h4 : 64 < C.length
  · have HQ := Lib.hid (check_long (s := ⟨C, L, m⟩) (n := n) (by omega) (by omega) h3 h4)
    have hd4 : decide ((64 : Int) < (C.length : Int)) = true := by simp; omega
    clear hC hL h3 h4
    go_enter Tryd.func24, Tryd.ntmps24
    go_wp2_with fail
    go_ret
    exact ⟨by rw [HQ.out]; rfl, below_one _ _⟩
  have hd4 : decide ((64 : Int) < (C.length : Int)) = false := by simp; omega
  have HP := Lib.hid (show Pre ⟨C, L, m⟩ n from ⟨by omega, by omega, h3, by simp only; omega⟩)
  have hn0 : decide (n < 0) = false := by simpa using h1
  replace h1 : 0 ≤ n := by omega
  have hn1 : decide (128 < n) = false := by simpa using h2
  have hcl64 : C.length ≤ 64 := by omega
  have H3 := Lib.hid h3
  have HC := Lib.hid hC
  have HL := Lib.hid hL
  clear hC hL h3 h4 hcl
  go_enter Tryd.func24, Tryd.ntmps24
  go_wp2_with fail
  refine wp_gen ?_
  intro w1 hw1
  have HB1 := Lib.hid (show Below w.heap.size w w1 by rw [hw1]; exact below_one _ _)
  have M1 := Lib.hid (show w1.heap[w.heap.size]? = some (.cells #[.slice ca C.length cc, .slice la L.length lc, .int .i64 m] 24 (0, 0)) by rw [hw1]; exact new_one _ _)
  clear hw1
  go_loopw [5] (fun t5 wr => ∃ j : Nat, j ≤ L.length ∧ t5 = .int .i64 j ∧ Hid (∀ i, i < j → litOk (L.getD i 0) n = true) ∧ Hid (Below w1.heap.size w1 wr)) (fun t5 _ => L.length - (intOf t5).toNat)
  case atStart => exact ⟨0, Nat.zero_le _, rfl, fun i hi => by omega, Below.refl _ _⟩
  case round =>
    obtain ⟨j, hj, rfl, HO, HB⟩ := hrel
    by_cases hlt : j < L.length
    · have hdd : decide (j < L.length) = true := by simpa using hlt
      have hyy : L[j]? = some (L.getD j 0) := by simp [List.getD, hlt]
      have KV := xValid (L.getD j 0) n h1 (by omega)
      have HY := Lib.hid (show litOk (L.getD j 0) n = false → checkS ⟨C, L, m⟩ n = 1 from fun h => check_lit HP.out j hlt h)
      have HO2 := Lib.hid (show litOk (L.getD j 0) n = true → ∀ i, i < j + 1 → litOk (L.getD i 0) n = true from fun h i hi => by
        rcases Nat.lt_or_ge i j with h' | h'
        · exact HO.out i h'
        · obtain rfl : i = j := by omega
          exact h)
      have mB := (behind_of_below HB.out).keep M1.out (by simp)
      have e1 := blk_cell mB 1 rfl
      clear mB
      obtain ⟨b, o, hb, rfl, k0⟩ := HL.out _ _ (ints_get _ _ _ hyy)
      have c0 := below_cell (HB1.out.trans (HB.out.mono HB1.out.size)) (show b < w.heap.size by omega) k0
      generalize L.getD j 0 = y at *
      clear hyy k0
      go_wp2_with fail
      refine (KV _).mono ?_
      rintro r1 w2 ⟨rfl, hB2⟩
      have HB2 := Lib.hid (HB.out.trans (hB2.mono HB.out.size))
      clear hB2 c0 e1 HB KV
      cases hq : litOk y n with
      | true =>
        have HO3 := Lib.hid (HO2.out hq)
        clear hq HO2 HY
        go_wp2_with fail
        go_roundw
        case rel => exact ⟨j + 1, by omega, by go_num, HO3, HB2⟩
        case measure => simp [intOf]; omega
      | false =>
        have HQ := Lib.hid (HY.out hq)
        clear hq HO2 HY
        go_wp2_with fail
        go_ret
        exact ⟨by rw [HQ.out]; rfl, HB1.out.trans (HB2.out.mono HB1.out.size)⟩
    · obtain rfl : j = L.length := by omega
      have hdd : decide (L.length < L.length) = false := by simp
      have HLO := Lib.hid (show LitsOk ⟨C, L, m⟩ n from fun i hi => HO.out i hi)
      have mB := (behind_of_below HB.out).keep M1.out (by simp)
      have c0 := blk_cell mB 1 rfl
      have HBw := Lib.hid (HB1.out.trans (HB.out.mono HB1.out.size))
      have M2 := Lib.hid mB
      clear mB hlt hj HO
      go_wp2_with fail
      obtain ⟨w2, rfl⟩ : ∃ w2, w2 = wr := ⟨_, rfl⟩
      clear c0
      go_loopw [7, 6] (fun t7 t6 wr => ∃ (j : Nat) (S : Int), j ≤ C.length ∧ t7 = .int .i64 j ∧ t6 = .int .i64 (1000000000 - S) ∧ 0 ≤ S ∧ S ≤ 1000000000 ∧ Hid (S = sumAbs (C.take j)) ∧ wr = w2) (fun t7 _ _ => C.length - (intOf t7).toNat)
      case atStart => exact ⟨0, 0, Nat.zero_le _, rfl, rfl, by omega, by omega, rfl, rfl⟩
      case round =>
        obtain ⟨j, S, hj, rfl, rfl, hS0, hS1, HS, rfl⟩ := hrel
        have c0 := blk_cell M2.out 0 rfl
        by_cases hlt : j < C.length
        · have hdd : decide (j < C.length) = true := by simpa using hlt
          have hyy : C[j]? = some (C.getD j 0) := by simp [List.getD, hlt]
          have HY := Lib.hid (show 1000000000 < S + absI (C.getD j 0) → checkS ⟨C, L, m⟩ n = 6 from fun h => check_sum HP.out HLO.out (j + 1) (by
            show _ < sumAbs (C.take (j + 1))
            rw [sumAbs_succ hlt, ← HS.out]; exact h))
          have HS2 := Lib.hid (show S + absI (C.getD j 0) = sumAbs (C.take (j + 1)) by rw [sumAbs_succ hlt, HS.out])
          obtain ⟨b, o, hb, rfl, k0⟩ := HC.out _ _ (ints_get _ _ _ hyy)
          have c1 := below_cell HBw.out (show b < w.heap.size by omega) k0
          generalize C.getD j 0 = y at *
          clear hyy k0 HS
          by_cases y1 : y < -(1000000000 - S)
          · have HQ := Lib.hid (HY.out (by unfold absI; split <;> omega))
            clear HY HS2
            go_wp2_with fail
            go_ret
            exact ⟨by rw [HQ.out]; rfl, HBw.out⟩
          · by_cases y2 : 1000000000 - S < y
            · have HQ := Lib.hid (HY.out (by unfold absI; split <;> omega))
              clear HY HS2
              go_wp2_with fail
              go_ret
              exact ⟨by rw [HQ.out]; rfl, HBw.out⟩
            · have y1n : decide (y < -(1000000000 - S)) = false := by simpa using y1
              have y2n : decide (1000000000 - S < y) = false := by simpa using y2
              have hm0 : 0 ≤ max y (-y) := by omega
              have hm1 : max y (-y) ≤ 1000000000 - S := by omega
              have HM := Lib.hid (max_abs y)
              clear HY
              go_wp2_with fail
              go_roundw
              case rel =>
                refine ⟨j + 1, S + max y (-y), by omega, by go_num, by go_num, by omega, by omega, ?_, trivial⟩
                show _ = _
                rw [HM.out]; exact HS2.out
              case measure => simp [intOf]; omega
        · obtain rfl : j = C.length := by omega
          have hdd : decide (C.length < C.length) = false := by simp
          have HS2 := Lib.hid (show S = sumAbs C by rw [HS.out, List.take_length])
          have HO := Lib.hid (show ∀ i, i < C.length → coefOk (C.getD i 0) = true from fun i hi => co_of_sum hi (by rw [← HS2.out]; exact hS1))
          have c2 := blk_cell M2.out 2 rfl
          clear hlt hj HS
          by_cases m1 : m < -1000000000
          · have HQ := Lib.hid (check_m HP.out HLO.out (.inl m1))
            clear HS2 HO
            go_wp2_with fail
            go_ret
            exact ⟨by rw [HQ.out]; rfl, HBw.out⟩
          by_cases m2 : 1000000000 < m
          · have HQ := Lib.hid (check_m HP.out HLO.out (.inr m2))
            clear HS2 HO
            go_wp2_with fail
            go_ret
            exact ⟨by rw [HQ.out]; rfl, HBw.out⟩
          have HQ := Lib.hid (check_fine HP.out HLO.out HO.out (by rw [← HS2.out]; omega) (show -1000000000 ≤ m by omega) (show m ≤ 1000000000 by omega))
          clear HS2 HO
          go_wp2_with fail
          go_ret
          exact ⟨by rw [HQ.out]; rfl, HBw.out⟩
end Go.Proofs.YtchamkbnapjidaaDoor
