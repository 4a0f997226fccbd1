/- The law: a true normal form stays true as literals become true. -/
import Derived.Test.YtflfpkjnkeflcaaDoorKYs
import Derived.Test.YtflfpkjnkeflcaaDoorSMo
import Derived.Laws.BitsAllLaws
import Derived.Deep.DeepCutAuto
namespace Go.Proofs.YtflfpkjnkeflcaaDoor
open Go.RowKit

theorem bits_nat (op : BinOp) (x y : Int) : ∃ P : Nat, bits op .u64 x y = (P : Int) ∧ P < 18446744073709551616 := u64_nat _

theorem set_bit {Y e : Nat} (i : Nat) : (Y ||| 2 ^ e).testBit i = if i = e then true else Y.testBit i := by
  rw [Nat.testBit_or, Nat.testBit_two_pow]
  by_cases h : i = e
  · subst h; simp
  · rw [if_neg h, decide_eq_false (fun x => h x.symm), Bool.or_false]
theorem clr_bit {Y e : Nat} (hY : Y < 18446744073709551616) (he : e < 64) (i : Nat) : ((Y ||| 2 ^ e) &&& (18446744073709551615 - 2 ^ e)).testBit i = if i = e then false else Y.testBit i := by
  have hp : (2 : Nat) ^ e < 2 ^ 64 := Nat.pow_lt_pow_right (by omega) he
  have hq : 18446744073709551615 - 2 ^ e = 2 ^ 64 - (2 ^ e + 1) := by omega
  rw [Nat.testBit_and, set_bit, hq, Nat.testBit_two_pow_sub_succ hp, Nat.testBit_two_pow]
  by_cases h : i = e
  · subst h; simp
  · rw [if_neg h, if_neg h, show decide (e = i) = false from decide_eq_false (fun x => h x.symm), Bool.not_false, Bool.and_true]
    by_cases h6 : i < 64
    · rw [decide_eq_true h6, Bool.and_true]
    · rw [decide_eq_false h6, Bool.and_false]
      exact (Nat.testBit_lt_two_pow (Nat.lt_of_lt_of_le hY (Nat.pow_le_pow_right (n := 2) (by omega) (show 64 ≤ i by omega)))).symm
theorem abs_ne {L : List Int} (h : L.Pairwise (fun x y => absI x < absI y)) {m l : Int} (hm : m ∈ L) (hl : l ∈ L) (hne : m ≠ l) : absI m ≠ absI l := by
  obtain ⟨i, hi, rfl⟩ := List.mem_iff_getElem.1 hm
  obtain ⟨j, hj, rfl⟩ := List.mem_iff_getElem.1 hl
  rcases Nat.lt_trichotomy i j with h1 | h1 | h1
  · have := List.pairwise_iff_getElem.1 h i j hi hj h1; omega
  · subst h1; exact absurd rfl hne
  · have := List.pairwise_iff_getElem.1 h j i hj hi h1; omega
/-- One literal more is true, and the others are as before. -/
theorem step_more {L : List Int} (ha : L.Pairwise (fun x y => absI x < absI y)) (hz : ∀ l ∈ L, l ≠ 0 ∧ absI l ≤ 64) {X Y Z e : Nat} {l : Int} (hl : l ∈ L) (he : absI l = (e : Int) + 1) (h : ∀ i, i ≠ e → Z.testBit i = Y.testBit i) (ht : litB (bitS Z 0) l = true)
    (hm : ∀ m ∈ L, litB (bitS X 0) m = true → litB (bitS Y 0) m = true) : ∀ m ∈ L, litB (bitS X 0) m = true → litB (bitS Z 0) m = true := fun m hmm hx => by
  by_cases hml : m = l
  · rw [hml]; exact ht
  · have h1 := abs_ne ha hmm hl hml
    have h2 := hm m hmm hx
    obtain ⟨h3, h4⟩ := hz m hmm
    rw [← h2]
    unfold absI at *
    unfold litB bitS
    by_cases hp : m < 0
    · rw [if_pos hp] at h4 h1
      have q1 : ¬ 0 < m := by omega
      have q2 : -m ≤ 64 := by omega
      simp only [if_neg q1, if_pos q2, h _ (show (-m - 1).toNat ≠ e by omega)]
    · rw [if_neg hp] at h4 h1
      have q1 : 0 < m := by omega
      have q2 : m ≤ 64 := by omega
      simp only [if_pos q1, if_pos q2, h _ (show (m - 1).toNat ≠ e by omega)]
theorem lit_pos {Z e : Nat} (he : e < 64) : litB (bitS Z 0) ((e : Int) + 1) = Z.testBit e := by
  unfold litB bitS
  rw [if_pos (by omega), if_pos (by omega), show ((e : Int) + 1 - 1).toNat = e by omega]
theorem lit_neg {Z e : Nat} (he : e < 64) : litB (bitS Z 0) (-(e : Int) - 1) = !Z.testBit e := by
  unfold litB bitS
  rw [if_neg (by omega), if_pos (by omega), show (-(-(e : Int) - 1) - 1).toNat = e by omega]

set_option maxHeartbeats 6400000 in
set_option maxRecDepth 100000 in
theorem more_law (s : PS) (k : Nat) (hk : k < 256) (x : Nat) (hx : x < 256) (y : Nat) (hy : y < 256) (ca la : Option Addr) (cc lc : Nat) (hcl : s.C.length ≤ 20000000000000) (hll : s.L.length ≤ 20000000000000) (hLi : ∀ z ∈ s.L, -9223372036854775808 ≤ z ∧ z ≤ 9223372036854775807) (w : World) (hT : Tab w) (hC : AtN w.heap.size w ca (ints s.C)) (hL : AtN w.heap.size w la (ints s.L)) :
    Calls Tryd.prog 5 #[sumV ca cc la lc s, .int .u8 (k : Int), .int .u8 (x : Int), .int .u8 (y : Int)] w fun e w' => e = .returned (.bool true) ∧ Below w.heap.size w w' := by
  obtain ⟨r, hr, hr8⟩ : ∃ r : Nat, (k : Int) % 8 = (r : Int) ∧ r < 8 := ⟨k % 8, (Int.natCast_emod k 8).symm, Nat.mod_lt _ (by omega)⟩
  have hn : ((1 + r : Nat) : Int) = 1 + (r : Int) := by omega
  have KL := gLight s ca la cc lc hcl hll
  have KW := Lib.hid (gWorksFrom hT)
  have KF := Lib.hid (fun (w1 : World) (hb : Below w.heap.size w w1) => gFew w.heap.size s (1 + r) (by omega) (by omega) ca la cc lc hcl hll hLi w1 (hC.below hb (Nat.le_refl _)) (hL.below hb (Nat.le_refl _)) hb.size)
  have hU := few_ok s (n := 1 + r) (by omega) (by omega)
  rw [hn] at KF hU
  have HU := Lib.hid hU
  have HR := Lib.hid hr
  generalize fewS s (1 + r) = u at *
  unfold sumV at *
  generalize lightB s = q at *
  generalize s.C.length = a at *
  generalize s.L.length = b at *
  clear hT hC hL hU hn hr
  cases q with
  | false =>
    go_enter Tryd.func5, Tryd.ntmps5
    go_wp2_with fail
    refine calls_gen fun w1 hw1 => ?_
    have HB1 := Lib.hid (show Below w.heap.size w w1 by rw [hw1]; exact below_one _ _)
    clear hw1
    refine (KL w1).mono ?_
    rintro e w2 ⟨rfl, hB2⟩
    have HB2 := Lib.hid (HB1.out.trans (hB2.mono HB1.out.size))
    clear hB2 HB1
    go_wp2_with fail
    refine (KW.out w2 HB2.out).mono ?_
    rintro e w3 ⟨rfl, hB3⟩
    have HB3 := Lib.hid (HB2.out.trans (hB3.mono HB2.out.size))
    clear hB3
    go_wp2_with fail
    go_ret
    exact ⟨rfl, HB3.out⟩
  | true =>
  go_enter Tryd.func5, Tryd.ntmps5
  go_wp2_with fail
  refine calls_gen fun w1 hw1 => ?_
  have HB1 := Lib.hid (show Below w.heap.size w w1 by rw [hw1]; exact below_one _ _)
  have M1 := (show w1.heap[w.heap.size]? = some (.cells #[.slice ca a cc, .slice la b lc, .int .i64 s.m] 24 (0, 0)) by rw [hw1]; exact new_one _ _)
  clear hw1
  refine (KL w1).mono ?_
  rintro e w2 ⟨rfl, hB2⟩
  have HB2 := Lib.hid (HB1.out.trans (hB2.mono HB1.out.size))
  have M2 := Lib.hid ((behind_of_below hB2).keep M1 (by simp))
  clear hB2 HB1 M1 KL
  have c0 := blk_cell M2.out 0 rfl
  have c1 := blk_cell M2.out 1 rfl
  have c2 := blk_cell M2.out 2 rfl
  have hkk : (k : Int) % 8 = (r : Int) := HR.out
  go_wp2_with fail
  refine (KF.out w2 HB2.out).mono ?_
  rintro e w3 ⟨vC, vL, rfl, h2, h3⟩
  have HB3 := Lib.hid (HB2.out.trans (h3.mono HB2.out.size))
  have hm3 := (behind_of_below h3).keep M2.out (by simp)
  have hmb := lt_of_heap M2.out
  clear c0 c1 c2 KF
  have M3 := Lib.hid hm3
  obtain ⟨pC, cC, hvC, hAC⟩ := own_at h2.o1
  obtain ⟨pL, cL, hvL, hAL⟩ := own_at h2.o2
  subst hvC
  subst hvL
  have hul : u.C.length ≤ 64 := HU.out.l64
  have HLC := Lib.hid (show u.L.length = u.C.length by have := HU.out.len; omega)
  have hul2 : u.L.length ≤ 64 := by have := HLC.out; omega
  have KN := Lib.hid (gNormal w3.heap.size u (1 + (r : Int)) pC pL cC cL (by omega) (by omega) w3 hAC hAL (Nat.le_refl _))
  have hr0 := norm_err2 u (1 + (r : Int))
  rw [check_ok.2 HU.out] at hr0
  rw [hr0] at KN
  have HG := Lib.hid (norm_good (check_ok.2 HU.out))
  generalize (normS u (1 + (r : Int))).1 = v at *
  have hvl : v.C.length ≤ 64 := HG.out.1.l64
  have HVL := Lib.hid (show v.C.length = v.L.length from HG.out.1.len)
  have hvl2 : v.L.length ≤ 64 := by have := HVL.out; omega
  unfold sumV at *
  clear h2 h3 hm3 hAC hAL hr0 M3 M2
  go_wp2_with fail
  refine KN.out.mono ?_
  rintro e w5 ⟨vC, vL, rfl, h2, h3⟩
  have HB5 := Lib.hid (HB3.out.trans (h3.mono HB3.out.size))
  obtain ⟨qC, dC, hvC, hAC⟩ := own_at h2.o1
  obtain ⟨qL, dL, hvL, hAL⟩ := own_at h2.o2
  subst hvC
  subst hvL
  have KV := Lib.hid (fun (i : Nat) (hi : i < 18446744073709551616) => gEvalFrom _ v i 0 hi (by omega) qC qL dC dL (by omega) (by omega) w5 hAC hAL (Nat.le_refl _))
  unfold sumV setV at KV
  have HAL := Lib.hid hAL
  clear h2 h3 hAC hAL KN HB2
  go_wp2_with fail
  refine wp_gen ?_
  intro w6 hw6
  have HB56 := Lib.hid (show Below w5.heap.size w5 w6 by rw [hw6]; exact below_one w5 _)
  have N6 := Lib.hid (show w6.heap[w5.heap.size]? = some (.cells #[.slice qC v.C.length dC, .slice qL v.L.length dL, .int .i64 v.m] 24 (0, 0)) by rw [hw6]; exact new_one _ _)
  clear hw6
  obtain ⟨X, hX, hX1⟩ := bits_nat BinOp.and (x : Int) (IntKind.u64.wrap (IntKind.u64.wrap (2 ^ (1 + r)) - 1))
  rw [hX]
  clear hX
  have hs6 := HB56.out.size
  have HB6 := Lib.hid (HB5.out.trans (HB56.out.mono HB5.out.size))
  clear HB3 HB5 HR HU
  go_loopw [52, 13] (fun t52 t13 wr => ∃ (j Y : Nat), j ≤ v.L.length ∧ t52 = .int .i64 j ∧ t13 = .int .u64 Y ∧ Y < 18446744073709551616 ∧ Hid (∀ m ∈ v.L, litB (bitS X 0) m = true → litB (bitS Y 0) m = true) ∧ Hid (Below w6.heap.size w6 wr)) (fun t52 _ _ => v.L.length - (intOf t52).toNat)
  case atStart => exact ⟨0, X, Nat.zero_le _, rfl, rfl, hX1, fun _ _ h => h, Below.refl _ _⟩
  case round =>
    obtain ⟨j, Y, hj, rfl, rfl, hY, HM, HB⟩ := hrel
    have NR := Lib.hid ((behind_of_below HB.out).keep N6.out (by simp))
    have hsr := HB.out.size
    by_cases hlt : j < v.L.length
    · have hdd : decide (j < v.L.length) = true := by simpa using hlt
      have hyy : v.L[j]? = some (v.L.getD j 0) := by simp [List.getD, hlt]
      have hly := HG.out.1.lit _ (getD_mem' hlt)
      have HMEM := Lib.hid (getD_mem' hlt)
      obtain ⟨b1, o1, hb1, e1, k1⟩ := HAL.out _ _ (ints_get _ _ _ hyy)
      subst e1
      have hbw := HB56.out.trans (HB.out.mono HB56.out.size)
      have d1 := below_cell hbw (show b1 < w5.heap.size by omega) k1
      generalize v.L.getD j 0 = l at *
      obtain ⟨q, hq, hq8⟩ : ∃ q : Nat, (j : Int) % 8 = (q : Int) ∧ q < 8 := ⟨j % 8, (Int.natCast_emod j 8).symm, Nat.mod_lt _ (by omega)⟩
      by_cases hl : 0 < l
      · obtain ⟨e, rfl⟩ : ∃ e : Nat, l = (e : Int) + 1 := ⟨(l - 1).toNat, by omega⟩
        have he : e < 64 := by omega
        have HMN := Lib.hid fun (Z : Nat) (h : ∀ i, i ≠ e → Z.testBit i = Y.testBit i) (ht : Z.testBit e = true) => step_more HG.out.2.asc (fun m hm => by have := HG.out.1.lit m hm; unfold absI; split <;> omega) HMEM.out (e := e) (by unfold absI; split <;> omega) h ((lit_pos he).trans ht) HM.out
        have hm1 : max ((e : Int) + 1) (-((e : Int) + 1)) = (e : Int) + 1 := by omega
        have hm2 : max ((e : Int) + 1) (-1 - (e : Int)) = (e : Int) + 1 := by omega
        have hm3 : max ((e : Int) + 1) (-(e : Int) - 1) = (e : Int) + 1 := by omega
        go_upto_region 12 with fail
        rw [wrap_pow he]
        go_cut [70] (fun t70 wx => (∃ bb : Bool, t70 = .bool bb) ∧ wx = wr)
        case first =>
          go_wp2_with fail
          go_meet
          case rel => exact ⟨⟨_, rfl⟩, rfl⟩
        case rest =>
        obtain ⟨⟨bb, rfl⟩, rfl⟩ := hcut
        cases bb with
        | false =>
          go_wp2_with fail
          go_roundw
          case rel => exact ⟨j + 1, Y, by omega, by go_num, rfl, hY, HM.out, HB.out⟩
          case measure => simp [intOf]; omega
        | true =>
          have hBB : 2 ^ e < 18446744073709551616 := Nat.pow_lt_pow_right (m := e) (n := 64) (by omega) (by omega)
          have hor : bits BinOp.or IntKind.u64 (Y : Int) ((2 ^ e : Nat) : Int) = ((Y ||| 2 ^ e : Nat) : Int) := u64_or_nat _ _ hY hBB
          have hY1 : Y ||| 2 ^ e < 18446744073709551616 := Nat.or_lt_two_pow (n := 64) hY hBB
          have HM1 := Lib.hid (HMN.out _ (fun i hi => by rw [set_bit, if_neg hi]) (by rw [set_bit, if_pos rfl]))
          generalize Y ||| 2 ^ e = Y1 at *
          generalize 2 ^ e = B at *
          have hlz : decide ((e : Int) + 1 < 0) = false := decide_eq_false (by omega)
          go_wp2_with fail
          go_roundw
          case rel => exact ⟨j + 1, Y1, by omega, by go_num, by first | rfl | rw [hor], hY1, HM1.out, HB.out⟩
          case measure => simp [intOf]; omega
      · obtain ⟨e, rfl⟩ : ∃ e : Nat, l = -(e : Int) - 1 := ⟨(-l - 1).toNat, by omega⟩
        have he : e < 64 := by omega
        have HMN := Lib.hid fun (Z : Nat) (h : ∀ i, i ≠ e → Z.testBit i = Y.testBit i) (ht : Z.testBit e = false) => step_more HG.out.2.asc (fun m hm => by have := HG.out.1.lit m hm; unfold absI; split <;> omega) HMEM.out (e := e) (by unfold absI; split <;> omega) h ((lit_neg he).trans (by rw [ht]; rfl)) HM.out
        have hm1 : max (-(e : Int) - 1) ((e : Int) + 1) = (e : Int) + 1 := by omega
        have hm2 : max (-(e : Int) - 1) (1 + (e : Int)) = (e : Int) + 1 := by omega
        have hm3 : max (-(e : Int) - 1) (-(-(e : Int) - 1)) = (e : Int) + 1 := by omega
        go_upto_region 12 with fail
        rw [wrap_pow he]
        go_cut [70] (fun t70 wx => (∃ bb : Bool, t70 = .bool bb) ∧ wx = wr)
        case first =>
          go_wp2_with fail
          go_meet
          case rel => exact ⟨⟨_, rfl⟩, rfl⟩
        case rest =>
        obtain ⟨⟨bb, rfl⟩, rfl⟩ := hcut
        cases bb with
        | false =>
          go_wp2_with fail
          go_roundw
          case rel => exact ⟨j + 1, Y, by omega, by go_num, rfl, hY, HM.out, HB.out⟩
          case measure => simp [intOf]; omega
        | true =>
          have hBB : 2 ^ e < 18446744073709551616 := Nat.pow_lt_pow_right (m := e) (n := 64) (by omega) (by omega)
          have hor : bits BinOp.or IntKind.u64 (Y : Int) ((2 ^ e : Nat) : Int) = ((Y ||| 2 ^ e : Nat) : Int) := u64_or_nat _ _ hY hBB
          have hY1 : Y ||| 2 ^ e < 18446744073709551616 := Nat.or_lt_two_pow (n := 64) hY hBB
          have hnt : bits BinOp.andNot IntKind.u64 ((Y ||| 2 ^ e : Nat) : Int) ((2 ^ e : Nat) : Int) = (((Y ||| 2 ^ e) &&& (18446744073709551615 - 2 ^ e) : Nat) : Int) := u64_andNot_nat _ _ hY1 hBB
          have hY2 : (Y ||| 2 ^ e) &&& (18446744073709551615 - 2 ^ e) < 18446744073709551616 := Nat.lt_of_le_of_lt Nat.and_le_left hY1
          have HM1 := Lib.hid (HMN.out _ (fun i hi => by rw [clr_bit hY he, if_neg hi]) (by rw [clr_bit hY he, if_pos rfl]))
          generalize (Y ||| 2 ^ e) &&& (18446744073709551615 - 2 ^ e) = Y2 at *
          generalize Y ||| 2 ^ e = Y1 at *
          generalize 2 ^ e = B at *
          have hlz : decide (-(e : Int) - 1 < 0) = true := decide_eq_true (by omega)
          go_wp2_with fail
          go_roundw
          case rel => exact ⟨j + 1, Y2, by omega, by go_num, by first | rfl | rw [hor, hnt] | rw [hnt], hY2, HM1.out, HB.out⟩
          case measure => simp [intOf]; omega
    · obtain rfl : j = v.L.length := by omega
      have hdd : decide (v.L.length < v.L.length) = false := by simp
      have HB9 := Lib.hid (HB6.out.trans (HB.out.mono HB6.out.size))
      have hbw := HB56.out.trans (HB.out.mono HB56.out.size)
      have c0 := blk_cell NR.out 0 rfl
      have c1 := blk_cell NR.out 1 rfl
      have c2 := blk_cell NR.out 2 rfl
      have KA := KV.out X hX1 wr hbw
      rw [show ((0 : Nat) : Int) = 0 from rfl] at KA
      have HEM := Lib.hid (fun h => eval_mono (u := v) (h1 := litB (bitS X 0)) (h2 := litB (bitS Y 0)) HVL.out (fun c hc => by have := HG.out.2.co c hc; omega) HM.out h)
      generalize evalS v (litB (bitS X 0)) = p at *
      go_wp2_with fail
      refine KA.mono ?_
      rintro e w7 ⟨rfl, hB7⟩
      have HB7 := Lib.hid (hbw.trans (hB7.mono hbw.size))
      have HB10 := Lib.hid (HB9.out.trans (hB7.mono HB9.out.size))
      have NR7 := Lib.hid ((behind_of_below hB7).keep NR.out (by simp))
      clear hB7 KA c0 c1 c2
      have c0 := blk_cell NR7.out 0 rfl
      have c1 := blk_cell NR7.out 1 rfl
      have c2 := blk_cell NR7.out 2 rfl
      cases p with
      | false =>
        go_wp2_with fail
        refine (KW.out w7 HB10.out).mono ?_
        rintro e w9 ⟨rfl, hB⟩
        have HB11 := Lib.hid (HB10.out.trans (hB.mono HB10.out.size))
        clear hB
        go_wp2_with fail
        go_ret
        exact ⟨rfl, HB11.out⟩
      | true =>
        have KB := KV.out Y hY w7 HB7.out
        rw [show ((0 : Nat) : Int) = 0 from rfl, HEM.out rfl] at KB
        go_wp2_with fail
        refine KB.mono ?_
        rintro e w8 ⟨rfl, hB8⟩
        have HB11 := Lib.hid (HB10.out.trans (hB8.mono HB10.out.size))
        clear hB8 KB
        go_wp2_with fail
        refine (KW.out w8 HB11.out).mono ?_
        rintro e w9 ⟨rfl, hB⟩
        have HB12 := Lib.hid (HB11.out.trans (hB.mono HB11.out.size))
        clear hB
        go_wp2_with fail
        go_ret
        exact ⟨rfl, HB12.out⟩
end Go.Proofs.YtflfpkjnkeflcaaDoor
