/- Texts of this claim, joined: HK. -/
import Derived.Test.YtmaiofimmjedjaaDoorMW28
import Derived.Test.YtmaiofimmjedjaaDoorMW34
import Derived.Deep.DeepCutAuto

/- The law: what is known. -/
namespace Go.Proofs.YtmaiofimmjedjaaDoor
open Go.RowKit

def strsA (L : List (List UInt8)) : Array Value := (L.map fun t => Value.string ⟨t.toArray⟩).toArray
def natsA (L : List Nat) : Array Value := (L.map fun k => Value.int .i64 ((k : Nat) : Int)).toArray
theorem strsA_at {L : List (List UInt8)} {i : Nat} {t : List UInt8} (h : L[i]? = some t) : (strsA L)[i]? = some (.string ⟨t.toArray⟩) := by simp [strsA, h]
theorem natsA_at {L : List Nat} {i : Nat} {t : Nat} (h : L[i]? = some t) : (natsA L)[i]? = some (.int .i64 ((t : Nat) : Int)) := by simp [natsA, h]
theorem rep_length (l : List UInt8) : ∀ k, (Lib.repeatL l k).length = k * l.length
  | 0 => by simp [Lib.repeatL]
  | k + 1 => by rw [Lib.repeatL, List.length_append, rep_length l k, Nat.succ_mul]; omega
theorem rep_blanks (w : World) : Calls Tryd.prog 10 #[.string ⟨#[32]⟩, .int .i64 1048577] w fun e w' => ∃ L : List UInt8, 1048576 < L.length ∧ L.length ≤ 140737488355328 ∧ e = .returned (.string ⟨L.toArray⟩) ∧ Below w.heap.size w w' := by
  obtain ⟨k, hk⟩ : ∃ k : Nat, k = 1048577 := ⟨_, rfl⟩
  rw [show (1048577 : Int) = (k : Int) by omega]
  have h := Tryd.strings_Repeat ⟨#[32]⟩ k w (by omega) (by show 1 * k ≤ _; omega)
  have hl := rep_length [32] k
  refine h.mono ?_
  rintro e w' ⟨rfl, hb⟩
  refine ⟨Lib.repeatL [32] k, ?_, ?_, rfl, hb⟩
  · rw [hl]; simp; omega
  · rw [hl]; simp; omega
theorem rep_ands (w : World) : Calls Tryd.prog 10 #[.string ⟨#[49, 38]⟩, .int .i64 5000] w fun e w' => ∃ L : List UInt8, (∃ q, parseI (L ++ [49]) 1 = ([], q, 2)) ∧ L.length ≤ 100000 ∧ e = .returned (.string ⟨L.toArray⟩) ∧ Below w.heap.size w w' := by
  obtain ⟨k, hk⟩ : ∃ k : Nat, k = 5000 := ⟨_, rfl⟩
  rw [show (5000 : Int) = (k : Int) by omega]
  have h := Tryd.strings_Repeat ⟨#[49, 38]⟩ k w (by omega) (by show 2 * k ≤ _; omega)
  have hl := rep_length [49, 38] k
  have hp := long_and k (by omega) (by omega)
  rw [← rep_and] at hp
  refine h.mono ?_
  rintro e w' ⟨rfl, hb⟩
  refine ⟨Lib.repeatL [49, 38] k, hp, ?_, rfl, hb⟩
  rw [hl]; simp; omega

set_option maxHeartbeats 6400000 in
set_option maxRecDepth 100000 in
theorem known_law (w : World) (hV : VarsI w) : Calls Tryd.prog 4 #[] w fun e w' => e = .returned (.bool true) ∧ Below w.heap.size w w' := by
  obtain ⟨Post, hPost⟩ : ∃ P : Ending → World → Prop, P = fun e w' => e = .returned (.bool true) ∧ Below w.heap.size w w' := ⟨_, rfl⟩
  rw [← hPost]
  have HP := Lib.hid hPost
  have HV := Lib.hid hV
  have KW := Lib.hid (fun w1 (h : Below w.heap.size w w1) => gWorks w1 (hV.below h))
  clear hPost hV
  go_enter Tryd.func4, Tryd.ntmps4
  go_upto_region 3 with fail
  refine wp_gen ?_
  intro w2 hw2
  have HS2 := Lib.hid (show w2.heap[w.heap.size]? = some (.cells (strsA kt1) 9 (0, 0)) by rw [hw2]; exact new_two1 _ _ _)
  have HT2 := Lib.hid (show w2.heap[w.heap.size + 1]? = some (.cells (natsA kp1) 3 (0, 0)) by rw [hw2]; exact new_two2 _ _ _)
  have HB2 := Lib.hid (show Below w.heap.size w w2 by rw [hw2]; exact below_two _ _ _)
  clear hw2
  go_wp2_with fail
  go_loopw [3] (fun t3 wr => ∃ j : Nat, j ≤ 11 ∧ t3 = .int .i64 j ∧ Hid (Below w.heap.size w wr) ∧ Hid (wr.heap[w.heap.size]? = some (.cells (strsA kt1) 9 (0, 0))) ∧ Hid (wr.heap[w.heap.size + 1]? = some (.cells (natsA kp1) 3 (0, 0)))) (fun t3 _ => 11 - (intOf t3).toNat)
  case atStart => exact ⟨0, Nat.zero_le _, rfl, HB2.out, HS2.out, HT2.out⟩
  case round =>
    obtain ⟨j, hj, rfl, HB, HS, HT⟩ := hrel
    clear HS2 HT2 HB2
    by_cases hlt : j < 11
    · have d1 : decide ((j : Int) < 11) = true := decide_eq_true (by omega)
      have d2 : decide (j < 11) = true := decide_eq_true hlt
      obtain ⟨t, ht⟩ : ∃ t, kt1[j]? = some t := ⟨_, List.getElem?_eq_getElem hlt⟩
      obtain ⟨p, hp⟩ : ∃ p, kp1[j]? = some p := ⟨_, List.getElem?_eq_getElem hlt⟩
      obtain ⟨h20, hpa⟩ := known_bad j t p ht hp
      have KP := parse_at t 9 [] p 5 hpa wr (HV.out.below HB.out) (by omega)
      rw [show (if ([] : List Gt).length = 0 then (0 : Int) else 9) = 0 from rfl, show ([] : List Gt).length = 0 from rfl] at KP
      have r0 := blk_cell HS.out j (strsA_at ht)
      have R1 := Lib.hid (blk_cell HT.out j (natsA_at hp))
      obtain ⟨s, hs⟩ : ∃ s : ByteArray, s = ⟨t.toArray⟩ := ⟨_, rfl⟩
      rw [← hs] at KP r0
      clear ht hp h20 hpa hs
      go_wp2_with fail
      refine KP.mono ?_
      rintro e w4 ⟨a1, d1', rfl, _, hb⟩
      have HB4 := Lib.hid (HB.out.trans (hb.mono HB.out.size))
      have HS4 := Lib.hid ((behind_of_below hb).keep HS.out (by simp))
      have HT4 := Lib.hid ((behind_of_below hb).keep HT.out (by simp))
      have R4 := Lib.hid (behind_cellX (behind_of_below hb) R1.out (by simp))
      clear hb KP r0 R1 HB HS HT
      go_upto_region 7 with fail
      refine wp_gen ?_
      intro w5 hw5
      have hb5 : Below w4.heap.size w4 w5 := by rw [hw5]; exact below_one _ _
      have HC5 := Lib.hid (show w5.heap[w4.heap.size]? = some (.cells #[.int .i64 0, .slice a1 0 d1'] 24 (0, 0)) by rw [hw5]; exact new_one _ _)
      have HB5 := Lib.hid (HB4.out.trans (hb5.mono HB4.out.size))
      have HS5 := Lib.hid ((behind_of_below hb5).keep HS4.out (by simp))
      have HT5 := Lib.hid ((behind_of_below hb5).keep HT4.out (by simp))
      have r5 := behind_cellX (behind_of_below hb5) R4.out (by simp)
      clear hw5 hb5 HB4 HS4 HT4 R4
      have c1 := blk_cell HC5.out 1 rfl
      go_wp2_with fail
      go_roundw
      case rel => exact ⟨j + 1, by omega, by go_num, HB5.out, HS5.out, HT5.out⟩
      case measure => simp [intOf]; omega
    · have d1 : decide ((j : Int) < 11) = false := decide_eq_false (by omega)
      have d2 : decide (j < 11) = false := decide_eq_false hlt
      clear hlt HS HT
      go_upto_region 11 with fail
      refine wp_gen ?_
      intro w2 hw2
      have HS2 := Lib.hid (show w2.heap[wr.heap.size]? = some (.cells (strsA kt2) 9 (0, 0)) by rw [hw2]; exact new_two1 _ _ _)
      have HT2 := Lib.hid (show w2.heap[wr.heap.size + 1]? = some (.cells (strsA kt3) 9 (0, 0)) by rw [hw2]; exact new_two2 _ _ _)
      have HB2 := Lib.hid (HB.out.trans ((show Below wr.heap.size wr w2 by rw [hw2]; exact below_two _ _ _).mono HB.out.size))
      clear hw2 HB
      go_wp2_with fail
      obtain ⟨wq, hwq⟩ : ∃ wq, wq = wr := ⟨_, rfl⟩
      rw [← hwq] at HS2 HT2 ⊢
      clear hwq
      go_loopw [9] (fun t9 wy => ∃ j : Nat, j ≤ 10 ∧ t9 = .int .i64 j ∧ Hid (Below w.heap.size w wy) ∧ Hid (wy.heap[wq.heap.size]? = some (.cells (strsA kt2) 9 (0, 0))) ∧ Hid (wy.heap[wq.heap.size + 1]? = some (.cells (strsA kt3) 9 (0, 0)))) (fun t9 _ => 10 - (intOf t9).toNat)
      case atStart => exact ⟨0, Nat.zero_le _, rfl, HB2.out, HS2.out, HT2.out⟩
      case round =>
        obtain ⟨i, hi, rfl, HB, HS, HT⟩ := hrel
        clear HS2 HT2 HB2
        obtain ⟨wx, hwx⟩ : ∃ wx, wx = wr := ⟨_, rfl⟩
        rw [← hwx] at HB HS HT ⊢
        clear hwx
        by_cases hlt : i < 10
        · have d1 : decide ((i : Int) < 10) = true := decide_eq_true (by omega)
          have d2 : decide (i < 10) = true := decide_eq_true hlt
          obtain ⟨t, ht⟩ : ∃ t, kt2[i]? = some t := ⟨_, List.getElem?_eq_getElem hlt⟩
          obtain ⟨u, hu⟩ : ∃ u, kt3[i]? = some u := ⟨_, List.getElem?_eq_getElem hlt⟩
          obtain ⟨h20, gs, hpa, hne, hck, hpr⟩ := known_good i t u ht hu
          have KP := parse_at t 9 gs 0 0 hpa wx (HV.out.below HB.out) (by omega)
          rw [if_neg hne, show ((0 : Nat) : Int) = 0 from rfl] at KP
          have r0 := blk_cell HS.out i (strsA_at ht)
          have R1 := Lib.hid (blk_cell HT.out i (strsA_at hu))
          obtain ⟨s, hs⟩ : ∃ s : ByteArray, s = ⟨t.toArray⟩ := ⟨_, rfl⟩
          rw [← hs] at KP r0
          obtain ⟨hfit, hlen, _⟩ := check_fits hck
          have HF := Lib.hid hfit
          have HL := Lib.hid hlen
          have HPR := Lib.hid hpr
          clear ht hu h20 hpa hs hne hck hpr hfit hlen
          go_wp2_with fail
          refine KP.mono ?_
          rintro e w4 ⟨a1, d1', rfl, hC, hb⟩
          have HC4 := Lib.hid hC
          have HB4 := Lib.hid (HB.out.trans (hb.mono HB.out.size))
          have HS4 := Lib.hid ((behind_of_below hb).keep HS.out (by simp))
          have HT4 := Lib.hid ((behind_of_below hb).keep HT.out (by simp))
          have R4 := Lib.hid (behind_cellX (behind_of_below hb) R1.out (by simp))
          clear hb hC KP r0 R1 HB HS HT
          go_upto_region 15 with fail
          refine wp_gen ?_
          intro w5 hw5
          have hb5 : Below w4.heap.size w4 w5 := by rw [hw5]; exact below_one _ _
          have HX5 := Lib.hid (show w5.heap[w4.heap.size]? = some (.cells #[.int .i64 9, .slice a1 gs.length d1'] 24 (0, 0)) by rw [hw5]; exact new_one _ _)
          have HB5 := Lib.hid (HB4.out.trans (hb5.mono HB4.out.size))
          have HC5 := Lib.hid (HC4.out.later hb5)
          have HS5 := Lib.hid ((behind_of_below hb5).keep HS4.out (by simp))
          have HT5 := Lib.hid ((behind_of_below hb5).keep HT4.out (by simp))
          have R5 := Lib.hid (behind_cellX (behind_of_below hb5) R4.out (by simp))
          clear hw5 hb5 HB4 HS4 HT4 R4 HC4
          have KQ := gPrint 9 gs a1 d1' w5 HC5.out HF.out (by have := HL.out; omega) (HV.out.below HB5.out)
          rw [HPR.out] at KQ
          simp only [] at KQ
          have c0 := blk_cell HX5.out 0 rfl
          have c1 := blk_cell HX5.out 1 rfl
          obtain ⟨y, hy⟩ : ∃ s : ByteArray, s = ⟨u.toArray⟩ := ⟨_, rfl⟩
          rw [← hy] at KQ R5
          clear hy HPR
          go_wp2_with fail
          refine KQ.mono ?_
          rintro e w6 ⟨rfl, hb⟩
          have HB6 := Lib.hid (HB5.out.trans (hb.mono HB5.out.size))
          have HS6 := Lib.hid ((behind_of_below hb).keep HS5.out (by simp))
          have HT6 := Lib.hid ((behind_of_below hb).keep HT5.out (by simp))
          have r6 := behind_cellX (behind_of_below hb) R5.out (by simp)
          clear hb KQ c0 c1 R5 HB5 HS5 HT5 HC5
          have heq : (y.toList != y.toList) = false := by simp
          go_wp2_with fail
          go_roundw
          case rel => exact ⟨i + 1, by omega, by go_num, HB6.out, HS6.out, HT6.out⟩
          case measure => simp [intOf]; omega
        · have d1 : decide ((i : Int) < 10) = false := decide_eq_false (by omega)
          have d2 : decide (i < 10) = false := decide_eq_false hlt
          clear hlt HS HT
          have K1 := parse_at [49] (-1) [] 0 1 arg_less wx (HV.out.below HB.out) (by decide)
          rw [show (if ([] : List Gt).length = 0 then (0 : Int) else -1) = 0 from rfl, show ([] : List Gt).length = 0 from rfl, show (⟨([49] : List UInt8).toArray⟩ : ByteArray) = ⟨#[49]⟩ from rfl, show ((0 : Nat) : Int) = 0 from rfl] at K1
          go_wp2_with fail
          refine K1.mono ?_
          rintro e w3 ⟨a3, d3, rfl, _, hb⟩
          have HB3 := Lib.hid (HB.out.trans (hb.mono HB.out.size))
          clear hb K1 HB
          go_upto_region 19 with fail
          refine wp_gen ?_
          intro w4 hw4
          have HB4 := Lib.hid (HB3.out.trans ((show Below w3.heap.size w3 w4 by rw [hw4]; exact below_one _ _).mono HB3.out.size))
          clear hw4 HB3
          have K2 := parse_at [49] 129 [] 0 1 arg_more w4 (HV.out.below HB4.out) (by decide)
          rw [show (if ([] : List Gt).length = 0 then (0 : Int) else 129) = 0 from rfl, show ([] : List Gt).length = 0 from rfl, show (⟨([49] : List UInt8).toArray⟩ : ByteArray) = ⟨#[49]⟩ from rfl, show ((0 : Nat) : Int) = 0 from rfl] at K2
          go_wp2_with fail
          refine K2.mono ?_
          rintro e w5 ⟨a5, d5, rfl, _, hb⟩
          have HB5 := Lib.hid (HB4.out.trans (hb.mono HB4.out.size))
          clear hb K2 HB4
          go_upto_region 20 with fail
          refine wp_gen ?_
          intro w6 hw6
          have HB6 := Lib.hid (HB5.out.trans ((show Below w5.heap.size w5 w6 by rw [hw6]; exact below_one _ _).mono HB5.out.size))
          clear hw6 HB5
          go_wp2_with fail
          refine (rep_blanks w6).mono ?_
          rintro e w7 ⟨L, hL1, hL2, rfl, hb⟩
          have HB7 := Lib.hid (HB6.out.trans (hb.mono HB6.out.size))
          clear hb HB6
          have K3 := parse_at L 1 [] 0 2 (long_blank L hL1) w7 (HV.out.below HB7.out) hL2
          rw [show (if ([] : List Gt).length = 0 then (0 : Int) else 1) = 0 from rfl, show ([] : List Gt).length = 0 from rfl, show ((0 : Nat) : Int) = 0 from rfl] at K3
          obtain ⟨s3, hs3⟩ : ∃ s : ByteArray, s = ⟨L.toArray⟩ := ⟨_, rfl⟩
          rw [← hs3] at K3 ⊢
          clear hs3 hL1 hL2
          go_wp2_with fail
          refine K3.mono ?_
          rintro e w8 ⟨a8, d8, rfl, _, hb⟩
          have HB8 := Lib.hid (HB7.out.trans (hb.mono HB7.out.size))
          clear hb K3 HB7
          go_upto_region 21 with fail
          refine wp_gen ?_
          intro w9 hw9
          have HB9 := Lib.hid (HB8.out.trans ((show Below w8.heap.size w8 w9 by rw [hw9]; exact below_one _ _).mono HB8.out.size))
          clear hw9 HB8
          go_wp2_with fail
          refine (rep_ands w9).mono ?_
          rintro e w10 ⟨L2, ⟨q, hL3⟩, hL4, rfl, hb⟩
          have HB10 := Lib.hid (HB9.out.trans (hb.mono HB9.out.size))
          clear hb HB9
          have K4 := parse_at (L2 ++ [49]) 1 [] q 2 hL3 w10 (HV.out.below HB10.out) (by simp; omega)
          rw [show (if ([] : List Gt).length = 0 then (0 : Int) else 1) = 0 from rfl, show ([] : List Gt).length = 0 from rfl] at K4
          obtain ⟨s4, hs4⟩ : ∃ s : ByteArray, s = ⟨L2.toArray⟩ := ⟨_, rfl⟩
          obtain ⟨s5, hs5⟩ : ∃ s : ByteArray, s = s4 ++ (⟨#[49]⟩ : ByteArray) := ⟨_, rfl⟩
          have hs6 : s5 = ⟨(L2 ++ [49]).toArray⟩ := by rw [hs5, hs4]; exact ba_app L2 [49]
          have hsz : s4.size = L2.length := by rw [hs4]; exact ba_size L2
          have ha : ∀ x, (Op.stringOp .add s4 ⟨#[49]⟩).run Tryd.prog x = .ok (.string s5) x := fun x => by rw [hs5]; exact run_string_add_sum x _ _ (by show s4.size + 1 ≤ _; omega)
          rw [← hs6] at K4
          rw [← hs4]
          clear hs4 hs5 hs6 hsz hL3 hL4
          go_wp2_with fail
          refine K4.mono ?_
          rintro e w11 ⟨a11, d11, rfl, _, hb⟩
          have HB11 := Lib.hid (HB10.out.trans (hb.mono HB10.out.size))
          clear hb K4 HB10 ha
          go_upto_region 22 with fail
          refine wp_gen ?_
          intro w12 hw12
          have HB12 := Lib.hid (HB11.out.trans ((show Below w11.heap.size w11 w12 by rw [hw12]; exact below_one _ _).mono HB11.out.size))
          clear hw12 HB11
          go_wp2_with fail
          refine (KW.out w12 HB12.out).mono ?_
          rintro e w13 ⟨rfl, hb⟩
          have HB13 := Lib.hid (HB12.out.trans (hb.mono HB12.out.size))
          clear hb
          go_wp2_with fail
          rw [HP.out]
          exact ⟨rfl, HB13.out⟩
end Go.Proofs.YtmaiofimmjedjaaDoor
