/- The law: what is left of a valid sum is valid. -/
import Derived.Test.YtkhokahilkahfaaDoorKYa
namespace Go.Proofs.YtkhokahilkahfaaDoor
open Go.RowKit

theorem given_err {s : PS} {t : List Int} {n : Int} (h : (givenS s t n).2 ≠ 0) : (givenS s t n).1 = .zero := by
  unfold givenS at *
  split
  · rfl
  · rename_i hc
    rw [if_neg hc] at h
    split
    · rfl
    · rename_i ht
      rw [if_neg ht] at h
      exact absurd rfl h
theorem given_fine {s : PS} {t : List Int} {n : Int} (h : (givenS s t n).2 = 0) : checkS s n = 0 ∧ checkS (givenS s t n).1 n = 0 ∧ (givenS s t n).1.L.length ≤ s.L.length := by
  by_cases hc : checkS s n = 0
  · by_cases ht : termOk t n = true
    · have hs := check_ok.1 hc
      rw [given_gSum hs ht]
      obtain ⟨h1, h2, _⟩ := given_ok t hs
      exact ⟨hc, check_ok.2 h1, h2⟩
    · exfalso
      unfold givenS at h
      rw [if_neg (by simpa using hc), if_pos (by simpa using ht)] at h
      cases h
  · exfalso
    unfold givenS at h
    rw [if_pos hc] at h
    exact hc h

set_option maxHeartbeats 3200000 in
set_option maxRecDepth 100000 in
theorem left_law (s : PS) (t : List Int) (n : Int) (ca la ta : Option Addr) (cc lc tc : Nat) (hcl : s.C.length ≤ 20000000000000) (hll : s.L.length ≤ 20000000000000) (htl : t.length ≤ 20000000000000) (w : World) (hT : Tab w) (hC : AtN w.heap.size w ca (ints s.C)) (hL : AtN w.heap.size w la (ints s.L)) (hTm : AtN w.heap.size w ta (ints t)) :
    Calls Tryd.prog 12 #[sumV ca cc la lc s, .slice ta t.length tc, .int .i64 n] w fun e w' => e = .returned (.bool true) ∧ Below w.heap.size w w' := by
  have KL := gLight s ca la cc lc hcl hll
  have KW := Lib.hid (gWorksFrom hT)
  have KC := Lib.hid (gCheckFrom _ s n ca la cc lc (by omega) (by omega) w hC hL (Nat.le_refl _))
  have KG := Lib.hid (fun (htl : t.length ≤ 140) (w1 : World) (hb : Below w.heap.size w w1) => gGiven w.heap.size s t n ca la ta cc lc tc (by omega) (by omega) (by omega) w1 (hC.below hb (Nat.le_refl _)) (hL.below hb (Nat.le_refl _)) (hTm.below hb (Nat.le_refl _)) hb.size)
  have HE := Lib.hid (@given_err s t n)
  have HF := Lib.hid (@given_fine s t n)
  unfold sumV at *
  generalize hck : checkS s n = ck at *
  generalize lightB s = q at *
  generalize hg : givenS s t n = g at *
  obtain ⟨u, r⟩ := g
  clear hT hC hL hTm hck hg
  simp only at KG HE HF
  generalize hb : s.L.length = b at *
  generalize ha : s.C.length = a at *
  clear hb ha
  cases q with
  | false =>
    go_enter Tryd.func12, Tryd.ntmps12
    go_wp2_with fail
    refine calls_gen fun w1 hw1 => ?_
    have HB1 := Lib.hid (show Below w.heap.size w w1 by rw [hw1]; exact below_one _ _)
    clear hw1
    refine (KL w1).mono ?_
    rintro e w2 ⟨rfl, hB2⟩
    have HB2 := Lib.hid (HB1.out.trans (hB2.mono HB1.out.size))
    clear hB2 HB1
    go_wp2_with fail
    refine (KW.out w2 HB2.out).mono ?_
    rintro e w3 ⟨rfl, hB3⟩
    have HB3 := Lib.hid (HB2.out.trans (hB3.mono HB2.out.size))
    clear hB3
    go_wp2_with fail
    go_ret
    exact ⟨rfl, HB3.out⟩
  | true =>
  by_cases ht : 140 < t.length
  · have htd : decide ((140 : Int) < (t.length : Int)) = true := decide_eq_true (by omega)
    go_enter Tryd.func12, Tryd.ntmps12
    go_wp2_with fail
    refine calls_gen fun w1 hw1 => ?_
    have HB1 := Lib.hid (show Below w.heap.size w w1 by rw [hw1]; exact below_one _ _)
    clear hw1
    refine (KL w1).mono ?_
    rintro e w2 ⟨rfl, hB2⟩
    have HB2 := Lib.hid (HB1.out.trans (hB2.mono HB1.out.size))
    clear hB2 HB1
    go_wp2_with fail
    refine (KW.out w2 HB2.out).mono ?_
    rintro e w3 ⟨rfl, hB3⟩
    have HB3 := Lib.hid (HB2.out.trans (hB3.mono HB2.out.size))
    clear hB3
    go_wp2_with fail
    go_ret
    exact ⟨rfl, HB3.out⟩
  have htd : decide ((140 : Int) < (t.length : Int)) = false := decide_eq_false (by omega)
  have KG2 := Lib.hid (KG.out (by omega))
  clear KG ht
  go_enter Tryd.func12, Tryd.ntmps12
  go_wp2_with fail
  refine calls_gen fun w1 hw1 => ?_
  have HB1 := Lib.hid (show Below w.heap.size w w1 by rw [hw1]; exact below_one _ _)
  have M1 := (show w1.heap[w.heap.size]? = some (.cells #[.slice ca a cc, .slice la b lc, .int .i64 s.m] 24 (0, 0)) by rw [hw1]; exact new_one _ _)
  clear hw1
  refine (KL w1).mono ?_
  rintro e w2 ⟨rfl, hB2⟩
  have HB2 := Lib.hid (HB1.out.trans (hB2.mono HB1.out.size))
  have M2 := Lib.hid ((behind_of_below hB2).keep M1 (by simp))
  clear hB2 HB1 M1 KL
  have c0 := blk_cell M2.out 0 rfl
  have c1 := blk_cell M2.out 1 rfl
  have c2 := blk_cell M2.out 2 rfl
  go_wp2_with fail
  refine (KG2.out w2 HB2.out).mono ?_
  rintro e w3 ⟨vC, vL, rfl, h2, h3⟩
  have HB3 := Lib.hid (HB2.out.trans (h3.mono HB2.out.size))
  have M3 := Lib.hid ((behind_of_below h3).keep M2.out (by simp))
  obtain ⟨aC, dC, hvC, hAC⟩ := own_at h2.o1
  obtain ⟨aL, dL, hvL, hAL⟩ := own_at h2.o2
  subst hvC
  subst hvL
  have hmb := lt_of_heap M3.out
  clear c0 c1 c2 KG2
  by_cases hr : r = 0
  case neg =>
    have hu := HE.out hr
    subst hu
    have hrd : (r != 0) = true := by simp [bne, beq_no hr]
    clear h2 h3 hAC hAL HE HF hr
    simp only [PS.zero, List.length_nil]
    go_wp2_with fail
    refine calls_gen fun w4 hw4 => ?_
    have HB4 := Lib.hid (show Below w.heap.size w w4 by rw [hw4]; exact HB3.out.trans ((below_one w3 _).mono HB3.out.size))
    clear hw4
    refine (KW.out w4 HB4.out).mono ?_
    rintro e w5 ⟨rfl, hB5⟩
    have HB5 := Lib.hid (HB4.out.trans (hB5.mono HB4.out.size))
    clear hB5
    go_wp2_with fail
    go_ret
    exact ⟨rfl, HB5.out⟩
  subst hr
  obtain ⟨hck, hcu, hlen⟩ := HF.out rfl
  subst hck
  have hul : u.L.length ≤ 20000000000000 := by omega
  have hucl : u.C.length ≤ 20000000000000 := by
    have := (check_ok.1 hcu).l64; omega
  have KU := Lib.hid (gCheckFrom _ u n aC aL dC dL (by omega) (by omega) w3 hAC hAL (Nat.le_refl _))
  rw [hcu] at KU
  unfold sumV at KU
  have hld : decide ((u.L.length : Int) ≤ (b : Int)) = true := decide_eq_true (by omega)
  clear h2 h3 hAC hAL HE HF hcu
  have c0 := blk_cell M3.out 0 rfl
  have c1 := blk_cell M3.out 1 rfl
  have c2 := blk_cell M3.out 2 rfl
  go_wp2_with fail
  refine calls_gen fun w4 hw4 => ?_
  have HB34 := (show Below w3.heap.size w3 w4 by rw [hw4]; exact below_one w3 _)
  have N4 := Lib.hid (show w4.heap[w3.heap.size]? = some (.cells #[.slice aC u.C.length dC, .slice aL u.L.length dL, .int .i64 u.m] 24 (0, 0)) by rw [hw4]; exact new_one _ _)
  have M4 := Lib.hid ((behind_of_below HB34).keep M3.out (by simp))
  have HB4 := Lib.hid (HB3.out.trans (HB34.mono HB3.out.size))
  have HB34' := Lib.hid HB34
  clear hw4 HB34 c0 c1 c2
  refine (KC.out w4 HB4.out).mono ?_
  rintro e w5 ⟨rfl, hB5⟩
  have HB5 := Lib.hid (HB4.out.trans (hB5.mono HB4.out.size))
  have HB35 := Lib.hid (HB34'.out.trans (hB5.mono HB34'.out.size))
  have N5 := Lib.hid ((behind_of_below hB5).keep N4.out (by simp))
  have M5 := Lib.hid ((behind_of_below hB5).keep M4.out (by simp))
  clear hB5
  have c0 := blk_cell N5.out 0 rfl
  have c1 := blk_cell N5.out 1 rfl
  have c2 := blk_cell N5.out 2 rfl
  go_wp2_with fail
  refine (KU.out w5 HB35.out).mono ?_
  rintro e w6 ⟨rfl, hB6⟩
  have HB6 := Lib.hid (HB5.out.trans (hB6.mono HB5.out.size))
  have N6 := Lib.hid ((behind_of_below hB6).keep N5.out (by simp))
  have M6 := Lib.hid ((behind_of_below hB6).keep M5.out (by simp))
  clear hB6 c0 c1 c2
  have c1 := blk_cell N6.out 1 rfl
  have d1 := blk_cell M6.out 1 rfl
  go_wp2_with fail
  refine (KW.out w6 HB6.out).mono ?_
  rintro e w7 ⟨rfl, hB7⟩
  have HB7 := Lib.hid (HB6.out.trans (hB7.mono HB6.out.size))
  clear hB7
  go_wp2_with fail
  go_ret
  exact ⟨rfl, HB7.out⟩
end Go.Proofs.YtkhokahilkahfaaDoor
