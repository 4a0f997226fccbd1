/- The reference's Contains and Term. -/
import Derived.Test.YtchamkbnapjidaaDoorKZa
import Derived.Test.YtchamkbnapjidaaDoorSG
import Derived.Deep.DeepCutAuto
namespace Go.Proofs.YtchamkbnapjidaaDoor
open Go.RowKit

set_option maxHeartbeats 1600000 in
set_option maxRecDepth 100000 in
theorem xContains (xs : List Int) (z : Int) (N : Nat) (a : Option Addr) (c : Nat) (hl : xs.length ≤ 100000000000000) (w : World) (hA : AtN N w a (ints xs)) (hw : N ≤ w.heap.size) :
    Calls Tryd.prog 29 #[.slice a xs.length c, .int .i64 z] w fun e w' => e = .returned (.bool (xs.contains z)) ∧ Below w.heap.size w w' := by
  have HA := Lib.hid hA
  clear hA
  go_enter Tryd.func29, Tryd.ntmps29
  go_wp2_with fail
  go_loopw [5] (fun t5 wr => ∃ j : Nat, j ≤ xs.length ∧ t5 = .int .i64 j ∧ Hid (∀ l ∈ xs.take j, l ≠ z) ∧ Hid (Below w.heap.size w wr)) (fun t5 _ => xs.length - (intOf t5).toNat)
  case atStart => exact ⟨0, Nat.zero_le _, rfl, by simp [Hid], Below.refl _ _⟩
  case round =>
    obtain ⟨j, hj, rfl, HN, HB⟩ := hrel
    have hsr := HB.out.size
    by_cases hlt : j < xs.length
    · have hdd : decide (j < xs.length) = true := by simpa using hlt
      have hyy : xs[j]? = some (xs.getD j 0) := by simp [List.getD, hlt]
      obtain ⟨b1, o1, hb1, e1, k1⟩ := HA.out _ _ (ints_get _ _ _ hyy)
      subst e1
      have d1 := below_cell HB.out (show b1 < w.heap.size by omega) k1
      have HTK := Lib.hid (take_snoc hlt)
      have HM := Lib.hid (show xs.getD j 0 ∈ xs by simp [List.getD, hlt])
      generalize xs.getD j 0 = y at *
      clear k1 hyy
      by_cases hyz : y = z
      · subst hyz
        have HQ := Lib.hid (show xs.contains y = true by simpa using HM.out)
        have hbe : (y == y) = true := by simp
        go_wp2_with fail
        go_ret
        exact ⟨by rw [HQ.out]; rfl, HB.out⟩
      · have hbe : (y == z) = false := beq_no hyz
        go_wp2_with fail
        go_roundw
        case rel => exact ⟨j + 1, by omega, by go_num, fun l hl => by
          rw [HTK.out, List.mem_append] at hl
          rcases hl with h | h
          · exact HN.out l h
          · rw [List.mem_singleton.1 h]; exact hyz, HB.out⟩
        case measure => simp [intOf]; omega
    · obtain rfl : j = xs.length := by omega
      have hdd : decide (xs.length < xs.length) = false := by simp
      have HQ := Lib.hid (show xs.contains z = false by
        rw [Bool.eq_false_iff]
        intro h
        have := HN.out
        rw [List.take_length] at this
        exact this z (by simpa using h) rfl)
      go_wp2_with fail
      go_ret
      exact ⟨by rw [HQ.out]; rfl, HB.out⟩

set_option maxHeartbeats 1600000 in
set_option maxRecDepth 100000 in
theorem xTerm (t : List Int) (n : Int) (h0 : 0 ≤ n) (hn : n ≤ 128) (N : Nat) (a : Option Addr) (c : Nat) (hl : t.length ≤ 100000000000000) (hI : ∀ l ∈ t, -9223372036854775808 ≤ l ∧ l ≤ 9223372036854775807) (w : World) (hA : AtN N w a (ints t)) (hw : N ≤ w.heap.size) :
    Calls Tryd.prog 28 #[.slice a t.length c, .int .i64 n] w fun e w' => e = .returned (.bool (termOk t n)) ∧ Below w.heap.size w w' := by
  have HA := Lib.hid hA
  have KC := Lib.hid (fun (z : Int) (w1 : World) (hb : Below w.heap.size w w1) => xContains t z N a c hl w1 (hA.below hb hw) (Nat.le_trans hw hb.size))
  have KV := Lib.hid (fun l => xValid l n h0 hn)
  have HI := Lib.hid hI
  clear hA hI
  go_enter Tryd.func28, Tryd.ntmps28
  go_wp2_with fail
  go_loopw [5] (fun t5 wr => ∃ j : Nat, j ≤ t.length ∧ t5 = .int .i64 j ∧ Hid (∀ l ∈ t.take j, litOk l n = true ∧ t.contains (-l) = false) ∧ Hid (Below w.heap.size w wr)) (fun t5 _ => t.length - (intOf t5).toNat)
  case atStart => exact ⟨0, Nat.zero_le _, rfl, by simp [Hid], Below.refl _ _⟩
  case round =>
    obtain ⟨j, hj, rfl, HN, HB⟩ := hrel
    have hsr := HB.out.size
    by_cases hlt : j < t.length
    · have hdd : decide (j < t.length) = true := by simpa using hlt
      have hyy : t[j]? = some (t.getD j 0) := by simp [List.getD, hlt]
      obtain ⟨b1, o1, hb1, e1, k1⟩ := HA.out _ _ (ints_get _ _ _ hyy)
      subst e1
      have d1 := Lib.hid (below_cell HB.out (show b1 < w.heap.size by omega) k1)
      have HTK := Lib.hid (take_snoc hlt)
      have hm : t.getD j 0 ∈ t := by simp [List.getD, hlt]
      have hyi := HI.out _ hm
      have HM := Lib.hid hm
      generalize t.getD j 0 = y at *
      clear k1 hyy hm
      have d1' := d1.out
      have HV := KV.out y
      cases hv : litOk y n with
      | false =>
        rw [hv] at HV
        have HQ := Lib.hid (show termOk t n = false by
          rw [Bool.eq_false_iff]
          intro h
          unfold termOk at h
          rw [Bool.and_eq_true, List.all_eq_true] at h
          rw [h.1 y HM.out] at hv
          cases hv)
        clear hv
        go_wp2_with fail
        refine (HV _).mono ?_
        rintro e w2 ⟨rfl, hb⟩
        have HB2 := Lib.hid (HB.out.trans (hb.mono HB.out.size))
        clear hb HV d1'
        go_wp2_with fail
        go_ret
        exact ⟨by rw [HQ.out]; rfl, HB2.out⟩
      | true =>
        rw [hv] at HV
        have hyr : -128 ≤ y ∧ y ≤ 128 := by have := litOk_iff.1 hv; omega
        have HVV := Lib.hid hv
        clear hv
        go_wp2_with fail
        refine (HV _).mono ?_
        rintro e w2 ⟨rfl, hb⟩
        have HB2 := Lib.hid (HB.out.trans (hb.mono HB.out.size))
        have d2 := below_cell hb (show b1 < wr.heap.size by omega) d1.out
        have KC2 := KC.out (-y) w2 HB2.out
        clear hb HV d1'
        cases hc : t.contains (-y) with
        | true =>
          rw [hc] at KC2
          have HQ := Lib.hid (show termOk t n = false by
            rw [Bool.eq_false_iff]
            intro h
            unfold termOk at h
            rw [Bool.and_eq_true, List.all_eq_true, List.all_eq_true] at h
            have := h.2 y HM.out
            rw [hc] at this
            cases this)
          clear hc
          go_wp2_with fail
          refine KC2.mono ?_
          rintro e w3 ⟨rfl, hb⟩
          have HB3 := Lib.hid (HB2.out.trans (hb.mono HB2.out.size))
          clear hb
          go_wp2_with fail
          go_ret
          exact ⟨by rw [HQ.out]; rfl, HB3.out⟩
        | false =>
          rw [hc] at KC2
          have HCC := Lib.hid hc
          clear hc
          go_wp2_with fail
          refine KC2.mono ?_
          rintro e w3 ⟨rfl, hb⟩
          have HB3 := Lib.hid (HB2.out.trans (hb.mono HB2.out.size))
          clear hb
          go_wp2_with fail
          go_roundw
          case rel => exact ⟨j + 1, by omega, by go_num, fun l hl => by
            rw [HTK.out, List.mem_append] at hl
            rcases hl with h | h
            · exact HN.out l h
            · rw [List.mem_singleton.1 h]; exact ⟨HVV.out, HCC.out⟩, HB3.out⟩
          case measure => simp [intOf]; omega
    · obtain rfl : j = t.length := by omega
      have hdd : decide (t.length < t.length) = false := by simp
      have HQ := Lib.hid (show termOk t n = true by
        have := HN.out
        rw [List.take_length] at this
        unfold termOk
        rw [Bool.and_eq_true, List.all_eq_true, List.all_eq_true]
        exact ⟨fun l hl => (this l hl).1, fun l hl => by rw [(this l hl).2]; rfl⟩)
      go_wp2_with fail
      go_ret
      exact ⟨by rw [HQ.out]; rfl, HB.out⟩
end Go.Proofs.YtchamkbnapjidaaDoor
