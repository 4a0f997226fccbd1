/- Texts of this claim, joined: JV. -/
import Derived.Test.YtmaiofimmjedjaaDoorMW04
import Derived.Test.YtmaiofimmjedjaaDoorMW06
import Derived.Laws.BitsAllLaws

/- Literals: the program's. -/
namespace Go.Proofs.YtmaiofimmjedjaaDoor
open Go.RowKit

theorem litI_iff {l n : Int} : litI l n = true ↔ l ≠ 0 ∧ -n ≤ l ∧ l ≤ n := by
  unfold litI
  rw [Bool.or_eq_true, decide_eq_true_eq, decide_eq_true_eq]
  omega
def lvJ (l : Int) : Int := if 1 ≤ l ∧ l ≤ 128 then l else if l ≤ -1 ∧ -128 ≤ l then -l else 0

set_option maxHeartbeats 1600000 in
set_option maxRecDepth 100000 in
theorem gVar (l : Int) : Gives 65 #[.int .i64 l] (.int .i64 (lvJ l)) := by
  intro w
  by_cases h1 : 1 ≤ l
  · by_cases h2 : l ≤ 128
    · have HQ := Lib.hid (show lvJ l = l from if_pos ⟨h1, h2⟩)
      go_enter Tryd.func65, Tryd.ntmps65
      go_wp2_with fail
      go_ret
      exact ⟨by rw [HQ.out]; rfl, Below.refl _ _⟩
    · have HQ := Lib.hid (show lvJ l = 0 by unfold lvJ; rw [if_neg (by omega), if_neg (by omega)])
      have h3 : ¬ l ≤ -1 := by omega
      go_enter Tryd.func65, Tryd.ntmps65
      go_wp2_with fail
      go_ret
      exact ⟨by rw [HQ.out]; rfl, Below.refl _ _⟩
  · by_cases h2 : l ≤ -1
    · by_cases h3 : -128 ≤ l
      · have HQ := Lib.hid (show lvJ l = -l by unfold lvJ; rw [if_neg (by omega), if_pos ⟨h2, h3⟩])
        go_enter Tryd.func65, Tryd.ntmps65
        go_wp2_with fail
        go_ret
        exact ⟨by rw [HQ.out]; rfl, Below.refl _ _⟩
      · have HQ := Lib.hid (show lvJ l = 0 by unfold lvJ; rw [if_neg (by omega), if_neg (by omega)])
        go_enter Tryd.func65, Tryd.ntmps65
        go_wp2_with fail
        go_ret
        exact ⟨by rw [HQ.out]; rfl, Below.refl _ _⟩
    · have HQ := Lib.hid (show lvJ l = 0 by unfold lvJ; rw [if_neg (by omega), if_neg (by omega)])
      go_enter Tryd.func65, Tryd.ntmps65
      go_wp2_with fail
      go_ret
      exact ⟨by rw [HQ.out]; rfl, Below.refl _ _⟩

set_option maxHeartbeats 1600000 in
set_option maxRecDepth 100000 in
theorem gValid (l n : Int) (hn : n ≤ 128) : Gives 57 #[.int .i64 l, .int .i64 n] (.bool (litI l n)) := by
  intro w
  have KV := gVar l
  by_cases h0 : lvJ l = 0
  · have HQ := Lib.hid (show litI l n = false by
      rw [Bool.eq_false_iff]; intro h
      rw [litI_iff] at h
      unfold lvJ at h0
      split at h0
      · omega
      · split at h0 <;> omega)
    rw [h0] at KV
    clear h0
    go_enter Tryd.func57, Tryd.ntmps57
    go_wp2_with fail
    refine (KV _).mono ?_
    rintro r1 w1 ⟨rfl, hB1⟩
    have HB1 := Lib.hid hB1
    clear hB1
    go_wp2_with fail
    go_ret
    exact ⟨by rw [HQ.out]; rfl, HB1.out⟩
  · have HQ := Lib.hid (show litI l n = decide (lvJ l ≤ n) by
      rw [Bool.eq_iff_iff, litI_iff, decide_eq_true_eq]
      unfold lvJ at h0 ⊢
      split at h0
      · omega
      · split at h0 <;> omega)
    generalize lvJ l = v at *
    have hv : (v != 0) = true := by simp [bne, beq_no h0]
    clear h0
    go_enter Tryd.func57, Tryd.ntmps57
    go_wp2_with fail
    refine (KV _).mono ?_
    rintro r1 w1 ⟨rfl, hB1⟩
    have HB1 := Lib.hid hB1
    clear hB1
    go_wp2_with fail
    refine (KV _).mono ?_
    rintro r2 w2 ⟨rfl, hB2⟩
    have HB2 := Lib.hid (HB1.out.trans (hB2.mono HB1.out.size))
    clear hB2
    go_wp2_with fail
    go_ret
    exact ⟨by rw [HQ.out]; rfl, HB2.out⟩

end Go.Proofs.YtmaiofimmjedjaaDoor
