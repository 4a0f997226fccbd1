/- Literals and sets. -/
import Derived.Test.YtchamkbnapjidaaDoorKB
import Derived.Test.YtchamkbnapjidaaDoorSC
import Derived.Laws.BitsAllLaws
namespace Go.Proofs.YtchamkbnapjidaaDoor
open Go.RowKit

def varI (l : Int) : Int := if 1 ≤ l ∧ l ≤ 128 then l else if l ≤ -1 ∧ -128 ≤ l then -l else 0

set_option maxHeartbeats 1600000 in
set_option maxRecDepth 100000 in
theorem gVar (l : Int) : Gives 53 #[.int .i64 l] (.int .i64 (varI l)) := by
  intro w
  by_cases h1 : 1 ≤ l
  · by_cases h2 : l ≤ 128
    · have HQ := Lib.hid (show varI l = l from if_pos ⟨h1, h2⟩)
      go_enter Tryd.func53, Tryd.ntmps53
      go_wp2_with fail
      go_ret
      exact ⟨by rw [HQ.out]; rfl, Below.refl _ _⟩
    · have HQ := Lib.hid (show varI l = 0 by unfold varI; rw [if_neg (by omega), if_neg (by omega)])
      have h3 : ¬ l ≤ -1 := by omega
      go_enter Tryd.func53, Tryd.ntmps53
      go_wp2_with fail
      go_ret
      exact ⟨by rw [HQ.out]; rfl, Below.refl _ _⟩
  · by_cases h2 : l ≤ -1
    · by_cases h3 : -128 ≤ l
      · have HQ := Lib.hid (show varI l = -l by unfold varI; rw [if_neg (by omega), if_pos ⟨h2, h3⟩])
        go_enter Tryd.func53, Tryd.ntmps53
        go_wp2_with fail
        go_ret
        exact ⟨by rw [HQ.out]; rfl, Below.refl _ _⟩
      · have HQ := Lib.hid (show varI l = 0 by unfold varI; rw [if_neg (by omega), if_neg (by omega)])
        go_enter Tryd.func53, Tryd.ntmps53
        go_wp2_with fail
        go_ret
        exact ⟨by rw [HQ.out]; rfl, Below.refl _ _⟩
    · have HQ := Lib.hid (show varI l = 0 by unfold varI; rw [if_neg (by omega), if_neg (by omega)])
      go_enter Tryd.func53, Tryd.ntmps53
      go_wp2_with fail
      go_ret
      exact ⟨by rw [HQ.out]; rfl, Below.refl _ _⟩

set_option maxHeartbeats 1600000 in
set_option maxRecDepth 100000 in
theorem gValid (l n : Int) (hn : n ≤ 128) : Gives 43 #[.int .i64 l, .int .i64 n] (.bool (litOk l n)) := by
  intro w
  have KV := gVar l
  by_cases h0 : varI l = 0
  · have HQ := Lib.hid (show litOk l n = false by
      rw [Bool.eq_false_iff]; intro h
      rw [litOk_iff] at h
      unfold varI at h0
      split at h0
      · omega
      · split at h0 <;> omega)
    rw [h0] at KV
    clear h0
    go_enter Tryd.func43, Tryd.ntmps43
    go_wp2_with fail
    refine (KV _).mono ?_
    rintro r1 w1 ⟨rfl, hB1⟩
    have HB1 := Lib.hid hB1
    clear hB1
    go_wp2_with fail
    go_ret
    exact ⟨by rw [HQ.out]; rfl, HB1.out⟩
  · have HQ := Lib.hid (show litOk l n = decide (varI l ≤ n) by
      rw [Bool.eq_iff_iff, litOk_iff, decide_eq_true_eq]
      unfold varI at h0 ⊢
      split at h0
      · omega
      · split at h0 <;> omega)
    generalize varI l = v at *
    have hv : (v != 0) = true := by simp [bne, beq_no h0]
    clear h0
    go_enter Tryd.func43, Tryd.ntmps43
    go_wp2_with fail
    refine (KV _).mono ?_
    rintro r1 w1 ⟨rfl, hB1⟩
    have HB1 := Lib.hid hB1
    clear hB1
    go_wp2_with fail
    refine (KV _).mono ?_
    rintro r2 w2 ⟨rfl, hB2⟩
    have HB2 := Lib.hid (HB1.out.trans (hB2.mono HB1.out.size))
    clear hB2
    go_wp2_with fail
    go_ret
    exact ⟨by rw [HQ.out]; rfl, HB2.out⟩

set_option maxHeartbeats 1600000 in
set_option maxRecDepth 100000 in
theorem xValid (l n : Int) (h0 : 0 ≤ n) (hn : n ≤ 128) : Gives 44 #[.int .i64 l, .int .i64 n] (.bool (litOk l n)) := by
  intro w
  by_cases h1 : l = 0
  · subst h1
    have HQ := Lib.hid (show litOk 0 n = false by simp [litOk])
    go_enter Tryd.func44, Tryd.ntmps44
    go_wp2_with fail
    go_ret
    exact ⟨by rw [HQ.out]; rfl, Below.refl _ _⟩
  · have hl : (l != 0) = true := by simp [bne, beq_no h1]
    by_cases h2 : -n ≤ l
    · have HQ := Lib.hid (show litOk l n = decide (l ≤ n) by
        rw [Bool.eq_iff_iff, litOk_iff, decide_eq_true_eq]; omega)
      clear h1
      go_enter Tryd.func44, Tryd.ntmps44
      go_wp2_with fail
      go_ret
      exact ⟨by rw [HQ.out]; rfl, Below.refl _ _⟩
    · have HQ := Lib.hid (show litOk l n = false by
        rw [Bool.eq_false_iff]; intro h
        rw [litOk_iff] at h; omega)
      clear h1
      go_enter Tryd.func44, Tryd.ntmps44
      go_wp2_with fail
      go_ret
      exact ⟨by rw [HQ.out]; rfl, Below.refl _ _⟩

theorem wrap_pow {u : Nat} (hu : u < 64) : IntKind.u64.wrap (2 ^ u) = ((2 ^ u : Nat) : Int) := by
  have hp : (2 : Nat) ^ u < 2 ^ 64 := Nat.pow_lt_pow_right (by omega) hu
  unfold IntKind.wrap
  simp only [IntKind.signed, IntKind.bits, Bool.false_and]
  rw [if_neg (by simp)]
  rw [Int.natCast_pow]
  refine Int.emod_eq_of_lt (Int.pow_nonneg (by omega)) ?_
  have := Int.ofNat_lt.2 hp
  rw [Int.natCast_pow, Int.natCast_pow] at this
  exact this
theorem and_bit {m u : Nat} (hm : m < 18446744073709551616) (hu : u < 64) : (bits BinOp.and IntKind.u64 (m : Int) (IntKind.u64.wrap (2 ^ u)) != 0) = m.testBit u := by
  have hp : (2 : Nat) ^ u < 2 ^ 64 := Nat.pow_lt_pow_right (by omega) hu
  rw [wrap_pow hu, u64_and_nat _ _ hm (by omega)]
  cases hb : m.testBit u
  · have e : m &&& 2 ^ u = 0 := by
      apply Nat.eq_of_testBit_eq
      intro i
      rw [Nat.testBit_and, Nat.testBit_two_pow, Nat.zero_testBit]
      by_cases hi : u = i
      · subst hi; rw [hb]; rfl
      · simp [hi]
    rw [e]; rfl
  · have e : m &&& 2 ^ u ≠ 0 := by
      intro h
      have h2 := congrArg (fun x => Nat.testBit x u) h
      simp only [Nat.testBit_and, Nat.testBit_two_pow, Nat.zero_testBit, hb] at h2
      simp at h2
    simp only [bne, Bool.not_eq_true', beq_eq_false_iff_ne]
    omega

set_option maxHeartbeats 1600000 in
set_option maxRecDepth 100000 in
theorem gPlace (v : Int) (h1 : 1 ≤ v) (h2 : v ≤ 128) : Gives 67 #[.int .i64 v] (.tuple #[.int .i64 (if v ≤ 64 then 0 else 1), .int .u64 (IntKind.u64.wrap (2 ^ (if v ≤ 64 then v - 1 else v - 65).toNat)), .bool true]) := by
  intro w
  by_cases h : v ≤ 64
  · obtain ⟨u, hu1⟩ : ∃ u : Nat, v = (u : Int) + 1 := ⟨(v - 1).toNat, by omega⟩
    have hu : u < 64 := by omega
    have hum : u % 64 = u := Nat.mod_eq_of_lt hu
    have HQ := Lib.hid (show (v - 1) / 64 = 0 by omega)
    have HR : (v - 1) % 64 = (u : Int) := by omega
    rw [if_pos h, if_pos h, show v - 1 = (u : Int) by omega, Int.toNat_natCast]
    clear hu1
    go_enter Tryd.func67, Tryd.ntmps67
    go_wp2_with fail
    go_ret3
    rw [HQ.out]
    exact ⟨rfl, Below.refl _ _⟩
  · obtain ⟨u, hu1⟩ : ∃ u : Nat, v = (u : Int) + 65 := ⟨(v - 65).toNat, by omega⟩
    have hu : u < 64 := by omega
    have hum : u % 64 = u := Nat.mod_eq_of_lt hu
    rw [if_neg h, if_neg h, show v - 65 = (u : Int) by omega, Int.toNat_natCast]
    have HQ := Lib.hid (show (v - 1) / 64 = 1 by omega)
    have e3 : (v - 1) % 64 = (u : Int) := by omega
    clear h hu1
    go_enter Tryd.func67, Tryd.ntmps67
    go_wp2_with fail
    go_ret3
    rw [HQ.out]
    exact ⟨rfl, Below.refl _ _⟩

section
variable (a0 a1 : Nat) (ha0 : a0 < 18446744073709551616) (ha1 : a1 < 18446744073709551616)
include ha0 ha1
set_option maxHeartbeats 1600000 in
set_option maxRecDepth 100000 in
theorem gHas (v : Int) (h1 : 1 ≤ v) (h2 : v ≤ 128) : Gives 54 #[setV a0 a1, .int .i64 v] (.bool (bitS a0 a1 v)) := by
  intro w
  have KP := gPlace v h1 h2
  unfold setV
  by_cases h : v ≤ 64
  · have HQ := Lib.hid (show bitS a0 a1 v = (bits BinOp.and IntKind.u64 (a0 : Int) (IntKind.u64.wrap (2 ^ (v - 1).toNat)) != 0) by
      unfold bitS; rw [if_pos h, and_bit ha0 (by omega)])
    rw [if_pos h, if_pos h] at KP
    generalize IntKind.u64.wrap (2 ^ (v - 1).toNat) = m at *
    clear h
    go_enter Tryd.func54, Tryd.ntmps54
    go_wp2_with fail
    refine calls_gen fun w1 hw1 => ?_
    have hB1 : Below w.heap.size w w1 := by rw [hw1]; exact below_one _ _
    have m2 : w1.heap[w.heap.size]? = some (.cells #[.int .u64 (a0 : Nat), .int .u64 (a1 : Nat)] 44 (0, 0)) := by rw [hw1]; exact new_one _ _
    clear hw1
    refine (KP _).mono ?_
    rintro r2 w2 ⟨rfl, hB2⟩
    have m22 := (behind_of_below hB2).keep m2 (by simp)
    have c0 := blk_cell m22 0 rfl
    have HB2 := Lib.hid (hB1.trans (hB2.mono hB1.size))
    clear hB1 m2 hB2 m22
    go_wp2_with fail
    go_ret
    exact ⟨by rw [HQ.out]; rfl, HB2.out⟩
  · have HQ := Lib.hid (show bitS a0 a1 v = (bits BinOp.and IntKind.u64 (a1 : Int) (IntKind.u64.wrap (2 ^ (v - 65).toNat)) != 0) by
      unfold bitS; rw [if_neg h, and_bit ha1 (by omega)])
    rw [if_neg h, if_neg h] at KP
    generalize IntKind.u64.wrap (2 ^ (v - 65).toNat) = m at *
    clear h
    go_enter Tryd.func54, Tryd.ntmps54
    go_wp2_with fail
    refine calls_gen fun w1 hw1 => ?_
    have hB1 : Below w.heap.size w w1 := by rw [hw1]; exact below_one _ _
    have m2 : w1.heap[w.heap.size]? = some (.cells #[.int .u64 (a0 : Nat), .int .u64 (a1 : Nat)] 44 (0, 0)) := by rw [hw1]; exact new_one _ _
    clear hw1
    refine (KP _).mono ?_
    rintro r2 w2 ⟨rfl, hB2⟩
    have m22 := (behind_of_below hB2).keep m2 (by simp)
    have c0 := blk_cell m22 1 rfl
    have HB2 := Lib.hid (hB1.trans (hB2.mono hB1.size))
    clear hB1 m2 hB2 m22
    go_wp2_with fail
    go_ret
    exact ⟨by rw [HQ.out]; rfl, HB2.out⟩

set_option maxHeartbeats 1600000 in
set_option maxRecDepth 100000 in
theorem gHolds (y : Int) (h0 : y ≠ 0) (h1 : -128 ≤ y) (h2 : y ≤ 128) : Gives 42 #[setV a0 a1, .int .i64 y] (.bool (litB (bitS a0 a1) y)) := by
  intro w
  have KV := gVar y
  have KH := gHas a0 a1 ha0 ha1 (varI y) (by unfold varI; split; omega; split <;> omega) (by unfold varI; split; omega; split <;> omega)
  have HQ := Lib.hid (show litB (bitS a0 a1) y = (bitS a0 a1 (varI y) == decide (0 < y)) by
    unfold litB varI
    by_cases hp : 0 < y
    · rw [if_pos hp, if_pos (by omega), decide_eq_true hp]; simp
    · rw [if_neg hp, if_neg (by omega), if_pos (by omega), decide_eq_false hp]; simp)
  have hv : (varI y != 0) = true := by
    unfold varI; split
    · simp [bne]; omega
    · split
      · simp [bne]; omega
      · omega
  generalize varI y = v at *
  generalize bitS a0 a1 v = q at *
  unfold setV at *
  clear h0 h1 h2
  go_enter Tryd.func42, Tryd.ntmps42
  go_wp2_with fail
  refine wp_gen ?_
  intro w1 hw1
  have hB1 : Below w.heap.size w w1 := by rw [hw1]; exact below_one _ _
  have m2 : w1.heap[w.heap.size]? = some (.cells #[.int .u64 (a0 : Nat), .int .u64 (a1 : Nat)] 44 (0, 0)) := by rw [hw1]; exact new_one _ _
  clear hw1
  have hbl := lt_of_heap m2
  have c0 := blk_cell m2 0 rfl
  have c1 := blk_cell m2 1 rfl
  refine wp_game [0, 0, 0, 0, 0, 0, 0, 0, 0, 0, 0, 0, 0] [] B0 fin_B0 (has_B0 _) (by kernel_rfl) (by kernel_rfl) ?_
  refine lex_quietE 13 (by kernel_rfl) (by rfl) ?_
  apply Exists.intro
  refine ⟨fun z hz => ?_, ?_⟩
  · have hwz := hz.below_of (b := w1.heap.size) (by simp) (Nat.le_refl _)
    have g0 := below_cellp hwz c0 hbl
    have g1 := below_cellp hwz c1 hbl
    clear hz hwz
    simp only [List.take_succ_cons, List.take_zero]
    unfold Cx
    repeat (go_big_quiet_step (first | with_reducible exact KV.at _ _ | with_reducible exact KH.at _ _))
    exact wpQuiet_nil rfl
  simp only [List.drop_succ_cons, List.drop_zero]
  refine lex_nil ?_
  intro x2 hx2 _
  have HB2 := Lib.hid (hB1.trans ((hx2.below_of (b := w1.heap.size) (by simp) (Nat.le_refl _)).mono hB1.size))
  clear hx2 hB1 m2 c0 c1 hbl
  go_wp2_with fail
  go_ret
  exact ⟨by rw [HQ.out]; rfl, HB2.out⟩

end
end Go.Proofs.YtchamkbnapjidaaDoor
