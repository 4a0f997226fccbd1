/- NatKnown. -/
import Derived.Test.YtdkfeaodgfnhgaaLRaw
import Derived.Test.YtdkfeaodgfnhgaaGame2
namespace Go.Proofs.Ytdkfeaodgfnhgaa
open Go.RowKit Num

def knownStrs : List Value := [.string { data := #[] }, .string { data := #[48, 48] }, .string { data := #[48, 49] }, .string { data := #[45, 49] }, .string { data := #[43, 49] }, .string { data := #[32, 49] }, .string { data := #[49, 32] }, .string { data := #[49, 97] }, .string { data := #[48, 120, 49] }, .string { data := #[47] }, .string { data := #[58] }]

theorem known_get (k : Nat) (h : k < 11) : ∃ s : ByteArray, knownStrs.toArray[k]? = some (.string s) ∧ readN (bts s) = none ∧ s.size ≤ 3 := by
  match k, h with
  | 0, _ => exact ⟨_, rfl, by kernel_rfl, by decide⟩
  | 1, _ => exact ⟨_, rfl, by kernel_rfl, by decide⟩
  | 2, _ => exact ⟨_, rfl, by kernel_rfl, by decide⟩
  | 3, _ => exact ⟨_, rfl, by kernel_rfl, by decide⟩
  | 4, _ => exact ⟨_, rfl, by kernel_rfl, by decide⟩
  | 5, _ => exact ⟨_, rfl, by kernel_rfl, by decide⟩
  | 6, _ => exact ⟨_, rfl, by kernel_rfl, by decide⟩
  | 7, _ => exact ⟨_, rfl, by kernel_rfl, by decide⟩
  | 8, _ => exact ⟨_, rfl, by kernel_rfl, by decide⟩
  | 9, _ => exact ⟨_, rfl, by kernel_rfl, by decide⟩
  | 10, _ => exact ⟨_, rfl, by kernel_rfl, by decide⟩

theorem known_add (i k : Nat) (hi : i < 40) (hk : k < 40) : IntKind.u64.wrap ((i : Int) + (k : Int)) = ((i + k : Nat) : Int) := by
  simp only [IntKind.wrap_u64]; omega
theorem known_mul (i k : Nat) (hi : i < 40) (hk : k < 40) : IntKind.u64.wrap ((i : Int) * (k : Int)) = ((i * k : Nat) : Int) := by
  have hm : i * k ≤ 40 * 40 := Nat.mul_le_mul (by omega) (by omega)
  have e : (i : Int) * (k : Int) = ((i * k : Nat) : Int) := by simp
  rw [e]
  generalize i * k = p at *
  simp only [IntKind.wrap_u64]; omega
theorem known_quo (i k : Nat) (hi : i < 40) : IntKind.u64.wrap ((i : Int) / (k : Int)) = ((i / k : Nat) : Int) := by
  have h := Nat.div_le_self i k
  rw [← Int.natCast_ediv]
  generalize i / k = p at *
  simp only [IntKind.wrap_u64]; omega
theorem known_rem (i k : Nat) (hi : i < 40) (hk : 0 < k) : IntKind.u64.wrap ((i : Int) % (k : Int)) = ((i % k : Nat) : Int) := by
  have h := Nat.mod_le i k
  rw [← Int.natCast_emod]
  generalize i % k = p at *
  simp only [IntKind.wrap_u64]; omega

set_option maxHeartbeats 1600000 in
set_option maxRecDepth 100000 in
theorem natKnown_law (w : World) :
    Calls Try.prog 11 #[] w fun e w' => e = .returned (.bool true) ∧ Below w.heap.size w w' := by
  have KRD : ∀ s : ByteArray, (readN (bts s) = none ∧ s.size ≤ 3) → Gives 21 #[.string s] (.tuple #[natV 0, .bool false]) := fun s h => by
    have := gRead s (by omega)
    rw [h.1] at this; exact this
  have KO : ∀ n : Nat, n < 18446744073709551616 → Gives 23 #[.int .u64 (n : Nat)] (natV n) := fun n h => gOf n h
  have KO5 : Gives 23 #[.int .u64 5] (natV 5) := KO 5 (by decide)
  have KO0 : Gives 23 #[.int .u64 0] (natV 0) := KO 0 (by decide)
  have KO3 : Gives 23 #[.int .u64 3] (natV 3) := KO 3 (by decide)
  have KO1 : Gives 23 #[.int .u64 1] (natV 1) := KO 1 (by decide)
  have KD50 := gDivZ 5 (by decide)
  have KS35 := gSubL 3 5 (by decide) (by decide) (by decide)
  have KS55 := gSub 5 5 (by decide) (by decide) (by decide)
  have KG := gGcd 0 0 (by decide) (by decide)
  have KPO1 : Gives 29 #[.int .i64 4097] (natV 0) := gPowO 4097 (by omega)
  have KPO2 : Gives 29 #[.int .i64 (-1)] (natV 0) := gPowO (-1) (by omega)
  have KL0 : Gives 26 #[natV 0] (.int .i64 0) := gLen 0 (by decide)
  have KL1 : Gives 26 #[natV 1] (.int .i64 1) := gLen 1 (by decide)
  have KW := gWorks
  rw [Nat.sub_self] at KS55
  rw [Nat.gcd_zero_left] at KG
  unfold natV at *
  generalize nb 5 = s5 at *
  generalize nb 3 = s3 at *
  generalize nb 1 = s1 at *
  generalize nb 0 = s0 at *
  have HB0 := Lib.hid (Below.refl w.heap.size w)
  go_enter Try.func11, Try.ntmps11
  go_wp2_with (with_reducible refine wpList_from 20 [0, 0, 0, 0, 0, 0, 0, 3, 3, 2, 2, 0] [] B0 (has_B0 _) ?_)
  refine lex_quietE 7 (by kernel_rfl) (by rfl) ?_
  apply Exists.intro
  refine ⟨fun x hx => ?_, ?_⟩
  · have hwx := HB0.out.trans (hx.below_of (b := w.heap.size) (by simp) HB0.out.size)
    clear hx
    simp only [List.take_succ_cons, List.take_zero]
    unfold Cx
    repeat (go_big_quiet_step (first | with_reducible exact KO5.at _ _ | with_reducible exact KO0.at _ _ | with_reducible exact KD50.at _ _))
    exact wpQuiet_nil rfl
  simp only [List.drop_succ_cons, List.drop_zero]
  refine lex_alloc (.agg #[.string ByteArray.empty]) (by rfl) (fun x => by kernel_rfl) (fun g1 q1 hn1 => ?_)
  unfold setSlot
  go_big_quiet_step (fail)
  refine wpQuiet_nil ?_
  clear hn1
  refine lex_alloc (.agg #[.string ByteArray.empty]) (by rfl) (fun x => by kernel_rfl) (fun g2 q2 hn2 => ?_)
  unfold setSlot
  go_big_quiet_step (fail)
  refine wpQuiet_nil ?_
  have n2_1 := ne_of_put hn2
  replace hn2 := none_of_put hn2
  clear hn2
  refine lex_store_all g1 _ _ _ (by rfl) (by rfl) (by rfl) ((Blocks.put_other _ _ (Ne.symm n2_1)).trans (Blocks.put_same _ _ _)) (by rfl) (Or.inr q1) (by kernel_rfl) (by simp [Value.oneCell']) ?_
  refine lex_store_all g2 _ _ _ (by rfl) (by rfl) (by rfl) ((Blocks.put_other _ _ n2_1).trans (Blocks.put_same _ _ _)) (by rfl) (Or.inr q2) (by kernel_rfl) (by simp [Value.oneCell']) ?_
  refine lex_quietE 1 (by kernel_rfl) (by rfl) ?_
  apply Exists.intro
  refine ⟨fun x hx => ?_, ?_⟩
  · have hwx := HB0.out.trans (hx.below_of (b := w.heap.size) (by simp) HB0.out.size)
    clear hx
    simp only [List.take_succ_cons, List.take_zero]
    unfold Cx
    repeat (go_big_quiet_step (first | with_reducible exact KO5.at _ _ | with_reducible exact KO0.at _ _ | with_reducible exact KD50.at _ _))
    exact wpQuiet_nil rfl
  simp only [List.drop_succ_cons, List.drop_zero]
  refine lex_nil ?_
  intro w1 hx hH
  have m1 := hH g1 _ ((Blocks.put_other _ _ (Ne.symm n2_1)).trans (Blocks.put_same _ _ _))
  have m2 := hH g2 _ (Blocks.put_same _ _ _)
  have HB1 := Lib.hid (HB0.out.trans (hx.below_of (b := w.heap.size) (by simp) HB0.out.size))
  replace q1 := Nat.le_trans HB0.out.size q1
  replace q2 := Nat.le_trans HB0.out.size q2
  clear hx hH HB0 KD50
  go_wp2_with (with_reducible refine wpList_from 27 [0, 0, 0, 0, 0, 0, 3, 2, 0] [] B0 (has_B0 _) ?_)
  refine lex_quietE 6 (by kernel_rfl) (by rfl) ?_
  apply Exists.intro
  refine ⟨fun x hx => ?_, ?_⟩
  · have hwx := HB1.out.trans (hx.below_of (b := w.heap.size) (by simp) HB1.out.size)
    clear hx
    simp only [List.take_succ_cons, List.take_zero]
    unfold Cx
    repeat (go_big_quiet_step (first | with_reducible exact KO3.at _ _ | with_reducible exact KO5.at _ _ | with_reducible exact KS35.at _ _))
    exact wpQuiet_nil rfl
  simp only [List.drop_succ_cons, List.drop_zero]
  refine lex_alloc (.agg #[.string ByteArray.empty]) (by rfl) (fun x => by kernel_rfl) (fun g4 q4 hn4 => ?_)
  unfold setSlot
  go_big_quiet_step (fail)
  refine wpQuiet_nil ?_
  clear hn4
  refine lex_store_all g4 _ _ _ (by rfl) (by rfl) (by rfl) (Blocks.put_same _ _ _) (by rfl) (Or.inr q4) (by kernel_rfl) (by simp [Value.oneCell']) ?_
  refine lex_quietE 1 (by kernel_rfl) (by rfl) ?_
  apply Exists.intro
  refine ⟨fun x hx => ?_, ?_⟩
  · have hwx := HB1.out.trans (hx.below_of (b := w.heap.size) (by simp) HB1.out.size)
    clear hx
    simp only [List.take_succ_cons, List.take_zero]
    unfold Cx
    repeat (go_big_quiet_step (first | with_reducible exact KO3.at _ _ | with_reducible exact KO5.at _ _ | with_reducible exact KS35.at _ _))
    exact wpQuiet_nil rfl
  simp only [List.drop_succ_cons, List.drop_zero]
  refine lex_nil ?_
  intro w2 hx hH
  have m4 := hH g4 _ (Blocks.put_same _ _ _)
  replace m1 := hx.keep m1 (by simp)
  replace m2 := hx.keep m2 (by simp)
  have HB2 := Lib.hid (HB1.out.trans (hx.below_of (b := w.heap.size) (by simp) HB1.out.size))
  replace q4 := Nat.le_trans HB1.out.size q4
  clear hx hH HB1 KO3 KS35
  go_wp2_with (with_reducible refine wpList_from 33 [0, 0, 0, 0, 0, 0, 3, 2, 0] [] B0 (has_B0 _) ?_)
  refine lex_quietE 6 (by kernel_rfl) (by rfl) ?_
  apply Exists.intro
  refine ⟨fun x hx => ?_, ?_⟩
  · have hwx := HB2.out.trans (hx.below_of (b := w.heap.size) (by simp) HB2.out.size)
    clear hx
    simp only [List.take_succ_cons, List.take_zero]
    unfold Cx
    repeat (go_big_quiet_step (first | with_reducible exact KO5.at _ _ | with_reducible exact KS55.at _ _))
    exact wpQuiet_nil rfl
  simp only [List.drop_succ_cons, List.drop_zero]
  refine lex_alloc (.agg #[.string ByteArray.empty]) (by rfl) (fun x => by kernel_rfl) (fun g6 q6 hn6 => ?_)
  unfold setSlot
  go_big_quiet_step (fail)
  refine wpQuiet_nil ?_
  clear hn6
  refine lex_store_all g6 _ _ _ (by rfl) (by rfl) (by rfl) (Blocks.put_same _ _ _) (by rfl) (Or.inr q6) (by kernel_rfl) (by simp [Value.oneCell']) ?_
  refine lex_quietE 1 (by kernel_rfl) (by rfl) ?_
  apply Exists.intro
  refine ⟨fun x hx => ?_, ?_⟩
  · have hwx := HB2.out.trans (hx.below_of (b := w.heap.size) (by simp) HB2.out.size)
    clear hx
    simp only [List.take_succ_cons, List.take_zero]
    unfold Cx
    repeat (go_big_quiet_step (first | with_reducible exact KO5.at _ _ | with_reducible exact KS55.at _ _))
    exact wpQuiet_nil rfl
  simp only [List.drop_succ_cons, List.drop_zero]
  refine lex_nil ?_
  intro w3 hx hH
  have m6 := hH g6 _ (Blocks.put_same _ _ _)
  have HB3 := Lib.hid (HB2.out.trans (hx.below_of (b := w.heap.size) (by simp) HB2.out.size))
  replace q6 := Nat.le_trans HB2.out.size q6
  clear hx hH HB2 m1 m2 m4 q1 q2 q4 KO5 KS55
  go_wp2_with fail
  refine wp_game [0, 0, 0, 0, 0, 0, 0, 0, 0, 0, 0, 0, 0, 0, 0, 0, 0, 0, 0, 0, 0, 0, 0, 0, 0, 0, 0, 0, 0, 0, 0, 0, 0, 0, 0, 0, 0, 0, 0, 0] [] B0 fin_B0 (has_B0 _) (by kernel_rfl) (by kernel_rfl) ?_
  refine lex_quietE 40 (by kernel_rfl) (by rfl) ?_
  apply Exists.intro
  refine ⟨fun x hx => ?_, ?_⟩
  · have hwx := HB3.out.trans (hx.below_of (b := w.heap.size) (by simp) HB3.out.size)
    have e6_0 := blk_cellp (hx.keep m6 (by simp)) 0 rfl
    clear hx
    simp only [List.take_succ_cons, List.take_zero]
    unfold Cx
    repeat (go_big_quiet_step (first | with_reducible exact KO0.at _ _ | with_reducible exact KG.at _ _ | with_reducible exact KPO1.at _ _ | with_reducible exact KPO2.at _ _ | with_reducible exact KL0.at _ _ | with_reducible exact KO1.at _ _ | with_reducible exact KL1.at _ _))
    exact wpQuiet_nil rfl
  simp only [List.drop_succ_cons, List.drop_zero]
  refine lex_nil ?_
  intro w4 hx hH
  replace m6 := hx.keep m6 (by simp)
  have HB4 := Lib.hid (HB3.out.trans (hx.below_of (b := w.heap.size) (by simp) HB3.out.size))
  clear hx hH HB3 KO0 KG KPO1 KPO2 KL0 KO1 KL1
  go_wp2_with fail
  obtain ⟨g78, hg78⟩ : ∃ b, b = w4.heap.size := ⟨_, rfl⟩
  simp only [← hg78]
  have HG := Lib.hid hg78
  clear hg78
  go_loopw [80] (fun i wr => ∃ k : Nat, k ≤ 11 ∧ i = .int .i64 k ∧ wr.heap[g6]? = some (.cells #[.string s0] 25 (0, 0)) ∧ wr.heap[g78]? = some (.cells knownStrs.toArray 9 (0, 0)) ∧ Below w.heap.size w wr)
    (fun i _ => 11 - (intOf i).toNat)
  case atStart => exact ⟨0, by omega, rfl, by rw [heap_alloc_old _ _ (lt_of_heap m6)]; exact m6, by rw [HG.out]; exact heap_alloc_new _ _, HB4.out.alloc HB4.out.size _⟩
  case round =>
    obtain ⟨k, hk, rfl, n6, m78, hB⟩ := hrel
    clear m6 HG HB4
    have m6 := n6
    clear n6
    have HB5 := Lib.hid hB
    clear hB
    obtain ⟨w5, rfl⟩ : ∃ wo : World, wo = wr := ⟨_, rfl⟩
    by_cases hlt : k < 11
    · obtain ⟨s, hs1, hs2⟩ := known_get k hlt
      have KR := KRD s hs2
      have c78 := blk_cell m78 k hs1
      clear hs1 hs2
      go_wp2_with (with_reducible refine wpList_from 86 [0, 0, 0, 0, 3, 2, 0] [] B0 (has_B0 _) ?_)
      refine lex_quietE 4 (by kernel_rfl) (by rfl) ?_
      apply Exists.intro
      refine ⟨fun x hx => ?_, ?_⟩
      · have hwx := HB5.out.trans (hx.below_of (b := w.heap.size) (by simp) HB5.out.size)
        clear hx
        simp only [List.take_succ_cons, List.take_zero]
        unfold Cx
        repeat (go_big_quiet_step (first | with_reducible exact KR.at _ _))
        exact wpQuiet_nil rfl
      simp only [List.drop_succ_cons, List.drop_zero]
      refine lex_alloc (.agg #[.string ByteArray.empty]) (by rfl) (fun x => by kernel_rfl) (fun g10 q10 hn10 => ?_)
      unfold setSlot
      go_big_quiet_step (fail)
      refine wpQuiet_nil ?_
      clear hn10
      refine lex_store_all g10 _ _ _ (by rfl) (by rfl) (by rfl) (Blocks.put_same _ _ _) (by rfl) (Or.inr q10) (by kernel_rfl) (by simp [Value.oneCell']) ?_
      refine lex_quietE 1 (by kernel_rfl) (by rfl) ?_
      apply Exists.intro
      refine ⟨fun x hx => ?_, ?_⟩
      · have hwx := HB5.out.trans (hx.below_of (b := w.heap.size) (by simp) HB5.out.size)
        clear hx
        simp only [List.take_succ_cons, List.take_zero]
        unfold Cx
        repeat (go_big_quiet_step (first | with_reducible exact KR.at _ _))
        exact wpQuiet_nil rfl
      simp only [List.drop_succ_cons, List.drop_zero]
      refine lex_nil ?_
      intro w6 hx hH
      have m10 := hH g10 _ (Blocks.put_same _ _ _)
      replace m6 := hx.keep m6 (by simp)
      replace m78 := hx.keep m78 (by simp)
      have HB6 := Lib.hid (HB5.out.trans (hx.below_of (b := w.heap.size) (by simp) HB5.out.size))
      replace q10 := Nat.le_trans HB5.out.size q10
      clear hx hH HB5 c78 KR
      go_wp2_with (with_reducible refine wpList_from 91 [0, 0, 0, 0] [] B0 (has_B0 _) ?_)
      refine lex_quietE 4 (by kernel_rfl) (by rfl) ?_
      apply Exists.intro
      refine ⟨fun x hx => ?_, ?_⟩
      · have hwx := HB6.out.trans (hx.below_of (b := w.heap.size) (by simp) HB6.out.size)
        have e10_0 := blk_cellp (hx.keep m10 (by simp)) 0 rfl
        have e6_0 := blk_cellp (hx.keep m6 (by simp)) 0 rfl
        clear hx
        simp only [List.take_succ_cons, List.take_zero]
        unfold Cx
        repeat (go_big_quiet_step (fail))
        exact wpQuiet_nil rfl
      simp only [List.drop_succ_cons, List.drop_zero]
      refine lex_nil ?_
      intro w7 hx hH
      replace m6 := hx.keep m6 (by simp)
      replace m78 := hx.keep m78 (by simp)
      have HB7 := Lib.hid (HB6.out.trans (hx.below_of (b := w.heap.size) (by simp) HB6.out.size))
      clear hx hH HB6 m10 q10
      go_wp2_with fail
      go_roundw
      case rel => exact ⟨k + 1, by omega, by go_num, m6, m78, HB7.out⟩
      case measure => simp [intOf]; omega
    · obtain rfl : k = 11 := by omega
      clear hk hlt m6 m78
      go_wp2_with fail
      go_loopw [12] (fun i wr => ∃ k : Nat, k ≤ 40 ∧ i = .int .u64 k ∧ Below w.heap.size w wr)
        (fun i _ => 40 - (intOf i).toNat)
      case atStart => exact ⟨0, by omega, rfl, HB5.out⟩
      case round =>
        obtain ⟨i, hi, rfl, hB⟩ := hrel
        clear HB5
        have HB6 := Lib.hid hB
        clear hB
        obtain ⟨w6, rfl⟩ : ∃ wo : World, wo = wr := ⟨_, rfl⟩
        by_cases hlt : i < 40
        · go_wp2_with fail
          go_loopw [13] (fun i wr => ∃ k : Nat, k ≤ 40 ∧ i = .int .u64 k ∧ Below w.heap.size w wr)
            (fun i _ => 40 - (intOf i).toNat)
          case atStart => exact ⟨0, by omega, rfl, HB6.out⟩
          case round =>
            obtain ⟨k, hk, rfl, hB⟩ := hrel
            clear HB6
            have HB8 := Lib.hid hB
            clear hB
            obtain ⟨w8, rfl⟩ : ∃ wo : World, wo = wr := ⟨_, rfl⟩
            by_cases hlk : k < 40
            · have bi := nl_u64 (n := i) (by omega)
              have bk := nl_u64 (n := k) (by omega)
              have KI := KO i (by omega)
              have KK := KO k (by omega)
              have KS := gAdd i k (by omega) (by omega)
              have KM := gMul i k (by omega) (by omega)
              have hm : i * k ≤ 40 * 40 := Nat.mul_le_mul (by omega) (by omega)
              have KIK := KO (i + k) (by omega)
              have KMK := KO (i * k) (by omega)
              have KIK2 := KIK
              rw [Int.natCast_add] at KIK2
              have e2 := known_mul i k (by omega) (by omega)
              have KMK2 := KMK
              rw [Int.natCast_mul] at KMK2
              clear hm bi bk
              by_cases hp : 0 < k
              · have KD := gDiv i k (by have := nl_u64 (n := i) (by omega); omega) (by have := nl_u64 (n := k) (by omega); omega) (by omega)
                have KQ := KO (i / k) (by have := Nat.div_le_self i k; omega)
                have KR := KO (i % k) (by have := Nat.mod_lt i hp; omega)
                have KQ2 := KQ
                have KR2 := KR
                have KR3 := KR
                rw [← known_quo i k (by omega)] at KQ2
                rw [Int.natCast_emod] at KR2
                rw [← known_rem i k (by omega) hp] at KR3
                unfold natV at *
                generalize nb (i + k) = sS at *
                generalize nb (i * k) = sP at *
                generalize nb (i / k) = sQ at *
                generalize nb (i % k) = sR at *
                generalize nb i = sI at *
                generalize nb k = sK at *
                have hpb : decide ((0 : Int) < (k : Int)) = true := by simpa using hp
                have hkz : ((k : Int) == 0) = false := by simp; omega
      
                go_wp2_with (with_reducible refine wpList_from 105 [0, 0, 0, 3, 3, 2, 2] [] B0 (has_B0 _) ?_)
                refine lex_quietE 3 (by kernel_rfl) (by rfl) ?_
                apply Exists.intro
                refine ⟨fun x hx => ?_, ?_⟩
                · have hwx := HB8.out.trans (hx.below_of (b := w.heap.size) (by simp) HB8.out.size)
                  clear hx
                  simp only [List.take_succ_cons, List.take_zero]
                  unfold Cx
                  repeat (go_big_quiet_step (first | with_reducible exact KI.at _ _ | with_reducible exact KK.at _ _))
                  exact wpQuiet_nil rfl
                simp only [List.drop_succ_cons, List.drop_zero]
                refine lex_alloc (.agg #[.string ByteArray.empty]) (by rfl) (fun x => by kernel_rfl) (fun g14 q14 hn14 => ?_)
                unfold setSlot
                go_big_quiet_step (fail)
                refine wpQuiet_nil ?_
                clear hn14
                refine lex_alloc (.agg #[.string ByteArray.empty]) (by rfl) (fun x => by kernel_rfl) (fun g15 q15 hn15 => ?_)
                unfold setSlot
                go_big_quiet_step (fail)
                refine wpQuiet_nil ?_
                have n15_14 := ne_of_put hn15
                replace hn15 := none_of_put hn15
                clear hn15
                refine lex_store_all g14 _ _ _ (by rfl) (by rfl) (by rfl) ((Blocks.put_other _ _ (Ne.symm n15_14)).trans (Blocks.put_same _ _ _)) (by rfl) (Or.inr q14) (by kernel_rfl) (by simp [Value.oneCell']) ?_
                refine lex_store_all g15 _ _ _ (by rfl) (by rfl) (by rfl) ((Blocks.put_other _ _ n15_14).trans (Blocks.put_same _ _ _)) (by rfl) (Or.inr q15) (by kernel_rfl) (by simp [Value.oneCell']) ?_
                refine lex_nil ?_
                intro w9 hx hH
                have m14 := hH g14 _ ((Blocks.put_other _ _ (Ne.symm n15_14)).trans (Blocks.put_same _ _ _))
                have m15 := hH g15 _ (Blocks.put_same _ _ _)
                have HB9 := Lib.hid (HB8.out.trans (hx.below_of (b := w.heap.size) (by simp) HB8.out.size))
                replace q14 := Nat.le_trans HB8.out.size q14
                replace q15 := Nat.le_trans HB8.out.size q15
                clear hx hH HB8 KI KK
                go_wp2_with (with_reducible refine wpList_from 109 [0, 0, 0, 0, 0, 0, 0, 3, 3, 2, 2, 0] [] B0 (has_B0 _) ?_)
                refine lex_quietE 7 (by kernel_rfl) (by rfl) ?_
                apply Exists.intro
                refine ⟨fun x hx => ?_, ?_⟩
                · have hwx := HB9.out.trans (hx.below_of (b := w.heap.size) (by simp) HB9.out.size)
                  have e14_0 := blk_cellp (hx.keep m14 (by simp)) 0 rfl
                  have e15_0 := blk_cellp (hx.keep m15 (by simp)) 0 rfl
                  clear hx
                  simp only [List.take_succ_cons, List.take_zero]
                  unfold Cx
                  repeat (go_big_quiet_step (first | with_reducible exact KD.at _ _))
                  exact wpQuiet_nil rfl
                simp only [List.drop_succ_cons, List.drop_zero]
                refine lex_alloc (.agg #[.string ByteArray.empty]) (by rfl) (fun x => by kernel_rfl) (fun g16 q16 hn16 => ?_)
                unfold setSlot
                go_big_quiet_step (fail)
                refine wpQuiet_nil ?_
                clear hn16
                refine lex_alloc (.agg #[.string ByteArray.empty]) (by rfl) (fun x => by kernel_rfl) (fun g17 q17 hn17 => ?_)
                unfold setSlot
                go_big_quiet_step (fail)
                refine wpQuiet_nil ?_
                have n17_16 := ne_of_put hn17
                replace hn17 := none_of_put hn17
                clear hn17
                refine lex_store_all g16 _ _ _ (by rfl) (by rfl) (by rfl) ((Blocks.put_other _ _ (Ne.symm n17_16)).trans (Blocks.put_same _ _ _)) (by rfl) (Or.inr q16) (by kernel_rfl) (by simp [Value.oneCell']) ?_
                refine lex_store_all g17 _ _ _ (by rfl) (by rfl) (by rfl) ((Blocks.put_other _ _ n17_16).trans (Blocks.put_same _ _ _)) (by rfl) (Or.inr q17) (by kernel_rfl) (by simp [Value.oneCell']) ?_
                refine lex_quietE 1 (by kernel_rfl) (by rfl) ?_
                apply Exists.intro
                refine ⟨fun x hx => ?_, ?_⟩
                · have hwx := HB9.out.trans (hx.below_of (b := w.heap.size) (by simp) HB9.out.size)
                  have e14_0 := blk_cellp (hx.keep m14 (by simp)) 0 rfl
                  have e15_0 := blk_cellp (hx.keep m15 (by simp)) 0 rfl
                  clear hx
                  simp only [List.take_succ_cons, List.take_zero]
                  unfold Cx
                  repeat (go_big_quiet_step (first | with_reducible exact KD.at _ _))
                  exact wpQuiet_nil rfl
                simp only [List.drop_succ_cons, List.drop_zero]
                refine lex_nil ?_
                intro w10 hx hH
                have m16 := hH g16 _ ((Blocks.put_other _ _ (Ne.symm n17_16)).trans (Blocks.put_same _ _ _))
                have m17 := hH g17 _ (Blocks.put_same _ _ _)
                replace m14 := hx.keep m14 (by simp)
                replace m15 := hx.keep m15 (by simp)
                have HB10 := Lib.hid (HB9.out.trans (hx.below_of (b := w.heap.size) (by simp) HB9.out.size))
                replace q16 := Nat.le_trans HB9.out.size q16
                replace q17 := Nat.le_trans HB9.out.size q17
                clear hx hH HB9 KD
                go_wp2_with fail
                refine wp_game [0, 0, 0, 0, 0, 0, 0, 0, 0, 0, 0, 0, 0, 0, 0, 0, 0, 0, 0, 0, 0, 0, 0, 0, 0, 0, 0, 0, 0, 0, 0, 0, 0, 0, 0, 0, 0, 0, 0, 0, 0, 0, 0, 0] [] B0 fin_B0 (has_B0 _) (by kernel_rfl) (by kernel_rfl) ?_
                refine lex_quietE 44 (by kernel_rfl) (by rfl) ?_
                apply Exists.intro
                refine ⟨fun x hx => ?_, ?_⟩
                · have hwx := HB10.out.trans (hx.below_of (b := w.heap.size) (by simp) HB10.out.size)
                  have e14_0 := blk_cellp (hx.keep m14 (by simp)) 0 rfl
                  have e15_0 := blk_cellp (hx.keep m15 (by simp)) 0 rfl
                  have e16_0 := blk_cellp (hx.keep m16 (by simp)) 0 rfl
                  have e17_0 := blk_cellp (hx.keep m17 (by simp)) 0 rfl
                  clear hx
                  simp only [List.take_succ_cons, List.take_zero]
                  unfold Cx
                  repeat (go_big_quiet_step (first | with_reducible exact KS.at _ _ | with_reducible exact KIK.at _ _ | with_reducible exact KIK2.at _ _ | with_reducible exact KM.at _ _ | with_reducible exact KMK.at _ _ | with_reducible exact KMK2.at _ _ | with_reducible exact KQ.at _ _ | with_reducible exact KR.at _ _ | with_reducible exact KQ2.at _ _ | with_reducible exact KR2.at _ _ | with_reducible exact KR3.at _ _))
                  exact wpQuiet_nil rfl
                simp only [List.drop_succ_cons, List.drop_zero]
                refine lex_nil ?_
                intro w11 hx hH
                have HB11 := Lib.hid (HB10.out.trans (hx.below_of (b := w.heap.size) (by simp) HB10.out.size))
                clear hx hH HB10 m14 m15 m16 m17 q14 q15 q16 q17 KS KIK KIK2 KM KMK KMK2 e2 KQ KR KQ2 KR2 KR3
                go_wp2_with fail
                go_roundw
                case rel => exact ⟨k + 1, by omega, by go_num, HB11.out⟩
                case measure => simp [intOf]; omega
              · have KD := gDivZ i (by have := nl_u64 (n := i) (by omega); omega)
                have h0 : k = 0 := by omega
                rw [show natV 0 = natV k by rw [h0]] at KD
                unfold natV at *
                generalize nb (i + k) = sS at *
                generalize nb (i * k) = sP at *
                generalize nb i = sI at *
                generalize nb k = sK at *
                have hpb : decide ((0 : Int) < (k : Int)) = false := by simpa using hp
                clear h0
                go_wp2_with (with_reducible refine wpList_from 105 [0, 0, 0, 3, 3, 2, 2] [] B0 (has_B0 _) ?_)
                refine lex_quietE 3 (by kernel_rfl) (by rfl) ?_
                apply Exists.intro
                refine ⟨fun x hx => ?_, ?_⟩
                · have hwx := HB8.out.trans (hx.below_of (b := w.heap.size) (by simp) HB8.out.size)
                  clear hx
                  simp only [List.take_succ_cons, List.take_zero]
                  unfold Cx
                  repeat (go_big_quiet_step (first | with_reducible exact KI.at _ _ | with_reducible exact KK.at _ _))
                  exact wpQuiet_nil rfl
                simp only [List.drop_succ_cons, List.drop_zero]
                refine lex_alloc (.agg #[.string ByteArray.empty]) (by rfl) (fun x => by kernel_rfl) (fun g14 q14 hn14 => ?_)
                unfold setSlot
                go_big_quiet_step (fail)
                refine wpQuiet_nil ?_
                clear hn14
                refine lex_alloc (.agg #[.string ByteArray.empty]) (by rfl) (fun x => by kernel_rfl) (fun g15 q15 hn15 => ?_)
                unfold setSlot
                go_big_quiet_step (fail)
                refine wpQuiet_nil ?_
                have n15_14 := ne_of_put hn15
                replace hn15 := none_of_put hn15
                clear hn15
                refine lex_store_all g14 _ _ _ (by rfl) (by rfl) (by rfl) ((Blocks.put_other _ _ (Ne.symm n15_14)).trans (Blocks.put_same _ _ _)) (by rfl) (Or.inr q14) (by kernel_rfl) (by simp [Value.oneCell']) ?_
                refine lex_store_all g15 _ _ _ (by rfl) (by rfl) (by rfl) ((Blocks.put_other _ _ n15_14).trans (Blocks.put_same _ _ _)) (by rfl) (Or.inr q15) (by kernel_rfl) (by simp [Value.oneCell']) ?_
                refine lex_nil ?_
                intro w9 hx hH
                have m14 := hH g14 _ ((Blocks.put_other _ _ (Ne.symm n15_14)).trans (Blocks.put_same _ _ _))
                have m15 := hH g15 _ (Blocks.put_same _ _ _)
                have HB9 := Lib.hid (HB8.out.trans (hx.below_of (b := w.heap.size) (by simp) HB8.out.size))
                replace q14 := Nat.le_trans HB8.out.size q14
                replace q15 := Nat.le_trans HB8.out.size q15
                clear hx hH HB8 KI KK
                go_wp2_with (with_reducible refine wpList_from 109 [0, 0, 0, 0, 0, 0, 0, 3, 3, 2, 2, 0] [] B0 (has_B0 _) ?_)
                refine lex_quietE 7 (by kernel_rfl) (by rfl) ?_
                apply Exists.intro
                refine ⟨fun x hx => ?_, ?_⟩
                · have hwx := HB9.out.trans (hx.below_of (b := w.heap.size) (by simp) HB9.out.size)
                  have e14_0 := blk_cellp (hx.keep m14 (by simp)) 0 rfl
                  have e15_0 := blk_cellp (hx.keep m15 (by simp)) 0 rfl
                  clear hx
                  simp only [List.take_succ_cons, List.take_zero]
                  unfold Cx
                  repeat (go_big_quiet_step (first | with_reducible exact KD.at _ _))
                  exact wpQuiet_nil rfl
                simp only [List.drop_succ_cons, List.drop_zero]
                refine lex_alloc (.agg #[.string ByteArray.empty]) (by rfl) (fun x => by kernel_rfl) (fun g16 q16 hn16 => ?_)
                unfold setSlot
                go_big_quiet_step (fail)
                refine wpQuiet_nil ?_
                clear hn16
                refine lex_alloc (.agg #[.string ByteArray.empty]) (by rfl) (fun x => by kernel_rfl) (fun g17 q17 hn17 => ?_)
                unfold setSlot
                go_big_quiet_step (fail)
                refine wpQuiet_nil ?_
                have n17_16 := ne_of_put hn17
                replace hn17 := none_of_put hn17
                clear hn17
                refine lex_store_all g16 _ _ _ (by rfl) (by rfl) (by rfl) ((Blocks.put_other _ _ (Ne.symm n17_16)).trans (Blocks.put_same _ _ _)) (by rfl) (Or.inr q16) (by kernel_rfl) (by simp [Value.oneCell']) ?_
                refine lex_store_all g17 _ _ _ (by rfl) (by rfl) (by rfl) ((Blocks.put_other _ _ n17_16).trans (Blocks.put_same _ _ _)) (by rfl) (Or.inr q17) (by kernel_rfl) (by simp [Value.oneCell']) ?_
                refine lex_quietE 1 (by kernel_rfl) (by rfl) ?_
                apply Exists.intro
                refine ⟨fun x hx => ?_, ?_⟩
                · have hwx := HB9.out.trans (hx.below_of (b := w.heap.size) (by simp) HB9.out.size)
                  have e14_0 := blk_cellp (hx.keep m14 (by simp)) 0 rfl
                  have e15_0 := blk_cellp (hx.keep m15 (by simp)) 0 rfl
                  clear hx
                  simp only [List.take_succ_cons, List.take_zero]
                  unfold Cx
                  repeat (go_big_quiet_step (first | with_reducible exact KD.at _ _))
                  exact wpQuiet_nil rfl
                simp only [List.drop_succ_cons, List.drop_zero]
                refine lex_nil ?_
                intro w10 hx hH
                have m16 := hH g16 _ ((Blocks.put_other _ _ (Ne.symm n17_16)).trans (Blocks.put_same _ _ _))
                have m17 := hH g17 _ (Blocks.put_same _ _ _)
                replace m14 := hx.keep m14 (by simp)
                replace m15 := hx.keep m15 (by simp)
                have HB10 := Lib.hid (HB9.out.trans (hx.below_of (b := w.heap.size) (by simp) HB9.out.size))
                replace q16 := Nat.le_trans HB9.out.size q16
                replace q17 := Nat.le_trans HB9.out.size q17
                clear hx hH HB9 KD
                go_wp2_with fail
                refine wp_game [0, 0, 0, 0, 0, 0, 0, 0, 0, 0, 0, 0, 0, 0, 0, 0, 0, 0, 0, 0, 0, 0, 0, 0, 0, 0, 0, 0, 0, 0, 0, 0, 0, 0, 0, 0, 0, 0, 0, 0, 0, 0, 0, 0] [] B0 fin_B0 (has_B0 _) (by kernel_rfl) (by kernel_rfl) ?_
                refine lex_quietE 44 (by kernel_rfl) (by rfl) ?_
                apply Exists.intro
                refine ⟨fun x hx => ?_, ?_⟩
                · have hwx := HB10.out.trans (hx.below_of (b := w.heap.size) (by simp) HB10.out.size)
                  have e14_0 := blk_cellp (hx.keep m14 (by simp)) 0 rfl
                  have e15_0 := blk_cellp (hx.keep m15 (by simp)) 0 rfl
                  have e16_0 := blk_cellp (hx.keep m16 (by simp)) 0 rfl
                  have e17_0 := blk_cellp (hx.keep m17 (by simp)) 0 rfl
                  clear hx
                  simp only [List.take_succ_cons, List.take_zero]
                  unfold Cx
                  repeat (go_big_quiet_step (first | with_reducible exact KS.at _ _ | with_reducible exact KIK.at _ _ | with_reducible exact KIK2.at _ _ | with_reducible exact KM.at _ _ | with_reducible exact KMK.at _ _ | with_reducible exact KMK2.at _ _))
                  exact wpQuiet_nil rfl
                simp only [List.drop_succ_cons, List.drop_zero]
                refine lex_nil ?_
                intro w11 hx hH
                have HB11 := Lib.hid (HB10.out.trans (hx.below_of (b := w.heap.size) (by simp) HB10.out.size))
                clear hx hH HB10 m14 m15 m16 m17 q14 q15 q16 q17 KS KIK KIK2 KM KMK KMK2 e2
                go_wp2_with fail
                go_roundw
                case rel => exact ⟨k + 1, by omega, by go_num, HB11.out⟩
                case measure => simp [intOf]; omega
            · obtain rfl : k = 40 := by omega
              go_wp2_with fail
              go_roundw
              case rel => exact ⟨i + 1, by omega, by go_num, HB8.out⟩
              case measure => simp [intOf]; omega
        · obtain rfl : i = 40 := by omega
          go_wp2_with (go_at_call 12; refine (KW _).mono ?_; rintro e w' ⟨rfl, hB⟩)
          exact bodyPost_ret (v := .bool true) (by simp [results, Try.results11, go_sem]) rfl ⟨rfl, HB6.out.trans (hB.mono HB6.out.size)⟩
end Go.Proofs.Ytdkfeaodgfnhgaa
