/- The walk of RatKnown. -/
import Derived.Test.YtlomlcljjidfjaaVCut
import Derived.Test.YtlomlcljjidfjaaGame2
namespace Go.Proofs.Ytlomlcljjidfjaa
open Go.RowKit Num

def ratStrs : List Value := [.string { data := #[54, 47, 52] }, .string { data := #[51, 47, 49] }, .string { data := #[48, 47, 50] }, .string { data := #[48, 51] }, .string { data := #[49, 47, 48] }, .string { data := #[43, 49] }, .string { data := #[] }, .string { data := #[49, 47] }, .string { data := #[47, 50] }, .string { data := #[49, 47, 50, 47, 51] }, .string { data := #[45, 49, 47, 50] }, .string { data := #[49, 32, 47, 50] }, .string { data := #[49, 47, 48, 50] }, .string { data := #[50, 47, 52] }, .string { data := #[97] }, .string { data := #[49, 47, 50, 32] }]

theorem ratStrs_get (k : Nat) (h : k < 16) : ∃ s : ByteArray, ratStrs.toArray[k]? = some (.string s) ∧ ratRead s = none ∧ s.size ≤ 10 := by
  match k, h with
  | 0, _ => exact ⟨_, rfl, by kernel_rfl, by decide⟩
  | 1, _ => exact ⟨_, rfl, by kernel_rfl, by decide⟩
  | 2, _ => exact ⟨_, rfl, by kernel_rfl, by decide⟩
  | 3, _ => exact ⟨_, rfl, by kernel_rfl, by decide⟩
  | 4, _ => exact ⟨_, rfl, by kernel_rfl, by decide⟩
  | 5, _ => exact ⟨_, rfl, by kernel_rfl, by decide⟩
  | 6, _ => exact ⟨_, rfl, by kernel_rfl, by decide⟩
  | 7, _ => exact ⟨_, rfl, by kernel_rfl, by decide⟩
  | 8, _ => exact ⟨_, rfl, by kernel_rfl, by decide⟩
  | 9, _ => exact ⟨_, rfl, by kernel_rfl, by decide⟩
  | 10, _ => exact ⟨_, rfl, by kernel_rfl, by decide⟩
  | 11, _ => exact ⟨_, rfl, by kernel_rfl, by decide⟩
  | 12, _ => exact ⟨_, rfl, by kernel_rfl, by decide⟩
  | 13, _ => exact ⟨_, rfl, by kernel_rfl, by decide⟩
  | 14, _ => exact ⟨_, rfl, by kernel_rfl, by decide⟩
  | 15, _ => exact ⟨_, rfl, by kernel_rfl, by decide⟩
  | n + 16, h => exact absurd h (by omega)

set_option maxHeartbeats 3200000 in
set_option maxRecDepth 100000 in
theorem w_rknown (w0 : World) (a1 a2 b1 b2 c1 c2 d1 d2 f1 f2 i1 i2 j1 j2 : ByteArray) (KRD : ∀ s : ByteArray, (ratRead s = none ∧ s.size ≤ 10) → GivesFrom w0 36 #[.string s] (.tuple #[.agg #[.string { data := #[] }, .string { data := #[] }], .bool false])) (KT0 : Gives 30 #[.agg #[.string { data := #[] }, .string { data := #[] }]] (.string { data := #[48] })) (KO16 : Gives 14 #[.int .u64 1, .int .u64 6] (.tuple #[.agg #[.string a1, .string a2], .bool true])) (KO13 : Gives 14 #[.int .u64 1, .int .u64 3] (.tuple #[.agg #[.string b1, .string b2], .bool true])) (KO12 : Gives 14 #[.int .u64 1, .int .u64 2] (.tuple #[.agg #[.string c1, .string c2], .bool true])) (KS1 : Gives 29 #[.agg #[.string c1, .string c2], .agg #[.string a1, .string a2]] (.tuple #[.agg #[.string b1, .string b2], .bool true])) (KS2 : Gives 29 #[.agg #[.string c1, .string c2], .agg #[.string c1, .string c2]] (.tuple #[.agg #[.string d1, .string d2], .bool true])) (KS3 : Gives 29 #[.agg #[.string b1, .string b2], .agg #[.string c1, .string c2]] (.tuple #[.agg #[.string { data := #[] }, .string { data := #[] }], .bool false])) (KO33 : Gives 14 #[.int .u64 33, .int .u64 100] (.tuple #[.agg #[.string f1, .string f2], .bool true])) (KO49 : Gives 14 #[.int .u64 4, .int .u64 9] (.tuple #[.agg #[.string i1, .string i2], .bool true])) (KO38 : Gives 14 #[.int .u64 3, .int .u64 8] (.tuple #[.agg #[.string j1, .string j2], .bool true])) (KO10 : Gives 14 #[.int .u64 1, .int .u64 0] (.tuple #[.agg #[.string { data := #[] }, .string { data := #[] }], .bool false])) (KA : Gives 16 #[.agg #[.string a1, .string a2], .agg #[.string b1, .string b2]] (.agg #[.string c1, .string c2])) (KT1 : Gives 30 #[.agg #[.string c1, .string c2]] (.string { data := #[49, 47, 50] })) (KT2 : Gives 30 #[.agg #[.string b1, .string b2]] (.string { data := #[49, 47, 51] })) (KT3 : Gives 30 #[.agg #[.string d1, .string d2]] (.string { data := #[48] })) (KC : Gives 31 #[.agg #[.string b1, .string b2], .agg #[.string f1, .string f2]] (.int .i64 1)) (KM : Gives 17 #[.agg #[.string i1, .string i2], .agg #[.string j1, .string j2]] (.agg #[.string a1, .string a2])) (KT4 : Gives 30 #[.agg #[.string a1, .string a2]] (.string { data := #[49, 47, 54] })) (KW : Gives 18 #[] (.bool true)) : GivesFrom w0 12 #[] (.bool true) := by
  intro w hb0
  suffices h : ∀ Q : World → Prop, (∀ x, Below w.heap.size w x → Q x) → Calls Try.prog 12 #[] w (fun e w' => e = .returned (.bool true) ∧ Q w') from h _ fun _ h => h
  intro Q hQ
  have HQ := Lib.hid hQ
  clear hQ
  have HB0 := Lib.hid (Below.refl w.heap.size w)
  go_enter Try.func12, Try.ntmps12
  go_wp2_with fail
  obtain ⟨g35, hg35⟩ : ∃ b, b = w.heap.size := ⟨_, rfl⟩
  simp only [← hg35]
  have HG := Lib.hid hg35
  clear hg35
  go_loopw [2] (fun i wr => ∃ k : Nat, k ≤ 16 ∧ i = .int .i64 k ∧ wr.heap[g35]? = some (.cells ratStrs.toArray 9 (0, 0)) ∧ Below w.heap.size w wr)
    (fun i _ => 16 - (intOf i).toNat)
  case atStart => exact ⟨0, by omega, rfl, by rw [HG.out]; exact heap_alloc_new _ _, HB0.out.alloc HB0.out.size _⟩
  case round =>
    obtain ⟨k, hk, rfl, m35, hB⟩ := hrel
    clear HG HB0
    have HB1 := Lib.hid hB
    clear hB
    obtain ⟨w1, rfl⟩ : ∃ wo : World, wo = wr := ⟨_, rfl⟩
    by_cases hlt : k < 16
    · obtain ⟨s, hs1, hs2⟩ := ratStrs_get k hlt
      have KR := KRD s hs2
      go_wp2_with (with_reducible refine wpList_from 36 [0, 0, 0, 0, 0, 3, 2, 0] [] B0 (has_B0 _) ?_)
      refine lex_quietE 5 (by kernel_rfl) (by rfl) ?_
      apply Exists.intro
      refine ⟨fun x hx => ?_, ?_⟩
      · have hwx := HB1.out.trans (hx.below_of (b := w.heap.size) (by simp) HB1.out.size)
        have e35 := blk_cellp (hx.keep m35 (by simp)) k hs1
        clear hx
        simp only [List.take_succ_cons, List.take_zero]
        unfold Cx
        repeat (go_big_quiet_step (first | with_reducible exact KR.at2 (hb0.trans (hwx.mono hb0.size)) _))
        exact wpQuiet_nil rfl
      simp only [List.drop_succ_cons, List.drop_zero]
      refine lex_alloc (.agg #[.string ByteArray.empty, .string ByteArray.empty]) (by rfl) (fun x => by kernel_rfl) (fun g3 q3 hn3 => ?_)
      unfold setSlot
      go_big_quiet_step (fail)
      refine wpQuiet_nil ?_
      clear hn3
      have n3_35 : g3 ≠ g35 := Nat.ne_of_gt (Nat.lt_of_lt_of_le (lt_of_heap m35) q3)
      refine lex_store_all g3 _ _ _ (by rfl) (by rfl) (by rfl) (Blocks.put_same _ _ _) (by rfl) (Or.inr q3) (by kernel_rfl) (by simp [Value.oneCell']) ?_
      refine lex_quietE 1 (by kernel_rfl) (by rfl) ?_
      apply Exists.intro
      refine ⟨fun x hx => ?_, ?_⟩
      · have hwx := HB1.out.trans (hx.below_of (b := w.heap.size) (by simp) HB1.out.size)
        have e35 := blk_cellp (hx.keep m35 (by simp)) k hs1
        clear hx
        simp only [List.take_succ_cons, List.take_zero]
        unfold Cx
        repeat (go_big_quiet_step (first | with_reducible exact KR.at2 (hb0.trans (hwx.mono hb0.size)) _))
        exact wpQuiet_nil rfl
      simp only [List.drop_succ_cons, List.drop_zero]
      refine lex_nil ?_
      intro w2 hx hH
      have m3 := hH g3 _ (Blocks.put_same _ _ _)
      replace m35 := hx.keep m35 (by simp)
      have HB2 := Lib.hid (HB1.out.trans (hx.below_of (b := w.heap.size) (by simp) HB1.out.size))
      replace q3 := Nat.le_trans HB1.out.size q3
      clear hx hH HB1 KR hs1 hs2
      go_wp2_with (with_reducible refine wpList_from 42 [0, 0, 0, 0] [] B0 (has_B0 _) ?_)
      refine lex_quietE 4 (by kernel_rfl) (by rfl) ?_
      apply Exists.intro
      refine ⟨fun x hx => ?_, ?_⟩
      · have hwx := HB2.out.trans (hx.below_of (b := w.heap.size) (by simp) HB2.out.size)
        have e3_0 := blk_cellp (hx.keep m3 (by simp)) 0 rfl
        have e3_1 := blk_cellp (hx.keep m3 (by simp)) 1 rfl
        clear hx
        simp only [List.take_succ_cons, List.take_zero]
        unfold Cx
        repeat (go_big_quiet_step (first | with_reducible exact KT0.at _ _))
        exact wpQuiet_nil rfl
      simp only [List.drop_succ_cons, List.drop_zero]
      refine lex_nil ?_
      intro w3 hx hH
      replace m35 := hx.keep m35 (by simp)
      have HB3 := Lib.hid (HB2.out.trans (hx.below_of (b := w.heap.size) (by simp) HB2.out.size))
      clear hx hH HB2 m3 q3
      go_wp2_with fail
      go_roundw
      case rel => exact ⟨k + 1, by omega, by go_num, m35, HB3.out⟩
      case measure => simp [intOf]; omega
    · obtain rfl : k = 16 := by omega
      clear hk hlt m35
      go_wp2_with (with_reducible refine wpList_from 47 [0, 0, 0, 0, 3, 2, 0] [] B0 (has_B0 _) ?_)
      refine lex_quietE 4 (by kernel_rfl) (by rfl) ?_
      apply Exists.intro
      refine ⟨fun x hx => ?_, ?_⟩
      · have hwx := HB1.out.trans (hx.below_of (b := w.heap.size) (by simp) HB1.out.size)
        clear hx
        simp only [List.take_succ_cons, List.take_zero]
        unfold Cx
        repeat (go_big_quiet_step (first | with_reducible exact KO16.at _ _))
        exact wpQuiet_nil rfl
      simp only [List.drop_succ_cons, List.drop_zero]
      refine lex_alloc (.agg #[.string ByteArray.empty, .string ByteArray.empty]) (by rfl) (fun x => by kernel_rfl) (fun g5 q5 hn5 => ?_)
      unfold setSlot
      go_big_quiet_step (fail)
      refine wpQuiet_nil ?_
      clear hn5
      refine lex_store_all g5 _ _ _ (by rfl) (by rfl) (by rfl) (Blocks.put_same _ _ _) (by rfl) (Or.inr q5) (by kernel_rfl) (by simp [Value.oneCell']) ?_
      refine lex_quietE 1 (by kernel_rfl) (by rfl) ?_
      apply Exists.intro
      refine ⟨fun x hx => ?_, ?_⟩
      · have hwx := HB1.out.trans (hx.below_of (b := w.heap.size) (by simp) HB1.out.size)
        clear hx
        simp only [List.take_succ_cons, List.take_zero]
        unfold Cx
        repeat (go_big_quiet_step (first | with_reducible exact KO16.at _ _))
        exact wpQuiet_nil rfl
      simp only [List.drop_succ_cons, List.drop_zero]
      refine lex_nil ?_
      intro w2 hx hH
      have m5 := hH g5 _ (Blocks.put_same _ _ _)
      have HB2 := Lib.hid (HB1.out.trans (hx.below_of (b := w.heap.size) (by simp) HB1.out.size))
      replace q5 := Nat.le_trans HB1.out.size q5
      clear hx hH HB1 KO16 KRD
      go_wp2_with (with_reducible refine wpList_from 51 [0, 0, 0, 0, 3, 2, 0] [] B0 (has_B0 _) ?_)
      refine lex_quietE 4 (by kernel_rfl) (by rfl) ?_
      apply Exists.intro
      refine ⟨fun x hx => ?_, ?_⟩
      · have hwx := HB2.out.trans (hx.below_of (b := w.heap.size) (by simp) HB2.out.size)
        clear hx
        simp only [List.take_succ_cons, List.take_zero]
        unfold Cx
        repeat (go_big_quiet_step (first | with_reducible exact KO13.at _ _))
        exact wpQuiet_nil rfl
      simp only [List.drop_succ_cons, List.drop_zero]
      refine lex_alloc (.agg #[.string ByteArray.empty, .string ByteArray.empty]) (by rfl) (fun x => by kernel_rfl) (fun g7 q7 hn7 => ?_)
      unfold setSlot
      go_big_quiet_step (fail)
      refine wpQuiet_nil ?_
      clear hn7
      have n7_5 : g7 ≠ g5 := Nat.ne_of_gt (Nat.lt_of_lt_of_le (lt_of_heap m5) q7)
      refine lex_store_all g7 _ _ _ (by rfl) (by rfl) (by rfl) (Blocks.put_same _ _ _) (by rfl) (Or.inr q7) (by kernel_rfl) (by simp [Value.oneCell']) ?_
      refine lex_quietE 1 (by kernel_rfl) (by rfl) ?_
      apply Exists.intro
      refine ⟨fun x hx => ?_, ?_⟩
      · have hwx := HB2.out.trans (hx.below_of (b := w.heap.size) (by simp) HB2.out.size)
        clear hx
        simp only [List.take_succ_cons, List.take_zero]
        unfold Cx
        repeat (go_big_quiet_step (first | with_reducible exact KO13.at _ _))
        exact wpQuiet_nil rfl
      simp only [List.drop_succ_cons, List.drop_zero]
      refine lex_nil ?_
      intro w3 hx hH
      have m7 := hH g7 _ (Blocks.put_same _ _ _)
      replace m5 := hx.keep m5 (by simp)
      have HB3 := Lib.hid (HB2.out.trans (hx.below_of (b := w.heap.size) (by simp) HB2.out.size))
      replace q7 := Nat.le_trans HB2.out.size q7
      clear hx hH HB2 KO13
      go_wp2_with (with_reducible refine wpList_from 55 [0, 0, 0, 0, 3, 2, 0] [] B0 (has_B0 _) ?_)
      refine lex_quietE 4 (by kernel_rfl) (by rfl) ?_
      apply Exists.intro
      refine ⟨fun x hx => ?_, ?_⟩
      · have hwx := HB3.out.trans (hx.below_of (b := w.heap.size) (by simp) HB3.out.size)
        clear hx
        simp only [List.take_succ_cons, List.take_zero]
        unfold Cx
        repeat (go_big_quiet_step (first | with_reducible exact KO12.at _ _))
        exact wpQuiet_nil rfl
      simp only [List.drop_succ_cons, List.drop_zero]
      refine lex_alloc (.agg #[.string ByteArray.empty, .string ByteArray.empty]) (by rfl) (fun x => by kernel_rfl) (fun g9 q9 hn9 => ?_)
      unfold setSlot
      go_big_quiet_step (fail)
      refine wpQuiet_nil ?_
      clear hn9
      have n9_5 : g9 ≠ g5 := Nat.ne_of_gt (Nat.lt_of_lt_of_le (lt_of_heap m5) q9)
      have n9_7 : g9 ≠ g7 := Nat.ne_of_gt (Nat.lt_of_lt_of_le (lt_of_heap m7) q9)
      refine lex_store_all g9 _ _ _ (by rfl) (by rfl) (by rfl) (Blocks.put_same _ _ _) (by rfl) (Or.inr q9) (by kernel_rfl) (by simp [Value.oneCell']) ?_
      refine lex_quietE 1 (by kernel_rfl) (by rfl) ?_
      apply Exists.intro
      refine ⟨fun x hx => ?_, ?_⟩
      · have hwx := HB3.out.trans (hx.below_of (b := w.heap.size) (by simp) HB3.out.size)
        clear hx
        simp only [List.take_succ_cons, List.take_zero]
        unfold Cx
        repeat (go_big_quiet_step (first | with_reducible exact KO12.at _ _))
        exact wpQuiet_nil rfl
      simp only [List.drop_succ_cons, List.drop_zero]
      refine lex_nil ?_
      intro w4 hx hH
      have m9 := hH g9 _ (Blocks.put_same _ _ _)
      replace m5 := hx.keep m5 (by simp)
      replace m7 := hx.keep m7 (by simp)
      have HB4 := Lib.hid (HB3.out.trans (hx.below_of (b := w.heap.size) (by simp) HB3.out.size))
      replace q9 := Nat.le_trans HB3.out.size q9
      clear hx hH HB3 KO12
      go_wp2_with (with_reducible refine wpList_from 59 [0, 0, 0, 0, 0, 0, 3, 2, 0] [] B0 (has_B0 _) ?_)
      refine lex_quietE 6 (by kernel_rfl) (by rfl) ?_
      apply Exists.intro
      refine ⟨fun x hx => ?_, ?_⟩
      · have hwx := HB4.out.trans (hx.below_of (b := w.heap.size) (by simp) HB4.out.size)
        have e9_0 := blk_cellp (hx.keep m9 (by simp)) 0 rfl
        have e9_1 := blk_cellp (hx.keep m9 (by simp)) 1 rfl
        have e5_0 := blk_cellp (hx.keep m5 (by simp)) 0 rfl
        have e5_1 := blk_cellp (hx.keep m5 (by simp)) 1 rfl
        clear hx
        simp only [List.take_succ_cons, List.take_zero]
        unfold Cx
        repeat (go_big_quiet_step (first | with_reducible exact KS1.at _ _))
        exact wpQuiet_nil rfl
      simp only [List.drop_succ_cons, List.drop_zero]
      refine lex_alloc (.agg #[.string ByteArray.empty, .string ByteArray.empty]) (by rfl) (fun x => by kernel_rfl) (fun g11 q11 hn11 => ?_)
      unfold setSlot
      go_big_quiet_step (fail)
      refine wpQuiet_nil ?_
      clear hn11
      have n11_5 : g11 ≠ g5 := Nat.ne_of_gt (Nat.lt_of_lt_of_le (lt_of_heap m5) q11)
      have n11_7 : g11 ≠ g7 := Nat.ne_of_gt (Nat.lt_of_lt_of_le (lt_of_heap m7) q11)
      have n11_9 : g11 ≠ g9 := Nat.ne_of_gt (Nat.lt_of_lt_of_le (lt_of_heap m9) q11)
      refine lex_store_all g11 _ _ _ (by rfl) (by rfl) (by rfl) (Blocks.put_same _ _ _) (by rfl) (Or.inr q11) (by kernel_rfl) (by simp [Value.oneCell']) ?_
      refine lex_quietE 1 (by kernel_rfl) (by rfl) ?_
      apply Exists.intro
      refine ⟨fun x hx => ?_, ?_⟩
      · have hwx := HB4.out.trans (hx.below_of (b := w.heap.size) (by simp) HB4.out.size)
        have e9_0 := blk_cellp (hx.keep m9 (by simp)) 0 rfl
        have e9_1 := blk_cellp (hx.keep m9 (by simp)) 1 rfl
        have e5_0 := blk_cellp (hx.keep m5 (by simp)) 0 rfl
        have e5_1 := blk_cellp (hx.keep m5 (by simp)) 1 rfl
        clear hx
        simp only [List.take_succ_cons, List.take_zero]
        unfold Cx
        repeat (go_big_quiet_step (first | with_reducible exact KS1.at _ _))
        exact wpQuiet_nil rfl
      simp only [List.drop_succ_cons, List.drop_zero]
      refine lex_nil ?_
      intro w5 hx hH
      have m11 := hH g11 _ (Blocks.put_same _ _ _)
      replace m5 := hx.keep m5 (by simp)
      replace m7 := hx.keep m7 (by simp)
      replace m9 := hx.keep m9 (by simp)
      have HB5 := Lib.hid (HB4.out.trans (hx.below_of (b := w.heap.size) (by simp) HB4.out.size))
      replace q11 := Nat.le_trans HB4.out.size q11
      clear hx hH HB4 KS1
      go_wp2_with (with_reducible refine wpList_from 65 [0, 0, 0, 0, 0, 0, 3, 2, 0] [] B0 (has_B0 _) ?_)
      refine lex_quietE 6 (by kernel_rfl) (by rfl) ?_
      apply Exists.intro
      refine ⟨fun x hx => ?_, ?_⟩
      · have hwx := HB5.out.trans (hx.below_of (b := w.heap.size) (by simp) HB5.out.size)
        have e9_0 := blk_cellp (hx.keep m9 (by simp)) 0 rfl
        have e9_1 := blk_cellp (hx.keep m9 (by simp)) 1 rfl
        clear hx
        simp only [List.take_succ_cons, List.take_zero]
        unfold Cx
        repeat (go_big_quiet_step (first | with_reducible exact KS2.at _ _))
        exact wpQuiet_nil rfl
      simp only [List.drop_succ_cons, List.drop_zero]
      refine lex_alloc (.agg #[.string ByteArray.empty, .string ByteArray.empty]) (by rfl) (fun x => by kernel_rfl) (fun g13 q13 hn13 => ?_)
      unfold setSlot
      go_big_quiet_step (fail)
      refine wpQuiet_nil ?_
      clear hn13
      have n13_5 : g13 ≠ g5 := Nat.ne_of_gt (Nat.lt_of_lt_of_le (lt_of_heap m5) q13)
      have n13_7 : g13 ≠ g7 := Nat.ne_of_gt (Nat.lt_of_lt_of_le (lt_of_heap m7) q13)
      have n13_9 : g13 ≠ g9 := Nat.ne_of_gt (Nat.lt_of_lt_of_le (lt_of_heap m9) q13)
      have n13_11 : g13 ≠ g11 := Nat.ne_of_gt (Nat.lt_of_lt_of_le (lt_of_heap m11) q13)
      refine lex_store_all g13 _ _ _ (by rfl) (by rfl) (by rfl) (Blocks.put_same _ _ _) (by rfl) (Or.inr q13) (by kernel_rfl) (by simp [Value.oneCell']) ?_
      refine lex_quietE 1 (by kernel_rfl) (by rfl) ?_
      apply Exists.intro
      refine ⟨fun x hx => ?_, ?_⟩
      · have hwx := HB5.out.trans (hx.below_of (b := w.heap.size) (by simp) HB5.out.size)
        have e9_0 := blk_cellp (hx.keep m9 (by simp)) 0 rfl
        have e9_1 := blk_cellp (hx.keep m9 (by simp)) 1 rfl
        clear hx
        simp only [List.take_succ_cons, List.take_zero]
        unfold Cx
        repeat (go_big_quiet_step (first | with_reducible exact KS2.at _ _))
        exact wpQuiet_nil rfl
      simp only [List.drop_succ_cons, List.drop_zero]
      refine lex_nil ?_
      intro w6 hx hH
      have m13 := hH g13 _ (Blocks.put_same _ _ _)
      replace m5 := hx.keep m5 (by simp)
      replace m7 := hx.keep m7 (by simp)
      replace m9 := hx.keep m9 (by simp)
      replace m11 := hx.keep m11 (by simp)
      have HB6 := Lib.hid (HB5.out.trans (hx.below_of (b := w.heap.size) (by simp) HB5.out.size))
      replace q13 := Nat.le_trans HB5.out.size q13
      clear hx hH HB5 KS2
      go_wp2_with (with_reducible refine wpList_from 71 [0, 0, 0, 0, 0, 0, 3, 2, 0] [] B0 (has_B0 _) ?_)
      refine lex_quietE 6 (by kernel_rfl) (by rfl) ?_
      apply Exists.intro
      refine ⟨fun x hx => ?_, ?_⟩
      · have hwx := HB6.out.trans (hx.below_of (b := w.heap.size) (by simp) HB6.out.size)
        have e7_0 := blk_cellp (hx.keep m7 (by simp)) 0 rfl
        have e7_1 := blk_cellp (hx.keep m7 (by simp)) 1 rfl
        have e9_0 := blk_cellp (hx.keep m9 (by simp)) 0 rfl
        have e9_1 := blk_cellp (hx.keep m9 (by simp)) 1 rfl
        clear hx
        simp only [List.take_succ_cons, List.take_zero]
        unfold Cx
        repeat (go_big_quiet_step (first | with_reducible exact KS3.at _ _))
        exact wpQuiet_nil rfl
      simp only [List.drop_succ_cons, List.drop_zero]
      refine lex_alloc (.agg #[.string ByteArray.empty, .string ByteArray.empty]) (by rfl) (fun x => by kernel_rfl) (fun g15 q15 hn15 => ?_)
      unfold setSlot
      go_big_quiet_step (fail)
      refine wpQuiet_nil ?_
      clear hn15
      have n15_5 : g15 ≠ g5 := Nat.ne_of_gt (Nat.lt_of_lt_of_le (lt_of_heap m5) q15)
      have n15_7 : g15 ≠ g7 := Nat.ne_of_gt (Nat.lt_of_lt_of_le (lt_of_heap m7) q15)
      have n15_9 : g15 ≠ g9 := Nat.ne_of_gt (Nat.lt_of_lt_of_le (lt_of_heap m9) q15)
      have n15_11 : g15 ≠ g11 := Nat.ne_of_gt (Nat.lt_of_lt_of_le (lt_of_heap m11) q15)
      have n15_13 : g15 ≠ g13 := Nat.ne_of_gt (Nat.lt_of_lt_of_le (lt_of_heap m13) q15)
      refine lex_store_all g15 _ _ _ (by rfl) (by rfl) (by rfl) (Blocks.put_same _ _ _) (by rfl) (Or.inr q15) (by kernel_rfl) (by simp [Value.oneCell']) ?_
      refine lex_quietE 1 (by kernel_rfl) (by rfl) ?_
      apply Exists.intro
      refine ⟨fun x hx => ?_, ?_⟩
      · have hwx := HB6.out.trans (hx.below_of (b := w.heap.size) (by simp) HB6.out.size)
        have e7_0 := blk_cellp (hx.keep m7 (by simp)) 0 rfl
        have e7_1 := blk_cellp (hx.keep m7 (by simp)) 1 rfl
        have e9_0 := blk_cellp (hx.keep m9 (by simp)) 0 rfl
        have e9_1 := blk_cellp (hx.keep m9 (by simp)) 1 rfl
        clear hx
        simp only [List.take_succ_cons, List.take_zero]
        unfold Cx
        repeat (go_big_quiet_step (first | with_reducible exact KS3.at _ _))
        exact wpQuiet_nil rfl
      simp only [List.drop_succ_cons, List.drop_zero]
      refine lex_nil ?_
      intro w7 hx hH
      replace m5 := hx.keep m5 (by simp)
      replace m7 := hx.keep m7 (by simp)
      replace m11 := hx.keep m11 (by simp)
      replace m13 := hx.keep m13 (by simp)
      have HB7 := Lib.hid (HB6.out.trans (hx.below_of (b := w.heap.size) (by simp) HB6.out.size))
      clear hx hH HB6 m9 q9 q15 KS3
      go_wp2_with (with_reducible refine wpList_from 77 [0, 0, 0, 0, 3, 2, 0] [] B0 (has_B0 _) ?_)
      refine lex_quietE 4 (by kernel_rfl) (by rfl) ?_
      apply Exists.intro
      refine ⟨fun x hx => ?_, ?_⟩
      · have hwx := HB7.out.trans (hx.below_of (b := w.heap.size) (by simp) HB7.out.size)
        clear hx
        simp only [List.take_succ_cons, List.take_zero]
        unfold Cx
        repeat (go_big_quiet_step (first | with_reducible exact KO33.at _ _))
        exact wpQuiet_nil rfl
      simp only [List.drop_succ_cons, List.drop_zero]
      refine lex_alloc (.agg #[.string ByteArray.empty, .string ByteArray.empty]) (by rfl) (fun x => by kernel_rfl) (fun g17 q17 hn17 => ?_)
      unfold setSlot
      go_big_quiet_step (fail)
      refine wpQuiet_nil ?_
      clear hn17
      have n17_5 : g17 ≠ g5 := Nat.ne_of_gt (Nat.lt_of_lt_of_le (lt_of_heap m5) q17)
      have n17_7 : g17 ≠ g7 := Nat.ne_of_gt (Nat.lt_of_lt_of_le (lt_of_heap m7) q17)
      have n17_11 : g17 ≠ g11 := Nat.ne_of_gt (Nat.lt_of_lt_of_le (lt_of_heap m11) q17)
      have n17_13 : g17 ≠ g13 := Nat.ne_of_gt (Nat.lt_of_lt_of_le (lt_of_heap m13) q17)
      refine lex_store_all g17 _ _ _ (by rfl) (by rfl) (by rfl) (Blocks.put_same _ _ _) (by rfl) (Or.inr q17) (by kernel_rfl) (by simp [Value.oneCell']) ?_
      refine lex_quietE 1 (by kernel_rfl) (by rfl) ?_
      apply Exists.intro
      refine ⟨fun x hx => ?_, ?_⟩
      · have hwx := HB7.out.trans (hx.below_of (b := w.heap.size) (by simp) HB7.out.size)
        clear hx
        simp only [List.take_succ_cons, List.take_zero]
        unfold Cx
        repeat (go_big_quiet_step (first | with_reducible exact KO33.at _ _))
        exact wpQuiet_nil rfl
      simp only [List.drop_succ_cons, List.drop_zero]
      refine lex_nil ?_
      intro w8 hx hH
      have m17 := hH g17 _ (Blocks.put_same _ _ _)
      replace m5 := hx.keep m5 (by simp)
      replace m7 := hx.keep m7 (by simp)
      replace m11 := hx.keep m11 (by simp)
      replace m13 := hx.keep m13 (by simp)
      have HB8 := Lib.hid (HB7.out.trans (hx.below_of (b := w.heap.size) (by simp) HB7.out.size))
      replace q17 := Nat.le_trans HB7.out.size q17
      clear hx hH HB7 KO33
      go_wp2_with (with_reducible refine wpList_from 81 [0, 0, 0, 0, 3, 2, 0] [] B0 (has_B0 _) ?_)
      refine lex_quietE 4 (by kernel_rfl) (by rfl) ?_
      apply Exists.intro
      refine ⟨fun x hx => ?_, ?_⟩
      · have hwx := HB8.out.trans (hx.below_of (b := w.heap.size) (by simp) HB8.out.size)
        clear hx
        simp only [List.take_succ_cons, List.take_zero]
        unfold Cx
        repeat (go_big_quiet_step (first | with_reducible exact KO49.at _ _))
        exact wpQuiet_nil rfl
      simp only [List.drop_succ_cons, List.drop_zero]
      refine lex_alloc (.agg #[.string ByteArray.empty, .string ByteArray.empty]) (by rfl) (fun x => by kernel_rfl) (fun g19 q19 hn19 => ?_)
      unfold setSlot
      go_big_quiet_step (fail)
      refine wpQuiet_nil ?_
      clear hn19
      have n19_5 : g19 ≠ g5 := Nat.ne_of_gt (Nat.lt_of_lt_of_le (lt_of_heap m5) q19)
      have n19_7 : g19 ≠ g7 := Nat.ne_of_gt (Nat.lt_of_lt_of_le (lt_of_heap m7) q19)
      have n19_11 : g19 ≠ g11 := Nat.ne_of_gt (Nat.lt_of_lt_of_le (lt_of_heap m11) q19)
      have n19_13 : g19 ≠ g13 := Nat.ne_of_gt (Nat.lt_of_lt_of_le (lt_of_heap m13) q19)
      have n19_17 : g19 ≠ g17 := Nat.ne_of_gt (Nat.lt_of_lt_of_le (lt_of_heap m17) q19)
      refine lex_store_all g19 _ _ _ (by rfl) (by rfl) (by rfl) (Blocks.put_same _ _ _) (by rfl) (Or.inr q19) (by kernel_rfl) (by simp [Value.oneCell']) ?_
      refine lex_quietE 1 (by kernel_rfl) (by rfl) ?_
      apply Exists.intro
      refine ⟨fun x hx => ?_, ?_⟩
      · have hwx := HB8.out.trans (hx.below_of (b := w.heap.size) (by simp) HB8.out.size)
        clear hx
        simp only [List.take_succ_cons, List.take_zero]
        unfold Cx
        repeat (go_big_quiet_step (first | with_reducible exact KO49.at _ _))
        exact wpQuiet_nil rfl
      simp only [List.drop_succ_cons, List.drop_zero]
      refine lex_nil ?_
      intro w9 hx hH
      have m19 := hH g19 _ (Blocks.put_same _ _ _)
      replace m5 := hx.keep m5 (by simp)
      replace m7 := hx.keep m7 (by simp)
      replace m11 := hx.keep m11 (by simp)
      replace m13 := hx.keep m13 (by simp)
      replace m17 := hx.keep m17 (by simp)
      have HB9 := Lib.hid (HB8.out.trans (hx.below_of (b := w.heap.size) (by simp) HB8.out.size))
      replace q19 := Nat.le_trans HB8.out.size q19
      clear hx hH HB8 KO49
      go_wp2_with (with_reducible refine wpList_from 85 [0, 0, 0, 0, 3, 2, 0] [] B0 (has_B0 _) ?_)
      refine lex_quietE 4 (by kernel_rfl) (by rfl) ?_
      apply Exists.intro
      refine ⟨fun x hx => ?_, ?_⟩
      · have hwx := HB9.out.trans (hx.below_of (b := w.heap.size) (by simp) HB9.out.size)
        clear hx
        simp only [List.take_succ_cons, List.take_zero]
        unfold Cx
        repeat (go_big_quiet_step (first | with_reducible exact KO38.at _ _))
        exact wpQuiet_nil rfl
      simp only [List.drop_succ_cons, List.drop_zero]
      refine lex_alloc (.agg #[.string ByteArray.empty, .string ByteArray.empty]) (by rfl) (fun x => by kernel_rfl) (fun g21 q21 hn21 => ?_)
      unfold setSlot
      go_big_quiet_step (fail)
      refine wpQuiet_nil ?_
      clear hn21
      have n21_5 : g21 ≠ g5 := Nat.ne_of_gt (Nat.lt_of_lt_of_le (lt_of_heap m5) q21)
      have n21_7 : g21 ≠ g7 := Nat.ne_of_gt (Nat.lt_of_lt_of_le (lt_of_heap m7) q21)
      have n21_11 : g21 ≠ g11 := Nat.ne_of_gt (Nat.lt_of_lt_of_le (lt_of_heap m11) q21)
      have n21_13 : g21 ≠ g13 := Nat.ne_of_gt (Nat.lt_of_lt_of_le (lt_of_heap m13) q21)
      have n21_17 : g21 ≠ g17 := Nat.ne_of_gt (Nat.lt_of_lt_of_le (lt_of_heap m17) q21)
      have n21_19 : g21 ≠ g19 := Nat.ne_of_gt (Nat.lt_of_lt_of_le (lt_of_heap m19) q21)
      refine lex_store_all g21 _ _ _ (by rfl) (by rfl) (by rfl) (Blocks.put_same _ _ _) (by rfl) (Or.inr q21) (by kernel_rfl) (by simp [Value.oneCell']) ?_
      refine lex_quietE 1 (by kernel_rfl) (by rfl) ?_
      apply Exists.intro
      refine ⟨fun x hx => ?_, ?_⟩
      · have hwx := HB9.out.trans (hx.below_of (b := w.heap.size) (by simp) HB9.out.size)
        clear hx
        simp only [List.take_succ_cons, List.take_zero]
        unfold Cx
        repeat (go_big_quiet_step (first | with_reducible exact KO38.at _ _))
        exact wpQuiet_nil rfl
      simp only [List.drop_succ_cons, List.drop_zero]
      refine lex_nil ?_
      intro w10 hx hH
      have m21 := hH g21 _ (Blocks.put_same _ _ _)
      replace m5 := hx.keep m5 (by simp)
      replace m7 := hx.keep m7 (by simp)
      replace m11 := hx.keep m11 (by simp)
      replace m13 := hx.keep m13 (by simp)
      replace m17 := hx.keep m17 (by simp)
      replace m19 := hx.keep m19 (by simp)
      have HB10 := Lib.hid (HB9.out.trans (hx.below_of (b := w.heap.size) (by simp) HB9.out.size))
      replace q21 := Nat.le_trans HB9.out.size q21
      clear hx hH HB9 KO38
      go_wp2_with (with_reducible refine wpList_from 89 [0, 0, 0, 0, 3, 2, 0] [] B0 (has_B0 _) ?_)
      refine lex_quietE 4 (by kernel_rfl) (by rfl) ?_
      apply Exists.intro
      refine ⟨fun x hx => ?_, ?_⟩
      · have hwx := HB10.out.trans (hx.below_of (b := w.heap.size) (by simp) HB10.out.size)
        clear hx
        simp only [List.take_succ_cons, List.take_zero]
        unfold Cx
        repeat (go_big_quiet_step (first | with_reducible exact KO10.at _ _))
        exact wpQuiet_nil rfl
      simp only [List.drop_succ_cons, List.drop_zero]
      refine lex_alloc (.agg #[.string ByteArray.empty, .string ByteArray.empty]) (by rfl) (fun x => by kernel_rfl) (fun g23 q23 hn23 => ?_)
      unfold setSlot
      go_big_quiet_step (fail)
      refine wpQuiet_nil ?_
      clear hn23
      have n23_5 : g23 ≠ g5 := Nat.ne_of_gt (Nat.lt_of_lt_of_le (lt_of_heap m5) q23)
      have n23_7 : g23 ≠ g7 := Nat.ne_of_gt (Nat.lt_of_lt_of_le (lt_of_heap m7) q23)
      have n23_11 : g23 ≠ g11 := Nat.ne_of_gt (Nat.lt_of_lt_of_le (lt_of_heap m11) q23)
      have n23_13 : g23 ≠ g13 := Nat.ne_of_gt (Nat.lt_of_lt_of_le (lt_of_heap m13) q23)
      have n23_17 : g23 ≠ g17 := Nat.ne_of_gt (Nat.lt_of_lt_of_le (lt_of_heap m17) q23)
      have n23_19 : g23 ≠ g19 := Nat.ne_of_gt (Nat.lt_of_lt_of_le (lt_of_heap m19) q23)
      have n23_21 : g23 ≠ g21 := Nat.ne_of_gt (Nat.lt_of_lt_of_le (lt_of_heap m21) q23)
      refine lex_store_all g23 _ _ _ (by rfl) (by rfl) (by rfl) (Blocks.put_same _ _ _) (by rfl) (Or.inr q23) (by kernel_rfl) (by simp [Value.oneCell']) ?_
      refine lex_quietE 1 (by kernel_rfl) (by rfl) ?_
      apply Exists.intro
      refine ⟨fun x hx => ?_, ?_⟩
      · have hwx := HB10.out.trans (hx.below_of (b := w.heap.size) (by simp) HB10.out.size)
        clear hx
        simp only [List.take_succ_cons, List.take_zero]
        unfold Cx
        repeat (go_big_quiet_step (first | with_reducible exact KO10.at _ _))
        exact wpQuiet_nil rfl
      simp only [List.drop_succ_cons, List.drop_zero]
      refine lex_nil ?_
      intro w11 hx hH
      replace m5 := hx.keep m5 (by simp)
      replace m7 := hx.keep m7 (by simp)
      replace m11 := hx.keep m11 (by simp)
      replace m13 := hx.keep m13 (by simp)
      replace m17 := hx.keep m17 (by simp)
      replace m19 := hx.keep m19 (by simp)
      replace m21 := hx.keep m21 (by simp)
      have HB11 := Lib.hid (HB10.out.trans (hx.below_of (b := w.heap.size) (by simp) HB10.out.size))
      clear hx hH HB10 q23 KO10
      go_wp2_with (with_reducible refine wpList_from 92 [0, 0, 0, 0, 0, 0, 0, 0, 0, 0, 0, 0, 0, 0, 0, 0, 0, 0, 0, 0, 0, 0, 0, 0, 0, 0, 0, 0, 0, 0, 0, 0, 0, 0, 0, 0, 0, 0, 0, 0, 0, 0, 0, 0, 0, 0] [] B0 (has_B0 _) ?_)
      refine lex_quietE 46 (by kernel_rfl) (by rfl) ?_
      apply Exists.intro
      refine ⟨fun x hx => ?_, ?_⟩
      · have hwx := HB11.out.trans (hx.below_of (b := w.heap.size) (by simp) HB11.out.size)
        have e5_0 := blk_cellp (hx.keep m5 (by simp)) 0 rfl
        have e5_1 := blk_cellp (hx.keep m5 (by simp)) 1 rfl
        have e7_0 := blk_cellp (hx.keep m7 (by simp)) 0 rfl
        have e7_1 := blk_cellp (hx.keep m7 (by simp)) 1 rfl
        have e11_0 := blk_cellp (hx.keep m11 (by simp)) 0 rfl
        have e11_1 := blk_cellp (hx.keep m11 (by simp)) 1 rfl
        have e13_0 := blk_cellp (hx.keep m13 (by simp)) 0 rfl
        have e13_1 := blk_cellp (hx.keep m13 (by simp)) 1 rfl
        have e17_0 := blk_cellp (hx.keep m17 (by simp)) 0 rfl
        have e17_1 := blk_cellp (hx.keep m17 (by simp)) 1 rfl
        have e19_0 := blk_cellp (hx.keep m19 (by simp)) 0 rfl
        have e19_1 := blk_cellp (hx.keep m19 (by simp)) 1 rfl
        have e21_0 := blk_cellp (hx.keep m21 (by simp)) 0 rfl
        have e21_1 := blk_cellp (hx.keep m21 (by simp)) 1 rfl
        clear hx
        simp only [List.take_succ_cons, List.take_zero]
        unfold Cx
        repeat (go_big_quiet_step (first | with_reducible exact KA.at _ _ | with_reducible exact KT1.at _ _ | with_reducible exact KT2.at _ _ | with_reducible exact KT3.at _ _ | with_reducible exact KC.at _ _ | with_reducible exact KM.at _ _ | with_reducible exact KT4.at _ _ | with_reducible exact KW.at _ _))
        exact wpQuiet_nil rfl
      simp only [List.drop_succ_cons, List.drop_zero]
      refine lex_nil ?_
      intro w12 hx hH
      have HB12 := Lib.hid (HB11.out.trans (hx.below_of (b := w.heap.size) (by simp) HB11.out.size))
      clear hx hH HB11 m5 m7 m11 m13 m17 m19 m21 q5 q7 q11 q13 q17 q19 q21
      go_wp2_with fail
      exact bodyPost_ret (v := .bool true) (by simp [results, Try.results12, go_sem]) rfl ⟨rfl, HQ.out _ HB12.out⟩

end Go.Proofs.Ytlomlcljjidfjaa
