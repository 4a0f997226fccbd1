/- Texts of this claim, joined: VReadR. -/
import Derived.Test.YtajjgfiojlagmaaGreatDoorMO11
import Derived.Test.YtajjgfiojlagmaaGreatDoorMO13

/- The walk of Read of the reference of chapter 02, and of the law RatReads. -/
namespace Go.Proofs.YtajjgfiojlagmaaGreatDoor
open Go.RowKit Num

set_option maxHeartbeats 1600000 in
set_option maxRecDepth 100000 in
theorem w_xrread1a (s x y c1 c2 t : ByteArray) (b2 : Bool) (hno : ∀ j (h : j < s.size), ((s[j].toNat : Int) == 47) = false) (hz : s.size ≤ 1000000) (KR : Gives 58 #[.string s] (.tuple #[.string x, .bool false])) (KR2 : Gives 58 #[.string { data := #[49] }] (.tuple #[.string y, .bool b2])) (KZ : Gives 59 #[] (.agg #[.string { data := #[48] }, .string { data := #[49] }])) : Gives 37 #[.string s] (.tuple #[.agg #[.string { data := #[48] }, .string { data := #[49] }], .bool false]) := by
  intro w
  have HB0 := Lib.hid (Below.refl w.heap.size w)
  go_enter Tryz.func37, Tryz.ntmps37
  go_wp2_with (with_reducible refine wpList_from 2 [3, 0] [] B0 (has_B0 _) ?_)
  refine lex_alloc (.agg #[.string ByteArray.empty, .string ByteArray.empty]) (by rfl) (fun x => by kernel_rfl) (fun g2 q2 hn2 => ?_)
  unfold setSlot
  go_big_quiet_step (fail)
  refine wpQuiet_nil ?_
  clear hn2
  refine lex_quietE 1 (by kernel_rfl) (by rfl) ?_
  apply Exists.intro
  refine ⟨fun x hx => ?_, ?_⟩
  · have hwx := HB0.out.trans (hx.below_of (b := w.heap.size) (by simp) HB0.out.size)
    clear hx
    simp only [List.take_succ_cons, List.take_zero]
    unfold Cx
    repeat (go_big_quiet_step (fail))
    exact wpQuiet_nil rfl
  simp only [List.drop_succ_cons, List.drop_zero]
  refine lex_nil ?_
  intro w1 hx hH
  have m2 := hH g2 _ (Blocks.put_same _ _ _)
  have HB1 := Lib.hid (HB0.out.trans (hx.below_of (b := w.heap.size) (by simp) HB0.out.size))
  replace q2 := Nat.le_trans HB0.out.size q2
  clear hx hH HB0
  go_wp2_with fail
  go_loop [4, 5, 6] (fun nv dv i => ∃ q : Nat, q ≤ s.size ∧ i = .int .i64 (q : Nat) ∧ nv = .string s ∧ dv = .string { data := #[49] }) (fun _ _ i => s.size - (intOf i).toNat)
  case atStart => exact ⟨0, Nat.zero_le _, rfl, rfl, rfl⟩
  case round =>
    obtain ⟨q, hq, rfl, rfl, rfl⟩ := hrel
    by_cases hlt : q < s.size
    · have hqs : q < s.size := by omega
      have h1 := hno q hqs
      go_wp2_with fail
      go_round
      case rel => exact ⟨q + 1, by omega, by go_num, rfl, rfl⟩
      case measure => simp [intOf]; omega
    · obtain rfl : q = s.size := by omega
      clear hq hlt
      go_wp2_with (with_reducible refine wpList_from 33 [0, 0, 0, 0, 0, 0] [] B0 (has_B0 _) ?_)
      refine lex_quietE 6 (by kernel_rfl) (by rfl) ?_
      apply Exists.intro
      refine ⟨fun x hx => ?_, ?_⟩
      · have hwx := HB1.out.trans (hx.below_of (b := w.heap.size) (by simp) HB1.out.size)
        clear hx
        simp only [List.take_succ_cons, List.take_zero]
        unfold Cx
        repeat (go_big_quiet_step (first | with_reducible exact KR.at _ _))
        exact wpQuiet_nil rfl
      simp only [List.drop_succ_cons, List.drop_zero]
      refine lex_nil ?_
      intro w2 hx hH
      replace m2 := hx.keep m2 (by simp)
      have HB2 := Lib.hid (HB1.out.trans (hx.below_of (b := w.heap.size) (by simp) HB1.out.size))
      clear hx hH HB1
      go_wp2_with (with_reducible refine wpList_from 38 [0, 0, 0, 0, 0, 0] [] B0 (has_B0 _) ?_)
      refine lex_quietE 6 (by kernel_rfl) (by rfl) ?_
      apply Exists.intro
      refine ⟨fun x hx => ?_, ?_⟩
      · have hwx := HB2.out.trans (hx.below_of (b := w.heap.size) (by simp) HB2.out.size)
        clear hx
        simp only [List.take_succ_cons, List.take_zero]
        unfold Cx
        repeat (go_big_quiet_step (first | with_reducible exact KR2.at _ _))
        exact wpQuiet_nil rfl
      simp only [List.drop_succ_cons, List.drop_zero]
      refine lex_nil ?_
      intro w3 hx hH
      replace m2 := hx.keep m2 (by simp)
      have HB3 := Lib.hid (HB2.out.trans (hx.below_of (b := w.heap.size) (by simp) HB2.out.size))
      clear hx hH HB2
      go_wp2_with (with_reducible refine wpList_from 47 [0, 2, 0] [g2] _ (has_put (has_B0 _) m2) ?_)
      refine lex_quietE 1 (by kernel_rfl) (by rfl) ?_
      apply Exists.intro
      refine ⟨fun x hx => ?_, ?_⟩
      · have hwx := HB3.out.trans (hx.below_of (b := w.heap.size) (by simp [q2]) HB3.out.size)
        clear hx
        simp only [List.take_succ_cons, List.take_zero]
        unfold Cx
        repeat (go_big_quiet_step (first | with_reducible exact KZ.at _ _))
        exact wpQuiet_nil rfl
      simp only [List.drop_succ_cons, List.drop_zero]
      refine lex_store_all g2 _ _ _ (by rfl) (by rfl) (by rfl) (Blocks.put_same _ _ _) (by rfl) (Or.inl (by simp)) (by kernel_rfl) (by simp [Value.oneCell']) ?_
      refine lex_quietE 1 (by kernel_rfl) (by rfl) ?_
      apply Exists.intro
      refine ⟨fun x hx => ?_, ?_⟩
      · have hwx := HB3.out.trans (hx.below_of (b := w.heap.size) (by simp [q2]) HB3.out.size)
        clear hx
        simp only [List.take_succ_cons, List.take_zero]
        unfold Cx
        repeat (go_big_quiet_step (first | with_reducible exact KZ.at _ _))
        exact wpQuiet_nil rfl
      simp only [List.drop_succ_cons, List.drop_zero]
      refine lex_nil ?_
      intro w4 hx hH
      replace m2 := hH g2 _ (Blocks.put_same _ _ _)
      have HB4 := Lib.hid (HB3.out.trans (hx.below_of (b := w.heap.size) (by simp [q2]) HB3.out.size))
      clear hx hH HB3
      have c2_0 := blk_cell m2 0 rfl
      have c2_1 := blk_cell m2 1 rfl
      go_wp2_with fail
      exact bodyPost_ret (v := .tuple #[.agg #[.string { data := #[48] }, .string { data := #[49] }], .bool false]) (by simp [results, Tryz.results37, go_sem, c2_0, c2_1]) rfl ⟨rfl, HB4.out⟩

set_option maxHeartbeats 1600000 in
set_option maxRecDepth 100000 in
theorem w_xrread1e (s x y c1 c2 t : ByteArray) (b2 : Bool) (hno : ∀ j (h : j < s.size), ((s[j].toNat : Int) == 47) = false) (hz : s.size ≤ 1000000) (KR : Gives 58 #[.string s] (.tuple #[.string x, .bool true])) (KR2 : Gives 58 #[.string { data := #[49] }] (.tuple #[.string y, .bool true])) (KN : Gives 60 #[.string x, .string y] (.tuple #[.agg #[.string c1, .string c2], .bool true])) (KT : Gives 61 #[.agg #[.string c1, .string c2]] (.string s)) : Gives 37 #[.string s] (.tuple #[.agg #[.string c1, .string c2], .bool true]) := by
  intro w
  have HB0 := Lib.hid (Below.refl w.heap.size w)
  go_enter Tryz.func37, Tryz.ntmps37
  go_wp2_with (with_reducible refine wpList_from 2 [3, 0] [] B0 (has_B0 _) ?_)
  refine lex_alloc (.agg #[.string ByteArray.empty, .string ByteArray.empty]) (by rfl) (fun x => by kernel_rfl) (fun g2 q2 hn2 => ?_)
  unfold setSlot
  go_big_quiet_step (fail)
  refine wpQuiet_nil ?_
  clear hn2
  refine lex_quietE 1 (by kernel_rfl) (by rfl) ?_
  apply Exists.intro
  refine ⟨fun x hx => ?_, ?_⟩
  · have hwx := HB0.out.trans (hx.below_of (b := w.heap.size) (by simp) HB0.out.size)
    clear hx
    simp only [List.take_succ_cons, List.take_zero]
    unfold Cx
    repeat (go_big_quiet_step (fail))
    exact wpQuiet_nil rfl
  simp only [List.drop_succ_cons, List.drop_zero]
  refine lex_nil ?_
  intro w1 hx hH
  have m2 := hH g2 _ (Blocks.put_same _ _ _)
  have HB1 := Lib.hid (HB0.out.trans (hx.below_of (b := w.heap.size) (by simp) HB0.out.size))
  replace q2 := Nat.le_trans HB0.out.size q2
  clear hx hH HB0
  go_wp2_with fail
  go_loop [4, 5, 6] (fun nv dv i => ∃ q : Nat, q ≤ s.size ∧ i = .int .i64 (q : Nat) ∧ nv = .string s ∧ dv = .string { data := #[49] }) (fun _ _ i => s.size - (intOf i).toNat)
  case atStart => exact ⟨0, Nat.zero_le _, rfl, rfl, rfl⟩
  case round =>
    obtain ⟨q, hq, rfl, rfl, rfl⟩ := hrel
    by_cases hlt : q < s.size
    · have hqs : q < s.size := by omega
      have h1 := hno q hqs
      go_wp2_with fail
      go_round
      case rel => exact ⟨q + 1, by omega, by go_num, rfl, rfl⟩
      case measure => simp [intOf]; omega
    · obtain rfl : q = s.size := by omega
      clear hq hlt
      go_wp2_with (with_reducible refine wpList_from 33 [0, 0, 0, 0, 0, 0] [] B0 (has_B0 _) ?_)
      refine lex_quietE 6 (by kernel_rfl) (by rfl) ?_
      apply Exists.intro
      refine ⟨fun x hx => ?_, ?_⟩
      · have hwx := HB1.out.trans (hx.below_of (b := w.heap.size) (by simp) HB1.out.size)
        clear hx
        simp only [List.take_succ_cons, List.take_zero]
        unfold Cx
        repeat (go_big_quiet_step (first | with_reducible exact KR.at _ _))
        exact wpQuiet_nil rfl
      simp only [List.drop_succ_cons, List.drop_zero]
      refine lex_nil ?_
      intro w2 hx hH
      replace m2 := hx.keep m2 (by simp)
      have HB2 := Lib.hid (HB1.out.trans (hx.below_of (b := w.heap.size) (by simp) HB1.out.size))
      clear hx hH HB1
      go_wp2_with (with_reducible refine wpList_from 38 [0, 0, 0, 0, 0, 0] [] B0 (has_B0 _) ?_)
      refine lex_quietE 6 (by kernel_rfl) (by rfl) ?_
      apply Exists.intro
      refine ⟨fun x hx => ?_, ?_⟩
      · have hwx := HB2.out.trans (hx.below_of (b := w.heap.size) (by simp) HB2.out.size)
        clear hx
        simp only [List.take_succ_cons, List.take_zero]
        unfold Cx
        repeat (go_big_quiet_step (first | with_reducible exact KR2.at _ _))
        exact wpQuiet_nil rfl
      simp only [List.drop_succ_cons, List.drop_zero]
      refine lex_nil ?_
      intro w3 hx hH
      replace m2 := hx.keep m2 (by simp)
      have HB3 := Lib.hid (HB2.out.trans (hx.below_of (b := w.heap.size) (by simp) HB2.out.size))
      clear hx hH HB2
      go_wp2_with (with_reducible refine wpList_from 51 [0, 0, 0, 0, 3, 2, 0] [] B0 (has_B0 _) ?_)
      refine lex_quietE 4 (by kernel_rfl) (by rfl) ?_
      apply Exists.intro
      refine ⟨fun x hx => ?_, ?_⟩
      · have hwx := HB3.out.trans (hx.below_of (b := w.heap.size) (by simp) HB3.out.size)
        clear hx
        simp only [List.take_succ_cons, List.take_zero]
        unfold Cx
        repeat (go_big_quiet_step (first | with_reducible exact KN.at _ _))
        exact wpQuiet_nil rfl
      simp only [List.drop_succ_cons, List.drop_zero]
      refine lex_alloc (.agg #[.string ByteArray.empty, .string ByteArray.empty]) (by rfl) (fun x => by kernel_rfl) (fun g11 q11 hn11 => ?_)
      unfold setSlot
      go_big_quiet_step (fail)
      refine wpQuiet_nil ?_
      clear hn11
      have n11_2 : g11 ≠ g2 := Nat.ne_of_gt (Nat.lt_of_lt_of_le (lt_of_heap m2) q11)
      refine lex_store_all g11 _ _ _ (by rfl) (by rfl) (by rfl) (Blocks.put_same _ _ _) (by rfl) (Or.inr q11) (by kernel_rfl) (by simp [Value.oneCell']) ?_
      refine lex_quietE 1 (by kernel_rfl) (by rfl) ?_
      apply Exists.intro
      refine ⟨fun x hx => ?_, ?_⟩
      · have hwx := HB3.out.trans (hx.below_of (b := w.heap.size) (by simp) HB3.out.size)
        clear hx
        simp only [List.take_succ_cons, List.take_zero]
        unfold Cx
        repeat (go_big_quiet_step (first | with_reducible exact KN.at _ _))
        exact wpQuiet_nil rfl
      simp only [List.drop_succ_cons, List.drop_zero]
      refine lex_nil ?_
      intro w4 hx hH
      have m11 := hH g11 _ (Blocks.put_same _ _ _)
      replace m2 := hx.keep m2 (by simp)
      have HB4 := Lib.hid (HB3.out.trans (hx.below_of (b := w.heap.size) (by simp) HB3.out.size))
      replace q11 := Nat.le_trans HB3.out.size q11
      clear hx hH HB3
      go_wp2_with (with_reducible refine wpList_from 57 [0, 0, 0, 0, 0] [] B0 (has_B0 _) ?_)
      refine lex_quietE 5 (by kernel_rfl) (by rfl) ?_
      apply Exists.intro
      refine ⟨fun x hx => ?_, ?_⟩
      · have hwx := HB4.out.trans (hx.below_of (b := w.heap.size) (by simp) HB4.out.size)
        have e11_0 := blk_cellp (hx.keep m11 (by simp)) 0 rfl
        have e11_1 := blk_cellp (hx.keep m11 (by simp)) 1 rfl
        clear hx
        simp only [List.take_succ_cons, List.take_zero]
        unfold Cx
        repeat (go_big_quiet_step (first | with_reducible exact KT.at _ _))
        exact wpQuiet_nil rfl
      simp only [List.drop_succ_cons, List.drop_zero]
      refine lex_nil ?_
      intro w5 hx hH
      replace m2 := hx.keep m2 (by simp)
      replace m11 := hx.keep m11 (by simp)
      have HB5 := Lib.hid (HB4.out.trans (hx.below_of (b := w.heap.size) (by simp) HB4.out.size))
      clear hx hH HB4
      go_wp2_with (with_reducible refine wpList_from 63 [0, 2, 0] [g2] _ (has_put (has_B0 _) m2) ?_)
      refine lex_quietE 1 (by kernel_rfl) (by rfl) ?_
      apply Exists.intro
      refine ⟨fun x hx => ?_, ?_⟩
      · have hwx := HB5.out.trans (hx.below_of (b := w.heap.size) (by simp [q2]) HB5.out.size)
        have e11_0 := blk_cellp (hx.keep m11 (by simp [n11_2])) 0 rfl
        have e11_1 := blk_cellp (hx.keep m11 (by simp [n11_2])) 1 rfl
        clear hx
        simp only [List.take_succ_cons, List.take_zero]
        unfold Cx
        repeat (go_big_quiet_step (fail))
        exact wpQuiet_nil rfl
      simp only [List.drop_succ_cons, List.drop_zero]
      refine lex_store_all g2 _ _ _ (by rfl) (by rfl) (by rfl) (Blocks.put_same _ _ _) (by rfl) (Or.inl (by simp)) (by kernel_rfl) (by simp [Value.oneCell']) ?_
      refine lex_quietE 1 (by kernel_rfl) (by rfl) ?_
      apply Exists.intro
      refine ⟨fun x hx => ?_, ?_⟩
      · have hwx := HB5.out.trans (hx.below_of (b := w.heap.size) (by simp [q2]) HB5.out.size)
        have e11_0 := blk_cellp (hx.keep m11 (by simp [n11_2])) 0 rfl
        have e11_1 := blk_cellp (hx.keep m11 (by simp [n11_2])) 1 rfl
        clear hx
        simp only [List.take_succ_cons, List.take_zero]
        unfold Cx
        repeat (go_big_quiet_step (fail))
        exact wpQuiet_nil rfl
      simp only [List.drop_succ_cons, List.drop_zero]
      refine lex_nil ?_
      intro w6 hx hH
      replace m2 := hH g2 _ (Blocks.put_same _ _ _)
      have HB6 := Lib.hid (HB5.out.trans (hx.below_of (b := w.heap.size) (by simp [q2]) HB5.out.size))
      clear hx hH HB5 m11 q11
      have c2_0 := blk_cell m2 0 rfl
      have c2_1 := blk_cell m2 1 rfl
      go_wp2_with fail
      exact bodyPost_ret (v := .tuple #[.agg #[.string c1, .string c2], .bool true]) (by simp [results, Tryz.results37, go_sem, c2_0, c2_1]) rfl ⟨rfl, HB6.out⟩

set_option maxHeartbeats 1600000 in
set_option maxRecDepth 100000 in
theorem w_xrread2a (s x y c1 c2 t : ByteArray) (b2 : Bool) (k : Nat) (hk : k < s.size) (h47 : ((s[k].toNat : Int) == 47) = true) (hno : ∀ j (h : j < s.size), j < k → ((s[j].toNat : Int) == 47) = false) (hz : s.size ≤ 1000000) (KR : Gives 58 #[.string (s.extract 0 k)] (.tuple #[.string x, .bool false])) (KR2 : Gives 58 #[.string (s.extract (k + 1) s.size)] (.tuple #[.string y, .bool b2])) (KZ : Gives 59 #[] (.agg #[.string { data := #[48] }, .string { data := #[49] }])) : Gives 37 #[.string s] (.tuple #[.agg #[.string { data := #[48] }, .string { data := #[49] }], .bool false]) := by
  intro w
  have HB0 := Lib.hid (Below.refl w.heap.size w)
  go_enter Tryz.func37, Tryz.ntmps37
  go_wp2_with (with_reducible refine wpList_from 2 [3, 0] [] B0 (has_B0 _) ?_)
  refine lex_alloc (.agg #[.string ByteArray.empty, .string ByteArray.empty]) (by rfl) (fun x => by kernel_rfl) (fun g2 q2 hn2 => ?_)
  unfold setSlot
  go_big_quiet_step (fail)
  refine wpQuiet_nil ?_
  clear hn2
  refine lex_quietE 1 (by kernel_rfl) (by rfl) ?_
  apply Exists.intro
  refine ⟨fun x hx => ?_, ?_⟩
  · have hwx := HB0.out.trans (hx.below_of (b := w.heap.size) (by simp) HB0.out.size)
    clear hx
    simp only [List.take_succ_cons, List.take_zero]
    unfold Cx
    repeat (go_big_quiet_step (fail))
    exact wpQuiet_nil rfl
  simp only [List.drop_succ_cons, List.drop_zero]
  refine lex_nil ?_
  intro w1 hx hH
  have m2 := hH g2 _ (Blocks.put_same _ _ _)
  have HB1 := Lib.hid (HB0.out.trans (hx.below_of (b := w.heap.size) (by simp) HB0.out.size))
  replace q2 := Nat.le_trans HB0.out.size q2
  clear hx hH HB0
  go_wp2_with fail
  go_loop [4, 5, 6] (fun nv dv i => ∃ q : Nat, q ≤ k ∧ i = .int .i64 (q : Nat) ∧ nv = .string s ∧ dv = .string { data := #[49] }) (fun _ _ i => k - (intOf i).toNat)
  case atStart => exact ⟨0, Nat.zero_le _, rfl, rfl, rfl⟩
  case round =>
    obtain ⟨q, hq, rfl, rfl, rfl⟩ := hrel
    by_cases hlt : q < k
    · have hqs : q < s.size := by omega
      have h1 := hno q hqs hlt
      go_wp2_with fail
      go_round
      case rel => exact ⟨q + 1, by omega, by go_num, rfl, rfl⟩
      case measure => simp [intOf]; omega
    · obtain rfl : q = k := by omega
      clear hq hlt
      go_wp2_with fail
      refine wp_game [0, 0, 0, 0, 0, 0, 0, 0, 0] [] B0 fin_B0 (has_B0 _) (by kernel_rfl) (by kernel_rfl) ?_
      refine lex_quietE 9 (by kernel_rfl) (by rfl) ?_
      apply Exists.intro
      refine ⟨fun x hx => ?_, ?_⟩
      · have hwx := HB1.out.trans (hx.below_of (b := w.heap.size) (by simp) HB1.out.size)
        clear hx
        simp only [List.take_succ_cons, List.take_zero]
        unfold Cx
        repeat (go_big_quiet_step (fail))
        exact wpQuiet_nil rfl
      simp only [List.drop_succ_cons, List.drop_zero]
      refine lex_nil ?_
      intro w2 hx hH
      replace m2 := hx.keep m2 (by simp)
      have HB2 := Lib.hid (HB1.out.trans (hx.below_of (b := w.heap.size) (by simp) HB1.out.size))
      clear hx hH HB1
      go_wp2_with (with_reducible refine wpList_from 33 [0, 0, 0, 0, 0, 0] [] B0 (has_B0 _) ?_)
      refine lex_quietE 6 (by kernel_rfl) (by rfl) ?_
      apply Exists.intro
      refine ⟨fun x hx => ?_, ?_⟩
      · have hwx := HB2.out.trans (hx.below_of (b := w.heap.size) (by simp) HB2.out.size)
        clear hx
        simp only [List.take_succ_cons, List.take_zero]
        unfold Cx
        repeat (go_big_quiet_step (first | with_reducible exact KR.at _ _))
        exact wpQuiet_nil rfl
      simp only [List.drop_succ_cons, List.drop_zero]
      refine lex_nil ?_
      intro w3 hx hH
      replace m2 := hx.keep m2 (by simp)
      have HB3 := Lib.hid (HB2.out.trans (hx.below_of (b := w.heap.size) (by simp) HB2.out.size))
      clear hx hH HB2
      go_wp2_with (with_reducible refine wpList_from 38 [0, 0, 0, 0, 0, 0] [] B0 (has_B0 _) ?_)
      refine lex_quietE 6 (by kernel_rfl) (by rfl) ?_
      apply Exists.intro
      refine ⟨fun x hx => ?_, ?_⟩
      · have hwx := HB3.out.trans (hx.below_of (b := w.heap.size) (by simp) HB3.out.size)
        clear hx
        simp only [List.take_succ_cons, List.take_zero]
        unfold Cx
        repeat (go_big_quiet_step (first | with_reducible exact KR2.at _ _))
        exact wpQuiet_nil rfl
      simp only [List.drop_succ_cons, List.drop_zero]
      refine lex_nil ?_
      intro w4 hx hH
      replace m2 := hx.keep m2 (by simp)
      have HB4 := Lib.hid (HB3.out.trans (hx.below_of (b := w.heap.size) (by simp) HB3.out.size))
      clear hx hH HB3
      go_wp2_with (with_reducible refine wpList_from 47 [0, 2, 0] [g2] _ (has_put (has_B0 _) m2) ?_)
      refine lex_quietE 1 (by kernel_rfl) (by rfl) ?_
      apply Exists.intro
      refine ⟨fun x hx => ?_, ?_⟩
      · have hwx := HB4.out.trans (hx.below_of (b := w.heap.size) (by simp [q2]) HB4.out.size)
        clear hx
        simp only [List.take_succ_cons, List.take_zero]
        unfold Cx
        repeat (go_big_quiet_step (first | with_reducible exact KZ.at _ _))
        exact wpQuiet_nil rfl
      simp only [List.drop_succ_cons, List.drop_zero]
      refine lex_store_all g2 _ _ _ (by rfl) (by rfl) (by rfl) (Blocks.put_same _ _ _) (by rfl) (Or.inl (by simp)) (by kernel_rfl) (by simp [Value.oneCell']) ?_
      refine lex_quietE 1 (by kernel_rfl) (by rfl) ?_
      apply Exists.intro
      refine ⟨fun x hx => ?_, ?_⟩
      · have hwx := HB4.out.trans (hx.below_of (b := w.heap.size) (by simp [q2]) HB4.out.size)
        clear hx
        simp only [List.take_succ_cons, List.take_zero]
        unfold Cx
        repeat (go_big_quiet_step (first | with_reducible exact KZ.at _ _))
        exact wpQuiet_nil rfl
      simp only [List.drop_succ_cons, List.drop_zero]
      refine lex_nil ?_
      intro w5 hx hH
      replace m2 := hH g2 _ (Blocks.put_same _ _ _)
      have HB5 := Lib.hid (HB4.out.trans (hx.below_of (b := w.heap.size) (by simp [q2]) HB4.out.size))
      clear hx hH HB4
      have c2_0 := blk_cell m2 0 rfl
      have c2_1 := blk_cell m2 1 rfl
      go_wp2_with fail
      exact bodyPost_ret (v := .tuple #[.agg #[.string { data := #[48] }, .string { data := #[49] }], .bool false]) (by simp [results, Tryz.results37, go_sem, c2_0, c2_1]) rfl ⟨rfl, HB5.out⟩

set_option maxHeartbeats 1600000 in
set_option maxRecDepth 100000 in
theorem w_xrread2b (s x y c1 c2 t : ByteArray) (b2 : Bool) (k : Nat) (hk : k < s.size) (h47 : ((s[k].toNat : Int) == 47) = true) (hno : ∀ j (h : j < s.size), j < k → ((s[j].toNat : Int) == 47) = false) (hz : s.size ≤ 1000000) (KR : Gives 58 #[.string (s.extract 0 k)] (.tuple #[.string x, .bool true])) (KR2 : Gives 58 #[.string (s.extract (k + 1) s.size)] (.tuple #[.string y, .bool false])) (KZ : Gives 59 #[] (.agg #[.string { data := #[48] }, .string { data := #[49] }])) : Gives 37 #[.string s] (.tuple #[.agg #[.string { data := #[48] }, .string { data := #[49] }], .bool false]) := by
  intro w
  have HB0 := Lib.hid (Below.refl w.heap.size w)
  go_enter Tryz.func37, Tryz.ntmps37
  go_wp2_with (with_reducible refine wpList_from 2 [3, 0] [] B0 (has_B0 _) ?_)
  refine lex_alloc (.agg #[.string ByteArray.empty, .string ByteArray.empty]) (by rfl) (fun x => by kernel_rfl) (fun g2 q2 hn2 => ?_)
  unfold setSlot
  go_big_quiet_step (fail)
  refine wpQuiet_nil ?_
  clear hn2
  refine lex_quietE 1 (by kernel_rfl) (by rfl) ?_
  apply Exists.intro
  refine ⟨fun x hx => ?_, ?_⟩
  · have hwx := HB0.out.trans (hx.below_of (b := w.heap.size) (by simp) HB0.out.size)
    clear hx
    simp only [List.take_succ_cons, List.take_zero]
    unfold Cx
    repeat (go_big_quiet_step (fail))
    exact wpQuiet_nil rfl
  simp only [List.drop_succ_cons, List.drop_zero]
  refine lex_nil ?_
  intro w1 hx hH
  have m2 := hH g2 _ (Blocks.put_same _ _ _)
  have HB1 := Lib.hid (HB0.out.trans (hx.below_of (b := w.heap.size) (by simp) HB0.out.size))
  replace q2 := Nat.le_trans HB0.out.size q2
  clear hx hH HB0
  go_wp2_with fail
  go_loop [4, 5, 6] (fun nv dv i => ∃ q : Nat, q ≤ k ∧ i = .int .i64 (q : Nat) ∧ nv = .string s ∧ dv = .string { data := #[49] }) (fun _ _ i => k - (intOf i).toNat)
  case atStart => exact ⟨0, Nat.zero_le _, rfl, rfl, rfl⟩
  case round =>
    obtain ⟨q, hq, rfl, rfl, rfl⟩ := hrel
    by_cases hlt : q < k
    · have hqs : q < s.size := by omega
      have h1 := hno q hqs hlt
      go_wp2_with fail
      go_round
      case rel => exact ⟨q + 1, by omega, by go_num, rfl, rfl⟩
      case measure => simp [intOf]; omega
    · obtain rfl : q = k := by omega
      clear hq hlt
      go_wp2_with fail
      refine wp_game [0, 0, 0, 0, 0, 0, 0, 0, 0] [] B0 fin_B0 (has_B0 _) (by kernel_rfl) (by kernel_rfl) ?_
      refine lex_quietE 9 (by kernel_rfl) (by rfl) ?_
      apply Exists.intro
      refine ⟨fun x hx => ?_, ?_⟩
      · have hwx := HB1.out.trans (hx.below_of (b := w.heap.size) (by simp) HB1.out.size)
        clear hx
        simp only [List.take_succ_cons, List.take_zero]
        unfold Cx
        repeat (go_big_quiet_step (fail))
        exact wpQuiet_nil rfl
      simp only [List.drop_succ_cons, List.drop_zero]
      refine lex_nil ?_
      intro w2 hx hH
      replace m2 := hx.keep m2 (by simp)
      have HB2 := Lib.hid (HB1.out.trans (hx.below_of (b := w.heap.size) (by simp) HB1.out.size))
      clear hx hH HB1
      go_wp2_with (with_reducible refine wpList_from 33 [0, 0, 0, 0, 0, 0] [] B0 (has_B0 _) ?_)
      refine lex_quietE 6 (by kernel_rfl) (by rfl) ?_
      apply Exists.intro
      refine ⟨fun x hx => ?_, ?_⟩
      · have hwx := HB2.out.trans (hx.below_of (b := w.heap.size) (by simp) HB2.out.size)
        clear hx
        simp only [List.take_succ_cons, List.take_zero]
        unfold Cx
        repeat (go_big_quiet_step (first | with_reducible exact KR.at _ _))
        exact wpQuiet_nil rfl
      simp only [List.drop_succ_cons, List.drop_zero]
      refine lex_nil ?_
      intro w3 hx hH
      replace m2 := hx.keep m2 (by simp)
      have HB3 := Lib.hid (HB2.out.trans (hx.below_of (b := w.heap.size) (by simp) HB2.out.size))
      clear hx hH HB2
      go_wp2_with (with_reducible refine wpList_from 38 [0, 0, 0, 0, 0, 0] [] B0 (has_B0 _) ?_)
      refine lex_quietE 6 (by kernel_rfl) (by rfl) ?_
      apply Exists.intro
      refine ⟨fun x hx => ?_, ?_⟩
      · have hwx := HB3.out.trans (hx.below_of (b := w.heap.size) (by simp) HB3.out.size)
        clear hx
        simp only [List.take_succ_cons, List.take_zero]
        unfold Cx
        repeat (go_big_quiet_step (first | with_reducible exact KR2.at _ _))
        exact wpQuiet_nil rfl
      simp only [List.drop_succ_cons, List.drop_zero]
      refine lex_nil ?_
      intro w4 hx hH
      replace m2 := hx.keep m2 (by simp)
      have HB4 := Lib.hid (HB3.out.trans (hx.below_of (b := w.heap.size) (by simp) HB3.out.size))
      clear hx hH HB3
      go_wp2_with (with_reducible refine wpList_from 47 [0, 2, 0] [g2] _ (has_put (has_B0 _) m2) ?_)
      refine lex_quietE 1 (by kernel_rfl) (by rfl) ?_
      apply Exists.intro
      refine ⟨fun x hx => ?_, ?_⟩
      · have hwx := HB4.out.trans (hx.below_of (b := w.heap.size) (by simp [q2]) HB4.out.size)
        clear hx
        simp only [List.take_succ_cons, List.take_zero]
        unfold Cx
        repeat (go_big_quiet_step (first | with_reducible exact KZ.at _ _))
        exact wpQuiet_nil rfl
      simp only [List.drop_succ_cons, List.drop_zero]
      refine lex_store_all g2 _ _ _ (by rfl) (by rfl) (by rfl) (Blocks.put_same _ _ _) (by rfl) (Or.inl (by simp)) (by kernel_rfl) (by simp [Value.oneCell']) ?_
      refine lex_quietE 1 (by kernel_rfl) (by rfl) ?_
      apply Exists.intro
      refine ⟨fun x hx => ?_, ?_⟩
      · have hwx := HB4.out.trans (hx.below_of (b := w.heap.size) (by simp [q2]) HB4.out.size)
        clear hx
        simp only [List.take_succ_cons, List.take_zero]
        unfold Cx
        repeat (go_big_quiet_step (first | with_reducible exact KZ.at _ _))
        exact wpQuiet_nil rfl
      simp only [List.drop_succ_cons, List.drop_zero]
      refine lex_nil ?_
      intro w5 hx hH
      replace m2 := hH g2 _ (Blocks.put_same _ _ _)
      have HB5 := Lib.hid (HB4.out.trans (hx.below_of (b := w.heap.size) (by simp [q2]) HB4.out.size))
      clear hx hH HB4
      have c2_0 := blk_cell m2 0 rfl
      have c2_1 := blk_cell m2 1 rfl
      go_wp2_with fail
      exact bodyPost_ret (v := .tuple #[.agg #[.string { data := #[48] }, .string { data := #[49] }], .bool false]) (by simp [results, Tryz.results37, go_sem, c2_0, c2_1]) rfl ⟨rfl, HB5.out⟩

set_option maxHeartbeats 1600000 in
set_option maxRecDepth 100000 in
theorem w_xrread2c (s x y c1 c2 t : ByteArray) (b2 : Bool) (k : Nat) (hk : k < s.size) (h47 : ((s[k].toNat : Int) == 47) = true) (hno : ∀ j (h : j < s.size), j < k → ((s[j].toNat : Int) == 47) = false) (hz : s.size ≤ 1000000) (KR : Gives 58 #[.string (s.extract 0 k)] (.tuple #[.string x, .bool true])) (KR2 : Gives 58 #[.string (s.extract (k + 1) s.size)] (.tuple #[.string y, .bool true])) (KN : Gives 60 #[.string x, .string y] (.tuple #[.agg #[.string c1, .string c2], .bool false])) (KZ : Gives 59 #[] (.agg #[.string { data := #[48] }, .string { data := #[49] }])) : Gives 37 #[.string s] (.tuple #[.agg #[.string { data := #[48] }, .string { data := #[49] }], .bool false]) := by
  intro w
  have HB0 := Lib.hid (Below.refl w.heap.size w)
  go_enter Tryz.func37, Tryz.ntmps37
  go_wp2_with (with_reducible refine wpList_from 2 [3, 0] [] B0 (has_B0 _) ?_)
  refine lex_alloc (.agg #[.string ByteArray.empty, .string ByteArray.empty]) (by rfl) (fun x => by kernel_rfl) (fun g2 q2 hn2 => ?_)
  unfold setSlot
  go_big_quiet_step (fail)
  refine wpQuiet_nil ?_
  clear hn2
  refine lex_quietE 1 (by kernel_rfl) (by rfl) ?_
  apply Exists.intro
  refine ⟨fun x hx => ?_, ?_⟩
  · have hwx := HB0.out.trans (hx.below_of (b := w.heap.size) (by simp) HB0.out.size)
    clear hx
    simp only [List.take_succ_cons, List.take_zero]
    unfold Cx
    repeat (go_big_quiet_step (fail))
    exact wpQuiet_nil rfl
  simp only [List.drop_succ_cons, List.drop_zero]
  refine lex_nil ?_
  intro w1 hx hH
  have m2 := hH g2 _ (Blocks.put_same _ _ _)
  have HB1 := Lib.hid (HB0.out.trans (hx.below_of (b := w.heap.size) (by simp) HB0.out.size))
  replace q2 := Nat.le_trans HB0.out.size q2
  clear hx hH HB0
  go_wp2_with fail
  go_loop [4, 5, 6] (fun nv dv i => ∃ q : Nat, q ≤ k ∧ i = .int .i64 (q : Nat) ∧ nv = .string s ∧ dv = .string { data := #[49] }) (fun _ _ i => k - (intOf i).toNat)
  case atStart => exact ⟨0, Nat.zero_le _, rfl, rfl, rfl⟩
  case round =>
    obtain ⟨q, hq, rfl, rfl, rfl⟩ := hrel
    by_cases hlt : q < k
    · have hqs : q < s.size := by omega
      have h1 := hno q hqs hlt
      go_wp2_with fail
      go_round
      case rel => exact ⟨q + 1, by omega, by go_num, rfl, rfl⟩
      case measure => simp [intOf]; omega
    · obtain rfl : q = k := by omega
      clear hq hlt
      go_wp2_with fail
      refine wp_game [0, 0, 0, 0, 0, 0, 0, 0, 0] [] B0 fin_B0 (has_B0 _) (by kernel_rfl) (by kernel_rfl) ?_
      refine lex_quietE 9 (by kernel_rfl) (by rfl) ?_
      apply Exists.intro
      refine ⟨fun x hx => ?_, ?_⟩
      · have hwx := HB1.out.trans (hx.below_of (b := w.heap.size) (by simp) HB1.out.size)
        clear hx
        simp only [List.take_succ_cons, List.take_zero]
        unfold Cx
        repeat (go_big_quiet_step (fail))
        exact wpQuiet_nil rfl
      simp only [List.drop_succ_cons, List.drop_zero]
      refine lex_nil ?_
      intro w2 hx hH
      replace m2 := hx.keep m2 (by simp)
      have HB2 := Lib.hid (HB1.out.trans (hx.below_of (b := w.heap.size) (by simp) HB1.out.size))
      clear hx hH HB1
      go_wp2_with (with_reducible refine wpList_from 33 [0, 0, 0, 0, 0, 0] [] B0 (has_B0 _) ?_)
      refine lex_quietE 6 (by kernel_rfl) (by rfl) ?_
      apply Exists.intro
      refine ⟨fun x hx => ?_, ?_⟩
      · have hwx := HB2.out.trans (hx.below_of (b := w.heap.size) (by simp) HB2.out.size)
        clear hx
        simp only [List.take_succ_cons, List.take_zero]
        unfold Cx
        repeat (go_big_quiet_step (first | with_reducible exact KR.at _ _))
        exact wpQuiet_nil rfl
      simp only [List.drop_succ_cons, List.drop_zero]
      refine lex_nil ?_
      intro w3 hx hH
      replace m2 := hx.keep m2 (by simp)
      have HB3 := Lib.hid (HB2.out.trans (hx.below_of (b := w.heap.size) (by simp) HB2.out.size))
      clear hx hH HB2
      go_wp2_with (with_reducible refine wpList_from 38 [0, 0, 0, 0, 0, 0] [] B0 (has_B0 _) ?_)
      refine lex_quietE 6 (by kernel_rfl) (by rfl) ?_
      apply Exists.intro
      refine ⟨fun x hx => ?_, ?_⟩
      · have hwx := HB3.out.trans (hx.below_of (b := w.heap.size) (by simp) HB3.out.size)
        clear hx
        simp only [List.take_succ_cons, List.take_zero]
        unfold Cx
        repeat (go_big_quiet_step (first | with_reducible exact KR2.at _ _))
        exact wpQuiet_nil rfl
      simp only [List.drop_succ_cons, List.drop_zero]
      refine lex_nil ?_
      intro w4 hx hH
      replace m2 := hx.keep m2 (by simp)
      have HB4 := Lib.hid (HB3.out.trans (hx.below_of (b := w.heap.size) (by simp) HB3.out.size))
      clear hx hH HB3
      go_wp2_with (with_reducible refine wpList_from 51 [0, 0, 0, 0, 3, 2, 0] [] B0 (has_B0 _) ?_)
      refine lex_quietE 4 (by kernel_rfl) (by rfl) ?_
      apply Exists.intro
      refine ⟨fun x hx => ?_, ?_⟩
      · have hwx := HB4.out.trans (hx.below_of (b := w.heap.size) (by simp) HB4.out.size)
        clear hx
        simp only [List.take_succ_cons, List.take_zero]
        unfold Cx
        repeat (go_big_quiet_step (first | with_reducible exact KN.at _ _))
        exact wpQuiet_nil rfl
      simp only [List.drop_succ_cons, List.drop_zero]
      refine lex_alloc (.agg #[.string ByteArray.empty, .string ByteArray.empty]) (by rfl) (fun x => by kernel_rfl) (fun g11 q11 hn11 => ?_)
      unfold setSlot
      go_big_quiet_step (fail)
      refine wpQuiet_nil ?_
      clear hn11
      have n11_2 : g11 ≠ g2 := Nat.ne_of_gt (Nat.lt_of_lt_of_le (lt_of_heap m2) q11)
      refine lex_store_all g11 _ _ _ (by rfl) (by rfl) (by rfl) (Blocks.put_same _ _ _) (by rfl) (Or.inr q11) (by kernel_rfl) (by simp [Value.oneCell']) ?_
      refine lex_quietE 1 (by kernel_rfl) (by rfl) ?_
      apply Exists.intro
      refine ⟨fun x hx => ?_, ?_⟩
      · have hwx := HB4.out.trans (hx.below_of (b := w.heap.size) (by simp) HB4.out.size)
        clear hx
        simp only [List.take_succ_cons, List.take_zero]
        unfold Cx
        repeat (go_big_quiet_step (first | with_reducible exact KN.at _ _))
        exact wpQuiet_nil rfl
      simp only [List.drop_succ_cons, List.drop_zero]
      refine lex_nil ?_
      intro w5 hx hH
      have m11 := hH g11 _ (Blocks.put_same _ _ _)
      replace m2 := hx.keep m2 (by simp)
      have HB5 := Lib.hid (HB4.out.trans (hx.below_of (b := w.heap.size) (by simp) HB4.out.size))
      replace q11 := Nat.le_trans HB4.out.size q11
      clear hx hH HB4
      go_wp2_with (with_reducible refine wpList_from 62 [0, 2, 0] [g2] _ (has_put (has_B0 _) m2) ?_)
      refine lex_quietE 1 (by kernel_rfl) (by rfl) ?_
      apply Exists.intro
      refine ⟨fun x hx => ?_, ?_⟩
      · have hwx := HB5.out.trans (hx.below_of (b := w.heap.size) (by simp [q2]) HB5.out.size)
        clear hx
        simp only [List.take_succ_cons, List.take_zero]
        unfold Cx
        repeat (go_big_quiet_step (first | with_reducible exact KZ.at _ _))
        exact wpQuiet_nil rfl
      simp only [List.drop_succ_cons, List.drop_zero]
      refine lex_store_all g2 _ _ _ (by rfl) (by rfl) (by rfl) (Blocks.put_same _ _ _) (by rfl) (Or.inl (by simp)) (by kernel_rfl) (by simp [Value.oneCell']) ?_
      refine lex_quietE 1 (by kernel_rfl) (by rfl) ?_
      apply Exists.intro
      refine ⟨fun x hx => ?_, ?_⟩
      · have hwx := HB5.out.trans (hx.below_of (b := w.heap.size) (by simp [q2]) HB5.out.size)
        clear hx
        simp only [List.take_succ_cons, List.take_zero]
        unfold Cx
        repeat (go_big_quiet_step (first | with_reducible exact KZ.at _ _))
        exact wpQuiet_nil rfl
      simp only [List.drop_succ_cons, List.drop_zero]
      refine lex_nil ?_
      intro w6 hx hH
      replace m2 := hH g2 _ (Blocks.put_same _ _ _)
      have HB6 := Lib.hid (HB5.out.trans (hx.below_of (b := w.heap.size) (by simp [q2]) HB5.out.size))
      clear hx hH HB5 m11 q11
      have c2_0 := blk_cell m2 0 rfl
      have c2_1 := blk_cell m2 1 rfl
      go_wp2_with fail
      exact bodyPost_ret (v := .tuple #[.agg #[.string { data := #[48] }, .string { data := #[49] }], .bool false]) (by simp [results, Tryz.results37, go_sem, c2_0, c2_1]) rfl ⟨rfl, HB6.out⟩

set_option maxHeartbeats 1600000 in
set_option maxRecDepth 100000 in
theorem w_xrread2d (s x y c1 c2 t : ByteArray) (b2 : Bool) (k : Nat) (hk : k < s.size) (h47 : ((s[k].toNat : Int) == 47) = true) (hno : ∀ j (h : j < s.size), j < k → ((s[j].toNat : Int) == 47) = false) (hz : s.size ≤ 1000000) (ht : (t.toList == s.toList) = false) (KR : Gives 58 #[.string (s.extract 0 k)] (.tuple #[.string x, .bool true])) (KR2 : Gives 58 #[.string (s.extract (k + 1) s.size)] (.tuple #[.string y, .bool true])) (KN : Gives 60 #[.string x, .string y] (.tuple #[.agg #[.string c1, .string c2], .bool true])) (KZ : Gives 59 #[] (.agg #[.string { data := #[48] }, .string { data := #[49] }])) (KT : Gives 61 #[.agg #[.string c1, .string c2]] (.string t)) : Gives 37 #[.string s] (.tuple #[.agg #[.string { data := #[48] }, .string { data := #[49] }], .bool false]) := by
  intro w
  have HB0 := Lib.hid (Below.refl w.heap.size w)
  go_enter Tryz.func37, Tryz.ntmps37
  go_wp2_with (with_reducible refine wpList_from 2 [3, 0] [] B0 (has_B0 _) ?_)
  refine lex_alloc (.agg #[.string ByteArray.empty, .string ByteArray.empty]) (by rfl) (fun x => by kernel_rfl) (fun g2 q2 hn2 => ?_)
  unfold setSlot
  go_big_quiet_step (fail)
  refine wpQuiet_nil ?_
  clear hn2
  refine lex_quietE 1 (by kernel_rfl) (by rfl) ?_
  apply Exists.intro
  refine ⟨fun x hx => ?_, ?_⟩
  · have hwx := HB0.out.trans (hx.below_of (b := w.heap.size) (by simp) HB0.out.size)
    clear hx
    simp only [List.take_succ_cons, List.take_zero]
    unfold Cx
    repeat (go_big_quiet_step (fail))
    exact wpQuiet_nil rfl
  simp only [List.drop_succ_cons, List.drop_zero]
  refine lex_nil ?_
  intro w1 hx hH
  have m2 := hH g2 _ (Blocks.put_same _ _ _)
  have HB1 := Lib.hid (HB0.out.trans (hx.below_of (b := w.heap.size) (by simp) HB0.out.size))
  replace q2 := Nat.le_trans HB0.out.size q2
  clear hx hH HB0
  go_wp2_with fail
  go_loop [4, 5, 6] (fun nv dv i => ∃ q : Nat, q ≤ k ∧ i = .int .i64 (q : Nat) ∧ nv = .string s ∧ dv = .string { data := #[49] }) (fun _ _ i => k - (intOf i).toNat)
  case atStart => exact ⟨0, Nat.zero_le _, rfl, rfl, rfl⟩
  case round =>
    obtain ⟨q, hq, rfl, rfl, rfl⟩ := hrel
    by_cases hlt : q < k
    · have hqs : q < s.size := by omega
      have h1 := hno q hqs hlt
      go_wp2_with fail
      go_round
      case rel => exact ⟨q + 1, by omega, by go_num, rfl, rfl⟩
      case measure => simp [intOf]; omega
    · obtain rfl : q = k := by omega
      clear hq hlt
      go_wp2_with fail
      refine wp_game [0, 0, 0, 0, 0, 0, 0, 0, 0] [] B0 fin_B0 (has_B0 _) (by kernel_rfl) (by kernel_rfl) ?_
      refine lex_quietE 9 (by kernel_rfl) (by rfl) ?_
      apply Exists.intro
      refine ⟨fun x hx => ?_, ?_⟩
      · have hwx := HB1.out.trans (hx.below_of (b := w.heap.size) (by simp) HB1.out.size)
        clear hx
        simp only [List.take_succ_cons, List.take_zero]
        unfold Cx
        repeat (go_big_quiet_step (fail))
        exact wpQuiet_nil rfl
      simp only [List.drop_succ_cons, List.drop_zero]
      refine lex_nil ?_
      intro w2 hx hH
      replace m2 := hx.keep m2 (by simp)
      have HB2 := Lib.hid (HB1.out.trans (hx.below_of (b := w.heap.size) (by simp) HB1.out.size))
      clear hx hH HB1
      go_wp2_with (with_reducible refine wpList_from 33 [0, 0, 0, 0, 0, 0] [] B0 (has_B0 _) ?_)
      refine lex_quietE 6 (by kernel_rfl) (by rfl) ?_
      apply Exists.intro
      refine ⟨fun x hx => ?_, ?_⟩
      · have hwx := HB2.out.trans (hx.below_of (b := w.heap.size) (by simp) HB2.out.size)
        clear hx
        simp only [List.take_succ_cons, List.take_zero]
        unfold Cx
        repeat (go_big_quiet_step (first | with_reducible exact KR.at _ _))
        exact wpQuiet_nil rfl
      simp only [List.drop_succ_cons, List.drop_zero]
      refine lex_nil ?_
      intro w3 hx hH
      replace m2 := hx.keep m2 (by simp)
      have HB3 := Lib.hid (HB2.out.trans (hx.below_of (b := w.heap.size) (by simp) HB2.out.size))
      clear hx hH HB2
      go_wp2_with (with_reducible refine wpList_from 38 [0, 0, 0, 0, 0, 0] [] B0 (has_B0 _) ?_)
      refine lex_quietE 6 (by kernel_rfl) (by rfl) ?_
      apply Exists.intro
      refine ⟨fun x hx => ?_, ?_⟩
      · have hwx := HB3.out.trans (hx.below_of (b := w.heap.size) (by simp) HB3.out.size)
        clear hx
        simp only [List.take_succ_cons, List.take_zero]
        unfold Cx
        repeat (go_big_quiet_step (first | with_reducible exact KR2.at _ _))
        exact wpQuiet_nil rfl
      simp only [List.drop_succ_cons, List.drop_zero]
      refine lex_nil ?_
      intro w4 hx hH
      replace m2 := hx.keep m2 (by simp)
      have HB4 := Lib.hid (HB3.out.trans (hx.below_of (b := w.heap.size) (by simp) HB3.out.size))
      clear hx hH HB3
      go_wp2_with (with_reducible refine wpList_from 51 [0, 0, 0, 0, 3, 2, 0] [] B0 (has_B0 _) ?_)
      refine lex_quietE 4 (by kernel_rfl) (by rfl) ?_
      apply Exists.intro
      refine ⟨fun x hx => ?_, ?_⟩
      · have hwx := HB4.out.trans (hx.below_of (b := w.heap.size) (by simp) HB4.out.size)
        clear hx
        simp only [List.take_succ_cons, List.take_zero]
        unfold Cx
        repeat (go_big_quiet_step (first | with_reducible exact KN.at _ _))
        exact wpQuiet_nil rfl
      simp only [List.drop_succ_cons, List.drop_zero]
      refine lex_alloc (.agg #[.string ByteArray.empty, .string ByteArray.empty]) (by rfl) (fun x => by kernel_rfl) (fun g11 q11 hn11 => ?_)
      unfold setSlot
      go_big_quiet_step (fail)
      refine wpQuiet_nil ?_
      clear hn11
      have n11_2 : g11 ≠ g2 := Nat.ne_of_gt (Nat.lt_of_lt_of_le (lt_of_heap m2) q11)
      refine lex_store_all g11 _ _ _ (by rfl) (by rfl) (by rfl) (Blocks.put_same _ _ _) (by rfl) (Or.inr q11) (by kernel_rfl) (by simp [Value.oneCell']) ?_
      refine lex_quietE 1 (by kernel_rfl) (by rfl) ?_
      apply Exists.intro
      refine ⟨fun x hx => ?_, ?_⟩
      · have hwx := HB4.out.trans (hx.below_of (b := w.heap.size) (by simp) HB4.out.size)
        clear hx
        simp only [List.take_succ_cons, List.take_zero]
        unfold Cx
        repeat (go_big_quiet_step (first | with_reducible exact KN.at _ _))
        exact wpQuiet_nil rfl
      simp only [List.drop_succ_cons, List.drop_zero]
      refine lex_nil ?_
      intro w5 hx hH
      have m11 := hH g11 _ (Blocks.put_same _ _ _)
      replace m2 := hx.keep m2 (by simp)
      have HB5 := Lib.hid (HB4.out.trans (hx.below_of (b := w.heap.size) (by simp) HB4.out.size))
      replace q11 := Nat.le_trans HB4.out.size q11
      clear hx hH HB4
      go_wp2_with (with_reducible refine wpList_from 57 [0, 0, 0, 0, 0] [] B0 (has_B0 _) ?_)
      refine lex_quietE 5 (by kernel_rfl) (by rfl) ?_
      apply Exists.intro
      refine ⟨fun x hx => ?_, ?_⟩
      · have hwx := HB5.out.trans (hx.below_of (b := w.heap.size) (by simp) HB5.out.size)
        have e11_0 := blk_cellp (hx.keep m11 (by simp)) 0 rfl
        have e11_1 := blk_cellp (hx.keep m11 (by simp)) 1 rfl
        clear hx
        simp only [List.take_succ_cons, List.take_zero]
        unfold Cx
        repeat (go_big_quiet_step (first | with_reducible exact KT.at _ _))
        exact wpQuiet_nil rfl
      simp only [List.drop_succ_cons, List.drop_zero]
      refine lex_nil ?_
      intro w6 hx hH
      replace m2 := hx.keep m2 (by simp)
      replace m11 := hx.keep m11 (by simp)
      have HB6 := Lib.hid (HB5.out.trans (hx.below_of (b := w.heap.size) (by simp) HB5.out.size))
      clear hx hH HB5
      go_wp2_with (with_reducible refine wpList_from 62 [0, 2, 0] [g2] _ (has_put (has_B0 _) m2) ?_)
      refine lex_quietE 1 (by kernel_rfl) (by rfl) ?_
      apply Exists.intro
      refine ⟨fun x hx => ?_, ?_⟩
      · have hwx := HB6.out.trans (hx.below_of (b := w.heap.size) (by simp [q2]) HB6.out.size)
        clear hx
        simp only [List.take_succ_cons, List.take_zero]
        unfold Cx
        repeat (go_big_quiet_step (first | with_reducible exact KZ.at _ _))
        exact wpQuiet_nil rfl
      simp only [List.drop_succ_cons, List.drop_zero]
      refine lex_store_all g2 _ _ _ (by rfl) (by rfl) (by rfl) (Blocks.put_same _ _ _) (by rfl) (Or.inl (by simp)) (by kernel_rfl) (by simp [Value.oneCell']) ?_
      refine lex_quietE 1 (by kernel_rfl) (by rfl) ?_
      apply Exists.intro
      refine ⟨fun x hx => ?_, ?_⟩
      · have hwx := HB6.out.trans (hx.below_of (b := w.heap.size) (by simp [q2]) HB6.out.size)
        clear hx
        simp only [List.take_succ_cons, List.take_zero]
        unfold Cx
        repeat (go_big_quiet_step (first | with_reducible exact KZ.at _ _))
        exact wpQuiet_nil rfl
      simp only [List.drop_succ_cons, List.drop_zero]
      refine lex_nil ?_
      intro w7 hx hH
      replace m2 := hH g2 _ (Blocks.put_same _ _ _)
      have HB7 := Lib.hid (HB6.out.trans (hx.below_of (b := w.heap.size) (by simp [q2]) HB6.out.size))
      clear hx hH HB6 m11 q11
      have c2_0 := blk_cell m2 0 rfl
      have c2_1 := blk_cell m2 1 rfl
      go_wp2_with fail
      exact bodyPost_ret (v := .tuple #[.agg #[.string { data := #[48] }, .string { data := #[49] }], .bool false]) (by simp [results, Tryz.results37, go_sem, c2_0, c2_1]) rfl ⟨rfl, HB7.out⟩

set_option maxHeartbeats 1600000 in
set_option maxRecDepth 100000 in
theorem w_xrread2e (s x y c1 c2 t : ByteArray) (b2 : Bool) (k : Nat) (hk : k < s.size) (h47 : ((s[k].toNat : Int) == 47) = true) (hno : ∀ j (h : j < s.size), j < k → ((s[j].toNat : Int) == 47) = false) (hz : s.size ≤ 1000000) (KR : Gives 58 #[.string (s.extract 0 k)] (.tuple #[.string x, .bool true])) (KR2 : Gives 58 #[.string (s.extract (k + 1) s.size)] (.tuple #[.string y, .bool true])) (KN : Gives 60 #[.string x, .string y] (.tuple #[.agg #[.string c1, .string c2], .bool true])) (KT : Gives 61 #[.agg #[.string c1, .string c2]] (.string s)) : Gives 37 #[.string s] (.tuple #[.agg #[.string c1, .string c2], .bool true]) := by
  intro w
  have HB0 := Lib.hid (Below.refl w.heap.size w)
  go_enter Tryz.func37, Tryz.ntmps37
  go_wp2_with (with_reducible refine wpList_from 2 [3, 0] [] B0 (has_B0 _) ?_)
  refine lex_alloc (.agg #[.string ByteArray.empty, .string ByteArray.empty]) (by rfl) (fun x => by kernel_rfl) (fun g2 q2 hn2 => ?_)
  unfold setSlot
  go_big_quiet_step (fail)
  refine wpQuiet_nil ?_
  clear hn2
  refine lex_quietE 1 (by kernel_rfl) (by rfl) ?_
  apply Exists.intro
  refine ⟨fun x hx => ?_, ?_⟩
  · have hwx := HB0.out.trans (hx.below_of (b := w.heap.size) (by simp) HB0.out.size)
    clear hx
    simp only [List.take_succ_cons, List.take_zero]
    unfold Cx
    repeat (go_big_quiet_step (fail))
    exact wpQuiet_nil rfl
  simp only [List.drop_succ_cons, List.drop_zero]
  refine lex_nil ?_
  intro w1 hx hH
  have m2 := hH g2 _ (Blocks.put_same _ _ _)
  have HB1 := Lib.hid (HB0.out.trans (hx.below_of (b := w.heap.size) (by simp) HB0.out.size))
  replace q2 := Nat.le_trans HB0.out.size q2
  clear hx hH HB0
  go_wp2_with fail
  go_loop [4, 5, 6] (fun nv dv i => ∃ q : Nat, q ≤ k ∧ i = .int .i64 (q : Nat) ∧ nv = .string s ∧ dv = .string { data := #[49] }) (fun _ _ i => k - (intOf i).toNat)
  case atStart => exact ⟨0, Nat.zero_le _, rfl, rfl, rfl⟩
  case round =>
    obtain ⟨q, hq, rfl, rfl, rfl⟩ := hrel
    by_cases hlt : q < k
    · have hqs : q < s.size := by omega
      have h1 := hno q hqs hlt
      go_wp2_with fail
      go_round
      case rel => exact ⟨q + 1, by omega, by go_num, rfl, rfl⟩
      case measure => simp [intOf]; omega
    · obtain rfl : q = k := by omega
      clear hq hlt
      go_wp2_with fail
      refine wp_game [0, 0, 0, 0, 0, 0, 0, 0, 0] [] B0 fin_B0 (has_B0 _) (by kernel_rfl) (by kernel_rfl) ?_
      refine lex_quietE 9 (by kernel_rfl) (by rfl) ?_
      apply Exists.intro
      refine ⟨fun x hx => ?_, ?_⟩
      · have hwx := HB1.out.trans (hx.below_of (b := w.heap.size) (by simp) HB1.out.size)
        clear hx
        simp only [List.take_succ_cons, List.take_zero]
        unfold Cx
        repeat (go_big_quiet_step (fail))
        exact wpQuiet_nil rfl
      simp only [List.drop_succ_cons, List.drop_zero]
      refine lex_nil ?_
      intro w2 hx hH
      replace m2 := hx.keep m2 (by simp)
      have HB2 := Lib.hid (HB1.out.trans (hx.below_of (b := w.heap.size) (by simp) HB1.out.size))
      clear hx hH HB1
      go_wp2_with (with_reducible refine wpList_from 33 [0, 0, 0, 0, 0, 0] [] B0 (has_B0 _) ?_)
      refine lex_quietE 6 (by kernel_rfl) (by rfl) ?_
      apply Exists.intro
      refine ⟨fun x hx => ?_, ?_⟩
      · have hwx := HB2.out.trans (hx.below_of (b := w.heap.size) (by simp) HB2.out.size)
        clear hx
        simp only [List.take_succ_cons, List.take_zero]
        unfold Cx
        repeat (go_big_quiet_step (first | with_reducible exact KR.at _ _))
        exact wpQuiet_nil rfl
      simp only [List.drop_succ_cons, List.drop_zero]
      refine lex_nil ?_
      intro w3 hx hH
      replace m2 := hx.keep m2 (by simp)
      have HB3 := Lib.hid (HB2.out.trans (hx.below_of (b := w.heap.size) (by simp) HB2.out.size))
      clear hx hH HB2
      go_wp2_with (with_reducible refine wpList_from 38 [0, 0, 0, 0, 0, 0] [] B0 (has_B0 _) ?_)
      refine lex_quietE 6 (by kernel_rfl) (by rfl) ?_
      apply Exists.intro
      refine ⟨fun x hx => ?_, ?_⟩
      · have hwx := HB3.out.trans (hx.below_of (b := w.heap.size) (by simp) HB3.out.size)
        clear hx
        simp only [List.take_succ_cons, List.take_zero]
        unfold Cx
        repeat (go_big_quiet_step (first | with_reducible exact KR2.at _ _))
        exact wpQuiet_nil rfl
      simp only [List.drop_succ_cons, List.drop_zero]
      refine lex_nil ?_
      intro w4 hx hH
      replace m2 := hx.keep m2 (by simp)
      have HB4 := Lib.hid (HB3.out.trans (hx.below_of (b := w.heap.size) (by simp) HB3.out.size))
      clear hx hH HB3
      go_wp2_with (with_reducible refine wpList_from 51 [0, 0, 0, 0, 3, 2, 0] [] B0 (has_B0 _) ?_)
      refine lex_quietE 4 (by kernel_rfl) (by rfl) ?_
      apply Exists.intro
      refine ⟨fun x hx => ?_, ?_⟩
      · have hwx := HB4.out.trans (hx.below_of (b := w.heap.size) (by simp) HB4.out.size)
        clear hx
        simp only [List.take_succ_cons, List.take_zero]
        unfold Cx
        repeat (go_big_quiet_step (first | with_reducible exact KN.at _ _))
        exact wpQuiet_nil rfl
      simp only [List.drop_succ_cons, List.drop_zero]
      refine lex_alloc (.agg #[.string ByteArray.empty, .string ByteArray.empty]) (by rfl) (fun x => by kernel_rfl) (fun g11 q11 hn11 => ?_)
      unfold setSlot
      go_big_quiet_step (fail)
      refine wpQuiet_nil ?_
      clear hn11
      have n11_2 : g11 ≠ g2 := Nat.ne_of_gt (Nat.lt_of_lt_of_le (lt_of_heap m2) q11)
      refine lex_store_all g11 _ _ _ (by rfl) (by rfl) (by rfl) (Blocks.put_same _ _ _) (by rfl) (Or.inr q11) (by kernel_rfl) (by simp [Value.oneCell']) ?_
      refine lex_quietE 1 (by kernel_rfl) (by rfl) ?_
      apply Exists.intro
      refine ⟨fun x hx => ?_, ?_⟩
      · have hwx := HB4.out.trans (hx.below_of (b := w.heap.size) (by simp) HB4.out.size)
        clear hx
        simp only [List.take_succ_cons, List.take_zero]
        unfold Cx
        repeat (go_big_quiet_step (first | with_reducible exact KN.at _ _))
        exact wpQuiet_nil rfl
      simp only [List.drop_succ_cons, List.drop_zero]
      refine lex_nil ?_
      intro w5 hx hH
      have m11 := hH g11 _ (Blocks.put_same _ _ _)
      replace m2 := hx.keep m2 (by simp)
      have HB5 := Lib.hid (HB4.out.trans (hx.below_of (b := w.heap.size) (by simp) HB4.out.size))
      replace q11 := Nat.le_trans HB4.out.size q11
      clear hx hH HB4
      go_wp2_with (with_reducible refine wpList_from 57 [0, 0, 0, 0, 0] [] B0 (has_B0 _) ?_)
      refine lex_quietE 5 (by kernel_rfl) (by rfl) ?_
      apply Exists.intro
      refine ⟨fun x hx => ?_, ?_⟩
      · have hwx := HB5.out.trans (hx.below_of (b := w.heap.size) (by simp) HB5.out.size)
        have e11_0 := blk_cellp (hx.keep m11 (by simp)) 0 rfl
        have e11_1 := blk_cellp (hx.keep m11 (by simp)) 1 rfl
        clear hx
        simp only [List.take_succ_cons, List.take_zero]
        unfold Cx
        repeat (go_big_quiet_step (first | with_reducible exact KT.at _ _))
        exact wpQuiet_nil rfl
      simp only [List.drop_succ_cons, List.drop_zero]
      refine lex_nil ?_
      intro w6 hx hH
      replace m2 := hx.keep m2 (by simp)
      replace m11 := hx.keep m11 (by simp)
      have HB6 := Lib.hid (HB5.out.trans (hx.below_of (b := w.heap.size) (by simp) HB5.out.size))
      clear hx hH HB5
      go_wp2_with (with_reducible refine wpList_from 63 [0, 2, 0] [g2] _ (has_put (has_B0 _) m2) ?_)
      refine lex_quietE 1 (by kernel_rfl) (by rfl) ?_
      apply Exists.intro
      refine ⟨fun x hx => ?_, ?_⟩
      · have hwx := HB6.out.trans (hx.below_of (b := w.heap.size) (by simp [q2]) HB6.out.size)
        have e11_0 := blk_cellp (hx.keep m11 (by simp [n11_2])) 0 rfl
        have e11_1 := blk_cellp (hx.keep m11 (by simp [n11_2])) 1 rfl
        clear hx
        simp only [List.take_succ_cons, List.take_zero]
        unfold Cx
        repeat (go_big_quiet_step (fail))
        exact wpQuiet_nil rfl
      simp only [List.drop_succ_cons, List.drop_zero]
      refine lex_store_all g2 _ _ _ (by rfl) (by rfl) (by rfl) (Blocks.put_same _ _ _) (by rfl) (Or.inl (by simp)) (by kernel_rfl) (by simp [Value.oneCell']) ?_
      refine lex_quietE 1 (by kernel_rfl) (by rfl) ?_
      apply Exists.intro
      refine ⟨fun x hx => ?_, ?_⟩
      · have hwx := HB6.out.trans (hx.below_of (b := w.heap.size) (by simp [q2]) HB6.out.size)
        have e11_0 := blk_cellp (hx.keep m11 (by simp [n11_2])) 0 rfl
        have e11_1 := blk_cellp (hx.keep m11 (by simp [n11_2])) 1 rfl
        clear hx
        simp only [List.take_succ_cons, List.take_zero]
        unfold Cx
        repeat (go_big_quiet_step (fail))
        exact wpQuiet_nil rfl
      simp only [List.drop_succ_cons, List.drop_zero]
      refine lex_nil ?_
      intro w7 hx hH
      replace m2 := hH g2 _ (Blocks.put_same _ _ _)
      have HB7 := Lib.hid (HB6.out.trans (hx.below_of (b := w.heap.size) (by simp [q2]) HB6.out.size))
      clear hx hH HB6 m11 q11
      have c2_0 := blk_cell m2 0 rfl
      have c2_1 := blk_cell m2 1 rfl
      go_wp2_with fail
      exact bodyPost_ret (v := .tuple #[.agg #[.string c1, .string c2], .bool true]) (by simp [results, Tryz.results37, go_sem, c2_0, c2_1]) rfl ⟨rfl, HB7.out⟩

end Go.Proofs.YtajjgfiojlagmaaGreatDoor
