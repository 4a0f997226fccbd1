/- Texts of this claim, joined: RFns. -/
import Derived.Test.YtbacloneddnaeaaM13
import Derived.Test.YtbacloneddnaeaaM03

/- The walks of package rat. -/
namespace Go.Proofs.Ytbacloneddnaeaa
open Go.RowKit Num

set_option maxHeartbeats 1600000 in
set_option maxRecDepth 100000 in
theorem w_zero_yes (s : ByteArray) (KC : Gives 41 #[.agg #[.string s], .agg #[.string { data := #[] }]] (.int .i64 0)) : Gives 79 #[.agg #[.string s]] (.bool true) := by
  intro w
  have HB0 := Lib.hid (Below.refl w.heap.size w)
  go_enter Try.func79, Try.ntmps79
  go_wp2_with (with_reducible refine wpList_from 1 [3, 0] [] B0 (has_B0 _) ?_)
  refine lex_box_agg _ (by rfl) (by rfl) (fun g1 q1 hn1 => ?_)
  unfold setSlot
  go_big_quiet_step (fail)
  refine wpQuiet_nil ?_
  clear hn1
  refine lex_quietE 1 (by kernel_rfl) (by rfl) ?_
  apply Exists.intro
  refine ⟨fun x hx => ?_, ?_⟩
  · have hwx := HB0.out.trans (hx.below_of (b := w.heap.size) (by simp) HB0.out.size)
    clear hx
    simp only [List.take_succ_cons, List.take_zero]
    unfold Cx
    repeat (go_big_quiet_step (fail))
    exact wpQuiet_nil rfl
  simp only [List.drop_succ_cons, List.drop_zero]
  refine lex_nil ?_
  intro w1 hx hH
  have m1 := hH g1 _ (Blocks.put_same _ _ _)
  have HB1 := Lib.hid (HB0.out.trans (hx.below_of (b := w.heap.size) (by simp) HB0.out.size))
  replace q1 := Nat.le_trans HB0.out.size q1
  clear hx hH HB0
  go_wp2_with (with_reducible refine wpList_from 3 [0, 0, 0, 0, 0] [] B0 (has_B0 _) ?_)
  refine lex_quietE 5 (by kernel_rfl) (by rfl) ?_
  apply Exists.intro
  refine ⟨fun x hx => ?_, ?_⟩
  · have hwx := HB1.out.trans (hx.below_of (b := w.heap.size) (by simp) HB1.out.size)
    have e1_0 := blk_cellp (hx.keep m1 (by simp)) 0 rfl
    clear hx
    simp only [List.take_succ_cons, List.take_zero]
    unfold Cx
    repeat (go_big_quiet_step (first | with_reducible exact KC.at _ _))
    exact wpQuiet_nil rfl
  simp only [List.drop_succ_cons, List.drop_zero]
  refine lex_nil ?_
  intro w2 hx hH
  have HB2 := Lib.hid (HB1.out.trans (hx.below_of (b := w.heap.size) (by simp) HB1.out.size))
  clear hx hH HB1 m1 q1
  go_wp2_with fail
  exact bodyPost_ret (v := .bool true) (by simp [results, Try.results79, go_sem]) rfl ⟨rfl, HB2.out⟩

set_option maxHeartbeats 1600000 in
set_option maxRecDepth 100000 in
theorem w_zero_no (s : ByteArray) (c : Int) (hc : (c == 0) = false) (KC : Gives 41 #[.agg #[.string s], .agg #[.string { data := #[] }]] (.int .i64 c)) : Gives 79 #[.agg #[.string s]] (.bool false) := by
  intro w
  have HB0 := Lib.hid (Below.refl w.heap.size w)
  go_enter Try.func79, Try.ntmps79
  go_wp2_with (with_reducible refine wpList_from 1 [3, 0] [] B0 (has_B0 _) ?_)
  refine lex_box_agg _ (by rfl) (by rfl) (fun g1 q1 hn1 => ?_)
  unfold setSlot
  go_big_quiet_step (fail)
  refine wpQuiet_nil ?_
  clear hn1
  refine lex_quietE 1 (by kernel_rfl) (by rfl) ?_
  apply Exists.intro
  refine ⟨fun x hx => ?_, ?_⟩
  · have hwx := HB0.out.trans (hx.below_of (b := w.heap.size) (by simp) HB0.out.size)
    clear hx
    simp only [List.take_succ_cons, List.take_zero]
    unfold Cx
    repeat (go_big_quiet_step (fail))
    exact wpQuiet_nil rfl
  simp only [List.drop_succ_cons, List.drop_zero]
  refine lex_nil ?_
  intro w1 hx hH
  have m1 := hH g1 _ (Blocks.put_same _ _ _)
  have HB1 := Lib.hid (HB0.out.trans (hx.below_of (b := w.heap.size) (by simp) HB0.out.size))
  replace q1 := Nat.le_trans HB0.out.size q1
  clear hx hH HB0
  go_wp2_with (with_reducible refine wpList_from 3 [0, 0, 0, 0, 0] [] B0 (has_B0 _) ?_)
  refine lex_quietE 5 (by kernel_rfl) (by rfl) ?_
  apply Exists.intro
  refine ⟨fun x hx => ?_, ?_⟩
  · have hwx := HB1.out.trans (hx.below_of (b := w.heap.size) (by simp) HB1.out.size)
    have e1_0 := blk_cellp (hx.keep m1 (by simp)) 0 rfl
    clear hx
    simp only [List.take_succ_cons, List.take_zero]
    unfold Cx
    repeat (go_big_quiet_step (first | with_reducible exact KC.at _ _))
    exact wpQuiet_nil rfl
  simp only [List.drop_succ_cons, List.drop_zero]
  refine lex_nil ?_
  intro w2 hx hH
  have HB2 := Lib.hid (HB1.out.trans (hx.below_of (b := w.heap.size) (by simp) HB1.out.size))
  clear hx hH HB1 m1 q1
  go_wp2_with fail
  exact bodyPost_ret (v := .bool false) (by simp [results, Try.results79, go_sem]) rfl ⟨rfl, HB2.out⟩

set_option maxHeartbeats 1600000 in
set_option maxRecDepth 100000 in
theorem w_new_no (s d : ByteArray) (KZ : Gives 79 #[.agg #[.string d]] (.bool true)) : Gives 60 #[.agg #[.string s], .agg #[.string d]] (.tuple #[.agg #[.string { data := #[] }, .string { data := #[] }], .bool false]) := by
  intro w
  have HB0 := Lib.hid (Below.refl w.heap.size w)
  go_enter Try.func60, Try.ntmps60
  go_wp2_with (with_reducible refine wpList_from 2 [3, 3, 3, 0] [] B0 (has_B0 _) ?_)
  refine lex_box_agg _ (by rfl) (by rfl) (fun g2 q2 hn2 => ?_)
  unfold setSlot
  go_big_quiet_step (fail)
  refine wpQuiet_nil ?_
  clear hn2
  refine lex_box_agg _ (by rfl) (by rfl) (fun g3 q3 hn3 => ?_)
  unfold setSlot
  go_big_quiet_step (fail)
  refine wpQuiet_nil ?_
  have n3_2 := ne_of_put hn3
  replace hn3 := none_of_put hn3
  clear hn3
  refine lex_alloc (.agg #[.string ByteArray.empty, .string ByteArray.empty]) (by rfl) (fun x => by kernel_rfl) (fun g4 q4 hn4 => ?_)
  unfold setSlot
  go_big_quiet_step (fail)
  refine wpQuiet_nil ?_
  have n4_3 := ne_of_put hn4
  replace hn4 := none_of_put hn4
  have n4_2 := ne_of_put hn4
  replace hn4 := none_of_put hn4
  clear hn4
  refine lex_quietE 1 (by kernel_rfl) (by rfl) ?_
  apply Exists.intro
  refine ⟨fun x hx => ?_, ?_⟩
  · have hwx := HB0.out.trans (hx.below_of (b := w.heap.size) (by simp) HB0.out.size)
    clear hx
    simp only [List.take_succ_cons, List.take_zero]
    unfold Cx
    repeat (go_big_quiet_step (fail))
    exact wpQuiet_nil rfl
  simp only [List.drop_succ_cons, List.drop_zero]
  refine lex_nil ?_
  intro w1 hx hH
  have m2 := hH g2 _ ((Blocks.put_other _ _ (Ne.symm n4_2)).trans ((Blocks.put_other _ _ (Ne.symm n3_2)).trans (Blocks.put_same _ _ _)))
  have m3 := hH g3 _ ((Blocks.put_other _ _ (Ne.symm n4_3)).trans (Blocks.put_same _ _ _))
  have m4 := hH g4 _ (Blocks.put_same _ _ _)
  have HB1 := Lib.hid (HB0.out.trans (hx.below_of (b := w.heap.size) (by simp) HB0.out.size))
  replace q2 := Nat.le_trans HB0.out.size q2
  replace q3 := Nat.le_trans HB0.out.size q3
  replace q4 := Nat.le_trans HB0.out.size q4
  clear hx hH HB0
  go_wp2_with (with_reducible refine wpList_from 7 [0, 0] [] B0 (has_B0 _) ?_)
  refine lex_quietE 2 (by kernel_rfl) (by rfl) ?_
  apply Exists.intro
  refine ⟨fun x hx => ?_, ?_⟩
  · have hwx := HB1.out.trans (hx.below_of (b := w.heap.size) (by simp) HB1.out.size)
    have e3_0 := blk_cellp (hx.keep m3 (by simp)) 0 rfl
    clear hx
    simp only [List.take_succ_cons, List.take_zero]
    unfold Cx
    repeat (go_big_quiet_step (first | with_reducible exact KZ.at _ _))
    exact wpQuiet_nil rfl
  simp only [List.drop_succ_cons, List.drop_zero]
  refine lex_nil ?_
  intro w2 hx hH
  replace m4 := hx.keep m4 (by simp)
  have HB2 := Lib.hid (HB1.out.trans (hx.below_of (b := w.heap.size) (by simp) HB1.out.size))
  clear hx hH HB1 m2 m3 q2 q3
  go_wp2_with (with_reducible refine wpList_from 9 [0, 2, 0] [g4] _ (has_put (has_B0 _) m4) ?_)
  refine lex_quietE 1 (by kernel_rfl) (by rfl) ?_
  apply Exists.intro
  refine ⟨fun x hx => ?_, ?_⟩
  · have hwx := HB2.out.trans (hx.below_of (b := w.heap.size) (by simp [q4]) HB2.out.size)
    clear hx
    simp only [List.take_succ_cons, List.take_zero]
    unfold Cx
    repeat (go_big_quiet_step (fail))
    exact wpQuiet_nil rfl
  simp only [List.drop_succ_cons, List.drop_zero]
  refine lex_store_all g4 _ _ _ (by rfl) (by rfl) (by rfl) (Blocks.put_same _ _ _) (by rfl) (Or.inl (by simp)) (by kernel_rfl) (by simp [Value.oneCell']) ?_
  refine lex_quietE 1 (by kernel_rfl) (by rfl) ?_
  apply Exists.intro
  refine ⟨fun x hx => ?_, ?_⟩
  · have hwx := HB2.out.trans (hx.below_of (b := w.heap.size) (by simp [q4]) HB2.out.size)
    clear hx
    simp only [List.take_succ_cons, List.take_zero]
    unfold Cx
    repeat (go_big_quiet_step (fail))
    exact wpQuiet_nil rfl
  simp only [List.drop_succ_cons, List.drop_zero]
  refine lex_nil ?_
  intro w3 hx hH
  replace m4 := hH g4 _ (Blocks.put_same _ _ _)
  have HB3 := Lib.hid (HB2.out.trans (hx.below_of (b := w.heap.size) (by simp [q4]) HB2.out.size))
  clear hx hH HB2
  have c4_0 := blk_cell m4 0 rfl
  have c4_1 := blk_cell m4 1 rfl
  go_wp2_with fail
  exact bodyPost_ret (v := .tuple #[.agg #[.string { data := #[] }, .string { data := #[] }], .bool false]) (by simp [results, Try.results60, go_sem, c4_0, c4_1]) rfl ⟨rfl, HB3.out⟩

set_option maxHeartbeats 1600000 in
set_option maxRecDepth 100000 in
theorem w_new_yes (s d g a b r1 r2 : ByteArray) (KZ : Gives 79 #[.agg #[.string d]] (.bool false)) (KG : Gives 94 #[.agg #[.string s], .agg #[.string d]] (.agg #[.string g])) (KA : Gives 95 #[.agg #[.string s], .agg #[.string g]] (.tuple #[.agg #[.string a], .agg #[.string r1], .bool true])) (KB : Gives 95 #[.agg #[.string d], .agg #[.string g]] (.tuple #[.agg #[.string b], .agg #[.string r2], .bool true])) : Gives 60 #[.agg #[.string s], .agg #[.string d]] (.tuple #[.agg #[.string a, .string b], .bool true]) := by
  intro w
  have HB0 := Lib.hid (Below.refl w.heap.size w)
  go_enter Try.func60, Try.ntmps60
  go_wp2_with (with_reducible refine wpList_from 2 [3, 3, 3, 0] [] B0 (has_B0 _) ?_)
  refine lex_box_agg _ (by rfl) (by rfl) (fun g2 q2 hn2 => ?_)
  unfold setSlot
  go_big_quiet_step (fail)
  refine wpQuiet_nil ?_
  clear hn2
  refine lex_box_agg _ (by rfl) (by rfl) (fun g3 q3 hn3 => ?_)
  unfold setSlot
  go_big_quiet_step (fail)
  refine wpQuiet_nil ?_
  have n3_2 := ne_of_put hn3
  replace hn3 := none_of_put hn3
  clear hn3
  refine lex_alloc (.agg #[.string ByteArray.empty, .string ByteArray.empty]) (by rfl) (fun x => by kernel_rfl) (fun g4 q4 hn4 => ?_)
  unfold setSlot
  go_big_quiet_step (fail)
  refine wpQuiet_nil ?_
  have n4_3 := ne_of_put hn4
  replace hn4 := none_of_put hn4
  have n4_2 := ne_of_put hn4
  replace hn4 := none_of_put hn4
  clear hn4
  refine lex_quietE 1 (by kernel_rfl) (by rfl) ?_
  apply Exists.intro
  refine ⟨fun x hx => ?_, ?_⟩
  · have hwx := HB0.out.trans (hx.below_of (b := w.heap.size) (by simp) HB0.out.size)
    clear hx
    simp only [List.take_succ_cons, List.take_zero]
    unfold Cx
    repeat (go_big_quiet_step (fail))
    exact wpQuiet_nil rfl
  simp only [List.drop_succ_cons, List.drop_zero]
  refine lex_nil ?_
  intro w1 hx hH
  have m2 := hH g2 _ ((Blocks.put_other _ _ (Ne.symm n4_2)).trans ((Blocks.put_other _ _ (Ne.symm n3_2)).trans (Blocks.put_same _ _ _)))
  have m3 := hH g3 _ ((Blocks.put_other _ _ (Ne.symm n4_3)).trans (Blocks.put_same _ _ _))
  have m4 := hH g4 _ (Blocks.put_same _ _ _)
  have HB1 := Lib.hid (HB0.out.trans (hx.below_of (b := w.heap.size) (by simp) HB0.out.size))
  replace q2 := Nat.le_trans HB0.out.size q2
  replace q3 := Nat.le_trans HB0.out.size q3
  replace q4 := Nat.le_trans HB0.out.size q4
  clear hx hH HB0
  go_wp2_with (with_reducible refine wpList_from 7 [0, 0] [] B0 (has_B0 _) ?_)
  refine lex_quietE 2 (by kernel_rfl) (by rfl) ?_
  apply Exists.intro
  refine ⟨fun x hx => ?_, ?_⟩
  · have hwx := HB1.out.trans (hx.below_of (b := w.heap.size) (by simp) HB1.out.size)
    have e3_0 := blk_cellp (hx.keep m3 (by simp)) 0 rfl
    clear hx
    simp only [List.take_succ_cons, List.take_zero]
    unfold Cx
    repeat (go_big_quiet_step (first | with_reducible exact KZ.at _ _))
    exact wpQuiet_nil rfl
  simp only [List.drop_succ_cons, List.drop_zero]
  refine lex_nil ?_
  intro w2 hx hH
  replace m2 := hx.keep m2 (by simp)
  replace m3 := hx.keep m3 (by simp)
  replace m4 := hx.keep m4 (by simp)
  have HB2 := Lib.hid (HB1.out.trans (hx.below_of (b := w.heap.size) (by simp) HB1.out.size))
  clear hx hH HB1
  go_wp2_with (with_reducible refine wpList_from 10 [0, 0, 0, 3, 2] [] B0 (has_B0 _) ?_)
  refine lex_quietE 3 (by kernel_rfl) (by rfl) ?_
  apply Exists.intro
  refine ⟨fun x hx => ?_, ?_⟩
  · have hwx := HB2.out.trans (hx.below_of (b := w.heap.size) (by simp) HB2.out.size)
    have e2_0 := blk_cellp (hx.keep m2 (by simp)) 0 rfl
    have e3_0 := blk_cellp (hx.keep m3 (by simp)) 0 rfl
    clear hx
    simp only [List.take_succ_cons, List.take_zero]
    unfold Cx
    repeat (go_big_quiet_step (first | with_reducible exact KG.at _ _))
    exact wpQuiet_nil rfl
  simp only [List.drop_succ_cons, List.drop_zero]
  refine lex_alloc (.agg #[.string ByteArray.empty]) (by rfl) (fun x => by kernel_rfl) (fun g6 q6 hn6 => ?_)
  unfold setSlot
  go_big_quiet_step (fail)
  refine wpQuiet_nil ?_
  clear hn6
  have n6_2 : g6 ≠ g2 := Nat.ne_of_gt (Nat.lt_of_lt_of_le (lt_of_heap m2) q6)
  have n6_3 : g6 ≠ g3 := Nat.ne_of_gt (Nat.lt_of_lt_of_le (lt_of_heap m3) q6)
  have n6_4 : g6 ≠ g4 := Nat.ne_of_gt (Nat.lt_of_lt_of_le (lt_of_heap m4) q6)
  refine lex_store_all g6 _ _ _ (by rfl) (by rfl) (by rfl) (Blocks.put_same _ _ _) (by rfl) (Or.inr q6) (by kernel_rfl) (by simp [Value.oneCell']) ?_
  refine lex_nil ?_
  intro w3 hx hH
  have m6 := hH g6 _ (Blocks.put_same _ _ _)
  replace m2 := hx.keep m2 (by simp)
  replace m3 := hx.keep m3 (by simp)
  replace m4 := hx.keep m4 (by simp)
  have HB3 := Lib.hid (HB2.out.trans (hx.below_of (b := w.heap.size) (by simp) HB2.out.size))
  replace q6 := Nat.le_trans HB2.out.size q6
  clear hx hH HB2
  go_wp2_with (with_reducible refine wpList_from 14 [1, 0, 0, 0, 0, 0, 0, 2] [g2] _ (has_put (has_B0 _) m2) ?_)
  refine lex_readE 1 w3 (Behind.refl _ _) (has_put (has_B0 _) m2) (by kernel_rfl) (by rfl) ?_
  apply Exists.intro
  refine ⟨fun x hx hH => ?_, ?_⟩
  · have hwx := HB3.out.trans (hx.below_of (b := w.heap.size) (by simp [q2]) HB3.out.size)
    have e6_0 := blk_cellp (hx.keep m6 (by simp [n6_2])) 0 rfl
    have e2_0 := blk_cellp (hH g2 _ (Blocks.put_same _ _ _)) 0 rfl
    clear hH
    clear hx
    simp only [List.take_succ_cons, List.take_zero]
    unfold Cx
    repeat (go_big_quiet_step (first | with_reducible exact KA.at _ _))
    exact wpQuiet_nil rfl
  simp only [List.drop_succ_cons, List.drop_zero]
  refine lex_quietE 6 (by kernel_rfl) (by rfl) ?_
  apply Exists.intro
  refine ⟨fun x hx => ?_, ?_⟩
  · have hwx := HB3.out.trans (hx.below_of (b := w.heap.size) (by simp [q2]) HB3.out.size)
    have e6_0 := blk_cellp (hx.keep m6 (by simp [n6_2])) 0 rfl
    clear hx
    simp only [List.take_succ_cons, List.take_zero]
    unfold Cx
    repeat (go_big_quiet_step (first | with_reducible exact KA.at _ _))
    exact wpQuiet_nil rfl
  simp only [List.drop_succ_cons, List.drop_zero]
  refine lex_store_all g2 _ _ _ (by rfl) (by rfl) (by rfl) (Blocks.put_same _ _ _) (by rfl) (Or.inl (by simp)) (by kernel_rfl) (by simp [Value.oneCell']) ?_
  refine lex_nil ?_
  intro w4 hx hH
  replace m2 := hH g2 _ (Blocks.put_same _ _ _)
  replace m3 := hx.keep m3 (by simp [n3_2])
  replace m4 := hx.keep m4 (by simp [n4_2])
  replace m6 := hx.keep m6 (by simp [n6_2])
  have HB4 := Lib.hid (HB3.out.trans (hx.below_of (b := w.heap.size) (by simp [q2]) HB3.out.size))
  clear hx hH HB3
  go_wp2_with (with_reducible refine wpList_from 21 [1, 0, 0, 0, 0, 0, 0, 2] [g3] _ (has_put (has_B0 _) m3) ?_)
  refine lex_readE 1 w4 (Behind.refl _ _) (has_put (has_B0 _) m3) (by kernel_rfl) (by rfl) ?_
  apply Exists.intro
  refine ⟨fun x hx hH => ?_, ?_⟩
  · have hwx := HB4.out.trans (hx.below_of (b := w.heap.size) (by simp [q3]) HB4.out.size)
    have e6_0 := blk_cellp (hx.keep m6 (by simp [n6_3])) 0 rfl
    have e3_0 := blk_cellp (hH g3 _ (Blocks.put_same _ _ _)) 0 rfl
    clear hH
    clear hx
    simp only [List.take_succ_cons, List.take_zero]
    unfold Cx
    repeat (go_big_quiet_step (first | with_reducible exact KB.at _ _))
    exact wpQuiet_nil rfl
  simp only [List.drop_succ_cons, List.drop_zero]
  refine lex_quietE 6 (by kernel_rfl) (by rfl) ?_
  apply Exists.intro
  refine ⟨fun x hx => ?_, ?_⟩
  · have hwx := HB4.out.trans (hx.below_of (b := w.heap.size) (by simp [q3]) HB4.out.size)
    have e6_0 := blk_cellp (hx.keep m6 (by simp [n6_3])) 0 rfl
    clear hx
    simp only [List.take_succ_cons, List.take_zero]
    unfold Cx
    repeat (go_big_quiet_step (first | with_reducible exact KB.at _ _))
    exact wpQuiet_nil rfl
  simp only [List.drop_succ_cons, List.drop_zero]
  refine lex_store_all g3 _ _ _ (by rfl) (by rfl) (by rfl) (Blocks.put_same _ _ _) (by rfl) (Or.inl (by simp)) (by kernel_rfl) (by simp [Value.oneCell']) ?_
  refine lex_nil ?_
  intro w5 hx hH
  replace m3 := hH g3 _ (Blocks.put_same _ _ _)
  replace m2 := hx.keep m2 (by simp [(Ne.symm n3_2)])
  replace m4 := hx.keep m4 (by simp [n4_3])
  have HB5 := Lib.hid (HB4.out.trans (hx.below_of (b := w.heap.size) (by simp [q3]) HB4.out.size))
  clear hx hH HB4 m6 q6
  go_wp2_with (with_reducible refine wpList_from 27 [0, 0, 0, 2, 0] [g4] _ (has_put (has_B0 _) m4) ?_)
  refine lex_quietE 3 (by kernel_rfl) (by rfl) ?_
  apply Exists.intro
  refine ⟨fun x hx => ?_, ?_⟩
  · have hwx := HB5.out.trans (hx.below_of (b := w.heap.size) (by simp [q4]) HB5.out.size)
    have e2_0 := blk_cellp (hx.keep m2 (by simp [(Ne.symm n4_2)])) 0 rfl
    have e3_0 := blk_cellp (hx.keep m3 (by simp [(Ne.symm n4_3)])) 0 rfl
    clear hx
    simp only [List.take_succ_cons, List.take_zero]
    unfold Cx
    repeat (go_big_quiet_step (fail))
    exact wpQuiet_nil rfl
  simp only [List.drop_succ_cons, List.drop_zero]
  refine lex_store_all g4 _ _ _ (by rfl) (by rfl) (by rfl) (Blocks.put_same _ _ _) (by rfl) (Or.inl (by simp)) (by kernel_rfl) (by simp [Value.oneCell']) ?_
  refine lex_quietE 1 (by kernel_rfl) (by rfl) ?_
  apply Exists.intro
  refine ⟨fun x hx => ?_, ?_⟩
  · have hwx := HB5.out.trans (hx.below_of (b := w.heap.size) (by simp [q4]) HB5.out.size)
    have e2_0 := blk_cellp (hx.keep m2 (by simp [(Ne.symm n4_2)])) 0 rfl
    have e3_0 := blk_cellp (hx.keep m3 (by simp [(Ne.symm n4_3)])) 0 rfl
    clear hx
    simp only [List.take_succ_cons, List.take_zero]
    unfold Cx
    repeat (go_big_quiet_step (fail))
    exact wpQuiet_nil rfl
  simp only [List.drop_succ_cons, List.drop_zero]
  refine lex_nil ?_
  intro w6 hx hH
  replace m4 := hH g4 _ (Blocks.put_same _ _ _)
  have HB6 := Lib.hid (HB5.out.trans (hx.below_of (b := w.heap.size) (by simp [q4]) HB5.out.size))
  clear hx hH HB5 m2 m3 q2 q3
  have c4_0 := blk_cell m4 0 rfl
  have c4_1 := blk_cell m4 1 rfl
  go_wp2_with fail
  exact bodyPost_ret (v := .tuple #[.agg #[.string a, .string b], .bool true]) (by simp [results, Try.results60, go_sem, c4_0, c4_1]) rfl ⟨rfl, HB6.out⟩

set_option maxHeartbeats 1600000 in
set_option maxRecDepth 100000 in
theorem w_den_z (a b o : ByteArray) (KZ : Gives 79 #[.agg #[.string b]] (.bool true)) (KO : Gives 43 #[.int .u64 1] (.agg #[.string o])) : Gives 42 #[.agg #[.string a, .string b]] (.agg #[.string o]) := by
  intro w
  have HB0 := Lib.hid (Below.refl w.heap.size w)
  go_enter Try.func42, Try.ntmps42
  go_wp2_with (with_reducible refine wpList_from 1 [3, 3] [] B0 (has_B0 _) ?_)
  refine lex_box_agg _ (by rfl) (by rfl) (fun g1 q1 hn1 => ?_)
  unfold setSlot
  go_big_quiet_step (fail)
  refine wpQuiet_nil ?_
  clear hn1
  refine lex_alloc (.agg #[.string ByteArray.empty]) (by rfl) (fun x => by kernel_rfl) (fun g2 q2 hn2 => ?_)
  unfold setSlot
  go_big_quiet_step (fail)
  refine wpQuiet_nil ?_
  have n2_1 := ne_of_put hn2
  replace hn2 := none_of_put hn2
  clear hn2
  refine lex_nil ?_
  intro w1 hx hH
  have m1 := hH g1 _ ((Blocks.put_other _ _ (Ne.symm n2_1)).trans (Blocks.put_same _ _ _))
  have m2 := hH g2 _ (Blocks.put_same _ _ _)
  have HB1 := Lib.hid (HB0.out.trans (hx.below_of (b := w.heap.size) (by simp) HB0.out.size))
  replace q1 := Nat.le_trans HB0.out.size q1
  replace q2 := Nat.le_trans HB0.out.size q2
  clear hx hH HB0
  go_wp2_with (with_reducible refine wpList_from 3 [0, 0, 0] [] B0 (has_B0 _) ?_)
  refine lex_quietE 3 (by kernel_rfl) (by rfl) ?_
  apply Exists.intro
  refine ⟨fun x hx => ?_, ?_⟩
  · have hwx := HB1.out.trans (hx.below_of (b := w.heap.size) (by simp) HB1.out.size)
    have e1_0 := blk_cellp (hx.keep m1 (by simp)) 0 rfl
    have e1_1 := blk_cellp (hx.keep m1 (by simp)) 1 rfl
    clear hx
    simp only [List.take_succ_cons, List.take_zero]
    unfold Cx
    repeat (go_big_quiet_step (first | with_reducible exact KZ.at _ _))
    exact wpQuiet_nil rfl
  simp only [List.drop_succ_cons, List.drop_zero]
  refine lex_nil ?_
  intro w2 hx hH
  replace m2 := hx.keep m2 (by simp)
  have HB2 := Lib.hid (HB1.out.trans (hx.below_of (b := w.heap.size) (by simp) HB1.out.size))
  clear hx hH HB1 m1 q1
  go_wp2_with (with_reducible refine wpList_from 6 [0, 2] [g2] _ (has_put (has_B0 _) m2) ?_)
  refine lex_quietE 1 (by kernel_rfl) (by rfl) ?_
  apply Exists.intro
  refine ⟨fun x hx => ?_, ?_⟩
  · have hwx := HB2.out.trans (hx.below_of (b := w.heap.size) (by simp [q2]) HB2.out.size)
    clear hx
    simp only [List.take_succ_cons, List.take_zero]
    unfold Cx
    repeat (go_big_quiet_step (first | with_reducible exact KO.at _ _))
    exact wpQuiet_nil rfl
  simp only [List.drop_succ_cons, List.drop_zero]
  refine lex_store_all g2 _ _ _ (by rfl) (by rfl) (by rfl) (Blocks.put_same _ _ _) (by rfl) (Or.inl (by simp)) (by kernel_rfl) (by simp [Value.oneCell']) ?_
  refine lex_nil ?_
  intro w3 hx hH
  replace m2 := hH g2 _ (Blocks.put_same _ _ _)
  have HB3 := Lib.hid (HB2.out.trans (hx.below_of (b := w.heap.size) (by simp [q2]) HB2.out.size))
  clear hx hH HB2
  have c2_0 := blk_cell m2 0 rfl
  go_wp2_with fail
  exact bodyPost_ret (v := .agg #[.string o]) (by simp [results, Try.results42, go_sem, c2_0]) rfl ⟨rfl, HB3.out⟩

set_option maxHeartbeats 1600000 in
set_option maxRecDepth 100000 in
theorem w_den (a b : ByteArray) (KZ : Gives 79 #[.agg #[.string b]] (.bool false)) : Gives 42 #[.agg #[.string a, .string b]] (.agg #[.string b]) := by
  intro w
  have HB0 := Lib.hid (Below.refl w.heap.size w)
  go_enter Try.func42, Try.ntmps42
  go_wp2_with (with_reducible refine wpList_from 1 [3, 3] [] B0 (has_B0 _) ?_)
  refine lex_box_agg _ (by rfl) (by rfl) (fun g1 q1 hn1 => ?_)
  unfold setSlot
  go_big_quiet_step (fail)
  refine wpQuiet_nil ?_
  clear hn1
  refine lex_alloc (.agg #[.string ByteArray.empty]) (by rfl) (fun x => by kernel_rfl) (fun g2 q2 hn2 => ?_)
  unfold setSlot
  go_big_quiet_step (fail)
  refine wpQuiet_nil ?_
  have n2_1 := ne_of_put hn2
  replace hn2 := none_of_put hn2
  clear hn2
  refine lex_nil ?_
  intro w1 hx hH
  have m1 := hH g1 _ ((Blocks.put_other _ _ (Ne.symm n2_1)).trans (Blocks.put_same _ _ _))
  have m2 := hH g2 _ (Blocks.put_same _ _ _)
  have HB1 := Lib.hid (HB0.out.trans (hx.below_of (b := w.heap.size) (by simp) HB0.out.size))
  replace q1 := Nat.le_trans HB0.out.size q1
  replace q2 := Nat.le_trans HB0.out.size q2
  clear hx hH HB0
  go_wp2_with (with_reducible refine wpList_from 3 [0, 0, 0] [] B0 (has_B0 _) ?_)
  refine lex_quietE 3 (by kernel_rfl) (by rfl) ?_
  apply Exists.intro
  refine ⟨fun x hx => ?_, ?_⟩
  · have hwx := HB1.out.trans (hx.below_of (b := w.heap.size) (by simp) HB1.out.size)
    have e1_0 := blk_cellp (hx.keep m1 (by simp)) 0 rfl
    have e1_1 := blk_cellp (hx.keep m1 (by simp)) 1 rfl
    clear hx
    simp only [List.take_succ_cons, List.take_zero]
    unfold Cx
    repeat (go_big_quiet_step (first | with_reducible exact KZ.at _ _))
    exact wpQuiet_nil rfl
  simp only [List.drop_succ_cons, List.drop_zero]
  refine lex_nil ?_
  intro w2 hx hH
  replace m1 := hx.keep m1 (by simp)
  replace m2 := hx.keep m2 (by simp)
  have HB2 := Lib.hid (HB1.out.trans (hx.below_of (b := w.heap.size) (by simp) HB1.out.size))
  clear hx hH HB1
  go_wp2_with (with_reducible refine wpList_from 7 [0, 0, 2] [g2] _ (has_put (has_B0 _) m2) ?_)
  refine lex_quietE 2 (by kernel_rfl) (by rfl) ?_
  apply Exists.intro
  refine ⟨fun x hx => ?_, ?_⟩
  · have hwx := HB2.out.trans (hx.below_of (b := w.heap.size) (by simp [q2]) HB2.out.size)
    have e1_0 := blk_cellp (hx.keep m1 (by simp [(Ne.symm n2_1)])) 0 rfl
    have e1_1 := blk_cellp (hx.keep m1 (by simp [(Ne.symm n2_1)])) 1 rfl
    clear hx
    simp only [List.take_succ_cons, List.take_zero]
    unfold Cx
    repeat (go_big_quiet_step (fail))
    exact wpQuiet_nil rfl
  simp only [List.drop_succ_cons, List.drop_zero]
  refine lex_store_all g2 _ _ _ (by rfl) (by rfl) (by rfl) (Blocks.put_same _ _ _) (by rfl) (Or.inl (by simp)) (by kernel_rfl) (by simp [Value.oneCell']) ?_
  refine lex_nil ?_
  intro w3 hx hH
  replace m2 := hH g2 _ (Blocks.put_same _ _ _)
  have HB3 := Lib.hid (HB2.out.trans (hx.below_of (b := w.heap.size) (by simp [q2]) HB2.out.size))
  clear hx hH HB2 m1 q1
  have c2_0 := blk_cell m2 0 rfl
  go_wp2_with fail
  exact bodyPost_ret (v := .agg #[.string b]) (by simp [results, Try.results42, go_sem, c2_0]) rfl ⟨rfl, HB3.out⟩

set_option maxHeartbeats 1600000 in
set_option maxRecDepth 100000 in
theorem w_of (m n : Int) (a b p q : ByteArray) (ok : Bool) (KA : Gives 43 #[.int .u64 m] (.agg #[.string a])) (KB : Gives 43 #[.int .u64 n] (.agg #[.string b])) (KN : Gives 60 #[.agg #[.string a], .agg #[.string b]] (.tuple #[.agg #[.string p, .string q], .bool ok])) : Gives 25 #[.int .u64 m, .int .u64 n] (.tuple #[.agg #[.string p, .string q], .bool ok]) := by
  intro w
  have HB0 := Lib.hid (Below.refl w.heap.size w)
  go_enter Try.func25, Try.ntmps25
  go_wp2_with (with_reducible refine wpList_from 4 [3, 0] [] B0 (has_B0 _) ?_)
  refine lex_alloc (.agg #[.string ByteArray.empty, .string ByteArray.empty]) (by rfl) (fun x => by kernel_rfl) (fun g4 q4 hn4 => ?_)
  unfold setSlot
  go_big_quiet_step (fail)
  refine wpQuiet_nil ?_
  clear hn4
  refine lex_quietE 1 (by kernel_rfl) (by rfl) ?_
  apply Exists.intro
  refine ⟨fun x hx => ?_, ?_⟩
  · have hwx := HB0.out.trans (hx.below_of (b := w.heap.size) (by simp) HB0.out.size)
    clear hx
    simp only [List.take_succ_cons, List.take_zero]
    unfold Cx
    repeat (go_big_quiet_step (fail))
    exact wpQuiet_nil rfl
  simp only [List.drop_succ_cons, List.drop_zero]
  refine lex_nil ?_
  intro w1 hx hH
  have m4 := hH g4 _ (Blocks.put_same _ _ _)
  have HB1 := Lib.hid (HB0.out.trans (hx.below_of (b := w.heap.size) (by simp) HB0.out.size))
  replace q4 := Nat.le_trans HB0.out.size q4
  clear hx hH HB0
  go_wp2_with (with_reducible refine wpList_from 7 [0, 0, 0, 0, 0, 0, 2, 0] [g4] _ (has_put (has_B0 _) m4) ?_)
  refine lex_quietE 6 (by kernel_rfl) (by rfl) ?_
  apply Exists.intro
  refine ⟨fun x hx => ?_, ?_⟩
  · have hwx := HB1.out.trans (hx.below_of (b := w.heap.size) (by simp [q4]) HB1.out.size)
    clear hx
    simp only [List.take_succ_cons, List.take_zero]
    unfold Cx
    repeat (go_big_quiet_step (first | with_reducible exact KA.at _ _ | with_reducible exact KB.at _ _ | with_reducible exact KN.at _ _))
    exact wpQuiet_nil rfl
  simp only [List.drop_succ_cons, List.drop_zero]
  refine lex_store_all g4 _ _ _ (by rfl) (by rfl) (by rfl) (Blocks.put_same _ _ _) (by rfl) (Or.inl (by simp)) (by kernel_rfl) (by simp [Value.oneCell']) ?_
  refine lex_quietE 1 (by kernel_rfl) (by rfl) ?_
  apply Exists.intro
  refine ⟨fun x hx => ?_, ?_⟩
  · have hwx := HB1.out.trans (hx.below_of (b := w.heap.size) (by simp [q4]) HB1.out.size)
    clear hx
    simp only [List.take_succ_cons, List.take_zero]
    unfold Cx
    repeat (go_big_quiet_step (first | with_reducible exact KA.at _ _ | with_reducible exact KB.at _ _ | with_reducible exact KN.at _ _))
    exact wpQuiet_nil rfl
  simp only [List.drop_succ_cons, List.drop_zero]
  refine lex_nil ?_
  intro w2 hx hH
  replace m4 := hH g4 _ (Blocks.put_same _ _ _)
  have HB2 := Lib.hid (HB1.out.trans (hx.below_of (b := w.heap.size) (by simp [q4]) HB1.out.size))
  clear hx hH HB1
  have c4_0 := blk_cell m4 0 rfl
  have c4_1 := blk_cell m4 1 rfl
  go_wp2_with fail
  exact bodyPost_ret (v := .tuple #[.agg #[.string p, .string q], .bool ok]) (by simp [results, Try.results25, go_sem, c4_0, c4_1]) rfl ⟨rfl, HB2.out⟩

set_option maxHeartbeats 1600000 in
set_option maxRecDepth 100000 in
theorem w_text1 (a b d o t : ByteArray) (KD : Gives 42 #[.agg #[.string a, .string b]] (.agg #[.string d])) (KO : Gives 43 #[.int .u64 1] (.agg #[.string o])) (KC : Gives 41 #[.agg #[.string d], .agg #[.string o]] (.int .i64 0)) (KT : Gives 44 #[.agg #[.string a]] (.string t)) : Gives 16 #[.agg #[.string a, .string b]] (.string t) := by
  intro w
  have HB0 := Lib.hid (Below.refl w.heap.size w)
  go_enter Try.func16, Try.ntmps16
  go_wp2_with (with_reducible refine wpList_from 1 [3, 0] [] B0 (has_B0 _) ?_)
  refine lex_box_agg _ (by rfl) (by rfl) (fun g1 q1 hn1 => ?_)
  unfold setSlot
  go_big_quiet_step (fail)
  refine wpQuiet_nil ?_
  clear hn1
  refine lex_quietE 1 (by kernel_rfl) (by rfl) ?_
  apply Exists.intro
  refine ⟨fun x hx => ?_, ?_⟩
  · have hwx := HB0.out.trans (hx.below_of (b := w.heap.size) (by simp) HB0.out.size)
    clear hx
    simp only [List.take_succ_cons, List.take_zero]
    unfold Cx
    repeat (go_big_quiet_step (fail))
    exact wpQuiet_nil rfl
  simp only [List.drop_succ_cons, List.drop_zero]
  refine lex_nil ?_
  intro w1 hx hH
  have m1 := hH g1 _ (Blocks.put_same _ _ _)
  have HB1 := Lib.hid (HB0.out.trans (hx.below_of (b := w.heap.size) (by simp) HB0.out.size))
  replace q1 := Nat.le_trans HB0.out.size q1
  clear hx hH HB0
  go_wp2_with (with_reducible refine wpList_from 3 [0, 0, 0, 0, 0] [] B0 (has_B0 _) ?_)
  refine lex_quietE 5 (by kernel_rfl) (by rfl) ?_
  apply Exists.intro
  refine ⟨fun x hx => ?_, ?_⟩
  · have hwx := HB1.out.trans (hx.below_of (b := w.heap.size) (by simp) HB1.out.size)
    have e1_0 := blk_cellp (hx.keep m1 (by simp)) 0 rfl
    have e1_1 := blk_cellp (hx.keep m1 (by simp)) 1 rfl
    clear hx
    simp only [List.take_succ_cons, List.take_zero]
    unfold Cx
    repeat (go_big_quiet_step (first | with_reducible exact KD.at _ _ | with_reducible exact KO.at _ _ | with_reducible exact KC.at _ _))
    exact wpQuiet_nil rfl
  simp only [List.drop_succ_cons, List.drop_zero]
  refine lex_nil ?_
  intro w2 hx hH
  replace m1 := hx.keep m1 (by simp)
  have HB2 := Lib.hid (HB1.out.trans (hx.below_of (b := w.heap.size) (by simp) HB1.out.size))
  clear hx hH HB1
  go_wp2_with (with_reducible refine wpList_from 8 [0, 0, 0, 0] [] B0 (has_B0 _) ?_)
  refine lex_quietE 4 (by kernel_rfl) (by rfl) ?_
  apply Exists.intro
  refine ⟨fun x hx => ?_, ?_⟩
  · have hwx := HB2.out.trans (hx.below_of (b := w.heap.size) (by simp) HB2.out.size)
    have e1_0 := blk_cellp (hx.keep m1 (by simp)) 0 rfl
    have e1_1 := blk_cellp (hx.keep m1 (by simp)) 1 rfl
    clear hx
    simp only [List.take_succ_cons, List.take_zero]
    unfold Cx
    repeat (go_big_quiet_step (first | with_reducible exact KT.at _ _))
    exact wpQuiet_nil rfl
  simp only [List.drop_succ_cons, List.drop_zero]
  refine lex_nil ?_
  intro w3 hx hH
  have HB3 := Lib.hid (HB2.out.trans (hx.below_of (b := w.heap.size) (by simp) HB2.out.size))
  clear hx hH HB2 m1 q1
  go_wp2_with fail
  exact bodyPost_ret (v := .string t) (by simp [results, Try.results16, go_sem]) rfl ⟨rfl, HB3.out⟩

set_option maxHeartbeats 1600000 in
set_option maxRecDepth 100000 in
theorem w_text2 (a b d o t u : ByteArray) (c : Int) (hc : (c == 0) = false) (ht : t.size ≤ 100000000000) (hu : u.size ≤ 100000000000) (KD : Gives 42 #[.agg #[.string a, .string b]] (.agg #[.string d])) (KO : Gives 43 #[.int .u64 1] (.agg #[.string o])) (KC : Gives 41 #[.agg #[.string d], .agg #[.string o]] (.int .i64 c)) (KT : Gives 44 #[.agg #[.string a]] (.string t)) (KU : Gives 44 #[.agg #[.string b]] (.string u)) : Gives 16 #[.agg #[.string a, .string b]] (.string (t ++ { data := #[47] } ++ u)) := by
  intro w
  have HB0 := Lib.hid (Below.refl w.heap.size w)
  go_enter Try.func16, Try.ntmps16
  go_wp2_with (with_reducible refine wpList_from 1 [3, 0] [] B0 (has_B0 _) ?_)
  refine lex_box_agg _ (by rfl) (by rfl) (fun g1 q1 hn1 => ?_)
  unfold setSlot
  go_big_quiet_step (fail)
  refine wpQuiet_nil ?_
  clear hn1
  refine lex_quietE 1 (by kernel_rfl) (by rfl) ?_
  apply Exists.intro
  refine ⟨fun x hx => ?_, ?_⟩
  · have hwx := HB0.out.trans (hx.below_of (b := w.heap.size) (by simp) HB0.out.size)
    clear hx
    simp only [List.take_succ_cons, List.take_zero]
    unfold Cx
    repeat (go_big_quiet_step (fail))
    exact wpQuiet_nil rfl
  simp only [List.drop_succ_cons, List.drop_zero]
  refine lex_nil ?_
  intro w1 hx hH
  have m1 := hH g1 _ (Blocks.put_same _ _ _)
  have HB1 := Lib.hid (HB0.out.trans (hx.below_of (b := w.heap.size) (by simp) HB0.out.size))
  replace q1 := Nat.le_trans HB0.out.size q1
  clear hx hH HB0
  go_wp2_with (with_reducible refine wpList_from 3 [0, 0, 0, 0, 0] [] B0 (has_B0 _) ?_)
  refine lex_quietE 5 (by kernel_rfl) (by rfl) ?_
  apply Exists.intro
  refine ⟨fun x hx => ?_, ?_⟩
  · have hwx := HB1.out.trans (hx.below_of (b := w.heap.size) (by simp) HB1.out.size)
    have e1_0 := blk_cellp (hx.keep m1 (by simp)) 0 rfl
    have e1_1 := blk_cellp (hx.keep m1 (by simp)) 1 rfl
    clear hx
    simp only [List.take_succ_cons, List.take_zero]
    unfold Cx
    repeat (go_big_quiet_step (first | with_reducible exact KD.at _ _ | with_reducible exact KO.at _ _ | with_reducible exact KC.at _ _))
    exact wpQuiet_nil rfl
  simp only [List.drop_succ_cons, List.drop_zero]
  refine lex_nil ?_
  intro w2 hx hH
  replace m1 := hx.keep m1 (by simp)
  have HB2 := Lib.hid (HB1.out.trans (hx.below_of (b := w.heap.size) (by simp) HB1.out.size))
  clear hx hH HB1
  go_wp2_with fail
  refine wp_game [0, 0, 0, 0, 0, 0, 0, 0, 0] [] B0 fin_B0 (has_B0 _) (by kernel_rfl) (by kernel_rfl) ?_
  refine lex_quietE 9 (by kernel_rfl) (by rfl) ?_
  apply Exists.intro
  refine ⟨fun x hx => ?_, ?_⟩
  · have hwx := HB2.out.trans (hx.below_of (b := w.heap.size) (by simp) HB2.out.size)
    have e1_0 := blk_cellp (hx.keep m1 (by simp)) 0 rfl
    have e1_1 := blk_cellp (hx.keep m1 (by simp)) 1 rfl
    clear hx
    simp only [List.take_succ_cons, List.take_zero]
    unfold Cx
    repeat (go_big_quiet_step (first | with_reducible exact KT.at _ _ | with_reducible exact KU.at _ _))
    exact wpQuiet_nil rfl
  simp only [List.drop_succ_cons, List.drop_zero]
  refine lex_nil ?_
  intro w3 hx hH
  have HB3 := Lib.hid (HB2.out.trans (hx.below_of (b := w.heap.size) (by simp) HB2.out.size))
  clear hx hH HB2 m1 q1
  go_wp2_with fail
  exact bodyPost_ret (v := .string (t ++ { data := #[47] } ++ u)) (by simp [results, Try.results16, go_sem]) rfl ⟨rfl, HB3.out⟩

set_option maxHeartbeats 1600000 in
set_option maxRecDepth 100000 in
theorem w_join_add (a b c d x y p q r e u v : ByteArray) (KD2 : Gives 42 #[.agg #[.string c, .string d]] (.agg #[.string y])) (KD1 : Gives 42 #[.agg #[.string a, .string b]] (.agg #[.string x])) (KM1 : Gives 61 #[.agg #[.string a], .agg #[.string y]] (.agg #[.string p])) (KM2 : Gives 61 #[.agg #[.string c], .agg #[.string x]] (.agg #[.string q])) (KF : Gives 65 #[.agg #[.string p], .agg #[.string q]] (.tuple #[.agg #[.string r], .bool true])) (KM3 : Gives 61 #[.agg #[.string x], .agg #[.string y]] (.agg #[.string e])) (KN : Gives 60 #[.agg #[.string r], .agg #[.string e]] (.tuple #[.agg #[.string u, .string v], .bool true])) : Gives 62 #[.agg #[.string a, .string b], .agg #[.string c, .string d], .func (.func 65) #[] #[]] (.tuple #[.agg #[.string u, .string v], .bool true]) := by
  intro w
  have HB0 := Lib.hid (Below.refl w.heap.size w)
  go_enter Try.func62, Try.ntmps62
  go_wp2_with (with_reducible refine wpList_from 3 [3, 3, 3, 0] [] B0 (has_B0 _) ?_)
  refine lex_box_agg _ (by rfl) (by rfl) (fun g3 q3 hn3 => ?_)
  unfold setSlot
  go_big_quiet_step (fail)
  refine wpQuiet_nil ?_
  clear hn3
  refine lex_box_agg _ (by rfl) (by rfl) (fun g4 q4 hn4 => ?_)
  unfold setSlot
  go_big_quiet_step (fail)
  refine wpQuiet_nil ?_
  have n4_3 := ne_of_put hn4
  replace hn4 := none_of_put hn4
  clear hn4
  refine lex_alloc (.agg #[.string ByteArray.empty, .string ByteArray.empty]) (by rfl) (fun x => by kernel_rfl) (fun g6 q6 hn6 => ?_)
  unfold setSlot
  go_big_quiet_step (fail)
  refine wpQuiet_nil ?_
  have n6_4 := ne_of_put hn6
  replace hn6 := none_of_put hn6
  have n6_3 := ne_of_put hn6
  replace hn6 := none_of_put hn6
  clear hn6
  refine lex_quietE 1 (by kernel_rfl) (by rfl) ?_
  apply Exists.intro
  refine ⟨fun x hx => ?_, ?_⟩
  · have hwx := HB0.out.trans (hx.below_of (b := w.heap.size) (by simp) HB0.out.size)
    clear hx
    simp only [List.take_succ_cons, List.take_zero]
    unfold Cx
    repeat (go_big_quiet_step (fail))
    exact wpQuiet_nil rfl
  simp only [List.drop_succ_cons, List.drop_zero]
  refine lex_nil ?_
  intro w1 hx hH
  have m3 := hH g3 _ ((Blocks.put_other _ _ (Ne.symm n6_3)).trans ((Blocks.put_other _ _ (Ne.symm n4_3)).trans (Blocks.put_same _ _ _)))
  have m4 := hH g4 _ ((Blocks.put_other _ _ (Ne.symm n6_4)).trans (Blocks.put_same _ _ _))
  have m6 := hH g6 _ (Blocks.put_same _ _ _)
  have HB1 := Lib.hid (HB0.out.trans (hx.below_of (b := w.heap.size) (by simp) HB0.out.size))
  replace q3 := Nat.le_trans HB0.out.size q3
  replace q4 := Nat.le_trans HB0.out.size q4
  replace q6 := Nat.le_trans HB0.out.size q6
  clear hx hH HB0
  go_wp2_with fail
  refine wp_game [0, 0, 0, 0, 0, 0, 0, 0, 0, 0, 0, 0, 0, 0, 0, 3, 2, 0] [] B0 fin_B0 (has_B0 _) (by kernel_rfl) (by kernel_rfl) ?_
  refine lex_quietE 15 (by kernel_rfl) (by rfl) ?_
  apply Exists.intro
  refine ⟨fun x hx => ?_, ?_⟩
  · have hwx := HB1.out.trans (hx.below_of (b := w.heap.size) (by simp) HB1.out.size)
    have e3_0 := blk_cellp (hx.keep m3 (by simp)) 0 rfl
    have e3_1 := blk_cellp (hx.keep m3 (by simp)) 1 rfl
    have e4_0 := blk_cellp (hx.keep m4 (by simp)) 0 rfl
    have e4_1 := blk_cellp (hx.keep m4 (by simp)) 1 rfl
    clear hx
    simp only [List.take_succ_cons, List.take_zero]
    unfold Cx
    repeat (go_big_quiet_step (first | with_reducible exact KD2.at _ _ | with_reducible exact KD1.at _ _ | with_reducible exact KM1.at _ _ | with_reducible exact KM2.at _ _ | with_reducible exact KF.at _ _))
    exact wpQuiet_nil rfl
  simp only [List.drop_succ_cons, List.drop_zero]
  refine lex_alloc (.agg #[.string ByteArray.empty]) (by rfl) (fun x => by kernel_rfl) (fun g8 q8 hn8 => ?_)
  unfold setSlot
  go_big_quiet_step (fail)
  refine wpQuiet_nil ?_
  clear hn8
  have n8_3 : g8 ≠ g3 := Nat.ne_of_gt (Nat.lt_of_lt_of_le (lt_of_heap m3) q8)
  have n8_4 : g8 ≠ g4 := Nat.ne_of_gt (Nat.lt_of_lt_of_le (lt_of_heap m4) q8)
  have n8_6 : g8 ≠ g6 := Nat.ne_of_gt (Nat.lt_of_lt_of_le (lt_of_heap m6) q8)
  refine lex_store_all g8 _ _ _ (by rfl) (by rfl) (by rfl) (Blocks.put_same _ _ _) (by rfl) (Or.inr q8) (by kernel_rfl) (by simp [Value.oneCell']) ?_
  refine lex_quietE 1 (by kernel_rfl) (by rfl) ?_
  apply Exists.intro
  refine ⟨fun x hx => ?_, ?_⟩
  · have hwx := HB1.out.trans (hx.below_of (b := w.heap.size) (by simp) HB1.out.size)
    have e3_0 := blk_cellp (hx.keep m3 (by simp)) 0 rfl
    have e3_1 := blk_cellp (hx.keep m3 (by simp)) 1 rfl
    have e4_0 := blk_cellp (hx.keep m4 (by simp)) 0 rfl
    have e4_1 := blk_cellp (hx.keep m4 (by simp)) 1 rfl
    clear hx
    simp only [List.take_succ_cons, List.take_zero]
    unfold Cx
    repeat (go_big_quiet_step (first | with_reducible exact KD2.at _ _ | with_reducible exact KD1.at _ _ | with_reducible exact KM1.at _ _ | with_reducible exact KM2.at _ _ | with_reducible exact KF.at _ _))
    exact wpQuiet_nil rfl
  simp only [List.drop_succ_cons, List.drop_zero]
  refine lex_nil ?_
  intro w2 hx hH
  have m8 := hH g8 _ (Blocks.put_same _ _ _)
  replace m3 := hx.keep m3 (by simp)
  replace m4 := hx.keep m4 (by simp)
  replace m6 := hx.keep m6 (by simp)
  have HB2 := Lib.hid (HB1.out.trans (hx.below_of (b := w.heap.size) (by simp) HB1.out.size))
  replace q8 := Nat.le_trans HB1.out.size q8
  clear hx hH HB1
  go_wp2_with fail
  refine wp_game [0, 0, 0, 0, 0, 0, 0, 0, 0, 2, 0] [g6] _ (Fin.put fin_B0 _ _) (has_put (has_B0 _) m6) (by kernel_rfl) (by kernel_rfl) ?_
  refine lex_quietE 9 (by kernel_rfl) (by rfl) ?_
  apply Exists.intro
  refine ⟨fun x hx => ?_, ?_⟩
  · have hwx := HB2.out.trans (hx.below_of (b := w.heap.size) (by simp [q6]) HB2.out.size)
    have e8_0 := blk_cellp (hx.keep m8 (by simp [n8_6])) 0 rfl
    have e3_0 := blk_cellp (hx.keep m3 (by simp [(Ne.symm n6_3)])) 0 rfl
    have e3_1 := blk_cellp (hx.keep m3 (by simp [(Ne.symm n6_3)])) 1 rfl
    have e4_0 := blk_cellp (hx.keep m4 (by simp [(Ne.symm n6_4)])) 0 rfl
    have e4_1 := blk_cellp (hx.keep m4 (by simp [(Ne.symm n6_4)])) 1 rfl
    clear hx
    simp only [List.take_succ_cons, List.take_zero]
    unfold Cx
    repeat (go_big_quiet_step (first | with_reducible exact KD1.at _ _ | with_reducible exact KD2.at _ _ | with_reducible exact KM3.at _ _ | with_reducible exact KN.at _ _))
    exact wpQuiet_nil rfl
  simp only [List.drop_succ_cons, List.drop_zero]
  refine lex_store_all g6 _ _ _ (by rfl) (by rfl) (by rfl) (Blocks.put_same _ _ _) (by rfl) (Or.inl (by simp)) (by kernel_rfl) (by simp [Value.oneCell']) ?_
  refine lex_quietE 1 (by kernel_rfl) (by rfl) ?_
  apply Exists.intro
  refine ⟨fun x hx => ?_, ?_⟩
  · have hwx := HB2.out.trans (hx.below_of (b := w.heap.size) (by simp [q6]) HB2.out.size)
    have e8_0 := blk_cellp (hx.keep m8 (by simp [n8_6])) 0 rfl
    have e3_0 := blk_cellp (hx.keep m3 (by simp [(Ne.symm n6_3)])) 0 rfl
    have e3_1 := blk_cellp (hx.keep m3 (by simp [(Ne.symm n6_3)])) 1 rfl
    have e4_0 := blk_cellp (hx.keep m4 (by simp [(Ne.symm n6_4)])) 0 rfl
    have e4_1 := blk_cellp (hx.keep m4 (by simp [(Ne.symm n6_4)])) 1 rfl
    clear hx
    simp only [List.take_succ_cons, List.take_zero]
    unfold Cx
    repeat (go_big_quiet_step (first | with_reducible exact KD1.at _ _ | with_reducible exact KD2.at _ _ | with_reducible exact KM3.at _ _ | with_reducible exact KN.at _ _))
    exact wpQuiet_nil rfl
  simp only [List.drop_succ_cons, List.drop_zero]
  refine lex_nil ?_
  intro w3 hx hH
  replace m6 := hH g6 _ (Blocks.put_same _ _ _)
  have HB3 := Lib.hid (HB2.out.trans (hx.below_of (b := w.heap.size) (by simp [q6]) HB2.out.size))
  clear hx hH HB2 m3 m4 m8 q3 q4 q8
  have c6_0 := blk_cell m6 0 rfl
  have c6_1 := blk_cell m6 1 rfl
  go_wp2_with fail
  exact bodyPost_ret (v := .tuple #[.agg #[.string u, .string v], .bool true]) (by simp [results, Try.results62, go_sem, c6_0, c6_1]) rfl ⟨rfl, HB3.out⟩

set_option maxHeartbeats 1600000 in
set_option maxRecDepth 100000 in
theorem w_add1 (a b c : ByteArray) (KA : Gives 66 #[.agg #[.string a], .agg #[.string b]] (.agg #[.string c])) : Gives 65 #[.agg #[.string a], .agg #[.string b]] (.tuple #[.agg #[.string c], .bool true]) := by
  intro w
  have HB0 := Lib.hid (Below.refl w.heap.size w)
  go_enter Try.func65, Try.ntmps65
  go_wp2_with (with_reducible refine wpList_from 2 [3, 3, 3, 0] [] B0 (has_B0 _) ?_)
  refine lex_box_agg _ (by rfl) (by rfl) (fun g2 q2 hn2 => ?_)
  unfold setSlot
  go_big_quiet_step (fail)
  refine wpQuiet_nil ?_
  clear hn2
  refine lex_box_agg _ (by rfl) (by rfl) (fun g3 q3 hn3 => ?_)
  unfold setSlot
  go_big_quiet_step (fail)
  refine wpQuiet_nil ?_
  have n3_2 := ne_of_put hn3
  replace hn3 := none_of_put hn3
  clear hn3
  refine lex_alloc (.agg #[.string ByteArray.empty]) (by rfl) (fun x => by kernel_rfl) (fun g4 q4 hn4 => ?_)
  unfold setSlot
  go_big_quiet_step (fail)
  refine wpQuiet_nil ?_
  have n4_3 := ne_of_put hn4
  replace hn4 := none_of_put hn4
  have n4_2 := ne_of_put hn4
  replace hn4 := none_of_put hn4
  clear hn4
  refine lex_quietE 1 (by kernel_rfl) (by rfl) ?_
  apply Exists.intro
  refine ⟨fun x hx => ?_, ?_⟩
  · have hwx := HB0.out.trans (hx.below_of (b := w.heap.size) (by simp) HB0.out.size)
    clear hx
    simp only [List.take_succ_cons, List.take_zero]
    unfold Cx
    repeat (go_big_quiet_step (fail))
    exact wpQuiet_nil rfl
  simp only [List.drop_succ_cons, List.drop_zero]
  refine lex_nil ?_
  intro w1 hx hH
  have m2 := hH g2 _ ((Blocks.put_other _ _ (Ne.symm n4_2)).trans ((Blocks.put_other _ _ (Ne.symm n3_2)).trans (Blocks.put_same _ _ _)))
  have m3 := hH g3 _ ((Blocks.put_other _ _ (Ne.symm n4_3)).trans (Blocks.put_same _ _ _))
  have m4 := hH g4 _ (Blocks.put_same _ _ _)
  have HB1 := Lib.hid (HB0.out.trans (hx.below_of (b := w.heap.size) (by simp) HB0.out.size))
  replace q2 := Nat.le_trans HB0.out.size q2
  replace q3 := Nat.le_trans HB0.out.size q3
  replace q4 := Nat.le_trans HB0.out.size q4
  clear hx hH HB0
  go_wp2_with (with_reducible refine wpList_from 6 [0, 0, 0, 2, 0] [g4] _ (has_put (has_B0 _) m4) ?_)
  refine lex_quietE 3 (by kernel_rfl) (by rfl) ?_
  apply Exists.intro
  refine ⟨fun x hx => ?_, ?_⟩
  · have hwx := HB1.out.trans (hx.below_of (b := w.heap.size) (by simp [q4]) HB1.out.size)
    have e2_0 := blk_cellp (hx.keep m2 (by simp [(Ne.symm n4_2)])) 0 rfl
    have e3_0 := blk_cellp (hx.keep m3 (by simp [(Ne.symm n4_3)])) 0 rfl
    clear hx
    simp only [List.take_succ_cons, List.take_zero]
    unfold Cx
    repeat (go_big_quiet_step (first | with_reducible exact KA.at _ _))
    exact wpQuiet_nil rfl
  simp only [List.drop_succ_cons, List.drop_zero]
  refine lex_store_all g4 _ _ _ (by rfl) (by rfl) (by rfl) (Blocks.put_same _ _ _) (by rfl) (Or.inl (by simp)) (by kernel_rfl) (by simp [Value.oneCell']) ?_
  refine lex_quietE 1 (by kernel_rfl) (by rfl) ?_
  apply Exists.intro
  refine ⟨fun x hx => ?_, ?_⟩
  · have hwx := HB1.out.trans (hx.below_of (b := w.heap.size) (by simp [q4]) HB1.out.size)
    have e2_0 := blk_cellp (hx.keep m2 (by simp [(Ne.symm n4_2)])) 0 rfl
    have e3_0 := blk_cellp (hx.keep m3 (by simp [(Ne.symm n4_3)])) 0 rfl
    clear hx
    simp only [List.take_succ_cons, List.take_zero]
    unfold Cx
    repeat (go_big_quiet_step (first | with_reducible exact KA.at _ _))
    exact wpQuiet_nil rfl
  simp only [List.drop_succ_cons, List.drop_zero]
  refine lex_nil ?_
  intro w2 hx hH
  replace m4 := hH g4 _ (Blocks.put_same _ _ _)
  have HB2 := Lib.hid (HB1.out.trans (hx.below_of (b := w.heap.size) (by simp [q4]) HB1.out.size))
  clear hx hH HB1 m2 m3 q2 q3
  have c4_0 := blk_cell m4 0 rfl
  go_wp2_with fail
  exact bodyPost_ret (v := .tuple #[.agg #[.string c], .bool true]) (by simp [results, Try.results65, go_sem, c4_0]) rfl ⟨rfl, HB2.out⟩

set_option maxHeartbeats 1600000 in
set_option maxRecDepth 100000 in
theorem w_cmp1 (g2 : Nat) (a b : ByteArray) (c : Int) (KC : Gives 41 #[.agg #[.string a], .agg #[.string b]] (.int .i64 c)) (w : World) (v0 : Int) (m2 : w.heap[g2]? = some (.cells #[.int .i64 v0] 3 (0, 0))) :
    Calls Try.prog 63 #[.agg #[.string a], .agg #[.string b], .pointer (some ⟨g2, 0, none⟩)] w fun e w' => e = .returned (.tuple #[.agg #[.string a], .bool false]) ∧ Wrote g2 (.cells #[.int .i64 c] 3 (0, 0)) w w' := by
  have HB0 := Lib.hid (Behind.refl w [g2])
  go_enter Try.func63, Try.ntmps63
  go_wp2_with (with_reducible refine wpList_from 3 [3, 3, 3, 0] [] B0 (has_B0 _) ?_)
  refine lex_box_agg _ (by rfl) (by rfl) (fun g3 q3 hn3 => ?_)
  unfold setSlot
  go_big_quiet_step (fail)
  refine wpQuiet_nil ?_
  clear hn3
  have n3_2 : g3 ≠ g2 := Nat.ne_of_gt (Nat.lt_of_lt_of_le (lt_of_heap m2) q3)
  refine lex_box_agg _ (by rfl) (by rfl) (fun g4 q4 hn4 => ?_)
  unfold setSlot
  go_big_quiet_step (fail)
  refine wpQuiet_nil ?_
  have n4_3 := ne_of_put hn4
  replace hn4 := none_of_put hn4
  clear hn4
  have n4_2 : g4 ≠ g2 := Nat.ne_of_gt (Nat.lt_of_lt_of_le (lt_of_heap m2) q4)
  refine lex_alloc (.agg #[.string ByteArray.empty]) (by rfl) (fun x => by kernel_rfl) (fun g5 q5 hn5 => ?_)
  unfold setSlot
  go_big_quiet_step (fail)
  refine wpQuiet_nil ?_
  have n5_4 := ne_of_put hn5
  replace hn5 := none_of_put hn5
  have n5_3 := ne_of_put hn5
  replace hn5 := none_of_put hn5
  clear hn5
  have n5_2 : g5 ≠ g2 := Nat.ne_of_gt (Nat.lt_of_lt_of_le (lt_of_heap m2) q5)
  refine lex_quietE 1 (by kernel_rfl) (by rfl) ?_
  apply Exists.intro
  refine ⟨fun x hx => ?_, ?_⟩
  · skip
    clear hx
    simp only [List.take_succ_cons, List.take_zero]
    unfold Cx
    repeat (go_big_quiet_step (fail))
    exact wpQuiet_nil rfl
  simp only [List.drop_succ_cons, List.drop_zero]
  refine lex_nil ?_
  intro w1 hx hH
  have m3 := hH g3 _ ((Blocks.put_other _ _ (Ne.symm n5_3)).trans ((Blocks.put_other _ _ (Ne.symm n4_3)).trans (Blocks.put_same _ _ _)))
  have m4 := hH g4 _ ((Blocks.put_other _ _ (Ne.symm n5_4)).trans (Blocks.put_same _ _ _))
  have m5 := hH g5 _ (Blocks.put_same _ _ _)
  replace m2 := hx.keep m2 (by simp)
  have HB1 := Lib.hid (HB0.out.trans hx (by simp))
  replace q3 := Nat.le_trans HB0.out.size q3
  replace q4 := Nat.le_trans HB0.out.size q4
  replace q5 := Nat.le_trans HB0.out.size q5
  clear hx hH HB0
  go_wp2_with (with_reducible refine wpList_from 7 [0, 0, 0, 2] [g2] _ (has_put (has_B0 _) m2) ?_)
  refine lex_quietE 3 (by kernel_rfl) (by rfl) ?_
  apply Exists.intro
  refine ⟨fun x hx => ?_, ?_⟩
  · skip
    have e3_0 := blk_cellp (hx.keep m3 (by simp [n3_2])) 0 rfl
    have e4_0 := blk_cellp (hx.keep m4 (by simp [n4_2])) 0 rfl
    clear hx
    simp only [List.take_succ_cons, List.take_zero]
    unfold Cx
    repeat (go_big_quiet_step (first | with_reducible exact KC.at _ _))
    exact wpQuiet_nil rfl
  simp only [List.drop_succ_cons, List.drop_zero]
  refine lex_store_one g2 (.int .i64 c) _ _ (by rfl) (by rfl) (by rfl) (Blocks.put_same _ _ _) (by rfl) (Or.inl (by simp)) (by kernel_rfl) (by simp [Value.oneCell']) ?_
  refine lex_nil ?_
  intro w2 hx hH
  replace m2 := hH g2 _ (Blocks.put_same _ _ _)
  replace m3 := hx.keep m3 (by simp [n3_2])
  replace m5 := hx.keep m5 (by simp [n5_2])
  have HB2 := Lib.hid (HB1.out.trans hx (by simp))
  clear hx hH HB1 m4 q4
  go_wp2_with (with_reducible refine wpList_from 10 [0, 2, 0] [g5] _ (has_put (has_B0 _) m5) ?_)
  refine lex_quietE 1 (by kernel_rfl) (by rfl) ?_
  apply Exists.intro
  refine ⟨fun x hx => ?_, ?_⟩
  · skip
    have e3_0 := blk_cellp (hx.keep m3 (by simp [(Ne.symm n5_3)])) 0 rfl
    clear hx
    simp only [List.take_succ_cons, List.take_zero]
    unfold Cx
    repeat (go_big_quiet_step (fail))
    exact wpQuiet_nil rfl
  simp only [List.drop_succ_cons, List.drop_zero]
  refine lex_store_all g5 _ _ _ (by rfl) (by rfl) (by rfl) (Blocks.put_same _ _ _) (by rfl) (Or.inl (by simp)) (by kernel_rfl) (by simp [Value.oneCell']) ?_
  refine lex_quietE 1 (by kernel_rfl) (by rfl) ?_
  apply Exists.intro
  refine ⟨fun x hx => ?_, ?_⟩
  · skip
    have e3_0 := blk_cellp (hx.keep m3 (by simp [(Ne.symm n5_3)])) 0 rfl
    clear hx
    simp only [List.take_succ_cons, List.take_zero]
    unfold Cx
    repeat (go_big_quiet_step (fail))
    exact wpQuiet_nil rfl
  simp only [List.drop_succ_cons, List.drop_zero]
  refine lex_nil ?_
  intro w3 hx hH
  replace m5 := hH g5 _ (Blocks.put_same _ _ _)
  replace m2 := hx.keep m2 (by simp [(Ne.symm n5_2)])
  have HB3 := Lib.hid (HB2.out.trans hx (by simp [q5]))
  clear hx hH HB2 m3 q3
  have c5_0 := blk_cell m5 0 rfl
  go_wp2_with fail
  exact bodyPost_ret (v := .tuple #[.agg #[.string a], .bool false]) (by simp [results, Try.results63, go_sem, c5_0]) rfl ⟨rfl, wrote_of_behind HB3.out m2⟩

set_option maxHeartbeats 1600000 in
set_option maxRecDepth 100000 in
theorem w_join_cmp (g2 : Nat) (a b c d x y p q : ByteArray) (k : Int) (KD2 : Gives 42 #[.agg #[.string c, .string d]] (.agg #[.string y])) (KD1 : Gives 42 #[.agg #[.string a, .string b]] (.agg #[.string x])) (KM1 : Gives 61 #[.agg #[.string a], .agg #[.string y]] (.agg #[.string p])) (KM2 : Gives 61 #[.agg #[.string c], .agg #[.string x]] (.agg #[.string q])) (KF : ∀ (x : World) (v0 : Int), x.heap[g2]? = some (.cells #[.int .i64 v0] 3 (0, 0)) → Calls Try.prog 63 #[.agg #[.string p], .agg #[.string q], .pointer (some ⟨g2, 0, none⟩)] x fun e w2 => e = .returned (.tuple #[.agg #[.string p], .bool false]) ∧ Wrote g2 (.cells #[.int .i64 k] 3 (0, 0)) x w2) (w : World) (v0 : Int) (m2 : w.heap[g2]? = some (.cells #[.int .i64 v0] 3 (0, 0))) :
    Calls Try.prog 62 #[.agg #[.string a, .string b], .agg #[.string c, .string d], .func (.func 63) #[] #[.pointer (some ⟨g2, 0, none⟩)]] w fun e w' => e = .returned (.tuple #[.agg #[.string { data := #[] }, .string { data := #[] }], .bool false]) ∧ Wrote g2 (.cells #[.int .i64 k] 3 (0, 0)) w w' := by
  have HB0 := Lib.hid (Behind.refl w [g2])
  go_enter Try.func62, Try.ntmps62
  go_wp2_with (with_reducible refine wpList_from 3 [3, 3, 3, 0] [] B0 (has_B0 _) ?_)
  refine lex_box_agg _ (by rfl) (by rfl) (fun g3 q3 hn3 => ?_)
  unfold setSlot
  go_big_quiet_step (fail)
  refine wpQuiet_nil ?_
  clear hn3
  have n3_2 : g3 ≠ g2 := Nat.ne_of_gt (Nat.lt_of_lt_of_le (lt_of_heap m2) q3)
  refine lex_box_agg _ (by rfl) (by rfl) (fun g4 q4 hn4 => ?_)
  unfold setSlot
  go_big_quiet_step (fail)
  refine wpQuiet_nil ?_
  have n4_3 := ne_of_put hn4
  replace hn4 := none_of_put hn4
  clear hn4
  have n4_2 : g4 ≠ g2 := Nat.ne_of_gt (Nat.lt_of_lt_of_le (lt_of_heap m2) q4)
  refine lex_alloc (.agg #[.string ByteArray.empty, .string ByteArray.empty]) (by rfl) (fun x => by kernel_rfl) (fun g6 q6 hn6 => ?_)
  unfold setSlot
  go_big_quiet_step (fail)
  refine wpQuiet_nil ?_
  have n6_4 := ne_of_put hn6
  replace hn6 := none_of_put hn6
  have n6_3 := ne_of_put hn6
  replace hn6 := none_of_put hn6
  clear hn6
  have n6_2 : g6 ≠ g2 := Nat.ne_of_gt (Nat.lt_of_lt_of_le (lt_of_heap m2) q6)
  refine lex_quietE 1 (by kernel_rfl) (by rfl) ?_
  apply Exists.intro
  refine ⟨fun x hx => ?_, ?_⟩
  · skip
    clear hx
    simp only [List.take_succ_cons, List.take_zero]
    unfold Cx
    repeat (go_big_quiet_step (fail))
    exact wpQuiet_nil rfl
  simp only [List.drop_succ_cons, List.drop_zero]
  refine lex_nil ?_
  intro w1 hx hH
  have m3 := hH g3 _ ((Blocks.put_other _ _ (Ne.symm n6_3)).trans ((Blocks.put_other _ _ (Ne.symm n4_3)).trans (Blocks.put_same _ _ _)))
  have m4 := hH g4 _ ((Blocks.put_other _ _ (Ne.symm n6_4)).trans (Blocks.put_same _ _ _))
  have m6 := hH g6 _ (Blocks.put_same _ _ _)
  replace m2 := hx.keep m2 (by simp)
  have HB1 := Lib.hid (HB0.out.trans hx (by simp))
  replace q3 := Nat.le_trans HB0.out.size q3
  replace q4 := Nat.le_trans HB0.out.size q4
  replace q6 := Nat.le_trans HB0.out.size q6
  clear hx hH HB0
  go_wp2_with fail
  refine wp_game [0, 0, 0, 0, 0, 0, 0, 0, 0, 0, 0, 2, 0, 0, 0, 3, 2, 0] [g2] _ (Fin.put fin_B0 _ _) (has_put (has_B0 _) m2) (by kernel_rfl) (by kernel_rfl) ?_
  refine lex_quietE 11 (by kernel_rfl) (by rfl) ?_
  apply Exists.intro
  refine ⟨fun x hx => ?_, ?_⟩
  · skip
    have e3_0 := blk_cellp (hx.keep m3 (by simp [n3_2])) 0 rfl
    have e3_1 := blk_cellp (hx.keep m3 (by simp [n3_2])) 1 rfl
    have e4_0 := blk_cellp (hx.keep m4 (by simp [n4_2])) 0 rfl
    have e4_1 := blk_cellp (hx.keep m4 (by simp [n4_2])) 1 rfl
    clear hx
    simp only [List.take_succ_cons, List.take_zero]
    unfold Cx
    repeat (go_big_quiet_step (first | with_reducible exact KD2.at _ _ | with_reducible exact KD1.at _ _ | with_reducible exact KM1.at _ _ | with_reducible exact KM2.at _ _))
    exact wpQuiet_nil rfl
  simp only [List.drop_succ_cons, List.drop_zero]
  refine lex_callw g2 _ (Blocks.put_same _ _ _) (by rfl) (fun x => by go_simp) (Or.inl (by simp)) (fun x hx => KF x _ hx) ?_
  unfold setSlot
  go_big_quiet_step (fail)
  refine wpQuiet_nil ?_
  refine lex_quietE 3 (by kernel_rfl) (by rfl) ?_
  apply Exists.intro
  refine ⟨fun x hx => ?_, ?_⟩
  · skip
    have e3_0 := blk_cellp (hx.keep m3 (by simp [n3_2])) 0 rfl
    have e3_1 := blk_cellp (hx.keep m3 (by simp [n3_2])) 1 rfl
    have e4_0 := blk_cellp (hx.keep m4 (by simp [n4_2])) 0 rfl
    have e4_1 := blk_cellp (hx.keep m4 (by simp [n4_2])) 1 rfl
    clear hx
    simp only [List.take_succ_cons, List.take_zero]
    unfold Cx
    repeat (go_big_quiet_step (first | with_reducible exact KD2.at _ _ | with_reducible exact KD1.at _ _ | with_reducible exact KM1.at _ _ | with_reducible exact KM2.at _ _))
    exact wpQuiet_nil rfl
  simp only [List.drop_succ_cons, List.drop_zero]
  refine lex_alloc (.agg #[.string ByteArray.empty]) (by rfl) (fun x => by kernel_rfl) (fun g8 q8 hn8 => ?_)
  unfold setSlot
  go_big_quiet_step (fail)
  refine wpQuiet_nil ?_
  have n8_2 := ne_of_put hn8
  replace hn8 := none_of_put hn8
  have n8_2 := ne_of_put hn8
  replace hn8 := none_of_put hn8
  clear hn8
  have n8_3 : g8 ≠ g3 := Nat.ne_of_gt (Nat.lt_of_lt_of_le (lt_of_heap m3) q8)
  have n8_4 : g8 ≠ g4 := Nat.ne_of_gt (Nat.lt_of_lt_of_le (lt_of_heap m4) q8)
  have n8_6 : g8 ≠ g6 := Nat.ne_of_gt (Nat.lt_of_lt_of_le (lt_of_heap m6) q8)
  refine lex_store_all g8 _ _ _ (by rfl) (by rfl) (by rfl) (Blocks.put_same _ _ _) (by rfl) (Or.inr q8) (by kernel_rfl) (by simp [Value.oneCell']) ?_
  refine lex_quietE 1 (by kernel_rfl) (by rfl) ?_
  apply Exists.intro
  refine ⟨fun x hx => ?_, ?_⟩
  · skip
    have e3_0 := blk_cellp (hx.keep m3 (by simp [n3_2])) 0 rfl
    have e3_1 := blk_cellp (hx.keep m3 (by simp [n3_2])) 1 rfl
    have e4_0 := blk_cellp (hx.keep m4 (by simp [n4_2])) 0 rfl
    have e4_1 := blk_cellp (hx.keep m4 (by simp [n4_2])) 1 rfl
    clear hx
    simp only [List.take_succ_cons, List.take_zero]
    unfold Cx
    repeat (go_big_quiet_step (first | with_reducible exact KD2.at _ _ | with_reducible exact KD1.at _ _ | with_reducible exact KM1.at _ _ | with_reducible exact KM2.at _ _))
    exact wpQuiet_nil rfl
  simp only [List.drop_succ_cons, List.drop_zero]
  refine lex_nil ?_
  intro w2 hx hH
  replace m2 := hH g2 _ ((Blocks.put_other _ _ (Ne.symm n8_2)).trans ((Blocks.put_other _ _ (Ne.symm n8_2)).trans (Blocks.put_same _ _ _)))
  replace m6 := hx.keep m6 (by simp [n6_2])
  have HB2 := Lib.hid (HB1.out.trans hx (by simp))
  clear hx hH HB1 m3 m4 q3 q4 q8
  go_wp2_with (with_reducible refine wpList_from 27 [0, 2, 0] [g6] _ (has_put (has_B0 _) m6) ?_)
  refine lex_quietE 1 (by kernel_rfl) (by rfl) ?_
  apply Exists.intro
  refine ⟨fun x hx => ?_, ?_⟩
  · skip
    clear hx
    simp only [List.take_succ_cons, List.take_zero]
    unfold Cx
    repeat (go_big_quiet_step (fail))
    exact wpQuiet_nil rfl
  simp only [List.drop_succ_cons, List.drop_zero]
  refine lex_store_all g6 _ _ _ (by rfl) (by rfl) (by rfl) (Blocks.put_same _ _ _) (by rfl) (Or.inl (by simp)) (by kernel_rfl) (by simp [Value.oneCell']) ?_
  refine lex_quietE 1 (by kernel_rfl) (by rfl) ?_
  apply Exists.intro
  refine ⟨fun x hx => ?_, ?_⟩
  · skip
    clear hx
    simp only [List.take_succ_cons, List.take_zero]
    unfold Cx
    repeat (go_big_quiet_step (fail))
    exact wpQuiet_nil rfl
  simp only [List.drop_succ_cons, List.drop_zero]
  refine lex_nil ?_
  intro w3 hx hH
  replace m6 := hH g6 _ (Blocks.put_same _ _ _)
  replace m2 := hx.keep m2 (by simp [(Ne.symm n6_2)])
  have HB3 := Lib.hid (HB2.out.trans hx (by simp [q6]))
  clear hx hH HB2
  have c6_0 := blk_cell m6 0 rfl
  have c6_1 := blk_cell m6 1 rfl
  go_wp2_with fail
  exact bodyPost_ret (v := .tuple #[.agg #[.string { data := #[] }, .string { data := #[] }], .bool false]) (by simp [results, Try.results62, go_sem, c6_0, c6_1]) rfl ⟨rfl, wrote_of_behind HB3.out m2⟩

set_option maxHeartbeats 1600000 in
set_option maxRecDepth 100000 in
theorem w_add (a b c d u v : ByteArray) (KJ : Gives 62 #[.agg #[.string a, .string b], .agg #[.string c, .string d], .func (.func 65) #[] #[]] (.tuple #[.agg #[.string u, .string v], .bool true])) : Gives 30 #[.agg #[.string a, .string b], .agg #[.string c, .string d]] (.agg #[.string u, .string v]) := by
  intro w
  have HB0 := Lib.hid (Below.refl w.heap.size w)
  go_enter Try.func30, Try.ntmps30
  go_wp2_with (with_reducible refine wpList_from 2 [3, 3, 3] [] B0 (has_B0 _) ?_)
  refine lex_box_agg _ (by rfl) (by rfl) (fun g2 q2 hn2 => ?_)
  unfold setSlot
  go_big_quiet_step (fail)
  refine wpQuiet_nil ?_
  clear hn2
  refine lex_box_agg _ (by rfl) (by rfl) (fun g3 q3 hn3 => ?_)
  unfold setSlot
  go_big_quiet_step (fail)
  refine wpQuiet_nil ?_
  have n3_2 := ne_of_put hn3
  replace hn3 := none_of_put hn3
  clear hn3
  refine lex_alloc (.agg #[.string ByteArray.empty, .string ByteArray.empty]) (by rfl) (fun x => by kernel_rfl) (fun g4 q4 hn4 => ?_)
  unfold setSlot
  go_big_quiet_step (fail)
  refine wpQuiet_nil ?_
  have n4_3 := ne_of_put hn4
  replace hn4 := none_of_put hn4
  have n4_2 := ne_of_put hn4
  replace hn4 := none_of_put hn4
  clear hn4
  refine lex_nil ?_
  intro w1 hx hH
  have m2 := hH g2 _ ((Blocks.put_other _ _ (Ne.symm n4_2)).trans ((Blocks.put_other _ _ (Ne.symm n3_2)).trans (Blocks.put_same _ _ _)))
  have m3 := hH g3 _ ((Blocks.put_other _ _ (Ne.symm n4_3)).trans (Blocks.put_same _ _ _))
  have m4 := hH g4 _ (Blocks.put_same _ _ _)
  have HB1 := Lib.hid (HB0.out.trans (hx.below_of (b := w.heap.size) (by simp) HB0.out.size))
  replace q2 := Nat.le_trans HB0.out.size q2
  replace q3 := Nat.le_trans HB0.out.size q3
  replace q4 := Nat.le_trans HB0.out.size q4
  clear hx hH HB0
  go_wp2_with (with_reducible refine wpList_from 8 [0, 0, 0, 0, 0, 0, 3, 2, 0] [] B0 (has_B0 _) ?_)
  refine lex_quietE 6 (by kernel_rfl) (by rfl) ?_
  apply Exists.intro
  refine ⟨fun x hx => ?_, ?_⟩
  · have hwx := HB1.out.trans (hx.below_of (b := w.heap.size) (by simp) HB1.out.size)
    have e2_0 := blk_cellp (hx.keep m2 (by simp)) 0 rfl
    have e2_1 := blk_cellp (hx.keep m2 (by simp)) 1 rfl
    have e3_0 := blk_cellp (hx.keep m3 (by simp)) 0 rfl
    have e3_1 := blk_cellp (hx.keep m3 (by simp)) 1 rfl
    clear hx
    simp only [List.take_succ_cons, List.take_zero]
    unfold Cx
    repeat (go_big_quiet_step (first | with_reducible exact KJ.at _ _))
    exact wpQuiet_nil rfl
  simp only [List.drop_succ_cons, List.drop_zero]
  refine lex_alloc (.agg #[.string ByteArray.empty, .string ByteArray.empty]) (by rfl) (fun x => by kernel_rfl) (fun g5 q5 hn5 => ?_)
  unfold setSlot
  go_big_quiet_step (fail)
  refine wpQuiet_nil ?_
  clear hn5
  have n5_2 : g5 ≠ g2 := Nat.ne_of_gt (Nat.lt_of_lt_of_le (lt_of_heap m2) q5)
  have n5_3 : g5 ≠ g3 := Nat.ne_of_gt (Nat.lt_of_lt_of_le (lt_of_heap m3) q5)
  have n5_4 : g5 ≠ g4 := Nat.ne_of_gt (Nat.lt_of_lt_of_le (lt_of_heap m4) q5)
  refine lex_store_all g5 _ _ _ (by rfl) (by rfl) (by rfl) (Blocks.put_same _ _ _) (by rfl) (Or.inr q5) (by kernel_rfl) (by simp [Value.oneCell']) ?_
  refine lex_quietE 1 (by kernel_rfl) (by rfl) ?_
  apply Exists.intro
  refine ⟨fun x hx => ?_, ?_⟩
  · have hwx := HB1.out.trans (hx.below_of (b := w.heap.size) (by simp) HB1.out.size)
    have e2_0 := blk_cellp (hx.keep m2 (by simp)) 0 rfl
    have e2_1 := blk_cellp (hx.keep m2 (by simp)) 1 rfl
    have e3_0 := blk_cellp (hx.keep m3 (by simp)) 0 rfl
    have e3_1 := blk_cellp (hx.keep m3 (by simp)) 1 rfl
    clear hx
    simp only [List.take_succ_cons, List.take_zero]
    unfold Cx
    repeat (go_big_quiet_step (first | with_reducible exact KJ.at _ _))
    exact wpQuiet_nil rfl
  simp only [List.drop_succ_cons, List.drop_zero]
  refine lex_nil ?_
  intro w2 hx hH
  have m5 := hH g5 _ (Blocks.put_same _ _ _)
  replace m4 := hx.keep m4 (by simp)
  have HB2 := Lib.hid (HB1.out.trans (hx.below_of (b := w.heap.size) (by simp) HB1.out.size))
  replace q5 := Nat.le_trans HB1.out.size q5
  clear hx hH HB1 m2 m3 q2 q3
  go_wp2_with (with_reducible refine wpList_from 13 [0, 2] [g4] _ (has_put (has_B0 _) m4) ?_)
  refine lex_quietE 1 (by kernel_rfl) (by rfl) ?_
  apply Exists.intro
  refine ⟨fun x hx => ?_, ?_⟩
  · have hwx := HB2.out.trans (hx.below_of (b := w.heap.size) (by simp [q4]) HB2.out.size)
    have e5_0 := blk_cellp (hx.keep m5 (by simp [n5_4])) 0 rfl
    have e5_1 := blk_cellp (hx.keep m5 (by simp [n5_4])) 1 rfl
    clear hx
    simp only [List.take_succ_cons, List.take_zero]
    unfold Cx
    repeat (go_big_quiet_step (fail))
    exact wpQuiet_nil rfl
  simp only [List.drop_succ_cons, List.drop_zero]
  refine lex_store_all g4 _ _ _ (by rfl) (by rfl) (by rfl) (Blocks.put_same _ _ _) (by rfl) (Or.inl (by simp)) (by kernel_rfl) (by simp [Value.oneCell']) ?_
  refine lex_nil ?_
  intro w3 hx hH
  replace m4 := hH g4 _ (Blocks.put_same _ _ _)
  have HB3 := Lib.hid (HB2.out.trans (hx.below_of (b := w.heap.size) (by simp [q4]) HB2.out.size))
  clear hx hH HB2 m5 q5
  have c4_0 := blk_cell m4 0 rfl
  have c4_1 := blk_cell m4 1 rfl
  go_wp2_with fail
  exact bodyPost_ret (v := .agg #[.string u, .string v]) (by simp [results, Try.results30, go_sem, c4_0, c4_1]) rfl ⟨rfl, HB3.out⟩

set_option maxHeartbeats 1600000 in
set_option maxRecDepth 100000 in
theorem w_mul (a b c d x y p q u v : ByteArray) (KD2 : Gives 42 #[.agg #[.string c, .string d]] (.agg #[.string y])) (KD1 : Gives 42 #[.agg #[.string a, .string b]] (.agg #[.string x])) (KM1 : Gives 61 #[.agg #[.string a], .agg #[.string c]] (.agg #[.string p])) (KM2 : Gives 61 #[.agg #[.string x], .agg #[.string y]] (.agg #[.string q])) (KN : Gives 60 #[.agg #[.string p], .agg #[.string q]] (.tuple #[.agg #[.string u, .string v], .bool true])) : Gives 26 #[.agg #[.string a, .string b], .agg #[.string c, .string d]] (.agg #[.string u, .string v]) := by
  intro w
  have HB0 := Lib.hid (Below.refl w.heap.size w)
  go_enter Try.func26, Try.ntmps26
  go_wp2_with (with_reducible refine wpList_from 2 [3, 3, 3] [] B0 (has_B0 _) ?_)
  refine lex_box_agg _ (by rfl) (by rfl) (fun g2 q2 hn2 => ?_)
  unfold setSlot
  go_big_quiet_step (fail)
  refine wpQuiet_nil ?_
  clear hn2
  refine lex_box_agg _ (by rfl) (by rfl) (fun g3 q3 hn3 => ?_)
  unfold setSlot
  go_big_quiet_step (fail)
  refine wpQuiet_nil ?_
  have n3_2 := ne_of_put hn3
  replace hn3 := none_of_put hn3
  clear hn3
  refine lex_alloc (.agg #[.string ByteArray.empty, .string ByteArray.empty]) (by rfl) (fun x => by kernel_rfl) (fun g4 q4 hn4 => ?_)
  unfold setSlot
  go_big_quiet_step (fail)
  refine wpQuiet_nil ?_
  have n4_3 := ne_of_put hn4
  replace hn4 := none_of_put hn4
  have n4_2 := ne_of_put hn4
  replace hn4 := none_of_put hn4
  clear hn4
  refine lex_nil ?_
  intro w1 hx hH
  have m2 := hH g2 _ ((Blocks.put_other _ _ (Ne.symm n4_2)).trans ((Blocks.put_other _ _ (Ne.symm n3_2)).trans (Blocks.put_same _ _ _)))
  have m3 := hH g3 _ ((Blocks.put_other _ _ (Ne.symm n4_3)).trans (Blocks.put_same _ _ _))
  have m4 := hH g4 _ (Blocks.put_same _ _ _)
  have HB1 := Lib.hid (HB0.out.trans (hx.below_of (b := w.heap.size) (by simp) HB0.out.size))
  replace q2 := Nat.le_trans HB0.out.size q2
  replace q3 := Nat.le_trans HB0.out.size q3
  replace q4 := Nat.le_trans HB0.out.size q4
  clear hx hH HB0
  go_wp2_with fail
  refine wp_game [0, 0, 0, 0, 0, 0, 0, 0, 0, 0, 0, 0, 0, 0, 3, 2, 0] [] B0 fin_B0 (has_B0 _) (by kernel_rfl) (by kernel_rfl) ?_
  refine lex_quietE 14 (by kernel_rfl) (by rfl) ?_
  apply Exists.intro
  refine ⟨fun x hx => ?_, ?_⟩
  · have hwx := HB1.out.trans (hx.below_of (b := w.heap.size) (by simp) HB1.out.size)
    have e2_0 := blk_cellp (hx.keep m2 (by simp)) 0 rfl
    have e2_1 := blk_cellp (hx.keep m2 (by simp)) 1 rfl
    have e3_0 := blk_cellp (hx.keep m3 (by simp)) 0 rfl
    have e3_1 := blk_cellp (hx.keep m3 (by simp)) 1 rfl
    clear hx
    simp only [List.take_succ_cons, List.take_zero]
    unfold Cx
    repeat (go_big_quiet_step (first | with_reducible exact KD1.at _ _ | with_reducible exact KD2.at _ _ | with_reducible exact KM1.at _ _ | with_reducible exact KM2.at _ _ | with_reducible exact KN.at _ _))
    exact wpQuiet_nil rfl
  simp only [List.drop_succ_cons, List.drop_zero]
  refine lex_alloc (.agg #[.string ByteArray.empty, .string ByteArray.empty]) (by rfl) (fun x => by kernel_rfl) (fun g5 q5 hn5 => ?_)
  unfold setSlot
  go_big_quiet_step (fail)
  refine wpQuiet_nil ?_
  clear hn5
  have n5_2 : g5 ≠ g2 := Nat.ne_of_gt (Nat.lt_of_lt_of_le (lt_of_heap m2) q5)
  have n5_3 : g5 ≠ g3 := Nat.ne_of_gt (Nat.lt_of_lt_of_le (lt_of_heap m3) q5)
  have n5_4 : g5 ≠ g4 := Nat.ne_of_gt (Nat.lt_of_lt_of_le (lt_of_heap m4) q5)
  refine lex_store_all g5 _ _ _ (by rfl) (by rfl) (by rfl) (Blocks.put_same _ _ _) (by rfl) (Or.inr q5) (by kernel_rfl) (by simp [Value.oneCell']) ?_
  refine lex_quietE 1 (by kernel_rfl) (by rfl) ?_
  apply Exists.intro
  refine ⟨fun x hx => ?_, ?_⟩
  · have hwx := HB1.out.trans (hx.below_of (b := w.heap.size) (by simp) HB1.out.size)
    have e2_0 := blk_cellp (hx.keep m2 (by simp)) 0 rfl
    have e2_1 := blk_cellp (hx.keep m2 (by simp)) 1 rfl
    have e3_0 := blk_cellp (hx.keep m3 (by simp)) 0 rfl
    have e3_1 := blk_cellp (hx.keep m3 (by simp)) 1 rfl
    clear hx
    simp only [List.take_succ_cons, List.take_zero]
    unfold Cx
    repeat (go_big_quiet_step (first | with_reducible exact KD1.at _ _ | with_reducible exact KD2.at _ _ | with_reducible exact KM1.at _ _ | with_reducible exact KM2.at _ _ | with_reducible exact KN.at _ _))
    exact wpQuiet_nil rfl
  simp only [List.drop_succ_cons, List.drop_zero]
  refine lex_nil ?_
  intro w2 hx hH
  have m5 := hH g5 _ (Blocks.put_same _ _ _)
  replace m4 := hx.keep m4 (by simp)
  have HB2 := Lib.hid (HB1.out.trans (hx.below_of (b := w.heap.size) (by simp) HB1.out.size))
  replace q5 := Nat.le_trans HB1.out.size q5
  clear hx hH HB1 m2 m3 q2 q3
  go_wp2_with (with_reducible refine wpList_from 21 [0, 2] [g4] _ (has_put (has_B0 _) m4) ?_)
  refine lex_quietE 1 (by kernel_rfl) (by rfl) ?_
  apply Exists.intro
  refine ⟨fun x hx => ?_, ?_⟩
  · have hwx := HB2.out.trans (hx.below_of (b := w.heap.size) (by simp [q4]) HB2.out.size)
    have e5_0 := blk_cellp (hx.keep m5 (by simp [n5_4])) 0 rfl
    have e5_1 := blk_cellp (hx.keep m5 (by simp [n5_4])) 1 rfl
    clear hx
    simp only [List.take_succ_cons, List.take_zero]
    unfold Cx
    repeat (go_big_quiet_step (fail))
    exact wpQuiet_nil rfl
  simp only [List.drop_succ_cons, List.drop_zero]
  refine lex_store_all g4 _ _ _ (by rfl) (by rfl) (by rfl) (Blocks.put_same _ _ _) (by rfl) (Or.inl (by simp)) (by kernel_rfl) (by simp [Value.oneCell']) ?_
  refine lex_nil ?_
  intro w3 hx hH
  replace m4 := hH g4 _ (Blocks.put_same _ _ _)
  have HB3 := Lib.hid (HB2.out.trans (hx.below_of (b := w.heap.size) (by simp [q4]) HB2.out.size))
  clear hx hH HB2 m5 q5
  have c4_0 := blk_cell m4 0 rfl
  have c4_1 := blk_cell m4 1 rfl
  go_wp2_with fail
  exact bodyPost_ret (v := .agg #[.string u, .string v]) (by simp [results, Try.results26, go_sem, c4_0, c4_1]) rfl ⟨rfl, HB3.out⟩

set_option maxHeartbeats 1600000 in
set_option maxRecDepth 100000 in
theorem w_div (a b c d x y p q u v : ByteArray) (ok : Bool) (KD2 : Gives 42 #[.agg #[.string c, .string d]] (.agg #[.string y])) (KD1 : Gives 42 #[.agg #[.string a, .string b]] (.agg #[.string x])) (KM1 : Gives 61 #[.agg #[.string a], .agg #[.string y]] (.agg #[.string p])) (KM2 : Gives 61 #[.agg #[.string x], .agg #[.string c]] (.agg #[.string q])) (KN : Gives 60 #[.agg #[.string p], .agg #[.string q]] (.tuple #[.agg #[.string u, .string v], .bool ok])) : Gives 64 #[.agg #[.string a, .string b], .agg #[.string c, .string d]] (.tuple #[.agg #[.string u, .string v], .bool ok]) := by
  intro w
  have HB0 := Lib.hid (Below.refl w.heap.size w)
  go_enter Try.func64, Try.ntmps64
  go_wp2_with (with_reducible refine wpList_from 2 [3, 3, 3, 0] [] B0 (has_B0 _) ?_)
  refine lex_box_agg _ (by rfl) (by rfl) (fun g2 q2 hn2 => ?_)
  unfold setSlot
  go_big_quiet_step (fail)
  refine wpQuiet_nil ?_
  clear hn2
  refine lex_box_agg _ (by rfl) (by rfl) (fun g3 q3 hn3 => ?_)
  unfold setSlot
  go_big_quiet_step (fail)
  refine wpQuiet_nil ?_
  have n3_2 := ne_of_put hn3
  replace hn3 := none_of_put hn3
  clear hn3
  refine lex_alloc (.agg #[.string ByteArray.empty, .string ByteArray.empty]) (by rfl) (fun x => by kernel_rfl) (fun g4 q4 hn4 => ?_)
  unfold setSlot
  go_big_quiet_step (fail)
  refine wpQuiet_nil ?_
  have n4_3 := ne_of_put hn4
  replace hn4 := none_of_put hn4
  have n4_2 := ne_of_put hn4
  replace hn4 := none_of_put hn4
  clear hn4
  refine lex_quietE 1 (by kernel_rfl) (by rfl) ?_
  apply Exists.intro
  refine ⟨fun x hx => ?_, ?_⟩
  · have hwx := HB0.out.trans (hx.below_of (b := w.heap.size) (by simp) HB0.out.size)
    clear hx
    simp only [List.take_succ_cons, List.take_zero]
    unfold Cx
    repeat (go_big_quiet_step (fail))
    exact wpQuiet_nil rfl
  simp only [List.drop_succ_cons, List.drop_zero]
  refine lex_nil ?_
  intro w1 hx hH
  have m2 := hH g2 _ ((Blocks.put_other _ _ (Ne.symm n4_2)).trans ((Blocks.put_other _ _ (Ne.symm n3_2)).trans (Blocks.put_same _ _ _)))
  have m3 := hH g3 _ ((Blocks.put_other _ _ (Ne.symm n4_3)).trans (Blocks.put_same _ _ _))
  have m4 := hH g4 _ (Blocks.put_same _ _ _)
  have HB1 := Lib.hid (HB0.out.trans (hx.below_of (b := w.heap.size) (by simp) HB0.out.size))
  replace q2 := Nat.le_trans HB0.out.size q2
  replace q3 := Nat.le_trans HB0.out.size q3
  replace q4 := Nat.le_trans HB0.out.size q4
  clear hx hH HB0
  go_wp2_with fail
  refine wp_game [0, 0, 0, 0, 0, 0, 0, 0, 0, 0, 0, 0, 0, 2, 0] [g4] _ (Fin.put fin_B0 _ _) (has_put (has_B0 _) m4) (by kernel_rfl) (by kernel_rfl) ?_
  refine lex_quietE 13 (by kernel_rfl) (by rfl) ?_
  apply Exists.intro
  refine ⟨fun x hx => ?_, ?_⟩
  · have hwx := HB1.out.trans (hx.below_of (b := w.heap.size) (by simp [q4]) HB1.out.size)
    have e2_0 := blk_cellp (hx.keep m2 (by simp [(Ne.symm n4_2)])) 0 rfl
    have e2_1 := blk_cellp (hx.keep m2 (by simp [(Ne.symm n4_2)])) 1 rfl
    have e3_0 := blk_cellp (hx.keep m3 (by simp [(Ne.symm n4_3)])) 0 rfl
    have e3_1 := blk_cellp (hx.keep m3 (by simp [(Ne.symm n4_3)])) 1 rfl
    clear hx
    simp only [List.take_succ_cons, List.take_zero]
    unfold Cx
    repeat (go_big_quiet_step (first | with_reducible exact KD1.at _ _ | with_reducible exact KD2.at _ _ | with_reducible exact KM1.at _ _ | with_reducible exact KM2.at _ _ | with_reducible exact KN.at _ _))
    exact wpQuiet_nil rfl
  simp only [List.drop_succ_cons, List.drop_zero]
  refine lex_store_all g4 _ _ _ (by rfl) (by rfl) (by rfl) (Blocks.put_same _ _ _) (by rfl) (Or.inl (by simp)) (by kernel_rfl) (by simp [Value.oneCell']) ?_
  refine lex_quietE 1 (by kernel_rfl) (by rfl) ?_
  apply Exists.intro
  refine ⟨fun x hx => ?_, ?_⟩
  · have hwx := HB1.out.trans (hx.below_of (b := w.heap.size) (by simp [q4]) HB1.out.size)
    have e2_0 := blk_cellp (hx.keep m2 (by simp [(Ne.symm n4_2)])) 0 rfl
    have e2_1 := blk_cellp (hx.keep m2 (by simp [(Ne.symm n4_2)])) 1 rfl
    have e3_0 := blk_cellp (hx.keep m3 (by simp [(Ne.symm n4_3)])) 0 rfl
    have e3_1 := blk_cellp (hx.keep m3 (by simp [(Ne.symm n4_3)])) 1 rfl
    clear hx
    simp only [List.take_succ_cons, List.take_zero]
    unfold Cx
    repeat (go_big_quiet_step (first | with_reducible exact KD1.at _ _ | with_reducible exact KD2.at _ _ | with_reducible exact KM1.at _ _ | with_reducible exact KM2.at _ _ | with_reducible exact KN.at _ _))
    exact wpQuiet_nil rfl
  simp only [List.drop_succ_cons, List.drop_zero]
  refine lex_nil ?_
  intro w2 hx hH
  replace m4 := hH g4 _ (Blocks.put_same _ _ _)
  have HB2 := Lib.hid (HB1.out.trans (hx.below_of (b := w.heap.size) (by simp [q4]) HB1.out.size))
  clear hx hH HB1 m2 m3 q2 q3
  have c4_0 := blk_cell m4 0 rfl
  have c4_1 := blk_cell m4 1 rfl
  go_wp2_with fail
  exact bodyPost_ret (v := .tuple #[.agg #[.string u, .string v], .bool ok]) (by simp [results, Try.results64, go_sem, c4_0, c4_1]) rfl ⟨rfl, HB2.out⟩

set_option maxHeartbeats 1600000 in
set_option maxRecDepth 100000 in
theorem w_cmp (a b c d : ByteArray) (k : Int) (KJ : ∀ (g : Nat) (x : World) (v0 : Int), x.heap[g]? = some (.cells #[.int .i64 v0] 3 (0, 0)) → Calls Try.prog 62 #[.agg #[.string a, .string b], .agg #[.string c, .string d], .func (.func 63) #[] #[.pointer (some ⟨g, 0, none⟩)]] x fun e w2 => e = .returned (.tuple #[.agg #[.string { data := #[] }, .string { data := #[] }], .bool false]) ∧ Wrote g (.cells #[.int .i64 k] 3 (0, 0)) x w2) : Gives 27 #[.agg #[.string a, .string b], .agg #[.string c, .string d]] (.int .i64 k) := by
  intro w
  have HB0 := Lib.hid (Below.refl w.heap.size w)
  go_enter Try.func27, Try.ntmps27
  go_wp2_with (with_reducible refine wpList_from 2 [3, 3, 0] [] B0 (has_B0 _) ?_)
  refine lex_box_agg _ (by rfl) (by rfl) (fun g2 q2 hn2 => ?_)
  unfold setSlot
  go_big_quiet_step (fail)
  refine wpQuiet_nil ?_
  clear hn2
  refine lex_box_agg _ (by rfl) (by rfl) (fun g3 q3 hn3 => ?_)
  unfold setSlot
  go_big_quiet_step (fail)
  refine wpQuiet_nil ?_
  have n3_2 := ne_of_put hn3
  replace hn3 := none_of_put hn3
  clear hn3
  refine lex_quietE 1 (by kernel_rfl) (by rfl) ?_
  apply Exists.intro
  refine ⟨fun x hx => ?_, ?_⟩
  · have hwx := HB0.out.trans (hx.below_of (b := w.heap.size) (by simp) HB0.out.size)
    clear hx
    simp only [List.take_succ_cons, List.take_zero]
    unfold Cx
    repeat (go_big_quiet_step (fail))
    exact wpQuiet_nil rfl
  simp only [List.drop_succ_cons, List.drop_zero]
  refine lex_nil ?_
  intro w1 hx hH
  have m2 := hH g2 _ ((Blocks.put_other _ _ (Ne.symm n3_2)).trans (Blocks.put_same _ _ _))
  have m3 := hH g3 _ (Blocks.put_same _ _ _)
  have HB1 := Lib.hid (HB0.out.trans (hx.below_of (b := w.heap.size) (by simp) HB0.out.size))
  replace q2 := Nat.le_trans HB0.out.size q2
  replace q3 := Nat.le_trans HB0.out.size q3
  clear hx hH HB0
  go_wp2_with (with_reducible refine wpList_from 5 [3, 2] [] B0 (has_B0 _) ?_)
  refine lex_alloc (.int .i64 0) (by rfl) (fun x => by kernel_rfl) (fun g5 q5 hn5 => ?_)
  unfold setSlot
  go_big_quiet_step (fail)
  refine wpQuiet_nil ?_
  clear hn5
  have n5_2 : g5 ≠ g2 := Nat.ne_of_gt (Nat.lt_of_lt_of_le (lt_of_heap m2) q5)
  have n5_3 : g5 ≠ g3 := Nat.ne_of_gt (Nat.lt_of_lt_of_le (lt_of_heap m3) q5)
  refine lex_store_one g5 (.int .i64 0) _ _ (by rfl) (by rfl) (by rfl) (Blocks.put_same _ _ _) (by rfl) (Or.inr q5) (by kernel_rfl) (by simp [Value.oneCell']) ?_
  refine lex_nil ?_
  intro w2 hx hH
  have m5 := hH g5 _ (Blocks.put_same _ _ _)
  replace m2 := hx.keep m2 (by simp)
  replace m3 := hx.keep m3 (by simp)
  have HB2 := Lib.hid (HB1.out.trans (hx.below_of (b := w.heap.size) (by simp) HB1.out.size))
  replace q5 := Nat.le_trans HB1.out.size q5
  clear hx hH HB1
  go_wp2_with (with_reducible refine wpList_from 6 [0, 0, 0, 2] [g5] _ (has_put (has_B0 _) m5) ?_)
  refine lex_quietE 3 (by kernel_rfl) (by rfl) ?_
  apply Exists.intro
  refine ⟨fun x hx => ?_, ?_⟩
  · have hwx := HB2.out.trans (hx.below_of (b := w.heap.size) (by simp [q5]) HB2.out.size)
    have e2_0 := blk_cellp (hx.keep m2 (by simp [(Ne.symm n5_2)])) 0 rfl
    have e2_1 := blk_cellp (hx.keep m2 (by simp [(Ne.symm n5_2)])) 1 rfl
    have e3_0 := blk_cellp (hx.keep m3 (by simp [(Ne.symm n5_3)])) 0 rfl
    have e3_1 := blk_cellp (hx.keep m3 (by simp [(Ne.symm n5_3)])) 1 rfl
    clear hx
    simp only [List.take_succ_cons, List.take_zero]
    unfold Cx
    repeat (go_big_quiet_step (fail))
    exact wpQuiet_nil rfl
  simp only [List.drop_succ_cons, List.drop_zero]
  refine lex_callw g5 _ (Blocks.put_same _ _ _) (by rfl) (fun x => by go_simp) (Or.inl (by simp)) (fun x hx => KJ g5 x _ hx) ?_
  unfold setSlot
  go_big_quiet_step (fail)
  refine wpQuiet_nil ?_
  refine lex_nil ?_
  intro w3 hx hH
  replace m5 := hH g5 _ (Blocks.put_same _ _ _)
  have HB3 := Lib.hid (HB2.out.trans (hx.below_of (b := w.heap.size) (by simp [q5]) HB2.out.size))
  clear hx hH HB2 m2 m3 q2 q3
  go_wp2_with (with_reducible refine wpList_from 10 [0, 0] [] B0 (has_B0 _) ?_)
  refine lex_quietE 2 (by kernel_rfl) (by rfl) ?_
  apply Exists.intro
  refine ⟨fun x hx => ?_, ?_⟩
  · have hwx := HB3.out.trans (hx.below_of (b := w.heap.size) (by simp) HB3.out.size)
    have e5_0 := blk_cellp (hx.keep m5 (by simp)) 0 rfl
    clear hx
    simp only [List.take_succ_cons, List.take_zero]
    unfold Cx
    repeat (go_big_quiet_step (fail))
    exact wpQuiet_nil rfl
  simp only [List.drop_succ_cons, List.drop_zero]
  refine lex_nil ?_
  intro w4 hx hH
  have HB4 := Lib.hid (HB3.out.trans (hx.below_of (b := w.heap.size) (by simp) HB3.out.size))
  clear hx hH HB3 m5 q5
  go_wp2_with fail
  exact bodyPost_ret (v := .int .i64 k) (by simp [results, Try.results27, go_sem]) rfl ⟨rfl, HB4.out⟩

end Go.Proofs.Ytbacloneddnaeaa
