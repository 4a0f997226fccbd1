/- Texts of this claim, joined: RFns, RGive, RPlain2, XRead, XFns, XVal. -/
import Derived.Test.YtajjgfiojlagmaaGreatDoorMO11
import Derived.Test.YtajjgfiojlagmaaGreatDoorMO13
import Derived.Test.YtajjgfiojlagmaaGreatDoorMO03

/- The walks of package rat. -/
namespace Go.Proofs.YtajjgfiojlagmaaGreatDoor
open Go.RowKit Num

set_option maxHeartbeats 1600000 in
set_option maxRecDepth 100000 in
theorem w_zero_yes (s : ByteArray) (KC : Gives 77 #[.agg #[.string s], .agg #[.string { data := #[] }]] (.int .i64 0)) : Gives 74 #[.agg #[.string s]] (.bool true) := by
  intro w
  have HB0 := Lib.hid (Below.refl w.heap.size w)
  go_enter Tryz.func74, Tryz.ntmps74
  go_wp2_with (with_reducible refine wpList_from 1 [3, 0] [] B0 (has_B0 _) ?_)
  refine lex_box_agg _ (by rfl) (by rfl) (fun g1 q1 hn1 => ?_)
  unfold setSlot
  go_big_quiet_step (fail)
  refine wpQuiet_nil ?_
  clear hn1
  refine lex_quietE 1 (by kernel_rfl) (by rfl) ?_
  apply Exists.intro
  refine ⟨fun x hx => ?_, ?_⟩
  · have hwx := HB0.out.trans (hx.below_of (b := w.heap.size) (by simp) HB0.out.size)
    clear hx
    simp only [List.take_succ_cons, List.take_zero]
    unfold Cx
    repeat (go_big_quiet_step (fail))
    exact wpQuiet_nil rfl
  simp only [List.drop_succ_cons, List.drop_zero]
  refine lex_nil ?_
  intro w1 hx hH
  have m1 := hH g1 _ (Blocks.put_same _ _ _)
  have HB1 := Lib.hid (HB0.out.trans (hx.below_of (b := w.heap.size) (by simp) HB0.out.size))
  replace q1 := Nat.le_trans HB0.out.size q1
  clear hx hH HB0
  go_wp2_with (with_reducible refine wpList_from 3 [0, 0, 0, 0, 0] [] B0 (has_B0 _) ?_)
  refine lex_quietE 5 (by kernel_rfl) (by rfl) ?_
  apply Exists.intro
  refine ⟨fun x hx => ?_, ?_⟩
  · have hwx := HB1.out.trans (hx.below_of (b := w.heap.size) (by simp) HB1.out.size)
    have e1_0 := blk_cellp (hx.keep m1 (by simp)) 0 rfl
    clear hx
    simp only [List.take_succ_cons, List.take_zero]
    unfold Cx
    repeat (go_big_quiet_step (first | with_reducible exact KC.at _ _))
    exact wpQuiet_nil rfl
  simp only [List.drop_succ_cons, List.drop_zero]
  refine lex_nil ?_
  intro w2 hx hH
  have HB2 := Lib.hid (HB1.out.trans (hx.below_of (b := w.heap.size) (by simp) HB1.out.size))
  clear hx hH HB1 m1 q1
  go_wp2_with fail
  exact bodyPost_ret (v := .bool true) (by simp [results, Tryz.results74, go_sem]) rfl ⟨rfl, HB2.out⟩

set_option maxHeartbeats 1600000 in
set_option maxRecDepth 100000 in
theorem w_zero_no (s : ByteArray) (c : Int) (hc : (c == 0) = false) (KC : Gives 77 #[.agg #[.string s], .agg #[.string { data := #[] }]] (.int .i64 c)) : Gives 74 #[.agg #[.string s]] (.bool false) := by
  intro w
  have HB0 := Lib.hid (Below.refl w.heap.size w)
  go_enter Tryz.func74, Tryz.ntmps74
  go_wp2_with (with_reducible refine wpList_from 1 [3, 0] [] B0 (has_B0 _) ?_)
  refine lex_box_agg _ (by rfl) (by rfl) (fun g1 q1 hn1 => ?_)
  unfold setSlot
  go_big_quiet_step (fail)
  refine wpQuiet_nil ?_
  clear hn1
  refine lex_quietE 1 (by kernel_rfl) (by rfl) ?_
  apply Exists.intro
  refine ⟨fun x hx => ?_, ?_⟩
  · have hwx := HB0.out.trans (hx.below_of (b := w.heap.size) (by simp) HB0.out.size)
    clear hx
    simp only [List.take_succ_cons, List.take_zero]
    unfold Cx
    repeat (go_big_quiet_step (fail))
    exact wpQuiet_nil rfl
  simp only [List.drop_succ_cons, List.drop_zero]
  refine lex_nil ?_
  intro w1 hx hH
  have m1 := hH g1 _ (Blocks.put_same _ _ _)
  have HB1 := Lib.hid (HB0.out.trans (hx.below_of (b := w.heap.size) (by simp) HB0.out.size))
  replace q1 := Nat.le_trans HB0.out.size q1
  clear hx hH HB0
  go_wp2_with (with_reducible refine wpList_from 3 [0, 0, 0, 0, 0] [] B0 (has_B0 _) ?_)
  refine lex_quietE 5 (by kernel_rfl) (by rfl) ?_
  apply Exists.intro
  refine ⟨fun x hx => ?_, ?_⟩
  · have hwx := HB1.out.trans (hx.below_of (b := w.heap.size) (by simp) HB1.out.size)
    have e1_0 := blk_cellp (hx.keep m1 (by simp)) 0 rfl
    clear hx
    simp only [List.take_succ_cons, List.take_zero]
    unfold Cx
    repeat (go_big_quiet_step (first | with_reducible exact KC.at _ _))
    exact wpQuiet_nil rfl
  simp only [List.drop_succ_cons, List.drop_zero]
  refine lex_nil ?_
  intro w2 hx hH
  have HB2 := Lib.hid (HB1.out.trans (hx.below_of (b := w.heap.size) (by simp) HB1.out.size))
  clear hx hH HB1 m1 q1
  go_wp2_with fail
  exact bodyPost_ret (v := .bool false) (by simp [results, Tryz.results74, go_sem]) rfl ⟨rfl, HB2.out⟩

set_option maxHeartbeats 1600000 in
set_option maxRecDepth 100000 in
theorem w_new_no (s d : ByteArray) (KZ : Gives 74 #[.agg #[.string d]] (.bool true)) : Gives 52 #[.agg #[.string s], .agg #[.string d]] (.tuple #[.agg #[.string { data := #[] }, .string { data := #[] }], .bool false]) := by
  intro w
  have HB0 := Lib.hid (Below.refl w.heap.size w)
  go_enter Tryz.func52, Tryz.ntmps52
  go_wp2_with (with_reducible refine wpList_from 2 [3, 3, 3, 0] [] B0 (has_B0 _) ?_)
  refine lex_box_agg _ (by rfl) (by rfl) (fun g2 q2 hn2 => ?_)
  unfold setSlot
  go_big_quiet_step (fail)
  refine wpQuiet_nil ?_
  clear hn2
  refine lex_box_agg _ (by rfl) (by rfl) (fun g3 q3 hn3 => ?_)
  unfold setSlot
  go_big_quiet_step (fail)
  refine wpQuiet_nil ?_
  have n3_2 := ne_of_put hn3
  replace hn3 := none_of_put hn3
  clear hn3
  refine lex_alloc (.agg #[.string ByteArray.empty, .string ByteArray.empty]) (by rfl) (fun x => by kernel_rfl) (fun g4 q4 hn4 => ?_)
  unfold setSlot
  go_big_quiet_step (fail)
  refine wpQuiet_nil ?_
  have n4_3 := ne_of_put hn4
  replace hn4 := none_of_put hn4
  have n4_2 := ne_of_put hn4
  replace hn4 := none_of_put hn4
  clear hn4
  refine lex_quietE 1 (by kernel_rfl) (by rfl) ?_
  apply Exists.intro
  refine ⟨fun x hx => ?_, ?_⟩
  · have hwx := HB0.out.trans (hx.below_of (b := w.heap.size) (by simp) HB0.out.size)
    clear hx
    simp only [List.take_succ_cons, List.take_zero]
    unfold Cx
    repeat (go_big_quiet_step (fail))
    exact wpQuiet_nil rfl
  simp only [List.drop_succ_cons, List.drop_zero]
  refine lex_nil ?_
  intro w1 hx hH
  have m2 := hH g2 _ ((Blocks.put_other _ _ (Ne.symm n4_2)).trans ((Blocks.put_other _ _ (Ne.symm n3_2)).trans (Blocks.put_same _ _ _)))
  have m3 := hH g3 _ ((Blocks.put_other _ _ (Ne.symm n4_3)).trans (Blocks.put_same _ _ _))
  have m4 := hH g4 _ (Blocks.put_same _ _ _)
  have HB1 := Lib.hid (HB0.out.trans (hx.below_of (b := w.heap.size) (by simp) HB0.out.size))
  replace q2 := Nat.le_trans HB0.out.size q2
  replace q3 := Nat.le_trans HB0.out.size q3
  replace q4 := Nat.le_trans HB0.out.size q4
  clear hx hH HB0
  go_wp2_with (with_reducible refine wpList_from 7 [0, 0] [] B0 (has_B0 _) ?_)
  refine lex_quietE 2 (by kernel_rfl) (by rfl) ?_
  apply Exists.intro
  refine ⟨fun x hx => ?_, ?_⟩
  · have hwx := HB1.out.trans (hx.below_of (b := w.heap.size) (by simp) HB1.out.size)
    have e3_0 := blk_cellp (hx.keep m3 (by simp)) 0 rfl
    clear hx
    simp only [List.take_succ_cons, List.take_zero]
    unfold Cx
    repeat (go_big_quiet_step (first | with_reducible exact KZ.at _ _))
    exact wpQuiet_nil rfl
  simp only [List.drop_succ_cons, List.drop_zero]
  refine lex_nil ?_
  intro w2 hx hH
  replace m4 := hx.keep m4 (by simp)
  have HB2 := Lib.hid (HB1.out.trans (hx.below_of (b := w.heap.size) (by simp) HB1.out.size))
  clear hx hH HB1 m2 m3 q2 q3
  go_wp2_with (with_reducible refine wpList_from 9 [0, 2, 0] [g4] _ (has_put (has_B0 _) m4) ?_)
  refine lex_quietE 1 (by kernel_rfl) (by rfl) ?_
  apply Exists.intro
  refine ⟨fun x hx => ?_, ?_⟩
  · have hwx := HB2.out.trans (hx.below_of (b := w.heap.size) (by simp [q4]) HB2.out.size)
    clear hx
    simp only [List.take_succ_cons, List.take_zero]
    unfold Cx
    repeat (go_big_quiet_step (fail))
    exact wpQuiet_nil rfl
  simp only [List.drop_succ_cons, List.drop_zero]
  refine lex_store_all g4 _ _ _ (by rfl) (by rfl) (by rfl) (Blocks.put_same _ _ _) (by rfl) (Or.inl (by simp)) (by kernel_rfl) (by simp [Value.oneCell']) ?_
  refine lex_quietE 1 (by kernel_rfl) (by rfl) ?_
  apply Exists.intro
  refine ⟨fun x hx => ?_, ?_⟩
  · have hwx := HB2.out.trans (hx.below_of (b := w.heap.size) (by simp [q4]) HB2.out.size)
    clear hx
    simp only [List.take_succ_cons, List.take_zero]
    unfold Cx
    repeat (go_big_quiet_step (fail))
    exact wpQuiet_nil rfl
  simp only [List.drop_succ_cons, List.drop_zero]
  refine lex_nil ?_
  intro w3 hx hH
  replace m4 := hH g4 _ (Blocks.put_same _ _ _)
  have HB3 := Lib.hid (HB2.out.trans (hx.below_of (b := w.heap.size) (by simp [q4]) HB2.out.size))
  clear hx hH HB2
  have c4_0 := blk_cell m4 0 rfl
  have c4_1 := blk_cell m4 1 rfl
  go_wp2_with fail
  exact bodyPost_ret (v := .tuple #[.agg #[.string { data := #[] }, .string { data := #[] }], .bool false]) (by simp [results, Tryz.results52, go_sem, c4_0, c4_1]) rfl ⟨rfl, HB3.out⟩

set_option maxHeartbeats 1600000 in
set_option maxRecDepth 100000 in
theorem w_new_yes (s d g a b r1 r2 : ByteArray) (KZ : Gives 74 #[.agg #[.string d]] (.bool false)) (KG : Gives 75 #[.agg #[.string s], .agg #[.string d]] (.agg #[.string g])) (KA : Gives 76 #[.agg #[.string s], .agg #[.string g]] (.tuple #[.agg #[.string a], .agg #[.string r1], .bool true])) (KB : Gives 76 #[.agg #[.string d], .agg #[.string g]] (.tuple #[.agg #[.string b], .agg #[.string r2], .bool true])) : Gives 52 #[.agg #[.string s], .agg #[.string d]] (.tuple #[.agg #[.string a, .string b], .bool true]) := by
  intro w
  have HB0 := Lib.hid (Below.refl w.heap.size w)
  go_enter Tryz.func52, Tryz.ntmps52
  go_wp2_with (with_reducible refine wpList_from 2 [3, 3, 3, 0] [] B0 (has_B0 _) ?_)
  refine lex_box_agg _ (by rfl) (by rfl) (fun g2 q2 hn2 => ?_)
  unfold setSlot
  go_big_quiet_step (fail)
  refine wpQuiet_nil ?_
  clear hn2
  refine lex_box_agg _ (by rfl) (by rfl) (fun g3 q3 hn3 => ?_)
  unfold setSlot
  go_big_quiet_step (fail)
  refine wpQuiet_nil ?_
  have n3_2 := ne_of_put hn3
  replace hn3 := none_of_put hn3
  clear hn3
  refine lex_alloc (.agg #[.string ByteArray.empty, .string ByteArray.empty]) (by rfl) (fun x => by kernel_rfl) (fun g4 q4 hn4 => ?_)
  unfold setSlot
  go_big_quiet_step (fail)
  refine wpQuiet_nil ?_
  have n4_3 := ne_of_put hn4
  replace hn4 := none_of_put hn4
  have n4_2 := ne_of_put hn4
  replace hn4 := none_of_put hn4
  clear hn4
  refine lex_quietE 1 (by kernel_rfl) (by rfl) ?_
  apply Exists.intro
  refine ⟨fun x hx => ?_, ?_⟩
  · have hwx := HB0.out.trans (hx.below_of (b := w.heap.size) (by simp) HB0.out.size)
    clear hx
    simp only [List.take_succ_cons, List.take_zero]
    unfold Cx
    repeat (go_big_quiet_step (fail))
    exact wpQuiet_nil rfl
  simp only [List.drop_succ_cons, List.drop_zero]
  refine lex_nil ?_
  intro w1 hx hH
  have m2 := hH g2 _ ((Blocks.put_other _ _ (Ne.symm n4_2)).trans ((Blocks.put_other _ _ (Ne.symm n3_2)).trans (Blocks.put_same _ _ _)))
  have m3 := hH g3 _ ((Blocks.put_other _ _ (Ne.symm n4_3)).trans (Blocks.put_same _ _ _))
  have m4 := hH g4 _ (Blocks.put_same _ _ _)
  have HB1 := Lib.hid (HB0.out.trans (hx.below_of (b := w.heap.size) (by simp) HB0.out.size))
  replace q2 := Nat.le_trans HB0.out.size q2
  replace q3 := Nat.le_trans HB0.out.size q3
  replace q4 := Nat.le_trans HB0.out.size q4
  clear hx hH HB0
  go_wp2_with (with_reducible refine wpList_from 7 [0, 0] [] B0 (has_B0 _) ?_)
  refine lex_quietE 2 (by kernel_rfl) (by rfl) ?_
  apply Exists.intro
  refine ⟨fun x hx => ?_, ?_⟩
  · have hwx := HB1.out.trans (hx.below_of (b := w.heap.size) (by simp) HB1.out.size)
    have e3_0 := blk_cellp (hx.keep m3 (by simp)) 0 rfl
    clear hx
    simp only [List.take_succ_cons, List.take_zero]
    unfold Cx
    repeat (go_big_quiet_step (first | with_reducible exact KZ.at _ _))
    exact wpQuiet_nil rfl
  simp only [List.drop_succ_cons, List.drop_zero]
  refine lex_nil ?_
  intro w2 hx hH
  replace m2 := hx.keep m2 (by simp)
  replace m3 := hx.keep m3 (by simp)
  replace m4 := hx.keep m4 (by simp)
  have HB2 := Lib.hid (HB1.out.trans (hx.below_of (b := w.heap.size) (by simp) HB1.out.size))
  clear hx hH HB1
  go_wp2_with (with_reducible refine wpList_from 10 [0, 0, 0, 3, 2] [] B0 (has_B0 _) ?_)
  refine lex_quietE 3 (by kernel_rfl) (by rfl) ?_
  apply Exists.intro
  refine ⟨fun x hx => ?_, ?_⟩
  · have hwx := HB2.out.trans (hx.below_of (b := w.heap.size) (by simp) HB2.out.size)
    have e2_0 := blk_cellp (hx.keep m2 (by simp)) 0 rfl
    have e3_0 := blk_cellp (hx.keep m3 (by simp)) 0 rfl
    clear hx
    simp only [List.take_succ_cons, List.take_zero]
    unfold Cx
    repeat (go_big_quiet_step (first | with_reducible exact KG.at _ _))
    exact wpQuiet_nil rfl
  simp only [List.drop_succ_cons, List.drop_zero]
  refine lex_alloc (.agg #[.string ByteArray.empty]) (by rfl) (fun x => by kernel_rfl) (fun g6 q6 hn6 => ?_)
  unfold setSlot
  go_big_quiet_step (fail)
  refine wpQuiet_nil ?_
  clear hn6
  have n6_2 : g6 ≠ g2 := Nat.ne_of_gt (Nat.lt_of_lt_of_le (lt_of_heap m2) q6)
  have n6_3 : g6 ≠ g3 := Nat.ne_of_gt (Nat.lt_of_lt_of_le (lt_of_heap m3) q6)
  have n6_4 : g6 ≠ g4 := Nat.ne_of_gt (Nat.lt_of_lt_of_le (lt_of_heap m4) q6)
  refine lex_store_all g6 _ _ _ (by rfl) (by rfl) (by rfl) (Blocks.put_same _ _ _) (by rfl) (Or.inr q6) (by kernel_rfl) (by simp [Value.oneCell']) ?_
  refine lex_nil ?_
  intro w3 hx hH
  have m6 := hH g6 _ (Blocks.put_same _ _ _)
  replace m2 := hx.keep m2 (by simp)
  replace m3 := hx.keep m3 (by simp)
  replace m4 := hx.keep m4 (by simp)
  have HB3 := Lib.hid (HB2.out.trans (hx.below_of (b := w.heap.size) (by simp) HB2.out.size))
  replace q6 := Nat.le_trans HB2.out.size q6
  clear hx hH HB2
  go_wp2_with (with_reducible refine wpList_from 14 [1, 0, 0, 0, 0, 0, 0, 2] [g2] _ (has_put (has_B0 _) m2) ?_)
  refine lex_readE 1 w3 (Behind.refl _ _) (has_put (has_B0 _) m2) (by kernel_rfl) (by rfl) ?_
  apply Exists.intro
  refine ⟨fun x hx hH => ?_, ?_⟩
  · have hwx := HB3.out.trans (hx.below_of (b := w.heap.size) (by simp [q2]) HB3.out.size)
    have e6_0 := blk_cellp (hx.keep m6 (by simp [n6_2])) 0 rfl
    have e2_0 := blk_cellp (hH g2 _ (Blocks.put_same _ _ _)) 0 rfl
    clear hH
    clear hx
    simp only [List.take_succ_cons, List.take_zero]
    unfold Cx
    repeat (go_big_quiet_step (first | with_reducible exact KA.at _ _))
    exact wpQuiet_nil rfl
  simp only [List.drop_succ_cons, List.drop_zero]
  refine lex_quietE 6 (by kernel_rfl) (by rfl) ?_
  apply Exists.intro
  refine ⟨fun x hx => ?_, ?_⟩
  · have hwx := HB3.out.trans (hx.below_of (b := w.heap.size) (by simp [q2]) HB3.out.size)
    have e6_0 := blk_cellp (hx.keep m6 (by simp [n6_2])) 0 rfl
    clear hx
    simp only [List.take_succ_cons, List.take_zero]
    unfold Cx
    repeat (go_big_quiet_step (first | with_reducible exact KA.at _ _))
    exact wpQuiet_nil rfl
  simp only [List.drop_succ_cons, List.drop_zero]
  refine lex_store_all g2 _ _ _ (by rfl) (by rfl) (by rfl) (Blocks.put_same _ _ _) (by rfl) (Or.inl (by simp)) (by kernel_rfl) (by simp [Value.oneCell']) ?_
  refine lex_nil ?_
  intro w4 hx hH
  replace m2 := hH g2 _ (Blocks.put_same _ _ _)
  replace m3 := hx.keep m3 (by simp [n3_2])
  replace m4 := hx.keep m4 (by simp [n4_2])
  replace m6 := hx.keep m6 (by simp [n6_2])
  have HB4 := Lib.hid (HB3.out.trans (hx.below_of (b := w.heap.size) (by simp [q2]) HB3.out.size))
  clear hx hH HB3
  go_wp2_with (with_reducible refine wpList_from 21 [1, 0, 0, 0, 0, 0, 0, 2] [g3] _ (has_put (has_B0 _) m3) ?_)
  refine lex_readE 1 w4 (Behind.refl _ _) (has_put (has_B0 _) m3) (by kernel_rfl) (by rfl) ?_
  apply Exists.intro
  refine ⟨fun x hx hH => ?_, ?_⟩
  · have hwx := HB4.out.trans (hx.below_of (b := w.heap.size) (by simp [q3]) HB4.out.size)
    have e6_0 := blk_cellp (hx.keep m6 (by simp [n6_3])) 0 rfl
    have e3_0 := blk_cellp (hH g3 _ (Blocks.put_same _ _ _)) 0 rfl
    clear hH
    clear hx
    simp only [List.take_succ_cons, List.take_zero]
    unfold Cx
    repeat (go_big_quiet_step (first | with_reducible exact KB.at _ _))
    exact wpQuiet_nil rfl
  simp only [List.drop_succ_cons, List.drop_zero]
  refine lex_quietE 6 (by kernel_rfl) (by rfl) ?_
  apply Exists.intro
  refine ⟨fun x hx => ?_, ?_⟩
  · have hwx := HB4.out.trans (hx.below_of (b := w.heap.size) (by simp [q3]) HB4.out.size)
    have e6_0 := blk_cellp (hx.keep m6 (by simp [n6_3])) 0 rfl
    clear hx
    simp only [List.take_succ_cons, List.take_zero]
    unfold Cx
    repeat (go_big_quiet_step (first | with_reducible exact KB.at _ _))
    exact wpQuiet_nil rfl
  simp only [List.drop_succ_cons, List.drop_zero]
  refine lex_store_all g3 _ _ _ (by rfl) (by rfl) (by rfl) (Blocks.put_same _ _ _) (by rfl) (Or.inl (by simp)) (by kernel_rfl) (by simp [Value.oneCell']) ?_
  refine lex_nil ?_
  intro w5 hx hH
  replace m3 := hH g3 _ (Blocks.put_same _ _ _)
  replace m2 := hx.keep m2 (by simp [(Ne.symm n3_2)])
  replace m4 := hx.keep m4 (by simp [n4_3])
  have HB5 := Lib.hid (HB4.out.trans (hx.below_of (b := w.heap.size) (by simp [q3]) HB4.out.size))
  clear hx hH HB4 m6 q6
  go_wp2_with (with_reducible refine wpList_from 27 [0, 0, 0, 2, 0] [g4] _ (has_put (has_B0 _) m4) ?_)
  refine lex_quietE 3 (by kernel_rfl) (by rfl) ?_
  apply Exists.intro
  refine ⟨fun x hx => ?_, ?_⟩
  · have hwx := HB5.out.trans (hx.below_of (b := w.heap.size) (by simp [q4]) HB5.out.size)
    have e2_0 := blk_cellp (hx.keep m2 (by simp [(Ne.symm n4_2)])) 0 rfl
    have e3_0 := blk_cellp (hx.keep m3 (by simp [(Ne.symm n4_3)])) 0 rfl
    clear hx
    simp only [List.take_succ_cons, List.take_zero]
    unfold Cx
    repeat (go_big_quiet_step (fail))
    exact wpQuiet_nil rfl
  simp only [List.drop_succ_cons, List.drop_zero]
  refine lex_store_all g4 _ _ _ (by rfl) (by rfl) (by rfl) (Blocks.put_same _ _ _) (by rfl) (Or.inl (by simp)) (by kernel_rfl) (by simp [Value.oneCell']) ?_
  refine lex_quietE 1 (by kernel_rfl) (by rfl) ?_
  apply Exists.intro
  refine ⟨fun x hx => ?_, ?_⟩
  · have hwx := HB5.out.trans (hx.below_of (b := w.heap.size) (by simp [q4]) HB5.out.size)
    have e2_0 := blk_cellp (hx.keep m2 (by simp [(Ne.symm n4_2)])) 0 rfl
    have e3_0 := blk_cellp (hx.keep m3 (by simp [(Ne.symm n4_3)])) 0 rfl
    clear hx
    simp only [List.take_succ_cons, List.take_zero]
    unfold Cx
    repeat (go_big_quiet_step (fail))
    exact wpQuiet_nil rfl
  simp only [List.drop_succ_cons, List.drop_zero]
  refine lex_nil ?_
  intro w6 hx hH
  replace m4 := hH g4 _ (Blocks.put_same _ _ _)
  have HB6 := Lib.hid (HB5.out.trans (hx.below_of (b := w.heap.size) (by simp [q4]) HB5.out.size))
  clear hx hH HB5 m2 m3 q2 q3
  have c4_0 := blk_cell m4 0 rfl
  have c4_1 := blk_cell m4 1 rfl
  go_wp2_with fail
  exact bodyPost_ret (v := .tuple #[.agg #[.string a, .string b], .bool true]) (by simp [results, Tryz.results52, go_sem, c4_0, c4_1]) rfl ⟨rfl, HB6.out⟩

set_option maxHeartbeats 1600000 in
set_option maxRecDepth 100000 in
theorem w_den_z (a b o : ByteArray) (KZ : Gives 74 #[.agg #[.string b]] (.bool true)) (KO : Gives 51 #[.int .u64 1] (.agg #[.string o])) : Gives 78 #[.agg #[.string a, .string b]] (.agg #[.string o]) := by
  intro w
  have HB0 := Lib.hid (Below.refl w.heap.size w)
  go_enter Tryz.func78, Tryz.ntmps78
  go_wp2_with (with_reducible refine wpList_from 1 [3, 3] [] B0 (has_B0 _) ?_)
  refine lex_box_agg _ (by rfl) (by rfl) (fun g1 q1 hn1 => ?_)
  unfold setSlot
  go_big_quiet_step (fail)
  refine wpQuiet_nil ?_
  clear hn1
  refine lex_alloc (.agg #[.string ByteArray.empty]) (by rfl) (fun x => by kernel_rfl) (fun g2 q2 hn2 => ?_)
  unfold setSlot
  go_big_quiet_step (fail)
  refine wpQuiet_nil ?_
  have n2_1 := ne_of_put hn2
  replace hn2 := none_of_put hn2
  clear hn2
  refine lex_nil ?_
  intro w1 hx hH
  have m1 := hH g1 _ ((Blocks.put_other _ _ (Ne.symm n2_1)).trans (Blocks.put_same _ _ _))
  have m2 := hH g2 _ (Blocks.put_same _ _ _)
  have HB1 := Lib.hid (HB0.out.trans (hx.below_of (b := w.heap.size) (by simp) HB0.out.size))
  replace q1 := Nat.le_trans HB0.out.size q1
  replace q2 := Nat.le_trans HB0.out.size q2
  clear hx hH HB0
  go_wp2_with (with_reducible refine wpList_from 3 [0, 0, 0] [] B0 (has_B0 _) ?_)
  refine lex_quietE 3 (by kernel_rfl) (by rfl) ?_
  apply Exists.intro
  refine ⟨fun x hx => ?_, ?_⟩
  · have hwx := HB1.out.trans (hx.below_of (b := w.heap.size) (by simp) HB1.out.size)
    have e1_0 := blk_cellp (hx.keep m1 (by simp)) 0 rfl
    have e1_1 := blk_cellp (hx.keep m1 (by simp)) 1 rfl
    clear hx
    simp only [List.take_succ_cons, List.take_zero]
    unfold Cx
    repeat (go_big_quiet_step (first | with_reducible exact KZ.at _ _))
    exact wpQuiet_nil rfl
  simp only [List.drop_succ_cons, List.drop_zero]
  refine lex_nil ?_
  intro w2 hx hH
  replace m2 := hx.keep m2 (by simp)
  have HB2 := Lib.hid (HB1.out.trans (hx.below_of (b := w.heap.size) (by simp) HB1.out.size))
  clear hx hH HB1 m1 q1
  go_wp2_with (with_reducible refine wpList_from 6 [0, 2] [g2] _ (has_put (has_B0 _) m2) ?_)
  refine lex_quietE 1 (by kernel_rfl) (by rfl) ?_
  apply Exists.intro
  refine ⟨fun x hx => ?_, ?_⟩
  · have hwx := HB2.out.trans (hx.below_of (b := w.heap.size) (by simp [q2]) HB2.out.size)
    clear hx
    simp only [List.take_succ_cons, List.take_zero]
    unfold Cx
    repeat (go_big_quiet_step (first | with_reducible exact KO.at _ _))
    exact wpQuiet_nil rfl
  simp only [List.drop_succ_cons, List.drop_zero]
  refine lex_store_all g2 _ _ _ (by rfl) (by rfl) (by rfl) (Blocks.put_same _ _ _) (by rfl) (Or.inl (by simp)) (by kernel_rfl) (by simp [Value.oneCell']) ?_
  refine lex_nil ?_
  intro w3 hx hH
  replace m2 := hH g2 _ (Blocks.put_same _ _ _)
  have HB3 := Lib.hid (HB2.out.trans (hx.below_of (b := w.heap.size) (by simp [q2]) HB2.out.size))
  clear hx hH HB2
  have c2_0 := blk_cell m2 0 rfl
  go_wp2_with fail
  exact bodyPost_ret (v := .agg #[.string o]) (by simp [results, Tryz.results78, go_sem, c2_0]) rfl ⟨rfl, HB3.out⟩

set_option maxHeartbeats 1600000 in
set_option maxRecDepth 100000 in
theorem w_den (a b : ByteArray) (KZ : Gives 74 #[.agg #[.string b]] (.bool false)) : Gives 78 #[.agg #[.string a, .string b]] (.agg #[.string b]) := by
  intro w
  have HB0 := Lib.hid (Below.refl w.heap.size w)
  go_enter Tryz.func78, Tryz.ntmps78
  go_wp2_with (with_reducible refine wpList_from 1 [3, 3] [] B0 (has_B0 _) ?_)
  refine lex_box_agg _ (by rfl) (by rfl) (fun g1 q1 hn1 => ?_)
  unfold setSlot
  go_big_quiet_step (fail)
  refine wpQuiet_nil ?_
  clear hn1
  refine lex_alloc (.agg #[.string ByteArray.empty]) (by rfl) (fun x => by kernel_rfl) (fun g2 q2 hn2 => ?_)
  unfold setSlot
  go_big_quiet_step (fail)
  refine wpQuiet_nil ?_
  have n2_1 := ne_of_put hn2
  replace hn2 := none_of_put hn2
  clear hn2
  refine lex_nil ?_
  intro w1 hx hH
  have m1 := hH g1 _ ((Blocks.put_other _ _ (Ne.symm n2_1)).trans (Blocks.put_same _ _ _))
  have m2 := hH g2 _ (Blocks.put_same _ _ _)
  have HB1 := Lib.hid (HB0.out.trans (hx.below_of (b := w.heap.size) (by simp) HB0.out.size))
  replace q1 := Nat.le_trans HB0.out.size q1
  replace q2 := Nat.le_trans HB0.out.size q2
  clear hx hH HB0
  go_wp2_with (with_reducible refine wpList_from 3 [0, 0, 0] [] B0 (has_B0 _) ?_)
  refine lex_quietE 3 (by kernel_rfl) (by rfl) ?_
  apply Exists.intro
  refine ⟨fun x hx => ?_, ?_⟩
  · have hwx := HB1.out.trans (hx.below_of (b := w.heap.size) (by simp) HB1.out.size)
    have e1_0 := blk_cellp (hx.keep m1 (by simp)) 0 rfl
    have e1_1 := blk_cellp (hx.keep m1 (by simp)) 1 rfl
    clear hx
    simp only [List.take_succ_cons, List.take_zero]
    unfold Cx
    repeat (go_big_quiet_step (first | with_reducible exact KZ.at _ _))
    exact wpQuiet_nil rfl
  simp only [List.drop_succ_cons, List.drop_zero]
  refine lex_nil ?_
  intro w2 hx hH
  replace m1 := hx.keep m1 (by simp)
  replace m2 := hx.keep m2 (by simp)
  have HB2 := Lib.hid (HB1.out.trans (hx.below_of (b := w.heap.size) (by simp) HB1.out.size))
  clear hx hH HB1
  go_wp2_with (with_reducible refine wpList_from 7 [0, 0, 2] [g2] _ (has_put (has_B0 _) m2) ?_)
  refine lex_quietE 2 (by kernel_rfl) (by rfl) ?_
  apply Exists.intro
  refine ⟨fun x hx => ?_, ?_⟩
  · have hwx := HB2.out.trans (hx.below_of (b := w.heap.size) (by simp [q2]) HB2.out.size)
    have e1_0 := blk_cellp (hx.keep m1 (by simp [(Ne.symm n2_1)])) 0 rfl
    have e1_1 := blk_cellp (hx.keep m1 (by simp [(Ne.symm n2_1)])) 1 rfl
    clear hx
    simp only [List.take_succ_cons, List.take_zero]
    unfold Cx
    repeat (go_big_quiet_step (fail))
    exact wpQuiet_nil rfl
  simp only [List.drop_succ_cons, List.drop_zero]
  refine lex_store_all g2 _ _ _ (by rfl) (by rfl) (by rfl) (Blocks.put_same _ _ _) (by rfl) (Or.inl (by simp)) (by kernel_rfl) (by simp [Value.oneCell']) ?_
  refine lex_nil ?_
  intro w3 hx hH
  replace m2 := hH g2 _ (Blocks.put_same _ _ _)
  have HB3 := Lib.hid (HB2.out.trans (hx.below_of (b := w.heap.size) (by simp [q2]) HB2.out.size))
  clear hx hH HB2 m1 q1
  have c2_0 := blk_cell m2 0 rfl
  go_wp2_with fail
  exact bodyPost_ret (v := .agg #[.string b]) (by simp [results, Tryz.results78, go_sem, c2_0]) rfl ⟨rfl, HB3.out⟩

set_option maxHeartbeats 1600000 in
set_option maxRecDepth 100000 in
theorem w_text1 (a b d o t : ByteArray) (KD : Gives 78 #[.agg #[.string a, .string b]] (.agg #[.string d])) (KO : Gives 51 #[.int .u64 1] (.agg #[.string o])) (KC : Gives 77 #[.agg #[.string d], .agg #[.string o]] (.int .i64 0)) (KT : Gives 79 #[.agg #[.string a]] (.string t)) : Gives 53 #[.agg #[.string a, .string b]] (.string t) := by
  intro w
  have HB0 := Lib.hid (Below.refl w.heap.size w)
  go_enter Tryz.func53, Tryz.ntmps53
  go_wp2_with (with_reducible refine wpList_from 1 [3, 0] [] B0 (has_B0 _) ?_)
  refine lex_box_agg _ (by rfl) (by rfl) (fun g1 q1 hn1 => ?_)
  unfold setSlot
  go_big_quiet_step (fail)
  refine wpQuiet_nil ?_
  clear hn1
  refine lex_quietE 1 (by kernel_rfl) (by rfl) ?_
  apply Exists.intro
  refine ⟨fun x hx => ?_, ?_⟩
  · have hwx := HB0.out.trans (hx.below_of (b := w.heap.size) (by simp) HB0.out.size)
    clear hx
    simp only [List.take_succ_cons, List.take_zero]
    unfold Cx
    repeat (go_big_quiet_step (fail))
    exact wpQuiet_nil rfl
  simp only [List.drop_succ_cons, List.drop_zero]
  refine lex_nil ?_
  intro w1 hx hH
  have m1 := hH g1 _ (Blocks.put_same _ _ _)
  have HB1 := Lib.hid (HB0.out.trans (hx.below_of (b := w.heap.size) (by simp) HB0.out.size))
  replace q1 := Nat.le_trans HB0.out.size q1
  clear hx hH HB0
  go_wp2_with (with_reducible refine wpList_from 3 [0, 0, 0, 0, 0] [] B0 (has_B0 _) ?_)
  refine lex_quietE 5 (by kernel_rfl) (by rfl) ?_
  apply Exists.intro
  refine ⟨fun x hx => ?_, ?_⟩
  · have hwx := HB1.out.trans (hx.below_of (b := w.heap.size) (by simp) HB1.out.size)
    have e1_0 := blk_cellp (hx.keep m1 (by simp)) 0 rfl
    have e1_1 := blk_cellp (hx.keep m1 (by simp)) 1 rfl
    clear hx
    simp only [List.take_succ_cons, List.take_zero]
    unfold Cx
    repeat (go_big_quiet_step (first | with_reducible exact KD.at _ _ | with_reducible exact KO.at _ _ | with_reducible exact KC.at _ _))
    exact wpQuiet_nil rfl
  simp only [List.drop_succ_cons, List.drop_zero]
  refine lex_nil ?_
  intro w2 hx hH
  replace m1 := hx.keep m1 (by simp)
  have HB2 := Lib.hid (HB1.out.trans (hx.below_of (b := w.heap.size) (by simp) HB1.out.size))
  clear hx hH HB1
  go_wp2_with (with_reducible refine wpList_from 8 [0, 0, 0, 0] [] B0 (has_B0 _) ?_)
  refine lex_quietE 4 (by kernel_rfl) (by rfl) ?_
  apply Exists.intro
  refine ⟨fun x hx => ?_, ?_⟩
  · have hwx := HB2.out.trans (hx.below_of (b := w.heap.size) (by simp) HB2.out.size)
    have e1_0 := blk_cellp (hx.keep m1 (by simp)) 0 rfl
    have e1_1 := blk_cellp (hx.keep m1 (by simp)) 1 rfl
    clear hx
    simp only [List.take_succ_cons, List.take_zero]
    unfold Cx
    repeat (go_big_quiet_step (first | with_reducible exact KT.at _ _))
    exact wpQuiet_nil rfl
  simp only [List.drop_succ_cons, List.drop_zero]
  refine lex_nil ?_
  intro w3 hx hH
  have HB3 := Lib.hid (HB2.out.trans (hx.below_of (b := w.heap.size) (by simp) HB2.out.size))
  clear hx hH HB2 m1 q1
  go_wp2_with fail
  exact bodyPost_ret (v := .string t) (by simp [results, Tryz.results53, go_sem]) rfl ⟨rfl, HB3.out⟩

set_option maxHeartbeats 1600000 in
set_option maxRecDepth 100000 in
theorem w_text2 (a b d o t u : ByteArray) (c : Int) (hc : (c == 0) = false) (ht : t.size ≤ 100000000000) (hu : u.size ≤ 100000000000) (KD : Gives 78 #[.agg #[.string a, .string b]] (.agg #[.string d])) (KO : Gives 51 #[.int .u64 1] (.agg #[.string o])) (KC : Gives 77 #[.agg #[.string d], .agg #[.string o]] (.int .i64 c)) (KT : Gives 79 #[.agg #[.string a]] (.string t)) (KU : Gives 79 #[.agg #[.string b]] (.string u)) : Gives 53 #[.agg #[.string a, .string b]] (.string (t ++ { data := #[47] } ++ u)) := by
  intro w
  have HB0 := Lib.hid (Below.refl w.heap.size w)
  go_enter Tryz.func53, Tryz.ntmps53
  go_wp2_with (with_reducible refine wpList_from 1 [3, 0] [] B0 (has_B0 _) ?_)
  refine lex_box_agg _ (by rfl) (by rfl) (fun g1 q1 hn1 => ?_)
  unfold setSlot
  go_big_quiet_step (fail)
  refine wpQuiet_nil ?_
  clear hn1
  refine lex_quietE 1 (by kernel_rfl) (by rfl) ?_
  apply Exists.intro
  refine ⟨fun x hx => ?_, ?_⟩
  · have hwx := HB0.out.trans (hx.below_of (b := w.heap.size) (by simp) HB0.out.size)
    clear hx
    simp only [List.take_succ_cons, List.take_zero]
    unfold Cx
    repeat (go_big_quiet_step (fail))
    exact wpQuiet_nil rfl
  simp only [List.drop_succ_cons, List.drop_zero]
  refine lex_nil ?_
  intro w1 hx hH
  have m1 := hH g1 _ (Blocks.put_same _ _ _)
  have HB1 := Lib.hid (HB0.out.trans (hx.below_of (b := w.heap.size) (by simp) HB0.out.size))
  replace q1 := Nat.le_trans HB0.out.size q1
  clear hx hH HB0
  go_wp2_with (with_reducible refine wpList_from 3 [0, 0, 0, 0, 0] [] B0 (has_B0 _) ?_)
  refine lex_quietE 5 (by kernel_rfl) (by rfl) ?_
  apply Exists.intro
  refine ⟨fun x hx => ?_, ?_⟩
  · have hwx := HB1.out.trans (hx.below_of (b := w.heap.size) (by simp) HB1.out.size)
    have e1_0 := blk_cellp (hx.keep m1 (by simp)) 0 rfl
    have e1_1 := blk_cellp (hx.keep m1 (by simp)) 1 rfl
    clear hx
    simp only [List.take_succ_cons, List.take_zero]
    unfold Cx
    repeat (go_big_quiet_step (first | with_reducible exact KD.at _ _ | with_reducible exact KO.at _ _ | with_reducible exact KC.at _ _))
    exact wpQuiet_nil rfl
  simp only [List.drop_succ_cons, List.drop_zero]
  refine lex_nil ?_
  intro w2 hx hH
  replace m1 := hx.keep m1 (by simp)
  have HB2 := Lib.hid (HB1.out.trans (hx.below_of (b := w.heap.size) (by simp) HB1.out.size))
  clear hx hH HB1
  go_wp2_with fail
  refine wp_game [0, 0, 0, 0, 0, 0, 0, 0, 0] [] B0 fin_B0 (has_B0 _) (by kernel_rfl) (by kernel_rfl) ?_
  refine lex_quietE 9 (by kernel_rfl) (by rfl) ?_
  apply Exists.intro
  refine ⟨fun x hx => ?_, ?_⟩
  · have hwx := HB2.out.trans (hx.below_of (b := w.heap.size) (by simp) HB2.out.size)
    have e1_0 := blk_cellp (hx.keep m1 (by simp)) 0 rfl
    have e1_1 := blk_cellp (hx.keep m1 (by simp)) 1 rfl
    clear hx
    simp only [List.take_succ_cons, List.take_zero]
    unfold Cx
    repeat (go_big_quiet_step (first | with_reducible exact KT.at _ _ | with_reducible exact KU.at _ _))
    exact wpQuiet_nil rfl
  simp only [List.drop_succ_cons, List.drop_zero]
  refine lex_nil ?_
  intro w3 hx hH
  have HB3 := Lib.hid (HB2.out.trans (hx.below_of (b := w.heap.size) (by simp) HB2.out.size))
  clear hx hH HB2 m1 q1
  go_wp2_with fail
  exact bodyPost_ret (v := .string (t ++ { data := #[47] } ++ u)) (by simp [results, Tryz.results53, go_sem]) rfl ⟨rfl, HB3.out⟩

end Go.Proofs.YtajjgfiojlagmaaGreatDoor

/- The contracts of package rat, in numbers. -/
namespace Go.Proofs.YtajjgfiojlagmaaGreatDoor
open Go.RowKit Num

def dn (d : Nat) : Nat := if d = 0 then 1 else d
theorem dn_pos (d : Nat) : 0 < dn d := by unfold dn; split <;> omega
theorem dn_of {d : Nat} (h : 0 < d) : dn d = d := if_neg (by omega)
theorem nl_one : nl 1 = 1 := by decide
theorem nl_dn (d : Nat) : nl (dn d) ≤ nl d + 1 := by
  unfold dn; split
  · have := nl_one; omega
  · omega

def ratV (p : Nat × Nat) : Value := .agg #[.string (nb p.1), .string (nb p.2)]
def Sm (k : Nat) (p : Nat × Nat) : Prop := nl p.1 ≤ k ∧ nl p.2 ≤ k

theorem Sm.mono {k m : Nat} {p : Nat × Nat} (h : Sm k p) (hm : k ≤ m) : Sm m p := ⟨Nat.le_trans h.1 hm, Nat.le_trans h.2 hm⟩
theorem Sm.red {k n d : Nat} (hn : nl n ≤ k) (hd : nl d ≤ k) : Sm k (Q.red n d) := ⟨Nat.le_trans (nl_mono (Nat.div_le_self _ _)) hn, Nat.le_trans (nl_mono (Nat.div_le_self _ _)) hd⟩
theorem Sm.add {k : Nat} {p q : Nat × Nat} (hp : Sm k p) (hq : Sm k q) : Sm (2 * k + 1) (Q.add p q) := by
  obtain ⟨h1, h2⟩ := hp
  obtain ⟨h3, h4⟩ := hq
  have e1 := nl_mul p.1 q.2
  have e2 := nl_mul q.1 p.2
  have e3 := nl_mul p.2 q.2
  have e4 := nl_add (p.1 * q.2) (q.1 * p.2)
  exact Sm.red (by omega) (by omega)
theorem Sm.mul {k : Nat} {p q : Nat × Nat} (hp : Sm k p) (hq : Sm k q) : Sm (2 * k + 1) (Q.mul p q) := by
  obtain ⟨h1, h2⟩ := hp
  obtain ⟨h3, h4⟩ := hq
  have e1 := nl_mul p.1 q.1
  have e3 := nl_mul p.2 q.2
  exact Sm.red (by omega) (by omega)
theorem gRZeroY : Gives 74 #[natV 0] (.bool true) := w_zero_yes _ (gCmp 0 0 (by decide) (by decide))
theorem gRZeroN (a : Nat) (ha : nl a ≤ 1000000) (h : 0 < a) : Gives 74 #[natV a] (.bool false) := by
  have := gCmp a 0 (by omega) (by decide)
  rw [cmpI_gt h] at this
  exact w_zero_no _ 1 rfl this

theorem gRNew (n d : Nat) (hn : nl n ≤ 1000000) (hd : nl d ≤ 1000000) (h0 : 0 < d) : Gives 52 #[natV n, natV d] (.tuple #[ratV (Q.red n d), .bool true]) := by
  have hg : 0 < Nat.gcd n d := Nat.gcd_pos_of_pos_right n h0
  have bg := nl_mono (Nat.gcd_le_right n h0)
  exact w_new_yes _ _ _ _ _ _ _ (gRZeroN d hd h0) (gGcd n d (by omega) (by omega)) (gDiv n (Nat.gcd n d) (by omega) (by omega) (by omega)) (gDiv d (Nat.gcd n d) (by omega) (by omega) (by omega))
theorem gRNewZ (n : Nat) : Gives 52 #[natV n, natV 0] (.tuple #[ratV (0, 0), .bool false]) := w_new_no _ _ gRZeroY

theorem gRDen (p : Nat × Nat) (hp : nl p.2 ≤ 1000000) : Gives 78 #[ratV p] (natV (dn p.2)) := by
  obtain ⟨n, d⟩ := p
  rcases Nat.eq_zero_or_pos d with h | h
  · subst h
    exact w_den_z _ _ _ gRZeroY (gOf 1 (by decide))
  · rw [dn_of h]
    exact w_den _ _ (gRZeroN d hp h)

def rtext (p : Nat × Nat) : ByteArray := if dn p.2 = 1 then dec p.1 else dec p.1 ++ { data := #[47] } ++ dec p.2

theorem dec_small_of (a m : Nat) (hm : 0 < m) (ha : nl a ≤ m) : (dec a).size ≤ 3 * m := by
  rw [dec_size]
  refine decL_length_le a (3 * m) (by omega) ?_
  refine Nat.lt_of_lt_of_le (lt_pow_nl a) ?_
  refine Nat.le_trans (Nat.pow_le_pow_right (by omega) ha) ?_
  rw [Nat.pow_mul]
  exact Nat.pow_le_pow_left (by omega) _
theorem dec_small (a : Nat) (ha : nl a ≤ 1000000) : (dec a).size ≤ 100000000000 := Nat.le_trans (dec_small_of a 1000000 (by omega) ha) (by omega)

theorem gRText (p : Nat × Nat) (hp : Sm 1000000 p) : Gives 53 #[ratV p] (.string (rtext p)) := by
  obtain ⟨n, d⟩ := p
  obtain ⟨h1, h2⟩ := hp
  have b := nl_dn d
  simp only at h1 h2
  have KC := gCmp (dn d) 1 (by omega) (by decide)
  unfold rtext
  by_cases h : dn d = 1
  · rw [if_pos h]
    rw [h, cmpI_eq] at KC
    have KD := gRDen (n, d) h2
    simp only [h] at KD
    exact w_text1 _ _ _ _ _ KD (gOf 1 (by decide)) KC (gText n (by omega))
  · rw [if_neg h]
    have : 1 < dn d := by have := dn_pos d; omega
    rw [cmpI_gt this] at KC
    exact w_text2 _ _ _ _ _ _ 1 rfl (dec_small n h1) (dec_small d h2) (gRDen (n, d) h2) (gOf 1 (by decide)) KC (gText n (by omega)) (gText d (by omega))

section
variable (p q : Nat × Nat) (hp : Sm 10000 p) (hq : Sm 10000 q)
include hp hq

end

end Go.Proofs.YtajjgfiojlagmaaGreatDoor

/- Rational numbers as pairs in lowest terms: differences, quotients, the order; texts. -/
namespace Go.Proofs.YtajjgfiojlagmaaGreatDoor
open Num

namespace Q

end Q

theorem toList_ne {a b : ByteArray} (h : a ≠ b) : ¬ a.toList = b.toList := fun e => h (by
  rw [ByteArray.toList_eq, ByteArray.toList_eq] at e
  cases a; cases b
  simpa using Array.toList_inj.1 e)

end Go.Proofs.YtajjgfiojlagmaaGreatDoor

/- The reference's Read (chapter 01). -/
namespace Go.Proofs.YtajjgfiojlagmaaGreatDoor
open Go.RowKit Num

def XReadPost (s : ByteArray) (w : World) (e : Ending) (w' : World) : Prop :=
  e = .returned (.tuple #[.string (if decOk (bts s) then s else { data := #[48] }), .bool (decOk (bts s))]) ∧ w = w'

theorem xread_no {s : ByteArray} {w : World} (h : decOk (bts s) = false) : XReadPost s w (.returned (.tuple #[.string { data := #[48] }, .bool false])) w :=
  ⟨by rw [h]; rfl, rfl⟩
theorem xread_yes {s : ByteArray} {w : World} (h : decOk (bts s) = true) : XReadPost s w (.returned (.tuple #[.string s, .bool true])) w :=
  ⟨by rw [h]; rfl, rfl⟩

set_option maxHeartbeats 400000 in
set_option maxRecDepth 100000 in
theorem xread_bad1 (s : ByteArray) (hs : s.size = 0 ∨ 2000 < s.size) (hs2 : s.size ≤ 9223372036854775807) (w : World) :
    Calls Tryz.prog 58 #[.string s] w (XReadPost s w) := by
  have HP : Hid (decOk (bts s) = false) := by
    have hsz := bts_length s
    rcases hs with h | h
    · rw [List.eq_nil_of_length_eq_zero (hsz.trans h)]; rfl
    · exact decOk_long (by omega)
  rcases hs with h | h
  · have hb : ((s.size : Int) == 0) = true := beq_yes (by omega)
    clear h
    go_enter Tryz.func58, Tryz.ntmps58
    go_wp2_with fail
    go_ret2
    exact xread_no HP.out
  · have hb : ((s.size : Int) == 0) = false := beq_no (by omega)
    go_enter Tryz.func58, Tryz.ntmps58
    go_wp2_with fail
    go_ret2
    exact xread_no HP.out

set_option maxHeartbeats 400000 in
set_option maxRecDepth 100000 in
theorem xread_bad2 (s : ByteArray) (hs : 1 < s.size) (hs2 : s.size ≤ 2000) (h0 : s[0].toNat = 48) (w : World) :
    Calls Tryz.prog 58 #[.string s] w (XReadPost s w) := by
  have HP : Hid (decOk (bts s) = false) := decOk_zero (by rw [bts_length]; exact hs) (by rw [bts_getD s 0 (by omega)]; exact h0)
  have hb : ((s.size : Int) == 0) = false := beq_no (by omega)
  have hz : ((s[0].toNat : Int) == 48) = true := by simp [h0]
  clear h0
  go_enter Tryz.func58, Tryz.ntmps58
  go_wp2_with fail
  go_ret2
  exact xread_no HP.out

set_option maxHeartbeats 1600000 in
set_option maxRecDepth 100000 in
theorem xread_loop (s : ByteArray) (hs : 0 < s.size) (hs2 : s.size ≤ 2000) (h0 : s.size ≤ 1 ∨ s[0].toNat ≠ 48) (w : World) :
    Calls Tryz.prog 58 #[.string s] w (XReadPost s w) := by
  have hsz := bts_length s
  have hb : ((s.size : Int) == 0) = false := beq_no (by omega)
  have hz : 1 < s.size → ((s[0].toNat : Int) == 48) = false := read_test s hs h0
  have HOK := Lib.hid (fun (h4 : ∀ j, j < (bts s).length → 48 ≤ (bts s).getD j 0 ∧ (bts s).getD j 0 ≤ 57) =>
    decOk_all (l := bts s) (by intro e; rw [e] at hsz; simp at hsz; omega) (by omega) (by rw [hsz, bts_getD s 0 hs]; exact h0) h4)
  clear h0
  go_enter Tryz.func58, Tryz.ntmps58
  by_cases h1 : 1 < s.size
  all_goals
    first
      | (have hz := hz h1)
      | (clear hz)
    go_wp2_with fail
    go_loop [4] (fun i => ∃ k : Nat, k ≤ s.size ∧ i = .int .i64 (k : Nat) ∧ Hid (∀ j, j < k → 48 ≤ (bts s).getD j 0 ∧ (bts s).getD j 0 ≤ 57))
      (fun i => s.size - (intOf i).toNat)
    case atStart => exact ⟨0, Nat.zero_le _, rfl, fun j hj => by omega⟩
    case round =>
      obtain ⟨k, hk, rfl, HD⟩ := hrel
      by_cases hlt : k < s.size
      · have hc := bts_getD s k hlt
        have HCH := Lib.hid (fun h => decOk_char (l := bts s) (k := k) (by omega) h)
        have HDG : Hid (48 ≤ (bts s).getD k 0 ∧ (bts s).getD k 0 ≤ 57 → ∀ j, j < k + 1 → 48 ≤ (bts s).getD j 0 ∧ (bts s).getD j 0 ≤ 57) := by
          intro h j hj
          by_cases hjk : j = k
          · rw [hjk]; exact h
          · exact HD.out j (by omega)
        rw [hc] at HCH HDG
        clear hc
        by_cases hbad : s[k].toNat < 48 ∨ 57 < s[k].toNat
        · have HP : Hid (decOk (bts s) = false) := HCH.out hbad
          clear HCH
          rcases hbad with hbad | hbad
          all_goals
            go_wp2_with fail
            go_ret2
            exact xread_no HP.out
        · clear HCH
          have hlo : 48 ≤ s[k].toNat := by omega
          have hhi : s[k].toNat ≤ 57 := by omega
          clear hbad
          go_wp2_with fail
          go_round
          case rel => exact ⟨k + 1, by omega, by go_num, HDG.out ⟨hlo, hhi⟩⟩
          case measure => simp [intOf]; omega
      · obtain rfl : k = s.size := by omega
        have HP : Hid (decOk (bts s) = true) := HOK.out (fun j hj => HD.out j (by omega))
        go_wp2_with fail
        go_ret2
        exact xread_yes HP.out

theorem gXRead (s : ByteArray) (hs : s.size ≤ 9223372036854775807) : Gives 58 #[.string s] (.tuple #[.string (if decOk (bts s) then s else { data := #[48] }), .bool (decOk (bts s))]) := fun w => by
  have h : Calls Tryz.prog 58 #[.string s] w (XReadPost s w) := by
    by_cases h0 : s.size = 0 ∨ 2000 < s.size
    · exact xread_bad1 s h0 hs w
    · by_cases h1 : 1 < s.size
      · by_cases h2 : s[0].toNat = 48
        · exact xread_bad2 s h1 (by omega) h2 w
        · exact xread_loop s (by omega) (by omega) (.inr h2) w
      · exact xread_loop s (by omega) (by omega) (.inl (by omega)) w
  exact h.mono fun e w' ⟨h1, h2⟩ => ⟨h1, h2 ▸ Below.refl _ _⟩

end Go.Proofs.YtajjgfiojlagmaaGreatDoor

/- The walks of the laws' own functions (chapter 02). -/
namespace Go.Proofs.YtajjgfiojlagmaaGreatDoor
open Go.RowKit Num

end Go.Proofs.YtajjgfiojlagmaaGreatDoor

/- Values of the laws of chapter 02, and the program's numbers. -/
namespace Go.Proofs.YtajjgfiojlagmaaGreatDoor
open Go.RowKit Num

section
variable {p q : Nat × Nat} {k : Nat} (hp : Sm k p) (hq : Sm k q) (hk : k ≤ 10000) (lp : Q.Low p) (lq : Q.Low q)
include hp hq hk lp lq

end

end Go.Proofs.YtajjgfiojlagmaaGreatDoor
