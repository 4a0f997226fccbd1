/- Texts of this claim, joined: ZFns. -/
import Derived.Test.YtbacloneddnaeaaGreatP13
import Derived.Test.YtbacloneddnaeaaGreatP03

/- The walks of the reference of chapter 02. -/
namespace Go.Proofs.YtbacloneddnaeaaGreat
open Go.RowKit Num

set_option maxHeartbeats 1600000 in
set_option maxRecDepth 100000 in
theorem w_xzero  : Gives 33 #[] (.agg #[.string { data := #[48] }, .string { data := #[49] }]) := by
  intro w
  have HB0 := Lib.hid (Below.refl w.heap.size w)
  go_enter Tryz.func33, Tryz.ntmps33
  go_wp2_with (with_reducible refine wpList_from 0 [3] [] B0 (has_B0 _) ?_)
  refine lex_alloc (.agg #[.string ByteArray.empty, .string ByteArray.empty]) (by rfl) (fun x => by kernel_rfl) (fun g0 q0 hn0 => ?_)
  unfold setSlot
  go_big_quiet_step (fail)
  refine wpQuiet_nil ?_
  clear hn0
  refine lex_nil ?_
  intro w1 hx hH
  have m0 := hH g0 _ (Blocks.put_same _ _ _)
  have HB1 := Lib.hid (HB0.out.trans (hx.below_of (b := w.heap.size) (by simp) HB0.out.size))
  replace q0 := Nat.le_trans HB0.out.size q0
  clear hx hH HB0
  go_wp2_with (with_reducible refine wpList_from 1 [0, 2] [g0] _ (has_put (has_B0 _) m0) ?_)
  refine lex_quietE 1 (by kernel_rfl) (by rfl) ?_
  apply Exists.intro
  refine ⟨fun x hx => ?_, ?_⟩
  · have hwx := HB1.out.trans (hx.below_of (b := w.heap.size) (by simp [q0]) HB1.out.size)
    clear hx
    simp only [List.take_succ_cons, List.take_zero]
    unfold Cx
    repeat (go_big_quiet_step (fail))
    exact wpQuiet_nil rfl
  simp only [List.drop_succ_cons, List.drop_zero]
  refine lex_store_all g0 _ _ _ (by rfl) (by rfl) (by rfl) (Blocks.put_same _ _ _) (by rfl) (Or.inl (by simp)) (by kernel_rfl) (by simp [Value.oneCell']) ?_
  refine lex_nil ?_
  intro w2 hx hH
  replace m0 := hH g0 _ (Blocks.put_same _ _ _)
  have HB2 := Lib.hid (HB1.out.trans (hx.below_of (b := w.heap.size) (by simp [q0]) HB1.out.size))
  clear hx hH HB1
  have c0_0 := blk_cell m0 0 rfl
  have c0_1 := blk_cell m0 1 rfl
  go_wp2_with fail
  exact bodyPost_ret (v := .agg #[.string { data := #[48] }, .string { data := #[49] }]) (by simp [results, Tryz.results33, go_sem, c0_0, c0_1]) rfl ⟨rfl, HB2.out⟩

set_option maxHeartbeats 1600000 in
set_option maxRecDepth 100000 in
theorem w_xnew_z (n d : ByteArray) (hd : d.toList = [48]) (KZ : Gives 33 #[] (.agg #[.string { data := #[48] }, .string { data := #[49] }])) : Gives 66 #[.string n, .string d] (.tuple #[.agg #[.string { data := #[48] }, .string { data := #[49] }], .bool false]) := by
  intro w
  have HB0 := Lib.hid (Below.refl w.heap.size w)
  go_enter Tryz.func66, Tryz.ntmps66
  go_wp2_with (with_reducible refine wpList_from 4 [3, 0] [] B0 (has_B0 _) ?_)
  refine lex_alloc (.agg #[.string ByteArray.empty, .string ByteArray.empty]) (by rfl) (fun x => by kernel_rfl) (fun g4 q4 hn4 => ?_)
  unfold setSlot
  go_big_quiet_step (fail)
  refine wpQuiet_nil ?_
  clear hn4
  refine lex_quietE 1 (by kernel_rfl) (by rfl) ?_
  apply Exists.intro
  refine ⟨fun x hx => ?_, ?_⟩
  · have hwx := HB0.out.trans (hx.below_of (b := w.heap.size) (by simp) HB0.out.size)
    clear hx
    simp only [List.take_succ_cons, List.take_zero]
    unfold Cx
    repeat (go_big_quiet_step (fail))
    exact wpQuiet_nil rfl
  simp only [List.drop_succ_cons, List.drop_zero]
  refine lex_nil ?_
  intro w1 hx hH
  have m4 := hH g4 _ (Blocks.put_same _ _ _)
  have HB1 := Lib.hid (HB0.out.trans (hx.below_of (b := w.heap.size) (by simp) HB0.out.size))
  replace q4 := Nat.le_trans HB0.out.size q4
  clear hx hH HB0
  go_wp2_with (with_reducible refine wpList_from 15 [0, 2, 0] [g4] _ (has_put (has_B0 _) m4) ?_)
  refine lex_quietE 1 (by kernel_rfl) (by rfl) ?_
  apply Exists.intro
  refine ⟨fun x hx => ?_, ?_⟩
  · have hwx := HB1.out.trans (hx.below_of (b := w.heap.size) (by simp [q4]) HB1.out.size)
    clear hx
    simp only [List.take_succ_cons, List.take_zero]
    unfold Cx
    repeat (go_big_quiet_step (first | with_reducible exact KZ.at _ _))
    exact wpQuiet_nil rfl
  simp only [List.drop_succ_cons, List.drop_zero]
  refine lex_store_all g4 _ _ _ (by rfl) (by rfl) (by rfl) (Blocks.put_same _ _ _) (by rfl) (Or.inl (by simp)) (by kernel_rfl) (by simp [Value.oneCell']) ?_
  refine lex_quietE 1 (by kernel_rfl) (by rfl) ?_
  apply Exists.intro
  refine ⟨fun x hx => ?_, ?_⟩
  · have hwx := HB1.out.trans (hx.below_of (b := w.heap.size) (by simp [q4]) HB1.out.size)
    clear hx
    simp only [List.take_succ_cons, List.take_zero]
    unfold Cx
    repeat (go_big_quiet_step (first | with_reducible exact KZ.at _ _))
    exact wpQuiet_nil rfl
  simp only [List.drop_succ_cons, List.drop_zero]
  refine lex_nil ?_
  intro w2 hx hH
  replace m4 := hH g4 _ (Blocks.put_same _ _ _)
  have HB2 := Lib.hid (HB1.out.trans (hx.below_of (b := w.heap.size) (by simp [q4]) HB1.out.size))
  clear hx hH HB1
  have c4_0 := blk_cell m4 0 rfl
  have c4_1 := blk_cell m4 1 rfl
  go_wp2_with fail
  exact bodyPost_ret (v := .tuple #[.agg #[.string { data := #[48] }, .string { data := #[49] }], .bool false]) (by simp [results, Tryz.results66, go_sem, c4_0, c4_1]) rfl ⟨rfl, HB2.out⟩

set_option maxHeartbeats 1600000 in
set_option maxRecDepth 100000 in
theorem w_xnew_n (n d g a b r1 r2 : ByteArray) (hd : (d.toList == [48]) = false) (KG : Gives 84 #[.string n, .string d] (.string g)) (KA : Gives 85 #[.string n, .string g] (.tuple #[.string a, .string r1, .bool true])) (KB : Gives 85 #[.string d, .string g] (.tuple #[.string b, .string r2, .bool true])) : Gives 66 #[.string n, .string d] (.tuple #[.agg #[.string a, .string b], .bool true]) := by
  intro w
  have HB0 := Lib.hid (Below.refl w.heap.size w)
  go_enter Tryz.func66, Tryz.ntmps66
  go_wp2_with (with_reducible refine wpList_from 4 [3, 0] [] B0 (has_B0 _) ?_)
  refine lex_alloc (.agg #[.string ByteArray.empty, .string ByteArray.empty]) (by rfl) (fun x => by kernel_rfl) (fun g4 q4 hn4 => ?_)
  unfold setSlot
  go_big_quiet_step (fail)
  refine wpQuiet_nil ?_
  clear hn4
  refine lex_quietE 1 (by kernel_rfl) (by rfl) ?_
  apply Exists.intro
  refine ⟨fun x hx => ?_, ?_⟩
  · have hwx := HB0.out.trans (hx.below_of (b := w.heap.size) (by simp) HB0.out.size)
    clear hx
    simp only [List.take_succ_cons, List.take_zero]
    unfold Cx
    repeat (go_big_quiet_step (fail))
    exact wpQuiet_nil rfl
  simp only [List.drop_succ_cons, List.drop_zero]
  refine lex_nil ?_
  intro w1 hx hH
  have m4 := hH g4 _ (Blocks.put_same _ _ _)
  have HB1 := Lib.hid (HB0.out.trans (hx.below_of (b := w.heap.size) (by simp) HB0.out.size))
  replace q4 := Nat.le_trans HB0.out.size q4
  clear hx hH HB0
  go_wp2_with (with_reducible refine wpList_from 18 [0, 0] [] B0 (has_B0 _) ?_)
  refine lex_quietE 2 (by kernel_rfl) (by rfl) ?_
  apply Exists.intro
  refine ⟨fun x hx => ?_, ?_⟩
  · have hwx := HB1.out.trans (hx.below_of (b := w.heap.size) (by simp) HB1.out.size)
    clear hx
    simp only [List.take_succ_cons, List.take_zero]
    unfold Cx
    repeat (go_big_quiet_step (first | with_reducible exact KG.at _ _))
    exact wpQuiet_nil rfl
  simp only [List.drop_succ_cons, List.drop_zero]
  refine lex_nil ?_
  intro w2 hx hH
  replace m4 := hx.keep m4 (by simp)
  have HB2 := Lib.hid (HB1.out.trans (hx.below_of (b := w.heap.size) (by simp) HB1.out.size))
  clear hx hH HB1
  go_wp2_with (with_reducible refine wpList_from 22 [0, 0, 0, 0, 0, 0, 0, 0] [] B0 (has_B0 _) ?_)
  refine lex_quietE 8 (by kernel_rfl) (by rfl) ?_
  apply Exists.intro
  refine ⟨fun x hx => ?_, ?_⟩
  · have hwx := HB2.out.trans (hx.below_of (b := w.heap.size) (by simp) HB2.out.size)
    clear hx
    simp only [List.take_succ_cons, List.take_zero]
    unfold Cx
    repeat (go_big_quiet_step (first | with_reducible exact KA.at _ _))
    exact wpQuiet_nil rfl
  simp only [List.drop_succ_cons, List.drop_zero]
  refine lex_nil ?_
  intro w3 hx hH
  replace m4 := hx.keep m4 (by simp)
  have HB3 := Lib.hid (HB2.out.trans (hx.below_of (b := w.heap.size) (by simp) HB2.out.size))
  clear hx hH HB2
  go_wp2_with (with_reducible refine wpList_from 29 [0, 0, 0, 0, 0, 0, 0, 0] [] B0 (has_B0 _) ?_)
  refine lex_quietE 8 (by kernel_rfl) (by rfl) ?_
  apply Exists.intro
  refine ⟨fun x hx => ?_, ?_⟩
  · have hwx := HB3.out.trans (hx.below_of (b := w.heap.size) (by simp) HB3.out.size)
    clear hx
    simp only [List.take_succ_cons, List.take_zero]
    unfold Cx
    repeat (go_big_quiet_step (first | with_reducible exact KB.at _ _))
    exact wpQuiet_nil rfl
  simp only [List.drop_succ_cons, List.drop_zero]
  refine lex_nil ?_
  intro w4 hx hH
  replace m4 := hx.keep m4 (by simp)
  have HB4 := Lib.hid (HB3.out.trans (hx.below_of (b := w.heap.size) (by simp) HB3.out.size))
  clear hx hH HB3
  go_wp2_with (with_reducible refine wpList_from 35 [0, 2, 0] [g4] _ (has_put (has_B0 _) m4) ?_)
  refine lex_quietE 1 (by kernel_rfl) (by rfl) ?_
  apply Exists.intro
  refine ⟨fun x hx => ?_, ?_⟩
  · have hwx := HB4.out.trans (hx.below_of (b := w.heap.size) (by simp [q4]) HB4.out.size)
    clear hx
    simp only [List.take_succ_cons, List.take_zero]
    unfold Cx
    repeat (go_big_quiet_step (fail))
    exact wpQuiet_nil rfl
  simp only [List.drop_succ_cons, List.drop_zero]
  refine lex_store_all g4 _ _ _ (by rfl) (by rfl) (by rfl) (Blocks.put_same _ _ _) (by rfl) (Or.inl (by simp)) (by kernel_rfl) (by simp [Value.oneCell']) ?_
  refine lex_quietE 1 (by kernel_rfl) (by rfl) ?_
  apply Exists.intro
  refine ⟨fun x hx => ?_, ?_⟩
  · have hwx := HB4.out.trans (hx.below_of (b := w.heap.size) (by simp [q4]) HB4.out.size)
    clear hx
    simp only [List.take_succ_cons, List.take_zero]
    unfold Cx
    repeat (go_big_quiet_step (fail))
    exact wpQuiet_nil rfl
  simp only [List.drop_succ_cons, List.drop_zero]
  refine lex_nil ?_
  intro w5 hx hH
  replace m4 := hH g4 _ (Blocks.put_same _ _ _)
  have HB5 := Lib.hid (HB4.out.trans (hx.below_of (b := w.heap.size) (by simp [q4]) HB4.out.size))
  clear hx hH HB4
  have c4_0 := blk_cell m4 0 rfl
  have c4_1 := blk_cell m4 1 rfl
  go_wp2_with fail
  exact bodyPost_ret (v := .tuple #[.agg #[.string a, .string b], .bool true]) (by simp [results, Tryz.results66, go_sem, c4_0, c4_1]) rfl ⟨rfl, HB5.out⟩

set_option maxHeartbeats 1600000 in
set_option maxRecDepth 100000 in
theorem w_xtext1 (a b : ByteArray) (hb : b.toList = [49]) : Gives 24 #[.agg #[.string a, .string b]] (.string a) := by
  intro w
  have HB0 := Lib.hid (Below.refl w.heap.size w)
  go_enter Tryz.func24, Tryz.ntmps24
  go_wp2_with (with_reducible refine wpList_from 1 [3, 0] [] B0 (has_B0 _) ?_)
  refine lex_box_agg _ (by rfl) (by rfl) (fun g1 q1 hn1 => ?_)
  unfold setSlot
  go_big_quiet_step (fail)
  refine wpQuiet_nil ?_
  clear hn1
  refine lex_quietE 1 (by kernel_rfl) (by rfl) ?_
  apply Exists.intro
  refine ⟨fun x hx => ?_, ?_⟩
  · have hwx := HB0.out.trans (hx.below_of (b := w.heap.size) (by simp) HB0.out.size)
    clear hx
    simp only [List.take_succ_cons, List.take_zero]
    unfold Cx
    repeat (go_big_quiet_step (fail))
    exact wpQuiet_nil rfl
  simp only [List.drop_succ_cons, List.drop_zero]
  refine lex_nil ?_
  intro w1 hx hH
  have m1 := hH g1 _ (Blocks.put_same _ _ _)
  have HB1 := Lib.hid (HB0.out.trans (hx.below_of (b := w.heap.size) (by simp) HB0.out.size))
  replace q1 := Nat.le_trans HB0.out.size q1
  clear hx hH HB0
  go_wp2_with (with_reducible refine wpList_from 3 [0, 0, 0] [] B0 (has_B0 _) ?_)
  refine lex_quietE 3 (by kernel_rfl) (by rfl) ?_
  apply Exists.intro
  refine ⟨fun x hx => ?_, ?_⟩
  · have hwx := HB1.out.trans (hx.below_of (b := w.heap.size) (by simp) HB1.out.size)
    have e1_0 := blk_cellp (hx.keep m1 (by simp)) 0 rfl
    have e1_1 := blk_cellp (hx.keep m1 (by simp)) 1 rfl
    clear hx
    simp only [List.take_succ_cons, List.take_zero]
    unfold Cx
    repeat (go_big_quiet_step (fail))
    exact wpQuiet_nil rfl
  simp only [List.drop_succ_cons, List.drop_zero]
  refine lex_nil ?_
  intro w2 hx hH
  replace m1 := hx.keep m1 (by simp)
  have HB2 := Lib.hid (HB1.out.trans (hx.below_of (b := w.heap.size) (by simp) HB1.out.size))
  clear hx hH HB1
  go_wp2_with (with_reducible refine wpList_from 6 [0, 0, 0] [] B0 (has_B0 _) ?_)
  refine lex_quietE 3 (by kernel_rfl) (by rfl) ?_
  apply Exists.intro
  refine ⟨fun x hx => ?_, ?_⟩
  · have hwx := HB2.out.trans (hx.below_of (b := w.heap.size) (by simp) HB2.out.size)
    have e1_0 := blk_cellp (hx.keep m1 (by simp)) 0 rfl
    have e1_1 := blk_cellp (hx.keep m1 (by simp)) 1 rfl
    clear hx
    simp only [List.take_succ_cons, List.take_zero]
    unfold Cx
    repeat (go_big_quiet_step (fail))
    exact wpQuiet_nil rfl
  simp only [List.drop_succ_cons, List.drop_zero]
  refine lex_nil ?_
  intro w3 hx hH
  have HB3 := Lib.hid (HB2.out.trans (hx.below_of (b := w.heap.size) (by simp) HB2.out.size))
  clear hx hH HB2 m1 q1
  go_wp2_with fail
  exact bodyPost_ret (v := .string a) (by simp [results, Tryz.results24, go_sem]) rfl ⟨rfl, HB3.out⟩

set_option maxHeartbeats 1600000 in
set_option maxRecDepth 100000 in
theorem w_xtext2 (a b : ByteArray) (hb : (b.toList == [49]) = false) (h1 : a.size ≤ 100000000000) (h2 : b.size ≤ 100000000000) : Gives 24 #[.agg #[.string a, .string b]] (.string (a ++ { data := #[47] } ++ b)) := by
  intro w
  have HB0 := Lib.hid (Below.refl w.heap.size w)
  go_enter Tryz.func24, Tryz.ntmps24
  go_wp2_with (with_reducible refine wpList_from 1 [3, 0] [] B0 (has_B0 _) ?_)
  refine lex_box_agg _ (by rfl) (by rfl) (fun g1 q1 hn1 => ?_)
  unfold setSlot
  go_big_quiet_step (fail)
  refine wpQuiet_nil ?_
  clear hn1
  refine lex_quietE 1 (by kernel_rfl) (by rfl) ?_
  apply Exists.intro
  refine ⟨fun x hx => ?_, ?_⟩
  · have hwx := HB0.out.trans (hx.below_of (b := w.heap.size) (by simp) HB0.out.size)
    clear hx
    simp only [List.take_succ_cons, List.take_zero]
    unfold Cx
    repeat (go_big_quiet_step (fail))
    exact wpQuiet_nil rfl
  simp only [List.drop_succ_cons, List.drop_zero]
  refine lex_nil ?_
  intro w1 hx hH
  have m1 := hH g1 _ (Blocks.put_same _ _ _)
  have HB1 := Lib.hid (HB0.out.trans (hx.below_of (b := w.heap.size) (by simp) HB0.out.size))
  replace q1 := Nat.le_trans HB0.out.size q1
  clear hx hH HB0
  go_wp2_with (with_reducible refine wpList_from 3 [0, 0, 0] [] B0 (has_B0 _) ?_)
  refine lex_quietE 3 (by kernel_rfl) (by rfl) ?_
  apply Exists.intro
  refine ⟨fun x hx => ?_, ?_⟩
  · have hwx := HB1.out.trans (hx.below_of (b := w.heap.size) (by simp) HB1.out.size)
    have e1_0 := blk_cellp (hx.keep m1 (by simp)) 0 rfl
    have e1_1 := blk_cellp (hx.keep m1 (by simp)) 1 rfl
    clear hx
    simp only [List.take_succ_cons, List.take_zero]
    unfold Cx
    repeat (go_big_quiet_step (fail))
    exact wpQuiet_nil rfl
  simp only [List.drop_succ_cons, List.drop_zero]
  refine lex_nil ?_
  intro w2 hx hH
  replace m1 := hx.keep m1 (by simp)
  have HB2 := Lib.hid (HB1.out.trans (hx.below_of (b := w.heap.size) (by simp) HB1.out.size))
  clear hx hH HB1
  go_wp2_with (with_reducible refine wpList_from 8 [0, 0, 0, 0, 0, 0, 0] [] B0 (has_B0 _) ?_)
  refine lex_quietE 7 (by kernel_rfl) (by rfl) ?_
  apply Exists.intro
  refine ⟨fun x hx => ?_, ?_⟩
  · have hwx := HB2.out.trans (hx.below_of (b := w.heap.size) (by simp) HB2.out.size)
    have e1_0 := blk_cellp (hx.keep m1 (by simp)) 0 rfl
    have e1_1 := blk_cellp (hx.keep m1 (by simp)) 1 rfl
    clear hx
    simp only [List.take_succ_cons, List.take_zero]
    unfold Cx
    repeat (go_big_quiet_step (fail))
    exact wpQuiet_nil rfl
  simp only [List.drop_succ_cons, List.drop_zero]
  refine lex_nil ?_
  intro w3 hx hH
  have HB3 := Lib.hid (HB2.out.trans (hx.below_of (b := w.heap.size) (by simp) HB2.out.size))
  clear hx hH HB2 m1 q1
  go_wp2_with fail
  exact bodyPost_ret (v := .string (a ++ { data := #[47] } ++ b)) (by simp [results, Tryz.results24, go_sem]) rfl ⟨rfl, HB3.out⟩

set_option maxHeartbeats 1600000 in
set_option maxRecDepth 100000 in
theorem w_over (a1 a2 b1 b2 p q e : ByteArray) (K1 : Gives 68 #[.string a1, .string b2] (.string p)) (K2 : Gives 68 #[.string b1, .string a2] (.string q)) (K3 : Gives 68 #[.string a2, .string b2] (.string e)) : Gives 65 #[.agg #[.string a1, .string a2], .agg #[.string b1, .string b2]] (.tuple #[.string p, .string q, .string e]) := by
  intro w
  have HB0 := Lib.hid (Below.refl w.heap.size w)
  go_enter Tryz.func65, Tryz.ntmps65
  go_wp2_with (with_reducible refine wpList_from 2 [3, 3, 0, 0, 0] [] B0 (has_B0 _) ?_)
  refine lex_box_agg _ (by rfl) (by rfl) (fun g2 q2 hn2 => ?_)
  unfold setSlot
  go_big_quiet_step (fail)
  refine wpQuiet_nil ?_
  clear hn2
  refine lex_box_agg _ (by rfl) (by rfl) (fun g3 q3 hn3 => ?_)
  unfold setSlot
  go_big_quiet_step (fail)
  refine wpQuiet_nil ?_
  have n3_2 := ne_of_put hn3
  replace hn3 := none_of_put hn3
  clear hn3
  refine lex_quietE 3 (by kernel_rfl) (by rfl) ?_
  apply Exists.intro
  refine ⟨fun x hx => ?_, ?_⟩
  · have hwx := HB0.out.trans (hx.below_of (b := w.heap.size) (by simp) HB0.out.size)
    clear hx
    simp only [List.take_succ_cons, List.take_zero]
    unfold Cx
    repeat (go_big_quiet_step (fail))
    exact wpQuiet_nil rfl
  simp only [List.drop_succ_cons, List.drop_zero]
  refine lex_nil ?_
  intro w1 hx hH
  have m2 := hH g2 _ ((Blocks.put_other _ _ (Ne.symm n3_2)).trans (Blocks.put_same _ _ _))
  have m3 := hH g3 _ (Blocks.put_same _ _ _)
  have HB1 := Lib.hid (HB0.out.trans (hx.below_of (b := w.heap.size) (by simp) HB0.out.size))
  replace q2 := Nat.le_trans HB0.out.size q2
  replace q3 := Nat.le_trans HB0.out.size q3
  clear hx hH HB0
  go_wp2_with fail
  refine wp_game [0, 0, 0, 0, 0, 0, 0, 0, 0, 0, 0, 0, 0, 0, 0, 0, 0, 0] [] B0 fin_B0 (has_B0 _) (by kernel_rfl) (by kernel_rfl) ?_
  refine lex_quietE 18 (by kernel_rfl) (by rfl) ?_
  apply Exists.intro
  refine ⟨fun x hx => ?_, ?_⟩
  · have hwx := HB1.out.trans (hx.below_of (b := w.heap.size) (by simp) HB1.out.size)
    have e2_0 := blk_cellp (hx.keep m2 (by simp)) 0 rfl
    have e2_1 := blk_cellp (hx.keep m2 (by simp)) 1 rfl
    have e3_0 := blk_cellp (hx.keep m3 (by simp)) 0 rfl
    have e3_1 := blk_cellp (hx.keep m3 (by simp)) 1 rfl
    clear hx
    simp only [List.take_succ_cons, List.take_zero]
    unfold Cx
    repeat (go_big_quiet_step (first | with_reducible exact K1.at _ _ | with_reducible exact K2.at _ _ | with_reducible exact K3.at _ _))
    exact wpQuiet_nil rfl
  simp only [List.drop_succ_cons, List.drop_zero]
  refine lex_nil ?_
  intro w2 hx hH
  have HB2 := Lib.hid (HB1.out.trans (hx.below_of (b := w.heap.size) (by simp) HB1.out.size))
  clear hx hH HB1 m2 m3 q2 q3
  go_wp2_with fail
  exact bodyPost_ret (v := .tuple #[.string p, .string q, .string e]) (by simp [results, Tryz.results65, go_sem]) rfl ⟨rfl, HB2.out⟩

set_option maxHeartbeats 1600000 in
set_option maxRecDepth 100000 in
theorem w_xadd (a1 a2 b1 b2 p q e s u v : ByteArray) (ok : Bool) (KO : Gives 65 #[.agg #[.string a1, .string a2], .agg #[.string b1, .string b2]] (.tuple #[.string p, .string q, .string e])) (KA : Gives 67 #[.string p, .string q] (.string s)) (KN : Gives 66 #[.string s, .string e] (.tuple #[.agg #[.string u, .string v], .bool ok])) : Gives 34 #[.agg #[.string a1, .string a2], .agg #[.string b1, .string b2]] (.agg #[.string u, .string v]) := by
  intro w
  have HB0 := Lib.hid (Below.refl w.heap.size w)
  go_enter Tryz.func34, Tryz.ntmps34
  go_wp2_with (with_reducible refine wpList_from 2 [3, 3, 3] [] B0 (has_B0 _) ?_)
  refine lex_box_agg _ (by rfl) (by rfl) (fun g2 q2 hn2 => ?_)
  unfold setSlot
  go_big_quiet_step (fail)
  refine wpQuiet_nil ?_
  clear hn2
  refine lex_box_agg _ (by rfl) (by rfl) (fun g3 q3 hn3 => ?_)
  unfold setSlot
  go_big_quiet_step (fail)
  refine wpQuiet_nil ?_
  have n3_2 := ne_of_put hn3
  replace hn3 := none_of_put hn3
  clear hn3
  refine lex_alloc (.agg #[.string ByteArray.empty, .string ByteArray.empty]) (by rfl) (fun x => by kernel_rfl) (fun g4 q4 hn4 => ?_)
  unfold setSlot
  go_big_quiet_step (fail)
  refine wpQuiet_nil ?_
  have n4_3 := ne_of_put hn4
  replace hn4 := none_of_put hn4
  have n4_2 := ne_of_put hn4
  replace hn4 := none_of_put hn4
  clear hn4
  refine lex_nil ?_
  intro w1 hx hH
  have m2 := hH g2 _ ((Blocks.put_other _ _ (Ne.symm n4_2)).trans ((Blocks.put_other _ _ (Ne.symm n3_2)).trans (Blocks.put_same _ _ _)))
  have m3 := hH g3 _ ((Blocks.put_other _ _ (Ne.symm n4_3)).trans (Blocks.put_same _ _ _))
  have m4 := hH g4 _ (Blocks.put_same _ _ _)
  have HB1 := Lib.hid (HB0.out.trans (hx.below_of (b := w.heap.size) (by simp) HB0.out.size))
  replace q2 := Nat.le_trans HB0.out.size q2
  replace q3 := Nat.le_trans HB0.out.size q3
  replace q4 := Nat.le_trans HB0.out.size q4
  clear hx hH HB0
  go_wp2_with (with_reducible refine wpList_from 11 [0, 0, 0, 0, 0, 0, 0, 0, 0, 0] [] B0 (has_B0 _) ?_)
  refine lex_quietE 10 (by kernel_rfl) (by rfl) ?_
  apply Exists.intro
  refine ⟨fun x hx => ?_, ?_⟩
  · have hwx := HB1.out.trans (hx.below_of (b := w.heap.size) (by simp) HB1.out.size)
    have e2_0 := blk_cellp (hx.keep m2 (by simp)) 0 rfl
    have e2_1 := blk_cellp (hx.keep m2 (by simp)) 1 rfl
    have e3_0 := blk_cellp (hx.keep m3 (by simp)) 0 rfl
    have e3_1 := blk_cellp (hx.keep m3 (by simp)) 1 rfl
    clear hx
    simp only [List.take_succ_cons, List.take_zero]
    unfold Cx
    repeat (go_big_quiet_step (first | with_reducible exact KO.at _ _))
    exact wpQuiet_nil rfl
  simp only [List.drop_succ_cons, List.drop_zero]
  refine lex_nil ?_
  intro w2 hx hH
  replace m4 := hx.keep m4 (by simp)
  have HB2 := Lib.hid (HB1.out.trans (hx.below_of (b := w.heap.size) (by simp) HB1.out.size))
  clear hx hH HB1 m2 m3 q2 q3
  go_wp2_with (with_reducible refine wpList_from 20 [0, 0, 0, 0, 0, 0, 3, 2, 0] [] B0 (has_B0 _) ?_)
  refine lex_quietE 6 (by kernel_rfl) (by rfl) ?_
  apply Exists.intro
  refine ⟨fun x hx => ?_, ?_⟩
  · have hwx := HB2.out.trans (hx.below_of (b := w.heap.size) (by simp) HB2.out.size)
    clear hx
    simp only [List.take_succ_cons, List.take_zero]
    unfold Cx
    repeat (go_big_quiet_step (first | with_reducible exact KA.at _ _ | with_reducible exact KN.at _ _))
    exact wpQuiet_nil rfl
  simp only [List.drop_succ_cons, List.drop_zero]
  refine lex_alloc (.agg #[.string ByteArray.empty, .string ByteArray.empty]) (by rfl) (fun x => by kernel_rfl) (fun g8 q8 hn8 => ?_)
  unfold setSlot
  go_big_quiet_step (fail)
  refine wpQuiet_nil ?_
  clear hn8
  have n8_4 : g8 ≠ g4 := Nat.ne_of_gt (Nat.lt_of_lt_of_le (lt_of_heap m4) q8)
  refine lex_store_all g8 _ _ _ (by rfl) (by rfl) (by rfl) (Blocks.put_same _ _ _) (by rfl) (Or.inr q8) (by kernel_rfl) (by simp [Value.oneCell']) ?_
  refine lex_quietE 1 (by kernel_rfl) (by rfl) ?_
  apply Exists.intro
  refine ⟨fun x hx => ?_, ?_⟩
  · have hwx := HB2.out.trans (hx.below_of (b := w.heap.size) (by simp) HB2.out.size)
    clear hx
    simp only [List.take_succ_cons, List.take_zero]
    unfold Cx
    repeat (go_big_quiet_step (first | with_reducible exact KA.at _ _ | with_reducible exact KN.at _ _))
    exact wpQuiet_nil rfl
  simp only [List.drop_succ_cons, List.drop_zero]
  refine lex_nil ?_
  intro w3 hx hH
  have m8 := hH g8 _ (Blocks.put_same _ _ _)
  replace m4 := hx.keep m4 (by simp)
  have HB3 := Lib.hid (HB2.out.trans (hx.below_of (b := w.heap.size) (by simp) HB2.out.size))
  replace q8 := Nat.le_trans HB2.out.size q8
  clear hx hH HB2
  go_wp2_with (with_reducible refine wpList_from 25 [0, 2] [g4] _ (has_put (has_B0 _) m4) ?_)
  refine lex_quietE 1 (by kernel_rfl) (by rfl) ?_
  apply Exists.intro
  refine ⟨fun x hx => ?_, ?_⟩
  · have hwx := HB3.out.trans (hx.below_of (b := w.heap.size) (by simp [q4]) HB3.out.size)
    have e8_0 := blk_cellp (hx.keep m8 (by simp [n8_4])) 0 rfl
    have e8_1 := blk_cellp (hx.keep m8 (by simp [n8_4])) 1 rfl
    clear hx
    simp only [List.take_succ_cons, List.take_zero]
    unfold Cx
    repeat (go_big_quiet_step (fail))
    exact wpQuiet_nil rfl
  simp only [List.drop_succ_cons, List.drop_zero]
  refine lex_store_all g4 _ _ _ (by rfl) (by rfl) (by rfl) (Blocks.put_same _ _ _) (by rfl) (Or.inl (by simp)) (by kernel_rfl) (by simp [Value.oneCell']) ?_
  refine lex_nil ?_
  intro w4 hx hH
  replace m4 := hH g4 _ (Blocks.put_same _ _ _)
  have HB4 := Lib.hid (HB3.out.trans (hx.below_of (b := w.heap.size) (by simp [q4]) HB3.out.size))
  clear hx hH HB3 m8 q8
  have c4_0 := blk_cell m4 0 rfl
  have c4_1 := blk_cell m4 1 rfl
  go_wp2_with fail
  exact bodyPost_ret (v := .agg #[.string u, .string v]) (by simp [results, Tryz.results34, go_sem, c4_0, c4_1]) rfl ⟨rfl, HB4.out⟩

set_option maxHeartbeats 1600000 in
set_option maxRecDepth 100000 in
theorem w_xcmp (a1 a2 b1 b2 p q e : ByteArray) (k : Int) (KO : Gives 65 #[.agg #[.string a1, .string a2], .agg #[.string b1, .string b2]] (.tuple #[.string p, .string q, .string e])) (KC : Gives 94 #[.string p, .string q] (.int .i64 k)) : Gives 79 #[.agg #[.string a1, .string a2], .agg #[.string b1, .string b2]] (.int .i64 k) := by
  intro w
  have HB0 := Lib.hid (Below.refl w.heap.size w)
  go_enter Tryz.func79, Tryz.ntmps79
  go_wp2_with (with_reducible refine wpList_from 2 [3, 3, 0] [] B0 (has_B0 _) ?_)
  refine lex_box_agg _ (by rfl) (by rfl) (fun g2 q2 hn2 => ?_)
  unfold setSlot
  go_big_quiet_step (fail)
  refine wpQuiet_nil ?_
  clear hn2
  refine lex_box_agg _ (by rfl) (by rfl) (fun g3 q3 hn3 => ?_)
  unfold setSlot
  go_big_quiet_step (fail)
  refine wpQuiet_nil ?_
  have n3_2 := ne_of_put hn3
  replace hn3 := none_of_put hn3
  clear hn3
  refine lex_quietE 1 (by kernel_rfl) (by rfl) ?_
  apply Exists.intro
  refine ⟨fun x hx => ?_, ?_⟩
  · have hwx := HB0.out.trans (hx.below_of (b := w.heap.size) (by simp) HB0.out.size)
    clear hx
    simp only [List.take_succ_cons, List.take_zero]
    unfold Cx
    repeat (go_big_quiet_step (fail))
    exact wpQuiet_nil rfl
  simp only [List.drop_succ_cons, List.drop_zero]
  refine lex_nil ?_
  intro w1 hx hH
  have m2 := hH g2 _ ((Blocks.put_other _ _ (Ne.symm n3_2)).trans (Blocks.put_same _ _ _))
  have m3 := hH g3 _ (Blocks.put_same _ _ _)
  have HB1 := Lib.hid (HB0.out.trans (hx.below_of (b := w.heap.size) (by simp) HB0.out.size))
  replace q2 := Nat.le_trans HB0.out.size q2
  replace q3 := Nat.le_trans HB0.out.size q3
  clear hx hH HB0
  go_wp2_with (with_reducible refine wpList_from 9 [0, 0, 0, 0, 0, 0, 0, 0, 0, 0] [] B0 (has_B0 _) ?_)
  refine lex_quietE 10 (by kernel_rfl) (by rfl) ?_
  apply Exists.intro
  refine ⟨fun x hx => ?_, ?_⟩
  · have hwx := HB1.out.trans (hx.below_of (b := w.heap.size) (by simp) HB1.out.size)
    have e2_0 := blk_cellp (hx.keep m2 (by simp)) 0 rfl
    have e2_1 := blk_cellp (hx.keep m2 (by simp)) 1 rfl
    have e3_0 := blk_cellp (hx.keep m3 (by simp)) 0 rfl
    have e3_1 := blk_cellp (hx.keep m3 (by simp)) 1 rfl
    clear hx
    simp only [List.take_succ_cons, List.take_zero]
    unfold Cx
    repeat (go_big_quiet_step (first | with_reducible exact KO.at _ _))
    exact wpQuiet_nil rfl
  simp only [List.drop_succ_cons, List.drop_zero]
  refine lex_nil ?_
  intro w2 hx hH
  have HB2 := Lib.hid (HB1.out.trans (hx.below_of (b := w.heap.size) (by simp) HB1.out.size))
  clear hx hH HB1 m2 m3 q2 q3
  go_wp2_with (with_reducible refine wpList_from 17 [0, 0] [] B0 (has_B0 _) ?_)
  refine lex_quietE 2 (by kernel_rfl) (by rfl) ?_
  apply Exists.intro
  refine ⟨fun x hx => ?_, ?_⟩
  · have hwx := HB2.out.trans (hx.below_of (b := w.heap.size) (by simp) HB2.out.size)
    clear hx
    simp only [List.take_succ_cons, List.take_zero]
    unfold Cx
    repeat (go_big_quiet_step (first | with_reducible exact KC.at _ _))
    exact wpQuiet_nil rfl
  simp only [List.drop_succ_cons, List.drop_zero]
  refine lex_nil ?_
  intro w3 hx hH
  have HB3 := Lib.hid (HB2.out.trans (hx.below_of (b := w.heap.size) (by simp) HB2.out.size))
  clear hx hH HB2
  go_wp2_with fail
  exact bodyPost_ret (v := .int .i64 k) (by simp [results, Tryz.results79, go_sem]) rfl ⟨rfl, HB3.out⟩

set_option maxHeartbeats 1600000 in
set_option maxRecDepth 100000 in
theorem w_xmul (a1 a2 b1 b2 p q u v : ByteArray) (ok : Bool) (K1 : Gives 68 #[.string a1, .string b1] (.string p)) (K2 : Gives 68 #[.string a2, .string b2] (.string q)) (KN : Gives 66 #[.string p, .string q] (.tuple #[.agg #[.string u, .string v], .bool ok])) : Gives 81 #[.agg #[.string a1, .string a2], .agg #[.string b1, .string b2]] (.agg #[.string u, .string v]) := by
  intro w
  have HB0 := Lib.hid (Below.refl w.heap.size w)
  go_enter Tryz.func81, Tryz.ntmps81
  go_wp2_with (with_reducible refine wpList_from 2 [3, 3, 3] [] B0 (has_B0 _) ?_)
  refine lex_box_agg _ (by rfl) (by rfl) (fun g2 q2 hn2 => ?_)
  unfold setSlot
  go_big_quiet_step (fail)
  refine wpQuiet_nil ?_
  clear hn2
  refine lex_box_agg _ (by rfl) (by rfl) (fun g3 q3 hn3 => ?_)
  unfold setSlot
  go_big_quiet_step (fail)
  refine wpQuiet_nil ?_
  have n3_2 := ne_of_put hn3
  replace hn3 := none_of_put hn3
  clear hn3
  refine lex_alloc (.agg #[.string ByteArray.empty, .string ByteArray.empty]) (by rfl) (fun x => by kernel_rfl) (fun g4 q4 hn4 => ?_)
  unfold setSlot
  go_big_quiet_step (fail)
  refine wpQuiet_nil ?_
  have n4_3 := ne_of_put hn4
  replace hn4 := none_of_put hn4
  have n4_2 := ne_of_put hn4
  replace hn4 := none_of_put hn4
  clear hn4
  refine lex_nil ?_
  intro w1 hx hH
  have m2 := hH g2 _ ((Blocks.put_other _ _ (Ne.symm n4_2)).trans ((Blocks.put_other _ _ (Ne.symm n3_2)).trans (Blocks.put_same _ _ _)))
  have m3 := hH g3 _ ((Blocks.put_other _ _ (Ne.symm n4_3)).trans (Blocks.put_same _ _ _))
  have m4 := hH g4 _ (Blocks.put_same _ _ _)
  have HB1 := Lib.hid (HB0.out.trans (hx.below_of (b := w.heap.size) (by simp) HB0.out.size))
  replace q2 := Nat.le_trans HB0.out.size q2
  replace q3 := Nat.le_trans HB0.out.size q3
  replace q4 := Nat.le_trans HB0.out.size q4
  clear hx hH HB0
  go_wp2_with fail
  refine wp_game [0, 0, 0, 0, 0, 0, 0, 0, 0, 0, 0, 0, 0, 0, 3, 2, 0] [] B0 fin_B0 (has_B0 _) (by kernel_rfl) (by kernel_rfl) ?_
  refine lex_quietE 14 (by kernel_rfl) (by rfl) ?_
  apply Exists.intro
  refine ⟨fun x hx => ?_, ?_⟩
  · have hwx := HB1.out.trans (hx.below_of (b := w.heap.size) (by simp) HB1.out.size)
    have e2_0 := blk_cellp (hx.keep m2 (by simp)) 0 rfl
    have e2_1 := blk_cellp (hx.keep m2 (by simp)) 1 rfl
    have e3_0 := blk_cellp (hx.keep m3 (by simp)) 0 rfl
    have e3_1 := blk_cellp (hx.keep m3 (by simp)) 1 rfl
    clear hx
    simp only [List.take_succ_cons, List.take_zero]
    unfold Cx
    repeat (go_big_quiet_step (first | with_reducible exact K1.at _ _ | with_reducible exact K2.at _ _ | with_reducible exact KN.at _ _))
    exact wpQuiet_nil rfl
  simp only [List.drop_succ_cons, List.drop_zero]
  refine lex_alloc (.agg #[.string ByteArray.empty, .string ByteArray.empty]) (by rfl) (fun x => by kernel_rfl) (fun g5 q5 hn5 => ?_)
  unfold setSlot
  go_big_quiet_step (fail)
  refine wpQuiet_nil ?_
  clear hn5
  have n5_2 : g5 ≠ g2 := Nat.ne_of_gt (Nat.lt_of_lt_of_le (lt_of_heap m2) q5)
  have n5_3 : g5 ≠ g3 := Nat.ne_of_gt (Nat.lt_of_lt_of_le (lt_of_heap m3) q5)
  have n5_4 : g5 ≠ g4 := Nat.ne_of_gt (Nat.lt_of_lt_of_le (lt_of_heap m4) q5)
  refine lex_store_all g5 _ _ _ (by rfl) (by rfl) (by rfl) (Blocks.put_same _ _ _) (by rfl) (Or.inr q5) (by kernel_rfl) (by simp [Value.oneCell']) ?_
  refine lex_quietE 1 (by kernel_rfl) (by rfl) ?_
  apply Exists.intro
  refine ⟨fun x hx => ?_, ?_⟩
  · have hwx := HB1.out.trans (hx.below_of (b := w.heap.size) (by simp) HB1.out.size)
    have e2_0 := blk_cellp (hx.keep m2 (by simp)) 0 rfl
    have e2_1 := blk_cellp (hx.keep m2 (by simp)) 1 rfl
    have e3_0 := blk_cellp (hx.keep m3 (by simp)) 0 rfl
    have e3_1 := blk_cellp (hx.keep m3 (by simp)) 1 rfl
    clear hx
    simp only [List.take_succ_cons, List.take_zero]
    unfold Cx
    repeat (go_big_quiet_step (first | with_reducible exact K1.at _ _ | with_reducible exact K2.at _ _ | with_reducible exact KN.at _ _))
    exact wpQuiet_nil rfl
  simp only [List.drop_succ_cons, List.drop_zero]
  refine lex_nil ?_
  intro w2 hx hH
  have m5 := hH g5 _ (Blocks.put_same _ _ _)
  replace m4 := hx.keep m4 (by simp)
  have HB2 := Lib.hid (HB1.out.trans (hx.below_of (b := w.heap.size) (by simp) HB1.out.size))
  replace q5 := Nat.le_trans HB1.out.size q5
  clear hx hH HB1 m2 m3 q2 q3
  go_wp2_with (with_reducible refine wpList_from 21 [0, 2] [g4] _ (has_put (has_B0 _) m4) ?_)
  refine lex_quietE 1 (by kernel_rfl) (by rfl) ?_
  apply Exists.intro
  refine ⟨fun x hx => ?_, ?_⟩
  · have hwx := HB2.out.trans (hx.below_of (b := w.heap.size) (by simp [q4]) HB2.out.size)
    have e5_0 := blk_cellp (hx.keep m5 (by simp [n5_4])) 0 rfl
    have e5_1 := blk_cellp (hx.keep m5 (by simp [n5_4])) 1 rfl
    clear hx
    simp only [List.take_succ_cons, List.take_zero]
    unfold Cx
    repeat (go_big_quiet_step (fail))
    exact wpQuiet_nil rfl
  simp only [List.drop_succ_cons, List.drop_zero]
  refine lex_store_all g4 _ _ _ (by rfl) (by rfl) (by rfl) (Blocks.put_same _ _ _) (by rfl) (Or.inl (by simp)) (by kernel_rfl) (by simp [Value.oneCell']) ?_
  refine lex_nil ?_
  intro w3 hx hH
  replace m4 := hH g4 _ (Blocks.put_same _ _ _)
  have HB3 := Lib.hid (HB2.out.trans (hx.below_of (b := w.heap.size) (by simp [q4]) HB2.out.size))
  clear hx hH HB2 m5 q5
  have c4_0 := blk_cell m4 0 rfl
  have c4_1 := blk_cell m4 1 rfl
  go_wp2_with fail
  exact bodyPost_ret (v := .agg #[.string u, .string v]) (by simp [results, Tryz.results81, go_sem, c4_0, c4_1]) rfl ⟨rfl, HB3.out⟩

set_option maxHeartbeats 1600000 in
set_option maxRecDepth 100000 in
theorem w_xdiv_z (a1 a2 b1 b2 : ByteArray) (hb : b1.toList = [48]) (KZ : Gives 33 #[] (.agg #[.string { data := #[48] }, .string { data := #[49] }])) : Gives 35 #[.agg #[.string a1, .string a2], .agg #[.string b1, .string b2]] (.tuple #[.agg #[.string { data := #[48] }, .string { data := #[49] }], .bool false]) := by
  intro w
  have HB0 := Lib.hid (Below.refl w.heap.size w)
  go_enter Tryz.func35, Tryz.ntmps35
  go_wp2_with (with_reducible refine wpList_from 2 [3, 3, 3, 0] [] B0 (has_B0 _) ?_)
  refine lex_box_agg _ (by rfl) (by rfl) (fun g2 q2 hn2 => ?_)
  unfold setSlot
  go_big_quiet_step (fail)
  refine wpQuiet_nil ?_
  clear hn2
  refine lex_box_agg _ (by rfl) (by rfl) (fun g3 q3 hn3 => ?_)
  unfold setSlot
  go_big_quiet_step (fail)
  refine wpQuiet_nil ?_
  have n3_2 := ne_of_put hn3
  replace hn3 := none_of_put hn3
  clear hn3
  refine lex_alloc (.agg #[.string ByteArray.empty, .string ByteArray.empty]) (by rfl) (fun x => by kernel_rfl) (fun g4 q4 hn4 => ?_)
  unfold setSlot
  go_big_quiet_step (fail)
  refine wpQuiet_nil ?_
  have n4_3 := ne_of_put hn4
  replace hn4 := none_of_put hn4
  have n4_2 := ne_of_put hn4
  replace hn4 := none_of_put hn4
  clear hn4
  refine lex_quietE 1 (by kernel_rfl) (by rfl) ?_
  apply Exists.intro
  refine ⟨fun x hx => ?_, ?_⟩
  · have hwx := HB0.out.trans (hx.below_of (b := w.heap.size) (by simp) HB0.out.size)
    clear hx
    simp only [List.take_succ_cons, List.take_zero]
    unfold Cx
    repeat (go_big_quiet_step (fail))
    exact wpQuiet_nil rfl
  simp only [List.drop_succ_cons, List.drop_zero]
  refine lex_nil ?_
  intro w1 hx hH
  have m2 := hH g2 _ ((Blocks.put_other _ _ (Ne.symm n4_2)).trans ((Blocks.put_other _ _ (Ne.symm n3_2)).trans (Blocks.put_same _ _ _)))
  have m3 := hH g3 _ ((Blocks.put_other _ _ (Ne.symm n4_3)).trans (Blocks.put_same _ _ _))
  have m4 := hH g4 _ (Blocks.put_same _ _ _)
  have HB1 := Lib.hid (HB0.out.trans (hx.below_of (b := w.heap.size) (by simp) HB0.out.size))
  replace q2 := Nat.le_trans HB0.out.size q2
  replace q3 := Nat.le_trans HB0.out.size q3
  replace q4 := Nat.le_trans HB0.out.size q4
  clear hx hH HB0
  go_wp2_with (with_reducible refine wpList_from 6 [0, 0, 0] [] B0 (has_B0 _) ?_)
  refine lex_quietE 3 (by kernel_rfl) (by rfl) ?_
  apply Exists.intro
  refine ⟨fun x hx => ?_, ?_⟩
  · have hwx := HB1.out.trans (hx.below_of (b := w.heap.size) (by simp) HB1.out.size)
    have e3_0 := blk_cellp (hx.keep m3 (by simp)) 0 rfl
    have e3_1 := blk_cellp (hx.keep m3 (by simp)) 1 rfl
    clear hx
    simp only [List.take_succ_cons, List.take_zero]
    unfold Cx
    repeat (go_big_quiet_step (fail))
    exact wpQuiet_nil rfl
  simp only [List.drop_succ_cons, List.drop_zero]
  refine lex_nil ?_
  intro w2 hx hH
  replace m2 := hx.keep m2 (by simp)
  replace m3 := hx.keep m3 (by simp)
  replace m4 := hx.keep m4 (by simp)
  have HB2 := Lib.hid (HB1.out.trans (hx.below_of (b := w.heap.size) (by simp) HB1.out.size))
  clear hx hH HB1
  go_wp2_with (with_reducible refine wpList_from 9 [0, 2, 0] [g4] _ (has_put (has_B0 _) m4) ?_)
  refine lex_quietE 1 (by kernel_rfl) (by rfl) ?_
  apply Exists.intro
  refine ⟨fun x hx => ?_, ?_⟩
  · have hwx := HB2.out.trans (hx.below_of (b := w.heap.size) (by simp [q4]) HB2.out.size)
    clear hx
    simp only [List.take_succ_cons, List.take_zero]
    unfold Cx
    repeat (go_big_quiet_step (first | with_reducible exact KZ.at _ _))
    exact wpQuiet_nil rfl
  simp only [List.drop_succ_cons, List.drop_zero]
  refine lex_store_all g4 _ _ _ (by rfl) (by rfl) (by rfl) (Blocks.put_same _ _ _) (by rfl) (Or.inl (by simp)) (by kernel_rfl) (by simp [Value.oneCell']) ?_
  refine lex_quietE 1 (by kernel_rfl) (by rfl) ?_
  apply Exists.intro
  refine ⟨fun x hx => ?_, ?_⟩
  · have hwx := HB2.out.trans (hx.below_of (b := w.heap.size) (by simp [q4]) HB2.out.size)
    clear hx
    simp only [List.take_succ_cons, List.take_zero]
    unfold Cx
    repeat (go_big_quiet_step (first | with_reducible exact KZ.at _ _))
    exact wpQuiet_nil rfl
  simp only [List.drop_succ_cons, List.drop_zero]
  refine lex_nil ?_
  intro w3 hx hH
  replace m4 := hH g4 _ (Blocks.put_same _ _ _)
  have HB3 := Lib.hid (HB2.out.trans (hx.below_of (b := w.heap.size) (by simp [q4]) HB2.out.size))
  clear hx hH HB2 m2 m3 q2 q3
  have c4_0 := blk_cell m4 0 rfl
  have c4_1 := blk_cell m4 1 rfl
  go_wp2_with fail
  exact bodyPost_ret (v := .tuple #[.agg #[.string { data := #[48] }, .string { data := #[49] }], .bool false]) (by simp [results, Tryz.results35, go_sem, c4_0, c4_1]) rfl ⟨rfl, HB3.out⟩

set_option maxHeartbeats 1600000 in
set_option maxRecDepth 100000 in
theorem w_xdiv_n (a1 a2 b1 b2 p q u v : ByteArray) (ok : Bool) (hb : (b1.toList == [48]) = false) (K1 : Gives 68 #[.string a1, .string b2] (.string p)) (K2 : Gives 68 #[.string a2, .string b1] (.string q)) (KN : Gives 66 #[.string p, .string q] (.tuple #[.agg #[.string u, .string v], .bool ok])) : Gives 35 #[.agg #[.string a1, .string a2], .agg #[.string b1, .string b2]] (.tuple #[.agg #[.string u, .string v], .bool ok]) := by
  intro w
  have HB0 := Lib.hid (Below.refl w.heap.size w)
  go_enter Tryz.func35, Tryz.ntmps35
  go_wp2_with (with_reducible refine wpList_from 2 [3, 3, 3, 0] [] B0 (has_B0 _) ?_)
  refine lex_box_agg _ (by rfl) (by rfl) (fun g2 q2 hn2 => ?_)
  unfold setSlot
  go_big_quiet_step (fail)
  refine wpQuiet_nil ?_
  clear hn2
  refine lex_box_agg _ (by rfl) (by rfl) (fun g3 q3 hn3 => ?_)
  unfold setSlot
  go_big_quiet_step (fail)
  refine wpQuiet_nil ?_
  have n3_2 := ne_of_put hn3
  replace hn3 := none_of_put hn3
  clear hn3
  refine lex_alloc (.agg #[.string ByteArray.empty, .string ByteArray.empty]) (by rfl) (fun x => by kernel_rfl) (fun g4 q4 hn4 => ?_)
  unfold setSlot
  go_big_quiet_step (fail)
  refine wpQuiet_nil ?_
  have n4_3 := ne_of_put hn4
  replace hn4 := none_of_put hn4
  have n4_2 := ne_of_put hn4
  replace hn4 := none_of_put hn4
  clear hn4
  refine lex_quietE 1 (by kernel_rfl) (by rfl) ?_
  apply Exists.intro
  refine ⟨fun x hx => ?_, ?_⟩
  · have hwx := HB0.out.trans (hx.below_of (b := w.heap.size) (by simp) HB0.out.size)
    clear hx
    simp only [List.take_succ_cons, List.take_zero]
    unfold Cx
    repeat (go_big_quiet_step (fail))
    exact wpQuiet_nil rfl
  simp only [List.drop_succ_cons, List.drop_zero]
  refine lex_nil ?_
  intro w1 hx hH
  have m2 := hH g2 _ ((Blocks.put_other _ _ (Ne.symm n4_2)).trans ((Blocks.put_other _ _ (Ne.symm n3_2)).trans (Blocks.put_same _ _ _)))
  have m3 := hH g3 _ ((Blocks.put_other _ _ (Ne.symm n4_3)).trans (Blocks.put_same _ _ _))
  have m4 := hH g4 _ (Blocks.put_same _ _ _)
  have HB1 := Lib.hid (HB0.out.trans (hx.below_of (b := w.heap.size) (by simp) HB0.out.size))
  replace q2 := Nat.le_trans HB0.out.size q2
  replace q3 := Nat.le_trans HB0.out.size q3
  replace q4 := Nat.le_trans HB0.out.size q4
  clear hx hH HB0
  go_wp2_with (with_reducible refine wpList_from 6 [0, 0, 0] [] B0 (has_B0 _) ?_)
  refine lex_quietE 3 (by kernel_rfl) (by rfl) ?_
  apply Exists.intro
  refine ⟨fun x hx => ?_, ?_⟩
  · have hwx := HB1.out.trans (hx.below_of (b := w.heap.size) (by simp) HB1.out.size)
    have e3_0 := blk_cellp (hx.keep m3 (by simp)) 0 rfl
    have e3_1 := blk_cellp (hx.keep m3 (by simp)) 1 rfl
    clear hx
    simp only [List.take_succ_cons, List.take_zero]
    unfold Cx
    repeat (go_big_quiet_step (fail))
    exact wpQuiet_nil rfl
  simp only [List.drop_succ_cons, List.drop_zero]
  refine lex_nil ?_
  intro w2 hx hH
  replace m2 := hx.keep m2 (by simp)
  replace m3 := hx.keep m3 (by simp)
  replace m4 := hx.keep m4 (by simp)
  have HB2 := Lib.hid (HB1.out.trans (hx.below_of (b := w.heap.size) (by simp) HB1.out.size))
  clear hx hH HB1
  go_wp2_with fail
  refine wp_game [0, 0, 0, 0, 0, 0, 0, 0, 0, 0, 0, 0, 0, 2, 0] [g4] _ (Fin.put fin_B0 _ _) (has_put (has_B0 _) m4) (by kernel_rfl) (by kernel_rfl) ?_
  refine lex_quietE 13 (by kernel_rfl) (by rfl) ?_
  apply Exists.intro
  refine ⟨fun x hx => ?_, ?_⟩
  · have hwx := HB2.out.trans (hx.below_of (b := w.heap.size) (by simp [q4]) HB2.out.size)
    have e2_0 := blk_cellp (hx.keep m2 (by simp [(Ne.symm n4_2)])) 0 rfl
    have e2_1 := blk_cellp (hx.keep m2 (by simp [(Ne.symm n4_2)])) 1 rfl
    have e3_0 := blk_cellp (hx.keep m3 (by simp [(Ne.symm n4_3)])) 0 rfl
    have e3_1 := blk_cellp (hx.keep m3 (by simp [(Ne.symm n4_3)])) 1 rfl
    clear hx
    simp only [List.take_succ_cons, List.take_zero]
    unfold Cx
    repeat (go_big_quiet_step (first | with_reducible exact K1.at _ _ | with_reducible exact K2.at _ _ | with_reducible exact KN.at _ _))
    exact wpQuiet_nil rfl
  simp only [List.drop_succ_cons, List.drop_zero]
  refine lex_store_all g4 _ _ _ (by rfl) (by rfl) (by rfl) (Blocks.put_same _ _ _) (by rfl) (Or.inl (by simp)) (by kernel_rfl) (by simp [Value.oneCell']) ?_
  refine lex_quietE 1 (by kernel_rfl) (by rfl) ?_
  apply Exists.intro
  refine ⟨fun x hx => ?_, ?_⟩
  · have hwx := HB2.out.trans (hx.below_of (b := w.heap.size) (by simp [q4]) HB2.out.size)
    have e2_0 := blk_cellp (hx.keep m2 (by simp [(Ne.symm n4_2)])) 0 rfl
    have e2_1 := blk_cellp (hx.keep m2 (by simp [(Ne.symm n4_2)])) 1 rfl
    have e3_0 := blk_cellp (hx.keep m3 (by simp [(Ne.symm n4_3)])) 0 rfl
    have e3_1 := blk_cellp (hx.keep m3 (by simp [(Ne.symm n4_3)])) 1 rfl
    clear hx
    simp only [List.take_succ_cons, List.take_zero]
    unfold Cx
    repeat (go_big_quiet_step (first | with_reducible exact K1.at _ _ | with_reducible exact K2.at _ _ | with_reducible exact KN.at _ _))
    exact wpQuiet_nil rfl
  simp only [List.drop_succ_cons, List.drop_zero]
  refine lex_nil ?_
  intro w3 hx hH
  replace m4 := hH g4 _ (Blocks.put_same _ _ _)
  have HB3 := Lib.hid (HB2.out.trans (hx.below_of (b := w.heap.size) (by simp [q4]) HB2.out.size))
  clear hx hH HB2 m2 m3 q2 q3
  have c4_0 := blk_cell m4 0 rfl
  have c4_1 := blk_cell m4 1 rfl
  go_wp2_with fail
  exact bodyPost_ret (v := .tuple #[.agg #[.string u, .string v], .bool ok]) (by simp [results, Tryz.results35, go_sem, c4_0, c4_1]) rfl ⟨rfl, HB3.out⟩

end Go.Proofs.YtbacloneddnaeaaGreat
