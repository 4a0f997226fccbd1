/- Texts of this claim, joined: ZFns, ZGive, VXRead, BGive. -/
import Derived.Test.YtbacloneddnaeaaGreatS13
import Derived.Test.YtbacloneddnaeaaGreatS03
import Derived.Test.YtbacloneddnaeaaGreatS15
import Derived.Test.YtbacloneddnaeaaGreatS35
import Derived.Test.YtbacloneddnaeaaGreatS29
import Derived.Test.YtbacloneddnaeaaGreatS34

/- The walks of the reference of chapter 02. -/
namespace Go.Proofs.YtbacloneddnaeaaGreat
open Go.RowKit Num

set_option maxHeartbeats 1600000 in
set_option maxRecDepth 100000 in
theorem w_xzero  : Gives 33 #[] (.agg #[.string { data := #[48] }, .string { data := #[49] }]) := by
  intro w
  have HB0 := Lib.hid (Below.refl w.heap.size w)
  go_enter Tryz.func33, Tryz.ntmps33
  go_wp2_with (with_reducible refine wpList_from 0 [3] [] B0 (has_B0 _) ?_)
  refine lex_alloc (.agg #[.string ByteArray.empty, .string ByteArray.empty]) (by rfl) (fun x => by kernel_rfl) (fun g0 q0 hn0 => ?_)
  unfold setSlot
  go_big_quiet_step (fail)
  refine wpQuiet_nil ?_
  clear hn0
  refine lex_nil ?_
  intro w1 hx hH
  have m0 := hH g0 _ (Blocks.put_same _ _ _)
  have HB1 := Lib.hid (HB0.out.trans (hx.below_of (b := w.heap.size) (by simp) HB0.out.size))
  replace q0 := Nat.le_trans HB0.out.size q0
  clear hx hH HB0
  go_wp2_with (with_reducible refine wpList_from 1 [0, 2] [g0] _ (has_put (has_B0 _) m0) ?_)
  refine lex_quietE 1 (by kernel_rfl) (by rfl) ?_
  apply Exists.intro
  refine ⟨fun x hx => ?_, ?_⟩
  · have hwx := HB1.out.trans (hx.below_of (b := w.heap.size) (by simp [q0]) HB1.out.size)
    clear hx
    simp only [List.take_succ_cons, List.take_zero]
    unfold Cx
    repeat (go_big_quiet_step (fail))
    exact wpQuiet_nil rfl
  simp only [List.drop_succ_cons, List.drop_zero]
  refine lex_store_all g0 _ _ _ (by rfl) (by rfl) (by rfl) (Blocks.put_same _ _ _) (by rfl) (Or.inl (by simp)) (by kernel_rfl) (by simp [Value.oneCell']) ?_
  refine lex_nil ?_
  intro w2 hx hH
  replace m0 := hH g0 _ (Blocks.put_same _ _ _)
  have HB2 := Lib.hid (HB1.out.trans (hx.below_of (b := w.heap.size) (by simp [q0]) HB1.out.size))
  clear hx hH HB1
  have c0_0 := blk_cell m0 0 rfl
  have c0_1 := blk_cell m0 1 rfl
  go_wp2_with fail
  exact bodyPost_ret (v := .agg #[.string { data := #[48] }, .string { data := #[49] }]) (by simp [results, Tryz.results33, go_sem, c0_0, c0_1]) rfl ⟨rfl, HB2.out⟩

set_option maxHeartbeats 1600000 in
set_option maxRecDepth 100000 in
theorem w_xnew_z (n d : ByteArray) (hd : d.toList = [48]) (KZ : Gives 33 #[] (.agg #[.string { data := #[48] }, .string { data := #[49] }])) : Gives 66 #[.string n, .string d] (.tuple #[.agg #[.string { data := #[48] }, .string { data := #[49] }], .bool false]) := by
  intro w
  have HB0 := Lib.hid (Below.refl w.heap.size w)
  go_enter Tryz.func66, Tryz.ntmps66
  go_wp2_with (with_reducible refine wpList_from 4 [3, 0] [] B0 (has_B0 _) ?_)
  refine lex_alloc (.agg #[.string ByteArray.empty, .string ByteArray.empty]) (by rfl) (fun x => by kernel_rfl) (fun g4 q4 hn4 => ?_)
  unfold setSlot
  go_big_quiet_step (fail)
  refine wpQuiet_nil ?_
  clear hn4
  refine lex_quietE 1 (by kernel_rfl) (by rfl) ?_
  apply Exists.intro
  refine ⟨fun x hx => ?_, ?_⟩
  · have hwx := HB0.out.trans (hx.below_of (b := w.heap.size) (by simp) HB0.out.size)
    clear hx
    simp only [List.take_succ_cons, List.take_zero]
    unfold Cx
    repeat (go_big_quiet_step (fail))
    exact wpQuiet_nil rfl
  simp only [List.drop_succ_cons, List.drop_zero]
  refine lex_nil ?_
  intro w1 hx hH
  have m4 := hH g4 _ (Blocks.put_same _ _ _)
  have HB1 := Lib.hid (HB0.out.trans (hx.below_of (b := w.heap.size) (by simp) HB0.out.size))
  replace q4 := Nat.le_trans HB0.out.size q4
  clear hx hH HB0
  go_wp2_with (with_reducible refine wpList_from 15 [0, 2, 0] [g4] _ (has_put (has_B0 _) m4) ?_)
  refine lex_quietE 1 (by kernel_rfl) (by rfl) ?_
  apply Exists.intro
  refine ⟨fun x hx => ?_, ?_⟩
  · have hwx := HB1.out.trans (hx.below_of (b := w.heap.size) (by simp [q4]) HB1.out.size)
    clear hx
    simp only [List.take_succ_cons, List.take_zero]
    unfold Cx
    repeat (go_big_quiet_step (first | with_reducible exact KZ.at _ _))
    exact wpQuiet_nil rfl
  simp only [List.drop_succ_cons, List.drop_zero]
  refine lex_store_all g4 _ _ _ (by rfl) (by rfl) (by rfl) (Blocks.put_same _ _ _) (by rfl) (Or.inl (by simp)) (by kernel_rfl) (by simp [Value.oneCell']) ?_
  refine lex_quietE 1 (by kernel_rfl) (by rfl) ?_
  apply Exists.intro
  refine ⟨fun x hx => ?_, ?_⟩
  · have hwx := HB1.out.trans (hx.below_of (b := w.heap.size) (by simp [q4]) HB1.out.size)
    clear hx
    simp only [List.take_succ_cons, List.take_zero]
    unfold Cx
    repeat (go_big_quiet_step (first | with_reducible exact KZ.at _ _))
    exact wpQuiet_nil rfl
  simp only [List.drop_succ_cons, List.drop_zero]
  refine lex_nil ?_
  intro w2 hx hH
  replace m4 := hH g4 _ (Blocks.put_same _ _ _)
  have HB2 := Lib.hid (HB1.out.trans (hx.below_of (b := w.heap.size) (by simp [q4]) HB1.out.size))
  clear hx hH HB1
  have c4_0 := blk_cell m4 0 rfl
  have c4_1 := blk_cell m4 1 rfl
  go_wp2_with fail
  exact bodyPost_ret (v := .tuple #[.agg #[.string { data := #[48] }, .string { data := #[49] }], .bool false]) (by simp [results, Tryz.results66, go_sem, c4_0, c4_1]) rfl ⟨rfl, HB2.out⟩

set_option maxHeartbeats 1600000 in
set_option maxRecDepth 100000 in
theorem w_xnew_n (n d g a b r1 r2 : ByteArray) (hd : (d.toList == [48]) = false) (KG : Gives 84 #[.string n, .string d] (.string g)) (KA : Gives 85 #[.string n, .string g] (.tuple #[.string a, .string r1, .bool true])) (KB : Gives 85 #[.string d, .string g] (.tuple #[.string b, .string r2, .bool true])) : Gives 66 #[.string n, .string d] (.tuple #[.agg #[.string a, .string b], .bool true]) := by
  intro w
  have HB0 := Lib.hid (Below.refl w.heap.size w)
  go_enter Tryz.func66, Tryz.ntmps66
  go_wp2_with (with_reducible refine wpList_from 4 [3, 0] [] B0 (has_B0 _) ?_)
  refine lex_alloc (.agg #[.string ByteArray.empty, .string ByteArray.empty]) (by rfl) (fun x => by kernel_rfl) (fun g4 q4 hn4 => ?_)
  unfold setSlot
  go_big_quiet_step (fail)
  refine wpQuiet_nil ?_
  clear hn4
  refine lex_quietE 1 (by kernel_rfl) (by rfl) ?_
  apply Exists.intro
  refine ⟨fun x hx => ?_, ?_⟩
  · have hwx := HB0.out.trans (hx.below_of (b := w.heap.size) (by simp) HB0.out.size)
    clear hx
    simp only [List.take_succ_cons, List.take_zero]
    unfold Cx
    repeat (go_big_quiet_step (fail))
    exact wpQuiet_nil rfl
  simp only [List.drop_succ_cons, List.drop_zero]
  refine lex_nil ?_
  intro w1 hx hH
  have m4 := hH g4 _ (Blocks.put_same _ _ _)
  have HB1 := Lib.hid (HB0.out.trans (hx.below_of (b := w.heap.size) (by simp) HB0.out.size))
  replace q4 := Nat.le_trans HB0.out.size q4
  clear hx hH HB0
  go_wp2_with (with_reducible refine wpList_from 18 [0, 0] [] B0 (has_B0 _) ?_)
  refine lex_quietE 2 (by kernel_rfl) (by rfl) ?_
  apply Exists.intro
  refine ⟨fun x hx => ?_, ?_⟩
  · have hwx := HB1.out.trans (hx.below_of (b := w.heap.size) (by simp) HB1.out.size)
    clear hx
    simp only [List.take_succ_cons, List.take_zero]
    unfold Cx
    repeat (go_big_quiet_step (first | with_reducible exact KG.at _ _))
    exact wpQuiet_nil rfl
  simp only [List.drop_succ_cons, List.drop_zero]
  refine lex_nil ?_
  intro w2 hx hH
  replace m4 := hx.keep m4 (by simp)
  have HB2 := Lib.hid (HB1.out.trans (hx.below_of (b := w.heap.size) (by simp) HB1.out.size))
  clear hx hH HB1
  go_wp2_with (with_reducible refine wpList_from 22 [0, 0, 0, 0, 0, 0, 0, 0] [] B0 (has_B0 _) ?_)
  refine lex_quietE 8 (by kernel_rfl) (by rfl) ?_
  apply Exists.intro
  refine ⟨fun x hx => ?_, ?_⟩
  · have hwx := HB2.out.trans (hx.below_of (b := w.heap.size) (by simp) HB2.out.size)
    clear hx
    simp only [List.take_succ_cons, List.take_zero]
    unfold Cx
    repeat (go_big_quiet_step (first | with_reducible exact KA.at _ _))
    exact wpQuiet_nil rfl
  simp only [List.drop_succ_cons, List.drop_zero]
  refine lex_nil ?_
  intro w3 hx hH
  replace m4 := hx.keep m4 (by simp)
  have HB3 := Lib.hid (HB2.out.trans (hx.below_of (b := w.heap.size) (by simp) HB2.out.size))
  clear hx hH HB2
  go_wp2_with (with_reducible refine wpList_from 29 [0, 0, 0, 0, 0, 0, 0, 0] [] B0 (has_B0 _) ?_)
  refine lex_quietE 8 (by kernel_rfl) (by rfl) ?_
  apply Exists.intro
  refine ⟨fun x hx => ?_, ?_⟩
  · have hwx := HB3.out.trans (hx.below_of (b := w.heap.size) (by simp) HB3.out.size)
    clear hx
    simp only [List.take_succ_cons, List.take_zero]
    unfold Cx
    repeat (go_big_quiet_step (first | with_reducible exact KB.at _ _))
    exact wpQuiet_nil rfl
  simp only [List.drop_succ_cons, List.drop_zero]
  refine lex_nil ?_
  intro w4 hx hH
  replace m4 := hx.keep m4 (by simp)
  have HB4 := Lib.hid (HB3.out.trans (hx.below_of (b := w.heap.size) (by simp) HB3.out.size))
  clear hx hH HB3
  go_wp2_with (with_reducible refine wpList_from 35 [0, 2, 0] [g4] _ (has_put (has_B0 _) m4) ?_)
  refine lex_quietE 1 (by kernel_rfl) (by rfl) ?_
  apply Exists.intro
  refine ⟨fun x hx => ?_, ?_⟩
  · have hwx := HB4.out.trans (hx.below_of (b := w.heap.size) (by simp [q4]) HB4.out.size)
    clear hx
    simp only [List.take_succ_cons, List.take_zero]
    unfold Cx
    repeat (go_big_quiet_step (fail))
    exact wpQuiet_nil rfl
  simp only [List.drop_succ_cons, List.drop_zero]
  refine lex_store_all g4 _ _ _ (by rfl) (by rfl) (by rfl) (Blocks.put_same _ _ _) (by rfl) (Or.inl (by simp)) (by kernel_rfl) (by simp [Value.oneCell']) ?_
  refine lex_quietE 1 (by kernel_rfl) (by rfl) ?_
  apply Exists.intro
  refine ⟨fun x hx => ?_, ?_⟩
  · have hwx := HB4.out.trans (hx.below_of (b := w.heap.size) (by simp [q4]) HB4.out.size)
    clear hx
    simp only [List.take_succ_cons, List.take_zero]
    unfold Cx
    repeat (go_big_quiet_step (fail))
    exact wpQuiet_nil rfl
  simp only [List.drop_succ_cons, List.drop_zero]
  refine lex_nil ?_
  intro w5 hx hH
  replace m4 := hH g4 _ (Blocks.put_same _ _ _)
  have HB5 := Lib.hid (HB4.out.trans (hx.below_of (b := w.heap.size) (by simp [q4]) HB4.out.size))
  clear hx hH HB4
  have c4_0 := blk_cell m4 0 rfl
  have c4_1 := blk_cell m4 1 rfl
  go_wp2_with fail
  exact bodyPost_ret (v := .tuple #[.agg #[.string a, .string b], .bool true]) (by simp [results, Tryz.results66, go_sem, c4_0, c4_1]) rfl ⟨rfl, HB5.out⟩

set_option maxHeartbeats 1600000 in
set_option maxRecDepth 100000 in
theorem w_xtext1 (a b : ByteArray) (hb : b.toList = [49]) : Gives 24 #[.agg #[.string a, .string b]] (.string a) := by
  intro w
  have HB0 := Lib.hid (Below.refl w.heap.size w)
  go_enter Tryz.func24, Tryz.ntmps24
  go_wp2_with (with_reducible refine wpList_from 1 [3, 0] [] B0 (has_B0 _) ?_)
  refine lex_box_agg _ (by rfl) (by rfl) (fun g1 q1 hn1 => ?_)
  unfold setSlot
  go_big_quiet_step (fail)
  refine wpQuiet_nil ?_
  clear hn1
  refine lex_quietE 1 (by kernel_rfl) (by rfl) ?_
  apply Exists.intro
  refine ⟨fun x hx => ?_, ?_⟩
  · have hwx := HB0.out.trans (hx.below_of (b := w.heap.size) (by simp) HB0.out.size)
    clear hx
    simp only [List.take_succ_cons, List.take_zero]
    unfold Cx
    repeat (go_big_quiet_step (fail))
    exact wpQuiet_nil rfl
  simp only [List.drop_succ_cons, List.drop_zero]
  refine lex_nil ?_
  intro w1 hx hH
  have m1 := hH g1 _ (Blocks.put_same _ _ _)
  have HB1 := Lib.hid (HB0.out.trans (hx.below_of (b := w.heap.size) (by simp) HB0.out.size))
  replace q1 := Nat.le_trans HB0.out.size q1
  clear hx hH HB0
  go_wp2_with (with_reducible refine wpList_from 3 [0, 0, 0] [] B0 (has_B0 _) ?_)
  refine lex_quietE 3 (by kernel_rfl) (by rfl) ?_
  apply Exists.intro
  refine ⟨fun x hx => ?_, ?_⟩
  · have hwx := HB1.out.trans (hx.below_of (b := w.heap.size) (by simp) HB1.out.size)
    have e1_0 := blk_cellp (hx.keep m1 (by simp)) 0 rfl
    have e1_1 := blk_cellp (hx.keep m1 (by simp)) 1 rfl
    clear hx
    simp only [List.take_succ_cons, List.take_zero]
    unfold Cx
    repeat (go_big_quiet_step (fail))
    exact wpQuiet_nil rfl
  simp only [List.drop_succ_cons, List.drop_zero]
  refine lex_nil ?_
  intro w2 hx hH
  replace m1 := hx.keep m1 (by simp)
  have HB2 := Lib.hid (HB1.out.trans (hx.below_of (b := w.heap.size) (by simp) HB1.out.size))
  clear hx hH HB1
  go_wp2_with (with_reducible refine wpList_from 6 [0, 0, 0] [] B0 (has_B0 _) ?_)
  refine lex_quietE 3 (by kernel_rfl) (by rfl) ?_
  apply Exists.intro
  refine ⟨fun x hx => ?_, ?_⟩
  · have hwx := HB2.out.trans (hx.below_of (b := w.heap.size) (by simp) HB2.out.size)
    have e1_0 := blk_cellp (hx.keep m1 (by simp)) 0 rfl
    have e1_1 := blk_cellp (hx.keep m1 (by simp)) 1 rfl
    clear hx
    simp only [List.take_succ_cons, List.take_zero]
    unfold Cx
    repeat (go_big_quiet_step (fail))
    exact wpQuiet_nil rfl
  simp only [List.drop_succ_cons, List.drop_zero]
  refine lex_nil ?_
  intro w3 hx hH
  have HB3 := Lib.hid (HB2.out.trans (hx.below_of (b := w.heap.size) (by simp) HB2.out.size))
  clear hx hH HB2 m1 q1
  go_wp2_with fail
  exact bodyPost_ret (v := .string a) (by simp [results, Tryz.results24, go_sem]) rfl ⟨rfl, HB3.out⟩

set_option maxHeartbeats 1600000 in
set_option maxRecDepth 100000 in
theorem w_xtext2 (a b : ByteArray) (hb : (b.toList == [49]) = false) (h1 : a.size ≤ 100000000000) (h2 : b.size ≤ 100000000000) : Gives 24 #[.agg #[.string a, .string b]] (.string (a ++ { data := #[47] } ++ b)) := by
  intro w
  have HB0 := Lib.hid (Below.refl w.heap.size w)
  go_enter Tryz.func24, Tryz.ntmps24
  go_wp2_with (with_reducible refine wpList_from 1 [3, 0] [] B0 (has_B0 _) ?_)
  refine lex_box_agg _ (by rfl) (by rfl) (fun g1 q1 hn1 => ?_)
  unfold setSlot
  go_big_quiet_step (fail)
  refine wpQuiet_nil ?_
  clear hn1
  refine lex_quietE 1 (by kernel_rfl) (by rfl) ?_
  apply Exists.intro
  refine ⟨fun x hx => ?_, ?_⟩
  · have hwx := HB0.out.trans (hx.below_of (b := w.heap.size) (by simp) HB0.out.size)
    clear hx
    simp only [List.take_succ_cons, List.take_zero]
    unfold Cx
    repeat (go_big_quiet_step (fail))
    exact wpQuiet_nil rfl
  simp only [List.drop_succ_cons, List.drop_zero]
  refine lex_nil ?_
  intro w1 hx hH
  have m1 := hH g1 _ (Blocks.put_same _ _ _)
  have HB1 := Lib.hid (HB0.out.trans (hx.below_of (b := w.heap.size) (by simp) HB0.out.size))
  replace q1 := Nat.le_trans HB0.out.size q1
  clear hx hH HB0
  go_wp2_with (with_reducible refine wpList_from 3 [0, 0, 0] [] B0 (has_B0 _) ?_)
  refine lex_quietE 3 (by kernel_rfl) (by rfl) ?_
  apply Exists.intro
  refine ⟨fun x hx => ?_, ?_⟩
  · have hwx := HB1.out.trans (hx.below_of (b := w.heap.size) (by simp) HB1.out.size)
    have e1_0 := blk_cellp (hx.keep m1 (by simp)) 0 rfl
    have e1_1 := blk_cellp (hx.keep m1 (by simp)) 1 rfl
    clear hx
    simp only [List.take_succ_cons, List.take_zero]
    unfold Cx
    repeat (go_big_quiet_step (fail))
    exact wpQuiet_nil rfl
  simp only [List.drop_succ_cons, List.drop_zero]
  refine lex_nil ?_
  intro w2 hx hH
  replace m1 := hx.keep m1 (by simp)
  have HB2 := Lib.hid (HB1.out.trans (hx.below_of (b := w.heap.size) (by simp) HB1.out.size))
  clear hx hH HB1
  go_wp2_with (with_reducible refine wpList_from 8 [0, 0, 0, 0, 0, 0, 0] [] B0 (has_B0 _) ?_)
  refine lex_quietE 7 (by kernel_rfl) (by rfl) ?_
  apply Exists.intro
  refine ⟨fun x hx => ?_, ?_⟩
  · have hwx := HB2.out.trans (hx.below_of (b := w.heap.size) (by simp) HB2.out.size)
    have e1_0 := blk_cellp (hx.keep m1 (by simp)) 0 rfl
    have e1_1 := blk_cellp (hx.keep m1 (by simp)) 1 rfl
    clear hx
    simp only [List.take_succ_cons, List.take_zero]
    unfold Cx
    repeat (go_big_quiet_step (fail))
    exact wpQuiet_nil rfl
  simp only [List.drop_succ_cons, List.drop_zero]
  refine lex_nil ?_
  intro w3 hx hH
  have HB3 := Lib.hid (HB2.out.trans (hx.below_of (b := w.heap.size) (by simp) HB2.out.size))
  clear hx hH HB2 m1 q1
  go_wp2_with fail
  exact bodyPost_ret (v := .string (a ++ { data := #[47] } ++ b)) (by simp [results, Tryz.results24, go_sem]) rfl ⟨rfl, HB3.out⟩

set_option maxHeartbeats 1600000 in
set_option maxRecDepth 100000 in
theorem w_over (a1 a2 b1 b2 p q e : ByteArray) (K1 : Gives 68 #[.string a1, .string b2] (.string p)) (K2 : Gives 68 #[.string b1, .string a2] (.string q)) (K3 : Gives 68 #[.string a2, .string b2] (.string e)) : Gives 65 #[.agg #[.string a1, .string a2], .agg #[.string b1, .string b2]] (.tuple #[.string p, .string q, .string e]) := by
  intro w
  have HB0 := Lib.hid (Below.refl w.heap.size w)
  go_enter Tryz.func65, Tryz.ntmps65
  go_wp2_with (with_reducible refine wpList_from 2 [3, 3, 0, 0, 0] [] B0 (has_B0 _) ?_)
  refine lex_box_agg _ (by rfl) (by rfl) (fun g2 q2 hn2 => ?_)
  unfold setSlot
  go_big_quiet_step (fail)
  refine wpQuiet_nil ?_
  clear hn2
  refine lex_box_agg _ (by rfl) (by rfl) (fun g3 q3 hn3 => ?_)
  unfold setSlot
  go_big_quiet_step (fail)
  refine wpQuiet_nil ?_
  have n3_2 := ne_of_put hn3
  replace hn3 := none_of_put hn3
  clear hn3
  refine lex_quietE 3 (by kernel_rfl) (by rfl) ?_
  apply Exists.intro
  refine ⟨fun x hx => ?_, ?_⟩
  · have hwx := HB0.out.trans (hx.below_of (b := w.heap.size) (by simp) HB0.out.size)
    clear hx
    simp only [List.take_succ_cons, List.take_zero]
    unfold Cx
    repeat (go_big_quiet_step (fail))
    exact wpQuiet_nil rfl
  simp only [List.drop_succ_cons, List.drop_zero]
  refine lex_nil ?_
  intro w1 hx hH
  have m2 := hH g2 _ ((Blocks.put_other _ _ (Ne.symm n3_2)).trans (Blocks.put_same _ _ _))
  have m3 := hH g3 _ (Blocks.put_same _ _ _)
  have HB1 := Lib.hid (HB0.out.trans (hx.below_of (b := w.heap.size) (by simp) HB0.out.size))
  replace q2 := Nat.le_trans HB0.out.size q2
  replace q3 := Nat.le_trans HB0.out.size q3
  clear hx hH HB0
  go_wp2_with fail
  refine wp_game [0, 0, 0, 0, 0, 0, 0, 0, 0, 0, 0, 0, 0, 0, 0, 0, 0, 0] [] B0 fin_B0 (has_B0 _) (by kernel_rfl) (by kernel_rfl) ?_
  refine lex_quietE 18 (by kernel_rfl) (by rfl) ?_
  apply Exists.intro
  refine ⟨fun x hx => ?_, ?_⟩
  · have hwx := HB1.out.trans (hx.below_of (b := w.heap.size) (by simp) HB1.out.size)
    have e2_0 := blk_cellp (hx.keep m2 (by simp)) 0 rfl
    have e2_1 := blk_cellp (hx.keep m2 (by simp)) 1 rfl
    have e3_0 := blk_cellp (hx.keep m3 (by simp)) 0 rfl
    have e3_1 := blk_cellp (hx.keep m3 (by simp)) 1 rfl
    clear hx
    simp only [List.take_succ_cons, List.take_zero]
    unfold Cx
    repeat (go_big_quiet_step (first | with_reducible exact K1.at _ _ | with_reducible exact K2.at _ _ | with_reducible exact K3.at _ _))
    exact wpQuiet_nil rfl
  simp only [List.drop_succ_cons, List.drop_zero]
  refine lex_nil ?_
  intro w2 hx hH
  have HB2 := Lib.hid (HB1.out.trans (hx.below_of (b := w.heap.size) (by simp) HB1.out.size))
  clear hx hH HB1 m2 m3 q2 q3
  go_wp2_with fail
  exact bodyPost_ret (v := .tuple #[.string p, .string q, .string e]) (by simp [results, Tryz.results65, go_sem]) rfl ⟨rfl, HB2.out⟩

set_option maxHeartbeats 1600000 in
set_option maxRecDepth 100000 in
theorem w_xadd (a1 a2 b1 b2 p q e s u v : ByteArray) (ok : Bool) (KO : Gives 65 #[.agg #[.string a1, .string a2], .agg #[.string b1, .string b2]] (.tuple #[.string p, .string q, .string e])) (KA : Gives 67 #[.string p, .string q] (.string s)) (KN : Gives 66 #[.string s, .string e] (.tuple #[.agg #[.string u, .string v], .bool ok])) : Gives 34 #[.agg #[.string a1, .string a2], .agg #[.string b1, .string b2]] (.agg #[.string u, .string v]) := by
  intro w
  have HB0 := Lib.hid (Below.refl w.heap.size w)
  go_enter Tryz.func34, Tryz.ntmps34
  go_wp2_with (with_reducible refine wpList_from 2 [3, 3, 3] [] B0 (has_B0 _) ?_)
  refine lex_box_agg _ (by rfl) (by rfl) (fun g2 q2 hn2 => ?_)
  unfold setSlot
  go_big_quiet_step (fail)
  refine wpQuiet_nil ?_
  clear hn2
  refine lex_box_agg _ (by rfl) (by rfl) (fun g3 q3 hn3 => ?_)
  unfold setSlot
  go_big_quiet_step (fail)
  refine wpQuiet_nil ?_
  have n3_2 := ne_of_put hn3
  replace hn3 := none_of_put hn3
  clear hn3
  refine lex_alloc (.agg #[.string ByteArray.empty, .string ByteArray.empty]) (by rfl) (fun x => by kernel_rfl) (fun g4 q4 hn4 => ?_)
  unfold setSlot
  go_big_quiet_step (fail)
  refine wpQuiet_nil ?_
  have n4_3 := ne_of_put hn4
  replace hn4 := none_of_put hn4
  have n4_2 := ne_of_put hn4
  replace hn4 := none_of_put hn4
  clear hn4
  refine lex_nil ?_
  intro w1 hx hH
  have m2 := hH g2 _ ((Blocks.put_other _ _ (Ne.symm n4_2)).trans ((Blocks.put_other _ _ (Ne.symm n3_2)).trans (Blocks.put_same _ _ _)))
  have m3 := hH g3 _ ((Blocks.put_other _ _ (Ne.symm n4_3)).trans (Blocks.put_same _ _ _))
  have m4 := hH g4 _ (Blocks.put_same _ _ _)
  have HB1 := Lib.hid (HB0.out.trans (hx.below_of (b := w.heap.size) (by simp) HB0.out.size))
  replace q2 := Nat.le_trans HB0.out.size q2
  replace q3 := Nat.le_trans HB0.out.size q3
  replace q4 := Nat.le_trans HB0.out.size q4
  clear hx hH HB0
  go_wp2_with (with_reducible refine wpList_from 11 [0, 0, 0, 0, 0, 0, 0, 0, 0, 0] [] B0 (has_B0 _) ?_)
  refine lex_quietE 10 (by kernel_rfl) (by rfl) ?_
  apply Exists.intro
  refine ⟨fun x hx => ?_, ?_⟩
  · have hwx := HB1.out.trans (hx.below_of (b := w.heap.size) (by simp) HB1.out.size)
    have e2_0 := blk_cellp (hx.keep m2 (by simp)) 0 rfl
    have e2_1 := blk_cellp (hx.keep m2 (by simp)) 1 rfl
    have e3_0 := blk_cellp (hx.keep m3 (by simp)) 0 rfl
    have e3_1 := blk_cellp (hx.keep m3 (by simp)) 1 rfl
    clear hx
    simp only [List.take_succ_cons, List.take_zero]
    unfold Cx
    repeat (go_big_quiet_step (first | with_reducible exact KO.at _ _))
    exact wpQuiet_nil rfl
  simp only [List.drop_succ_cons, List.drop_zero]
  refine lex_nil ?_
  intro w2 hx hH
  replace m4 := hx.keep m4 (by simp)
  have HB2 := Lib.hid (HB1.out.trans (hx.below_of (b := w.heap.size) (by simp) HB1.out.size))
  clear hx hH HB1 m2 m3 q2 q3
  go_wp2_with (with_reducible refine wpList_from 20 [0, 0, 0, 0, 0, 0, 3, 2, 0] [] B0 (has_B0 _) ?_)
  refine lex_quietE 6 (by kernel_rfl) (by rfl) ?_
  apply Exists.intro
  refine ⟨fun x hx => ?_, ?_⟩
  · have hwx := HB2.out.trans (hx.below_of (b := w.heap.size) (by simp) HB2.out.size)
    clear hx
    simp only [List.take_succ_cons, List.take_zero]
    unfold Cx
    repeat (go_big_quiet_step (first | with_reducible exact KA.at _ _ | with_reducible exact KN.at _ _))
    exact wpQuiet_nil rfl
  simp only [List.drop_succ_cons, List.drop_zero]
  refine lex_alloc (.agg #[.string ByteArray.empty, .string ByteArray.empty]) (by rfl) (fun x => by kernel_rfl) (fun g8 q8 hn8 => ?_)
  unfold setSlot
  go_big_quiet_step (fail)
  refine wpQuiet_nil ?_
  clear hn8
  have n8_4 : g8 ≠ g4 := Nat.ne_of_gt (Nat.lt_of_lt_of_le (lt_of_heap m4) q8)
  refine lex_store_all g8 _ _ _ (by rfl) (by rfl) (by rfl) (Blocks.put_same _ _ _) (by rfl) (Or.inr q8) (by kernel_rfl) (by simp [Value.oneCell']) ?_
  refine lex_quietE 1 (by kernel_rfl) (by rfl) ?_
  apply Exists.intro
  refine ⟨fun x hx => ?_, ?_⟩
  · have hwx := HB2.out.trans (hx.below_of (b := w.heap.size) (by simp) HB2.out.size)
    clear hx
    simp only [List.take_succ_cons, List.take_zero]
    unfold Cx
    repeat (go_big_quiet_step (first | with_reducible exact KA.at _ _ | with_reducible exact KN.at _ _))
    exact wpQuiet_nil rfl
  simp only [List.drop_succ_cons, List.drop_zero]
  refine lex_nil ?_
  intro w3 hx hH
  have m8 := hH g8 _ (Blocks.put_same _ _ _)
  replace m4 := hx.keep m4 (by simp)
  have HB3 := Lib.hid (HB2.out.trans (hx.below_of (b := w.heap.size) (by simp) HB2.out.size))
  replace q8 := Nat.le_trans HB2.out.size q8
  clear hx hH HB2
  go_wp2_with (with_reducible refine wpList_from 25 [0, 2] [g4] _ (has_put (has_B0 _) m4) ?_)
  refine lex_quietE 1 (by kernel_rfl) (by rfl) ?_
  apply Exists.intro
  refine ⟨fun x hx => ?_, ?_⟩
  · have hwx := HB3.out.trans (hx.below_of (b := w.heap.size) (by simp [q4]) HB3.out.size)
    have e8_0 := blk_cellp (hx.keep m8 (by simp [n8_4])) 0 rfl
    have e8_1 := blk_cellp (hx.keep m8 (by simp [n8_4])) 1 rfl
    clear hx
    simp only [List.take_succ_cons, List.take_zero]
    unfold Cx
    repeat (go_big_quiet_step (fail))
    exact wpQuiet_nil rfl
  simp only [List.drop_succ_cons, List.drop_zero]
  refine lex_store_all g4 _ _ _ (by rfl) (by rfl) (by rfl) (Blocks.put_same _ _ _) (by rfl) (Or.inl (by simp)) (by kernel_rfl) (by simp [Value.oneCell']) ?_
  refine lex_nil ?_
  intro w4 hx hH
  replace m4 := hH g4 _ (Blocks.put_same _ _ _)
  have HB4 := Lib.hid (HB3.out.trans (hx.below_of (b := w.heap.size) (by simp [q4]) HB3.out.size))
  clear hx hH HB3 m8 q8
  have c4_0 := blk_cell m4 0 rfl
  have c4_1 := blk_cell m4 1 rfl
  go_wp2_with fail
  exact bodyPost_ret (v := .agg #[.string u, .string v]) (by simp [results, Tryz.results34, go_sem, c4_0, c4_1]) rfl ⟨rfl, HB4.out⟩

set_option maxHeartbeats 1600000 in
set_option maxRecDepth 100000 in
theorem w_xcmp (a1 a2 b1 b2 p q e : ByteArray) (k : Int) (KO : Gives 65 #[.agg #[.string a1, .string a2], .agg #[.string b1, .string b2]] (.tuple #[.string p, .string q, .string e])) (KC : Gives 94 #[.string p, .string q] (.int .i64 k)) : Gives 79 #[.agg #[.string a1, .string a2], .agg #[.string b1, .string b2]] (.int .i64 k) := by
  intro w
  have HB0 := Lib.hid (Below.refl w.heap.size w)
  go_enter Tryz.func79, Tryz.ntmps79
  go_wp2_with (with_reducible refine wpList_from 2 [3, 3, 0] [] B0 (has_B0 _) ?_)
  refine lex_box_agg _ (by rfl) (by rfl) (fun g2 q2 hn2 => ?_)
  unfold setSlot
  go_big_quiet_step (fail)
  refine wpQuiet_nil ?_
  clear hn2
  refine lex_box_agg _ (by rfl) (by rfl) (fun g3 q3 hn3 => ?_)
  unfold setSlot
  go_big_quiet_step (fail)
  refine wpQuiet_nil ?_
  have n3_2 := ne_of_put hn3
  replace hn3 := none_of_put hn3
  clear hn3
  refine lex_quietE 1 (by kernel_rfl) (by rfl) ?_
  apply Exists.intro
  refine ⟨fun x hx => ?_, ?_⟩
  · have hwx := HB0.out.trans (hx.below_of (b := w.heap.size) (by simp) HB0.out.size)
    clear hx
    simp only [List.take_succ_cons, List.take_zero]
    unfold Cx
    repeat (go_big_quiet_step (fail))
    exact wpQuiet_nil rfl
  simp only [List.drop_succ_cons, List.drop_zero]
  refine lex_nil ?_
  intro w1 hx hH
  have m2 := hH g2 _ ((Blocks.put_other _ _ (Ne.symm n3_2)).trans (Blocks.put_same _ _ _))
  have m3 := hH g3 _ (Blocks.put_same _ _ _)
  have HB1 := Lib.hid (HB0.out.trans (hx.below_of (b := w.heap.size) (by simp) HB0.out.size))
  replace q2 := Nat.le_trans HB0.out.size q2
  replace q3 := Nat.le_trans HB0.out.size q3
  clear hx hH HB0
  go_wp2_with (with_reducible refine wpList_from 9 [0, 0, 0, 0, 0, 0, 0, 0, 0, 0] [] B0 (has_B0 _) ?_)
  refine lex_quietE 10 (by kernel_rfl) (by rfl) ?_
  apply Exists.intro
  refine ⟨fun x hx => ?_, ?_⟩
  · have hwx := HB1.out.trans (hx.below_of (b := w.heap.size) (by simp) HB1.out.size)
    have e2_0 := blk_cellp (hx.keep m2 (by simp)) 0 rfl
    have e2_1 := blk_cellp (hx.keep m2 (by simp)) 1 rfl
    have e3_0 := blk_cellp (hx.keep m3 (by simp)) 0 rfl
    have e3_1 := blk_cellp (hx.keep m3 (by simp)) 1 rfl
    clear hx
    simp only [List.take_succ_cons, List.take_zero]
    unfold Cx
    repeat (go_big_quiet_step (first | with_reducible exact KO.at _ _))
    exact wpQuiet_nil rfl
  simp only [List.drop_succ_cons, List.drop_zero]
  refine lex_nil ?_
  intro w2 hx hH
  have HB2 := Lib.hid (HB1.out.trans (hx.below_of (b := w.heap.size) (by simp) HB1.out.size))
  clear hx hH HB1 m2 m3 q2 q3
  go_wp2_with (with_reducible refine wpList_from 17 [0, 0] [] B0 (has_B0 _) ?_)
  refine lex_quietE 2 (by kernel_rfl) (by rfl) ?_
  apply Exists.intro
  refine ⟨fun x hx => ?_, ?_⟩
  · have hwx := HB2.out.trans (hx.below_of (b := w.heap.size) (by simp) HB2.out.size)
    clear hx
    simp only [List.take_succ_cons, List.take_zero]
    unfold Cx
    repeat (go_big_quiet_step (first | with_reducible exact KC.at _ _))
    exact wpQuiet_nil rfl
  simp only [List.drop_succ_cons, List.drop_zero]
  refine lex_nil ?_
  intro w3 hx hH
  have HB3 := Lib.hid (HB2.out.trans (hx.below_of (b := w.heap.size) (by simp) HB2.out.size))
  clear hx hH HB2
  go_wp2_with fail
  exact bodyPost_ret (v := .int .i64 k) (by simp [results, Tryz.results79, go_sem]) rfl ⟨rfl, HB3.out⟩

set_option maxHeartbeats 1600000 in
set_option maxRecDepth 100000 in
theorem w_xmul (a1 a2 b1 b2 p q u v : ByteArray) (ok : Bool) (K1 : Gives 68 #[.string a1, .string b1] (.string p)) (K2 : Gives 68 #[.string a2, .string b2] (.string q)) (KN : Gives 66 #[.string p, .string q] (.tuple #[.agg #[.string u, .string v], .bool ok])) : Gives 81 #[.agg #[.string a1, .string a2], .agg #[.string b1, .string b2]] (.agg #[.string u, .string v]) := by
  intro w
  have HB0 := Lib.hid (Below.refl w.heap.size w)
  go_enter Tryz.func81, Tryz.ntmps81
  go_wp2_with (with_reducible refine wpList_from 2 [3, 3, 3] [] B0 (has_B0 _) ?_)
  refine lex_box_agg _ (by rfl) (by rfl) (fun g2 q2 hn2 => ?_)
  unfold setSlot
  go_big_quiet_step (fail)
  refine wpQuiet_nil ?_
  clear hn2
  refine lex_box_agg _ (by rfl) (by rfl) (fun g3 q3 hn3 => ?_)
  unfold setSlot
  go_big_quiet_step (fail)
  refine wpQuiet_nil ?_
  have n3_2 := ne_of_put hn3
  replace hn3 := none_of_put hn3
  clear hn3
  refine lex_alloc (.agg #[.string ByteArray.empty, .string ByteArray.empty]) (by rfl) (fun x => by kernel_rfl) (fun g4 q4 hn4 => ?_)
  unfold setSlot
  go_big_quiet_step (fail)
  refine wpQuiet_nil ?_
  have n4_3 := ne_of_put hn4
  replace hn4 := none_of_put hn4
  have n4_2 := ne_of_put hn4
  replace hn4 := none_of_put hn4
  clear hn4
  refine lex_nil ?_
  intro w1 hx hH
  have m2 := hH g2 _ ((Blocks.put_other _ _ (Ne.symm n4_2)).trans ((Blocks.put_other _ _ (Ne.symm n3_2)).trans (Blocks.put_same _ _ _)))
  have m3 := hH g3 _ ((Blocks.put_other _ _ (Ne.symm n4_3)).trans (Blocks.put_same _ _ _))
  have m4 := hH g4 _ (Blocks.put_same _ _ _)
  have HB1 := Lib.hid (HB0.out.trans (hx.below_of (b := w.heap.size) (by simp) HB0.out.size))
  replace q2 := Nat.le_trans HB0.out.size q2
  replace q3 := Nat.le_trans HB0.out.size q3
  replace q4 := Nat.le_trans HB0.out.size q4
  clear hx hH HB0
  go_wp2_with fail
  refine wp_game [0, 0, 0, 0, 0, 0, 0, 0, 0, 0, 0, 0, 0, 0, 3, 2, 0] [] B0 fin_B0 (has_B0 _) (by kernel_rfl) (by kernel_rfl) ?_
  refine lex_quietE 14 (by kernel_rfl) (by rfl) ?_
  apply Exists.intro
  refine ⟨fun x hx => ?_, ?_⟩
  · have hwx := HB1.out.trans (hx.below_of (b := w.heap.size) (by simp) HB1.out.size)
    have e2_0 := blk_cellp (hx.keep m2 (by simp)) 0 rfl
    have e2_1 := blk_cellp (hx.keep m2 (by simp)) 1 rfl
    have e3_0 := blk_cellp (hx.keep m3 (by simp)) 0 rfl
    have e3_1 := blk_cellp (hx.keep m3 (by simp)) 1 rfl
    clear hx
    simp only [List.take_succ_cons, List.take_zero]
    unfold Cx
    repeat (go_big_quiet_step (first | with_reducible exact K1.at _ _ | with_reducible exact K2.at _ _ | with_reducible exact KN.at _ _))
    exact wpQuiet_nil rfl
  simp only [List.drop_succ_cons, List.drop_zero]
  refine lex_alloc (.agg #[.string ByteArray.empty, .string ByteArray.empty]) (by rfl) (fun x => by kernel_rfl) (fun g5 q5 hn5 => ?_)
  unfold setSlot
  go_big_quiet_step (fail)
  refine wpQuiet_nil ?_
  clear hn5
  have n5_2 : g5 ≠ g2 := Nat.ne_of_gt (Nat.lt_of_lt_of_le (lt_of_heap m2) q5)
  have n5_3 : g5 ≠ g3 := Nat.ne_of_gt (Nat.lt_of_lt_of_le (lt_of_heap m3) q5)
  have n5_4 : g5 ≠ g4 := Nat.ne_of_gt (Nat.lt_of_lt_of_le (lt_of_heap m4) q5)
  refine lex_store_all g5 _ _ _ (by rfl) (by rfl) (by rfl) (Blocks.put_same _ _ _) (by rfl) (Or.inr q5) (by kernel_rfl) (by simp [Value.oneCell']) ?_
  refine lex_quietE 1 (by kernel_rfl) (by rfl) ?_
  apply Exists.intro
  refine ⟨fun x hx => ?_, ?_⟩
  · have hwx := HB1.out.trans (hx.below_of (b := w.heap.size) (by simp) HB1.out.size)
    have e2_0 := blk_cellp (hx.keep m2 (by simp)) 0 rfl
    have e2_1 := blk_cellp (hx.keep m2 (by simp)) 1 rfl
    have e3_0 := blk_cellp (hx.keep m3 (by simp)) 0 rfl
    have e3_1 := blk_cellp (hx.keep m3 (by simp)) 1 rfl
    clear hx
    simp only [List.take_succ_cons, List.take_zero]
    unfold Cx
    repeat (go_big_quiet_step (first | with_reducible exact K1.at _ _ | with_reducible exact K2.at _ _ | with_reducible exact KN.at _ _))
    exact wpQuiet_nil rfl
  simp only [List.drop_succ_cons, List.drop_zero]
  refine lex_nil ?_
  intro w2 hx hH
  have m5 := hH g5 _ (Blocks.put_same _ _ _)
  replace m4 := hx.keep m4 (by simp)
  have HB2 := Lib.hid (HB1.out.trans (hx.below_of (b := w.heap.size) (by simp) HB1.out.size))
  replace q5 := Nat.le_trans HB1.out.size q5
  clear hx hH HB1 m2 m3 q2 q3
  go_wp2_with (with_reducible refine wpList_from 21 [0, 2] [g4] _ (has_put (has_B0 _) m4) ?_)
  refine lex_quietE 1 (by kernel_rfl) (by rfl) ?_
  apply Exists.intro
  refine ⟨fun x hx => ?_, ?_⟩
  · have hwx := HB2.out.trans (hx.below_of (b := w.heap.size) (by simp [q4]) HB2.out.size)
    have e5_0 := blk_cellp (hx.keep m5 (by simp [n5_4])) 0 rfl
    have e5_1 := blk_cellp (hx.keep m5 (by simp [n5_4])) 1 rfl
    clear hx
    simp only [List.take_succ_cons, List.take_zero]
    unfold Cx
    repeat (go_big_quiet_step (fail))
    exact wpQuiet_nil rfl
  simp only [List.drop_succ_cons, List.drop_zero]
  refine lex_store_all g4 _ _ _ (by rfl) (by rfl) (by rfl) (Blocks.put_same _ _ _) (by rfl) (Or.inl (by simp)) (by kernel_rfl) (by simp [Value.oneCell']) ?_
  refine lex_nil ?_
  intro w3 hx hH
  replace m4 := hH g4 _ (Blocks.put_same _ _ _)
  have HB3 := Lib.hid (HB2.out.trans (hx.below_of (b := w.heap.size) (by simp [q4]) HB2.out.size))
  clear hx hH HB2 m5 q5
  have c4_0 := blk_cell m4 0 rfl
  have c4_1 := blk_cell m4 1 rfl
  go_wp2_with fail
  exact bodyPost_ret (v := .agg #[.string u, .string v]) (by simp [results, Tryz.results81, go_sem, c4_0, c4_1]) rfl ⟨rfl, HB3.out⟩

end Go.Proofs.YtbacloneddnaeaaGreat

/- The numbers of the reference of chapter 02. -/
namespace Go.Proofs.YtbacloneddnaeaaGreat
open Go.RowKit Num

/-- A number of the reference. -/
def xratV (p : Nat × Nat) : Value := .agg #[.string (dec p.1), .string (dec p.2)]

theorem dec_nl (n k : Nat) (hk : 0 < k) (h : nl n ≤ k) : (dec n).size ≤ 3 * k := dec_small_of n k hk h
theorem dec1 : dec 1 = { data := #[49] } := by kernel_rfl
theorem dec1_list : (dec 1).toList = [49] := by
  unfold dec
  rw [toList_mkStr]; rfl
theorem dec_not1 {b : Nat} (h : b ≠ 1) : ((dec b).toList == [49]) = false := by
  rw [beq_eq_false_iff_ne]
  intro e
  exact toList_ne (fun e2 => h (dec_inj e2)) (e.trans dec1_list.symm)

theorem gXZero : Gives 33 #[] (xratV (0, 1)) := by
  have := w_xzero
  rw [← dec_zero48, ← dec1] at this
  exact this

theorem gXNew (n d : Nat) (hn : nl n ≤ 1000000) (hd : nl d ≤ 1000000) (h0 : 0 < d) : Gives 66 #[.string (dec n), .string (dec d)] (.tuple #[xratV (Q.red n d), .bool true]) := by
  have hg : 0 < Nat.gcd n d := Nat.gcd_pos_of_pos_right n h0
  have sn := dec_nl n 1000000 (by omega) hn
  have sd := dec_nl d 1000000 (by omega) hd
  have sg := Nat.le_trans (dec_size_mono (Nat.gcd_le_right n h0)) sd
  exact w_xnew_n _ _ _ _ _ _ _ (dec_toList_ne (by omega)) (gXGcd n d (by omega) (by omega)) (gXDiv n (Nat.gcd n d) (by omega) (by omega) hg) (gXDiv d (Nat.gcd n d) (by omega) (by omega) hg)
theorem gXNewZ (n : Nat) : Gives 66 #[.string (dec n), .string (dec 0)] (.tuple #[xratV (0, 1), .bool false]) := by
  have := w_xnew_z (dec n) (dec 0) dec0_list (by have := gXZero; unfold xratV at this; rw [dec1, dec_zero48] at this; exact this)
  rw [← dec_zero48, ← dec1] at this
  exact this

theorem gXText (p : Nat × Nat) (hp : Sm 1000000 p) (h0 : 0 < p.2) : Gives 24 #[xratV p] (.string (rtext p)) := by
  obtain ⟨n, d⟩ := p
  obtain ⟨h1, h2⟩ := hp
  unfold rtext
  simp only at *
  rw [dn_of h0]
  by_cases h : d = 1
  · rw [if_pos h]
    subst h
    exact w_xtext1 _ _ dec1_list
  · rw [if_neg h]
    exact w_xtext2 _ _ (dec_not1 h) (dec_small n h1) (dec_small d h2)

theorem sm_dec {p : Nat × Nat} (h : Sm 10000 p) : (dec p.1).size ≤ 30000 ∧ (dec p.2).size ≤ 30000 := ⟨dec_nl _ 10000 (by omega) h.1, dec_nl _ 10000 (by omega) h.2⟩

section
variable (p q : Nat × Nat) (hp : Sm 10000 p) (hq : Sm 10000 q) (lp : Q.Low p) (lq : Q.Low q)
include hp hq

theorem gOver : Gives 65 #[xratV p, xratV q] (.tuple #[.string (dec (p.1 * q.2)), .string (dec (q.1 * p.2)), .string (dec (p.2 * q.2))]) := by
  obtain ⟨h1, h2⟩ := sm_dec hp
  obtain ⟨h3, h4⟩ := sm_dec hq
  exact w_over _ _ _ _ _ _ _ (gXMul _ _ (by omega) (by omega)) (gXMul _ _ (by omega) (by omega)) (gXMul _ _ (by omega) (by omega))

theorem gXCmp2 : Gives 79 #[xratV p, xratV q] (.int .i64 (Q.cmp p q)) := w_xcmp _ _ _ _ _ _ _ _ (gOver p q hp hq) (gXCmp _ _)

include lp lq
theorem gXAdd2 : Gives 34 #[xratV p, xratV q] (xratV (Q.add p q)) := by
  obtain ⟨h1, h2⟩ := hp
  obtain ⟨h3, h4⟩ := hq
  have e1 := nl_mul p.1 q.2
  have e2 := nl_mul q.1 p.2
  have e3 := nl_mul p.2 q.2
  have e4 := nl_add (p.1 * q.2) (q.1 * p.2)
  have s1 := dec_nl (p.1 * q.2) 20000 (by omega) (by omega)
  have s2 := dec_nl (q.1 * p.2) 20000 (by omega) (by omega)
  exact w_xadd _ _ _ _ _ _ _ _ _ _ true (gOver p q ⟨h1, h2⟩ ⟨h3, h4⟩) (gXAdd _ _ (by omega) (by omega)) (gXNew _ _ (by omega) (by omega) (Nat.mul_pos lp.1 lq.1))

theorem gXMul2 : Gives 81 #[xratV p, xratV q] (xratV (Q.mul p q)) := by
  obtain ⟨h1, h2⟩ := hp
  obtain ⟨h3, h4⟩ := hq
  have e1 := nl_mul p.1 q.1
  have e3 := nl_mul p.2 q.2
  have s1 := dec_nl p.1 10000 (by omega) h1
  have s2 := dec_nl p.2 10000 (by omega) h2
  have s3 := dec_nl q.1 10000 (by omega) h3
  have s4 := dec_nl q.2 10000 (by omega) h4
  exact w_xmul _ _ _ _ _ _ _ _ true (gXMul _ _ (by omega) (by omega)) (gXMul _ _ (by omega) (by omega)) (gXNew _ _ (by omega) (by omega) (Nat.mul_pos lp.1 lq.1))

end

end Go.Proofs.YtbacloneddnaeaaGreat

/- The law RatReads. -/
namespace Go.Proofs.YtbacloneddnaeaaGreat
open Go.RowKit Num

theorem gXRead1 : Gives 105 #[.string { data := #[49] }] (.tuple #[.string { data := #[49] }, .bool true]) := by
  have := gXRead { data := #[49] } (by decide)
  rw [show decOk (bts { data := #[49] }) = true by kernel_rfl, if_pos rfl] at this
  exact this

theorem decOk_none {l : List Nat} (h : readN l = none) : decOk l = false := by
  cases h1 : decOk l with
  | false => rfl
  | true => rw [readN_ok h1] at h; cases h

theorem gXReadN {s : ByteArray} (hs : s.size ≤ 9223372036854775807) (h : readN (bts s) = none) : Gives 105 #[.string s] (.tuple #[.string { data := #[48] }, .bool false]) := by
  have := gXRead s hs
  rw [decOk_none h, if_neg (by decide)] at this
  exact this
theorem gXReadY {s : ByteArray} {n : Nat} (hs : s.size ≤ 9223372036854775807) (h : readN (bts s) = some n) : Gives 105 #[.string s] (.tuple #[.string (dec n), .bool true]) := by
  obtain ⟨h1, _, h3⟩ := readN_small h
  have := gXRead s hs
  rw [h3, if_pos rfl] at this
  rw [← h1]; exact this

theorem gXRatRead (s : ByteArray) (hs : s.size ≤ 1000) : Gives 93 #[.string s] (.tuple #[xratV ((ratRead s).getD (0, 1)), .bool (ratRead s).isSome]) := by
  have KZ := w_xzero
  cases hc : cutL (bts s) with
  | none =>
    rw [ratRead_no hc]
    have hno := (cut_miss hc).2
    cases hr : readN (bts s) with
    | none =>
      have := w_xrread1a s _ _ s s s true hno (by omega) (gXReadN (by omega) hr) gXRead1 KZ
      rw [← dec_zero48, ← dec1] at this
      exact this
    | some n =>
      obtain ⟨h1, h2, _⟩ := readN_small hr
      have KN := gXNew n 1 (by omega) (by decide) (by decide)
      have KT := gXText (n, 1) ⟨by simp only; omega, by simp only; decide⟩ Nat.one_pos
      rw [red_one, dec1] at KN
      rw [show rtext (n, 1) = s by rw [h1]; rfl] at KT
      exact w_xrread1e s _ _ _ _ s true hno (by omega) (gXReadY (by omega) hr) gXRead1 KN KT
  | some p =>
    obtain ⟨a, b⟩ := p
    obtain ⟨hk, _, h47, hno, ea, eb⟩ := cut_hit hc
    have z1 : (s.extract 0 a.length).size ≤ 1000 := by rw [← bts_length, ea]; omega
    have z2 : (s.extract (a.length + 1) s.size).size ≤ 1000 := by
      have := congrArg List.length (cutL_some hc).1
      rw [bts_length] at this
      simp at this
      rw [← bts_length, eb]; omega
    have h47 := h47 hk
    rw [ratRead_at hc]
    cases hra : readN a with
    | none =>
      have hr : readN (bts (s.extract 0 a.length)) = none := by rw [ea]; exact hra
      rw [pairRead_none]
      have KR2 := gXRead (s.extract (a.length + 1) s.size) (by omega)
      have := w_xrread2a s _ _ s s s _ a.length hk h47 hno (by omega) (gXReadN (by omega) hr) KR2 KZ
      rw [← dec_zero48, ← dec1] at this
      exact this
    | some n =>
      have hr : readN (bts (s.extract 0 a.length)) = some n := by rw [ea]; exact hra
      cases hrb : readN b with
      | none =>
        have hr2 : readN (bts (s.extract (a.length + 1) s.size)) = none := by rw [eb]; exact hrb
        rw [pairRead_none2]
        have := w_xrread2b s _ _ s s s true a.length hk h47 hno (by omega) (gXReadY (by omega) hr) (gXReadN (by omega) hr2) KZ
        rw [← dec_zero48, ← dec1] at this
        exact this
      | some d =>
        have hr2 : readN (bts (s.extract (a.length + 1) s.size)) = some d := by rw [eb]; exact hrb
        obtain ⟨_, h2, _⟩ := readN_small hr
        obtain ⟨_, h4, _⟩ := readN_small hr2
        have KR := gXReadY (by omega) hr
        have KR2 := gXReadY (by omega) hr2
        rw [pairRead_some]
        rcases Nat.eq_zero_or_pos d with h0 | h0
        · subst h0
          rw [if_neg (fun h => absurd h.1 (Nat.lt_irrefl 0))]
          have := w_xrread2c s _ _ _ _ s true a.length hk h47 hno (by omega) KR KR2 (gXNewZ n) KZ
          rw [← dec_zero48, ← dec1] at this
          exact this
        · have KN := gXNew n d (by omega) (by omega) h0
          have KT := gXText (Q.red n d) (Sm.mono (Sm.red (k := 1000) (by omega) (by omega)) (by omega)) (Q.red_low h0).1
          by_cases ht : rtext (Q.red n d) = s
          · rw [if_pos ⟨h0, ht⟩]
            rw [ht] at KT
            exact w_xrread2e s _ _ _ _ s true a.length hk h47 hno (by omega) KR KR2 KN KT
          · rw [if_neg fun h => ht h.2]
            have := w_xrread2d s _ _ _ _ _ true a.length hk h47 hno (by omega) (by rw [beq_eq_false_iff_ne]; exact toList_ne ht) KR KR2 KN KZ KT
            rw [← dec_zero48, ← dec1] at this
            exact this

end Go.Proofs.YtbacloneddnaeaaGreat

/- Numbers of chapter 40. -/
namespace Go.Proofs.YtbacloneddnaeaaGreat
open Go.RowKit Num

/-- What a text stands for: 0 if it is no number. -/
def numQ (s : ByteArray) : Nat × Nat := (ratRead s).getD (0, 1)
theorem numQ_low (s : ByteArray) : Q.Low (numQ s) := by
  unfold numQ
  cases h : ratRead s with
  | none => exact ⟨by decide, by decide⟩
  | some r => exact (ratRead_spec h).2.1
theorem gBOne : Gives 36 #[] (ratV (1, 1)) := w_bone _ _ true (gROf 1 1 (by decide) (by decide) (by decide))

theorem gXNum (s : ByteArray) (hs : s.size ≤ 1000) : Gives 78 #[.string s] (xratV (numQ s)) := by
  have KR := gXRatRead s hs
  unfold numQ
  cases h : ratRead s with
  | none =>
    rw [h] at KR
    have := w_xnum_n s _ _ KR w_xzero
    rw [← dec_zero48, ← dec1] at this
    exact this
  | some r =>
    rw [h] at KR
    exact w_xnum_y s _ _ KR

theorem gXOne : Gives 80 #[] (xratV (1, 1)) := by
  have := gXNum { data := #[49] } (by decide)
  rw [show numQ { data := #[49] } = (1, 1) by kernel_rfl] at this
  exact w_xone _ _ this

end Go.Proofs.YtbacloneddnaeaaGreat
