/- Walks of laws of chapter 02. -/
import Derived.Test.YtlomlcljjidfjaaLGive
import Derived.Test.YtlomlcljjidfjaaGame2
namespace Go.Proofs.Ytlomlcljjidfjaa
open Go.RowKit Num

set_option maxHeartbeats 1600000 in
set_option maxRecDepth 100000 in
theorem w_rzero_z (Na Da t : ByteArray) (ht : t.toList = [48]) (a1 a2 c1 c2 z1 z2 d1 d2 p1 p2 s1 s2 y1 y2 : ByteArray) (KA : Gives 13 #[.agg #[.string Na, .string Da]] (.agg #[.string a1, .string a2])) (XA : Gives 27 #[.agg #[.string Na, .string Da]] (.agg #[.string c1, .string c2])) (KZ : Gives 35 #[] (.agg #[.string z1, .string z2])) (K1 : Gives 29 #[.agg #[.string a1, .string a2], .agg #[.string ByteArray.empty, .string ByteArray.empty]] (.tuple #[.agg #[.string d1, .string d2], .bool true])) (K2 : Gives 25 #[.agg #[.string a1, .string a2], .agg #[.string ByteArray.empty, .string ByteArray.empty]] (.tuple #[.agg #[.string ByteArray.empty, .string ByteArray.empty], .bool false])) (K3 : Gives 25 #[.agg #[.string ByteArray.empty, .string ByteArray.empty], .agg #[.string a1, .string a2]] (.tuple #[.agg #[.string p1, .string p2], .bool false])) (K4 : Gives 16 #[.agg #[.string ByteArray.empty, .string ByteArray.empty], .agg #[.string a1, .string a2]] (.agg #[.string s1, .string s2])) (K5 : Gives 17 #[.agg #[.string a1, .string a2], .agg #[.string ByteArray.empty, .string ByteArray.empty]] (.agg #[.string y1, .string y2])) (KT : Gives 30 #[.agg #[.string a1, .string a2]] (.string t)) (S1 : Gives 24 #[.agg #[.string ByteArray.empty, .string ByteArray.empty], .agg #[.string z1, .string z2]] (.bool true)) (S2 : Gives 24 #[.agg #[.string s1, .string s2], .agg #[.string c1, .string c2]] (.bool true)) (S3 : Gives 24 #[.agg #[.string d1, .string d2], .agg #[.string c1, .string c2]] (.bool true)) (S4 : Gives 24 #[.agg #[.string p1, .string p2], .agg #[.string z1, .string z2]] (.bool true)) (S5 : Gives 24 #[.agg #[.string y1, .string y2], .agg #[.string z1, .string z2]] (.bool true)) (KW : Gives 18 #[] (.bool true)) : Gives 9 #[.agg #[.string Na, .string Da]] (.bool true) := by
  intro w
  have HB0 := Lib.hid (Below.refl w.heap.size w)
  go_enter Try.func9, Try.ntmps9
  go_wp2_with (with_reducible refine wpList_from 1 [3, 0] [] B0 (has_B0 _) ?_)
  refine lex_box_agg _ (by rfl) (by rfl) (fun g1 q1 hn1 => ?_)
  unfold setSlot
  go_big_quiet_step (fail)
  refine wpQuiet_nil ?_
  clear hn1
  refine lex_quietE 1 (by kernel_rfl) (by rfl) ?_
  apply Exists.intro
  refine ⟨fun x hx => ?_, ?_⟩
  · have hwx := HB0.out.trans (hx.below_of (b := w.heap.size) (by simp) HB0.out.size)
    clear hx
    simp only [List.take_succ_cons, List.take_zero]
    unfold Cx
    repeat (go_big_quiet_step (fail))
    exact wpQuiet_nil rfl
  simp only [List.drop_succ_cons, List.drop_zero]
  refine lex_nil ?_
  intro w1 hx hH
  have m1 := hH g1 _ (Blocks.put_same _ _ _)
  have HB1 := Lib.hid (HB0.out.trans (hx.below_of (b := w.heap.size) (by simp) HB0.out.size))
  replace q1 := Nat.le_trans HB0.out.size q1
  clear hx hH HB0
  go_wp2_with (with_reducible refine wpList_from 3 [3] [] B0 (has_B0 _) ?_)
  refine lex_alloc (.agg #[.string ByteArray.empty, .string ByteArray.empty]) (by rfl) (fun x => by kernel_rfl) (fun g3 q3 hn3 => ?_)
  unfold setSlot
  go_big_quiet_step (fail)
  refine wpQuiet_nil ?_
  clear hn3
  refine lex_nil ?_
  intro w2 hx hH
  have m3 := hH g3 _ (Blocks.put_same _ _ _)
  replace m1 := hx.keep m1 (by simp)
  have HB2 := Lib.hid (HB1.out.trans (hx.below_of (b := w.heap.size) (by simp) HB1.out.size))
  replace q3 := Nat.le_trans HB1.out.size q3
  clear hx hH HB1
  go_wp2_with (with_reducible refine wpList_from 11 [0, 0, 3, 2] [] B0 (has_B0 _) ?_)
  refine lex_quietE 2 (by kernel_rfl) (by rfl) ?_
  apply Exists.intro
  refine ⟨fun x hx => ?_, ?_⟩
  · have hwx := HB2.out.trans (hx.below_of (b := w.heap.size) (by simp) HB2.out.size)
    have e1_0 := blk_cellp (hx.keep m1 (by simp)) 0 rfl
    have e1_1 := blk_cellp (hx.keep m1 (by simp)) 1 rfl
    clear hx
    simp only [List.take_succ_cons, List.take_zero]
    unfold Cx
    repeat (go_big_quiet_step (first | with_reducible exact KA.at _ _))
    exact wpQuiet_nil rfl
  simp only [List.drop_succ_cons, List.drop_zero]
  refine lex_alloc (.agg #[.string ByteArray.empty, .string ByteArray.empty]) (by rfl) (fun x => by kernel_rfl) (fun g4 q4 hn4 => ?_)
  unfold setSlot
  go_big_quiet_step (fail)
  refine wpQuiet_nil ?_
  clear hn4
  refine lex_store_all g4 _ _ _ (by rfl) (by rfl) (by rfl) (Blocks.put_same _ _ _) (by rfl) (Or.inr q4) (by kernel_rfl) (by simp [Value.oneCell']) ?_
  refine lex_nil ?_
  intro w3 hx hH
  have m4 := hH g4 _ (Blocks.put_same _ _ _)
  replace m1 := hx.keep m1 (by simp)
  replace m3 := hx.keep m3 (by simp)
  have HB3 := Lib.hid (HB2.out.trans (hx.below_of (b := w.heap.size) (by simp) HB2.out.size))
  replace q4 := Nat.le_trans HB2.out.size q4
  clear hx hH HB2
  go_wp2_with (with_reducible refine wpList_from 14 [0, 0, 0, 0, 0, 0, 3, 2, 0] [] B0 (has_B0 _) ?_)
  refine lex_quietE 6 (by kernel_rfl) (by rfl) ?_
  apply Exists.intro
  refine ⟨fun x hx => ?_, ?_⟩
  · have hwx := HB3.out.trans (hx.below_of (b := w.heap.size) (by simp) HB3.out.size)
    have e4_0 := blk_cellp (hx.keep m4 (by simp)) 0 rfl
    have e4_1 := blk_cellp (hx.keep m4 (by simp)) 1 rfl
    have e3_0 := blk_cellp (hx.keep m3 (by simp)) 0 rfl
    have e3_1 := blk_cellp (hx.keep m3 (by simp)) 1 rfl
    clear hx
    simp only [List.take_succ_cons, List.take_zero]
    unfold Cx
    repeat (go_big_quiet_step (first | with_reducible exact K1.at _ _))
    exact wpQuiet_nil rfl
  simp only [List.drop_succ_cons, List.drop_zero]
  refine lex_alloc (.agg #[.string ByteArray.empty, .string ByteArray.empty]) (by rfl) (fun x => by kernel_rfl) (fun g5 q5 hn5 => ?_)
  unfold setSlot
  go_big_quiet_step (fail)
  refine wpQuiet_nil ?_
  clear hn5
  refine lex_store_all g5 _ _ _ (by rfl) (by rfl) (by rfl) (Blocks.put_same _ _ _) (by rfl) (Or.inr q5) (by kernel_rfl) (by simp [Value.oneCell']) ?_
  refine lex_quietE 1 (by kernel_rfl) (by rfl) ?_
  apply Exists.intro
  refine ⟨fun x hx => ?_, ?_⟩
  · have hwx := HB3.out.trans (hx.below_of (b := w.heap.size) (by simp) HB3.out.size)
    have e4_0 := blk_cellp (hx.keep m4 (by simp)) 0 rfl
    have e4_1 := blk_cellp (hx.keep m4 (by simp)) 1 rfl
    have e3_0 := blk_cellp (hx.keep m3 (by simp)) 0 rfl
    have e3_1 := blk_cellp (hx.keep m3 (by simp)) 1 rfl
    clear hx
    simp only [List.take_succ_cons, List.take_zero]
    unfold Cx
    repeat (go_big_quiet_step (first | with_reducible exact K1.at _ _))
    exact wpQuiet_nil rfl
  simp only [List.drop_succ_cons, List.drop_zero]
  refine lex_nil ?_
  intro w4 hx hH
  have m5 := hH g5 _ (Blocks.put_same _ _ _)
  replace m1 := hx.keep m1 (by simp)
  replace m3 := hx.keep m3 (by simp)
  replace m4 := hx.keep m4 (by simp)
  have HB4 := Lib.hid (HB3.out.trans (hx.below_of (b := w.heap.size) (by simp) HB3.out.size))
  replace q5 := Nat.le_trans HB3.out.size q5
  clear hx hH HB3
  go_wp2_with (with_reducible refine wpList_from 20 [0, 0, 0, 0, 0, 0, 3, 2, 0] [] B0 (has_B0 _) ?_)
  refine lex_quietE 6 (by kernel_rfl) (by rfl) ?_
  apply Exists.intro
  refine ⟨fun x hx => ?_, ?_⟩
  · have hwx := HB4.out.trans (hx.below_of (b := w.heap.size) (by simp) HB4.out.size)
    have e4_0 := blk_cellp (hx.keep m4 (by simp)) 0 rfl
    have e4_1 := blk_cellp (hx.keep m4 (by simp)) 1 rfl
    have e3_0 := blk_cellp (hx.keep m3 (by simp)) 0 rfl
    have e3_1 := blk_cellp (hx.keep m3 (by simp)) 1 rfl
    clear hx
    simp only [List.take_succ_cons, List.take_zero]
    unfold Cx
    repeat (go_big_quiet_step (first | with_reducible exact K2.at _ _))
    exact wpQuiet_nil rfl
  simp only [List.drop_succ_cons, List.drop_zero]
  refine lex_alloc (.agg #[.string ByteArray.empty, .string ByteArray.empty]) (by rfl) (fun x => by kernel_rfl) (fun g7 q7 hn7 => ?_)
  unfold setSlot
  go_big_quiet_step (fail)
  refine wpQuiet_nil ?_
  clear hn7
  refine lex_store_all g7 _ _ _ (by rfl) (by rfl) (by rfl) (Blocks.put_same _ _ _) (by rfl) (Or.inr q7) (by kernel_rfl) (by simp [Value.oneCell']) ?_
  refine lex_quietE 1 (by kernel_rfl) (by rfl) ?_
  apply Exists.intro
  refine ⟨fun x hx => ?_, ?_⟩
  · have hwx := HB4.out.trans (hx.below_of (b := w.heap.size) (by simp) HB4.out.size)
    have e4_0 := blk_cellp (hx.keep m4 (by simp)) 0 rfl
    have e4_1 := blk_cellp (hx.keep m4 (by simp)) 1 rfl
    have e3_0 := blk_cellp (hx.keep m3 (by simp)) 0 rfl
    have e3_1 := blk_cellp (hx.keep m3 (by simp)) 1 rfl
    clear hx
    simp only [List.take_succ_cons, List.take_zero]
    unfold Cx
    repeat (go_big_quiet_step (first | with_reducible exact K2.at _ _))
    exact wpQuiet_nil rfl
  simp only [List.drop_succ_cons, List.drop_zero]
  refine lex_nil ?_
  intro w5 hx hH
  have m7 := hH g7 _ (Blocks.put_same _ _ _)
  replace m1 := hx.keep m1 (by simp)
  replace m3 := hx.keep m3 (by simp)
  replace m4 := hx.keep m4 (by simp)
  replace m5 := hx.keep m5 (by simp)
  have HB5 := Lib.hid (HB4.out.trans (hx.below_of (b := w.heap.size) (by simp) HB4.out.size))
  replace q7 := Nat.le_trans HB4.out.size q7
  clear hx hH HB4
  go_wp2_with (with_reducible refine wpList_from 26 [0, 0, 0, 0, 0, 0, 3, 2, 0] [] B0 (has_B0 _) ?_)
  refine lex_quietE 6 (by kernel_rfl) (by rfl) ?_
  apply Exists.intro
  refine ⟨fun x hx => ?_, ?_⟩
  · have hwx := HB5.out.trans (hx.below_of (b := w.heap.size) (by simp) HB5.out.size)
    have e3_0 := blk_cellp (hx.keep m3 (by simp)) 0 rfl
    have e3_1 := blk_cellp (hx.keep m3 (by simp)) 1 rfl
    have e4_0 := blk_cellp (hx.keep m4 (by simp)) 0 rfl
    have e4_1 := blk_cellp (hx.keep m4 (by simp)) 1 rfl
    clear hx
    simp only [List.take_succ_cons, List.take_zero]
    unfold Cx
    repeat (go_big_quiet_step (first | with_reducible exact K3.at _ _))
    exact wpQuiet_nil rfl
  simp only [List.drop_succ_cons, List.drop_zero]
  refine lex_alloc (.agg #[.string ByteArray.empty, .string ByteArray.empty]) (by rfl) (fun x => by kernel_rfl) (fun g9 q9 hn9 => ?_)
  unfold setSlot
  go_big_quiet_step (fail)
  refine wpQuiet_nil ?_
  clear hn9
  refine lex_store_all g9 _ _ _ (by rfl) (by rfl) (by rfl) (Blocks.put_same _ _ _) (by rfl) (Or.inr q9) (by kernel_rfl) (by simp [Value.oneCell']) ?_
  refine lex_quietE 1 (by kernel_rfl) (by rfl) ?_
  apply Exists.intro
  refine ⟨fun x hx => ?_, ?_⟩
  · have hwx := HB5.out.trans (hx.below_of (b := w.heap.size) (by simp) HB5.out.size)
    have e3_0 := blk_cellp (hx.keep m3 (by simp)) 0 rfl
    have e3_1 := blk_cellp (hx.keep m3 (by simp)) 1 rfl
    have e4_0 := blk_cellp (hx.keep m4 (by simp)) 0 rfl
    have e4_1 := blk_cellp (hx.keep m4 (by simp)) 1 rfl
    clear hx
    simp only [List.take_succ_cons, List.take_zero]
    unfold Cx
    repeat (go_big_quiet_step (first | with_reducible exact K3.at _ _))
    exact wpQuiet_nil rfl
  simp only [List.drop_succ_cons, List.drop_zero]
  refine lex_nil ?_
  intro w6 hx hH
  have m9 := hH g9 _ (Blocks.put_same _ _ _)
  replace m1 := hx.keep m1 (by simp)
  replace m3 := hx.keep m3 (by simp)
  replace m4 := hx.keep m4 (by simp)
  replace m5 := hx.keep m5 (by simp)
  replace m7 := hx.keep m7 (by simp)
  have HB6 := Lib.hid (HB5.out.trans (hx.below_of (b := w.heap.size) (by simp) HB5.out.size))
  replace q9 := Nat.le_trans HB5.out.size q9
  clear hx hH HB5
  go_wp2_with fail
  refine wp_game [0, 0, 0, 0, 0, 0, 0, 0, 0, 0, 0, 0, 0, 0, 0, 0, 0, 0, 0, 0, 0, 0, 0, 0, 0, 0, 0, 0, 0, 0, 0, 0, 0, 0, 0, 0, 0, 0, 0, 0, 0, 0, 0, 0, 0, 0, 0, 0, 0, 0, 0, 0] [] B0 fin_B0 (has_B0 _) (by kernel_rfl) (by kernel_rfl) ?_
  refine lex_quietE 52 (by kernel_rfl) (by rfl) ?_
  apply Exists.intro
  refine ⟨fun x hx => ?_, ?_⟩
  · have hwx := HB6.out.trans (hx.below_of (b := w.heap.size) (by simp) HB6.out.size)
    have e3_0 := blk_cellp (hx.keep m3 (by simp)) 0 rfl
    have e3_1 := blk_cellp (hx.keep m3 (by simp)) 1 rfl
    have e4_0 := blk_cellp (hx.keep m4 (by simp)) 0 rfl
    have e4_1 := blk_cellp (hx.keep m4 (by simp)) 1 rfl
    have e1_0 := blk_cellp (hx.keep m1 (by simp)) 0 rfl
    have e1_1 := blk_cellp (hx.keep m1 (by simp)) 1 rfl
    have e5_0 := blk_cellp (hx.keep m5 (by simp)) 0 rfl
    have e5_1 := blk_cellp (hx.keep m5 (by simp)) 1 rfl
    have e7_0 := blk_cellp (hx.keep m7 (by simp)) 0 rfl
    have e7_1 := blk_cellp (hx.keep m7 (by simp)) 1 rfl
    have e9_0 := blk_cellp (hx.keep m9 (by simp)) 0 rfl
    have e9_1 := blk_cellp (hx.keep m9 (by simp)) 1 rfl
    clear hx
    simp only [List.take_succ_cons, List.take_zero]
    unfold Cx
    repeat (go_big_quiet_step (first | with_reducible exact KZ.at _ _ | with_reducible exact XA.at _ _ | with_reducible exact S1.at _ _ | with_reducible exact K4.at _ _ | with_reducible exact S2.at _ _ | with_reducible exact S3.at _ _ | with_reducible exact KT.at _ _ | with_reducible exact S4.at _ _ | with_reducible exact K5.at _ _ | with_reducible exact S5.at _ _ | with_reducible exact KW.at _ _))
    exact wpQuiet_nil rfl
  simp only [List.drop_succ_cons, List.drop_zero]
  refine lex_nil ?_
  intro w7 hx hH
  have HB7 := Lib.hid (HB6.out.trans (hx.below_of (b := w.heap.size) (by simp) HB6.out.size))
  clear hx hH HB6 m1 m3 m4 m5 m7 m9 q1 q3 q4 q5 q7 q9
  go_wp2_with fail
  exact bodyPost_ret (v := .bool true) (by simp [results, Try.results9, go_sem]) rfl ⟨rfl, HB7.out⟩

set_option maxHeartbeats 1600000 in
set_option maxRecDepth 100000 in
theorem w_rzero_n (Na Da t : ByteArray) (ht : (t.toList == [48]) = false) (a1 a2 c1 c2 z1 z2 d1 d2 p1 p2 s1 s2 y1 y2 : ByteArray) (KA : Gives 13 #[.agg #[.string Na, .string Da]] (.agg #[.string a1, .string a2])) (XA : Gives 27 #[.agg #[.string Na, .string Da]] (.agg #[.string c1, .string c2])) (KZ : Gives 35 #[] (.agg #[.string z1, .string z2])) (K1 : Gives 29 #[.agg #[.string a1, .string a2], .agg #[.string ByteArray.empty, .string ByteArray.empty]] (.tuple #[.agg #[.string d1, .string d2], .bool true])) (K2 : Gives 25 #[.agg #[.string a1, .string a2], .agg #[.string ByteArray.empty, .string ByteArray.empty]] (.tuple #[.agg #[.string ByteArray.empty, .string ByteArray.empty], .bool false])) (K3 : Gives 25 #[.agg #[.string ByteArray.empty, .string ByteArray.empty], .agg #[.string a1, .string a2]] (.tuple #[.agg #[.string p1, .string p2], .bool true])) (K4 : Gives 16 #[.agg #[.string ByteArray.empty, .string ByteArray.empty], .agg #[.string a1, .string a2]] (.agg #[.string s1, .string s2])) (K5 : Gives 17 #[.agg #[.string a1, .string a2], .agg #[.string ByteArray.empty, .string ByteArray.empty]] (.agg #[.string y1, .string y2])) (KT : Gives 30 #[.agg #[.string a1, .string a2]] (.string t)) (S1 : Gives 24 #[.agg #[.string ByteArray.empty, .string ByteArray.empty], .agg #[.string z1, .string z2]] (.bool true)) (S2 : Gives 24 #[.agg #[.string s1, .string s2], .agg #[.string c1, .string c2]] (.bool true)) (S3 : Gives 24 #[.agg #[.string d1, .string d2], .agg #[.string c1, .string c2]] (.bool true)) (S4 : Gives 24 #[.agg #[.string p1, .string p2], .agg #[.string z1, .string z2]] (.bool true)) (S5 : Gives 24 #[.agg #[.string y1, .string y2], .agg #[.string z1, .string z2]] (.bool true)) (KW : Gives 18 #[] (.bool true)) : Gives 9 #[.agg #[.string Na, .string Da]] (.bool true) := by
  intro w
  have HB0 := Lib.hid (Below.refl w.heap.size w)
  go_enter Try.func9, Try.ntmps9
  go_wp2_with (with_reducible refine wpList_from 1 [3, 0] [] B0 (has_B0 _) ?_)
  refine lex_box_agg _ (by rfl) (by rfl) (fun g1 q1 hn1 => ?_)
  unfold setSlot
  go_big_quiet_step (fail)
  refine wpQuiet_nil ?_
  clear hn1
  refine lex_quietE 1 (by kernel_rfl) (by rfl) ?_
  apply Exists.intro
  refine ⟨fun x hx => ?_, ?_⟩
  · have hwx := HB0.out.trans (hx.below_of (b := w.heap.size) (by simp) HB0.out.size)
    clear hx
    simp only [List.take_succ_cons, List.take_zero]
    unfold Cx
    repeat (go_big_quiet_step (fail))
    exact wpQuiet_nil rfl
  simp only [List.drop_succ_cons, List.drop_zero]
  refine lex_nil ?_
  intro w1 hx hH
  have m1 := hH g1 _ (Blocks.put_same _ _ _)
  have HB1 := Lib.hid (HB0.out.trans (hx.below_of (b := w.heap.size) (by simp) HB0.out.size))
  replace q1 := Nat.le_trans HB0.out.size q1
  clear hx hH HB0
  go_wp2_with (with_reducible refine wpList_from 3 [3] [] B0 (has_B0 _) ?_)
  refine lex_alloc (.agg #[.string ByteArray.empty, .string ByteArray.empty]) (by rfl) (fun x => by kernel_rfl) (fun g3 q3 hn3 => ?_)
  unfold setSlot
  go_big_quiet_step (fail)
  refine wpQuiet_nil ?_
  clear hn3
  refine lex_nil ?_
  intro w2 hx hH
  have m3 := hH g3 _ (Blocks.put_same _ _ _)
  replace m1 := hx.keep m1 (by simp)
  have HB2 := Lib.hid (HB1.out.trans (hx.below_of (b := w.heap.size) (by simp) HB1.out.size))
  replace q3 := Nat.le_trans HB1.out.size q3
  clear hx hH HB1
  go_wp2_with (with_reducible refine wpList_from 11 [0, 0, 3, 2] [] B0 (has_B0 _) ?_)
  refine lex_quietE 2 (by kernel_rfl) (by rfl) ?_
  apply Exists.intro
  refine ⟨fun x hx => ?_, ?_⟩
  · have hwx := HB2.out.trans (hx.below_of (b := w.heap.size) (by simp) HB2.out.size)
    have e1_0 := blk_cellp (hx.keep m1 (by simp)) 0 rfl
    have e1_1 := blk_cellp (hx.keep m1 (by simp)) 1 rfl
    clear hx
    simp only [List.take_succ_cons, List.take_zero]
    unfold Cx
    repeat (go_big_quiet_step (first | with_reducible exact KA.at _ _))
    exact wpQuiet_nil rfl
  simp only [List.drop_succ_cons, List.drop_zero]
  refine lex_alloc (.agg #[.string ByteArray.empty, .string ByteArray.empty]) (by rfl) (fun x => by kernel_rfl) (fun g4 q4 hn4 => ?_)
  unfold setSlot
  go_big_quiet_step (fail)
  refine wpQuiet_nil ?_
  clear hn4
  refine lex_store_all g4 _ _ _ (by rfl) (by rfl) (by rfl) (Blocks.put_same _ _ _) (by rfl) (Or.inr q4) (by kernel_rfl) (by simp [Value.oneCell']) ?_
  refine lex_nil ?_
  intro w3 hx hH
  have m4 := hH g4 _ (Blocks.put_same _ _ _)
  replace m1 := hx.keep m1 (by simp)
  replace m3 := hx.keep m3 (by simp)
  have HB3 := Lib.hid (HB2.out.trans (hx.below_of (b := w.heap.size) (by simp) HB2.out.size))
  replace q4 := Nat.le_trans HB2.out.size q4
  clear hx hH HB2
  go_wp2_with (with_reducible refine wpList_from 14 [0, 0, 0, 0, 0, 0, 3, 2, 0] [] B0 (has_B0 _) ?_)
  refine lex_quietE 6 (by kernel_rfl) (by rfl) ?_
  apply Exists.intro
  refine ⟨fun x hx => ?_, ?_⟩
  · have hwx := HB3.out.trans (hx.below_of (b := w.heap.size) (by simp) HB3.out.size)
    have e4_0 := blk_cellp (hx.keep m4 (by simp)) 0 rfl
    have e4_1 := blk_cellp (hx.keep m4 (by simp)) 1 rfl
    have e3_0 := blk_cellp (hx.keep m3 (by simp)) 0 rfl
    have e3_1 := blk_cellp (hx.keep m3 (by simp)) 1 rfl
    clear hx
    simp only [List.take_succ_cons, List.take_zero]
    unfold Cx
    repeat (go_big_quiet_step (first | with_reducible exact K1.at _ _))
    exact wpQuiet_nil rfl
  simp only [List.drop_succ_cons, List.drop_zero]
  refine lex_alloc (.agg #[.string ByteArray.empty, .string ByteArray.empty]) (by rfl) (fun x => by kernel_rfl) (fun g5 q5 hn5 => ?_)
  unfold setSlot
  go_big_quiet_step (fail)
  refine wpQuiet_nil ?_
  clear hn5
  refine lex_store_all g5 _ _ _ (by rfl) (by rfl) (by rfl) (Blocks.put_same _ _ _) (by rfl) (Or.inr q5) (by kernel_rfl) (by simp [Value.oneCell']) ?_
  refine lex_quietE 1 (by kernel_rfl) (by rfl) ?_
  apply Exists.intro
  refine ⟨fun x hx => ?_, ?_⟩
  · have hwx := HB3.out.trans (hx.below_of (b := w.heap.size) (by simp) HB3.out.size)
    have e4_0 := blk_cellp (hx.keep m4 (by simp)) 0 rfl
    have e4_1 := blk_cellp (hx.keep m4 (by simp)) 1 rfl
    have e3_0 := blk_cellp (hx.keep m3 (by simp)) 0 rfl
    have e3_1 := blk_cellp (hx.keep m3 (by simp)) 1 rfl
    clear hx
    simp only [List.take_succ_cons, List.take_zero]
    unfold Cx
    repeat (go_big_quiet_step (first | with_reducible exact K1.at _ _))
    exact wpQuiet_nil rfl
  simp only [List.drop_succ_cons, List.drop_zero]
  refine lex_nil ?_
  intro w4 hx hH
  have m5 := hH g5 _ (Blocks.put_same _ _ _)
  replace m1 := hx.keep m1 (by simp)
  replace m3 := hx.keep m3 (by simp)
  replace m4 := hx.keep m4 (by simp)
  have HB4 := Lib.hid (HB3.out.trans (hx.below_of (b := w.heap.size) (by simp) HB3.out.size))
  replace q5 := Nat.le_trans HB3.out.size q5
  clear hx hH HB3
  go_wp2_with (with_reducible refine wpList_from 20 [0, 0, 0, 0, 0, 0, 3, 2, 0] [] B0 (has_B0 _) ?_)
  refine lex_quietE 6 (by kernel_rfl) (by rfl) ?_
  apply Exists.intro
  refine ⟨fun x hx => ?_, ?_⟩
  · have hwx := HB4.out.trans (hx.below_of (b := w.heap.size) (by simp) HB4.out.size)
    have e4_0 := blk_cellp (hx.keep m4 (by simp)) 0 rfl
    have e4_1 := blk_cellp (hx.keep m4 (by simp)) 1 rfl
    have e3_0 := blk_cellp (hx.keep m3 (by simp)) 0 rfl
    have e3_1 := blk_cellp (hx.keep m3 (by simp)) 1 rfl
    clear hx
    simp only [List.take_succ_cons, List.take_zero]
    unfold Cx
    repeat (go_big_quiet_step (first | with_reducible exact K2.at _ _))
    exact wpQuiet_nil rfl
  simp only [List.drop_succ_cons, List.drop_zero]
  refine lex_alloc (.agg #[.string ByteArray.empty, .string ByteArray.empty]) (by rfl) (fun x => by kernel_rfl) (fun g7 q7 hn7 => ?_)
  unfold setSlot
  go_big_quiet_step (fail)
  refine wpQuiet_nil ?_
  clear hn7
  refine lex_store_all g7 _ _ _ (by rfl) (by rfl) (by rfl) (Blocks.put_same _ _ _) (by rfl) (Or.inr q7) (by kernel_rfl) (by simp [Value.oneCell']) ?_
  refine lex_quietE 1 (by kernel_rfl) (by rfl) ?_
  apply Exists.intro
  refine ⟨fun x hx => ?_, ?_⟩
  · have hwx := HB4.out.trans (hx.below_of (b := w.heap.size) (by simp) HB4.out.size)
    have e4_0 := blk_cellp (hx.keep m4 (by simp)) 0 rfl
    have e4_1 := blk_cellp (hx.keep m4 (by simp)) 1 rfl
    have e3_0 := blk_cellp (hx.keep m3 (by simp)) 0 rfl
    have e3_1 := blk_cellp (hx.keep m3 (by simp)) 1 rfl
    clear hx
    simp only [List.take_succ_cons, List.take_zero]
    unfold Cx
    repeat (go_big_quiet_step (first | with_reducible exact K2.at _ _))
    exact wpQuiet_nil rfl
  simp only [List.drop_succ_cons, List.drop_zero]
  refine lex_nil ?_
  intro w5 hx hH
  have m7 := hH g7 _ (Blocks.put_same _ _ _)
  replace m1 := hx.keep m1 (by simp)
  replace m3 := hx.keep m3 (by simp)
  replace m4 := hx.keep m4 (by simp)
  replace m5 := hx.keep m5 (by simp)
  have HB5 := Lib.hid (HB4.out.trans (hx.below_of (b := w.heap.size) (by simp) HB4.out.size))
  replace q7 := Nat.le_trans HB4.out.size q7
  clear hx hH HB4
  go_wp2_with (with_reducible refine wpList_from 26 [0, 0, 0, 0, 0, 0, 3, 2, 0] [] B0 (has_B0 _) ?_)
  refine lex_quietE 6 (by kernel_rfl) (by rfl) ?_
  apply Exists.intro
  refine ⟨fun x hx => ?_, ?_⟩
  · have hwx := HB5.out.trans (hx.below_of (b := w.heap.size) (by simp) HB5.out.size)
    have e3_0 := blk_cellp (hx.keep m3 (by simp)) 0 rfl
    have e3_1 := blk_cellp (hx.keep m3 (by simp)) 1 rfl
    have e4_0 := blk_cellp (hx.keep m4 (by simp)) 0 rfl
    have e4_1 := blk_cellp (hx.keep m4 (by simp)) 1 rfl
    clear hx
    simp only [List.take_succ_cons, List.take_zero]
    unfold Cx
    repeat (go_big_quiet_step (first | with_reducible exact K3.at _ _))
    exact wpQuiet_nil rfl
  simp only [List.drop_succ_cons, List.drop_zero]
  refine lex_alloc (.agg #[.string ByteArray.empty, .string ByteArray.empty]) (by rfl) (fun x => by kernel_rfl) (fun g9 q9 hn9 => ?_)
  unfold setSlot
  go_big_quiet_step (fail)
  refine wpQuiet_nil ?_
  clear hn9
  refine lex_store_all g9 _ _ _ (by rfl) (by rfl) (by rfl) (Blocks.put_same _ _ _) (by rfl) (Or.inr q9) (by kernel_rfl) (by simp [Value.oneCell']) ?_
  refine lex_quietE 1 (by kernel_rfl) (by rfl) ?_
  apply Exists.intro
  refine ⟨fun x hx => ?_, ?_⟩
  · have hwx := HB5.out.trans (hx.below_of (b := w.heap.size) (by simp) HB5.out.size)
    have e3_0 := blk_cellp (hx.keep m3 (by simp)) 0 rfl
    have e3_1 := blk_cellp (hx.keep m3 (by simp)) 1 rfl
    have e4_0 := blk_cellp (hx.keep m4 (by simp)) 0 rfl
    have e4_1 := blk_cellp (hx.keep m4 (by simp)) 1 rfl
    clear hx
    simp only [List.take_succ_cons, List.take_zero]
    unfold Cx
    repeat (go_big_quiet_step (first | with_reducible exact K3.at _ _))
    exact wpQuiet_nil rfl
  simp only [List.drop_succ_cons, List.drop_zero]
  refine lex_nil ?_
  intro w6 hx hH
  have m9 := hH g9 _ (Blocks.put_same _ _ _)
  replace m1 := hx.keep m1 (by simp)
  replace m3 := hx.keep m3 (by simp)
  replace m4 := hx.keep m4 (by simp)
  replace m5 := hx.keep m5 (by simp)
  replace m7 := hx.keep m7 (by simp)
  have HB6 := Lib.hid (HB5.out.trans (hx.below_of (b := w.heap.size) (by simp) HB5.out.size))
  replace q9 := Nat.le_trans HB5.out.size q9
  clear hx hH HB5
  go_wp2_with fail
  refine wp_game [0, 0, 0, 0, 0, 0, 0, 0, 0, 0, 0, 0, 0, 0, 0, 0, 0, 0, 0, 0, 0, 0, 0, 0, 0, 0, 0, 0, 0, 0, 0, 0, 0, 0, 0, 0, 0, 0, 0, 0, 0, 0, 0, 0, 0, 0, 0, 0, 0, 0, 0, 0] [] B0 fin_B0 (has_B0 _) (by kernel_rfl) (by kernel_rfl) ?_
  refine lex_quietE 52 (by kernel_rfl) (by rfl) ?_
  apply Exists.intro
  refine ⟨fun x hx => ?_, ?_⟩
  · have hwx := HB6.out.trans (hx.below_of (b := w.heap.size) (by simp) HB6.out.size)
    have e3_0 := blk_cellp (hx.keep m3 (by simp)) 0 rfl
    have e3_1 := blk_cellp (hx.keep m3 (by simp)) 1 rfl
    have e4_0 := blk_cellp (hx.keep m4 (by simp)) 0 rfl
    have e4_1 := blk_cellp (hx.keep m4 (by simp)) 1 rfl
    have e1_0 := blk_cellp (hx.keep m1 (by simp)) 0 rfl
    have e1_1 := blk_cellp (hx.keep m1 (by simp)) 1 rfl
    have e5_0 := blk_cellp (hx.keep m5 (by simp)) 0 rfl
    have e5_1 := blk_cellp (hx.keep m5 (by simp)) 1 rfl
    have e7_0 := blk_cellp (hx.keep m7 (by simp)) 0 rfl
    have e7_1 := blk_cellp (hx.keep m7 (by simp)) 1 rfl
    have e9_0 := blk_cellp (hx.keep m9 (by simp)) 0 rfl
    have e9_1 := blk_cellp (hx.keep m9 (by simp)) 1 rfl
    clear hx
    simp only [List.take_succ_cons, List.take_zero]
    unfold Cx
    repeat (go_big_quiet_step (first | with_reducible exact KZ.at _ _ | with_reducible exact XA.at _ _ | with_reducible exact S1.at _ _ | with_reducible exact K4.at _ _ | with_reducible exact S2.at _ _ | with_reducible exact S3.at _ _ | with_reducible exact KT.at _ _ | with_reducible exact S4.at _ _ | with_reducible exact K5.at _ _ | with_reducible exact S5.at _ _ | with_reducible exact KW.at _ _))
    exact wpQuiet_nil rfl
  simp only [List.drop_succ_cons, List.drop_zero]
  refine lex_nil ?_
  intro w7 hx hH
  have HB7 := Lib.hid (HB6.out.trans (hx.below_of (b := w.heap.size) (by simp) HB6.out.size))
  clear hx hH HB6 m1 m3 m4 m5 m7 m9 q1 q3 q4 q5 q7 q9
  go_wp2_with fail
  exact bodyPost_ret (v := .bool true) (by simp [results, Try.results9, go_sem]) rfl ⟨rfl, HB7.out⟩

end Go.Proofs.Ytlomlcljjidfjaa
