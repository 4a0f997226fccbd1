/- Walks of the laws of chapter 02. -/
import Derived.Test.YtlomlcljjidfjaaLGive
import Derived.Test.YtlomlcljjidfjaaGame2
namespace Go.Proofs.Ytlomlcljjidfjaa
open Go.RowKit Num

set_option maxHeartbeats 1600000 in
set_option maxRecDepth 100000 in
theorem w_order_l_le_z (Na Da Nb Db Nc Dc t : ByteArray) (m k : Int) (hm : m ≤ 0) (hk : k ≤ 0) (ht : t.toList = [48]) (a1 a2 b1 b2 c1 c2 d1 d2 s1 s2 u1 u2 x1 x2 y1 y2 : ByteArray) (KA : Gives 13 #[.agg #[.string Na, .string Da]] (.agg #[.string a1, .string a2])) (KB : Gives 13 #[.agg #[.string Nb, .string Db]] (.agg #[.string b1, .string b2])) (KC : Gives 13 #[.agg #[.string Nc, .string Dc]] (.agg #[.string c1, .string c2])) (C1 : Gives 31 #[.agg #[.string a1, .string a2], .agg #[.string b1, .string b2]] (.int .i64 (-1))) (C2 : Gives 31 #[.agg #[.string b1, .string b2], .agg #[.string c1, .string c2]] (.int .i64 m)) (C3 : Gives 31 #[.agg #[.string b1, .string b2], .agg #[.string a1, .string a2]] (.int .i64 1)) (E1 : Gives 15 #[.agg #[.string a1, .string a2], .agg #[.string b1, .string b2]] (.bool false)) (KS : Gives 29 #[.agg #[.string a1, .string a2], .agg #[.string b1, .string b2]] (.tuple #[.agg #[.string d1, .string d2], .bool false])) (K1 : Gives 16 #[.agg #[.string a1, .string a2], .agg #[.string c1, .string c2]] (.agg #[.string s1, .string s2])) (C4 : Gives 31 #[.agg #[.string a1, .string a2], .agg #[.string c1, .string c2]] (.int .i64 k)) (K2 : Gives 16 #[.agg #[.string b1, .string b2], .agg #[.string c1, .string c2]] (.agg #[.string u1, .string u2])) (C5 : Gives 31 #[.agg #[.string s1, .string s2], .agg #[.string u1, .string u2]] (.int .i64 (-1))) (KT : Gives 30 #[.agg #[.string c1, .string c2]] (.string t)) (KW : Gives 18 #[] (.bool true)) : Gives 7 #[.agg #[.string Na, .string Da], .agg #[.string Nb, .string Db], .agg #[.string Nc, .string Dc]] (.bool true) := by
  intro w
  have HB0 := Lib.hid (Below.refl w.heap.size w)
  go_enter Try.func7, Try.ntmps7
  go_wp2_with (with_reducible refine wpList_from 3 [3, 3, 3, 0] [] B0 (has_B0 _) ?_)
  refine lex_box_agg _ (by rfl) (by rfl) (fun g3 q3 hn3 => ?_)
  unfold setSlot
  go_big_quiet_step (fail)
  refine wpQuiet_nil ?_
  clear hn3
  refine lex_box_agg _ (by rfl) (by rfl) (fun g4 q4 hn4 => ?_)
  unfold setSlot
  go_big_quiet_step (fail)
  refine wpQuiet_nil ?_
  have n4_3 := ne_of_put hn4
  replace hn4 := none_of_put hn4
  clear hn4
  refine lex_box_agg _ (by rfl) (by rfl) (fun g5 q5 hn5 => ?_)
  unfold setSlot
  go_big_quiet_step (fail)
  refine wpQuiet_nil ?_
  have n5_4 := ne_of_put hn5
  replace hn5 := none_of_put hn5
  have n5_3 := ne_of_put hn5
  replace hn5 := none_of_put hn5
  clear hn5
  refine lex_quietE 1 (by kernel_rfl) (by rfl) ?_
  apply Exists.intro
  refine ⟨fun x hx => ?_, ?_⟩
  · have hwx := HB0.out.trans (hx.below_of (b := w.heap.size) (by simp) HB0.out.size)
    clear hx
    simp only [List.take_succ_cons, List.take_zero]
    unfold Cx
    repeat (go_big_quiet_step (fail))
    exact wpQuiet_nil rfl
  simp only [List.drop_succ_cons, List.drop_zero]
  refine lex_nil ?_
  intro w1 hx hH
  have m3 := hH g3 _ ((Blocks.put_other _ _ (Ne.symm n5_3)).trans ((Blocks.put_other _ _ (Ne.symm n4_3)).trans (Blocks.put_same _ _ _)))
  have m4 := hH g4 _ ((Blocks.put_other _ _ (Ne.symm n5_4)).trans (Blocks.put_same _ _ _))
  have m5 := hH g5 _ (Blocks.put_same _ _ _)
  have HB1 := Lib.hid (HB0.out.trans (hx.below_of (b := w.heap.size) (by simp) HB0.out.size))
  replace q3 := Nat.le_trans HB0.out.size q3
  replace q4 := Nat.le_trans HB0.out.size q4
  replace q5 := Nat.le_trans HB0.out.size q5
  clear hx hH HB0
  go_wp2_with fail
  refine wp_game [0, 0, 0, 0, 0, 0, 3, 3, 3, 2, 2, 2] [] B0 fin_B0 (has_B0 _) (by kernel_rfl) (by kernel_rfl) ?_
  refine lex_quietE 6 (by kernel_rfl) (by rfl) ?_
  apply Exists.intro
  refine ⟨fun x hx => ?_, ?_⟩
  · have hwx := HB1.out.trans (hx.below_of (b := w.heap.size) (by simp) HB1.out.size)
    have e3_0 := blk_cellp (hx.keep m3 (by simp)) 0 rfl
    have e3_1 := blk_cellp (hx.keep m3 (by simp)) 1 rfl
    have e4_0 := blk_cellp (hx.keep m4 (by simp)) 0 rfl
    have e4_1 := blk_cellp (hx.keep m4 (by simp)) 1 rfl
    have e5_0 := blk_cellp (hx.keep m5 (by simp)) 0 rfl
    have e5_1 := blk_cellp (hx.keep m5 (by simp)) 1 rfl
    clear hx
    simp only [List.take_succ_cons, List.take_zero]
    unfold Cx
    repeat (go_big_quiet_step (first | with_reducible exact KA.at _ _ | with_reducible exact KB.at _ _ | with_reducible exact KC.at _ _))
    exact wpQuiet_nil rfl
  simp only [List.drop_succ_cons, List.drop_zero]
  refine lex_alloc (.agg #[.string ByteArray.empty, .string ByteArray.empty]) (by rfl) (fun x => by kernel_rfl) (fun g7 q7 hn7 => ?_)
  unfold setSlot
  go_big_quiet_step (fail)
  refine wpQuiet_nil ?_
  clear hn7
  refine lex_alloc (.agg #[.string ByteArray.empty, .string ByteArray.empty]) (by rfl) (fun x => by kernel_rfl) (fun g8 q8 hn8 => ?_)
  unfold setSlot
  go_big_quiet_step (fail)
  refine wpQuiet_nil ?_
  have n8_7 := ne_of_put hn8
  replace hn8 := none_of_put hn8
  clear hn8
  refine lex_alloc (.agg #[.string ByteArray.empty, .string ByteArray.empty]) (by rfl) (fun x => by kernel_rfl) (fun g9 q9 hn9 => ?_)
  unfold setSlot
  go_big_quiet_step (fail)
  refine wpQuiet_nil ?_
  have n9_8 := ne_of_put hn9
  replace hn9 := none_of_put hn9
  have n9_7 := ne_of_put hn9
  replace hn9 := none_of_put hn9
  clear hn9
  refine lex_store_all g7 _ _ _ (by rfl) (by rfl) (by rfl) ((Blocks.put_other _ _ (Ne.symm n9_7)).trans ((Blocks.put_other _ _ (Ne.symm n8_7)).trans (Blocks.put_same _ _ _))) (by rfl) (Or.inr q7) (by kernel_rfl) (by simp [Value.oneCell']) ?_
  refine lex_store_all g8 _ _ _ (by rfl) (by rfl) (by rfl) ((Blocks.put_other _ _ n8_7).trans ((Blocks.put_other _ _ (Ne.symm n9_8)).trans (Blocks.put_same _ _ _))) (by rfl) (Or.inr q8) (by kernel_rfl) (by simp [Value.oneCell']) ?_
  refine lex_store_all g9 _ _ _ (by rfl) (by rfl) (by rfl) ((Blocks.put_other _ _ n9_8).trans ((Blocks.put_other _ _ n9_7).trans (Blocks.put_same _ _ _))) (by rfl) (Or.inr q9) (by kernel_rfl) (by simp [Value.oneCell']) ?_
  refine lex_nil ?_
  intro w2 hx hH
  have m7 := hH g7 _ ((Blocks.put_other _ _ (Ne.symm n9_7)).trans ((Blocks.put_other _ _ (Ne.symm n8_7)).trans (Blocks.put_same _ _ _)))
  have m8 := hH g8 _ ((Blocks.put_other _ _ (Ne.symm n9_8)).trans (Blocks.put_same _ _ _))
  have m9 := hH g9 _ (Blocks.put_same _ _ _)
  have HB2 := Lib.hid (HB1.out.trans (hx.below_of (b := w.heap.size) (by simp) HB1.out.size))
  replace q7 := Nat.le_trans HB1.out.size q7
  replace q8 := Nat.le_trans HB1.out.size q8
  replace q9 := Nat.le_trans HB1.out.size q9
  clear hx hH HB1 m3 m4 m5 q3 q4 q5
  go_wp2_with fail
  refine wp_game [0, 0, 0, 0, 0, 0, 0, 0] [] B0 fin_B0 (has_B0 _) (by kernel_rfl) (by kernel_rfl) ?_
  refine lex_quietE 8 (by kernel_rfl) (by rfl) ?_
  apply Exists.intro
  refine ⟨fun x hx => ?_, ?_⟩
  · have hwx := HB2.out.trans (hx.below_of (b := w.heap.size) (by simp) HB2.out.size)
    have e7_0 := blk_cellp (hx.keep m7 (by simp)) 0 rfl
    have e7_1 := blk_cellp (hx.keep m7 (by simp)) 1 rfl
    have e8_0 := blk_cellp (hx.keep m8 (by simp)) 0 rfl
    have e8_1 := blk_cellp (hx.keep m8 (by simp)) 1 rfl
    have e9_0 := blk_cellp (hx.keep m9 (by simp)) 0 rfl
    have e9_1 := blk_cellp (hx.keep m9 (by simp)) 1 rfl
    clear hx
    simp only [List.take_succ_cons, List.take_zero]
    unfold Cx
    repeat (go_big_quiet_step (first | with_reducible exact C1.at _ _ | with_reducible exact C2.at _ _))
    exact wpQuiet_nil rfl
  simp only [List.drop_succ_cons, List.drop_zero]
  refine lex_nil ?_
  intro w3 hx hH
  replace m7 := hx.keep m7 (by simp)
  replace m8 := hx.keep m8 (by simp)
  replace m9 := hx.keep m9 (by simp)
  have HB3 := Lib.hid (HB2.out.trans (hx.below_of (b := w.heap.size) (by simp) HB2.out.size))
  clear hx hH HB2
  go_wp2_with (with_reducible refine wpList_from 33 [0, 0, 0, 0, 0, 0, 0, 0, 0, 0, 0, 0, 0, 0, 0, 0, 0, 0, 0, 0, 0, 0, 0, 0, 0, 0, 0, 0, 0] [] B0 (has_B0 _) ?_)
  refine lex_quietE 29 (by kernel_rfl) (by rfl) ?_
  apply Exists.intro
  refine ⟨fun x hx => ?_, ?_⟩
  · have hwx := HB3.out.trans (hx.below_of (b := w.heap.size) (by simp) HB3.out.size)
    have e8_0 := blk_cellp (hx.keep m8 (by simp)) 0 rfl
    have e8_1 := blk_cellp (hx.keep m8 (by simp)) 1 rfl
    have e7_0 := blk_cellp (hx.keep m7 (by simp)) 0 rfl
    have e7_1 := blk_cellp (hx.keep m7 (by simp)) 1 rfl
    have e9_0 := blk_cellp (hx.keep m9 (by simp)) 0 rfl
    have e9_1 := blk_cellp (hx.keep m9 (by simp)) 1 rfl
    clear hx
    simp only [List.take_succ_cons, List.take_zero]
    unfold Cx
    repeat (go_big_quiet_step (first | with_reducible exact C3.at _ _ | with_reducible exact E1.at _ _ | with_reducible exact C4.at _ _))
    exact wpQuiet_nil rfl
  simp only [List.drop_succ_cons, List.drop_zero]
  refine lex_nil ?_
  intro w4 hx hH
  replace m7 := hx.keep m7 (by simp)
  replace m8 := hx.keep m8 (by simp)
  replace m9 := hx.keep m9 (by simp)
  have HB4 := Lib.hid (HB3.out.trans (hx.below_of (b := w.heap.size) (by simp) HB3.out.size))
  clear hx hH HB3
  go_wp2_with (with_reducible refine wpList_from 63 [0, 0, 0, 0, 0, 0, 3, 2, 0] [] B0 (has_B0 _) ?_)
  refine lex_quietE 6 (by kernel_rfl) (by rfl) ?_
  apply Exists.intro
  refine ⟨fun x hx => ?_, ?_⟩
  · have hwx := HB4.out.trans (hx.below_of (b := w.heap.size) (by simp) HB4.out.size)
    have e7_0 := blk_cellp (hx.keep m7 (by simp)) 0 rfl
    have e7_1 := blk_cellp (hx.keep m7 (by simp)) 1 rfl
    have e8_0 := blk_cellp (hx.keep m8 (by simp)) 0 rfl
    have e8_1 := blk_cellp (hx.keep m8 (by simp)) 1 rfl
    clear hx
    simp only [List.take_succ_cons, List.take_zero]
    unfold Cx
    repeat (go_big_quiet_step (first | with_reducible exact KS.at _ _))
    exact wpQuiet_nil rfl
  simp only [List.drop_succ_cons, List.drop_zero]
  refine lex_alloc (.agg #[.string ByteArray.empty, .string ByteArray.empty]) (by rfl) (fun x => by kernel_rfl) (fun g12 q12 hn12 => ?_)
  unfold setSlot
  go_big_quiet_step (fail)
  refine wpQuiet_nil ?_
  clear hn12
  refine lex_store_all g12 _ _ _ (by rfl) (by rfl) (by rfl) (Blocks.put_same _ _ _) (by rfl) (Or.inr q12) (by kernel_rfl) (by simp [Value.oneCell']) ?_
  refine lex_quietE 1 (by kernel_rfl) (by rfl) ?_
  apply Exists.intro
  refine ⟨fun x hx => ?_, ?_⟩
  · have hwx := HB4.out.trans (hx.below_of (b := w.heap.size) (by simp) HB4.out.size)
    have e7_0 := blk_cellp (hx.keep m7 (by simp)) 0 rfl
    have e7_1 := blk_cellp (hx.keep m7 (by simp)) 1 rfl
    have e8_0 := blk_cellp (hx.keep m8 (by simp)) 0 rfl
    have e8_1 := blk_cellp (hx.keep m8 (by simp)) 1 rfl
    clear hx
    simp only [List.take_succ_cons, List.take_zero]
    unfold Cx
    repeat (go_big_quiet_step (first | with_reducible exact KS.at _ _))
    exact wpQuiet_nil rfl
  simp only [List.drop_succ_cons, List.drop_zero]
  refine lex_nil ?_
  intro w5 hx hH
  replace m7 := hx.keep m7 (by simp)
  replace m8 := hx.keep m8 (by simp)
  replace m9 := hx.keep m9 (by simp)
  have HB5 := Lib.hid (HB4.out.trans (hx.below_of (b := w.heap.size) (by simp) HB4.out.size))
  clear hx hH HB4 q12
  go_wp2_with fail
  refine wp_game [0, 0, 0, 0, 0, 0, 0, 0, 0, 0, 0, 0, 0, 0, 0] [] B0 fin_B0 (has_B0 _) (by kernel_rfl) (by kernel_rfl) ?_
  refine lex_quietE 15 (by kernel_rfl) (by rfl) ?_
  apply Exists.intro
  refine ⟨fun x hx => ?_, ?_⟩
  · have hwx := HB5.out.trans (hx.below_of (b := w.heap.size) (by simp) HB5.out.size)
    have e7_0 := blk_cellp (hx.keep m7 (by simp)) 0 rfl
    have e7_1 := blk_cellp (hx.keep m7 (by simp)) 1 rfl
    have e9_0 := blk_cellp (hx.keep m9 (by simp)) 0 rfl
    have e9_1 := blk_cellp (hx.keep m9 (by simp)) 1 rfl
    have e8_0 := blk_cellp (hx.keep m8 (by simp)) 0 rfl
    have e8_1 := blk_cellp (hx.keep m8 (by simp)) 1 rfl
    clear hx
    simp only [List.take_succ_cons, List.take_zero]
    unfold Cx
    repeat (go_big_quiet_step (first | with_reducible exact K1.at _ _ | with_reducible exact K2.at _ _ | with_reducible exact C5.at _ _))
    exact wpQuiet_nil rfl
  simp only [List.drop_succ_cons, List.drop_zero]
  refine lex_nil ?_
  intro w6 hx hH
  replace m7 := hx.keep m7 (by simp)
  replace m8 := hx.keep m8 (by simp)
  replace m9 := hx.keep m9 (by simp)
  have HB6 := Lib.hid (HB5.out.trans (hx.below_of (b := w.heap.size) (by simp) HB5.out.size))
  clear hx hH HB5
  go_wp2_with fail
  refine wp_game [0, 0, 0, 0, 0, 0, 0, 0, 0, 0, 0, 0, 0, 0, 0, 0, 0, 0] [] B0 fin_B0 (has_B0 _) (by kernel_rfl) (by kernel_rfl) ?_
  refine lex_quietE 18 (by kernel_rfl) (by rfl) ?_
  apply Exists.intro
  refine ⟨fun x hx => ?_, ?_⟩
  · have hwx := HB6.out.trans (hx.below_of (b := w.heap.size) (by simp) HB6.out.size)
    have e9_0 := blk_cellp (hx.keep m9 (by simp)) 0 rfl
    have e9_1 := blk_cellp (hx.keep m9 (by simp)) 1 rfl
    have e7_0 := blk_cellp (hx.keep m7 (by simp)) 0 rfl
    have e7_1 := blk_cellp (hx.keep m7 (by simp)) 1 rfl
    have e8_0 := blk_cellp (hx.keep m8 (by simp)) 0 rfl
    have e8_1 := blk_cellp (hx.keep m8 (by simp)) 1 rfl
    clear hx
    simp only [List.take_succ_cons, List.take_zero]
    unfold Cx
    repeat (go_big_quiet_step (first | with_reducible exact KT.at _ _ | with_reducible exact KW.at _ _))
    exact wpQuiet_nil rfl
  simp only [List.drop_succ_cons, List.drop_zero]
  refine lex_nil ?_
  intro w7 hx hH
  have HB7 := Lib.hid (HB6.out.trans (hx.below_of (b := w.heap.size) (by simp) HB6.out.size))
  clear hx hH HB6 m7 m8 m9 q7 q8 q9
  go_wp2_with fail
  exact bodyPost_ret (v := .bool true) (by simp [results, Try.results7, go_sem]) rfl ⟨rfl, HB7.out⟩

set_option maxHeartbeats 1600000 in
set_option maxRecDepth 100000 in
theorem w_order_l_le_n (Na Da Nb Db Nc Dc t : ByteArray) (m k : Int) (hm : m ≤ 0) (hk : k ≤ 0) (ht : (t.toList == [48]) = false) (a1 a2 b1 b2 c1 c2 d1 d2 s1 s2 u1 u2 x1 x2 y1 y2 : ByteArray) (KA : Gives 13 #[.agg #[.string Na, .string Da]] (.agg #[.string a1, .string a2])) (KB : Gives 13 #[.agg #[.string Nb, .string Db]] (.agg #[.string b1, .string b2])) (KC : Gives 13 #[.agg #[.string Nc, .string Dc]] (.agg #[.string c1, .string c2])) (C1 : Gives 31 #[.agg #[.string a1, .string a2], .agg #[.string b1, .string b2]] (.int .i64 (-1))) (C2 : Gives 31 #[.agg #[.string b1, .string b2], .agg #[.string c1, .string c2]] (.int .i64 m)) (C3 : Gives 31 #[.agg #[.string b1, .string b2], .agg #[.string a1, .string a2]] (.int .i64 1)) (E1 : Gives 15 #[.agg #[.string a1, .string a2], .agg #[.string b1, .string b2]] (.bool false)) (KS : Gives 29 #[.agg #[.string a1, .string a2], .agg #[.string b1, .string b2]] (.tuple #[.agg #[.string d1, .string d2], .bool false])) (K1 : Gives 16 #[.agg #[.string a1, .string a2], .agg #[.string c1, .string c2]] (.agg #[.string s1, .string s2])) (C4 : Gives 31 #[.agg #[.string a1, .string a2], .agg #[.string c1, .string c2]] (.int .i64 k)) (K2 : Gives 16 #[.agg #[.string b1, .string b2], .agg #[.string c1, .string c2]] (.agg #[.string u1, .string u2])) (C5 : Gives 31 #[.agg #[.string s1, .string s2], .agg #[.string u1, .string u2]] (.int .i64 (-1))) (KT : Gives 30 #[.agg #[.string c1, .string c2]] (.string t)) (KW : Gives 18 #[] (.bool true)) (K3 : Gives 17 #[.agg #[.string a1, .string a2], .agg #[.string c1, .string c2]] (.agg #[.string x1, .string x2])) (K4 : Gives 17 #[.agg #[.string b1, .string b2], .agg #[.string c1, .string c2]] (.agg #[.string y1, .string y2])) (C6 : Gives 31 #[.agg #[.string x1, .string x2], .agg #[.string y1, .string y2]] (.int .i64 (-1))) : Gives 7 #[.agg #[.string Na, .string Da], .agg #[.string Nb, .string Db], .agg #[.string Nc, .string Dc]] (.bool true) := by
  intro w
  have HB0 := Lib.hid (Below.refl w.heap.size w)
  go_enter Try.func7, Try.ntmps7
  go_wp2_with (with_reducible refine wpList_from 3 [3, 3, 3, 0] [] B0 (has_B0 _) ?_)
  refine lex_box_agg _ (by rfl) (by rfl) (fun g3 q3 hn3 => ?_)
  unfold setSlot
  go_big_quiet_step (fail)
  refine wpQuiet_nil ?_
  clear hn3
  refine lex_box_agg _ (by rfl) (by rfl) (fun g4 q4 hn4 => ?_)
  unfold setSlot
  go_big_quiet_step (fail)
  refine wpQuiet_nil ?_
  have n4_3 := ne_of_put hn4
  replace hn4 := none_of_put hn4
  clear hn4
  refine lex_box_agg _ (by rfl) (by rfl) (fun g5 q5 hn5 => ?_)
  unfold setSlot
  go_big_quiet_step (fail)
  refine wpQuiet_nil ?_
  have n5_4 := ne_of_put hn5
  replace hn5 := none_of_put hn5
  have n5_3 := ne_of_put hn5
  replace hn5 := none_of_put hn5
  clear hn5
  refine lex_quietE 1 (by kernel_rfl) (by rfl) ?_
  apply Exists.intro
  refine ⟨fun x hx => ?_, ?_⟩
  · have hwx := HB0.out.trans (hx.below_of (b := w.heap.size) (by simp) HB0.out.size)
    clear hx
    simp only [List.take_succ_cons, List.take_zero]
    unfold Cx
    repeat (go_big_quiet_step (fail))
    exact wpQuiet_nil rfl
  simp only [List.drop_succ_cons, List.drop_zero]
  refine lex_nil ?_
  intro w1 hx hH
  have m3 := hH g3 _ ((Blocks.put_other _ _ (Ne.symm n5_3)).trans ((Blocks.put_other _ _ (Ne.symm n4_3)).trans (Blocks.put_same _ _ _)))
  have m4 := hH g4 _ ((Blocks.put_other _ _ (Ne.symm n5_4)).trans (Blocks.put_same _ _ _))
  have m5 := hH g5 _ (Blocks.put_same _ _ _)
  have HB1 := Lib.hid (HB0.out.trans (hx.below_of (b := w.heap.size) (by simp) HB0.out.size))
  replace q3 := Nat.le_trans HB0.out.size q3
  replace q4 := Nat.le_trans HB0.out.size q4
  replace q5 := Nat.le_trans HB0.out.size q5
  clear hx hH HB0
  go_wp2_with fail
  refine wp_game [0, 0, 0, 0, 0, 0, 3, 3, 3, 2, 2, 2] [] B0 fin_B0 (has_B0 _) (by kernel_rfl) (by kernel_rfl) ?_
  refine lex_quietE 6 (by kernel_rfl) (by rfl) ?_
  apply Exists.intro
  refine ⟨fun x hx => ?_, ?_⟩
  · have hwx := HB1.out.trans (hx.below_of (b := w.heap.size) (by simp) HB1.out.size)
    have e3_0 := blk_cellp (hx.keep m3 (by simp)) 0 rfl
    have e3_1 := blk_cellp (hx.keep m3 (by simp)) 1 rfl
    have e4_0 := blk_cellp (hx.keep m4 (by simp)) 0 rfl
    have e4_1 := blk_cellp (hx.keep m4 (by simp)) 1 rfl
    have e5_0 := blk_cellp (hx.keep m5 (by simp)) 0 rfl
    have e5_1 := blk_cellp (hx.keep m5 (by simp)) 1 rfl
    clear hx
    simp only [List.take_succ_cons, List.take_zero]
    unfold Cx
    repeat (go_big_quiet_step (first | with_reducible exact KA.at _ _ | with_reducible exact KB.at _ _ | with_reducible exact KC.at _ _))
    exact wpQuiet_nil rfl
  simp only [List.drop_succ_cons, List.drop_zero]
  refine lex_alloc (.agg #[.string ByteArray.empty, .string ByteArray.empty]) (by rfl) (fun x => by kernel_rfl) (fun g7 q7 hn7 => ?_)
  unfold setSlot
  go_big_quiet_step (fail)
  refine wpQuiet_nil ?_
  clear hn7
  refine lex_alloc (.agg #[.string ByteArray.empty, .string ByteArray.empty]) (by rfl) (fun x => by kernel_rfl) (fun g8 q8 hn8 => ?_)
  unfold setSlot
  go_big_quiet_step (fail)
  refine wpQuiet_nil ?_
  have n8_7 := ne_of_put hn8
  replace hn8 := none_of_put hn8
  clear hn8
  refine lex_alloc (.agg #[.string ByteArray.empty, .string ByteArray.empty]) (by rfl) (fun x => by kernel_rfl) (fun g9 q9 hn9 => ?_)
  unfold setSlot
  go_big_quiet_step (fail)
  refine wpQuiet_nil ?_
  have n9_8 := ne_of_put hn9
  replace hn9 := none_of_put hn9
  have n9_7 := ne_of_put hn9
  replace hn9 := none_of_put hn9
  clear hn9
  refine lex_store_all g7 _ _ _ (by rfl) (by rfl) (by rfl) ((Blocks.put_other _ _ (Ne.symm n9_7)).trans ((Blocks.put_other _ _ (Ne.symm n8_7)).trans (Blocks.put_same _ _ _))) (by rfl) (Or.inr q7) (by kernel_rfl) (by simp [Value.oneCell']) ?_
  refine lex_store_all g8 _ _ _ (by rfl) (by rfl) (by rfl) ((Blocks.put_other _ _ n8_7).trans ((Blocks.put_other _ _ (Ne.symm n9_8)).trans (Blocks.put_same _ _ _))) (by rfl) (Or.inr q8) (by kernel_rfl) (by simp [Value.oneCell']) ?_
  refine lex_store_all g9 _ _ _ (by rfl) (by rfl) (by rfl) ((Blocks.put_other _ _ n9_8).trans ((Blocks.put_other _ _ n9_7).trans (Blocks.put_same _ _ _))) (by rfl) (Or.inr q9) (by kernel_rfl) (by simp [Value.oneCell']) ?_
  refine lex_nil ?_
  intro w2 hx hH
  have m7 := hH g7 _ ((Blocks.put_other _ _ (Ne.symm n9_7)).trans ((Blocks.put_other _ _ (Ne.symm n8_7)).trans (Blocks.put_same _ _ _)))
  have m8 := hH g8 _ ((Blocks.put_other _ _ (Ne.symm n9_8)).trans (Blocks.put_same _ _ _))
  have m9 := hH g9 _ (Blocks.put_same _ _ _)
  have HB2 := Lib.hid (HB1.out.trans (hx.below_of (b := w.heap.size) (by simp) HB1.out.size))
  replace q7 := Nat.le_trans HB1.out.size q7
  replace q8 := Nat.le_trans HB1.out.size q8
  replace q9 := Nat.le_trans HB1.out.size q9
  clear hx hH HB1 m3 m4 m5 q3 q4 q5
  go_wp2_with fail
  refine wp_game [0, 0, 0, 0, 0, 0, 0, 0] [] B0 fin_B0 (has_B0 _) (by kernel_rfl) (by kernel_rfl) ?_
  refine lex_quietE 8 (by kernel_rfl) (by rfl) ?_
  apply Exists.intro
  refine ⟨fun x hx => ?_, ?_⟩
  · have hwx := HB2.out.trans (hx.below_of (b := w.heap.size) (by simp) HB2.out.size)
    have e7_0 := blk_cellp (hx.keep m7 (by simp)) 0 rfl
    have e7_1 := blk_cellp (hx.keep m7 (by simp)) 1 rfl
    have e8_0 := blk_cellp (hx.keep m8 (by simp)) 0 rfl
    have e8_1 := blk_cellp (hx.keep m8 (by simp)) 1 rfl
    have e9_0 := blk_cellp (hx.keep m9 (by simp)) 0 rfl
    have e9_1 := blk_cellp (hx.keep m9 (by simp)) 1 rfl
    clear hx
    simp only [List.take_succ_cons, List.take_zero]
    unfold Cx
    repeat (go_big_quiet_step (first | with_reducible exact C1.at _ _ | with_reducible exact C2.at _ _))
    exact wpQuiet_nil rfl
  simp only [List.drop_succ_cons, List.drop_zero]
  refine lex_nil ?_
  intro w3 hx hH
  replace m7 := hx.keep m7 (by simp)
  replace m8 := hx.keep m8 (by simp)
  replace m9 := hx.keep m9 (by simp)
  have HB3 := Lib.hid (HB2.out.trans (hx.below_of (b := w.heap.size) (by simp) HB2.out.size))
  clear hx hH HB2
  go_wp2_with (with_reducible refine wpList_from 33 [0, 0, 0, 0, 0, 0, 0, 0, 0, 0, 0, 0, 0, 0, 0, 0, 0, 0, 0, 0, 0, 0, 0, 0, 0, 0, 0, 0, 0] [] B0 (has_B0 _) ?_)
  refine lex_quietE 29 (by kernel_rfl) (by rfl) ?_
  apply Exists.intro
  refine ⟨fun x hx => ?_, ?_⟩
  · have hwx := HB3.out.trans (hx.below_of (b := w.heap.size) (by simp) HB3.out.size)
    have e8_0 := blk_cellp (hx.keep m8 (by simp)) 0 rfl
    have e8_1 := blk_cellp (hx.keep m8 (by simp)) 1 rfl
    have e7_0 := blk_cellp (hx.keep m7 (by simp)) 0 rfl
    have e7_1 := blk_cellp (hx.keep m7 (by simp)) 1 rfl
    have e9_0 := blk_cellp (hx.keep m9 (by simp)) 0 rfl
    have e9_1 := blk_cellp (hx.keep m9 (by simp)) 1 rfl
    clear hx
    simp only [List.take_succ_cons, List.take_zero]
    unfold Cx
    repeat (go_big_quiet_step (first | with_reducible exact C3.at _ _ | with_reducible exact E1.at _ _ | with_reducible exact C4.at _ _))
    exact wpQuiet_nil rfl
  simp only [List.drop_succ_cons, List.drop_zero]
  refine lex_nil ?_
  intro w4 hx hH
  replace m7 := hx.keep m7 (by simp)
  replace m8 := hx.keep m8 (by simp)
  replace m9 := hx.keep m9 (by simp)
  have HB4 := Lib.hid (HB3.out.trans (hx.below_of (b := w.heap.size) (by simp) HB3.out.size))
  clear hx hH HB3
  go_wp2_with (with_reducible refine wpList_from 63 [0, 0, 0, 0, 0, 0, 3, 2, 0] [] B0 (has_B0 _) ?_)
  refine lex_quietE 6 (by kernel_rfl) (by rfl) ?_
  apply Exists.intro
  refine ⟨fun x hx => ?_, ?_⟩
  · have hwx := HB4.out.trans (hx.below_of (b := w.heap.size) (by simp) HB4.out.size)
    have e7_0 := blk_cellp (hx.keep m7 (by simp)) 0 rfl
    have e7_1 := blk_cellp (hx.keep m7 (by simp)) 1 rfl
    have e8_0 := blk_cellp (hx.keep m8 (by simp)) 0 rfl
    have e8_1 := blk_cellp (hx.keep m8 (by simp)) 1 rfl
    clear hx
    simp only [List.take_succ_cons, List.take_zero]
    unfold Cx
    repeat (go_big_quiet_step (first | with_reducible exact KS.at _ _))
    exact wpQuiet_nil rfl
  simp only [List.drop_succ_cons, List.drop_zero]
  refine lex_alloc (.agg #[.string ByteArray.empty, .string ByteArray.empty]) (by rfl) (fun x => by kernel_rfl) (fun g12 q12 hn12 => ?_)
  unfold setSlot
  go_big_quiet_step (fail)
  refine wpQuiet_nil ?_
  clear hn12
  refine lex_store_all g12 _ _ _ (by rfl) (by rfl) (by rfl) (Blocks.put_same _ _ _) (by rfl) (Or.inr q12) (by kernel_rfl) (by simp [Value.oneCell']) ?_
  refine lex_quietE 1 (by kernel_rfl) (by rfl) ?_
  apply Exists.intro
  refine ⟨fun x hx => ?_, ?_⟩
  · have hwx := HB4.out.trans (hx.below_of (b := w.heap.size) (by simp) HB4.out.size)
    have e7_0 := blk_cellp (hx.keep m7 (by simp)) 0 rfl
    have e7_1 := blk_cellp (hx.keep m7 (by simp)) 1 rfl
    have e8_0 := blk_cellp (hx.keep m8 (by simp)) 0 rfl
    have e8_1 := blk_cellp (hx.keep m8 (by simp)) 1 rfl
    clear hx
    simp only [List.take_succ_cons, List.take_zero]
    unfold Cx
    repeat (go_big_quiet_step (first | with_reducible exact KS.at _ _))
    exact wpQuiet_nil rfl
  simp only [List.drop_succ_cons, List.drop_zero]
  refine lex_nil ?_
  intro w5 hx hH
  replace m7 := hx.keep m7 (by simp)
  replace m8 := hx.keep m8 (by simp)
  replace m9 := hx.keep m9 (by simp)
  have HB5 := Lib.hid (HB4.out.trans (hx.below_of (b := w.heap.size) (by simp) HB4.out.size))
  clear hx hH HB4 q12
  go_wp2_with fail
  refine wp_game [0, 0, 0, 0, 0, 0, 0, 0, 0, 0, 0, 0, 0, 0, 0] [] B0 fin_B0 (has_B0 _) (by kernel_rfl) (by kernel_rfl) ?_
  refine lex_quietE 15 (by kernel_rfl) (by rfl) ?_
  apply Exists.intro
  refine ⟨fun x hx => ?_, ?_⟩
  · have hwx := HB5.out.trans (hx.below_of (b := w.heap.size) (by simp) HB5.out.size)
    have e7_0 := blk_cellp (hx.keep m7 (by simp)) 0 rfl
    have e7_1 := blk_cellp (hx.keep m7 (by simp)) 1 rfl
    have e9_0 := blk_cellp (hx.keep m9 (by simp)) 0 rfl
    have e9_1 := blk_cellp (hx.keep m9 (by simp)) 1 rfl
    have e8_0 := blk_cellp (hx.keep m8 (by simp)) 0 rfl
    have e8_1 := blk_cellp (hx.keep m8 (by simp)) 1 rfl
    clear hx
    simp only [List.take_succ_cons, List.take_zero]
    unfold Cx
    repeat (go_big_quiet_step (first | with_reducible exact K1.at _ _ | with_reducible exact K2.at _ _ | with_reducible exact C5.at _ _))
    exact wpQuiet_nil rfl
  simp only [List.drop_succ_cons, List.drop_zero]
  refine lex_nil ?_
  intro w6 hx hH
  replace m7 := hx.keep m7 (by simp)
  replace m8 := hx.keep m8 (by simp)
  replace m9 := hx.keep m9 (by simp)
  have HB6 := Lib.hid (HB5.out.trans (hx.below_of (b := w.heap.size) (by simp) HB5.out.size))
  clear hx hH HB5
  go_wp2_with fail
  refine wp_game [0, 0, 0, 0, 0, 0, 0, 0, 0, 0, 0, 0, 0, 0, 0, 0, 0, 0] [] B0 fin_B0 (has_B0 _) (by kernel_rfl) (by kernel_rfl) ?_
  refine lex_quietE 18 (by kernel_rfl) (by rfl) ?_
  apply Exists.intro
  refine ⟨fun x hx => ?_, ?_⟩
  · have hwx := HB6.out.trans (hx.below_of (b := w.heap.size) (by simp) HB6.out.size)
    have e9_0 := blk_cellp (hx.keep m9 (by simp)) 0 rfl
    have e9_1 := blk_cellp (hx.keep m9 (by simp)) 1 rfl
    have e7_0 := blk_cellp (hx.keep m7 (by simp)) 0 rfl
    have e7_1 := blk_cellp (hx.keep m7 (by simp)) 1 rfl
    have e8_0 := blk_cellp (hx.keep m8 (by simp)) 0 rfl
    have e8_1 := blk_cellp (hx.keep m8 (by simp)) 1 rfl
    clear hx
    simp only [List.take_succ_cons, List.take_zero]
    unfold Cx
    repeat (go_big_quiet_step (first | with_reducible exact KT.at _ _ | with_reducible exact KW.at _ _ | with_reducible exact K4.at _ _ | with_reducible exact K3.at _ _ | with_reducible exact C6.at _ _))
    exact wpQuiet_nil rfl
  simp only [List.drop_succ_cons, List.drop_zero]
  refine lex_nil ?_
  intro w7 hx hH
  have HB7 := Lib.hid (HB6.out.trans (hx.below_of (b := w.heap.size) (by simp) HB6.out.size))
  clear hx hH HB6 m7 m8 m9 q7 q8 q9
  go_wp2_with fail
  exact bodyPost_ret (v := .bool true) (by simp [results, Try.results7, go_sem]) rfl ⟨rfl, HB7.out⟩

set_option maxHeartbeats 1600000 in
set_option maxRecDepth 100000 in
theorem w_order_l_gt_z (Na Da Nb Db Nc Dc t : ByteArray) (m k : Int) (ht : t.toList = [48]) (a1 a2 b1 b2 c1 c2 d1 d2 s1 s2 u1 u2 x1 x2 y1 y2 : ByteArray) (KA : Gives 13 #[.agg #[.string Na, .string Da]] (.agg #[.string a1, .string a2])) (KB : Gives 13 #[.agg #[.string Nb, .string Db]] (.agg #[.string b1, .string b2])) (KC : Gives 13 #[.agg #[.string Nc, .string Dc]] (.agg #[.string c1, .string c2])) (C1 : Gives 31 #[.agg #[.string a1, .string a2], .agg #[.string b1, .string b2]] (.int .i64 (-1))) (C2 : Gives 31 #[.agg #[.string b1, .string b2], .agg #[.string c1, .string c2]] (.int .i64 1)) (C3 : Gives 31 #[.agg #[.string b1, .string b2], .agg #[.string a1, .string a2]] (.int .i64 1)) (E1 : Gives 15 #[.agg #[.string a1, .string a2], .agg #[.string b1, .string b2]] (.bool false)) (KS : Gives 29 #[.agg #[.string a1, .string a2], .agg #[.string b1, .string b2]] (.tuple #[.agg #[.string d1, .string d2], .bool false])) (K1 : Gives 16 #[.agg #[.string a1, .string a2], .agg #[.string c1, .string c2]] (.agg #[.string s1, .string s2])) (K2 : Gives 16 #[.agg #[.string b1, .string b2], .agg #[.string c1, .string c2]] (.agg #[.string u1, .string u2])) (C5 : Gives 31 #[.agg #[.string s1, .string s2], .agg #[.string u1, .string u2]] (.int .i64 (-1))) (KT : Gives 30 #[.agg #[.string c1, .string c2]] (.string t)) (KW : Gives 18 #[] (.bool true)) : Gives 7 #[.agg #[.string Na, .string Da], .agg #[.string Nb, .string Db], .agg #[.string Nc, .string Dc]] (.bool true) := by
  intro w
  have HB0 := Lib.hid (Below.refl w.heap.size w)
  go_enter Try.func7, Try.ntmps7
  go_wp2_with (with_reducible refine wpList_from 3 [3, 3, 3, 0] [] B0 (has_B0 _) ?_)
  refine lex_box_agg _ (by rfl) (by rfl) (fun g3 q3 hn3 => ?_)
  unfold setSlot
  go_big_quiet_step (fail)
  refine wpQuiet_nil ?_
  clear hn3
  refine lex_box_agg _ (by rfl) (by rfl) (fun g4 q4 hn4 => ?_)
  unfold setSlot
  go_big_quiet_step (fail)
  refine wpQuiet_nil ?_
  have n4_3 := ne_of_put hn4
  replace hn4 := none_of_put hn4
  clear hn4
  refine lex_box_agg _ (by rfl) (by rfl) (fun g5 q5 hn5 => ?_)
  unfold setSlot
  go_big_quiet_step (fail)
  refine wpQuiet_nil ?_
  have n5_4 := ne_of_put hn5
  replace hn5 := none_of_put hn5
  have n5_3 := ne_of_put hn5
  replace hn5 := none_of_put hn5
  clear hn5
  refine lex_quietE 1 (by kernel_rfl) (by rfl) ?_
  apply Exists.intro
  refine ⟨fun x hx => ?_, ?_⟩
  · have hwx := HB0.out.trans (hx.below_of (b := w.heap.size) (by simp) HB0.out.size)
    clear hx
    simp only [List.take_succ_cons, List.take_zero]
    unfold Cx
    repeat (go_big_quiet_step (fail))
    exact wpQuiet_nil rfl
  simp only [List.drop_succ_cons, List.drop_zero]
  refine lex_nil ?_
  intro w1 hx hH
  have m3 := hH g3 _ ((Blocks.put_other _ _ (Ne.symm n5_3)).trans ((Blocks.put_other _ _ (Ne.symm n4_3)).trans (Blocks.put_same _ _ _)))
  have m4 := hH g4 _ ((Blocks.put_other _ _ (Ne.symm n5_4)).trans (Blocks.put_same _ _ _))
  have m5 := hH g5 _ (Blocks.put_same _ _ _)
  have HB1 := Lib.hid (HB0.out.trans (hx.below_of (b := w.heap.size) (by simp) HB0.out.size))
  replace q3 := Nat.le_trans HB0.out.size q3
  replace q4 := Nat.le_trans HB0.out.size q4
  replace q5 := Nat.le_trans HB0.out.size q5
  clear hx hH HB0
  go_wp2_with fail
  refine wp_game [0, 0, 0, 0, 0, 0, 3, 3, 3, 2, 2, 2] [] B0 fin_B0 (has_B0 _) (by kernel_rfl) (by kernel_rfl) ?_
  refine lex_quietE 6 (by kernel_rfl) (by rfl) ?_
  apply Exists.intro
  refine ⟨fun x hx => ?_, ?_⟩
  · have hwx := HB1.out.trans (hx.below_of (b := w.heap.size) (by simp) HB1.out.size)
    have e3_0 := blk_cellp (hx.keep m3 (by simp)) 0 rfl
    have e3_1 := blk_cellp (hx.keep m3 (by simp)) 1 rfl
    have e4_0 := blk_cellp (hx.keep m4 (by simp)) 0 rfl
    have e4_1 := blk_cellp (hx.keep m4 (by simp)) 1 rfl
    have e5_0 := blk_cellp (hx.keep m5 (by simp)) 0 rfl
    have e5_1 := blk_cellp (hx.keep m5 (by simp)) 1 rfl
    clear hx
    simp only [List.take_succ_cons, List.take_zero]
    unfold Cx
    repeat (go_big_quiet_step (first | with_reducible exact KA.at _ _ | with_reducible exact KB.at _ _ | with_reducible exact KC.at _ _))
    exact wpQuiet_nil rfl
  simp only [List.drop_succ_cons, List.drop_zero]
  refine lex_alloc (.agg #[.string ByteArray.empty, .string ByteArray.empty]) (by rfl) (fun x => by kernel_rfl) (fun g7 q7 hn7 => ?_)
  unfold setSlot
  go_big_quiet_step (fail)
  refine wpQuiet_nil ?_
  clear hn7
  refine lex_alloc (.agg #[.string ByteArray.empty, .string ByteArray.empty]) (by rfl) (fun x => by kernel_rfl) (fun g8 q8 hn8 => ?_)
  unfold setSlot
  go_big_quiet_step (fail)
  refine wpQuiet_nil ?_
  have n8_7 := ne_of_put hn8
  replace hn8 := none_of_put hn8
  clear hn8
  refine lex_alloc (.agg #[.string ByteArray.empty, .string ByteArray.empty]) (by rfl) (fun x => by kernel_rfl) (fun g9 q9 hn9 => ?_)
  unfold setSlot
  go_big_quiet_step (fail)
  refine wpQuiet_nil ?_
  have n9_8 := ne_of_put hn9
  replace hn9 := none_of_put hn9
  have n9_7 := ne_of_put hn9
  replace hn9 := none_of_put hn9
  clear hn9
  refine lex_store_all g7 _ _ _ (by rfl) (by rfl) (by rfl) ((Blocks.put_other _ _ (Ne.symm n9_7)).trans ((Blocks.put_other _ _ (Ne.symm n8_7)).trans (Blocks.put_same _ _ _))) (by rfl) (Or.inr q7) (by kernel_rfl) (by simp [Value.oneCell']) ?_
  refine lex_store_all g8 _ _ _ (by rfl) (by rfl) (by rfl) ((Blocks.put_other _ _ n8_7).trans ((Blocks.put_other _ _ (Ne.symm n9_8)).trans (Blocks.put_same _ _ _))) (by rfl) (Or.inr q8) (by kernel_rfl) (by simp [Value.oneCell']) ?_
  refine lex_store_all g9 _ _ _ (by rfl) (by rfl) (by rfl) ((Blocks.put_other _ _ n9_8).trans ((Blocks.put_other _ _ n9_7).trans (Blocks.put_same _ _ _))) (by rfl) (Or.inr q9) (by kernel_rfl) (by simp [Value.oneCell']) ?_
  refine lex_nil ?_
  intro w2 hx hH
  have m7 := hH g7 _ ((Blocks.put_other _ _ (Ne.symm n9_7)).trans ((Blocks.put_other _ _ (Ne.symm n8_7)).trans (Blocks.put_same _ _ _)))
  have m8 := hH g8 _ ((Blocks.put_other _ _ (Ne.symm n9_8)).trans (Blocks.put_same _ _ _))
  have m9 := hH g9 _ (Blocks.put_same _ _ _)
  have HB2 := Lib.hid (HB1.out.trans (hx.below_of (b := w.heap.size) (by simp) HB1.out.size))
  replace q7 := Nat.le_trans HB1.out.size q7
  replace q8 := Nat.le_trans HB1.out.size q8
  replace q9 := Nat.le_trans HB1.out.size q9
  clear hx hH HB1 m3 m4 m5 q3 q4 q5
  go_wp2_with fail
  refine wp_game [0, 0, 0, 0, 0, 0, 0, 0] [] B0 fin_B0 (has_B0 _) (by kernel_rfl) (by kernel_rfl) ?_
  refine lex_quietE 8 (by kernel_rfl) (by rfl) ?_
  apply Exists.intro
  refine ⟨fun x hx => ?_, ?_⟩
  · have hwx := HB2.out.trans (hx.below_of (b := w.heap.size) (by simp) HB2.out.size)
    have e7_0 := blk_cellp (hx.keep m7 (by simp)) 0 rfl
    have e7_1 := blk_cellp (hx.keep m7 (by simp)) 1 rfl
    have e8_0 := blk_cellp (hx.keep m8 (by simp)) 0 rfl
    have e8_1 := blk_cellp (hx.keep m8 (by simp)) 1 rfl
    have e9_0 := blk_cellp (hx.keep m9 (by simp)) 0 rfl
    have e9_1 := blk_cellp (hx.keep m9 (by simp)) 1 rfl
    clear hx
    simp only [List.take_succ_cons, List.take_zero]
    unfold Cx
    repeat (go_big_quiet_step (first | with_reducible exact C1.at _ _ | with_reducible exact C2.at _ _))
    exact wpQuiet_nil rfl
  simp only [List.drop_succ_cons, List.drop_zero]
  refine lex_nil ?_
  intro w3 hx hH
  replace m7 := hx.keep m7 (by simp)
  replace m8 := hx.keep m8 (by simp)
  replace m9 := hx.keep m9 (by simp)
  have HB3 := Lib.hid (HB2.out.trans (hx.below_of (b := w.heap.size) (by simp) HB2.out.size))
  clear hx hH HB2
  go_wp2_with (with_reducible refine wpList_from 33 [0, 0, 0, 0, 0, 0, 0, 0, 0, 0, 0, 0, 0, 0, 0, 0, 0, 0, 0, 0, 0, 0, 0, 0, 0, 0, 0, 0, 0] [] B0 (has_B0 _) ?_)
  refine lex_quietE 29 (by kernel_rfl) (by rfl) ?_
  apply Exists.intro
  refine ⟨fun x hx => ?_, ?_⟩
  · have hwx := HB3.out.trans (hx.below_of (b := w.heap.size) (by simp) HB3.out.size)
    have e8_0 := blk_cellp (hx.keep m8 (by simp)) 0 rfl
    have e8_1 := blk_cellp (hx.keep m8 (by simp)) 1 rfl
    have e7_0 := blk_cellp (hx.keep m7 (by simp)) 0 rfl
    have e7_1 := blk_cellp (hx.keep m7 (by simp)) 1 rfl
    have e9_0 := blk_cellp (hx.keep m9 (by simp)) 0 rfl
    have e9_1 := blk_cellp (hx.keep m9 (by simp)) 1 rfl
    clear hx
    simp only [List.take_succ_cons, List.take_zero]
    unfold Cx
    repeat (go_big_quiet_step (first | with_reducible exact C3.at _ _ | with_reducible exact E1.at _ _))
    exact wpQuiet_nil rfl
  simp only [List.drop_succ_cons, List.drop_zero]
  refine lex_nil ?_
  intro w4 hx hH
  replace m7 := hx.keep m7 (by simp)
  replace m8 := hx.keep m8 (by simp)
  replace m9 := hx.keep m9 (by simp)
  have HB4 := Lib.hid (HB3.out.trans (hx.below_of (b := w.heap.size) (by simp) HB3.out.size))
  clear hx hH HB3
  go_wp2_with (with_reducible refine wpList_from 63 [0, 0, 0, 0, 0, 0, 3, 2, 0] [] B0 (has_B0 _) ?_)
  refine lex_quietE 6 (by kernel_rfl) (by rfl) ?_
  apply Exists.intro
  refine ⟨fun x hx => ?_, ?_⟩
  · have hwx := HB4.out.trans (hx.below_of (b := w.heap.size) (by simp) HB4.out.size)
    have e7_0 := blk_cellp (hx.keep m7 (by simp)) 0 rfl
    have e7_1 := blk_cellp (hx.keep m7 (by simp)) 1 rfl
    have e8_0 := blk_cellp (hx.keep m8 (by simp)) 0 rfl
    have e8_1 := blk_cellp (hx.keep m8 (by simp)) 1 rfl
    clear hx
    simp only [List.take_succ_cons, List.take_zero]
    unfold Cx
    repeat (go_big_quiet_step (first | with_reducible exact KS.at _ _))
    exact wpQuiet_nil rfl
  simp only [List.drop_succ_cons, List.drop_zero]
  refine lex_alloc (.agg #[.string ByteArray.empty, .string ByteArray.empty]) (by rfl) (fun x => by kernel_rfl) (fun g12 q12 hn12 => ?_)
  unfold setSlot
  go_big_quiet_step (fail)
  refine wpQuiet_nil ?_
  clear hn12
  refine lex_store_all g12 _ _ _ (by rfl) (by rfl) (by rfl) (Blocks.put_same _ _ _) (by rfl) (Or.inr q12) (by kernel_rfl) (by simp [Value.oneCell']) ?_
  refine lex_quietE 1 (by kernel_rfl) (by rfl) ?_
  apply Exists.intro
  refine ⟨fun x hx => ?_, ?_⟩
  · have hwx := HB4.out.trans (hx.below_of (b := w.heap.size) (by simp) HB4.out.size)
    have e7_0 := blk_cellp (hx.keep m7 (by simp)) 0 rfl
    have e7_1 := blk_cellp (hx.keep m7 (by simp)) 1 rfl
    have e8_0 := blk_cellp (hx.keep m8 (by simp)) 0 rfl
    have e8_1 := blk_cellp (hx.keep m8 (by simp)) 1 rfl
    clear hx
    simp only [List.take_succ_cons, List.take_zero]
    unfold Cx
    repeat (go_big_quiet_step (first | with_reducible exact KS.at _ _))
    exact wpQuiet_nil rfl
  simp only [List.drop_succ_cons, List.drop_zero]
  refine lex_nil ?_
  intro w5 hx hH
  replace m7 := hx.keep m7 (by simp)
  replace m8 := hx.keep m8 (by simp)
  replace m9 := hx.keep m9 (by simp)
  have HB5 := Lib.hid (HB4.out.trans (hx.below_of (b := w.heap.size) (by simp) HB4.out.size))
  clear hx hH HB4 q12
  go_wp2_with fail
  refine wp_game [0, 0, 0, 0, 0, 0, 0, 0, 0, 0, 0, 0, 0, 0, 0] [] B0 fin_B0 (has_B0 _) (by kernel_rfl) (by kernel_rfl) ?_
  refine lex_quietE 15 (by kernel_rfl) (by rfl) ?_
  apply Exists.intro
  refine ⟨fun x hx => ?_, ?_⟩
  · have hwx := HB5.out.trans (hx.below_of (b := w.heap.size) (by simp) HB5.out.size)
    have e7_0 := blk_cellp (hx.keep m7 (by simp)) 0 rfl
    have e7_1 := blk_cellp (hx.keep m7 (by simp)) 1 rfl
    have e9_0 := blk_cellp (hx.keep m9 (by simp)) 0 rfl
    have e9_1 := blk_cellp (hx.keep m9 (by simp)) 1 rfl
    have e8_0 := blk_cellp (hx.keep m8 (by simp)) 0 rfl
    have e8_1 := blk_cellp (hx.keep m8 (by simp)) 1 rfl
    clear hx
    simp only [List.take_succ_cons, List.take_zero]
    unfold Cx
    repeat (go_big_quiet_step (first | with_reducible exact K1.at _ _ | with_reducible exact K2.at _ _ | with_reducible exact C5.at _ _))
    exact wpQuiet_nil rfl
  simp only [List.drop_succ_cons, List.drop_zero]
  refine lex_nil ?_
  intro w6 hx hH
  replace m7 := hx.keep m7 (by simp)
  replace m8 := hx.keep m8 (by simp)
  replace m9 := hx.keep m9 (by simp)
  have HB6 := Lib.hid (HB5.out.trans (hx.below_of (b := w.heap.size) (by simp) HB5.out.size))
  clear hx hH HB5
  go_wp2_with fail
  refine wp_game [0, 0, 0, 0, 0, 0, 0, 0, 0, 0, 0, 0, 0, 0, 0, 0, 0, 0] [] B0 fin_B0 (has_B0 _) (by kernel_rfl) (by kernel_rfl) ?_
  refine lex_quietE 18 (by kernel_rfl) (by rfl) ?_
  apply Exists.intro
  refine ⟨fun x hx => ?_, ?_⟩
  · have hwx := HB6.out.trans (hx.below_of (b := w.heap.size) (by simp) HB6.out.size)
    have e9_0 := blk_cellp (hx.keep m9 (by simp)) 0 rfl
    have e9_1 := blk_cellp (hx.keep m9 (by simp)) 1 rfl
    have e7_0 := blk_cellp (hx.keep m7 (by simp)) 0 rfl
    have e7_1 := blk_cellp (hx.keep m7 (by simp)) 1 rfl
    have e8_0 := blk_cellp (hx.keep m8 (by simp)) 0 rfl
    have e8_1 := blk_cellp (hx.keep m8 (by simp)) 1 rfl
    clear hx
    simp only [List.take_succ_cons, List.take_zero]
    unfold Cx
    repeat (go_big_quiet_step (first | with_reducible exact KT.at _ _ | with_reducible exact KW.at _ _))
    exact wpQuiet_nil rfl
  simp only [List.drop_succ_cons, List.drop_zero]
  refine lex_nil ?_
  intro w7 hx hH
  have HB7 := Lib.hid (HB6.out.trans (hx.below_of (b := w.heap.size) (by simp) HB6.out.size))
  clear hx hH HB6 m7 m8 m9 q7 q8 q9
  go_wp2_with fail
  exact bodyPost_ret (v := .bool true) (by simp [results, Try.results7, go_sem]) rfl ⟨rfl, HB7.out⟩

set_option maxHeartbeats 1600000 in
set_option maxRecDepth 100000 in
theorem w_order_l_gt_n (Na Da Nb Db Nc Dc t : ByteArray) (m k : Int) (ht : (t.toList == [48]) = false) (a1 a2 b1 b2 c1 c2 d1 d2 s1 s2 u1 u2 x1 x2 y1 y2 : ByteArray) (KA : Gives 13 #[.agg #[.string Na, .string Da]] (.agg #[.string a1, .string a2])) (KB : Gives 13 #[.agg #[.string Nb, .string Db]] (.agg #[.string b1, .string b2])) (KC : Gives 13 #[.agg #[.string Nc, .string Dc]] (.agg #[.string c1, .string c2])) (C1 : Gives 31 #[.agg #[.string a1, .string a2], .agg #[.string b1, .string b2]] (.int .i64 (-1))) (C2 : Gives 31 #[.agg #[.string b1, .string b2], .agg #[.string c1, .string c2]] (.int .i64 1)) (C3 : Gives 31 #[.agg #[.string b1, .string b2], .agg #[.string a1, .string a2]] (.int .i64 1)) (E1 : Gives 15 #[.agg #[.string a1, .string a2], .agg #[.string b1, .string b2]] (.bool false)) (KS : Gives 29 #[.agg #[.string a1, .string a2], .agg #[.string b1, .string b2]] (.tuple #[.agg #[.string d1, .string d2], .bool false])) (K1 : Gives 16 #[.agg #[.string a1, .string a2], .agg #[.string c1, .string c2]] (.agg #[.string s1, .string s2])) (K2 : Gives 16 #[.agg #[.string b1, .string b2], .agg #[.string c1, .string c2]] (.agg #[.string u1, .string u2])) (C5 : Gives 31 #[.agg #[.string s1, .string s2], .agg #[.string u1, .string u2]] (.int .i64 (-1))) (KT : Gives 30 #[.agg #[.string c1, .string c2]] (.string t)) (KW : Gives 18 #[] (.bool true)) (K3 : Gives 17 #[.agg #[.string a1, .string a2], .agg #[.string c1, .string c2]] (.agg #[.string x1, .string x2])) (K4 : Gives 17 #[.agg #[.string b1, .string b2], .agg #[.string c1, .string c2]] (.agg #[.string y1, .string y2])) (C6 : Gives 31 #[.agg #[.string x1, .string x2], .agg #[.string y1, .string y2]] (.int .i64 (-1))) : Gives 7 #[.agg #[.string Na, .string Da], .agg #[.string Nb, .string Db], .agg #[.string Nc, .string Dc]] (.bool true) := by
  intro w
  have HB0 := Lib.hid (Below.refl w.heap.size w)
  go_enter Try.func7, Try.ntmps7
  go_wp2_with (with_reducible refine wpList_from 3 [3, 3, 3, 0] [] B0 (has_B0 _) ?_)
  refine lex_box_agg _ (by rfl) (by rfl) (fun g3 q3 hn3 => ?_)
  unfold setSlot
  go_big_quiet_step (fail)
  refine wpQuiet_nil ?_
  clear hn3
  refine lex_box_agg _ (by rfl) (by rfl) (fun g4 q4 hn4 => ?_)
  unfold setSlot
  go_big_quiet_step (fail)
  refine wpQuiet_nil ?_
  have n4_3 := ne_of_put hn4
  replace hn4 := none_of_put hn4
  clear hn4
  refine lex_box_agg _ (by rfl) (by rfl) (fun g5 q5 hn5 => ?_)
  unfold setSlot
  go_big_quiet_step (fail)
  refine wpQuiet_nil ?_
  have n5_4 := ne_of_put hn5
  replace hn5 := none_of_put hn5
  have n5_3 := ne_of_put hn5
  replace hn5 := none_of_put hn5
  clear hn5
  refine lex_quietE 1 (by kernel_rfl) (by rfl) ?_
  apply Exists.intro
  refine ⟨fun x hx => ?_, ?_⟩
  · have hwx := HB0.out.trans (hx.below_of (b := w.heap.size) (by simp) HB0.out.size)
    clear hx
    simp only [List.take_succ_cons, List.take_zero]
    unfold Cx
    repeat (go_big_quiet_step (fail))
    exact wpQuiet_nil rfl
  simp only [List.drop_succ_cons, List.drop_zero]
  refine lex_nil ?_
  intro w1 hx hH
  have m3 := hH g3 _ ((Blocks.put_other _ _ (Ne.symm n5_3)).trans ((Blocks.put_other _ _ (Ne.symm n4_3)).trans (Blocks.put_same _ _ _)))
  have m4 := hH g4 _ ((Blocks.put_other _ _ (Ne.symm n5_4)).trans (Blocks.put_same _ _ _))
  have m5 := hH g5 _ (Blocks.put_same _ _ _)
  have HB1 := Lib.hid (HB0.out.trans (hx.below_of (b := w.heap.size) (by simp) HB0.out.size))
  replace q3 := Nat.le_trans HB0.out.size q3
  replace q4 := Nat.le_trans HB0.out.size q4
  replace q5 := Nat.le_trans HB0.out.size q5
  clear hx hH HB0
  go_wp2_with fail
  refine wp_game [0, 0, 0, 0, 0, 0, 3, 3, 3, 2, 2, 2] [] B0 fin_B0 (has_B0 _) (by kernel_rfl) (by kernel_rfl) ?_
  refine lex_quietE 6 (by kernel_rfl) (by rfl) ?_
  apply Exists.intro
  refine ⟨fun x hx => ?_, ?_⟩
  · have hwx := HB1.out.trans (hx.below_of (b := w.heap.size) (by simp) HB1.out.size)
    have e3_0 := blk_cellp (hx.keep m3 (by simp)) 0 rfl
    have e3_1 := blk_cellp (hx.keep m3 (by simp)) 1 rfl
    have e4_0 := blk_cellp (hx.keep m4 (by simp)) 0 rfl
    have e4_1 := blk_cellp (hx.keep m4 (by simp)) 1 rfl
    have e5_0 := blk_cellp (hx.keep m5 (by simp)) 0 rfl
    have e5_1 := blk_cellp (hx.keep m5 (by simp)) 1 rfl
    clear hx
    simp only [List.take_succ_cons, List.take_zero]
    unfold Cx
    repeat (go_big_quiet_step (first | with_reducible exact KA.at _ _ | with_reducible exact KB.at _ _ | with_reducible exact KC.at _ _))
    exact wpQuiet_nil rfl
  simp only [List.drop_succ_cons, List.drop_zero]
  refine lex_alloc (.agg #[.string ByteArray.empty, .string ByteArray.empty]) (by rfl) (fun x => by kernel_rfl) (fun g7 q7 hn7 => ?_)
  unfold setSlot
  go_big_quiet_step (fail)
  refine wpQuiet_nil ?_
  clear hn7
  refine lex_alloc (.agg #[.string ByteArray.empty, .string ByteArray.empty]) (by rfl) (fun x => by kernel_rfl) (fun g8 q8 hn8 => ?_)
  unfold setSlot
  go_big_quiet_step (fail)
  refine wpQuiet_nil ?_
  have n8_7 := ne_of_put hn8
  replace hn8 := none_of_put hn8
  clear hn8
  refine lex_alloc (.agg #[.string ByteArray.empty, .string ByteArray.empty]) (by rfl) (fun x => by kernel_rfl) (fun g9 q9 hn9 => ?_)
  unfold setSlot
  go_big_quiet_step (fail)
  refine wpQuiet_nil ?_
  have n9_8 := ne_of_put hn9
  replace hn9 := none_of_put hn9
  have n9_7 := ne_of_put hn9
  replace hn9 := none_of_put hn9
  clear hn9
  refine lex_store_all g7 _ _ _ (by rfl) (by rfl) (by rfl) ((Blocks.put_other _ _ (Ne.symm n9_7)).trans ((Blocks.put_other _ _ (Ne.symm n8_7)).trans (Blocks.put_same _ _ _))) (by rfl) (Or.inr q7) (by kernel_rfl) (by simp [Value.oneCell']) ?_
  refine lex_store_all g8 _ _ _ (by rfl) (by rfl) (by rfl) ((Blocks.put_other _ _ n8_7).trans ((Blocks.put_other _ _ (Ne.symm n9_8)).trans (Blocks.put_same _ _ _))) (by rfl) (Or.inr q8) (by kernel_rfl) (by simp [Value.oneCell']) ?_
  refine lex_store_all g9 _ _ _ (by rfl) (by rfl) (by rfl) ((Blocks.put_other _ _ n9_8).trans ((Blocks.put_other _ _ n9_7).trans (Blocks.put_same _ _ _))) (by rfl) (Or.inr q9) (by kernel_rfl) (by simp [Value.oneCell']) ?_
  refine lex_nil ?_
  intro w2 hx hH
  have m7 := hH g7 _ ((Blocks.put_other _ _ (Ne.symm n9_7)).trans ((Blocks.put_other _ _ (Ne.symm n8_7)).trans (Blocks.put_same _ _ _)))
  have m8 := hH g8 _ ((Blocks.put_other _ _ (Ne.symm n9_8)).trans (Blocks.put_same _ _ _))
  have m9 := hH g9 _ (Blocks.put_same _ _ _)
  have HB2 := Lib.hid (HB1.out.trans (hx.below_of (b := w.heap.size) (by simp) HB1.out.size))
  replace q7 := Nat.le_trans HB1.out.size q7
  replace q8 := Nat.le_trans HB1.out.size q8
  replace q9 := Nat.le_trans HB1.out.size q9
  clear hx hH HB1 m3 m4 m5 q3 q4 q5
  go_wp2_with fail
  refine wp_game [0, 0, 0, 0, 0, 0, 0, 0] [] B0 fin_B0 (has_B0 _) (by kernel_rfl) (by kernel_rfl) ?_
  refine lex_quietE 8 (by kernel_rfl) (by rfl) ?_
  apply Exists.intro
  refine ⟨fun x hx => ?_, ?_⟩
  · have hwx := HB2.out.trans (hx.below_of (b := w.heap.size) (by simp) HB2.out.size)
    have e7_0 := blk_cellp (hx.keep m7 (by simp)) 0 rfl
    have e7_1 := blk_cellp (hx.keep m7 (by simp)) 1 rfl
    have e8_0 := blk_cellp (hx.keep m8 (by simp)) 0 rfl
    have e8_1 := blk_cellp (hx.keep m8 (by simp)) 1 rfl
    have e9_0 := blk_cellp (hx.keep m9 (by simp)) 0 rfl
    have e9_1 := blk_cellp (hx.keep m9 (by simp)) 1 rfl
    clear hx
    simp only [List.take_succ_cons, List.take_zero]
    unfold Cx
    repeat (go_big_quiet_step (first | with_reducible exact C1.at _ _ | with_reducible exact C2.at _ _))
    exact wpQuiet_nil rfl
  simp only [List.drop_succ_cons, List.drop_zero]
  refine lex_nil ?_
  intro w3 hx hH
  replace m7 := hx.keep m7 (by simp)
  replace m8 := hx.keep m8 (by simp)
  replace m9 := hx.keep m9 (by simp)
  have HB3 := Lib.hid (HB2.out.trans (hx.below_of (b := w.heap.size) (by simp) HB2.out.size))
  clear hx hH HB2
  go_wp2_with (with_reducible refine wpList_from 33 [0, 0, 0, 0, 0, 0, 0, 0, 0, 0, 0, 0, 0, 0, 0, 0, 0, 0, 0, 0, 0, 0, 0, 0, 0, 0, 0, 0, 0] [] B0 (has_B0 _) ?_)
  refine lex_quietE 29 (by kernel_rfl) (by rfl) ?_
  apply Exists.intro
  refine ⟨fun x hx => ?_, ?_⟩
  · have hwx := HB3.out.trans (hx.below_of (b := w.heap.size) (by simp) HB3.out.size)
    have e8_0 := blk_cellp (hx.keep m8 (by simp)) 0 rfl
    have e8_1 := blk_cellp (hx.keep m8 (by simp)) 1 rfl
    have e7_0 := blk_cellp (hx.keep m7 (by simp)) 0 rfl
    have e7_1 := blk_cellp (hx.keep m7 (by simp)) 1 rfl
    have e9_0 := blk_cellp (hx.keep m9 (by simp)) 0 rfl
    have e9_1 := blk_cellp (hx.keep m9 (by simp)) 1 rfl
    clear hx
    simp only [List.take_succ_cons, List.take_zero]
    unfold Cx
    repeat (go_big_quiet_step (first | with_reducible exact C3.at _ _ | with_reducible exact E1.at _ _))
    exact wpQuiet_nil rfl
  simp only [List.drop_succ_cons, List.drop_zero]
  refine lex_nil ?_
  intro w4 hx hH
  replace m7 := hx.keep m7 (by simp)
  replace m8 := hx.keep m8 (by simp)
  replace m9 := hx.keep m9 (by simp)
  have HB4 := Lib.hid (HB3.out.trans (hx.below_of (b := w.heap.size) (by simp) HB3.out.size))
  clear hx hH HB3
  go_wp2_with (with_reducible refine wpList_from 63 [0, 0, 0, 0, 0, 0, 3, 2, 0] [] B0 (has_B0 _) ?_)
  refine lex_quietE 6 (by kernel_rfl) (by rfl) ?_
  apply Exists.intro
  refine ⟨fun x hx => ?_, ?_⟩
  · have hwx := HB4.out.trans (hx.below_of (b := w.heap.size) (by simp) HB4.out.size)
    have e7_0 := blk_cellp (hx.keep m7 (by simp)) 0 rfl
    have e7_1 := blk_cellp (hx.keep m7 (by simp)) 1 rfl
    have e8_0 := blk_cellp (hx.keep m8 (by simp)) 0 rfl
    have e8_1 := blk_cellp (hx.keep m8 (by simp)) 1 rfl
    clear hx
    simp only [List.take_succ_cons, List.take_zero]
    unfold Cx
    repeat (go_big_quiet_step (first | with_reducible exact KS.at _ _))
    exact wpQuiet_nil rfl
  simp only [List.drop_succ_cons, List.drop_zero]
  refine lex_alloc (.agg #[.string ByteArray.empty, .string ByteArray.empty]) (by rfl) (fun x => by kernel_rfl) (fun g12 q12 hn12 => ?_)
  unfold setSlot
  go_big_quiet_step (fail)
  refine wpQuiet_nil ?_
  clear hn12
  refine lex_store_all g12 _ _ _ (by rfl) (by rfl) (by rfl) (Blocks.put_same _ _ _) (by rfl) (Or.inr q12) (by kernel_rfl) (by simp [Value.oneCell']) ?_
  refine lex_quietE 1 (by kernel_rfl) (by rfl) ?_
  apply Exists.intro
  refine ⟨fun x hx => ?_, ?_⟩
  · have hwx := HB4.out.trans (hx.below_of (b := w.heap.size) (by simp) HB4.out.size)
    have e7_0 := blk_cellp (hx.keep m7 (by simp)) 0 rfl
    have e7_1 := blk_cellp (hx.keep m7 (by simp)) 1 rfl
    have e8_0 := blk_cellp (hx.keep m8 (by simp)) 0 rfl
    have e8_1 := blk_cellp (hx.keep m8 (by simp)) 1 rfl
    clear hx
    simp only [List.take_succ_cons, List.take_zero]
    unfold Cx
    repeat (go_big_quiet_step (first | with_reducible exact KS.at _ _))
    exact wpQuiet_nil rfl
  simp only [List.drop_succ_cons, List.drop_zero]
  refine lex_nil ?_
  intro w5 hx hH
  replace m7 := hx.keep m7 (by simp)
  replace m8 := hx.keep m8 (by simp)
  replace m9 := hx.keep m9 (by simp)
  have HB5 := Lib.hid (HB4.out.trans (hx.below_of (b := w.heap.size) (by simp) HB4.out.size))
  clear hx hH HB4 q12
  go_wp2_with fail
  refine wp_game [0, 0, 0, 0, 0, 0, 0, 0, 0, 0, 0, 0, 0, 0, 0] [] B0 fin_B0 (has_B0 _) (by kernel_rfl) (by kernel_rfl) ?_
  refine lex_quietE 15 (by kernel_rfl) (by rfl) ?_
  apply Exists.intro
  refine ⟨fun x hx => ?_, ?_⟩
  · have hwx := HB5.out.trans (hx.below_of (b := w.heap.size) (by simp) HB5.out.size)
    have e7_0 := blk_cellp (hx.keep m7 (by simp)) 0 rfl
    have e7_1 := blk_cellp (hx.keep m7 (by simp)) 1 rfl
    have e9_0 := blk_cellp (hx.keep m9 (by simp)) 0 rfl
    have e9_1 := blk_cellp (hx.keep m9 (by simp)) 1 rfl
    have e8_0 := blk_cellp (hx.keep m8 (by simp)) 0 rfl
    have e8_1 := blk_cellp (hx.keep m8 (by simp)) 1 rfl
    clear hx
    simp only [List.take_succ_cons, List.take_zero]
    unfold Cx
    repeat (go_big_quiet_step (first | with_reducible exact K1.at _ _ | with_reducible exact K2.at _ _ | with_reducible exact C5.at _ _))
    exact wpQuiet_nil rfl
  simp only [List.drop_succ_cons, List.drop_zero]
  refine lex_nil ?_
  intro w6 hx hH
  replace m7 := hx.keep m7 (by simp)
  replace m8 := hx.keep m8 (by simp)
  replace m9 := hx.keep m9 (by simp)
  have HB6 := Lib.hid (HB5.out.trans (hx.below_of (b := w.heap.size) (by simp) HB5.out.size))
  clear hx hH HB5
  go_wp2_with fail
  refine wp_game [0, 0, 0, 0, 0, 0, 0, 0, 0, 0, 0, 0, 0, 0, 0, 0, 0, 0] [] B0 fin_B0 (has_B0 _) (by kernel_rfl) (by kernel_rfl) ?_
  refine lex_quietE 18 (by kernel_rfl) (by rfl) ?_
  apply Exists.intro
  refine ⟨fun x hx => ?_, ?_⟩
  · have hwx := HB6.out.trans (hx.below_of (b := w.heap.size) (by simp) HB6.out.size)
    have e9_0 := blk_cellp (hx.keep m9 (by simp)) 0 rfl
    have e9_1 := blk_cellp (hx.keep m9 (by simp)) 1 rfl
    have e7_0 := blk_cellp (hx.keep m7 (by simp)) 0 rfl
    have e7_1 := blk_cellp (hx.keep m7 (by simp)) 1 rfl
    have e8_0 := blk_cellp (hx.keep m8 (by simp)) 0 rfl
    have e8_1 := blk_cellp (hx.keep m8 (by simp)) 1 rfl
    clear hx
    simp only [List.take_succ_cons, List.take_zero]
    unfold Cx
    repeat (go_big_quiet_step (first | with_reducible exact KT.at _ _ | with_reducible exact KW.at _ _ | with_reducible exact K4.at _ _ | with_reducible exact K3.at _ _ | with_reducible exact C6.at _ _))
    exact wpQuiet_nil rfl
  simp only [List.drop_succ_cons, List.drop_zero]
  refine lex_nil ?_
  intro w7 hx hH
  have HB7 := Lib.hid (HB6.out.trans (hx.below_of (b := w.heap.size) (by simp) HB6.out.size))
  clear hx hH HB6 m7 m8 m9 q7 q8 q9
  go_wp2_with fail
  exact bodyPost_ret (v := .bool true) (by simp [results, Try.results7, go_sem]) rfl ⟨rfl, HB7.out⟩

set_option maxHeartbeats 1600000 in
set_option maxRecDepth 100000 in
theorem w_order_e_le_z (Na Da Nb Db Nc Dc t : ByteArray) (m k : Int) (hm : m ≤ 0) (hk : k ≤ 0) (ht : t.toList = [48]) (a1 a2 b1 b2 c1 c2 d1 d2 s1 s2 u1 u2 x1 x2 y1 y2 : ByteArray) (KA : Gives 13 #[.agg #[.string Na, .string Da]] (.agg #[.string a1, .string a2])) (KB : Gives 13 #[.agg #[.string Nb, .string Db]] (.agg #[.string a1, .string a2])) (KC : Gives 13 #[.agg #[.string Nc, .string Dc]] (.agg #[.string c1, .string c2])) (C1 : Gives 31 #[.agg #[.string a1, .string a2], .agg #[.string a1, .string a2]] (.int .i64 0)) (C2 : Gives 31 #[.agg #[.string a1, .string a2], .agg #[.string c1, .string c2]] (.int .i64 m)) (C3 : Gives 31 #[.agg #[.string a1, .string a2], .agg #[.string a1, .string a2]] (.int .i64 0)) (E1 : Gives 15 #[.agg #[.string a1, .string a2], .agg #[.string a1, .string a2]] (.bool true)) (KS : Gives 29 #[.agg #[.string a1, .string a2], .agg #[.string a1, .string a2]] (.tuple #[.agg #[.string d1, .string d2], .bool true])) (K1 : Gives 16 #[.agg #[.string a1, .string a2], .agg #[.string c1, .string c2]] (.agg #[.string s1, .string s2])) (C4 : Gives 31 #[.agg #[.string a1, .string a2], .agg #[.string c1, .string c2]] (.int .i64 k)) (C5 : Gives 31 #[.agg #[.string s1, .string s2], .agg #[.string s1, .string s2]] (.int .i64 0)) (KT : Gives 30 #[.agg #[.string c1, .string c2]] (.string t)) (KW : Gives 18 #[] (.bool true)) : Gives 7 #[.agg #[.string Na, .string Da], .agg #[.string Nb, .string Db], .agg #[.string Nc, .string Dc]] (.bool true) := by
  intro w
  have HB0 := Lib.hid (Below.refl w.heap.size w)
  go_enter Try.func7, Try.ntmps7
  go_wp2_with (with_reducible refine wpList_from 3 [3, 3, 3, 0] [] B0 (has_B0 _) ?_)
  refine lex_box_agg _ (by rfl) (by rfl) (fun g3 q3 hn3 => ?_)
  unfold setSlot
  go_big_quiet_step (fail)
  refine wpQuiet_nil ?_
  clear hn3
  refine lex_box_agg _ (by rfl) (by rfl) (fun g4 q4 hn4 => ?_)
  unfold setSlot
  go_big_quiet_step (fail)
  refine wpQuiet_nil ?_
  have n4_3 := ne_of_put hn4
  replace hn4 := none_of_put hn4
  clear hn4
  refine lex_box_agg _ (by rfl) (by rfl) (fun g5 q5 hn5 => ?_)
  unfold setSlot
  go_big_quiet_step (fail)
  refine wpQuiet_nil ?_
  have n5_4 := ne_of_put hn5
  replace hn5 := none_of_put hn5
  have n5_3 := ne_of_put hn5
  replace hn5 := none_of_put hn5
  clear hn5
  refine lex_quietE 1 (by kernel_rfl) (by rfl) ?_
  apply Exists.intro
  refine ⟨fun x hx => ?_, ?_⟩
  · have hwx := HB0.out.trans (hx.below_of (b := w.heap.size) (by simp) HB0.out.size)
    clear hx
    simp only [List.take_succ_cons, List.take_zero]
    unfold Cx
    repeat (go_big_quiet_step (fail))
    exact wpQuiet_nil rfl
  simp only [List.drop_succ_cons, List.drop_zero]
  refine lex_nil ?_
  intro w1 hx hH
  have m3 := hH g3 _ ((Blocks.put_other _ _ (Ne.symm n5_3)).trans ((Blocks.put_other _ _ (Ne.symm n4_3)).trans (Blocks.put_same _ _ _)))
  have m4 := hH g4 _ ((Blocks.put_other _ _ (Ne.symm n5_4)).trans (Blocks.put_same _ _ _))
  have m5 := hH g5 _ (Blocks.put_same _ _ _)
  have HB1 := Lib.hid (HB0.out.trans (hx.below_of (b := w.heap.size) (by simp) HB0.out.size))
  replace q3 := Nat.le_trans HB0.out.size q3
  replace q4 := Nat.le_trans HB0.out.size q4
  replace q5 := Nat.le_trans HB0.out.size q5
  clear hx hH HB0
  go_wp2_with fail
  refine wp_game [0, 0, 0, 0, 0, 0, 3, 3, 3, 2, 2, 2] [] B0 fin_B0 (has_B0 _) (by kernel_rfl) (by kernel_rfl) ?_
  refine lex_quietE 6 (by kernel_rfl) (by rfl) ?_
  apply Exists.intro
  refine ⟨fun x hx => ?_, ?_⟩
  · have hwx := HB1.out.trans (hx.below_of (b := w.heap.size) (by simp) HB1.out.size)
    have e3_0 := blk_cellp (hx.keep m3 (by simp)) 0 rfl
    have e3_1 := blk_cellp (hx.keep m3 (by simp)) 1 rfl
    have e4_0 := blk_cellp (hx.keep m4 (by simp)) 0 rfl
    have e4_1 := blk_cellp (hx.keep m4 (by simp)) 1 rfl
    have e5_0 := blk_cellp (hx.keep m5 (by simp)) 0 rfl
    have e5_1 := blk_cellp (hx.keep m5 (by simp)) 1 rfl
    clear hx
    simp only [List.take_succ_cons, List.take_zero]
    unfold Cx
    repeat (go_big_quiet_step (first | with_reducible exact KA.at _ _ | with_reducible exact KB.at _ _ | with_reducible exact KC.at _ _))
    exact wpQuiet_nil rfl
  simp only [List.drop_succ_cons, List.drop_zero]
  refine lex_alloc (.agg #[.string ByteArray.empty, .string ByteArray.empty]) (by rfl) (fun x => by kernel_rfl) (fun g7 q7 hn7 => ?_)
  unfold setSlot
  go_big_quiet_step (fail)
  refine wpQuiet_nil ?_
  clear hn7
  refine lex_alloc (.agg #[.string ByteArray.empty, .string ByteArray.empty]) (by rfl) (fun x => by kernel_rfl) (fun g8 q8 hn8 => ?_)
  unfold setSlot
  go_big_quiet_step (fail)
  refine wpQuiet_nil ?_
  have n8_7 := ne_of_put hn8
  replace hn8 := none_of_put hn8
  clear hn8
  refine lex_alloc (.agg #[.string ByteArray.empty, .string ByteArray.empty]) (by rfl) (fun x => by kernel_rfl) (fun g9 q9 hn9 => ?_)
  unfold setSlot
  go_big_quiet_step (fail)
  refine wpQuiet_nil ?_
  have n9_8 := ne_of_put hn9
  replace hn9 := none_of_put hn9
  have n9_7 := ne_of_put hn9
  replace hn9 := none_of_put hn9
  clear hn9
  refine lex_store_all g7 _ _ _ (by rfl) (by rfl) (by rfl) ((Blocks.put_other _ _ (Ne.symm n9_7)).trans ((Blocks.put_other _ _ (Ne.symm n8_7)).trans (Blocks.put_same _ _ _))) (by rfl) (Or.inr q7) (by kernel_rfl) (by simp [Value.oneCell']) ?_
  refine lex_store_all g8 _ _ _ (by rfl) (by rfl) (by rfl) ((Blocks.put_other _ _ n8_7).trans ((Blocks.put_other _ _ (Ne.symm n9_8)).trans (Blocks.put_same _ _ _))) (by rfl) (Or.inr q8) (by kernel_rfl) (by simp [Value.oneCell']) ?_
  refine lex_store_all g9 _ _ _ (by rfl) (by rfl) (by rfl) ((Blocks.put_other _ _ n9_8).trans ((Blocks.put_other _ _ n9_7).trans (Blocks.put_same _ _ _))) (by rfl) (Or.inr q9) (by kernel_rfl) (by simp [Value.oneCell']) ?_
  refine lex_nil ?_
  intro w2 hx hH
  have m7 := hH g7 _ ((Blocks.put_other _ _ (Ne.symm n9_7)).trans ((Blocks.put_other _ _ (Ne.symm n8_7)).trans (Blocks.put_same _ _ _)))
  have m8 := hH g8 _ ((Blocks.put_other _ _ (Ne.symm n9_8)).trans (Blocks.put_same _ _ _))
  have m9 := hH g9 _ (Blocks.put_same _ _ _)
  have HB2 := Lib.hid (HB1.out.trans (hx.below_of (b := w.heap.size) (by simp) HB1.out.size))
  replace q7 := Nat.le_trans HB1.out.size q7
  replace q8 := Nat.le_trans HB1.out.size q8
  replace q9 := Nat.le_trans HB1.out.size q9
  clear hx hH HB1 m3 m4 m5 q3 q4 q5
  go_wp2_with fail
  refine wp_game [0, 0, 0, 0, 0, 0, 0, 0] [] B0 fin_B0 (has_B0 _) (by kernel_rfl) (by kernel_rfl) ?_
  refine lex_quietE 8 (by kernel_rfl) (by rfl) ?_
  apply Exists.intro
  refine ⟨fun x hx => ?_, ?_⟩
  · have hwx := HB2.out.trans (hx.below_of (b := w.heap.size) (by simp) HB2.out.size)
    have e7_0 := blk_cellp (hx.keep m7 (by simp)) 0 rfl
    have e7_1 := blk_cellp (hx.keep m7 (by simp)) 1 rfl
    have e8_0 := blk_cellp (hx.keep m8 (by simp)) 0 rfl
    have e8_1 := blk_cellp (hx.keep m8 (by simp)) 1 rfl
    have e9_0 := blk_cellp (hx.keep m9 (by simp)) 0 rfl
    have e9_1 := blk_cellp (hx.keep m9 (by simp)) 1 rfl
    clear hx
    simp only [List.take_succ_cons, List.take_zero]
    unfold Cx
    repeat (go_big_quiet_step (first | with_reducible exact C1.at _ _ | with_reducible exact C2.at _ _))
    exact wpQuiet_nil rfl
  simp only [List.drop_succ_cons, List.drop_zero]
  refine lex_nil ?_
  intro w3 hx hH
  replace m7 := hx.keep m7 (by simp)
  replace m8 := hx.keep m8 (by simp)
  replace m9 := hx.keep m9 (by simp)
  have HB3 := Lib.hid (HB2.out.trans (hx.below_of (b := w.heap.size) (by simp) HB2.out.size))
  clear hx hH HB2
  go_wp2_with (with_reducible refine wpList_from 33 [0, 0, 0, 0, 0, 0, 0, 0, 0, 0, 0, 0, 0, 0, 0, 0, 0, 0, 0, 0, 0, 0, 0, 0, 0, 0, 0, 0, 0] [] B0 (has_B0 _) ?_)
  refine lex_quietE 29 (by kernel_rfl) (by rfl) ?_
  apply Exists.intro
  refine ⟨fun x hx => ?_, ?_⟩
  · have hwx := HB3.out.trans (hx.below_of (b := w.heap.size) (by simp) HB3.out.size)
    have e8_0 := blk_cellp (hx.keep m8 (by simp)) 0 rfl
    have e8_1 := blk_cellp (hx.keep m8 (by simp)) 1 rfl
    have e7_0 := blk_cellp (hx.keep m7 (by simp)) 0 rfl
    have e7_1 := blk_cellp (hx.keep m7 (by simp)) 1 rfl
    have e9_0 := blk_cellp (hx.keep m9 (by simp)) 0 rfl
    have e9_1 := blk_cellp (hx.keep m9 (by simp)) 1 rfl
    clear hx
    simp only [List.take_succ_cons, List.take_zero]
    unfold Cx
    repeat (go_big_quiet_step (first | with_reducible exact C3.at _ _ | with_reducible exact E1.at _ _ | with_reducible exact C4.at _ _))
    exact wpQuiet_nil rfl
  simp only [List.drop_succ_cons, List.drop_zero]
  refine lex_nil ?_
  intro w4 hx hH
  replace m7 := hx.keep m7 (by simp)
  replace m8 := hx.keep m8 (by simp)
  replace m9 := hx.keep m9 (by simp)
  have HB4 := Lib.hid (HB3.out.trans (hx.below_of (b := w.heap.size) (by simp) HB3.out.size))
  clear hx hH HB3
  go_wp2_with (with_reducible refine wpList_from 63 [0, 0, 0, 0, 0, 0, 3, 2, 0] [] B0 (has_B0 _) ?_)
  refine lex_quietE 6 (by kernel_rfl) (by rfl) ?_
  apply Exists.intro
  refine ⟨fun x hx => ?_, ?_⟩
  · have hwx := HB4.out.trans (hx.below_of (b := w.heap.size) (by simp) HB4.out.size)
    have e7_0 := blk_cellp (hx.keep m7 (by simp)) 0 rfl
    have e7_1 := blk_cellp (hx.keep m7 (by simp)) 1 rfl
    have e8_0 := blk_cellp (hx.keep m8 (by simp)) 0 rfl
    have e8_1 := blk_cellp (hx.keep m8 (by simp)) 1 rfl
    clear hx
    simp only [List.take_succ_cons, List.take_zero]
    unfold Cx
    repeat (go_big_quiet_step (first | with_reducible exact KS.at _ _))
    exact wpQuiet_nil rfl
  simp only [List.drop_succ_cons, List.drop_zero]
  refine lex_alloc (.agg #[.string ByteArray.empty, .string ByteArray.empty]) (by rfl) (fun x => by kernel_rfl) (fun g12 q12 hn12 => ?_)
  unfold setSlot
  go_big_quiet_step (fail)
  refine wpQuiet_nil ?_
  clear hn12
  refine lex_store_all g12 _ _ _ (by rfl) (by rfl) (by rfl) (Blocks.put_same _ _ _) (by rfl) (Or.inr q12) (by kernel_rfl) (by simp [Value.oneCell']) ?_
  refine lex_quietE 1 (by kernel_rfl) (by rfl) ?_
  apply Exists.intro
  refine ⟨fun x hx => ?_, ?_⟩
  · have hwx := HB4.out.trans (hx.below_of (b := w.heap.size) (by simp) HB4.out.size)
    have e7_0 := blk_cellp (hx.keep m7 (by simp)) 0 rfl
    have e7_1 := blk_cellp (hx.keep m7 (by simp)) 1 rfl
    have e8_0 := blk_cellp (hx.keep m8 (by simp)) 0 rfl
    have e8_1 := blk_cellp (hx.keep m8 (by simp)) 1 rfl
    clear hx
    simp only [List.take_succ_cons, List.take_zero]
    unfold Cx
    repeat (go_big_quiet_step (first | with_reducible exact KS.at _ _))
    exact wpQuiet_nil rfl
  simp only [List.drop_succ_cons, List.drop_zero]
  refine lex_nil ?_
  intro w5 hx hH
  replace m7 := hx.keep m7 (by simp)
  replace m8 := hx.keep m8 (by simp)
  replace m9 := hx.keep m9 (by simp)
  have HB5 := Lib.hid (HB4.out.trans (hx.below_of (b := w.heap.size) (by simp) HB4.out.size))
  clear hx hH HB4 q12
  go_wp2_with fail
  refine wp_game [0, 0, 0, 0, 0, 0, 0, 0, 0, 0, 0, 0, 0, 0, 0] [] B0 fin_B0 (has_B0 _) (by kernel_rfl) (by kernel_rfl) ?_
  refine lex_quietE 15 (by kernel_rfl) (by rfl) ?_
  apply Exists.intro
  refine ⟨fun x hx => ?_, ?_⟩
  · have hwx := HB5.out.trans (hx.below_of (b := w.heap.size) (by simp) HB5.out.size)
    have e7_0 := blk_cellp (hx.keep m7 (by simp)) 0 rfl
    have e7_1 := blk_cellp (hx.keep m7 (by simp)) 1 rfl
    have e9_0 := blk_cellp (hx.keep m9 (by simp)) 0 rfl
    have e9_1 := blk_cellp (hx.keep m9 (by simp)) 1 rfl
    have e8_0 := blk_cellp (hx.keep m8 (by simp)) 0 rfl
    have e8_1 := blk_cellp (hx.keep m8 (by simp)) 1 rfl
    clear hx
    simp only [List.take_succ_cons, List.take_zero]
    unfold Cx
    repeat (go_big_quiet_step (first | with_reducible exact K1.at _ _ | with_reducible exact C5.at _ _))
    exact wpQuiet_nil rfl
  simp only [List.drop_succ_cons, List.drop_zero]
  refine lex_nil ?_
  intro w6 hx hH
  replace m7 := hx.keep m7 (by simp)
  replace m8 := hx.keep m8 (by simp)
  replace m9 := hx.keep m9 (by simp)
  have HB6 := Lib.hid (HB5.out.trans (hx.below_of (b := w.heap.size) (by simp) HB5.out.size))
  clear hx hH HB5
  go_wp2_with fail
  refine wp_game [0, 0, 0, 0, 0, 0, 0, 0, 0, 0, 0, 0, 0, 0, 0, 0, 0, 0] [] B0 fin_B0 (has_B0 _) (by kernel_rfl) (by kernel_rfl) ?_
  refine lex_quietE 18 (by kernel_rfl) (by rfl) ?_
  apply Exists.intro
  refine ⟨fun x hx => ?_, ?_⟩
  · have hwx := HB6.out.trans (hx.below_of (b := w.heap.size) (by simp) HB6.out.size)
    have e9_0 := blk_cellp (hx.keep m9 (by simp)) 0 rfl
    have e9_1 := blk_cellp (hx.keep m9 (by simp)) 1 rfl
    have e7_0 := blk_cellp (hx.keep m7 (by simp)) 0 rfl
    have e7_1 := blk_cellp (hx.keep m7 (by simp)) 1 rfl
    have e8_0 := blk_cellp (hx.keep m8 (by simp)) 0 rfl
    have e8_1 := blk_cellp (hx.keep m8 (by simp)) 1 rfl
    clear hx
    simp only [List.take_succ_cons, List.take_zero]
    unfold Cx
    repeat (go_big_quiet_step (first | with_reducible exact KT.at _ _ | with_reducible exact KW.at _ _))
    exact wpQuiet_nil rfl
  simp only [List.drop_succ_cons, List.drop_zero]
  refine lex_nil ?_
  intro w7 hx hH
  have HB7 := Lib.hid (HB6.out.trans (hx.below_of (b := w.heap.size) (by simp) HB6.out.size))
  clear hx hH HB6 m7 m8 m9 q7 q8 q9
  go_wp2_with fail
  exact bodyPost_ret (v := .bool true) (by simp [results, Try.results7, go_sem]) rfl ⟨rfl, HB7.out⟩

set_option maxHeartbeats 1600000 in
set_option maxRecDepth 100000 in
theorem w_order_e_le_n (Na Da Nb Db Nc Dc t : ByteArray) (m k : Int) (hm : m ≤ 0) (hk : k ≤ 0) (ht : (t.toList == [48]) = false) (a1 a2 b1 b2 c1 c2 d1 d2 s1 s2 u1 u2 x1 x2 y1 y2 : ByteArray) (KA : Gives 13 #[.agg #[.string Na, .string Da]] (.agg #[.string a1, .string a2])) (KB : Gives 13 #[.agg #[.string Nb, .string Db]] (.agg #[.string a1, .string a2])) (KC : Gives 13 #[.agg #[.string Nc, .string Dc]] (.agg #[.string c1, .string c2])) (C1 : Gives 31 #[.agg #[.string a1, .string a2], .agg #[.string a1, .string a2]] (.int .i64 0)) (C2 : Gives 31 #[.agg #[.string a1, .string a2], .agg #[.string c1, .string c2]] (.int .i64 m)) (C3 : Gives 31 #[.agg #[.string a1, .string a2], .agg #[.string a1, .string a2]] (.int .i64 0)) (E1 : Gives 15 #[.agg #[.string a1, .string a2], .agg #[.string a1, .string a2]] (.bool true)) (KS : Gives 29 #[.agg #[.string a1, .string a2], .agg #[.string a1, .string a2]] (.tuple #[.agg #[.string d1, .string d2], .bool true])) (K1 : Gives 16 #[.agg #[.string a1, .string a2], .agg #[.string c1, .string c2]] (.agg #[.string s1, .string s2])) (C4 : Gives 31 #[.agg #[.string a1, .string a2], .agg #[.string c1, .string c2]] (.int .i64 k)) (C5 : Gives 31 #[.agg #[.string s1, .string s2], .agg #[.string s1, .string s2]] (.int .i64 0)) (KT : Gives 30 #[.agg #[.string c1, .string c2]] (.string t)) (KW : Gives 18 #[] (.bool true)) (K3 : Gives 17 #[.agg #[.string a1, .string a2], .agg #[.string c1, .string c2]] (.agg #[.string x1, .string x2])) (C6 : Gives 31 #[.agg #[.string x1, .string x2], .agg #[.string x1, .string x2]] (.int .i64 0)) : Gives 7 #[.agg #[.string Na, .string Da], .agg #[.string Nb, .string Db], .agg #[.string Nc, .string Dc]] (.bool true) := by
  intro w
  have HB0 := Lib.hid (Below.refl w.heap.size w)
  go_enter Try.func7, Try.ntmps7
  go_wp2_with (with_reducible refine wpList_from 3 [3, 3, 3, 0] [] B0 (has_B0 _) ?_)
  refine lex_box_agg _ (by rfl) (by rfl) (fun g3 q3 hn3 => ?_)
  unfold setSlot
  go_big_quiet_step (fail)
  refine wpQuiet_nil ?_
  clear hn3
  refine lex_box_agg _ (by rfl) (by rfl) (fun g4 q4 hn4 => ?_)
  unfold setSlot
  go_big_quiet_step (fail)
  refine wpQuiet_nil ?_
  have n4_3 := ne_of_put hn4
  replace hn4 := none_of_put hn4
  clear hn4
  refine lex_box_agg _ (by rfl) (by rfl) (fun g5 q5 hn5 => ?_)
  unfold setSlot
  go_big_quiet_step (fail)
  refine wpQuiet_nil ?_
  have n5_4 := ne_of_put hn5
  replace hn5 := none_of_put hn5
  have n5_3 := ne_of_put hn5
  replace hn5 := none_of_put hn5
  clear hn5
  refine lex_quietE 1 (by kernel_rfl) (by rfl) ?_
  apply Exists.intro
  refine ⟨fun x hx => ?_, ?_⟩
  · have hwx := HB0.out.trans (hx.below_of (b := w.heap.size) (by simp) HB0.out.size)
    clear hx
    simp only [List.take_succ_cons, List.take_zero]
    unfold Cx
    repeat (go_big_quiet_step (fail))
    exact wpQuiet_nil rfl
  simp only [List.drop_succ_cons, List.drop_zero]
  refine lex_nil ?_
  intro w1 hx hH
  have m3 := hH g3 _ ((Blocks.put_other _ _ (Ne.symm n5_3)).trans ((Blocks.put_other _ _ (Ne.symm n4_3)).trans (Blocks.put_same _ _ _)))
  have m4 := hH g4 _ ((Blocks.put_other _ _ (Ne.symm n5_4)).trans (Blocks.put_same _ _ _))
  have m5 := hH g5 _ (Blocks.put_same _ _ _)
  have HB1 := Lib.hid (HB0.out.trans (hx.below_of (b := w.heap.size) (by simp) HB0.out.size))
  replace q3 := Nat.le_trans HB0.out.size q3
  replace q4 := Nat.le_trans HB0.out.size q4
  replace q5 := Nat.le_trans HB0.out.size q5
  clear hx hH HB0
  go_wp2_with fail
  refine wp_game [0, 0, 0, 0, 0, 0, 3, 3, 3, 2, 2, 2] [] B0 fin_B0 (has_B0 _) (by kernel_rfl) (by kernel_rfl) ?_
  refine lex_quietE 6 (by kernel_rfl) (by rfl) ?_
  apply Exists.intro
  refine ⟨fun x hx => ?_, ?_⟩
  · have hwx := HB1.out.trans (hx.below_of (b := w.heap.size) (by simp) HB1.out.size)
    have e3_0 := blk_cellp (hx.keep m3 (by simp)) 0 rfl
    have e3_1 := blk_cellp (hx.keep m3 (by simp)) 1 rfl
    have e4_0 := blk_cellp (hx.keep m4 (by simp)) 0 rfl
    have e4_1 := blk_cellp (hx.keep m4 (by simp)) 1 rfl
    have e5_0 := blk_cellp (hx.keep m5 (by simp)) 0 rfl
    have e5_1 := blk_cellp (hx.keep m5 (by simp)) 1 rfl
    clear hx
    simp only [List.take_succ_cons, List.take_zero]
    unfold Cx
    repeat (go_big_quiet_step (first | with_reducible exact KA.at _ _ | with_reducible exact KB.at _ _ | with_reducible exact KC.at _ _))
    exact wpQuiet_nil rfl
  simp only [List.drop_succ_cons, List.drop_zero]
  refine lex_alloc (.agg #[.string ByteArray.empty, .string ByteArray.empty]) (by rfl) (fun x => by kernel_rfl) (fun g7 q7 hn7 => ?_)
  unfold setSlot
  go_big_quiet_step (fail)
  refine wpQuiet_nil ?_
  clear hn7
  refine lex_alloc (.agg #[.string ByteArray.empty, .string ByteArray.empty]) (by rfl) (fun x => by kernel_rfl) (fun g8 q8 hn8 => ?_)
  unfold setSlot
  go_big_quiet_step (fail)
  refine wpQuiet_nil ?_
  have n8_7 := ne_of_put hn8
  replace hn8 := none_of_put hn8
  clear hn8
  refine lex_alloc (.agg #[.string ByteArray.empty, .string ByteArray.empty]) (by rfl) (fun x => by kernel_rfl) (fun g9 q9 hn9 => ?_)
  unfold setSlot
  go_big_quiet_step (fail)
  refine wpQuiet_nil ?_
  have n9_8 := ne_of_put hn9
  replace hn9 := none_of_put hn9
  have n9_7 := ne_of_put hn9
  replace hn9 := none_of_put hn9
  clear hn9
  refine lex_store_all g7 _ _ _ (by rfl) (by rfl) (by rfl) ((Blocks.put_other _ _ (Ne.symm n9_7)).trans ((Blocks.put_other _ _ (Ne.symm n8_7)).trans (Blocks.put_same _ _ _))) (by rfl) (Or.inr q7) (by kernel_rfl) (by simp [Value.oneCell']) ?_
  refine lex_store_all g8 _ _ _ (by rfl) (by rfl) (by rfl) ((Blocks.put_other _ _ n8_7).trans ((Blocks.put_other _ _ (Ne.symm n9_8)).trans (Blocks.put_same _ _ _))) (by rfl) (Or.inr q8) (by kernel_rfl) (by simp [Value.oneCell']) ?_
  refine lex_store_all g9 _ _ _ (by rfl) (by rfl) (by rfl) ((Blocks.put_other _ _ n9_8).trans ((Blocks.put_other _ _ n9_7).trans (Blocks.put_same _ _ _))) (by rfl) (Or.inr q9) (by kernel_rfl) (by simp [Value.oneCell']) ?_
  refine lex_nil ?_
  intro w2 hx hH
  have m7 := hH g7 _ ((Blocks.put_other _ _ (Ne.symm n9_7)).trans ((Blocks.put_other _ _ (Ne.symm n8_7)).trans (Blocks.put_same _ _ _)))
  have m8 := hH g8 _ ((Blocks.put_other _ _ (Ne.symm n9_8)).trans (Blocks.put_same _ _ _))
  have m9 := hH g9 _ (Blocks.put_same _ _ _)
  have HB2 := Lib.hid (HB1.out.trans (hx.below_of (b := w.heap.size) (by simp) HB1.out.size))
  replace q7 := Nat.le_trans HB1.out.size q7
  replace q8 := Nat.le_trans HB1.out.size q8
  replace q9 := Nat.le_trans HB1.out.size q9
  clear hx hH HB1 m3 m4 m5 q3 q4 q5
  go_wp2_with fail
  refine wp_game [0, 0, 0, 0, 0, 0, 0, 0] [] B0 fin_B0 (has_B0 _) (by kernel_rfl) (by kernel_rfl) ?_
  refine lex_quietE 8 (by kernel_rfl) (by rfl) ?_
  apply Exists.intro
  refine ⟨fun x hx => ?_, ?_⟩
  · have hwx := HB2.out.trans (hx.below_of (b := w.heap.size) (by simp) HB2.out.size)
    have e7_0 := blk_cellp (hx.keep m7 (by simp)) 0 rfl
    have e7_1 := blk_cellp (hx.keep m7 (by simp)) 1 rfl
    have e8_0 := blk_cellp (hx.keep m8 (by simp)) 0 rfl
    have e8_1 := blk_cellp (hx.keep m8 (by simp)) 1 rfl
    have e9_0 := blk_cellp (hx.keep m9 (by simp)) 0 rfl
    have e9_1 := blk_cellp (hx.keep m9 (by simp)) 1 rfl
    clear hx
    simp only [List.take_succ_cons, List.take_zero]
    unfold Cx
    repeat (go_big_quiet_step (first | with_reducible exact C1.at _ _ | with_reducible exact C2.at _ _))
    exact wpQuiet_nil rfl
  simp only [List.drop_succ_cons, List.drop_zero]
  refine lex_nil ?_
  intro w3 hx hH
  replace m7 := hx.keep m7 (by simp)
  replace m8 := hx.keep m8 (by simp)
  replace m9 := hx.keep m9 (by simp)
  have HB3 := Lib.hid (HB2.out.trans (hx.below_of (b := w.heap.size) (by simp) HB2.out.size))
  clear hx hH HB2
  go_wp2_with (with_reducible refine wpList_from 33 [0, 0, 0, 0, 0, 0, 0, 0, 0, 0, 0, 0, 0, 0, 0, 0, 0, 0, 0, 0, 0, 0, 0, 0, 0, 0, 0, 0, 0] [] B0 (has_B0 _) ?_)
  refine lex_quietE 29 (by kernel_rfl) (by rfl) ?_
  apply Exists.intro
  refine ⟨fun x hx => ?_, ?_⟩
  · have hwx := HB3.out.trans (hx.below_of (b := w.heap.size) (by simp) HB3.out.size)
    have e8_0 := blk_cellp (hx.keep m8 (by simp)) 0 rfl
    have e8_1 := blk_cellp (hx.keep m8 (by simp)) 1 rfl
    have e7_0 := blk_cellp (hx.keep m7 (by simp)) 0 rfl
    have e7_1 := blk_cellp (hx.keep m7 (by simp)) 1 rfl
    have e9_0 := blk_cellp (hx.keep m9 (by simp)) 0 rfl
    have e9_1 := blk_cellp (hx.keep m9 (by simp)) 1 rfl
    clear hx
    simp only [List.take_succ_cons, List.take_zero]
    unfold Cx
    repeat (go_big_quiet_step (first | with_reducible exact C3.at _ _ | with_reducible exact E1.at _ _ | with_reducible exact C4.at _ _))
    exact wpQuiet_nil rfl
  simp only [List.drop_succ_cons, List.drop_zero]
  refine lex_nil ?_
  intro w4 hx hH
  replace m7 := hx.keep m7 (by simp)
  replace m8 := hx.keep m8 (by simp)
  replace m9 := hx.keep m9 (by simp)
  have HB4 := Lib.hid (HB3.out.trans (hx.below_of (b := w.heap.size) (by simp) HB3.out.size))
  clear hx hH HB3
  go_wp2_with (with_reducible refine wpList_from 63 [0, 0, 0, 0, 0, 0, 3, 2, 0] [] B0 (has_B0 _) ?_)
  refine lex_quietE 6 (by kernel_rfl) (by rfl) ?_
  apply Exists.intro
  refine ⟨fun x hx => ?_, ?_⟩
  · have hwx := HB4.out.trans (hx.below_of (b := w.heap.size) (by simp) HB4.out.size)
    have e7_0 := blk_cellp (hx.keep m7 (by simp)) 0 rfl
    have e7_1 := blk_cellp (hx.keep m7 (by simp)) 1 rfl
    have e8_0 := blk_cellp (hx.keep m8 (by simp)) 0 rfl
    have e8_1 := blk_cellp (hx.keep m8 (by simp)) 1 rfl
    clear hx
    simp only [List.take_succ_cons, List.take_zero]
    unfold Cx
    repeat (go_big_quiet_step (first | with_reducible exact KS.at _ _))
    exact wpQuiet_nil rfl
  simp only [List.drop_succ_cons, List.drop_zero]
  refine lex_alloc (.agg #[.string ByteArray.empty, .string ByteArray.empty]) (by rfl) (fun x => by kernel_rfl) (fun g12 q12 hn12 => ?_)
  unfold setSlot
  go_big_quiet_step (fail)
  refine wpQuiet_nil ?_
  clear hn12
  refine lex_store_all g12 _ _ _ (by rfl) (by rfl) (by rfl) (Blocks.put_same _ _ _) (by rfl) (Or.inr q12) (by kernel_rfl) (by simp [Value.oneCell']) ?_
  refine lex_quietE 1 (by kernel_rfl) (by rfl) ?_
  apply Exists.intro
  refine ⟨fun x hx => ?_, ?_⟩
  · have hwx := HB4.out.trans (hx.below_of (b := w.heap.size) (by simp) HB4.out.size)
    have e7_0 := blk_cellp (hx.keep m7 (by simp)) 0 rfl
    have e7_1 := blk_cellp (hx.keep m7 (by simp)) 1 rfl
    have e8_0 := blk_cellp (hx.keep m8 (by simp)) 0 rfl
    have e8_1 := blk_cellp (hx.keep m8 (by simp)) 1 rfl
    clear hx
    simp only [List.take_succ_cons, List.take_zero]
    unfold Cx
    repeat (go_big_quiet_step (first | with_reducible exact KS.at _ _))
    exact wpQuiet_nil rfl
  simp only [List.drop_succ_cons, List.drop_zero]
  refine lex_nil ?_
  intro w5 hx hH
  replace m7 := hx.keep m7 (by simp)
  replace m8 := hx.keep m8 (by simp)
  replace m9 := hx.keep m9 (by simp)
  have HB5 := Lib.hid (HB4.out.trans (hx.below_of (b := w.heap.size) (by simp) HB4.out.size))
  clear hx hH HB4 q12
  go_wp2_with fail
  refine wp_game [0, 0, 0, 0, 0, 0, 0, 0, 0, 0, 0, 0, 0, 0, 0] [] B0 fin_B0 (has_B0 _) (by kernel_rfl) (by kernel_rfl) ?_
  refine lex_quietE 15 (by kernel_rfl) (by rfl) ?_
  apply Exists.intro
  refine ⟨fun x hx => ?_, ?_⟩
  · have hwx := HB5.out.trans (hx.below_of (b := w.heap.size) (by simp) HB5.out.size)
    have e7_0 := blk_cellp (hx.keep m7 (by simp)) 0 rfl
    have e7_1 := blk_cellp (hx.keep m7 (by simp)) 1 rfl
    have e9_0 := blk_cellp (hx.keep m9 (by simp)) 0 rfl
    have e9_1 := blk_cellp (hx.keep m9 (by simp)) 1 rfl
    have e8_0 := blk_cellp (hx.keep m8 (by simp)) 0 rfl
    have e8_1 := blk_cellp (hx.keep m8 (by simp)) 1 rfl
    clear hx
    simp only [List.take_succ_cons, List.take_zero]
    unfold Cx
    repeat (go_big_quiet_step (first | with_reducible exact K1.at _ _ | with_reducible exact C5.at _ _))
    exact wpQuiet_nil rfl
  simp only [List.drop_succ_cons, List.drop_zero]
  refine lex_nil ?_
  intro w6 hx hH
  replace m7 := hx.keep m7 (by simp)
  replace m8 := hx.keep m8 (by simp)
  replace m9 := hx.keep m9 (by simp)
  have HB6 := Lib.hid (HB5.out.trans (hx.below_of (b := w.heap.size) (by simp) HB5.out.size))
  clear hx hH HB5
  go_wp2_with fail
  refine wp_game [0, 0, 0, 0, 0, 0, 0, 0, 0, 0, 0, 0, 0, 0, 0, 0, 0, 0] [] B0 fin_B0 (has_B0 _) (by kernel_rfl) (by kernel_rfl) ?_
  refine lex_quietE 18 (by kernel_rfl) (by rfl) ?_
  apply Exists.intro
  refine ⟨fun x hx => ?_, ?_⟩
  · have hwx := HB6.out.trans (hx.below_of (b := w.heap.size) (by simp) HB6.out.size)
    have e9_0 := blk_cellp (hx.keep m9 (by simp)) 0 rfl
    have e9_1 := blk_cellp (hx.keep m9 (by simp)) 1 rfl
    have e7_0 := blk_cellp (hx.keep m7 (by simp)) 0 rfl
    have e7_1 := blk_cellp (hx.keep m7 (by simp)) 1 rfl
    have e8_0 := blk_cellp (hx.keep m8 (by simp)) 0 rfl
    have e8_1 := blk_cellp (hx.keep m8 (by simp)) 1 rfl
    clear hx
    simp only [List.take_succ_cons, List.take_zero]
    unfold Cx
    repeat (go_big_quiet_step (first | with_reducible exact KT.at _ _ | with_reducible exact KW.at _ _ | with_reducible exact K3.at _ _ | with_reducible exact C6.at _ _))
    exact wpQuiet_nil rfl
  simp only [List.drop_succ_cons, List.drop_zero]
  refine lex_nil ?_
  intro w7 hx hH
  have HB7 := Lib.hid (HB6.out.trans (hx.below_of (b := w.heap.size) (by simp) HB6.out.size))
  clear hx hH HB6 m7 m8 m9 q7 q8 q9
  go_wp2_with fail
  exact bodyPost_ret (v := .bool true) (by simp [results, Try.results7, go_sem]) rfl ⟨rfl, HB7.out⟩

set_option maxHeartbeats 1600000 in
set_option maxRecDepth 100000 in
theorem w_order_e_gt_z (Na Da Nb Db Nc Dc t : ByteArray) (m k : Int) (ht : t.toList = [48]) (a1 a2 b1 b2 c1 c2 d1 d2 s1 s2 u1 u2 x1 x2 y1 y2 : ByteArray) (KA : Gives 13 #[.agg #[.string Na, .string Da]] (.agg #[.string a1, .string a2])) (KB : Gives 13 #[.agg #[.string Nb, .string Db]] (.agg #[.string a1, .string a2])) (KC : Gives 13 #[.agg #[.string Nc, .string Dc]] (.agg #[.string c1, .string c2])) (C1 : Gives 31 #[.agg #[.string a1, .string a2], .agg #[.string a1, .string a2]] (.int .i64 0)) (C2 : Gives 31 #[.agg #[.string a1, .string a2], .agg #[.string c1, .string c2]] (.int .i64 1)) (C3 : Gives 31 #[.agg #[.string a1, .string a2], .agg #[.string a1, .string a2]] (.int .i64 0)) (E1 : Gives 15 #[.agg #[.string a1, .string a2], .agg #[.string a1, .string a2]] (.bool true)) (KS : Gives 29 #[.agg #[.string a1, .string a2], .agg #[.string a1, .string a2]] (.tuple #[.agg #[.string d1, .string d2], .bool true])) (K1 : Gives 16 #[.agg #[.string a1, .string a2], .agg #[.string c1, .string c2]] (.agg #[.string s1, .string s2])) (C5 : Gives 31 #[.agg #[.string s1, .string s2], .agg #[.string s1, .string s2]] (.int .i64 0)) (KT : Gives 30 #[.agg #[.string c1, .string c2]] (.string t)) (KW : Gives 18 #[] (.bool true)) : Gives 7 #[.agg #[.string Na, .string Da], .agg #[.string Nb, .string Db], .agg #[.string Nc, .string Dc]] (.bool true) := by
  intro w
  have HB0 := Lib.hid (Below.refl w.heap.size w)
  go_enter Try.func7, Try.ntmps7
  go_wp2_with (with_reducible refine wpList_from 3 [3, 3, 3, 0] [] B0 (has_B0 _) ?_)
  refine lex_box_agg _ (by rfl) (by rfl) (fun g3 q3 hn3 => ?_)
  unfold setSlot
  go_big_quiet_step (fail)
  refine wpQuiet_nil ?_
  clear hn3
  refine lex_box_agg _ (by rfl) (by rfl) (fun g4 q4 hn4 => ?_)
  unfold setSlot
  go_big_quiet_step (fail)
  refine wpQuiet_nil ?_
  have n4_3 := ne_of_put hn4
  replace hn4 := none_of_put hn4
  clear hn4
  refine lex_box_agg _ (by rfl) (by rfl) (fun g5 q5 hn5 => ?_)
  unfold setSlot
  go_big_quiet_step (fail)
  refine wpQuiet_nil ?_
  have n5_4 := ne_of_put hn5
  replace hn5 := none_of_put hn5
  have n5_3 := ne_of_put hn5
  replace hn5 := none_of_put hn5
  clear hn5
  refine lex_quietE 1 (by kernel_rfl) (by rfl) ?_
  apply Exists.intro
  refine ⟨fun x hx => ?_, ?_⟩
  · have hwx := HB0.out.trans (hx.below_of (b := w.heap.size) (by simp) HB0.out.size)
    clear hx
    simp only [List.take_succ_cons, List.take_zero]
    unfold Cx
    repeat (go_big_quiet_step (fail))
    exact wpQuiet_nil rfl
  simp only [List.drop_succ_cons, List.drop_zero]
  refine lex_nil ?_
  intro w1 hx hH
  have m3 := hH g3 _ ((Blocks.put_other _ _ (Ne.symm n5_3)).trans ((Blocks.put_other _ _ (Ne.symm n4_3)).trans (Blocks.put_same _ _ _)))
  have m4 := hH g4 _ ((Blocks.put_other _ _ (Ne.symm n5_4)).trans (Blocks.put_same _ _ _))
  have m5 := hH g5 _ (Blocks.put_same _ _ _)
  have HB1 := Lib.hid (HB0.out.trans (hx.below_of (b := w.heap.size) (by simp) HB0.out.size))
  replace q3 := Nat.le_trans HB0.out.size q3
  replace q4 := Nat.le_trans HB0.out.size q4
  replace q5 := Nat.le_trans HB0.out.size q5
  clear hx hH HB0
  go_wp2_with fail
  refine wp_game [0, 0, 0, 0, 0, 0, 3, 3, 3, 2, 2, 2] [] B0 fin_B0 (has_B0 _) (by kernel_rfl) (by kernel_rfl) ?_
  refine lex_quietE 6 (by kernel_rfl) (by rfl) ?_
  apply Exists.intro
  refine ⟨fun x hx => ?_, ?_⟩
  · have hwx := HB1.out.trans (hx.below_of (b := w.heap.size) (by simp) HB1.out.size)
    have e3_0 := blk_cellp (hx.keep m3 (by simp)) 0 rfl
    have e3_1 := blk_cellp (hx.keep m3 (by simp)) 1 rfl
    have e4_0 := blk_cellp (hx.keep m4 (by simp)) 0 rfl
    have e4_1 := blk_cellp (hx.keep m4 (by simp)) 1 rfl
    have e5_0 := blk_cellp (hx.keep m5 (by simp)) 0 rfl
    have e5_1 := blk_cellp (hx.keep m5 (by simp)) 1 rfl
    clear hx
    simp only [List.take_succ_cons, List.take_zero]
    unfold Cx
    repeat (go_big_quiet_step (first | with_reducible exact KA.at _ _ | with_reducible exact KB.at _ _ | with_reducible exact KC.at _ _))
    exact wpQuiet_nil rfl
  simp only [List.drop_succ_cons, List.drop_zero]
  refine lex_alloc (.agg #[.string ByteArray.empty, .string ByteArray.empty]) (by rfl) (fun x => by kernel_rfl) (fun g7 q7 hn7 => ?_)
  unfold setSlot
  go_big_quiet_step (fail)
  refine wpQuiet_nil ?_
  clear hn7
  refine lex_alloc (.agg #[.string ByteArray.empty, .string ByteArray.empty]) (by rfl) (fun x => by kernel_rfl) (fun g8 q8 hn8 => ?_)
  unfold setSlot
  go_big_quiet_step (fail)
  refine wpQuiet_nil ?_
  have n8_7 := ne_of_put hn8
  replace hn8 := none_of_put hn8
  clear hn8
  refine lex_alloc (.agg #[.string ByteArray.empty, .string ByteArray.empty]) (by rfl) (fun x => by kernel_rfl) (fun g9 q9 hn9 => ?_)
  unfold setSlot
  go_big_quiet_step (fail)
  refine wpQuiet_nil ?_
  have n9_8 := ne_of_put hn9
  replace hn9 := none_of_put hn9
  have n9_7 := ne_of_put hn9
  replace hn9 := none_of_put hn9
  clear hn9
  refine lex_store_all g7 _ _ _ (by rfl) (by rfl) (by rfl) ((Blocks.put_other _ _ (Ne.symm n9_7)).trans ((Blocks.put_other _ _ (Ne.symm n8_7)).trans (Blocks.put_same _ _ _))) (by rfl) (Or.inr q7) (by kernel_rfl) (by simp [Value.oneCell']) ?_
  refine lex_store_all g8 _ _ _ (by rfl) (by rfl) (by rfl) ((Blocks.put_other _ _ n8_7).trans ((Blocks.put_other _ _ (Ne.symm n9_8)).trans (Blocks.put_same _ _ _))) (by rfl) (Or.inr q8) (by kernel_rfl) (by simp [Value.oneCell']) ?_
  refine lex_store_all g9 _ _ _ (by rfl) (by rfl) (by rfl) ((Blocks.put_other _ _ n9_8).trans ((Blocks.put_other _ _ n9_7).trans (Blocks.put_same _ _ _))) (by rfl) (Or.inr q9) (by kernel_rfl) (by simp [Value.oneCell']) ?_
  refine lex_nil ?_
  intro w2 hx hH
  have m7 := hH g7 _ ((Blocks.put_other _ _ (Ne.symm n9_7)).trans ((Blocks.put_other _ _ (Ne.symm n8_7)).trans (Blocks.put_same _ _ _)))
  have m8 := hH g8 _ ((Blocks.put_other _ _ (Ne.symm n9_8)).trans (Blocks.put_same _ _ _))
  have m9 := hH g9 _ (Blocks.put_same _ _ _)
  have HB2 := Lib.hid (HB1.out.trans (hx.below_of (b := w.heap.size) (by simp) HB1.out.size))
  replace q7 := Nat.le_trans HB1.out.size q7
  replace q8 := Nat.le_trans HB1.out.size q8
  replace q9 := Nat.le_trans HB1.out.size q9
  clear hx hH HB1 m3 m4 m5 q3 q4 q5
  go_wp2_with fail
  refine wp_game [0, 0, 0, 0, 0, 0, 0, 0] [] B0 fin_B0 (has_B0 _) (by kernel_rfl) (by kernel_rfl) ?_
  refine lex_quietE 8 (by kernel_rfl) (by rfl) ?_
  apply Exists.intro
  refine ⟨fun x hx => ?_, ?_⟩
  · have hwx := HB2.out.trans (hx.below_of (b := w.heap.size) (by simp) HB2.out.size)
    have e7_0 := blk_cellp (hx.keep m7 (by simp)) 0 rfl
    have e7_1 := blk_cellp (hx.keep m7 (by simp)) 1 rfl
    have e8_0 := blk_cellp (hx.keep m8 (by simp)) 0 rfl
    have e8_1 := blk_cellp (hx.keep m8 (by simp)) 1 rfl
    have e9_0 := blk_cellp (hx.keep m9 (by simp)) 0 rfl
    have e9_1 := blk_cellp (hx.keep m9 (by simp)) 1 rfl
    clear hx
    simp only [List.take_succ_cons, List.take_zero]
    unfold Cx
    repeat (go_big_quiet_step (first | with_reducible exact C1.at _ _ | with_reducible exact C2.at _ _))
    exact wpQuiet_nil rfl
  simp only [List.drop_succ_cons, List.drop_zero]
  refine lex_nil ?_
  intro w3 hx hH
  replace m7 := hx.keep m7 (by simp)
  replace m8 := hx.keep m8 (by simp)
  replace m9 := hx.keep m9 (by simp)
  have HB3 := Lib.hid (HB2.out.trans (hx.below_of (b := w.heap.size) (by simp) HB2.out.size))
  clear hx hH HB2
  go_wp2_with (with_reducible refine wpList_from 33 [0, 0, 0, 0, 0, 0, 0, 0, 0, 0, 0, 0, 0, 0, 0, 0, 0, 0, 0, 0, 0, 0, 0, 0, 0, 0, 0, 0, 0] [] B0 (has_B0 _) ?_)
  refine lex_quietE 29 (by kernel_rfl) (by rfl) ?_
  apply Exists.intro
  refine ⟨fun x hx => ?_, ?_⟩
  · have hwx := HB3.out.trans (hx.below_of (b := w.heap.size) (by simp) HB3.out.size)
    have e8_0 := blk_cellp (hx.keep m8 (by simp)) 0 rfl
    have e8_1 := blk_cellp (hx.keep m8 (by simp)) 1 rfl
    have e7_0 := blk_cellp (hx.keep m7 (by simp)) 0 rfl
    have e7_1 := blk_cellp (hx.keep m7 (by simp)) 1 rfl
    have e9_0 := blk_cellp (hx.keep m9 (by simp)) 0 rfl
    have e9_1 := blk_cellp (hx.keep m9 (by simp)) 1 rfl
    clear hx
    simp only [List.take_succ_cons, List.take_zero]
    unfold Cx
    repeat (go_big_quiet_step (first | with_reducible exact C3.at _ _ | with_reducible exact E1.at _ _))
    exact wpQuiet_nil rfl
  simp only [List.drop_succ_cons, List.drop_zero]
  refine lex_nil ?_
  intro w4 hx hH
  replace m7 := hx.keep m7 (by simp)
  replace m8 := hx.keep m8 (by simp)
  replace m9 := hx.keep m9 (by simp)
  have HB4 := Lib.hid (HB3.out.trans (hx.below_of (b := w.heap.size) (by simp) HB3.out.size))
  clear hx hH HB3
  go_wp2_with (with_reducible refine wpList_from 63 [0, 0, 0, 0, 0, 0, 3, 2, 0] [] B0 (has_B0 _) ?_)
  refine lex_quietE 6 (by kernel_rfl) (by rfl) ?_
  apply Exists.intro
  refine ⟨fun x hx => ?_, ?_⟩
  · have hwx := HB4.out.trans (hx.below_of (b := w.heap.size) (by simp) HB4.out.size)
    have e7_0 := blk_cellp (hx.keep m7 (by simp)) 0 rfl
    have e7_1 := blk_cellp (hx.keep m7 (by simp)) 1 rfl
    have e8_0 := blk_cellp (hx.keep m8 (by simp)) 0 rfl
    have e8_1 := blk_cellp (hx.keep m8 (by simp)) 1 rfl
    clear hx
    simp only [List.take_succ_cons, List.take_zero]
    unfold Cx
    repeat (go_big_quiet_step (first | with_reducible exact KS.at _ _))
    exact wpQuiet_nil rfl
  simp only [List.drop_succ_cons, List.drop_zero]
  refine lex_alloc (.agg #[.string ByteArray.empty, .string ByteArray.empty]) (by rfl) (fun x => by kernel_rfl) (fun g12 q12 hn12 => ?_)
  unfold setSlot
  go_big_quiet_step (fail)
  refine wpQuiet_nil ?_
  clear hn12
  refine lex_store_all g12 _ _ _ (by rfl) (by rfl) (by rfl) (Blocks.put_same _ _ _) (by rfl) (Or.inr q12) (by kernel_rfl) (by simp [Value.oneCell']) ?_
  refine lex_quietE 1 (by kernel_rfl) (by rfl) ?_
  apply Exists.intro
  refine ⟨fun x hx => ?_, ?_⟩
  · have hwx := HB4.out.trans (hx.below_of (b := w.heap.size) (by simp) HB4.out.size)
    have e7_0 := blk_cellp (hx.keep m7 (by simp)) 0 rfl
    have e7_1 := blk_cellp (hx.keep m7 (by simp)) 1 rfl
    have e8_0 := blk_cellp (hx.keep m8 (by simp)) 0 rfl
    have e8_1 := blk_cellp (hx.keep m8 (by simp)) 1 rfl
    clear hx
    simp only [List.take_succ_cons, List.take_zero]
    unfold Cx
    repeat (go_big_quiet_step (first | with_reducible exact KS.at _ _))
    exact wpQuiet_nil rfl
  simp only [List.drop_succ_cons, List.drop_zero]
  refine lex_nil ?_
  intro w5 hx hH
  replace m7 := hx.keep m7 (by simp)
  replace m8 := hx.keep m8 (by simp)
  replace m9 := hx.keep m9 (by simp)
  have HB5 := Lib.hid (HB4.out.trans (hx.below_of (b := w.heap.size) (by simp) HB4.out.size))
  clear hx hH HB4 q12
  go_wp2_with fail
  refine wp_game [0, 0, 0, 0, 0, 0, 0, 0, 0, 0, 0, 0, 0, 0, 0] [] B0 fin_B0 (has_B0 _) (by kernel_rfl) (by kernel_rfl) ?_
  refine lex_quietE 15 (by kernel_rfl) (by rfl) ?_
  apply Exists.intro
  refine ⟨fun x hx => ?_, ?_⟩
  · have hwx := HB5.out.trans (hx.below_of (b := w.heap.size) (by simp) HB5.out.size)
    have e7_0 := blk_cellp (hx.keep m7 (by simp)) 0 rfl
    have e7_1 := blk_cellp (hx.keep m7 (by simp)) 1 rfl
    have e9_0 := blk_cellp (hx.keep m9 (by simp)) 0 rfl
    have e9_1 := blk_cellp (hx.keep m9 (by simp)) 1 rfl
    have e8_0 := blk_cellp (hx.keep m8 (by simp)) 0 rfl
    have e8_1 := blk_cellp (hx.keep m8 (by simp)) 1 rfl
    clear hx
    simp only [List.take_succ_cons, List.take_zero]
    unfold Cx
    repeat (go_big_quiet_step (first | with_reducible exact K1.at _ _ | with_reducible exact C5.at _ _))
    exact wpQuiet_nil rfl
  simp only [List.drop_succ_cons, List.drop_zero]
  refine lex_nil ?_
  intro w6 hx hH
  replace m7 := hx.keep m7 (by simp)
  replace m8 := hx.keep m8 (by simp)
  replace m9 := hx.keep m9 (by simp)
  have HB6 := Lib.hid (HB5.out.trans (hx.below_of (b := w.heap.size) (by simp) HB5.out.size))
  clear hx hH HB5
  go_wp2_with fail
  refine wp_game [0, 0, 0, 0, 0, 0, 0, 0, 0, 0, 0, 0, 0, 0, 0, 0, 0, 0] [] B0 fin_B0 (has_B0 _) (by kernel_rfl) (by kernel_rfl) ?_
  refine lex_quietE 18 (by kernel_rfl) (by rfl) ?_
  apply Exists.intro
  refine ⟨fun x hx => ?_, ?_⟩
  · have hwx := HB6.out.trans (hx.below_of (b := w.heap.size) (by simp) HB6.out.size)
    have e9_0 := blk_cellp (hx.keep m9 (by simp)) 0 rfl
    have e9_1 := blk_cellp (hx.keep m9 (by simp)) 1 rfl
    have e7_0 := blk_cellp (hx.keep m7 (by simp)) 0 rfl
    have e7_1 := blk_cellp (hx.keep m7 (by simp)) 1 rfl
    have e8_0 := blk_cellp (hx.keep m8 (by simp)) 0 rfl
    have e8_1 := blk_cellp (hx.keep m8 (by simp)) 1 rfl
    clear hx
    simp only [List.take_succ_cons, List.take_zero]
    unfold Cx
    repeat (go_big_quiet_step (first | with_reducible exact KT.at _ _ | with_reducible exact KW.at _ _))
    exact wpQuiet_nil rfl
  simp only [List.drop_succ_cons, List.drop_zero]
  refine lex_nil ?_
  intro w7 hx hH
  have HB7 := Lib.hid (HB6.out.trans (hx.below_of (b := w.heap.size) (by simp) HB6.out.size))
  clear hx hH HB6 m7 m8 m9 q7 q8 q9
  go_wp2_with fail
  exact bodyPost_ret (v := .bool true) (by simp [results, Try.results7, go_sem]) rfl ⟨rfl, HB7.out⟩

set_option maxHeartbeats 1600000 in
set_option maxRecDepth 100000 in
theorem w_order_e_gt_n (Na Da Nb Db Nc Dc t : ByteArray) (m k : Int) (ht : (t.toList == [48]) = false) (a1 a2 b1 b2 c1 c2 d1 d2 s1 s2 u1 u2 x1 x2 y1 y2 : ByteArray) (KA : Gives 13 #[.agg #[.string Na, .string Da]] (.agg #[.string a1, .string a2])) (KB : Gives 13 #[.agg #[.string Nb, .string Db]] (.agg #[.string a1, .string a2])) (KC : Gives 13 #[.agg #[.string Nc, .string Dc]] (.agg #[.string c1, .string c2])) (C1 : Gives 31 #[.agg #[.string a1, .string a2], .agg #[.string a1, .string a2]] (.int .i64 0)) (C2 : Gives 31 #[.agg #[.string a1, .string a2], .agg #[.string c1, .string c2]] (.int .i64 1)) (C3 : Gives 31 #[.agg #[.string a1, .string a2], .agg #[.string a1, .string a2]] (.int .i64 0)) (E1 : Gives 15 #[.agg #[.string a1, .string a2], .agg #[.string a1, .string a2]] (.bool true)) (KS : Gives 29 #[.agg #[.string a1, .string a2], .agg #[.string a1, .string a2]] (.tuple #[.agg #[.string d1, .string d2], .bool true])) (K1 : Gives 16 #[.agg #[.string a1, .string a2], .agg #[.string c1, .string c2]] (.agg #[.string s1, .string s2])) (C5 : Gives 31 #[.agg #[.string s1, .string s2], .agg #[.string s1, .string s2]] (.int .i64 0)) (KT : Gives 30 #[.agg #[.string c1, .string c2]] (.string t)) (KW : Gives 18 #[] (.bool true)) (K3 : Gives 17 #[.agg #[.string a1, .string a2], .agg #[.string c1, .string c2]] (.agg #[.string x1, .string x2])) (C6 : Gives 31 #[.agg #[.string x1, .string x2], .agg #[.string x1, .string x2]] (.int .i64 0)) : Gives 7 #[.agg #[.string Na, .string Da], .agg #[.string Nb, .string Db], .agg #[.string Nc, .string Dc]] (.bool true) := by
  intro w
  have HB0 := Lib.hid (Below.refl w.heap.size w)
  go_enter Try.func7, Try.ntmps7
  go_wp2_with (with_reducible refine wpList_from 3 [3, 3, 3, 0] [] B0 (has_B0 _) ?_)
  refine lex_box_agg _ (by rfl) (by rfl) (fun g3 q3 hn3 => ?_)
  unfold setSlot
  go_big_quiet_step (fail)
  refine wpQuiet_nil ?_
  clear hn3
  refine lex_box_agg _ (by rfl) (by rfl) (fun g4 q4 hn4 => ?_)
  unfold setSlot
  go_big_quiet_step (fail)
  refine wpQuiet_nil ?_
  have n4_3 := ne_of_put hn4
  replace hn4 := none_of_put hn4
  clear hn4
  refine lex_box_agg _ (by rfl) (by rfl) (fun g5 q5 hn5 => ?_)
  unfold setSlot
  go_big_quiet_step (fail)
  refine wpQuiet_nil ?_
  have n5_4 := ne_of_put hn5
  replace hn5 := none_of_put hn5
  have n5_3 := ne_of_put hn5
  replace hn5 := none_of_put hn5
  clear hn5
  refine lex_quietE 1 (by kernel_rfl) (by rfl) ?_
  apply Exists.intro
  refine ⟨fun x hx => ?_, ?_⟩
  · have hwx := HB0.out.trans (hx.below_of (b := w.heap.size) (by simp) HB0.out.size)
    clear hx
    simp only [List.take_succ_cons, List.take_zero]
    unfold Cx
    repeat (go_big_quiet_step (fail))
    exact wpQuiet_nil rfl
  simp only [List.drop_succ_cons, List.drop_zero]
  refine lex_nil ?_
  intro w1 hx hH
  have m3 := hH g3 _ ((Blocks.put_other _ _ (Ne.symm n5_3)).trans ((Blocks.put_other _ _ (Ne.symm n4_3)).trans (Blocks.put_same _ _ _)))
  have m4 := hH g4 _ ((Blocks.put_other _ _ (Ne.symm n5_4)).trans (Blocks.put_same _ _ _))
  have m5 := hH g5 _ (Blocks.put_same _ _ _)
  have HB1 := Lib.hid (HB0.out.trans (hx.below_of (b := w.heap.size) (by simp) HB0.out.size))
  replace q3 := Nat.le_trans HB0.out.size q3
  replace q4 := Nat.le_trans HB0.out.size q4
  replace q5 := Nat.le_trans HB0.out.size q5
  clear hx hH HB0
  go_wp2_with fail
  refine wp_game [0, 0, 0, 0, 0, 0, 3, 3, 3, 2, 2, 2] [] B0 fin_B0 (has_B0 _) (by kernel_rfl) (by kernel_rfl) ?_
  refine lex_quietE 6 (by kernel_rfl) (by rfl) ?_
  apply Exists.intro
  refine ⟨fun x hx => ?_, ?_⟩
  · have hwx := HB1.out.trans (hx.below_of (b := w.heap.size) (by simp) HB1.out.size)
    have e3_0 := blk_cellp (hx.keep m3 (by simp)) 0 rfl
    have e3_1 := blk_cellp (hx.keep m3 (by simp)) 1 rfl
    have e4_0 := blk_cellp (hx.keep m4 (by simp)) 0 rfl
    have e4_1 := blk_cellp (hx.keep m4 (by simp)) 1 rfl
    have e5_0 := blk_cellp (hx.keep m5 (by simp)) 0 rfl
    have e5_1 := blk_cellp (hx.keep m5 (by simp)) 1 rfl
    clear hx
    simp only [List.take_succ_cons, List.take_zero]
    unfold Cx
    repeat (go_big_quiet_step (first | with_reducible exact KA.at _ _ | with_reducible exact KB.at _ _ | with_reducible exact KC.at _ _))
    exact wpQuiet_nil rfl
  simp only [List.drop_succ_cons, List.drop_zero]
  refine lex_alloc (.agg #[.string ByteArray.empty, .string ByteArray.empty]) (by rfl) (fun x => by kernel_rfl) (fun g7 q7 hn7 => ?_)
  unfold setSlot
  go_big_quiet_step (fail)
  refine wpQuiet_nil ?_
  clear hn7
  refine lex_alloc (.agg #[.string ByteArray.empty, .string ByteArray.empty]) (by rfl) (fun x => by kernel_rfl) (fun g8 q8 hn8 => ?_)
  unfold setSlot
  go_big_quiet_step (fail)
  refine wpQuiet_nil ?_
  have n8_7 := ne_of_put hn8
  replace hn8 := none_of_put hn8
  clear hn8
  refine lex_alloc (.agg #[.string ByteArray.empty, .string ByteArray.empty]) (by rfl) (fun x => by kernel_rfl) (fun g9 q9 hn9 => ?_)
  unfold setSlot
  go_big_quiet_step (fail)
  refine wpQuiet_nil ?_
  have n9_8 := ne_of_put hn9
  replace hn9 := none_of_put hn9
  have n9_7 := ne_of_put hn9
  replace hn9 := none_of_put hn9
  clear hn9
  refine lex_store_all g7 _ _ _ (by rfl) (by rfl) (by rfl) ((Blocks.put_other _ _ (Ne.symm n9_7)).trans ((Blocks.put_other _ _ (Ne.symm n8_7)).trans (Blocks.put_same _ _ _))) (by rfl) (Or.inr q7) (by kernel_rfl) (by simp [Value.oneCell']) ?_
  refine lex_store_all g8 _ _ _ (by rfl) (by rfl) (by rfl) ((Blocks.put_other _ _ n8_7).trans ((Blocks.put_other _ _ (Ne.symm n9_8)).trans (Blocks.put_same _ _ _))) (by rfl) (Or.inr q8) (by kernel_rfl) (by simp [Value.oneCell']) ?_
  refine lex_store_all g9 _ _ _ (by rfl) (by rfl) (by rfl) ((Blocks.put_other _ _ n9_8).trans ((Blocks.put_other _ _ n9_7).trans (Blocks.put_same _ _ _))) (by rfl) (Or.inr q9) (by kernel_rfl) (by simp [Value.oneCell']) ?_
  refine lex_nil ?_
  intro w2 hx hH
  have m7 := hH g7 _ ((Blocks.put_other _ _ (Ne.symm n9_7)).trans ((Blocks.put_other _ _ (Ne.symm n8_7)).trans (Blocks.put_same _ _ _)))
  have m8 := hH g8 _ ((Blocks.put_other _ _ (Ne.symm n9_8)).trans (Blocks.put_same _ _ _))
  have m9 := hH g9 _ (Blocks.put_same _ _ _)
  have HB2 := Lib.hid (HB1.out.trans (hx.below_of (b := w.heap.size) (by simp) HB1.out.size))
  replace q7 := Nat.le_trans HB1.out.size q7
  replace q8 := Nat.le_trans HB1.out.size q8
  replace q9 := Nat.le_trans HB1.out.size q9
  clear hx hH HB1 m3 m4 m5 q3 q4 q5
  go_wp2_with fail
  refine wp_game [0, 0, 0, 0, 0, 0, 0, 0] [] B0 fin_B0 (has_B0 _) (by kernel_rfl) (by kernel_rfl) ?_
  refine lex_quietE 8 (by kernel_rfl) (by rfl) ?_
  apply Exists.intro
  refine ⟨fun x hx => ?_, ?_⟩
  · have hwx := HB2.out.trans (hx.below_of (b := w.heap.size) (by simp) HB2.out.size)
    have e7_0 := blk_cellp (hx.keep m7 (by simp)) 0 rfl
    have e7_1 := blk_cellp (hx.keep m7 (by simp)) 1 rfl
    have e8_0 := blk_cellp (hx.keep m8 (by simp)) 0 rfl
    have e8_1 := blk_cellp (hx.keep m8 (by simp)) 1 rfl
    have e9_0 := blk_cellp (hx.keep m9 (by simp)) 0 rfl
    have e9_1 := blk_cellp (hx.keep m9 (by simp)) 1 rfl
    clear hx
    simp only [List.take_succ_cons, List.take_zero]
    unfold Cx
    repeat (go_big_quiet_step (first | with_reducible exact C1.at _ _ | with_reducible exact C2.at _ _))
    exact wpQuiet_nil rfl
  simp only [List.drop_succ_cons, List.drop_zero]
  refine lex_nil ?_
  intro w3 hx hH
  replace m7 := hx.keep m7 (by simp)
  replace m8 := hx.keep m8 (by simp)
  replace m9 := hx.keep m9 (by simp)
  have HB3 := Lib.hid (HB2.out.trans (hx.below_of (b := w.heap.size) (by simp) HB2.out.size))
  clear hx hH HB2
  go_wp2_with (with_reducible refine wpList_from 33 [0, 0, 0, 0, 0, 0, 0, 0, 0, 0, 0, 0, 0, 0, 0, 0, 0, 0, 0, 0, 0, 0, 0, 0, 0, 0, 0, 0, 0] [] B0 (has_B0 _) ?_)
  refine lex_quietE 29 (by kernel_rfl) (by rfl) ?_
  apply Exists.intro
  refine ⟨fun x hx => ?_, ?_⟩
  · have hwx := HB3.out.trans (hx.below_of (b := w.heap.size) (by simp) HB3.out.size)
    have e8_0 := blk_cellp (hx.keep m8 (by simp)) 0 rfl
    have e8_1 := blk_cellp (hx.keep m8 (by simp)) 1 rfl
    have e7_0 := blk_cellp (hx.keep m7 (by simp)) 0 rfl
    have e7_1 := blk_cellp (hx.keep m7 (by simp)) 1 rfl
    have e9_0 := blk_cellp (hx.keep m9 (by simp)) 0 rfl
    have e9_1 := blk_cellp (hx.keep m9 (by simp)) 1 rfl
    clear hx
    simp only [List.take_succ_cons, List.take_zero]
    unfold Cx
    repeat (go_big_quiet_step (first | with_reducible exact C3.at _ _ | with_reducible exact E1.at _ _))
    exact wpQuiet_nil rfl
  simp only [List.drop_succ_cons, List.drop_zero]
  refine lex_nil ?_
  intro w4 hx hH
  replace m7 := hx.keep m7 (by simp)
  replace m8 := hx.keep m8 (by simp)
  replace m9 := hx.keep m9 (by simp)
  have HB4 := Lib.hid (HB3.out.trans (hx.below_of (b := w.heap.size) (by simp) HB3.out.size))
  clear hx hH HB3
  go_wp2_with (with_reducible refine wpList_from 63 [0, 0, 0, 0, 0, 0, 3, 2, 0] [] B0 (has_B0 _) ?_)
  refine lex_quietE 6 (by kernel_rfl) (by rfl) ?_
  apply Exists.intro
  refine ⟨fun x hx => ?_, ?_⟩
  · have hwx := HB4.out.trans (hx.below_of (b := w.heap.size) (by simp) HB4.out.size)
    have e7_0 := blk_cellp (hx.keep m7 (by simp)) 0 rfl
    have e7_1 := blk_cellp (hx.keep m7 (by simp)) 1 rfl
    have e8_0 := blk_cellp (hx.keep m8 (by simp)) 0 rfl
    have e8_1 := blk_cellp (hx.keep m8 (by simp)) 1 rfl
    clear hx
    simp only [List.take_succ_cons, List.take_zero]
    unfold Cx
    repeat (go_big_quiet_step (first | with_reducible exact KS.at _ _))
    exact wpQuiet_nil rfl
  simp only [List.drop_succ_cons, List.drop_zero]
  refine lex_alloc (.agg #[.string ByteArray.empty, .string ByteArray.empty]) (by rfl) (fun x => by kernel_rfl) (fun g12 q12 hn12 => ?_)
  unfold setSlot
  go_big_quiet_step (fail)
  refine wpQuiet_nil ?_
  clear hn12
  refine lex_store_all g12 _ _ _ (by rfl) (by rfl) (by rfl) (Blocks.put_same _ _ _) (by rfl) (Or.inr q12) (by kernel_rfl) (by simp [Value.oneCell']) ?_
  refine lex_quietE 1 (by kernel_rfl) (by rfl) ?_
  apply Exists.intro
  refine ⟨fun x hx => ?_, ?_⟩
  · have hwx := HB4.out.trans (hx.below_of (b := w.heap.size) (by simp) HB4.out.size)
    have e7_0 := blk_cellp (hx.keep m7 (by simp)) 0 rfl
    have e7_1 := blk_cellp (hx.keep m7 (by simp)) 1 rfl
    have e8_0 := blk_cellp (hx.keep m8 (by simp)) 0 rfl
    have e8_1 := blk_cellp (hx.keep m8 (by simp)) 1 rfl
    clear hx
    simp only [List.take_succ_cons, List.take_zero]
    unfold Cx
    repeat (go_big_quiet_step (first | with_reducible exact KS.at _ _))
    exact wpQuiet_nil rfl
  simp only [List.drop_succ_cons, List.drop_zero]
  refine lex_nil ?_
  intro w5 hx hH
  replace m7 := hx.keep m7 (by simp)
  replace m8 := hx.keep m8 (by simp)
  replace m9 := hx.keep m9 (by simp)
  have HB5 := Lib.hid (HB4.out.trans (hx.below_of (b := w.heap.size) (by simp) HB4.out.size))
  clear hx hH HB4 q12
  go_wp2_with fail
  refine wp_game [0, 0, 0, 0, 0, 0, 0, 0, 0, 0, 0, 0, 0, 0, 0] [] B0 fin_B0 (has_B0 _) (by kernel_rfl) (by kernel_rfl) ?_
  refine lex_quietE 15 (by kernel_rfl) (by rfl) ?_
  apply Exists.intro
  refine ⟨fun x hx => ?_, ?_⟩
  · have hwx := HB5.out.trans (hx.below_of (b := w.heap.size) (by simp) HB5.out.size)
    have e7_0 := blk_cellp (hx.keep m7 (by simp)) 0 rfl
    have e7_1 := blk_cellp (hx.keep m7 (by simp)) 1 rfl
    have e9_0 := blk_cellp (hx.keep m9 (by simp)) 0 rfl
    have e9_1 := blk_cellp (hx.keep m9 (by simp)) 1 rfl
    have e8_0 := blk_cellp (hx.keep m8 (by simp)) 0 rfl
    have e8_1 := blk_cellp (hx.keep m8 (by simp)) 1 rfl
    clear hx
    simp only [List.take_succ_cons, List.take_zero]
    unfold Cx
    repeat (go_big_quiet_step (first | with_reducible exact K1.at _ _ | with_reducible exact C5.at _ _))
    exact wpQuiet_nil rfl
  simp only [List.drop_succ_cons, List.drop_zero]
  refine lex_nil ?_
  intro w6 hx hH
  replace m7 := hx.keep m7 (by simp)
  replace m8 := hx.keep m8 (by simp)
  replace m9 := hx.keep m9 (by simp)
  have HB6 := Lib.hid (HB5.out.trans (hx.below_of (b := w.heap.size) (by simp) HB5.out.size))
  clear hx hH HB5
  go_wp2_with fail
  refine wp_game [0, 0, 0, 0, 0, 0, 0, 0, 0, 0, 0, 0, 0, 0, 0, 0, 0, 0] [] B0 fin_B0 (has_B0 _) (by kernel_rfl) (by kernel_rfl) ?_
  refine lex_quietE 18 (by kernel_rfl) (by rfl) ?_
  apply Exists.intro
  refine ⟨fun x hx => ?_, ?_⟩
  · have hwx := HB6.out.trans (hx.below_of (b := w.heap.size) (by simp) HB6.out.size)
    have e9_0 := blk_cellp (hx.keep m9 (by simp)) 0 rfl
    have e9_1 := blk_cellp (hx.keep m9 (by simp)) 1 rfl
    have e7_0 := blk_cellp (hx.keep m7 (by simp)) 0 rfl
    have e7_1 := blk_cellp (hx.keep m7 (by simp)) 1 rfl
    have e8_0 := blk_cellp (hx.keep m8 (by simp)) 0 rfl
    have e8_1 := blk_cellp (hx.keep m8 (by simp)) 1 rfl
    clear hx
    simp only [List.take_succ_cons, List.take_zero]
    unfold Cx
    repeat (go_big_quiet_step (first | with_reducible exact KT.at _ _ | with_reducible exact KW.at _ _ | with_reducible exact K3.at _ _ | with_reducible exact C6.at _ _))
    exact wpQuiet_nil rfl
  simp only [List.drop_succ_cons, List.drop_zero]
  refine lex_nil ?_
  intro w7 hx hH
  have HB7 := Lib.hid (HB6.out.trans (hx.below_of (b := w.heap.size) (by simp) HB6.out.size))
  clear hx hH HB6 m7 m8 m9 q7 q8 q9
  go_wp2_with fail
  exact bodyPost_ret (v := .bool true) (by simp [results, Try.results7, go_sem]) rfl ⟨rfl, HB7.out⟩

set_option maxHeartbeats 1600000 in
set_option maxRecDepth 100000 in
theorem w_order_g_any_z (Na Da Nb Db Nc Dc t : ByteArray) (m k : Int) (ht : t.toList = [48]) (a1 a2 b1 b2 c1 c2 d1 d2 s1 s2 u1 u2 x1 x2 y1 y2 : ByteArray) (KA : Gives 13 #[.agg #[.string Na, .string Da]] (.agg #[.string a1, .string a2])) (KB : Gives 13 #[.agg #[.string Nb, .string Db]] (.agg #[.string b1, .string b2])) (KC : Gives 13 #[.agg #[.string Nc, .string Dc]] (.agg #[.string c1, .string c2])) (C1 : Gives 31 #[.agg #[.string a1, .string a2], .agg #[.string b1, .string b2]] (.int .i64 1)) (C2 : Gives 31 #[.agg #[.string b1, .string b2], .agg #[.string c1, .string c2]] (.int .i64 m)) (C3 : Gives 31 #[.agg #[.string b1, .string b2], .agg #[.string a1, .string a2]] (.int .i64 (-1))) (E1 : Gives 15 #[.agg #[.string a1, .string a2], .agg #[.string b1, .string b2]] (.bool false)) (KS : Gives 29 #[.agg #[.string a1, .string a2], .agg #[.string b1, .string b2]] (.tuple #[.agg #[.string d1, .string d2], .bool true])) (K1 : Gives 16 #[.agg #[.string a1, .string a2], .agg #[.string c1, .string c2]] (.agg #[.string s1, .string s2])) (K2 : Gives 16 #[.agg #[.string b1, .string b2], .agg #[.string c1, .string c2]] (.agg #[.string u1, .string u2])) (C5 : Gives 31 #[.agg #[.string s1, .string s2], .agg #[.string u1, .string u2]] (.int .i64 1)) (KT : Gives 30 #[.agg #[.string c1, .string c2]] (.string t)) (KW : Gives 18 #[] (.bool true)) : Gives 7 #[.agg #[.string Na, .string Da], .agg #[.string Nb, .string Db], .agg #[.string Nc, .string Dc]] (.bool true) := by
  intro w
  have HB0 := Lib.hid (Below.refl w.heap.size w)
  go_enter Try.func7, Try.ntmps7
  go_wp2_with (with_reducible refine wpList_from 3 [3, 3, 3, 0] [] B0 (has_B0 _) ?_)
  refine lex_box_agg _ (by rfl) (by rfl) (fun g3 q3 hn3 => ?_)
  unfold setSlot
  go_big_quiet_step (fail)
  refine wpQuiet_nil ?_
  clear hn3
  refine lex_box_agg _ (by rfl) (by rfl) (fun g4 q4 hn4 => ?_)
  unfold setSlot
  go_big_quiet_step (fail)
  refine wpQuiet_nil ?_
  have n4_3 := ne_of_put hn4
  replace hn4 := none_of_put hn4
  clear hn4
  refine lex_box_agg _ (by rfl) (by rfl) (fun g5 q5 hn5 => ?_)
  unfold setSlot
  go_big_quiet_step (fail)
  refine wpQuiet_nil ?_
  have n5_4 := ne_of_put hn5
  replace hn5 := none_of_put hn5
  have n5_3 := ne_of_put hn5
  replace hn5 := none_of_put hn5
  clear hn5
  refine lex_quietE 1 (by kernel_rfl) (by rfl) ?_
  apply Exists.intro
  refine ⟨fun x hx => ?_, ?_⟩
  · have hwx := HB0.out.trans (hx.below_of (b := w.heap.size) (by simp) HB0.out.size)
    clear hx
    simp only [List.take_succ_cons, List.take_zero]
    unfold Cx
    repeat (go_big_quiet_step (fail))
    exact wpQuiet_nil rfl
  simp only [List.drop_succ_cons, List.drop_zero]
  refine lex_nil ?_
  intro w1 hx hH
  have m3 := hH g3 _ ((Blocks.put_other _ _ (Ne.symm n5_3)).trans ((Blocks.put_other _ _ (Ne.symm n4_3)).trans (Blocks.put_same _ _ _)))
  have m4 := hH g4 _ ((Blocks.put_other _ _ (Ne.symm n5_4)).trans (Blocks.put_same _ _ _))
  have m5 := hH g5 _ (Blocks.put_same _ _ _)
  have HB1 := Lib.hid (HB0.out.trans (hx.below_of (b := w.heap.size) (by simp) HB0.out.size))
  replace q3 := Nat.le_trans HB0.out.size q3
  replace q4 := Nat.le_trans HB0.out.size q4
  replace q5 := Nat.le_trans HB0.out.size q5
  clear hx hH HB0
  go_wp2_with fail
  refine wp_game [0, 0, 0, 0, 0, 0, 3, 3, 3, 2, 2, 2] [] B0 fin_B0 (has_B0 _) (by kernel_rfl) (by kernel_rfl) ?_
  refine lex_quietE 6 (by kernel_rfl) (by rfl) ?_
  apply Exists.intro
  refine ⟨fun x hx => ?_, ?_⟩
  · have hwx := HB1.out.trans (hx.below_of (b := w.heap.size) (by simp) HB1.out.size)
    have e3_0 := blk_cellp (hx.keep m3 (by simp)) 0 rfl
    have e3_1 := blk_cellp (hx.keep m3 (by simp)) 1 rfl
    have e4_0 := blk_cellp (hx.keep m4 (by simp)) 0 rfl
    have e4_1 := blk_cellp (hx.keep m4 (by simp)) 1 rfl
    have e5_0 := blk_cellp (hx.keep m5 (by simp)) 0 rfl
    have e5_1 := blk_cellp (hx.keep m5 (by simp)) 1 rfl
    clear hx
    simp only [List.take_succ_cons, List.take_zero]
    unfold Cx
    repeat (go_big_quiet_step (first | with_reducible exact KA.at _ _ | with_reducible exact KB.at _ _ | with_reducible exact KC.at _ _))
    exact wpQuiet_nil rfl
  simp only [List.drop_succ_cons, List.drop_zero]
  refine lex_alloc (.agg #[.string ByteArray.empty, .string ByteArray.empty]) (by rfl) (fun x => by kernel_rfl) (fun g7 q7 hn7 => ?_)
  unfold setSlot
  go_big_quiet_step (fail)
  refine wpQuiet_nil ?_
  clear hn7
  refine lex_alloc (.agg #[.string ByteArray.empty, .string ByteArray.empty]) (by rfl) (fun x => by kernel_rfl) (fun g8 q8 hn8 => ?_)
  unfold setSlot
  go_big_quiet_step (fail)
  refine wpQuiet_nil ?_
  have n8_7 := ne_of_put hn8
  replace hn8 := none_of_put hn8
  clear hn8
  refine lex_alloc (.agg #[.string ByteArray.empty, .string ByteArray.empty]) (by rfl) (fun x => by kernel_rfl) (fun g9 q9 hn9 => ?_)
  unfold setSlot
  go_big_quiet_step (fail)
  refine wpQuiet_nil ?_
  have n9_8 := ne_of_put hn9
  replace hn9 := none_of_put hn9
  have n9_7 := ne_of_put hn9
  replace hn9 := none_of_put hn9
  clear hn9
  refine lex_store_all g7 _ _ _ (by rfl) (by rfl) (by rfl) ((Blocks.put_other _ _ (Ne.symm n9_7)).trans ((Blocks.put_other _ _ (Ne.symm n8_7)).trans (Blocks.put_same _ _ _))) (by rfl) (Or.inr q7) (by kernel_rfl) (by simp [Value.oneCell']) ?_
  refine lex_store_all g8 _ _ _ (by rfl) (by rfl) (by rfl) ((Blocks.put_other _ _ n8_7).trans ((Blocks.put_other _ _ (Ne.symm n9_8)).trans (Blocks.put_same _ _ _))) (by rfl) (Or.inr q8) (by kernel_rfl) (by simp [Value.oneCell']) ?_
  refine lex_store_all g9 _ _ _ (by rfl) (by rfl) (by rfl) ((Blocks.put_other _ _ n9_8).trans ((Blocks.put_other _ _ n9_7).trans (Blocks.put_same _ _ _))) (by rfl) (Or.inr q9) (by kernel_rfl) (by simp [Value.oneCell']) ?_
  refine lex_nil ?_
  intro w2 hx hH
  have m7 := hH g7 _ ((Blocks.put_other _ _ (Ne.symm n9_7)).trans ((Blocks.put_other _ _ (Ne.symm n8_7)).trans (Blocks.put_same _ _ _)))
  have m8 := hH g8 _ ((Blocks.put_other _ _ (Ne.symm n9_8)).trans (Blocks.put_same _ _ _))
  have m9 := hH g9 _ (Blocks.put_same _ _ _)
  have HB2 := Lib.hid (HB1.out.trans (hx.below_of (b := w.heap.size) (by simp) HB1.out.size))
  replace q7 := Nat.le_trans HB1.out.size q7
  replace q8 := Nat.le_trans HB1.out.size q8
  replace q9 := Nat.le_trans HB1.out.size q9
  clear hx hH HB1 m3 m4 m5 q3 q4 q5
  go_wp2_with fail
  refine wp_game [0, 0, 0, 0, 0, 0, 0, 0] [] B0 fin_B0 (has_B0 _) (by kernel_rfl) (by kernel_rfl) ?_
  refine lex_quietE 8 (by kernel_rfl) (by rfl) ?_
  apply Exists.intro
  refine ⟨fun x hx => ?_, ?_⟩
  · have hwx := HB2.out.trans (hx.below_of (b := w.heap.size) (by simp) HB2.out.size)
    have e7_0 := blk_cellp (hx.keep m7 (by simp)) 0 rfl
    have e7_1 := blk_cellp (hx.keep m7 (by simp)) 1 rfl
    have e8_0 := blk_cellp (hx.keep m8 (by simp)) 0 rfl
    have e8_1 := blk_cellp (hx.keep m8 (by simp)) 1 rfl
    have e9_0 := blk_cellp (hx.keep m9 (by simp)) 0 rfl
    have e9_1 := blk_cellp (hx.keep m9 (by simp)) 1 rfl
    clear hx
    simp only [List.take_succ_cons, List.take_zero]
    unfold Cx
    repeat (go_big_quiet_step (first | with_reducible exact C1.at _ _ | with_reducible exact C2.at _ _))
    exact wpQuiet_nil rfl
  simp only [List.drop_succ_cons, List.drop_zero]
  refine lex_nil ?_
  intro w3 hx hH
  replace m7 := hx.keep m7 (by simp)
  replace m8 := hx.keep m8 (by simp)
  replace m9 := hx.keep m9 (by simp)
  have HB3 := Lib.hid (HB2.out.trans (hx.below_of (b := w.heap.size) (by simp) HB2.out.size))
  clear hx hH HB2
  go_wp2_with (with_reducible refine wpList_from 33 [0, 0, 0, 0, 0, 0, 0, 0, 0, 0, 0, 0, 0, 0, 0, 0, 0, 0, 0, 0, 0, 0, 0, 0, 0, 0, 0, 0, 0] [] B0 (has_B0 _) ?_)
  refine lex_quietE 29 (by kernel_rfl) (by rfl) ?_
  apply Exists.intro
  refine ⟨fun x hx => ?_, ?_⟩
  · have hwx := HB3.out.trans (hx.below_of (b := w.heap.size) (by simp) HB3.out.size)
    have e8_0 := blk_cellp (hx.keep m8 (by simp)) 0 rfl
    have e8_1 := blk_cellp (hx.keep m8 (by simp)) 1 rfl
    have e7_0 := blk_cellp (hx.keep m7 (by simp)) 0 rfl
    have e7_1 := blk_cellp (hx.keep m7 (by simp)) 1 rfl
    have e9_0 := blk_cellp (hx.keep m9 (by simp)) 0 rfl
    have e9_1 := blk_cellp (hx.keep m9 (by simp)) 1 rfl
    clear hx
    simp only [List.take_succ_cons, List.take_zero]
    unfold Cx
    repeat (go_big_quiet_step (first | with_reducible exact C3.at _ _ | with_reducible exact E1.at _ _))
    exact wpQuiet_nil rfl
  simp only [List.drop_succ_cons, List.drop_zero]
  refine lex_nil ?_
  intro w4 hx hH
  replace m7 := hx.keep m7 (by simp)
  replace m8 := hx.keep m8 (by simp)
  replace m9 := hx.keep m9 (by simp)
  have HB4 := Lib.hid (HB3.out.trans (hx.below_of (b := w.heap.size) (by simp) HB3.out.size))
  clear hx hH HB3
  go_wp2_with (with_reducible refine wpList_from 63 [0, 0, 0, 0, 0, 0, 3, 2, 0] [] B0 (has_B0 _) ?_)
  refine lex_quietE 6 (by kernel_rfl) (by rfl) ?_
  apply Exists.intro
  refine ⟨fun x hx => ?_, ?_⟩
  · have hwx := HB4.out.trans (hx.below_of (b := w.heap.size) (by simp) HB4.out.size)
    have e7_0 := blk_cellp (hx.keep m7 (by simp)) 0 rfl
    have e7_1 := blk_cellp (hx.keep m7 (by simp)) 1 rfl
    have e8_0 := blk_cellp (hx.keep m8 (by simp)) 0 rfl
    have e8_1 := blk_cellp (hx.keep m8 (by simp)) 1 rfl
    clear hx
    simp only [List.take_succ_cons, List.take_zero]
    unfold Cx
    repeat (go_big_quiet_step (first | with_reducible exact KS.at _ _))
    exact wpQuiet_nil rfl
  simp only [List.drop_succ_cons, List.drop_zero]
  refine lex_alloc (.agg #[.string ByteArray.empty, .string ByteArray.empty]) (by rfl) (fun x => by kernel_rfl) (fun g12 q12 hn12 => ?_)
  unfold setSlot
  go_big_quiet_step (fail)
  refine wpQuiet_nil ?_
  clear hn12
  refine lex_store_all g12 _ _ _ (by rfl) (by rfl) (by rfl) (Blocks.put_same _ _ _) (by rfl) (Or.inr q12) (by kernel_rfl) (by simp [Value.oneCell']) ?_
  refine lex_quietE 1 (by kernel_rfl) (by rfl) ?_
  apply Exists.intro
  refine ⟨fun x hx => ?_, ?_⟩
  · have hwx := HB4.out.trans (hx.below_of (b := w.heap.size) (by simp) HB4.out.size)
    have e7_0 := blk_cellp (hx.keep m7 (by simp)) 0 rfl
    have e7_1 := blk_cellp (hx.keep m7 (by simp)) 1 rfl
    have e8_0 := blk_cellp (hx.keep m8 (by simp)) 0 rfl
    have e8_1 := blk_cellp (hx.keep m8 (by simp)) 1 rfl
    clear hx
    simp only [List.take_succ_cons, List.take_zero]
    unfold Cx
    repeat (go_big_quiet_step (first | with_reducible exact KS.at _ _))
    exact wpQuiet_nil rfl
  simp only [List.drop_succ_cons, List.drop_zero]
  refine lex_nil ?_
  intro w5 hx hH
  replace m7 := hx.keep m7 (by simp)
  replace m8 := hx.keep m8 (by simp)
  replace m9 := hx.keep m9 (by simp)
  have HB5 := Lib.hid (HB4.out.trans (hx.below_of (b := w.heap.size) (by simp) HB4.out.size))
  clear hx hH HB4 q12
  go_wp2_with fail
  refine wp_game [0, 0, 0, 0, 0, 0, 0, 0, 0, 0, 0, 0, 0, 0, 0] [] B0 fin_B0 (has_B0 _) (by kernel_rfl) (by kernel_rfl) ?_
  refine lex_quietE 15 (by kernel_rfl) (by rfl) ?_
  apply Exists.intro
  refine ⟨fun x hx => ?_, ?_⟩
  · have hwx := HB5.out.trans (hx.below_of (b := w.heap.size) (by simp) HB5.out.size)
    have e7_0 := blk_cellp (hx.keep m7 (by simp)) 0 rfl
    have e7_1 := blk_cellp (hx.keep m7 (by simp)) 1 rfl
    have e9_0 := blk_cellp (hx.keep m9 (by simp)) 0 rfl
    have e9_1 := blk_cellp (hx.keep m9 (by simp)) 1 rfl
    have e8_0 := blk_cellp (hx.keep m8 (by simp)) 0 rfl
    have e8_1 := blk_cellp (hx.keep m8 (by simp)) 1 rfl
    clear hx
    simp only [List.take_succ_cons, List.take_zero]
    unfold Cx
    repeat (go_big_quiet_step (first | with_reducible exact K1.at _ _ | with_reducible exact K2.at _ _ | with_reducible exact C5.at _ _))
    exact wpQuiet_nil rfl
  simp only [List.drop_succ_cons, List.drop_zero]
  refine lex_nil ?_
  intro w6 hx hH
  replace m7 := hx.keep m7 (by simp)
  replace m8 := hx.keep m8 (by simp)
  replace m9 := hx.keep m9 (by simp)
  have HB6 := Lib.hid (HB5.out.trans (hx.below_of (b := w.heap.size) (by simp) HB5.out.size))
  clear hx hH HB5
  go_wp2_with fail
  refine wp_game [0, 0, 0, 0, 0, 0, 0, 0, 0, 0, 0, 0, 0, 0, 0, 0, 0, 0] [] B0 fin_B0 (has_B0 _) (by kernel_rfl) (by kernel_rfl) ?_
  refine lex_quietE 18 (by kernel_rfl) (by rfl) ?_
  apply Exists.intro
  refine ⟨fun x hx => ?_, ?_⟩
  · have hwx := HB6.out.trans (hx.below_of (b := w.heap.size) (by simp) HB6.out.size)
    have e9_0 := blk_cellp (hx.keep m9 (by simp)) 0 rfl
    have e9_1 := blk_cellp (hx.keep m9 (by simp)) 1 rfl
    have e7_0 := blk_cellp (hx.keep m7 (by simp)) 0 rfl
    have e7_1 := blk_cellp (hx.keep m7 (by simp)) 1 rfl
    have e8_0 := blk_cellp (hx.keep m8 (by simp)) 0 rfl
    have e8_1 := blk_cellp (hx.keep m8 (by simp)) 1 rfl
    clear hx
    simp only [List.take_succ_cons, List.take_zero]
    unfold Cx
    repeat (go_big_quiet_step (first | with_reducible exact KT.at _ _ | with_reducible exact KW.at _ _))
    exact wpQuiet_nil rfl
  simp only [List.drop_succ_cons, List.drop_zero]
  refine lex_nil ?_
  intro w7 hx hH
  have HB7 := Lib.hid (HB6.out.trans (hx.below_of (b := w.heap.size) (by simp) HB6.out.size))
  clear hx hH HB6 m7 m8 m9 q7 q8 q9
  go_wp2_with fail
  exact bodyPost_ret (v := .bool true) (by simp [results, Try.results7, go_sem]) rfl ⟨rfl, HB7.out⟩

set_option maxHeartbeats 1600000 in
set_option maxRecDepth 100000 in
theorem w_order_g_any_n (Na Da Nb Db Nc Dc t : ByteArray) (m k : Int) (ht : (t.toList == [48]) = false) (a1 a2 b1 b2 c1 c2 d1 d2 s1 s2 u1 u2 x1 x2 y1 y2 : ByteArray) (KA : Gives 13 #[.agg #[.string Na, .string Da]] (.agg #[.string a1, .string a2])) (KB : Gives 13 #[.agg #[.string Nb, .string Db]] (.agg #[.string b1, .string b2])) (KC : Gives 13 #[.agg #[.string Nc, .string Dc]] (.agg #[.string c1, .string c2])) (C1 : Gives 31 #[.agg #[.string a1, .string a2], .agg #[.string b1, .string b2]] (.int .i64 1)) (C2 : Gives 31 #[.agg #[.string b1, .string b2], .agg #[.string c1, .string c2]] (.int .i64 m)) (C3 : Gives 31 #[.agg #[.string b1, .string b2], .agg #[.string a1, .string a2]] (.int .i64 (-1))) (E1 : Gives 15 #[.agg #[.string a1, .string a2], .agg #[.string b1, .string b2]] (.bool false)) (KS : Gives 29 #[.agg #[.string a1, .string a2], .agg #[.string b1, .string b2]] (.tuple #[.agg #[.string d1, .string d2], .bool true])) (K1 : Gives 16 #[.agg #[.string a1, .string a2], .agg #[.string c1, .string c2]] (.agg #[.string s1, .string s2])) (K2 : Gives 16 #[.agg #[.string b1, .string b2], .agg #[.string c1, .string c2]] (.agg #[.string u1, .string u2])) (C5 : Gives 31 #[.agg #[.string s1, .string s2], .agg #[.string u1, .string u2]] (.int .i64 1)) (KT : Gives 30 #[.agg #[.string c1, .string c2]] (.string t)) (KW : Gives 18 #[] (.bool true)) (K3 : Gives 17 #[.agg #[.string a1, .string a2], .agg #[.string c1, .string c2]] (.agg #[.string x1, .string x2])) (K4 : Gives 17 #[.agg #[.string b1, .string b2], .agg #[.string c1, .string c2]] (.agg #[.string y1, .string y2])) (C6 : Gives 31 #[.agg #[.string x1, .string x2], .agg #[.string y1, .string y2]] (.int .i64 1)) : Gives 7 #[.agg #[.string Na, .string Da], .agg #[.string Nb, .string Db], .agg #[.string Nc, .string Dc]] (.bool true) := by
  intro w
  have HB0 := Lib.hid (Below.refl w.heap.size w)
  go_enter Try.func7, Try.ntmps7
  go_wp2_with (with_reducible refine wpList_from 3 [3, 3, 3, 0] [] B0 (has_B0 _) ?_)
  refine lex_box_agg _ (by rfl) (by rfl) (fun g3 q3 hn3 => ?_)
  unfold setSlot
  go_big_quiet_step (fail)
  refine wpQuiet_nil ?_
  clear hn3
  refine lex_box_agg _ (by rfl) (by rfl) (fun g4 q4 hn4 => ?_)
  unfold setSlot
  go_big_quiet_step (fail)
  refine wpQuiet_nil ?_
  have n4_3 := ne_of_put hn4
  replace hn4 := none_of_put hn4
  clear hn4
  refine lex_box_agg _ (by rfl) (by rfl) (fun g5 q5 hn5 => ?_)
  unfold setSlot
  go_big_quiet_step (fail)
  refine wpQuiet_nil ?_
  have n5_4 := ne_of_put hn5
  replace hn5 := none_of_put hn5
  have n5_3 := ne_of_put hn5
  replace hn5 := none_of_put hn5
  clear hn5
  refine lex_quietE 1 (by kernel_rfl) (by rfl) ?_
  apply Exists.intro
  refine ⟨fun x hx => ?_, ?_⟩
  · have hwx := HB0.out.trans (hx.below_of (b := w.heap.size) (by simp) HB0.out.size)
    clear hx
    simp only [List.take_succ_cons, List.take_zero]
    unfold Cx
    repeat (go_big_quiet_step (fail))
    exact wpQuiet_nil rfl
  simp only [List.drop_succ_cons, List.drop_zero]
  refine lex_nil ?_
  intro w1 hx hH
  have m3 := hH g3 _ ((Blocks.put_other _ _ (Ne.symm n5_3)).trans ((Blocks.put_other _ _ (Ne.symm n4_3)).trans (Blocks.put_same _ _ _)))
  have m4 := hH g4 _ ((Blocks.put_other _ _ (Ne.symm n5_4)).trans (Blocks.put_same _ _ _))
  have m5 := hH g5 _ (Blocks.put_same _ _ _)
  have HB1 := Lib.hid (HB0.out.trans (hx.below_of (b := w.heap.size) (by simp) HB0.out.size))
  replace q3 := Nat.le_trans HB0.out.size q3
  replace q4 := Nat.le_trans HB0.out.size q4
  replace q5 := Nat.le_trans HB0.out.size q5
  clear hx hH HB0
  go_wp2_with fail
  refine wp_game [0, 0, 0, 0, 0, 0, 3, 3, 3, 2, 2, 2] [] B0 fin_B0 (has_B0 _) (by kernel_rfl) (by kernel_rfl) ?_
  refine lex_quietE 6 (by kernel_rfl) (by rfl) ?_
  apply Exists.intro
  refine ⟨fun x hx => ?_, ?_⟩
  · have hwx := HB1.out.trans (hx.below_of (b := w.heap.size) (by simp) HB1.out.size)
    have e3_0 := blk_cellp (hx.keep m3 (by simp)) 0 rfl
    have e3_1 := blk_cellp (hx.keep m3 (by simp)) 1 rfl
    have e4_0 := blk_cellp (hx.keep m4 (by simp)) 0 rfl
    have e4_1 := blk_cellp (hx.keep m4 (by simp)) 1 rfl
    have e5_0 := blk_cellp (hx.keep m5 (by simp)) 0 rfl
    have e5_1 := blk_cellp (hx.keep m5 (by simp)) 1 rfl
    clear hx
    simp only [List.take_succ_cons, List.take_zero]
    unfold Cx
    repeat (go_big_quiet_step (first | with_reducible exact KA.at _ _ | with_reducible exact KB.at _ _ | with_reducible exact KC.at _ _))
    exact wpQuiet_nil rfl
  simp only [List.drop_succ_cons, List.drop_zero]
  refine lex_alloc (.agg #[.string ByteArray.empty, .string ByteArray.empty]) (by rfl) (fun x => by kernel_rfl) (fun g7 q7 hn7 => ?_)
  unfold setSlot
  go_big_quiet_step (fail)
  refine wpQuiet_nil ?_
  clear hn7
  refine lex_alloc (.agg #[.string ByteArray.empty, .string ByteArray.empty]) (by rfl) (fun x => by kernel_rfl) (fun g8 q8 hn8 => ?_)
  unfold setSlot
  go_big_quiet_step (fail)
  refine wpQuiet_nil ?_
  have n8_7 := ne_of_put hn8
  replace hn8 := none_of_put hn8
  clear hn8
  refine lex_alloc (.agg #[.string ByteArray.empty, .string ByteArray.empty]) (by rfl) (fun x => by kernel_rfl) (fun g9 q9 hn9 => ?_)
  unfold setSlot
  go_big_quiet_step (fail)
  refine wpQuiet_nil ?_
  have n9_8 := ne_of_put hn9
  replace hn9 := none_of_put hn9
  have n9_7 := ne_of_put hn9
  replace hn9 := none_of_put hn9
  clear hn9
  refine lex_store_all g7 _ _ _ (by rfl) (by rfl) (by rfl) ((Blocks.put_other _ _ (Ne.symm n9_7)).trans ((Blocks.put_other _ _ (Ne.symm n8_7)).trans (Blocks.put_same _ _ _))) (by rfl) (Or.inr q7) (by kernel_rfl) (by simp [Value.oneCell']) ?_
  refine lex_store_all g8 _ _ _ (by rfl) (by rfl) (by rfl) ((Blocks.put_other _ _ n8_7).trans ((Blocks.put_other _ _ (Ne.symm n9_8)).trans (Blocks.put_same _ _ _))) (by rfl) (Or.inr q8) (by kernel_rfl) (by simp [Value.oneCell']) ?_
  refine lex_store_all g9 _ _ _ (by rfl) (by rfl) (by rfl) ((Blocks.put_other _ _ n9_8).trans ((Blocks.put_other _ _ n9_7).trans (Blocks.put_same _ _ _))) (by rfl) (Or.inr q9) (by kernel_rfl) (by simp [Value.oneCell']) ?_
  refine lex_nil ?_
  intro w2 hx hH
  have m7 := hH g7 _ ((Blocks.put_other _ _ (Ne.symm n9_7)).trans ((Blocks.put_other _ _ (Ne.symm n8_7)).trans (Blocks.put_same _ _ _)))
  have m8 := hH g8 _ ((Blocks.put_other _ _ (Ne.symm n9_8)).trans (Blocks.put_same _ _ _))
  have m9 := hH g9 _ (Blocks.put_same _ _ _)
  have HB2 := Lib.hid (HB1.out.trans (hx.below_of (b := w.heap.size) (by simp) HB1.out.size))
  replace q7 := Nat.le_trans HB1.out.size q7
  replace q8 := Nat.le_trans HB1.out.size q8
  replace q9 := Nat.le_trans HB1.out.size q9
  clear hx hH HB1 m3 m4 m5 q3 q4 q5
  go_wp2_with fail
  refine wp_game [0, 0, 0, 0, 0, 0, 0, 0] [] B0 fin_B0 (has_B0 _) (by kernel_rfl) (by kernel_rfl) ?_
  refine lex_quietE 8 (by kernel_rfl) (by rfl) ?_
  apply Exists.intro
  refine ⟨fun x hx => ?_, ?_⟩
  · have hwx := HB2.out.trans (hx.below_of (b := w.heap.size) (by simp) HB2.out.size)
    have e7_0 := blk_cellp (hx.keep m7 (by simp)) 0 rfl
    have e7_1 := blk_cellp (hx.keep m7 (by simp)) 1 rfl
    have e8_0 := blk_cellp (hx.keep m8 (by simp)) 0 rfl
    have e8_1 := blk_cellp (hx.keep m8 (by simp)) 1 rfl
    have e9_0 := blk_cellp (hx.keep m9 (by simp)) 0 rfl
    have e9_1 := blk_cellp (hx.keep m9 (by simp)) 1 rfl
    clear hx
    simp only [List.take_succ_cons, List.take_zero]
    unfold Cx
    repeat (go_big_quiet_step (first | with_reducible exact C1.at _ _ | with_reducible exact C2.at _ _))
    exact wpQuiet_nil rfl
  simp only [List.drop_succ_cons, List.drop_zero]
  refine lex_nil ?_
  intro w3 hx hH
  replace m7 := hx.keep m7 (by simp)
  replace m8 := hx.keep m8 (by simp)
  replace m9 := hx.keep m9 (by simp)
  have HB3 := Lib.hid (HB2.out.trans (hx.below_of (b := w.heap.size) (by simp) HB2.out.size))
  clear hx hH HB2
  go_wp2_with (with_reducible refine wpList_from 33 [0, 0, 0, 0, 0, 0, 0, 0, 0, 0, 0, 0, 0, 0, 0, 0, 0, 0, 0, 0, 0, 0, 0, 0, 0, 0, 0, 0, 0] [] B0 (has_B0 _) ?_)
  refine lex_quietE 29 (by kernel_rfl) (by rfl) ?_
  apply Exists.intro
  refine ⟨fun x hx => ?_, ?_⟩
  · have hwx := HB3.out.trans (hx.below_of (b := w.heap.size) (by simp) HB3.out.size)
    have e8_0 := blk_cellp (hx.keep m8 (by simp)) 0 rfl
    have e8_1 := blk_cellp (hx.keep m8 (by simp)) 1 rfl
    have e7_0 := blk_cellp (hx.keep m7 (by simp)) 0 rfl
    have e7_1 := blk_cellp (hx.keep m7 (by simp)) 1 rfl
    have e9_0 := blk_cellp (hx.keep m9 (by simp)) 0 rfl
    have e9_1 := blk_cellp (hx.keep m9 (by simp)) 1 rfl
    clear hx
    simp only [List.take_succ_cons, List.take_zero]
    unfold Cx
    repeat (go_big_quiet_step (first | with_reducible exact C3.at _ _ | with_reducible exact E1.at _ _))
    exact wpQuiet_nil rfl
  simp only [List.drop_succ_cons, List.drop_zero]
  refine lex_nil ?_
  intro w4 hx hH
  replace m7 := hx.keep m7 (by simp)
  replace m8 := hx.keep m8 (by simp)
  replace m9 := hx.keep m9 (by simp)
  have HB4 := Lib.hid (HB3.out.trans (hx.below_of (b := w.heap.size) (by simp) HB3.out.size))
  clear hx hH HB3
  go_wp2_with (with_reducible refine wpList_from 63 [0, 0, 0, 0, 0, 0, 3, 2, 0] [] B0 (has_B0 _) ?_)
  refine lex_quietE 6 (by kernel_rfl) (by rfl) ?_
  apply Exists.intro
  refine ⟨fun x hx => ?_, ?_⟩
  · have hwx := HB4.out.trans (hx.below_of (b := w.heap.size) (by simp) HB4.out.size)
    have e7_0 := blk_cellp (hx.keep m7 (by simp)) 0 rfl
    have e7_1 := blk_cellp (hx.keep m7 (by simp)) 1 rfl
    have e8_0 := blk_cellp (hx.keep m8 (by simp)) 0 rfl
    have e8_1 := blk_cellp (hx.keep m8 (by simp)) 1 rfl
    clear hx
    simp only [List.take_succ_cons, List.take_zero]
    unfold Cx
    repeat (go_big_quiet_step (first | with_reducible exact KS.at _ _))
    exact wpQuiet_nil rfl
  simp only [List.drop_succ_cons, List.drop_zero]
  refine lex_alloc (.agg #[.string ByteArray.empty, .string ByteArray.empty]) (by rfl) (fun x => by kernel_rfl) (fun g12 q12 hn12 => ?_)
  unfold setSlot
  go_big_quiet_step (fail)
  refine wpQuiet_nil ?_
  clear hn12
  refine lex_store_all g12 _ _ _ (by rfl) (by rfl) (by rfl) (Blocks.put_same _ _ _) (by rfl) (Or.inr q12) (by kernel_rfl) (by simp [Value.oneCell']) ?_
  refine lex_quietE 1 (by kernel_rfl) (by rfl) ?_
  apply Exists.intro
  refine ⟨fun x hx => ?_, ?_⟩
  · have hwx := HB4.out.trans (hx.below_of (b := w.heap.size) (by simp) HB4.out.size)
    have e7_0 := blk_cellp (hx.keep m7 (by simp)) 0 rfl
    have e7_1 := blk_cellp (hx.keep m7 (by simp)) 1 rfl
    have e8_0 := blk_cellp (hx.keep m8 (by simp)) 0 rfl
    have e8_1 := blk_cellp (hx.keep m8 (by simp)) 1 rfl
    clear hx
    simp only [List.take_succ_cons, List.take_zero]
    unfold Cx
    repeat (go_big_quiet_step (first | with_reducible exact KS.at _ _))
    exact wpQuiet_nil rfl
  simp only [List.drop_succ_cons, List.drop_zero]
  refine lex_nil ?_
  intro w5 hx hH
  replace m7 := hx.keep m7 (by simp)
  replace m8 := hx.keep m8 (by simp)
  replace m9 := hx.keep m9 (by simp)
  have HB5 := Lib.hid (HB4.out.trans (hx.below_of (b := w.heap.size) (by simp) HB4.out.size))
  clear hx hH HB4 q12
  go_wp2_with fail
  refine wp_game [0, 0, 0, 0, 0, 0, 0, 0, 0, 0, 0, 0, 0, 0, 0] [] B0 fin_B0 (has_B0 _) (by kernel_rfl) (by kernel_rfl) ?_
  refine lex_quietE 15 (by kernel_rfl) (by rfl) ?_
  apply Exists.intro
  refine ⟨fun x hx => ?_, ?_⟩
  · have hwx := HB5.out.trans (hx.below_of (b := w.heap.size) (by simp) HB5.out.size)
    have e7_0 := blk_cellp (hx.keep m7 (by simp)) 0 rfl
    have e7_1 := blk_cellp (hx.keep m7 (by simp)) 1 rfl
    have e9_0 := blk_cellp (hx.keep m9 (by simp)) 0 rfl
    have e9_1 := blk_cellp (hx.keep m9 (by simp)) 1 rfl
    have e8_0 := blk_cellp (hx.keep m8 (by simp)) 0 rfl
    have e8_1 := blk_cellp (hx.keep m8 (by simp)) 1 rfl
    clear hx
    simp only [List.take_succ_cons, List.take_zero]
    unfold Cx
    repeat (go_big_quiet_step (first | with_reducible exact K1.at _ _ | with_reducible exact K2.at _ _ | with_reducible exact C5.at _ _))
    exact wpQuiet_nil rfl
  simp only [List.drop_succ_cons, List.drop_zero]
  refine lex_nil ?_
  intro w6 hx hH
  replace m7 := hx.keep m7 (by simp)
  replace m8 := hx.keep m8 (by simp)
  replace m9 := hx.keep m9 (by simp)
  have HB6 := Lib.hid (HB5.out.trans (hx.below_of (b := w.heap.size) (by simp) HB5.out.size))
  clear hx hH HB5
  go_wp2_with fail
  refine wp_game [0, 0, 0, 0, 0, 0, 0, 0, 0, 0, 0, 0, 0, 0, 0, 0, 0, 0] [] B0 fin_B0 (has_B0 _) (by kernel_rfl) (by kernel_rfl) ?_
  refine lex_quietE 18 (by kernel_rfl) (by rfl) ?_
  apply Exists.intro
  refine ⟨fun x hx => ?_, ?_⟩
  · have hwx := HB6.out.trans (hx.below_of (b := w.heap.size) (by simp) HB6.out.size)
    have e9_0 := blk_cellp (hx.keep m9 (by simp)) 0 rfl
    have e9_1 := blk_cellp (hx.keep m9 (by simp)) 1 rfl
    have e7_0 := blk_cellp (hx.keep m7 (by simp)) 0 rfl
    have e7_1 := blk_cellp (hx.keep m7 (by simp)) 1 rfl
    have e8_0 := blk_cellp (hx.keep m8 (by simp)) 0 rfl
    have e8_1 := blk_cellp (hx.keep m8 (by simp)) 1 rfl
    clear hx
    simp only [List.take_succ_cons, List.take_zero]
    unfold Cx
    repeat (go_big_quiet_step (first | with_reducible exact KT.at _ _ | with_reducible exact KW.at _ _ | with_reducible exact K4.at _ _ | with_reducible exact K3.at _ _ | with_reducible exact C6.at _ _))
    exact wpQuiet_nil rfl
  simp only [List.drop_succ_cons, List.drop_zero]
  refine lex_nil ?_
  intro w7 hx hH
  have HB7 := Lib.hid (HB6.out.trans (hx.below_of (b := w.heap.size) (by simp) HB6.out.size))
  clear hx hH HB6 m7 m8 m9 q7 q8 q9
  go_wp2_with fail
  exact bodyPost_ret (v := .bool true) (by simp [results, Try.results7, go_sem]) rfl ⟨rfl, HB7.out⟩

end Go.Proofs.Ytlomlcljjidfjaa
