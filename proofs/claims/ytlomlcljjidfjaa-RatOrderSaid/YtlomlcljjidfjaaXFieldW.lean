/- Walks of the laws of chapter 02. -/
import Derived.Test.YtlomlcljjidfjaaLGive
import Derived.Test.YtlomlcljjidfjaaGame2
namespace Go.Proofs.Ytlomlcljjidfjaa
open Go.RowKit Num

set_option maxHeartbeats 1600000 in
set_option maxRecDepth 100000 in
theorem w_field (Na Da Nb Db Nc Dc : ByteArray) (a1 a2 b1 b2 c1 c2 o1 o2 s1 s2 m1 m2 sc1 sc2 bc1 bc2 mc1 mc2 mbc1 mbc2 x1 x2 ac1 ac2 : ByteArray) (KA : Gives 13 #[.agg #[.string Na, .string Da]] (.agg #[.string a1, .string a2])) (KB : Gives 13 #[.agg #[.string Nb, .string Db]] (.agg #[.string b1, .string b2])) (KC : Gives 13 #[.agg #[.string Nc, .string Dc]] (.agg #[.string c1, .string c2])) (KO : Gives 14 #[.int .u64 1, .int .u64 1] (.tuple #[.agg #[.string o1, .string o2], .bool true])) (K1 : Gives 16 #[.agg #[.string a1, .string a2], .agg #[.string b1, .string b2]] (.agg #[.string s1, .string s2])) (K2 : Gives 16 #[.agg #[.string b1, .string b2], .agg #[.string a1, .string a2]] (.agg #[.string s1, .string s2])) (E1 : Gives 15 #[.agg #[.string s1, .string s2], .agg #[.string s1, .string s2]] (.bool true)) (K3 : Gives 17 #[.agg #[.string a1, .string a2], .agg #[.string b1, .string b2]] (.agg #[.string m1, .string m2])) (K4 : Gives 17 #[.agg #[.string b1, .string b2], .agg #[.string a1, .string a2]] (.agg #[.string m1, .string m2])) (E2 : Gives 15 #[.agg #[.string m1, .string m2], .agg #[.string m1, .string m2]] (.bool true)) (K5 : Gives 17 #[.agg #[.string o1, .string o2], .agg #[.string a1, .string a2]] (.agg #[.string a1, .string a2])) (E3 : Gives 15 #[.agg #[.string a1, .string a2], .agg #[.string a1, .string a2]] (.bool true)) (K6 : Gives 16 #[.agg #[.string s1, .string s2], .agg #[.string c1, .string c2]] (.agg #[.string sc1, .string sc2])) (K7 : Gives 16 #[.agg #[.string b1, .string b2], .agg #[.string c1, .string c2]] (.agg #[.string bc1, .string bc2])) (K8 : Gives 16 #[.agg #[.string a1, .string a2], .agg #[.string bc1, .string bc2]] (.agg #[.string sc1, .string sc2])) (E4 : Gives 15 #[.agg #[.string sc1, .string sc2], .agg #[.string sc1, .string sc2]] (.bool true)) (K9 : Gives 17 #[.agg #[.string m1, .string m2], .agg #[.string c1, .string c2]] (.agg #[.string mc1, .string mc2])) (K10 : Gives 17 #[.agg #[.string b1, .string b2], .agg #[.string c1, .string c2]] (.agg #[.string mbc1, .string mbc2])) (K11 : Gives 17 #[.agg #[.string a1, .string a2], .agg #[.string mbc1, .string mbc2]] (.agg #[.string mc1, .string mc2])) (E5 : Gives 15 #[.agg #[.string mc1, .string mc2], .agg #[.string mc1, .string mc2]] (.bool true)) (K12 : Gives 17 #[.agg #[.string a1, .string a2], .agg #[.string bc1, .string bc2]] (.agg #[.string x1, .string x2])) (K13 : Gives 17 #[.agg #[.string a1, .string a2], .agg #[.string c1, .string c2]] (.agg #[.string ac1, .string ac2])) (K14 : Gives 16 #[.agg #[.string m1, .string m2], .agg #[.string ac1, .string ac2]] (.agg #[.string x1, .string x2])) (E6 : Gives 15 #[.agg #[.string x1, .string x2], .agg #[.string x1, .string x2]] (.bool true)) (KW : Gives 18 #[] (.bool true)) : Gives 3 #[.agg #[.string Na, .string Da], .agg #[.string Nb, .string Db], .agg #[.string Nc, .string Dc]] (.bool true) := by
  intro w
  have HB0 := Lib.hid (Below.refl w.heap.size w)
  go_enter Try.func3, Try.ntmps3
  go_wp2_with (with_reducible refine wpList_from 3 [3, 3, 3, 0] [] B0 (has_B0 _) ?_)
  refine lex_box_agg _ (by rfl) (by rfl) (fun g3 q3 hn3 => ?_)
  unfold setSlot
  go_big_quiet_step (fail)
  refine wpQuiet_nil ?_
  clear hn3
  refine lex_box_agg _ (by rfl) (by rfl) (fun g4 q4 hn4 => ?_)
  unfold setSlot
  go_big_quiet_step (fail)
  refine wpQuiet_nil ?_
  have n4_3 := ne_of_put hn4
  replace hn4 := none_of_put hn4
  clear hn4
  refine lex_box_agg _ (by rfl) (by rfl) (fun g5 q5 hn5 => ?_)
  unfold setSlot
  go_big_quiet_step (fail)
  refine wpQuiet_nil ?_
  have n5_4 := ne_of_put hn5
  replace hn5 := none_of_put hn5
  have n5_3 := ne_of_put hn5
  replace hn5 := none_of_put hn5
  clear hn5
  refine lex_quietE 1 (by kernel_rfl) (by rfl) ?_
  apply Exists.intro
  refine ⟨fun x hx => ?_, ?_⟩
  · have hwx := HB0.out.trans (hx.below_of (b := w.heap.size) (by simp) HB0.out.size)
    clear hx
    simp only [List.take_succ_cons, List.take_zero]
    unfold Cx
    repeat (go_big_quiet_step (fail))
    exact wpQuiet_nil rfl
  simp only [List.drop_succ_cons, List.drop_zero]
  refine lex_nil ?_
  intro w1 hx hH
  have m3 := hH g3 _ ((Blocks.put_other _ _ (Ne.symm n5_3)).trans ((Blocks.put_other _ _ (Ne.symm n4_3)).trans (Blocks.put_same _ _ _)))
  have m4 := hH g4 _ ((Blocks.put_other _ _ (Ne.symm n5_4)).trans (Blocks.put_same _ _ _))
  have m5 := hH g5 _ (Blocks.put_same _ _ _)
  have HB1 := Lib.hid (HB0.out.trans (hx.below_of (b := w.heap.size) (by simp) HB0.out.size))
  replace q3 := Nat.le_trans HB0.out.size q3
  replace q4 := Nat.le_trans HB0.out.size q4
  replace q5 := Nat.le_trans HB0.out.size q5
  clear hx hH HB0
  go_wp2_with fail
  refine wp_game [0, 0, 0, 0, 0, 0, 3, 3, 3, 2, 2, 2] [] B0 fin_B0 (has_B0 _) (by kernel_rfl) (by kernel_rfl) ?_
  refine lex_quietE 6 (by kernel_rfl) (by rfl) ?_
  apply Exists.intro
  refine ⟨fun x hx => ?_, ?_⟩
  · have hwx := HB1.out.trans (hx.below_of (b := w.heap.size) (by simp) HB1.out.size)
    have e3_0 := blk_cellp (hx.keep m3 (by simp)) 0 rfl
    have e3_1 := blk_cellp (hx.keep m3 (by simp)) 1 rfl
    have e4_0 := blk_cellp (hx.keep m4 (by simp)) 0 rfl
    have e4_1 := blk_cellp (hx.keep m4 (by simp)) 1 rfl
    have e5_0 := blk_cellp (hx.keep m5 (by simp)) 0 rfl
    have e5_1 := blk_cellp (hx.keep m5 (by simp)) 1 rfl
    clear hx
    simp only [List.take_succ_cons, List.take_zero]
    unfold Cx
    repeat (go_big_quiet_step (first | with_reducible exact KA.at _ _ | with_reducible exact KB.at _ _ | with_reducible exact KC.at _ _))
    exact wpQuiet_nil rfl
  simp only [List.drop_succ_cons, List.drop_zero]
  refine lex_alloc (.agg #[.string ByteArray.empty, .string ByteArray.empty]) (by rfl) (fun x => by kernel_rfl) (fun g7 q7 hn7 => ?_)
  unfold setSlot
  go_big_quiet_step (fail)
  refine wpQuiet_nil ?_
  clear hn7
  refine lex_alloc (.agg #[.string ByteArray.empty, .string ByteArray.empty]) (by rfl) (fun x => by kernel_rfl) (fun g8 q8 hn8 => ?_)
  unfold setSlot
  go_big_quiet_step (fail)
  refine wpQuiet_nil ?_
  have n8_7 := ne_of_put hn8
  replace hn8 := none_of_put hn8
  clear hn8
  refine lex_alloc (.agg #[.string ByteArray.empty, .string ByteArray.empty]) (by rfl) (fun x => by kernel_rfl) (fun g9 q9 hn9 => ?_)
  unfold setSlot
  go_big_quiet_step (fail)
  refine wpQuiet_nil ?_
  have n9_8 := ne_of_put hn9
  replace hn9 := none_of_put hn9
  have n9_7 := ne_of_put hn9
  replace hn9 := none_of_put hn9
  clear hn9
  refine lex_store_all g7 _ _ _ (by rfl) (by rfl) (by rfl) ((Blocks.put_other _ _ (Ne.symm n9_7)).trans ((Blocks.put_other _ _ (Ne.symm n8_7)).trans (Blocks.put_same _ _ _))) (by rfl) (Or.inr q7) (by kernel_rfl) (by simp [Value.oneCell']) ?_
  refine lex_store_all g8 _ _ _ (by rfl) (by rfl) (by rfl) ((Blocks.put_other _ _ n8_7).trans ((Blocks.put_other _ _ (Ne.symm n9_8)).trans (Blocks.put_same _ _ _))) (by rfl) (Or.inr q8) (by kernel_rfl) (by simp [Value.oneCell']) ?_
  refine lex_store_all g9 _ _ _ (by rfl) (by rfl) (by rfl) ((Blocks.put_other _ _ n9_8).trans ((Blocks.put_other _ _ n9_7).trans (Blocks.put_same _ _ _))) (by rfl) (Or.inr q9) (by kernel_rfl) (by simp [Value.oneCell']) ?_
  refine lex_nil ?_
  intro w2 hx hH
  have m7 := hH g7 _ ((Blocks.put_other _ _ (Ne.symm n9_7)).trans ((Blocks.put_other _ _ (Ne.symm n8_7)).trans (Blocks.put_same _ _ _)))
  have m8 := hH g8 _ ((Blocks.put_other _ _ (Ne.symm n9_8)).trans (Blocks.put_same _ _ _))
  have m9 := hH g9 _ (Blocks.put_same _ _ _)
  have HB2 := Lib.hid (HB1.out.trans (hx.below_of (b := w.heap.size) (by simp) HB1.out.size))
  replace q7 := Nat.le_trans HB1.out.size q7
  replace q8 := Nat.le_trans HB1.out.size q8
  replace q9 := Nat.le_trans HB1.out.size q9
  clear hx hH HB1 m3 m4 m5 q3 q4 q5
  go_wp2_with (with_reducible refine wpList_from 19 [0, 0, 0, 0, 3, 2, 0] [] B0 (has_B0 _) ?_)
  refine lex_quietE 4 (by kernel_rfl) (by rfl) ?_
  apply Exists.intro
  refine ⟨fun x hx => ?_, ?_⟩
  · have hwx := HB2.out.trans (hx.below_of (b := w.heap.size) (by simp) HB2.out.size)
    clear hx
    simp only [List.take_succ_cons, List.take_zero]
    unfold Cx
    repeat (go_big_quiet_step (first | with_reducible exact KO.at _ _))
    exact wpQuiet_nil rfl
  simp only [List.drop_succ_cons, List.drop_zero]
  refine lex_alloc (.agg #[.string ByteArray.empty, .string ByteArray.empty]) (by rfl) (fun x => by kernel_rfl) (fun g10 q10 hn10 => ?_)
  unfold setSlot
  go_big_quiet_step (fail)
  refine wpQuiet_nil ?_
  clear hn10
  refine lex_store_all g10 _ _ _ (by rfl) (by rfl) (by rfl) (Blocks.put_same _ _ _) (by rfl) (Or.inr q10) (by kernel_rfl) (by simp [Value.oneCell']) ?_
  refine lex_quietE 1 (by kernel_rfl) (by rfl) ?_
  apply Exists.intro
  refine ⟨fun x hx => ?_, ?_⟩
  · have hwx := HB2.out.trans (hx.below_of (b := w.heap.size) (by simp) HB2.out.size)
    clear hx
    simp only [List.take_succ_cons, List.take_zero]
    unfold Cx
    repeat (go_big_quiet_step (first | with_reducible exact KO.at _ _))
    exact wpQuiet_nil rfl
  simp only [List.drop_succ_cons, List.drop_zero]
  refine lex_nil ?_
  intro w3 hx hH
  have m10 := hH g10 _ (Blocks.put_same _ _ _)
  replace m7 := hx.keep m7 (by simp)
  replace m8 := hx.keep m8 (by simp)
  replace m9 := hx.keep m9 (by simp)
  have HB3 := Lib.hid (HB2.out.trans (hx.below_of (b := w.heap.size) (by simp) HB2.out.size))
  replace q10 := Nat.le_trans HB2.out.size q10
  clear hx hH HB2
  go_wp2_with fail
  refine wp_game [0, 0, 0, 0, 0, 0, 0, 0, 0, 0, 0, 0, 0, 0, 0, 0, 0, 0, 0, 0, 0, 0, 0, 0, 0, 0] [] B0 fin_B0 (has_B0 _) (by kernel_rfl) (by kernel_rfl) ?_
  refine lex_quietE 26 (by kernel_rfl) (by rfl) ?_
  apply Exists.intro
  refine ⟨fun x hx => ?_, ?_⟩
  · have hwx := HB3.out.trans (hx.below_of (b := w.heap.size) (by simp) HB3.out.size)
    have e7_0 := blk_cellp (hx.keep m7 (by simp)) 0 rfl
    have e7_1 := blk_cellp (hx.keep m7 (by simp)) 1 rfl
    have e8_0 := blk_cellp (hx.keep m8 (by simp)) 0 rfl
    have e8_1 := blk_cellp (hx.keep m8 (by simp)) 1 rfl
    have e10_0 := blk_cellp (hx.keep m10 (by simp)) 0 rfl
    have e10_1 := blk_cellp (hx.keep m10 (by simp)) 1 rfl
    clear hx
    simp only [List.take_succ_cons, List.take_zero]
    unfold Cx
    repeat (go_big_quiet_step (first | with_reducible exact K1.at _ _ | with_reducible exact K2.at _ _ | with_reducible exact E1.at _ _ | with_reducible exact K3.at _ _ | with_reducible exact K4.at _ _ | with_reducible exact E2.at _ _ | with_reducible exact K5.at _ _ | with_reducible exact E3.at _ _))
    exact wpQuiet_nil rfl
  simp only [List.drop_succ_cons, List.drop_zero]
  refine lex_nil ?_
  intro w4 hx hH
  replace m7 := hx.keep m7 (by simp)
  replace m8 := hx.keep m8 (by simp)
  replace m9 := hx.keep m9 (by simp)
  have HB4 := Lib.hid (HB3.out.trans (hx.below_of (b := w.heap.size) (by simp) HB3.out.size))
  clear hx hH HB3 m10 q10
  go_wp2_with fail
  refine wp_game [0, 0, 0, 0, 0, 0, 0, 0, 0, 0, 0, 0, 0, 0, 0, 0, 0, 0, 0, 0, 0, 0, 0, 0, 0, 0] [] B0 fin_B0 (has_B0 _) (by kernel_rfl) (by kernel_rfl) ?_
  refine lex_quietE 26 (by kernel_rfl) (by rfl) ?_
  apply Exists.intro
  refine ⟨fun x hx => ?_, ?_⟩
  · have hwx := HB4.out.trans (hx.below_of (b := w.heap.size) (by simp) HB4.out.size)
    have e7_0 := blk_cellp (hx.keep m7 (by simp)) 0 rfl
    have e7_1 := blk_cellp (hx.keep m7 (by simp)) 1 rfl
    have e8_0 := blk_cellp (hx.keep m8 (by simp)) 0 rfl
    have e8_1 := blk_cellp (hx.keep m8 (by simp)) 1 rfl
    have e9_0 := blk_cellp (hx.keep m9 (by simp)) 0 rfl
    have e9_1 := blk_cellp (hx.keep m9 (by simp)) 1 rfl
    clear hx
    simp only [List.take_succ_cons, List.take_zero]
    unfold Cx
    repeat (go_big_quiet_step (first | with_reducible exact K1.at _ _ | with_reducible exact K6.at _ _ | with_reducible exact K7.at _ _ | with_reducible exact K8.at _ _ | with_reducible exact E4.at _ _ | with_reducible exact K3.at _ _ | with_reducible exact K9.at _ _ | with_reducible exact K10.at _ _ | with_reducible exact K11.at _ _ | with_reducible exact E5.at _ _))
    exact wpQuiet_nil rfl
  simp only [List.drop_succ_cons, List.drop_zero]
  refine lex_nil ?_
  intro w5 hx hH
  replace m7 := hx.keep m7 (by simp)
  replace m8 := hx.keep m8 (by simp)
  replace m9 := hx.keep m9 (by simp)
  have HB5 := Lib.hid (HB4.out.trans (hx.below_of (b := w.heap.size) (by simp) HB4.out.size))
  clear hx hH HB4
  go_wp2_with fail
  refine wp_game [0, 0, 0, 0, 0, 0, 0, 0, 0, 0, 0, 0, 0, 0, 0, 0, 0] [] B0 fin_B0 (has_B0 _) (by kernel_rfl) (by kernel_rfl) ?_
  refine lex_quietE 17 (by kernel_rfl) (by rfl) ?_
  apply Exists.intro
  refine ⟨fun x hx => ?_, ?_⟩
  · have hwx := HB5.out.trans (hx.below_of (b := w.heap.size) (by simp) HB5.out.size)
    have e7_0 := blk_cellp (hx.keep m7 (by simp)) 0 rfl
    have e7_1 := blk_cellp (hx.keep m7 (by simp)) 1 rfl
    have e8_0 := blk_cellp (hx.keep m8 (by simp)) 0 rfl
    have e8_1 := blk_cellp (hx.keep m8 (by simp)) 1 rfl
    have e9_0 := blk_cellp (hx.keep m9 (by simp)) 0 rfl
    have e9_1 := blk_cellp (hx.keep m9 (by simp)) 1 rfl
    clear hx
    simp only [List.take_succ_cons, List.take_zero]
    unfold Cx
    repeat (go_big_quiet_step (first | with_reducible exact K7.at _ _ | with_reducible exact K12.at _ _ | with_reducible exact K3.at _ _ | with_reducible exact K13.at _ _ | with_reducible exact K14.at _ _ | with_reducible exact E6.at _ _ | with_reducible exact KW.at _ _))
    exact wpQuiet_nil rfl
  simp only [List.drop_succ_cons, List.drop_zero]
  refine lex_nil ?_
  intro w6 hx hH
  have HB6 := Lib.hid (HB5.out.trans (hx.below_of (b := w.heap.size) (by simp) HB5.out.size))
  clear hx hH HB5 m7 m8 m9 q7 q8 q9
  go_wp2_with fail
  exact bodyPost_ret (v := .bool true) (by simp [results, Try.results3, go_sem]) rfl ⟨rfl, HB6.out⟩

end Go.Proofs.Ytlomlcljjidfjaa
