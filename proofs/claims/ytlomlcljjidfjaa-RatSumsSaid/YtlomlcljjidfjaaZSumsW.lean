/- Walks of laws of chapter 02. -/
import Derived.Test.YtlomlcljjidfjaaLGive
import Derived.Test.YtlomlcljjidfjaaGame2
namespace Go.Proofs.Ytlomlcljjidfjaa
open Go.RowKit Num

set_option maxHeartbeats 1600000 in
set_option maxRecDepth 100000 in
theorem w_rsums (Na Da Nb Db : ByteArray) (ok : Bool) (k : Int) (a1 a2 b1 b2 c1 c2 d1 d2 q1 q2 r1 r2 y1 y2 p1 p2 : ByteArray) (KA : Gives 13 #[.agg #[.string Na, .string Da]] (.agg #[.string a1, .string a2])) (KB : Gives 13 #[.agg #[.string Nb, .string Db]] (.agg #[.string b1, .string b2])) (XA : Gives 27 #[.agg #[.string Na, .string Da]] (.agg #[.string c1, .string c2])) (XB : Gives 27 #[.agg #[.string Nb, .string Db]] (.agg #[.string d1, .string d2])) (KD : Gives 29 #[.agg #[.string a1, .string a2], .agg #[.string b1, .string b2]] (.tuple #[.agg #[.string q1, .string q2], .bool ok])) (XD : Gives 32 #[.agg #[.string c1, .string c2], .agg #[.string d1, .string d2]] (.tuple #[.agg #[.string r1, .string r2], .bool ok])) (KM : Gives 16 #[.agg #[.string a1, .string a2], .agg #[.string b1, .string b2]] (.agg #[.string y1, .string y2])) (XM : Gives 33 #[.agg #[.string c1, .string c2], .agg #[.string d1, .string d2]] (.agg #[.string p1, .string p2])) (KC : Gives 31 #[.agg #[.string a1, .string a2], .agg #[.string b1, .string b2]] (.int .i64 k)) (XC : Gives 34 #[.agg #[.string c1, .string c2], .agg #[.string d1, .string d2]] (.int .i64 k)) (S1 : Gives 24 #[.agg #[.string y1, .string y2], .agg #[.string p1, .string p2]] (.bool true)) (S2 : Gives 24 #[.agg #[.string q1, .string q2], .agg #[.string r1, .string r2]] (.bool true)) (S3 : Gives 24 #[.agg #[.string a1, .string a2], .agg #[.string c1, .string c2]] (.bool true)) (S4 : Gives 24 #[.agg #[.string b1, .string b2], .agg #[.string d1, .string d2]] (.bool true)) (KW : Gives 18 #[] (.bool true)) : Gives 8 #[.agg #[.string Na, .string Da], .agg #[.string Nb, .string Db]] (.bool true) := by
  intro w
  have HB0 := Lib.hid (Below.refl w.heap.size w)
  go_enter Try.func8, Try.ntmps8
  go_wp2_with (with_reducible refine wpList_from 2 [3, 3, 0] [] B0 (has_B0 _) ?_)
  refine lex_box_agg _ (by rfl) (by rfl) (fun g2 q2 hn2 => ?_)
  unfold setSlot
  go_big_quiet_step (fail)
  refine wpQuiet_nil ?_
  clear hn2
  refine lex_box_agg _ (by rfl) (by rfl) (fun g3 q3 hn3 => ?_)
  unfold setSlot
  go_big_quiet_step (fail)
  refine wpQuiet_nil ?_
  have n3_2 := ne_of_put hn3
  replace hn3 := none_of_put hn3
  clear hn3
  refine lex_quietE 1 (by kernel_rfl) (by rfl) ?_
  apply Exists.intro
  refine ⟨fun x hx => ?_, ?_⟩
  · have hwx := HB0.out.trans (hx.below_of (b := w.heap.size) (by simp) HB0.out.size)
    clear hx
    simp only [List.take_succ_cons, List.take_zero]
    unfold Cx
    repeat (go_big_quiet_step (fail))
    exact wpQuiet_nil rfl
  simp only [List.drop_succ_cons, List.drop_zero]
  refine lex_nil ?_
  intro w1 hx hH
  have m2 := hH g2 _ ((Blocks.put_other _ _ (Ne.symm n3_2)).trans (Blocks.put_same _ _ _))
  have m3 := hH g3 _ (Blocks.put_same _ _ _)
  have HB1 := Lib.hid (HB0.out.trans (hx.below_of (b := w.heap.size) (by simp) HB0.out.size))
  replace q2 := Nat.le_trans HB0.out.size q2
  replace q3 := Nat.le_trans HB0.out.size q3
  clear hx hH HB0
  go_wp2_with fail
  refine wp_game [0, 0, 0, 0, 3, 3, 2, 2] [] B0 fin_B0 (has_B0 _) (by kernel_rfl) (by kernel_rfl) ?_
  refine lex_quietE 4 (by kernel_rfl) (by rfl) ?_
  apply Exists.intro
  refine ⟨fun x hx => ?_, ?_⟩
  · have hwx := HB1.out.trans (hx.below_of (b := w.heap.size) (by simp) HB1.out.size)
    have e2_0 := blk_cellp (hx.keep m2 (by simp)) 0 rfl
    have e2_1 := blk_cellp (hx.keep m2 (by simp)) 1 rfl
    have e3_0 := blk_cellp (hx.keep m3 (by simp)) 0 rfl
    have e3_1 := blk_cellp (hx.keep m3 (by simp)) 1 rfl
    clear hx
    simp only [List.take_succ_cons, List.take_zero]
    unfold Cx
    repeat (go_big_quiet_step (first | with_reducible exact KA.at _ _ | with_reducible exact KB.at _ _))
    exact wpQuiet_nil rfl
  simp only [List.drop_succ_cons, List.drop_zero]
  refine lex_alloc (.agg #[.string ByteArray.empty, .string ByteArray.empty]) (by rfl) (fun x => by kernel_rfl) (fun g5 q5 hn5 => ?_)
  unfold setSlot
  go_big_quiet_step (fail)
  refine wpQuiet_nil ?_
  clear hn5
  refine lex_alloc (.agg #[.string ByteArray.empty, .string ByteArray.empty]) (by rfl) (fun x => by kernel_rfl) (fun g6 q6 hn6 => ?_)
  unfold setSlot
  go_big_quiet_step (fail)
  refine wpQuiet_nil ?_
  have n6_5 := ne_of_put hn6
  replace hn6 := none_of_put hn6
  clear hn6
  refine lex_store_all g5 _ _ _ (by rfl) (by rfl) (by rfl) ((Blocks.put_other _ _ (Ne.symm n6_5)).trans (Blocks.put_same _ _ _)) (by rfl) (Or.inr q5) (by kernel_rfl) (by simp [Value.oneCell']) ?_
  refine lex_store_all g6 _ _ _ (by rfl) (by rfl) (by rfl) ((Blocks.put_other _ _ n6_5).trans (Blocks.put_same _ _ _)) (by rfl) (Or.inr q6) (by kernel_rfl) (by simp [Value.oneCell']) ?_
  refine lex_nil ?_
  intro w2 hx hH
  have m5 := hH g5 _ ((Blocks.put_other _ _ (Ne.symm n6_5)).trans (Blocks.put_same _ _ _))
  have m6 := hH g6 _ (Blocks.put_same _ _ _)
  replace m2 := hx.keep m2 (by simp)
  replace m3 := hx.keep m3 (by simp)
  have HB2 := Lib.hid (HB1.out.trans (hx.below_of (b := w.heap.size) (by simp) HB1.out.size))
  replace q5 := Nat.le_trans HB1.out.size q5
  replace q6 := Nat.le_trans HB1.out.size q6
  clear hx hH HB1
  go_wp2_with (with_reducible refine wpList_from 16 [0, 0, 0, 0, 0, 0, 3, 2, 0] [] B0 (has_B0 _) ?_)
  refine lex_quietE 6 (by kernel_rfl) (by rfl) ?_
  apply Exists.intro
  refine ⟨fun x hx => ?_, ?_⟩
  · have hwx := HB2.out.trans (hx.below_of (b := w.heap.size) (by simp) HB2.out.size)
    have e5_0 := blk_cellp (hx.keep m5 (by simp)) 0 rfl
    have e5_1 := blk_cellp (hx.keep m5 (by simp)) 1 rfl
    have e6_0 := blk_cellp (hx.keep m6 (by simp)) 0 rfl
    have e6_1 := blk_cellp (hx.keep m6 (by simp)) 1 rfl
    clear hx
    simp only [List.take_succ_cons, List.take_zero]
    unfold Cx
    repeat (go_big_quiet_step (first | with_reducible exact KD.at _ _))
    exact wpQuiet_nil rfl
  simp only [List.drop_succ_cons, List.drop_zero]
  refine lex_alloc (.agg #[.string ByteArray.empty, .string ByteArray.empty]) (by rfl) (fun x => by kernel_rfl) (fun g7 q7 hn7 => ?_)
  unfold setSlot
  go_big_quiet_step (fail)
  refine wpQuiet_nil ?_
  clear hn7
  refine lex_store_all g7 _ _ _ (by rfl) (by rfl) (by rfl) (Blocks.put_same _ _ _) (by rfl) (Or.inr q7) (by kernel_rfl) (by simp [Value.oneCell']) ?_
  refine lex_quietE 1 (by kernel_rfl) (by rfl) ?_
  apply Exists.intro
  refine ⟨fun x hx => ?_, ?_⟩
  · have hwx := HB2.out.trans (hx.below_of (b := w.heap.size) (by simp) HB2.out.size)
    have e5_0 := blk_cellp (hx.keep m5 (by simp)) 0 rfl
    have e5_1 := blk_cellp (hx.keep m5 (by simp)) 1 rfl
    have e6_0 := blk_cellp (hx.keep m6 (by simp)) 0 rfl
    have e6_1 := blk_cellp (hx.keep m6 (by simp)) 1 rfl
    clear hx
    simp only [List.take_succ_cons, List.take_zero]
    unfold Cx
    repeat (go_big_quiet_step (first | with_reducible exact KD.at _ _))
    exact wpQuiet_nil rfl
  simp only [List.drop_succ_cons, List.drop_zero]
  refine lex_nil ?_
  intro w3 hx hH
  have m7 := hH g7 _ (Blocks.put_same _ _ _)
  replace m2 := hx.keep m2 (by simp)
  replace m3 := hx.keep m3 (by simp)
  replace m5 := hx.keep m5 (by simp)
  replace m6 := hx.keep m6 (by simp)
  have HB3 := Lib.hid (HB2.out.trans (hx.below_of (b := w.heap.size) (by simp) HB2.out.size))
  replace q7 := Nat.le_trans HB2.out.size q7
  clear hx hH HB2
  go_wp2_with fail
  refine wp_game [0, 0, 0, 0, 0, 0, 0, 0, 3, 2, 0] [] B0 fin_B0 (has_B0 _) (by kernel_rfl) (by kernel_rfl) ?_
  refine lex_quietE 8 (by kernel_rfl) (by rfl) ?_
  apply Exists.intro
  refine ⟨fun x hx => ?_, ?_⟩
  · have hwx := HB3.out.trans (hx.below_of (b := w.heap.size) (by simp) HB3.out.size)
    have e2_0 := blk_cellp (hx.keep m2 (by simp)) 0 rfl
    have e2_1 := blk_cellp (hx.keep m2 (by simp)) 1 rfl
    have e3_0 := blk_cellp (hx.keep m3 (by simp)) 0 rfl
    have e3_1 := blk_cellp (hx.keep m3 (by simp)) 1 rfl
    clear hx
    simp only [List.take_succ_cons, List.take_zero]
    unfold Cx
    repeat (go_big_quiet_step (first | with_reducible exact XA.at _ _ | with_reducible exact XB.at _ _ | with_reducible exact XD.at _ _))
    exact wpQuiet_nil rfl
  simp only [List.drop_succ_cons, List.drop_zero]
  refine lex_alloc (.agg #[.string ByteArray.empty, .string ByteArray.empty]) (by rfl) (fun x => by kernel_rfl) (fun g9 q9 hn9 => ?_)
  unfold setSlot
  go_big_quiet_step (fail)
  refine wpQuiet_nil ?_
  clear hn9
  refine lex_store_all g9 _ _ _ (by rfl) (by rfl) (by rfl) (Blocks.put_same _ _ _) (by rfl) (Or.inr q9) (by kernel_rfl) (by simp [Value.oneCell']) ?_
  refine lex_quietE 1 (by kernel_rfl) (by rfl) ?_
  apply Exists.intro
  refine ⟨fun x hx => ?_, ?_⟩
  · have hwx := HB3.out.trans (hx.below_of (b := w.heap.size) (by simp) HB3.out.size)
    have e2_0 := blk_cellp (hx.keep m2 (by simp)) 0 rfl
    have e2_1 := blk_cellp (hx.keep m2 (by simp)) 1 rfl
    have e3_0 := blk_cellp (hx.keep m3 (by simp)) 0 rfl
    have e3_1 := blk_cellp (hx.keep m3 (by simp)) 1 rfl
    clear hx
    simp only [List.take_succ_cons, List.take_zero]
    unfold Cx
    repeat (go_big_quiet_step (first | with_reducible exact XA.at _ _ | with_reducible exact XB.at _ _ | with_reducible exact XD.at _ _))
    exact wpQuiet_nil rfl
  simp only [List.drop_succ_cons, List.drop_zero]
  refine lex_nil ?_
  intro w4 hx hH
  have m9 := hH g9 _ (Blocks.put_same _ _ _)
  replace m2 := hx.keep m2 (by simp)
  replace m3 := hx.keep m3 (by simp)
  replace m5 := hx.keep m5 (by simp)
  replace m6 := hx.keep m6 (by simp)
  replace m7 := hx.keep m7 (by simp)
  have HB4 := Lib.hid (HB3.out.trans (hx.below_of (b := w.heap.size) (by simp) HB3.out.size))
  replace q9 := Nat.le_trans HB3.out.size q9
  clear hx hH HB3
  go_wp2_with fail
  refine wp_game [0, 0, 0, 0, 0, 0, 0, 0, 0, 0, 0, 0, 0, 0, 0, 0, 0, 0, 0, 0, 0, 0, 0, 0, 0, 0, 0, 0, 0, 0, 0, 0, 0, 0, 0, 0, 0, 0, 0, 0, 0, 0, 0, 0, 0, 0] [] B0 fin_B0 (has_B0 _) (by kernel_rfl) (by kernel_rfl) ?_
  refine lex_quietE 46 (by kernel_rfl) (by rfl) ?_
  apply Exists.intro
  refine ⟨fun x hx => ?_, ?_⟩
  · have hwx := HB4.out.trans (hx.below_of (b := w.heap.size) (by simp) HB4.out.size)
    have e5_0 := blk_cellp (hx.keep m5 (by simp)) 0 rfl
    have e5_1 := blk_cellp (hx.keep m5 (by simp)) 1 rfl
    have e6_0 := blk_cellp (hx.keep m6 (by simp)) 0 rfl
    have e6_1 := blk_cellp (hx.keep m6 (by simp)) 1 rfl
    have e2_0 := blk_cellp (hx.keep m2 (by simp)) 0 rfl
    have e2_1 := blk_cellp (hx.keep m2 (by simp)) 1 rfl
    have e3_0 := blk_cellp (hx.keep m3 (by simp)) 0 rfl
    have e3_1 := blk_cellp (hx.keep m3 (by simp)) 1 rfl
    have e7_0 := blk_cellp (hx.keep m7 (by simp)) 0 rfl
    have e7_1 := blk_cellp (hx.keep m7 (by simp)) 1 rfl
    have e9_0 := blk_cellp (hx.keep m9 (by simp)) 0 rfl
    have e9_1 := blk_cellp (hx.keep m9 (by simp)) 1 rfl
    clear hx
    simp only [List.take_succ_cons, List.take_zero]
    unfold Cx
    repeat (go_big_quiet_step (first | with_reducible exact KM.at _ _ | with_reducible exact XA.at _ _ | with_reducible exact XB.at _ _ | with_reducible exact XM.at _ _ | with_reducible exact S1.at _ _ | with_reducible exact S2.at _ _ | with_reducible exact KC.at _ _ | with_reducible exact XC.at _ _ | with_reducible exact S3.at _ _ | with_reducible exact S4.at _ _ | with_reducible exact KW.at _ _))
    exact wpQuiet_nil rfl
  simp only [List.drop_succ_cons, List.drop_zero]
  refine lex_nil ?_
  intro w5 hx hH
  have HB5 := Lib.hid (HB4.out.trans (hx.below_of (b := w.heap.size) (by simp) HB4.out.size))
  clear hx hH HB4 m2 m3 m5 m6 m7 m9 q2 q3 q5 q6 q7 q9
  go_wp2_with fail
  exact bodyPost_ret (v := .bool true) (by simp [results, Try.results8, go_sem]) rfl ⟨rfl, HB5.out⟩

end Go.Proofs.Ytlomlcljjidfjaa
