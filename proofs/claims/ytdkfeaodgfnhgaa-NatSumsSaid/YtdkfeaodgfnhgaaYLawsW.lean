/- Walks of the laws of chapter 01 that name the reference. -/
import Derived.Test.YtdkfeaodgfnhgaaLRaw
import Derived.Test.YtdkfeaodgfnhgaaGame2
namespace Go.Proofs.Ytdkfeaodgfnhgaa
open Go.RowKit Num

set_option maxHeartbeats 1600000 in
set_option maxRecDepth 100000 in
theorem w_is (s t : ByteArray) (KT : Gives 34 #[.agg #[.string s]] (.string t)) : Gives 16 #[.agg #[.string s], .string t] (.bool true) := by
  intro w
  have HB0 := Lib.hid (Below.refl w.heap.size w)
  go_enter Try.func16, Try.ntmps16
  go_wp2_with (with_reducible refine wpList_from 2 [3, 0] [] B0 (has_B0 _) ?_)
  refine lex_box_agg _ (by rfl) (by rfl) (fun g2 q2 hn2 => ?_)
  unfold setSlot
  go_big_quiet_step (fail)
  refine wpQuiet_nil ?_
  clear hn2
  refine lex_quietE 1 (by kernel_rfl) (by rfl) ?_
  apply Exists.intro
  refine ⟨fun x hx => ?_, ?_⟩
  · have hwx := HB0.out.trans (hx.below_of (b := w.heap.size) (by simp) HB0.out.size)
    clear hx
    simp only [List.take_succ_cons, List.take_zero]
    unfold Cx
    repeat (go_big_quiet_step (fail))
    exact wpQuiet_nil rfl
  simp only [List.drop_succ_cons, List.drop_zero]
  refine lex_nil ?_
  intro w1 hx hH
  have m2 := hH g2 _ (Blocks.put_same _ _ _)
  have HB1 := Lib.hid (HB0.out.trans (hx.below_of (b := w.heap.size) (by simp) HB0.out.size))
  replace q2 := Nat.le_trans HB0.out.size q2
  clear hx hH HB0
  go_wp2_with (with_reducible refine wpList_from 5 [0, 0, 0, 0, 0] [] B0 (has_B0 _) ?_)
  refine lex_quietE 5 (by kernel_rfl) (by rfl) ?_
  apply Exists.intro
  refine ⟨fun x hx => ?_, ?_⟩
  · have hwx := HB1.out.trans (hx.below_of (b := w.heap.size) (by simp) HB1.out.size)
    have e2_0 := blk_cellp (hx.keep m2 (by simp)) 0 rfl
    clear hx
    simp only [List.take_succ_cons, List.take_zero]
    unfold Cx
    repeat (go_big_quiet_step (first | with_reducible exact KT.at _ _))
    exact wpQuiet_nil rfl
  simp only [List.drop_succ_cons, List.drop_zero]
  refine lex_nil ?_
  intro w2 hx hH
  have HB2 := Lib.hid (HB1.out.trans (hx.below_of (b := w.heap.size) (by simp) HB1.out.size))
  clear hx hH HB1 m2 q2
  go_wp2_with fail
  exact bodyPost_ret (v := .bool true) (by simp [results, Try.results16, go_sem]) rfl ⟨rfl, HB2.out⟩

set_option maxHeartbeats 1600000 in
set_option maxRecDepth 100000 in
theorem w_number (w0 : World) (a : Option Addr) (n c : Nat) (x t : ByteArray) (ok : Bool) (FW : GivesFrom w0 40 #[.slice a n c] (.string t)) (KR : Gives 21 #[.string t] (.tuple #[.agg #[.string x], .bool ok])) : GivesFrom w0 13 #[.slice a n c] (.tuple #[.agg #[.string x], .string t]) := by
  intro w hb0
  have HB0 := Lib.hid (Below.refl w.heap.size w)
  go_enter Try.func13, Try.ntmps13
  go_wp2_with (with_reducible refine wpList_from 2 [3, 0] [] B0 (has_B0 _) ?_)
  refine lex_alloc (.agg #[.string ByteArray.empty]) (by rfl) (fun x => by kernel_rfl) (fun g2 q2 hn2 => ?_)
  unfold setSlot
  go_big_quiet_step (fail)
  refine wpQuiet_nil ?_
  clear hn2
  refine lex_quietE 1 (by kernel_rfl) (by rfl) ?_
  apply Exists.intro
  refine ⟨fun x hx => ?_, ?_⟩
  · have hwx := HB0.out.trans (hx.below_of (b := w.heap.size) (by simp) HB0.out.size)
    clear hx
    simp only [List.take_succ_cons, List.take_zero]
    unfold Cx
    repeat (go_big_quiet_step (fail))
    exact wpQuiet_nil rfl
  simp only [List.drop_succ_cons, List.drop_zero]
  refine lex_nil ?_
  intro w1 hx hH
  have m2 := hH g2 _ (Blocks.put_same _ _ _)
  have HB1 := Lib.hid (HB0.out.trans (hx.below_of (b := w.heap.size) (by simp) HB0.out.size))
  replace q2 := Nat.le_trans HB0.out.size q2
  clear hx hH HB0
  go_wp2_with (with_reducible refine wpList_from 8 [0, 0] [] B0 (has_B0 _) ?_)
  refine lex_quietE 2 (by kernel_rfl) (by rfl) ?_
  apply Exists.intro
  refine ⟨fun x hx => ?_, ?_⟩
  · have hwx := HB1.out.trans (hx.below_of (b := w.heap.size) (by simp) HB1.out.size)
    clear hx
    simp only [List.take_succ_cons, List.take_zero]
    unfold Cx
    repeat (go_big_quiet_step (first | with_reducible exact FW.at2 (hb0.trans (hwx.mono hb0.size)) _))
    exact wpQuiet_nil rfl
  simp only [List.drop_succ_cons, List.drop_zero]
  refine lex_nil ?_
  intro w2 hx hH
  replace m2 := hx.keep m2 (by simp)
  have HB2 := Lib.hid (HB1.out.trans (hx.below_of (b := w.heap.size) (by simp) HB1.out.size))
  clear hx hH HB1
  go_wp2_with (with_reducible refine wpList_from 11 [0, 0, 0, 0, 3, 2, 0] [] B0 (has_B0 _) ?_)
  refine lex_quietE 4 (by kernel_rfl) (by rfl) ?_
  apply Exists.intro
  refine ⟨fun x hx => ?_, ?_⟩
  · have hwx := HB2.out.trans (hx.below_of (b := w.heap.size) (by simp) HB2.out.size)
    clear hx
    simp only [List.take_succ_cons, List.take_zero]
    unfold Cx
    repeat (go_big_quiet_step (first | with_reducible exact KR.at _ _))
    exact wpQuiet_nil rfl
  simp only [List.drop_succ_cons, List.drop_zero]
  refine lex_alloc (.agg #[.string ByteArray.empty]) (by rfl) (fun x => by kernel_rfl) (fun g5 q5 hn5 => ?_)
  unfold setSlot
  go_big_quiet_step (fail)
  refine wpQuiet_nil ?_
  clear hn5
  have n5_2 : g5 ≠ g2 := Nat.ne_of_gt (Nat.lt_of_lt_of_le (lt_of_heap m2) q5)
  refine lex_store_all g5 _ _ _ (by rfl) (by rfl) (by rfl) (Blocks.put_same _ _ _) (by rfl) (Or.inr q5) (by kernel_rfl) (by simp [Value.oneCell']) ?_
  refine lex_quietE 1 (by kernel_rfl) (by rfl) ?_
  apply Exists.intro
  refine ⟨fun x hx => ?_, ?_⟩
  · have hwx := HB2.out.trans (hx.below_of (b := w.heap.size) (by simp) HB2.out.size)
    clear hx
    simp only [List.take_succ_cons, List.take_zero]
    unfold Cx
    repeat (go_big_quiet_step (first | with_reducible exact KR.at _ _))
    exact wpQuiet_nil rfl
  simp only [List.drop_succ_cons, List.drop_zero]
  refine lex_nil ?_
  intro w3 hx hH
  have m5 := hH g5 _ (Blocks.put_same _ _ _)
  replace m2 := hx.keep m2 (by simp)
  have HB3 := Lib.hid (HB2.out.trans (hx.below_of (b := w.heap.size) (by simp) HB2.out.size))
  replace q5 := Nat.le_trans HB2.out.size q5
  clear hx hH HB2
  go_wp2_with (with_reducible refine wpList_from 14 [0, 0, 2, 0] [g2] _ (has_put (has_B0 _) m2) ?_)
  refine lex_quietE 2 (by kernel_rfl) (by rfl) ?_
  apply Exists.intro
  refine ⟨fun x hx => ?_, ?_⟩
  · have hwx := HB3.out.trans (hx.below_of (b := w.heap.size) (by simp [q2]) HB3.out.size)
    have e5_0 := blk_cellp (hx.keep m5 (by simp [n5_2])) 0 rfl
    clear hx
    simp only [List.take_succ_cons, List.take_zero]
    unfold Cx
    repeat (go_big_quiet_step (fail))
    exact wpQuiet_nil rfl
  simp only [List.drop_succ_cons, List.drop_zero]
  refine lex_store_all g2 _ _ _ (by rfl) (by rfl) (by rfl) (Blocks.put_same _ _ _) (by rfl) (Or.inl (by simp)) (by kernel_rfl) (by simp [Value.oneCell']) ?_
  refine lex_quietE 1 (by kernel_rfl) (by rfl) ?_
  apply Exists.intro
  refine ⟨fun x hx => ?_, ?_⟩
  · have hwx := HB3.out.trans (hx.below_of (b := w.heap.size) (by simp [q2]) HB3.out.size)
    have e5_0 := blk_cellp (hx.keep m5 (by simp [n5_2])) 0 rfl
    clear hx
    simp only [List.take_succ_cons, List.take_zero]
    unfold Cx
    repeat (go_big_quiet_step (fail))
    exact wpQuiet_nil rfl
  simp only [List.drop_succ_cons, List.drop_zero]
  refine lex_nil ?_
  intro w4 hx hH
  replace m2 := hH g2 _ (Blocks.put_same _ _ _)
  have HB4 := Lib.hid (HB3.out.trans (hx.below_of (b := w.heap.size) (by simp [q2]) HB3.out.size))
  clear hx hH HB3 m5 q5
  have c2_0 := blk_cell m2 0 rfl
  go_wp2_with fail
  exact bodyPost_ret (v := .tuple #[.agg #[.string x], .string t]) (by simp [results, Try.results13, go_sem, c2_0]) rfl ⟨rfl, HB4.out⟩

set_option maxHeartbeats 1600000 in
set_option maxRecDepth 100000 in
theorem w_products_z (w0 : World) (ax ay : Option Addr) (nx cx ny cy : Nat) (h1 : nx ≤ 10) (h2 : ny ≤ 10) (a b q r p g o ta tb tq tr tp tg to : ByteArray) (FA : GivesFrom w0 13 #[.slice ax nx cx] (.tuple #[.agg #[.string a], .string ta])) (FB : GivesFrom w0 13 #[.slice ay ny cy] (.tuple #[.agg #[.string b], .string tb])) (KD : Gives 14 #[.agg #[.string a], .agg #[.string b]] (.tuple #[.agg #[.string o], .agg #[.string o], .bool false])) (KX : Gives 15 #[.string ta, .string tb] (.tuple #[.string to, .string to, .bool false])) (KM : Gives 17 #[.agg #[.string a], .agg #[.string b]] (.agg #[.string p])) (XM : Gives 18 #[.string ta, .string tb] (.string tp)) (KG : Gives 19 #[.agg #[.string a], .agg #[.string b]] (.agg #[.string g])) (XG : Gives 20 #[.string ta, .string tb] (.string tg)) (I1 : Gives 16 #[.agg #[.string p], .string tp] (.bool true)) (I2 : Gives 16 #[.agg #[.string o], .string to] (.bool true)) (I4 : Gives 16 #[.agg #[.string g], .string tg] (.bool true)) (KW : Gives 12 #[] (.bool true)) : GivesFrom w0 3 #[.slice ax nx cx, .slice ay ny cy] (.bool true) := by
  intro w hb0
  have HB0 := Lib.hid (Below.refl w.heap.size w)
  go_enter Try.func3, Try.ntmps3
  go_wp2_with (with_reducible refine wpList_from 26 [0, 0, 0, 0, 3, 2, 0] [] B0 (has_B0 _) ?_)
  refine lex_quietE 4 (by kernel_rfl) (by rfl) ?_
  apply Exists.intro
  refine ⟨fun x hx => ?_, ?_⟩
  · have hwx := HB0.out.trans (hx.below_of (b := w.heap.size) (by simp) HB0.out.size)
    clear hx
    simp only [List.take_succ_cons, List.take_zero]
    unfold Cx
    repeat (go_big_quiet_step (first | with_reducible exact FA.at2 (hb0.trans (hwx.mono hb0.size)) _))
    exact wpQuiet_nil rfl
  simp only [List.drop_succ_cons, List.drop_zero]
  refine lex_alloc (.agg #[.string ByteArray.empty]) (by rfl) (fun x => by kernel_rfl) (fun g5 q5 hn5 => ?_)
  unfold setSlot
  go_big_quiet_step (fail)
  refine wpQuiet_nil ?_
  clear hn5
  refine lex_store_all g5 _ _ _ (by rfl) (by rfl) (by rfl) (Blocks.put_same _ _ _) (by rfl) (Or.inr q5) (by kernel_rfl) (by simp [Value.oneCell']) ?_
  refine lex_quietE 1 (by kernel_rfl) (by rfl) ?_
  apply Exists.intro
  refine ⟨fun x hx => ?_, ?_⟩
  · have hwx := HB0.out.trans (hx.below_of (b := w.heap.size) (by simp) HB0.out.size)
    clear hx
    simp only [List.take_succ_cons, List.take_zero]
    unfold Cx
    repeat (go_big_quiet_step (first | with_reducible exact FA.at2 (hb0.trans (hwx.mono hb0.size)) _))
    exact wpQuiet_nil rfl
  simp only [List.drop_succ_cons, List.drop_zero]
  refine lex_nil ?_
  intro w1 hx hH
  have m5 := hH g5 _ (Blocks.put_same _ _ _)
  have HB1 := Lib.hid (HB0.out.trans (hx.below_of (b := w.heap.size) (by simp) HB0.out.size))
  replace q5 := Nat.le_trans HB0.out.size q5
  clear hx hH HB0
  go_wp2_with (with_reducible refine wpList_from 31 [0, 0, 0, 0, 3, 2, 0] [] B0 (has_B0 _) ?_)
  refine lex_quietE 4 (by kernel_rfl) (by rfl) ?_
  apply Exists.intro
  refine ⟨fun x hx => ?_, ?_⟩
  · have hwx := HB1.out.trans (hx.below_of (b := w.heap.size) (by simp) HB1.out.size)
    clear hx
    simp only [List.take_succ_cons, List.take_zero]
    unfold Cx
    repeat (go_big_quiet_step (first | with_reducible exact FB.at2 (hb0.trans (hwx.mono hb0.size)) _))
    exact wpQuiet_nil rfl
  simp only [List.drop_succ_cons, List.drop_zero]
  refine lex_alloc (.agg #[.string ByteArray.empty]) (by rfl) (fun x => by kernel_rfl) (fun g7 q7 hn7 => ?_)
  unfold setSlot
  go_big_quiet_step (fail)
  refine wpQuiet_nil ?_
  clear hn7
  refine lex_store_all g7 _ _ _ (by rfl) (by rfl) (by rfl) (Blocks.put_same _ _ _) (by rfl) (Or.inr q7) (by kernel_rfl) (by simp [Value.oneCell']) ?_
  refine lex_quietE 1 (by kernel_rfl) (by rfl) ?_
  apply Exists.intro
  refine ⟨fun x hx => ?_, ?_⟩
  · have hwx := HB1.out.trans (hx.below_of (b := w.heap.size) (by simp) HB1.out.size)
    clear hx
    simp only [List.take_succ_cons, List.take_zero]
    unfold Cx
    repeat (go_big_quiet_step (first | with_reducible exact FB.at2 (hb0.trans (hwx.mono hb0.size)) _))
    exact wpQuiet_nil rfl
  simp only [List.drop_succ_cons, List.drop_zero]
  refine lex_nil ?_
  intro w2 hx hH
  have m7 := hH g7 _ (Blocks.put_same _ _ _)
  replace m5 := hx.keep m5 (by simp)
  have HB2 := Lib.hid (HB1.out.trans (hx.below_of (b := w.heap.size) (by simp) HB1.out.size))
  replace q7 := Nat.le_trans HB1.out.size q7
  clear hx hH HB1
  go_wp2_with (with_reducible refine wpList_from 35 [0, 0, 0, 0, 0, 0, 0, 3, 3, 2, 2, 0] [] B0 (has_B0 _) ?_)
  refine lex_quietE 7 (by kernel_rfl) (by rfl) ?_
  apply Exists.intro
  refine ⟨fun x hx => ?_, ?_⟩
  · have hwx := HB2.out.trans (hx.below_of (b := w.heap.size) (by simp) HB2.out.size)
    have e5_0 := blk_cellp (hx.keep m5 (by simp)) 0 rfl
    have e7_0 := blk_cellp (hx.keep m7 (by simp)) 0 rfl
    clear hx
    simp only [List.take_succ_cons, List.take_zero]
    unfold Cx
    repeat (go_big_quiet_step (first | with_reducible exact KD.at _ _))
    exact wpQuiet_nil rfl
  simp only [List.drop_succ_cons, List.drop_zero]
  refine lex_alloc (.agg #[.string ByteArray.empty]) (by rfl) (fun x => by kernel_rfl) (fun g9 q9 hn9 => ?_)
  unfold setSlot
  go_big_quiet_step (fail)
  refine wpQuiet_nil ?_
  clear hn9
  refine lex_alloc (.agg #[.string ByteArray.empty]) (by rfl) (fun x => by kernel_rfl) (fun g10 q10 hn10 => ?_)
  unfold setSlot
  go_big_quiet_step (fail)
  refine wpQuiet_nil ?_
  have n10_9 := ne_of_put hn10
  replace hn10 := none_of_put hn10
  clear hn10
  refine lex_store_all g9 _ _ _ (by rfl) (by rfl) (by rfl) ((Blocks.put_other _ _ (Ne.symm n10_9)).trans (Blocks.put_same _ _ _)) (by rfl) (Or.inr q9) (by kernel_rfl) (by simp [Value.oneCell']) ?_
  refine lex_store_all g10 _ _ _ (by rfl) (by rfl) (by rfl) ((Blocks.put_other _ _ n10_9).trans (Blocks.put_same _ _ _)) (by rfl) (Or.inr q10) (by kernel_rfl) (by simp [Value.oneCell']) ?_
  refine lex_quietE 1 (by kernel_rfl) (by rfl) ?_
  apply Exists.intro
  refine ⟨fun x hx => ?_, ?_⟩
  · have hwx := HB2.out.trans (hx.below_of (b := w.heap.size) (by simp) HB2.out.size)
    have e5_0 := blk_cellp (hx.keep m5 (by simp)) 0 rfl
    have e7_0 := blk_cellp (hx.keep m7 (by simp)) 0 rfl
    clear hx
    simp only [List.take_succ_cons, List.take_zero]
    unfold Cx
    repeat (go_big_quiet_step (first | with_reducible exact KD.at _ _))
    exact wpQuiet_nil rfl
  simp only [List.drop_succ_cons, List.drop_zero]
  refine lex_nil ?_
  intro w3 hx hH
  have m9 := hH g9 _ ((Blocks.put_other _ _ (Ne.symm n10_9)).trans (Blocks.put_same _ _ _))
  have m10 := hH g10 _ (Blocks.put_same _ _ _)
  replace m5 := hx.keep m5 (by simp)
  replace m7 := hx.keep m7 (by simp)
  have HB3 := Lib.hid (HB2.out.trans (hx.below_of (b := w.heap.size) (by simp) HB2.out.size))
  replace q9 := Nat.le_trans HB2.out.size q9
  replace q10 := Nat.le_trans HB2.out.size q10
  clear hx hH HB2
  go_wp2_with (with_reducible refine wpList_from 44 [0, 0, 0, 0, 0, 0, 0, 0] [] B0 (has_B0 _) ?_)
  refine lex_quietE 8 (by kernel_rfl) (by rfl) ?_
  apply Exists.intro
  refine ⟨fun x hx => ?_, ?_⟩
  · have hwx := HB3.out.trans (hx.below_of (b := w.heap.size) (by simp) HB3.out.size)
    clear hx
    simp only [List.take_succ_cons, List.take_zero]
    unfold Cx
    repeat (go_big_quiet_step (first | with_reducible exact KX.at _ _))
    exact wpQuiet_nil rfl
  simp only [List.drop_succ_cons, List.drop_zero]
  refine lex_nil ?_
  intro w4 hx hH
  replace m5 := hx.keep m5 (by simp)
  replace m7 := hx.keep m7 (by simp)
  replace m9 := hx.keep m9 (by simp)
  replace m10 := hx.keep m10 (by simp)
  have HB4 := Lib.hid (HB3.out.trans (hx.below_of (b := w.heap.size) (by simp) HB3.out.size))
  clear hx hH HB3
  go_wp2_with (with_reducible refine wpList_from 48 [0, 0, 0, 0, 0, 0, 0, 0, 0, 0, 0, 0, 0, 0, 0, 0, 0, 0, 0, 0, 0, 0, 0, 0, 0, 0, 0, 0, 0, 0, 0, 0, 0, 0, 0] [] B0 (has_B0 _) ?_)
  refine lex_quietE 35 (by kernel_rfl) (by rfl) ?_
  apply Exists.intro
  refine ⟨fun x hx => ?_, ?_⟩
  · have hwx := HB4.out.trans (hx.below_of (b := w.heap.size) (by simp) HB4.out.size)
    have e5_0 := blk_cellp (hx.keep m5 (by simp)) 0 rfl
    have e7_0 := blk_cellp (hx.keep m7 (by simp)) 0 rfl
    have e9_0 := blk_cellp (hx.keep m9 (by simp)) 0 rfl
    have e10_0 := blk_cellp (hx.keep m10 (by simp)) 0 rfl
    clear hx
    simp only [List.take_succ_cons, List.take_zero]
    unfold Cx
    repeat (go_big_quiet_step (first | with_reducible exact KM.at _ _ | with_reducible exact XM.at _ _ | with_reducible exact KG.at _ _ | with_reducible exact XG.at _ _ | with_reducible exact I1.at _ _ | with_reducible exact I2.at _ _ | with_reducible exact I4.at _ _ | with_reducible exact KW.at _ _))
    exact wpQuiet_nil rfl
  simp only [List.drop_succ_cons, List.drop_zero]
  refine lex_nil ?_
  intro w5 hx hH
  have HB5 := Lib.hid (HB4.out.trans (hx.below_of (b := w.heap.size) (by simp) HB4.out.size))
  clear hx hH HB4 m5 m7 m9 m10 q5 q7 q9 q10
  go_wp2_with fail
  exact bodyPost_ret (v := .bool true) (by simp [results, Try.results3, go_sem]) rfl ⟨rfl, HB5.out⟩

set_option maxHeartbeats 1600000 in
set_option maxRecDepth 100000 in
theorem w_products_n (w0 : World) (ax ay : Option Addr) (nx cx ny cy : Nat) (h1 : nx ≤ 10) (h2 : ny ≤ 10) (a b q r p g o ta tb tq tr tp tg to : ByteArray) (FA : GivesFrom w0 13 #[.slice ax nx cx] (.tuple #[.agg #[.string a], .string ta])) (FB : GivesFrom w0 13 #[.slice ay ny cy] (.tuple #[.agg #[.string b], .string tb])) (KD : Gives 14 #[.agg #[.string a], .agg #[.string b]] (.tuple #[.agg #[.string q], .agg #[.string r], .bool true])) (KX : Gives 15 #[.string ta, .string tb] (.tuple #[.string tq, .string tr, .bool true])) (KM : Gives 17 #[.agg #[.string a], .agg #[.string b]] (.agg #[.string p])) (XM : Gives 18 #[.string ta, .string tb] (.string tp)) (KG : Gives 19 #[.agg #[.string a], .agg #[.string b]] (.agg #[.string g])) (XG : Gives 20 #[.string ta, .string tb] (.string tg)) (I1 : Gives 16 #[.agg #[.string p], .string tp] (.bool true)) (I2 : Gives 16 #[.agg #[.string q], .string tq] (.bool true)) (I3 : Gives 16 #[.agg #[.string r], .string tr] (.bool true)) (I4 : Gives 16 #[.agg #[.string g], .string tg] (.bool true)) (KW : Gives 12 #[] (.bool true)) : GivesFrom w0 3 #[.slice ax nx cx, .slice ay ny cy] (.bool true) := by
  intro w hb0
  have HB0 := Lib.hid (Below.refl w.heap.size w)
  go_enter Try.func3, Try.ntmps3
  go_wp2_with (with_reducible refine wpList_from 26 [0, 0, 0, 0, 3, 2, 0] [] B0 (has_B0 _) ?_)
  refine lex_quietE 4 (by kernel_rfl) (by rfl) ?_
  apply Exists.intro
  refine ⟨fun x hx => ?_, ?_⟩
  · have hwx := HB0.out.trans (hx.below_of (b := w.heap.size) (by simp) HB0.out.size)
    clear hx
    simp only [List.take_succ_cons, List.take_zero]
    unfold Cx
    repeat (go_big_quiet_step (first | with_reducible exact FA.at2 (hb0.trans (hwx.mono hb0.size)) _))
    exact wpQuiet_nil rfl
  simp only [List.drop_succ_cons, List.drop_zero]
  refine lex_alloc (.agg #[.string ByteArray.empty]) (by rfl) (fun x => by kernel_rfl) (fun g5 q5 hn5 => ?_)
  unfold setSlot
  go_big_quiet_step (fail)
  refine wpQuiet_nil ?_
  clear hn5
  refine lex_store_all g5 _ _ _ (by rfl) (by rfl) (by rfl) (Blocks.put_same _ _ _) (by rfl) (Or.inr q5) (by kernel_rfl) (by simp [Value.oneCell']) ?_
  refine lex_quietE 1 (by kernel_rfl) (by rfl) ?_
  apply Exists.intro
  refine ⟨fun x hx => ?_, ?_⟩
  · have hwx := HB0.out.trans (hx.below_of (b := w.heap.size) (by simp) HB0.out.size)
    clear hx
    simp only [List.take_succ_cons, List.take_zero]
    unfold Cx
    repeat (go_big_quiet_step (first | with_reducible exact FA.at2 (hb0.trans (hwx.mono hb0.size)) _))
    exact wpQuiet_nil rfl
  simp only [List.drop_succ_cons, List.drop_zero]
  refine lex_nil ?_
  intro w1 hx hH
  have m5 := hH g5 _ (Blocks.put_same _ _ _)
  have HB1 := Lib.hid (HB0.out.trans (hx.below_of (b := w.heap.size) (by simp) HB0.out.size))
  replace q5 := Nat.le_trans HB0.out.size q5
  clear hx hH HB0
  go_wp2_with (with_reducible refine wpList_from 31 [0, 0, 0, 0, 3, 2, 0] [] B0 (has_B0 _) ?_)
  refine lex_quietE 4 (by kernel_rfl) (by rfl) ?_
  apply Exists.intro
  refine ⟨fun x hx => ?_, ?_⟩
  · have hwx := HB1.out.trans (hx.below_of (b := w.heap.size) (by simp) HB1.out.size)
    clear hx
    simp only [List.take_succ_cons, List.take_zero]
    unfold Cx
    repeat (go_big_quiet_step (first | with_reducible exact FB.at2 (hb0.trans (hwx.mono hb0.size)) _))
    exact wpQuiet_nil rfl
  simp only [List.drop_succ_cons, List.drop_zero]
  refine lex_alloc (.agg #[.string ByteArray.empty]) (by rfl) (fun x => by kernel_rfl) (fun g7 q7 hn7 => ?_)
  unfold setSlot
  go_big_quiet_step (fail)
  refine wpQuiet_nil ?_
  clear hn7
  refine lex_store_all g7 _ _ _ (by rfl) (by rfl) (by rfl) (Blocks.put_same _ _ _) (by rfl) (Or.inr q7) (by kernel_rfl) (by simp [Value.oneCell']) ?_
  refine lex_quietE 1 (by kernel_rfl) (by rfl) ?_
  apply Exists.intro
  refine ⟨fun x hx => ?_, ?_⟩
  · have hwx := HB1.out.trans (hx.below_of (b := w.heap.size) (by simp) HB1.out.size)
    clear hx
    simp only [List.take_succ_cons, List.take_zero]
    unfold Cx
    repeat (go_big_quiet_step (first | with_reducible exact FB.at2 (hb0.trans (hwx.mono hb0.size)) _))
    exact wpQuiet_nil rfl
  simp only [List.drop_succ_cons, List.drop_zero]
  refine lex_nil ?_
  intro w2 hx hH
  have m7 := hH g7 _ (Blocks.put_same _ _ _)
  replace m5 := hx.keep m5 (by simp)
  have HB2 := Lib.hid (HB1.out.trans (hx.below_of (b := w.heap.size) (by simp) HB1.out.size))
  replace q7 := Nat.le_trans HB1.out.size q7
  clear hx hH HB1
  go_wp2_with (with_reducible refine wpList_from 35 [0, 0, 0, 0, 0, 0, 0, 3, 3, 2, 2, 0] [] B0 (has_B0 _) ?_)
  refine lex_quietE 7 (by kernel_rfl) (by rfl) ?_
  apply Exists.intro
  refine ⟨fun x hx => ?_, ?_⟩
  · have hwx := HB2.out.trans (hx.below_of (b := w.heap.size) (by simp) HB2.out.size)
    have e5_0 := blk_cellp (hx.keep m5 (by simp)) 0 rfl
    have e7_0 := blk_cellp (hx.keep m7 (by simp)) 0 rfl
    clear hx
    simp only [List.take_succ_cons, List.take_zero]
    unfold Cx
    repeat (go_big_quiet_step (first | with_reducible exact KD.at _ _))
    exact wpQuiet_nil rfl
  simp only [List.drop_succ_cons, List.drop_zero]
  refine lex_alloc (.agg #[.string ByteArray.empty]) (by rfl) (fun x => by kernel_rfl) (fun g9 q9 hn9 => ?_)
  unfold setSlot
  go_big_quiet_step (fail)
  refine wpQuiet_nil ?_
  clear hn9
  refine lex_alloc (.agg #[.string ByteArray.empty]) (by rfl) (fun x => by kernel_rfl) (fun g10 q10 hn10 => ?_)
  unfold setSlot
  go_big_quiet_step (fail)
  refine wpQuiet_nil ?_
  have n10_9 := ne_of_put hn10
  replace hn10 := none_of_put hn10
  clear hn10
  refine lex_store_all g9 _ _ _ (by rfl) (by rfl) (by rfl) ((Blocks.put_other _ _ (Ne.symm n10_9)).trans (Blocks.put_same _ _ _)) (by rfl) (Or.inr q9) (by kernel_rfl) (by simp [Value.oneCell']) ?_
  refine lex_store_all g10 _ _ _ (by rfl) (by rfl) (by rfl) ((Blocks.put_other _ _ n10_9).trans (Blocks.put_same _ _ _)) (by rfl) (Or.inr q10) (by kernel_rfl) (by simp [Value.oneCell']) ?_
  refine lex_quietE 1 (by kernel_rfl) (by rfl) ?_
  apply Exists.intro
  refine ⟨fun x hx => ?_, ?_⟩
  · have hwx := HB2.out.trans (hx.below_of (b := w.heap.size) (by simp) HB2.out.size)
    have e5_0 := blk_cellp (hx.keep m5 (by simp)) 0 rfl
    have e7_0 := blk_cellp (hx.keep m7 (by simp)) 0 rfl
    clear hx
    simp only [List.take_succ_cons, List.take_zero]
    unfold Cx
    repeat (go_big_quiet_step (first | with_reducible exact KD.at _ _))
    exact wpQuiet_nil rfl
  simp only [List.drop_succ_cons, List.drop_zero]
  refine lex_nil ?_
  intro w3 hx hH
  have m9 := hH g9 _ ((Blocks.put_other _ _ (Ne.symm n10_9)).trans (Blocks.put_same _ _ _))
  have m10 := hH g10 _ (Blocks.put_same _ _ _)
  replace m5 := hx.keep m5 (by simp)
  replace m7 := hx.keep m7 (by simp)
  have HB3 := Lib.hid (HB2.out.trans (hx.below_of (b := w.heap.size) (by simp) HB2.out.size))
  replace q9 := Nat.le_trans HB2.out.size q9
  replace q10 := Nat.le_trans HB2.out.size q10
  clear hx hH HB2
  go_wp2_with (with_reducible refine wpList_from 44 [0, 0, 0, 0, 0, 0, 0, 0] [] B0 (has_B0 _) ?_)
  refine lex_quietE 8 (by kernel_rfl) (by rfl) ?_
  apply Exists.intro
  refine ⟨fun x hx => ?_, ?_⟩
  · have hwx := HB3.out.trans (hx.below_of (b := w.heap.size) (by simp) HB3.out.size)
    clear hx
    simp only [List.take_succ_cons, List.take_zero]
    unfold Cx
    repeat (go_big_quiet_step (first | with_reducible exact KX.at _ _))
    exact wpQuiet_nil rfl
  simp only [List.drop_succ_cons, List.drop_zero]
  refine lex_nil ?_
  intro w4 hx hH
  replace m5 := hx.keep m5 (by simp)
  replace m7 := hx.keep m7 (by simp)
  replace m9 := hx.keep m9 (by simp)
  replace m10 := hx.keep m10 (by simp)
  have HB4 := Lib.hid (HB3.out.trans (hx.below_of (b := w.heap.size) (by simp) HB3.out.size))
  clear hx hH HB3
  go_wp2_with (with_reducible refine wpList_from 48 [0, 0, 0, 0, 0, 0, 0, 0, 0, 0, 0, 0, 0, 0, 0, 0, 0, 0, 0, 0, 0, 0, 0, 0, 0, 0, 0, 0, 0, 0, 0, 0, 0, 0, 0] [] B0 (has_B0 _) ?_)
  refine lex_quietE 35 (by kernel_rfl) (by rfl) ?_
  apply Exists.intro
  refine ⟨fun x hx => ?_, ?_⟩
  · have hwx := HB4.out.trans (hx.below_of (b := w.heap.size) (by simp) HB4.out.size)
    have e5_0 := blk_cellp (hx.keep m5 (by simp)) 0 rfl
    have e7_0 := blk_cellp (hx.keep m7 (by simp)) 0 rfl
    have e9_0 := blk_cellp (hx.keep m9 (by simp)) 0 rfl
    have e10_0 := blk_cellp (hx.keep m10 (by simp)) 0 rfl
    clear hx
    simp only [List.take_succ_cons, List.take_zero]
    unfold Cx
    repeat (go_big_quiet_step (first | with_reducible exact KM.at _ _ | with_reducible exact XM.at _ _ | with_reducible exact KG.at _ _ | with_reducible exact XG.at _ _ | with_reducible exact I1.at _ _ | with_reducible exact I2.at _ _ | with_reducible exact I3.at _ _ | with_reducible exact I4.at _ _ | with_reducible exact KW.at _ _))
    exact wpQuiet_nil rfl
  simp only [List.drop_succ_cons, List.drop_zero]
  refine lex_nil ?_
  intro w5 hx hH
  have HB5 := Lib.hid (HB4.out.trans (hx.below_of (b := w.heap.size) (by simp) HB4.out.size))
  clear hx hH HB4 m5 m7 m9 m10 q5 q7 q9 q10
  go_wp2_with fail
  exact bodyPost_ret (v := .bool true) (by simp [results, Try.results3, go_sem]) rfl ⟨rfl, HB5.out⟩

set_option maxHeartbeats 1600000 in
set_option maxRecDepth 100000 in
theorem w_sums_lt (w0 : World) (ax ay : Option Addr) (nx cx ny cy : Nat) (h1 : nx ≤ 24) (h2 : ny ≤ 24) (a b d p ta tb td tp : ByteArray) (hne : ¬ a.toList = b.toList) (hne2 : (ta.toList == tb.toList) = false) (FA : GivesFrom w0 13 #[.slice ax nx cx] (.tuple #[.agg #[.string a], .string ta])) (FB : GivesFrom w0 13 #[.slice ay ny cy] (.tuple #[.agg #[.string b], .string tb])) (KS : Gives 35 #[.agg #[.string a], .agg #[.string b]] (.tuple #[.agg #[.string d], .bool false])) (XS : Gives 36 #[.string ta, .string tb] (.tuple #[.string td, .bool false])) (KA : Gives 32 #[.agg #[.string a], .agg #[.string b]] (.agg #[.string p])) (XA : Gives 37 #[.string ta, .string tb] (.string tp)) (KC : Gives 33 #[.agg #[.string a], .agg #[.string b]] (.int .i64 (-1))) (XC : Gives 38 #[.string ta, .string tb] (.int .i64 (-1))) (I1 : Gives 16 #[.agg #[.string a], .string ta] (.bool true)) (I2 : Gives 16 #[.agg #[.string b], .string tb] (.bool true)) (I3 : Gives 16 #[.agg #[.string p], .string tp] (.bool true)) (I4 : Gives 16 #[.agg #[.string d], .string td] (.bool true)) (KW : Gives 12 #[] (.bool true)) : GivesFrom w0 9 #[.slice ax nx cx, .slice ay ny cy] (.bool true) := by
  intro w hb0
  have HB0 := Lib.hid (Below.refl w.heap.size w)
  go_enter Try.func9, Try.ntmps9
  go_wp2_with (with_reducible refine wpList_from 24 [0, 0, 0, 0, 3, 2, 0] [] B0 (has_B0 _) ?_)
  refine lex_quietE 4 (by kernel_rfl) (by rfl) ?_
  apply Exists.intro
  refine ⟨fun x hx => ?_, ?_⟩
  · have hwx := HB0.out.trans (hx.below_of (b := w.heap.size) (by simp) HB0.out.size)
    clear hx
    simp only [List.take_succ_cons, List.take_zero]
    unfold Cx
    repeat (go_big_quiet_step (first | with_reducible exact FA.at2 (hb0.trans (hwx.mono hb0.size)) _))
    exact wpQuiet_nil rfl
  simp only [List.drop_succ_cons, List.drop_zero]
  refine lex_alloc (.agg #[.string ByteArray.empty]) (by rfl) (fun x => by kernel_rfl) (fun g5 q5 hn5 => ?_)
  unfold setSlot
  go_big_quiet_step (fail)
  refine wpQuiet_nil ?_
  clear hn5
  refine lex_store_all g5 _ _ _ (by rfl) (by rfl) (by rfl) (Blocks.put_same _ _ _) (by rfl) (Or.inr q5) (by kernel_rfl) (by simp [Value.oneCell']) ?_
  refine lex_quietE 1 (by kernel_rfl) (by rfl) ?_
  apply Exists.intro
  refine ⟨fun x hx => ?_, ?_⟩
  · have hwx := HB0.out.trans (hx.below_of (b := w.heap.size) (by simp) HB0.out.size)
    clear hx
    simp only [List.take_succ_cons, List.take_zero]
    unfold Cx
    repeat (go_big_quiet_step (first | with_reducible exact FA.at2 (hb0.trans (hwx.mono hb0.size)) _))
    exact wpQuiet_nil rfl
  simp only [List.drop_succ_cons, List.drop_zero]
  refine lex_nil ?_
  intro w1 hx hH
  have m5 := hH g5 _ (Blocks.put_same _ _ _)
  have HB1 := Lib.hid (HB0.out.trans (hx.below_of (b := w.heap.size) (by simp) HB0.out.size))
  replace q5 := Nat.le_trans HB0.out.size q5
  clear hx hH HB0
  go_wp2_with (with_reducible refine wpList_from 29 [0, 0, 0, 0, 3, 2, 0] [] B0 (has_B0 _) ?_)
  refine lex_quietE 4 (by kernel_rfl) (by rfl) ?_
  apply Exists.intro
  refine ⟨fun x hx => ?_, ?_⟩
  · have hwx := HB1.out.trans (hx.below_of (b := w.heap.size) (by simp) HB1.out.size)
    clear hx
    simp only [List.take_succ_cons, List.take_zero]
    unfold Cx
    repeat (go_big_quiet_step (first | with_reducible exact FB.at2 (hb0.trans (hwx.mono hb0.size)) _))
    exact wpQuiet_nil rfl
  simp only [List.drop_succ_cons, List.drop_zero]
  refine lex_alloc (.agg #[.string ByteArray.empty]) (by rfl) (fun x => by kernel_rfl) (fun g7 q7 hn7 => ?_)
  unfold setSlot
  go_big_quiet_step (fail)
  refine wpQuiet_nil ?_
  clear hn7
  refine lex_store_all g7 _ _ _ (by rfl) (by rfl) (by rfl) (Blocks.put_same _ _ _) (by rfl) (Or.inr q7) (by kernel_rfl) (by simp [Value.oneCell']) ?_
  refine lex_quietE 1 (by kernel_rfl) (by rfl) ?_
  apply Exists.intro
  refine ⟨fun x hx => ?_, ?_⟩
  · have hwx := HB1.out.trans (hx.below_of (b := w.heap.size) (by simp) HB1.out.size)
    clear hx
    simp only [List.take_succ_cons, List.take_zero]
    unfold Cx
    repeat (go_big_quiet_step (first | with_reducible exact FB.at2 (hb0.trans (hwx.mono hb0.size)) _))
    exact wpQuiet_nil rfl
  simp only [List.drop_succ_cons, List.drop_zero]
  refine lex_nil ?_
  intro w2 hx hH
  have m7 := hH g7 _ (Blocks.put_same _ _ _)
  replace m5 := hx.keep m5 (by simp)
  have HB2 := Lib.hid (HB1.out.trans (hx.below_of (b := w.heap.size) (by simp) HB1.out.size))
  replace q7 := Nat.le_trans HB1.out.size q7
  clear hx hH HB1
  go_wp2_with (with_reducible refine wpList_from 33 [0, 0, 0, 0, 0, 0, 3, 2, 0] [] B0 (has_B0 _) ?_)
  refine lex_quietE 6 (by kernel_rfl) (by rfl) ?_
  apply Exists.intro
  refine ⟨fun x hx => ?_, ?_⟩
  · have hwx := HB2.out.trans (hx.below_of (b := w.heap.size) (by simp) HB2.out.size)
    have e5_0 := blk_cellp (hx.keep m5 (by simp)) 0 rfl
    have e7_0 := blk_cellp (hx.keep m7 (by simp)) 0 rfl
    clear hx
    simp only [List.take_succ_cons, List.take_zero]
    unfold Cx
    repeat (go_big_quiet_step (first | with_reducible exact KS.at _ _))
    exact wpQuiet_nil rfl
  simp only [List.drop_succ_cons, List.drop_zero]
  refine lex_alloc (.agg #[.string ByteArray.empty]) (by rfl) (fun x => by kernel_rfl) (fun g9 q9 hn9 => ?_)
  unfold setSlot
  go_big_quiet_step (fail)
  refine wpQuiet_nil ?_
  clear hn9
  refine lex_store_all g9 _ _ _ (by rfl) (by rfl) (by rfl) (Blocks.put_same _ _ _) (by rfl) (Or.inr q9) (by kernel_rfl) (by simp [Value.oneCell']) ?_
  refine lex_quietE 1 (by kernel_rfl) (by rfl) ?_
  apply Exists.intro
  refine ⟨fun x hx => ?_, ?_⟩
  · have hwx := HB2.out.trans (hx.below_of (b := w.heap.size) (by simp) HB2.out.size)
    have e5_0 := blk_cellp (hx.keep m5 (by simp)) 0 rfl
    have e7_0 := blk_cellp (hx.keep m7 (by simp)) 0 rfl
    clear hx
    simp only [List.take_succ_cons, List.take_zero]
    unfold Cx
    repeat (go_big_quiet_step (first | with_reducible exact KS.at _ _))
    exact wpQuiet_nil rfl
  simp only [List.drop_succ_cons, List.drop_zero]
  refine lex_nil ?_
  intro w3 hx hH
  have m9 := hH g9 _ (Blocks.put_same _ _ _)
  replace m5 := hx.keep m5 (by simp)
  replace m7 := hx.keep m7 (by simp)
  have HB3 := Lib.hid (HB2.out.trans (hx.below_of (b := w.heap.size) (by simp) HB2.out.size))
  replace q9 := Nat.le_trans HB2.out.size q9
  clear hx hH HB2
  go_wp2_with (with_reducible refine wpList_from 41 [0, 0, 0, 0, 0, 0] [] B0 (has_B0 _) ?_)
  refine lex_quietE 6 (by kernel_rfl) (by rfl) ?_
  apply Exists.intro
  refine ⟨fun x hx => ?_, ?_⟩
  · have hwx := HB3.out.trans (hx.below_of (b := w.heap.size) (by simp) HB3.out.size)
    clear hx
    simp only [List.take_succ_cons, List.take_zero]
    unfold Cx
    repeat (go_big_quiet_step (first | with_reducible exact XS.at _ _))
    exact wpQuiet_nil rfl
  simp only [List.drop_succ_cons, List.drop_zero]
  refine lex_nil ?_
  intro w4 hx hH
  replace m5 := hx.keep m5 (by simp)
  replace m7 := hx.keep m7 (by simp)
  replace m9 := hx.keep m9 (by simp)
  have HB4 := Lib.hid (HB3.out.trans (hx.below_of (b := w.heap.size) (by simp) HB3.out.size))
  clear hx hH HB3
  go_wp2_with (with_reducible refine wpList_from 44 [0, 0, 0, 0, 0, 0, 0, 0, 0, 0, 0, 0, 0, 0, 0, 0, 0, 0, 0, 0, 0, 0, 0, 0, 0, 0, 0, 0, 0, 0, 0] [] B0 (has_B0 _) ?_)
  refine lex_quietE 31 (by kernel_rfl) (by rfl) ?_
  apply Exists.intro
  refine ⟨fun x hx => ?_, ?_⟩
  · have hwx := HB4.out.trans (hx.below_of (b := w.heap.size) (by simp) HB4.out.size)
    have e5_0 := blk_cellp (hx.keep m5 (by simp)) 0 rfl
    have e7_0 := blk_cellp (hx.keep m7 (by simp)) 0 rfl
    have e9_0 := blk_cellp (hx.keep m9 (by simp)) 0 rfl
    clear hx
    simp only [List.take_succ_cons, List.take_zero]
    unfold Cx
    repeat (go_big_quiet_step (first | with_reducible exact I1.at _ _ | with_reducible exact I2.at _ _ | with_reducible exact KA.at _ _ | with_reducible exact XA.at _ _ | with_reducible exact I3.at _ _ | with_reducible exact I4.at _ _))
    exact wpQuiet_nil rfl
  simp only [List.drop_succ_cons, List.drop_zero]
  refine lex_nil ?_
  intro w5 hx hH
  replace m5 := hx.keep m5 (by simp)
  replace m7 := hx.keep m7 (by simp)
  have HB5 := Lib.hid (HB4.out.trans (hx.below_of (b := w.heap.size) (by simp) HB4.out.size))
  clear hx hH HB4 m9 q9
  go_wp2_with (with_reducible refine wpList_from 75 [0, 0, 0, 0, 0, 0, 0, 0, 0, 0, 0, 0, 0, 0, 0, 0, 0, 0, 0, 0] [] B0 (has_B0 _) ?_)
  refine lex_quietE 20 (by kernel_rfl) (by rfl) ?_
  apply Exists.intro
  refine ⟨fun x hx => ?_, ?_⟩
  · have hwx := HB5.out.trans (hx.below_of (b := w.heap.size) (by simp) HB5.out.size)
    have e5_0 := blk_cellp (hx.keep m5 (by simp)) 0 rfl
    have e7_0 := blk_cellp (hx.keep m7 (by simp)) 0 rfl
    clear hx
    simp only [List.take_succ_cons, List.take_zero]
    unfold Cx
    repeat (go_big_quiet_step (first | with_reducible exact KC.at _ _ | with_reducible exact XC.at _ _ | with_reducible exact KW.at _ _))
    exact wpQuiet_nil rfl
  simp only [List.drop_succ_cons, List.drop_zero]
  refine lex_nil ?_
  intro w6 hx hH
  have HB6 := Lib.hid (HB5.out.trans (hx.below_of (b := w.heap.size) (by simp) HB5.out.size))
  clear hx hH HB5 m5 m7 q5 q7
  go_wp2_with fail
  exact bodyPost_ret (v := .bool true) (by simp [results, Try.results9, go_sem]) rfl ⟨rfl, HB6.out⟩

set_option maxHeartbeats 1600000 in
set_option maxRecDepth 100000 in
theorem w_sums_eq (w0 : World) (ax ay : Option Addr) (nx cx ny cy : Nat) (h1 : nx ≤ 24) (h2 : ny ≤ 24) (a b d p ta tb td tp : ByteArray) (FA : GivesFrom w0 13 #[.slice ax nx cx] (.tuple #[.agg #[.string a], .string ta])) (FB : GivesFrom w0 13 #[.slice ay ny cy] (.tuple #[.agg #[.string a], .string ta])) (KS : Gives 35 #[.agg #[.string a], .agg #[.string a]] (.tuple #[.agg #[.string d], .bool true])) (XS : Gives 36 #[.string ta, .string ta] (.tuple #[.string td, .bool true])) (KA : Gives 32 #[.agg #[.string a], .agg #[.string a]] (.agg #[.string p])) (XA : Gives 37 #[.string ta, .string ta] (.string tp)) (KC : Gives 33 #[.agg #[.string a], .agg #[.string a]] (.int .i64 0)) (XC : Gives 38 #[.string ta, .string ta] (.int .i64 0)) (I1 : Gives 16 #[.agg #[.string a], .string ta] (.bool true)) (I2 : Gives 16 #[.agg #[.string a], .string ta] (.bool true)) (I3 : Gives 16 #[.agg #[.string p], .string tp] (.bool true)) (I4 : Gives 16 #[.agg #[.string d], .string td] (.bool true)) (KW : Gives 12 #[] (.bool true)) : GivesFrom w0 9 #[.slice ax nx cx, .slice ay ny cy] (.bool true) := by
  intro w hb0
  have HB0 := Lib.hid (Below.refl w.heap.size w)
  go_enter Try.func9, Try.ntmps9
  go_wp2_with (with_reducible refine wpList_from 24 [0, 0, 0, 0, 3, 2, 0] [] B0 (has_B0 _) ?_)
  refine lex_quietE 4 (by kernel_rfl) (by rfl) ?_
  apply Exists.intro
  refine ⟨fun x hx => ?_, ?_⟩
  · have hwx := HB0.out.trans (hx.below_of (b := w.heap.size) (by simp) HB0.out.size)
    clear hx
    simp only [List.take_succ_cons, List.take_zero]
    unfold Cx
    repeat (go_big_quiet_step (first | with_reducible exact FA.at2 (hb0.trans (hwx.mono hb0.size)) _))
    exact wpQuiet_nil rfl
  simp only [List.drop_succ_cons, List.drop_zero]
  refine lex_alloc (.agg #[.string ByteArray.empty]) (by rfl) (fun x => by kernel_rfl) (fun g5 q5 hn5 => ?_)
  unfold setSlot
  go_big_quiet_step (fail)
  refine wpQuiet_nil ?_
  clear hn5
  refine lex_store_all g5 _ _ _ (by rfl) (by rfl) (by rfl) (Blocks.put_same _ _ _) (by rfl) (Or.inr q5) (by kernel_rfl) (by simp [Value.oneCell']) ?_
  refine lex_quietE 1 (by kernel_rfl) (by rfl) ?_
  apply Exists.intro
  refine ⟨fun x hx => ?_, ?_⟩
  · have hwx := HB0.out.trans (hx.below_of (b := w.heap.size) (by simp) HB0.out.size)
    clear hx
    simp only [List.take_succ_cons, List.take_zero]
    unfold Cx
    repeat (go_big_quiet_step (first | with_reducible exact FA.at2 (hb0.trans (hwx.mono hb0.size)) _))
    exact wpQuiet_nil rfl
  simp only [List.drop_succ_cons, List.drop_zero]
  refine lex_nil ?_
  intro w1 hx hH
  have m5 := hH g5 _ (Blocks.put_same _ _ _)
  have HB1 := Lib.hid (HB0.out.trans (hx.below_of (b := w.heap.size) (by simp) HB0.out.size))
  replace q5 := Nat.le_trans HB0.out.size q5
  clear hx hH HB0
  go_wp2_with (with_reducible refine wpList_from 29 [0, 0, 0, 0, 3, 2, 0] [] B0 (has_B0 _) ?_)
  refine lex_quietE 4 (by kernel_rfl) (by rfl) ?_
  apply Exists.intro
  refine ⟨fun x hx => ?_, ?_⟩
  · have hwx := HB1.out.trans (hx.below_of (b := w.heap.size) (by simp) HB1.out.size)
    clear hx
    simp only [List.take_succ_cons, List.take_zero]
    unfold Cx
    repeat (go_big_quiet_step (first | with_reducible exact FB.at2 (hb0.trans (hwx.mono hb0.size)) _))
    exact wpQuiet_nil rfl
  simp only [List.drop_succ_cons, List.drop_zero]
  refine lex_alloc (.agg #[.string ByteArray.empty]) (by rfl) (fun x => by kernel_rfl) (fun g7 q7 hn7 => ?_)
  unfold setSlot
  go_big_quiet_step (fail)
  refine wpQuiet_nil ?_
  clear hn7
  refine lex_store_all g7 _ _ _ (by rfl) (by rfl) (by rfl) (Blocks.put_same _ _ _) (by rfl) (Or.inr q7) (by kernel_rfl) (by simp [Value.oneCell']) ?_
  refine lex_quietE 1 (by kernel_rfl) (by rfl) ?_
  apply Exists.intro
  refine ⟨fun x hx => ?_, ?_⟩
  · have hwx := HB1.out.trans (hx.below_of (b := w.heap.size) (by simp) HB1.out.size)
    clear hx
    simp only [List.take_succ_cons, List.take_zero]
    unfold Cx
    repeat (go_big_quiet_step (first | with_reducible exact FB.at2 (hb0.trans (hwx.mono hb0.size)) _))
    exact wpQuiet_nil rfl
  simp only [List.drop_succ_cons, List.drop_zero]
  refine lex_nil ?_
  intro w2 hx hH
  have m7 := hH g7 _ (Blocks.put_same _ _ _)
  replace m5 := hx.keep m5 (by simp)
  have HB2 := Lib.hid (HB1.out.trans (hx.below_of (b := w.heap.size) (by simp) HB1.out.size))
  replace q7 := Nat.le_trans HB1.out.size q7
  clear hx hH HB1
  go_wp2_with (with_reducible refine wpList_from 33 [0, 0, 0, 0, 0, 0, 3, 2, 0] [] B0 (has_B0 _) ?_)
  refine lex_quietE 6 (by kernel_rfl) (by rfl) ?_
  apply Exists.intro
  refine ⟨fun x hx => ?_, ?_⟩
  · have hwx := HB2.out.trans (hx.below_of (b := w.heap.size) (by simp) HB2.out.size)
    have e5_0 := blk_cellp (hx.keep m5 (by simp)) 0 rfl
    have e7_0 := blk_cellp (hx.keep m7 (by simp)) 0 rfl
    clear hx
    simp only [List.take_succ_cons, List.take_zero]
    unfold Cx
    repeat (go_big_quiet_step (first | with_reducible exact KS.at _ _))
    exact wpQuiet_nil rfl
  simp only [List.drop_succ_cons, List.drop_zero]
  refine lex_alloc (.agg #[.string ByteArray.empty]) (by rfl) (fun x => by kernel_rfl) (fun g9 q9 hn9 => ?_)
  unfold setSlot
  go_big_quiet_step (fail)
  refine wpQuiet_nil ?_
  clear hn9
  refine lex_store_all g9 _ _ _ (by rfl) (by rfl) (by rfl) (Blocks.put_same _ _ _) (by rfl) (Or.inr q9) (by kernel_rfl) (by simp [Value.oneCell']) ?_
  refine lex_quietE 1 (by kernel_rfl) (by rfl) ?_
  apply Exists.intro
  refine ⟨fun x hx => ?_, ?_⟩
  · have hwx := HB2.out.trans (hx.below_of (b := w.heap.size) (by simp) HB2.out.size)
    have e5_0 := blk_cellp (hx.keep m5 (by simp)) 0 rfl
    have e7_0 := blk_cellp (hx.keep m7 (by simp)) 0 rfl
    clear hx
    simp only [List.take_succ_cons, List.take_zero]
    unfold Cx
    repeat (go_big_quiet_step (first | with_reducible exact KS.at _ _))
    exact wpQuiet_nil rfl
  simp only [List.drop_succ_cons, List.drop_zero]
  refine lex_nil ?_
  intro w3 hx hH
  have m9 := hH g9 _ (Blocks.put_same _ _ _)
  replace m5 := hx.keep m5 (by simp)
  replace m7 := hx.keep m7 (by simp)
  have HB3 := Lib.hid (HB2.out.trans (hx.below_of (b := w.heap.size) (by simp) HB2.out.size))
  replace q9 := Nat.le_trans HB2.out.size q9
  clear hx hH HB2
  go_wp2_with (with_reducible refine wpList_from 41 [0, 0, 0, 0, 0, 0] [] B0 (has_B0 _) ?_)
  refine lex_quietE 6 (by kernel_rfl) (by rfl) ?_
  apply Exists.intro
  refine ⟨fun x hx => ?_, ?_⟩
  · have hwx := HB3.out.trans (hx.below_of (b := w.heap.size) (by simp) HB3.out.size)
    clear hx
    simp only [List.take_succ_cons, List.take_zero]
    unfold Cx
    repeat (go_big_quiet_step (first | with_reducible exact XS.at _ _))
    exact wpQuiet_nil rfl
  simp only [List.drop_succ_cons, List.drop_zero]
  refine lex_nil ?_
  intro w4 hx hH
  replace m5 := hx.keep m5 (by simp)
  replace m7 := hx.keep m7 (by simp)
  replace m9 := hx.keep m9 (by simp)
  have HB4 := Lib.hid (HB3.out.trans (hx.below_of (b := w.heap.size) (by simp) HB3.out.size))
  clear hx hH HB3
  go_wp2_with (with_reducible refine wpList_from 44 [0, 0, 0, 0, 0, 0, 0, 0, 0, 0, 0, 0, 0, 0, 0, 0, 0, 0, 0, 0, 0, 0, 0, 0, 0, 0, 0, 0, 0, 0, 0] [] B0 (has_B0 _) ?_)
  refine lex_quietE 31 (by kernel_rfl) (by rfl) ?_
  apply Exists.intro
  refine ⟨fun x hx => ?_, ?_⟩
  · have hwx := HB4.out.trans (hx.below_of (b := w.heap.size) (by simp) HB4.out.size)
    have e5_0 := blk_cellp (hx.keep m5 (by simp)) 0 rfl
    have e7_0 := blk_cellp (hx.keep m7 (by simp)) 0 rfl
    have e9_0 := blk_cellp (hx.keep m9 (by simp)) 0 rfl
    clear hx
    simp only [List.take_succ_cons, List.take_zero]
    unfold Cx
    repeat (go_big_quiet_step (first | with_reducible exact I1.at _ _ | with_reducible exact I2.at _ _ | with_reducible exact KA.at _ _ | with_reducible exact XA.at _ _ | with_reducible exact I3.at _ _ | with_reducible exact I4.at _ _))
    exact wpQuiet_nil rfl
  simp only [List.drop_succ_cons, List.drop_zero]
  refine lex_nil ?_
  intro w5 hx hH
  replace m5 := hx.keep m5 (by simp)
  replace m7 := hx.keep m7 (by simp)
  have HB5 := Lib.hid (HB4.out.trans (hx.below_of (b := w.heap.size) (by simp) HB4.out.size))
  clear hx hH HB4 m9 q9
  go_wp2_with (with_reducible refine wpList_from 75 [0, 0, 0, 0, 0, 0, 0, 0, 0, 0, 0, 0, 0, 0, 0, 0, 0, 0, 0, 0] [] B0 (has_B0 _) ?_)
  refine lex_quietE 20 (by kernel_rfl) (by rfl) ?_
  apply Exists.intro
  refine ⟨fun x hx => ?_, ?_⟩
  · have hwx := HB5.out.trans (hx.below_of (b := w.heap.size) (by simp) HB5.out.size)
    have e5_0 := blk_cellp (hx.keep m5 (by simp)) 0 rfl
    have e7_0 := blk_cellp (hx.keep m7 (by simp)) 0 rfl
    clear hx
    simp only [List.take_succ_cons, List.take_zero]
    unfold Cx
    repeat (go_big_quiet_step (first | with_reducible exact KC.at _ _ | with_reducible exact XC.at _ _ | with_reducible exact KW.at _ _))
    exact wpQuiet_nil rfl
  simp only [List.drop_succ_cons, List.drop_zero]
  refine lex_nil ?_
  intro w6 hx hH
  have HB6 := Lib.hid (HB5.out.trans (hx.below_of (b := w.heap.size) (by simp) HB5.out.size))
  clear hx hH HB5 m5 m7 q5 q7
  go_wp2_with fail
  exact bodyPost_ret (v := .bool true) (by simp [results, Try.results9, go_sem]) rfl ⟨rfl, HB6.out⟩

set_option maxHeartbeats 1600000 in
set_option maxRecDepth 100000 in
theorem w_sums_gt (w0 : World) (ax ay : Option Addr) (nx cx ny cy : Nat) (h1 : nx ≤ 24) (h2 : ny ≤ 24) (a b d p ta tb td tp : ByteArray) (hne : ¬ a.toList = b.toList) (hne2 : (ta.toList == tb.toList) = false) (FA : GivesFrom w0 13 #[.slice ax nx cx] (.tuple #[.agg #[.string a], .string ta])) (FB : GivesFrom w0 13 #[.slice ay ny cy] (.tuple #[.agg #[.string b], .string tb])) (KS : Gives 35 #[.agg #[.string a], .agg #[.string b]] (.tuple #[.agg #[.string d], .bool true])) (XS : Gives 36 #[.string ta, .string tb] (.tuple #[.string td, .bool true])) (KA : Gives 32 #[.agg #[.string a], .agg #[.string b]] (.agg #[.string p])) (XA : Gives 37 #[.string ta, .string tb] (.string tp)) (KC : Gives 33 #[.agg #[.string a], .agg #[.string b]] (.int .i64 1)) (XC : Gives 38 #[.string ta, .string tb] (.int .i64 1)) (I1 : Gives 16 #[.agg #[.string a], .string ta] (.bool true)) (I2 : Gives 16 #[.agg #[.string b], .string tb] (.bool true)) (I3 : Gives 16 #[.agg #[.string p], .string tp] (.bool true)) (I4 : Gives 16 #[.agg #[.string d], .string td] (.bool true)) (KW : Gives 12 #[] (.bool true)) : GivesFrom w0 9 #[.slice ax nx cx, .slice ay ny cy] (.bool true) := by
  intro w hb0
  have HB0 := Lib.hid (Below.refl w.heap.size w)
  go_enter Try.func9, Try.ntmps9
  go_wp2_with (with_reducible refine wpList_from 24 [0, 0, 0, 0, 3, 2, 0] [] B0 (has_B0 _) ?_)
  refine lex_quietE 4 (by kernel_rfl) (by rfl) ?_
  apply Exists.intro
  refine ⟨fun x hx => ?_, ?_⟩
  · have hwx := HB0.out.trans (hx.below_of (b := w.heap.size) (by simp) HB0.out.size)
    clear hx
    simp only [List.take_succ_cons, List.take_zero]
    unfold Cx
    repeat (go_big_quiet_step (first | with_reducible exact FA.at2 (hb0.trans (hwx.mono hb0.size)) _))
    exact wpQuiet_nil rfl
  simp only [List.drop_succ_cons, List.drop_zero]
  refine lex_alloc (.agg #[.string ByteArray.empty]) (by rfl) (fun x => by kernel_rfl) (fun g5 q5 hn5 => ?_)
  unfold setSlot
  go_big_quiet_step (fail)
  refine wpQuiet_nil ?_
  clear hn5
  refine lex_store_all g5 _ _ _ (by rfl) (by rfl) (by rfl) (Blocks.put_same _ _ _) (by rfl) (Or.inr q5) (by kernel_rfl) (by simp [Value.oneCell']) ?_
  refine lex_quietE 1 (by kernel_rfl) (by rfl) ?_
  apply Exists.intro
  refine ⟨fun x hx => ?_, ?_⟩
  · have hwx := HB0.out.trans (hx.below_of (b := w.heap.size) (by simp) HB0.out.size)
    clear hx
    simp only [List.take_succ_cons, List.take_zero]
    unfold Cx
    repeat (go_big_quiet_step (first | with_reducible exact FA.at2 (hb0.trans (hwx.mono hb0.size)) _))
    exact wpQuiet_nil rfl
  simp only [List.drop_succ_cons, List.drop_zero]
  refine lex_nil ?_
  intro w1 hx hH
  have m5 := hH g5 _ (Blocks.put_same _ _ _)
  have HB1 := Lib.hid (HB0.out.trans (hx.below_of (b := w.heap.size) (by simp) HB0.out.size))
  replace q5 := Nat.le_trans HB0.out.size q5
  clear hx hH HB0
  go_wp2_with (with_reducible refine wpList_from 29 [0, 0, 0, 0, 3, 2, 0] [] B0 (has_B0 _) ?_)
  refine lex_quietE 4 (by kernel_rfl) (by rfl) ?_
  apply Exists.intro
  refine ⟨fun x hx => ?_, ?_⟩
  · have hwx := HB1.out.trans (hx.below_of (b := w.heap.size) (by simp) HB1.out.size)
    clear hx
    simp only [List.take_succ_cons, List.take_zero]
    unfold Cx
    repeat (go_big_quiet_step (first | with_reducible exact FB.at2 (hb0.trans (hwx.mono hb0.size)) _))
    exact wpQuiet_nil rfl
  simp only [List.drop_succ_cons, List.drop_zero]
  refine lex_alloc (.agg #[.string ByteArray.empty]) (by rfl) (fun x => by kernel_rfl) (fun g7 q7 hn7 => ?_)
  unfold setSlot
  go_big_quiet_step (fail)
  refine wpQuiet_nil ?_
  clear hn7
  refine lex_store_all g7 _ _ _ (by rfl) (by rfl) (by rfl) (Blocks.put_same _ _ _) (by rfl) (Or.inr q7) (by kernel_rfl) (by simp [Value.oneCell']) ?_
  refine lex_quietE 1 (by kernel_rfl) (by rfl) ?_
  apply Exists.intro
  refine ⟨fun x hx => ?_, ?_⟩
  · have hwx := HB1.out.trans (hx.below_of (b := w.heap.size) (by simp) HB1.out.size)
    clear hx
    simp only [List.take_succ_cons, List.take_zero]
    unfold Cx
    repeat (go_big_quiet_step (first | with_reducible exact FB.at2 (hb0.trans (hwx.mono hb0.size)) _))
    exact wpQuiet_nil rfl
  simp only [List.drop_succ_cons, List.drop_zero]
  refine lex_nil ?_
  intro w2 hx hH
  have m7 := hH g7 _ (Blocks.put_same _ _ _)
  replace m5 := hx.keep m5 (by simp)
  have HB2 := Lib.hid (HB1.out.trans (hx.below_of (b := w.heap.size) (by simp) HB1.out.size))
  replace q7 := Nat.le_trans HB1.out.size q7
  clear hx hH HB1
  go_wp2_with (with_reducible refine wpList_from 33 [0, 0, 0, 0, 0, 0, 3, 2, 0] [] B0 (has_B0 _) ?_)
  refine lex_quietE 6 (by kernel_rfl) (by rfl) ?_
  apply Exists.intro
  refine ⟨fun x hx => ?_, ?_⟩
  · have hwx := HB2.out.trans (hx.below_of (b := w.heap.size) (by simp) HB2.out.size)
    have e5_0 := blk_cellp (hx.keep m5 (by simp)) 0 rfl
    have e7_0 := blk_cellp (hx.keep m7 (by simp)) 0 rfl
    clear hx
    simp only [List.take_succ_cons, List.take_zero]
    unfold Cx
    repeat (go_big_quiet_step (first | with_reducible exact KS.at _ _))
    exact wpQuiet_nil rfl
  simp only [List.drop_succ_cons, List.drop_zero]
  refine lex_alloc (.agg #[.string ByteArray.empty]) (by rfl) (fun x => by kernel_rfl) (fun g9 q9 hn9 => ?_)
  unfold setSlot
  go_big_quiet_step (fail)
  refine wpQuiet_nil ?_
  clear hn9
  refine lex_store_all g9 _ _ _ (by rfl) (by rfl) (by rfl) (Blocks.put_same _ _ _) (by rfl) (Or.inr q9) (by kernel_rfl) (by simp [Value.oneCell']) ?_
  refine lex_quietE 1 (by kernel_rfl) (by rfl) ?_
  apply Exists.intro
  refine ⟨fun x hx => ?_, ?_⟩
  · have hwx := HB2.out.trans (hx.below_of (b := w.heap.size) (by simp) HB2.out.size)
    have e5_0 := blk_cellp (hx.keep m5 (by simp)) 0 rfl
    have e7_0 := blk_cellp (hx.keep m7 (by simp)) 0 rfl
    clear hx
    simp only [List.take_succ_cons, List.take_zero]
    unfold Cx
    repeat (go_big_quiet_step (first | with_reducible exact KS.at _ _))
    exact wpQuiet_nil rfl
  simp only [List.drop_succ_cons, List.drop_zero]
  refine lex_nil ?_
  intro w3 hx hH
  have m9 := hH g9 _ (Blocks.put_same _ _ _)
  replace m5 := hx.keep m5 (by simp)
  replace m7 := hx.keep m7 (by simp)
  have HB3 := Lib.hid (HB2.out.trans (hx.below_of (b := w.heap.size) (by simp) HB2.out.size))
  replace q9 := Nat.le_trans HB2.out.size q9
  clear hx hH HB2
  go_wp2_with (with_reducible refine wpList_from 41 [0, 0, 0, 0, 0, 0] [] B0 (has_B0 _) ?_)
  refine lex_quietE 6 (by kernel_rfl) (by rfl) ?_
  apply Exists.intro
  refine ⟨fun x hx => ?_, ?_⟩
  · have hwx := HB3.out.trans (hx.below_of (b := w.heap.size) (by simp) HB3.out.size)
    clear hx
    simp only [List.take_succ_cons, List.take_zero]
    unfold Cx
    repeat (go_big_quiet_step (first | with_reducible exact XS.at _ _))
    exact wpQuiet_nil rfl
  simp only [List.drop_succ_cons, List.drop_zero]
  refine lex_nil ?_
  intro w4 hx hH
  replace m5 := hx.keep m5 (by simp)
  replace m7 := hx.keep m7 (by simp)
  replace m9 := hx.keep m9 (by simp)
  have HB4 := Lib.hid (HB3.out.trans (hx.below_of (b := w.heap.size) (by simp) HB3.out.size))
  clear hx hH HB3
  go_wp2_with (with_reducible refine wpList_from 44 [0, 0, 0, 0, 0, 0, 0, 0, 0, 0, 0, 0, 0, 0, 0, 0, 0, 0, 0, 0, 0, 0, 0, 0, 0, 0, 0, 0, 0, 0, 0] [] B0 (has_B0 _) ?_)
  refine lex_quietE 31 (by kernel_rfl) (by rfl) ?_
  apply Exists.intro
  refine ⟨fun x hx => ?_, ?_⟩
  · have hwx := HB4.out.trans (hx.below_of (b := w.heap.size) (by simp) HB4.out.size)
    have e5_0 := blk_cellp (hx.keep m5 (by simp)) 0 rfl
    have e7_0 := blk_cellp (hx.keep m7 (by simp)) 0 rfl
    have e9_0 := blk_cellp (hx.keep m9 (by simp)) 0 rfl
    clear hx
    simp only [List.take_succ_cons, List.take_zero]
    unfold Cx
    repeat (go_big_quiet_step (first | with_reducible exact I1.at _ _ | with_reducible exact I2.at _ _ | with_reducible exact KA.at _ _ | with_reducible exact XA.at _ _ | with_reducible exact I3.at _ _ | with_reducible exact I4.at _ _))
    exact wpQuiet_nil rfl
  simp only [List.drop_succ_cons, List.drop_zero]
  refine lex_nil ?_
  intro w5 hx hH
  replace m5 := hx.keep m5 (by simp)
  replace m7 := hx.keep m7 (by simp)
  have HB5 := Lib.hid (HB4.out.trans (hx.below_of (b := w.heap.size) (by simp) HB4.out.size))
  clear hx hH HB4 m9 q9
  go_wp2_with (with_reducible refine wpList_from 75 [0, 0, 0, 0, 0, 0, 0, 0, 0, 0, 0, 0, 0, 0, 0, 0, 0, 0, 0, 0] [] B0 (has_B0 _) ?_)
  refine lex_quietE 20 (by kernel_rfl) (by rfl) ?_
  apply Exists.intro
  refine ⟨fun x hx => ?_, ?_⟩
  · have hwx := HB5.out.trans (hx.below_of (b := w.heap.size) (by simp) HB5.out.size)
    have e5_0 := blk_cellp (hx.keep m5 (by simp)) 0 rfl
    have e7_0 := blk_cellp (hx.keep m7 (by simp)) 0 rfl
    clear hx
    simp only [List.take_succ_cons, List.take_zero]
    unfold Cx
    repeat (go_big_quiet_step (first | with_reducible exact KC.at _ _ | with_reducible exact XC.at _ _ | with_reducible exact KW.at _ _))
    exact wpQuiet_nil rfl
  simp only [List.drop_succ_cons, List.drop_zero]
  refine lex_nil ?_
  intro w6 hx hH
  have HB6 := Lib.hid (HB5.out.trans (hx.below_of (b := w.heap.size) (by simp) HB5.out.size))
  clear hx hH HB5 m5 m7 q5 q7
  go_wp2_with fail
  exact bodyPost_ret (v := .bool true) (by simp [results, Try.results9, go_sem]) rfl ⟨rfl, HB6.out⟩

set_option maxHeartbeats 1600000 in
set_option maxRecDepth 100000 in
theorem w_reads (s r x : ByteArray) (ok : Bool) (hs : s.size ≤ 2100) (KR : Gives 21 #[.string s] (.tuple #[.agg #[.string x], .bool ok])) (XR : Gives 22 #[.string s] (.tuple #[.string r, .bool ok])) (I1 : Gives 16 #[.agg #[.string x], .string r] (.bool true)) (KW : Gives 12 #[] (.bool true)) : Gives 4 #[.string s] (.bool true) := by
  intro w
  have HB0 := Lib.hid (Below.refl w.heap.size w)
  go_enter Try.func4, Try.ntmps4
  go_wp2_with (with_reducible refine wpList_from 13 [0, 0, 0, 0, 3, 2, 0] [] B0 (has_B0 _) ?_)
  refine lex_quietE 4 (by kernel_rfl) (by rfl) ?_
  apply Exists.intro
  refine ⟨fun x hx => ?_, ?_⟩
  · have hwx := HB0.out.trans (hx.below_of (b := w.heap.size) (by simp) HB0.out.size)
    clear hx
    simp only [List.take_succ_cons, List.take_zero]
    unfold Cx
    repeat (go_big_quiet_step (first | with_reducible exact KR.at _ _))
    exact wpQuiet_nil rfl
  simp only [List.drop_succ_cons, List.drop_zero]
  refine lex_alloc (.agg #[.string ByteArray.empty]) (by rfl) (fun x => by kernel_rfl) (fun g3 q3 hn3 => ?_)
  unfold setSlot
  go_big_quiet_step (fail)
  refine wpQuiet_nil ?_
  clear hn3
  refine lex_store_all g3 _ _ _ (by rfl) (by rfl) (by rfl) (Blocks.put_same _ _ _) (by rfl) (Or.inr q3) (by kernel_rfl) (by simp [Value.oneCell']) ?_
  refine lex_quietE 1 (by kernel_rfl) (by rfl) ?_
  apply Exists.intro
  refine ⟨fun x hx => ?_, ?_⟩
  · have hwx := HB0.out.trans (hx.below_of (b := w.heap.size) (by simp) HB0.out.size)
    clear hx
    simp only [List.take_succ_cons, List.take_zero]
    unfold Cx
    repeat (go_big_quiet_step (first | with_reducible exact KR.at _ _))
    exact wpQuiet_nil rfl
  simp only [List.drop_succ_cons, List.drop_zero]
  refine lex_nil ?_
  intro w1 hx hH
  have m3 := hH g3 _ (Blocks.put_same _ _ _)
  have HB1 := Lib.hid (HB0.out.trans (hx.below_of (b := w.heap.size) (by simp) HB0.out.size))
  replace q3 := Nat.le_trans HB0.out.size q3
  clear hx hH HB0
  go_wp2_with (with_reducible refine wpList_from 18 [0, 0, 0, 0, 0, 0] [] B0 (has_B0 _) ?_)
  refine lex_quietE 6 (by kernel_rfl) (by rfl) ?_
  apply Exists.intro
  refine ⟨fun x hx => ?_, ?_⟩
  · have hwx := HB1.out.trans (hx.below_of (b := w.heap.size) (by simp) HB1.out.size)
    clear hx
    simp only [List.take_succ_cons, List.take_zero]
    unfold Cx
    repeat (go_big_quiet_step (first | with_reducible exact XR.at _ _))
    exact wpQuiet_nil rfl
  simp only [List.drop_succ_cons, List.drop_zero]
  refine lex_nil ?_
  intro w2 hx hH
  replace m3 := hx.keep m3 (by simp)
  have HB2 := Lib.hid (HB1.out.trans (hx.below_of (b := w.heap.size) (by simp) HB1.out.size))
  clear hx hH HB1
  go_wp2_with (with_reducible refine wpList_from 25 [0, 0, 0, 0, 0, 0, 0, 0] [] B0 (has_B0 _) ?_)
  refine lex_quietE 8 (by kernel_rfl) (by rfl) ?_
  apply Exists.intro
  refine ⟨fun x hx => ?_, ?_⟩
  · have hwx := HB2.out.trans (hx.below_of (b := w.heap.size) (by simp) HB2.out.size)
    have e3_0 := blk_cellp (hx.keep m3 (by simp)) 0 rfl
    clear hx
    simp only [List.take_succ_cons, List.take_zero]
    unfold Cx
    repeat (go_big_quiet_step (first | with_reducible exact I1.at _ _ | with_reducible exact KW.at _ _))
    exact wpQuiet_nil rfl
  simp only [List.drop_succ_cons, List.drop_zero]
  refine lex_nil ?_
  intro w3 hx hH
  have HB3 := Lib.hid (HB2.out.trans (hx.below_of (b := w.heap.size) (by simp) HB2.out.size))
  clear hx hH HB2 m3 q3
  go_wp2_with fail
  exact bodyPost_ret (v := .bool true) (by simp [results, Try.results4, go_sem]) rfl ⟨rfl, HB3.out⟩

set_option maxHeartbeats 1600000 in
set_option maxRecDepth 100000 in
theorem w_of (w0 : World) (m k u : Int) (ax : Option Addr) (nx cx : Nat) (h1 : nx ≤ 20) (a b p ta tb tp : ByteArray) (l1 l2 : Nat) (is64 : Bool) (KO : Gives 23 #[.int .u64 m] (.agg #[.string a])) (KU : Gives 24 #[.agg #[.string a]] (.tuple #[.int .u64 m, .bool true])) (XO : Gives 25 #[.int .u64 m] (.string ta)) (I1 : Gives 16 #[.agg #[.string a], .string ta] (.bool true)) (KL : Gives 26 #[.agg #[.string a]] (.int .i64 (l1 : Nat))) (XL : Gives 27 #[.string ta] (.int .i64 (l1 : Nat))) (FB : GivesFrom w0 13 #[.slice ax nx cx] (.tuple #[.agg #[.string b], .string tb])) (KU2 : Gives 24 #[.agg #[.string b]] (.tuple #[.int .u64 u, .bool is64])) (XU : Gives 28 #[.string tb] (.tuple #[.int .u64 u, .bool is64])) (KL2 : Gives 26 #[.agg #[.string b]] (.int .i64 (l2 : Nat))) (XL2 : Gives 27 #[.string tb] (.int .i64 (l2 : Nat))) (KP : Gives 29 #[.int .i64 k] (.agg #[.string p])) (XP : Gives 30 #[.int .i64 k] (.string tp)) (I2 : Gives 16 #[.agg #[.string p], .string tp] (.bool true)) (KW : Gives 12 #[] (.bool true)) : GivesFrom w0 5 #[.int .u64 m, .int .i64 k, .slice ax nx cx] (.bool true) := by
  intro w hb0
  have HB0 := Lib.hid (Below.refl w.heap.size w)
  go_enter Try.func5, Try.ntmps5
  go_wp2_with (with_reducible refine wpList_from 21 [0, 3, 2] [] B0 (has_B0 _) ?_)
  refine lex_quietE 1 (by kernel_rfl) (by rfl) ?_
  apply Exists.intro
  refine ⟨fun x hx => ?_, ?_⟩
  · have hwx := HB0.out.trans (hx.below_of (b := w.heap.size) (by simp) HB0.out.size)
    clear hx
    simp only [List.take_succ_cons, List.take_zero]
    unfold Cx
    repeat (go_big_quiet_step (first | with_reducible exact KO.at _ _))
    exact wpQuiet_nil rfl
  simp only [List.drop_succ_cons, List.drop_zero]
  refine lex_alloc (.agg #[.string ByteArray.empty]) (by rfl) (fun x => by kernel_rfl) (fun g7 q7 hn7 => ?_)
  unfold setSlot
  go_big_quiet_step (fail)
  refine wpQuiet_nil ?_
  clear hn7
  refine lex_store_all g7 _ _ _ (by rfl) (by rfl) (by rfl) (Blocks.put_same _ _ _) (by rfl) (Or.inr q7) (by kernel_rfl) (by simp [Value.oneCell']) ?_
  refine lex_nil ?_
  intro w1 hx hH
  have m7 := hH g7 _ (Blocks.put_same _ _ _)
  have HB1 := Lib.hid (HB0.out.trans (hx.below_of (b := w.heap.size) (by simp) HB0.out.size))
  replace q7 := Nat.le_trans HB0.out.size q7
  clear hx hH HB0
  go_wp2_with (with_reducible refine wpList_from 23 [0, 0, 0, 0, 0, 0, 0] [] B0 (has_B0 _) ?_)
  refine lex_quietE 7 (by kernel_rfl) (by rfl) ?_
  apply Exists.intro
  refine ⟨fun x hx => ?_, ?_⟩
  · have hwx := HB1.out.trans (hx.below_of (b := w.heap.size) (by simp) HB1.out.size)
    have e7_0 := blk_cellp (hx.keep m7 (by simp)) 0 rfl
    clear hx
    simp only [List.take_succ_cons, List.take_zero]
    unfold Cx
    repeat (go_big_quiet_step (first | with_reducible exact KU.at _ _))
    exact wpQuiet_nil rfl
  simp only [List.drop_succ_cons, List.drop_zero]
  refine lex_nil ?_
  intro w2 hx hH
  replace m7 := hx.keep m7 (by simp)
  have HB2 := Lib.hid (HB1.out.trans (hx.below_of (b := w.heap.size) (by simp) HB1.out.size))
  clear hx hH HB1
  go_wp2_with fail
  refine wp_game [0, 0, 0, 0, 0, 0, 0, 0, 0, 0, 0, 0, 0, 0, 0, 0, 0, 0, 0, 0, 0, 0] [] B0 fin_B0 (has_B0 _) (by kernel_rfl) (by kernel_rfl) ?_
  refine lex_quietE 22 (by kernel_rfl) (by rfl) ?_
  apply Exists.intro
  refine ⟨fun x hx => ?_, ?_⟩
  · have hwx := HB2.out.trans (hx.below_of (b := w.heap.size) (by simp) HB2.out.size)
    have e7_0 := blk_cellp (hx.keep m7 (by simp)) 0 rfl
    clear hx
    simp only [List.take_succ_cons, List.take_zero]
    unfold Cx
    repeat (go_big_quiet_step (first | with_reducible exact XO.at _ _ | with_reducible exact I1.at _ _ | with_reducible exact KL.at _ _ | with_reducible exact XL.at _ _))
    exact wpQuiet_nil rfl
  simp only [List.drop_succ_cons, List.drop_zero]
  refine lex_nil ?_
  intro w3 hx hH
  have HB3 := Lib.hid (HB2.out.trans (hx.below_of (b := w.heap.size) (by simp) HB2.out.size))
  clear hx hH HB2 m7 q7
  go_wp2_with (with_reducible refine wpList_from 51 [0, 0, 0, 0, 3, 2, 0] [] B0 (has_B0 _) ?_)
  refine lex_quietE 4 (by kernel_rfl) (by rfl) ?_
  apply Exists.intro
  refine ⟨fun x hx => ?_, ?_⟩
  · have hwx := HB3.out.trans (hx.below_of (b := w.heap.size) (by simp) HB3.out.size)
    clear hx
    simp only [List.take_succ_cons, List.take_zero]
    unfold Cx
    repeat (go_big_quiet_step (first | with_reducible exact FB.at2 (hb0.trans (hwx.mono hb0.size)) _))
    exact wpQuiet_nil rfl
  simp only [List.drop_succ_cons, List.drop_zero]
  refine lex_alloc (.agg #[.string ByteArray.empty]) (by rfl) (fun x => by kernel_rfl) (fun g10 q10 hn10 => ?_)
  unfold setSlot
  go_big_quiet_step (fail)
  refine wpQuiet_nil ?_
  clear hn10
  refine lex_store_all g10 _ _ _ (by rfl) (by rfl) (by rfl) (Blocks.put_same _ _ _) (by rfl) (Or.inr q10) (by kernel_rfl) (by simp [Value.oneCell']) ?_
  refine lex_quietE 1 (by kernel_rfl) (by rfl) ?_
  apply Exists.intro
  refine ⟨fun x hx => ?_, ?_⟩
  · have hwx := HB3.out.trans (hx.below_of (b := w.heap.size) (by simp) HB3.out.size)
    clear hx
    simp only [List.take_succ_cons, List.take_zero]
    unfold Cx
    repeat (go_big_quiet_step (first | with_reducible exact FB.at2 (hb0.trans (hwx.mono hb0.size)) _))
    exact wpQuiet_nil rfl
  simp only [List.drop_succ_cons, List.drop_zero]
  refine lex_nil ?_
  intro w4 hx hH
  have m10 := hH g10 _ (Blocks.put_same _ _ _)
  have HB4 := Lib.hid (HB3.out.trans (hx.below_of (b := w.heap.size) (by simp) HB3.out.size))
  replace q10 := Nat.le_trans HB3.out.size q10
  clear hx hH HB3
  go_wp2_with (with_reducible refine wpList_from 55 [0, 0, 0, 0, 0, 0, 0] [] B0 (has_B0 _) ?_)
  refine lex_quietE 7 (by kernel_rfl) (by rfl) ?_
  apply Exists.intro
  refine ⟨fun x hx => ?_, ?_⟩
  · have hwx := HB4.out.trans (hx.below_of (b := w.heap.size) (by simp) HB4.out.size)
    have e10_0 := blk_cellp (hx.keep m10 (by simp)) 0 rfl
    clear hx
    simp only [List.take_succ_cons, List.take_zero]
    unfold Cx
    repeat (go_big_quiet_step (first | with_reducible exact KU2.at _ _))
    exact wpQuiet_nil rfl
  simp only [List.drop_succ_cons, List.drop_zero]
  refine lex_nil ?_
  intro w5 hx hH
  replace m10 := hx.keep m10 (by simp)
  have HB5 := Lib.hid (HB4.out.trans (hx.below_of (b := w.heap.size) (by simp) HB4.out.size))
  clear hx hH HB4
  go_wp2_with (with_reducible refine wpList_from 61 [0, 0, 0, 0, 0, 0] [] B0 (has_B0 _) ?_)
  refine lex_quietE 6 (by kernel_rfl) (by rfl) ?_
  apply Exists.intro
  refine ⟨fun x hx => ?_, ?_⟩
  · have hwx := HB5.out.trans (hx.below_of (b := w.heap.size) (by simp) HB5.out.size)
    clear hx
    simp only [List.take_succ_cons, List.take_zero]
    unfold Cx
    repeat (go_big_quiet_step (first | with_reducible exact XU.at _ _))
    exact wpQuiet_nil rfl
  simp only [List.drop_succ_cons, List.drop_zero]
  refine lex_nil ?_
  intro w6 hx hH
  replace m10 := hx.keep m10 (by simp)
  have HB6 := Lib.hid (HB5.out.trans (hx.below_of (b := w.heap.size) (by simp) HB5.out.size))
  clear hx hH HB5
  go_wp2_with (with_reducible refine wpList_from 73 [0, 0, 0, 0, 0, 0, 0, 0, 0, 0, 0, 0, 0, 0, 0, 0, 0] [] B0 (has_B0 _) ?_)
  refine lex_quietE 17 (by kernel_rfl) (by rfl) ?_
  apply Exists.intro
  refine ⟨fun x hx => ?_, ?_⟩
  · have hwx := HB6.out.trans (hx.below_of (b := w.heap.size) (by simp) HB6.out.size)
    have e10_0 := blk_cellp (hx.keep m10 (by simp)) 0 rfl
    clear hx
    simp only [List.take_succ_cons, List.take_zero]
    unfold Cx
    repeat (go_big_quiet_step (first | with_reducible exact KL2.at _ _ | with_reducible exact XL2.at _ _ | with_reducible exact KP.at _ _ | with_reducible exact XP.at _ _ | with_reducible exact I2.at _ _ | with_reducible exact KW.at _ _))
    exact wpQuiet_nil rfl
  simp only [List.drop_succ_cons, List.drop_zero]
  refine lex_nil ?_
  intro w7 hx hH
  have HB7 := Lib.hid (HB6.out.trans (hx.below_of (b := w.heap.size) (by simp) HB6.out.size))
  clear hx hH HB6 m10 q10
  go_wp2_with fail
  exact bodyPost_ret (v := .bool true) (by simp [results, Try.results5, go_sem]) rfl ⟨rfl, HB7.out⟩

end Go.Proofs.Ytdkfeaodgfnhgaa
