/- NatTexts: the walks. -/
import Derived.Test.YtdkfeaodgfnhgaaLRaw
import Derived.Test.YtdkfeaodgfnhgaaGame2
import Derived.Test.YtdkfeaodgfnhgaaNatL
namespace Go.Proofs.Ytdkfeaodgfnhgaa
open Go.RowKit Num

set_option maxHeartbeats 1600000 in
set_option maxRecDepth 100000 in
theorem texts_lt1_n (ax ay : Option Addr) (nx cx ny cy : Nat) (w : World) (h1 : nx ≤ 24) (h2 : ny ≤ 24) (sA sB sS sT s0 sP sP2 : ByteArray) (L n : Nat) (c3 : Int)
    (FA : GivesFrom w 31 #[.slice ax nx cx] (.agg #[.string sA])) (FB : GivesFrom w 31 #[.slice ay ny cy] (.agg #[.string sB]))
    (KT1 : Gives 34 #[.agg #[.string sA]] (.string sS)) (KT2 : Gives 34 #[.agg #[.string sB]] (.string sT))
    (KR : Gives 21 #[.string sS] (.tuple #[.agg #[.string sA], .bool true])) (KC1 : Gives 33 #[.agg #[.string sA], .agg #[.string sB]] (.int .i64 (-1))) (KC2 : Gives 33 #[.agg #[.string sB], .agg #[.string sA]] (.int .i64 (1)))
    (KZ : Gives 23 #[.int .u64 0] (.agg #[.string s0])) (KL : Gives 26 #[.agg #[.string sA]] (.int .i64 (L : Nat))) (KW : Gives 12 #[] (.bool true))
    (KP1 : Gives 29 #[.int .i64 (n : Nat)] (.agg #[.string sP])) (KP2 : Gives 29 #[.int .i64 (L : Nat)] (.agg #[.string sP2])) (KC3 : Gives 33 #[.agg #[.string sP], .agg #[.string sA]] (.int .i64 c3)) (KC4 : Gives 33 #[.agg #[.string sA], .agg #[.string sP2]] (.int .i64 (-1)))
    (hne : ¬ sA.toList = sB.toList) (hne2 : ¬ sB.toList = sA.toList) (hlen : sS.size < sT.size) (hnz : ¬ sA.toList = s0.toList) (HSUM : IntKind.i64.wrap ((L : Int) - 1) = (n : Nat)) (hc3 : c3 ≤ 0) :
    Calls Try.prog 8 #[.slice ax nx cx, .slice ay ny cy] w fun e w' => e = .returned (.bool true) ∧ Below w.heap.size w w' := by
  have HSUM := Lib.hid HSUM
  have hc3b : decide (c3 ≤ 0) = true := by simpa using hc3
  have HB0 := Lib.hid (Below.refl w.heap.size w)
  go_enter Try.func8, Try.ntmps8
  go_wp2_with (with_reducible refine wpList_from 22 [0, 0, 0, 3, 3, 2, 2] [] B0 (has_B0 _) ?_)
  refine lex_quietE 3 (by kernel_rfl) (by rfl) ?_
  apply Exists.intro
  refine ⟨fun x hx => ?_, ?_⟩
  · have hwx := HB0.out.trans (hx.below_of (b := w.heap.size) (by simp) HB0.out.size)
    clear hx
    simp only [List.take_succ_cons, List.take_zero]
    unfold Cx
    repeat (go_big_quiet_step (first | with_reducible exact FA.at2 hwx _ | with_reducible exact FB.at2 hwx _))
    exact wpQuiet_nil rfl
  simp only [List.drop_succ_cons, List.drop_zero]
  refine lex_alloc (.agg #[.string ByteArray.empty]) (by rfl) (fun x => by kernel_rfl) (fun g5 q5 hn5 => ?_)
  unfold setSlot
  go_big_quiet_step (fail)
  refine wpQuiet_nil ?_
  clear hn5
  refine lex_alloc (.agg #[.string ByteArray.empty]) (by rfl) (fun x => by kernel_rfl) (fun g6 q6 hn6 => ?_)
  unfold setSlot
  go_big_quiet_step (fail)
  refine wpQuiet_nil ?_
  have n6_5 := ne_of_put hn6
  replace hn6 := none_of_put hn6
  clear hn6
  refine lex_store_all g5 _ _ _ (by rfl) (by rfl) (by rfl) ((Blocks.put_other _ _ (Ne.symm n6_5)).trans (Blocks.put_same _ _ _)) (by rfl) (Or.inr q5) (by kernel_rfl) (by simp [Value.oneCell']) ?_
  refine lex_store_all g6 _ _ _ (by rfl) (by rfl) (by rfl) ((Blocks.put_other _ _ n6_5).trans (Blocks.put_same _ _ _)) (by rfl) (Or.inr q6) (by kernel_rfl) (by simp [Value.oneCell']) ?_
  refine lex_nil ?_
  intro w1 hx hH
  have m5 := hH g5 _ ((Blocks.put_other _ _ (Ne.symm n6_5)).trans (Blocks.put_same _ _ _))
  have m6 := hH g6 _ (Blocks.put_same _ _ _)
  have HB1 := Lib.hid (HB0.out.trans (hx.below_of (b := w.heap.size) (by simp) HB0.out.size))
  replace q5 := Nat.le_trans HB0.out.size q5
  replace q6 := Nat.le_trans HB0.out.size q6
  clear hx hH HB0 FA FB
  go_wp2_with fail
  refine wp_game [0, 0, 0, 0, 0, 0] [] B0 fin_B0 (has_B0 _) (by kernel_rfl) (by kernel_rfl) ?_
  refine lex_quietE 6 (by kernel_rfl) (by rfl) ?_
  apply Exists.intro
  refine ⟨fun x hx => ?_, ?_⟩
  · have hwx := HB1.out.trans (hx.below_of (b := w.heap.size) (by simp) HB1.out.size)
    have e5_0 := blk_cellp (hx.keep m5 (by simp)) 0 rfl
    have e6_0 := blk_cellp (hx.keep m6 (by simp)) 0 rfl
    clear hx
    simp only [List.take_succ_cons, List.take_zero]
    unfold Cx
    repeat (go_big_quiet_step (first | with_reducible exact KT1.at _ _ | with_reducible exact KT2.at _ _))
    exact wpQuiet_nil rfl
  simp only [List.drop_succ_cons, List.drop_zero]
  refine lex_nil ?_
  intro w2 hx hH
  replace m5 := hx.keep m5 (by simp)
  replace m6 := hx.keep m6 (by simp)
  have HB2 := Lib.hid (HB1.out.trans (hx.below_of (b := w.heap.size) (by simp) HB1.out.size))
  clear hx hH HB1 KT1 KT2
  go_wp2_with (with_reducible refine wpList_from 31 [0, 0, 0, 0, 3, 2, 0] [] B0 (has_B0 _) ?_)
  refine lex_quietE 4 (by kernel_rfl) (by rfl) ?_
  apply Exists.intro
  refine ⟨fun x hx => ?_, ?_⟩
  · have hwx := HB2.out.trans (hx.below_of (b := w.heap.size) (by simp) HB2.out.size)
    clear hx
    simp only [List.take_succ_cons, List.take_zero]
    unfold Cx
    repeat (go_big_quiet_step (first | with_reducible exact KR.at _ _))
    exact wpQuiet_nil rfl
  simp only [List.drop_succ_cons, List.drop_zero]
  refine lex_alloc (.agg #[.string ByteArray.empty]) (by rfl) (fun x => by kernel_rfl) (fun g9 q9 hn9 => ?_)
  unfold setSlot
  go_big_quiet_step (fail)
  refine wpQuiet_nil ?_
  clear hn9
  refine lex_store_all g9 _ _ _ (by rfl) (by rfl) (by rfl) (Blocks.put_same _ _ _) (by rfl) (Or.inr q9) (by kernel_rfl) (by simp [Value.oneCell']) ?_
  refine lex_quietE 1 (by kernel_rfl) (by rfl) ?_
  apply Exists.intro
  refine ⟨fun x hx => ?_, ?_⟩
  · have hwx := HB2.out.trans (hx.below_of (b := w.heap.size) (by simp) HB2.out.size)
    clear hx
    simp only [List.take_succ_cons, List.take_zero]
    unfold Cx
    repeat (go_big_quiet_step (first | with_reducible exact KR.at _ _))
    exact wpQuiet_nil rfl
  simp only [List.drop_succ_cons, List.drop_zero]
  refine lex_nil ?_
  intro w3 hx hH
  have m9 := hH g9 _ (Blocks.put_same _ _ _)
  replace m5 := hx.keep m5 (by simp)
  replace m6 := hx.keep m6 (by simp)
  have HB3 := Lib.hid (HB2.out.trans (hx.below_of (b := w.heap.size) (by simp) HB2.out.size))
  replace q9 := Nat.le_trans HB2.out.size q9
  clear hx hH HB2 KR
  go_wp2_with (with_reducible refine wpList_from 37 [0, 0, 0, 0] [] B0 (has_B0 _) ?_)
  refine lex_quietE 4 (by kernel_rfl) (by rfl) ?_
  apply Exists.intro
  refine ⟨fun x hx => ?_, ?_⟩
  · have hwx := HB3.out.trans (hx.below_of (b := w.heap.size) (by simp) HB3.out.size)
    have e9_0 := blk_cellp (hx.keep m9 (by simp)) 0 rfl
    have e5_0 := blk_cellp (hx.keep m5 (by simp)) 0 rfl
    clear hx
    simp only [List.take_succ_cons, List.take_zero]
    unfold Cx
    repeat (go_big_quiet_step (fail))
    exact wpQuiet_nil rfl
  simp only [List.drop_succ_cons, List.drop_zero]
  refine lex_nil ?_
  intro w4 hx hH
  replace m5 := hx.keep m5 (by simp)
  replace m6 := hx.keep m6 (by simp)
  have HB4 := Lib.hid (HB3.out.trans (hx.below_of (b := w.heap.size) (by simp) HB3.out.size))
  clear hx hH HB3 m9 q9
  go_wp2_with fail
  refine wp_game [0, 0, 0, 0, 0, 0, 0, 0, 0, 0, 0, 0, 0, 0, 0, 0, 0, 0, 0, 0, 0, 0, 0, 0, 0, 0] [] B0 fin_B0 (has_B0 _) (by kernel_rfl) (by kernel_rfl) ?_
  refine lex_quietE 26 (by kernel_rfl) (by rfl) ?_
  apply Exists.intro
  refine ⟨fun x hx => ?_, ?_⟩
  · have hwx := HB4.out.trans (hx.below_of (b := w.heap.size) (by simp) HB4.out.size)
    have e5_0 := blk_cellp (hx.keep m5 (by simp)) 0 rfl
    have e6_0 := blk_cellp (hx.keep m6 (by simp)) 0 rfl
    clear hx
    simp only [List.take_succ_cons, List.take_zero]
    unfold Cx
    repeat (go_big_quiet_step (first | with_reducible exact KC1.at _ _ | with_reducible exact KC2.at _ _))
    exact wpQuiet_nil rfl
  simp only [List.drop_succ_cons, List.drop_zero]
  refine lex_nil ?_
  intro w5 hx hH
  replace m5 := hx.keep m5 (by simp)
  replace m6 := hx.keep m6 (by simp)
  have HB5 := Lib.hid (HB4.out.trans (hx.below_of (b := w.heap.size) (by simp) HB4.out.size))
  clear hx hH HB4 KC1 KC2
  go_wp2_with fail
  refine wp_game [0, 0, 0] [] B0 fin_B0 (has_B0 _) (by kernel_rfl) (by kernel_rfl) ?_
  refine lex_quietE 3 (by kernel_rfl) (by rfl) ?_
  apply Exists.intro
  refine ⟨fun x hx => ?_, ?_⟩
  · have hwx := HB5.out.trans (hx.below_of (b := w.heap.size) (by simp) HB5.out.size)
    have e5_0 := blk_cellp (hx.keep m5 (by simp)) 0 rfl
    clear hx
    simp only [List.take_succ_cons, List.take_zero]
    unfold Cx
    repeat (go_big_quiet_step (first | with_reducible exact KZ.at _ _))
    exact wpQuiet_nil rfl
  simp only [List.drop_succ_cons, List.drop_zero]
  refine lex_nil ?_
  intro w6 hx hH
  replace m5 := hx.keep m5 (by simp)
  replace m6 := hx.keep m6 (by simp)
  have HB6 := Lib.hid (HB5.out.trans (hx.below_of (b := w.heap.size) (by simp) HB5.out.size))
  clear hx hH HB5 KZ
  have HSUM := HSUM.out
  go_wp2_with fail
  refine wp_game [0, 0, 0, 0, 0, 0, 0, 0, 0, 0, 0, 0, 0, 0, 0, 0, 0, 0, 0] [] B0 fin_B0 (has_B0 _) (by kernel_rfl) (by kernel_rfl) ?_
  refine lex_quietE 19 (by kernel_rfl) (by rfl) ?_
  apply Exists.intro
  refine ⟨fun x hx => ?_, ?_⟩
  · have hwx := HB6.out.trans (hx.below_of (b := w.heap.size) (by simp) HB6.out.size)
    have e5_0 := blk_cellp (hx.keep m5 (by simp)) 0 rfl
    clear hx
    simp only [List.take_succ_cons, List.take_zero]
    unfold Cx
    repeat (go_big_quiet_step (first | with_reducible exact KL.at _ _ | with_reducible exact KP1.at _ _ | with_reducible exact KP2.at _ _ | with_reducible exact KC3.at _ _ | with_reducible exact KC4.at _ _ | with_reducible exact KW.at _ _))
    exact wpQuiet_nil rfl
  simp only [List.drop_succ_cons, List.drop_zero]
  refine lex_nil ?_
  intro w7 hx hH
  have HB7 := Lib.hid (HB6.out.trans (hx.below_of (b := w.heap.size) (by simp) HB6.out.size))
  clear hx hH HB6 m5 m6 q5 q6 KL KP1 KP2 KC3 KC4 KW
  go_wp2_with fail
  exact bodyPost_ret (v := .bool true) (by simp [results, Try.results8, go_sem]) rfl ⟨rfl, HB7.out⟩

set_option maxHeartbeats 1600000 in
set_option maxRecDepth 100000 in
theorem texts_lt2_n (ax ay : Option Addr) (nx cx ny cy : Nat) (w : World) (h1 : nx ≤ 24) (h2 : ny ≤ 24) (sA sB sS sT s0 sP sP2 : ByteArray) (L n : Nat) (c3 : Int)
    (FA : GivesFrom w 31 #[.slice ax nx cx] (.agg #[.string sA])) (FB : GivesFrom w 31 #[.slice ay ny cy] (.agg #[.string sB]))
    (KT1 : Gives 34 #[.agg #[.string sA]] (.string sS)) (KT2 : Gives 34 #[.agg #[.string sB]] (.string sT))
    (KR : Gives 21 #[.string sS] (.tuple #[.agg #[.string sA], .bool true])) (KC1 : Gives 33 #[.agg #[.string sA], .agg #[.string sB]] (.int .i64 (-1))) (KC2 : Gives 33 #[.agg #[.string sB], .agg #[.string sA]] (.int .i64 (1)))
    (KZ : Gives 23 #[.int .u64 0] (.agg #[.string s0])) (KL : Gives 26 #[.agg #[.string sA]] (.int .i64 (L : Nat))) (KW : Gives 12 #[] (.bool true))
    (KP1 : Gives 29 #[.int .i64 (n : Nat)] (.agg #[.string sP])) (KP2 : Gives 29 #[.int .i64 (L : Nat)] (.agg #[.string sP2])) (KC3 : Gives 33 #[.agg #[.string sP], .agg #[.string sA]] (.int .i64 c3)) (KC4 : Gives 33 #[.agg #[.string sA], .agg #[.string sP2]] (.int .i64 (-1)))
    (hne : ¬ sA.toList = sB.toList) (hne2 : ¬ sB.toList = sA.toList) (hlen : sT.size = sS.size) (hbl : Op.bytesLess sS.toList sT.toList = true) (hnz : ¬ sA.toList = s0.toList) (HSUM : IntKind.i64.wrap ((L : Int) - 1) = (n : Nat)) (hc3 : c3 ≤ 0) :
    Calls Try.prog 8 #[.slice ax nx cx, .slice ay ny cy] w fun e w' => e = .returned (.bool true) ∧ Below w.heap.size w w' := by
  have HSUM := Lib.hid HSUM
  have hc3b : decide (c3 ≤ 0) = true := by simpa using hc3
  have hlen2 : ((sS.size : Int) == (sT.size : Int)) = true := by simp [hlen]
  have hlen3 : ¬ sS.size < sT.size := by omega
  clear hlen
  have HB0 := Lib.hid (Below.refl w.heap.size w)
  go_enter Try.func8, Try.ntmps8
  go_wp2_with (with_reducible refine wpList_from 22 [0, 0, 0, 3, 3, 2, 2] [] B0 (has_B0 _) ?_)
  refine lex_quietE 3 (by kernel_rfl) (by rfl) ?_
  apply Exists.intro
  refine ⟨fun x hx => ?_, ?_⟩
  · have hwx := HB0.out.trans (hx.below_of (b := w.heap.size) (by simp) HB0.out.size)
    clear hx
    simp only [List.take_succ_cons, List.take_zero]
    unfold Cx
    repeat (go_big_quiet_step (first | with_reducible exact FA.at2 hwx _ | with_reducible exact FB.at2 hwx _))
    exact wpQuiet_nil rfl
  simp only [List.drop_succ_cons, List.drop_zero]
  refine lex_alloc (.agg #[.string ByteArray.empty]) (by rfl) (fun x => by kernel_rfl) (fun g5 q5 hn5 => ?_)
  unfold setSlot
  go_big_quiet_step (fail)
  refine wpQuiet_nil ?_
  clear hn5
  refine lex_alloc (.agg #[.string ByteArray.empty]) (by rfl) (fun x => by kernel_rfl) (fun g6 q6 hn6 => ?_)
  unfold setSlot
  go_big_quiet_step (fail)
  refine wpQuiet_nil ?_
  have n6_5 := ne_of_put hn6
  replace hn6 := none_of_put hn6
  clear hn6
  refine lex_store_all g5 _ _ _ (by rfl) (by rfl) (by rfl) ((Blocks.put_other _ _ (Ne.symm n6_5)).trans (Blocks.put_same _ _ _)) (by rfl) (Or.inr q5) (by kernel_rfl) (by simp [Value.oneCell']) ?_
  refine lex_store_all g6 _ _ _ (by rfl) (by rfl) (by rfl) ((Blocks.put_other _ _ n6_5).trans (Blocks.put_same _ _ _)) (by rfl) (Or.inr q6) (by kernel_rfl) (by simp [Value.oneCell']) ?_
  refine lex_nil ?_
  intro w1 hx hH
  have m5 := hH g5 _ ((Blocks.put_other _ _ (Ne.symm n6_5)).trans (Blocks.put_same _ _ _))
  have m6 := hH g6 _ (Blocks.put_same _ _ _)
  have HB1 := Lib.hid (HB0.out.trans (hx.below_of (b := w.heap.size) (by simp) HB0.out.size))
  replace q5 := Nat.le_trans HB0.out.size q5
  replace q6 := Nat.le_trans HB0.out.size q6
  clear hx hH HB0 FA FB
  go_wp2_with fail
  refine wp_game [0, 0, 0, 0, 0, 0] [] B0 fin_B0 (has_B0 _) (by kernel_rfl) (by kernel_rfl) ?_
  refine lex_quietE 6 (by kernel_rfl) (by rfl) ?_
  apply Exists.intro
  refine ⟨fun x hx => ?_, ?_⟩
  · have hwx := HB1.out.trans (hx.below_of (b := w.heap.size) (by simp) HB1.out.size)
    have e5_0 := blk_cellp (hx.keep m5 (by simp)) 0 rfl
    have e6_0 := blk_cellp (hx.keep m6 (by simp)) 0 rfl
    clear hx
    simp only [List.take_succ_cons, List.take_zero]
    unfold Cx
    repeat (go_big_quiet_step (first | with_reducible exact KT1.at _ _ | with_reducible exact KT2.at _ _))
    exact wpQuiet_nil rfl
  simp only [List.drop_succ_cons, List.drop_zero]
  refine lex_nil ?_
  intro w2 hx hH
  replace m5 := hx.keep m5 (by simp)
  replace m6 := hx.keep m6 (by simp)
  have HB2 := Lib.hid (HB1.out.trans (hx.below_of (b := w.heap.size) (by simp) HB1.out.size))
  clear hx hH HB1 KT1 KT2
  go_wp2_with (with_reducible refine wpList_from 31 [0, 0, 0, 0, 3, 2, 0] [] B0 (has_B0 _) ?_)
  refine lex_quietE 4 (by kernel_rfl) (by rfl) ?_
  apply Exists.intro
  refine ⟨fun x hx => ?_, ?_⟩
  · have hwx := HB2.out.trans (hx.below_of (b := w.heap.size) (by simp) HB2.out.size)
    clear hx
    simp only [List.take_succ_cons, List.take_zero]
    unfold Cx
    repeat (go_big_quiet_step (first | with_reducible exact KR.at _ _))
    exact wpQuiet_nil rfl
  simp only [List.drop_succ_cons, List.drop_zero]
  refine lex_alloc (.agg #[.string ByteArray.empty]) (by rfl) (fun x => by kernel_rfl) (fun g9 q9 hn9 => ?_)
  unfold setSlot
  go_big_quiet_step (fail)
  refine wpQuiet_nil ?_
  clear hn9
  refine lex_store_all g9 _ _ _ (by rfl) (by rfl) (by rfl) (Blocks.put_same _ _ _) (by rfl) (Or.inr q9) (by kernel_rfl) (by simp [Value.oneCell']) ?_
  refine lex_quietE 1 (by kernel_rfl) (by rfl) ?_
  apply Exists.intro
  refine ⟨fun x hx => ?_, ?_⟩
  · have hwx := HB2.out.trans (hx.below_of (b := w.heap.size) (by simp) HB2.out.size)
    clear hx
    simp only [List.take_succ_cons, List.take_zero]
    unfold Cx
    repeat (go_big_quiet_step (first | with_reducible exact KR.at _ _))
    exact wpQuiet_nil rfl
  simp only [List.drop_succ_cons, List.drop_zero]
  refine lex_nil ?_
  intro w3 hx hH
  have m9 := hH g9 _ (Blocks.put_same _ _ _)
  replace m5 := hx.keep m5 (by simp)
  replace m6 := hx.keep m6 (by simp)
  have HB3 := Lib.hid (HB2.out.trans (hx.below_of (b := w.heap.size) (by simp) HB2.out.size))
  replace q9 := Nat.le_trans HB2.out.size q9
  clear hx hH HB2 KR
  go_wp2_with (with_reducible refine wpList_from 37 [0, 0, 0, 0] [] B0 (has_B0 _) ?_)
  refine lex_quietE 4 (by kernel_rfl) (by rfl) ?_
  apply Exists.intro
  refine ⟨fun x hx => ?_, ?_⟩
  · have hwx := HB3.out.trans (hx.below_of (b := w.heap.size) (by simp) HB3.out.size)
    have e9_0 := blk_cellp (hx.keep m9 (by simp)) 0 rfl
    have e5_0 := blk_cellp (hx.keep m5 (by simp)) 0 rfl
    clear hx
    simp only [List.take_succ_cons, List.take_zero]
    unfold Cx
    repeat (go_big_quiet_step (fail))
    exact wpQuiet_nil rfl
  simp only [List.drop_succ_cons, List.drop_zero]
  refine lex_nil ?_
  intro w4 hx hH
  replace m5 := hx.keep m5 (by simp)
  replace m6 := hx.keep m6 (by simp)
  have HB4 := Lib.hid (HB3.out.trans (hx.below_of (b := w.heap.size) (by simp) HB3.out.size))
  clear hx hH HB3 m9 q9
  go_wp2_with fail
  refine wp_game [0, 0, 0, 0, 0, 0, 0, 0, 0, 0, 0, 0, 0, 0, 0, 0, 0, 0, 0, 0, 0, 0, 0, 0, 0, 0] [] B0 fin_B0 (has_B0 _) (by kernel_rfl) (by kernel_rfl) ?_
  refine lex_quietE 26 (by kernel_rfl) (by rfl) ?_
  apply Exists.intro
  refine ⟨fun x hx => ?_, ?_⟩
  · have hwx := HB4.out.trans (hx.below_of (b := w.heap.size) (by simp) HB4.out.size)
    have e5_0 := blk_cellp (hx.keep m5 (by simp)) 0 rfl
    have e6_0 := blk_cellp (hx.keep m6 (by simp)) 0 rfl
    clear hx
    simp only [List.take_succ_cons, List.take_zero]
    unfold Cx
    repeat (go_big_quiet_step (first | with_reducible exact KC1.at _ _ | with_reducible exact KC2.at _ _))
    exact wpQuiet_nil rfl
  simp only [List.drop_succ_cons, List.drop_zero]
  refine lex_nil ?_
  intro w5 hx hH
  replace m5 := hx.keep m5 (by simp)
  replace m6 := hx.keep m6 (by simp)
  have HB5 := Lib.hid (HB4.out.trans (hx.below_of (b := w.heap.size) (by simp) HB4.out.size))
  clear hx hH HB4 KC1 KC2
  go_wp2_with fail
  refine wp_game [0, 0, 0] [] B0 fin_B0 (has_B0 _) (by kernel_rfl) (by kernel_rfl) ?_
  refine lex_quietE 3 (by kernel_rfl) (by rfl) ?_
  apply Exists.intro
  refine ⟨fun x hx => ?_, ?_⟩
  · have hwx := HB5.out.trans (hx.below_of (b := w.heap.size) (by simp) HB5.out.size)
    have e5_0 := blk_cellp (hx.keep m5 (by simp)) 0 rfl
    clear hx
    simp only [List.take_succ_cons, List.take_zero]
    unfold Cx
    repeat (go_big_quiet_step (first | with_reducible exact KZ.at _ _))
    exact wpQuiet_nil rfl
  simp only [List.drop_succ_cons, List.drop_zero]
  refine lex_nil ?_
  intro w6 hx hH
  replace m5 := hx.keep m5 (by simp)
  replace m6 := hx.keep m6 (by simp)
  have HB6 := Lib.hid (HB5.out.trans (hx.below_of (b := w.heap.size) (by simp) HB5.out.size))
  clear hx hH HB5 KZ
  have HSUM := HSUM.out
  go_wp2_with fail
  refine wp_game [0, 0, 0, 0, 0, 0, 0, 0, 0, 0, 0, 0, 0, 0, 0, 0, 0, 0, 0] [] B0 fin_B0 (has_B0 _) (by kernel_rfl) (by kernel_rfl) ?_
  refine lex_quietE 19 (by kernel_rfl) (by rfl) ?_
  apply Exists.intro
  refine ⟨fun x hx => ?_, ?_⟩
  · have hwx := HB6.out.trans (hx.below_of (b := w.heap.size) (by simp) HB6.out.size)
    have e5_0 := blk_cellp (hx.keep m5 (by simp)) 0 rfl
    clear hx
    simp only [List.take_succ_cons, List.take_zero]
    unfold Cx
    repeat (go_big_quiet_step (first | with_reducible exact KL.at _ _ | with_reducible exact KP1.at _ _ | with_reducible exact KP2.at _ _ | with_reducible exact KC3.at _ _ | with_reducible exact KC4.at _ _ | with_reducible exact KW.at _ _))
    exact wpQuiet_nil rfl
  simp only [List.drop_succ_cons, List.drop_zero]
  refine lex_nil ?_
  intro w7 hx hH
  have HB7 := Lib.hid (HB6.out.trans (hx.below_of (b := w.heap.size) (by simp) HB6.out.size))
  clear hx hH HB6 m5 m6 q5 q6 KL KP1 KP2 KC3 KC4 KW
  go_wp2_with fail
  exact bodyPost_ret (v := .bool true) (by simp [results, Try.results8, go_sem]) rfl ⟨rfl, HB7.out⟩

set_option maxHeartbeats 1600000 in
set_option maxRecDepth 100000 in
theorem texts_gt1_n (ax ay : Option Addr) (nx cx ny cy : Nat) (w : World) (h1 : nx ≤ 24) (h2 : ny ≤ 24) (sA sB sS sT s0 sP sP2 : ByteArray) (L n : Nat) (c3 : Int)
    (FA : GivesFrom w 31 #[.slice ax nx cx] (.agg #[.string sA])) (FB : GivesFrom w 31 #[.slice ay ny cy] (.agg #[.string sB]))
    (KT1 : Gives 34 #[.agg #[.string sA]] (.string sS)) (KT2 : Gives 34 #[.agg #[.string sB]] (.string sT))
    (KR : Gives 21 #[.string sS] (.tuple #[.agg #[.string sA], .bool true])) (KC1 : Gives 33 #[.agg #[.string sA], .agg #[.string sB]] (.int .i64 (1))) (KC2 : Gives 33 #[.agg #[.string sB], .agg #[.string sA]] (.int .i64 (-1)))
    (KZ : Gives 23 #[.int .u64 0] (.agg #[.string s0])) (KL : Gives 26 #[.agg #[.string sA]] (.int .i64 (L : Nat))) (KW : Gives 12 #[] (.bool true))
    (KP1 : Gives 29 #[.int .i64 (n : Nat)] (.agg #[.string sP])) (KP2 : Gives 29 #[.int .i64 (L : Nat)] (.agg #[.string sP2])) (KC3 : Gives 33 #[.agg #[.string sP], .agg #[.string sA]] (.int .i64 c3)) (KC4 : Gives 33 #[.agg #[.string sA], .agg #[.string sP2]] (.int .i64 (-1)))
    (hne : ¬ sA.toList = sB.toList) (hne2 : ¬ sB.toList = sA.toList) (hlen : sT.size < sS.size) (hnz : ¬ sA.toList = s0.toList) (HSUM : IntKind.i64.wrap ((L : Int) - 1) = (n : Nat)) (hc3 : c3 ≤ 0) :
    Calls Try.prog 8 #[.slice ax nx cx, .slice ay ny cy] w fun e w' => e = .returned (.bool true) ∧ Below w.heap.size w w' := by
  have HSUM := Lib.hid HSUM
  have hc3b : decide (c3 ≤ 0) = true := by simpa using hc3
  have hlen2 : ((sS.size : Int) == (sT.size : Int)) = false := by simp; omega
  have hlen3 : ¬ sS.size < sT.size := by omega
  have HB0 := Lib.hid (Below.refl w.heap.size w)
  go_enter Try.func8, Try.ntmps8
  go_wp2_with (with_reducible refine wpList_from 22 [0, 0, 0, 3, 3, 2, 2] [] B0 (has_B0 _) ?_)
  refine lex_quietE 3 (by kernel_rfl) (by rfl) ?_
  apply Exists.intro
  refine ⟨fun x hx => ?_, ?_⟩
  · have hwx := HB0.out.trans (hx.below_of (b := w.heap.size) (by simp) HB0.out.size)
    clear hx
    simp only [List.take_succ_cons, List.take_zero]
    unfold Cx
    repeat (go_big_quiet_step (first | with_reducible exact FA.at2 hwx _ | with_reducible exact FB.at2 hwx _))
    exact wpQuiet_nil rfl
  simp only [List.drop_succ_cons, List.drop_zero]
  refine lex_alloc (.agg #[.string ByteArray.empty]) (by rfl) (fun x => by kernel_rfl) (fun g5 q5 hn5 => ?_)
  unfold setSlot
  go_big_quiet_step (fail)
  refine wpQuiet_nil ?_
  clear hn5
  refine lex_alloc (.agg #[.string ByteArray.empty]) (by rfl) (fun x => by kernel_rfl) (fun g6 q6 hn6 => ?_)
  unfold setSlot
  go_big_quiet_step (fail)
  refine wpQuiet_nil ?_
  have n6_5 := ne_of_put hn6
  replace hn6 := none_of_put hn6
  clear hn6
  refine lex_store_all g5 _ _ _ (by rfl) (by rfl) (by rfl) ((Blocks.put_other _ _ (Ne.symm n6_5)).trans (Blocks.put_same _ _ _)) (by rfl) (Or.inr q5) (by kernel_rfl) (by simp [Value.oneCell']) ?_
  refine lex_store_all g6 _ _ _ (by rfl) (by rfl) (by rfl) ((Blocks.put_other _ _ n6_5).trans (Blocks.put_same _ _ _)) (by rfl) (Or.inr q6) (by kernel_rfl) (by simp [Value.oneCell']) ?_
  refine lex_nil ?_
  intro w1 hx hH
  have m5 := hH g5 _ ((Blocks.put_other _ _ (Ne.symm n6_5)).trans (Blocks.put_same _ _ _))
  have m6 := hH g6 _ (Blocks.put_same _ _ _)
  have HB1 := Lib.hid (HB0.out.trans (hx.below_of (b := w.heap.size) (by simp) HB0.out.size))
  replace q5 := Nat.le_trans HB0.out.size q5
  replace q6 := Nat.le_trans HB0.out.size q6
  clear hx hH HB0 FA FB
  go_wp2_with fail
  refine wp_game [0, 0, 0, 0, 0, 0] [] B0 fin_B0 (has_B0 _) (by kernel_rfl) (by kernel_rfl) ?_
  refine lex_quietE 6 (by kernel_rfl) (by rfl) ?_
  apply Exists.intro
  refine ⟨fun x hx => ?_, ?_⟩
  · have hwx := HB1.out.trans (hx.below_of (b := w.heap.size) (by simp) HB1.out.size)
    have e5_0 := blk_cellp (hx.keep m5 (by simp)) 0 rfl
    have e6_0 := blk_cellp (hx.keep m6 (by simp)) 0 rfl
    clear hx
    simp only [List.take_succ_cons, List.take_zero]
    unfold Cx
    repeat (go_big_quiet_step (first | with_reducible exact KT1.at _ _ | with_reducible exact KT2.at _ _))
    exact wpQuiet_nil rfl
  simp only [List.drop_succ_cons, List.drop_zero]
  refine lex_nil ?_
  intro w2 hx hH
  replace m5 := hx.keep m5 (by simp)
  replace m6 := hx.keep m6 (by simp)
  have HB2 := Lib.hid (HB1.out.trans (hx.below_of (b := w.heap.size) (by simp) HB1.out.size))
  clear hx hH HB1 KT1 KT2
  go_wp2_with (with_reducible refine wpList_from 31 [0, 0, 0, 0, 3, 2, 0] [] B0 (has_B0 _) ?_)
  refine lex_quietE 4 (by kernel_rfl) (by rfl) ?_
  apply Exists.intro
  refine ⟨fun x hx => ?_, ?_⟩
  · have hwx := HB2.out.trans (hx.below_of (b := w.heap.size) (by simp) HB2.out.size)
    clear hx
    simp only [List.take_succ_cons, List.take_zero]
    unfold Cx
    repeat (go_big_quiet_step (first | with_reducible exact KR.at _ _))
    exact wpQuiet_nil rfl
  simp only [List.drop_succ_cons, List.drop_zero]
  refine lex_alloc (.agg #[.string ByteArray.empty]) (by rfl) (fun x => by kernel_rfl) (fun g9 q9 hn9 => ?_)
  unfold setSlot
  go_big_quiet_step (fail)
  refine wpQuiet_nil ?_
  clear hn9
  refine lex_store_all g9 _ _ _ (by rfl) (by rfl) (by rfl) (Blocks.put_same _ _ _) (by rfl) (Or.inr q9) (by kernel_rfl) (by simp [Value.oneCell']) ?_
  refine lex_quietE 1 (by kernel_rfl) (by rfl) ?_
  apply Exists.intro
  refine ⟨fun x hx => ?_, ?_⟩
  · have hwx := HB2.out.trans (hx.below_of (b := w.heap.size) (by simp) HB2.out.size)
    clear hx
    simp only [List.take_succ_cons, List.take_zero]
    unfold Cx
    repeat (go_big_quiet_step (first | with_reducible exact KR.at _ _))
    exact wpQuiet_nil rfl
  simp only [List.drop_succ_cons, List.drop_zero]
  refine lex_nil ?_
  intro w3 hx hH
  have m9 := hH g9 _ (Blocks.put_same _ _ _)
  replace m5 := hx.keep m5 (by simp)
  replace m6 := hx.keep m6 (by simp)
  have HB3 := Lib.hid (HB2.out.trans (hx.below_of (b := w.heap.size) (by simp) HB2.out.size))
  replace q9 := Nat.le_trans HB2.out.size q9
  clear hx hH HB2 KR
  go_wp2_with (with_reducible refine wpList_from 37 [0, 0, 0, 0] [] B0 (has_B0 _) ?_)
  refine lex_quietE 4 (by kernel_rfl) (by rfl) ?_
  apply Exists.intro
  refine ⟨fun x hx => ?_, ?_⟩
  · have hwx := HB3.out.trans (hx.below_of (b := w.heap.size) (by simp) HB3.out.size)
    have e9_0 := blk_cellp (hx.keep m9 (by simp)) 0 rfl
    have e5_0 := blk_cellp (hx.keep m5 (by simp)) 0 rfl
    clear hx
    simp only [List.take_succ_cons, List.take_zero]
    unfold Cx
    repeat (go_big_quiet_step (fail))
    exact wpQuiet_nil rfl
  simp only [List.drop_succ_cons, List.drop_zero]
  refine lex_nil ?_
  intro w4 hx hH
  replace m5 := hx.keep m5 (by simp)
  replace m6 := hx.keep m6 (by simp)
  have HB4 := Lib.hid (HB3.out.trans (hx.below_of (b := w.heap.size) (by simp) HB3.out.size))
  clear hx hH HB3 m9 q9
  go_wp2_with fail
  refine wp_game [0, 0, 0, 0, 0, 0, 0, 0, 0, 0, 0, 0, 0, 0, 0, 0, 0, 0, 0, 0, 0, 0, 0, 0, 0, 0] [] B0 fin_B0 (has_B0 _) (by kernel_rfl) (by kernel_rfl) ?_
  refine lex_quietE 26 (by kernel_rfl) (by rfl) ?_
  apply Exists.intro
  refine ⟨fun x hx => ?_, ?_⟩
  · have hwx := HB4.out.trans (hx.below_of (b := w.heap.size) (by simp) HB4.out.size)
    have e5_0 := blk_cellp (hx.keep m5 (by simp)) 0 rfl
    have e6_0 := blk_cellp (hx.keep m6 (by simp)) 0 rfl
    clear hx
    simp only [List.take_succ_cons, List.take_zero]
    unfold Cx
    repeat (go_big_quiet_step (first | with_reducible exact KC1.at _ _ | with_reducible exact KC2.at _ _))
    exact wpQuiet_nil rfl
  simp only [List.drop_succ_cons, List.drop_zero]
  refine lex_nil ?_
  intro w5 hx hH
  replace m5 := hx.keep m5 (by simp)
  replace m6 := hx.keep m6 (by simp)
  have HB5 := Lib.hid (HB4.out.trans (hx.below_of (b := w.heap.size) (by simp) HB4.out.size))
  clear hx hH HB4 KC1 KC2
  go_wp2_with fail
  refine wp_game [0, 0, 0] [] B0 fin_B0 (has_B0 _) (by kernel_rfl) (by kernel_rfl) ?_
  refine lex_quietE 3 (by kernel_rfl) (by rfl) ?_
  apply Exists.intro
  refine ⟨fun x hx => ?_, ?_⟩
  · have hwx := HB5.out.trans (hx.below_of (b := w.heap.size) (by simp) HB5.out.size)
    have e5_0 := blk_cellp (hx.keep m5 (by simp)) 0 rfl
    clear hx
    simp only [List.take_succ_cons, List.take_zero]
    unfold Cx
    repeat (go_big_quiet_step (first | with_reducible exact KZ.at _ _))
    exact wpQuiet_nil rfl
  simp only [List.drop_succ_cons, List.drop_zero]
  refine lex_nil ?_
  intro w6 hx hH
  replace m5 := hx.keep m5 (by simp)
  replace m6 := hx.keep m6 (by simp)
  have HB6 := Lib.hid (HB5.out.trans (hx.below_of (b := w.heap.size) (by simp) HB5.out.size))
  clear hx hH HB5 KZ
  have HSUM := HSUM.out
  go_wp2_with fail
  refine wp_game [0, 0, 0, 0, 0, 0, 0, 0, 0, 0, 0, 0, 0, 0, 0, 0, 0, 0, 0] [] B0 fin_B0 (has_B0 _) (by kernel_rfl) (by kernel_rfl) ?_
  refine lex_quietE 19 (by kernel_rfl) (by rfl) ?_
  apply Exists.intro
  refine ⟨fun x hx => ?_, ?_⟩
  · have hwx := HB6.out.trans (hx.below_of (b := w.heap.size) (by simp) HB6.out.size)
    have e5_0 := blk_cellp (hx.keep m5 (by simp)) 0 rfl
    clear hx
    simp only [List.take_succ_cons, List.take_zero]
    unfold Cx
    repeat (go_big_quiet_step (first | with_reducible exact KL.at _ _ | with_reducible exact KP1.at _ _ | with_reducible exact KP2.at _ _ | with_reducible exact KC3.at _ _ | with_reducible exact KC4.at _ _ | with_reducible exact KW.at _ _))
    exact wpQuiet_nil rfl
  simp only [List.drop_succ_cons, List.drop_zero]
  refine lex_nil ?_
  intro w7 hx hH
  have HB7 := Lib.hid (HB6.out.trans (hx.below_of (b := w.heap.size) (by simp) HB6.out.size))
  clear hx hH HB6 m5 m6 q5 q6 KL KP1 KP2 KC3 KC4 KW
  go_wp2_with fail
  exact bodyPost_ret (v := .bool true) (by simp [results, Try.results8, go_sem]) rfl ⟨rfl, HB7.out⟩

set_option maxHeartbeats 1600000 in
set_option maxRecDepth 100000 in
theorem texts_gt2_n (ax ay : Option Addr) (nx cx ny cy : Nat) (w : World) (h1 : nx ≤ 24) (h2 : ny ≤ 24) (sA sB sS sT s0 sP sP2 : ByteArray) (L n : Nat) (c3 : Int)
    (FA : GivesFrom w 31 #[.slice ax nx cx] (.agg #[.string sA])) (FB : GivesFrom w 31 #[.slice ay ny cy] (.agg #[.string sB]))
    (KT1 : Gives 34 #[.agg #[.string sA]] (.string sS)) (KT2 : Gives 34 #[.agg #[.string sB]] (.string sT))
    (KR : Gives 21 #[.string sS] (.tuple #[.agg #[.string sA], .bool true])) (KC1 : Gives 33 #[.agg #[.string sA], .agg #[.string sB]] (.int .i64 (1))) (KC2 : Gives 33 #[.agg #[.string sB], .agg #[.string sA]] (.int .i64 (-1)))
    (KZ : Gives 23 #[.int .u64 0] (.agg #[.string s0])) (KL : Gives 26 #[.agg #[.string sA]] (.int .i64 (L : Nat))) (KW : Gives 12 #[] (.bool true))
    (KP1 : Gives 29 #[.int .i64 (n : Nat)] (.agg #[.string sP])) (KP2 : Gives 29 #[.int .i64 (L : Nat)] (.agg #[.string sP2])) (KC3 : Gives 33 #[.agg #[.string sP], .agg #[.string sA]] (.int .i64 c3)) (KC4 : Gives 33 #[.agg #[.string sA], .agg #[.string sP2]] (.int .i64 (-1)))
    (hne : ¬ sA.toList = sB.toList) (hne2 : ¬ sB.toList = sA.toList) (hlen : sT.size = sS.size) (hbl : Op.bytesLess sS.toList sT.toList = false) (hnz : ¬ sA.toList = s0.toList) (HSUM : IntKind.i64.wrap ((L : Int) - 1) = (n : Nat)) (hc3 : c3 ≤ 0) :
    Calls Try.prog 8 #[.slice ax nx cx, .slice ay ny cy] w fun e w' => e = .returned (.bool true) ∧ Below w.heap.size w w' := by
  have HSUM := Lib.hid HSUM
  have hc3b : decide (c3 ≤ 0) = true := by simpa using hc3
  have hlen2 : ((sS.size : Int) == (sT.size : Int)) = true := by simp [hlen]
  have hlen3 : ¬ sS.size < sT.size := by omega
  clear hlen
  have HB0 := Lib.hid (Below.refl w.heap.size w)
  go_enter Try.func8, Try.ntmps8
  go_wp2_with (with_reducible refine wpList_from 22 [0, 0, 0, 3, 3, 2, 2] [] B0 (has_B0 _) ?_)
  refine lex_quietE 3 (by kernel_rfl) (by rfl) ?_
  apply Exists.intro
  refine ⟨fun x hx => ?_, ?_⟩
  · have hwx := HB0.out.trans (hx.below_of (b := w.heap.size) (by simp) HB0.out.size)
    clear hx
    simp only [List.take_succ_cons, List.take_zero]
    unfold Cx
    repeat (go_big_quiet_step (first | with_reducible exact FA.at2 hwx _ | with_reducible exact FB.at2 hwx _))
    exact wpQuiet_nil rfl
  simp only [List.drop_succ_cons, List.drop_zero]
  refine lex_alloc (.agg #[.string ByteArray.empty]) (by rfl) (fun x => by kernel_rfl) (fun g5 q5 hn5 => ?_)
  unfold setSlot
  go_big_quiet_step (fail)
  refine wpQuiet_nil ?_
  clear hn5
  refine lex_alloc (.agg #[.string ByteArray.empty]) (by rfl) (fun x => by kernel_rfl) (fun g6 q6 hn6 => ?_)
  unfold setSlot
  go_big_quiet_step (fail)
  refine wpQuiet_nil ?_
  have n6_5 := ne_of_put hn6
  replace hn6 := none_of_put hn6
  clear hn6
  refine lex_store_all g5 _ _ _ (by rfl) (by rfl) (by rfl) ((Blocks.put_other _ _ (Ne.symm n6_5)).trans (Blocks.put_same _ _ _)) (by rfl) (Or.inr q5) (by kernel_rfl) (by simp [Value.oneCell']) ?_
  refine lex_store_all g6 _ _ _ (by rfl) (by rfl) (by rfl) ((Blocks.put_other _ _ n6_5).trans (Blocks.put_same _ _ _)) (by rfl) (Or.inr q6) (by kernel_rfl) (by simp [Value.oneCell']) ?_
  refine lex_nil ?_
  intro w1 hx hH
  have m5 := hH g5 _ ((Blocks.put_other _ _ (Ne.symm n6_5)).trans (Blocks.put_same _ _ _))
  have m6 := hH g6 _ (Blocks.put_same _ _ _)
  have HB1 := Lib.hid (HB0.out.trans (hx.below_of (b := w.heap.size) (by simp) HB0.out.size))
  replace q5 := Nat.le_trans HB0.out.size q5
  replace q6 := Nat.le_trans HB0.out.size q6
  clear hx hH HB0 FA FB
  go_wp2_with fail
  refine wp_game [0, 0, 0, 0, 0, 0] [] B0 fin_B0 (has_B0 _) (by kernel_rfl) (by kernel_rfl) ?_
  refine lex_quietE 6 (by kernel_rfl) (by rfl) ?_
  apply Exists.intro
  refine ⟨fun x hx => ?_, ?_⟩
  · have hwx := HB1.out.trans (hx.below_of (b := w.heap.size) (by simp) HB1.out.size)
    have e5_0 := blk_cellp (hx.keep m5 (by simp)) 0 rfl
    have e6_0 := blk_cellp (hx.keep m6 (by simp)) 0 rfl
    clear hx
    simp only [List.take_succ_cons, List.take_zero]
    unfold Cx
    repeat (go_big_quiet_step (first | with_reducible exact KT1.at _ _ | with_reducible exact KT2.at _ _))
    exact wpQuiet_nil rfl
  simp only [List.drop_succ_cons, List.drop_zero]
  refine lex_nil ?_
  intro w2 hx hH
  replace m5 := hx.keep m5 (by simp)
  replace m6 := hx.keep m6 (by simp)
  have HB2 := Lib.hid (HB1.out.trans (hx.below_of (b := w.heap.size) (by simp) HB1.out.size))
  clear hx hH HB1 KT1 KT2
  go_wp2_with (with_reducible refine wpList_from 31 [0, 0, 0, 0, 3, 2, 0] [] B0 (has_B0 _) ?_)
  refine lex_quietE 4 (by kernel_rfl) (by rfl) ?_
  apply Exists.intro
  refine ⟨fun x hx => ?_, ?_⟩
  · have hwx := HB2.out.trans (hx.below_of (b := w.heap.size) (by simp) HB2.out.size)
    clear hx
    simp only [List.take_succ_cons, List.take_zero]
    unfold Cx
    repeat (go_big_quiet_step (first | with_reducible exact KR.at _ _))
    exact wpQuiet_nil rfl
  simp only [List.drop_succ_cons, List.drop_zero]
  refine lex_alloc (.agg #[.string ByteArray.empty]) (by rfl) (fun x => by kernel_rfl) (fun g9 q9 hn9 => ?_)
  unfold setSlot
  go_big_quiet_step (fail)
  refine wpQuiet_nil ?_
  clear hn9
  refine lex_store_all g9 _ _ _ (by rfl) (by rfl) (by rfl) (Blocks.put_same _ _ _) (by rfl) (Or.inr q9) (by kernel_rfl) (by simp [Value.oneCell']) ?_
  refine lex_quietE 1 (by kernel_rfl) (by rfl) ?_
  apply Exists.intro
  refine ⟨fun x hx => ?_, ?_⟩
  · have hwx := HB2.out.trans (hx.below_of (b := w.heap.size) (by simp) HB2.out.size)
    clear hx
    simp only [List.take_succ_cons, List.take_zero]
    unfold Cx
    repeat (go_big_quiet_step (first | with_reducible exact KR.at _ _))
    exact wpQuiet_nil rfl
  simp only [List.drop_succ_cons, List.drop_zero]
  refine lex_nil ?_
  intro w3 hx hH
  have m9 := hH g9 _ (Blocks.put_same _ _ _)
  replace m5 := hx.keep m5 (by simp)
  replace m6 := hx.keep m6 (by simp)
  have HB3 := Lib.hid (HB2.out.trans (hx.below_of (b := w.heap.size) (by simp) HB2.out.size))
  replace q9 := Nat.le_trans HB2.out.size q9
  clear hx hH HB2 KR
  go_wp2_with (with_reducible refine wpList_from 37 [0, 0, 0, 0] [] B0 (has_B0 _) ?_)
  refine lex_quietE 4 (by kernel_rfl) (by rfl) ?_
  apply Exists.intro
  refine ⟨fun x hx => ?_, ?_⟩
  · have hwx := HB3.out.trans (hx.below_of (b := w.heap.size) (by simp) HB3.out.size)
    have e9_0 := blk_cellp (hx.keep m9 (by simp)) 0 rfl
    have e5_0 := blk_cellp (hx.keep m5 (by simp)) 0 rfl
    clear hx
    simp only [List.take_succ_cons, List.take_zero]
    unfold Cx
    repeat (go_big_quiet_step (fail))
    exact wpQuiet_nil rfl
  simp only [List.drop_succ_cons, List.drop_zero]
  refine lex_nil ?_
  intro w4 hx hH
  replace m5 := hx.keep m5 (by simp)
  replace m6 := hx.keep m6 (by simp)
  have HB4 := Lib.hid (HB3.out.trans (hx.below_of (b := w.heap.size) (by simp) HB3.out.size))
  clear hx hH HB3 m9 q9
  go_wp2_with fail
  refine wp_game [0, 0, 0, 0, 0, 0, 0, 0, 0, 0, 0, 0, 0, 0, 0, 0, 0, 0, 0, 0, 0, 0, 0, 0, 0, 0] [] B0 fin_B0 (has_B0 _) (by kernel_rfl) (by kernel_rfl) ?_
  refine lex_quietE 26 (by kernel_rfl) (by rfl) ?_
  apply Exists.intro
  refine ⟨fun x hx => ?_, ?_⟩
  · have hwx := HB4.out.trans (hx.below_of (b := w.heap.size) (by simp) HB4.out.size)
    have e5_0 := blk_cellp (hx.keep m5 (by simp)) 0 rfl
    have e6_0 := blk_cellp (hx.keep m6 (by simp)) 0 rfl
    clear hx
    simp only [List.take_succ_cons, List.take_zero]
    unfold Cx
    repeat (go_big_quiet_step (first | with_reducible exact KC1.at _ _ | with_reducible exact KC2.at _ _))
    exact wpQuiet_nil rfl
  simp only [List.drop_succ_cons, List.drop_zero]
  refine lex_nil ?_
  intro w5 hx hH
  replace m5 := hx.keep m5 (by simp)
  replace m6 := hx.keep m6 (by simp)
  have HB5 := Lib.hid (HB4.out.trans (hx.below_of (b := w.heap.size) (by simp) HB4.out.size))
  clear hx hH HB4 KC1 KC2
  go_wp2_with fail
  refine wp_game [0, 0, 0] [] B0 fin_B0 (has_B0 _) (by kernel_rfl) (by kernel_rfl) ?_
  refine lex_quietE 3 (by kernel_rfl) (by rfl) ?_
  apply Exists.intro
  refine ⟨fun x hx => ?_, ?_⟩
  · have hwx := HB5.out.trans (hx.below_of (b := w.heap.size) (by simp) HB5.out.size)
    have e5_0 := blk_cellp (hx.keep m5 (by simp)) 0 rfl
    clear hx
    simp only [List.take_succ_cons, List.take_zero]
    unfold Cx
    repeat (go_big_quiet_step (first | with_reducible exact KZ.at _ _))
    exact wpQuiet_nil rfl
  simp only [List.drop_succ_cons, List.drop_zero]
  refine lex_nil ?_
  intro w6 hx hH
  replace m5 := hx.keep m5 (by simp)
  replace m6 := hx.keep m6 (by simp)
  have HB6 := Lib.hid (HB5.out.trans (hx.below_of (b := w.heap.size) (by simp) HB5.out.size))
  clear hx hH HB5 KZ
  have HSUM := HSUM.out
  go_wp2_with fail
  refine wp_game [0, 0, 0, 0, 0, 0, 0, 0, 0, 0, 0, 0, 0, 0, 0, 0, 0, 0, 0] [] B0 fin_B0 (has_B0 _) (by kernel_rfl) (by kernel_rfl) ?_
  refine lex_quietE 19 (by kernel_rfl) (by rfl) ?_
  apply Exists.intro
  refine ⟨fun x hx => ?_, ?_⟩
  · have hwx := HB6.out.trans (hx.below_of (b := w.heap.size) (by simp) HB6.out.size)
    have e5_0 := blk_cellp (hx.keep m5 (by simp)) 0 rfl
    clear hx
    simp only [List.take_succ_cons, List.take_zero]
    unfold Cx
    repeat (go_big_quiet_step (first | with_reducible exact KL.at _ _ | with_reducible exact KP1.at _ _ | with_reducible exact KP2.at _ _ | with_reducible exact KC3.at _ _ | with_reducible exact KC4.at _ _ | with_reducible exact KW.at _ _))
    exact wpQuiet_nil rfl
  simp only [List.drop_succ_cons, List.drop_zero]
  refine lex_nil ?_
  intro w7 hx hH
  have HB7 := Lib.hid (HB6.out.trans (hx.below_of (b := w.heap.size) (by simp) HB6.out.size))
  clear hx hH HB6 m5 m6 q5 q6 KL KP1 KP2 KC3 KC4 KW
  go_wp2_with fail
  exact bodyPost_ret (v := .bool true) (by simp [results, Try.results8, go_sem]) rfl ⟨rfl, HB7.out⟩

set_option maxHeartbeats 1600000 in
set_option maxRecDepth 100000 in
theorem texts_eq_n (ax ay : Option Addr) (nx cx ny cy : Nat) (w : World) (h1 : nx ≤ 24) (h2 : ny ≤ 24) (sA sB sS sT s0 sP sP2 : ByteArray) (L n : Nat) (c3 : Int)
    (FA : GivesFrom w 31 #[.slice ax nx cx] (.agg #[.string sA])) (FB : GivesFrom w 31 #[.slice ay ny cy] (.agg #[.string sA]))
    (KT1 : Gives 34 #[.agg #[.string sA]] (.string sS)) (KT2 : Gives 34 #[.agg #[.string sA]] (.string sS))
    (KR : Gives 21 #[.string sS] (.tuple #[.agg #[.string sA], .bool true])) (KC1 : Gives 33 #[.agg #[.string sA], .agg #[.string sA]] (.int .i64 (0))) (KC2 : Gives 33 #[.agg #[.string sA], .agg #[.string sA]] (.int .i64 (0)))
    (KZ : Gives 23 #[.int .u64 0] (.agg #[.string s0])) (KL : Gives 26 #[.agg #[.string sA]] (.int .i64 (L : Nat))) (KW : Gives 12 #[] (.bool true))
    (KP1 : Gives 29 #[.int .i64 (n : Nat)] (.agg #[.string sP])) (KP2 : Gives 29 #[.int .i64 (L : Nat)] (.agg #[.string sP2])) (KC3 : Gives 33 #[.agg #[.string sP], .agg #[.string sA]] (.int .i64 c3)) (KC4 : Gives 33 #[.agg #[.string sA], .agg #[.string sP2]] (.int .i64 (-1)))
    (hbl : Op.bytesLess sS.toList sS.toList = false) (hnz : ¬ sA.toList = s0.toList) (HSUM : IntKind.i64.wrap ((L : Int) - 1) = (n : Nat)) (hc3 : c3 ≤ 0) :
    Calls Try.prog 8 #[.slice ax nx cx, .slice ay ny cy] w fun e w' => e = .returned (.bool true) ∧ Below w.heap.size w w' := by
  have HSUM := Lib.hid HSUM
  have hc3b : decide (c3 ≤ 0) = true := by simpa using hc3
  have HB0 := Lib.hid (Below.refl w.heap.size w)
  go_enter Try.func8, Try.ntmps8
  go_wp2_with (with_reducible refine wpList_from 22 [0, 0, 0, 3, 3, 2, 2] [] B0 (has_B0 _) ?_)
  refine lex_quietE 3 (by kernel_rfl) (by rfl) ?_
  apply Exists.intro
  refine ⟨fun x hx => ?_, ?_⟩
  · have hwx := HB0.out.trans (hx.below_of (b := w.heap.size) (by simp) HB0.out.size)
    clear hx
    simp only [List.take_succ_cons, List.take_zero]
    unfold Cx
    repeat (go_big_quiet_step (first | with_reducible exact FA.at2 hwx _ | with_reducible exact FB.at2 hwx _))
    exact wpQuiet_nil rfl
  simp only [List.drop_succ_cons, List.drop_zero]
  refine lex_alloc (.agg #[.string ByteArray.empty]) (by rfl) (fun x => by kernel_rfl) (fun g5 q5 hn5 => ?_)
  unfold setSlot
  go_big_quiet_step (fail)
  refine wpQuiet_nil ?_
  clear hn5
  refine lex_alloc (.agg #[.string ByteArray.empty]) (by rfl) (fun x => by kernel_rfl) (fun g6 q6 hn6 => ?_)
  unfold setSlot
  go_big_quiet_step (fail)
  refine wpQuiet_nil ?_
  have n6_5 := ne_of_put hn6
  replace hn6 := none_of_put hn6
  clear hn6
  refine lex_store_all g5 _ _ _ (by rfl) (by rfl) (by rfl) ((Blocks.put_other _ _ (Ne.symm n6_5)).trans (Blocks.put_same _ _ _)) (by rfl) (Or.inr q5) (by kernel_rfl) (by simp [Value.oneCell']) ?_
  refine lex_store_all g6 _ _ _ (by rfl) (by rfl) (by rfl) ((Blocks.put_other _ _ n6_5).trans (Blocks.put_same _ _ _)) (by rfl) (Or.inr q6) (by kernel_rfl) (by simp [Value.oneCell']) ?_
  refine lex_nil ?_
  intro w1 hx hH
  have m5 := hH g5 _ ((Blocks.put_other _ _ (Ne.symm n6_5)).trans (Blocks.put_same _ _ _))
  have m6 := hH g6 _ (Blocks.put_same _ _ _)
  have HB1 := Lib.hid (HB0.out.trans (hx.below_of (b := w.heap.size) (by simp) HB0.out.size))
  replace q5 := Nat.le_trans HB0.out.size q5
  replace q6 := Nat.le_trans HB0.out.size q6
  clear hx hH HB0 FA FB
  go_wp2_with fail
  refine wp_game [0, 0, 0, 0, 0, 0] [] B0 fin_B0 (has_B0 _) (by kernel_rfl) (by kernel_rfl) ?_
  refine lex_quietE 6 (by kernel_rfl) (by rfl) ?_
  apply Exists.intro
  refine ⟨fun x hx => ?_, ?_⟩
  · have hwx := HB1.out.trans (hx.below_of (b := w.heap.size) (by simp) HB1.out.size)
    have e5_0 := blk_cellp (hx.keep m5 (by simp)) 0 rfl
    have e6_0 := blk_cellp (hx.keep m6 (by simp)) 0 rfl
    clear hx
    simp only [List.take_succ_cons, List.take_zero]
    unfold Cx
    repeat (go_big_quiet_step (first | with_reducible exact KT1.at _ _ | with_reducible exact KT2.at _ _))
    exact wpQuiet_nil rfl
  simp only [List.drop_succ_cons, List.drop_zero]
  refine lex_nil ?_
  intro w2 hx hH
  replace m5 := hx.keep m5 (by simp)
  replace m6 := hx.keep m6 (by simp)
  have HB2 := Lib.hid (HB1.out.trans (hx.below_of (b := w.heap.size) (by simp) HB1.out.size))
  clear hx hH HB1 KT1 KT2
  go_wp2_with (with_reducible refine wpList_from 31 [0, 0, 0, 0, 3, 2, 0] [] B0 (has_B0 _) ?_)
  refine lex_quietE 4 (by kernel_rfl) (by rfl) ?_
  apply Exists.intro
  refine ⟨fun x hx => ?_, ?_⟩
  · have hwx := HB2.out.trans (hx.below_of (b := w.heap.size) (by simp) HB2.out.size)
    clear hx
    simp only [List.take_succ_cons, List.take_zero]
    unfold Cx
    repeat (go_big_quiet_step (first | with_reducible exact KR.at _ _))
    exact wpQuiet_nil rfl
  simp only [List.drop_succ_cons, List.drop_zero]
  refine lex_alloc (.agg #[.string ByteArray.empty]) (by rfl) (fun x => by kernel_rfl) (fun g9 q9 hn9 => ?_)
  unfold setSlot
  go_big_quiet_step (fail)
  refine wpQuiet_nil ?_
  clear hn9
  refine lex_store_all g9 _ _ _ (by rfl) (by rfl) (by rfl) (Blocks.put_same _ _ _) (by rfl) (Or.inr q9) (by kernel_rfl) (by simp [Value.oneCell']) ?_
  refine lex_quietE 1 (by kernel_rfl) (by rfl) ?_
  apply Exists.intro
  refine ⟨fun x hx => ?_, ?_⟩
  · have hwx := HB2.out.trans (hx.below_of (b := w.heap.size) (by simp) HB2.out.size)
    clear hx
    simp only [List.take_succ_cons, List.take_zero]
    unfold Cx
    repeat (go_big_quiet_step (first | with_reducible exact KR.at _ _))
    exact wpQuiet_nil rfl
  simp only [List.drop_succ_cons, List.drop_zero]
  refine lex_nil ?_
  intro w3 hx hH
  have m9 := hH g9 _ (Blocks.put_same _ _ _)
  replace m5 := hx.keep m5 (by simp)
  replace m6 := hx.keep m6 (by simp)
  have HB3 := Lib.hid (HB2.out.trans (hx.below_of (b := w.heap.size) (by simp) HB2.out.size))
  replace q9 := Nat.le_trans HB2.out.size q9
  clear hx hH HB2 KR
  go_wp2_with (with_reducible refine wpList_from 37 [0, 0, 0, 0] [] B0 (has_B0 _) ?_)
  refine lex_quietE 4 (by kernel_rfl) (by rfl) ?_
  apply Exists.intro
  refine ⟨fun x hx => ?_, ?_⟩
  · have hwx := HB3.out.trans (hx.below_of (b := w.heap.size) (by simp) HB3.out.size)
    have e9_0 := blk_cellp (hx.keep m9 (by simp)) 0 rfl
    have e5_0 := blk_cellp (hx.keep m5 (by simp)) 0 rfl
    clear hx
    simp only [List.take_succ_cons, List.take_zero]
    unfold Cx
    repeat (go_big_quiet_step (fail))
    exact wpQuiet_nil rfl
  simp only [List.drop_succ_cons, List.drop_zero]
  refine lex_nil ?_
  intro w4 hx hH
  replace m5 := hx.keep m5 (by simp)
  replace m6 := hx.keep m6 (by simp)
  have HB4 := Lib.hid (HB3.out.trans (hx.below_of (b := w.heap.size) (by simp) HB3.out.size))
  clear hx hH HB3 m9 q9
  go_wp2_with fail
  refine wp_game [0, 0, 0, 0, 0, 0, 0, 0, 0, 0, 0, 0, 0, 0, 0, 0, 0, 0, 0, 0, 0, 0, 0, 0, 0, 0] [] B0 fin_B0 (has_B0 _) (by kernel_rfl) (by kernel_rfl) ?_
  refine lex_quietE 26 (by kernel_rfl) (by rfl) ?_
  apply Exists.intro
  refine ⟨fun x hx => ?_, ?_⟩
  · have hwx := HB4.out.trans (hx.below_of (b := w.heap.size) (by simp) HB4.out.size)
    have e5_0 := blk_cellp (hx.keep m5 (by simp)) 0 rfl
    have e6_0 := blk_cellp (hx.keep m6 (by simp)) 0 rfl
    clear hx
    simp only [List.take_succ_cons, List.take_zero]
    unfold Cx
    repeat (go_big_quiet_step (first | with_reducible exact KC1.at _ _ | with_reducible exact KC2.at _ _))
    exact wpQuiet_nil rfl
  simp only [List.drop_succ_cons, List.drop_zero]
  refine lex_nil ?_
  intro w5 hx hH
  replace m5 := hx.keep m5 (by simp)
  replace m6 := hx.keep m6 (by simp)
  have HB5 := Lib.hid (HB4.out.trans (hx.below_of (b := w.heap.size) (by simp) HB4.out.size))
  clear hx hH HB4 KC1 KC2
  go_wp2_with fail
  refine wp_game [0, 0, 0] [] B0 fin_B0 (has_B0 _) (by kernel_rfl) (by kernel_rfl) ?_
  refine lex_quietE 3 (by kernel_rfl) (by rfl) ?_
  apply Exists.intro
  refine ⟨fun x hx => ?_, ?_⟩
  · have hwx := HB5.out.trans (hx.below_of (b := w.heap.size) (by simp) HB5.out.size)
    have e5_0 := blk_cellp (hx.keep m5 (by simp)) 0 rfl
    clear hx
    simp only [List.take_succ_cons, List.take_zero]
    unfold Cx
    repeat (go_big_quiet_step (first | with_reducible exact KZ.at _ _))
    exact wpQuiet_nil rfl
  simp only [List.drop_succ_cons, List.drop_zero]
  refine lex_nil ?_
  intro w6 hx hH
  replace m5 := hx.keep m5 (by simp)
  replace m6 := hx.keep m6 (by simp)
  have HB6 := Lib.hid (HB5.out.trans (hx.below_of (b := w.heap.size) (by simp) HB5.out.size))
  clear hx hH HB5 KZ
  have HSUM := HSUM.out
  go_wp2_with fail
  refine wp_game [0, 0, 0, 0, 0, 0, 0, 0, 0, 0, 0, 0, 0, 0, 0, 0, 0, 0, 0] [] B0 fin_B0 (has_B0 _) (by kernel_rfl) (by kernel_rfl) ?_
  refine lex_quietE 19 (by kernel_rfl) (by rfl) ?_
  apply Exists.intro
  refine ⟨fun x hx => ?_, ?_⟩
  · have hwx := HB6.out.trans (hx.below_of (b := w.heap.size) (by simp) HB6.out.size)
    have e5_0 := blk_cellp (hx.keep m5 (by simp)) 0 rfl
    clear hx
    simp only [List.take_succ_cons, List.take_zero]
    unfold Cx
    repeat (go_big_quiet_step (first | with_reducible exact KL.at _ _ | with_reducible exact KP1.at _ _ | with_reducible exact KP2.at _ _ | with_reducible exact KC3.at _ _ | with_reducible exact KC4.at _ _ | with_reducible exact KW.at _ _))
    exact wpQuiet_nil rfl
  simp only [List.drop_succ_cons, List.drop_zero]
  refine lex_nil ?_
  intro w7 hx hH
  have HB7 := Lib.hid (HB6.out.trans (hx.below_of (b := w.heap.size) (by simp) HB6.out.size))
  clear hx hH HB6 m5 m6 q5 q6 KL KP1 KP2 KC3 KC4 KW
  go_wp2_with fail
  exact bodyPost_ret (v := .bool true) (by simp [results, Try.results8, go_sem]) rfl ⟨rfl, HB7.out⟩

end Go.Proofs.Ytdkfeaodgfnhgaa
