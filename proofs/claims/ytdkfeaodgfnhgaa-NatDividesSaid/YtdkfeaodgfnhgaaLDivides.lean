/- NatDivides. -/
import Derived.Test.YtdkfeaodgfnhgaaLRaw
import Derived.Test.YtdkfeaodgfnhgaaGame2
namespace Go.Proofs.Ytdkfeaodgfnhgaa
open Go.RowKit Num

set_option maxHeartbeats 1600000 in
set_option maxRecDepth 100000 in
theorem natDivides_law (ax ay az : Option Addr) (xs ys zs : List Nat) (nx cx ny cy nz cz : Nat) (hnx : xs.length = nx) (hny : ys.length = ny) (hnz : zs.length = nz) (hx : AllLt W xs) (hy : AllLt W ys) (hz : AllLt W zs)
    (w : World) (hcx : CellsU w ax xs) (hcy : CellsU w ay ys) (hcz : CellsU w az zs) :
    Calls Try.prog 6 #[.slice ax nx cx, .slice ay ny cy, .slice az nz cz] w fun e w' => e = .returned (.bool true) ∧ Below w.heap.size w w' := by
  by_cases hb : nx ≤ 24 ∧ ny ≤ 24 ∧ nz ≤ 24
  · obtain ⟨h1, h2, h3⟩ := hb
    obtain ⟨A, hA⟩ : ∃ A, digs W xs = A := ⟨_, rfl⟩
    obtain ⟨B, hB⟩ : ∃ A, digs W ys = A := ⟨_, rfl⟩
    obtain ⟨C, hC⟩ : ∃ A, digs W zs = A := ⟨_, rfl⟩
    obtain ⟨bA, KA⟩ := gFrom (c := cx) w hnx hx hA h1 (by omega) hcx
    obtain ⟨bB, KB⟩ := gFrom (c := cy) w hny hy hB h2 (by omega) hcy
    obtain ⟨bC, KC⟩ := gFrom (c := cz) w hnz hz hC h3 (by omega) hcz
    clear hnx hny hnz hx hy hz hcx hcy hcz hA hB hC
    have KZ : Gives 23 #[.int .u64 0] (natV 0) := gOf 0 (by decide)
    have KW := gWorks
    by_cases h0 : B = 0
    · subst h0
      have KD := gDivZ A (by omega)
      unfold natV at *
      generalize nb A = sA at *
      generalize nb C = sC at *
      generalize nb 0 = s0 at *
      have HB0 := Lib.hid (Below.refl w.heap.size w)
      go_enter Try.func6, Try.ntmps6
      go_wp2_with (with_reducible refine wpList_from 31 [0, 0, 0, 0, 0, 3, 3, 3, 2, 2, 2] [] B0 (has_B0 _) ?_)
      refine lex_quietE 5 (by kernel_rfl) (by rfl) ?_
      apply Exists.intro
      refine ⟨fun x hx => ?_, ?_⟩
      · have hwx := HB0.out.trans (hx.below_of (b := w.heap.size) (by simp) HB0.out.size)
        clear hx
        simp only [List.take_succ_cons, List.take_zero]
        unfold Cx
        repeat (go_big_quiet_step (first | with_reducible exact KA.at2 hwx _ | with_reducible exact KB.at2 hwx _ | with_reducible exact KC.at2 hwx _))
        exact wpQuiet_nil rfl
      simp only [List.drop_succ_cons, List.drop_zero]
      refine lex_alloc (.agg #[.string ByteArray.empty]) (by rfl) (fun x => by kernel_rfl) (fun g7 q7 hn7 => ?_)
      unfold setSlot
      go_big_quiet_step (fail)
      refine wpQuiet_nil ?_
      clear hn7
      refine lex_alloc (.agg #[.string ByteArray.empty]) (by rfl) (fun x => by kernel_rfl) (fun g8 q8 hn8 => ?_)
      unfold setSlot
      go_big_quiet_step (fail)
      refine wpQuiet_nil ?_
      have n8_7 := ne_of_put hn8
      replace hn8 := none_of_put hn8
      clear hn8
      refine lex_alloc (.agg #[.string ByteArray.empty]) (by rfl) (fun x => by kernel_rfl) (fun g9 q9 hn9 => ?_)
      unfold setSlot
      go_big_quiet_step (fail)
      refine wpQuiet_nil ?_
      have n9_8 := ne_of_put hn9
      replace hn9 := none_of_put hn9
      have n9_7 := ne_of_put hn9
      replace hn9 := none_of_put hn9
      clear hn9
      refine lex_store_all g7 _ _ _ (by rfl) (by rfl) (by rfl) ((Blocks.put_other _ _ (Ne.symm n9_7)).trans ((Blocks.put_other _ _ (Ne.symm n8_7)).trans (Blocks.put_same _ _ _))) (by rfl) (Or.inr q7) (by kernel_rfl) (by simp [Value.oneCell']) ?_
      refine lex_store_all g8 _ _ _ (by rfl) (by rfl) (by rfl) ((Blocks.put_other _ _ n8_7).trans ((Blocks.put_other _ _ (Ne.symm n9_8)).trans (Blocks.put_same _ _ _))) (by rfl) (Or.inr q8) (by kernel_rfl) (by simp [Value.oneCell']) ?_
      refine lex_store_all g9 _ _ _ (by rfl) (by rfl) (by rfl) ((Blocks.put_other _ _ n9_8).trans ((Blocks.put_other _ _ n9_7).trans (Blocks.put_same _ _ _))) (by rfl) (Or.inr q9) (by kernel_rfl) (by simp [Value.oneCell']) ?_
      refine lex_nil ?_
      intro w1 hx hH
      have m7 := hH g7 _ ((Blocks.put_other _ _ (Ne.symm n9_7)).trans ((Blocks.put_other _ _ (Ne.symm n8_7)).trans (Blocks.put_same _ _ _)))
      have m8 := hH g8 _ ((Blocks.put_other _ _ (Ne.symm n9_8)).trans (Blocks.put_same _ _ _))
      have m9 := hH g9 _ (Blocks.put_same _ _ _)
      have HB1 := Lib.hid (HB0.out.trans (hx.below_of (b := w.heap.size) (by simp) HB0.out.size))
      replace q7 := Nat.le_trans HB0.out.size q7
      replace q8 := Nat.le_trans HB0.out.size q8
      replace q9 := Nat.le_trans HB0.out.size q9
      clear hx hH HB0 KA KB KC
      go_wp2_with (with_reducible refine wpList_from 37 [0, 0, 0, 0, 0, 0, 0, 3, 3, 2, 2, 0] [] B0 (has_B0 _) ?_)
      refine lex_quietE 7 (by kernel_rfl) (by rfl) ?_
      apply Exists.intro
      refine ⟨fun x hx => ?_, ?_⟩
      · have hwx := HB1.out.trans (hx.below_of (b := w.heap.size) (by simp) HB1.out.size)
        have e7_0 := blk_cellp (hx.keep m7 (by simp)) 0 rfl
        have e8_0 := blk_cellp (hx.keep m8 (by simp)) 0 rfl
        clear hx
        simp only [List.take_succ_cons, List.take_zero]
        unfold Cx
        repeat (go_big_quiet_step (first | with_reducible exact KD.at _ _))
        exact wpQuiet_nil rfl
      simp only [List.drop_succ_cons, List.drop_zero]
      refine lex_alloc (.agg #[.string ByteArray.empty]) (by rfl) (fun x => by kernel_rfl) (fun g10 q10 hn10 => ?_)
      unfold setSlot
      go_big_quiet_step (fail)
      refine wpQuiet_nil ?_
      clear hn10
      refine lex_alloc (.agg #[.string ByteArray.empty]) (by rfl) (fun x => by kernel_rfl) (fun g11 q11 hn11 => ?_)
      unfold setSlot
      go_big_quiet_step (fail)
      refine wpQuiet_nil ?_
      have n11_10 := ne_of_put hn11
      replace hn11 := none_of_put hn11
      clear hn11
      refine lex_store_all g10 _ _ _ (by rfl) (by rfl) (by rfl) ((Blocks.put_other _ _ (Ne.symm n11_10)).trans (Blocks.put_same _ _ _)) (by rfl) (Or.inr q10) (by kernel_rfl) (by simp [Value.oneCell']) ?_
      refine lex_store_all g11 _ _ _ (by rfl) (by rfl) (by rfl) ((Blocks.put_other _ _ n11_10).trans (Blocks.put_same _ _ _)) (by rfl) (Or.inr q11) (by kernel_rfl) (by simp [Value.oneCell']) ?_
      refine lex_quietE 1 (by kernel_rfl) (by rfl) ?_
      apply Exists.intro
      refine ⟨fun x hx => ?_, ?_⟩
      · have hwx := HB1.out.trans (hx.below_of (b := w.heap.size) (by simp) HB1.out.size)
        have e7_0 := blk_cellp (hx.keep m7 (by simp)) 0 rfl
        have e8_0 := blk_cellp (hx.keep m8 (by simp)) 0 rfl
        clear hx
        simp only [List.take_succ_cons, List.take_zero]
        unfold Cx
        repeat (go_big_quiet_step (first | with_reducible exact KD.at _ _))
        exact wpQuiet_nil rfl
      simp only [List.drop_succ_cons, List.drop_zero]
      refine lex_nil ?_
      intro w2 hx hH
      have m10 := hH g10 _ ((Blocks.put_other _ _ (Ne.symm n11_10)).trans (Blocks.put_same _ _ _))
      have m11 := hH g11 _ (Blocks.put_same _ _ _)
      replace m7 := hx.keep m7 (by simp)
      replace m8 := hx.keep m8 (by simp)
      replace m9 := hx.keep m9 (by simp)
      have HB2 := Lib.hid (HB1.out.trans (hx.below_of (b := w.heap.size) (by simp) HB1.out.size))
      replace q10 := Nat.le_trans HB1.out.size q10
      replace q11 := Nat.le_trans HB1.out.size q11
      clear hx hH HB1 KD
      go_wp2_with fail
      refine wp_game [0, 0, 0] [] B0 fin_B0 (has_B0 _) (by kernel_rfl) (by kernel_rfl) ?_
      refine lex_quietE 3 (by kernel_rfl) (by rfl) ?_
      apply Exists.intro
      refine ⟨fun x hx => ?_, ?_⟩
      · have hwx := HB2.out.trans (hx.below_of (b := w.heap.size) (by simp) HB2.out.size)
        have e8_0 := blk_cellp (hx.keep m8 (by simp)) 0 rfl
        clear hx
        simp only [List.take_succ_cons, List.take_zero]
        unfold Cx
        repeat (go_big_quiet_step (first | with_reducible exact KZ.at _ _))
        exact wpQuiet_nil rfl
      simp only [List.drop_succ_cons, List.drop_zero]
      refine lex_nil ?_
      intro w3 hx hH
      replace m7 := hx.keep m7 (by simp)
      replace m8 := hx.keep m8 (by simp)
      replace m9 := hx.keep m9 (by simp)
      replace m10 := hx.keep m10 (by simp)
      replace m11 := hx.keep m11 (by simp)
      have HB3 := Lib.hid (HB2.out.trans (hx.below_of (b := w.heap.size) (by simp) HB2.out.size))
      clear hx hH HB2
      go_wp2_with fail
      refine wp_game [0, 0, 0, 0, 0, 0, 0, 0, 0, 0, 0, 0, 0, 0, 0, 0] [] B0 fin_B0 (has_B0 _) (by kernel_rfl) (by kernel_rfl) ?_
      refine lex_quietE 16 (by kernel_rfl) (by rfl) ?_
      apply Exists.intro
      refine ⟨fun x hx => ?_, ?_⟩
      · have hwx := HB3.out.trans (hx.below_of (b := w.heap.size) (by simp) HB3.out.size)
        have e10_0 := blk_cellp (hx.keep m10 (by simp)) 0 rfl
        have e11_0 := blk_cellp (hx.keep m11 (by simp)) 0 rfl
        clear hx
        simp only [List.take_succ_cons, List.take_zero]
        unfold Cx
        repeat (go_big_quiet_step (first | with_reducible exact KZ.at _ _ | with_reducible exact KW.at _ _))
        exact wpQuiet_nil rfl
      simp only [List.drop_succ_cons, List.drop_zero]
      refine lex_nil ?_
      intro w4 hx hH
      have HB4 := Lib.hid (HB3.out.trans (hx.below_of (b := w.heap.size) (by simp) HB3.out.size))
      clear hx hH HB3 m7 m8 m9 m10 m11 q7 q8 q9 q10 q11 KZ KW
      go_wp2_with fail
      exact bodyPost_ret (v := .bool true) (by simp [results, Try.results6, go_sem]) rfl ⟨rfl, HB4.out⟩
    · have KD := gDiv A B (by omega) (by omega) h0
      have hRB : A % B < B := Nat.mod_lt _ (Nat.pos_of_ne_zero h0)
      have hQA : A / B ≤ A := Nat.div_le_self _ _
      have hQB : A / B * B + A % B = A := by rw [Nat.mul_comm]; exact Nat.div_add_mod A B
      have bQ := nl_mono hQA
      have bR := nl_mono (Nat.le_of_lt hRB)
      have bQB := nl_mul (A / B) B
      have bCB := nl_mul C B
      have bN := nl_add (C * B) (A % B)
      have KM := gMul (A / B) B (by omega) (by omega)
      have KS := gAdd (A / B * B) (A % B) (by omega) (by omega)
      have KC2 := gCmp (A % B) B (by omega) (by omega)
      have KM2 := gMul C B (by omega) (by omega)
      have KS2 := gAdd (C * B) (A % B) (by omega) (by omega)
      have KD2 := gDiv (C * B + A % B) B (by omega) (by omega) h0
      have e1 : (C * B + A % B) / B = C := by rw [Nat.add_comm, Nat.add_mul_div_right _ _ (Nat.pos_of_ne_zero h0), Nat.div_eq_of_lt hRB]; simp
      have e2 : (C * B + A % B) % B = A % B := by rw [Nat.add_comm, Nat.add_mul_mod_self_right, Nat.mod_mod]
      rw [hQB] at KS
      rw [cmpI_lt hRB] at KC2
      rw [e1, e2] at KD2
      have hne := nb_toList_ne h0
      clear h0 hRB hQA hQB bQ bR bQB bCB bN e1 e2 bA bB bC
      unfold natV at *
      generalize nb (C * B + A % B) = sN at *
      generalize nb (A / B * B) = sQB at *
      generalize nb (C * B) = sCB at *
      generalize nb (A % B) = sR at *
      generalize nb (A / B) = sQ at *
      generalize nb A = sA at *
      generalize nb B = sB at *
      generalize nb C = sC at *
      generalize nb 0 = s0 at *
      have HB0 := Lib.hid (Below.refl w.heap.size w)
      go_enter Try.func6, Try.ntmps6
      go_wp2_with (with_reducible refine wpList_from 31 [0, 0, 0, 0, 0, 3, 3, 3, 2, 2, 2] [] B0 (has_B0 _) ?_)
      refine lex_quietE 5 (by kernel_rfl) (by rfl) ?_
      apply Exists.intro
      refine ⟨fun x hx => ?_, ?_⟩
      · have hwx := HB0.out.trans (hx.below_of (b := w.heap.size) (by simp) HB0.out.size)
        clear hx
        simp only [List.take_succ_cons, List.take_zero]
        unfold Cx
        repeat (go_big_quiet_step (first | with_reducible exact KA.at2 hwx _ | with_reducible exact KB.at2 hwx _ | with_reducible exact KC.at2 hwx _))
        exact wpQuiet_nil rfl
      simp only [List.drop_succ_cons, List.drop_zero]
      refine lex_alloc (.agg #[.string ByteArray.empty]) (by rfl) (fun x => by kernel_rfl) (fun g7 q7 hn7 => ?_)
      unfold setSlot
      go_big_quiet_step (fail)
      refine wpQuiet_nil ?_
      clear hn7
      refine lex_alloc (.agg #[.string ByteArray.empty]) (by rfl) (fun x => by kernel_rfl) (fun g8 q8 hn8 => ?_)
      unfold setSlot
      go_big_quiet_step (fail)
      refine wpQuiet_nil ?_
      have n8_7 := ne_of_put hn8
      replace hn8 := none_of_put hn8
      clear hn8
      refine lex_alloc (.agg #[.string ByteArray.empty]) (by rfl) (fun x => by kernel_rfl) (fun g9 q9 hn9 => ?_)
      unfold setSlot
      go_big_quiet_step (fail)
      refine wpQuiet_nil ?_
      have n9_8 := ne_of_put hn9
      replace hn9 := none_of_put hn9
      have n9_7 := ne_of_put hn9
      replace hn9 := none_of_put hn9
      clear hn9
      refine lex_store_all g7 _ _ _ (by rfl) (by rfl) (by rfl) ((Blocks.put_other _ _ (Ne.symm n9_7)).trans ((Blocks.put_other _ _ (Ne.symm n8_7)).trans (Blocks.put_same _ _ _))) (by rfl) (Or.inr q7) (by kernel_rfl) (by simp [Value.oneCell']) ?_
      refine lex_store_all g8 _ _ _ (by rfl) (by rfl) (by rfl) ((Blocks.put_other _ _ n8_7).trans ((Blocks.put_other _ _ (Ne.symm n9_8)).trans (Blocks.put_same _ _ _))) (by rfl) (Or.inr q8) (by kernel_rfl) (by simp [Value.oneCell']) ?_
      refine lex_store_all g9 _ _ _ (by rfl) (by rfl) (by rfl) ((Blocks.put_other _ _ n9_8).trans ((Blocks.put_other _ _ n9_7).trans (Blocks.put_same _ _ _))) (by rfl) (Or.inr q9) (by kernel_rfl) (by simp [Value.oneCell']) ?_
      refine lex_nil ?_
      intro w1 hx hH
      have m7 := hH g7 _ ((Blocks.put_other _ _ (Ne.symm n9_7)).trans ((Blocks.put_other _ _ (Ne.symm n8_7)).trans (Blocks.put_same _ _ _)))
      have m8 := hH g8 _ ((Blocks.put_other _ _ (Ne.symm n9_8)).trans (Blocks.put_same _ _ _))
      have m9 := hH g9 _ (Blocks.put_same _ _ _)
      have HB1 := Lib.hid (HB0.out.trans (hx.below_of (b := w.heap.size) (by simp) HB0.out.size))
      replace q7 := Nat.le_trans HB0.out.size q7
      replace q8 := Nat.le_trans HB0.out.size q8
      replace q9 := Nat.le_trans HB0.out.size q9
      clear hx hH HB0 KA KB KC
      go_wp2_with (with_reducible refine wpList_from 37 [0, 0, 0, 0, 0, 0, 0, 3, 3, 2, 2, 0] [] B0 (has_B0 _) ?_)
      refine lex_quietE 7 (by kernel_rfl) (by rfl) ?_
      apply Exists.intro
      refine ⟨fun x hx => ?_, ?_⟩
      · have hwx := HB1.out.trans (hx.below_of (b := w.heap.size) (by simp) HB1.out.size)
        have e7_0 := blk_cellp (hx.keep m7 (by simp)) 0 rfl
        have e8_0 := blk_cellp (hx.keep m8 (by simp)) 0 rfl
        clear hx
        simp only [List.take_succ_cons, List.take_zero]
        unfold Cx
        repeat (go_big_quiet_step (first | with_reducible exact KD.at _ _))
        exact wpQuiet_nil rfl
      simp only [List.drop_succ_cons, List.drop_zero]
      refine lex_alloc (.agg #[.string ByteArray.empty]) (by rfl) (fun x => by kernel_rfl) (fun g10 q10 hn10 => ?_)
      unfold setSlot
      go_big_quiet_step (fail)
      refine wpQuiet_nil ?_
      clear hn10
      refine lex_alloc (.agg #[.string ByteArray.empty]) (by rfl) (fun x => by kernel_rfl) (fun g11 q11 hn11 => ?_)
      unfold setSlot
      go_big_quiet_step (fail)
      refine wpQuiet_nil ?_
      have n11_10 := ne_of_put hn11
      replace hn11 := none_of_put hn11
      clear hn11
      refine lex_store_all g10 _ _ _ (by rfl) (by rfl) (by rfl) ((Blocks.put_other _ _ (Ne.symm n11_10)).trans (Blocks.put_same _ _ _)) (by rfl) (Or.inr q10) (by kernel_rfl) (by simp [Value.oneCell']) ?_
      refine lex_store_all g11 _ _ _ (by rfl) (by rfl) (by rfl) ((Blocks.put_other _ _ n11_10).trans (Blocks.put_same _ _ _)) (by rfl) (Or.inr q11) (by kernel_rfl) (by simp [Value.oneCell']) ?_
      refine lex_quietE 1 (by kernel_rfl) (by rfl) ?_
      apply Exists.intro
      refine ⟨fun x hx => ?_, ?_⟩
      · have hwx := HB1.out.trans (hx.below_of (b := w.heap.size) (by simp) HB1.out.size)
        have e7_0 := blk_cellp (hx.keep m7 (by simp)) 0 rfl
        have e8_0 := blk_cellp (hx.keep m8 (by simp)) 0 rfl
        clear hx
        simp only [List.take_succ_cons, List.take_zero]
        unfold Cx
        repeat (go_big_quiet_step (first | with_reducible exact KD.at _ _))
        exact wpQuiet_nil rfl
      simp only [List.drop_succ_cons, List.drop_zero]
      refine lex_nil ?_
      intro w2 hx hH
      have m10 := hH g10 _ ((Blocks.put_other _ _ (Ne.symm n11_10)).trans (Blocks.put_same _ _ _))
      have m11 := hH g11 _ (Blocks.put_same _ _ _)
      replace m7 := hx.keep m7 (by simp)
      replace m8 := hx.keep m8 (by simp)
      replace m9 := hx.keep m9 (by simp)
      have HB2 := Lib.hid (HB1.out.trans (hx.below_of (b := w.heap.size) (by simp) HB1.out.size))
      replace q10 := Nat.le_trans HB1.out.size q10
      replace q11 := Nat.le_trans HB1.out.size q11
      clear hx hH HB1 KD
      go_wp2_with fail
      refine wp_game [0, 0, 0] [] B0 fin_B0 (has_B0 _) (by kernel_rfl) (by kernel_rfl) ?_
      refine lex_quietE 3 (by kernel_rfl) (by rfl) ?_
      apply Exists.intro
      refine ⟨fun x hx => ?_, ?_⟩
      · have hwx := HB2.out.trans (hx.below_of (b := w.heap.size) (by simp) HB2.out.size)
        have e8_0 := blk_cellp (hx.keep m8 (by simp)) 0 rfl
        clear hx
        simp only [List.take_succ_cons, List.take_zero]
        unfold Cx
        repeat (go_big_quiet_step (first | with_reducible exact KZ.at _ _))
        exact wpQuiet_nil rfl
      simp only [List.drop_succ_cons, List.drop_zero]
      refine lex_nil ?_
      intro w3 hx hH
      replace m7 := hx.keep m7 (by simp)
      replace m8 := hx.keep m8 (by simp)
      replace m9 := hx.keep m9 (by simp)
      replace m10 := hx.keep m10 (by simp)
      replace m11 := hx.keep m11 (by simp)
      have HB3 := Lib.hid (HB2.out.trans (hx.below_of (b := w.heap.size) (by simp) HB2.out.size))
      clear hx hH HB2
      go_wp2_with fail
      refine wp_game [0, 0, 0, 0, 0, 0, 0, 0, 0, 0, 0, 0, 0, 0, 0, 0, 0] [] B0 fin_B0 (has_B0 _) (by kernel_rfl) (by kernel_rfl) ?_
      refine lex_quietE 17 (by kernel_rfl) (by rfl) ?_
      apply Exists.intro
      refine ⟨fun x hx => ?_, ?_⟩
      · have hwx := HB3.out.trans (hx.below_of (b := w.heap.size) (by simp) HB3.out.size)
        have e10_0 := blk_cellp (hx.keep m10 (by simp)) 0 rfl
        have e8_0 := blk_cellp (hx.keep m8 (by simp)) 0 rfl
        have e11_0 := blk_cellp (hx.keep m11 (by simp)) 0 rfl
        have e7_0 := blk_cellp (hx.keep m7 (by simp)) 0 rfl
        clear hx
        simp only [List.take_succ_cons, List.take_zero]
        unfold Cx
        repeat (go_big_quiet_step (first | with_reducible exact KM.at _ _ | with_reducible exact KS.at _ _ | with_reducible exact KC2.at _ _))
        exact wpQuiet_nil rfl
      simp only [List.drop_succ_cons, List.drop_zero]
      refine lex_nil ?_
      intro w4 hx hH
      replace m7 := hx.keep m7 (by simp)
      replace m8 := hx.keep m8 (by simp)
      replace m9 := hx.keep m9 (by simp)
      replace m10 := hx.keep m10 (by simp)
      replace m11 := hx.keep m11 (by simp)
      have HB4 := Lib.hid (HB3.out.trans (hx.below_of (b := w.heap.size) (by simp) HB3.out.size))
      clear hx hH HB3 KM KS KC2
      go_wp2_with fail
      refine wp_game [0, 0, 0, 0, 0, 0, 0, 0, 0, 0, 0, 3, 3, 2, 2, 0] [] B0 fin_B0 (has_B0 _) (by kernel_rfl) (by kernel_rfl) ?_
      refine lex_quietE 11 (by kernel_rfl) (by rfl) ?_
      apply Exists.intro
      refine ⟨fun x hx => ?_, ?_⟩
      · have hwx := HB4.out.trans (hx.below_of (b := w.heap.size) (by simp) HB4.out.size)
        have e9_0 := blk_cellp (hx.keep m9 (by simp)) 0 rfl
        have e8_0 := blk_cellp (hx.keep m8 (by simp)) 0 rfl
        have e11_0 := blk_cellp (hx.keep m11 (by simp)) 0 rfl
        clear hx
        simp only [List.take_succ_cons, List.take_zero]
        unfold Cx
        repeat (go_big_quiet_step (first | with_reducible exact KM2.at _ _ | with_reducible exact KS2.at _ _ | with_reducible exact KD2.at _ _))
        exact wpQuiet_nil rfl
      simp only [List.drop_succ_cons, List.drop_zero]
      refine lex_alloc (.agg #[.string ByteArray.empty]) (by rfl) (fun x => by kernel_rfl) (fun g13 q13 hn13 => ?_)
      unfold setSlot
      go_big_quiet_step (fail)
      refine wpQuiet_nil ?_
      clear hn13
      refine lex_alloc (.agg #[.string ByteArray.empty]) (by rfl) (fun x => by kernel_rfl) (fun g14 q14 hn14 => ?_)
      unfold setSlot
      go_big_quiet_step (fail)
      refine wpQuiet_nil ?_
      have n14_13 := ne_of_put hn14
      replace hn14 := none_of_put hn14
      clear hn14
      refine lex_store_all g13 _ _ _ (by rfl) (by rfl) (by rfl) ((Blocks.put_other _ _ (Ne.symm n14_13)).trans (Blocks.put_same _ _ _)) (by rfl) (Or.inr q13) (by kernel_rfl) (by simp [Value.oneCell']) ?_
      refine lex_store_all g14 _ _ _ (by rfl) (by rfl) (by rfl) ((Blocks.put_other _ _ n14_13).trans (Blocks.put_same _ _ _)) (by rfl) (Or.inr q14) (by kernel_rfl) (by simp [Value.oneCell']) ?_
      refine lex_quietE 1 (by kernel_rfl) (by rfl) ?_
      apply Exists.intro
      refine ⟨fun x hx => ?_, ?_⟩
      · have hwx := HB4.out.trans (hx.below_of (b := w.heap.size) (by simp) HB4.out.size)
        have e9_0 := blk_cellp (hx.keep m9 (by simp)) 0 rfl
        have e8_0 := blk_cellp (hx.keep m8 (by simp)) 0 rfl
        have e11_0 := blk_cellp (hx.keep m11 (by simp)) 0 rfl
        clear hx
        simp only [List.take_succ_cons, List.take_zero]
        unfold Cx
        repeat (go_big_quiet_step (first | with_reducible exact KM2.at _ _ | with_reducible exact KS2.at _ _ | with_reducible exact KD2.at _ _))
        exact wpQuiet_nil rfl
      simp only [List.drop_succ_cons, List.drop_zero]
      refine lex_nil ?_
      intro w5 hx hH
      have m13 := hH g13 _ ((Blocks.put_other _ _ (Ne.symm n14_13)).trans (Blocks.put_same _ _ _))
      have m14 := hH g14 _ (Blocks.put_same _ _ _)
      replace m9 := hx.keep m9 (by simp)
      replace m11 := hx.keep m11 (by simp)
      have HB5 := Lib.hid (HB4.out.trans (hx.below_of (b := w.heap.size) (by simp) HB4.out.size))
      replace q13 := Nat.le_trans HB4.out.size q13
      replace q14 := Nat.le_trans HB4.out.size q14
      clear hx hH HB4 m7 m8 m10 q7 q8 q10 KM2 KS2 KD2
      go_wp2_with (with_reducible refine wpList_from 89 [0, 0, 0, 0, 0, 0, 0, 0, 0, 0, 0, 0] [] B0 (has_B0 _) ?_)
      refine lex_quietE 12 (by kernel_rfl) (by rfl) ?_
      apply Exists.intro
      refine ⟨fun x hx => ?_, ?_⟩
      · have hwx := HB5.out.trans (hx.below_of (b := w.heap.size) (by simp) HB5.out.size)
        have e13_0 := blk_cellp (hx.keep m13 (by simp)) 0 rfl
        have e9_0 := blk_cellp (hx.keep m9 (by simp)) 0 rfl
        have e14_0 := blk_cellp (hx.keep m14 (by simp)) 0 rfl
        have e11_0 := blk_cellp (hx.keep m11 (by simp)) 0 rfl
        clear hx
        simp only [List.take_succ_cons, List.take_zero]
        unfold Cx
        repeat (go_big_quiet_step (first | with_reducible exact KW.at _ _))
        exact wpQuiet_nil rfl
      simp only [List.drop_succ_cons, List.drop_zero]
      refine lex_nil ?_
      intro w6 hx hH
      have HB6 := Lib.hid (HB5.out.trans (hx.below_of (b := w.heap.size) (by simp) HB5.out.size))
      clear hx hH HB5 m9 m11 m13 m14 q9 q11 q13 q14 KW
      go_wp2_with fail
      exact bodyPost_ret (v := .bool true) (by simp [results, Try.results6, go_sem]) rfl ⟨rfl, HB6.out⟩
  · clear hnx hny hnz hx hy hz hcx hcy hcz
    have KW := gWorks
    go_enter Try.func6, Try.ntmps6
    have hcase : 24 < nx ∨ (nx ≤ 24 ∧ 24 < ny) ∨ (nx ≤ 24 ∧ ny ≤ 24 ∧ 24 < nz) := by omega
    clear hb
    rcases hcase with h | ⟨h, h'⟩ | ⟨h, h', h''⟩
    all_goals
      go_wp2_with (go_at_call 12; refine (KW _).mono ?_; rintro e w' ⟨rfl, hB⟩)
      exact bodyPost_ret (v := .bool true) (by simp [results, Try.results6, go_sem]) rfl ⟨rfl, hB⟩
end Go.Proofs.Ytdkfeaodgfnhgaa
