/- NatDivisors.  -/
import Derived.Test.YtdkfeaodgfnhgaaLRaw
import Derived.Test.YtdkfeaodgfnhgaaGame2
namespace Go.Proofs.Ytdkfeaodgfnhgaa
open Go.RowKit Num

theorem gcd_le_add (a b : Nat) : Nat.gcd a b ≤ a + b := by
  rcases Nat.eq_zero_or_pos a with rfl | h
  · simp
  · exact Nat.le_trans (Nat.gcd_le_left b h) (Nat.le_add_right _ _)

set_option maxHeartbeats 1600000 in
set_option maxRecDepth 100000 in
theorem natDivisors_law (ax ay az : Option Addr) (xs ys zs : List Nat) (nx cx ny cy nz cz : Nat) (hnx : xs.length = nx) (hny : ys.length = ny) (hnz : zs.length = nz) (hx : AllLt W xs) (hy : AllLt W ys) (hz : AllLt W zs)
    (w : World) (hcx : CellsU w ax xs) (hcy : CellsU w ay ys) (hcz : CellsU w az zs) :
    Calls Try.prog 7 #[.slice ax nx cx, .slice ay ny cy, .slice az nz cz] w fun e w' => e = .returned (.bool true) ∧ Below w.heap.size w w' := by
  have KW := gWorks
  by_cases hb : nx ≤ 12 ∧ ny ≤ 12 ∧ nz ≤ 6
  · obtain ⟨h1, h2, h3⟩ := hb
    obtain ⟨A, hA⟩ : ∃ A, digs W xs = A := ⟨_, rfl⟩
    obtain ⟨B, hB⟩ : ∃ A, digs W ys = A := ⟨_, rfl⟩
    obtain ⟨C, hC⟩ : ∃ A, digs W zs = A := ⟨_, rfl⟩
    obtain ⟨bA, FA⟩ := gFrom (c := cx) w hnx hx hA h1 (by omega) hcx
    obtain ⟨bB, FB⟩ := gFrom (c := cy) w hny hy hB h2 (by omega) hcy
    obtain ⟨bC, FC⟩ := gFrom (c := cz) w hnz hz hC h3 (by omega) hcz
    clear hnx hny hnz hx hy hz hcx hcy hcz hA hB hC
    have KZ : Gives 23 #[.int .u64 0] (natV 0) := gOf 0 (by decide)
    have bG := Nat.le_trans (nl_mono (gcd_le_add A B)) (nl_add A B)
    have bCA := nl_mul C A
    have bCB := nl_mul C B
    have K1 := gGcd A B (by omega) (by omega)
    have K2 := gGcd B A (by omega) (by omega)
    rw [Nat.gcd_comm B A] at K2
    have K3 := gMul C A (by omega) (by omega)
    have K4 := gMul C B (by omega) (by omega)
    have K5 := gGcd (C * A) (C * B) (by omega) (by omega)
    rw [Nat.gcd_mul_left] at K5
    have K6 := gMul C (Nat.gcd A B) (by omega) (by omega)
    by_cases h0 : B = 0
    · subst h0
      rw [Nat.gcd_zero_right] at *
      clear bG bCA bCB bA bB bC
      unfold natV at *
      generalize nb (C * A) = sCA at *
      generalize nb (C * 0) = sCB at *
      generalize nb A = sA at *
      generalize nb C = sC at *
      generalize nb 0 = s0 at *
      have HB0 := Lib.hid (Below.refl w.heap.size w)
      go_enter Try.func7, Try.ntmps7
      go_wp2_with (with_reducible refine wpList_from 35 [0, 0, 0, 0, 0, 3, 3, 3, 2, 2, 2] [] B0 (has_B0 _) ?_)
      refine lex_quietE 5 (by kernel_rfl) (by rfl) ?_
      apply Exists.intro
      refine ⟨fun x hx => ?_, ?_⟩
      · have hwx := HB0.out.trans (hx.below_of (b := w.heap.size) (by simp) HB0.out.size)
        clear hx
        simp only [List.take_succ_cons, List.take_zero]
        unfold Cx
        repeat (go_big_quiet_step (first | with_reducible exact FA.at2 hwx _ | with_reducible exact FB.at2 hwx _ | with_reducible exact FC.at2 hwx _))
        exact wpQuiet_nil rfl
      simp only [List.drop_succ_cons, List.drop_zero]
      refine lex_alloc (.agg #[.string ByteArray.empty]) (by rfl) (fun x => by kernel_rfl) (fun g7 q7 hn7 => ?_)
      unfold setSlot
      go_big_quiet_step (fail)
      refine wpQuiet_nil ?_
      clear hn7
      refine lex_alloc (.agg #[.string ByteArray.empty]) (by rfl) (fun x => by kernel_rfl) (fun g8 q8 hn8 => ?_)
      unfold setSlot
      go_big_quiet_step (fail)
      refine wpQuiet_nil ?_
      have n8_7 := ne_of_put hn8
      replace hn8 := none_of_put hn8
      clear hn8
      refine lex_alloc (.agg #[.string ByteArray.empty]) (by rfl) (fun x => by kernel_rfl) (fun g9 q9 hn9 => ?_)
      unfold setSlot
      go_big_quiet_step (fail)
      refine wpQuiet_nil ?_
      have n9_8 := ne_of_put hn9
      replace hn9 := none_of_put hn9
      have n9_7 := ne_of_put hn9
      replace hn9 := none_of_put hn9
      clear hn9
      refine lex_store_all g7 _ _ _ (by rfl) (by rfl) (by rfl) ((Blocks.put_other _ _ (Ne.symm n9_7)).trans ((Blocks.put_other _ _ (Ne.symm n8_7)).trans (Blocks.put_same _ _ _))) (by rfl) (Or.inr q7) (by kernel_rfl) (by simp [Value.oneCell']) ?_
      refine lex_store_all g8 _ _ _ (by rfl) (by rfl) (by rfl) ((Blocks.put_other _ _ n8_7).trans ((Blocks.put_other _ _ (Ne.symm n9_8)).trans (Blocks.put_same _ _ _))) (by rfl) (Or.inr q8) (by kernel_rfl) (by simp [Value.oneCell']) ?_
      refine lex_store_all g9 _ _ _ (by rfl) (by rfl) (by rfl) ((Blocks.put_other _ _ n9_8).trans ((Blocks.put_other _ _ n9_7).trans (Blocks.put_same _ _ _))) (by rfl) (Or.inr q9) (by kernel_rfl) (by simp [Value.oneCell']) ?_
      refine lex_nil ?_
      intro w1 hx hH
      have m7 := hH g7 _ ((Blocks.put_other _ _ (Ne.symm n9_7)).trans ((Blocks.put_other _ _ (Ne.symm n8_7)).trans (Blocks.put_same _ _ _)))
      have m8 := hH g8 _ ((Blocks.put_other _ _ (Ne.symm n9_8)).trans (Blocks.put_same _ _ _))
      have m9 := hH g9 _ (Blocks.put_same _ _ _)
      have HB1 := Lib.hid (HB0.out.trans (hx.below_of (b := w.heap.size) (by simp) HB0.out.size))
      replace q7 := Nat.le_trans HB0.out.size q7
      replace q8 := Nat.le_trans HB0.out.size q8
      replace q9 := Nat.le_trans HB0.out.size q9
      clear hx hH HB0 FA FB FC
      go_wp2_with (with_reducible refine wpList_from 40 [0, 0, 0, 3, 2] [] B0 (has_B0 _) ?_)
      refine lex_quietE 3 (by kernel_rfl) (by rfl) ?_
      apply Exists.intro
      refine ⟨fun x hx => ?_, ?_⟩
      · have hwx := HB1.out.trans (hx.below_of (b := w.heap.size) (by simp) HB1.out.size)
        have e7_0 := blk_cellp (hx.keep m7 (by simp)) 0 rfl
        have e8_0 := blk_cellp (hx.keep m8 (by simp)) 0 rfl
        clear hx
        simp only [List.take_succ_cons, List.take_zero]
        unfold Cx
        repeat (go_big_quiet_step (first | with_reducible exact K1.at _ _))
        exact wpQuiet_nil rfl
      simp only [List.drop_succ_cons, List.drop_zero]
      refine lex_alloc (.agg #[.string ByteArray.empty]) (by rfl) (fun x => by kernel_rfl) (fun g10 q10 hn10 => ?_)
      unfold setSlot
      go_big_quiet_step (fail)
      refine wpQuiet_nil ?_
      clear hn10
      refine lex_store_all g10 _ _ _ (by rfl) (by rfl) (by rfl) (Blocks.put_same _ _ _) (by rfl) (Or.inr q10) (by kernel_rfl) (by simp [Value.oneCell']) ?_
      refine lex_nil ?_
      intro w2 hx hH
      have m10 := hH g10 _ (Blocks.put_same _ _ _)
      replace m7 := hx.keep m7 (by simp)
      replace m8 := hx.keep m8 (by simp)
      replace m9 := hx.keep m9 (by simp)
      have HB2 := Lib.hid (HB1.out.trans (hx.below_of (b := w.heap.size) (by simp) HB1.out.size))
      replace q10 := Nat.le_trans HB1.out.size q10
      clear hx hH HB1 K1
      go_wp2_with fail
      refine wp_game [0, 0, 0, 0, 0, 0, 0, 0, 0, 0, 0, 0, 0, 0, 0, 0, 0, 0] [] B0 fin_B0 (has_B0 _) (by kernel_rfl) (by kernel_rfl) ?_
      refine lex_quietE 18 (by kernel_rfl) (by rfl) ?_
      apply Exists.intro
      refine ⟨fun x hx => ?_, ?_⟩
      · have hwx := HB2.out.trans (hx.below_of (b := w.heap.size) (by simp) HB2.out.size)
        have e10_0 := blk_cellp (hx.keep m10 (by simp)) 0 rfl
        have e8_0 := blk_cellp (hx.keep m8 (by simp)) 0 rfl
        have e7_0 := blk_cellp (hx.keep m7 (by simp)) 0 rfl
        have e9_0 := blk_cellp (hx.keep m9 (by simp)) 0 rfl
        clear hx
        simp only [List.take_succ_cons, List.take_zero]
        unfold Cx
        repeat (go_big_quiet_step (first | with_reducible exact K2.at _ _ | with_reducible exact K3.at _ _ | with_reducible exact K4.at _ _ | with_reducible exact K5.at _ _ | with_reducible exact K6.at _ _))
        exact wpQuiet_nil rfl
      simp only [List.drop_succ_cons, List.drop_zero]
      refine lex_nil ?_
      intro w3 hx hH
      replace m7 := hx.keep m7 (by simp)
      replace m8 := hx.keep m8 (by simp)
      replace m9 := hx.keep m9 (by simp)
      replace m10 := hx.keep m10 (by simp)
      have HB3 := Lib.hid (HB2.out.trans (hx.below_of (b := w.heap.size) (by simp) HB2.out.size))
      clear hx hH HB2 K2 K3 K4 K5 K6
      go_wp2_with fail
      refine wp_game [0, 0, 0] [] B0 fin_B0 (has_B0 _) (by kernel_rfl) (by kernel_rfl) ?_
      refine lex_quietE 3 (by kernel_rfl) (by rfl) ?_
      apply Exists.intro
      refine ⟨fun x hx => ?_, ?_⟩
      · have hwx := HB3.out.trans (hx.below_of (b := w.heap.size) (by simp) HB3.out.size)
        have e8_0 := blk_cellp (hx.keep m8 (by simp)) 0 rfl
        clear hx
        simp only [List.take_succ_cons, List.take_zero]
        unfold Cx
        repeat (go_big_quiet_step (first | with_reducible exact KZ.at _ _))
        exact wpQuiet_nil rfl
      simp only [List.drop_succ_cons, List.drop_zero]
      refine lex_nil ?_
      intro w4 hx hH
      replace m7 := hx.keep m7 (by simp)
      replace m8 := hx.keep m8 (by simp)
      replace m10 := hx.keep m10 (by simp)
      have HB4 := Lib.hid (HB3.out.trans (hx.below_of (b := w.heap.size) (by simp) HB3.out.size))
      clear hx hH HB3 m9 q9 KZ
      go_wp2_with (with_reducible refine wpList_from 64 [0, 0, 0, 0, 0, 0, 0] [] B0 (has_B0 _) ?_)
      refine lex_quietE 7 (by kernel_rfl) (by rfl) ?_
      apply Exists.intro
      refine ⟨fun x hx => ?_, ?_⟩
      · have hwx := HB4.out.trans (hx.below_of (b := w.heap.size) (by simp) HB4.out.size)
        have e10_0 := blk_cellp (hx.keep m10 (by simp)) 0 rfl
        have e7_0 := blk_cellp (hx.keep m7 (by simp)) 0 rfl
        clear hx
        simp only [List.take_succ_cons, List.take_zero]
        unfold Cx
        repeat (go_big_quiet_step (first | with_reducible exact KW.at _ _))
        exact wpQuiet_nil rfl
      simp only [List.drop_succ_cons, List.drop_zero]
      refine lex_nil ?_
      intro w5 hx hH
      have HB5 := Lib.hid (HB4.out.trans (hx.below_of (b := w.heap.size) (by simp) HB4.out.size))
      clear hx hH HB4 m7 m8 m10 q7 q8 q10 KW
      go_wp2_with fail
      exact bodyPost_ret (v := .bool true) (by simp [results, Try.results7, go_sem]) rfl ⟨rfl, HB5.out⟩
    · have hG : Nat.gcd A B ≠ 0 := fun h => h0 (Nat.eq_zero_of_gcd_eq_zero_right h)
      have hR : A % B < B := Nat.mod_lt _ (Nat.pos_of_ne_zero h0)
      have bR := nl_mono (Nat.le_of_lt hR)
      have KD1 := gDiv A B (by omega) (by omega) h0
      have KD2 := gDiv A (Nat.gcd A B) (by omega) (by omega) hG
      have KD3 := gDiv B (Nat.gcd A B) (by omega) (by omega) hG
      rw [Nat.mod_eq_zero_of_dvd (Nat.gcd_dvd_left A B)] at KD2
      rw [Nat.mod_eq_zero_of_dvd (Nat.gcd_dvd_right A B)] at KD3
      have K7 := gGcd B (A % B) (by omega) (by omega)
      rw [show Nat.gcd B (A % B) = Nat.gcd A B by rw [Nat.gcd_comm A B, Nat.gcd_rec B A, Nat.gcd_comm]] at K7
      have hne := nb_toList_ne h0
      clear bG bCA bCB bA bB bC bR hR hG h0
      unfold natV at *
      generalize nb (A / B) = sQ at *
      generalize nb (A % B) = sR at *
      generalize nb (A / Nat.gcd A B) = sQ2 at *
      generalize nb (B / Nat.gcd A B) = sQ3 at *
      generalize nb (C * Nat.gcd A B) = sCG at *
      generalize nb (Nat.gcd A B) = sG at *
      generalize nb (C * A) = sCA at *
      generalize nb (C * B) = sCB at *
      generalize nb A = sA at *
      generalize nb B = sB at *
      generalize nb C = sC at *
      generalize nb 0 = s0 at *
      have HB0 := Lib.hid (Below.refl w.heap.size w)
      go_enter Try.func7, Try.ntmps7
      go_wp2_with (with_reducible refine wpList_from 35 [0, 0, 0, 0, 0, 3, 3, 3, 2, 2, 2] [] B0 (has_B0 _) ?_)
      refine lex_quietE 5 (by kernel_rfl) (by rfl) ?_
      apply Exists.intro
      refine ⟨fun x hx => ?_, ?_⟩
      · have hwx := HB0.out.trans (hx.below_of (b := w.heap.size) (by simp) HB0.out.size)
        clear hx
        simp only [List.take_succ_cons, List.take_zero]
        unfold Cx
        repeat (go_big_quiet_step (first | with_reducible exact FA.at2 hwx _ | with_reducible exact FB.at2 hwx _ | with_reducible exact FC.at2 hwx _))
        exact wpQuiet_nil rfl
      simp only [List.drop_succ_cons, List.drop_zero]
      refine lex_alloc (.agg #[.string ByteArray.empty]) (by rfl) (fun x => by kernel_rfl) (fun g7 q7 hn7 => ?_)
      unfold setSlot
      go_big_quiet_step (fail)
      refine wpQuiet_nil ?_
      clear hn7
      refine lex_alloc (.agg #[.string ByteArray.empty]) (by rfl) (fun x => by kernel_rfl) (fun g8 q8 hn8 => ?_)
      unfold setSlot
      go_big_quiet_step (fail)
      refine wpQuiet_nil ?_
      have n8_7 := ne_of_put hn8
      replace hn8 := none_of_put hn8
      clear hn8
      refine lex_alloc (.agg #[.string ByteArray.empty]) (by rfl) (fun x => by kernel_rfl) (fun g9 q9 hn9 => ?_)
      unfold setSlot
      go_big_quiet_step (fail)
      refine wpQuiet_nil ?_
      have n9_8 := ne_of_put hn9
      replace hn9 := none_of_put hn9
      have n9_7 := ne_of_put hn9
      replace hn9 := none_of_put hn9
      clear hn9
      refine lex_store_all g7 _ _ _ (by rfl) (by rfl) (by rfl) ((Blocks.put_other _ _ (Ne.symm n9_7)).trans ((Blocks.put_other _ _ (Ne.symm n8_7)).trans (Blocks.put_same _ _ _))) (by rfl) (Or.inr q7) (by kernel_rfl) (by simp [Value.oneCell']) ?_
      refine lex_store_all g8 _ _ _ (by rfl) (by rfl) (by rfl) ((Blocks.put_other _ _ n8_7).trans ((Blocks.put_other _ _ (Ne.symm n9_8)).trans (Blocks.put_same _ _ _))) (by rfl) (Or.inr q8) (by kernel_rfl) (by simp [Value.oneCell']) ?_
      refine lex_store_all g9 _ _ _ (by rfl) (by rfl) (by rfl) ((Blocks.put_other _ _ n9_8).trans ((Blocks.put_other _ _ n9_7).trans (Blocks.put_same _ _ _))) (by rfl) (Or.inr q9) (by kernel_rfl) (by simp [Value.oneCell']) ?_
      refine lex_nil ?_
      intro w1 hx hH
      have m7 := hH g7 _ ((Blocks.put_other _ _ (Ne.symm n9_7)).trans ((Blocks.put_other _ _ (Ne.symm n8_7)).trans (Blocks.put_same _ _ _)))
      have m8 := hH g8 _ ((Blocks.put_other _ _ (Ne.symm n9_8)).trans (Blocks.put_same _ _ _))
      have m9 := hH g9 _ (Blocks.put_same _ _ _)
      have HB1 := Lib.hid (HB0.out.trans (hx.below_of (b := w.heap.size) (by simp) HB0.out.size))
      replace q7 := Nat.le_trans HB0.out.size q7
      replace q8 := Nat.le_trans HB0.out.size q8
      replace q9 := Nat.le_trans HB0.out.size q9
      clear hx hH HB0 FA FB FC
      go_wp2_with (with_reducible refine wpList_from 40 [0, 0, 0, 3, 2] [] B0 (has_B0 _) ?_)
      refine lex_quietE 3 (by kernel_rfl) (by rfl) ?_
      apply Exists.intro
      refine ⟨fun x hx => ?_, ?_⟩
      · have hwx := HB1.out.trans (hx.below_of (b := w.heap.size) (by simp) HB1.out.size)
        have e7_0 := blk_cellp (hx.keep m7 (by simp)) 0 rfl
        have e8_0 := blk_cellp (hx.keep m8 (by simp)) 0 rfl
        clear hx
        simp only [List.take_succ_cons, List.take_zero]
        unfold Cx
        repeat (go_big_quiet_step (first | with_reducible exact K1.at _ _))
        exact wpQuiet_nil rfl
      simp only [List.drop_succ_cons, List.drop_zero]
      refine lex_alloc (.agg #[.string ByteArray.empty]) (by rfl) (fun x => by kernel_rfl) (fun g10 q10 hn10 => ?_)
      unfold setSlot
      go_big_quiet_step (fail)
      refine wpQuiet_nil ?_
      clear hn10
      refine lex_store_all g10 _ _ _ (by rfl) (by rfl) (by rfl) (Blocks.put_same _ _ _) (by rfl) (Or.inr q10) (by kernel_rfl) (by simp [Value.oneCell']) ?_
      refine lex_nil ?_
      intro w2 hx hH
      have m10 := hH g10 _ (Blocks.put_same _ _ _)
      replace m7 := hx.keep m7 (by simp)
      replace m8 := hx.keep m8 (by simp)
      replace m9 := hx.keep m9 (by simp)
      have HB2 := Lib.hid (HB1.out.trans (hx.below_of (b := w.heap.size) (by simp) HB1.out.size))
      replace q10 := Nat.le_trans HB1.out.size q10
      clear hx hH HB1 K1
      go_wp2_with fail
      refine wp_game [0, 0, 0, 0, 0, 0, 0, 0, 0, 0, 0, 0, 0, 0, 0, 0, 0, 0] [] B0 fin_B0 (has_B0 _) (by kernel_rfl) (by kernel_rfl) ?_
      refine lex_quietE 18 (by kernel_rfl) (by rfl) ?_
      apply Exists.intro
      refine ⟨fun x hx => ?_, ?_⟩
      · have hwx := HB2.out.trans (hx.below_of (b := w.heap.size) (by simp) HB2.out.size)
        have e10_0 := blk_cellp (hx.keep m10 (by simp)) 0 rfl
        have e8_0 := blk_cellp (hx.keep m8 (by simp)) 0 rfl
        have e7_0 := blk_cellp (hx.keep m7 (by simp)) 0 rfl
        have e9_0 := blk_cellp (hx.keep m9 (by simp)) 0 rfl
        clear hx
        simp only [List.take_succ_cons, List.take_zero]
        unfold Cx
        repeat (go_big_quiet_step (first | with_reducible exact K2.at _ _ | with_reducible exact K3.at _ _ | with_reducible exact K4.at _ _ | with_reducible exact K5.at _ _ | with_reducible exact K6.at _ _))
        exact wpQuiet_nil rfl
      simp only [List.drop_succ_cons, List.drop_zero]
      refine lex_nil ?_
      intro w3 hx hH
      replace m7 := hx.keep m7 (by simp)
      replace m8 := hx.keep m8 (by simp)
      replace m9 := hx.keep m9 (by simp)
      replace m10 := hx.keep m10 (by simp)
      have HB3 := Lib.hid (HB2.out.trans (hx.below_of (b := w.heap.size) (by simp) HB2.out.size))
      clear hx hH HB2 K2 K3 K4 K5 K6
      go_wp2_with fail
      refine wp_game [0, 0, 0] [] B0 fin_B0 (has_B0 _) (by kernel_rfl) (by kernel_rfl) ?_
      refine lex_quietE 3 (by kernel_rfl) (by rfl) ?_
      apply Exists.intro
      refine ⟨fun x hx => ?_, ?_⟩
      · have hwx := HB3.out.trans (hx.below_of (b := w.heap.size) (by simp) HB3.out.size)
        have e8_0 := blk_cellp (hx.keep m8 (by simp)) 0 rfl
        clear hx
        simp only [List.take_succ_cons, List.take_zero]
        unfold Cx
        repeat (go_big_quiet_step (first | with_reducible exact KZ.at _ _))
        exact wpQuiet_nil rfl
      simp only [List.drop_succ_cons, List.drop_zero]
      refine lex_nil ?_
      intro w4 hx hH
      replace m7 := hx.keep m7 (by simp)
      replace m8 := hx.keep m8 (by simp)
      replace m10 := hx.keep m10 (by simp)
      have HB4 := Lib.hid (HB3.out.trans (hx.below_of (b := w.heap.size) (by simp) HB3.out.size))
      clear hx hH HB3 m9 q9
      go_wp2_with (with_reducible refine wpList_from 71 [0, 0, 0, 0, 0, 0, 0, 3, 3, 2, 2, 0] [] B0 (has_B0 _) ?_)
      refine lex_quietE 7 (by kernel_rfl) (by rfl) ?_
      apply Exists.intro
      refine ⟨fun x hx => ?_, ?_⟩
      · have hwx := HB4.out.trans (hx.below_of (b := w.heap.size) (by simp) HB4.out.size)
        have e7_0 := blk_cellp (hx.keep m7 (by simp)) 0 rfl
        have e8_0 := blk_cellp (hx.keep m8 (by simp)) 0 rfl
        clear hx
        simp only [List.take_succ_cons, List.take_zero]
        unfold Cx
        repeat (go_big_quiet_step (first | with_reducible exact KD1.at _ _))
        exact wpQuiet_nil rfl
      simp only [List.drop_succ_cons, List.drop_zero]
      refine lex_alloc (.agg #[.string ByteArray.empty]) (by rfl) (fun x => by kernel_rfl) (fun g11 q11 hn11 => ?_)
      unfold setSlot
      go_big_quiet_step (fail)
      refine wpQuiet_nil ?_
      clear hn11
      refine lex_alloc (.agg #[.string ByteArray.empty]) (by rfl) (fun x => by kernel_rfl) (fun g12 q12 hn12 => ?_)
      unfold setSlot
      go_big_quiet_step (fail)
      refine wpQuiet_nil ?_
      have n12_11 := ne_of_put hn12
      replace hn12 := none_of_put hn12
      clear hn12
      refine lex_store_all g11 _ _ _ (by rfl) (by rfl) (by rfl) ((Blocks.put_other _ _ (Ne.symm n12_11)).trans (Blocks.put_same _ _ _)) (by rfl) (Or.inr q11) (by kernel_rfl) (by simp [Value.oneCell']) ?_
      refine lex_store_all g12 _ _ _ (by rfl) (by rfl) (by rfl) ((Blocks.put_other _ _ n12_11).trans (Blocks.put_same _ _ _)) (by rfl) (Or.inr q12) (by kernel_rfl) (by simp [Value.oneCell']) ?_
      refine lex_quietE 1 (by kernel_rfl) (by rfl) ?_
      apply Exists.intro
      refine ⟨fun x hx => ?_, ?_⟩
      · have hwx := HB4.out.trans (hx.below_of (b := w.heap.size) (by simp) HB4.out.size)
        have e7_0 := blk_cellp (hx.keep m7 (by simp)) 0 rfl
        have e8_0 := blk_cellp (hx.keep m8 (by simp)) 0 rfl
        clear hx
        simp only [List.take_succ_cons, List.take_zero]
        unfold Cx
        repeat (go_big_quiet_step (first | with_reducible exact KD1.at _ _))
        exact wpQuiet_nil rfl
      simp only [List.drop_succ_cons, List.drop_zero]
      refine lex_nil ?_
      intro w5 hx hH
      have m11 := hH g11 _ ((Blocks.put_other _ _ (Ne.symm n12_11)).trans (Blocks.put_same _ _ _))
      have m12 := hH g12 _ (Blocks.put_same _ _ _)
      replace m7 := hx.keep m7 (by simp)
      replace m8 := hx.keep m8 (by simp)
      replace m10 := hx.keep m10 (by simp)
      have HB5 := Lib.hid (HB4.out.trans (hx.below_of (b := w.heap.size) (by simp) HB4.out.size))
      replace q11 := Nat.le_trans HB4.out.size q11
      replace q12 := Nat.le_trans HB4.out.size q12
      clear hx hH HB4 KD1
      go_wp2_with (with_reducible refine wpList_from 78 [0, 0, 0, 0, 0, 0, 0, 3, 3, 2, 2, 0] [] B0 (has_B0 _) ?_)
      refine lex_quietE 7 (by kernel_rfl) (by rfl) ?_
      apply Exists.intro
      refine ⟨fun x hx => ?_, ?_⟩
      · have hwx := HB5.out.trans (hx.below_of (b := w.heap.size) (by simp) HB5.out.size)
        have e7_0 := blk_cellp (hx.keep m7 (by simp)) 0 rfl
        have e10_0 := blk_cellp (hx.keep m10 (by simp)) 0 rfl
        clear hx
        simp only [List.take_succ_cons, List.take_zero]
        unfold Cx
        repeat (go_big_quiet_step (first | with_reducible exact KD2.at _ _))
        exact wpQuiet_nil rfl
      simp only [List.drop_succ_cons, List.drop_zero]
      refine lex_alloc (.agg #[.string ByteArray.empty]) (by rfl) (fun x => by kernel_rfl) (fun g14 q14 hn14 => ?_)
      unfold setSlot
      go_big_quiet_step (fail)
      refine wpQuiet_nil ?_
      clear hn14
      refine lex_alloc (.agg #[.string ByteArray.empty]) (by rfl) (fun x => by kernel_rfl) (fun g15 q15 hn15 => ?_)
      unfold setSlot
      go_big_quiet_step (fail)
      refine wpQuiet_nil ?_
      have n15_14 := ne_of_put hn15
      replace hn15 := none_of_put hn15
      clear hn15
      refine lex_store_all g14 _ _ _ (by rfl) (by rfl) (by rfl) ((Blocks.put_other _ _ (Ne.symm n15_14)).trans (Blocks.put_same _ _ _)) (by rfl) (Or.inr q14) (by kernel_rfl) (by simp [Value.oneCell']) ?_
      refine lex_store_all g15 _ _ _ (by rfl) (by rfl) (by rfl) ((Blocks.put_other _ _ n15_14).trans (Blocks.put_same _ _ _)) (by rfl) (Or.inr q15) (by kernel_rfl) (by simp [Value.oneCell']) ?_
      refine lex_quietE 1 (by kernel_rfl) (by rfl) ?_
      apply Exists.intro
      refine ⟨fun x hx => ?_, ?_⟩
      · have hwx := HB5.out.trans (hx.below_of (b := w.heap.size) (by simp) HB5.out.size)
        have e7_0 := blk_cellp (hx.keep m7 (by simp)) 0 rfl
        have e10_0 := blk_cellp (hx.keep m10 (by simp)) 0 rfl
        clear hx
        simp only [List.take_succ_cons, List.take_zero]
        unfold Cx
        repeat (go_big_quiet_step (first | with_reducible exact KD2.at _ _))
        exact wpQuiet_nil rfl
      simp only [List.drop_succ_cons, List.drop_zero]
      refine lex_nil ?_
      intro w6 hx hH
      have m15 := hH g15 _ (Blocks.put_same _ _ _)
      replace m8 := hx.keep m8 (by simp)
      replace m10 := hx.keep m10 (by simp)
      replace m12 := hx.keep m12 (by simp)
      have HB6 := Lib.hid (HB5.out.trans (hx.below_of (b := w.heap.size) (by simp) HB5.out.size))
      replace q15 := Nat.le_trans HB5.out.size q15
      clear hx hH HB5 m7 m11 q7 q11 q14 KD2
      go_wp2_with (with_reducible refine wpList_from 85 [0, 0, 0, 0, 0, 0, 0, 3, 3, 2, 2, 0] [] B0 (has_B0 _) ?_)
      refine lex_quietE 7 (by kernel_rfl) (by rfl) ?_
      apply Exists.intro
      refine ⟨fun x hx => ?_, ?_⟩
      · have hwx := HB6.out.trans (hx.below_of (b := w.heap.size) (by simp) HB6.out.size)
        have e8_0 := blk_cellp (hx.keep m8 (by simp)) 0 rfl
        have e10_0 := blk_cellp (hx.keep m10 (by simp)) 0 rfl
        clear hx
        simp only [List.take_succ_cons, List.take_zero]
        unfold Cx
        repeat (go_big_quiet_step (first | with_reducible exact KD3.at _ _))
        exact wpQuiet_nil rfl
      simp only [List.drop_succ_cons, List.drop_zero]
      refine lex_alloc (.agg #[.string ByteArray.empty]) (by rfl) (fun x => by kernel_rfl) (fun g17 q17 hn17 => ?_)
      unfold setSlot
      go_big_quiet_step (fail)
      refine wpQuiet_nil ?_
      clear hn17
      refine lex_alloc (.agg #[.string ByteArray.empty]) (by rfl) (fun x => by kernel_rfl) (fun g18 q18 hn18 => ?_)
      unfold setSlot
      go_big_quiet_step (fail)
      refine wpQuiet_nil ?_
      have n18_17 := ne_of_put hn18
      replace hn18 := none_of_put hn18
      clear hn18
      refine lex_store_all g17 _ _ _ (by rfl) (by rfl) (by rfl) ((Blocks.put_other _ _ (Ne.symm n18_17)).trans (Blocks.put_same _ _ _)) (by rfl) (Or.inr q17) (by kernel_rfl) (by simp [Value.oneCell']) ?_
      refine lex_store_all g18 _ _ _ (by rfl) (by rfl) (by rfl) ((Blocks.put_other _ _ n18_17).trans (Blocks.put_same _ _ _)) (by rfl) (Or.inr q18) (by kernel_rfl) (by simp [Value.oneCell']) ?_
      refine lex_quietE 1 (by kernel_rfl) (by rfl) ?_
      apply Exists.intro
      refine ⟨fun x hx => ?_, ?_⟩
      · have hwx := HB6.out.trans (hx.below_of (b := w.heap.size) (by simp) HB6.out.size)
        have e8_0 := blk_cellp (hx.keep m8 (by simp)) 0 rfl
        have e10_0 := blk_cellp (hx.keep m10 (by simp)) 0 rfl
        clear hx
        simp only [List.take_succ_cons, List.take_zero]
        unfold Cx
        repeat (go_big_quiet_step (first | with_reducible exact KD3.at _ _))
        exact wpQuiet_nil rfl
      simp only [List.drop_succ_cons, List.drop_zero]
      refine lex_nil ?_
      intro w7 hx hH
      have m18 := hH g18 _ (Blocks.put_same _ _ _)
      replace m8 := hx.keep m8 (by simp)
      replace m10 := hx.keep m10 (by simp)
      replace m12 := hx.keep m12 (by simp)
      replace m15 := hx.keep m15 (by simp)
      have HB7 := Lib.hid (HB6.out.trans (hx.below_of (b := w.heap.size) (by simp) HB6.out.size))
      replace q18 := Nat.le_trans HB6.out.size q18
      clear hx hH HB6 q17 KD3
      go_wp2_with fail
      refine wp_game [0, 0, 0, 0, 0, 0, 0, 0, 0, 0, 0, 0, 0, 0, 0, 0, 0, 0, 0, 0, 0, 0, 0, 0, 0] [] B0 fin_B0 (has_B0 _) (by kernel_rfl) (by kernel_rfl) ?_
      refine lex_quietE 25 (by kernel_rfl) (by rfl) ?_
      apply Exists.intro
      refine ⟨fun x hx => ?_, ?_⟩
      · have hwx := HB7.out.trans (hx.below_of (b := w.heap.size) (by simp) HB7.out.size)
        have e8_0 := blk_cellp (hx.keep m8 (by simp)) 0 rfl
        have e12_0 := blk_cellp (hx.keep m12 (by simp)) 0 rfl
        have e10_0 := blk_cellp (hx.keep m10 (by simp)) 0 rfl
        have e15_0 := blk_cellp (hx.keep m15 (by simp)) 0 rfl
        have e18_0 := blk_cellp (hx.keep m18 (by simp)) 0 rfl
        clear hx
        simp only [List.take_succ_cons, List.take_zero]
        unfold Cx
        repeat (go_big_quiet_step (first | with_reducible exact K7.at _ _ | with_reducible exact KZ.at _ _ | with_reducible exact KW.at _ _))
        exact wpQuiet_nil rfl
      simp only [List.drop_succ_cons, List.drop_zero]
      refine lex_nil ?_
      intro w8 hx hH
      have HB8 := Lib.hid (HB7.out.trans (hx.below_of (b := w.heap.size) (by simp) HB7.out.size))
      clear hx hH HB7 m8 m10 m12 m15 m18 q8 q10 q12 q15 q18 K7 KZ KW
      go_wp2_with fail
      exact bodyPost_ret (v := .bool true) (by simp [results, Try.results7, go_sem]) rfl ⟨rfl, HB8.out⟩
  · clear hnx hny hnz hx hy hz hcx hcy hcz
    go_enter Try.func7, Try.ntmps7
    have hcase : 12 < nx ∨ (nx ≤ 12 ∧ 12 < ny) ∨ (nx ≤ 12 ∧ ny ≤ 12 ∧ 6 < nz) := by omega
    clear hb
    rcases hcase with h | ⟨h, h'⟩ | ⟨h, h', h''⟩
    all_goals
      go_wp2_with (go_at_call 12; refine (KW _).mono ?_; rintro e w' ⟨rfl, hB⟩)
      exact bodyPost_ret (v := .bool true) (by simp [results, Try.results7, go_sem]) rfl ⟨rfl, hB⟩
end Go.Proofs.Ytdkfeaodgfnhgaa
