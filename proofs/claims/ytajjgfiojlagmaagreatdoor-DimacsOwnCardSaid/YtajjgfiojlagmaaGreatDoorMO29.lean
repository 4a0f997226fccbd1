/- Texts of this claim, joined: ZFns, ZGive, VXRead. -/
import Derived.Test.YtajjgfiojlagmaaGreatDoorMO11
import Derived.Test.YtajjgfiojlagmaaGreatDoorMO13
import Derived.Test.YtajjgfiojlagmaaGreatDoorMO14
import Derived.Test.YtajjgfiojlagmaaGreatDoorMO16
import Derived.Test.YtajjgfiojlagmaaGreatDoorMO17

/- The walks of the reference of chapter 02. -/
namespace Go.Proofs.YtajjgfiojlagmaaGreatDoor
open Go.RowKit Num

set_option maxHeartbeats 1600000 in
set_option maxRecDepth 100000 in
theorem w_xzero  : Gives 59 #[] (.agg #[.string { data := #[48] }, .string { data := #[49] }]) := by
  intro w
  have HB0 := Lib.hid (Below.refl w.heap.size w)
  go_enter Tryz.func59, Tryz.ntmps59
  go_wp2_with (with_reducible refine wpList_from 0 [3] [] B0 (has_B0 _) ?_)
  refine lex_alloc (.agg #[.string ByteArray.empty, .string ByteArray.empty]) (by rfl) (fun x => by kernel_rfl) (fun g0 q0 hn0 => ?_)
  unfold setSlot
  go_big_quiet_step (fail)
  refine wpQuiet_nil ?_
  clear hn0
  refine lex_nil ?_
  intro w1 hx hH
  have m0 := hH g0 _ (Blocks.put_same _ _ _)
  have HB1 := Lib.hid (HB0.out.trans (hx.below_of (b := w.heap.size) (by simp) HB0.out.size))
  replace q0 := Nat.le_trans HB0.out.size q0
  clear hx hH HB0
  go_wp2_with (with_reducible refine wpList_from 1 [0, 2] [g0] _ (has_put (has_B0 _) m0) ?_)
  refine lex_quietE 1 (by kernel_rfl) (by rfl) ?_
  apply Exists.intro
  refine ⟨fun x hx => ?_, ?_⟩
  · have hwx := HB1.out.trans (hx.below_of (b := w.heap.size) (by simp [q0]) HB1.out.size)
    clear hx
    simp only [List.take_succ_cons, List.take_zero]
    unfold Cx
    repeat (go_big_quiet_step (fail))
    exact wpQuiet_nil rfl
  simp only [List.drop_succ_cons, List.drop_zero]
  refine lex_store_all g0 _ _ _ (by rfl) (by rfl) (by rfl) (Blocks.put_same _ _ _) (by rfl) (Or.inl (by simp)) (by kernel_rfl) (by simp [Value.oneCell']) ?_
  refine lex_nil ?_
  intro w2 hx hH
  replace m0 := hH g0 _ (Blocks.put_same _ _ _)
  have HB2 := Lib.hid (HB1.out.trans (hx.below_of (b := w.heap.size) (by simp [q0]) HB1.out.size))
  clear hx hH HB1
  have c0_0 := blk_cell m0 0 rfl
  have c0_1 := blk_cell m0 1 rfl
  go_wp2_with fail
  exact bodyPost_ret (v := .agg #[.string { data := #[48] }, .string { data := #[49] }]) (by simp [results, Tryz.results59, go_sem, c0_0, c0_1]) rfl ⟨rfl, HB2.out⟩

set_option maxHeartbeats 1600000 in
set_option maxRecDepth 100000 in
theorem w_xnew_z (n d : ByteArray) (hd : d.toList = [48]) (KZ : Gives 59 #[] (.agg #[.string { data := #[48] }, .string { data := #[49] }])) : Gives 60 #[.string n, .string d] (.tuple #[.agg #[.string { data := #[48] }, .string { data := #[49] }], .bool false]) := by
  intro w
  have HB0 := Lib.hid (Below.refl w.heap.size w)
  go_enter Tryz.func60, Tryz.ntmps60
  go_wp2_with (with_reducible refine wpList_from 4 [3, 0] [] B0 (has_B0 _) ?_)
  refine lex_alloc (.agg #[.string ByteArray.empty, .string ByteArray.empty]) (by rfl) (fun x => by kernel_rfl) (fun g4 q4 hn4 => ?_)
  unfold setSlot
  go_big_quiet_step (fail)
  refine wpQuiet_nil ?_
  clear hn4
  refine lex_quietE 1 (by kernel_rfl) (by rfl) ?_
  apply Exists.intro
  refine ⟨fun x hx => ?_, ?_⟩
  · have hwx := HB0.out.trans (hx.below_of (b := w.heap.size) (by simp) HB0.out.size)
    clear hx
    simp only [List.take_succ_cons, List.take_zero]
    unfold Cx
    repeat (go_big_quiet_step (fail))
    exact wpQuiet_nil rfl
  simp only [List.drop_succ_cons, List.drop_zero]
  refine lex_nil ?_
  intro w1 hx hH
  have m4 := hH g4 _ (Blocks.put_same _ _ _)
  have HB1 := Lib.hid (HB0.out.trans (hx.below_of (b := w.heap.size) (by simp) HB0.out.size))
  replace q4 := Nat.le_trans HB0.out.size q4
  clear hx hH HB0
  go_wp2_with (with_reducible refine wpList_from 15 [0, 2, 0] [g4] _ (has_put (has_B0 _) m4) ?_)
  refine lex_quietE 1 (by kernel_rfl) (by rfl) ?_
  apply Exists.intro
  refine ⟨fun x hx => ?_, ?_⟩
  · have hwx := HB1.out.trans (hx.below_of (b := w.heap.size) (by simp [q4]) HB1.out.size)
    clear hx
    simp only [List.take_succ_cons, List.take_zero]
    unfold Cx
    repeat (go_big_quiet_step (first | with_reducible exact KZ.at _ _))
    exact wpQuiet_nil rfl
  simp only [List.drop_succ_cons, List.drop_zero]
  refine lex_store_all g4 _ _ _ (by rfl) (by rfl) (by rfl) (Blocks.put_same _ _ _) (by rfl) (Or.inl (by simp)) (by kernel_rfl) (by simp [Value.oneCell']) ?_
  refine lex_quietE 1 (by kernel_rfl) (by rfl) ?_
  apply Exists.intro
  refine ⟨fun x hx => ?_, ?_⟩
  · have hwx := HB1.out.trans (hx.below_of (b := w.heap.size) (by simp [q4]) HB1.out.size)
    clear hx
    simp only [List.take_succ_cons, List.take_zero]
    unfold Cx
    repeat (go_big_quiet_step (first | with_reducible exact KZ.at _ _))
    exact wpQuiet_nil rfl
  simp only [List.drop_succ_cons, List.drop_zero]
  refine lex_nil ?_
  intro w2 hx hH
  replace m4 := hH g4 _ (Blocks.put_same _ _ _)
  have HB2 := Lib.hid (HB1.out.trans (hx.below_of (b := w.heap.size) (by simp [q4]) HB1.out.size))
  clear hx hH HB1
  have c4_0 := blk_cell m4 0 rfl
  have c4_1 := blk_cell m4 1 rfl
  go_wp2_with fail
  exact bodyPost_ret (v := .tuple #[.agg #[.string { data := #[48] }, .string { data := #[49] }], .bool false]) (by simp [results, Tryz.results60, go_sem, c4_0, c4_1]) rfl ⟨rfl, HB2.out⟩

set_option maxHeartbeats 1600000 in
set_option maxRecDepth 100000 in
theorem w_xnew_n (n d g a b r1 r2 : ByteArray) (hd : (d.toList == [48]) = false) (KG : Gives 85 #[.string n, .string d] (.string g)) (KA : Gives 86 #[.string n, .string g] (.tuple #[.string a, .string r1, .bool true])) (KB : Gives 86 #[.string d, .string g] (.tuple #[.string b, .string r2, .bool true])) : Gives 60 #[.string n, .string d] (.tuple #[.agg #[.string a, .string b], .bool true]) := by
  intro w
  have HB0 := Lib.hid (Below.refl w.heap.size w)
  go_enter Tryz.func60, Tryz.ntmps60
  go_wp2_with (with_reducible refine wpList_from 4 [3, 0] [] B0 (has_B0 _) ?_)
  refine lex_alloc (.agg #[.string ByteArray.empty, .string ByteArray.empty]) (by rfl) (fun x => by kernel_rfl) (fun g4 q4 hn4 => ?_)
  unfold setSlot
  go_big_quiet_step (fail)
  refine wpQuiet_nil ?_
  clear hn4
  refine lex_quietE 1 (by kernel_rfl) (by rfl) ?_
  apply Exists.intro
  refine ⟨fun x hx => ?_, ?_⟩
  · have hwx := HB0.out.trans (hx.below_of (b := w.heap.size) (by simp) HB0.out.size)
    clear hx
    simp only [List.take_succ_cons, List.take_zero]
    unfold Cx
    repeat (go_big_quiet_step (fail))
    exact wpQuiet_nil rfl
  simp only [List.drop_succ_cons, List.drop_zero]
  refine lex_nil ?_
  intro w1 hx hH
  have m4 := hH g4 _ (Blocks.put_same _ _ _)
  have HB1 := Lib.hid (HB0.out.trans (hx.below_of (b := w.heap.size) (by simp) HB0.out.size))
  replace q4 := Nat.le_trans HB0.out.size q4
  clear hx hH HB0
  go_wp2_with (with_reducible refine wpList_from 18 [0, 0] [] B0 (has_B0 _) ?_)
  refine lex_quietE 2 (by kernel_rfl) (by rfl) ?_
  apply Exists.intro
  refine ⟨fun x hx => ?_, ?_⟩
  · have hwx := HB1.out.trans (hx.below_of (b := w.heap.size) (by simp) HB1.out.size)
    clear hx
    simp only [List.take_succ_cons, List.take_zero]
    unfold Cx
    repeat (go_big_quiet_step (first | with_reducible exact KG.at _ _))
    exact wpQuiet_nil rfl
  simp only [List.drop_succ_cons, List.drop_zero]
  refine lex_nil ?_
  intro w2 hx hH
  replace m4 := hx.keep m4 (by simp)
  have HB2 := Lib.hid (HB1.out.trans (hx.below_of (b := w.heap.size) (by simp) HB1.out.size))
  clear hx hH HB1
  go_wp2_with (with_reducible refine wpList_from 22 [0, 0, 0, 0, 0, 0, 0, 0] [] B0 (has_B0 _) ?_)
  refine lex_quietE 8 (by kernel_rfl) (by rfl) ?_
  apply Exists.intro
  refine ⟨fun x hx => ?_, ?_⟩
  · have hwx := HB2.out.trans (hx.below_of (b := w.heap.size) (by simp) HB2.out.size)
    clear hx
    simp only [List.take_succ_cons, List.take_zero]
    unfold Cx
    repeat (go_big_quiet_step (first | with_reducible exact KA.at _ _))
    exact wpQuiet_nil rfl
  simp only [List.drop_succ_cons, List.drop_zero]
  refine lex_nil ?_
  intro w3 hx hH
  replace m4 := hx.keep m4 (by simp)
  have HB3 := Lib.hid (HB2.out.trans (hx.below_of (b := w.heap.size) (by simp) HB2.out.size))
  clear hx hH HB2
  go_wp2_with (with_reducible refine wpList_from 29 [0, 0, 0, 0, 0, 0, 0, 0] [] B0 (has_B0 _) ?_)
  refine lex_quietE 8 (by kernel_rfl) (by rfl) ?_
  apply Exists.intro
  refine ⟨fun x hx => ?_, ?_⟩
  · have hwx := HB3.out.trans (hx.below_of (b := w.heap.size) (by simp) HB3.out.size)
    clear hx
    simp only [List.take_succ_cons, List.take_zero]
    unfold Cx
    repeat (go_big_quiet_step (first | with_reducible exact KB.at _ _))
    exact wpQuiet_nil rfl
  simp only [List.drop_succ_cons, List.drop_zero]
  refine lex_nil ?_
  intro w4 hx hH
  replace m4 := hx.keep m4 (by simp)
  have HB4 := Lib.hid (HB3.out.trans (hx.below_of (b := w.heap.size) (by simp) HB3.out.size))
  clear hx hH HB3
  go_wp2_with (with_reducible refine wpList_from 35 [0, 2, 0] [g4] _ (has_put (has_B0 _) m4) ?_)
  refine lex_quietE 1 (by kernel_rfl) (by rfl) ?_
  apply Exists.intro
  refine ⟨fun x hx => ?_, ?_⟩
  · have hwx := HB4.out.trans (hx.below_of (b := w.heap.size) (by simp [q4]) HB4.out.size)
    clear hx
    simp only [List.take_succ_cons, List.take_zero]
    unfold Cx
    repeat (go_big_quiet_step (fail))
    exact wpQuiet_nil rfl
  simp only [List.drop_succ_cons, List.drop_zero]
  refine lex_store_all g4 _ _ _ (by rfl) (by rfl) (by rfl) (Blocks.put_same _ _ _) (by rfl) (Or.inl (by simp)) (by kernel_rfl) (by simp [Value.oneCell']) ?_
  refine lex_quietE 1 (by kernel_rfl) (by rfl) ?_
  apply Exists.intro
  refine ⟨fun x hx => ?_, ?_⟩
  · have hwx := HB4.out.trans (hx.below_of (b := w.heap.size) (by simp [q4]) HB4.out.size)
    clear hx
    simp only [List.take_succ_cons, List.take_zero]
    unfold Cx
    repeat (go_big_quiet_step (fail))
    exact wpQuiet_nil rfl
  simp only [List.drop_succ_cons, List.drop_zero]
  refine lex_nil ?_
  intro w5 hx hH
  replace m4 := hH g4 _ (Blocks.put_same _ _ _)
  have HB5 := Lib.hid (HB4.out.trans (hx.below_of (b := w.heap.size) (by simp [q4]) HB4.out.size))
  clear hx hH HB4
  have c4_0 := blk_cell m4 0 rfl
  have c4_1 := blk_cell m4 1 rfl
  go_wp2_with fail
  exact bodyPost_ret (v := .tuple #[.agg #[.string a, .string b], .bool true]) (by simp [results, Tryz.results60, go_sem, c4_0, c4_1]) rfl ⟨rfl, HB5.out⟩

set_option maxHeartbeats 1600000 in
set_option maxRecDepth 100000 in
theorem w_xtext1 (a b : ByteArray) (hb : b.toList = [49]) : Gives 61 #[.agg #[.string a, .string b]] (.string a) := by
  intro w
  have HB0 := Lib.hid (Below.refl w.heap.size w)
  go_enter Tryz.func61, Tryz.ntmps61
  go_wp2_with (with_reducible refine wpList_from 1 [3, 0] [] B0 (has_B0 _) ?_)
  refine lex_box_agg _ (by rfl) (by rfl) (fun g1 q1 hn1 => ?_)
  unfold setSlot
  go_big_quiet_step (fail)
  refine wpQuiet_nil ?_
  clear hn1
  refine lex_quietE 1 (by kernel_rfl) (by rfl) ?_
  apply Exists.intro
  refine ⟨fun x hx => ?_, ?_⟩
  · have hwx := HB0.out.trans (hx.below_of (b := w.heap.size) (by simp) HB0.out.size)
    clear hx
    simp only [List.take_succ_cons, List.take_zero]
    unfold Cx
    repeat (go_big_quiet_step (fail))
    exact wpQuiet_nil rfl
  simp only [List.drop_succ_cons, List.drop_zero]
  refine lex_nil ?_
  intro w1 hx hH
  have m1 := hH g1 _ (Blocks.put_same _ _ _)
  have HB1 := Lib.hid (HB0.out.trans (hx.below_of (b := w.heap.size) (by simp) HB0.out.size))
  replace q1 := Nat.le_trans HB0.out.size q1
  clear hx hH HB0
  go_wp2_with (with_reducible refine wpList_from 3 [0, 0, 0] [] B0 (has_B0 _) ?_)
  refine lex_quietE 3 (by kernel_rfl) (by rfl) ?_
  apply Exists.intro
  refine ⟨fun x hx => ?_, ?_⟩
  · have hwx := HB1.out.trans (hx.below_of (b := w.heap.size) (by simp) HB1.out.size)
    have e1_0 := blk_cellp (hx.keep m1 (by simp)) 0 rfl
    have e1_1 := blk_cellp (hx.keep m1 (by simp)) 1 rfl
    clear hx
    simp only [List.take_succ_cons, List.take_zero]
    unfold Cx
    repeat (go_big_quiet_step (fail))
    exact wpQuiet_nil rfl
  simp only [List.drop_succ_cons, List.drop_zero]
  refine lex_nil ?_
  intro w2 hx hH
  replace m1 := hx.keep m1 (by simp)
  have HB2 := Lib.hid (HB1.out.trans (hx.below_of (b := w.heap.size) (by simp) HB1.out.size))
  clear hx hH HB1
  go_wp2_with (with_reducible refine wpList_from 6 [0, 0, 0] [] B0 (has_B0 _) ?_)
  refine lex_quietE 3 (by kernel_rfl) (by rfl) ?_
  apply Exists.intro
  refine ⟨fun x hx => ?_, ?_⟩
  · have hwx := HB2.out.trans (hx.below_of (b := w.heap.size) (by simp) HB2.out.size)
    have e1_0 := blk_cellp (hx.keep m1 (by simp)) 0 rfl
    have e1_1 := blk_cellp (hx.keep m1 (by simp)) 1 rfl
    clear hx
    simp only [List.take_succ_cons, List.take_zero]
    unfold Cx
    repeat (go_big_quiet_step (fail))
    exact wpQuiet_nil rfl
  simp only [List.drop_succ_cons, List.drop_zero]
  refine lex_nil ?_
  intro w3 hx hH
  have HB3 := Lib.hid (HB2.out.trans (hx.below_of (b := w.heap.size) (by simp) HB2.out.size))
  clear hx hH HB2 m1 q1
  go_wp2_with fail
  exact bodyPost_ret (v := .string a) (by simp [results, Tryz.results61, go_sem]) rfl ⟨rfl, HB3.out⟩

set_option maxHeartbeats 1600000 in
set_option maxRecDepth 100000 in
theorem w_xtext2 (a b : ByteArray) (hb : (b.toList == [49]) = false) (h1 : a.size ≤ 100000000000) (h2 : b.size ≤ 100000000000) : Gives 61 #[.agg #[.string a, .string b]] (.string (a ++ { data := #[47] } ++ b)) := by
  intro w
  have HB0 := Lib.hid (Below.refl w.heap.size w)
  go_enter Tryz.func61, Tryz.ntmps61
  go_wp2_with (with_reducible refine wpList_from 1 [3, 0] [] B0 (has_B0 _) ?_)
  refine lex_box_agg _ (by rfl) (by rfl) (fun g1 q1 hn1 => ?_)
  unfold setSlot
  go_big_quiet_step (fail)
  refine wpQuiet_nil ?_
  clear hn1
  refine lex_quietE 1 (by kernel_rfl) (by rfl) ?_
  apply Exists.intro
  refine ⟨fun x hx => ?_, ?_⟩
  · have hwx := HB0.out.trans (hx.below_of (b := w.heap.size) (by simp) HB0.out.size)
    clear hx
    simp only [List.take_succ_cons, List.take_zero]
    unfold Cx
    repeat (go_big_quiet_step (fail))
    exact wpQuiet_nil rfl
  simp only [List.drop_succ_cons, List.drop_zero]
  refine lex_nil ?_
  intro w1 hx hH
  have m1 := hH g1 _ (Blocks.put_same _ _ _)
  have HB1 := Lib.hid (HB0.out.trans (hx.below_of (b := w.heap.size) (by simp) HB0.out.size))
  replace q1 := Nat.le_trans HB0.out.size q1
  clear hx hH HB0
  go_wp2_with (with_reducible refine wpList_from 3 [0, 0, 0] [] B0 (has_B0 _) ?_)
  refine lex_quietE 3 (by kernel_rfl) (by rfl) ?_
  apply Exists.intro
  refine ⟨fun x hx => ?_, ?_⟩
  · have hwx := HB1.out.trans (hx.below_of (b := w.heap.size) (by simp) HB1.out.size)
    have e1_0 := blk_cellp (hx.keep m1 (by simp)) 0 rfl
    have e1_1 := blk_cellp (hx.keep m1 (by simp)) 1 rfl
    clear hx
    simp only [List.take_succ_cons, List.take_zero]
    unfold Cx
    repeat (go_big_quiet_step (fail))
    exact wpQuiet_nil rfl
  simp only [List.drop_succ_cons, List.drop_zero]
  refine lex_nil ?_
  intro w2 hx hH
  replace m1 := hx.keep m1 (by simp)
  have HB2 := Lib.hid (HB1.out.trans (hx.below_of (b := w.heap.size) (by simp) HB1.out.size))
  clear hx hH HB1
  go_wp2_with (with_reducible refine wpList_from 8 [0, 0, 0, 0, 0, 0, 0] [] B0 (has_B0 _) ?_)
  refine lex_quietE 7 (by kernel_rfl) (by rfl) ?_
  apply Exists.intro
  refine ⟨fun x hx => ?_, ?_⟩
  · have hwx := HB2.out.trans (hx.below_of (b := w.heap.size) (by simp) HB2.out.size)
    have e1_0 := blk_cellp (hx.keep m1 (by simp)) 0 rfl
    have e1_1 := blk_cellp (hx.keep m1 (by simp)) 1 rfl
    clear hx
    simp only [List.take_succ_cons, List.take_zero]
    unfold Cx
    repeat (go_big_quiet_step (fail))
    exact wpQuiet_nil rfl
  simp only [List.drop_succ_cons, List.drop_zero]
  refine lex_nil ?_
  intro w3 hx hH
  have HB3 := Lib.hid (HB2.out.trans (hx.below_of (b := w.heap.size) (by simp) HB2.out.size))
  clear hx hH HB2 m1 q1
  go_wp2_with fail
  exact bodyPost_ret (v := .string (a ++ { data := #[47] } ++ b)) (by simp [results, Tryz.results61, go_sem]) rfl ⟨rfl, HB3.out⟩

end Go.Proofs.YtajjgfiojlagmaaGreatDoor

/- The numbers of the reference of chapter 02. -/
namespace Go.Proofs.YtajjgfiojlagmaaGreatDoor
open Go.RowKit Num

def xratV (p : Nat × Nat) : Value := .agg #[.string (dec p.1), .string (dec p.2)]

theorem dec_nl (n k : Nat) (hk : 0 < k) (h : nl n ≤ k) : (dec n).size ≤ 3 * k := dec_small_of n k hk h
theorem dec1 : dec 1 = { data := #[49] } := by kernel_rfl
theorem dec1_list : (dec 1).toList = [49] := by
  unfold dec
  rw [toList_mkStr]; rfl
theorem dec_not1 {b : Nat} (h : b ≠ 1) : ((dec b).toList == [49]) = false := by
  rw [beq_eq_false_iff_ne]
  intro e
  exact toList_ne (fun e2 => h (dec_inj e2)) (e.trans dec1_list.symm)

theorem gXZero : Gives 59 #[] (xratV (0, 1)) := by
  have := w_xzero
  rw [← dec_zero48, ← dec1] at this
  exact this

theorem gXNew (n d : Nat) (hn : nl n ≤ 1000000) (hd : nl d ≤ 1000000) (h0 : 0 < d) : Gives 60 #[.string (dec n), .string (dec d)] (.tuple #[xratV (Q.red n d), .bool true]) := by
  have hg : 0 < Nat.gcd n d := Nat.gcd_pos_of_pos_right n h0
  have sn := dec_nl n 1000000 (by omega) hn
  have sd := dec_nl d 1000000 (by omega) hd
  have sg := Nat.le_trans (dec_size_mono (Nat.gcd_le_right n h0)) sd
  exact w_xnew_n _ _ _ _ _ _ _ (dec_toList_ne (by omega)) (gXGcd n d (by omega) (by omega)) (gXDiv n (Nat.gcd n d) (by omega) (by omega) hg) (gXDiv d (Nat.gcd n d) (by omega) (by omega) hg)
theorem gXNewZ (n : Nat) : Gives 60 #[.string (dec n), .string (dec 0)] (.tuple #[xratV (0, 1), .bool false]) := by
  have := w_xnew_z (dec n) (dec 0) dec0_list (by have := gXZero; unfold xratV at this; rw [dec1, dec_zero48] at this; exact this)
  rw [← dec_zero48, ← dec1] at this
  exact this

theorem gXText (p : Nat × Nat) (hp : Sm 1000000 p) (h0 : 0 < p.2) : Gives 61 #[xratV p] (.string (rtext p)) := by
  obtain ⟨n, d⟩ := p
  obtain ⟨h1, h2⟩ := hp
  unfold rtext
  simp only at *
  rw [dn_of h0]
  by_cases h : d = 1
  · rw [if_pos h]
    subst h
    exact w_xtext1 _ _ dec1_list
  · rw [if_neg h]
    exact w_xtext2 _ _ (dec_not1 h) (dec_small n h1) (dec_small d h2)

section
variable (p q : Nat × Nat) (hp : Sm 10000 p) (hq : Sm 10000 q) (lp : Q.Low p) (lq : Q.Low q)
include hp hq

include lp lq
end

end Go.Proofs.YtajjgfiojlagmaaGreatDoor

/- The law RatReads. -/
namespace Go.Proofs.YtajjgfiojlagmaaGreatDoor
open Go.RowKit Num

theorem gXRead1 : Gives 58 #[.string { data := #[49] }] (.tuple #[.string { data := #[49] }, .bool true]) := by
  have := gXRead { data := #[49] } (by decide)
  rw [show decOk (bts { data := #[49] }) = true by kernel_rfl, if_pos rfl] at this
  exact this

theorem decOk_none {l : List Nat} (h : readN l = none) : decOk l = false := by
  cases h1 : decOk l with
  | false => rfl
  | true => rw [readN_ok h1] at h; cases h

theorem gXReadN {s : ByteArray} (hs : s.size ≤ 9223372036854775807) (h : readN (bts s) = none) : Gives 58 #[.string s] (.tuple #[.string { data := #[48] }, .bool false]) := by
  have := gXRead s hs
  rw [decOk_none h, if_neg (by decide)] at this
  exact this
theorem gXReadY {s : ByteArray} {n : Nat} (hs : s.size ≤ 9223372036854775807) (h : readN (bts s) = some n) : Gives 58 #[.string s] (.tuple #[.string (dec n), .bool true]) := by
  obtain ⟨h1, _, h3⟩ := readN_small h
  have := gXRead s hs
  rw [h3, if_pos rfl] at this
  rw [← h1]; exact this

theorem gXRatRead (s : ByteArray) (hs : s.size ≤ 1000000) : Gives 37 #[.string s] (.tuple #[xratV ((ratRead s).getD (0, 1)), .bool (ratRead s).isSome]) := by
  have KZ := w_xzero
  cases hc : cutL (bts s) with
  | none =>
    rw [ratRead_no hc]
    have hno := (cut_miss hc).2
    cases hr : readN (bts s) with
    | none =>
      have := w_xrread1a s _ _ s s s true hno (by omega) (gXReadN (by omega) hr) gXRead1 KZ
      rw [← dec_zero48, ← dec1] at this
      exact this
    | some n =>
      obtain ⟨h1, h2, _⟩ := readN_small hr
      have KN := gXNew n 1 (by omega) (by decide) (by decide)
      have KT := gXText (n, 1) ⟨by simp only; omega, by simp only; decide⟩ Nat.one_pos
      rw [red_one, dec1] at KN
      rw [show rtext (n, 1) = s by rw [h1]; rfl] at KT
      exact w_xrread1e s _ _ _ _ s true hno (by omega) (gXReadY (by omega) hr) gXRead1 KN KT
  | some p =>
    obtain ⟨a, b⟩ := p
    obtain ⟨hk, _, h47, hno, ea, eb⟩ := cut_hit hc
    have z1 : (s.extract 0 a.length).size ≤ 1000000 := by rw [← bts_length, ea]; omega
    have z2 : (s.extract (a.length + 1) s.size).size ≤ 1000000 := by
      have := congrArg List.length (cutL_some hc).1
      rw [bts_length] at this
      simp at this
      rw [← bts_length, eb]; omega
    have h47 := h47 hk
    rw [ratRead_at hc]
    cases hra : readN a with
    | none =>
      have hr : readN (bts (s.extract 0 a.length)) = none := by rw [ea]; exact hra
      rw [pairRead_none]
      have KR2 := gXRead (s.extract (a.length + 1) s.size) (by omega)
      have := w_xrread2a s _ _ s s s _ a.length hk h47 hno (by omega) (gXReadN (by omega) hr) KR2 KZ
      rw [← dec_zero48, ← dec1] at this
      exact this
    | some n =>
      have hr : readN (bts (s.extract 0 a.length)) = some n := by rw [ea]; exact hra
      cases hrb : readN b with
      | none =>
        have hr2 : readN (bts (s.extract (a.length + 1) s.size)) = none := by rw [eb]; exact hrb
        rw [pairRead_none2]
        have := w_xrread2b s _ _ s s s true a.length hk h47 hno (by omega) (gXReadY (by omega) hr) (gXReadN (by omega) hr2) KZ
        rw [← dec_zero48, ← dec1] at this
        exact this
      | some d =>
        have hr2 : readN (bts (s.extract (a.length + 1) s.size)) = some d := by rw [eb]; exact hrb
        obtain ⟨_, h2, _⟩ := readN_small hr
        obtain ⟨_, h4, _⟩ := readN_small hr2
        have KR := gXReadY (by omega) hr
        have KR2 := gXReadY (by omega) hr2
        rw [pairRead_some]
        rcases Nat.eq_zero_or_pos d with h0 | h0
        · subst h0
          rw [if_neg (fun h => absurd h.1 (Nat.lt_irrefl 0))]
          have := w_xrread2c s _ _ _ _ s true a.length hk h47 hno (by omega) KR KR2 (gXNewZ n) KZ
          rw [← dec_zero48, ← dec1] at this
          exact this
        · have KN := gXNew n d (by omega) (by omega) h0
          have KT := gXText (Q.red n d) (Sm.mono (Sm.red (k := 1000) (by omega) (by omega)) (by omega)) (Q.red_low h0).1
          by_cases ht : rtext (Q.red n d) = s
          · rw [if_pos ⟨h0, ht⟩]
            rw [ht] at KT
            exact w_xrread2e s _ _ _ _ s true a.length hk h47 hno (by omega) KR KR2 KN KT
          · rw [if_neg fun h => ht h.2]
            have := w_xrread2d s _ _ _ _ _ true a.length hk h47 hno (by omega) (by rw [beq_eq_false_iff_ne]; exact toList_ne ht) KR KR2 KN KZ KT
            rw [← dec_zero48, ← dec1] at this
            exact this

end Go.Proofs.YtajjgfiojlagmaaGreatDoor
