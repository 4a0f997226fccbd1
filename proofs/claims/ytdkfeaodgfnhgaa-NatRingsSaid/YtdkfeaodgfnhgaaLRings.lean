/- NatRings. -/
import Derived.Test.YtdkfeaodgfnhgaaLRaw
namespace Go.Proofs.Ytdkfeaodgfnhgaa
open Go.RowKit Num

set_option maxHeartbeats 1600000 in
set_option maxRecDepth 100000 in
theorem natRings_law (ax ay az : Option Addr) (xs ys zs : List Nat) (nx cx ny cy nz cz : Nat) (hnx : xs.length = nx) (hny : ys.length = ny) (hnz : zs.length = nz) (hx : AllLt W xs) (hy : AllLt W ys) (hz : AllLt W zs)
    (w : World) (hcx : CellsU w ax xs) (hcy : CellsU w ay ys) (hcz : CellsU w az zs) :
    Calls Try.prog 10 #[.slice ax nx cx, .slice ay ny cy, .slice az nz cz] w fun e w' => e = .returned (.bool true) ∧ Below w.heap.size w w' := by
  have KW := gWorks
  by_cases hb : nx ≤ 16 ∧ ny ≤ 16 ∧ nz ≤ 16
  · obtain ⟨h1, h2, h3⟩ := hb
    obtain ⟨A, hA⟩ : ∃ A, digs W xs = A := ⟨_, rfl⟩
    obtain ⟨B, hB⟩ : ∃ A, digs W ys = A := ⟨_, rfl⟩
    obtain ⟨C, hC⟩ : ∃ A, digs W zs = A := ⟨_, rfl⟩
    obtain ⟨bA, KA⟩ := gFrom (c := cx) w hnx hx hA h1 (by omega) hcx
    obtain ⟨bB, KB⟩ := gFrom (c := cy) w hny hy hB h2 (by omega) hcy
    obtain ⟨bC, KC⟩ := gFrom (c := cz) w hnz hz hC h3 (by omega) hcz
    clear hnx hny hnz hx hy hz hcx hcy hcz hA hB hC
    have KZ : Gives 23 #[.int .u64 0] (natV 0) := gOf 0 (by decide)
    have KO : Gives 23 #[.int .u64 1] (natV 1) := gOf 1 (by decide)
    have nS := nl_add A B
    have nT := nl_add (A + B) C
    have nU := nl_add B C
    have nM := nl_mul A B
    have nN := nl_mul (A * B) C
    have nV := nl_mul B C
    have nY := nl_mul A C
    have n0 : nl 0 = 0 := rfl
    have n1 : nl 1 ≤ 200 := nl_huge (by decide)
    have K1 := gAdd A B (by omega) (by omega)
    have K2 := gSub (A + B) A (by omega) (by omega) (by omega)
    rw [Nat.add_sub_cancel_left] at K2
    have K3 := gAdd B A (by omega) (by omega)
    rw [Nat.add_comm B A] at K3
    have K4 := gAdd (A + B) C (by omega) (by omega)
    have K5 := gAdd B C (by omega) (by omega)
    have K6 := gAdd A (B + C) (by omega) (by omega)
    rw [← Nat.add_assoc A B C] at K6
    have K7 := gMul A B (by omega) (by omega)
    have K8 := gMul B A (by omega) (by omega)
    rw [Nat.mul_comm B A] at K8
    have K9 := gMul (A * B) C (by omega) (by omega)
    have K10 := gMul B C (by omega) (by omega)
    have K11 := gMul A (B * C) (by omega) (by omega)
    rw [← Nat.mul_assoc A B C] at K11
    have K12 := gMul (A + B) C (by omega) (by omega)
    have K13 := gMul A C (by omega) (by omega)
    have K14 := gAdd (A * C) (B * C) (by omega) (by omega)
    rw [← Nat.add_mul A B C] at K14
    have K15 := gAdd A 0 (by omega) (by omega)
    have K16 := gMul A 1 (by omega) (by omega)
    have K17 := gMul A 0 (by omega) (by omega)
    rw [Nat.add_zero] at K15
    rw [Nat.mul_one] at K16
    rw [Nat.mul_zero] at K17
    clear nS nT nU nM nN nV nY n0 n1 bA bB bC
    unfold natV at *
    generalize nb (A * B * C) = sN at *
    generalize nb ((A + B) * C) = sX at *
    generalize nb (A + B + C) = sT at *
    generalize nb (A + B) = sS at *
    generalize nb (B + C) = sU at *
    generalize nb (A * B) = sM at *
    generalize nb (B * C) = sV at *
    generalize nb (A * C) = sY at *
    generalize nb A = sA at *
    generalize nb B = sB at *
    generalize nb C = sC at *
    generalize nb 0 = s0 at *
    generalize nb 1 = s1 at *
    go_enter Try.func10, Try.ntmps10
    go_wp2_with (with_reducible refine wpList_calls 4 ?_)
    simp only [List.take_succ_cons, List.take_zero, List.drop_succ_cons, List.drop_zero]
    repeat (go_big_quiet_step (first
      | with_reducible exact KA.at _
      | with_reducible exact KB.at _
      | with_reducible exact KC.at _))
    refine wpQuiet_nil ?_
    rintro _ ⟨p, rfl⟩
    have hB1 := below_plus w p
    generalize plus w p = w1 at *
    go_wp2_with (with_reducible refine wpList_calls 0 ?_)
    obtain ⟨w2, hw2, c7, c8, c9, sz2, hB2⟩ := boxes3 w1 sA sB sC
    simp only [← hw2]
    clear hw2
    have hs1 := hB1.size
    have HB2 := Lib.hid (hB1.trans (hB2.mono hs1))
    generalize w1.heap.size = b1 at *
    clear hB1 hB2 KA KB KC
    simp only [List.take_zero, List.drop_zero]
    repeat (go_big_quiet_step (with_reducible exact K1.at _ _))
    refine wpQuiet_nil ?_
    rintro _ ⟨p, rfl⟩
    have hB3 := below_plus w2 p
    replace c7 := plus_cell c7 (by omega) p
    replace c8 := plus_cell c8 (by omega) p
    replace c9 := plus_cell c9 (by omega) p
    generalize plus w2 p = w3 at *
    have d7 := cell_alloc c7
    go_wp2_with (with_reducible refine wpList_calls 3 ?_)
    obtain ⟨w4, hw4, c10, sz4, hB4⟩ := boxes1 w3 sS
    simp only [← hw4]
    clear hw4 d7
    have hs3 := hB3.size
    have HB4 := Lib.hid (HB2.out.trans ((hB3.trans (hB4.mono hs3)).mono (B' := w.heap.size) (by omega)))
    replace c7 := below_cell hB4 (by omega) c7
    replace c8 := below_cell hB4 (by omega) c8
    replace c9 := below_cell hB4 (by omega) c9
    generalize w3.heap.size = b3 at *
    clear hB3 hB4 HB2 K1
    simp only [List.take_succ_cons, List.take_zero, List.drop_succ_cons, List.drop_zero]
    repeat (go_big_quiet_step (with_reducible exact K2.at _ _))
    refine wpQuiet_nil ?_
    rintro _ ⟨p, rfl⟩
    have hB5 := below_plus w4 p
    replace c7 := plus_cell c7 (by omega) p
    replace c8 := plus_cell c8 (by omega) p
    replace c9 := plus_cell c9 (by omega) p
    replace c10 := plus_cell c10 (by omega) p
    generalize plus w4 p = w5 at *
    go_wp2_with fail
    obtain ⟨w6, hw6, c11, sz6, hB6⟩ := boxes1 w5 sB
    simp only [← hw6]
    clear hw6
    have hs5 := hB5.size
    have HB6 := Lib.hid (HB4.out.trans ((hB5.trans (hB6.mono hs5)).mono (B' := w.heap.size) (by omega)))
    replace c7 := below_cell hB6 (by omega) c7
    replace c8 := below_cell hB6 (by omega) c8
    replace c9 := below_cell hB6 (by omega) c9
    replace c10 := below_cell hB6 (by omega) c10
    generalize w5.heap.size = b5 at *
    clear hB5 hB6 HB4 K2
    have d7 := plus_cell c7 (by omega)
    have d8 := plus_cell c8 (by omega)
    have d9 := plus_cell c9 (by omega)
    have d10 := plus_cell c10 (by omega)
    have d11 := plus_cell c11 (by omega)
    refine wp_plus (by kernel_rfl) (by kernel_rfl) ?_
    repeat (go_big_quiet_step (first
      | with_reducible exact K3.at _ _
      | with_reducible exact K4.at _ _
      | with_reducible exact K5.at _ _
      | with_reducible exact K6.at _ _
      | with_reducible exact K7.at _ _
      | with_reducible exact K8.at _ _))
    refine wpQuiet_nil ?_
    rintro _ ⟨p, rfl⟩
    have hB7 := below_plus w6 p
    have hs7 := hB7.size
    have HB7 := Lib.hid (HB6.out.trans (hB7.mono (B' := w.heap.size) (by omega)))
    replace c7 := plus_cell c7 (by omega) p
    replace c8 := plus_cell c8 (by omega) p
    replace c9 := plus_cell c9 (by omega) p
    replace c10 := plus_cell c10 (by omega) p
    generalize plus w6 p = w7 at *
    clear hB7 HB6 d7 d8 d9 d10 d11 c11 K3 K4 K5 K6 K8
    go_wp2_with fail
    have d7 := plus_cell c7 (by omega)
    have d8 := plus_cell c8 (by omega)
    have d9 := plus_cell c9 (by omega)
    have d10 := plus_cell c10 (by omega)
    refine wp_plus (by kernel_rfl) (by kernel_rfl) ?_
    repeat (go_big_quiet_step (first
      | with_reducible exact K7.at _ _
      | with_reducible exact K9.at _ _
      | with_reducible exact K10.at _ _
      | with_reducible exact K11.at _ _
      | with_reducible exact K12.at _ _
      | with_reducible exact K13.at _ _
      | with_reducible exact K14.at _ _
      | with_reducible exact K15.at _ _
      | with_reducible exact K16.at _ _
      | with_reducible exact K17.at _ _
      | with_reducible exact KZ.at _ _
      | with_reducible exact KO.at _ _
      | with_reducible exact KW.at _ _))
    refine wpQuiet_nil ?_
    rintro _ ⟨p, rfl⟩
    have hB8 := below_plus w7 p
    have HB8 := Lib.hid (HB7.out.trans (hB8.mono (B' := w.heap.size) (by omega)))
    clear hB8 HB7 c7 c8 c9 c10 d7 d8 d9 d10 K7 K9 K10 K11 K12 K13 K14 K15 K16 K17 KZ KO KW
    go_wp2_with fail
    exact bodyPost_ret (v := .bool true) (by simp [results, Try.results10, go_sem]) rfl ⟨rfl, HB8.out⟩
  · clear hnx hny hnz hx hy hz hcx hcy hcz
    go_enter Try.func10, Try.ntmps10
    have hcase : 16 < nx ∨ (nx ≤ 16 ∧ 16 < ny) ∨ (nx ≤ 16 ∧ ny ≤ 16 ∧ 16 < nz) := by omega
    clear hb
    rcases hcase with h | ⟨h, h'⟩ | ⟨h, h', h''⟩
    all_goals
      go_wp2_with (go_at_call 12; refine (KW _).mono ?_; rintro e w' ⟨rfl, hB⟩)
      exact bodyPost_ret (v := .bool true) (by simp [results, Try.results10, go_sem]) rfl ⟨rfl, hB⟩
end Go.Proofs.Ytdkfeaodgfnhgaa
