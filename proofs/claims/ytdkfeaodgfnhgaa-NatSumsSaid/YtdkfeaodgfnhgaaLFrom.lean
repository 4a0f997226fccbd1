/- The laws' own from, read. -/
import Derived.Test.YtdkfeaodgfnhgaaWPow
import Derived.Test.YtdkfeaodgfnhgaaPlus
namespace Go.Proofs.Ytdkfeaodgfnhgaa
open Go.RowKit Num

theorem text_nl {n k : Nat} (h : n < W ^ k) : nl n ≤ 4 * k := nl_le_of_lt (by rw [show (256:Nat) ^ (4 * k) = W ^ k by rw [Nat.pow_mul]]; exact h)

theorem cells_below {w w' : World} {a : Option Addr} {xs : List Nat} (h : CellsU w a xs) (hb : Below w.heap.size w w') : CellsU w' a xs := fun i d hi => by
  obtain ⟨b, o, ha, hc⟩ := h i d hi
  refine ⟨b, o, ha, below_cell hb ?_ hc⟩
  exact block_lt_of_cell hc

set_option maxHeartbeats 800000 in
theorem read_law (s : ByteArray) (w : World) (hs : s.size ≤ 1099511627776) :
    Calls Try.prog 39 #[.string s] w fun e w' => e = .returned (natV ((readN (bts s)).getD 0)) ∧ Below w.heap.size w w' := by
  go_enter Try.func39, Try.ntmps39
  go_wp2_with fail
  refine (read_any s hs _).mono ?_
  rintro e w2 ⟨rfl, hB⟩
  generalize hx : (readN (bts s)).getD 0 = x
  have HXX := Lib.hid hx
  clear hx
  generalize (readN (bts s)).isSome = b
  have h1 := below_cell hB (b := w.heap.size) (o := 0) (by simp) (v := .string { data := #[] }) (by simp)
  have h2 : w2.frozen? ⟨w.heap.size, 0, none⟩ = false := by
    rw [hB.frozen (p := ⟨w.heap.size, 0, none⟩) (by simp)]; simp
  have hs2 : w.heap.size + 1 ≤ w2.heap.size := by have := hB.size; simp at this; omega
  have HB := Lib.hid (((Below.refl w.heap.size w).alloc (Nat.le_refl _) _).trans (hB.mono (by simp)))
  clear hB
  replace h1 := cell_alloc h1
  replace h2 := frozen_alloc h2 (by omega)
  unfold natV
  go_wp2_with fail
  exact bodyPost_ret (v := natV x) (by simp [results, Try.results39, go_sem, natV, h1]) rfl ⟨by rw [HXX.out], (HB.out.alloc (by omega) _).setCell (by simp) _⟩

set_option maxHeartbeats 800000 in
theorem from_law (a : Option Addr) (xs : List Nat) (n c : Nat) (hn : xs.length = n) (hx : AllLt W xs) (hs : n ≤ 1000) (w : World) (hcell : CellsU w a xs) :
    Calls Try.prog 31 #[.slice a n c] w fun e w' => e = .returned (natV (digs W xs)) ∧ Below w.heap.size w w' := by
  have HC := Lib.hid hcell
  have HN := Lib.hid hn
  have HX := Lib.hid hx
  clear hcell hn hx
  go_enter Try.func31, Try.ntmps31
  go_wp2_with fail
  go_loopw [4] (fun i wr => ∃ k : Nat, k ≤ n ∧ i = .int .i64 ((k : Int) - 1) ∧
      wr.cell? ⟨w.heap.size, 0, none⟩ = some (.string { data := #[] }) ∧ wr.frozen? ⟨w.heap.size, 0, none⟩ = false ∧
      wr.cell? ⟨w.heap.size + 1, 0, none⟩ = some (.string (nb (digs W (xs.drop k)))) ∧ wr.frozen? ⟨w.heap.size + 1, 0, none⟩ = false ∧ Below w.heap.size w wr ∧ w.heap.size + 2 ≤ wr.heap.size)
    (fun i _ => (intOf i + 1).toNat)
  case atStart =>
    refine ⟨n, Nat.le_refl _, rfl, by simp [go_sem], by simp [go_sem], ?_, by simp [go_sem], ((Below.refl _ _).alloc (Nat.le_refl _) _).alloc (by simp) _, by simp⟩
    rw [List.drop_eq_nil_of_le (Nat.le_of_eq HN.out)]
    simp [go_sem, digs, nb_zero2]
  case round =>
    obtain ⟨k, hk, rfl, c1, f1, c2, f2, hB, hsz⟩ := hrel
    have hC := cells_below HC.out hB
    have HB := Lib.hid hB
    clear hB
    rcases Nat.eq_zero_or_pos k with rfl | hp
    · clear hC
      rw [List.drop_zero] at c2
      go_wp2_with fail
      exact bodyPost_ret (v := natV (digs W xs)) (by simp [results, Try.results31, go_sem, natV, c1, c2]) rfl ⟨rfl, HB.out.setCell (by simp) _⟩
    · obtain ⟨j, rfl⟩ : ∃ j, k = j + 1 := ⟨k - 1, by omega⟩
      rw [show ((j + 1 : Nat) : Int) - 1 = (j : Nat) by omega]
      clear hp
      have hj : j < xs.length := by rw [HN.out]; omega
      obtain ⟨b, o, rfl, hcell⟩ := hC j xs[j] (List.getElem?_eq_getElem hj)
      obtain ⟨E, hE⟩ : ∃ E : Nat, E = 2 ^ 32 := ⟨_, rfl⟩
      have HP : ∀ w : World, Calls Try.prog 29 #[.int .i64 32] w fun e w' => e = .returned (natV E) ∧ Below w.heap.size w w' := fun w => by rw [hE]; exact pow2_any 32 (by omega) w
      have hV2 : nl E ≤ 1000 := by rw [hE]; decide
      have HV : Hid (digs W (xs.drop (j + 1)) * E + xs[j] = digs W (xs.drop j)) := by
        unfold Hid; rw [hE]; rw [List.drop_eq_getElem_cons hj, digs_cons]; unfold W; omega
      have hd := HX.out xs[j] (List.getElem_mem hj)
      have hV : nl (digs W (xs.drop (j + 1))) ≤ 4000 := Nat.le_trans (text_nl (digs_lt (B := W) (by decide) (HX.out.drop _))) (by have := HN.out; simp; omega)
      unfold W at hd
      clear hC
      have c1 := plus_cell c1 (by omega)
      have c2 := plus_cell c2 (by omega)
      have f1 := plus_frozen f1 (by omega)
      have f2 := plus_frozen f2 (by omega)
      have hcell := plus_cell hcell (block_lt_of_cell hcell)
      have HM := Lib.hid (fun w => mul_any (digs W (xs.drop (j + 1))) E (by omega) (by omega) w)
      have HA := Lib.hid (fun w => add_any (digs W (xs.drop (j + 1)) * E) xs[j] (by have := nl_mul (digs W (xs.drop (j + 1))) E; omega) (by have := nl_u64 (n := xs[j]) (by omega); omega) w)
      have HO := Lib.hid (fun w => of_any xs[j] (by omega) w)
      have HP := Lib.hid HP
      clear hE hV hV2
      rw [HV.out] at HA
      clear HV
      generalize xs[j] = d at *
      generalize digs W (xs.drop (j + 1)) * E = VE at *
      generalize digs W (xs.drop (j + 1)) = V at *
      generalize hVV : digs W (xs.drop j) = V' at *
      have HVV := Lib.hid hVV
      clear hVV
      go_wp2_with fail
      refine wp_plus_tail 10 (by kernel_rfl) (by kernel_rfl) ?_
      simp only [List.take_succ_cons, List.take_zero, List.drop_succ_cons, List.drop_zero]
      repeat (go_big_quiet_step (first
        | (go_at_call 29; exact calls_plus (HP.out _))
        | (go_at_call 17; exact calls_plus (HM.out _))
        | (go_at_call 23; exact calls_plus (HO.out _))
        | (go_at_call 32; exact calls_plus (HA.out _))))
      refine wpQuiet_nil ?_
      rintro _ ⟨p, rfl⟩
      have d1 := c1 p
      have d2 := c2 p
      have e1 := f1 p
      have e2 := f2 p
      have hBp := below_plus wr p
      have hs3 : w.heap.size + 2 ≤ (plus wr p).heap.size := Nat.le_trans hsz hBp.size
      have HBp := Lib.hid (HB.out.trans (hBp.mono (B' := w.heap.size) (by omega)))
      clear hBp hcell c1 c2 f1 f2 HM HA HO HP HB
      generalize plus wr p = w3 at *
      unfold natV
      go_wp2_with fail
      go_roundw
      case rel =>
        exact ⟨j, by omega, rfl, by simp [go_sem, d1], by simp [go_sem, e1], by simp [go_sem, d2, HVV.out], by simp [go_sem, e2], HBp.out.setCell (by simp) _, by simpa using hs3⟩
      case measure => simp [intOf]
end Go.Proofs.Ytdkfeaodgfnhgaa
