/- The laws' own works. -/
import Derived.Test.YtdkfeaodgfnhgaaLFrom
import Derived.Test.YtdkfeaodgfnhgaaWText
import Derived.Test.YtdkfeaodgfnhgaaWLen
namespace Go.Proofs.Ytdkfeaodgfnhgaa
open Go.RowKit Num

theorem nl_huge {n : Nat} (h : n < 256 ^ 200) : nl n ≤ 200 := nl_le_of_lt h
theorem nl_tame {n : Nat} (h : n < 256 ^ 200) : nl n ≤ 536870912 := Nat.le_trans (nl_huge h) (by omega)
theorem nl_tame2 {n : Nat} (h : n < 256 ^ 200) : nl n ≤ 1073741824 := Nat.le_trans (nl_huge h) (by omega)
theorem nl_tame3 {n : Nat} (h : n < 256 ^ 200) : nl n ≤ 1099511627776 := Nat.le_trans (nl_huge h) (by omega)

theorem work_dec1 : dec 340282366920938463426481119284349108225 = { data := #[51, 52, 48, 50, 56, 50, 51, 54, 54, 57, 50, 48, 57, 51, 56, 52, 54, 51, 52, 50, 54, 52, 56, 49, 49, 49, 57, 50, 56, 52, 51, 52, 57, 49, 48, 56, 50, 50, 53] } := by kernel_rfl
theorem work_dec2 : dec 14285714285714285714 = { data := #[49, 52, 50, 56, 53, 55, 49, 52, 50, 56, 53, 55, 49, 52, 50, 56, 53, 55, 49, 52] } := by kernel_rfl
theorem work_dec3 : dec 1048576 = { data := #[49, 48, 52, 56, 53, 55, 54] } := by kernel_rfl
theorem work_read1 : (readN (bts { data := #[49, 48, 48, 48, 48, 48, 48, 48, 48, 48, 48, 48, 48, 48, 48, 48, 48, 48, 48, 48, 48] })).getD 0 = 100000000000000000000 := by kernel_rfl
theorem work_read2 : (readN (bts { data := #[51, 54, 53, 54, 49, 53, 56, 52, 52, 48, 48, 54, 50, 57, 55, 54] })).getD 0 = 3656158440062976 := by kernel_rfl
theorem work_gcd : Nat.gcd 1180591620717411303424 3656158440062976 = 1048576 := by kernel_rfl
theorem work_len : blen 18446744073709551616 = 65 := by kernel_rfl

set_option maxHeartbeats 1600000 in
set_option maxRecDepth 100000 in
theorem works_law (w : World) :
    Calls Try.prog 12 #[] w fun e w' => e = .returned (.bool true) ∧ Below w.heap.size w w' := by
  obtain ⟨A, hA⟩ : ∃ A : Nat, A = 18446744073709551615 := ⟨_, rfl⟩
  obtain ⟨B, hB⟩ : ∃ A : Nat, A = 340282366920938463426481119284349108225 := ⟨_, rfl⟩
  obtain ⟨X, hX⟩ : ∃ A : Nat, A = 100000000000000000000 := ⟨_, rfl⟩
  obtain ⟨S, hS⟩ : ∃ A : Nat, A = 7 := ⟨_, rfl⟩
  obtain ⟨Q, hQ⟩ : ∃ A : Nat, A = 14285714285714285714 := ⟨_, rfl⟩
  obtain ⟨R, hR⟩ : ∃ A : Nat, A = 2 := ⟨_, rfl⟩
  obtain ⟨P1, hP1⟩ : ∃ A : Nat, A = 18446744073709551616 := ⟨_, rfl⟩
  obtain ⟨P2, hP2⟩ : ∃ A : Nat, A = 1180591620717411303424 := ⟨_, rfl⟩
  obtain ⟨Y, hY⟩ : ∃ A : Nat, A = 3656158440062976 := ⟨_, rfl⟩
  obtain ⟨G, hG⟩ : ∃ A : Nat, A = 1048576 := ⟨_, rfl⟩
  have K1 := Lib.hid (fun w => (show Calls Try.prog 23 #[.int .u64 18446744073709551615] w fun e w' => e = .returned (.agg #[.string (nb A)]) ∧ Below w.heap.size w w' by rw [hA]; exact of_any 18446744073709551615 (by decide) w))
  have K2 := Lib.hid (fun w => (show Calls Try.prog 39 #[.string { data := #[49, 48, 48, 48, 48, 48, 48, 48, 48, 48, 48, 48, 48, 48, 48, 48, 48, 48, 48, 48, 48] }] w fun e w' => e = .returned (.agg #[.string (nb X)]) ∧ Below w.heap.size w w' by
    rw [hX, ← work_read1]; exact read_law _ w (by decide)))
  have K3 := Lib.hid (fun w => (show Calls Try.prog 23 #[.int .u64 7] w fun e w' => e = .returned (.agg #[.string (nb S)]) ∧ Below w.heap.size w w' by rw [hS]; exact of_any 7 (by decide) w))
  have K4 := Lib.hid (fun w => (show Calls Try.prog 14 #[.agg #[.string (nb X)], .agg #[.string (nb S)]] w fun e w' => e = .returned (.tuple #[.agg #[.string (nb Q)], .agg #[.string (nb R)], .bool true]) ∧ Below w.heap.size w w' by
    rw [hX, hS, hQ, hR]; exact div_pos 100000000000000000000 7 (nl_tame (by decide)) (nl_tame (by decide)) (by decide) w))
  have K5 := Lib.hid (fun w => (show Calls Try.prog 17 #[.agg #[.string (nb A)], .agg #[.string (nb A)]] w fun e w' => e = .returned (.agg #[.string (nb B)]) ∧ Below w.heap.size w w' by
    rw [hA, hB]; exact mul_any 18446744073709551615 18446744073709551615 (nl_tame2 (by decide)) (nl_tame2 (by decide)) w))
  have K6 := Lib.hid (fun w => (show Calls Try.prog 34 #[.agg #[.string (nb B)]] w fun e w' => e = .returned (.string { data := #[51, 52, 48, 50, 56, 50, 51, 54, 54, 57, 50, 48, 57, 51, 56, 52, 54, 51, 52, 50, 54, 52, 56, 49, 49, 49, 57, 50, 56, 52, 51, 52, 57, 49, 48, 56, 50, 50, 53] }) ∧ Below w.heap.size w w' by
    rw [hB, ← work_dec1]; exact text_any _ (nl_tame2 (by decide)) w))
  have K7 := Lib.hid (fun w => (show Calls Try.prog 34 #[.agg #[.string (nb Q)]] w fun e w' => e = .returned (.string { data := #[49, 52, 50, 56, 53, 55, 49, 52, 50, 56, 53, 55, 49, 52, 50, 56, 53, 55, 49, 52] }) ∧ Below w.heap.size w w' by
    rw [hQ, ← work_dec2]; exact text_any _ (nl_tame2 (by decide)) w))
  have K8 := Lib.hid (fun w => (show Calls Try.prog 23 #[.int .u64 2] w fun e w' => e = .returned (.agg #[.string (nb R)]) ∧ Below w.heap.size w w' by rw [hR]; exact of_any 2 (by decide) w))
  have K9 := Lib.hid (fun w => (show Calls Try.prog 29 #[.int .i64 64] w fun e w' => e = .returned (.agg #[.string (nb P1)]) ∧ Below w.heap.size w w' by rw [hP1]; exact pow2_any 64 (by omega) w))
  have K10 := Lib.hid (fun w => (show Calls Try.prog 26 #[.agg #[.string (nb P1)]] w fun e w' => e = .returned (.int .i64 65) ∧ Below w.heap.size w w' by
    rw [hP1]; have := len_any 18446744073709551616 (nl_tame3 (by decide)) w; rw [work_len] at this; exact this))
  have K11 := Lib.hid (fun w => (show Calls Try.prog 29 #[.int .i64 70] w fun e w' => e = .returned (.agg #[.string (nb P2)]) ∧ Below w.heap.size w w' by rw [hP2]; exact pow2_any 70 (by omega) w))
  have K12 := Lib.hid (fun w => (show Calls Try.prog 39 #[.string { data := #[51, 54, 53, 54, 49, 53, 56, 52, 52, 48, 48, 54, 50, 57, 55, 54] }] w fun e w' => e = .returned (.agg #[.string (nb Y)]) ∧ Below w.heap.size w w' by
    rw [hY, ← work_read2]; exact read_law _ w (by decide)))
  have K13 := Lib.hid (fun w => (show Calls Try.prog 19 #[.agg #[.string (nb P2)], .agg #[.string (nb Y)]] w fun e w' => e = .returned (.agg #[.string (nb G)]) ∧ Below w.heap.size w w' by
    rw [hP2, hY, hG, ← work_gcd]; exact gcd_any _ _ (nl_tame (by decide)) (nl_tame (by decide)) w))
  have K14 := Lib.hid (fun w => (show Calls Try.prog 34 #[.agg #[.string (nb G)]] w fun e w' => e = .returned (.string { data := #[49, 48, 52, 56, 53, 55, 54] }) ∧ Below w.heap.size w w' by
    rw [hG, ← work_dec3]; exact text_any _ (nl_tame2 (by decide)) w))
  clear hA hB hX hS hQ hR hP1 hP2 hY hG
  generalize nb A = sA at *
  generalize nb B = sB at *
  generalize nb X = sX at *
  generalize nb S = sS at *
  generalize nb Q = sQ at *
  generalize nb R = sR at *
  generalize nb P1 = sP1 at *
  generalize nb P2 = sP2 at *
  generalize nb Y = sY at *
  generalize nb G = sG at *
  go_enter Try.func12, Try.ntmps12
  go_wp2_with fail
  refine (K1.out _).mono ?_
  rintro e w1 ⟨rfl, hB1⟩
  go_wp2_with fail
  have c1 : (w1.alloc (Obj.cells #[Value.string sA] 25)).cell? ⟨w1.heap.size, 0, none⟩ = some (.string sA) := by simp [go_sem]
  have HB1 := Lib.hid (hB1.alloc hB1.size (Obj.cells #[Value.string sA] 25))
  have hs1 : w.heap.size ≤ w1.heap.size ∧ w1.heap.size < (w1.alloc (Obj.cells #[Value.string sA] 25)).heap.size := ⟨hB1.size, by simp⟩
  generalize w1.alloc (Obj.cells #[Value.string sA] 25) = w2 at *
  generalize w1.heap.size = b1 at *
  clear hB1
  refine (K2.out _).mono ?_
  rintro e w3 ⟨rfl, hB2⟩
  go_wp2_with fail
  refine (K3.out _).mono ?_
  rintro e w4 ⟨rfl, hB3⟩
  go_wp2_with fail
  refine (K4.out _).mono ?_
  rintro e w5 ⟨rfl, hB4⟩
  have hB5 := (hB2.trans (hB3.mono hB2.size)).trans (hB4.mono (Nat.le_trans hB2.size hB3.size))
  have c2 := below_cell hB5 hs1.2 c1
  have hs5 := hB5.size
  have HB5 := Lib.hid (HB1.out.trans (hB5.mono (B' := w.heap.size) (by omega)))
  clear hB2 hB3 hB4 hB5 c1 HB1 K1 K2 K3 K4
  go_wp2_with fail
  have d1 := cell_alloc (cell_alloc c2 (Obj.cells #[Value.string sQ] 25)) (Obj.cells #[Value.string sR] 25)
  have d2 : ((w5.alloc (Obj.cells #[Value.string sQ] 25)).alloc (Obj.cells #[Value.string sR] 25)).cell? ⟨w5.heap.size, 0, none⟩ = some (.string sQ) := by simp [go_sem]
  have d3 : ((w5.alloc (Obj.cells #[Value.string sQ] 25)).alloc (Obj.cells #[Value.string sR] 25)).cell? ⟨w5.heap.size + 1, 0, none⟩ = some (.string sR) := by simp [go_sem]
  have hs6 : w5.heap.size + 2 = ((w5.alloc (Obj.cells #[Value.string sQ] 25)).alloc (Obj.cells #[Value.string sR] 25)).heap.size := by simp
  have HB6 := Lib.hid ((HB5.out.alloc (by omega) (Obj.cells #[Value.string sQ] 25)).alloc (by simp; omega) (Obj.cells #[Value.string sR] 25))
  generalize (w5.alloc (Obj.cells #[Value.string sQ] 25)).alloc (Obj.cells #[Value.string sR] 25) = w6 at *
  generalize w5.heap.size = b2 at *
  clear c2 HB5
  replace d1 := plus_cell d1 (by omega)
  replace d2 := plus_cell d2 (by omega)
  replace d3 := plus_cell d3 (by omega)
  refine wp_plus (by kernel_rfl) (by kernel_rfl) ?_
  repeat (go_big_quiet_step (first
    | (go_at_call 17; exact calls_plus (K5.out _))
    | (go_at_call 23; exact calls_plus (K8.out _))
    | (go_at_call 29; first | with_reducible exact calls_plus (K9.out _) | with_reducible exact calls_plus (K11.out _))
    | (go_at_call 26; exact calls_plus (K10.out _))
    | (go_at_call 39; exact calls_plus (K12.out _))
    | (go_at_call 19; exact calls_plus (K13.out _))
    | (go_at_call 34; first | with_reducible exact calls_plus (K6.out _) | with_reducible exact calls_plus (K7.out _) | with_reducible exact calls_plus (K14.out _))))

  refine wpQuiet_nil ?_
  rintro _ ⟨p, rfl⟩
  have HB7 := Lib.hid (HB6.out.trans ((below_plus w6 p).mono (B' := w.heap.size) (by omega)))
  clear HB6 d1 d2 d3 K5 K6 K7 K8 K9 K10 K11 K12 K13 K14
  go_wp2_with fail
  exact bodyPost_ret (v := .bool true) (by simp [results, Try.results12, go_sem]) rfl ⟨rfl, HB7.out⟩
end Go.Proofs.Ytdkfeaodgfnhgaa
