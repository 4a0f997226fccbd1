/- The laws of chapter 01 that name the reference. -/
import Derived.Test.YtdkfeaodgfnhgaaYLawsW
import Derived.Test.YtdkfeaodgfnhgaaXRead
import Derived.Test.YtdkfeaodgfnhgaaRefC
import Derived.Test.YtdkfeaodgfnhgaaWUint
namespace Go.Proofs.Ytdkfeaodgfnhgaa
open Go.RowKit Num

theorem gIs (n : Nat) (hn : nl n ≤ 1073741824) : Gives 16 #[natV n, .string (dec n)] (.bool true) := w_is _ _ (gText n hn)

theorem dec_of_nl (n k : Nat) (hk : 0 < k) (h : nl n ≤ k) : (dec n).size ≤ 3 * k := by
  rw [dec_size]
  refine decL_length_le n (3 * k) (by omega) ?_
  refine Nat.lt_of_lt_of_le (lt_pow_nl n) ?_
  refine Nat.le_trans (Nat.pow_le_pow_right (by omega) h) ?_
  rw [Nat.pow_mul]
  exact Nat.pow_le_pow_left (by omega) _

theorem gNum {xs : List Nat} {a : Option Addr} {n c A k : Nat} (w : World) (hn : xs.length = n) (hx : AllLt W xs) (hA : digs W xs = A) (hk : n ≤ k) (hk2 : k ≤ 60) (hc : CellsU w a xs) :
    nl A ≤ 4 * k ∧ GivesFrom w 13 #[.slice a n c] (.tuple #[natV A, .string (dec A)]) := by
  have hnl : nl A ≤ 4 * k := Nat.le_trans (text_nl (by rw [← hA]; exact digs_lt (B := W) (by decide) hx)) (by omega)
  refine ⟨hnl, ?_⟩
  have hsz := dec_of_nl A 240 (by omega) (by omega)
  have KR := gRead (dec A) (by omega)
  rw [bts_dec, readN_decL A (by rw [← dec_size]; omega)] at KR
  refine w_number w a n c _ _ _ (fun w' hb => ?_) KR
  rw [← hA]
  exact xwords_any a xs n c hn hx (by omega) w' (cellsU_below hc hb)

theorem natProducts_law (ax ay : Option Addr) (xs ys : List Nat) (nx cx ny cy : Nat) (hnx : xs.length = nx) (hny : ys.length = ny) (hx : AllLt W xs) (hy : AllLt W ys)
    (w : World) (hcx : CellsU w ax xs) (hcy : CellsU w ay ys) :
    Calls Try.prog 3 #[.slice ax nx cx, .slice ay ny cy] w fun e w' => e = .returned (.bool true) ∧ Below w.heap.size w w' := by
  have KW := gWorks
  by_cases hb : nx ≤ 10 ∧ ny ≤ 10
  · obtain ⟨h1, h2⟩ := hb
    obtain ⟨A, hA⟩ : ∃ A, digs W xs = A := ⟨_, rfl⟩
    obtain ⟨B, hB⟩ : ∃ A, digs W ys = A := ⟨_, rfl⟩
    obtain ⟨bA, FA⟩ := gNum (c := cx) w hnx hx hA h1 (by omega) hcx
    obtain ⟨bB, FB⟩ := gNum (c := cy) w hny hy hB h2 (by omega) hcy
    have sA := dec_of_nl A 40 (by omega) (by omega)
    have sB := dec_of_nl B 40 (by omega) (by omega)
    have bm := nl_mul A B
    have KM := gMul A B (by omega) (by omega)
    have XM := gXMul A B (by omega) (by omega)
    have KG := gGcd A B (by omega) (by omega)
    have XG := gXGcd A B (by omega) (by omega)
    have I1 := gIs (A * B) (by omega)
    rcases Nat.eq_zero_or_pos B with h0 | h0
    · subst h0
      have hg : nl (Nat.gcd A 0) ≤ 1073741824 := by rw [Nat.gcd_zero_right]; omega
      exact w_products_z w ax ay nx cx ny cy h1 h2 _ _ (nb 0) (nb 0) _ _ (nb 0) _ _ (dec 0) (dec 0) _ _ (dec 0) FA FB (gDivZ A (by omega)) (gXDivZ A) KM XM KG XG I1 (gIs 0 (by decide)) (gIs _ hg) KW w (Below.refl _ _)
    · have hg : nl (Nat.gcd A B) ≤ 1073741824 := Nat.le_trans (nl_mono (Nat.gcd_le_right A h0)) (by omega)
      have hq : nl (A / B) ≤ 1073741824 := Nat.le_trans (nl_mono (Nat.div_le_self A B)) (by omega)
      have hr : nl (A % B) ≤ 1073741824 := Nat.le_trans (nl_mono (Nat.mod_le A B)) (by omega)
      exact w_products_n w ax ay nx cx ny cy h1 h2 _ _ _ _ _ _ (nb 0) _ _ _ _ _ _ (dec 0) FA FB (gDiv A B (by omega) (by omega) (by omega)) (gXDiv A B (by omega) (by omega) h0) KM XM KG XG I1 (gIs _ hq) (gIs _ hr) (gIs _ hg) KW w (Below.refl _ _)
  · clear hnx hny hx hy hcx hcy
    go_enter Try.func3, Try.ntmps3
    have hcase : 10 < nx ∨ (nx ≤ 10 ∧ 10 < ny) := by omega
    clear hb
    rcases hcase with h | ⟨h, h'⟩
    all_goals
      go_wp2_with (go_at_call 12; refine (KW _).mono ?_; rintro e w' ⟨rfl, hB⟩)
      exact bodyPost_ret (v := .bool true) (by simp [results, Try.results3, go_sem]) rfl ⟨rfl, hB⟩

theorem natSums_law (ax ay : Option Addr) (xs ys : List Nat) (nx cx ny cy : Nat) (hnx : xs.length = nx) (hny : ys.length = ny) (hx : AllLt W xs) (hy : AllLt W ys)
    (w : World) (hcx : CellsU w ax xs) (hcy : CellsU w ay ys) :
    Calls Try.prog 9 #[.slice ax nx cx, .slice ay ny cy] w fun e w' => e = .returned (.bool true) ∧ Below w.heap.size w w' := by
  have KW := gWorks
  by_cases hb : nx ≤ 24 ∧ ny ≤ 24
  · obtain ⟨h1, h2⟩ := hb
    obtain ⟨A, hA⟩ : ∃ A, digs W xs = A := ⟨_, rfl⟩
    obtain ⟨B, hB⟩ : ∃ A, digs W ys = A := ⟨_, rfl⟩
    obtain ⟨bA, FA⟩ := gNum (c := cx) w hnx hx hA h1 (by omega) hcx
    obtain ⟨bB, FB⟩ := gNum (c := cy) w hny hy hB h2 (by omega) hcy
    have sA := dec_of_nl A 100 (by omega) (by omega)
    have sB := dec_of_nl B 100 (by omega) (by omega)
    have ba := nl_add A B
    have KA := gAdd A B (by omega) (by omega)
    have XA := gXAdd A B (by omega) (by omega)
    have KC := gCmp A B (by omega) (by omega)
    have XC := gXCmp A B
    have I1 := gIs A (by omega)
    have I2 := gIs B (by omega)
    have I3 := gIs (A + B) (by omega)
    rcases Nat.lt_trichotomy A B with h | h | h
    · rw [cmpI_lt h] at KC XC
      exact w_sums_lt w ax ay nx cx ny cy h1 h2 _ _ _ _ _ _ _ _ (nb_toList_ne (by omega)) (toListB_ne fun e => by have := dec_inj e; omega) FA FB (gSubL A B (by omega) (by omega) h) (gXSubL A B h) KA XA KC XC I1 I2 I3 (gIs 0 (by decide)) KW w (Below.refl _ _)
    · subst h
      rw [cmpI_eq] at KC XC
      have bs := nl_mono (Nat.sub_le A A)
      exact w_sums_eq w ax ay nx cx ny cy h1 h2 _ (nb 0) _ _ _ (dec 0) _ _ FA FB (gSub A A (by omega) (by omega) (Nat.le_refl _)) (gXSub A A (by omega) (by omega) (Nat.le_refl _)) KA XA KC XC I1 I2 I3 (gIs (A - A) (by omega)) KW w (Below.refl _ _)
    · rw [cmpI_gt h] at KC XC
      have bs := nl_mono (Nat.sub_le A B)
      exact w_sums_gt w ax ay nx cx ny cy h1 h2 _ _ _ _ _ _ _ _ (nb_toList_ne (by omega)) (toListB_ne fun e => by have := dec_inj e; omega) FA FB (gSub A B (by omega) (by omega) (by omega)) (gXSub A B (by omega) (by omega) (by omega)) KA XA KC XC I1 I2 I3 (gIs (A - B) (by omega)) KW w (Below.refl _ _)
  · clear hnx hny hx hy hcx hcy
    go_enter Try.func9, Try.ntmps9
    have hcase : 24 < nx ∨ (nx ≤ 24 ∧ 24 < ny) := by omega
    clear hb
    rcases hcase with h | ⟨h, h'⟩
    all_goals
      go_wp2_with (go_at_call 12; refine (KW _).mono ?_; rintro e w' ⟨rfl, hB⟩)
      exact bodyPost_ret (v := .bool true) (by simp [results, Try.results9, go_sem]) rfl ⟨rfl, hB⟩

theorem natReads_law (s : ByteArray) (w : World) :
    Calls Try.prog 4 #[.string s] w fun e w' => e = .returned (.bool true) ∧ Below w.heap.size w w' := by
  have KW := gWorks
  by_cases hs : s.size ≤ 2100
  · have KR := gRead s (by omega)
    have XR := gXRead s (by omega)
    by_cases hok : decOk (bts s) = true
    · have hv : readN (bts s) = some (decVal (bts s)) := readN_ok hok
      rw [hv] at KR
      rw [hok] at XR
      have hd := dec_of_ok s hok
      have hnl : nl (decVal (bts s)) ≤ 1073741824 := by
        have h1 := lt_dec_size (decVal (bts s))
        rw [← hd] at h1
        refine Nat.le_trans (nl_le_of_lt (k := s.size) (Nat.lt_of_lt_of_le h1 (Nat.pow_le_pow_left (by omega) _))) (by omega)
      have I := gIs (decVal (bts s)) hnl
      rw [← hd] at I
      exact w_reads s s _ true hs KR XR I KW w
    · have hok' : decOk (bts s) = false := by simpa using hok
      rw [readN_bad hok'] at KR
      rw [hok'] at XR
      have I := gIs 0 (by decide)
      rw [dec_zero48] at I
      exact w_reads s _ _ false hs KR XR I KW w
  · have h : 2100 < s.size := by omega
    clear hs
    go_enter Try.func4, Try.ntmps4
    go_wp2_with (go_at_call 12; refine (KW _).mono ?_; rintro e w' ⟨rfl, hB⟩)
    exact bodyPost_ret (v := .bool true) (by simp [results, Try.results4, go_sem]) rfl ⟨rfl, hB⟩

theorem blen_le {n k : Nat} (h : n < 2 ^ k) : blen n ≤ k := length_le_of_lt_pow (B := 2) (by omega) k n h

theorem natOf_law (m : Nat) (hm : m < 18446744073709551616) (k : Int) (ax : Option Addr) (xs : List Nat) (nx cx : Nat) (hnx : xs.length = nx) (hx : AllLt W xs) (w : World) (hcx : CellsU w ax xs) :
    Calls Try.prog 5 #[.int .u64 (m : Nat), .int .i64 k, .slice ax nx cx] w fun e w' => e = .returned (.bool true) ∧ Below w.heap.size w w' := by
  have KW := gWorks
  by_cases h1 : nx ≤ 20
  · obtain ⟨B, hB⟩ : ∃ A, digs W xs = A := ⟨_, rfl⟩
    obtain ⟨bB, FB⟩ := gNum (c := cx) w hnx hx hB h1 (by omega) hcx
    have sB := dec_of_nl B 80 (by omega) (by omega)
    have bm := nl_u64 hm
    have sm := dec_of_nl m 8 (by omega) bm
    have lm : blen m ≤ 64 := blen_le (by omega)
    have lB : blen B ≤ 8 * 80 := blen_le (Nat.lt_of_lt_of_eq (Nat.lt_of_lt_of_le (lt_pow_nl B) (Nat.pow_le_pow_right (by omega) (show nl B ≤ 80 by omega))) (Nat.pow_mul 2 8 80).symm)
    have KU : Gives 24 #[natV m] (.tuple #[.int .u64 (m : Nat), .bool true]) := fun w => uint_fits m bm w
    have XL : Gives 27 #[.string (dec m)] (.int .i64 (blen m : Nat)) := fun w => xlen_any m (by omega) (by omega) w
    have XL2 : Gives 27 #[.string (dec B)] (.int .i64 (blen B : Nat)) := fun w => xlen_any B (by omega) (by omega) w
    have hU : ∃ (u : Int) (b : Bool), Gives 24 #[natV B] (.tuple #[.int .u64 u, .bool b]) ∧ Gives 28 #[.string (dec B)] (.tuple #[.int .u64 u, .bool b]) := by
      rcases Nat.lt_or_ge B 18446744073709551616 with h | h
      · exact ⟨(B : Nat), true, fun w => uint_fits B (nl_u64 h) w, fun w => xuint_fits B h w⟩
      · refine ⟨0, false, fun w => uint_out B (by omega) ?_ w, fun w => xuint_out B h w⟩
        rcases Nat.lt_or_ge 8 (nl B) with h2 | h2
        · exact h2
        · have h3 := lt_pow_nl B
          have h4 : (256 : Nat) ^ nl B ≤ 256 ^ 8 := Nat.pow_le_pow_right (by omega) h2
          omega
    have hP : ∃ P : Nat, nl P ≤ 1073741824 ∧ Gives 29 #[.int .i64 k] (natV P) ∧ Gives 30 #[.int .i64 k] (.string (dec P)) := by
      by_cases hk : k < 0 ∨ 4096 < k
      · exact ⟨0, by decide, gPowO k hk, fun w => xpow2_out k hk w⟩
      · obtain ⟨n, rfl⟩ := Int.eq_ofNat_of_zero_le (show 0 ≤ k by omega)
        refine ⟨2 ^ n, ?_, gPow n (by omega), fun w => xpow2_any n (by omega) w⟩
        refine Nat.le_trans (nl_le_of_lt (k := n + 1) ?_) (by omega)
        exact Nat.lt_of_lt_of_le (Nat.pow_lt_pow_right (by omega) (Nat.lt_succ_self n)) (Nat.pow_le_pow_left (by omega) _)
    obtain ⟨u, b, KU2, XU⟩ := hU
    obtain ⟨P, nP, KP, XP⟩ := hP
    exact w_of w (m : Nat) k u ax nx cx h1 _ _ _ _ _ _ (blen m) (blen B) b (gOf m hm) KU (gXOf m hm) (gIs m (by omega)) (gLen m (by omega)) XL FB KU2 XU (gLen B (by omega)) XL2 KP XP (gIs P nP) KW w (Below.refl _ _)
  · have h : 20 < nx := by omega
    clear hnx hx hcx h1
    go_enter Try.func5, Try.ntmps5
    go_wp2_with (go_at_call 12; refine (KW _).mono ?_; rintro e w' ⟨rfl, hB⟩)
    exact bodyPost_ret (v := .bool true) (by simp [results, Try.results5, go_sem]) rfl ⟨rfl, hB⟩

end Go.Proofs.Ytdkfeaodgfnhgaa
