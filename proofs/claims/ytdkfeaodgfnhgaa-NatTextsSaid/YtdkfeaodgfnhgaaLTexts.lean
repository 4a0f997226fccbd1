/- NatTexts: the law. -/
import Derived.Test.YtdkfeaodgfnhgaaLTextsN
import Derived.Test.YtdkfeaodgfnhgaaLTextsZ
namespace Go.Proofs.Ytdkfeaodgfnhgaa
open Go.RowKit Num

theorem lt_two_blen (n : Nat) : n < 2 ^ blen n := lt_pow_length (B := 2) (by omega) n
theorem two_blen_le (n : Nat) (h : n ≠ 0) : 2 ^ (blen n - 1) ≤ n := by
  rcases Nat.lt_or_ge n (2 ^ (blen n - 1)) with h1 | h1
  · have := length_le_of_lt_pow (B := 2) (by omega) (blen n - 1) n h1
    have h2 : (digitsOf 2 n).length = blen n := rfl
    have h3 : 0 < blen n := by
      rcases Nat.eq_zero_or_pos (blen n) with h0 | h0
      · have := lt_two_blen n; rw [h0] at this; omega
      · exact h0
    omega
  · exact h1
theorem blen_pos (n : Nat) (h : n ≠ 0) : 1 ≤ blen n := by
  rcases Nat.eq_zero_or_pos (blen n) with h0 | h0
  · have := lt_two_blen n; rw [h0] at this; omega
  · exact h0

set_option maxRecDepth 100000 in
theorem natTexts_law (ax ay : Option Addr) (xs ys : List Nat) (nx cx ny cy : Nat) (hnx : xs.length = nx) (hny : ys.length = ny) (hx : AllLt W xs) (hy : AllLt W ys)
    (w : World) (hcx : CellsU w ax xs) (hcy : CellsU w ay ys) :
    Calls Try.prog 8 #[.slice ax nx cx, .slice ay ny cy] w fun e w' => e = .returned (.bool true) ∧ Below w.heap.size w w' := by
  by_cases hb : nx ≤ 24 ∧ ny ≤ 24
  · obtain ⟨h1, h2⟩ := hb
    obtain ⟨A, hA⟩ : ∃ A, digs W xs = A := ⟨_, rfl⟩
    obtain ⟨B, hB⟩ : ∃ A, digs W ys = A := ⟨_, rfl⟩
    obtain ⟨bA, FA⟩ := gFrom (c := cx) w hnx hx hA h1 (by omega) hcx
    obtain ⟨bB, FB⟩ := gFrom (c := cy) w hny hy hB h2 (by omega) hcy
    have lA : A < W ^ 24 := by
      rw [← hA]
      have := digs_lt (B := W) (by decide) hx
      rw [hnx] at this
      exact Nat.lt_of_lt_of_le this (Nat.pow_le_pow_right (by decide) h1)
    have sA300 := decL_length_le A 240 (by omega) (Nat.lt_of_lt_of_le lA (by decide))
    have KT1 := gText A (by omega)
    have KT2 := gText B (by omega)
    have KR := gRead (dec A) (by rw [dec_size]; omega)
    rw [bts_dec, readN_decL A (by omega)] at KR
    have KC1 := gCmp A B (by omega) (by omega)
    have KC2 := gCmp B A (by omega) (by omega)
    have KZ : Gives 23 #[.int .u64 0] (natV 0) := gOf 0 (by decide)
    have KL := gLen A (by omega)
    have KW := gWorks
    have hlt : A < B → (dec A).size < (dec B).size ∨ ((dec B).size = (dec A).size ∧ Op.bytesLess (dec A).toList (dec B).toList = true) := fun h => by
      rw [dec_size, dec_size]
      rcases Nat.lt_trichotomy (decL A).length (decL B).length with h3 | h3 | h3
      · exact .inl h3
      · exact .inr ⟨h3.symm, by rw [dec_less A B h3]; simpa using h⟩
      · have := dec_len_lt _ _ h3; omega
    have hgt : B < A → (dec B).size < (dec A).size ∨ ((dec B).size = (dec A).size ∧ Op.bytesLess (dec A).toList (dec B).toList = false) := fun h => by
      rw [dec_size, dec_size]
      rcases Nat.lt_trichotomy (decL A).length (decL B).length with h3 | h3 | h3
      · have := dec_len_lt _ _ h3; omega
      · exact .inr ⟨h3.symm, by rw [dec_less A B h3]; simp; omega⟩
      · exact .inl h3
    have heq : Op.bytesLess (dec A).toList (dec A).toList = false := by rw [dec_less A A rfl]; simp
    by_cases h0 : A = 0
    · subst h0
      have hS : (dec 0).toList = [48] := by
        unfold dec
        rw [toList_mkStr]; rfl
      have KL' : Gives 26 #[natV 0] (.int .i64 0) := KL
      rcases Nat.eq_zero_or_pos B with hB0 | hB0
      · subst hB0
        exact texts_eq_z ax ay nx cx ny cy w h1 h2 (nb 0) (nb 0) (dec 0) (dec 0) (nb 0) (nb 0) (nb 0) 0 0 0 FA FB KT1 KT2 KR KC1 KC2 KZ KL' KW heq hS
      · rw [cmpI_lt hB0] at KC1
        rw [cmpI_gt hB0] at KC2
        have hne := nb_toList_ne (a := 0) (b := B) (by omega)
        rcases hlt hB0 with h3 | ⟨h3, h4⟩
        · exact texts_lt1_z ax ay nx cx ny cy w h1 h2 (nb 0) (nb B) (dec 0) (dec B) (nb 0) (nb 0) (nb 0) 0 0 0 FA FB KT1 KT2 KR KC1 KC2 KZ KL' KW hne (Ne.symm hne) h3 hS
        · exact texts_lt2_z ax ay nx cx ny cy w h1 h2 (nb 0) (nb B) (dec 0) (dec B) (nb 0) (nb 0) (nb 0) 0 0 0 FA FB KT1 KT2 KR KC1 KC2 KZ KL' KW hne (Ne.symm hne) h3 h4 hS
    · have hnz := nb_toList_ne (a := A) (b := 0) h0
      have p1 := blen_pos A h0
      have p2 := two_blen_le A h0
      have p3 := lt_two_blen A
      have p4 : blen A ≤ 1000 := by
        have h5 : A < 2 ^ (32 * 24) := Nat.lt_of_lt_of_eq lA (Nat.pow_mul 2 32 24).symm
        have h6 := (Nat.pow_lt_pow_iff_right (a := 2) (by omega)).1 (Nat.lt_of_le_of_lt p2 h5)
        omega
      have hsum : IntKind.i64.wrap ((blen A : Int) - 1) = ((blen A - 1 : Nat) : Int) := by
        rw [IntWalk.i64_in _ (by omega)]; omega
      have KP1 := gPow (blen A - 1) (by omega)
      have KP2 := gPow (blen A) (by omega)
      have KC3 := gCmp (2 ^ (blen A - 1)) A (Nat.le_trans (nl_mono p2) (by omega)) (by omega)
      have b3 : 2 ^ blen A < 256 ^ 200 := Nat.lt_of_lt_of_eq (Nat.pow_lt_pow_right (by omega) (show blen A < 8 * 200 by omega)) (Nat.pow_mul 2 8 200)
      have b2 : nl (2 ^ blen A) ≤ 1000 := Nat.le_trans (nl_le_of_lt b3) (by omega)
      clear b3
      have KC4 := gCmp A (2 ^ blen A) (by omega) (by omega)
      rw [cmpI_lt p3] at KC4
      have hc3 : cmpI (2 ^ (blen A - 1)) A ≤ 0 := by
        unfold cmpI; split
        · omega
        · rw [if_pos (by omega)]; omega
      rcases Nat.lt_trichotomy A B with h | h | h
      · rw [cmpI_lt h] at KC1
        rw [cmpI_gt h] at KC2
        have hne := nb_toList_ne (a := A) (b := B) (by omega)
        rcases hlt h with h3 | ⟨h3, h4⟩
        · exact texts_lt1_n ax ay nx cx ny cy w h1 h2 (nb A) (nb B) (dec A) (dec B) (nb 0) _ _ (blen A) (blen A - 1) _ FA FB KT1 KT2 KR KC1 KC2 KZ KL KW KP1 KP2 KC3 KC4 hne (Ne.symm hne) h3 hnz hsum hc3
        · exact texts_lt2_n ax ay nx cx ny cy w h1 h2 (nb A) (nb B) (dec A) (dec B) (nb 0) _ _ (blen A) (blen A - 1) _ FA FB KT1 KT2 KR KC1 KC2 KZ KL KW KP1 KP2 KC3 KC4 hne (Ne.symm hne) h3 h4 hnz hsum hc3
      · subst h
        rw [cmpI_eq] at KC1
        exact texts_eq_n ax ay nx cx ny cy w h1 h2 (nb A) (nb A) (dec A) (dec A) (nb 0) _ _ (blen A) (blen A - 1) _ FA FB KT1 KT1 KR KC1 KC1 KZ KL KW KP1 KP2 KC3 KC4 heq hnz hsum hc3
      · rw [cmpI_gt h] at KC1
        rw [cmpI_lt h] at KC2
        have hne := nb_toList_ne (a := A) (b := B) (by omega)
        rcases hgt h with h3 | ⟨h3, h4⟩
        · exact texts_gt1_n ax ay nx cx ny cy w h1 h2 (nb A) (nb B) (dec A) (dec B) (nb 0) _ _ (blen A) (blen A - 1) _ FA FB KT1 KT2 KR KC1 KC2 KZ KL KW KP1 KP2 KC3 KC4 hne (Ne.symm hne) h3 hnz hsum hc3
        · exact texts_gt2_n ax ay nx cx ny cy w h1 h2 (nb A) (nb B) (dec A) (dec B) (nb 0) _ _ (blen A) (blen A - 1) _ FA FB KT1 KT2 KR KC1 KC2 KZ KL KW KP1 KP2 KC3 KC4 hne (Ne.symm hne) h3 h4 hnz hsum hc3
  · clear hnx hny hx hy hcx hcy
    have KW := gWorks
    go_enter Try.func8, Try.ntmps8
    have hcase : 24 < nx ∨ (nx ≤ 24 ∧ 24 < ny) := by omega
    clear hb
    rcases hcase with h | ⟨h, h'⟩
    all_goals
      go_wp2_with (go_at_call 12; refine (KW _).mono ?_; rintro e w' ⟨rfl, hB⟩)
      exact bodyPost_ret (v := .bool true) (by simp [results, Try.results8, go_sem]) rfl ⟨rfl, hB⟩
end Go.Proofs.Ytdkfeaodgfnhgaa
