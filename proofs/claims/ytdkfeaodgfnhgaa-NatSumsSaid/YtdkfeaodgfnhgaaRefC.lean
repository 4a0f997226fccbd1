/- The reference of chapter 01: Words, Pow2, Uint, half, Len. -/
import Derived.Test.YtdkfeaodgfnhgaaRefB
import Derived.Test.YtdkfeaodgfnhgaaPlus
import Derived.Deep.LoopGhost
namespace Go.Proofs.Ytdkfeaodgfnhgaa
open Go.RowKit Num

theorem decW : ({ data := #[52, 50, 57, 52, 57, 54, 55, 50, 57, 54] } : ByteArray) = dec 4294967296 := by kernel_rfl

theorem dec_words (xs : List Nat) (hx : AllLt W xs) (k : Nat) (hk : xs.length ≤ k) (hp : 0 < k) : (dec (digs W xs)).size ≤ 10 * k := by
  refine dec_size_le _ _ (by omega) ?_
  refine Nat.lt_of_lt_of_le (digs_lt (B := W) (by decide) hx) ?_
  rw [Nat.pow_mul]
  exact Nat.le_trans (Nat.pow_le_pow_right (by decide) hk) (Nat.pow_le_pow_left (by decide) _)

theorem cellsU_below {w w' : World} {a : Option Addr} {xs : List Nat} (h : CellsU w a xs) (hb : Below w.heap.size w w') : CellsU w' a xs := fun i d hi => by
  obtain ⟨b, o, ha, hc⟩ := h i d hi
  exact ⟨b, o, ha, below_cell hb (block_lt_of_cell hc) hc⟩

set_option maxHeartbeats 1000000 in
set_option maxRecDepth 100000 in
theorem xwords_any (a : Option Addr) (xs : List Nat) (n c : Nat) (hn : xs.length = n) (hx : AllLt W xs) (hs : n ≤ 1000) (w : World) (hcell : CellsU w a xs) :
    Calls Try.prog 40 #[.slice a n c] w fun e w' => e = .returned (.string (dec (digs W xs))) ∧ Below w.heap.size w w' := by
  have HC := Lib.hid hcell
  have HN := Lib.hid hn
  have HX := Lib.hid hx
  clear hcell hn hx
  go_enter Try.func40, Try.ntmps40
  go_wp2_with fail
  go_loopw [3, 4] (fun ov iv wr => ∃ k : Nat, k ≤ n ∧ iv = .int .i64 ((k : Int) - 1) ∧ ov = .string (dec (digs W (xs.drop k))) ∧ Hid (Below w.heap.size w wr))
    (fun _ iv _ => (intOf iv + 1).toNat)
  case atStart =>
    refine ⟨n, Nat.le_refl _, rfl, ?_, Below.refl _ _⟩
    rw [List.drop_eq_nil_of_le (Nat.le_of_eq HN.out), show digs W [] = 0 from rfl, dec_zero48]
  case round =>
    obtain ⟨k, hk, rfl, rfl, HB⟩ := hrel
    rcases Nat.eq_zero_or_pos k with rfl | hp
    · rw [List.drop_zero]
      generalize hs0 : dec (digs W xs) = s0 at *
      have HS0 := Lib.hid hs0
      clear hs0
      go_wp2_with fail
      go_ret
      refine ⟨?_, HB.out⟩
      rw [HS0.out]; rfl
    · obtain ⟨j, rfl⟩ : ∃ j, k = j + 1 := ⟨k - 1, by omega⟩
      rw [show ((j + 1 : Nat) : Int) - 1 = (j : Nat) by omega]
      clear hp
      have hj : j < xs.length := by rw [HN.out]; omega
      have hnx : xs.length ≤ 1000 := by rw [HN.out]; omega
      obtain ⟨b, o, rfl, hcl⟩ := HC.out j xs[j] (List.getElem?_eq_getElem hj)
      have hcl := below_cell HB.out (block_lt_of_cell hcl) hcl
      have hd := HX.out xs[j] (List.getElem_mem hj)
      have b1 := dec_words (xs.drop (j + 1)) (HX.out.drop _) 1000 (by simp; omega) (by omega)
      have b2 := dec_words (xs.drop j) (HX.out.drop _) 1000 (by simp; omega) (by omega)
      have hval : digs W (xs.drop (j + 1)) * 4294967296 + xs[j] = digs W (xs.drop j) := by
        rw [List.drop_eq_getElem_cons hj, digs_cons]; unfold W; omega
      have b3 : (dec (digs W (xs.drop (j + 1)) * 4294967296)).size ≤ 10 * 1000 := Nat.le_trans (dec_size_mono (by omega)) b2
      have b4 : (dec xs[j]).size ≤ 10 := dec_size_le _ 10 (by omega) (by unfold W at hd; omega)
      have KM := gXMul (digs W (xs.drop (j + 1))) 4294967296 (by omega) (Nat.le_trans (dec_size_le _ 10 (by omega) (by omega)) (by omega))
      have KO := gXOf xs[j] (by unfold W at hd; omega)
      have KP := gXAdd (digs W (xs.drop (j + 1)) * 4294967296) xs[j] (by omega) (by omega)
      rw [hval] at KP
      rw [← decW] at KM
      clear hval b1 b2 b3 b4 hnx
      unfold W at hd
      generalize hsN : dec (digs W (xs.drop j)) = sN at *
      have HSN := Lib.hid hsN
      clear hsN
      generalize dec (digs W (xs.drop (j + 1)) * 4294967296) = sM at *
      generalize dec (digs W (xs.drop (j + 1))) = sO at *
      generalize xs[j] = d at *
      generalize dec d = sD at *
      have KM := Lib.hid KM
      have KO := Lib.hid KO
      have KP := Lib.hid KP
      have hcp := plus_cell hcl (block_lt_of_cell hcl)
      go_wp2_with fail
      refine wp_plus (by kernel_rfl) (by kernel_rfl) ?_
      repeat (go_big_quiet_step (first
        | with_reducible exact KM.out.at _ _
        | with_reducible exact KO.out.at _ _
        | with_reducible exact KP.out.at _ _))
      refine wpQuiet_nil ?_
      rintro _ ⟨p, rfl⟩
      have HB2 := Lib.hid (below_form HB.out (below_plus wr p))
      clear hcp hcl
      generalize plus wr p = w3 at *
      go_wp2_with fail
      go_roundw
      case rel => exact ⟨j, by omega, by rfl, by rw [HSN.out], HB2⟩
      case measure => simp [intOf]

theorem dec_pow2 (k : Nat) : (dec (2 ^ k)).size ≤ k + 1 :=
  dec_size_le _ _ (by omega) (Nat.lt_of_lt_of_le (Nat.pow_lt_pow_right (by omega) (Nat.lt_succ_self k)) (Nat.pow_le_pow_left (by omega) _))

set_option maxHeartbeats 1000000 in
set_option maxRecDepth 100000 in
theorem xpow2_any (n : Nat) (hn : n ≤ 4096) (w : World) :
    Calls Try.prog 30 #[.int .i64 (n : Nat)] w fun e w' => e = .returned (.string (dec (2 ^ n))) ∧ Below w.heap.size w w' := by
  have h1 : dec 1 = { data := #[49] } := by kernel_rfl
  have H1 := Lib.hid h1
  clear h1
  go_enter Try.func30, Try.ntmps30
  go_wp2_with fail
  go_loopw [3, 4] (fun ov iv wr => ∃ k : Nat, k ≤ n ∧ iv = .int .i64 (k : Nat) ∧ ov = .string (dec (2 ^ k)) ∧ Hid (Below w.heap.size w wr))
    (fun _ iv _ => n - (intOf iv).toNat)
  case atStart => exact ⟨0, by omega, rfl, by rw [Nat.pow_zero, H1.out], Below.refl _ _⟩
  case round =>
    obtain ⟨k, hk, rfl, rfl, HB⟩ := hrel
    by_cases hlt : k < n
    · have hsz := dec_pow2 k
      have KP := gXAdd (2 ^ k) (2 ^ k) (by omega) (by omega)
      rw [show 2 ^ k + 2 ^ k = 2 ^ (k + 1) by rw [Nat.pow_succ]; omega] at KP
      clear hsz
      generalize hsN : dec (2 ^ (k + 1)) = sN at *
      have HSN := Lib.hid hsN
      clear hsN
      generalize dec (2 ^ k) = sO at *
      have KP := Lib.hid KP
      go_wp2_with fail
      refine (KP.out _).mono ?_
      rintro e w2 ⟨rfl, hB2⟩
      have HB2 := Lib.hid (below_form HB.out hB2)
      clear hB2
      go_wp2_with fail
      go_roundw
      case rel => exact ⟨k + 1, by omega, by go_num, by rw [HSN.out], HB2⟩
      case measure => simp [intOf]; omega
    · obtain rfl : k = n := by omega
      generalize hsN : dec (2 ^ k) = sN at *
      have HSN := Lib.hid hsN
      clear hsN
      go_wp2_with fail
      go_ret
      refine ⟨?_, HB.out⟩
      rw [HSN.out]; rfl

set_option maxHeartbeats 400000 in
set_option maxRecDepth 100000 in
theorem xpow2_out (n : Int) (hn : n < 0 ∨ 4096 < n) (w : World) :
    Calls Try.prog 30 #[.int .i64 n] w fun e w' => e = .returned (.string (dec 0)) ∧ Below w.heap.size w w' := by
  have H1 := Lib.hid dec_zero48
  rcases hn with h | h
  all_goals
    go_enter Try.func30, Try.ntmps30
    go_wp2_with fail
    go_ret
    refine ⟨?_, Below.refl _ _⟩
    rw [H1.out]; rfl

theorem decMax : ({ data := #[49, 56, 52, 52, 54, 55, 52, 52, 48, 55, 51, 55, 48, 57, 53, 53, 49, 54, 49, 53] } : ByteArray) = dec 18446744073709551615 := by kernel_rfl

theorem decVal_take_mono (l : List Nat) : ∀ (k m : Nat), k ≤ m → m ≤ l.length → decVal (l.take k) ≤ decVal (l.take m) := fun k m h => by
  induction m with
  | zero => intro _; rw [show k = 0 by omega]; exact Nat.le_refl _
  | succ m ih =>
    intro hm
    rcases Nat.lt_or_ge m k with h1 | h1
    · rw [show k = m + 1 by omega]; exact Nat.le_refl _
    · have := ih h1 (by omega)
      rw [decVal_take_succ l m (by omega)]
      omega

set_option maxHeartbeats 1000000 in
set_option maxRecDepth 100000 in
theorem xuint_fits (a : Nat) (ha : a < 18446744073709551616) (w : World) :
    Calls Try.prog 28 #[.string (dec a)] w fun e w' => e = .returned (.tuple #[.int .u64 (a : Nat), .bool true]) ∧ Below w.heap.size w w' := by
  have KC := xcmp_any a 18446744073709551615
  rw [← decMax] at KC
  have hc : cmpI a 18446744073709551615 ≤ 0 := by
    unfold cmpI; split
    · omega
    · split <;> omega
  have hbt := bts_dec a
  have hv := decVal_decL a
  have hdg := decL_digit a
  have hsz := dec_size a
  rw [← hbt] at hv hdg hsz
  have HCH : Hid (∀ k, k < (dec a).size → 48 ≤ (bts (dec a)).getD k 0 ∧ (bts (dec a)).getD k 0 ≤ 57) := fun k hk => hdg _ (by
    rw [List.getD_eq_getElem?_getD, List.getElem?_eq_getElem (by omega)]
    exact List.getElem_mem _)
  have HST : Hid (∀ k, k < (dec a).size → decVal ((bts (dec a)).take (k + 1)) = 10 * decVal ((bts (dec a)).take k) + ((bts (dec a)).getD k 0 - 48)) := fun k hk => decVal_take_succ _ k (by omega)
  have HMO : Hid (∀ k, k ≤ (dec a).size → decVal ((bts (dec a)).take k) ≤ a) := fun k hk => by
    have := decVal_take_mono (bts (dec a)) k (bts (dec a)).length (by omega) (Nat.le_refl _)
    rw [List.take_of_length_le (Nat.le_refl _), hv] at this
    exact this
  have HEND : Hid (decVal ((bts (dec a)).take (dec a).size) = a) := by
    unfold Hid
    rw [List.take_of_length_le (by omega), hv]
  have h20 : (dec a).size ≤ 20 := dec_size_le a 20 (by omega) (by omega)
  have HGD : Hid (∀ k (h : k < (dec a).size), (bts (dec a)).getD k 0 = ((dec a)[k]).toNat) := fun k h => bts_getD (dec a) k h
  clear hbt hv hdg hsz
  generalize cmpI a 18446744073709551615 = cc at *
  generalize dec a = s at *
  have KC := Lib.hid KC
  go_enter Try.func28, Try.ntmps28
  go_wp2_with fail
  refine (KC.out _).mono ?_
  rintro e w2 ⟨rfl, rfl⟩
  go_wp2_with fail
  go_loop [4, 5] (fun nv iv => ∃ k m : Nat, k ≤ s.size ∧ iv = .int .i64 (k : Nat) ∧ nv = .int .u64 (m : Nat) ∧ Hid (m = decVal ((bts s).take k)))
    (fun _ iv => s.size - (intOf iv).toNat)
  case atStart => exact ⟨0, 0, by omega, rfl, rfl, by simp [Hid, decVal]⟩
  case round =>
    obtain ⟨k, m, hk, rfl, rfl, HM⟩ := hrel
    by_cases hlt : k < s.size
    · have h1 := HCH.out k hlt
      have h2 := HST.out k hlt
      have h3 := HMO.out (k + 1) (by omega)
      rw [HGD.out k hlt] at h1 h2
      rw [h2, ← HM.out] at h3
      rw [← HM.out] at h2
      have HS2 := Lib.hid h2.symm
      clear h2
      have hlo := h1.1
      have hhi := h1.2
      have hm10 : 10 * m ≤ 18446744073709551615 := by omega
      clear h1
      have hsum : 10 * m + ((s[k]).toNat - 48) ≤ 18446744073709551615 := by omega
      clear h3
      go_wp2_with fail
      go_round
      case rel => exact ⟨k + 1, 10 * m + ((s[k]).toNat - 48), by omega, by go_num, by go_num, HS2.out⟩
      case measure => simp [intOf]; omega
    · obtain rfl : k = s.size := by omega
      have HE : Hid (m = a) := HM.out.trans HEND.out
      go_wp2_with fail
      go_ret2
      refine ⟨?_, Below.refl _ _⟩
      rw [← HE.out]; rfl

set_option maxHeartbeats 400000 in
set_option maxRecDepth 100000 in
theorem xuint_out (a : Nat) (ha : 18446744073709551616 ≤ a) (w : World) :
    Calls Try.prog 28 #[.string (dec a)] w fun e w' => e = .returned (.tuple #[.int .u64 0, .bool false]) ∧ Below w.heap.size w w' := by
  have KC := xcmp_any a 18446744073709551615
  rw [← decMax, cmpI_gt (by omega)] at KC
  have KC := Lib.hid KC
  clear ha
  generalize dec a = s at *
  go_enter Try.func28, Try.ntmps28
  go_wp2_with fail
  refine (KC.out _).mono ?_
  rintro e w2 ⟨rfl, rfl⟩
  go_wp2_with fail
  go_ret2
  exact ⟨rfl, Below.refl _ _⟩

theorem half_step (a j : Nat) : a / 10 ^ j / 2 * 10 ^ j = a / 10 ^ (j + 1) / 2 * 10 ^ (j + 1) + 10 ^ j * ((10 * (a / 10 ^ (j + 1) % 2) + dgt a j) / 2) := by
  obtain ⟨_, h2, _⟩ := div_digit a 2 j (by omega)
  rw [h2, Nat.pow_succ]
  generalize a / (10 ^ j * 10) / 2 = Q
  generalize (10 * (a / (10 ^ j * 10) % 2) + dgt a j) / 2 = q
  grind

set_option maxHeartbeats 1000000 in
set_option maxRecDepth 100000 in
theorem xhalf_any (a : Nat) (ha : (dec a).size ≤ 100000000) (w : World) :
    Calls Try.prog 51 #[.string (dec a)] w fun e w' => e = .returned (.string (dec (a / 2))) ∧ Below w.heap.size w w' := by
  obtain ⟨i0, hi, hz0, hz1, hz2⟩ := info_parts Try.infoInt
  have HDA := Lib.hid (digOf a (by omega))
  have HTOP : Hid (a / 10 ^ (dec a).size = 0) := Nat.div_eq_of_lt (lt_dec_size a)
  generalize dec a = sA at *
  go_enter Try.func51, Try.ntmps51
  go_wp2_with (at_make; refine wpList_make_full _ rfl (.tmp 8) (.tmp 8) 69 rfl w.heap.size 3 i0 (.int .i64 0) 1 Try.underlying69 hi hz0 hz1 .i64 .i64 _ _ sA.size rfl rfl (by omega) (by omega) (by rw [hz2]; omega) (by unfold maxLen; omega) (Nat.le_refl _) ?_)
  intro w1 hown hgr
  have hRo := Row.ofOwns hown
  rw [iis_zeros] at hRo
  have HRo := Lib.hid hRo
  have HB1 := Lib.hid (grown_below hgr (Nat.le_refl _) (by simp) : Below w.heap.size w w1)
  clear hown hgr hRo
  go_wp2_with fail
  go_loopw [4, 5] (fun rv iv wr => ∃ (i r : Nat) (L : List Nat), i ≤ sA.size ∧ iv = .int .i64 ((i : Int) - 1) ∧ rv = .int .i64 (r : Nat) ∧ r < 2 ∧ Hid (r = a / 10 ^ i % 2) ∧ Hid (Row wr w.heap.size 3 (iis L)) ∧ Hid (L.length = sA.size) ∧ Hid (AllLt 10 L) ∧ Hid (digs 10 L = a / 10 ^ i / 2 * 10 ^ i) ∧
      Hid (∀ j, j < i → L.getD j 0 = 0) ∧ Hid (Below w.heap.size w wr))
    (fun _ iv _ => (intOf iv + 1).toNat)
  case atStart =>
    exact ⟨sA.size, 0, List.replicate sA.size 0, Nat.le_refl _, rfl, rfl, by omega, by unfold Hid; rw [HTOP.out], HRo, by simp [Hid], AllLt.zeros (by decide) _, by unfold Hid; rw [HTOP.out, digs_zeros]; simp, fun j _ => by
      rw [List.getD_eq_getElem?_getD, List.getElem?_replicate]; split <;> rfl, HB1⟩
  case round =>
    obtain ⟨i, r, L, hik, rfl, rfl, hr2, HRr, HR, HLl, HLlt, HLd, HLz, HBB⟩ := hrel
    clear HRo HB1 HTOP
    rcases Nat.eq_zero_or_pos i with rfl | hp
    · have HE : Hid (digs 10 L = a / 2) := by
        have := HLd.out
        unfold Hid
        simpa using this
      go_wp2_with fail
      refine (form_any (some ⟨w.heap.size, 0, none⟩) L sA.size sA.size HLl.out HLlt.out (by omega) wr (CellsI.ofRow HR.out)).mono ?_
      rintro e w2 ⟨rfl, hB2⟩
      have HB2 := Lib.hid (below_form HBB.out hB2)
      clear hB2
      rw [HE.out]
      go_wp2_with fail
      go_ret
      exact ⟨rfl, HB2.out⟩
    · obtain ⟨j, rfl⟩ : ∃ j, i = j + 1 := ⟨i - 1, by omega⟩
      rw [show ((j + 1 : Nat) : Int) - 1 = (j : Nat) by omega]
      clear hp
      have hx := dgt_lt a j
      have KA := Lib.hid (HDA.out j (by omega))
      have HD := Lib.hid (div_digit a 2 j (by omega)).2.2
      have HH := Lib.hid (half_step a j)
      rw [← HRr.out] at HD HH
      have HLS := Lib.hid (fun v => digs_set 10 L j v (by rw [HLl.out]; omega))
      have hLj : L.getD j 0 = 0 := HLz.out j (by omega)
      rw [hLj] at HLS
      have hc1 : wr.cell? ⟨w.heap.size, j, none⟩ = some (.int .i64 (L.getD j 0 : Nat)) := HR.out.cell (iis_getD (by rw [HLl.out]; omega))
      have hfr := HR.out.free j
      rw [hLj] at hc1
      clear hLj
      generalize dgt a j = x at *
      have HE : Hid (digs 10 (L.set j ((10 * r + x) / 2)) = a / 10 ^ j / 2 * 10 ^ j) := by
        have h1 := HLS.out ((10 * r + x) / 2)
        rw [Nat.mul_zero, Nat.add_zero] at h1
        unfold Hid
        rw [h1, HLd.out, HH.out]
      have HLT : Hid (AllLt 10 (L.set j ((10 * r + x) / 2))) := allLt_set HLlt.out _ _ (by omega)
      have HZ : Hid (∀ k, k < j → (L.set j ((10 * r + x) / 2)).getD k 0 = 0) := fun k hk => by rw [getD_set_other' (by omega)]; exact HLz.out k (by omega)
      clear HLS HH HLd HLz
      go_wp2_with fail
      refine (KA.out _).mono ?_
      rintro e w3 ⟨rfl, rfl⟩
      go_wp2_with fail
      go_roundw
      case rel =>
        refine ⟨j, (10 * r + x) % 2, L.set j ((10 * r + x) / 2), by omega, by go_num, by go_num, by omega, HD.out.symm, ?_, by unfold Hid; rw [List.length_set]; exact HLl.out, HLT, HE, HZ, HBB.out.setCell (by simp) _⟩
        have := HR.out.set j (.int .i64 ((10 * r + x) / 2 : Nat))
        rw [iis_set] at this
        unfold Hid
        simpa using this
      case measure => simp [intOf]

theorem blen_half {a : Nat} (h : a ≠ 0) : blen a = blen (a / 2) + 1 := by
  unfold blen
  rw [digitsOf_pos (by omega) (by omega)]
  rfl

set_option maxHeartbeats 1000000 in
set_option maxRecDepth 100000 in
theorem xlen_any (a : Nat) (ha : (dec a).size ≤ 100000000) (hb : blen a ≤ 1000000000) (w : World) :
    Calls Try.prog 27 #[.string (dec a)] w fun e w' => e = .returned (.int .i64 (blen a : Nat)) ∧ Below w.heap.size w w' := by
  have HA := Lib.hid ha
  clear ha
  go_enter Try.func27, Try.ntmps27
  go_wp2_with fail
  go_loopg [0, 3] a (fun k u v wr => ∃ A n : Nat, u = .string (dec A) ∧ v = .int .i64 (n : Nat) ∧ A ≤ k ∧ n ≤ 1000000000 ∧ Hid (n + blen A = blen a) ∧ Hid ((dec A).size ≤ 100000000) ∧ Hid (Below w.heap.size w wr))
  case atStart => exact ⟨a, 0, rfl, rfl, Nat.le_refl _, by omega, by simp [Hid], HA, Below.refl _ _⟩
  case round =>
    obtain ⟨A, n, rfl, rfl, hBk, hn, HL, HSA, HB⟩ := hrel
    by_cases h0 : A = 0
    · have HE : Hid (n = blen a) := by
        have := HL.out
        rw [h0, show blen 0 = 0 from rfl] at this
        exact this
      subst h0
      have hl := dec0_list
      generalize dec 0 = s0 at *
      go_wp2_with fail
      go_ret
      refine ⟨?_, HB.out⟩
      rw [← HE.out]
      rfl
    · have hl := dec_toList_ne h0
      have KH := Lib.hid (fun w => xhalf_any A HSA.out w)
      have hlt : A / 2 < A := by omega
      have HLt := Lib.hid hlt
      have hb2 := blen_half h0
      have HL2 : Hid (n + 1 + blen (A / 2) = blen a) := by
        have := HL.out
        unfold Hid; omega
      have hn2 : n + 1 ≤ 1000000000 := by have := HL.out; omega
      have HSM : Hid ((dec (A / 2)).size ≤ 100000000) := Nat.le_trans (dec_size_mono (Nat.le_of_lt hlt)) HSA.out
      obtain ⟨R, hR⟩ : ∃ R, R = A / 2 := ⟨_, rfl⟩
      rw [← hR] at KH HLt HL2 HSM
      clear hR h0 hlt hb2 HL
      generalize dec A = sA at *
      generalize hsR : dec R = sR at *
      have HER := Lib.hid hsR.symm
      clear hsR
      go_wp2_with fail
      refine (KH.out _).mono ?_
      rintro e w2 ⟨rfl, hB2⟩
      have HB2 := Lib.hid (below_form HB.out hB2)
      clear hB2
      go_wp2_with fail
      go_roundg R
      case measure => have := HLt.out; omega
      case rel => exact ⟨R, n + 1, by rw [HER.out], by go_num, Nat.le_refl _, hn2, HL2, by rw [← HER.out]; exact HSM, HB2⟩

end Go.Proofs.Ytdkfeaodgfnhgaa
