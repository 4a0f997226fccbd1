/- Texts of this claim, joined: D1, D2, D3, D4. -/
import Derived.Test.YtajjgfiojlagmaaGreatDoorMO18
import Derived.Test.YtajjgfiojlagmaaGreatDoorMO19
import Derived.Test.YtajjgfiojlagmaaGreatDoorShelf
import Derived.Deep.DeepCutAuto

/- Numbers and literals of words: the program's. -/
namespace Go.Proofs.YtajjgfiojlagmaaGreatDoor
open Go.RowKit

theorem ba_size (a : List UInt8) : (⟨a.toArray⟩ : ByteArray).size = a.length := by simp [ByteArray.size]
theorem ba_list (a : List UInt8) : (⟨a.toArray⟩ : ByteArray).toList = a := by rw [ByteArray.toList_eq]
theorem ba_facts {x : List UInt8} {y : ByteArray} (hy : y = ⟨x.toArray⟩) : y.size = x.length ∧ (∀ k (h : k < y.size), x[k]? = some y[k]) ∧ (∀ h : 0 < y.size, x.head? = some y[0]) ∧ (∀ k, (⟨(x.drop k).toArray⟩ : ByteArray) = y.extract k y.size) := by
  subst hy
  refine ⟨ba_size x, fun k h => ?_, fun h => ?_, fun k => ?_⟩
  · rw [List.getElem?_eq_getElem (by rw [ba_size] at h; exact h)]; rfl
  · cases x with
    | nil => simp [ba_size] at h
    | cons a l => rfl
  · rw [ba_size]; apply ByteArray.ext; simp only [ByteArray.data_extract, List.extract_toArray, List.extract_eq_take_drop]; rw [List.take_of_length_le (by rw [List.length_drop]; omega)]
theorem byte_no {b : UInt8} {n : Nat} (h : ¬ b = UInt8.ofNat n) (hn : n < 256) : ((b.toNat : Int) == (n : Int)) = false := by
  rw [beq_eq_false_iff_ne]
  intro e
  apply h
  apply UInt8.toNat_inj.1
  rw [UInt8.toNat_ofNat']
  omega

def headBad (x : List UInt8) : Bool := decide (x = [] ∨ 5 < x.length ∨ (x.head? = some 48 ∧ 1 < x.length))
theorem numD_head {x : List UInt8} (h : headBad x = true) : numD x = none := by
  unfold headBad at h
  have := of_decide_eq_true h
  unfold numD
  rw [if_pos]
  rcases this with h | h | h
  · exact .inl h
  · exact .inr (.inl h)
  · exact .inr (.inr (.inl h))
theorem numD_bad {x : List UInt8} {c : UInt8} (h : c ∈ x) (hc : digD c = false) : numD x = none := by
  unfold numD
  rw [if_pos]
  refine .inr (.inr (.inr ?_))
  rw [Bool.eq_false_iff]
  intro ha
  rw [List.all_eq_true.1 ha c h] at hc; cases hc
theorem numD_good {x : List UInt8} (h : headBad x = false) (ha : ∀ c ∈ x, digD c = true) : numD x = some (valD x) := by
  unfold headBad at h
  have h' := of_decide_eq_false h
  unfold numD
  rw [if_neg]
  rintro (h1 | h1 | h1 | h1)
  · exact h' (.inl h1)
  · exact h' (.inr (.inl h1))
  · exact h' (.inr (.inr h1))
  · rw [List.all_eq_true.2 ha] at h1; cases h1

set_option maxHeartbeats 1600000 in
set_option maxRecDepth 100000 in
theorem gNumber (x : List UInt8) (hl : x.length ≤ 1100000) : Gives 65 #[.string ⟨x.toArray⟩] (.tuple #[.int .i64 (numZ x), .bool (numD x).isSome]) := by
  intro w
  obtain ⟨y, hy⟩ : ∃ y : ByteArray, y = ⟨x.toArray⟩ := ⟨_, rfl⟩
  obtain ⟨hsz, hG, hH, -⟩ := ba_facts hy
  rw [← hy]
  have HNO := Lib.hid (fun (h : numD x = none) => show (Value.tuple #[.int .i64 (numZ x), .bool (numD x).isSome]) = .tuple #[.int .i64 0, .bool false] by unfold numZ; rw [h]; rfl)
  have HYES := Lib.hid (fun (v : Nat) (h : numD x = some v) => show (Value.tuple #[.int .i64 (numZ x), .bool (numD x).isSome]) = .tuple #[.int .i64 (v : Int), .bool true] by unfold numZ; rw [h]; rfl)
  generalize (Value.tuple #[.int .i64 (numZ x), .bool (numD x).isSome]) = R at *
  have HSZ := Lib.hid hsz
  have HG := Lib.hid hG
  have HH := Lib.hid hH
  have hyl : y.size ≤ 1100000 := by omega
  have HN0 := Lib.hid (show x = [] ↔ y.size = 0 by rw [hsz]; exact List.length_eq_zero_iff.symm)
  have HBD := Lib.hid (show headBad x = decide (x = [] ∨ 5 < x.length ∨ (x.head? = some 48 ∧ 1 < x.length)) from rfl)
  clear hy hsz hG hH
  go_enter Tryz.func65, Tryz.ntmps65
  go_upto_region 1 with fail
  go_cut [23] (fun t23 wx => t23 = .bool (headBad x) ∧ w = wx)
  case first =>
    have hsz := HSZ.out
    by_cases h0 : y.size = 0
    · have h1 : ((y.size : Int) == 0) = true := by simp [h0]
      have HV := Lib.hid (show headBad x = true by rw [HBD.out, decide_eq_true]; exact .inl (HN0.out.2 h0))
      clear hsz
      go_wp2_with fail
      go_meet
      case rel => exact ⟨by rw [HV.out]; try rfl, rfl⟩
    have h1 : ((y.size : Int) == 0) = false := by simpa using h0
    have hs0 : 0 < y.size := by omega
    by_cases h5 : 5 < y.size
    · have h2 : decide (5 < y.size) = true := decide_eq_true h5
      have h2' : decide ((5 : Int) < (y.size : Int)) = true := by simp; omega
      have HV := Lib.hid (show headBad x = true by rw [HBD.out, decide_eq_true]; exact .inr (.inl (by omega)))
      clear hsz
      go_wp2_with fail
      go_meet
      case rel => exact ⟨by rw [HV.out]; try rfl, rfl⟩
    have h2 : decide (5 < y.size) = false := decide_eq_false h5
    have h2' : decide ((5 : Int) < (y.size : Int)) = false := by simp; omega
    have hhd := HH.out hs0
    by_cases h48 : y[0] = 48
    · have h3 : ((y[0].toNat : Int) == 48) = true := by simp [h48]
      by_cases h6 : 1 < y.size
      · have h4 : decide (1 < y.size) = true := decide_eq_true h6
        have h4' : decide ((1 : Int) < (y.size : Int)) = true := by simp; omega
        have HV := Lib.hid (show headBad x = true by rw [HBD.out, decide_eq_true]; exact .inr (.inr ⟨by rw [hhd, h48], by omega⟩))
        clear hsz hhd h48
        go_wp2_with fail
        go_meet
        case rel => exact ⟨by rw [HV.out]; try rfl, rfl⟩
      · have h4 : decide (1 < y.size) = false := decide_eq_false h6
        have h4' : decide ((1 : Int) < (y.size : Int)) = false := by simp; omega
        have HV := Lib.hid (show headBad x = false by
          rw [HBD.out, decide_eq_false]
          rintro (h | h | h)
          · exact h0 (HN0.out.1 h)
          · omega
          · omega)
        clear hsz hhd h48
        go_wp2_with fail
        go_meet
        case rel => exact ⟨by rw [HV.out]; try rfl, rfl⟩
    · have h3 : ((y[0].toNat : Int) == 48) = false := byte_no (n := 48) h48 (by omega)
      have HV := Lib.hid (show headBad x = false by
        rw [HBD.out, decide_eq_false]
        rintro (h | h | h)
        · exact h0 (HN0.out.1 h)
        · omega
        · rw [hhd] at h; exact h48 (Option.some.inj h.1))
      clear hsz hhd h48
      go_wp2_with fail
      go_meet
      case rel => exact ⟨by rw [HV.out]; try rfl, rfl⟩
  case rest =>
  obtain ⟨rfl, rfl⟩ := hcut
  cases hb : headBad x with
  | true =>
    have HF := Lib.hid (HNO.out (numD_head hb))
    clear hb
    go_wp2_with fail
    go_ret2
    exact ⟨by rw [HF.out]; rfl, Below.refl _ _⟩
  | false =>
  have h5 : y.size ≤ 5 := by
    have := of_decide_eq_false (HBD.out.symm.trans hb)
    have := HSZ.out
    omega
  have HB5 := Lib.hid hb
  have HNB := Lib.hid (fun (c : UInt8) (h : c ∈ x) (hc : digD c = false) => HNO.out (numD_bad h hc))
  clear hb HBD
  go_wp2_with fail
  go_loopw [26, 4] (fun t26 t4 wr => ∃ (k v : Nat), k ≤ y.size ∧ t26 = .int .i64 k ∧ t4 = .int .i64 v ∧ v < 100000 ∧ Hid (valD (x.take k) = v) ∧ Hid (∀ c ∈ x.take k, digD c = true) ∧ Hid (Below w.heap.size w wr)) (fun t26 _ _ => y.size - (intOf t26).toNat)
  case atStart => exact ⟨0, 0, Nat.zero_le _, rfl, rfl, by omega, by simp [valD, Hid], by simp [Hid], Below.refl _ _⟩
  case round =>
    obtain ⟨k, v, hk, rfl, rfl, hv, HV, HC, HB⟩ := hrel
    by_cases hlt : k < y.size
    · have hdd : decide (k < y.size) = true := by simpa using hlt
      have hget := HG.out k hlt
      have HM := Lib.hid (show y[k] ∈ x from List.mem_of_getElem? hget)
      have htk : x.take (k + 1) = x.take k ++ [y[k]] := by rw [List.take_add_one, hget]; rfl
      by_cases hlo : y[k].toNat < 48
      · have h3 : decide ((y[k].toNat : Int) < 48) = true := by simp; omega
        have HF := Lib.hid (HNB.out _ HM.out (by simp [digD]; omega))
        clear htk hget
        go_wp2_with fail
        go_ret2
        exact ⟨by rw [HF.out]; rfl, HB.out⟩
      have h3 : decide ((y[k].toNat : Int) < 48) = false := by simp; omega
      by_cases hhi : 57 < y[k].toNat
      · have h5 : decide ((57 : Int) < (y[k].toNat : Int)) = true := by simp; omega
        have HF := Lib.hid (HNB.out _ HM.out (by simp [digD]; omega))
        clear htk hget
        go_wp2_with fail
        go_ret2
        exact ⟨by rw [HF.out]; rfl, HB.out⟩
      have h5' : decide ((57 : Int) < (y[k].toNat : Int)) = false := by simp; omega
      have hdc : ∀ c ∈ x.take (k + 1), digD c = true := fun c hc => by
        rw [htk] at hc
        rcases List.mem_append.1 hc with hc | hc
        · exact HC.out c hc
        · rw [List.mem_singleton.1 hc]; simp [digD]; omega
      have hdv : valD (x.take (k + 1)) = v * 10 + (y[k].toNat - 48) := by rw [htk, valD_snoc, HV.out]
      have hlt2 : valD (x.take (k + 1)) < 100000 := by
        have h1 := valD_lt _ _ rfl hdc
        have h2 : (10 : Nat) ^ (x.take (k + 1)).length ≤ 10 ^ 5 := Nat.pow_le_pow_right (by omega) (by rw [List.length_take]; omega)
        have e : (10 : Nat) ^ 5 = 100000 := by decide
        omega
      have HDV := Lib.hid hdv
      have HDC := Lib.hid hdc
      have hlt3 : v * 10 + (y[k].toNat - 48) < 100000 := by rw [← hdv]; exact hlt2
      clear htk hget hdc hlt2 hdv
      go_wp2_with fail
      go_roundw
      case rel => exact ⟨k + 1, v * 10 + (y[k].toNat - 48), by omega, by go_num, by congr 1; omega, hlt3, HDV.out, HDC.out, HB.out⟩
      case measure => simp [intOf]; omega
    · obtain rfl : k = y.size := by omega
      have hdd : decide (y.size < y.size) = false := by simp
      have HF := Lib.hid (HYES.out v (by
        have h1 := numD_good HB5.out (fun c hc => HC.out c (by rw [HSZ.out, List.take_length]; exact hc))
        have h2 := HV.out
        rw [HSZ.out, List.take_length] at h2
        rw [h1, h2]))
      go_wp2_with fail
      go_ret2
      exact ⟨by rw [HF.out]; rfl, HB.out⟩

set_option maxHeartbeats 1600000 in
set_option maxRecDepth 100000 in
theorem gLiteral (x : List UInt8) (hl : x.length ≤ 1100000) : Gives 68 #[.string ⟨x.toArray⟩] (.tuple #[.int .i64 (litD x), .bool (decide (litD x ≠ 0))]) := by
  intro w
  have KC := Tryz.strings_CutPrefix ⟨x.toArray⟩ ⟨#[45]⟩ w
  have hp : Lib.hasPrefix x [45] = decide (x.head? = some 45) := by
    cases x with
    | nil => rfl
    | cons a l =>
      by_cases h : a = 45
      · subst h; simp [Lib.hasPrefix, List.isPrefixOf]
      · simp [Lib.hasPrefix, List.isPrefixOf, h, Ne.symm h]
  simp only [show (⟨#[45]⟩ : ByteArray).data.toList = [45] from rfl, show (⟨x.toArray⟩ : ByteArray).data.toList = x from rfl] at KC
  have htr : Lib.trimPrefix x [45] = if x.head? = some 45 then x.drop 1 else x := by
    unfold Lib.trimPrefix
    rw [hp]
    by_cases h : x.head? = some 45 <;> simp [h]
  rw [htr, hp] at KC
  by_cases h : x.head? = some 45
  · rw [if_pos h, decide_eq_true h] at KC
    have KN := gNumber (x.drop 1) (by rw [List.length_drop]; omega)
    have HE := Lib.hid (show litD x = -numZ (x.drop 1) by unfold litD numZ; rw [if_pos h])
    have hz : numZ (x.drop 1) = 0 ∨ (numD (x.drop 1)).isSome = true := by
      cases hn : numD (x.drop 1) with
      | none => left; unfold numZ; rw [hn]; rfl
      | some n => right; rfl
    have hb : 0 ≤ numZ (x.drop 1) ∧ numZ (x.drop 1) < 100000 := by
      unfold numZ
      cases hn : numD (x.drop 1) with
      | none => simp
      | some n => have := numD_lt hn; simp; omega
    generalize numZ (x.drop 1) = n at *
    generalize (numD (x.drop 1)).isSome = ok at *
    generalize (⟨(x.drop 1).toArray⟩ : ByteArray) = z at *
    generalize (⟨x.toArray⟩ : ByteArray) = y at *
    clear hp htr h
    go_enter Tryz.func68, Tryz.ntmps68
    go_wp2_with fail
    refine KC.mono ?_
    rintro e w2 ⟨rfl, rfl⟩
    go_wp2_with fail
    refine (KN _).mono ?_
    rintro e w2 ⟨rfl, hB⟩
    have HB := Lib.hid hB
    clear hB KN KC
    by_cases hn : n = 0
    · subst hn
      cases ok <;>
        (go_wp2_with fail
         go_ret2
         exact ⟨by rw [HE.out]; rfl, HB.out⟩)
    · obtain rfl : ok = true := by simpa [hn] using hz
      have hn1 : (-n != 0) = true := by simp [bne, beq_no (show -n ≠ 0 by omega)]
      have hn2 : decide (-n ≠ 0) = true := by simp; omega
      have HN := Lib.hid hn2
      clear hn2
      go_wp2_with fail
      go_ret2
      exact ⟨by rw [HE.out, HN.out]; rfl, HB.out⟩
  · rw [if_neg h, decide_eq_false h] at KC
    have KN := gNumber x hl
    have HE := Lib.hid (show litD x = numZ x by unfold litD numZ; rw [if_neg h])
    have hz : numZ x = 0 ∨ (numD x).isSome = true := by
      cases hn : numD x with
      | none => left; unfold numZ; rw [hn]; rfl
      | some n => right; rfl
    generalize numZ x = n at *
    generalize (numD x).isSome = ok at *
    generalize (⟨x.toArray⟩ : ByteArray) = y at *
    clear hp htr h
    go_enter Tryz.func68, Tryz.ntmps68
    go_wp2_with fail
    refine KC.mono ?_
    rintro e w2 ⟨rfl, rfl⟩
    go_wp2_with fail
    refine (KN _).mono ?_
    rintro e w2 ⟨rfl, hB⟩
    have HB := Lib.hid hB
    clear hB KN KC
    by_cases hn : n = 0
    · subst hn
      cases ok <;>
        (go_wp2_with fail
         go_ret2
         exact ⟨by rw [HE.out]; rfl, HB.out⟩)
    · obtain rfl : ok = true := by simpa [hn] using hz
      have hn1 : (n != 0) = true := by simp [bne, beq_no hn]
      have hn2 : decide (n ≠ 0) = true := by simpa using hn
      have HN := Lib.hid hn2
      clear hn2
      go_wp2_with fail
      go_ret2
      exact ⟨by rw [HE.out, HN.out]; rfl, HB.out⟩
end Go.Proofs.YtajjgfiojlagmaaGreatDoor

/- Numbers, literals, lines and words: the reference's; words: the program's. -/
namespace Go.Proofs.YtajjgfiojlagmaaGreatDoor
open Go.RowKit

def numX (x : List UInt8) : Int := match numD x with | some n => (n : Int) | none => -1
theorem numX_max (x : List UInt8) : max 0 (numX x) = numZ x := by
  unfold numX numZ
  cases numD x with
  | none => rfl
  | some n => simp <;> omega

set_option maxHeartbeats 1600000 in
set_option maxRecDepth 100000 in
theorem xNumber (x : List UInt8) (hl : x.length ≤ 1100000) : Gives 69 #[.string ⟨x.toArray⟩] (.int .i64 (numX x)) := by
  intro w
  obtain ⟨y, hy⟩ : ∃ y : ByteArray, y = ⟨x.toArray⟩ := ⟨_, rfl⟩
  obtain ⟨hsz, hG, hH, -⟩ := ba_facts hy
  rw [← hy]
  have HNO := Lib.hid (fun (h : numD x = none) => show (Value.int .i64 (numX x)) = .int .i64 (-1) by unfold numX; rw [h])
  have HYES := Lib.hid (fun (v : Nat) (h : numD x = some v) => show (Value.int .i64 (numX x)) = .int .i64 (v : Int) by unfold numX; rw [h])
  generalize (Value.int .i64 (numX x)) = R at *
  have HSZ := Lib.hid hsz
  have HG := Lib.hid hG
  have HH := Lib.hid hH
  have hyl : y.size ≤ 1100000 := by omega
  have HN0 := Lib.hid (show x = [] ↔ y.size = 0 by rw [hsz]; exact List.length_eq_zero_iff.symm)
  have HBD := Lib.hid (show headBad x = decide (x = [] ∨ 5 < x.length ∨ (x.head? = some 48 ∧ 1 < x.length)) from rfl)
  clear hy hsz hG hH
  go_enter Tryz.func69, Tryz.ntmps69
  go_upto_region 1 with fail
  go_cut [22] (fun t22 wx => t22 = .bool (headBad x) ∧ w = wx)
  case first =>
    have hsz := HSZ.out
    by_cases h0 : y.size = 0
    · have h1 : decide (y.size < 1) = true := decide_eq_true (by omega)
      have h1' : decide ((y.size : Int) < 1) = true := decide_eq_true (by omega)
      have HV := Lib.hid (show headBad x = true by rw [HBD.out, decide_eq_true]; exact .inl (HN0.out.2 h0))
      clear hsz
      go_wp2_with fail
      go_meet
      case rel => exact ⟨by rw [HV.out]; try rfl, rfl⟩
    have h1 : decide (y.size < 1) = false := decide_eq_false (by omega)
    have h1' : decide ((y.size : Int) < 1) = false := decide_eq_false (by omega)
    have hs0 : 0 < y.size := by omega
    by_cases h5 : 5 < y.size
    · have h2 : decide (5 < y.size) = true := decide_eq_true h5
      have h2' : decide ((5 : Int) < (y.size : Int)) = true := by simp; omega
      have HV := Lib.hid (show headBad x = true by rw [HBD.out, decide_eq_true]; exact .inr (.inl (by omega)))
      clear hsz
      go_wp2_with fail
      go_meet
      case rel => exact ⟨by rw [HV.out]; try rfl, rfl⟩
    have h2 : decide (5 < y.size) = false := decide_eq_false h5
    have h2' : decide ((5 : Int) < (y.size : Int)) = false := by simp; omega
    have hhd := HH.out hs0
    by_cases h48 : y[0] = 48
    · have h3 : ((y[0].toNat : Int) == 48) = true := by simp [h48]
      by_cases h6 : 1 < y.size
      · have h4 : decide (1 < y.size) = true := decide_eq_true h6
        have h4' : decide ((1 : Int) < (y.size : Int)) = true := by simp; omega
        have HV := Lib.hid (show headBad x = true by rw [HBD.out, decide_eq_true]; exact .inr (.inr ⟨by rw [hhd, h48], by omega⟩))
        clear hsz hhd h48
        go_wp2_with fail
        go_meet
        case rel => exact ⟨by rw [HV.out]; try rfl, rfl⟩
      · have h4 : decide (1 < y.size) = false := decide_eq_false h6
        have h4' : decide ((1 : Int) < (y.size : Int)) = false := by simp; omega
        have HV := Lib.hid (show headBad x = false by
          rw [HBD.out, decide_eq_false]
          rintro (h | h | h)
          · exact h0 (HN0.out.1 h)
          · omega
          · omega)
        clear hsz hhd h48
        go_wp2_with fail
        go_meet
        case rel => exact ⟨by rw [HV.out]; try rfl, rfl⟩
    · have h3 : ((y[0].toNat : Int) == 48) = false := byte_no (n := 48) h48 (by omega)
      have HV := Lib.hid (show headBad x = false by
        rw [HBD.out, decide_eq_false]
        rintro (h | h | h)
        · exact h0 (HN0.out.1 h)
        · omega
        · rw [hhd] at h; exact h48 (Option.some.inj h.1))
      clear hsz hhd h48
      go_wp2_with fail
      go_meet
      case rel => exact ⟨by rw [HV.out]; try rfl, rfl⟩
  case rest =>
  obtain ⟨rfl, rfl⟩ := hcut
  cases hb : headBad x with
  | true =>
    have HF := Lib.hid (HNO.out (numD_head hb))
    clear hb
    go_wp2_with fail
    go_ret
    exact ⟨by rw [HF.out]; rfl, Below.refl _ _⟩
  | false =>
  have h5 : y.size ≤ 5 := by
    have := of_decide_eq_false (HBD.out.symm.trans hb)
    have := HSZ.out
    omega
  have HB5 := Lib.hid hb
  have HNB := Lib.hid (fun (c : UInt8) (h : c ∈ x) (hc : digD c = false) => HNO.out (numD_bad h hc))
  clear hb HBD
  go_wp2_with fail
  go_loopw [4, 3] (fun t4 t3 wr => ∃ (k v : Nat), k ≤ y.size ∧ t4 = .int .i64 k ∧ t3 = .int .i64 v ∧ v < 100000 ∧ Hid (valD (x.take k) = v) ∧ Hid (∀ c ∈ x.take k, digD c = true) ∧ Hid (Below w.heap.size w wr)) (fun t4 _ _ => y.size - (intOf t4).toNat)
  case atStart => exact ⟨0, 0, Nat.zero_le _, rfl, rfl, by omega, by simp [valD, Hid], by simp [Hid], Below.refl _ _⟩
  case round =>
    obtain ⟨k, v, hk, rfl, rfl, hv, HV, HC, HB⟩ := hrel
    by_cases hlt : k < y.size
    · have hdd : decide (k < y.size) = true := by simpa using hlt
      have hget := HG.out k hlt
      have HM := Lib.hid (show y[k] ∈ x from List.mem_of_getElem? hget)
      have htk : x.take (k + 1) = x.take k ++ [y[k]] := by rw [List.take_add_one, hget]; rfl
      by_cases hlo : y[k].toNat < 48
      · have h3 : decide ((y[k].toNat : Int) < 48) = true := by simp; omega
        have HF := Lib.hid (HNB.out _ HM.out (by simp [digD]; omega))
        clear htk hget
        go_wp2_with fail
        go_ret
        exact ⟨by rw [HF.out]; rfl, HB.out⟩
      have h3 : decide ((y[k].toNat : Int) < 48) = false := by simp; omega
      by_cases hhi : 57 < y[k].toNat
      · have h5 : decide ((57 : Int) < (y[k].toNat : Int)) = true := by simp; omega
        have HF := Lib.hid (HNB.out _ HM.out (by simp [digD]; omega))
        clear htk hget
        go_wp2_with fail
        go_ret
        exact ⟨by rw [HF.out]; rfl, HB.out⟩
      have h5' : decide ((57 : Int) < (y[k].toNat : Int)) = false := by simp; omega
      have hdc : ∀ c ∈ x.take (k + 1), digD c = true := fun c hc => by
        rw [htk] at hc
        rcases List.mem_append.1 hc with hc | hc
        · exact HC.out c hc
        · rw [List.mem_singleton.1 hc]; simp [digD]; omega
      have hdv : valD (x.take (k + 1)) = v * 10 + (y[k].toNat - 48) := by rw [htk, valD_snoc, HV.out]
      have hlt2 : valD (x.take (k + 1)) < 100000 := by
        have h1 := valD_lt _ _ rfl hdc
        have h2 : (10 : Nat) ^ (x.take (k + 1)).length ≤ 10 ^ 5 := Nat.pow_le_pow_right (by omega) (by rw [List.length_take]; omega)
        have e : (10 : Nat) ^ 5 = 100000 := by decide
        omega
      have HDV := Lib.hid hdv
      have HDC := Lib.hid hdc
      have hlt3 : v * 10 + (y[k].toNat - 48) < 100000 := by rw [← hdv]; exact hlt2
      clear htk hget hdc hlt2 hdv
      go_wp2_with fail
      go_roundw
      case rel => exact ⟨k + 1, v * 10 + (y[k].toNat - 48), by omega, by go_num, by congr 1; omega, hlt3, HDV.out, HDC.out, HB.out⟩
      case measure => simp [intOf]; omega
    · obtain rfl : k = y.size := by omega
      have hdd : decide (y.size < y.size) = false := by simp
      have HF := Lib.hid (HYES.out v (by
        have h1 := numD_good HB5.out (fun c hc => HC.out c (by rw [HSZ.out, List.take_length]; exact hc))
        have h2 := HV.out
        rw [HSZ.out, List.take_length] at h2
        rw [h1, h2]))
      go_wp2_with fail
      go_ret
      exact ⟨by rw [HF.out]; rfl, HB.out⟩


set_option maxHeartbeats 1600000 in
set_option maxRecDepth 100000 in
theorem xLiteral (x : List UInt8) (hl : x.length ≤ 1100000) : Gives 70 #[.string ⟨x.toArray⟩] (.int .i64 (litD x)) := by
  intro w
  obtain ⟨y, hy⟩ : ∃ y : ByteArray, y = ⟨x.toArray⟩ := ⟨_, rfl⟩
  obtain ⟨hsz, hG, hH, hX⟩ := ba_facts hy
  have hb : ∀ z, -1 ≤ numX z ∧ numX z < 100000 := fun z => by
    unfold numX
    cases hn : numD z with
    | none => simp
    | some n => have := numD_lt hn; simp; omega
  by_cases h1 : 1 < y.size ∧ x.head? = some 45
  · have KN := xNumber (x.drop 1) (by rw [List.length_drop]; omega)
    have HE := Lib.hid (show litD x = -(max 0 (numX (x.drop 1))) by rw [numX_max]; unfold litD; rw [if_pos h1.2]; rfl)
    have hn := hb (x.drop 1)
    rw [hX 1] at KN
    rw [← hy]
    have hd : decide (1 < y.size) = true := decide_eq_true h1.1
    have hd2 : decide ((1 : Int) < (y.size : Int)) = true := by simp; omega
    have hs0 : 0 < y.size := by omega
    have hs1 : 1 ≤ y.size := by omega
    have hyb : y.size ≤ 1100000 := by omega
    have h45 : ((y[0].toNat : Int) == 45) = true := by
      have := hH hs0
      rw [h1.2, Option.some.injEq] at this
      rw [← this]; rfl
    generalize numX (x.drop 1) = n at *
    clear hy hG hH hX hb h1 hsz
    go_enter Tryz.func70, Tryz.ntmps70
    go_wp2_with fail
    refine (KN _).mono ?_
    rintro e w2 ⟨rfl, hB⟩
    have HB := Lib.hid hB
    clear hB KN
    go_wp2_with fail
    go_ret
    exact ⟨by rw [HE.out]; rfl, HB.out⟩
  · have KN := xNumber x hl
    have HE := Lib.hid (show litD x = max 0 (numX x) by
      rw [numX_max]; unfold litD
      by_cases h : x.head? = some 45
      · rw [if_pos h]
        have hle : ¬ 1 < y.size := fun h' => h1 ⟨h', h⟩
        have e1 : x = [45] := by
          cases x with
          | nil => cases h
          | cons a l =>
            simp only [List.head?_cons, Option.some.injEq] at h
            subst h
            have : l.length = 0 := by simp only [List.length_cons] at hsz; omega
            rw [List.length_eq_zero_iff.1 this]
        subst e1; rfl
      · rw [if_neg h]; rfl)
    have hn := hb x
    rw [← hy] at KN
    rw [← hy]
    have hyb : y.size ≤ 1100000 := by omega
    by_cases hs1 : 1 < y.size
    · have hd : decide (1 < y.size) = true := decide_eq_true hs1
      have hd2 : decide ((1 : Int) < (y.size : Int)) = true := by simp; omega
      have hs0 : 0 < y.size := by omega
      have h45 : ((y[0].toNat : Int) == 45) = false := byte_no (n := 45) (fun e => h1 ⟨hs1, by rw [hH hs0]; exact congrArg some e⟩) (by omega)
      generalize numX x = n at *
      clear hy hG hH hX hb h1 hsz
      go_enter Tryz.func70, Tryz.ntmps70
      go_wp2_with fail
      refine (KN _).mono ?_
      rintro e w2 ⟨rfl, hB⟩
      have HB := Lib.hid hB
      clear hB KN
      go_wp2_with fail
      go_ret
      exact ⟨by rw [HE.out]; rfl, HB.out⟩
    · have hd : decide (1 < y.size) = false := decide_eq_false hs1
      have hd2 : decide ((1 : Int) < (y.size : Int)) = false := by simp; omega
      generalize numX x = n at *
      clear hy hG hH hX hb h1 hsz
      go_enter Tryz.func70, Tryz.ntmps70
      go_wp2_with fail
      refine (KN _).mono ?_
      rintro e w2 ⟨rfl, hB⟩
      have HB := Lib.hid hB
      clear hB KN
      go_wp2_with fail
      go_ret
      exact ⟨by rw [HE.out]; rfl, HB.out⟩
end Go.Proofs.YtajjgfiojlagmaaGreatDoor

/- Lines and words: the library's and the reference's. -/
namespace Go.Proofs.YtajjgfiojlagmaaGreatDoor
open Go.RowKit

def strs (xs : List (List UInt8)) : List Value := xs.map fun b => .string ⟨b.toArray⟩
theorem strs_get (xs : List (List UInt8)) (i : Nat) (b : List UInt8) (h : xs[i]? = some b) : (strs xs)[i]? = some (.string ⟨b.toArray⟩) := by simp [strs, h]
structure OwnS (w : World) (b : Nat) (v : Value) (xs : List (List UInt8)) : Prop where
  row : RowV (inW w) 9 1 v xs.length (strs xs)
  ge : ∀ g ∈ rowBlk v, b ≤ g
theorem OwnS.grown {w w' : World} {b : Nat} {v v' : Value} {xs : List (List UInt8)} {d : List UInt8} (h : OwnS w b v xs) (hb : b ≤ w.heap.size)
    (hr : RowV (inW w') 9 1 v' (xs.length + 1) (strs xs ++ [.string ⟨d.toArray⟩])) (hn : ∀ g ∈ rowBlk v', g ∈ rowBlk v ∨ w.heap.size ≤ g) : OwnS w' b v' (xs ++ [d]) := by
  refine ⟨?_, fun g hg => (hn g hg).elim (h.ge g) (fun e => by omega)⟩
  have e : strs (xs ++ [d]) = strs xs ++ [.string ⟨d.toArray⟩] := by simp [strs]
  rw [e, List.length_append]
  exact hr
theorem rowS_at {w : World} {v : Value} {xs : List (List UInt8)} (hr : RowV (inW w) 9 1 v xs.length (strs xs)) : ∃ a c, v = .slice a xs.length c ∧ AtN w.heap.size w a (strs xs) := by
  generalize hn : xs.length = n at hr
  generalize hz : strs xs = zs at hr
  cases hr with
  | nil => exact ⟨none, 0, rfl, fun i v hi => by simp at hi⟩
  | @row g n cap ys cur hr =>
    refine ⟨some ⟨g, 0, none⟩, cap, rfl, fun i v hi => ⟨g, 0, lt_of_heap hr.blk, rfl, ?_⟩⟩
    have h2 := hr.tk
    rw [← h2, List.getElem?_take] at hi
    split at hi
    · rw [Nat.zero_add]
      exact blk_cell hr.blk i (by simpa using hi)
    · cases hi
theorem Tryz.infoStr : (Tryz.prog.info? 9).map (fun i => (i.zero, i.size, i.bytes)) = some (some (.string ⟨#[]⟩), 1, 16) := by kernel_rfl
def StrsPost (w : World) (xs : List (List UInt8)) (e : Ending) (w' : World) : Prop := ∃ a c, e = .returned (.slice a xs.length c) ∧ AtN w'.heap.size w' a (strs xs) ∧ Below w.heap.size w w'

theorem split_list (c : UInt8) (l : List UInt8) : (Lib.splitB ⟨#[c]⟩ 0 (Lib.countB ⟨l.toArray⟩ ⟨#[c]⟩) ⟨l.toArray⟩).map Value.string = strs (pieces c l) := by
  have h1 := Lib.splitB_data ⟨#[c]⟩ 0 (Lib.countB ⟨l.toArray⟩ ⟨#[c]⟩) ⟨l.toArray⟩
  have h2 : Lib.splitK [c] 0 (Lib.countB ⟨l.toArray⟩ ⟨#[c]⟩) l = pieces c l := split_pieces c l
  have h3 : (Lib.splitB ⟨#[c]⟩ 0 (Lib.countB ⟨l.toArray⟩ ⟨#[c]⟩) ⟨l.toArray⟩).map (·.data.toList) = pieces c l := h1.trans h2
  rw [← h3]
  unfold strs
  rw [List.map_map]
  congr 1

end Go.Proofs.YtajjgfiojlagmaaGreatDoor

/- Lines and words: the reference's. -/
namespace Go.Proofs.YtajjgfiojlagmaaGreatDoor
open Go.RowKit

theorem ext_list {l : List UInt8} {s : ByteArray} (hs : s = ⟨l.toArray⟩) : ∀ a b, a ≤ b → b ≤ s.size → s.extract a b = ⟨((l.take b).drop a).toArray⟩ := by
  intro a b _ _
  subst hs
  apply ByteArray.ext
  simp only [ByteArray.data_extract, List.extract_toArray, List.extract_eq_take_drop]
  rw [List.drop_take]

set_option maxHeartbeats 1600000 in
set_option maxRecDepth 100000 in
theorem xLines (l : List UInt8) (hl : l.length ≤ 1100000) (w : World) : Calls Tryz.prog 25 #[.string ⟨l.toArray⟩] w (StrsPost w (pieces 10 l)) := by
  obtain ⟨i0, ii, iz0, iz1, iz2⟩ := info_parts Tryz.infoStr
  have II := Lib.hid ii
  have IZ0 := Lib.hid iz0
  have IZ1 := Lib.hid iz1
  have IZ2 := Lib.hid iz2
  clear ii iz0 iz1 iz2
  obtain ⟨Post, hPost⟩ : ∃ P : Ending → World → Prop, P = StrsPost w (pieces 10 l) := ⟨_, rfl⟩
  rw [← hPost]
  have HP := Lib.hid hPost
  obtain ⟨s, hs⟩ : ∃ s : ByteArray, s = ⟨l.toArray⟩ := ⟨_, rfl⟩
  obtain ⟨hsz, hG, -, -⟩ := ba_facts hs
  have HSZ := Lib.hid hsz
  have HG := Lib.hid hG
  have HX := Lib.hid (ext_list hs)
  rw [← hs]
  have hsl : s.size ≤ 1100000 := by omega
  clear hs hPost hsz hG
  go_enter Tryz.func25, Tryz.ntmps25
  go_wp2_with fail
  go_loopw [5, 4, 3] (fun t5 t4 t3 wr => ∃ (j fr : Nat) (o : List (List UInt8)), j ≤ s.size + 1 ∧ t5 = .int .i64 j ∧ t4 = .int .i64 fr ∧ fr ≤ j ∧ o.length ≤ j ∧ Hid (j ≤ s.size → (pcSt 10 l j).2 = (l.take j).drop fr ∧ o = (pcSt 10 l j).1) ∧ Hid (j = s.size + 1 → o = pieces 10 l) ∧ Hid (OwnS wr w.heap.size t3 o) ∧ Hid (Below w.heap.size w wr)) (fun t5 _ _ _ => s.size + 1 - (intOf t5).toNat)
  case atStart => exact ⟨0, 0, [], by omega, rfl, rfl, Nat.le_refl _, Nat.le_refl _, fun _ => ⟨rfl, rfl⟩, fun h => by omega, ⟨.nil, by simp [rowBlk]⟩, Below.refl _ _⟩
  case round =>
    obtain ⟨j, fr, o, hj, rfl, rfl, hfr, ho, HI, HF, HO, HB⟩ := hrel
    by_cases hlt : j ≤ s.size
    · have hdd : decide (j ≤ s.size) = true := decide_eq_true hlt
      have hdd2 : decide ((j : Int) ≤ (s.size : Int)) = true := decide_eq_true (by omega)
      obtain ⟨hI1, hI2⟩ := HI.out hlt
      have HI1 := Lib.hid hI1
      have HI2 := Lib.hid hI2
      have HEX := Lib.hid (HX.out fr j hfr hlt)
      clear hI1 hI2
      by_cases hend : j = s.size
      · obtain rfl : j = s.size := hend
        have he : ((s.size : Int) == (s.size : Int)) = true := by simp
        go_wp2_with (at_builtin; refine wpList_append_row _ rfl _ _ 60 rfl 9 i0 (.string ⟨#[]⟩) 1 16 Tryz.underlying60 II.out IZ0.out IZ1.out IZ2.out rfl _ _ _ rfl (HO.out.row.keep (behind_of_below ((Below.refl _ _).alloc (Nat.le_refl _) _)) (by simp)) wr.heap.size 1 1 [.string (s.extract fr s.size)] 9 rfl (heap_alloc_new wr _) rfl (by intro u hu; simp at hu; subst hu; rfl) (by omega) (by unfold maxLen; omega) (by omega) ?_)
        intro v9 w9 hr9 hB9 hn9
        have h09 : Behind wr (rowBlk u3) w9 := ((behind_of_below ((Below.refl _ _).alloc (Nat.le_refl _) _)).mono (by simp)).trans hB9 (fun k hk => .inl hk)
        rw [HEX.out] at hr9
        have hO9 := HO.out.grown HB.out.size hr9 (fun g hg => (hn9 g hg).imp id (fun h => by first | omega | (simp at h; omega)))
        have HO9 := Lib.hid hO9
        have HB9 := Lib.hid (HB.out.trans (h09.below_of HO.out.ge HB.out.size))
        clear hO9 hr9 hB9 hn9 h09 HO HB
        go_wp2_with fail
        go_roundw
        case rel => exact ⟨s.size + 1, s.size + 1, o ++ [(l.take s.size).drop fr], by omega, by go_num, by go_num, Nat.le_refl _, by simp; omega, fun h => absurd h (by omega), fun _ => by rw [HI2.out, pieces_pcSt, ← HSZ.out, HI1.out], HO9.out, HB9.out⟩
        case measure => simp [intOf] <;> omega
      have he : ((j : Int) == (s.size : Int)) = false := beq_no (by omega)
      have hls : j < s.size := by omega
      have hget := HG.out j hls
      have hll : j < l.length := by have := HSZ.out; omega
      have hge : l[j] = s[j] := by rw [List.getElem?_eq_getElem hll] at hget; exact Option.some.inj hget
      have hst := pcSt_succ (c := 10) hll
      rw [hge] at hst
      by_cases hc : s[j] = 10
      · have h4 : ((s[j].toNat : Int) == 10) = true := by simp [hc]
        have HST := Lib.hid (hst.trans (show _ = ((pcSt 10 l j).1 ++ [(pcSt 10 l j).2], []) by unfold pcStep; rw [if_pos hc]))
        clear hst hget hge hc
        go_wp2_with (at_builtin; refine wpList_append_row _ rfl _ _ 60 rfl 9 i0 (.string ⟨#[]⟩) 1 16 Tryz.underlying60 II.out IZ0.out IZ1.out IZ2.out rfl _ _ _ rfl (HO.out.row.keep (behind_of_below ((Below.refl _ _).alloc (Nat.le_refl _) _)) (by simp)) wr.heap.size 1 1 [.string (s.extract fr j)] 9 rfl (heap_alloc_new wr _) rfl (by intro u hu; simp at hu; subst hu; rfl) (by omega) (by unfold maxLen; omega) (by omega) ?_)
        intro v9 w9 hr9 hB9 hn9
        have h09 : Behind wr (rowBlk u3) w9 := ((behind_of_below ((Below.refl _ _).alloc (Nat.le_refl _) _)).mono (by simp)).trans hB9 (fun k hk => .inl hk)
        rw [HEX.out] at hr9
        have hO9 := HO.out.grown HB.out.size hr9 (fun g hg => (hn9 g hg).imp id (fun h => by first | omega | (simp at h; omega)))
        have HO9 := Lib.hid hO9
        have HB9 := Lib.hid (HB.out.trans (h09.below_of HO.out.ge HB.out.size))
        clear hO9 hr9 hB9 hn9 h09 HO HB
        go_wp2_with fail
        go_roundw
        case rel => exact ⟨j + 1, j + 1, o ++ [(l.take j).drop fr], by omega, by go_num, by go_num, Nat.le_refl _, by simp; omega, fun h => by rw [HST.out]; exact ⟨by simp, by rw [HI2.out, HI1.out]⟩, fun h => absurd h (by omega), HO9.out, HB9.out⟩
        case measure => simp [intOf] <;> omega
      · have h4 : ((s[j].toNat : Int) == 10) = false := byte_no (n := 10) hc (by omega)
        have HST := Lib.hid (hst.trans (show _ = ((pcSt 10 l j).1, (pcSt 10 l j).2 ++ [s[j]]) by unfold pcStep; rw [if_neg hc]))
        have HTK := Lib.hid (show (l.take j).drop fr ++ [s[j]] = (l.take (j + 1)).drop fr by
          rw [← hge, List.take_add_one, List.getElem?_eq_getElem hll, List.drop_append_of_le_length (by rw [List.length_take]; omega)]; rfl)
        clear hst hget hge hc
        go_wp2_with fail
        go_roundw
        case rel => exact ⟨j + 1, fr, o, by omega, by go_num, rfl, by omega, by omega, fun h => by rw [HST.out]; exact ⟨by rw [HI1.out]; exact HTK.out, HI2.out⟩, fun h => absurd h (by omega), HO.out, HB.out⟩
        case measure => simp [intOf] <;> omega
    · obtain rfl : j = s.size + 1 := by omega
      have hdd : decide (s.size + 1 ≤ s.size) = false := decide_eq_false (by omega)
      have hdd2 : decide (((s.size + 1 : Nat) : Int) ≤ (s.size : Int)) = false := decide_eq_false (by omega)
      have hdd3 : decide ((s.size : Int) + 1 ≤ (s.size : Int)) = false := decide_eq_false (by omega)
      have HR := Lib.hid (HF.out rfl)
      obtain ⟨a9, c9, hv9, hA9⟩ := rowS_at HO.out.row
      subst hv9
      have HA9 := Lib.hid hA9
      clear hA9
      go_wp2_with fail
      rw [HP.out]
      unfold StrsPost
      rw [← HR.out]
      exact ⟨a9, c9, rfl, HA9.out, HB.out⟩

end Go.Proofs.YtajjgfiojlagmaaGreatDoor
