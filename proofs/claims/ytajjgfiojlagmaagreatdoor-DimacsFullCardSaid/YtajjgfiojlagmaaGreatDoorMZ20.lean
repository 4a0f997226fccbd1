/- Texts of this claim, joined: D1, D2, D3, D4, D5, D6, D7. -/
import Derived.Test.YtajjgfiojlagmaaGreatDoorMZ18
import Derived.Test.YtajjgfiojlagmaaGreatDoorMZ19
import Derived.Test.YtajjgfiojlagmaaGreatDoorShelf
import Derived.Deep.DeepCutAuto
import Derived.Maps.Own
import Derived.Maps.OwnOps

/- Numbers and literals of words: the program's. -/
namespace Go.Proofs.YtajjgfiojlagmaaGreatDoor
open Go.RowKit

theorem ba_app (a b : List UInt8) : (⟨a.toArray⟩ : ByteArray) ++ ⟨b.toArray⟩ = ⟨(a ++ b).toArray⟩ := by
  apply ByteArray.ext
  simp
theorem ba_size (a : List UInt8) : (⟨a.toArray⟩ : ByteArray).size = a.length := by simp [ByteArray.size]
theorem ba_list (a : List UInt8) : (⟨a.toArray⟩ : ByteArray).toList = a := by rw [ByteArray.toList_eq]
theorem ba_facts {x : List UInt8} {y : ByteArray} (hy : y = ⟨x.toArray⟩) : y.size = x.length ∧ (∀ k (h : k < y.size), x[k]? = some y[k]) ∧ (∀ h : 0 < y.size, x.head? = some y[0]) ∧ (∀ k, (⟨(x.drop k).toArray⟩ : ByteArray) = y.extract k y.size) := by
  subst hy
  refine ⟨ba_size x, fun k h => ?_, fun h => ?_, fun k => ?_⟩
  · rw [List.getElem?_eq_getElem (by rw [ba_size] at h; exact h)]; rfl
  · cases x with
    | nil => simp [ba_size] at h
    | cons a l => rfl
  · rw [ba_size]; apply ByteArray.ext; simp only [ByteArray.data_extract, List.extract_toArray, List.extract_eq_take_drop]; rw [List.take_of_length_le (by rw [List.length_drop]; omega)]
theorem byte_no {b : UInt8} {n : Nat} (h : ¬ b = UInt8.ofNat n) (hn : n < 256) : ((b.toNat : Int) == (n : Int)) = false := by
  rw [beq_eq_false_iff_ne]
  intro e
  apply h
  apply UInt8.toNat_inj.1
  rw [UInt8.toNat_ofNat']
  omega

def headBad (x : List UInt8) : Bool := decide (x = [] ∨ 5 < x.length ∨ (x.head? = some 48 ∧ 1 < x.length))
theorem numD_head {x : List UInt8} (h : headBad x = true) : numD x = none := by
  unfold headBad at h
  have := of_decide_eq_true h
  unfold numD
  rw [if_pos]
  rcases this with h | h | h
  · exact .inl h
  · exact .inr (.inl h)
  · exact .inr (.inr (.inl h))
theorem numD_bad {x : List UInt8} {c : UInt8} (h : c ∈ x) (hc : digD c = false) : numD x = none := by
  unfold numD
  rw [if_pos]
  refine .inr (.inr (.inr ?_))
  rw [Bool.eq_false_iff]
  intro ha
  rw [List.all_eq_true.1 ha c h] at hc; cases hc
theorem numD_good {x : List UInt8} (h : headBad x = false) (ha : ∀ c ∈ x, digD c = true) : numD x = some (valD x) := by
  unfold headBad at h
  have h' := of_decide_eq_false h
  unfold numD
  rw [if_neg]
  rintro (h1 | h1 | h1 | h1)
  · exact h' (.inl h1)
  · exact h' (.inr (.inl h1))
  · exact h' (.inr (.inr h1))
  · rw [List.all_eq_true.2 ha] at h1; cases h1

set_option maxHeartbeats 1600000 in
set_option maxRecDepth 100000 in
theorem gNumber (x : List UInt8) (hl : x.length ≤ 1100000) : Gives 65 #[.string ⟨x.toArray⟩] (.tuple #[.int .i64 (numZ x), .bool (numD x).isSome]) := by
  intro w
  obtain ⟨y, hy⟩ : ∃ y : ByteArray, y = ⟨x.toArray⟩ := ⟨_, rfl⟩
  obtain ⟨hsz, hG, hH, -⟩ := ba_facts hy
  rw [← hy]
  have HNO := Lib.hid (fun (h : numD x = none) => show (Value.tuple #[.int .i64 (numZ x), .bool (numD x).isSome]) = .tuple #[.int .i64 0, .bool false] by unfold numZ; rw [h]; rfl)
  have HYES := Lib.hid (fun (v : Nat) (h : numD x = some v) => show (Value.tuple #[.int .i64 (numZ x), .bool (numD x).isSome]) = .tuple #[.int .i64 (v : Int), .bool true] by unfold numZ; rw [h]; rfl)
  generalize (Value.tuple #[.int .i64 (numZ x), .bool (numD x).isSome]) = R at *
  have HSZ := Lib.hid hsz
  have HG := Lib.hid hG
  have HH := Lib.hid hH
  have hyl : y.size ≤ 1100000 := by omega
  have HN0 := Lib.hid (show x = [] ↔ y.size = 0 by rw [hsz]; exact List.length_eq_zero_iff.symm)
  have HBD := Lib.hid (show headBad x = decide (x = [] ∨ 5 < x.length ∨ (x.head? = some 48 ∧ 1 < x.length)) from rfl)
  clear hy hsz hG hH
  go_enter Tryz.func65, Tryz.ntmps65
  go_upto_region 1 with fail
  go_cut [23] (fun t23 wx => t23 = .bool (headBad x) ∧ w = wx)
  case first =>
    have hsz := HSZ.out
    by_cases h0 : y.size = 0
    · have h1 : ((y.size : Int) == 0) = true := by simp [h0]
      have HV := Lib.hid (show headBad x = true by rw [HBD.out, decide_eq_true]; exact .inl (HN0.out.2 h0))
      clear hsz
      go_wp2_with fail
      go_meet
      case rel => exact ⟨by rw [HV.out]; try rfl, rfl⟩
    have h1 : ((y.size : Int) == 0) = false := by simpa using h0
    have hs0 : 0 < y.size := by omega
    by_cases h5 : 5 < y.size
    · have h2 : decide (5 < y.size) = true := decide_eq_true h5
      have h2' : decide ((5 : Int) < (y.size : Int)) = true := by simp; omega
      have HV := Lib.hid (show headBad x = true by rw [HBD.out, decide_eq_true]; exact .inr (.inl (by omega)))
      clear hsz
      go_wp2_with fail
      go_meet
      case rel => exact ⟨by rw [HV.out]; try rfl, rfl⟩
    have h2 : decide (5 < y.size) = false := decide_eq_false h5
    have h2' : decide ((5 : Int) < (y.size : Int)) = false := by simp; omega
    have hhd := HH.out hs0
    by_cases h48 : y[0] = 48
    · have h3 : ((y[0].toNat : Int) == 48) = true := by simp [h48]
      by_cases h6 : 1 < y.size
      · have h4 : decide (1 < y.size) = true := decide_eq_true h6
        have h4' : decide ((1 : Int) < (y.size : Int)) = true := by simp; omega
        have HV := Lib.hid (show headBad x = true by rw [HBD.out, decide_eq_true]; exact .inr (.inr ⟨by rw [hhd, h48], by omega⟩))
        clear hsz hhd h48
        go_wp2_with fail
        go_meet
        case rel => exact ⟨by rw [HV.out]; try rfl, rfl⟩
      · have h4 : decide (1 < y.size) = false := decide_eq_false h6
        have h4' : decide ((1 : Int) < (y.size : Int)) = false := by simp; omega
        have HV := Lib.hid (show headBad x = false by
          rw [HBD.out, decide_eq_false]
          rintro (h | h | h)
          · exact h0 (HN0.out.1 h)
          · omega
          · omega)
        clear hsz hhd h48
        go_wp2_with fail
        go_meet
        case rel => exact ⟨by rw [HV.out]; try rfl, rfl⟩
    · have h3 : ((y[0].toNat : Int) == 48) = false := byte_no (n := 48) h48 (by omega)
      have HV := Lib.hid (show headBad x = false by
        rw [HBD.out, decide_eq_false]
        rintro (h | h | h)
        · exact h0 (HN0.out.1 h)
        · omega
        · rw [hhd] at h; exact h48 (Option.some.inj h.1))
      clear hsz hhd h48
      go_wp2_with fail
      go_meet
      case rel => exact ⟨by rw [HV.out]; try rfl, rfl⟩
  case rest =>
  obtain ⟨rfl, rfl⟩ := hcut
  cases hb : headBad x with
  | true =>
    have HF := Lib.hid (HNO.out (numD_head hb))
    clear hb
    go_wp2_with fail
    go_ret2
    exact ⟨by rw [HF.out]; rfl, Below.refl _ _⟩
  | false =>
  have h5 : y.size ≤ 5 := by
    have := of_decide_eq_false (HBD.out.symm.trans hb)
    have := HSZ.out
    omega
  have HB5 := Lib.hid hb
  have HNB := Lib.hid (fun (c : UInt8) (h : c ∈ x) (hc : digD c = false) => HNO.out (numD_bad h hc))
  clear hb HBD
  go_wp2_with fail
  go_loopw [26, 4] (fun t26 t4 wr => ∃ (k v : Nat), k ≤ y.size ∧ t26 = .int .i64 k ∧ t4 = .int .i64 v ∧ v < 100000 ∧ Hid (valD (x.take k) = v) ∧ Hid (∀ c ∈ x.take k, digD c = true) ∧ Hid (Below w.heap.size w wr)) (fun t26 _ _ => y.size - (intOf t26).toNat)
  case atStart => exact ⟨0, 0, Nat.zero_le _, rfl, rfl, by omega, by simp [valD, Hid], by simp [Hid], Below.refl _ _⟩
  case round =>
    obtain ⟨k, v, hk, rfl, rfl, hv, HV, HC, HB⟩ := hrel
    by_cases hlt : k < y.size
    · have hdd : decide (k < y.size) = true := by simpa using hlt
      have hget := HG.out k hlt
      have HM := Lib.hid (show y[k] ∈ x from List.mem_of_getElem? hget)
      have htk : x.take (k + 1) = x.take k ++ [y[k]] := by rw [List.take_add_one, hget]; rfl
      by_cases hlo : y[k].toNat < 48
      · have h3 : decide ((y[k].toNat : Int) < 48) = true := by simp; omega
        have HF := Lib.hid (HNB.out _ HM.out (by simp [digD]; omega))
        clear htk hget
        go_wp2_with fail
        go_ret2
        exact ⟨by rw [HF.out]; rfl, HB.out⟩
      have h3 : decide ((y[k].toNat : Int) < 48) = false := by simp; omega
      by_cases hhi : 57 < y[k].toNat
      · have h5 : decide ((57 : Int) < (y[k].toNat : Int)) = true := by simp; omega
        have HF := Lib.hid (HNB.out _ HM.out (by simp [digD]; omega))
        clear htk hget
        go_wp2_with fail
        go_ret2
        exact ⟨by rw [HF.out]; rfl, HB.out⟩
      have h5' : decide ((57 : Int) < (y[k].toNat : Int)) = false := by simp; omega
      have hdc : ∀ c ∈ x.take (k + 1), digD c = true := fun c hc => by
        rw [htk] at hc
        rcases List.mem_append.1 hc with hc | hc
        · exact HC.out c hc
        · rw [List.mem_singleton.1 hc]; simp [digD]; omega
      have hdv : valD (x.take (k + 1)) = v * 10 + (y[k].toNat - 48) := by rw [htk, valD_snoc, HV.out]
      have hlt2 : valD (x.take (k + 1)) < 100000 := by
        have h1 := valD_lt _ _ rfl hdc
        have h2 : (10 : Nat) ^ (x.take (k + 1)).length ≤ 10 ^ 5 := Nat.pow_le_pow_right (by omega) (by rw [List.length_take]; omega)
        have e : (10 : Nat) ^ 5 = 100000 := by decide
        omega
      have HDV := Lib.hid hdv
      have HDC := Lib.hid hdc
      have hlt3 : v * 10 + (y[k].toNat - 48) < 100000 := by rw [← hdv]; exact hlt2
      clear htk hget hdc hlt2 hdv
      go_wp2_with fail
      go_roundw
      case rel => exact ⟨k + 1, v * 10 + (y[k].toNat - 48), by omega, by go_num, by congr 1; omega, hlt3, HDV.out, HDC.out, HB.out⟩
      case measure => simp [intOf]; omega
    · obtain rfl : k = y.size := by omega
      have hdd : decide (y.size < y.size) = false := by simp
      have HF := Lib.hid (HYES.out v (by
        have h1 := numD_good HB5.out (fun c hc => HC.out c (by rw [HSZ.out, List.take_length]; exact hc))
        have h2 := HV.out
        rw [HSZ.out, List.take_length] at h2
        rw [h1, h2]))
      go_wp2_with fail
      go_ret2
      exact ⟨by rw [HF.out]; rfl, HB.out⟩

set_option maxHeartbeats 1600000 in
set_option maxRecDepth 100000 in
theorem gLiteral (x : List UInt8) (hl : x.length ≤ 1100000) : Gives 68 #[.string ⟨x.toArray⟩] (.tuple #[.int .i64 (litD x), .bool (decide (litD x ≠ 0))]) := by
  intro w
  have KC := Tryz.strings_CutPrefix ⟨x.toArray⟩ ⟨#[45]⟩ w
  have hp : Lib.hasPrefix x [45] = decide (x.head? = some 45) := by
    cases x with
    | nil => rfl
    | cons a l =>
      by_cases h : a = 45
      · subst h; simp [Lib.hasPrefix, List.isPrefixOf]
      · simp [Lib.hasPrefix, List.isPrefixOf, h, Ne.symm h]
  simp only [show (⟨#[45]⟩ : ByteArray).data.toList = [45] from rfl, show (⟨x.toArray⟩ : ByteArray).data.toList = x from rfl] at KC
  have htr : Lib.trimPrefix x [45] = if x.head? = some 45 then x.drop 1 else x := by
    unfold Lib.trimPrefix
    rw [hp]
    by_cases h : x.head? = some 45 <;> simp [h]
  rw [htr, hp] at KC
  by_cases h : x.head? = some 45
  · rw [if_pos h, decide_eq_true h] at KC
    have KN := gNumber (x.drop 1) (by rw [List.length_drop]; omega)
    have HE := Lib.hid (show litD x = -numZ (x.drop 1) by unfold litD numZ; rw [if_pos h])
    have hz : numZ (x.drop 1) = 0 ∨ (numD (x.drop 1)).isSome = true := by
      cases hn : numD (x.drop 1) with
      | none => left; unfold numZ; rw [hn]; rfl
      | some n => right; rfl
    have hb : 0 ≤ numZ (x.drop 1) ∧ numZ (x.drop 1) < 100000 := by
      unfold numZ
      cases hn : numD (x.drop 1) with
      | none => simp
      | some n => have := numD_lt hn; simp; omega
    generalize numZ (x.drop 1) = n at *
    generalize (numD (x.drop 1)).isSome = ok at *
    generalize (⟨(x.drop 1).toArray⟩ : ByteArray) = z at *
    generalize (⟨x.toArray⟩ : ByteArray) = y at *
    clear hp htr h
    go_enter Tryz.func68, Tryz.ntmps68
    go_wp2_with fail
    refine KC.mono ?_
    rintro e w2 ⟨rfl, rfl⟩
    go_wp2_with fail
    refine (KN _).mono ?_
    rintro e w2 ⟨rfl, hB⟩
    have HB := Lib.hid hB
    clear hB KN KC
    by_cases hn : n = 0
    · subst hn
      cases ok <;>
        (go_wp2_with fail
         go_ret2
         exact ⟨by rw [HE.out]; rfl, HB.out⟩)
    · obtain rfl : ok = true := by simpa [hn] using hz
      have hn1 : (-n != 0) = true := by simp [bne, beq_no (show -n ≠ 0 by omega)]
      have hn2 : decide (-n ≠ 0) = true := by simp; omega
      have HN := Lib.hid hn2
      clear hn2
      go_wp2_with fail
      go_ret2
      exact ⟨by rw [HE.out, HN.out]; rfl, HB.out⟩
  · rw [if_neg h, decide_eq_false h] at KC
    have KN := gNumber x hl
    have HE := Lib.hid (show litD x = numZ x by unfold litD numZ; rw [if_neg h])
    have hz : numZ x = 0 ∨ (numD x).isSome = true := by
      cases hn : numD x with
      | none => left; unfold numZ; rw [hn]; rfl
      | some n => right; rfl
    generalize numZ x = n at *
    generalize (numD x).isSome = ok at *
    generalize (⟨x.toArray⟩ : ByteArray) = y at *
    clear hp htr h
    go_enter Tryz.func68, Tryz.ntmps68
    go_wp2_with fail
    refine KC.mono ?_
    rintro e w2 ⟨rfl, rfl⟩
    go_wp2_with fail
    refine (KN _).mono ?_
    rintro e w2 ⟨rfl, hB⟩
    have HB := Lib.hid hB
    clear hB KN KC
    by_cases hn : n = 0
    · subst hn
      cases ok <;>
        (go_wp2_with fail
         go_ret2
         exact ⟨by rw [HE.out]; rfl, HB.out⟩)
    · obtain rfl : ok = true := by simpa [hn] using hz
      have hn1 : (n != 0) = true := by simp [bne, beq_no hn]
      have hn2 : decide (n ≠ 0) = true := by simpa using hn
      have HN := Lib.hid hn2
      clear hn2
      go_wp2_with fail
      go_ret2
      exact ⟨by rw [HE.out, HN.out]; rfl, HB.out⟩
end Go.Proofs.YtajjgfiojlagmaaGreatDoor

/- Numbers, literals, lines and words: the reference's; words: the program's. -/
namespace Go.Proofs.YtajjgfiojlagmaaGreatDoor
open Go.RowKit

end Go.Proofs.YtajjgfiojlagmaaGreatDoor

/- Lines and words: the library's and the reference's. -/
namespace Go.Proofs.YtajjgfiojlagmaaGreatDoor
open Go.RowKit

def strs (xs : List (List UInt8)) : List Value := xs.map fun b => .string ⟨b.toArray⟩
theorem strs_get (xs : List (List UInt8)) (i : Nat) (b : List UInt8) (h : xs[i]? = some b) : (strs xs)[i]? = some (.string ⟨b.toArray⟩) := by simp [strs, h]
structure OwnS (w : World) (b : Nat) (v : Value) (xs : List (List UInt8)) : Prop where
  row : RowV (inW w) 9 1 v xs.length (strs xs)
  ge : ∀ g ∈ rowBlk v, b ≤ g
theorem OwnS.grown {w w' : World} {b : Nat} {v v' : Value} {xs : List (List UInt8)} {d : List UInt8} (h : OwnS w b v xs) (hb : b ≤ w.heap.size)
    (hr : RowV (inW w') 9 1 v' (xs.length + 1) (strs xs ++ [.string ⟨d.toArray⟩])) (hn : ∀ g ∈ rowBlk v', g ∈ rowBlk v ∨ w.heap.size ≤ g) : OwnS w' b v' (xs ++ [d]) := by
  refine ⟨?_, fun g hg => (hn g hg).elim (h.ge g) (fun e => by omega)⟩
  have e : strs (xs ++ [d]) = strs xs ++ [.string ⟨d.toArray⟩] := by simp [strs]
  rw [e, List.length_append]
  exact hr
theorem rowS_at {w : World} {v : Value} {xs : List (List UInt8)} (hr : RowV (inW w) 9 1 v xs.length (strs xs)) : ∃ a c, v = .slice a xs.length c ∧ AtN w.heap.size w a (strs xs) := by
  generalize hn : xs.length = n at hr
  generalize hz : strs xs = zs at hr
  cases hr with
  | nil => exact ⟨none, 0, rfl, fun i v hi => by simp at hi⟩
  | @row g n cap ys cur hr =>
    refine ⟨some ⟨g, 0, none⟩, cap, rfl, fun i v hi => ⟨g, 0, lt_of_heap hr.blk, rfl, ?_⟩⟩
    have h2 := hr.tk
    rw [← h2, List.getElem?_take] at hi
    split at hi
    · rw [Nat.zero_add]
      exact blk_cell hr.blk i (by simpa using hi)
    · cases hi
theorem split_list (c : UInt8) (l : List UInt8) : (Lib.splitB ⟨#[c]⟩ 0 (Lib.countB ⟨l.toArray⟩ ⟨#[c]⟩) ⟨l.toArray⟩).map Value.string = strs (pieces c l) := by
  have h1 := Lib.splitB_data ⟨#[c]⟩ 0 (Lib.countB ⟨l.toArray⟩ ⟨#[c]⟩) ⟨l.toArray⟩
  have h2 : Lib.splitK [c] 0 (Lib.countB ⟨l.toArray⟩ ⟨#[c]⟩) l = pieces c l := split_pieces c l
  have h3 : (Lib.splitB ⟨#[c]⟩ 0 (Lib.countB ⟨l.toArray⟩ ⟨#[c]⟩) ⟨l.toArray⟩).map (·.data.toList) = pieces c l := h1.trans h2
  rw [← h3]
  unfold strs
  rw [List.map_map]
  congr 1

end Go.Proofs.YtajjgfiojlagmaaGreatDoor

/- Lines and words: the reference's. -/
namespace Go.Proofs.YtajjgfiojlagmaaGreatDoor
open Go.RowKit

end Go.Proofs.YtajjgfiojlagmaaGreatDoor

/- What has been read, in memory: four rows of one's own, and the clauses' rows. -/
namespace Go.Proofs.YtajjgfiojlagmaaGreatDoor
open Go.RowKit

def wts (ws : List (Int × List UInt8)) : List Value := ws.flatMap fun x => [.int .i64 x.1, .string ⟨x.2.toArray⟩]
theorem wts_app (ws : List (Int × List UInt8)) (x : Int × List UInt8) : wts (ws ++ [x]) = wts ws ++ [.int .i64 x.1, .string ⟨x.2.toArray⟩] := by simp [wts]

structure DV where
  L : Value
  S : Value
  W : Value
  c : Value
def DV.M (v : DV) : List Nat := rowBlk v.L ++ (rowBlk v.S ++ (rowBlk v.W ++ rowBlk v.c))
theorem DV.mem {v : DV} {g : Nat} : g ∈ v.M ↔ g ∈ rowBlk v.L ∨ g ∈ rowBlk v.S ∨ g ∈ rowBlk v.W ∨ g ∈ rowBlk v.c := by simp [DV.M]

structure DR (TW : TypeId) (w : World) (b : Nat) (st : DS) (v : DV) : Prop where
  rL : ∃ cl, RowV (inW w) 25 1 v.L st.L.length cl ∧ ∀ (i : Nat) (u : Value) (xs : List Int), cl[i]? = some u → st.L[i]? = some xs → RowV (inW w) 3 1 u xs.length (ints xs) ∧ ∀ g ∈ rowBlk u, b ≤ g ∧ g ∉ v.M
  rS : RowV (inW w) 3 1 v.S st.sh.length (ints st.sh)
  rW : RowV (inW w) TW 2 v.W st.ws.length (wts st.ws)
  rc : RowV (inW w) 3 1 v.c st.cl.length (ints st.cl)
  ge : ∀ g ∈ v.M, b ≤ g
  nLS : ∀ g ∈ rowBlk v.L, g ∉ rowBlk v.S
  nLW : ∀ g ∈ rowBlk v.L, g ∉ rowBlk v.W
  nLc : ∀ g ∈ rowBlk v.L, g ∉ rowBlk v.c
  nSW : ∀ g ∈ rowBlk v.S, g ∉ rowBlk v.W
  nSc : ∀ g ∈ rowBlk v.S, g ∉ rowBlk v.c
  nWc : ∀ g ∈ rowBlk v.W, g ∉ rowBlk v.c

variable {TW : TypeId} {w w' : World} {b : Nat} {st : DS} {v : DV}
theorem DR.lt (h : DR TW w b st v) : ∀ g ∈ v.M, g < w.heap.size := fun g hg => by
  obtain ⟨cl, hL, _⟩ := h.rL
  rcases DV.mem.1 hg with hg | hg | hg | hg
  · exact hL.lt g hg
  · exact h.rS.lt g hg
  · exact h.rW.lt g hg
  · exact h.rc.lt g hg
theorem DR.keep {U : List Nat} (h : DR TW w b st v) (hB : Behind w U w') (hU : ∀ g ∈ U, g < b ∨ w.heap.size ≤ g) : DR TW w' b st v := by
  have hM : ∀ g, b ≤ g → g < w.heap.size → g ∉ U := fun g h1 h2 hu => by have := hU g hu; omega
  have hlt := h.lt
  obtain ⟨cl, hL, hC⟩ := h.rL
  have hx : ∀ g ∈ v.M, g ∉ U := fun g hg => hM g (h.ge g hg) (hlt g hg)
  refine ⟨⟨cl, hL.keep hB (fun g hg => hx g (DV.mem.2 (.inl hg))), fun i u xs h1 h2 => ?_⟩, h.rS.keep hB (fun g hg => hx g (DV.mem.2 (.inr (.inl hg)))), h.rW.keep hB (fun g hg => hx g (DV.mem.2 (.inr (.inr (.inl hg))))), h.rc.keep hB (fun g hg => hx g (DV.mem.2 (.inr (.inr (.inr hg))))), h.ge, h.nLS, h.nLW, h.nLc, h.nSW, h.nSc, h.nWc⟩
  obtain ⟨hr, hg⟩ := hC i u xs h1 h2
  exact ⟨hr.keep hB (fun g hg' => hM g (hg g hg').1 (hr.lt g hg')), hg⟩
theorem DR.keepB (h : DR TW w b st v) (hB : Below w.heap.size w w') : DR TW w' b st v := h.keep (behind_of_below hB) (by simp)
theorem DR.mono {b' : Nat} (h : DR TW w b st v) (hb : b' ≤ b) : DR TW w b' st v := by
  obtain ⟨cl, hL, hC⟩ := h.rL
  exact ⟨⟨cl, hL, fun i u xs h1 h2 => ⟨(hC i u xs h1 h2).1, fun g hg => ⟨Nat.le_trans hb ((hC i u xs h1 h2).2 g hg).1, ((hC i u xs h1 h2).2 g hg).2⟩⟩⟩, h.rS, h.rW, h.rc, fun g hg => Nat.le_trans hb (h.ge g hg), h.nLS, h.nLW, h.nLc, h.nSW, h.nSc, h.nWc⟩
theorem DR.appS {x : Int} {vS : Value} (h : DR TW w b st v) (hb : b ≤ w.heap.size) (hB : Behind w (rowBlk v.S) w') (hr : RowV (inW w') 3 1 vS (st.sh.length + 1) (ints st.sh ++ [.int .i64 x])) (hn : ∀ g ∈ rowBlk vS, g ∈ rowBlk v.S ∨ w.heap.size ≤ g) :
    DR TW w' b { st with sh := st.sh ++ [x] } { v with S := vS } := by
  obtain ⟨cl, hL, hC⟩ := h.rL
  have hlt := h.lt
  have hr' : RowV (inW w') 3 1 vS (st.sh ++ [x]).length (ints (st.sh ++ [x])) := by
    rw [List.length_append, show ints (st.sh ++ [x]) = ints st.sh ++ [.int .i64 x] by simp [ints]]; exact hr
  have hno : ∀ g, g < w.heap.size → g ∉ rowBlk v.S → g ∉ rowBlk vS := fun g h1 h2 h3 => (hn g h3).elim h2 (fun e => by omega)
  refine ⟨⟨cl, hL.keep hB (fun g hg => h.nLS g hg), fun i u xs h1 h2 => ?_⟩, hr', h.rW.keep hB (fun g hg hm => h.nSW g hm hg), h.rc.keep hB (fun g hg hm => h.nSc g hm hg), fun g hg => ?_, fun g hg => hno g (hL.lt g hg) (h.nLS g hg), h.nLW, h.nLc, fun g hg hm => ?_, fun g hg hm => ?_, h.nWc⟩
  · obtain ⟨hr2, hg⟩ := hC i u xs h1 h2
    refine ⟨hr2.keep hB (fun g hg' hm => (hg g hg').2 (DV.mem.2 (.inr (.inl hm)))), fun g hg' => ⟨(hg g hg').1, fun hm => ?_⟩⟩
    have h9 := (hg g hg').2
    rw [DV.mem] at h9 hm
    rcases hm with hm | hm | hm | hm
    · exact h9 (.inl hm)
    · exact (hn g hm).elim (fun e => h9 (.inr (.inl e))) (fun e => by have := hr2.lt g hg'; omega)
    · exact h9 (.inr (.inr (.inl hm)))
    · exact h9 (.inr (.inr (.inr hm)))
  · rcases DV.mem.1 hg with hg | hg | hg | hg
    · exact h.ge g (DV.mem.2 (.inl hg))
    · exact (hn g hg).elim (fun e => h.ge g (DV.mem.2 (.inr (.inl e)))) (fun e => by omega)
    · exact h.ge g (DV.mem.2 (.inr (.inr (.inl hg))))
    · exact h.ge g (DV.mem.2 (.inr (.inr (.inr hg))))
  · exact (hn g hg).elim (fun e => h.nSW g e hm) (fun e => by have := h.rW.lt g hm; omega)
  · exact (hn g hg).elim (fun e => h.nSc g e hm) (fun e => by have := h.rc.lt g hm; omega)
theorem DR.appW {x : Int × List UInt8} {vW : Value} (h : DR TW w b st v) (hb : b ≤ w.heap.size) (hB : Behind w (rowBlk v.W) w') (hr : RowV (inW w') TW 2 vW (st.ws.length + 1) (wts st.ws ++ [.int .i64 x.1, .string ⟨x.2.toArray⟩])) (hn : ∀ g ∈ rowBlk vW, g ∈ rowBlk v.W ∨ w.heap.size ≤ g) :
    DR TW w' b { st with ws := st.ws ++ [x] } { v with W := vW } := by
  obtain ⟨cl, hL, hC⟩ := h.rL
  have hlt := h.lt
  have hr' : RowV (inW w') TW 2 vW (st.ws ++ [x]).length (wts (st.ws ++ [x])) := by
    rw [List.length_append, wts_app]; exact hr
  have hno : ∀ g, g < w.heap.size → g ∉ rowBlk v.W → g ∉ rowBlk vW := fun g h1 h2 h3 => (hn g h3).elim h2 (fun e => by omega)
  refine ⟨⟨cl, hL.keep hB (fun g hg => h.nLW g hg), fun i u xs h1 h2 => ?_⟩, h.rS.keep hB (fun g hg => h.nSW g hg), hr', h.rc.keep hB (fun g hg hm => h.nWc g hm hg), fun g hg => ?_, h.nLS, fun g hg => hno g (hL.lt g hg) (h.nLW g hg), h.nLc, fun g hg => hno g (h.rS.lt g hg) (h.nSW g hg), h.nSc, fun g hg hm => ?_⟩
  · obtain ⟨hr2, hg⟩ := hC i u xs h1 h2
    refine ⟨hr2.keep hB (fun g hg' hm => (hg g hg').2 (DV.mem.2 (.inr (.inr (.inl hm))))), fun g hg' => ⟨(hg g hg').1, fun hm => ?_⟩⟩
    have h9 := (hg g hg').2
    rw [DV.mem] at h9 hm
    rcases hm with hm | hm | hm | hm
    · exact h9 (.inl hm)
    · exact h9 (.inr (.inl hm))
    · exact (hn g hm).elim (fun e => h9 (.inr (.inr (.inl e)))) (fun e => by have := hr2.lt g hg'; omega)
    · exact h9 (.inr (.inr (.inr hm)))
  · rcases DV.mem.1 hg with hg | hg | hg | hg
    · exact h.ge g (DV.mem.2 (.inl hg))
    · exact h.ge g (DV.mem.2 (.inr (.inl hg)))
    · exact (hn g hg).elim (fun e => h.ge g (DV.mem.2 (.inr (.inr (.inl e))))) (fun e => by omega)
    · exact h.ge g (DV.mem.2 (.inr (.inr (.inr hg))))
  · exact (hn g hg).elim (fun e => h.nWc g e hm) (fun e => by have := h.rc.lt g hm; omega)
theorem DR.appc {x : Int} {vc : Value} {o : Bool} (h : DR TW w b st v) (hb : b ≤ w.heap.size) (hB : Behind w (rowBlk v.c) w') (hr : RowV (inW w') 3 1 vc (st.cl.length + 1) (ints st.cl ++ [.int .i64 x])) (hn : ∀ g ∈ rowBlk vc, g ∈ rowBlk v.c ∨ w.heap.size ≤ g) :
    DR TW w' b { st with cl := st.cl ++ [x], op := o } { v with c := vc } := by
  obtain ⟨cl, hL, hC⟩ := h.rL
  have hlt := h.lt
  have hr' : RowV (inW w') 3 1 vc (st.cl ++ [x]).length (ints (st.cl ++ [x])) := by
    rw [List.length_append, show ints (st.cl ++ [x]) = ints st.cl ++ [.int .i64 x] by simp [ints]]; exact hr
  have hno : ∀ g, g < w.heap.size → g ∉ rowBlk v.c → g ∉ rowBlk vc := fun g h1 h2 h3 => (hn g h3).elim h2 (fun e => by omega)
  refine ⟨⟨cl, hL.keep hB (fun g hg => h.nLc g hg), fun i u xs h1 h2 => ?_⟩, h.rS.keep hB (fun g hg => h.nSc g hg), h.rW.keep hB (fun g hg => h.nWc g hg), hr', fun g hg => ?_, h.nLS, h.nLW, fun g hg => hno g (hL.lt g hg) (h.nLc g hg), h.nSW, fun g hg => hno g (h.rS.lt g hg) (h.nSc g hg), fun g hg => hno g (h.rW.lt g hg) (h.nWc g hg)⟩
  · obtain ⟨hr2, hg⟩ := hC i u xs h1 h2
    refine ⟨hr2.keep hB (fun g hg' hm => (hg g hg').2 (DV.mem.2 (.inr (.inr (.inr hm))))), fun g hg' => ⟨(hg g hg').1, fun hm => ?_⟩⟩
    have h9 := (hg g hg').2
    rw [DV.mem] at h9 hm
    rcases hm with hm | hm | hm | hm
    · exact h9 (.inl hm)
    · exact h9 (.inr (.inl hm))
    · exact h9 (.inr (.inr (.inl hm)))
    · exact (hn g hm).elim (fun e => h9 (.inr (.inr (.inr e)))) (fun e => by have := hr2.lt g hg'; omega)
  · rcases DV.mem.1 hg with hg | hg | hg | hg
    · exact h.ge g (DV.mem.2 (.inl hg))
    · exact h.ge g (DV.mem.2 (.inr (.inl hg)))
    · exact h.ge g (DV.mem.2 (.inr (.inr (.inl hg))))
    · exact (hn g hg).elim (fun e => h.ge g (DV.mem.2 (.inr (.inr (.inr e))))) (fun e => by omega)
theorem DR.appL {vL : Value} (h : DR TW w b st v) (hb : b ≤ w.heap.size) (hB : Behind w (rowBlk v.L) w')
    (hr : ∀ cl, RowV (inW w) 25 1 v.L st.L.length cl → RowV (inW w') 25 1 vL (st.L.length + 1) (cl ++ [v.c])) (hn : ∀ g ∈ rowBlk vL, g ∈ rowBlk v.L ∨ w.heap.size ≤ g) :
    DR TW w' b { st with L := st.L ++ [st.cl], cl := [], op := false } { v with L := vL, c := .slice none 0 0 } := by
  obtain ⟨cl, hL, hC⟩ := h.rL
  have hlt := h.lt
  have hlen := hL.length
  have hno : ∀ g, g < w.heap.size → g ∉ rowBlk v.L → g ∉ rowBlk vL := fun g h1 h2 h3 => (hn g h3).elim h2 (fun e => by omega)
  refine ⟨⟨cl ++ [v.c], by rw [List.length_append]; exact hr cl hL, fun i u xs h1 h2 => ?_⟩, h.rS.keep hB (fun g hg hm => h.nLS g hm hg), h.rW.keep hB (fun g hg hm => h.nLW g hm hg), .nil, fun g hg => ?_, fun g hg hm => ?_, fun g hg hm => ?_, by simp [rowBlk], h.nSW, by simp [rowBlk], by simp [rowBlk]⟩
  · by_cases hi : i < cl.length
    · rw [List.getElem?_append_left hi] at h1
      rw [List.getElem?_append_left (by omega)] at h2
      obtain ⟨hr2, hg⟩ := hC i u xs h1 h2
      refine ⟨hr2.keep hB (fun g hg' hm => (hg g hg').2 (DV.mem.2 (.inl hm))), fun g hg' => ⟨(hg g hg').1, fun hm => ?_⟩⟩
      have h9 := (hg g hg').2
      rw [DV.mem] at h9 hm
      rcases hm with hm | hm | hm | hm
      · exact (hn g hm).elim (fun e => h9 (.inl e)) (fun e => by have := hr2.lt g hg'; omega)
      · exact h9 (.inr (.inl hm))
      · exact h9 (.inr (.inr (.inl hm)))
      · simp [rowBlk] at hm
    · rw [List.getElem?_append_right (by omega)] at h1
      rw [List.getElem?_append_right (by omega)] at h2
      have hi0 : i - cl.length = 0 := by
        rcases Nat.eq_zero_or_pos (i - cl.length) with h0 | h0
        · exact h0
        · rw [List.getElem?_eq_none (by simp; omega)] at h1; cases h1
      rw [hi0] at h1
      rw [show i - st.L.length = 0 by omega] at h2
      simp only [List.getElem?_cons_zero, Option.some.injEq] at h1 h2
      subst h1
      subst h2
      refine ⟨h.rc.keep hB (fun g hg hm => h.nLc g hm hg), fun g hg => ⟨h.ge g (DV.mem.2 (.inr (.inr (.inr hg)))), fun hm => ?_⟩⟩
      rw [DV.mem] at hm
      rcases hm with hm | hm | hm | hm
      · exact (hn g hm).elim (fun e => h.nLc g e hg) (fun e => by have := h.rc.lt g hg; omega)
      · exact h.nSc g hm hg
      · exact h.nWc g hm hg
      · simp [rowBlk] at hm
  · rcases DV.mem.1 hg with hg | hg | hg | hg
    · exact (hn g hg).elim (fun e => h.ge g (DV.mem.2 (.inl e))) (fun e => by omega)
    · exact h.ge g (DV.mem.2 (.inr (.inl hg)))
    · exact h.ge g (DV.mem.2 (.inr (.inr (.inl hg))))
    · simp [rowBlk] at hg
  · exact (hn g hg).elim (fun e => h.nLS g e hm) (fun e => by have := h.rS.lt g hm; omega)
  · exact (hn g hg).elim (fun e => h.nLW g e hm) (fun e => by have := h.rW.lt g hm; omega)
theorem DR.zero (TW : TypeId) (w : World) (b : Nat) : DR TW w b .zero ⟨.slice none 0 0, .slice none 0 0, .slice none 0 0, .slice none 0 0⟩ :=
  ⟨⟨[], .nil, fun i u xs h1 => by simp at h1⟩, .nil, .nil, .nil, by simp [DV.M, rowBlk], by simp [rowBlk], by simp [rowBlk], by simp [rowBlk], by simp [rowBlk], by simp [rowBlk], by simp [rowBlk]⟩
theorem DR.same {st' : DS} (h : DR TW w b st v) (hL : st'.L = st.L) (hS : st'.sh = st.sh) (hW : st'.ws = st.ws) (hc : st'.cl = st.cl) : DR TW w b st' v := by
  obtain ⟨a1, a2, a3, a4, a5, a6, a7, a8, a9, a10, a11⟩ := h
  exact ⟨by rw [hL]; exact a1, by rw [hS]; exact a2, by rw [hW]; exact a3, by rw [hc]; exact a4, a5, a6, a7, a8, a9, a10, a11⟩
end Go.Proofs.YtajjgfiojlagmaaGreatDoor

/- Sets of numbers as maps to true; the reader in memory. -/
namespace Go.Proofs.YtajjgfiojlagmaaGreatDoor
open Go.RowKit Go.Maps Go.MapKept

def SetIs (w : World) (g : Nat) (xs : List Int) : Prop := ∃ es clock, w.heap[g]? = some (.map es clock) ∧ es.toList.map (·.key) = xs.map (Value.int .i64) ∧ ∀ e ∈ es.toList, e.val = .bool true
theorem find_set (x : Int) : ∀ (es : List MapEntry) (xs : List Int) (i : Nat), es.map (·.key) = xs.map (Value.int .i64) → (∀ e ∈ es, e.val = .bool true) →
    (x ∉ xs → Instr.findNow (.int .i64) (.int .i64 x) es i = some none) ∧ (x ∈ xs → ∃ j, Instr.findNow (.int .i64) (.int .i64 x) es i = some (some (j, .bool true)))
  | [], [], _, _, _ => ⟨fun _ => rfl, fun h => by simp at h⟩
  | [], _ :: _, _, h, _ => by simp at h
  | _ :: _, [], _, h, _ => by simp at h
  | e :: es, y :: xs, i, h, hv => by
    simp only [List.map_cons, List.cons.injEq] at h
    obtain ⟨hk, h⟩ := h
    have ih := find_set x es xs (i + 1) h (fun e he => hv e (List.mem_cons_of_mem _ he))
    have hve := hv e (List.mem_cons_self ..)
    unfold Instr.findNow
    rw [hk]
    by_cases hxy : x = y
    · subst hxy
      simp only [Instr.sameNow, if_true, beq_self_eq_true]
      refine ⟨fun h => absurd (List.mem_cons_self ..) h, fun _ => ⟨i, by rw [hve]⟩⟩
    · have hb : (x == y) = false := beq_no hxy
      simp only [Instr.sameNow, if_true, hb]
      refine ⟨fun h => ih.1 (fun hm => h (List.mem_cons_of_mem _ hm)), fun h => ih.2 ?_⟩
      rcases List.mem_cons.1 h with h | h
      · exact absurd h hxy
      · exact h
theorem Tryz.keyInt : Keyed Tryz.prog 3 := int_keyed Tryz.underlying3
theorem set_look {w : World} {g : Nat} {xs : List Int} (h : SetIs w g xs) (x : Int) (hx : -9223372036854775808 ≤ x ∧ x ≤ 9223372036854775807) : (Instr.lookup 57 (.map (some g)) (.int .i64 x) false).run Tryz.prog w = .ok (.bool (decide (x ∈ xs))) w := by
  obtain ⟨es, clock, hb, hk, hv⟩ := h
  have hf := find_set x es.toList xs 0 hk hv
  have hkey : keyOf Tryz.prog 3 (.int .i64 x) = some (.int .i64 x) := keyOf_int_mk Tryz.underlying3 (WalkArith.wf_i64 hx)
  have hz : (zeroValue 4).run Tryz.prog w = .ok (.bool false) w := by kernel_rfl
  by_cases hm : x ∈ xs
  · obtain ⟨j, h1⟩ := hf.2 hm
    simp [Instr.lookup, run_underlying Tryz.underlying57, Go.MapKept.run_getObj_map hb, Tryz.keyInt.check w _ hkey, run_findKey Tryz.underlying3 h1, Result.andThen, hm]
  · simp [Instr.lookup, run_underlying Tryz.underlying57, Go.MapKept.run_getObj_map hb, Tryz.keyInt.check w _ hkey, run_findKey Tryz.underlying3 (hf.1 hm), hz, Result.andThen, hm]
theorem set_put {w : World} {g : Nat} {xs : List Int} (h : SetIs w g xs) (x : Int) (hx : -9223372036854775808 ≤ x ∧ x ≤ 9223372036854775807) (hn : x ∉ xs) : ∃ w', (Instr.mapUpdate 57 (.map (some g)) (.int .i64 x) (.bool true)).run Tryz.prog w = .ok () w' ∧ SetIs w' g (xs ++ [x]) ∧ Behind w [g] w' := by
  obtain ⟨es, clock, hb, hk, hv⟩ := h
  have hf := find_set x es.toList xs 0 hk hv
  have hkey : keyOf Tryz.prog 3 (.int .i64 x) = some (.int .i64 x) := keyOf_int_mk Tryz.underlying3 (WalkArith.wf_i64 hx)
  have hlt : g < w.heap.size := lt_of_heap hb
  refine ⟨{ w with heap := w.heap.setIfInBounds g (.map (es.push ⟨.int .i64 x, .bool true, clock⟩) (clock + 1)) }, ?_, ⟨es.push ⟨.int .i64 x, .bool true, clock⟩, clock + 1, ?_, ?_, ?_⟩, rfl, rfl, rfl, by simp, fun k hk' hn' => ?_⟩
  · simp [Instr.mapUpdate, run_underlying Tryz.underlying57, Go.MapKept.run_getObj_map hb, Tryz.keyInt.check w _ hkey, run_findKey Tryz.underlying3 (hf.1 hn), Go.MapKept.run_setObj_map _ hb, Result.andThen]
  · simp [hlt]
  · simp [hk]
  · intro e he
    simp only [Array.toList_push, List.mem_append, List.mem_singleton] at he
    rcases he with he | he
    · exact hv e he
    · subst he; rfl
  · have hne : g ≠ k := fun e => hn' (by simp [e])
    show (w.heap.setIfInBounds g _)[k]? = _
    rw [Array.getElem?_setIfInBounds_ne hne]
theorem SetIs.keep {w w' : World} {U : List Nat} {g : Nat} {xs : List Int} (h : SetIs w g xs) (hB : Behind w U w') (hU : g ∉ U) : SetIs w' g xs := by
  obtain ⟨es, clock, hb, h2⟩ := h
  exact ⟨es, clock, hB.keep hb hU, h2⟩
theorem SetIs.lt {w : World} {g : Nat} {xs : List Int} (h : SetIs w g xs) : g < w.heap.size := by
  obtain ⟨es, clock, hb, _⟩ := h
  exact lt_of_heap hb
section
variable {P : Program} {ops : Array Oper} {rest : List Oper} {o : Oper} {a : Act} {Q : Exit → Act → World → Prop}
theorem wpList_look_run (w : World) (hg : o.guard = none) (m x : Operand) (t : TypeId) (hop : o.op = Op.lookup t m x false) (mv key v : Value) (hm : a.eval m = mv) (hx : a.eval x = key) (hrun : (Instr.lookup t mv key false).run P w = .ok v w)
    (hK : wpList P ops Q rest (a.put o.dst v) w) : wpList P ops Q (o :: rest) a w := by
  refine wpList_plain hg fun K' hK' => ?_
  unfold Oper.wp
  simp [execOp, hop, hm, hx, hrun, Result.andThen]
  exact hK' _ _ hK
theorem wpList_put_run (w w' : World) (hg : o.guard = none) (m x v : Operand) (t : TypeId) (hop : o.op = Op.mapUpdate t m x v) (mv key val : Value) (hm : a.eval m = mv) (hx : a.eval x = key) (hv : a.eval v = val) (hrun : (Instr.mapUpdate t mv key val).run P w = .ok () w')
    (hK : wpList P ops Q rest (a.put o.dst undef) w') : wpList P ops Q (o :: rest) a w := by
  refine wpList_plain hg fun K' hK' => ?_
  unfold Oper.wp
  simp [execOp, hop, hm, hx, hv, hrun, Result.andThen]
  exact hK' _ _ hK
end

structure Rdr (w : World) (br ms mh b : Nat) (st : DS) (v : DV) : Prop where
  blk : w.heap[br]? = some (.cells #[.int .i64 st.n, v.L, v.S, v.W, .bool st.begun, .int .i64 st.m, v.c, .bool st.op, .map (some ms), .map (some mh)] 59 (0, 0))
  s1 : SetIs w ms st.sh
  s2 : SetIs w mh (st.ws.map (·.1))
  rows : DR 48 w b st v
  ord : br < b ∧ ms < b ∧ mh < b ∧ br ≠ ms ∧ br ≠ mh ∧ ms ≠ mh
  bw : b ≤ w.heap.size
  rng : 0 ≤ st.n ∧ st.n ≤ 128
theorem Rdr.keepB {w w' : World} {br ms mh b : Nat} {st : DS} {v : DV} (h : Rdr w br ms mh b st v) (hB : Below w.heap.size w w') : Rdr w' br ms mh b st v :=
  ⟨(behind_of_below hB).keep h.blk (by simp), h.s1.keep (behind_of_below hB) (by simp), h.s2.keep (behind_of_below hB) (by simp), h.rows.keepB hB, h.ord, Nat.le_trans h.bw hB.size, h.rng⟩
end Go.Proofs.YtajjgfiojlagmaaGreatDoor

/- The reader's p line. -/
namespace Go.Proofs.YtajjgfiojlagmaaGreatDoor
open Go.RowKit

def RdPost (w : World) (br ms mh b : Nat) (v : DV) (r : DS × Int) (e : Ending) (w' : World) : Prop := e = .returned (.int .i64 r.2) ∧ Behind w (br :: ms :: mh :: v.M) w' ∧ (r.2 = 0 → ∃ v', Rdr w' br ms mh b r.1 v' ∧ ∀ g ∈ v'.M, g ∈ v.M ∨ w.heap.size ≤ g)
theorem RdPost.err {w w' : World} {br ms mh b : Nat} {v : DV} {st : DS} {n : Int} (hb : Below w.heap.size w w') (hn : n ≠ 0) : RdPost w br ms mh b v (st, n) (.returned (.int .i64 n)) w' :=
  ⟨rfl, (behind_of_below hb).mono (by simp), fun h => absurd h hn⟩
theorem behind_set {w : World} {b : Nat} {o : Nat} {v : Value} : Behind w [b] (w.setCell ⟨b, o, none⟩ v) :=
  ⟨rfl, rfl, rfl, by simp [World.setCell], fun k _ hn => heap_setCell_other w _ k v (fun e => hn (by simp [e]))⟩
theorem Rdr.put {w w' : World} {br ms mh b : Nat} {st st' : DS} {v : DV} (h : Rdr w br ms mh b st v) (hB : Behind w [br] w')
    (hc : w'.heap[br]? = some (.cells #[.int .i64 st'.n, v.L, v.S, v.W, .bool st'.begun, .int .i64 st'.m, v.c, .bool st'.op, .map (some ms), .map (some mh)] 59 (0, 0)))
    (hL : st'.L = st.L) (hS : st'.sh = st.sh) (hW : st'.ws = st.ws) (hcl : st'.cl = st.cl) (hn : 0 ≤ st'.n ∧ st'.n ≤ 128) : Rdr w' br ms mh b st' v :=
  ⟨hc, by rw [hS]; exact h.s1.keep hB (by have := h.ord; simp; omega), by rw [hW]; exact h.s2.keep hB (by have := h.ord; simp; omega), (h.rows.keep hB (fun g hg => by have := h.ord; simp at hg; omega)).same hL hS hW hcl, h.ord, Nat.le_trans h.bw hB.size, hn⟩
theorem lit_eq {x : List UInt8} {z : List UInt8} (h : x = z) : ((⟨x.toArray⟩ : ByteArray).toList == z) = true := by rw [ba_list, h]; simp
theorem lit_ne {x : List UInt8} {z : List UInt8} (h : ¬ x = z) : ((⟨x.toArray⟩ : ByteArray).toList == z) = false := by rw [ba_list]; simpa using h

set_option maxHeartbeats 3200000 in
set_option maxRecDepth 100000 in
theorem gProblem (w : World) (br ms mh b : Nat) (st : DS) (v : DV) (h : Rdr w br ms mh b st v) (r : List (List UInt8)) (hl : ∀ x ∈ r, x.length ≤ 1100000) (hr : r.length ≤ 1100001) (a : Option Addr) (c : Nat) (hA : AtN w.heap.size w a (strs r)) :
    Calls Tryz.prog 39 #[.pointer (some ⟨br, 0, none⟩), .slice a r.length c] w (RdPost w br ms mh b v (problemD st r)) := by
  obtain ⟨R, hR⟩ : ∃ R : DS × Int, R = problemD st r := ⟨_, rfl⟩
  rw [← hR]
  obtain ⟨Post, hPost⟩ : ∃ P : Ending → World → Prop, P = RdPost w br ms mh b v R := ⟨_, rfl⟩
  rw [← hPost]
  have HP := Lib.hid hPost
  clear hPost
  have H := Lib.hid h
  have HBr := Lib.hid h.blk
  have hbr : br < w.heap.size := lt_of_heap h.blk
  clear h
  by_cases h3 : r.length = 3
  · obtain ⟨x0, x1, x2, rfl⟩ : ∃ x0 x1 x2, r = [x0, x1, x2] := by
      match r, h3 with
      | [x0, x1, x2], _ => exact ⟨_, _, _, rfl⟩
    obtain ⟨b0, o0, hb0, rfl, k0⟩ := hA 0 _ (strs_get [x0, x1, x2] 0 x0 rfl)
    rw [Nat.add_zero] at k0
    obtain ⟨b1, o1, hb1, e1, k1⟩ := hA 1 _ (strs_get [x0, x1, x2] 1 x1 rfl)
    cases e1
    obtain ⟨b2, o2, hb2, e2, k2⟩ := hA 2 _ (strs_get [x0, x1, x2] 2 x2 rfl)
    cases e2
    have K1 := Lib.hid k1
    have K2 := Lib.hid k2
    have hx1 := hl x1 (by simp)
    have hx2 := hl x2 (by simp)
    have N1 := gNumber x1 hx1
    have N2 := gNumber x2 hx2
    clear hA hl hr h3
    by_cases hc : x0 = [99, 110, 102]
    · have HC := lit_eq hc
      have HR := Lib.hid (show R = match numD x1, numD x2 with
          | some a, some b => if st.begun = true then (st, 4) else if 128 < a ∨ 4096 < b then (st, 6) else ({ st with begun := true, n := a, m := b }, 0)
          | _, _ => (st, 5) by rw [hR]; unfold problemD; rw [if_neg (by simp [hc])]; rfl)
      generalize (⟨x0.toArray⟩ : ByteArray) = y0 at *
      generalize (⟨x1.toArray⟩ : ByteArray) = y1 at *
      generalize (⟨x2.toArray⟩ : ByteArray) = y2 at *
      clear hc hR k1 k2
      have q0 := blk_cell HBr.out 4 rfl
      go_enter Tryz.func39, Tryz.ntmps39
      have k1 := K1.out
      go_wp2_with fail
      refine (N1 w).mono ?_
      rintro e w1 ⟨rfl, hB⟩
      have HB1 := Lib.hid hB
      have k2 := below_cell hB hb2 K2.out
      clear hB N1 k0 k1
      go_wp2_with fail
      refine (N2 w1).mono ?_
      rintro e w2 ⟨rfl, hB⟩
      have HB2 := Lib.hid (HB1.out.trans (hB.mono HB1.out.size))
      clear hB N2 k2 HB1 q0
      have P2 := (behind_of_below HB2.out).keep HBr.out (by simp)
      have q0 := blk_cell P2 4 rfl
      have HP2 := Lib.hid P2
      clear P2
      have HNZ1 := Lib.hid (show ∀ n, numD x1 = some n → numZ x1 = (n : Int) ∧ n < 100000 from fun n h => ⟨by unfold numZ; rw [h]; rfl, numD_lt h⟩)
      have HNZ2 := Lib.hid (show ∀ n, numD x2 = some n → numZ x2 = (n : Int) ∧ n < 100000 from fun n h => ⟨by unfold numZ; rw [h]; rfl, numD_lt h⟩)
      cases hn1 : numD x1 with
      | none =>
        have HF := Lib.hid (HR.out.trans (by rw [hn1]))
        generalize numZ x1 = z1 at *
        generalize numZ x2 = z2 at *
        clear HR HNZ1 HNZ2 hn1
        simp only [Option.isSome_none]
        go_wp2_with fail
        rw [HP.out, HF.out]
        exact RdPost.err HB2.out (by simp)
      | some n1 =>
      cases hn2 : numD x2 with
      | none =>
        have HF := Lib.hid (HR.out.trans (by rw [hn1, hn2]))
        generalize numZ x1 = z1 at *
        generalize numZ x2 = z2 at *
        clear HR HNZ1 HNZ2 hn1 hn2
        simp only [Option.isSome_none, Option.isSome_some]
        go_wp2_with fail
        rw [HP.out, HF.out]
        exact RdPost.err HB2.out (by simp)
      | some n2 =>
        have HF := Lib.hid (show R = if st.begun = true then (st, 4) else if 128 < n1 ∨ 4096 < n2 then (st, 6) else ({ st with begun := true, n := n1, m := n2 }, 0) from HR.out.trans (by rw [hn1, hn2]))
        obtain ⟨e1, l1⟩ := HNZ1.out _ hn1
        obtain ⟨e2, l2⟩ := HNZ2.out _ hn2
        rw [e1, e2]
        simp only [Option.isSome_some]
        clear HR HNZ1 HNZ2 hn1 hn2 e1 e2
        cases hbg : st.begun with
        | true =>
          have HF2 := Lib.hid (HF.out.trans (if_pos hbg))
          rw [hbg] at q0
          clear hbg HF
          go_wp2_with fail
          rw [HP.out, HF2.out]
          exact RdPost.err HB2.out (by simp)
        | false =>
        rw [hbg] at q0
        by_cases hrg : 128 < n1 ∨ 4096 < n2
        · have HF2 := Lib.hid (HF.out.trans ((if_neg (by rw [hbg]; simp)).trans (if_pos hrg)))
          by_cases h1 : 128 < n1
          · have d1 : decide (128 < n1) = true := decide_eq_true h1
            have d1' : decide ((128 : Int) < (n1 : Int)) = true := decide_eq_true (by omega)
            clear hbg HF
            go_wp2_with fail
            rw [HP.out, HF2.out]
            exact RdPost.err HB2.out (by simp)
          · have d1 : decide (128 < n1) = false := decide_eq_false h1
            have d1' : decide ((128 : Int) < (n1 : Int)) = false := decide_eq_false (by omega)
            have d2 : decide (4096 < n2) = true := decide_eq_true (by omega)
            have d2' : decide ((4096 : Int) < (n2 : Int)) = true := decide_eq_true (by omega)
            clear hbg HF
            go_wp2_with fail
            rw [HP.out, HF2.out]
            exact RdPost.err HB2.out (by simp)
        · have HF2 := Lib.hid (HF.out.trans ((if_neg (by rw [hbg]; simp)).trans (if_neg hrg)))
          have d1 : decide (128 < n1) = false := decide_eq_false (by omega)
          have d1' : decide ((128 : Int) < (n1 : Int)) = false := decide_eq_false (by omega)
          have d2 : decide (4096 < n2) = false := decide_eq_false (by omega)
          have d2' : decide ((4096 : Int) < (n2 : Int)) = false := decide_eq_false (by omega)
          have hrow := H.out.keepB HB2.out
          have HRow := Lib.hid hrow
          have p0 := blk_cell HP2.out 0 rfl
          have p5 := blk_cell HP2.out 5 rfl
          have f0 := blk_free HP2.out 0
          have f4 := blk_free HP2.out 4
          have f5 := blk_free HP2.out 5
          have HBG := Lib.hid hbg
          clear hbg HF hrow
          go_wp2_with fail
          rw [HP.out, HF2.out]
          have hB5 : Behind w2 [br] (((w2.setCell ⟨br, 4, none⟩ (.bool true)).setCell ⟨br, 0, none⟩ (.int .i64 (n1 : Int))).setCell ⟨br, 5, none⟩ (.int .i64 (n2 : Int))) := (behind_set.trans behind_set (by simp)).trans behind_set (by simp)
          refine ⟨rfl, ((behind_of_below HB2.out).mono (by simp)).trans hB5 (by simp), fun _ => ⟨v, HRow.out.put hB5 ?_ rfl rfl rfl rfl (by simp only; omega), fun g hg => .inl hg⟩⟩
          exact heap_setCell_same _ br 5 _ _ _ (heap_setCell_same _ br 0 _ _ _ (heap_setCell_same _ br 4 _ _ _ HP2.out))
    · have HC := lit_ne hc
      have HR := Lib.hid (show R = (st, 5) by rw [hR]; unfold problemD; rw [if_pos]; right; simpa using hc)
      generalize (⟨x0.toArray⟩ : ByteArray) = y0 at *
      clear hc hR k1 k2 N1 N2 K1 K2
      go_enter Tryz.func39, Tryz.ntmps39
      go_wp2_with fail
      rw [HP.out, HR.out]
      exact RdPost.err (Below.refl _ _) (by simp)
  · have HR := Lib.hid (show R = (st, 5) by rw [hR]; unfold problemD; rw [if_pos (.inl h3)])
    have hq : ((r.length : Int) != 3) = true := by simp [bne, beq_no (show (r.length : Int) ≠ 3 by omega)]
    clear hR hA hl h3
    go_enter Tryz.func39, Tryz.ntmps39
    go_wp2_with fail
    rw [HP.out, HR.out]
    exact RdPost.err (Below.refl _ _) (by simp)
end Go.Proofs.YtajjgfiojlagmaaGreatDoor
