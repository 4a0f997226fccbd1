/- Texts of this claim, joined: D21, D22, D23. -/
import Derived.Test.YtfleacdnkpckbaaDoorMP27
import Derived.Deep.DeepCutAuto
import Derived.Test.YtfleacdnkpckbaaDoorMP23

/- The reference's kind, of a comment. -/
namespace Go.Proofs.YtfleacdnkpckbaaDoor
open Go.RowKit Num

set_option maxHeartbeats 3200000 in
set_option maxRecDepth 100000 in
theorem xKindC (r : List (List UInt8)) (hl : ∀ x ∈ r, x.length ≤ 1000000) (hn : r.length ≤ 1100000) (w : World) (a : Option Addr) (c : Nat) (hA : AtN w.heap.size w a (strs ([99] :: r))) :
    Calls Tryd.prog 25 #[.slice a ([99] :: r).length c] w fun e w' => e = .returned (.int .i64 (kindD rdD ([99] :: r))) ∧ Below w.heap.size w w' := by
  obtain ⟨R, hR⟩ : ∃ R, R = kindD rdD ([99] :: r) := ⟨_, rfl⟩
  rw [← hR]
  have HRK := Lib.hid hR
  obtain ⟨b0, o0, hb0, rfl, k0⟩ := hA 0 _ (strs_get ([99] :: r) 0 _ rfl)
  rw [Nat.add_zero] at k0
  have hcell : ∀ (i : Nat) (x : List UInt8), (([99] : List UInt8) :: r)[i]? = some x → w.cell? ⟨b0, o0 + i, none⟩ = some (.string ⟨x.toArray⟩) := fun i x hi => by
    obtain ⟨_, _, _, e, k⟩ := hA i _ (strs_get _ i x hi)
    cases e
    exact k
  have HC := Lib.hid hcell
  have HLN := Lib.hid hl
  have t0 := lit_both [99] [112]
  have s0 := lit_both [99] [99]
  rw [decide_eq_false (show ¬ ([99] : List UInt8) = [112] by decide)] at t0
  rw [decide_eq_true (show ([99] : List UInt8) = [99] from rfl)] at s0
  obtain ⟨n, hnn⟩ : ∃ n, n = (([99] : List UInt8) :: r).length := ⟨_, rfl⟩
  rw [← hnn]
  have HNR := Lib.hid (show n = r.length + 1 from hnn)
  generalize (⟨([99] : List UInt8).toArray⟩ : ByteArray) = y0 at *
  have hn0 : 0 < n := by rw [HNR.out]; omega
  have hq0 : ((n : Int) == 0) = false := beq_no (by omega)
  have hnb : n ≤ 1100001 := by rw [HNR.out]; omega
  clear hnn hA hl hcell hR hn
  by_cases h3 : n < 3
  · have hd : decide (n < 3) = true := decide_eq_true h3
    have hd2 : decide ((n : Int) < 3) = true := decide_eq_true (by omega)
    have HR := Lib.hid (show R = 0 from HRK.out.trans (kc_0 (.inl (by have := HNR.out; omega))))
    go_enter Tryd.func25, Tryd.ntmps25
    go_wp2_with fail
    go_ret
    exact ⟨by rw [HR.out]; rfl, Below.refl _ _⟩
  have hd : decide (n < 3) = false := decide_eq_false h3
  have hd2 : decide ((n : Int) < 3) = false := decide_eq_false (by omega)
  obtain ⟨p, rfl⟩ : ∃ p, n = p + 3 := ⟨n - 3, by omega⟩
  have hrl : r.length = p + 2 := by have := HNR.out; omega
  have HRL := Lib.hid hrl
  obtain ⟨x1, hx1⟩ : ∃ x1, r[0]? = some x1 := ⟨_, List.getElem?_eq_getElem (show 0 < r.length by omega)⟩
  obtain ⟨x2, hx2⟩ : ∃ x2, r[1]? = some x2 := ⟨_, List.getElem?_eq_getElem (show 1 < r.length by omega)⟩
  obtain ⟨xl, hxl⟩ : ∃ xl, r[p + 1]? = some xl := ⟨_, List.getElem?_eq_getElem (show p + 1 < r.length by omega)⟩
  have k1 := HC.out 1 x1 (by simpa using hx1)
  have k2 := HC.out 2 x2 (by simpa using hx2)
  have kl : w.cell? ⟨b0, o0 + (p + 2), none⟩ = some (.string ⟨xl.toArray⟩) := HC.out (p + 2) xl (by simpa using hxl)
  have g1 : r.getD 0 [] = x1 := by simp [List.getD, hx1]
  have g2 : r.getD 1 [] = x2 := by simp [List.getD, hx2]
  have gl : r.getD (r.length - 1) [] = xl := by rw [hrl, show p + 2 - 1 = p + 1 by omega]; simp [List.getD, hxl]
  have G1 := Lib.hid g1
  have G2 := Lib.hid g2
  have GL := Lib.hid gl
  have t1 := lit_both x1 [112]
  have t2 := lit_both x2 showW
  have t3 := lit_both x2 weightW
  have t4 := lit_both xl [48]
  unfold showW at t2
  unfold weightW at t3
  clear hrl hx1 hx2 hxl g1 g2 gl
  generalize hy1 : (⟨x1.toArray⟩ : ByteArray) = y1 at *
  generalize hy2 : (⟨x2.toArray⟩ : ByteArray) = y2 at *
  generalize hyl : (⟨xl.toArray⟩ : ByteArray) = yl at *
  clear hy1 hy2 hyl
  by_cases h1 : x1 = [112]
  case neg =>
    rw [decide_eq_false h1] at t1
    have HR := Lib.hid (show R = 0 from HRK.out.trans (kc_0 (.inr (.inl (by rw [G1.out]; exact h1)))))
    clear t2 t3 t4 h1
    go_enter Tryd.func25, Tryd.ntmps25
    go_wp2_with fail
    go_ret
    exact ⟨by rw [HR.out]; rfl, Below.refl _ _⟩
  rw [decide_eq_true h1] at t1
  by_cases h2 : x2 ≠ showW ∧ x2 ≠ weightW
  · rw [decide_eq_false (show ¬ x2 = [115, 104, 111, 119] from h2.1)] at t2
    rw [decide_eq_false (show ¬ x2 = [119, 101, 105, 103, 104, 116] from h2.2)] at t3
    have HR := Lib.hid (show R = 0 from HRK.out.trans (kc_0 (.inr (.inr (by rw [G2.out]; exact h2)))))
    clear t4 h1 h2
    go_enter Tryd.func25, Tryd.ntmps25
    go_wp2_with fail
    go_ret
    exact ⟨by rw [HR.out]; rfl, Below.refl _ _⟩
  have hno : ¬ (r.length < 2 ∨ r.getD 0 [] ≠ [112] ∨ (r.getD 1 [] ≠ showW ∧ r.getD 1 [] ≠ weightW)) := by
    rw [G1.out, G2.out, HRL.out]
    rintro (h | h | h)
    · omega
    · exact h h1
    · exact h2 h
  have HNO := Lib.hid hno
  have h2' : x2 = showW ∨ x2 = weightW := by
    by_cases h : x2 = showW
    · exact .inl h
    · exact .inr (Decidable.not_not.1 fun h' => h2 ⟨h, h'⟩)
  have H2 := Lib.hid h2'
  clear hno h2 h2' h1
  by_cases h4 : xl = [48]
  case neg =>
    rw [decide_eq_false h4] at t4
    have HR := Lib.hid (show R = -1 from HRK.out.trans (kc_n HNO.out (.inl (by rw [GL.out]; exact h4))))
    clear h4
    rcases H2.out with hs | hs
    · rw [decide_eq_true (show x2 = [115, 104, 111, 119] from hs)] at t2
      clear t3 hs
      go_enter Tryd.func25, Tryd.ntmps25
      go_wp2_with fail
      go_ret
      exact ⟨by rw [HR.out]; rfl, Below.refl _ _⟩
    · have hs2 : ¬ x2 = [115, 104, 111, 119] := by rw [hs]; decide
      rw [decide_eq_false hs2] at t2
      rw [decide_eq_true (show x2 = [119, 101, 105, 103, 104, 116] from hs)] at t3
      clear hs hs2
      go_enter Tryd.func25, Tryd.ntmps25
      go_wp2_with fail
      go_ret
      exact ⟨by rw [HR.out]; rfl, Below.refl _ _⟩
  rw [decide_eq_true h4] at t4
  by_cases h5 : p = 0
  · subst h5
    exfalso
    have e : x2 = xl := by
      have e1 := G2.out
      have e2 := GL.out
      rw [HRL.out] at e2
      exact e1.symm.trans e2
    rcases H2.out with hs | hs <;> (rw [e, h4] at hs; revert hs; decide)
  obtain ⟨q, rfl⟩ : ∃ q, p = q + 1 := ⟨p - 1, by omega⟩
  have hB : ¬ (r.getD (r.length - 1) [] ≠ [48] ∨ r.length < 3) := by
    rw [GL.out, HRL.out]
    rintro (h | h)
    · exact h h4
    · omega
  have HBB := Lib.hid hB
  clear hB h4 h5
  rcases H2.out with hs | hs
  · -- shown variables
    rw [decide_eq_true (show x2 = [115, 104, 111, 119] from hs)] at t2
    obtain ⟨Z, hZ⟩ : ∃ Z, Z = (r.take (r.length - 1)).drop 2 := ⟨_, rfl⟩
    have HR2 := Lib.hid (show R = if Z.any (fun x => decide (numX x < 1)) = true then -1 else 2 by rw [hZ]; exact HRK.out.trans (kc_s HNO.out HBB.out (by rw [G2.out]; exact hs)))
    have HZL := Lib.hid (show Z.length = q by rw [hZ, List.length_drop, List.length_take, HRL.out]; omega)
    have HZA := Lib.hid (show ∀ (j : Nat) (x : List UInt8), Z[j]? = some x → w.cell? ⟨b0, o0 + (j + 3), none⟩ = some (.string ⟨x.toArray⟩) ∧ x.length ≤ 1000000 from fun j x hj => by
      have hj2 : r[j + 2]? = some x := by
        rw [hZ, List.getElem?_drop, List.getElem?_take] at hj
        split at hj
        · rw [Nat.add_comm]; exact hj
        · cases hj
      exact ⟨HC.out (j + 3) x (by simpa using hj2), HLN.out x (List.mem_of_getElem? hj2)⟩)
    clear t3 hs hZ HRK HC HLN G1 G2 GL HNO H2 HBB
    go_enter Tryd.func25, Tryd.ntmps25
    go_wp2_with fail
    go_loopw [3] (fun t3 wr => ∃ j : Nat, j ≤ q ∧ t3 = .int .i64 (j + 3 : Nat) ∧ Hid (∀ y ∈ Z.take j, ¬ numX y < 1) ∧ Hid (Below w.heap.size w wr)) (fun t3 _ => (q + 3) - (intOf t3).toNat)
    case atStart => exact ⟨0, Nat.zero_le _, rfl, by simp [Hid], Below.refl _ _⟩
    case round =>
      obtain ⟨j, hj, rfl, HZ, HB⟩ := hrel
      have hq2 := HZL.out
      by_cases hlt : j < q
      · have hyy : Z[j]? = some (Z.getD j []) := by simp [List.getD, show j < Z.length by omega]
        have HT := Lib.hid (take_one hyy)
        have HM := Lib.hid (List.mem_of_getElem? hyy)
        obtain ⟨kz, hzl⟩ := HZA.out j _ hyy
        have kz2 := below_cell HB.out hb0 kz
        have KN := xNumber (Z.getD j []) (by omega)
        have hin := numX_in (Z.getD j [])
        have hdd : decide (j + 3 < q + 1 + 3 - 1) = true := decide_eq_true (by omega)
        generalize Z.getD j [] = x at *
        generalize (⟨x.toArray⟩ : ByteArray) = y at *
        have HZ9 := Lib.hid (show ¬ numX x < 1 → ∀ z ∈ Z.take (j + 1), ¬ numX z < 1 from fun h z hz => by
          rw [HT.out] at hz
          rcases List.mem_append.1 hz with hz | hz
          · exact HZ.out z hz
          · rw [List.mem_singleton.1 hz]; exact h)
        have HR9 := Lib.hid (show numX x < 1 → R = -1 from fun h => HR2.out.trans (if_pos (List.any_eq_true.2 ⟨x, HM.out, by simpa using h⟩)))
        generalize numX x = z at *
        clear kz hyy hq2
        have hlt2 : ((j : Int) + 3) < (q : Int) + 3 := by omega
        go_wp2_with fail
        refine (KN wr).mono ?_
        rintro e w2 ⟨rfl, hB⟩
        have HB2 := Lib.hid (HB.out.trans (hB.mono HB.out.size))
        clear hB KN kz2
        by_cases hz1 : z < 1
        · have HR := Lib.hid (HR9.out hz1)
          have hd9 : decide (z < 1) = true := decide_eq_true hz1
          go_wp2_with fail
          go_ret
          exact ⟨by rw [HR.out]; rfl, HB2.out⟩
        · have hd9 : decide (z < 1) = false := decide_eq_false hz1
          have HZ0 := Lib.hid (HZ9.out (by omega))
          go_wp2_with fail
          go_roundw
          case rel => exact ⟨j + 1, by omega, by omega, fun y hy => by have := HZ0.out y hy; omega⟩
          case measure => simp [intOf]; omega
      · obtain rfl : j = q := by omega
        have HR := Lib.hid (show R = 2 from HR2.out.trans (if_neg (by
          rw [List.any_eq_true]
          rintro ⟨y, hy, hy1⟩
          exact HZ.out y (by rw [← hq2, List.take_length]; exact hy) (by simpa using hy1))))
        clear hq2
        go_wp2_with fail
        go_ret
        exact ⟨by rw [HR.out]; rfl, HB.out⟩
  · -- a weight
    have hs1 : ¬ x2 = [115, 104, 111, 119] := by rw [hs]; decide
    rw [decide_eq_false hs1] at t2
    rw [decide_eq_true (show x2 = [119, 101, 105, 103, 104, 116] from hs)] at t3
    have hr2 := HRK.out.trans (kc_w (rd := rdD) HNO.out HBB.out (by rw [G2.out]; exact hs1))
    clear hs hs1
    by_cases hq2 : q = 2
    case neg =>
      have HR := Lib.hid (show R = -1 from hr2.trans (if_pos (.inl (by rw [HRL.out]; omega))))
      have hq6 : (((q : Int) + 1 + 3) != 6) = true := by simp [bne, beq_no (show (q : Int) + 1 + 3 ≠ 6 by omega)]
      clear hr2 hq2 HRK HC HLN G1 G2 GL HNO HBB H2
      go_enter Tryd.func25, Tryd.ntmps25
      go_wp2_with fail
      go_ret
      exact ⟨by rw [HR.out]; rfl, Below.refl _ _⟩
    subst hq2
    obtain ⟨x3, hx3⟩ : ∃ x3, r[2]? = some x3 := ⟨_, List.getElem?_eq_getElem (show 2 < r.length by rw [HRL.out]; omega)⟩
    obtain ⟨x4, hx4⟩ : ∃ x4, r[3]? = some x4 := ⟨_, List.getElem?_eq_getElem (show 3 < r.length by rw [HRL.out]; omega)⟩
    have k3 := HC.out 3 x3 (by simpa using hx3)
    have K4 := Lib.hid (HC.out 4 x4 (by simpa using hx4))
    have g3 : r.getD 2 [] = x3 := by simp [List.getD, hx3]
    have g4 : r.getD 3 [] = x4 := by simp [List.getD, hx4]
    have hl5 : r.length = 5 := HRL.out
    rw [g3, g4, hl5] at hr2
    have HR2 := Lib.hid hr2
    have KL := xLiteral x3 (by have := HLN.out x3 (List.mem_of_getElem? hx3); omega)
    have KR := gXRatRead ⟨x4.toArray⟩ (by rw [ba_size]; exact HLN.out x4 (List.mem_of_getElem? hx4))
    have hrd : rdD x4 = (ratRead ⟨x4.toArray⟩).isSome := rfl
    obtain ⟨u1, u2, hxr⟩ : ∃ u1 u2, xratV ((ratRead ⟨x4.toArray⟩).getD (0, 1)) = .agg #[.string u1, .string u2] := ⟨_, _, rfl⟩
    rw [hxr] at KR
    have hlit := litD_in x3
    clear hr2 hx3 hx4 g3 g4 hl5 hxr HRK HC HLN G1 G2 GL HNO HBB H2 HRL
    rw [hrd] at HR2
    clear hrd
    generalize (ratRead ⟨x4.toArray⟩).isSome = ok at *
    generalize litD x3 = z at *
    generalize (⟨x3.toArray⟩ : ByteArray) = y3 at *
    generalize (⟨x4.toArray⟩ : ByteArray) = y4 at *
    go_enter Tryd.func25, Tryd.ntmps25
    go_wp2_with fail
    refine (KL w).mono ?_
    rintro e w2 ⟨rfl, hB⟩
    have HB := Lib.hid hB
    have k4 := below_cell hB hb0 K4.out
    clear hB KL k0 k1 k2 k3 kl
    by_cases hz : z = 0
    · have hz2 : (z == 0) = true := by simp [hz]
      have HR := Lib.hid (show R = -1 from HR2.out.trans (if_pos (.inr hz)))
      clear hz HR2
      go_wp2_with fail
      go_ret
      exact ⟨by rw [HR.out]; rfl, HB.out⟩
    have hz2 : (z == 0) = false := beq_no hz
    have HR3 := Lib.hid (HR2.out.trans (if_neg (by rintro (h | h); exact h rfl; exact hz h)))
    clear hz HR2
    go_wp2_with fail
    refine (KR w2).mono ?_
    rintro e w3 ⟨rfl, hB⟩
    have HB3 := Lib.hid (HB.out.trans (hB.mono HB.out.size))
    clear hB KR k4
    cases ok with
    | false =>
      have HR := Lib.hid (show R = -1 from HR3.out.trans (if_pos rfl))
      clear HR3
      go_wp2_with fail
      go_ret
      exact ⟨by rw [HR.out]; rfl, (HB3.out.alloc HB3.out.size _)⟩
    | true =>
      have HR := Lib.hid (show R = 3 from HR3.out.trans (if_neg (by simp)))
      clear HR3
      go_wp2_with fail
      go_ret
      exact ⟨by rw [HR.out]; rfl, (HB3.out.alloc HB3.out.size _)⟩
end Go.Proofs.YtfleacdnkpckbaaDoor

/- The reference's kind, of literals; and of any line. -/
namespace Go.Proofs.YtfleacdnkpckbaaDoor
open Go.RowKit

set_option maxHeartbeats 3200000 in
set_option maxRecDepth 100000 in
theorem xKindL (w0 : List UInt8) (r : List (List UInt8)) (hw0 : ¬ w0 = [112]) (hw1 : ¬ w0 = [99]) (hl : ∀ x ∈ w0 :: r, x.length ≤ 1000000) (hn : r.length ≤ 1100000) (w : World) (a : Option Addr) (c : Nat) (hA : AtN w.heap.size w a (strs (w0 :: r))) :
    Calls Tryd.prog 25 #[.slice a (w0 :: r).length c] w fun e w' => e = .returned (.int .i64 (kindD rdD (w0 :: r))) ∧ Below w.heap.size w w' := by
  obtain ⟨R, hR⟩ : ∃ R, R = kindD rdD (w0 :: r) := ⟨_, rfl⟩
  rw [← hR]
  have HRK := Lib.hid (hR.trans (kind_l rdD r hw0 hw1))
  have HA := Lib.hid hA
  obtain ⟨b0, o0, hb0, rfl, k0⟩ := hA 0 _ (strs_get (w0 :: r) 0 _ rfl)
  rw [Nat.add_zero] at k0
  have t0 := lit_both w0 [112]
  have t1 := lit_both w0 [99]
  rw [decide_eq_false hw0] at t0
  rw [decide_eq_false hw1] at t1
  obtain ⟨W, hW⟩ : ∃ W, W = w0 :: r := ⟨_, rfl⟩
  rw [← hW] at HA HRK hl ⊢
  have hn0 : 0 < W.length := by rw [hW]; simp
  have hnb : W.length ≤ 1100001 := by rw [hW]; simp; omega
  have HLN := Lib.hid hl
  generalize (⟨w0.toArray⟩ : ByteArray) = y0 at *
  have hq0 : ((W.length : Int) == 0) = false := beq_no (by omega)
  clear hR hA hW hl hw0 hw1 hn
  go_enter Tryd.func25, Tryd.ntmps25
  go_wp2_with fail
  go_loopw [6] (fun t6 wr => ∃ j : Nat, j ≤ W.length ∧ t6 = .int .i64 j ∧ Hid (∀ y ∈ W.take j, ¬ (litD y = 0 ∧ y ≠ [48])) ∧ Hid (Below w.heap.size w wr)) (fun t6 _ => W.length - (intOf t6).toNat)
  case atStart => exact ⟨0, Nat.zero_le _, rfl, by simp [Hid], Below.refl _ _⟩
  case round =>
    obtain ⟨j, hj, rfl, HZ, HB⟩ := hrel
    by_cases hlt : j < W.length
    · have hdd : decide (j < W.length) = true := by simpa using hlt
      have hyy : W[j]? = some (W.getD j []) := by simp [List.getD, hlt]
      have HT := Lib.hid (take_one hyy)
      have HM := Lib.hid (List.mem_of_getElem? hyy)
      obtain ⟨b1, o1, hb1, e1, k1⟩ := HA.out _ _ (strs_get _ _ _ hyy)
      cases e1
      have d1 := below_cell HB.out hb0 k1
      have hxl := HLN.out _ (List.mem_of_getElem? hyy)
      have KL := xLiteral (W.getD j []) (by omega)
      have t4 := lit_both (W.getD j []) [48]
      have hlit := litD_in (W.getD j [])
      have HZ9 := Lib.hid (show ¬ (litD (W.getD j []) = 0 ∧ W.getD j [] ≠ [48]) → ∀ y ∈ W.take (j + 1), ¬ (litD y = 0 ∧ y ≠ [48]) from fun h z hz => by
        rw [HT.out] at hz
        rcases List.mem_append.1 hz with hz | hz
        · exact HZ.out z hz
        · rw [List.mem_singleton.1 hz]; exact h)
      have HR9 := Lib.hid (show litD (W.getD j []) = 0 → W.getD j [] ≠ [48] → R = -1 from fun h h2 => HRK.out.trans (if_pos (List.any_eq_true.2 ⟨_, HM.out, by rw [decide_eq_true h, decide_eq_true h2]; rfl⟩)))
      generalize W.getD j [] = x at *
      generalize (⟨x.toArray⟩ : ByteArray) = y at *
      generalize litD x = z at *
      clear k1 hyy
      by_cases hx : x = [48]
      · rw [decide_eq_true hx] at t4
        have HZ0 := Lib.hid (HZ9.out (fun h => h.2 hx))
        clear hx
        go_wp2_with fail
        go_roundw
        case rel => exact ⟨j + 1, by omega, by go_num, HZ0.out, HB.out⟩
        case measure => simp [intOf]; omega
      · rw [decide_eq_false hx] at t4
        have HX := Lib.hid hx
        clear hx
        go_wp2_with fail
        refine (KL wr).mono ?_
        rintro e w2 ⟨rfl, hB⟩
        have HB2 := Lib.hid (HB.out.trans (hB.mono HB.out.size))
        clear hB KL d1
        by_cases hz : z = 0
        · have hz2 : (z == 0) = true := by simp [hz]
          have HR := Lib.hid (HR9.out hz HX.out)
          clear hz
          go_wp2_with fail
          go_ret
          exact ⟨by rw [HR.out]; rfl, HB2.out⟩
        · have hz2 : (z == 0) = false := beq_no hz
          have HZ0 := Lib.hid (HZ9.out (fun h => hz h.1))
          clear hz
          go_wp2_with fail
          go_roundw
          case rel => exact ⟨j + 1, by omega, by go_num, HZ0.out, HB2.out⟩
          case measure => simp [intOf]; omega
    · obtain rfl : j = W.length := by omega
      have hdd : decide (W.length < W.length) = false := by simp
      have HR := Lib.hid (show R = 4 from HRK.out.trans (if_neg (fun h => by
        obtain ⟨y, hy, e⟩ := List.any_eq_true.1 h
        simp only [Bool.and_eq_true, decide_eq_true_eq] at e
        exact HZ.out y (by rw [List.take_length]; exact hy) e)))
      go_wp2_with fail
      go_ret
      exact ⟨by rw [HR.out]; rfl, HB.out⟩

set_option maxHeartbeats 1600000 in
set_option maxRecDepth 100000 in
theorem xKind (W : List (List UInt8)) (hl : ∀ x ∈ W, x.length ≤ 1000000) (hn : W.length ≤ 1100000) (w : World) (a : Option Addr) (c : Nat) (hA : AtN w.heap.size w a (strs W)) :
    Calls Tryd.prog 25 #[.slice a W.length c] w fun e w' => e = .returned (.int .i64 (kindD rdD W)) ∧ Below w.heap.size w w' := by
  cases W with
  | nil =>
    go_enter Tryd.func25, Tryd.ntmps25
    go_wp2_with fail
    go_ret
    exact ⟨rfl, Below.refl _ _⟩
  | cons w0 r =>
    have hl2 : ∀ x ∈ r, x.length ≤ 1000000 := fun x hx => hl x (List.mem_cons_of_mem _ hx)
    rw [List.length_cons] at hn
    by_cases h1 : w0 = [112]
    · subst h1; exact xKindP r hl2 (by omega) w a c hA
    by_cases h2 : w0 = [99]
    · subst h2; exact xKindC r hl2 (by omega) w a c hA
    · exact xKindL w0 r h1 h2 hl (by omega) w a c hA
end Go.Proofs.YtfleacdnkpckbaaDoor

/- The reference's state; its p line. -/
namespace Go.Proofs.YtfleacdnkpckbaaDoor
open Go.RowKit

def stV (st : DS) (v : DV) : Value := .agg #[.int .i64 st.n, v.L, v.S, v.W, .bool st.begun, .int .i64 st.m, v.c, .bool st.op]
def DV.Sl (v : DV) : Prop := ∃ a b c d e f g h i j k l, v = ⟨.slice a b c, .slice d e f, .slice g h i, .slice j k l⟩
def SPost (w : World) (G : Nat → Prop) (v : DV) (r : DS × Int) (e : Ending) (w' : World) : Prop := ∃ st' v', DV.Sl v' ∧ e = .returned (.tuple #[stV st' v', .int .i64 r.2]) ∧ Behind w v.M w' ∧ (r.2 = 0 → st' = r.1 ∧ DX 61 w' G st' v' ∧ ∀ g ∈ v'.M, g ∈ v.M ∨ w.heap.size ≤ g)
theorem behind_cellD {w x : World} {Wr : List Nat} (h : Behind w Wr x) {b o : Nat} {v : Value} (hc : w.cell? ⟨b, o, none⟩ = some v) (hn : b ∉ Wr) : x.cell? ⟨b, o, none⟩ = some v :=
  (World.cell?_of_block (a := ⟨b, o, none⟩) (h.block b (block_lt_of_cell hc) hn)).trans hc
def Off (v : DV) (a : Option Addr) : Prop := ∀ g o x, a = some ⟨g, o, x⟩ → g ∉ v.M
theorem Tryd.sizeState : (Tryd.prog.info? 56).map (·.size) = some 8 := by kernel_rfl
theorem results_cell_tmp1 {P : Program} {fn : Func} {p q : Tmp} {ty : TypeId} (h : fn.results = #[.cell p ty, .tmp q]) (tmps : Array Value) (w : World) (g : Nat) (t : TypeId) (cs : Array Value) (fr : Nat × Nat) (d : TypeDesc)
    (hp : tmps.getD p undef = .pointer (some ⟨g, 0, none⟩)) (hg : w.heap[g]? = some (.cells cs t fr))
    (hu : P.underlying ty = some d) (hd : (match d with | .struct _ | .array _ _ => true | _ => false) = true) (hi : (P.info? ty).map (·.size) = some cs.size) (v : Value) (hv : tmps.getD q undef = v) :
    (results fn tmps).run P w = .ok (.tuple #[.agg cs, v]) w := by
  have hp' : tmps[p]?.getD undef = .pointer (some ⟨g, 0, none⟩) := by simpa using hp
  have hv' : tmps[q]?.getD undef = v := by simpa using hv
  simp [results, h, hp', hv', asAddr, run_loadVar_row w g t ty cs fr d hg hu hd hi]
def put8 (w : World) (g : Nat) (a b c d e f h i : Value) : World := (((((((w.setCell ⟨g, 0, none⟩ a).setCell ⟨g, 1, none⟩ b).setCell ⟨g, 2, none⟩ c).setCell ⟨g, 3, none⟩ d).setCell ⟨g, 4, none⟩ e).setCell ⟨g, 5, none⟩ f).setCell ⟨g, 6, none⟩ h).setCell ⟨g, 7, none⟩ i
theorem eight_set {w : World} {g : Nat} {a0 b0 c0 d0 e0 f0 h0 i0 a b c d e f h i : Value} {T : TypeId} (hh : w.heap[g]? = some (.cells #[a0, b0, c0, d0, e0, f0, h0, i0] T (0, 0))) : (put8 w g a b c d e f h i).heap[g]? = some (.cells #[a, b, c, d, e, f, h, i] T (0, 0)) := by
  have h19 : (w.setCell ⟨g, 0, none⟩ a).heap[g]? = some (.cells #[a, b0, c0, d0, e0, f0, h0, i0] T (0, 0)) := heap_setCell_same _ g 0 _ _ _ hh
  have h29 : ((w.setCell ⟨g, 0, none⟩ a).setCell ⟨g, 1, none⟩ b).heap[g]? = some (.cells #[a, b, c0, d0, e0, f0, h0, i0] T (0, 0)) := heap_setCell_same _ g 1 _ _ _ h19
  have h39 : (((w.setCell ⟨g, 0, none⟩ a).setCell ⟨g, 1, none⟩ b).setCell ⟨g, 2, none⟩ c).heap[g]? = some (.cells #[a, b, c, d0, e0, f0, h0, i0] T (0, 0)) := heap_setCell_same _ g 2 _ _ _ h29
  have h49 : ((((w.setCell ⟨g, 0, none⟩ a).setCell ⟨g, 1, none⟩ b).setCell ⟨g, 2, none⟩ c).setCell ⟨g, 3, none⟩ d).heap[g]? = some (.cells #[a, b, c, d, e0, f0, h0, i0] T (0, 0)) := heap_setCell_same _ g 3 _ _ _ h39
  have h59 : (((((w.setCell ⟨g, 0, none⟩ a).setCell ⟨g, 1, none⟩ b).setCell ⟨g, 2, none⟩ c).setCell ⟨g, 3, none⟩ d).setCell ⟨g, 4, none⟩ e).heap[g]? = some (.cells #[a, b, c, d, e, f0, h0, i0] T (0, 0)) := heap_setCell_same _ g 4 _ _ _ h49
  have h69 : ((((((w.setCell ⟨g, 0, none⟩ a).setCell ⟨g, 1, none⟩ b).setCell ⟨g, 2, none⟩ c).setCell ⟨g, 3, none⟩ d).setCell ⟨g, 4, none⟩ e).setCell ⟨g, 5, none⟩ f).heap[g]? = some (.cells #[a, b, c, d, e, f, h0, i0] T (0, 0)) := heap_setCell_same _ g 5 _ _ _ h59
  have h79 : (((((((w.setCell ⟨g, 0, none⟩ a).setCell ⟨g, 1, none⟩ b).setCell ⟨g, 2, none⟩ c).setCell ⟨g, 3, none⟩ d).setCell ⟨g, 4, none⟩ e).setCell ⟨g, 5, none⟩ f).setCell ⟨g, 6, none⟩ h).heap[g]? = some (.cells #[a, b, c, d, e, f, h, i0] T (0, 0)) := heap_setCell_same _ g 6 _ _ _ h69
  have h89 : ((((((((w.setCell ⟨g, 0, none⟩ a).setCell ⟨g, 1, none⟩ b).setCell ⟨g, 2, none⟩ c).setCell ⟨g, 3, none⟩ d).setCell ⟨g, 4, none⟩ e).setCell ⟨g, 5, none⟩ f).setCell ⟨g, 6, none⟩ h).setCell ⟨g, 7, none⟩ i).heap[g]? = some (.cells #[a, b, c, d, e, f, h, i] T (0, 0)) := heap_setCell_same _ g 7 _ _ _ h79
  exact h89
theorem eight_behind {w : World} {g : Nat} {a b c d e f h i : Value} : Behind w [g] (put8 w g a b c d e f h i) :=
  ((((((behind_set.trans behind_set (by simp)).trans behind_set (by simp)).trans behind_set (by simp)).trans behind_set (by simp)).trans behind_set (by simp)).trans behind_set (by simp)).trans behind_set (by simp)
theorem below_written {B g : Nat} {w w1 w2 : World} (h : Below B w w1) (hB : Behind w1 [g] w2) (hg : B ≤ g) (hw : B ≤ w.heap.size) : Below B w w2 := h.trans (hB.below_of (fun k hk => by simp at hk; omega) (Nat.le_trans hw h.size))
def hdrX (st : DS) (a b : Int) : DS × Int := if st.begun = true then (st, 4) else if 128 < a ∨ 4096 < b then (st, 6) else ({ st with begun := true, n := a, m := b }, 0)
theorem SPost.err {w w' : World} {G : Nat → Prop} {v : DV} {st : DS} {n : Int} (hs : DV.Sl v) (hb : Below w.heap.size w w') (hn : n ≠ 0) : SPost w G v (st, n) (.returned (.tuple #[stV st v, .int .i64 n])) w' :=
  ⟨st, v, hs, rfl, (behind_of_below hb).mono (by simp), fun h => absurd h hn⟩

set_option maxHeartbeats 6400000 in
set_option maxRecDepth 100000 in
theorem xHeader (w : World) (G : Nat → Prop) (st : DS) (v : DV) (h : DX 61 w G st v) (W : List (List UInt8)) (hn : W.length ≤ 1100000) (x2 x3 : List UInt8) (h2 : W[2]? = some x2) (h3 : W[3]? = some x3) (hl2 : x2.length ≤ 1100000) (hl3 : x3.length ≤ 1100000) (a : Option Addr) (c : Nat) (hA : AtN w.heap.size w a (strs W)) :
    Calls Tryd.prog 26 #[stV st v, .slice a W.length c] w (SPost w G v (hdrX st (numX x2) (numX x3))) := by
  obtain ⟨vL, vS, vW, vc⟩ := v
  obtain ⟨cl0, hcl0, _⟩ := h.rL
  obtain ⟨pL, cL, e1⟩ := hcl0.slice
  obtain ⟨pS, cS, e2⟩ := h.rS.slice
  obtain ⟨pW, cW, e3⟩ := h.rW.slice
  obtain ⟨pc, cc, e4⟩ := h.rc.slice
  simp only at e1 e2 e3 e4
  subst e1
  subst e2
  subst e3
  subst e4
  clear hcl0
  have H := Lib.hid h
  have HA := Lib.hid hA
  have hsl : DV.Sl ⟨.slice pL st.L.length cL, .slice pS st.sh.length cS, .slice pW st.ws.length cW, .slice pc st.cl.length cc⟩ := ⟨_, _, _, _, _, _, _, _, _, _, _, _, rfl⟩
  have HSL := Lib.hid hsl
  obtain ⟨b0, o0, hb0, rfl, k2⟩ := hA 2 _ (strs_get W 2 _ h2)
  have k3 : w.cell? ⟨b0, o0 + 3, none⟩ = some (.string ⟨x3.toArray⟩) := by
    obtain ⟨_, _, _, e, k⟩ := hA 3 _ (strs_get W 3 _ h3)
    cases e
    exact k
  have hW3 : 3 < W.length := by
    rcases Nat.lt_or_ge 3 W.length with h' | h'
    · exact h'
    · rw [List.getElem?_eq_none h'] at h3; cases h3
  have K2 := Lib.hid k2
  have K3 := Lib.hid k3
  have N2 := xNumber x2 hl2
  have N3 := xNumber x3 hl3
  have i2 := numX_in x2
  have i3 := numX_in x3
  obtain ⟨R, hR⟩ : ∃ R : DS × Int, R = hdrX st (numX x2) (numX x3) := ⟨_, rfl⟩
  rw [← hR]
  obtain ⟨Post, hPost⟩ : ∃ P : Ending → World → Prop, P = SPost w G ⟨.slice pL st.L.length cL, .slice pS st.sh.length cS, .slice pW st.ws.length cW, .slice pc st.cl.length cc⟩ R := ⟨_, rfl⟩
  rw [← hPost]
  have HP := Lib.hid hPost
  have HR := Lib.hid hR
  clear hPost hR h hA h2 h3 k2 k3 hsl
  generalize numX x2 = z2 at *
  generalize numX x3 = z3 at *
  generalize (⟨x2.toArray⟩ : ByteArray) = y2 at *
  generalize (⟨x3.toArray⟩ : ByteArray) = y3 at *
  unfold stV
  go_enter Tryd.func26, Tryd.ntmps26
  go_upto_region 1 with fail
  refine wp_gen ?_
  intro w1 hw1
  have S1 := Lib.hid (show w1.heap[w.heap.size]? = some (.cells #[.int .i64 st.n, .slice pL st.L.length cL, .slice pS st.sh.length cS, .slice pW st.ws.length cW, .bool st.begun, .int .i64 st.m, .slice pc st.cl.length cc, .bool st.op] 56 (0, 0)) by rw [hw1]; exact new_two1 _ _ _)
  have O1 := Lib.hid (show w1.heap[w.heap.size + 1]? = some (.cells #[.int .i64 0, .slice none 0 0, .slice none 0 0, .slice none 0 0, .bool false, .int .i64 0, .slice none 0 0, .bool false] 56 (0, 0)) by rw [hw1]; exact new_two2 _ _ _)
  have HB1 := Lib.hid (show Below w.heap.size w w1 by rw [hw1]; exact below_two _ _ _)
  clear hw1
  cases hbg : st.begun with
  | true =>
    have HF := Lib.hid (HR.out.trans (if_pos hbg))
    have S2 := S1.out
    rw [hbg] at S2
    have q0 := blk_cell S2 0 rfl
    have q1 := blk_cell S2 1 rfl
    have q2 := blk_cell S2 2 rfl
    have q3 := blk_cell S2 3 rfl
    have q4 := blk_cell S2 4 rfl
    have q5 := blk_cell S2 5 rfl
    have q6 := blk_cell S2 6 rfl
    have q7 := blk_cell S2 7 rfl
    have o0 := blk_cell O1.out 0 rfl
    have of0 := blk_free O1.out 0
    have o1 := blk_cell O1.out 1 rfl
    have of1 := blk_free O1.out 1
    have o2 := blk_cell O1.out 2 rfl
    have of2 := blk_free O1.out 2
    have o3 := blk_cell O1.out 3 rfl
    have of3 := blk_free O1.out 3
    have o4 := blk_cell O1.out 4 rfl
    have of4 := blk_free O1.out 4
    have o5 := blk_cell O1.out 5 rfl
    have of5 := blk_free O1.out 5
    have o6 := blk_cell O1.out 6 rfl
    have of6 := blk_free O1.out 6
    have o7 := blk_cell O1.out 7 rfl
    have of7 := blk_free O1.out 7
    have HBG := Lib.hid hbg
    clear S2 hbg
    go_wp2_with fail
    refine bodyPost_ret (results_cell_tmp1 (p := 4) (q := 5) rfl _ _ (w.heap.size + 1) _ _ (0, 0) _ rfl (eight_set O1.out) Tryd.underlying56 rfl Tryd.sizeState _ rfl) rfl ?_
    rw [HP.out, HF.out, ← HBG.out]
    exact SPost.err (n := 4) HSL.out (below_written HB1.out eight_behind (by omega) (Nat.le_refl _)) (by simp)
  | false =>
    have HF := Lib.hid (HR.out.trans (if_neg (by rw [hbg]; simp)))
    have S2 := S1.out
    rw [hbg] at S2
    have S2' := Lib.hid S2
    have q4 := blk_cell S2 4 rfl
    have k2 := below_cell HB1.out hb0 K2.out
    have HBG := Lib.hid hbg
    clear S2 hbg S1
    go_wp2_with fail
    refine (N2 w1).mono ?_
    rintro e w2 ⟨rfl, hB⟩
    have S3 := Lib.hid ((behind_of_below hB).keep S2'.out (by simp))
    have O3 := Lib.hid ((behind_of_below hB).keep O1.out (by simp))
    have HB2 := Lib.hid (HB1.out.trans (hB.mono HB1.out.size))
    have k3 := below_cell HB2.out hb0 K3.out
    have k2' := below_cell HB2.out hb0 K2.out
    clear hB k2 q4
    by_cases hz2 : 128 < z2
    · have hd : decide (128 < z2) = true := decide_eq_true hz2
      have hd' : decide (z2 > 128) = true := hd
      have HF2 := Lib.hid (HF.out.trans (if_pos (.inl hz2)))
      have q0 := blk_cell S3.out 0 rfl
      have q1 := blk_cell S3.out 1 rfl
      have q2 := blk_cell S3.out 2 rfl
      have q3 := blk_cell S3.out 3 rfl
      have q4 := blk_cell S3.out 4 rfl
      have q5 := blk_cell S3.out 5 rfl
      have q6 := blk_cell S3.out 6 rfl
      have q7 := blk_cell S3.out 7 rfl
      have o0 := blk_cell O3.out 0 rfl
      have of0 := blk_free O3.out 0
      have o1 := blk_cell O3.out 1 rfl
      have of1 := blk_free O3.out 1
      have o2 := blk_cell O3.out 2 rfl
      have of2 := blk_free O3.out 2
      have o3 := blk_cell O3.out 3 rfl
      have of3 := blk_free O3.out 3
      have o4 := blk_cell O3.out 4 rfl
      have of4 := blk_free O3.out 4
      have o5 := blk_cell O3.out 5 rfl
      have of5 := blk_free O3.out 5
      have o6 := blk_cell O3.out 6 rfl
      have of6 := blk_free O3.out 6
      have o7 := blk_cell O3.out 7 rfl
      have of7 := blk_free O3.out 7
      clear N2 N3 hz2
      go_wp2_with fail
      refine bodyPost_ret (results_cell_tmp1 (p := 4) (q := 5) rfl _ _ (w.heap.size + 1) _ _ (0, 0) _ rfl (eight_set O3.out) Tryd.underlying56 rfl Tryd.sizeState _ rfl) rfl ?_
      rw [HP.out, HF2.out, ← HBG.out]
      exact SPost.err (n := 6) HSL.out (below_written HB2.out eight_behind (by omega) (Nat.le_refl _)) (by simp)
    have hd : decide (128 < z2) = false := decide_eq_false hz2
    have hd' : decide (z2 > 128) = false := hd
    go_wp2_with fail
    refine (N3 w2).mono ?_
    rintro e w3 ⟨rfl, hB⟩
    have S4 := Lib.hid ((behind_of_below hB).keep S3.out (by simp))
    have O4 := Lib.hid ((behind_of_below hB).keep O3.out (by simp))
    have HB3 := Lib.hid (HB2.out.trans (hB.mono HB2.out.size))
    clear hB k3 k2'
    by_cases hz3 : 4096 < z3
    · have hd3 : decide (4096 < z3) = true := decide_eq_true hz3
      have hd3' : decide (z3 > 4096) = true := hd3
      have HF2 := Lib.hid (HF.out.trans (if_pos (.inr hz3)))
      have q0 := blk_cell S4.out 0 rfl
      have q1 := blk_cell S4.out 1 rfl
      have q2 := blk_cell S4.out 2 rfl
      have q3 := blk_cell S4.out 3 rfl
      have q4 := blk_cell S4.out 4 rfl
      have q5 := blk_cell S4.out 5 rfl
      have q6 := blk_cell S4.out 6 rfl
      have q7 := blk_cell S4.out 7 rfl
      have o0 := blk_cell O4.out 0 rfl
      have of0 := blk_free O4.out 0
      have o1 := blk_cell O4.out 1 rfl
      have of1 := blk_free O4.out 1
      have o2 := blk_cell O4.out 2 rfl
      have of2 := blk_free O4.out 2
      have o3 := blk_cell O4.out 3 rfl
      have of3 := blk_free O4.out 3
      have o4 := blk_cell O4.out 4 rfl
      have of4 := blk_free O4.out 4
      have o5 := blk_cell O4.out 5 rfl
      have of5 := blk_free O4.out 5
      have o6 := blk_cell O4.out 6 rfl
      have of6 := blk_free O4.out 6
      have o7 := blk_cell O4.out 7 rfl
      have of7 := blk_free O4.out 7
      clear N2 N3 hz2 hz3
      go_wp2_with fail
      refine bodyPost_ret (results_cell_tmp1 (p := 4) (q := 5) rfl _ _ (w.heap.size + 1) _ _ (0, 0) _ rfl (eight_set O4.out) Tryd.underlying56 rfl Tryd.sizeState _ rfl) rfl ?_
      rw [HP.out, HF2.out, ← HBG.out]
      exact SPost.err (n := 6) HSL.out (below_written HB3.out eight_behind (by omega) (Nat.le_refl _)) (by simp)
    have hd3 : decide (4096 < z3) = false := decide_eq_false hz3
    have hd3' : decide (z3 > 4096) = false := hd3
    have HF2 := Lib.hid (HF.out.trans (if_neg (by omega)))
    have q4 := blk_cell S4.out 4 rfl
    have f4 := blk_free S4.out 4
    have hs3 : w.heap.size < w3.heap.size := lt_of_heap S4.out
    have k2 := below_cell HB3.out hb0 K2.out
    go_wp2_with fail
    refine (N2 _).mono ?_
    rintro e w4 ⟨rfl, hB⟩
    have S5 := Lib.hid ((behind_of_below hB).keep (heap_setCell_same _ w.heap.size 4 _ _ _ S4.out) (by simp))
    have O5 := Lib.hid ((behind_of_below hB).keep ((heap_setCell_other _ _ _ _ (show w.heap.size + 1 ≠ w.heap.size by omega)).trans O4.out) (by simp))
    have HB4 := Lib.hid ((HB3.out.setCell (p := ⟨w.heap.size, 4, none⟩) (Nat.le_refl _) (.bool true)).trans (hB.mono (by simp <;> omega)))
    clear hB q4 f4 k2
    have q0 := blk_cell S5.out 0 rfl
    have f0 := blk_free S5.out 0
    have k3 := below_cell HB4.out hb0 K3.out
    go_wp2_with fail
    refine (N3 _).mono ?_
    rintro e w5 ⟨rfl, hB⟩
    have S6 := Lib.hid ((behind_of_below hB).keep (heap_setCell_same _ w.heap.size 0 _ _ _ S5.out) (by simp))
    have O6 := Lib.hid ((behind_of_below hB).keep ((heap_setCell_other _ _ _ _ (show w.heap.size + 1 ≠ w.heap.size by omega)).trans O5.out) (by simp))
    have HB5 := Lib.hid ((HB4.out.setCell (p := ⟨w.heap.size, 0, none⟩) (Nat.le_refl _) (.int .i64 z2)).trans (hB.mono (by have := HB4.out.size; simp <;> omega)))
    clear hB q0 f0 k3
    have q5 := blk_cell S6.out 5 rfl
    have f5 := blk_free S6.out 5
    go_upto_region 8 with fail
    refine wp_gen ?_
    intro w6 hw6
    have S7 := Lib.hid (show w6.heap[w.heap.size]? = some (.cells #[.int .i64 z2, .slice pL st.L.length cL, .slice pS st.sh.length cS, .slice pW st.ws.length cW, .bool true, .int .i64 z3, .slice pc st.cl.length cc, .bool st.op] 56 (0, 0)) by rw [hw6]; exact heap_setCell_same _ w.heap.size 5 _ _ _ S6.out)
    have O7 := Lib.hid (show w6.heap[w.heap.size + 1]? = some (.cells #[.int .i64 0, .slice none 0 0, .slice none 0 0, .slice none 0 0, .bool false, .int .i64 0, .slice none 0 0, .bool false] 56 (0, 0)) by rw [hw6]; exact (heap_setCell_other _ _ _ _ (show w.heap.size + 1 ≠ w.heap.size by omega)).trans O6.out)
    have HB6 := Lib.hid (show Below w.heap.size w w6 by rw [hw6]; exact HB5.out.setCell (Nat.le_refl _) _)
    clear hw6 q5 f5 N2 N3
    have q0 := blk_cell S7.out 0 rfl
    have q1 := blk_cell S7.out 1 rfl
    have q2 := blk_cell S7.out 2 rfl
    have q3 := blk_cell S7.out 3 rfl
    have q4 := blk_cell S7.out 4 rfl
    have q5 := blk_cell S7.out 5 rfl
    have q6 := blk_cell S7.out 6 rfl
    have q7 := blk_cell S7.out 7 rfl
    have o0 := blk_cell O7.out 0 rfl
    have of0 := blk_free O7.out 0
    have o1 := blk_cell O7.out 1 rfl
    have of1 := blk_free O7.out 1
    have o2 := blk_cell O7.out 2 rfl
    have of2 := blk_free O7.out 2
    have o3 := blk_cell O7.out 3 rfl
    have of3 := blk_free O7.out 3
    have o4 := blk_cell O7.out 4 rfl
    have of4 := blk_free O7.out 4
    have o5 := blk_cell O7.out 5 rfl
    have of5 := blk_free O7.out 5
    have o6 := blk_cell O7.out 6 rfl
    have of6 := blk_free O7.out 6
    have o7 := blk_cell O7.out 7 rfl
    have of7 := blk_free O7.out 7
    go_wp2_with fail
    refine bodyPost_ret (results_cell_tmp1 (p := 4) (q := 5) rfl _ _ (w.heap.size + 1) _ _ (0, 0) _ rfl (eight_set O7.out) Tryd.underlying56 rfl Tryd.sizeState _ rfl) rfl ?_
    rw [HP.out, HF2.out]
    have hB9 := below_written HB6.out (eight_behind (w := w6) (g := w.heap.size + 1) (a := .int .i64 z2) (b := .slice pL st.L.length cL) (c := .slice pS st.sh.length cS) (d := .slice pW st.ws.length cW) (e := .bool true) (f := .int .i64 z3) (h := .slice pc st.cl.length cc) (i := .bool st.op)) (by omega) (Nat.le_refl _)
    exact ⟨{ st with begun := true, n := z2, m := z3 }, _, HSL.out, rfl, (behind_of_below hB9).mono (by simp), fun _ => ⟨rfl, (H.out.keepB hB9).same rfl rfl rfl rfl, fun g hg => .inl hg⟩⟩
end Go.Proofs.YtfleacdnkpckbaaDoor
