/- Texts of this claim, joined: D30, E4, E5. -/
import Derived.Test.YtajjgfiojlagmaaGreatDoorMO35
import Derived.Test.YtajjgfiojlagmaaGreatDoorMO36
import Derived.Test.YtajjgfiojlagmaaGreatDoorMO22
import Derived.Test.YtajjgfiojlagmaaGreatDoorMO28
import Derived.Deep.DeepCutAuto

/- Files in memory, of the program's Parse and of the reference's. -/
namespace Go.Proofs.YtajjgfiojlagmaaGreatDoor
open Go.RowKit

theorem DX.file {TW : TypeId} {w : World} {G : Nat → Prop} {st : DS} {v : DV} (h : DX TW w G st v) : ∃ aL cL aS cS aW cW, v.L = .slice aL st.L.length cL ∧ v.S = .slice aS st.sh.length cS ∧ v.W = .slice aW st.ws.length cW ∧ FileAt w.heap.size w aL aS aW st.L st.sh st.ws := by
  obtain ⟨cl, hL, hC⟩ := h.rL
  obtain ⟨aL, cL, e1, h1⟩ := rows_cls hL (fun i u xs a b => (hC i u xs a b).1)
  obtain ⟨aS, cS, e2, _, h2⟩ := rowV_at2 h.rS
  obtain ⟨aW, cW, e3, _, h3⟩ := rowV_at2 h.rW
  exact ⟨aL, cL, aS, cS, aW, cW, e1, e2, e3, h1, h2, h3⟩

end Go.Proofs.YtajjgfiojlagmaaGreatDoor

/- theory.Check; the law's few. -/
namespace Go.Proofs.YtajjgfiojlagmaaGreatDoor
open Go.RowKit

theorem clsC_cons (n : Int) (c : List Int) (L : List (List Int)) : clsC n (c :: L) = if 128 < c.length then 2 else if litBad n c = true then 1 else clsC n L := rfl

set_option maxHeartbeats 6400000 in
set_option maxRecDepth 100000 in
theorem gTCheck (n : Int) (L : List (List Int)) (aL : Option Addr) (cL : Nat) (w : World) (hA : ClsAt w.heap.size w aL L) :
    Calls Tryz.prog 28 #[.agg #[.int .i64 n, .slice aL L.length cL]] w fun e w' => e = .returned (.int .i64 (theoC n L)) ∧ Below w.heap.size w w' := by
  obtain ⟨R, hR⟩ : ∃ R, R = theoC n L := ⟨_, rfl⟩
  rw [← hR]
  have HR := Lib.hid (show R = if n < 0 ∨ 128 < n then 6 else if 4096 < L.length then 2 else clsC n L from hR)
  have HA := Lib.hid hA
  clear hR hA
  go_enter Tryz.func28, Tryz.ntmps28
  go_upto_region 1 with fail
  refine wp_gen ?_
  intro w1 hw1
  have S1 := Lib.hid (show w1.heap[w.heap.size]? = some (.cells #[.int .i64 n, .slice aL L.length cL] 24 (0, 0)) by rw [hw1]; exact new_one _ _)
  have HB1 := Lib.hid (show Below w.heap.size w w1 by rw [hw1]; exact below_one _ _)
  have hs1 : w1.heap.size = w.heap.size + 1 := by rw [hw1]; simp
  clear hw1
  have q0 := blk_cell S1.out 0 rfl
  have q1 := blk_cell S1.out 1 rfl
  by_cases hneg : n < 0
  · have hd : decide (n < 0) = true := decide_eq_true hneg
    have HF := Lib.hid (HR.out.trans (if_pos (.inl hneg)))
    go_wp2_with fail
    go_ret
    exact ⟨by rw [HF.out]; rfl, HB1.out⟩
  have hd : decide (n < 0) = false := decide_eq_false hneg
  by_cases hbig : 128 < n
  · have hd2 : decide (128 < n) = true := decide_eq_true hbig
    have hd3 : decide (n > 128) = true := hd2
    have HF := Lib.hid (HR.out.trans (if_pos (.inr hbig)))
    go_wp2_with fail
    go_ret
    exact ⟨by rw [HF.out]; rfl, HB1.out⟩
  have hd2 : decide (128 < n) = false := decide_eq_false hbig
  have hd3 : decide (n > 128) = false := hd2
  have HR2 := Lib.hid (HR.out.trans (if_neg (by omega)))
  by_cases hlong : 4096 < L.length
  · have hd4 : decide (4096 < L.length) = true := decide_eq_true hlong
    have hd5 : decide ((4096 : Int) < (L.length : Int)) = true := decide_eq_true (by omega)
    have HF := Lib.hid (HR2.out.trans (if_pos hlong))
    go_wp2_with fail
    go_ret
    exact ⟨by rw [HF.out]; rfl, HB1.out⟩
  have hd4 : decide (4096 < L.length) = false := decide_eq_false hlong
  have hd5 : decide ((4096 : Int) < (L.length : Int)) = false := decide_eq_false (by omega)
  have HR3 := Lib.hid (HR2.out.trans (if_neg hlong))
  clear HR HR2
  go_wp2_with fail
  go_loopw [22] (fun t22 wr => ∃ j : Nat, j ≤ L.length ∧ t22 = .int .i64 j ∧ Hid (R = clsC n (L.drop j)) ∧ Hid (Below w1.heap.size w1 wr)) (fun t22 _ => L.length - (intOf t22).toNat)
  case atStart => exact ⟨0, Nat.zero_le _, rfl, HR3.out, Below.refl _ _⟩
  case round =>
    obtain ⟨j, hj, rfl, HG, HB⟩ := hrel
    by_cases hlt : j < L.length
    · have hdd : decide (j < L.length) = true := decide_eq_true hlt
      have hxx : L[j]? = some (L.getD j []) := by simp [List.getD, hlt]
      have hdr : L.drop j = L.getD j [] :: L.drop (j + 1) := by rw [List.drop_eq_getElem_cons hlt]; simp [List.getD, hlt]
      obtain ⟨b1, o1, p1, c1, hb1, e1, k1, hat⟩ := HA.out j _ hxx
      subst e1
      have d1 := below_cell HB.out (show b1 < w1.heap.size by omega) (below_cell HB1.out hb1 k1)
      have HAT := Lib.hid hat
      have HG2 := Lib.hid (show R = _ from HG.out.trans (by rw [hdr, clsC_cons]))
      generalize L.getD j [] = xs at *
      clear k1 hxx hdr hat
      by_cases h128 : 128 < xs.length
      · have h1 : decide (128 < xs.length) = true := decide_eq_true h128
        have h2 : decide ((128 : Int) < (xs.length : Int)) = true := decide_eq_true (by omega)
        have HF := Lib.hid (HG2.out.trans (if_pos h128))
        go_wp2_with fail
        go_ret
        exact ⟨by rw [HF.out]; rfl, HB1.out.trans (HB.out.mono (by omega))⟩
      have h1 : decide (128 < xs.length) = false := decide_eq_false h128
      have h2 : decide ((128 : Int) < (xs.length : Int)) = false := decide_eq_false (by omega)
      have HG3 := Lib.hid (HG2.out.trans (if_neg h128))
      clear HG2 HG
      go_wp2_with fail
      obtain ⟨wz, hwz⟩ : ∃ wz, wz = wr := ⟨_, rfl⟩
      subst hwz
      go_loopw [31] (fun t31 wr => ∃ k : Nat, k ≤ xs.length ∧ t31 = .int .i64 k ∧ Hid (∀ z ∈ xs.take k, validD z n = true) ∧ Hid (Below w1.heap.size w1 wr)) (fun t31 _ => xs.length - (intOf t31).toNat)
      case atStart => exact ⟨0, Nat.zero_le _, rfl, by simp [Hid], HB.out⟩
      case round =>
        obtain ⟨k, hk, rfl, HZ, HBk⟩ := hrel
        by_cases hlk : k < xs.length
        · have hdk : decide (k < xs.length) = true := decide_eq_true hlk
          have hzz : xs[k]? = some (xs.getD k 0) := by simp [List.getD, hlk]
          obtain ⟨b2, o2, hb2, e2, k2⟩ := HAT.out k _ (ints_get _ _ _ hzz)
          subst e2
          have d2 := below_cell HBk.out (show b2 < w1.heap.size by omega) (below_cell HB1.out hb2 k2)
          have HT := Lib.hid (take_one hzz)
          have HM := Lib.hid (List.mem_of_getElem? hzz)
          have q0 := blk_cell ((behind_of_below HBk.out).keep S1.out (by simp)) 0 rfl
          generalize xs.getD k 0 = z at *
          have KV := gValid z n (by omega)
          obtain ⟨vb, hvb⟩ : ∃ vb, vb = validD z n := ⟨_, rfl⟩
          rw [← hvb] at KV
          have HVB := Lib.hid hvb
          clear k2 hzz hvb
          go_wp2_with fail
          refine (KV wr).mono ?_
          rintro e w2 ⟨rfl, hB⟩
          have HB2 := Lib.hid (HBk.out.trans (hB.mono HBk.out.size))
          clear hB KV d2
          cases vb with
          | false =>
            have HF := Lib.hid (HG3.out.trans (if_pos (List.any_eq_true.2 ⟨z, HM.out, by rw [← HVB.out]; rfl⟩)))
            go_wp2_with fail
            go_ret
            exact ⟨by rw [HF.out]; rfl, HB1.out.trans (HB2.out.mono (by omega))⟩
          | true =>
            go_wp2_with fail
            go_roundw
            case rel => exact ⟨k + 1, by omega, by go_num, fun u hu => by
              rw [HT.out] at hu
              rcases List.mem_append.1 hu with hu | hu
              · exact HZ.out u hu
              · rw [List.mem_singleton.1 hu]; exact HVB.out.symm, HB2.out⟩
            case measure => simp [intOf]; omega
        · obtain rfl : k = xs.length := by omega
          have hdk : decide (xs.length < xs.length) = false := by simp
          have HG4 := Lib.hid (HG3.out.trans (if_neg (by
            intro h
            obtain ⟨z, hz, hb⟩ := List.any_eq_true.1 h
            rw [HZ.out z (by rw [List.take_length]; exact hz)] at hb; cases hb)))
          go_wp2_with fail
          go_roundw
          case rel => exact ⟨j + 1, by omega, by go_num, HG4.out, HBk.out⟩
          case measure => simp [intOf]; omega
    · obtain rfl : j = L.length := by omega
      have hdd : decide (L.length < L.length) = false := by simp
      have HF := Lib.hid (show R = 0 by rw [HG.out, List.drop_length]; rfl)
      go_wp2_with fail
      go_ret
      exact ⟨by rw [HF.out]; rfl, HB1.out.trans (HB.out.mono (by omega))⟩

end Go.Proofs.YtajjgfiojlagmaaGreatDoor

/- The program's check of a file. -/
namespace Go.Proofs.YtajjgfiojlagmaaGreatDoor
open Go.RowKit

theorem behind_cellE {w x : World} {Wr : List Nat} (h : Behind w Wr x) {b o : Nat} {v : Value} (hc : w.cell? ⟨b, o, none⟩ = some v) (hn : b ∉ Wr) : x.cell? ⟨b, o, none⟩ = some v :=
  (World.cell?_of_block (a := ⟨b, o, none⟩) (h.block b (block_lt_of_cell hc) hn)).trans hc
theorem showC_cons (n : Int) (s : List Int) (v : Int) (l : List Int) : showC n s (v :: l) = if v < 1 ∨ n < v then 6 else if v ∈ s then 4 else showC n (s ++ [v]) l := rfl
theorem wtsC_cons (rd : List UInt8 → Bool) (n : Int) (s : List Int) (x : Int × List UInt8) (l : List (Int × List UInt8)) : wtsC rd n s (x :: l) = if validD x.1 n = false then 6 else if x.1 ∈ s then 4 else if rd x.2 = false then 5 else wtsC rd n (s ++ [x.1]) l := rfl

set_option maxHeartbeats 6400000 in
set_option maxRecDepth 100000 in
theorem gCheckF (n : Int) (L : List (List Int)) (sh : List Int) (ws : List (Int × List UInt8)) (aL aS aW : Option Addr) (cL cS cW : Nat) (w : World) (hA : FileAt w.heap.size w aL aS aW L sh ws) (hv : ∀ x ∈ ws, x.2.length ≤ 1100000) (hsl : sh.length ≤ 100000000) (hwl : ws.length ≤ 100000000) (hM0 : ∃ m, w.cell? ⟨1, 0, none⟩ = some (.int .i64 m)) :
    Calls Tryz.prog 14 #[.agg #[.int .i64 n, .slice aL L.length cL, .slice aS sh.length cS, .slice aW ws.length cW]] w fun e w' => e = .returned (.int .i64 (checkD rdD n L sh ws)) ∧ Below w.heap.size w w' := by
  have hmm : ∀ (ty : TypeId) (w : World), (Instr.makeMap ty none).run Tryz.prog w = .ok (.map (some w.heap.size)) (w.alloc (.map #[] 0)) := fun _ _ => rfl
  obtain ⟨R, hR⟩ : ∃ R, R = checkD rdD n L sh ws := ⟨_, rfl⟩
  rw [← hR]
  have HR := Lib.hid (show R = if theoC n L ≠ 0 then theoC n L else if showC n [] sh ≠ 0 then showC n [] sh else wtsC rdD n [] ws from hR)
  have HA := Lib.hid hA
  have HV := Lib.hid hv
  have HM0 := Lib.hid hM0
  clear hR hA hv hM0
  go_enter Tryz.func14, Tryz.ntmps14
  go_upto_region 1 with fail
  refine wp_gen ?_
  intro w1 hw1
  have S1 := Lib.hid (show w1.heap[w.heap.size]? = some (.cells #[.int .i64 n, .slice aL L.length cL, .slice aS sh.length cS, .slice aW ws.length cW] 28 (0, 0)) by rw [hw1]; exact new_one _ _)
  have HB1 := Lib.hid (show Below w.heap.size w w1 by rw [hw1]; exact below_one _ _)
  clear hw1
  have KT := gTCheck n L aL cL w1 ((HA.out.l.below HB1.out (Nat.le_refl _)).mono HB1.out.size)
  have q0 := blk_cell S1.out 0 rfl
  have q1 := blk_cell S1.out 1 rfl
  go_wp2_with fail
  refine KT.mono ?_
  rintro e w2 ⟨rfl, hB⟩
  have HB2 := Lib.hid (HB1.out.trans (hB.mono HB1.out.size))
  have S2 := Lib.hid ((behind_of_below hB).keep S1.out (by simp))
  clear hB KT q0 q1
  by_cases hth : theoC n L ≠ 0
  · have hb1 : (theoC n L != 0) = true := by simp [bne, beq_no hth]
    have HF := Lib.hid (HR.out.trans (if_pos hth))
    generalize theoC n L = tc at *
    clear hth
    go_wp2_with fail
    go_ret
    exact ⟨by rw [HF.out]; rfl, HB2.out⟩
  have htz : theoC n L = 0 := Decidable.not_not.1 hth
  have HR2 := Lib.hid (HR.out.trans (if_neg hth))
  have hn : 0 ≤ n ∧ n ≤ 128 := by
    unfold theoC at htz
    split at htz
    · cases htz
    · omega
  rw [htz]
  clear hth htz HR
  go_upto_region 5 with fail
  refine wp_gen ?_
  intro w3 hw3
  have HB23 : Below w2.heap.size w2 w3 := by rw [hw3]; exact below_one _ _
  have M3 := Lib.hid (show SetIs w3 w2.heap.size [] from ⟨#[], 0, by rw [hw3]; exact new_one _ _, rfl, by simp⟩)
  have hs3 : w3.heap.size = w2.heap.size + 1 := by rw [hw3]; simp
  have HB3 := Lib.hid (HB2.out.trans (HB23.mono HB2.out.size))
  have S3 := Lib.hid ((behind_of_below HB23).keep S2.out (by simp))
  clear hw3 HB23
  have hws2 := lt_of_heap S2.out
  have q2 := blk_cell S3.out 2 rfl
  go_wp2_with fail
  go_loopw [22] (fun t22 wr => ∃ j : Nat, j ≤ sh.length ∧ t22 = .int .i64 j ∧ Hid (showC n [] sh = showC n (sh.take j) (sh.drop j)) ∧ Hid (SetIs wr w2.heap.size (sh.take j)) ∧ Hid (Behind w3 [w2.heap.size] wr)) (fun t22 _ => sh.length - (intOf t22).toNat)
  case atStart => exact ⟨0, Nat.zero_le _, rfl, rfl, M3.out, Behind.refl _ _⟩
  case round =>
    obtain ⟨j, hj, rfl, HG, HS, HB⟩ := hrel
    have hwr := HB.out.size
    by_cases hlt : j < sh.length
    · have hdd : decide (j < sh.length) = true := decide_eq_true hlt
      have hxx : sh[j]? = some (sh.getD j 0) := by simp [List.getD, hlt]
      have hdr : sh.drop j = sh.getD j 0 :: sh.drop (j + 1) := by rw [List.drop_eq_getElem_cons hlt]; simp [List.getD, hlt]
      obtain ⟨b1, o1, hb1, e1, k1⟩ := HA.out.s j _ (ints_get _ _ _ hxx)
      subst e1
      have d1 := behind_cellE HB.out (below_cell HB3.out hb1 k1) (by simp; omega)
      have HT := Lib.hid (take_one hxx)
      have HG2 := Lib.hid (show showC n [] sh = _ from HG.out.trans (by rw [hdr, showC_cons]))
      have q0 := blk_cell (HB.out.keep S3.out (by simp; omega)) 0 rfl
      generalize sh.getD j 0 = x at *
      clear k1 hxx hdr HG
      by_cases h1 : x < 1
      · have hd1 : decide (x < 1) = true := decide_eq_true h1
        have hF := HG2.out.trans (if_pos (.inl h1))
        have HF := Lib.hid (HR2.out.trans ((if_pos (by rw [hF]; decide)).trans hF))
        clear hF
        go_wp2_with fail
        go_ret
        exact ⟨by rw [HF.out]; rfl, HB3.out.trans (HB.out.below_of (fun g hg => by simp at hg; have := HB2.out.size; omega) HB3.out.size)⟩
      have hd1 : decide (x < 1) = false := decide_eq_false h1
      by_cases h2 : n < x
      · have hd2 : decide (n < x) = true := decide_eq_true h2
        have hd3 : decide (x > n) = true := hd2
        have hF := HG2.out.trans (if_pos (.inr h2))
        have HF := Lib.hid (HR2.out.trans ((if_pos (by rw [hF]; decide)).trans hF))
        clear hF
        go_wp2_with fail
        go_ret
        exact ⟨by rw [HF.out]; rfl, HB3.out.trans (HB.out.below_of (fun g hg => by simp at hg; have := HB2.out.size; omega) HB3.out.size)⟩
      have hd2 : decide (n < x) = false := decide_eq_false h2
      have hd3 : decide (x > n) = false := hd2
      have HG3 := Lib.hid (HG2.out.trans (if_neg (by omega)))
      have hx64 : -9223372036854775808 ≤ x ∧ x ≤ 9223372036854775807 := by omega
      have HL := Lib.hid (set_look HS.out x hx64)
      by_cases hm : x ∈ sh.take j
      · rw [decide_eq_true hm] at HL
        have hF := HG3.out.trans (if_pos hm)
        have HF := Lib.hid (HR2.out.trans ((if_pos (by rw [hF]; decide)).trans hF))
        clear hF hm
        go_wp2_with (at_lookup; refine wpList_look_run _ rfl _ _ _ rfl _ _ _ rfl rfl HL.out ?_)
        go_wp2_with fail
        go_ret
        exact ⟨by rw [HF.out]; rfl, HB3.out.trans (HB.out.below_of (fun g hg => by simp at hg; have := HB2.out.size; omega) HB3.out.size)⟩
      · rw [decide_eq_false hm] at HL
        have HG4 := Lib.hid (HG3.out.trans (if_neg hm))
        obtain ⟨wm, hrun, hset, hbm⟩ := set_put HS.out x hx64 hm
        have HRN := Lib.hid hrun
        have HST := Lib.hid hset
        have HBm := Lib.hid (HB.out.trans hbm (fun g hg => .inl hg))
        clear hrun hset hbm hm HG2 HG3
        go_wp2_with (first | (at_lookup; refine wpList_look_run _ rfl _ _ _ rfl _ _ _ rfl rfl HL.out ?_) | (at_mapUpdate; refine wpList_put_run _ wm rfl _ _ _ _ rfl _ _ _ rfl rfl rfl HRN.out ?_))
        go_wp2_with fail
        go_roundw
        case rel => exact ⟨j + 1, by omega, by go_num, by rw [HT.out]; exact HG4.out, by rw [HT.out]; exact HST.out, HBm.out⟩
        case measure => simp [intOf]; omega
    · obtain rfl : j = sh.length := by omega
      have hdd : decide (sh.length < sh.length) = false := by simp
      have hsz0 : showC n [] sh = 0 := by rw [HG.out, List.drop_length]; rfl
      have HR3 := Lib.hid (HR2.out.trans (if_neg (by rw [hsz0]; simp)))
      have HBs := Lib.hid (HB3.out.trans (HB.out.below_of (fun g hg => by simp at hg; have := HB2.out.size; omega) HB3.out.size))
      have S4 := Lib.hid (HB.out.keep S3.out (by simp; omega))
      obtain ⟨w4, hw4⟩ : ∃ w4, w4 = wr := ⟨_, rfl⟩
      subst hw4
      clear hsz0 HG HS HB HR2 M3 S3 q2
      go_upto_region 15 with fail
      refine wp_gen ?_
      intro w5 hw5
      have HB45 : Below w4.heap.size w4 w5 := by rw [hw5]; exact below_one _ _
      have M5 := Lib.hid (show SetIs w5 w4.heap.size [] from ⟨#[], 0, by rw [hw5]; exact new_one _ _, rfl, by simp⟩)
      have hs5 : w5.heap.size = w4.heap.size + 1 := by rw [hw5]; simp
      have HB5 := Lib.hid (HBs.out.trans (HB45.mono HBs.out.size))
      have S5 := Lib.hid ((behind_of_below HB45).keep S4.out (by simp))
      clear hw5 HB45
      have hws4 := lt_of_heap S4.out
      have q3 := blk_cell S5.out 3 rfl
      go_wp2_with fail
      go_loopw [47] (fun t47 wr => ∃ j : Nat, j ≤ ws.length ∧ t47 = .int .i64 j ∧ Hid (wtsC rdD n [] ws = wtsC rdD n ((ws.take j).map (·.1)) (ws.drop j)) ∧ Hid (SetIs wr w4.heap.size ((ws.take j).map (·.1))) ∧ Hid (Behind w5 [w4.heap.size] wr)) (fun t47 _ => ws.length - (intOf t47).toNat)
      case atStart => exact ⟨0, Nat.zero_le _, rfl, rfl, M5.out, Behind.refl _ _⟩
      case round =>
        obtain ⟨j, hj, rfl, HG, HS, HB⟩ := hrel
        have hwr := HB.out.size
        by_cases hlt : j < ws.length
        · have hdd : decide (j < ws.length) = true := decide_eq_true hlt
          have hxx : ws[j]? = some (ws.getD j (0, [])) := by simp [List.getD, hlt]
          have hdr : ws.drop j = ws.getD j (0, []) :: ws.drop (j + 1) := by rw [List.drop_eq_getElem_cons hlt]; simp [List.getD, hlt]
          obtain ⟨b1, o1, hb1, e1, k1⟩ := HA.out.w _ _ (wts_get _ _ _ hxx).1
          subst e1
          obtain ⟨_, _, _, e2, k2⟩ := HA.out.w _ _ (wts_get _ _ _ hxx).2
          cases e2
          rw [Nat.mul_comm] at k1
          rw [Nat.mul_comm, ← Nat.add_assoc] at k2
          have d1 := behind_cellE HB.out (below_cell HB5.out hb1 k1) (by simp; omega)
          have d2 := behind_cellE HB.out (below_cell HB5.out hb1 k2) (by simp; omega)
          have HT := Lib.hid (take_one hxx)
          have HG2 := Lib.hid (show wtsC rdD n [] ws = _ from HG.out.trans (by rw [hdr, wtsC_cons]))
          have hvl := HV.out _ (List.mem_of_getElem? hxx)
          generalize ws.getD j (0, []) = x at *
          obtain ⟨z, v⟩ := x
          clear k1 k2 hxx hdr HG
          simp only at d1 d2 hvl HG2
          have KR := gRatRead w ⟨v.toArray⟩ (by rw [ba_size]; exact hvl) HM0.out
          have hrd : rdD v = (ratRead ⟨v.toArray⟩).isSome := rfl
          rw [hrd] at HG2
          clear hrd
          generalize (ratRead ⟨v.toArray⟩).isSome = ok at *
          generalize ((ratRead ⟨v.toArray⟩).getD (0, 0)) = q at *
          obtain ⟨u1, u2, hxr⟩ : ∃ u1 u2, ratV q = .agg #[.string u1, .string u2] := ⟨_, _, rfl⟩
          rw [hxr] at KR
          clear hxr
          generalize (⟨v.toArray⟩ : ByteArray) = y at *
          go_upto_region 18 with fail
          refine wp_gen ?_
          intro w6 hw6
          have T6 := Lib.hid (show w6.heap[wr.heap.size]? = some (.cells #[.int .i64 z, .string y] 48 (0, 0)) by rw [hw6]; exact new_one _ _)
          have hb6 : Below wr.heap.size wr w6 := by rw [hw6]; exact below_one _ _
          have HBq := Lib.hid (HB.out.trans (behind_of_below hb6) (by simp))
          have HS6 := Lib.hid (HS.out.keep (behind_of_below hb6) (by simp))
          clear hw6 hb6 d1 d2
          have t61 := blk_cell T6.out 1 rfl
          have KR6 := KR w6 (HB5.out.trans (HBq.out.below_of (fun g hg => by simp at hg; have := HBs.out.size; omega) HB5.out.size))
          go_wp2_with fail
          refine KR6.mono ?_
          rintro e w7 ⟨rfl, hB⟩
          have T7 := Lib.hid ((behind_of_below hB).keep T6.out (by simp))
          have HBr := Lib.hid (HBq.out.trans (behind_of_below hB) (by simp))
          have HS7 := Lib.hid (HS6.out.keep (behind_of_below hB) (by simp))
          clear hB KR KR6 t61 T6 HS6 HBq
          go_upto_region 19 with fail
          refine wp_gen ?_
          intro w8 hw8
          have hb8 : Below w7.heap.size w7 w8 := by rw [hw8]; exact below_one _ _
          have T8 := Lib.hid ((behind_of_below hb8).keep T7.out (by simp))
          have HB8 := Lib.hid (HBr.out.trans (behind_of_below hb8) (by simp))
          have HS8 := Lib.hid (HS7.out.keep (behind_of_below hb8) (by simp))
          clear hw8 hb8 T7 HBr HS7
          have q0 := blk_cell (HB8.out.keep S5.out (by simp; omega)) 0 rfl
          have t80 := blk_cell T8.out 0 rfl
          have KV := gValid z n hn.2
          obtain ⟨vb, hvb⟩ : ∃ vb, vb = validD z n := ⟨_, rfl⟩
          rw [← hvb] at KV
          have HVB := Lib.hid hvb
          clear hvb
          go_wp2_with fail
          refine (KV w8).mono ?_
          rintro e w9 ⟨rfl, hB⟩
          have T9 := Lib.hid ((behind_of_below hB).keep T8.out (by simp))
          have HB9 := Lib.hid (HB8.out.trans (behind_of_below hB) (by simp))
          have HS9 := Lib.hid (HS8.out.keep (behind_of_below hB) (by simp))
          have HBF := Lib.hid (HB5.out.trans (HB9.out.below_of (fun g hg => by simp at hg; have := HBs.out.size; omega) HB5.out.size))
          clear hB KV q0 t80 T8 HB8 HS8
          have t80 := blk_cell T9.out 0 rfl
          cases vb with
          | false =>
            have hF := HG2.out.trans (if_pos HVB.out.symm)
            have HF := Lib.hid (HR3.out.trans hF)
            clear hF
            go_wp2_with fail
            go_ret
            exact ⟨by rw [HF.out]; rfl, HBF.out⟩
          | true =>
          have HG3 := Lib.hid (HG2.out.trans (if_neg (by rw [← HVB.out]; simp)))
          have hin := validD_in hn.2 HVB.out.symm
          have hx64 : -9223372036854775808 ≤ z ∧ z ≤ 9223372036854775807 := by omega
          have HL := Lib.hid (set_look HS9.out z hx64)
          by_cases hm : z ∈ (ws.take j).map (·.1)
          · rw [decide_eq_true hm] at HL
            have hF := HG3.out.trans (if_pos hm)
            have HF := Lib.hid (HR3.out.trans hF)
            clear hF hm
            go_wp2_with (at_lookup; refine wpList_look_run _ rfl _ _ _ rfl _ _ _ rfl rfl HL.out ?_)
            go_wp2_with fail
            go_ret
            exact ⟨by rw [HF.out]; rfl, HBF.out⟩
          rw [decide_eq_false hm] at HL
          have HG4 := Lib.hid (HG3.out.trans (if_neg hm))
          cases ok with
          | false =>
            have hF := HG4.out.trans (if_pos rfl)
            have HF := Lib.hid (HR3.out.trans hF)
            clear hF hm
            go_wp2_with (at_lookup; refine wpList_look_run _ rfl _ _ _ rfl _ _ _ rfl rfl HL.out ?_)
            go_wp2_with fail
            go_ret
            exact ⟨by rw [HF.out]; rfl, HBF.out⟩
          | true =>
          have HG5 := Lib.hid (HG4.out.trans (if_neg (by simp)))
          obtain ⟨wm, hrun, hset, hbm⟩ := set_put HS9.out z hx64 hm
          have HRN := Lib.hid hrun
          have HST := Lib.hid hset
          have HBm := Lib.hid (HB9.out.trans hbm (fun g hg => .inl hg))
          clear hrun hset hbm hm HG2 HG3 HG4
          go_wp2_with (first | (at_lookup; refine wpList_look_run _ rfl _ _ _ rfl _ _ _ rfl rfl HL.out ?_) | (at_mapUpdate; refine wpList_put_run _ wm rfl _ _ _ _ rfl _ _ _ rfl rfl rfl HRN.out ?_))
          go_wp2_with fail
          go_roundw
          case rel => exact ⟨j + 1, by omega, by go_num, by rw [HT.out, List.map_append]; exact HG5.out, by rw [HT.out, List.map_append]; exact HST.out, HBm.out⟩
          case measure => simp [intOf]; omega
        · obtain rfl : j = ws.length := by omega
          have hdd : decide (ws.length < ws.length) = false := by simp
          have hF : wtsC rdD n [] ws = 0 := by rw [HG.out, List.drop_length]; rfl
          have HF := Lib.hid (HR3.out.trans hF)
          clear hF
          go_wp2_with fail
          go_ret
          exact ⟨by rw [HF.out]; rfl, HB5.out.trans (HB.out.below_of (fun g hg => by simp at hg; have := HBs.out.size; omega) HB5.out.size)⟩
end Go.Proofs.YtajjgfiojlagmaaGreatDoor
