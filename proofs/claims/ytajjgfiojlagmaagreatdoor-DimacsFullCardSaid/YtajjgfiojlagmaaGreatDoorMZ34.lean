/- Texts of this claim, joined: D18, D19, D20, D21, X3. -/
import Derived.Test.YtajjgfiojlagmaaGreatDoorMZ27
import Derived.Test.YtajjgfiojlagmaaGreatDoorMZ33
import Derived.Deep.DeepCutAuto
import Derived.Test.YtajjgfiojlagmaaGreatDoorMZ32
import Derived.Test.YtajjgfiojlagmaaGreatDoorMZ30

/- The reference reads a line by its kind first: the same. Plain; and its two searches. -/
namespace Go.Proofs.YtajjgfiojlagmaaGreatDoor
open Go.RowKit

section
variable {st : DS} {w : List (List UInt8)}
end
end Go.Proofs.YtajjgfiojlagmaaGreatDoor

/- The reference's in and heavy. -/
namespace Go.Proofs.YtajjgfiojlagmaaGreatDoor
open Go.RowKit

set_option maxHeartbeats 3200000 in
set_option maxRecDepth 100000 in
theorem xIn (xs : List Int) (x : Int) (N : Nat) (a : Option Addr) (c : Nat) (hl : xs.length ≤ 100000000) (w : World) (hA : AtN N w a (ints xs)) (hw : N ≤ w.heap.size) :
    Calls Tryz.prog 34 #[.slice a xs.length c, .int .i64 x] w fun e w' => e = .returned (.bool (decide (x ∈ xs))) ∧ Below w.heap.size w w' := by
  have HA := Lib.hid hA
  obtain ⟨R, hR⟩ : ∃ R, R = decide (x ∈ xs) := ⟨_, rfl⟩
  rw [← hR]
  have HR := Lib.hid hR
  clear hA hR
  go_enter Tryz.func34, Tryz.ntmps34
  go_wp2_with fail
  go_loopw [5] (fun t5 wr => ∃ j : Nat, j ≤ xs.length ∧ t5 = .int .i64 j ∧ Hid (∀ y ∈ xs.take j, y ≠ x) ∧ Hid (Below w.heap.size w wr)) (fun t5 _ => xs.length - (intOf t5).toNat)
  case atStart => exact ⟨0, Nat.zero_le _, rfl, by simp [Hid], Below.refl _ _⟩
  case round =>
    obtain ⟨j, hj, rfl, HZ, HB⟩ := hrel
    by_cases hlt : j < xs.length
    · have hdd : decide (j < xs.length) = true := by simpa using hlt
      have hyy : xs[j]? = some (xs.getD j 0) := by simp [List.getD, hlt]
      have HT := Lib.hid (take_one hyy)
      have HM := Lib.hid (List.mem_of_getElem? hyy)
      obtain ⟨b1, o1, hb1, e1, k1⟩ := HA.out _ _ (ints_get _ _ _ hyy)
      subst e1
      have d1 := below_cell HB.out (show b1 < w.heap.size by omega) k1
      generalize xs.getD j 0 = y at *
      clear k1 hyy
      by_cases hxy : y = x
      · have HR2 := Lib.hid (show R = true by rw [HR.out]; exact decide_eq_true (hxy ▸ HM.out))
        have hq : (y == x) = true := by simp [hxy]
        clear hxy
        go_wp2_with fail
        go_ret
        exact ⟨by rw [HR2.out]; rfl, HB.out⟩
      · have hq : (y == x) = false := beq_no hxy
        have HN := Lib.hid hxy
        clear hxy
        go_wp2_with fail
        go_roundw
        case rel => exact ⟨j + 1, by omega, by go_num, fun z hz => by
          rw [HT.out] at hz
          rcases List.mem_append.1 hz with hz | hz
          · exact HZ.out z hz
          · rw [List.mem_singleton.1 hz]; exact HN.out, HB.out⟩
        case measure => simp [intOf]; omega
    · obtain rfl : j = xs.length := by omega
      have hdd : decide (xs.length < xs.length) = false := by simp
      have HR2 := Lib.hid (show R = false by rw [HR.out]; exact decide_eq_false fun h => HZ.out x (by rw [List.take_length]; exact h) rfl)
      go_wp2_with fail
      go_ret
      exact ⟨by rw [HR2.out]; rfl, HB.out⟩

set_option maxHeartbeats 3200000 in
set_option maxRecDepth 100000 in
theorem xHeavy (ws : List (Int × List UInt8)) (x : Int) (N : Nat) (a : Option Addr) (c : Nat) (hl : ws.length ≤ 100000000) (w : World) (hA : AtN N w a (wts ws)) (hw : N ≤ w.heap.size) :
    Calls Tryz.prog 36 #[.slice a ws.length c, .int .i64 x] w fun e w' => e = .returned (.bool (decide (x ∈ ws.map (·.1)))) ∧ Below w.heap.size w w' := by
  have HA := Lib.hid hA
  obtain ⟨R, hR⟩ : ∃ R, R = decide (x ∈ ws.map (·.1)) := ⟨_, rfl⟩
  rw [← hR]
  have HR := Lib.hid hR
  clear hA hR
  go_enter Tryz.func36, Tryz.ntmps36
  go_wp2_with fail
  go_loopw [5] (fun t5 wr => ∃ j : Nat, j ≤ ws.length ∧ t5 = .int .i64 j ∧ Hid (∀ y ∈ ws.take j, y.1 ≠ x) ∧ Hid (Below w.heap.size w wr)) (fun t5 _ => ws.length - (intOf t5).toNat)
  case atStart => exact ⟨0, Nat.zero_le _, rfl, by simp [Hid], Below.refl _ _⟩
  case round =>
    obtain ⟨j, hj, rfl, HZ, HB⟩ := hrel
    by_cases hlt : j < ws.length
    · have hdd : decide (j < ws.length) = true := by simpa using hlt
      have hyy : ws[j]? = some (ws.getD j (0, [])) := by simp [List.getD, hlt]
      have HT := Lib.hid (take_one hyy)
      have HM := Lib.hid (List.mem_of_getElem? hyy)
      obtain ⟨b1, o1, hb1, e1, k1⟩ := HA.out _ _ (wts_get _ _ _ hyy).1
      subst e1
      rw [Nat.mul_comm] at k1
      have d1 := below_cell HB.out (show b1 < w.heap.size by omega) k1
      generalize ws.getD j (0, []) = y at *
      obtain ⟨y, s⟩ := y
      simp only at d1
      clear k1 hyy
      by_cases hxy : y = x
      · have HR2 := Lib.hid (show R = true by rw [HR.out]; exact decide_eq_true (List.mem_map.2 ⟨_, HM.out, hxy⟩))
        have hq : (y == x) = true := by simp [hxy]
        clear hxy
        go_wp2_with fail
        go_ret
        exact ⟨by rw [HR2.out]; rfl, HB.out⟩
      · have hq : (y == x) = false := beq_no hxy
        have HN := Lib.hid hxy
        clear hxy
        go_wp2_with fail
        go_roundw
        case rel => exact ⟨j + 1, by omega, by go_num, fun z hz => by
          rw [HT.out] at hz
          rcases List.mem_append.1 hz with hz | hz
          · exact HZ.out z hz
          · rw [List.mem_singleton.1 hz]; exact HN.out, HB.out⟩
        case measure => simp [intOf]; omega
    · obtain rfl : j = ws.length := by omega
      have hdd : decide (ws.length < ws.length) = false := by simp
      have hR2 : R = false := by
        rw [HR.out]
        refine decide_eq_false fun h => ?_
        obtain ⟨y, hy, e⟩ := List.mem_map.1 h
        exact HZ.out y (by rw [List.take_length]; exact hy) e
      have HR2 := Lib.hid hR2
      clear hR2
      go_wp2_with fail
      go_ret
      exact ⟨by rw [HR2.out]; rfl, HB.out⟩
end Go.Proofs.YtajjgfiojlagmaaGreatDoor

/- The reference's kind. -/
namespace Go.Proofs.YtajjgfiojlagmaaGreatDoor
open Go.RowKit

section
variable {rd : List UInt8 → Bool} {r : List (List UInt8)}
end
end Go.Proofs.YtajjgfiojlagmaaGreatDoor

/- The reference's kind, of a comment. -/
namespace Go.Proofs.YtajjgfiojlagmaaGreatDoor
open Go.RowKit Num

end Go.Proofs.YtajjgfiojlagmaaGreatDoor

/- The reference's check of a file. -/
namespace Go.Proofs.YtajjgfiojlagmaaGreatDoor
open Go.RowKit

theorem take_wts {ws : List (Int × List UInt8)} {N : Nat} {w : World} {a : Option Addr} (h : AtN N w a (wts ws)) (j : Nat) : AtN N w a (wts (ws.take j)) := fun i v hi => h i v (by
  have e : wts ws = wts (ws.take j) ++ wts (ws.drop j) := by unfold wts; rw [← List.flatMap_append, List.take_append_drop]
  rw [e, List.getElem?_append_left (List.getElem?_eq_some_iff.1 hi).1]; exact hi)
theorem take_ints {xs : List Int} {N : Nat} {w : World} {a : Option Addr} (h : AtN N w a (ints xs)) (j : Nat) : AtN N w a (ints (xs.take j)) := fun i v hi => h i v (by
  have e : ints xs = ints (xs.take j) ++ ints (xs.drop j) := by unfold ints; rw [← List.map_append, List.take_append_drop]
  rw [e, List.getElem?_append_left (List.getElem?_eq_some_iff.1 hi).1]; exact hi)

set_option maxHeartbeats 6400000 in
set_option maxRecDepth 100000 in
theorem xCheckF (n : Int) (L : List (List Int)) (sh : List Int) (ws : List (Int × List UInt8)) (aL aS aW : Option Addr) (cL cS cW : Nat) (w : World) (hA : FileAt w.heap.size w aL aS aW L sh ws) (hv : ∀ x ∈ ws, x.2.length ≤ 1000000) (hsl : sh.length ≤ 100000000) (hwl : ws.length ≤ 100000000) (hcS : sh.length ≤ cS) (hcW : ws.length ≤ cW) :
    Calls Tryz.prog 17 #[.agg #[.int .i64 n, .slice aL L.length cL, .slice aS sh.length cS, .slice aW ws.length cW]] w fun e w' => e = .returned (.int .i64 (checkD rdD n L sh ws)) ∧ Below w.heap.size w w' := by
  obtain ⟨R, hR⟩ : ∃ R, R = checkD rdD n L sh ws := ⟨_, rfl⟩
  rw [← hR]
  have HR := Lib.hid (show R = if theoC n L ≠ 0 then theoC n L else if showC n [] sh ≠ 0 then showC n [] sh else wtsC rdD n [] ws from hR)
  have HA := Lib.hid hA
  have HV := Lib.hid hv
  clear hR hA hv
  go_enter Tryz.func17, Tryz.ntmps17
  go_upto_region 1 with fail
  refine wp_gen ?_
  intro w1 hw1
  have S1 := Lib.hid (show w1.heap[w.heap.size]? = some (.cells #[.int .i64 n, .slice aL L.length cL, .slice aS sh.length cS, .slice aW ws.length cW] 37 (0, 0)) by rw [hw1]; exact new_one _ _)
  have HB1 := Lib.hid (show Below w.heap.size w w1 by rw [hw1]; exact below_one _ _)
  clear hw1
  have KT := xTCheck n L aL cL w1 ((HA.out.l.below HB1.out (Nat.le_refl _)).mono HB1.out.size)
  have q0 := blk_cell S1.out 0 rfl
  have q1 := blk_cell S1.out 1 rfl
  go_wp2_with fail
  refine KT.mono ?_
  rintro e w2 ⟨rfl, hB⟩
  have HB2 := Lib.hid (HB1.out.trans (hB.mono HB1.out.size))
  have S2 := Lib.hid ((behind_of_below hB).keep S1.out (by simp))
  clear hB KT q0 q1
  by_cases hth : theoC n L ≠ 0
  · have hb1 : (theoC n L != 0) = true := by simp [bne, beq_no hth]
    have HF := Lib.hid (HR.out.trans (if_pos hth))
    generalize theoC n L = tc at *
    clear hth
    go_wp2_with fail
    go_ret
    exact ⟨by rw [HF.out]; rfl, HB2.out⟩
  have htz : theoC n L = 0 := Decidable.not_not.1 hth
  have HR2 := Lib.hid (HR.out.trans (if_neg hth))
  have hn : 0 ≤ n ∧ n ≤ 128 := by
    unfold theoC at htz
    split at htz
    · cases htz
    · omega
  rw [htz]
  clear hth htz HR
  have hws2 := lt_of_heap S2.out
  have hs2 := HB2.out.size
  go_wp2_with fail
  go_loopw [4] (fun t4 wr => ∃ j : Nat, j ≤ sh.length ∧ t4 = .int .i64 j ∧ Hid (showC n [] sh = showC n (sh.take j) (sh.drop j)) ∧ Hid (Below w2.heap.size w2 wr)) (fun t4 _ => sh.length - (intOf t4).toNat)
  case atStart => exact ⟨0, Nat.zero_le _, rfl, rfl, Below.refl _ _⟩
  case round =>
    obtain ⟨j, hj, rfl, HG, HB⟩ := hrel
    have SK := Lib.hid ((behind_of_below HB.out).keep S2.out (by simp))
    have q2 := blk_cell SK.out 2 rfl
    by_cases hlt : j < sh.length
    · have hdd : decide (j < sh.length) = true := decide_eq_true hlt
      have hxx : sh[j]? = some (sh.getD j 0) := by simp [List.getD, hlt]
      have hdr : sh.drop j = sh.getD j 0 :: sh.drop (j + 1) := by rw [List.drop_eq_getElem_cons hlt]; simp [List.getD, hlt]
      obtain ⟨b1, o1, hb1, e1, k1⟩ := HA.out.s j _ (ints_get _ _ _ hxx)
      subst e1
      have HBw := Lib.hid (HB2.out.trans (HB.out.mono hs2))
      have D1 := Lib.hid (below_cell HBw.out hb1 k1)
      have HT := Lib.hid (take_one hxx)
      have HG2 := Lib.hid (show showC n [] sh = _ from HG.out.trans (by rw [hdr, showC_cons]))
      have KI := Lib.hid (fun (x : Int) (y : World) (hy : Below w.heap.size w y) => xIn (sh.take j) x w.heap.size (some ⟨b1, o1, none⟩) cS (by rw [List.length_take]; omega) y ((take_ints HA.out.s j).below hy (Nat.le_refl _)) hy.size)
      rw [show (sh.take j).length = j by rw [List.length_take]; omega] at KI
      generalize sh.getD j 0 = x at *
      clear k1 hxx hdr HG
      have hjc : j ≤ cS := by omega
      obtain ⟨vb, hvb⟩ : ∃ vb, vb = decide (x < 1 ∨ n < x) := ⟨_, rfl⟩
      have HVB := Lib.hid hvb
      obtain ⟨b3, hb3⟩ : ∃ b3, b3 = decide (x < 1) := ⟨_, rfl⟩
      obtain ⟨b4, hb4⟩ : ∃ b4, b4 = decide (n < x) := ⟨_, rfl⟩
      have hd1 : decide (x < 1) = b3 := hb3.symm
      have hd2 : decide (n < x) = b4 := hb4.symm
      have hd3 : decide (x > n) = b4 := hb4.symm
      have H34 := Lib.hid (show vb = (b3 || b4) by rw [hvb, hb3, hb4]; by_cases h1 : x < 1 <;> by_cases h2 : n < x <;> simp [h1, h2])
      clear hvb hb3 hb4
      cases b3 with
      | true =>
        have hF := HG2.out.trans (if_pos (of_decide_eq_true (HVB.out.symm.trans H34.out)))
        have HF := Lib.hid (HR2.out.trans ((if_pos (by rw [hF]; decide)).trans hF))
        clear hF
        go_wp2_with fail
        refine wp_gameM [0, 0, 0, 0, 0, 0, 0, 0, 0, 0, 0, 0, 0, 0, 0, 0, 0] [] (keptB [] wr) (fin_keptB _) (has_keptB _) (by kernel_rfl) (by kernel_rfl) ?_
        refine lexM_split 17 (by decide) (by rfl) ?_
        simp only [List.take_succ_cons, List.take_zero, List.drop_succ_cons, List.drop_zero]
        refine lex_quietE 17 (by kernel_rfl) (by rfl) ?_
        apply Exists.intro
        refine ⟨fun z hz1 => ?_, ?_⟩
        · have gz := hz1.keep SK.out (by simp)
          have g0 := blk_cellp gz 0 rfl
          have g2 := blk_cellp gz 2 rfl
          have g4 := behind_cellXp hz1 D1.out (by simp)
          clear gz
          clear hz1
          simp only [List.take_succ_cons, List.take_zero]
          unfold Cx
          repeat (go_big_quiet_step (fail))
          exact wpQuiet_nil rfl
        simp only [List.drop_succ_cons, List.drop_zero]
        refine lex_nil ?_
        intro x2 hx2 _
        have HBx := Lib.hid (HBw.out.trans (hx2.below.mono HBw.out.size))
        clear hx2 q2
        go_wp2_with fail
        go_ret
        exact ⟨by rw [HF.out]; rfl, HBx.out⟩
      | false =>
      cases b4 with
      | true =>
        have hF := HG2.out.trans (if_pos (of_decide_eq_true (HVB.out.symm.trans H34.out)))
        have HF := Lib.hid (HR2.out.trans ((if_pos (by rw [hF]; decide)).trans hF))
        clear hF
        go_wp2_with fail
        refine wp_gameM [0, 0, 0, 0, 0, 0, 0, 0, 0, 0, 0, 0, 0, 0, 0, 0, 0] [] (keptB [] wr) (fin_keptB _) (has_keptB _) (by kernel_rfl) (by kernel_rfl) ?_
        refine lexM_split 17 (by decide) (by rfl) ?_
        simp only [List.take_succ_cons, List.take_zero, List.drop_succ_cons, List.drop_zero]
        refine lex_quietE 17 (by kernel_rfl) (by rfl) ?_
        apply Exists.intro
        refine ⟨fun z hz1 => ?_, ?_⟩
        · have gz := hz1.keep SK.out (by simp)
          have g0 := blk_cellp gz 0 rfl
          have g2 := blk_cellp gz 2 rfl
          have g4 := behind_cellXp hz1 D1.out (by simp)
          clear gz
          clear hz1
          simp only [List.take_succ_cons, List.take_zero]
          unfold Cx
          repeat (go_big_quiet_step (fail))
          exact wpQuiet_nil rfl
        simp only [List.drop_succ_cons, List.drop_zero]
        refine lex_nil ?_
        intro x2 hx2 _
        have HBx := Lib.hid (HBw.out.trans (hx2.below.mono HBw.out.size))
        clear hx2 q2
        go_wp2_with fail
        go_ret
        exact ⟨by rw [HF.out]; rfl, HBx.out⟩
      | false =>
      have HG3 := Lib.hid (HG2.out.trans (if_neg (of_decide_eq_false (HVB.out.symm.trans H34.out))))
      clear HG2 HVB H34
      go_wp2_with fail
      refine wp_gameM [0, 0, 0, 0, 0, 0, 0, 0, 0, 0, 0, 0, 0, 0, 0, 0, 0] [] (keptB [] wr) (fin_keptB _) (has_keptB _) (by kernel_rfl) (by kernel_rfl) ?_
      refine lexM_split 17 (by decide) (by rfl) ?_
      simp only [List.take_succ_cons, List.take_zero, List.drop_succ_cons, List.drop_zero]
      refine lex_quietE 17 (by kernel_rfl) (by rfl) ?_
      apply Exists.intro
      refine ⟨fun z hz1 => ?_, ?_⟩
      · have gz := hz1.keep SK.out (by simp)
        have g0 := blk_cellp gz 0 rfl
        have g2 := blk_cellp gz 2 rfl
        have g4 := behind_cellXp hz1 D1.out (by simp)
        clear gz
        clear hz1
        simp only [List.take_succ_cons, List.take_zero]
        unfold Cx
        repeat (go_big_quiet_step (fail))
        exact wpQuiet_nil rfl
      simp only [List.drop_succ_cons, List.drop_zero]
      refine lex_nil ?_
      intro x2 hx2 _
      obtain ⟨wy, hwy⟩ : ∃ wy, wy = x2 := ⟨_, rfl⟩
      subst hwy
      have HBx := Lib.hid (HBw.out.trans (hx2.below.mono HBw.out.size))
      have HBy := Lib.hid (HB.out.trans (hx2.below.mono HB.out.size))
      have SY := Lib.hid (hx2.keep SK.out (by simp))
      have DY := Lib.hid (behind_cellX hx2 D1.out (by simp))
      clear hx2 q2 hd1 hd2 hd3
      obtain ⟨vi, hvi⟩ : ∃ vi, vi = decide (x ∈ sh.take j) := ⟨_, rfl⟩
      have HVI := Lib.hid hvi
      have KI2 := Lib.hid (fun (y : World) (hy : Below w.heap.size w y) => KI.out x y hy)
      rw [← hvi] at KI2
      clear hvi KI
      go_wp2_with fail
      refine wp_gameM [0, 0, 0, 0, 0, 0, 0, 0, 0, 6] [] (keptB [] wy) (fin_keptB _) (has_keptB _) (by kernel_rfl) (by kernel_rfl) ?_
      refine lexM_split 9 (by decide) (by rfl) ?_
      simp only [List.take_succ_cons, List.take_zero, List.drop_succ_cons, List.drop_zero]
      refine lex_quietE 9 (by kernel_rfl) (by rfl) ?_
      apply Exists.intro
      refine ⟨fun z hz1 => ?_, ?_⟩
      · have gz := hz1.keep SY.out (by simp)
        have g2 := blk_cellp gz 2 rfl
        have g4 := behind_cellXp hz1 DY.out (by simp)
        clear gz
        clear hz1
        simp only [List.take_succ_cons, List.take_zero]
        unfold Cx
        repeat (go_big_quiet_step (fail))
        exact wpQuiet_nil rfl
      simp only [List.drop_succ_cons, List.drop_zero]
      refine lex_nil ?_
      refine lexM_manyF (fun v _ => v = .bool vi) (by rfl) (by rfl) (by simp) (fin_keptB (Wr := []) wy) (fun g o h => keptB_wr (Wr := []) (w := wy) h) (fun x => by go_simp) (fun x hx hBx => val_call (KI2.out x (HBx.out.trans (hx.below.mono HBx.out.size)))) (fun u1 B1 hR1 hf1 hN1 => ?_)
      subst hR1
      have HF1 := Lib.hid (Fin.over (fin_keptB (Wr := []) wy) hf1)
      have HW1 := Lib.hid (over_wr (w := wy) (Wr := []) (fun g o h => keptB_wr (Wr := []) (w := wy) h) hN1)
      have HN1 := Lib.hid hN1
      clear hf1 hN1
      unfold setSlot
      go_big_quiet_step (fail)
      refine wpQuiet_nil ?_
      intro x2 hx2 _
      have HBz := Lib.hid (HBy.out.trans (hx2.below.mono HBy.out.size))
      clear hx2
      cases vi with
      | true =>
        have hF := HG3.out.trans (if_pos (of_decide_eq_true HVI.out.symm))
        have HF := Lib.hid (HR2.out.trans ((if_pos (by rw [hF]; decide)).trans hF))
        clear hF
        go_wp2_with fail
        go_ret
        exact ⟨by rw [HF.out]; rfl, HB2.out.trans (HBz.out.mono hs2)⟩
      | false =>
        have HG4 := Lib.hid (HG3.out.trans (if_neg (of_decide_eq_false HVI.out.symm)))
        go_wp2_with fail
        go_roundw
        case rel => exact ⟨j + 1, by omega, by go_num, by rw [HT.out]; exact HG4.out, HBz.out⟩
        case measure => simp [intOf]; omega
    · obtain rfl : j = sh.length := by omega
      have hdd : decide (sh.length < sh.length) = false := by simp
      have hsz0 : showC n [] sh = 0 := by rw [HG.out, List.drop_length]; rfl
      have HR3 := Lib.hid (HR2.out.trans (if_neg (by rw [hsz0]; simp)))
      have S4 := SK
      have HBs := Lib.hid (HB2.out.trans (HB.out.mono hs2))
      obtain ⟨w4, hw4⟩ : ∃ w4, w4 = wr := ⟨_, rfl⟩
      subst hw4
      clear hsz0 HG HB HR2 SK
      have hws4 := lt_of_heap S4.out
      have hs4 := HBs.out.size
      go_wp2_with fail
      go_loopw [5] (fun t5 wr => ∃ j : Nat, j ≤ ws.length ∧ t5 = .int .i64 j ∧ Hid (wtsC rdD n [] ws = wtsC rdD n ((ws.take j).map (·.1)) (ws.drop j)) ∧ Hid (Below w4.heap.size w4 wr)) (fun t5 _ => ws.length - (intOf t5).toNat)
      case atStart => exact ⟨0, Nat.zero_le _, rfl, rfl, Below.refl _ _⟩
      case round =>
        obtain ⟨j, hj, rfl, HG, HB⟩ := hrel
        have SK := Lib.hid ((behind_of_below HB.out).keep S4.out (by simp))
        have q3 := blk_cell SK.out 3 rfl
        by_cases hlt : j < ws.length
        · have hdd : decide (j < ws.length) = true := decide_eq_true hlt
          have hxx : ws[j]? = some (ws.getD j (0, [])) := by simp [List.getD, hlt]
          have hdr : ws.drop j = ws.getD j (0, []) :: ws.drop (j + 1) := by rw [List.drop_eq_getElem_cons hlt]; simp [List.getD, hlt]
          obtain ⟨b1, o1, hb1, e1, k1⟩ := HA.out.w _ _ (wts_get _ _ _ hxx).1
          subst e1
          obtain ⟨_, _, _, e2, k2⟩ := HA.out.w _ _ (wts_get _ _ _ hxx).2
          cases e2
          rw [Nat.mul_comm] at k1
          rw [Nat.mul_comm, ← Nat.add_assoc] at k2
          have HBw := Lib.hid (HBs.out.trans (HB.out.mono hs4))
          have d1 := below_cell HBw.out hb1 k1
          have d2 := below_cell HBw.out hb1 k2
          have HT := Lib.hid (take_one hxx)
          have HG2 := Lib.hid (show wtsC rdD n [] ws = _ from HG.out.trans (by rw [hdr, wtsC_cons]))
          have hvl := HV.out _ (List.mem_of_getElem? hxx)
          have KI := Lib.hid (fun (x : Int) (y : World) (hy : Below w.heap.size w y) => xHeavy (ws.take j) x w.heap.size (some ⟨b1, o1, none⟩) cW (by rw [List.length_take]; omega) y ((take_wts HA.out.w j).below hy (Nat.le_refl _)) hy.size)
          rw [show (ws.take j).length = j by rw [List.length_take]; omega] at KI
          generalize ws.getD j (0, []) = x at *
          obtain ⟨z, v⟩ := x
          clear k1 k2 hxx hdr HG
          simp only at d1 d2 hvl HG2
          have hjc : j ≤ cW := by omega
          have KR := Lib.hid (gXRatRead ⟨v.toArray⟩ (by rw [ba_size]; exact hvl))
          have hrd : rdD v = (ratRead ⟨v.toArray⟩).isSome := rfl
          rw [hrd] at HG2
          clear hrd
          generalize (ratRead ⟨v.toArray⟩).isSome = ok at *
          generalize ((ratRead ⟨v.toArray⟩).getD (0, 1)) = q at *
          obtain ⟨u1, u2, hxr⟩ : ∃ u1 u2, xratV q = .agg #[.string u1, .string u2] := ⟨_, _, rfl⟩
          rw [hxr] at KR
          clear hxr
          generalize (⟨v.toArray⟩ : ByteArray) = y at *
          go_upto_region 15 with fail
          refine wp_gen ?_
          intro w6 hw6
          have T6 := Lib.hid (show w6.heap[wr.heap.size]? = some (.cells #[.int .i64 z, .string y] 55 (0, 0)) by rw [hw6]; exact new_one _ _)
          have hb6 : Below wr.heap.size wr w6 := by rw [hw6]; exact below_one _ _
          have HBq := Lib.hid (HB.out.trans (hb6.mono HB.out.size))
          have S6 := Lib.hid ((behind_of_below hb6).keep SK.out (by simp))
          clear hw6 hb6 d1 d2 q3 SK
          have t60 := blk_cell T6.out 0 rfl
          have q0 := blk_cell S6.out 0 rfl
          have KV := xValid z n hn.1 hn.2
          obtain ⟨vb, hvb⟩ : ∃ vb, vb = validD z n := ⟨_, rfl⟩
          rw [← hvb] at KV
          have HVB := Lib.hid hvb
          clear hvb
          go_wp2_with fail
          refine (KV w6).mono ?_
          rintro e w7 ⟨rfl, hB⟩
          have T7 := Lib.hid ((behind_of_below hB).keep T6.out (by simp))
          have S7 := Lib.hid ((behind_of_below hB).keep S6.out (by simp))
          have HB7 := Lib.hid (HBq.out.trans (hB.mono HBq.out.size))
          have HF7 := Lib.hid (HBs.out.trans (HB7.out.mono hs4))
          clear hB KV t60 q0 T6 S6 HBq
          cases vb with
          | false =>
            have HF := Lib.hid (HR3.out.trans (HG2.out.trans (if_pos HVB.out.symm)))
            go_wp2_with fail
            go_ret
            exact ⟨by rw [HF.out]; rfl, HF7.out⟩
          | true =>
          have HG3 := Lib.hid (HG2.out.trans (if_neg (by rw [← HVB.out]; simp)))
          clear HG2
          obtain ⟨vi, hvi⟩ : ∃ vi, vi = decide (z ∈ (ws.take j).map (·.1)) := ⟨_, rfl⟩
          have HVI := Lib.hid hvi
          have KI2 := Lib.hid (fun (y : World) (hy : Below w.heap.size w y) => KI.out z y hy)
          rw [← hvi] at KI2
          clear hvi KI
          go_wp2_with fail
          refine wp_gameM [0, 0, 0, 0, 0, 0, 6] [] (keptB [] w7) (fin_keptB _) (has_keptB _) (by kernel_rfl) (by kernel_rfl) ?_
          refine lexM_split 6 (by decide) (by rfl) ?_
          simp only [List.take_succ_cons, List.take_zero, List.drop_succ_cons, List.drop_zero]
          refine lex_quietE 6 (by kernel_rfl) (by rfl) ?_
          apply Exists.intro
          refine ⟨fun z hz1 => ?_, ?_⟩
          · have gz := hz1.keep S7.out (by simp)
            have g3 := blk_cellp gz 3 rfl
            have gy := hz1.keep T7.out (by simp)
            have g4 := blk_cellp gy 0 rfl
            clear gz gy
            clear hz1
            simp only [List.take_succ_cons, List.take_zero]
            unfold Cx
            repeat (go_big_quiet_step (fail))
            exact wpQuiet_nil rfl
          simp only [List.drop_succ_cons, List.drop_zero]
          refine lex_nil ?_
          refine lexM_manyF (fun v _ => v = .bool vi) (by rfl) (by rfl) (by simp) (fin_keptB (Wr := []) w7) (fun g o h => keptB_wr (Wr := []) (w := w7) h) (fun x => by go_simp) (fun x hx hBx => val_call (KI2.out x (HF7.out.trans (hx.below.mono HF7.out.size)))) (fun u1 B1 hR1 hf1 hN1 => ?_)
          subst hR1
          have HF1 := Lib.hid (Fin.over (fin_keptB (Wr := []) w7) hf1)
          have HW1 := Lib.hid (over_wr (w := w7) (Wr := []) (fun g o h => keptB_wr (Wr := []) (w := w7) h) hN1)
          have HN1 := Lib.hid hN1
          clear hf1 hN1
          unfold setSlot
          go_big_quiet_step (fail)
          refine wpQuiet_nil ?_
          intro x2 hx2 _
          obtain ⟨wy, hwy⟩ : ∃ wy, wy = x2 := ⟨_, rfl⟩
          subst hwy
          have HB8 := Lib.hid (HB7.out.trans (hx2.below.mono HB7.out.size))
          have HF8 := Lib.hid (HBs.out.trans (HB8.out.mono hs4))
          have T8 := Lib.hid (hx2.keep T7.out (by simp))
          clear hx2
          cases vi with
          | true =>
            have HF := Lib.hid (HR3.out.trans (HG3.out.trans (if_pos (of_decide_eq_true HVI.out.symm))))
            go_wp2_with fail
            go_ret
            exact ⟨by rw [HF.out]; rfl, HF8.out⟩
          | false =>
          have HG4 := Lib.hid (HG3.out.trans (if_neg (of_decide_eq_false HVI.out.symm)))
          have t81 := blk_cell T8.out 1 rfl
          go_wp2_with fail
          refine (KR.out wy).mono ?_
          rintro e w9 ⟨rfl, hB⟩
          have HB9 := Lib.hid (HB8.out.trans (hB.mono HB8.out.size))
          clear hB KR t81
          go_upto_region 20 with fail
          refine wp_gen ?_
          intro w10 hw10
          have hb10 : Below w9.heap.size w9 w10 := by rw [hw10]; exact below_one _ _
          have HB10 := Lib.hid (HB9.out.trans (hb10.mono HB9.out.size))
          have HF10 := Lib.hid (HBs.out.trans (HB10.out.mono hs4))
          clear hw10 hb10
          cases ok with
          | false =>
            have HF := Lib.hid (HR3.out.trans (HG4.out.trans (if_pos rfl)))
            go_wp2_with fail
            go_ret
            exact ⟨by rw [HF.out]; rfl, HF10.out⟩
          | true =>
          have HG5 := Lib.hid (HG4.out.trans (if_neg (by simp)))
          go_wp2_with fail
          go_roundw
          case rel => exact ⟨j + 1, by omega, by go_num, by rw [HT.out, List.map_append]; exact HG5.out, HB10.out⟩
          case measure => simp [intOf]; omega
        · obtain rfl : j = ws.length := by omega
          have hdd : decide (ws.length < ws.length) = false := by simp
          have HF := Lib.hid (show R = 0 by rw [HR3.out, HG.out, List.drop_length]; rfl)
          go_wp2_with fail
          go_ret
          exact ⟨by rw [HF.out]; rfl, HBs.out.trans (HB.out.mono hs4)⟩
end Go.Proofs.YtajjgfiojlagmaaGreatDoor
