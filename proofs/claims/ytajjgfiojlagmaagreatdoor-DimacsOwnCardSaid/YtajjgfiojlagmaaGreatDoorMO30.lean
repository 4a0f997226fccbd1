/- Texts of this claim, joined: D18, D19, D20, D21, D22. -/
import Derived.Test.YtajjgfiojlagmaaGreatDoorMO28
import Derived.Test.YtajjgfiojlagmaaGreatDoorMO29
import Derived.Deep.DeepCutAuto

/- The reference reads a line by its kind first: the same. Plain; and its two searches. -/
namespace Go.Proofs.YtajjgfiojlagmaaGreatDoor
open Go.RowKit

def kindD (rd : List UInt8 → Bool) (w : List (List UInt8)) : Int :=
  match w with
  | [] => 0
  | w0 :: r =>
    if w0 = [112] then (if r.length = 3 ∧ r.getD 0 [] = [99, 110, 102] ∧ 0 ≤ numX (r.getD 1 []) ∧ 0 ≤ numX (r.getD 2 []) then 1 else -1)
    else if w0 = [99] then
      (if r.length < 2 ∨ r.getD 0 [] ≠ [112] ∨ (r.getD 1 [] ≠ showW ∧ r.getD 1 [] ≠ weightW) then 0
      else if r.getD (r.length - 1) [] ≠ [48] ∨ r.length < 3 then -1
      else if r.getD 1 [] = showW then (if ((r.take (r.length - 1)).drop 2).any (fun x => decide (numX x < 1)) = true then -1 else 2)
      else if r.length ≠ 5 ∨ litD (r.getD 2 []) = 0 then -1 else if rd (r.getD 3 []) = false then -1 else 3)
    else if ((w0 :: r).any fun x => decide (litD x = 0) && decide (x ≠ [48])) = true then -1 else 4
def headerD (st : DS) (r : List (List UInt8)) : DS × Int :=
  if st.begun = true then (st, 4) else if 128 < numX (r.getD 1 []) ∨ 4096 < numX (r.getD 2 []) then (st, 6) else ({ st with begun := true, n := numX (r.getD 1 []), m := numX (r.getD 2 []) }, 0)
def heavyD (st : DS) (l : Int) (x : List UInt8) : DS × Int :=
  if l ∈ st.ws.map (·.1) then (st, 4) else if validD l st.n = false then (st, 6) else ({ st with ws := st.ws ++ [(l, x)] }, 0)
def lineK (st : DS) (w : List (List UInt8)) (k : Int) : DS × Int :=
  if k < 0 ∨ (1 < k ∧ st.begun = false) then (st, 5)
  else if k = 1 then headerD st (w.drop 1)
  else if k = 2 then showGo st (((w.take (w.length - 1)).drop 3).map numZ)
  else if k = 3 then heavyD st (litD (w.getD 3 [])) (w.getD 4 [])
  else if k = 4 then litsGo st (w.map litD)
  else (st, 0)
def lineR (rd : List UInt8 → Bool) (st : DS) (w : List (List UInt8)) : DS × Int := lineK st w (kindD rd w)
section
variable {st : DS} {w : List (List UInt8)}
theorem lineK_neg : lineK st w (-1) = (st, 5) := if_pos (.inl (by decide))
theorem lineK_not {k : Int} (hk : 1 < k) (hb : st.begun = false) : lineK st w k = (st, 5) := if_pos (.inr ⟨hk, hb⟩)
theorem lineK_0 : lineK st w 0 = (st, 0) := by unfold lineK; rw [if_neg (by rintro (h | ⟨h, _⟩) <;> revert h <;> decide)]; rfl
theorem lineK_1 : lineK st w 1 = headerD st (w.drop 1) := by unfold lineK; rw [if_neg (by rintro (h | ⟨h, _⟩) <;> revert h <;> decide)]; rfl
theorem lineK_2 (hb : ¬ st.begun = false) : lineK st w 2 = showGo st (((w.take (w.length - 1)).drop 3).map numZ) := by
  unfold lineK; rw [if_neg (fun h => h.elim (by decide) fun h => hb h.2)]; rfl
theorem lineK_3 (hb : ¬ st.begun = false) : lineK st w 3 = heavyD st (litD (w.getD 3 [])) (w.getD 4 []) := by
  unfold lineK; rw [if_neg (fun h => h.elim (by decide) fun h => hb h.2)]; rfl
theorem lineK_4 (hb : ¬ st.begun = false) : lineK st w 4 = litsGo st (w.map litD) := by
  unfold lineK; rw [if_neg (fun h => h.elim (by decide) fun h => hb h.2)]; rfl
end
theorem kind_p (rd : List UInt8 → Bool) (r : List (List UInt8)) : kindD rd ([112] :: r) = if r.length = 3 ∧ r.getD 0 [] = [99, 110, 102] ∧ 0 ≤ numX (r.getD 1 []) ∧ 0 ≤ numX (r.getD 2 []) then 1 else -1 := by rw [kindD, if_pos rfl]
theorem kind_c (rd : List UInt8 → Bool) (r : List (List UInt8)) : kindD rd ([99] :: r) = if r.length < 2 ∨ r.getD 0 [] ≠ [112] ∨ (r.getD 1 [] ≠ showW ∧ r.getD 1 [] ≠ weightW) then 0
      else if r.getD (r.length - 1) [] ≠ [48] ∨ r.length < 3 then -1
      else if r.getD 1 [] = showW then (if ((r.take (r.length - 1)).drop 2).any (fun x => decide (numX x < 1)) = true then -1 else 2)
      else if r.length ≠ 5 ∨ litD (r.getD 2 []) = 0 then -1 else if rd (r.getD 3 []) = false then -1 else 3 := by rw [kindD, if_neg (show ¬ ([99] : List UInt8) = [112] by decide), if_pos rfl]
theorem kind_l (rd : List UInt8 → Bool) {w0 : List UInt8} (r : List (List UInt8)) (h1 : ¬ w0 = [112]) (h2 : ¬ w0 = [99]) : kindD rd (w0 :: r) = if ((w0 :: r).any fun x => decide (litD x = 0) && decide (x ≠ [48])) = true then -1 else 4 := by rw [kindD, if_neg h1, if_neg h2]

theorem numX_none {x : List UInt8} : numX x < 0 ↔ numD x = none := by
  unfold numX
  cases h : numD x with
  | none => simp
  | some n => simp
theorem numX_some {x : List UInt8} {n : Nat} (h : numD x = some n) : numX x = n := by unfold numX; rw [h]
theorem numX_lt {x : List UInt8} : numX x < 1 ↔ numZ x = 0 := by
  unfold numX numZ
  cases h : numD x with
  | none => simp
  | some n => simp; omega

theorem line_same (rd : List UInt8 → Bool) (st : DS) (w : List (List UInt8)) : lineR rd st w = lineD rd st w := by
  unfold lineR
  match w with
  | [] => exact lineK_0
  | w0 :: r =>
  by_cases h1 : w0 = [112]
  · subst h1
    rw [show lineD rd st ([112] :: r) = problemD st r by rw [lineD, if_pos rfl], kind_p]
    unfold problemD
    by_cases hA : r.length = 3 ∧ r.getD 0 [] = [99, 110, 102]
    · rw [if_neg (show ¬ (r.length ≠ 3 ∨ r.getD 0 [] ≠ [99, 110, 102]) from fun h => h.elim (fun h => h hA.1) (fun h => h hA.2))]
      cases ha : numD (r.getD 1 []) with
      | none =>
        have := numX_none.2 ha
        rw [if_neg (fun h => absurd h.2.2.1 (by omega)), lineK_neg]
      | some a =>
        cases hb : numD (r.getD 2 []) with
        | none =>
          have := numX_none.2 hb
          rw [if_neg (fun h => absurd h.2.2.2 (by omega)), lineK_neg]
        | some b =>
          have e1 := numX_some ha
          have e2 := numX_some hb
          rw [if_pos ⟨hA.1, hA.2, by omega, by omega⟩, lineK_1]
          show headerD st r = _
          unfold headerD
          rw [e1, e2]
          by_cases hb : st.begun = true
          · rw [if_pos hb]; simp [hb]
          · rw [if_neg hb]
            by_cases hr : 128 < a ∨ 4096 < b
            · rw [if_pos (by omega)]; simp [hb, hr]
            · rw [if_neg (by omega)]; simp [hb, hr]
    · rw [if_pos (show r.length ≠ 3 ∨ r.getD 0 [] ≠ [99, 110, 102] by
        by_cases h : r.length = 3
        · exact .inr fun h' => hA ⟨h, h'⟩
        · exact .inl h), if_neg (fun h => hA ⟨h.1, h.2.1⟩), lineK_neg]
  · by_cases h2 : w0 = [99]
    · subst h2
      rw [show lineD rd st ([99] :: r) = commentD rd st r by rw [lineD, if_neg (show ¬ ([99] : List UInt8) = [112] by decide), if_pos rfl], kind_c]
      unfold commentD
      by_cases hA : r.length < 2 ∨ r.getD 0 [] ≠ [112] ∨ (r.getD 1 [] ≠ showW ∧ r.getD 1 [] ≠ weightW)
      · rw [if_pos hA, if_pos hA, lineK_0]
      · rw [if_neg hA, if_neg hA]
        by_cases hB : r.getD (r.length - 1) [] ≠ [48] ∨ r.length < 3
        · rw [if_pos hB, lineK_neg, if_pos (hB.elim (fun h => .inr (.inr h)) (fun h => .inr (.inl (by omega))))]
        · rw [if_neg hB]
          have hB2 : ¬ r.length < 3 := fun h => hB (.inr h)
          have hB3 : r.getD (r.length - 1) [] = [48] := Decidable.not_not.1 fun h => hB (.inl h)
          have htk : ((([99] : List UInt8) :: r).take ((([99] : List UInt8) :: r).length - 1)).drop 3 = (r.take (r.length - 1)).drop 2 := by
            have e : (([99] : List UInt8) :: r).length - 1 = (r.length - 1) + 1 := by simp; omega
            rw [e, List.take_succ_cons, List.drop_succ_cons]
          by_cases hbg : st.begun = false
          · rw [if_pos (show st.begun = false ∨ r.length - 1 < 2 ∨ r.getD (r.length - 1) [] ≠ [48] from .inl hbg)]
            split
            · split
              · exact lineK_neg
              · exact lineK_not (by decide) hbg
            · split
              · exact lineK_neg
              · split
                · exact lineK_neg
                · exact lineK_not (by decide) hbg
          · rw [if_neg (show ¬ (st.begun = false ∨ r.length - 1 < 2 ∨ r.getD (r.length - 1) [] ≠ [48]) from fun h => h.elim hbg fun h => h.elim (fun h => by omega) fun h => h hB3)]
            by_cases hS : r.getD 1 [] = showW
            · rw [if_pos hS, if_pos hS]
              unfold showD
              have hany : ((r.take (r.length - 1)).drop 2).any (fun x => decide (numX x < 1)) = (((r.take (r.length - 1)).drop 2).map numZ).contains 0 := by
                generalize (r.take (r.length - 1)).drop 2 = z
                rw [Bool.eq_iff_iff, List.any_eq_true, List.contains_iff_mem, List.mem_map]
                constructor
                · rintro ⟨x, hx, h⟩
                  exact ⟨x, hx, numX_lt.1 (by simpa using h)⟩
                · rintro ⟨x, hx, h⟩
                  exact ⟨x, hx, by simpa using numX_lt.2 h⟩
              rw [hany]
              by_cases hc : (((r.take (r.length - 1)).drop 2).map numZ).contains 0 = true
              · rw [if_pos hc, if_pos hc, lineK_neg]
              · rw [if_neg hc, if_neg hc, lineK_2 hbg, htk]
            · rw [if_neg hS, if_neg hS]
              unfold weightD
              have hlen : ((r.take (r.length - 1)).drop 2).length = r.length - 1 - 2 := by simp
              by_cases h5 : r.length = 5
              · have g0 : ((r.take (r.length - 1)).drop 2).getD 0 [] = r.getD 2 [] := by
                  match r, h5 with
                  | [a, b, c, d, e], _ => rfl
                have g1 : ((r.take (r.length - 1)).drop 2).getD 1 [] = r.getD 3 [] := by
                  match r, h5 with
                  | [a, b, c, d, e], _ => rfl
                have f0 : (([99] : List UInt8) :: r).getD 3 [] = r.getD 2 [] := rfl
                have f1 : (([99] : List UInt8) :: r).getD 4 [] = r.getD 3 [] := rfl
                rw [if_neg (show ¬ ((r.take (r.length - 1)).drop 2).length ≠ 2 by omega), g0, g1]
                by_cases hl0 : litD (r.getD 2 []) = 0
                · rw [if_pos (.inr hl0), lineK_neg, if_pos (.inl hl0)]
                · rw [if_neg (show ¬ (r.length ≠ 5 ∨ litD (r.getD 2 []) = 0) from fun h => h.elim (fun h => h h5) hl0)]
                  by_cases hrd : rd (r.getD 3 []) = false
                  · rw [if_pos hrd, lineK_neg, if_pos (.inr hrd)]
                  · rw [if_neg hrd, lineK_3 hbg, f0, f1, if_neg (show ¬ (litD (r.getD 2 []) = 0 ∨ rd (r.getD 3 []) = false) from fun h => h.elim hl0 hrd)]
                    rfl
              · rw [if_pos (.inl h5), lineK_neg, if_pos (show ((r.take (r.length - 1)).drop 2).length ≠ 2 by omega)]
    · rw [show lineD rd st (w0 :: r) = litsD st (w0 :: r) by rw [lineD, if_neg h1, if_neg h2], kind_l rd r h1 h2]
      unfold litsD
      by_cases hA : ((w0 :: r).any fun x => decide (litD x = 0) && decide (x ≠ [48])) = true
      · rw [if_pos hA, if_pos hA, lineK_neg]
      · rw [if_neg hA, if_neg hA]
        by_cases hb : st.begun = false
        · rw [if_pos hb, lineK_not (by decide) hb]
        · rw [if_neg hb, lineK_4 hb]
end Go.Proofs.YtajjgfiojlagmaaGreatDoor

/- The reference's in and heavy. -/
namespace Go.Proofs.YtajjgfiojlagmaaGreatDoor
open Go.RowKit

set_option maxHeartbeats 3200000 in
set_option maxRecDepth 100000 in
theorem xIn (xs : List Int) (x : Int) (N : Nat) (a : Option Addr) (c : Nat) (hl : xs.length ≤ 100000000) (w : World) (hA : AtN N w a (ints xs)) (hw : N ≤ w.heap.size) :
    Calls Tryz.prog 34 #[.slice a xs.length c, .int .i64 x] w fun e w' => e = .returned (.bool (decide (x ∈ xs))) ∧ Below w.heap.size w w' := by
  have HA := Lib.hid hA
  obtain ⟨R, hR⟩ : ∃ R, R = decide (x ∈ xs) := ⟨_, rfl⟩
  rw [← hR]
  have HR := Lib.hid hR
  clear hA hR
  go_enter Tryz.func34, Tryz.ntmps34
  go_wp2_with fail
  go_loopw [5] (fun t5 wr => ∃ j : Nat, j ≤ xs.length ∧ t5 = .int .i64 j ∧ Hid (∀ y ∈ xs.take j, y ≠ x) ∧ Hid (Below w.heap.size w wr)) (fun t5 _ => xs.length - (intOf t5).toNat)
  case atStart => exact ⟨0, Nat.zero_le _, rfl, by simp [Hid], Below.refl _ _⟩
  case round =>
    obtain ⟨j, hj, rfl, HZ, HB⟩ := hrel
    by_cases hlt : j < xs.length
    · have hdd : decide (j < xs.length) = true := by simpa using hlt
      have hyy : xs[j]? = some (xs.getD j 0) := by simp [List.getD, hlt]
      have HT := Lib.hid (take_one hyy)
      have HM := Lib.hid (List.mem_of_getElem? hyy)
      obtain ⟨b1, o1, hb1, e1, k1⟩ := HA.out _ _ (ints_get _ _ _ hyy)
      subst e1
      have d1 := below_cell HB.out (show b1 < w.heap.size by omega) k1
      generalize xs.getD j 0 = y at *
      clear k1 hyy
      by_cases hxy : y = x
      · have HR2 := Lib.hid (show R = true by rw [HR.out]; exact decide_eq_true (hxy ▸ HM.out))
        have hq : (y == x) = true := by simp [hxy]
        clear hxy
        go_wp2_with fail
        go_ret
        exact ⟨by rw [HR2.out]; rfl, HB.out⟩
      · have hq : (y == x) = false := beq_no hxy
        have HN := Lib.hid hxy
        clear hxy
        go_wp2_with fail
        go_roundw
        case rel => exact ⟨j + 1, by omega, by go_num, fun z hz => by
          rw [HT.out] at hz
          rcases List.mem_append.1 hz with hz | hz
          · exact HZ.out z hz
          · rw [List.mem_singleton.1 hz]; exact HN.out, HB.out⟩
        case measure => simp [intOf]; omega
    · obtain rfl : j = xs.length := by omega
      have hdd : decide (xs.length < xs.length) = false := by simp
      have HR2 := Lib.hid (show R = false by rw [HR.out]; exact decide_eq_false fun h => HZ.out x (by rw [List.take_length]; exact h) rfl)
      go_wp2_with fail
      go_ret
      exact ⟨by rw [HR2.out]; rfl, HB.out⟩

set_option maxHeartbeats 3200000 in
set_option maxRecDepth 100000 in
theorem xHeavy (ws : List (Int × List UInt8)) (x : Int) (N : Nat) (a : Option Addr) (c : Nat) (hl : ws.length ≤ 100000000) (w : World) (hA : AtN N w a (wts ws)) (hw : N ≤ w.heap.size) :
    Calls Tryz.prog 36 #[.slice a ws.length c, .int .i64 x] w fun e w' => e = .returned (.bool (decide (x ∈ ws.map (·.1)))) ∧ Below w.heap.size w w' := by
  have HA := Lib.hid hA
  obtain ⟨R, hR⟩ : ∃ R, R = decide (x ∈ ws.map (·.1)) := ⟨_, rfl⟩
  rw [← hR]
  have HR := Lib.hid hR
  clear hA hR
  go_enter Tryz.func36, Tryz.ntmps36
  go_wp2_with fail
  go_loopw [5] (fun t5 wr => ∃ j : Nat, j ≤ ws.length ∧ t5 = .int .i64 j ∧ Hid (∀ y ∈ ws.take j, y.1 ≠ x) ∧ Hid (Below w.heap.size w wr)) (fun t5 _ => ws.length - (intOf t5).toNat)
  case atStart => exact ⟨0, Nat.zero_le _, rfl, by simp [Hid], Below.refl _ _⟩
  case round =>
    obtain ⟨j, hj, rfl, HZ, HB⟩ := hrel
    by_cases hlt : j < ws.length
    · have hdd : decide (j < ws.length) = true := by simpa using hlt
      have hyy : ws[j]? = some (ws.getD j (0, [])) := by simp [List.getD, hlt]
      have HT := Lib.hid (take_one hyy)
      have HM := Lib.hid (List.mem_of_getElem? hyy)
      obtain ⟨b1, o1, hb1, e1, k1⟩ := HA.out _ _ (wts_get _ _ _ hyy).1
      subst e1
      rw [Nat.mul_comm] at k1
      have d1 := below_cell HB.out (show b1 < w.heap.size by omega) k1
      generalize ws.getD j (0, []) = y at *
      obtain ⟨y, s⟩ := y
      simp only at d1
      clear k1 hyy
      by_cases hxy : y = x
      · have HR2 := Lib.hid (show R = true by rw [HR.out]; exact decide_eq_true (List.mem_map.2 ⟨_, HM.out, hxy⟩))
        have hq : (y == x) = true := by simp [hxy]
        clear hxy
        go_wp2_with fail
        go_ret
        exact ⟨by rw [HR2.out]; rfl, HB.out⟩
      · have hq : (y == x) = false := beq_no hxy
        have HN := Lib.hid hxy
        clear hxy
        go_wp2_with fail
        go_roundw
        case rel => exact ⟨j + 1, by omega, by go_num, fun z hz => by
          rw [HT.out] at hz
          rcases List.mem_append.1 hz with hz | hz
          · exact HZ.out z hz
          · rw [List.mem_singleton.1 hz]; exact HN.out, HB.out⟩
        case measure => simp [intOf]; omega
    · obtain rfl : j = ws.length := by omega
      have hdd : decide (ws.length < ws.length) = false := by simp
      have hR2 : R = false := by
        rw [HR.out]
        refine decide_eq_false fun h => ?_
        obtain ⟨y, hy, e⟩ := List.mem_map.1 h
        exact HZ.out y (by rw [List.take_length]; exact hy) e
      have HR2 := Lib.hid hR2
      clear hR2
      go_wp2_with fail
      go_ret
      exact ⟨by rw [HR2.out]; rfl, HB.out⟩
end Go.Proofs.YtajjgfiojlagmaaGreatDoor

/- The reference's kind. -/
namespace Go.Proofs.YtajjgfiojlagmaaGreatDoor
open Go.RowKit

section
variable {rd : List UInt8 → Bool} {r : List (List UInt8)}
theorem kp_len (h : r.length ≠ 3) : kindD rd ([112] :: r) = -1 := by rw [kind_p, if_neg (fun h' => h h'.1)]
theorem kp_cnf (h : r.getD 0 [] ≠ [99, 110, 102]) : kindD rd ([112] :: r) = -1 := by rw [kind_p, if_neg (fun h' => h h'.2.1)]
theorem kp_n1 (h : numX (r.getD 1 []) < 0) : kindD rd ([112] :: r) = -1 := by rw [kind_p, if_neg (fun h' => absurd h'.2.2.1 (by omega))]
theorem kp_n2 (h : numX (r.getD 2 []) < 0) : kindD rd ([112] :: r) = -1 := by rw [kind_p, if_neg (fun h' => absurd h'.2.2.2 (by omega))]
theorem kp_yes (h : r.length = 3) (h1 : r.getD 0 [] = [99, 110, 102]) (h2 : 0 ≤ numX (r.getD 1 [])) (h3 : 0 ≤ numX (r.getD 2 [])) : kindD rd ([112] :: r) = 1 := by rw [kind_p, if_pos ⟨h, h1, h2, h3⟩]
theorem kc_0 (h : r.length < 2 ∨ r.getD 0 [] ≠ [112] ∨ (r.getD 1 [] ≠ showW ∧ r.getD 1 [] ≠ weightW)) : kindD rd ([99] :: r) = 0 := by rw [kind_c, if_pos h]
theorem kc_n (h : ¬ (r.length < 2 ∨ r.getD 0 [] ≠ [112] ∨ (r.getD 1 [] ≠ showW ∧ r.getD 1 [] ≠ weightW))) (h2 : r.getD (r.length - 1) [] ≠ [48] ∨ r.length < 3) : kindD rd ([99] :: r) = -1 := by rw [kind_c, if_neg h, if_pos h2]
theorem kc_s (h : ¬ (r.length < 2 ∨ r.getD 0 [] ≠ [112] ∨ (r.getD 1 [] ≠ showW ∧ r.getD 1 [] ≠ weightW))) (h2 : ¬ (r.getD (r.length - 1) [] ≠ [48] ∨ r.length < 3)) (hs : r.getD 1 [] = showW) :
    kindD rd ([99] :: r) = if ((r.take (r.length - 1)).drop 2).any (fun x => decide (numX x < 1)) = true then -1 else 2 := by rw [kind_c, if_neg h, if_neg h2, if_pos hs]
theorem kc_w (h : ¬ (r.length < 2 ∨ r.getD 0 [] ≠ [112] ∨ (r.getD 1 [] ≠ showW ∧ r.getD 1 [] ≠ weightW))) (h2 : ¬ (r.getD (r.length - 1) [] ≠ [48] ∨ r.length < 3)) (hs : ¬ r.getD 1 [] = showW) :
    kindD rd ([99] :: r) = if r.length ≠ 5 ∨ litD (r.getD 2 []) = 0 then -1 else if rd (r.getD 3 []) = false then -1 else 3 := by rw [kind_c, if_neg h, if_neg h2, if_neg hs]
end
theorem numX_in (x : List UInt8) : -1 ≤ numX x ∧ numX x < 100000 := by
  unfold numX
  cases hn : numD x with
  | none => simp
  | some n => have := numD_lt hn; simp; omega

theorem lit_both (x t : List UInt8) : ((⟨x.toArray⟩ : ByteArray).toList == t) = decide (x = t) := by
  rw [ba_list]
  by_cases h : x = t
  · subst h; simp
  · rw [decide_eq_false h]; exact beq_eq_false_iff_ne.2 h

set_option maxHeartbeats 3200000 in
set_option maxRecDepth 100000 in
theorem xKindP (r : List (List UInt8)) (hl : ∀ x ∈ r, x.length ≤ 1000000) (hn : r.length ≤ 1100000) (w : World) (a : Option Addr) (c : Nat) (hA : AtN w.heap.size w a (strs ([112] :: r))) :
    Calls Tryz.prog 44 #[.slice a ([112] :: r).length c] w fun e w' => e = .returned (.int .i64 (kindD rdD ([112] :: r))) ∧ Below w.heap.size w w' := by
  obtain ⟨R, hR⟩ : ∃ R, R = kindD rdD ([112] :: r) := ⟨_, rfl⟩
  rw [← hR]
  obtain ⟨b0, o0, hb0, rfl, k0⟩ := hA 0 _ (strs_get ([112] :: r) 0 _ rfl)
  rw [Nat.add_zero] at k0
  have t0 := lit_both [112] [112]
  rw [decide_eq_true (show ([112] : List UInt8) = [112] from rfl)] at t0
  obtain ⟨n, hnn⟩ : ∃ n, n = ([112] :: r).length := ⟨_, rfl⟩
  rw [← hnn]
  have hnr : n = r.length + 1 := hnn
  have HNR := Lib.hid hnr
  generalize (⟨([112] : List UInt8).toArray⟩ : ByteArray) = y0 at *
  have hn0 : 0 < n := by omega
  have hq0 : ((n : Int) == 0) = false := beq_no (by omega)
  by_cases h3 : r.length = 3
  case neg =>
    have hq4 : ((n : Int) == 4) = false := beq_no (by omega)
    have h4 : n ≠ 4 := by omega
    have HA := Lib.hid hA
    clear hA
    have HR := Lib.hid (show R = -1 from by rw [hR]; exact kp_len h3)
    clear hR h3
    go_enter Tryz.func44, Tryz.ntmps44
    go_wp2_with fail
    go_ret
    exact ⟨by rw [HR.out]; rfl, Below.refl _ _⟩
  obtain ⟨x1, x2, x3, rfl⟩ : ∃ x1 x2 x3, r = [x1, x2, x3] := by
    match r, h3 with
    | [x1, x2, x3], _ => exact ⟨_, _, _, rfl⟩
  obtain rfl : n = 4 := HNR.out
  clear HNR
  have hcell : ∀ (i : Nat) (x : List UInt8), ([[112], x1, x2, x3] : List (List UInt8))[i]? = some x → w.cell? ⟨b0, o0 + i, none⟩ = some (.string ⟨x.toArray⟩) := fun i x hi => by
    obtain ⟨_, _, _, e, k⟩ := hA i _ (strs_get _ i x hi)
    cases e
    exact k
  have k1 := hcell 1 x1 rfl
  have K2 := Lib.hid (hcell 2 x2 rfl)
  have K3 := Lib.hid (hcell 3 x3 rfl)
  have N2 := xNumber x2 (by have := hl x2 (by simp); omega)
  have N3 := xNumber x3 (by have := hl x3 (by simp); omega)
  have t1 := lit_both x1 [99, 110, 102]
  have i2 := numX_in x2
  have i3 := numX_in x3
  have hR1 := fun h => hR.trans (kp_cnf (rd := rdD) (r := [x1, x2, x3]) h)
  have hR2 := fun h => hR.trans (kp_n1 (rd := rdD) (r := [x1, x2, x3]) h)
  have hR3 := fun h => hR.trans (kp_n2 (rd := rdD) (r := [x1, x2, x3]) h)
  have hR4 := fun h1 h2 h3 => hR.trans (kp_yes (rd := rdD) (r := [x1, x2, x3]) rfl h1 h2 h3)
  simp only [List.getD_cons_zero, List.getD_cons_succ] at hR1 hR2 hR3 hR4
  have HR1 := Lib.hid hR1
  have HR2 := Lib.hid hR2
  have HR3 := Lib.hid hR3
  have HR4 := Lib.hid hR4
  clear hR1 hR2 hR3 hR4 hR hA hl hcell
  generalize numX x2 = z2 at *
  generalize numX x3 = z3 at *
  generalize (⟨x1.toArray⟩ : ByteArray) = y1 at *
  generalize (⟨x2.toArray⟩ : ByteArray) = y2 at *
  generalize (⟨x3.toArray⟩ : ByteArray) = y3 at *
  clear hq0 hn0 hn h3
  by_cases hx1 : x1 = [99, 110, 102]
  case neg =>
    rw [decide_eq_false hx1] at t1
    have HR := Lib.hid (HR1.out hx1)
    clear hx1
    go_enter Tryz.func44, Tryz.ntmps44
    go_wp2_with fail
    go_ret
    exact ⟨by rw [HR.out]; rfl, Below.refl _ _⟩
  rw [decide_eq_true hx1] at t1
  have HX1 := Lib.hid hx1
  have k2 := K2.out
  clear hx1
  go_enter Tryz.func44, Tryz.ntmps44
  go_wp2_with fail
  refine (N2 w).mono ?_
  rintro e w2 ⟨rfl, hB⟩
  have HB2 := Lib.hid hB
  have k3 := below_cell hB hb0 K3.out
  clear hB N2 k0 k1 k2
  by_cases hz2 : 0 ≤ z2
  case neg =>
    have HR := Lib.hid (HR2.out (by omega))
    have hd : decide (0 ≤ z2) = false := decide_eq_false hz2
    have hd2 : decide (z2 ≥ 0) = false := hd
    go_wp2_with fail
    go_ret
    exact ⟨by rw [HR.out]; rfl, HB2.out⟩
  have hd : decide (0 ≤ z2) = true := decide_eq_true hz2
  go_wp2_with fail
  refine (N3 w2).mono ?_
  rintro e w3 ⟨rfl, hB⟩
  have HB3 := Lib.hid (HB2.out.trans (hB.mono HB2.out.size))
  clear hB N3 k3
  by_cases hz3 : 0 ≤ z3
  case neg =>
    have HR := Lib.hid (HR3.out (by omega))
    have hd3 : decide (0 ≤ z3) = false := decide_eq_false hz3
    go_wp2_with fail
    go_ret
    exact ⟨by rw [HR.out]; rfl, HB3.out⟩
  have HR := Lib.hid (HR4.out HX1.out hz2 hz3)
  have hd3 : decide (0 ≤ z3) = true := decide_eq_true hz3
  go_wp2_with fail
  go_ret
  exact ⟨by rw [HR.out]; rfl, HB3.out⟩
end Go.Proofs.YtajjgfiojlagmaaGreatDoor

/- The reference's kind, of a comment. -/
namespace Go.Proofs.YtajjgfiojlagmaaGreatDoor
open Go.RowKit Num

set_option maxHeartbeats 3200000 in
set_option maxRecDepth 100000 in
theorem xKindC (r : List (List UInt8)) (hl : ∀ x ∈ r, x.length ≤ 1000000) (hn : r.length ≤ 1100000) (w : World) (a : Option Addr) (c : Nat) (hA : AtN w.heap.size w a (strs ([99] :: r))) :
    Calls Tryz.prog 44 #[.slice a ([99] :: r).length c] w fun e w' => e = .returned (.int .i64 (kindD rdD ([99] :: r))) ∧ Below w.heap.size w w' := by
  obtain ⟨R, hR⟩ : ∃ R, R = kindD rdD ([99] :: r) := ⟨_, rfl⟩
  rw [← hR]
  have HRK := Lib.hid hR
  obtain ⟨b0, o0, hb0, rfl, k0⟩ := hA 0 _ (strs_get ([99] :: r) 0 _ rfl)
  rw [Nat.add_zero] at k0
  have hcell : ∀ (i : Nat) (x : List UInt8), (([99] : List UInt8) :: r)[i]? = some x → w.cell? ⟨b0, o0 + i, none⟩ = some (.string ⟨x.toArray⟩) := fun i x hi => by
    obtain ⟨_, _, _, e, k⟩ := hA i _ (strs_get _ i x hi)
    cases e
    exact k
  have HC := Lib.hid hcell
  have HLN := Lib.hid hl
  have t0 := lit_both [99] [112]
  have s0 := lit_both [99] [99]
  rw [decide_eq_false (show ¬ ([99] : List UInt8) = [112] by decide)] at t0
  rw [decide_eq_true (show ([99] : List UInt8) = [99] from rfl)] at s0
  obtain ⟨n, hnn⟩ : ∃ n, n = (([99] : List UInt8) :: r).length := ⟨_, rfl⟩
  rw [← hnn]
  have HNR := Lib.hid (show n = r.length + 1 from hnn)
  generalize (⟨([99] : List UInt8).toArray⟩ : ByteArray) = y0 at *
  have hn0 : 0 < n := by rw [HNR.out]; omega
  have hq0 : ((n : Int) == 0) = false := beq_no (by omega)
  have hnb : n ≤ 1100001 := by rw [HNR.out]; omega
  clear hnn hA hl hcell hR hn
  by_cases h3 : n < 3
  · have hd : decide (n < 3) = true := decide_eq_true h3
    have hd2 : decide ((n : Int) < 3) = true := decide_eq_true (by omega)
    have HR := Lib.hid (show R = 0 from HRK.out.trans (kc_0 (.inl (by have := HNR.out; omega))))
    go_enter Tryz.func44, Tryz.ntmps44
    go_wp2_with fail
    go_ret
    exact ⟨by rw [HR.out]; rfl, Below.refl _ _⟩
  have hd : decide (n < 3) = false := decide_eq_false h3
  have hd2 : decide ((n : Int) < 3) = false := decide_eq_false (by omega)
  obtain ⟨p, rfl⟩ : ∃ p, n = p + 3 := ⟨n - 3, by omega⟩
  have hrl : r.length = p + 2 := by have := HNR.out; omega
  have HRL := Lib.hid hrl
  obtain ⟨x1, hx1⟩ : ∃ x1, r[0]? = some x1 := ⟨_, List.getElem?_eq_getElem (show 0 < r.length by omega)⟩
  obtain ⟨x2, hx2⟩ : ∃ x2, r[1]? = some x2 := ⟨_, List.getElem?_eq_getElem (show 1 < r.length by omega)⟩
  obtain ⟨xl, hxl⟩ : ∃ xl, r[p + 1]? = some xl := ⟨_, List.getElem?_eq_getElem (show p + 1 < r.length by omega)⟩
  have k1 := HC.out 1 x1 (by simpa using hx1)
  have k2 := HC.out 2 x2 (by simpa using hx2)
  have kl : w.cell? ⟨b0, o0 + (p + 2), none⟩ = some (.string ⟨xl.toArray⟩) := HC.out (p + 2) xl (by simpa using hxl)
  have g1 : r.getD 0 [] = x1 := by simp [List.getD, hx1]
  have g2 : r.getD 1 [] = x2 := by simp [List.getD, hx2]
  have gl : r.getD (r.length - 1) [] = xl := by rw [hrl, show p + 2 - 1 = p + 1 by omega]; simp [List.getD, hxl]
  have G1 := Lib.hid g1
  have G2 := Lib.hid g2
  have GL := Lib.hid gl
  have t1 := lit_both x1 [112]
  have t2 := lit_both x2 showW
  have t3 := lit_both x2 weightW
  have t4 := lit_both xl [48]
  unfold showW at t2
  unfold weightW at t3
  clear hrl hx1 hx2 hxl g1 g2 gl
  generalize hy1 : (⟨x1.toArray⟩ : ByteArray) = y1 at *
  generalize hy2 : (⟨x2.toArray⟩ : ByteArray) = y2 at *
  generalize hyl : (⟨xl.toArray⟩ : ByteArray) = yl at *
  clear hy1 hy2 hyl
  by_cases h1 : x1 = [112]
  case neg =>
    rw [decide_eq_false h1] at t1
    have HR := Lib.hid (show R = 0 from HRK.out.trans (kc_0 (.inr (.inl (by rw [G1.out]; exact h1)))))
    clear t2 t3 t4 h1
    go_enter Tryz.func44, Tryz.ntmps44
    go_wp2_with fail
    go_ret
    exact ⟨by rw [HR.out]; rfl, Below.refl _ _⟩
  rw [decide_eq_true h1] at t1
  by_cases h2 : x2 ≠ showW ∧ x2 ≠ weightW
  · rw [decide_eq_false (show ¬ x2 = [115, 104, 111, 119] from h2.1)] at t2
    rw [decide_eq_false (show ¬ x2 = [119, 101, 105, 103, 104, 116] from h2.2)] at t3
    have HR := Lib.hid (show R = 0 from HRK.out.trans (kc_0 (.inr (.inr (by rw [G2.out]; exact h2)))))
    clear t4 h1 h2
    go_enter Tryz.func44, Tryz.ntmps44
    go_wp2_with fail
    go_ret
    exact ⟨by rw [HR.out]; rfl, Below.refl _ _⟩
  have hno : ¬ (r.length < 2 ∨ r.getD 0 [] ≠ [112] ∨ (r.getD 1 [] ≠ showW ∧ r.getD 1 [] ≠ weightW)) := by
    rw [G1.out, G2.out, HRL.out]
    rintro (h | h | h)
    · omega
    · exact h h1
    · exact h2 h
  have HNO := Lib.hid hno
  have h2' : x2 = showW ∨ x2 = weightW := by
    by_cases h : x2 = showW
    · exact .inl h
    · exact .inr (Decidable.not_not.1 fun h' => h2 ⟨h, h'⟩)
  have H2 := Lib.hid h2'
  clear hno h2 h2' h1
  by_cases h4 : xl = [48]
  case neg =>
    rw [decide_eq_false h4] at t4
    have HR := Lib.hid (show R = -1 from HRK.out.trans (kc_n HNO.out (.inl (by rw [GL.out]; exact h4))))
    clear h4
    rcases H2.out with hs | hs
    · rw [decide_eq_true (show x2 = [115, 104, 111, 119] from hs)] at t2
      clear t3 hs
      go_enter Tryz.func44, Tryz.ntmps44
      go_wp2_with fail
      go_ret
      exact ⟨by rw [HR.out]; rfl, Below.refl _ _⟩
    · have hs2 : ¬ x2 = [115, 104, 111, 119] := by rw [hs]; decide
      rw [decide_eq_false hs2] at t2
      rw [decide_eq_true (show x2 = [119, 101, 105, 103, 104, 116] from hs)] at t3
      clear hs hs2
      go_enter Tryz.func44, Tryz.ntmps44
      go_wp2_with fail
      go_ret
      exact ⟨by rw [HR.out]; rfl, Below.refl _ _⟩
  rw [decide_eq_true h4] at t4
  by_cases h5 : p = 0
  · subst h5
    exfalso
    have e : x2 = xl := by
      have e1 := G2.out
      have e2 := GL.out
      rw [HRL.out] at e2
      exact e1.symm.trans e2
    rcases H2.out with hs | hs <;> (rw [e, h4] at hs; revert hs; decide)
  obtain ⟨q, rfl⟩ : ∃ q, p = q + 1 := ⟨p - 1, by omega⟩
  have hB : ¬ (r.getD (r.length - 1) [] ≠ [48] ∨ r.length < 3) := by
    rw [GL.out, HRL.out]
    rintro (h | h)
    · exact h h4
    · omega
  have HBB := Lib.hid hB
  clear hB h4 h5
  rcases H2.out with hs | hs
  · -- shown variables
    rw [decide_eq_true (show x2 = [115, 104, 111, 119] from hs)] at t2
    obtain ⟨Z, hZ⟩ : ∃ Z, Z = (r.take (r.length - 1)).drop 2 := ⟨_, rfl⟩
    have HR2 := Lib.hid (show R = if Z.any (fun x => decide (numX x < 1)) = true then -1 else 2 by rw [hZ]; exact HRK.out.trans (kc_s HNO.out HBB.out (by rw [G2.out]; exact hs)))
    have HZL := Lib.hid (show Z.length = q by rw [hZ, List.length_drop, List.length_take, HRL.out]; omega)
    have HZA := Lib.hid (show ∀ (j : Nat) (x : List UInt8), Z[j]? = some x → w.cell? ⟨b0, o0 + (j + 3), none⟩ = some (.string ⟨x.toArray⟩) ∧ x.length ≤ 1000000 from fun j x hj => by
      have hj2 : r[j + 2]? = some x := by
        rw [hZ, List.getElem?_drop, List.getElem?_take] at hj
        split at hj
        · rw [Nat.add_comm]; exact hj
        · cases hj
      exact ⟨HC.out (j + 3) x (by simpa using hj2), HLN.out x (List.mem_of_getElem? hj2)⟩)
    clear t3 hs hZ HRK HC HLN G1 G2 GL HNO H2 HBB
    go_enter Tryz.func44, Tryz.ntmps44
    go_wp2_with fail
    go_loopw [3] (fun t3 wr => ∃ j : Nat, j ≤ q ∧ t3 = .int .i64 (j + 3 : Nat) ∧ Hid (∀ y ∈ Z.take j, ¬ numX y < 1) ∧ Hid (Below w.heap.size w wr)) (fun t3 _ => (q + 3) - (intOf t3).toNat)
    case atStart => exact ⟨0, Nat.zero_le _, rfl, by simp [Hid], Below.refl _ _⟩
    case round =>
      obtain ⟨j, hj, rfl, HZ, HB⟩ := hrel
      have hq2 := HZL.out
      by_cases hlt : j < q
      · have hyy : Z[j]? = some (Z.getD j []) := by simp [List.getD, show j < Z.length by omega]
        have HT := Lib.hid (take_one hyy)
        have HM := Lib.hid (List.mem_of_getElem? hyy)
        obtain ⟨kz, hzl⟩ := HZA.out j _ hyy
        have kz2 := below_cell HB.out hb0 kz
        have KN := xNumber (Z.getD j []) (by omega)
        have hin := numX_in (Z.getD j [])
        have hdd : decide (j + 3 < q + 1 + 3 - 1) = true := decide_eq_true (by omega)
        generalize Z.getD j [] = x at *
        generalize (⟨x.toArray⟩ : ByteArray) = y at *
        have HZ9 := Lib.hid (show ¬ numX x < 1 → ∀ z ∈ Z.take (j + 1), ¬ numX z < 1 from fun h z hz => by
          rw [HT.out] at hz
          rcases List.mem_append.1 hz with hz | hz
          · exact HZ.out z hz
          · rw [List.mem_singleton.1 hz]; exact h)
        have HR9 := Lib.hid (show numX x < 1 → R = -1 from fun h => HR2.out.trans (if_pos (List.any_eq_true.2 ⟨x, HM.out, by simpa using h⟩)))
        generalize numX x = z at *
        clear kz hyy hq2
        have hlt2 : ((j : Int) + 3) < (q : Int) + 3 := by omega
        go_wp2_with fail
        refine (KN wr).mono ?_
        rintro e w2 ⟨rfl, hB⟩
        have HB2 := Lib.hid (HB.out.trans (hB.mono HB.out.size))
        clear hB KN kz2
        by_cases hz1 : z < 1
        · have HR := Lib.hid (HR9.out hz1)
          have hd9 : decide (z < 1) = true := decide_eq_true hz1
          go_wp2_with fail
          go_ret
          exact ⟨by rw [HR.out]; rfl, HB2.out⟩
        · have hd9 : decide (z < 1) = false := decide_eq_false hz1
          have HZ0 := Lib.hid (HZ9.out (by omega))
          go_wp2_with fail
          go_roundw
          case rel => exact ⟨j + 1, by omega, by omega, fun y hy => by have := HZ0.out y hy; omega⟩
          case measure => simp [intOf]; omega
      · obtain rfl : j = q := by omega
        have HR := Lib.hid (show R = 2 from HR2.out.trans (if_neg (by
          rw [List.any_eq_true]
          rintro ⟨y, hy, hy1⟩
          exact HZ.out y (by rw [← hq2, List.take_length]; exact hy) (by simpa using hy1))))
        clear hq2
        go_wp2_with fail
        go_ret
        exact ⟨by rw [HR.out]; rfl, HB.out⟩
  · -- a weight
    have hs1 : ¬ x2 = [115, 104, 111, 119] := by rw [hs]; decide
    rw [decide_eq_false hs1] at t2
    rw [decide_eq_true (show x2 = [119, 101, 105, 103, 104, 116] from hs)] at t3
    have hr2 := HRK.out.trans (kc_w (rd := rdD) HNO.out HBB.out (by rw [G2.out]; exact hs1))
    clear hs hs1
    by_cases hq2 : q = 2
    case neg =>
      have HR := Lib.hid (show R = -1 from hr2.trans (if_pos (.inl (by rw [HRL.out]; omega))))
      have hq6 : (((q : Int) + 1 + 3) != 6) = true := by simp [bne, beq_no (show (q : Int) + 1 + 3 ≠ 6 by omega)]
      clear hr2 hq2 HRK HC HLN G1 G2 GL HNO HBB H2
      go_enter Tryz.func44, Tryz.ntmps44
      go_wp2_with fail
      go_ret
      exact ⟨by rw [HR.out]; rfl, Below.refl _ _⟩
    subst hq2
    obtain ⟨x3, hx3⟩ : ∃ x3, r[2]? = some x3 := ⟨_, List.getElem?_eq_getElem (show 2 < r.length by rw [HRL.out]; omega)⟩
    obtain ⟨x4, hx4⟩ : ∃ x4, r[3]? = some x4 := ⟨_, List.getElem?_eq_getElem (show 3 < r.length by rw [HRL.out]; omega)⟩
    have k3 := HC.out 3 x3 (by simpa using hx3)
    have K4 := Lib.hid (HC.out 4 x4 (by simpa using hx4))
    have g3 : r.getD 2 [] = x3 := by simp [List.getD, hx3]
    have g4 : r.getD 3 [] = x4 := by simp [List.getD, hx4]
    have hl5 : r.length = 5 := HRL.out
    rw [g3, g4, hl5] at hr2
    have HR2 := Lib.hid hr2
    have KL := xLiteral x3 (by have := HLN.out x3 (List.mem_of_getElem? hx3); omega)
    have KR := gXRatRead ⟨x4.toArray⟩ (by rw [ba_size]; exact HLN.out x4 (List.mem_of_getElem? hx4))
    have hrd : rdD x4 = (ratRead ⟨x4.toArray⟩).isSome := rfl
    obtain ⟨u1, u2, hxr⟩ : ∃ u1 u2, xratV ((ratRead ⟨x4.toArray⟩).getD (0, 1)) = .agg #[.string u1, .string u2] := ⟨_, _, rfl⟩
    rw [hxr] at KR
    have hlit := litD_in x3
    clear hr2 hx3 hx4 g3 g4 hl5 hxr HRK HC HLN G1 G2 GL HNO HBB H2 HRL
    rw [hrd] at HR2
    clear hrd
    generalize (ratRead ⟨x4.toArray⟩).isSome = ok at *
    generalize litD x3 = z at *
    generalize (⟨x3.toArray⟩ : ByteArray) = y3 at *
    generalize (⟨x4.toArray⟩ : ByteArray) = y4 at *
    go_enter Tryz.func44, Tryz.ntmps44
    go_wp2_with fail
    refine (KL w).mono ?_
    rintro e w2 ⟨rfl, hB⟩
    have HB := Lib.hid hB
    have k4 := below_cell hB hb0 K4.out
    clear hB KL k0 k1 k2 k3 kl
    by_cases hz : z = 0
    · have hz2 : (z == 0) = true := by simp [hz]
      have HR := Lib.hid (show R = -1 from HR2.out.trans (if_pos (.inr hz)))
      clear hz HR2
      go_wp2_with fail
      go_ret
      exact ⟨by rw [HR.out]; rfl, HB.out⟩
    have hz2 : (z == 0) = false := beq_no hz
    have HR3 := Lib.hid (HR2.out.trans (if_neg (by rintro (h | h); exact h rfl; exact hz h)))
    clear hz HR2
    go_wp2_with fail
    refine (KR w2).mono ?_
    rintro e w3 ⟨rfl, hB⟩
    have HB3 := Lib.hid (HB.out.trans (hB.mono HB.out.size))
    clear hB KR k4
    cases ok with
    | false =>
      have HR := Lib.hid (show R = -1 from HR3.out.trans (if_pos rfl))
      clear HR3
      go_wp2_with fail
      go_ret
      exact ⟨by rw [HR.out]; rfl, (HB3.out.alloc HB3.out.size _)⟩
    | true =>
      have HR := Lib.hid (show R = 3 from HR3.out.trans (if_neg (by simp)))
      clear HR3
      go_wp2_with fail
      go_ret
      exact ⟨by rw [HR.out]; rfl, (HB3.out.alloc HB3.out.size _)⟩
end Go.Proofs.YtajjgfiojlagmaaGreatDoor

/- The reference's kind, of literals; and of any line. -/
namespace Go.Proofs.YtajjgfiojlagmaaGreatDoor
open Go.RowKit

set_option maxHeartbeats 3200000 in
set_option maxRecDepth 100000 in
theorem xKindL (w0 : List UInt8) (r : List (List UInt8)) (hw0 : ¬ w0 = [112]) (hw1 : ¬ w0 = [99]) (hl : ∀ x ∈ w0 :: r, x.length ≤ 1000000) (hn : r.length ≤ 1100000) (w : World) (a : Option Addr) (c : Nat) (hA : AtN w.heap.size w a (strs (w0 :: r))) :
    Calls Tryz.prog 44 #[.slice a (w0 :: r).length c] w fun e w' => e = .returned (.int .i64 (kindD rdD (w0 :: r))) ∧ Below w.heap.size w w' := by
  obtain ⟨R, hR⟩ : ∃ R, R = kindD rdD (w0 :: r) := ⟨_, rfl⟩
  rw [← hR]
  have HRK := Lib.hid (hR.trans (kind_l rdD r hw0 hw1))
  have HA := Lib.hid hA
  obtain ⟨b0, o0, hb0, rfl, k0⟩ := hA 0 _ (strs_get (w0 :: r) 0 _ rfl)
  rw [Nat.add_zero] at k0
  have t0 := lit_both w0 [112]
  have t1 := lit_both w0 [99]
  rw [decide_eq_false hw0] at t0
  rw [decide_eq_false hw1] at t1
  obtain ⟨W, hW⟩ : ∃ W, W = w0 :: r := ⟨_, rfl⟩
  rw [← hW] at HA HRK hl ⊢
  have hn0 : 0 < W.length := by rw [hW]; simp
  have hnb : W.length ≤ 1100001 := by rw [hW]; simp; omega
  have HLN := Lib.hid hl
  generalize (⟨w0.toArray⟩ : ByteArray) = y0 at *
  have hq0 : ((W.length : Int) == 0) = false := beq_no (by omega)
  clear hR hA hW hl hw0 hw1 hn
  go_enter Tryz.func44, Tryz.ntmps44
  go_wp2_with fail
  go_loopw [6] (fun t6 wr => ∃ j : Nat, j ≤ W.length ∧ t6 = .int .i64 j ∧ Hid (∀ y ∈ W.take j, ¬ (litD y = 0 ∧ y ≠ [48])) ∧ Hid (Below w.heap.size w wr)) (fun t6 _ => W.length - (intOf t6).toNat)
  case atStart => exact ⟨0, Nat.zero_le _, rfl, by simp [Hid], Below.refl _ _⟩
  case round =>
    obtain ⟨j, hj, rfl, HZ, HB⟩ := hrel
    by_cases hlt : j < W.length
    · have hdd : decide (j < W.length) = true := by simpa using hlt
      have hyy : W[j]? = some (W.getD j []) := by simp [List.getD, hlt]
      have HT := Lib.hid (take_one hyy)
      have HM := Lib.hid (List.mem_of_getElem? hyy)
      obtain ⟨b1, o1, hb1, e1, k1⟩ := HA.out _ _ (strs_get _ _ _ hyy)
      cases e1
      have d1 := below_cell HB.out hb0 k1
      have hxl := HLN.out _ (List.mem_of_getElem? hyy)
      have KL := xLiteral (W.getD j []) (by omega)
      have t4 := lit_both (W.getD j []) [48]
      have hlit := litD_in (W.getD j [])
      have HZ9 := Lib.hid (show ¬ (litD (W.getD j []) = 0 ∧ W.getD j [] ≠ [48]) → ∀ y ∈ W.take (j + 1), ¬ (litD y = 0 ∧ y ≠ [48]) from fun h z hz => by
        rw [HT.out] at hz
        rcases List.mem_append.1 hz with hz | hz
        · exact HZ.out z hz
        · rw [List.mem_singleton.1 hz]; exact h)
      have HR9 := Lib.hid (show litD (W.getD j []) = 0 → W.getD j [] ≠ [48] → R = -1 from fun h h2 => HRK.out.trans (if_pos (List.any_eq_true.2 ⟨_, HM.out, by rw [decide_eq_true h, decide_eq_true h2]; rfl⟩)))
      generalize W.getD j [] = x at *
      generalize (⟨x.toArray⟩ : ByteArray) = y at *
      generalize litD x = z at *
      clear k1 hyy
      by_cases hx : x = [48]
      · rw [decide_eq_true hx] at t4
        have HZ0 := Lib.hid (HZ9.out (fun h => h.2 hx))
        clear hx
        go_wp2_with fail
        go_roundw
        case rel => exact ⟨j + 1, by omega, by go_num, HZ0.out, HB.out⟩
        case measure => simp [intOf]; omega
      · rw [decide_eq_false hx] at t4
        have HX := Lib.hid hx
        clear hx
        go_wp2_with fail
        refine (KL wr).mono ?_
        rintro e w2 ⟨rfl, hB⟩
        have HB2 := Lib.hid (HB.out.trans (hB.mono HB.out.size))
        clear hB KL d1
        by_cases hz : z = 0
        · have hz2 : (z == 0) = true := by simp [hz]
          have HR := Lib.hid (HR9.out hz HX.out)
          clear hz
          go_wp2_with fail
          go_ret
          exact ⟨by rw [HR.out]; rfl, HB2.out⟩
        · have hz2 : (z == 0) = false := beq_no hz
          have HZ0 := Lib.hid (HZ9.out (fun h => hz h.1))
          clear hz
          go_wp2_with fail
          go_roundw
          case rel => exact ⟨j + 1, by omega, by go_num, HZ0.out, HB2.out⟩
          case measure => simp [intOf]; omega
    · obtain rfl : j = W.length := by omega
      have hdd : decide (W.length < W.length) = false := by simp
      have HR := Lib.hid (show R = 4 from HRK.out.trans (if_neg (fun h => by
        obtain ⟨y, hy, e⟩ := List.any_eq_true.1 h
        simp only [Bool.and_eq_true, decide_eq_true_eq] at e
        exact HZ.out y (by rw [List.take_length]; exact hy) e)))
      go_wp2_with fail
      go_ret
      exact ⟨by rw [HR.out]; rfl, HB.out⟩

set_option maxHeartbeats 1600000 in
set_option maxRecDepth 100000 in
theorem xKind (W : List (List UInt8)) (hl : ∀ x ∈ W, x.length ≤ 1000000) (hn : W.length ≤ 1100000) (w : World) (a : Option Addr) (c : Nat) (hA : AtN w.heap.size w a (strs W)) :
    Calls Tryz.prog 44 #[.slice a W.length c] w fun e w' => e = .returned (.int .i64 (kindD rdD W)) ∧ Below w.heap.size w w' := by
  cases W with
  | nil =>
    go_enter Tryz.func44, Tryz.ntmps44
    go_wp2_with fail
    go_ret
    exact ⟨rfl, Below.refl _ _⟩
  | cons w0 r =>
    have hl2 : ∀ x ∈ r, x.length ≤ 1000000 := fun x hx => hl x (List.mem_cons_of_mem _ hx)
    rw [List.length_cons] at hn
    by_cases h1 : w0 = [112]
    · subst h1; exact xKindP r hl2 (by omega) w a c hA
    by_cases h2 : w0 = [99]
    · subst h2; exact xKindC r hl2 (by omega) w a c hA
    · exact xKindL w0 r h1 h2 hl (by omega) w a c hA
end Go.Proofs.YtajjgfiojlagmaaGreatDoor
