/- Texts of this claim, joined: D17, D18, D19, D20, D14. -/
import Derived.Test.YtfleacdnkpckbaaDoorMP25
import Derived.Deep.DeepCutAuto
import Derived.KernelRfl

/- The reference's Same, at two equal files. -/
namespace Go.Proofs.YtfleacdnkpckbaaDoor
open Go.RowKit

def ClsAt (N : Nat) (w : World) (a : Option Addr) (L : List (List Int)) : Prop := ∀ i xs, L[i]? = some xs → ∃ b o p c, b < N ∧ a = some ⟨b, o, none⟩ ∧ w.cell? ⟨b, o + i, none⟩ = some (.slice p xs.length c) ∧ AtN N w p (ints xs)
theorem ClsAt.below {N M : Nat} {w w' : World} {a : Option Addr} {L : List (List Int)} (h : ClsAt N w a L) (hb : Below M w w') (hM : N ≤ M) : ClsAt N w' a L := fun i xs hi => by
  obtain ⟨b, o, p, c, h1, ha, hc, hx⟩ := h i xs hi
  exact ⟨b, o, p, c, h1, ha, below_cell hb (by omega) hc, hx.below hb hM⟩
theorem ClsAt.mono {N M : Nat} {w : World} {a : Option Addr} {L : List (List Int)} (h : ClsAt N w a L) (hM : N ≤ M) : ClsAt M w a L := fun i xs hi => by
  obtain ⟨b, o, p, c, h1, ha, hc, hx⟩ := h i xs hi
  exact ⟨b, o, p, c, by omega, ha, hc, hx.mono hM⟩
structure FileAt (N : Nat) (w : World) (aL aS aW : Option Addr) (L : List (List Int)) (sh : List Int) (ws : List (Int × List UInt8)) : Prop where
  l : ClsAt N w aL L
  s : AtN N w aS (ints sh)
  w : AtN N w aW (wts ws)
theorem FileAt.below {N M : Nat} {w w' : World} {aL aS aW : Option Addr} {L : List (List Int)} {sh : List Int} {ws : List (Int × List UInt8)} (h : FileAt N w aL aS aW L sh ws) (hb : Below M w w') (hM : N ≤ M) : FileAt N w' aL aS aW L sh ws :=
  ⟨h.l.below hb hM, h.s.below hb hM, h.w.below hb hM⟩
theorem FileAt.mono {N M : Nat} {w : World} {aL aS aW : Option Addr} {L : List (List Int)} {sh : List Int} {ws : List (Int × List UInt8)} (h : FileAt N w aL aS aW L sh ws) (hM : N ≤ M) : FileAt M w aL aS aW L sh ws :=
  ⟨h.l.mono hM, h.s.mono hM, h.w.mono hM⟩

set_option maxHeartbeats 3200000 in
set_option maxRecDepth 100000 in
theorem xSameInts (xs : List Int) (N : Nat) (a b : Option Addr) (c d : Nat) (hl : xs.length ≤ 100000000) (w : World) (hA : AtN N w a (ints xs)) (hB : AtN N w b (ints xs)) (hw : N ≤ w.heap.size) :
    Calls Tryd.prog 18 #[.slice a xs.length c, .slice b xs.length d] w fun e w' => e = .returned (.bool true) ∧ Below w.heap.size w w' := by
  have HA := Lib.hid hA
  have HBB := Lib.hid hB
  clear hA hB
  go_enter Tryd.func18, Tryd.ntmps18
  go_wp2_with fail
  go_loopw [5] (fun t5 wr => ∃ j : Nat, j ≤ xs.length ∧ t5 = .int .i64 j ∧ Hid (Below w.heap.size w wr)) (fun t5 _ => xs.length - (intOf t5).toNat)
  case atStart => exact ⟨0, Nat.zero_le _, rfl, Below.refl _ _⟩
  case round =>
    obtain ⟨j, hj, rfl, HB⟩ := hrel
    have hsr := HB.out.size
    by_cases hlt : j < xs.length
    · have hdd : decide (j < xs.length) = true := by simpa using hlt
      have hyy : xs[j]? = some (xs.getD j 0) := by simp [List.getD, hlt]
      obtain ⟨b1, o1, hb1, e1, k1⟩ := HA.out _ _ (ints_get _ _ _ hyy)
      obtain ⟨b2, o2, hb2, e2, k2⟩ := HBB.out _ _ (ints_get _ _ _ hyy)
      subst e1 e2
      have d1 := Lib.hid (below_cell HB.out (show b1 < w.heap.size by omega) k1)
      have d2 := Lib.hid (below_cell HB.out (show b2 < w.heap.size by omega) k2)
      generalize xs.getD j 0 = y at *
      clear k1 k2 hyy
      go_upto_region 6 with fail
      refine wp_game (List.replicate 9 0) [] B0 fin_B0 (has_B0 _) (by kernel_rfl) (by kernel_rfl) ?_
      refine lex_quietE 9 (by kernel_rfl) (by rfl) ?_
      apply Exists.intro
      refine ⟨fun z hz1 => ?_, ?_⟩
      · have hzb := hz1.below
        have g1 := below_cellp hzb d1.out (by omega)
        have g2 := below_cellp hzb d2.out (by omega)
        clear hz1
        simp only [List.take_succ_cons, List.take_zero]
        unfold Cx
        repeat (go_big_quiet_step (fail))
        exact wpQuiet_nil rfl
      simp only [List.drop_succ_cons, List.drop_zero]
      refine lex_nil ?_
      intro x2 hx2 _
      have HBf := Lib.hid (HB.out.trans (hx2.below.mono HB.out.size))
      clear hx2
      go_wp2_with fail
      go_roundw
      case rel => exact ⟨j + 1, by omega, by go_num, HBf.out⟩
      case measure => simp [intOf]; omega
    · obtain rfl : j = xs.length := by omega
      have hdd : decide (xs.length < xs.length) = false := by simp
      go_wp2_with fail
      go_ret
      exact ⟨rfl, HB.out⟩

set_option maxHeartbeats 3200000 in
set_option maxRecDepth 100000 in
theorem xSameTheory (n : Int) (L : List (List Int)) (a b : Option Addr) (c d : Nat) (hl : L.length ≤ 100000000) (hll : ∀ xs ∈ L, xs.length ≤ 100000000) (w : World) (hA : ClsAt w.heap.size w a L) (hB : ClsAt w.heap.size w b L) :
    Calls Tryd.prog 17 #[.agg #[.int .i64 n, .slice a L.length c], .agg #[.int .i64 n, .slice b L.length d]] w fun e w' => e = .returned (.bool true) ∧ Below w.heap.size w w' := by
  have HLL := Lib.hid hll
  have HA0 := Lib.hid hA
  have HB0 := Lib.hid hB
  have hne : (n != n) = false := by simp
  clear hA hB hll
  go_enter Tryd.func17, Tryd.ntmps17
  go_wp2_with fail
  refine wp_gen ?_
  intro w2 hw2
  have hB2 : Below w.heap.size w w2 := by rw [hw2]; exact below_two _ _ _
  have m2 : w2.heap[w.heap.size]? = some (.cells #[.int .i64 n, .slice a L.length c] 25 (0, 0)) := by rw [hw2]; exact new_two1 _ _ _
  have m3 : w2.heap[w.heap.size + 1]? = some (.cells #[.int .i64 n, .slice b L.length d] 25 (0, 0)) := by rw [hw2]; exact new_two2 _ _ _
  clear hw2
  have hl2 := lt_of_heap m2
  have hl3 := lt_of_heap m3
  have c20 := Lib.hid (blk_cell m2 0 rfl)
  have C21 := Lib.hid (blk_cell m2 1 rfl)
  have C31 := Lib.hid (blk_cell m3 1 rfl)
  have HA := Lib.hid ((HA0.out.below hB2 (Nat.le_refl _)).mono hB2.size)
  have HB := Lib.hid ((HB0.out.below hB2 (Nat.le_refl _)).mono hB2.size)
  have HB2 := Lib.hid hB2
  clear m2 m3 HA0 HB0 hB2
  go_loopw [5] (fun i wr => ∃ j : Nat, j ≤ L.length ∧ i = .int .i64 j ∧ Hid (Below w2.heap.size w2 wr)) (fun i _ => L.length - (intOf i).toNat)
  case atStart => exact ⟨0, Nat.zero_le _, rfl, Below.refl _ _⟩
  case round =>
    obtain ⟨j, hj, rfl, HBR⟩ := hrel
    have d21 := below_cell HBR.out hl2 C21.out
    by_cases hlt : j < L.length
    · have hd : decide (j < L.length) = true := by simpa using hlt
      obtain ⟨xs, hxs⟩ : ∃ xs, L[j]? = some xs := ⟨_, List.getElem?_eq_getElem hlt⟩
      have hxl := HLL.out xs (List.mem_of_getElem? hxs)
      obtain ⟨b1, o1, pa1, pc1, hb1, rfl, k1, hx1⟩ := HA.out j xs hxs
      obtain ⟨b2, o2, pa2, pc2, hb2, rfl, k2, hx2⟩ := HB.out j xs hxs
      have K1 := Lib.hid k1
      have K2 := Lib.hid k2
      have KS : ∀ z : World, Below w2.heap.size w2 z → GivesFrom z 18 #[.slice pa1 xs.length pc1, .slice pa2 xs.length pc2] (.bool true) := fun z hz w' hb =>
        xSameInts xs z.heap.size pa1 pa2 pc1 pc2 hxl w' (((hx1.below hz (Nat.le_refl _)).mono hz.size).below hb (Nat.le_refl _)) (((hx2.below hz (Nat.le_refl _)).mono hz.size).below hb (Nat.le_refl _)) hb.size
      have HKS := Lib.hid KS
      clear hxs k1 k2 hx1 hx2 KS
      go_wp2_with fail
      clear d21
      refine wp_game [0, 0, 0, 0, 0, 0, 0, 0, 0, 0, 0, 0] [] B0 fin_B0 (has_B0 _) (by kernel_rfl) (by kernel_rfl) ?_
      refine lex_quietE 12 (by kernel_rfl) (by rfl) ?_
      apply Exists.intro
      refine ⟨fun z hz => ?_, ?_⟩
      · have hwz := HBR.out.trans (hz.below_of (b := w2.heap.size) (by simp) HBR.out.size)
        have g0 := below_cellp hwz K1.out hb1
        have g1 := below_cellp hwz K2.out hb2
        have g2 := below_cellp hwz C21.out hl2
        have g3 := below_cellp hwz C31.out hl3
        have KSz := HKS.out z hwz
        clear hz hwz
        simp only [List.take_succ_cons, List.take_zero]
        unfold Cx
        repeat (go_big_quiet_step (with_reducible exact KSz.at _))
        exact wpQuiet_nil rfl
      simp only [List.drop_succ_cons, List.drop_zero]
      refine lex_nil ?_
      intro x7 hx7 _
      have HB7 := Lib.hid (HBR.out.trans (hx7.below_of (b := w2.heap.size) (by simp) HBR.out.size))
      clear hx7 HBR K1 K2 HKS
      go_wp2_with fail
      go_roundw
      case rel => exact ⟨j + 1, by omega, by go_num, HB7⟩
      case measure => simp [intOf]; omega
    · obtain rfl : j = L.length := by omega
      go_wp2_with fail
      go_ret
      exact ⟨rfl, HB2.out.trans (HBR.out.mono HB2.out.size)⟩

set_option maxHeartbeats 3200000 in
set_option maxRecDepth 100000 in
theorem xSame (n : Int) (L : List (List Int)) (sh : List Int) (ws : List (Int × List UInt8)) (aL aS aW bL bS bW : Option Addr) (cL cS cW dL dS dW : Nat) (hl : L.length ≤ 100000000) (hll : ∀ xs ∈ L, xs.length ≤ 100000000) (hsl : sh.length ≤ 100000000) (hwl : ws.length ≤ 100000000) (w : World) (hA : FileAt w.heap.size w aL aS aW L sh ws) (hB : FileAt w.heap.size w bL bS bW L sh ws) :
    Calls Tryd.prog 9 #[.agg #[.int .i64 n, .slice aL L.length cL, .slice aS sh.length cS, .slice aW ws.length cW], .agg #[.int .i64 n, .slice bL L.length dL, .slice bS sh.length dS, .slice bW ws.length dW]] w fun e w' => e = .returned (.bool true) ∧ Below w.heap.size w w' := by
  have HLL := Lib.hid hll
  have HA0 := Lib.hid hA
  have HB0 := Lib.hid hB
  clear hA hB hll
  go_enter Tryd.func9, Tryd.ntmps9
  go_upto_region 1 with fail
  refine wp_gen ?_
  intro w2 hw2
  have hB2 : Below w.heap.size w w2 := by rw [hw2]; exact below_two _ _ _
  have m2 : w2.heap[w.heap.size]? = some (.cells #[.int .i64 n, .slice aL L.length cL, .slice aS sh.length cS, .slice aW ws.length cW] 35 (0, 0)) := by rw [hw2]; exact new_two1 _ _ _
  have m3 : w2.heap[w.heap.size + 1]? = some (.cells #[.int .i64 n, .slice bL L.length dL, .slice bS sh.length dS, .slice bW ws.length dW] 35 (0, 0)) := by rw [hw2]; exact new_two2 _ _ _
  clear hw2
  have M2 := Lib.hid m2
  have M3 := Lib.hid m3
  have hA2 := (HA0.out.below hB2 (Nat.le_refl _)).mono hB2.size
  have hB2' := (HB0.out.below hB2 (Nat.le_refl _)).mono hB2.size
  have KT := Lib.hid (xSameTheory n L aL bL cL dL hl HLL.out w2 hA2.l hB2'.l)
  have HA := Lib.hid hA2
  have HB := Lib.hid hB2'
  have HB2 := Lib.hid hB2
  have p0 := blk_cell m2 0 rfl
  have p1 := blk_cell m2 1 rfl
  have q0 := blk_cell m3 0 rfl
  have q1 := blk_cell m3 1 rfl
  clear m2 m3 HA0 HB0 hB2 hA2 hB2'
  go_wp2_with fail
  refine KT.out.mono ?_
  rintro e w3 ⟨rfl, hb3⟩
  have HB3 := Lib.hid hb3
  have M2b := Lib.hid ((hb3.block _ (lt_of_heap M2.out)).trans M2.out)
  have M3b := Lib.hid ((hb3.block _ (lt_of_heap M3.out)).trans M3.out)
  have KS := Lib.hid (xSameInts sh w3.heap.size aS bS cS dS hsl w3 ((HA.out.s.below hb3 (Nat.le_refl _)).mono hb3.size) ((HB.out.s.below hb3 (Nat.le_refl _)).mono hb3.size) (Nat.le_refl _))
  clear p0 p1 q0 q1 hb3 KT M2 M3
  have p2 := blk_cell M2b.out 2 rfl
  have q2 := blk_cell M3b.out 2 rfl
  go_wp2_with fail
  refine KS.out.mono ?_
  rintro e w4 ⟨rfl, hb4⟩
  have HB4 := Lib.hid (HB3.out.trans (hb4.mono HB3.out.size))
  have M2 := Lib.hid ((hb4.block _ (lt_of_heap M2b.out)).trans M2b.out)
  have M3 := Lib.hid ((hb4.block _ (lt_of_heap M3b.out)).trans M3b.out)
  clear p2 q2 hb4 KS M2b M3b HB3
  have p3 := blk_cell M2.out 3 rfl
  have q3 := blk_cell M3.out 3 rfl
  have hne : ((ws.length : Int) != (ws.length : Int)) = false := by simp
  go_wp2_with fail
  have P3 := Lib.hid p3
  have Q3 := Lib.hid q3
  clear p3 q3
  go_loopw [5] (fun i wr => ∃ j : Nat, j ≤ ws.length ∧ i = .int .i64 j ∧ Hid (Below w4.heap.size w4 wr)) (fun i _ => ws.length - (intOf i).toNat)
  case atStart => exact ⟨0, Nat.zero_le _, rfl, Below.refl _ _⟩
  case round =>
    obtain ⟨j, hj, rfl, HBR⟩ := hrel
    have d1 := below_cell HBR.out (block_lt_of_cell P3.out) P3.out
    by_cases hlt : j < ws.length
    · have hd : decide (j < ws.length) = true := by simpa using hlt
      have hxx : ws[j]? = some (ws.getD j (0, [])) := by simp [List.getD, hlt]
      obtain ⟨h0, h1⟩ := wts_get ws j _ hxx
      obtain ⟨b1, o1, hb1, rfl, k1⟩ := HA.out.w _ _ h0
      obtain ⟨_, _, _, e1, l1⟩ := HA.out.w _ _ h1
      cases e1
      obtain ⟨b2, o2, hb2, rfl, k2⟩ := HB.out.w _ _ h0
      obtain ⟨_, _, _, e2, l2⟩ := HB.out.w _ _ h1
      cases e2
      rw [Nat.mul_comm] at k1 k2
      rw [Nat.mul_comm, ← Nat.add_assoc] at l1 l2
      have hs24 := HB4.out.size
      have hb1' : b1 < w4.heap.size := by omega
      have hb2' : b2 < w4.heap.size := by omega
      have K1 := Lib.hid (below_cell HB4.out (by omega) k1)
      have K2 := Lib.hid (below_cell HB4.out (by omega) k2)
      have L1 := Lib.hid (below_cell HB4.out (by omega) l1)
      have L2 := Lib.hid (below_cell HB4.out (by omega) l2)
      have hp3 := block_lt_of_cell P3.out
      have hq3 := block_lt_of_cell Q3.out
      generalize ws.getD j (0, []) = x at *
      obtain ⟨l, y⟩ := x
      simp only at K1 K2 L1 L2
      generalize (⟨y.toArray⟩ : ByteArray) = y1 at *
      clear h0 h1 k1 k2 l1 l2 hxx hs24
      go_wp2_with fail
      clear d1
      refine wp_game (List.replicate 11 0) [] B0 fin_B0 (has_B0 _) (by kernel_rfl) (by kernel_rfl) ?_
      refine lex_quietE 11 (by kernel_rfl) (by rfl) ?_
      apply Exists.intro
      refine ⟨fun z hz => ?_, ?_⟩
      · have hwz := HBR.out.trans (hz.below_of (b := w4.heap.size) (by simp) HBR.out.size)
        have g0 := below_cellp hwz K1.out hb1'
        have g1 := below_cellp hwz K2.out hb2'
        have g2 := below_cellp hwz L1.out hb1'
        have g3 := below_cellp hwz L2.out hb2'
        have g4 := below_cellp hwz P3.out hp3
        have g5 := below_cellp hwz Q3.out hq3
        clear hz hwz
        simp only [List.take_succ_cons, List.take_zero]
        unfold Cx
        repeat (go_big_quiet_step (fail))
        exact wpQuiet_nil rfl
      simp only [List.drop_succ_cons, List.drop_zero]
      refine lex_nil ?_
      intro x7 hx7 _
      have HB7 := Lib.hid (HBR.out.trans (hx7.below_of (b := w4.heap.size) (by simp) HBR.out.size))
      clear hx7 HBR K1 K2
      go_wp2_with fail
      go_roundw
      case rel => exact ⟨j + 1, by omega, by go_num, HB7⟩
      case measure => simp [intOf]; omega
    · obtain rfl : j = ws.length := by omega
      have hd : decide (ws.length < ws.length) = false := by simp
      go_wp2_with fail
      go_ret
      exact ⟨rfl, HB2.out.trans ((HB4.out.trans (HBR.out.mono HB4.out.size)).mono HB2.out.size)⟩
end Go.Proofs.YtfleacdnkpckbaaDoor

/- The reference reads a line by its kind first: the same. Plain; and its two searches. -/
namespace Go.Proofs.YtfleacdnkpckbaaDoor
open Go.RowKit

def kindD (rd : List UInt8 → Bool) (w : List (List UInt8)) : Int :=
  match w with
  | [] => 0
  | w0 :: r =>
    if w0 = [112] then (if r.length = 3 ∧ r.getD 0 [] = [99, 110, 102] ∧ 0 ≤ numX (r.getD 1 []) ∧ 0 ≤ numX (r.getD 2 []) then 1 else -1)
    else if w0 = [99] then
      (if r.length < 2 ∨ r.getD 0 [] ≠ [112] ∨ (r.getD 1 [] ≠ showW ∧ r.getD 1 [] ≠ weightW) then 0
      else if r.getD (r.length - 1) [] ≠ [48] ∨ r.length < 3 then -1
      else if r.getD 1 [] = showW then (if ((r.take (r.length - 1)).drop 2).any (fun x => decide (numX x < 1)) = true then -1 else 2)
      else if r.length ≠ 5 ∨ litD (r.getD 2 []) = 0 then -1 else if rd (r.getD 3 []) = false then -1 else 3)
    else if ((w0 :: r).any fun x => decide (litD x = 0) && decide (x ≠ [48])) = true then -1 else 4
def headerD (st : DS) (r : List (List UInt8)) : DS × Int :=
  if st.begun = true then (st, 4) else if 128 < numX (r.getD 1 []) ∨ 4096 < numX (r.getD 2 []) then (st, 6) else ({ st with begun := true, n := numX (r.getD 1 []), m := numX (r.getD 2 []) }, 0)
def heavyD (st : DS) (l : Int) (x : List UInt8) : DS × Int :=
  if l ∈ st.ws.map (·.1) then (st, 4) else if validD l st.n = false then (st, 6) else ({ st with ws := st.ws ++ [(l, x)] }, 0)
def lineK (st : DS) (w : List (List UInt8)) (k : Int) : DS × Int :=
  if k < 0 ∨ (1 < k ∧ st.begun = false) then (st, 5)
  else if k = 1 then headerD st (w.drop 1)
  else if k = 2 then showGo st (((w.take (w.length - 1)).drop 3).map numZ)
  else if k = 3 then heavyD st (litD (w.getD 3 [])) (w.getD 4 [])
  else if k = 4 then litsGo st (w.map litD)
  else (st, 0)
def lineR (rd : List UInt8 → Bool) (st : DS) (w : List (List UInt8)) : DS × Int := lineK st w (kindD rd w)
section
variable {st : DS} {w : List (List UInt8)}
theorem lineK_neg : lineK st w (-1) = (st, 5) := if_pos (.inl (by decide))
theorem lineK_not {k : Int} (hk : 1 < k) (hb : st.begun = false) : lineK st w k = (st, 5) := if_pos (.inr ⟨hk, hb⟩)
theorem lineK_0 : lineK st w 0 = (st, 0) := by unfold lineK; rw [if_neg (by rintro (h | ⟨h, _⟩) <;> revert h <;> decide)]; rfl
theorem lineK_1 : lineK st w 1 = headerD st (w.drop 1) := by unfold lineK; rw [if_neg (by rintro (h | ⟨h, _⟩) <;> revert h <;> decide)]; rfl
theorem lineK_2 (hb : ¬ st.begun = false) : lineK st w 2 = showGo st (((w.take (w.length - 1)).drop 3).map numZ) := by
  unfold lineK; rw [if_neg (fun h => h.elim (by decide) fun h => hb h.2)]; rfl
theorem lineK_3 (hb : ¬ st.begun = false) : lineK st w 3 = heavyD st (litD (w.getD 3 [])) (w.getD 4 []) := by
  unfold lineK; rw [if_neg (fun h => h.elim (by decide) fun h => hb h.2)]; rfl
theorem lineK_4 (hb : ¬ st.begun = false) : lineK st w 4 = litsGo st (w.map litD) := by
  unfold lineK; rw [if_neg (fun h => h.elim (by decide) fun h => hb h.2)]; rfl
end
theorem kind_p (rd : List UInt8 → Bool) (r : List (List UInt8)) : kindD rd ([112] :: r) = if r.length = 3 ∧ r.getD 0 [] = [99, 110, 102] ∧ 0 ≤ numX (r.getD 1 []) ∧ 0 ≤ numX (r.getD 2 []) then 1 else -1 := by rw [kindD, if_pos rfl]
theorem kind_c (rd : List UInt8 → Bool) (r : List (List UInt8)) : kindD rd ([99] :: r) = if r.length < 2 ∨ r.getD 0 [] ≠ [112] ∨ (r.getD 1 [] ≠ showW ∧ r.getD 1 [] ≠ weightW) then 0
      else if r.getD (r.length - 1) [] ≠ [48] ∨ r.length < 3 then -1
      else if r.getD 1 [] = showW then (if ((r.take (r.length - 1)).drop 2).any (fun x => decide (numX x < 1)) = true then -1 else 2)
      else if r.length ≠ 5 ∨ litD (r.getD 2 []) = 0 then -1 else if rd (r.getD 3 []) = false then -1 else 3 := by rw [kindD, if_neg (show ¬ ([99] : List UInt8) = [112] by decide), if_pos rfl]
theorem kind_l (rd : List UInt8 → Bool) {w0 : List UInt8} (r : List (List UInt8)) (h1 : ¬ w0 = [112]) (h2 : ¬ w0 = [99]) : kindD rd (w0 :: r) = if ((w0 :: r).any fun x => decide (litD x = 0) && decide (x ≠ [48])) = true then -1 else 4 := by rw [kindD, if_neg h1, if_neg h2]

theorem numX_none {x : List UInt8} : numX x < 0 ↔ numD x = none := by
  unfold numX
  cases h : numD x with
  | none => simp
  | some n => simp
theorem numX_some {x : List UInt8} {n : Nat} (h : numD x = some n) : numX x = n := by unfold numX; rw [h]
theorem numX_lt {x : List UInt8} : numX x < 1 ↔ numZ x = 0 := by
  unfold numX numZ
  cases h : numD x with
  | none => simp
  | some n => simp; omega

theorem line_same (rd : List UInt8 → Bool) (st : DS) (w : List (List UInt8)) : lineR rd st w = lineD rd st w := by
  unfold lineR
  match w with
  | [] => exact lineK_0
  | w0 :: r =>
  by_cases h1 : w0 = [112]
  · subst h1
    rw [show lineD rd st ([112] :: r) = problemD st r by rw [lineD, if_pos rfl], kind_p]
    unfold problemD
    by_cases hA : r.length = 3 ∧ r.getD 0 [] = [99, 110, 102]
    · rw [if_neg (show ¬ (r.length ≠ 3 ∨ r.getD 0 [] ≠ [99, 110, 102]) from fun h => h.elim (fun h => h hA.1) (fun h => h hA.2))]
      cases ha : numD (r.getD 1 []) with
      | none =>
        have := numX_none.2 ha
        rw [if_neg (fun h => absurd h.2.2.1 (by omega)), lineK_neg]
      | some a =>
        cases hb : numD (r.getD 2 []) with
        | none =>
          have := numX_none.2 hb
          rw [if_neg (fun h => absurd h.2.2.2 (by omega)), lineK_neg]
        | some b =>
          have e1 := numX_some ha
          have e2 := numX_some hb
          rw [if_pos ⟨hA.1, hA.2, by omega, by omega⟩, lineK_1]
          show headerD st r = _
          unfold headerD
          rw [e1, e2]
          by_cases hb : st.begun = true
          · rw [if_pos hb]; simp [hb]
          · rw [if_neg hb]
            by_cases hr : 128 < a ∨ 4096 < b
            · rw [if_pos (by omega)]; simp [hb, hr]
            · rw [if_neg (by omega)]; simp [hb, hr]
    · rw [if_pos (show r.length ≠ 3 ∨ r.getD 0 [] ≠ [99, 110, 102] by
        by_cases h : r.length = 3
        · exact .inr fun h' => hA ⟨h, h'⟩
        · exact .inl h), if_neg (fun h => hA ⟨h.1, h.2.1⟩), lineK_neg]
  · by_cases h2 : w0 = [99]
    · subst h2
      rw [show lineD rd st ([99] :: r) = commentD rd st r by rw [lineD, if_neg (show ¬ ([99] : List UInt8) = [112] by decide), if_pos rfl], kind_c]
      unfold commentD
      by_cases hA : r.length < 2 ∨ r.getD 0 [] ≠ [112] ∨ (r.getD 1 [] ≠ showW ∧ r.getD 1 [] ≠ weightW)
      · rw [if_pos hA, if_pos hA, lineK_0]
      · rw [if_neg hA, if_neg hA]
        by_cases hB : r.getD (r.length - 1) [] ≠ [48] ∨ r.length < 3
        · rw [if_pos hB, lineK_neg, if_pos (hB.elim (fun h => .inr (.inr h)) (fun h => .inr (.inl (by omega))))]
        · rw [if_neg hB]
          have hB2 : ¬ r.length < 3 := fun h => hB (.inr h)
          have hB3 : r.getD (r.length - 1) [] = [48] := Decidable.not_not.1 fun h => hB (.inl h)
          have htk : ((([99] : List UInt8) :: r).take ((([99] : List UInt8) :: r).length - 1)).drop 3 = (r.take (r.length - 1)).drop 2 := by
            have e : (([99] : List UInt8) :: r).length - 1 = (r.length - 1) + 1 := by simp; omega
            rw [e, List.take_succ_cons, List.drop_succ_cons]
          by_cases hbg : st.begun = false
          · rw [if_pos (show st.begun = false ∨ r.length - 1 < 2 ∨ r.getD (r.length - 1) [] ≠ [48] from .inl hbg)]
            split
            · split
              · exact lineK_neg
              · exact lineK_not (by decide) hbg
            · split
              · exact lineK_neg
              · split
                · exact lineK_neg
                · exact lineK_not (by decide) hbg
          · rw [if_neg (show ¬ (st.begun = false ∨ r.length - 1 < 2 ∨ r.getD (r.length - 1) [] ≠ [48]) from fun h => h.elim hbg fun h => h.elim (fun h => by omega) fun h => h hB3)]
            by_cases hS : r.getD 1 [] = showW
            · rw [if_pos hS, if_pos hS]
              unfold showD
              have hany : ((r.take (r.length - 1)).drop 2).any (fun x => decide (numX x < 1)) = (((r.take (r.length - 1)).drop 2).map numZ).contains 0 := by
                generalize (r.take (r.length - 1)).drop 2 = z
                rw [Bool.eq_iff_iff, List.any_eq_true, List.contains_iff_mem, List.mem_map]
                constructor
                · rintro ⟨x, hx, h⟩
                  exact ⟨x, hx, numX_lt.1 (by simpa using h)⟩
                · rintro ⟨x, hx, h⟩
                  exact ⟨x, hx, by simpa using numX_lt.2 h⟩
              rw [hany]
              by_cases hc : (((r.take (r.length - 1)).drop 2).map numZ).contains 0 = true
              · rw [if_pos hc, if_pos hc, lineK_neg]
              · rw [if_neg hc, if_neg hc, lineK_2 hbg, htk]
            · rw [if_neg hS, if_neg hS]
              unfold weightD
              have hlen : ((r.take (r.length - 1)).drop 2).length = r.length - 1 - 2 := by simp
              by_cases h5 : r.length = 5
              · have g0 : ((r.take (r.length - 1)).drop 2).getD 0 [] = r.getD 2 [] := by
                  match r, h5 with
                  | [a, b, c, d, e], _ => rfl
                have g1 : ((r.take (r.length - 1)).drop 2).getD 1 [] = r.getD 3 [] := by
                  match r, h5 with
                  | [a, b, c, d, e], _ => rfl
                have f0 : (([99] : List UInt8) :: r).getD 3 [] = r.getD 2 [] := rfl
                have f1 : (([99] : List UInt8) :: r).getD 4 [] = r.getD 3 [] := rfl
                rw [if_neg (show ¬ ((r.take (r.length - 1)).drop 2).length ≠ 2 by omega), g0, g1]
                by_cases hl0 : litD (r.getD 2 []) = 0
                · rw [if_pos (.inr hl0), lineK_neg, if_pos (.inl hl0)]
                · rw [if_neg (show ¬ (r.length ≠ 5 ∨ litD (r.getD 2 []) = 0) from fun h => h.elim (fun h => h h5) hl0)]
                  by_cases hrd : rd (r.getD 3 []) = false
                  · rw [if_pos hrd, lineK_neg, if_pos (.inr hrd)]
                  · rw [if_neg hrd, lineK_3 hbg, f0, f1, if_neg (show ¬ (litD (r.getD 2 []) = 0 ∨ rd (r.getD 3 []) = false) from fun h => h.elim hl0 hrd)]
                    rfl
              · rw [if_pos (.inl h5), lineK_neg, if_pos (show ((r.take (r.length - 1)).drop 2).length ≠ 2 by omega)]
    · rw [show lineD rd st (w0 :: r) = litsD st (w0 :: r) by rw [lineD, if_neg h1, if_neg h2], kind_l rd r h1 h2]
      unfold litsD
      by_cases hA : ((w0 :: r).any fun x => decide (litD x = 0) && decide (x ≠ [48])) = true
      · rw [if_pos hA, if_pos hA, lineK_neg]
      · rw [if_neg hA, if_neg hA]
        by_cases hb : st.begun = false
        · rw [if_pos hb, lineK_not (by decide) hb]
        · rw [if_neg hb, lineK_4 hb]
end Go.Proofs.YtfleacdnkpckbaaDoor

/- The reference's in and heavy. -/
namespace Go.Proofs.YtfleacdnkpckbaaDoor
open Go.RowKit

set_option maxHeartbeats 3200000 in
set_option maxRecDepth 100000 in
theorem xIn (xs : List Int) (x : Int) (N : Nat) (a : Option Addr) (c : Nat) (hl : xs.length ≤ 100000000) (w : World) (hA : AtN N w a (ints xs)) (hw : N ≤ w.heap.size) :
    Calls Tryd.prog 41 #[.slice a xs.length c, .int .i64 x] w fun e w' => e = .returned (.bool (decide (x ∈ xs))) ∧ Below w.heap.size w w' := by
  have HA := Lib.hid hA
  obtain ⟨R, hR⟩ : ∃ R, R = decide (x ∈ xs) := ⟨_, rfl⟩
  rw [← hR]
  have HR := Lib.hid hR
  clear hA hR
  go_enter Tryd.func41, Tryd.ntmps41
  go_wp2_with fail
  go_loopw [5] (fun t5 wr => ∃ j : Nat, j ≤ xs.length ∧ t5 = .int .i64 j ∧ Hid (∀ y ∈ xs.take j, y ≠ x) ∧ Hid (Below w.heap.size w wr)) (fun t5 _ => xs.length - (intOf t5).toNat)
  case atStart => exact ⟨0, Nat.zero_le _, rfl, by simp [Hid], Below.refl _ _⟩
  case round =>
    obtain ⟨j, hj, rfl, HZ, HB⟩ := hrel
    by_cases hlt : j < xs.length
    · have hdd : decide (j < xs.length) = true := by simpa using hlt
      have hyy : xs[j]? = some (xs.getD j 0) := by simp [List.getD, hlt]
      have HT := Lib.hid (take_one hyy)
      have HM := Lib.hid (List.mem_of_getElem? hyy)
      obtain ⟨b1, o1, hb1, e1, k1⟩ := HA.out _ _ (ints_get _ _ _ hyy)
      subst e1
      have d1 := below_cell HB.out (show b1 < w.heap.size by omega) k1
      generalize xs.getD j 0 = y at *
      clear k1 hyy
      by_cases hxy : y = x
      · have HR2 := Lib.hid (show R = true by rw [HR.out]; exact decide_eq_true (hxy ▸ HM.out))
        have hq : (y == x) = true := by simp [hxy]
        clear hxy
        go_wp2_with fail
        go_ret
        exact ⟨by rw [HR2.out]; rfl, HB.out⟩
      · have hq : (y == x) = false := beq_no hxy
        have HN := Lib.hid hxy
        clear hxy
        go_wp2_with fail
        go_roundw
        case rel => exact ⟨j + 1, by omega, by go_num, fun z hz => by
          rw [HT.out] at hz
          rcases List.mem_append.1 hz with hz | hz
          · exact HZ.out z hz
          · rw [List.mem_singleton.1 hz]; exact HN.out, HB.out⟩
        case measure => simp [intOf]; omega
    · obtain rfl : j = xs.length := by omega
      have hdd : decide (xs.length < xs.length) = false := by simp
      have HR2 := Lib.hid (show R = false by rw [HR.out]; exact decide_eq_false fun h => HZ.out x (by rw [List.take_length]; exact h) rfl)
      go_wp2_with fail
      go_ret
      exact ⟨by rw [HR2.out]; rfl, HB.out⟩

set_option maxHeartbeats 3200000 in
set_option maxRecDepth 100000 in
theorem xHeavy (ws : List (Int × List UInt8)) (x : Int) (N : Nat) (a : Option Addr) (c : Nat) (hl : ws.length ≤ 100000000) (w : World) (hA : AtN N w a (wts ws)) (hw : N ≤ w.heap.size) :
    Calls Tryd.prog 43 #[.slice a ws.length c, .int .i64 x] w fun e w' => e = .returned (.bool (decide (x ∈ ws.map (·.1)))) ∧ Below w.heap.size w w' := by
  have HA := Lib.hid hA
  obtain ⟨R, hR⟩ : ∃ R, R = decide (x ∈ ws.map (·.1)) := ⟨_, rfl⟩
  rw [← hR]
  have HR := Lib.hid hR
  clear hA hR
  go_enter Tryd.func43, Tryd.ntmps43
  go_wp2_with fail
  go_loopw [5] (fun t5 wr => ∃ j : Nat, j ≤ ws.length ∧ t5 = .int .i64 j ∧ Hid (∀ y ∈ ws.take j, y.1 ≠ x) ∧ Hid (Below w.heap.size w wr)) (fun t5 _ => ws.length - (intOf t5).toNat)
  case atStart => exact ⟨0, Nat.zero_le _, rfl, by simp [Hid], Below.refl _ _⟩
  case round =>
    obtain ⟨j, hj, rfl, HZ, HB⟩ := hrel
    by_cases hlt : j < ws.length
    · have hdd : decide (j < ws.length) = true := by simpa using hlt
      have hyy : ws[j]? = some (ws.getD j (0, [])) := by simp [List.getD, hlt]
      have HT := Lib.hid (take_one hyy)
      have HM := Lib.hid (List.mem_of_getElem? hyy)
      obtain ⟨b1, o1, hb1, e1, k1⟩ := HA.out _ _ (wts_get _ _ _ hyy).1
      subst e1
      rw [Nat.mul_comm] at k1
      have d1 := below_cell HB.out (show b1 < w.heap.size by omega) k1
      generalize ws.getD j (0, []) = y at *
      obtain ⟨y, s⟩ := y
      simp only at d1
      clear k1 hyy
      by_cases hxy : y = x
      · have HR2 := Lib.hid (show R = true by rw [HR.out]; exact decide_eq_true (List.mem_map.2 ⟨_, HM.out, hxy⟩))
        have hq : (y == x) = true := by simp [hxy]
        clear hxy
        go_wp2_with fail
        go_ret
        exact ⟨by rw [HR2.out]; rfl, HB.out⟩
      · have hq : (y == x) = false := beq_no hxy
        have HN := Lib.hid hxy
        clear hxy
        go_wp2_with fail
        go_roundw
        case rel => exact ⟨j + 1, by omega, by go_num, fun z hz => by
          rw [HT.out] at hz
          rcases List.mem_append.1 hz with hz | hz
          · exact HZ.out z hz
          · rw [List.mem_singleton.1 hz]; exact HN.out, HB.out⟩
        case measure => simp [intOf]; omega
    · obtain rfl : j = ws.length := by omega
      have hdd : decide (ws.length < ws.length) = false := by simp
      have hR2 : R = false := by
        rw [HR.out]
        refine decide_eq_false fun h => ?_
        obtain ⟨y, hy, e⟩ := List.mem_map.1 h
        exact HZ.out y (by rw [List.take_length]; exact hy) e
      have HR2 := Lib.hid hR2
      clear hR2
      go_wp2_with fail
      go_ret
      exact ⟨by rw [HR2.out]; rfl, HB.out⟩
end Go.Proofs.YtfleacdnkpckbaaDoor

/- The reference's kind. -/
namespace Go.Proofs.YtfleacdnkpckbaaDoor
open Go.RowKit

section
variable {rd : List UInt8 → Bool} {r : List (List UInt8)}
theorem kp_len (h : r.length ≠ 3) : kindD rd ([112] :: r) = -1 := by rw [kind_p, if_neg (fun h' => h h'.1)]
theorem kp_cnf (h : r.getD 0 [] ≠ [99, 110, 102]) : kindD rd ([112] :: r) = -1 := by rw [kind_p, if_neg (fun h' => h h'.2.1)]
theorem kp_n1 (h : numX (r.getD 1 []) < 0) : kindD rd ([112] :: r) = -1 := by rw [kind_p, if_neg (fun h' => absurd h'.2.2.1 (by omega))]
theorem kp_n2 (h : numX (r.getD 2 []) < 0) : kindD rd ([112] :: r) = -1 := by rw [kind_p, if_neg (fun h' => absurd h'.2.2.2 (by omega))]
theorem kp_yes (h : r.length = 3) (h1 : r.getD 0 [] = [99, 110, 102]) (h2 : 0 ≤ numX (r.getD 1 [])) (h3 : 0 ≤ numX (r.getD 2 [])) : kindD rd ([112] :: r) = 1 := by rw [kind_p, if_pos ⟨h, h1, h2, h3⟩]
theorem kc_0 (h : r.length < 2 ∨ r.getD 0 [] ≠ [112] ∨ (r.getD 1 [] ≠ showW ∧ r.getD 1 [] ≠ weightW)) : kindD rd ([99] :: r) = 0 := by rw [kind_c, if_pos h]
theorem kc_n (h : ¬ (r.length < 2 ∨ r.getD 0 [] ≠ [112] ∨ (r.getD 1 [] ≠ showW ∧ r.getD 1 [] ≠ weightW))) (h2 : r.getD (r.length - 1) [] ≠ [48] ∨ r.length < 3) : kindD rd ([99] :: r) = -1 := by rw [kind_c, if_neg h, if_pos h2]
theorem kc_s (h : ¬ (r.length < 2 ∨ r.getD 0 [] ≠ [112] ∨ (r.getD 1 [] ≠ showW ∧ r.getD 1 [] ≠ weightW))) (h2 : ¬ (r.getD (r.length - 1) [] ≠ [48] ∨ r.length < 3)) (hs : r.getD 1 [] = showW) :
    kindD rd ([99] :: r) = if ((r.take (r.length - 1)).drop 2).any (fun x => decide (numX x < 1)) = true then -1 else 2 := by rw [kind_c, if_neg h, if_neg h2, if_pos hs]
theorem kc_w (h : ¬ (r.length < 2 ∨ r.getD 0 [] ≠ [112] ∨ (r.getD 1 [] ≠ showW ∧ r.getD 1 [] ≠ weightW))) (h2 : ¬ (r.getD (r.length - 1) [] ≠ [48] ∨ r.length < 3)) (hs : ¬ r.getD 1 [] = showW) :
    kindD rd ([99] :: r) = if r.length ≠ 5 ∨ litD (r.getD 2 []) = 0 then -1 else if rd (r.getD 3 []) = false then -1 else 3 := by rw [kind_c, if_neg h, if_neg h2, if_neg hs]
end
theorem numX_in (x : List UInt8) : -1 ≤ numX x ∧ numX x < 100000 := by
  unfold numX
  cases hn : numD x with
  | none => simp
  | some n => have := numD_lt hn; simp; omega

theorem lit_both (x t : List UInt8) : ((⟨x.toArray⟩ : ByteArray).toList == t) = decide (x = t) := by
  rw [ba_list]
  by_cases h : x = t
  · subst h; simp
  · rw [decide_eq_false h]; exact beq_eq_false_iff_ne.2 h

set_option maxHeartbeats 3200000 in
set_option maxRecDepth 100000 in
theorem xKindP (r : List (List UInt8)) (hl : ∀ x ∈ r, x.length ≤ 1000000) (hn : r.length ≤ 1100000) (w : World) (a : Option Addr) (c : Nat) (hA : AtN w.heap.size w a (strs ([112] :: r))) :
    Calls Tryd.prog 25 #[.slice a ([112] :: r).length c] w fun e w' => e = .returned (.int .i64 (kindD rdD ([112] :: r))) ∧ Below w.heap.size w w' := by
  obtain ⟨R, hR⟩ : ∃ R, R = kindD rdD ([112] :: r) := ⟨_, rfl⟩
  rw [← hR]
  obtain ⟨b0, o0, hb0, rfl, k0⟩ := hA 0 _ (strs_get ([112] :: r) 0 _ rfl)
  rw [Nat.add_zero] at k0
  have t0 := lit_both [112] [112]
  rw [decide_eq_true (show ([112] : List UInt8) = [112] from rfl)] at t0
  obtain ⟨n, hnn⟩ : ∃ n, n = ([112] :: r).length := ⟨_, rfl⟩
  rw [← hnn]
  have hnr : n = r.length + 1 := hnn
  have HNR := Lib.hid hnr
  generalize (⟨([112] : List UInt8).toArray⟩ : ByteArray) = y0 at *
  have hn0 : 0 < n := by omega
  have hq0 : ((n : Int) == 0) = false := beq_no (by omega)
  by_cases h3 : r.length = 3
  case neg =>
    have hq4 : ((n : Int) == 4) = false := beq_no (by omega)
    have h4 : n ≠ 4 := by omega
    have HA := Lib.hid hA
    clear hA
    have HR := Lib.hid (show R = -1 from by rw [hR]; exact kp_len h3)
    clear hR h3
    go_enter Tryd.func25, Tryd.ntmps25
    go_wp2_with fail
    go_ret
    exact ⟨by rw [HR.out]; rfl, Below.refl _ _⟩
  obtain ⟨x1, x2, x3, rfl⟩ : ∃ x1 x2 x3, r = [x1, x2, x3] := by
    match r, h3 with
    | [x1, x2, x3], _ => exact ⟨_, _, _, rfl⟩
  obtain rfl : n = 4 := HNR.out
  clear HNR
  have hcell : ∀ (i : Nat) (x : List UInt8), ([[112], x1, x2, x3] : List (List UInt8))[i]? = some x → w.cell? ⟨b0, o0 + i, none⟩ = some (.string ⟨x.toArray⟩) := fun i x hi => by
    obtain ⟨_, _, _, e, k⟩ := hA i _ (strs_get _ i x hi)
    cases e
    exact k
  have k1 := hcell 1 x1 rfl
  have K2 := Lib.hid (hcell 2 x2 rfl)
  have K3 := Lib.hid (hcell 3 x3 rfl)
  have N2 := xNumber x2 (by have := hl x2 (by simp); omega)
  have N3 := xNumber x3 (by have := hl x3 (by simp); omega)
  have t1 := lit_both x1 [99, 110, 102]
  have i2 := numX_in x2
  have i3 := numX_in x3
  have hR1 := fun h => hR.trans (kp_cnf (rd := rdD) (r := [x1, x2, x3]) h)
  have hR2 := fun h => hR.trans (kp_n1 (rd := rdD) (r := [x1, x2, x3]) h)
  have hR3 := fun h => hR.trans (kp_n2 (rd := rdD) (r := [x1, x2, x3]) h)
  have hR4 := fun h1 h2 h3 => hR.trans (kp_yes (rd := rdD) (r := [x1, x2, x3]) rfl h1 h2 h3)
  simp only [List.getD_cons_zero, List.getD_cons_succ] at hR1 hR2 hR3 hR4
  have HR1 := Lib.hid hR1
  have HR2 := Lib.hid hR2
  have HR3 := Lib.hid hR3
  have HR4 := Lib.hid hR4
  clear hR1 hR2 hR3 hR4 hR hA hl hcell
  generalize numX x2 = z2 at *
  generalize numX x3 = z3 at *
  generalize (⟨x1.toArray⟩ : ByteArray) = y1 at *
  generalize (⟨x2.toArray⟩ : ByteArray) = y2 at *
  generalize (⟨x3.toArray⟩ : ByteArray) = y3 at *
  clear hq0 hn0 hn h3
  by_cases hx1 : x1 = [99, 110, 102]
  case neg =>
    rw [decide_eq_false hx1] at t1
    have HR := Lib.hid (HR1.out hx1)
    clear hx1
    go_enter Tryd.func25, Tryd.ntmps25
    go_wp2_with fail
    go_ret
    exact ⟨by rw [HR.out]; rfl, Below.refl _ _⟩
  rw [decide_eq_true hx1] at t1
  have HX1 := Lib.hid hx1
  have k2 := K2.out
  clear hx1
  go_enter Tryd.func25, Tryd.ntmps25
  go_wp2_with fail
  refine (N2 w).mono ?_
  rintro e w2 ⟨rfl, hB⟩
  have HB2 := Lib.hid hB
  have k3 := below_cell hB hb0 K3.out
  clear hB N2 k0 k1 k2
  by_cases hz2 : 0 ≤ z2
  case neg =>
    have HR := Lib.hid (HR2.out (by omega))
    have hd : decide (0 ≤ z2) = false := decide_eq_false hz2
    have hd2 : decide (z2 ≥ 0) = false := hd
    go_wp2_with fail
    go_ret
    exact ⟨by rw [HR.out]; rfl, HB2.out⟩
  have hd : decide (0 ≤ z2) = true := decide_eq_true hz2
  go_wp2_with fail
  refine (N3 w2).mono ?_
  rintro e w3 ⟨rfl, hB⟩
  have HB3 := Lib.hid (HB2.out.trans (hB.mono HB2.out.size))
  clear hB N3 k3
  by_cases hz3 : 0 ≤ z3
  case neg =>
    have HR := Lib.hid (HR3.out (by omega))
    have hd3 : decide (0 ≤ z3) = false := decide_eq_false hz3
    go_wp2_with fail
    go_ret
    exact ⟨by rw [HR.out]; rfl, HB3.out⟩
  have HR := Lib.hid (HR4.out HX1.out hz2 hz3)
  have hd3 : decide (0 ≤ z3) = true := decide_eq_true hz3
  go_wp2_with fail
  go_ret
  exact ⟨by rw [HR.out]; rfl, HB3.out⟩
end Go.Proofs.YtfleacdnkpckbaaDoor

/- works: the chapter's examples. -/
namespace Go.Proofs.YtfleacdnkpckbaaDoor
open Go.RowKit

theorem rowV_at2 {w : World} {E : TypeId} {size : Nat} {v : Value} {n : Nat} {xs : List Value} (hr : RowV (inW w) E size v n xs) : ∃ a c, v = .slice a n c ∧ n ≤ c ∧ AtN w.heap.size w a xs := by
  have hlen := hr.length
  cases hr with
  | nil => exact ⟨none, 0, rfl, Nat.le_refl _, fun i v hi => by simp at hi⟩
  | @row g n cap ys cur hr =>
    refine ⟨some ⟨g, 0, none⟩, cap, rfl, hr.le, fun i v hi => ⟨g, 0, lt_of_heap hr.blk, rfl, ?_⟩⟩
    have h2 := hr.tk
    rw [← h2, List.getElem?_take] at hi
    split at hi
    · rw [Nat.zero_add]
      exact blk_cell hr.blk i (by simpa using hi)
    · cases hi
theorem AtN.first {w : World} {a : Option Addr} {x : Value} {xs : List Value} (h : AtN w.heap.size w a (x :: xs)) : ∃ g o, a = some ⟨g, o, none⟩ ∧ w.cell? ⟨g, o, none⟩ = some x := by
  obtain ⟨g, o, _, e, hc⟩ := h 0 x rfl
  exact ⟨g, o, e, hc⟩

def xa : List UInt8 := [99, 32, 120, 10, 112, 32, 99, 110, 102, 32, 50, 32, 49, 10, 99, 32, 112, 32, 115, 104, 111, 119, 32, 50, 32, 48, 10, 99, 32, 112, 32, 119, 101, 105, 103, 104, 116, 32, 45, 49, 32, 49, 47, 50, 32, 48, 10, 48, 10]
def xb : List UInt8 := [49, 32, 48]
theorem parse_xa : parseD rdD xa = (⟨2, [[]], [2], [(-1, [49, 47, 50])], true, 1, [], false⟩, 0, 0) := by kernel_rfl
theorem parse_xb : parseD rdD xb = (.zero, 1, 5) := by kernel_rfl

set_option maxHeartbeats 3200000 in
set_option maxRecDepth 100000 in
theorem gWorks (w : World) (hM0 : ∃ m, w.cell? ⟨0, 0, none⟩ = some (.int .i64 m)) : Calls Tryd.prog 6 #[] w fun e w' => e = .returned (.bool true) ∧ Below w.heap.size w w' := by
  have K1 := gParse xa (by decide) w hM0
  rw [parse_xa] at K1
  unfold xa at K1
  have HK1 := Lib.hid K1
  have KB := Lib.hid (fun (x : World) (h : ∃ m, x.cell? ⟨0, 0, none⟩ = some (.int .i64 m)) => gParse xb (by decide) x h)
  rw [parse_xb] at KB
  unfold xb at KB
  have HM0 := Lib.hid hM0
  have hlt0 : 0 < w.heap.size := by obtain ⟨m, hm⟩ := hM0; exact block_lt_of_cell hm
  have hcast : ((0 : Nat) : Int) = 0 ∧ ((1 : Nat) : Int) = 1 := ⟨rfl, rfl⟩
  clear K1 hM0
  go_enter Tryd.func6, Tryd.ntmps6
  go_wp2_with fail
  refine HK1.out.mono ?_
  rintro e w1 ⟨v, rfl, hR, hB⟩
  obtain ⟨⟨cl, hL, hLc⟩, hS, hW, _, _, _, _, _, _, _, _⟩ := hR
  obtain ⟨aL, cL, hvL, _, atL⟩ := rowV_at2 hL
  obtain ⟨aS, cS, hvS, _, atS⟩ := rowV_at2 hS
  obtain ⟨aW, cW, hvW, _, atW⟩ := rowV_at2 hW
  obtain ⟨u, hcl⟩ : ∃ u, cl = [u] := by
    have := hL.length
    match cl, this with
    | [u], _ => exact ⟨u, rfl⟩
  subst hcl
  have hu := (hLc 0 u [] rfl rfl).1
  obtain ⟨au, cu, hvu⟩ := hu.slice
  obtain ⟨gL, oL, rfl, kL⟩ := atL.first
  obtain ⟨gS, oS, rfl, kS⟩ := AtN.first (x := .int .i64 2) (xs := []) atS
  obtain ⟨gW, oW, hW0, kW⟩ := AtN.first (x := .int .i64 (-1)) (xs := [.string ⟨#[49, 47, 50]⟩]) atW
  obtain ⟨_, _, _, hW1, kW1⟩ := atW 1 (.string ⟨#[49, 47, 50]⟩) rfl
  rw [hW0] at hW1
  cases hW1
  subst hW0
  subst hvu
  obtain ⟨vL, vS, vW, vc⟩ := v
  simp only at hvL hvS hvW
  subst hvL
  subst hvS
  subst hvW
  have HB1 := Lib.hid hB
  have hM1 : ∃ m, w1.cell? ⟨0, 0, none⟩ = some (.int .i64 m) := by
    obtain ⟨m, hm⟩ := HM0.out
    exact ⟨m, below_cell hB hlt0 hm⟩
  have HM1 := Lib.hid hM1
  have KL := Lib.hid kL
  have KS := Lib.hid kS
  have KW := Lib.hid kW
  have KW1 := Lib.hid kW1
  clear hL hLc hS hW hB hM1 atL atS atW kL kS kW kW1 HK1
  simp only [DS.zero, List.length_cons, List.length_nil]
  go_wp2_with fail
  refine calls_gen fun w2 hw2 => ?_
  have B2 := Lib.hid (show Below w1.heap.size w1 w2 by rw [hw2]; exact below_one _ _)
  have M2 := Lib.hid (show w2.heap[w1.heap.size]? = some (.cells #[.int .i64 2, .slice (some ⟨gL, oL, none⟩) 1 cL, .slice (some ⟨gS, oS, none⟩) 1 cS, .slice (some ⟨gW, oW, none⟩) 1 cW] 29 (0, 0)) by rw [hw2]; exact new_one _ _)
  clear hw2
  have hM2 : ∃ m, w2.cell? ⟨0, 0, none⟩ = some (.int .i64 m) := by
    obtain ⟨m, hm⟩ := HM1.out
    exact ⟨m, below_cell B2.out (block_lt_of_cell hm) hm⟩
  refine (KB.out w2 hM2).mono ?_
  rintro e w3 ⟨v3, rfl, hR3, hB3⟩
  have B3 := Lib.hid hB3
  obtain ⟨⟨_, hL3, _⟩, hS3, hW3, _, _, _, _, _, _, _, _⟩ := hR3
  obtain ⟨aL3, cL3, hv1⟩ := hL3.slice
  obtain ⟨aS3, cS3, hv2⟩ := hS3.slice
  obtain ⟨aW3, cW3, hv3⟩ := hW3.slice
  obtain ⟨vL3, vS3, vW3, vc3⟩ := v3
  simp only at hv1 hv2 hv3
  subst hv1
  subst hv2
  subst hv3
  clear hL3 hS3 hW3 hB3 hM2
  simp only [DS.zero, List.length_nil]
  go_upto_region 3 with fail
  refine wp_gen ?_
  intro w4 hw4
  have B4 := Lib.hid (show Below w1.heap.size w1 w4 by
    have hb : Below w3.heap.size w3 w4 := by rw [hw4]; exact below_one _ _
    have hs := B2.out.size
    have hs3 := B3.out.size
    exact (B2.out.trans (B3.out.mono hs)).trans (hb.mono (Nat.le_trans hs hs3)))
  have M4 := Lib.hid (show w4.heap[w1.heap.size]? = some (.cells #[.int .i64 2, .slice (some ⟨gL, oL, none⟩) 1 cL, .slice (some ⟨gS, oS, none⟩) 1 cS, .slice (some ⟨gW, oW, none⟩) 1 cW] 29 (0, 0)) by
    have hb : Below w3.heap.size w3 w4 := by rw [hw4]; exact below_one _ _
    have h2 := lt_of_heap M2.out
    exact (hb.block _ (Nat.lt_of_lt_of_le h2 B3.out.size)).trans ((B3.out.block _ h2).trans M2.out))
  clear hw4
  have c0 := blk_cell M4.out 0 rfl
  have c1 := blk_cell M4.out 1 rfl
  have c2 := blk_cell M4.out 2 rfl
  have c3 := blk_cell M4.out 3 rfl
  have kL := below_cell B4.out (block_lt_of_cell KL.out) KL.out
  have kS := below_cell B4.out (block_lt_of_cell KS.out) KS.out
  have kW := below_cell B4.out (block_lt_of_cell KW.out) KW.out
  have kW1 := below_cell B4.out (block_lt_of_cell KW1.out) KW1.out
  go_wp2_with fail
  go_ret
  exact ⟨rfl, HB1.out.trans (B4.out.mono HB1.out.size)⟩
end Go.Proofs.YtfleacdnkpckbaaDoor
