/- Texts of this claim, joined: D17, D14. -/
import Derived.Test.YtajjgfiojlagmaaGreatDoorMO24
import Derived.Deep.DeepCutAuto
import Derived.KernelRfl

/- The reference's Same, at two equal files. -/
namespace Go.Proofs.YtajjgfiojlagmaaGreatDoor
open Go.RowKit

def ClsAt (N : Nat) (w : World) (a : Option Addr) (L : List (List Int)) : Prop := ∀ i xs, L[i]? = some xs → ∃ b o p c, b < N ∧ a = some ⟨b, o, none⟩ ∧ w.cell? ⟨b, o + i, none⟩ = some (.slice p xs.length c) ∧ AtN N w p (ints xs)
theorem ClsAt.below {N M : Nat} {w w' : World} {a : Option Addr} {L : List (List Int)} (h : ClsAt N w a L) (hb : Below M w w') (hM : N ≤ M) : ClsAt N w' a L := fun i xs hi => by
  obtain ⟨b, o, p, c, h1, ha, hc, hx⟩ := h i xs hi
  exact ⟨b, o, p, c, h1, ha, below_cell hb (by omega) hc, hx.below hb hM⟩
theorem ClsAt.mono {N M : Nat} {w : World} {a : Option Addr} {L : List (List Int)} (h : ClsAt N w a L) (hM : N ≤ M) : ClsAt M w a L := fun i xs hi => by
  obtain ⟨b, o, p, c, h1, ha, hc, hx⟩ := h i xs hi
  exact ⟨b, o, p, c, by omega, ha, hc, hx.mono hM⟩
structure FileAt (N : Nat) (w : World) (aL aS aW : Option Addr) (L : List (List Int)) (sh : List Int) (ws : List (Int × List UInt8)) : Prop where
  l : ClsAt N w aL L
  s : AtN N w aS (ints sh)
  w : AtN N w aW (wts ws)
theorem FileAt.below {N M : Nat} {w w' : World} {aL aS aW : Option Addr} {L : List (List Int)} {sh : List Int} {ws : List (Int × List UInt8)} (h : FileAt N w aL aS aW L sh ws) (hb : Below M w w') (hM : N ≤ M) : FileAt N w' aL aS aW L sh ws :=
  ⟨h.l.below hb hM, h.s.below hb hM, h.w.below hb hM⟩
theorem FileAt.mono {N M : Nat} {w : World} {aL aS aW : Option Addr} {L : List (List Int)} {sh : List Int} {ws : List (Int × List UInt8)} (h : FileAt N w aL aS aW L sh ws) (hM : N ≤ M) : FileAt M w aL aS aW L sh ws :=
  ⟨h.l.mono hM, h.s.mono hM, h.w.mono hM⟩

set_option maxHeartbeats 3200000 in
set_option maxRecDepth 100000 in
theorem xSameInts (xs : List Int) (N : Nat) (a b : Option Addr) (c d : Nat) (hl : xs.length ≤ 100000000) (w : World) (hA : AtN N w a (ints xs)) (hB : AtN N w b (ints xs)) (hw : N ≤ w.heap.size) :
    Calls Tryz.prog 24 #[.slice a xs.length c, .slice b xs.length d] w fun e w' => e = .returned (.bool true) ∧ Below w.heap.size w w' := by
  have HA := Lib.hid hA
  have HBB := Lib.hid hB
  clear hA hB
  go_enter Tryz.func24, Tryz.ntmps24
  go_wp2_with fail
  go_loopw [5] (fun t5 wr => ∃ j : Nat, j ≤ xs.length ∧ t5 = .int .i64 j ∧ Hid (Below w.heap.size w wr)) (fun t5 _ => xs.length - (intOf t5).toNat)
  case atStart => exact ⟨0, Nat.zero_le _, rfl, Below.refl _ _⟩
  case round =>
    obtain ⟨j, hj, rfl, HB⟩ := hrel
    have hsr := HB.out.size
    by_cases hlt : j < xs.length
    · have hdd : decide (j < xs.length) = true := by simpa using hlt
      have hyy : xs[j]? = some (xs.getD j 0) := by simp [List.getD, hlt]
      obtain ⟨b1, o1, hb1, e1, k1⟩ := HA.out _ _ (ints_get _ _ _ hyy)
      obtain ⟨b2, o2, hb2, e2, k2⟩ := HBB.out _ _ (ints_get _ _ _ hyy)
      subst e1 e2
      have d1 := Lib.hid (below_cell HB.out (show b1 < w.heap.size by omega) k1)
      have d2 := Lib.hid (below_cell HB.out (show b2 < w.heap.size by omega) k2)
      generalize xs.getD j 0 = y at *
      clear k1 k2 hyy
      go_upto_region 6 with fail
      refine wp_game (List.replicate 9 0) [] B0 fin_B0 (has_B0 _) (by kernel_rfl) (by kernel_rfl) ?_
      refine lex_quietE 9 (by kernel_rfl) (by rfl) ?_
      apply Exists.intro
      refine ⟨fun z hz1 => ?_, ?_⟩
      · have hzb := hz1.below
        have g1 := below_cellp hzb d1.out (by omega)
        have g2 := below_cellp hzb d2.out (by omega)
        clear hz1
        simp only [List.take_succ_cons, List.take_zero]
        unfold Cx
        repeat (go_big_quiet_step (fail))
        exact wpQuiet_nil rfl
      simp only [List.drop_succ_cons, List.drop_zero]
      refine lex_nil ?_
      intro x2 hx2 _
      have HBf := Lib.hid (HB.out.trans (hx2.below.mono HB.out.size))
      clear hx2
      go_wp2_with fail
      go_roundw
      case rel => exact ⟨j + 1, by omega, by go_num, HBf.out⟩
      case measure => simp [intOf]; omega
    · obtain rfl : j = xs.length := by omega
      have hdd : decide (xs.length < xs.length) = false := by simp
      go_wp2_with fail
      go_ret
      exact ⟨rfl, HB.out⟩

set_option maxHeartbeats 3200000 in
set_option maxRecDepth 100000 in
theorem xSameTheory (n : Int) (L : List (List Int)) (a b : Option Addr) (c d : Nat) (hl : L.length ≤ 100000000) (hll : ∀ xs ∈ L, xs.length ≤ 100000000) (w : World) (hA : ClsAt w.heap.size w a L) (hB : ClsAt w.heap.size w b L) :
    Calls Tryz.prog 23 #[.agg #[.int .i64 n, .slice a L.length c], .agg #[.int .i64 n, .slice b L.length d]] w fun e w' => e = .returned (.bool true) ∧ Below w.heap.size w w' := by
  have HLL := Lib.hid hll
  have HA0 := Lib.hid hA
  have HB0 := Lib.hid hB
  have hne : (n != n) = false := by simp
  clear hA hB hll
  go_enter Tryz.func23, Tryz.ntmps23
  go_wp2_with fail
  refine wp_gen ?_
  intro w2 hw2
  have hB2 : Below w.heap.size w w2 := by rw [hw2]; exact below_two _ _ _
  have m2 : w2.heap[w.heap.size]? = some (.cells #[.int .i64 n, .slice a L.length c] 24 (0, 0)) := by rw [hw2]; exact new_two1 _ _ _
  have m3 : w2.heap[w.heap.size + 1]? = some (.cells #[.int .i64 n, .slice b L.length d] 24 (0, 0)) := by rw [hw2]; exact new_two2 _ _ _
  clear hw2
  have hl2 := lt_of_heap m2
  have hl3 := lt_of_heap m3
  have c20 := Lib.hid (blk_cell m2 0 rfl)
  have C21 := Lib.hid (blk_cell m2 1 rfl)
  have C31 := Lib.hid (blk_cell m3 1 rfl)
  have HA := Lib.hid ((HA0.out.below hB2 (Nat.le_refl _)).mono hB2.size)
  have HB := Lib.hid ((HB0.out.below hB2 (Nat.le_refl _)).mono hB2.size)
  have HB2 := Lib.hid hB2
  clear m2 m3 HA0 HB0 hB2
  go_loopw [5] (fun i wr => ∃ j : Nat, j ≤ L.length ∧ i = .int .i64 j ∧ Hid (Below w2.heap.size w2 wr)) (fun i _ => L.length - (intOf i).toNat)
  case atStart => exact ⟨0, Nat.zero_le _, rfl, Below.refl _ _⟩
  case round =>
    obtain ⟨j, hj, rfl, HBR⟩ := hrel
    have d21 := below_cell HBR.out hl2 C21.out
    by_cases hlt : j < L.length
    · have hd : decide (j < L.length) = true := by simpa using hlt
      obtain ⟨xs, hxs⟩ : ∃ xs, L[j]? = some xs := ⟨_, List.getElem?_eq_getElem hlt⟩
      have hxl := HLL.out xs (List.mem_of_getElem? hxs)
      obtain ⟨b1, o1, pa1, pc1, hb1, rfl, k1, hx1⟩ := HA.out j xs hxs
      obtain ⟨b2, o2, pa2, pc2, hb2, rfl, k2, hx2⟩ := HB.out j xs hxs
      have K1 := Lib.hid k1
      have K2 := Lib.hid k2
      have KS : ∀ z : World, Below w2.heap.size w2 z → GivesFrom z 24 #[.slice pa1 xs.length pc1, .slice pa2 xs.length pc2] (.bool true) := fun z hz w' hb =>
        xSameInts xs z.heap.size pa1 pa2 pc1 pc2 hxl w' (((hx1.below hz (Nat.le_refl _)).mono hz.size).below hb (Nat.le_refl _)) (((hx2.below hz (Nat.le_refl _)).mono hz.size).below hb (Nat.le_refl _)) hb.size
      have HKS := Lib.hid KS
      clear hxs k1 k2 hx1 hx2 KS
      go_wp2_with fail
      clear d21
      refine wp_game [0, 0, 0, 0, 0, 0, 0, 0, 0, 0, 0, 0] [] B0 fin_B0 (has_B0 _) (by kernel_rfl) (by kernel_rfl) ?_
      refine lex_quietE 12 (by kernel_rfl) (by rfl) ?_
      apply Exists.intro
      refine ⟨fun z hz => ?_, ?_⟩
      · have hwz := HBR.out.trans (hz.below_of (b := w2.heap.size) (by simp) HBR.out.size)
        have g0 := below_cellp hwz K1.out hb1
        have g1 := below_cellp hwz K2.out hb2
        have g2 := below_cellp hwz C21.out hl2
        have g3 := below_cellp hwz C31.out hl3
        have KSz := HKS.out z hwz
        clear hz hwz
        simp only [List.take_succ_cons, List.take_zero]
        unfold Cx
        repeat (go_big_quiet_step (with_reducible exact KSz.at _))
        exact wpQuiet_nil rfl
      simp only [List.drop_succ_cons, List.drop_zero]
      refine lex_nil ?_
      intro x7 hx7 _
      have HB7 := Lib.hid (HBR.out.trans (hx7.below_of (b := w2.heap.size) (by simp) HBR.out.size))
      clear hx7 HBR K1 K2 HKS
      go_wp2_with fail
      go_roundw
      case rel => exact ⟨j + 1, by omega, by go_num, HB7⟩
      case measure => simp [intOf]; omega
    · obtain rfl : j = L.length := by omega
      go_wp2_with fail
      go_ret
      exact ⟨rfl, HB2.out.trans (HBR.out.mono HB2.out.size)⟩

set_option maxHeartbeats 3200000 in
set_option maxRecDepth 100000 in
theorem xSame (n : Int) (L : List (List Int)) (sh : List Int) (ws : List (Int × List UInt8)) (aL aS aW bL bS bW : Option Addr) (cL cS cW dL dS dW : Nat) (hl : L.length ≤ 100000000) (hll : ∀ xs ∈ L, xs.length ≤ 100000000) (hsl : sh.length ≤ 100000000) (hwl : ws.length ≤ 100000000) (w : World) (hA : FileAt w.heap.size w aL aS aW L sh ws) (hB : FileAt w.heap.size w bL bS bW L sh ws) :
    Calls Tryz.prog 12 #[.agg #[.int .i64 n, .slice aL L.length cL, .slice aS sh.length cS, .slice aW ws.length cW], .agg #[.int .i64 n, .slice bL L.length dL, .slice bS sh.length dS, .slice bW ws.length dW]] w fun e w' => e = .returned (.bool true) ∧ Below w.heap.size w w' := by
  have HLL := Lib.hid hll
  have HA0 := Lib.hid hA
  have HB0 := Lib.hid hB
  clear hA hB hll
  go_enter Tryz.func12, Tryz.ntmps12
  go_upto_region 1 with fail
  refine wp_gen ?_
  intro w2 hw2
  have hB2 : Below w.heap.size w w2 := by rw [hw2]; exact below_two _ _ _
  have m2 : w2.heap[w.heap.size]? = some (.cells #[.int .i64 n, .slice aL L.length cL, .slice aS sh.length cS, .slice aW ws.length cW] 37 (0, 0)) := by rw [hw2]; exact new_two1 _ _ _
  have m3 : w2.heap[w.heap.size + 1]? = some (.cells #[.int .i64 n, .slice bL L.length dL, .slice bS sh.length dS, .slice bW ws.length dW] 37 (0, 0)) := by rw [hw2]; exact new_two2 _ _ _
  clear hw2
  have M2 := Lib.hid m2
  have M3 := Lib.hid m3
  have hA2 := (HA0.out.below hB2 (Nat.le_refl _)).mono hB2.size
  have hB2' := (HB0.out.below hB2 (Nat.le_refl _)).mono hB2.size
  have KT := Lib.hid (xSameTheory n L aL bL cL dL hl HLL.out w2 hA2.l hB2'.l)
  have HA := Lib.hid hA2
  have HB := Lib.hid hB2'
  have HB2 := Lib.hid hB2
  have p0 := blk_cell m2 0 rfl
  have p1 := blk_cell m2 1 rfl
  have q0 := blk_cell m3 0 rfl
  have q1 := blk_cell m3 1 rfl
  clear m2 m3 HA0 HB0 hB2 hA2 hB2'
  go_wp2_with fail
  refine KT.out.mono ?_
  rintro e w3 ⟨rfl, hb3⟩
  have HB3 := Lib.hid hb3
  have M2b := Lib.hid ((hb3.block _ (lt_of_heap M2.out)).trans M2.out)
  have M3b := Lib.hid ((hb3.block _ (lt_of_heap M3.out)).trans M3.out)
  have KS := Lib.hid (xSameInts sh w3.heap.size aS bS cS dS hsl w3 ((HA.out.s.below hb3 (Nat.le_refl _)).mono hb3.size) ((HB.out.s.below hb3 (Nat.le_refl _)).mono hb3.size) (Nat.le_refl _))
  clear p0 p1 q0 q1 hb3 KT M2 M3
  have p2 := blk_cell M2b.out 2 rfl
  have q2 := blk_cell M3b.out 2 rfl
  go_wp2_with fail
  refine KS.out.mono ?_
  rintro e w4 ⟨rfl, hb4⟩
  have HB4 := Lib.hid (HB3.out.trans (hb4.mono HB3.out.size))
  have M2 := Lib.hid ((hb4.block _ (lt_of_heap M2b.out)).trans M2b.out)
  have M3 := Lib.hid ((hb4.block _ (lt_of_heap M3b.out)).trans M3b.out)
  clear p2 q2 hb4 KS M2b M3b HB3
  have p3 := blk_cell M2.out 3 rfl
  have q3 := blk_cell M3.out 3 rfl
  have hne : ((ws.length : Int) != (ws.length : Int)) = false := by simp
  go_wp2_with fail
  have P3 := Lib.hid p3
  have Q3 := Lib.hid q3
  clear p3 q3
  go_loopw [5] (fun i wr => ∃ j : Nat, j ≤ ws.length ∧ i = .int .i64 j ∧ Hid (Below w4.heap.size w4 wr)) (fun i _ => ws.length - (intOf i).toNat)
  case atStart => exact ⟨0, Nat.zero_le _, rfl, Below.refl _ _⟩
  case round =>
    obtain ⟨j, hj, rfl, HBR⟩ := hrel
    have d1 := below_cell HBR.out (block_lt_of_cell P3.out) P3.out
    by_cases hlt : j < ws.length
    · have hd : decide (j < ws.length) = true := by simpa using hlt
      have hxx : ws[j]? = some (ws.getD j (0, [])) := by simp [List.getD, hlt]
      obtain ⟨h0, h1⟩ := wts_get ws j _ hxx
      obtain ⟨b1, o1, hb1, rfl, k1⟩ := HA.out.w _ _ h0
      obtain ⟨_, _, _, e1, l1⟩ := HA.out.w _ _ h1
      cases e1
      obtain ⟨b2, o2, hb2, rfl, k2⟩ := HB.out.w _ _ h0
      obtain ⟨_, _, _, e2, l2⟩ := HB.out.w _ _ h1
      cases e2
      rw [Nat.mul_comm] at k1 k2
      rw [Nat.mul_comm, ← Nat.add_assoc] at l1 l2
      have hs24 := HB4.out.size
      have hb1' : b1 < w4.heap.size := by omega
      have hb2' : b2 < w4.heap.size := by omega
      have K1 := Lib.hid (below_cell HB4.out (by omega) k1)
      have K2 := Lib.hid (below_cell HB4.out (by omega) k2)
      have L1 := Lib.hid (below_cell HB4.out (by omega) l1)
      have L2 := Lib.hid (below_cell HB4.out (by omega) l2)
      have hp3 := block_lt_of_cell P3.out
      have hq3 := block_lt_of_cell Q3.out
      generalize ws.getD j (0, []) = x at *
      obtain ⟨l, y⟩ := x
      simp only at K1 K2 L1 L2
      generalize (⟨y.toArray⟩ : ByteArray) = y1 at *
      clear h0 h1 k1 k2 l1 l2 hxx hs24
      go_wp2_with fail
      clear d1
      refine wp_game (List.replicate 11 0) [] B0 fin_B0 (has_B0 _) (by kernel_rfl) (by kernel_rfl) ?_
      refine lex_quietE 11 (by kernel_rfl) (by rfl) ?_
      apply Exists.intro
      refine ⟨fun z hz => ?_, ?_⟩
      · have hwz := HBR.out.trans (hz.below_of (b := w4.heap.size) (by simp) HBR.out.size)
        have g0 := below_cellp hwz K1.out hb1'
        have g1 := below_cellp hwz K2.out hb2'
        have g2 := below_cellp hwz L1.out hb1'
        have g3 := below_cellp hwz L2.out hb2'
        have g4 := below_cellp hwz P3.out hp3
        have g5 := below_cellp hwz Q3.out hq3
        clear hz hwz
        simp only [List.take_succ_cons, List.take_zero]
        unfold Cx
        repeat (go_big_quiet_step (fail))
        exact wpQuiet_nil rfl
      simp only [List.drop_succ_cons, List.drop_zero]
      refine lex_nil ?_
      intro x7 hx7 _
      have HB7 := Lib.hid (HBR.out.trans (hx7.below_of (b := w4.heap.size) (by simp) HBR.out.size))
      clear hx7 HBR K1 K2
      go_wp2_with fail
      go_roundw
      case rel => exact ⟨j + 1, by omega, by go_num, HB7⟩
      case measure => simp [intOf]; omega
    · obtain rfl : j = ws.length := by omega
      have hd : decide (ws.length < ws.length) = false := by simp
      go_wp2_with fail
      go_ret
      exact ⟨rfl, HB2.out.trans ((HB4.out.trans (HBR.out.mono HB4.out.size)).mono HB2.out.size)⟩
end Go.Proofs.YtajjgfiojlagmaaGreatDoor

/- works: the chapter's examples. -/
namespace Go.Proofs.YtajjgfiojlagmaaGreatDoor
open Go.RowKit

theorem rowV_at2 {w : World} {E : TypeId} {size : Nat} {v : Value} {n : Nat} {xs : List Value} (hr : RowV (inW w) E size v n xs) : ∃ a c, v = .slice a n c ∧ n ≤ c ∧ AtN w.heap.size w a xs := by
  have hlen := hr.length
  cases hr with
  | nil => exact ⟨none, 0, rfl, Nat.le_refl _, fun i v hi => by simp at hi⟩
  | @row g n cap ys cur hr =>
    refine ⟨some ⟨g, 0, none⟩, cap, rfl, hr.le, fun i v hi => ⟨g, 0, lt_of_heap hr.blk, rfl, ?_⟩⟩
    have h2 := hr.tk
    rw [← h2, List.getElem?_take] at hi
    split at hi
    · rw [Nat.zero_add]
      exact blk_cell hr.blk i (by simpa using hi)
    · cases hi
theorem AtN.first {w : World} {a : Option Addr} {x : Value} {xs : List Value} (h : AtN w.heap.size w a (x :: xs)) : ∃ g o, a = some ⟨g, o, none⟩ ∧ w.cell? ⟨g, o, none⟩ = some x := by
  obtain ⟨g, o, _, e, hc⟩ := h 0 x rfl
  exact ⟨g, o, e, hc⟩

def xa : List UInt8 := [99, 32, 120, 10, 112, 32, 99, 110, 102, 32, 50, 32, 49, 10, 99, 32, 112, 32, 115, 104, 111, 119, 32, 50, 32, 48, 10, 99, 32, 112, 32, 119, 101, 105, 103, 104, 116, 32, 45, 49, 32, 49, 47, 50, 32, 48, 10, 48, 10]
def xb : List UInt8 := [49, 32, 48]
theorem parse_xa : parseD rdD xa = (⟨2, [[]], [2], [(-1, [49, 47, 50])], true, 1, [], false⟩, 0, 0) := by kernel_rfl
theorem parse_xb : parseD rdD xb = (.zero, 1, 5) := by kernel_rfl

set_option maxHeartbeats 3200000 in
set_option maxRecDepth 100000 in
theorem gWorks (w : World) (hM0 : ∃ m, w.cell? ⟨1, 0, none⟩ = some (.int .i64 m)) : Calls Tryz.prog 7 #[] w fun e w' => e = .returned (.bool true) ∧ Below w.heap.size w w' := by
  have K1 := gParse xa (by decide) w hM0
  rw [parse_xa] at K1
  unfold xa at K1
  have HK1 := Lib.hid K1
  have KB := Lib.hid (fun (x : World) (h : ∃ m, x.cell? ⟨1, 0, none⟩ = some (.int .i64 m)) => gParse xb (by decide) x h)
  rw [parse_xb] at KB
  unfold xb at KB
  have HM0 := Lib.hid hM0
  have hlt0 : 1 < w.heap.size := by obtain ⟨m, hm⟩ := hM0; exact block_lt_of_cell hm
  have hcast : ((0 : Nat) : Int) = 0 ∧ ((1 : Nat) : Int) = 1 := ⟨rfl, rfl⟩
  clear K1 hM0
  go_enter Tryz.func7, Tryz.ntmps7
  go_wp2_with fail
  refine HK1.out.mono ?_
  rintro e w1 ⟨v, rfl, hR, hB⟩
  obtain ⟨⟨cl, hL, hLc⟩, hS, hW, _, _, _, _, _, _, _, _⟩ := hR
  obtain ⟨aL, cL, hvL, _, atL⟩ := rowV_at2 hL
  obtain ⟨aS, cS, hvS, _, atS⟩ := rowV_at2 hS
  obtain ⟨aW, cW, hvW, _, atW⟩ := rowV_at2 hW
  obtain ⟨u, hcl⟩ : ∃ u, cl = [u] := by
    have := hL.length
    match cl, this with
    | [u], _ => exact ⟨u, rfl⟩
  subst hcl
  have hu := (hLc 0 u [] rfl rfl).1
  obtain ⟨au, cu, hvu⟩ := hu.slice
  obtain ⟨gL, oL, rfl, kL⟩ := atL.first
  obtain ⟨gS, oS, rfl, kS⟩ := AtN.first (x := .int .i64 2) (xs := []) atS
  obtain ⟨gW, oW, hW0, kW⟩ := AtN.first (x := .int .i64 (-1)) (xs := [.string ⟨#[49, 47, 50]⟩]) atW
  obtain ⟨_, _, _, hW1, kW1⟩ := atW 1 (.string ⟨#[49, 47, 50]⟩) rfl
  rw [hW0] at hW1
  cases hW1
  subst hW0
  subst hvu
  obtain ⟨vL, vS, vW, vc⟩ := v
  simp only at hvL hvS hvW
  subst hvL
  subst hvS
  subst hvW
  have HB1 := Lib.hid hB
  have hM1 : ∃ m, w1.cell? ⟨1, 0, none⟩ = some (.int .i64 m) := by
    obtain ⟨m, hm⟩ := HM0.out
    exact ⟨m, below_cell hB hlt0 hm⟩
  have HM1 := Lib.hid hM1
  have KL := Lib.hid kL
  have KS := Lib.hid kS
  have KW := Lib.hid kW
  have KW1 := Lib.hid kW1
  clear hL hLc hS hW hB hM1 atL atS atW kL kS kW kW1 HK1
  simp only [DS.zero, List.length_cons, List.length_nil]
  go_wp2_with fail
  refine calls_gen fun w2 hw2 => ?_
  have B2 := Lib.hid (show Below w1.heap.size w1 w2 by rw [hw2]; exact below_one _ _)
  have M2 := Lib.hid (show w2.heap[w1.heap.size]? = some (.cells #[.int .i64 2, .slice (some ⟨gL, oL, none⟩) 1 cL, .slice (some ⟨gS, oS, none⟩) 1 cS, .slice (some ⟨gW, oW, none⟩) 1 cW] 28 (0, 0)) by rw [hw2]; exact new_one _ _)
  clear hw2
  have hM2 : ∃ m, w2.cell? ⟨1, 0, none⟩ = some (.int .i64 m) := by
    obtain ⟨m, hm⟩ := HM1.out
    exact ⟨m, below_cell B2.out (block_lt_of_cell hm) hm⟩
  refine (KB.out w2 hM2).mono ?_
  rintro e w3 ⟨v3, rfl, hR3, hB3⟩
  have B3 := Lib.hid hB3
  obtain ⟨⟨_, hL3, _⟩, hS3, hW3, _, _, _, _, _, _, _, _⟩ := hR3
  obtain ⟨aL3, cL3, hv1⟩ := hL3.slice
  obtain ⟨aS3, cS3, hv2⟩ := hS3.slice
  obtain ⟨aW3, cW3, hv3⟩ := hW3.slice
  obtain ⟨vL3, vS3, vW3, vc3⟩ := v3
  simp only at hv1 hv2 hv3
  subst hv1
  subst hv2
  subst hv3
  clear hL3 hS3 hW3 hB3 hM2
  simp only [DS.zero, List.length_nil]
  go_upto_region 3 with fail
  refine wp_gen ?_
  intro w4 hw4
  have B4 := Lib.hid (show Below w1.heap.size w1 w4 by
    have hb : Below w3.heap.size w3 w4 := by rw [hw4]; exact below_one _ _
    have hs := B2.out.size
    have hs3 := B3.out.size
    exact (B2.out.trans (B3.out.mono hs)).trans (hb.mono (Nat.le_trans hs hs3)))
  have M4 := Lib.hid (show w4.heap[w1.heap.size]? = some (.cells #[.int .i64 2, .slice (some ⟨gL, oL, none⟩) 1 cL, .slice (some ⟨gS, oS, none⟩) 1 cS, .slice (some ⟨gW, oW, none⟩) 1 cW] 28 (0, 0)) by
    have hb : Below w3.heap.size w3 w4 := by rw [hw4]; exact below_one _ _
    have h2 := lt_of_heap M2.out
    exact (hb.block _ (Nat.lt_of_lt_of_le h2 B3.out.size)).trans ((B3.out.block _ h2).trans M2.out))
  clear hw4
  have c0 := blk_cell M4.out 0 rfl
  have c1 := blk_cell M4.out 1 rfl
  have c2 := blk_cell M4.out 2 rfl
  have c3 := blk_cell M4.out 3 rfl
  have kL := below_cell B4.out (block_lt_of_cell KL.out) KL.out
  have kS := below_cell B4.out (block_lt_of_cell KS.out) KS.out
  have kW := below_cell B4.out (block_lt_of_cell KW.out) KW.out
  have kW1 := below_cell B4.out (block_lt_of_cell KW1.out) KW1.out
  go_wp2_with fail
  go_ret
  exact ⟨rfl, HB1.out.trans (B4.out.mono HB1.out.size)⟩
end Go.Proofs.YtajjgfiojlagmaaGreatDoor
