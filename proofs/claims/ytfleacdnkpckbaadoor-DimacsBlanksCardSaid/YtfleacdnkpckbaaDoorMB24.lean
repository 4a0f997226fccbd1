/- Texts of this claim, joined: D17, D18, D19, D20, D21, D22, D14, D5X, D23, D24, D25, D26, D27, D28. -/
import Derived.Test.YtfleacdnkpckbaaDoorMB22
import Derived.Deep.DeepCutAuto
import Derived.Test.YtfleacdnkpckbaaDoorMB16
import Derived.KernelRfl
import Derived.Test.YtfleacdnkpckbaaDoorMB19

/- The reference's Same, at two equal files. -/
namespace Go.Proofs.YtfleacdnkpckbaaDoor
open Go.RowKit

def ClsAt (N : Nat) (w : World) (a : Option Addr) (L : List (List Int)) : Prop := ∀ i xs, L[i]? = some xs → ∃ b o p c, b < N ∧ a = some ⟨b, o, none⟩ ∧ w.cell? ⟨b, o + i, none⟩ = some (.slice p xs.length c) ∧ AtN N w p (ints xs)
theorem ClsAt.below {N M : Nat} {w w' : World} {a : Option Addr} {L : List (List Int)} (h : ClsAt N w a L) (hb : Below M w w') (hM : N ≤ M) : ClsAt N w' a L := fun i xs hi => by
  obtain ⟨b, o, p, c, h1, ha, hc, hx⟩ := h i xs hi
  exact ⟨b, o, p, c, h1, ha, below_cell hb (by omega) hc, hx.below hb hM⟩
theorem ClsAt.mono {N M : Nat} {w : World} {a : Option Addr} {L : List (List Int)} (h : ClsAt N w a L) (hM : N ≤ M) : ClsAt M w a L := fun i xs hi => by
  obtain ⟨b, o, p, c, h1, ha, hc, hx⟩ := h i xs hi
  exact ⟨b, o, p, c, by omega, ha, hc, hx.mono hM⟩
structure FileAt (N : Nat) (w : World) (aL aS aW : Option Addr) (L : List (List Int)) (sh : List Int) (ws : List (Int × List UInt8)) : Prop where
  l : ClsAt N w aL L
  s : AtN N w aS (ints sh)
  w : AtN N w aW (wts ws)
theorem FileAt.below {N M : Nat} {w w' : World} {aL aS aW : Option Addr} {L : List (List Int)} {sh : List Int} {ws : List (Int × List UInt8)} (h : FileAt N w aL aS aW L sh ws) (hb : Below M w w') (hM : N ≤ M) : FileAt N w' aL aS aW L sh ws :=
  ⟨h.l.below hb hM, h.s.below hb hM, h.w.below hb hM⟩
theorem FileAt.mono {N M : Nat} {w : World} {aL aS aW : Option Addr} {L : List (List Int)} {sh : List Int} {ws : List (Int × List UInt8)} (h : FileAt N w aL aS aW L sh ws) (hM : N ≤ M) : FileAt M w aL aS aW L sh ws :=
  ⟨h.l.mono hM, h.s.mono hM, h.w.mono hM⟩

set_option maxHeartbeats 3200000 in
set_option maxRecDepth 100000 in
theorem xSameInts (xs : List Int) (N : Nat) (a b : Option Addr) (c d : Nat) (hl : xs.length ≤ 100000000) (w : World) (hA : AtN N w a (ints xs)) (hB : AtN N w b (ints xs)) (hw : N ≤ w.heap.size) :
    Calls Tryd.prog 18 #[.slice a xs.length c, .slice b xs.length d] w fun e w' => e = .returned (.bool true) ∧ Below w.heap.size w w' := by
  have HA := Lib.hid hA
  have HBB := Lib.hid hB
  clear hA hB
  go_enter Tryd.func18, Tryd.ntmps18
  go_wp2_with fail
  go_loopw [5] (fun t5 wr => ∃ j : Nat, j ≤ xs.length ∧ t5 = .int .i64 j ∧ Hid (Below w.heap.size w wr)) (fun t5 _ => xs.length - (intOf t5).toNat)
  case atStart => exact ⟨0, Nat.zero_le _, rfl, Below.refl _ _⟩
  case round =>
    obtain ⟨j, hj, rfl, HB⟩ := hrel
    have hsr := HB.out.size
    by_cases hlt : j < xs.length
    · have hdd : decide (j < xs.length) = true := by simpa using hlt
      have hyy : xs[j]? = some (xs.getD j 0) := by simp [List.getD, hlt]
      obtain ⟨b1, o1, hb1, e1, k1⟩ := HA.out _ _ (ints_get _ _ _ hyy)
      obtain ⟨b2, o2, hb2, e2, k2⟩ := HBB.out _ _ (ints_get _ _ _ hyy)
      subst e1 e2
      have d1 := Lib.hid (below_cell HB.out (show b1 < w.heap.size by omega) k1)
      have d2 := Lib.hid (below_cell HB.out (show b2 < w.heap.size by omega) k2)
      generalize xs.getD j 0 = y at *
      clear k1 k2 hyy
      go_upto_region 6 with fail
      refine wp_game (List.replicate 9 0) [] B0 fin_B0 (has_B0 _) (by kernel_rfl) (by kernel_rfl) ?_
      refine lex_quietE 9 (by kernel_rfl) (by rfl) ?_
      apply Exists.intro
      refine ⟨fun z hz1 => ?_, ?_⟩
      · have hzb := hz1.below
        have g1 := below_cellp hzb d1.out (by omega)
        have g2 := below_cellp hzb d2.out (by omega)
        clear hz1
        simp only [List.take_succ_cons, List.take_zero]
        unfold Cx
        repeat (go_big_quiet_step (fail))
        exact wpQuiet_nil rfl
      simp only [List.drop_succ_cons, List.drop_zero]
      refine lex_nil ?_
      intro x2 hx2 _
      have HBf := Lib.hid (HB.out.trans (hx2.below.mono HB.out.size))
      clear hx2
      go_wp2_with fail
      go_roundw
      case rel => exact ⟨j + 1, by omega, by go_num, HBf.out⟩
      case measure => simp [intOf]; omega
    · obtain rfl : j = xs.length := by omega
      have hdd : decide (xs.length < xs.length) = false := by simp
      go_wp2_with fail
      go_ret
      exact ⟨rfl, HB.out⟩

set_option maxHeartbeats 3200000 in
set_option maxRecDepth 100000 in
theorem xSameTheory (n : Int) (L : List (List Int)) (a b : Option Addr) (c d : Nat) (hl : L.length ≤ 100000000) (hll : ∀ xs ∈ L, xs.length ≤ 100000000) (w : World) (hA : ClsAt w.heap.size w a L) (hB : ClsAt w.heap.size w b L) :
    Calls Tryd.prog 17 #[.agg #[.int .i64 n, .slice a L.length c], .agg #[.int .i64 n, .slice b L.length d]] w fun e w' => e = .returned (.bool true) ∧ Below w.heap.size w w' := by
  have HLL := Lib.hid hll
  have HA0 := Lib.hid hA
  have HB0 := Lib.hid hB
  have hne : (n != n) = false := by simp
  clear hA hB hll
  go_enter Tryd.func17, Tryd.ntmps17
  go_wp2_with fail
  refine wp_gen ?_
  intro w2 hw2
  have hB2 : Below w.heap.size w w2 := by rw [hw2]; exact below_two _ _ _
  have m2 : w2.heap[w.heap.size]? = some (.cells #[.int .i64 n, .slice a L.length c] 25 (0, 0)) := by rw [hw2]; exact new_two1 _ _ _
  have m3 : w2.heap[w.heap.size + 1]? = some (.cells #[.int .i64 n, .slice b L.length d] 25 (0, 0)) := by rw [hw2]; exact new_two2 _ _ _
  clear hw2
  have hl2 := lt_of_heap m2
  have hl3 := lt_of_heap m3
  have c20 := Lib.hid (blk_cell m2 0 rfl)
  have C21 := Lib.hid (blk_cell m2 1 rfl)
  have C31 := Lib.hid (blk_cell m3 1 rfl)
  have HA := Lib.hid ((HA0.out.below hB2 (Nat.le_refl _)).mono hB2.size)
  have HB := Lib.hid ((HB0.out.below hB2 (Nat.le_refl _)).mono hB2.size)
  have HB2 := Lib.hid hB2
  clear m2 m3 HA0 HB0 hB2
  go_loopw [5] (fun i wr => ∃ j : Nat, j ≤ L.length ∧ i = .int .i64 j ∧ Hid (Below w2.heap.size w2 wr)) (fun i _ => L.length - (intOf i).toNat)
  case atStart => exact ⟨0, Nat.zero_le _, rfl, Below.refl _ _⟩
  case round =>
    obtain ⟨j, hj, rfl, HBR⟩ := hrel
    have d21 := below_cell HBR.out hl2 C21.out
    by_cases hlt : j < L.length
    · have hd : decide (j < L.length) = true := by simpa using hlt
      obtain ⟨xs, hxs⟩ : ∃ xs, L[j]? = some xs := ⟨_, List.getElem?_eq_getElem hlt⟩
      have hxl := HLL.out xs (List.mem_of_getElem? hxs)
      obtain ⟨b1, o1, pa1, pc1, hb1, rfl, k1, hx1⟩ := HA.out j xs hxs
      obtain ⟨b2, o2, pa2, pc2, hb2, rfl, k2, hx2⟩ := HB.out j xs hxs
      have K1 := Lib.hid k1
      have K2 := Lib.hid k2
      have KS : ∀ z : World, Below w2.heap.size w2 z → GivesFrom z 18 #[.slice pa1 xs.length pc1, .slice pa2 xs.length pc2] (.bool true) := fun z hz w' hb =>
        xSameInts xs z.heap.size pa1 pa2 pc1 pc2 hxl w' (((hx1.below hz (Nat.le_refl _)).mono hz.size).below hb (Nat.le_refl _)) (((hx2.below hz (Nat.le_refl _)).mono hz.size).below hb (Nat.le_refl _)) hb.size
      have HKS := Lib.hid KS
      clear hxs k1 k2 hx1 hx2 KS
      go_wp2_with fail
      clear d21
      refine wp_game [0, 0, 0, 0, 0, 0, 0, 0, 0, 0, 0, 0] [] B0 fin_B0 (has_B0 _) (by kernel_rfl) (by kernel_rfl) ?_
      refine lex_quietE 12 (by kernel_rfl) (by rfl) ?_
      apply Exists.intro
      refine ⟨fun z hz => ?_, ?_⟩
      · have hwz := HBR.out.trans (hz.below_of (b := w2.heap.size) (by simp) HBR.out.size)
        have g0 := below_cellp hwz K1.out hb1
        have g1 := below_cellp hwz K2.out hb2
        have g2 := below_cellp hwz C21.out hl2
        have g3 := below_cellp hwz C31.out hl3
        have KSz := HKS.out z hwz
        clear hz hwz
        simp only [List.take_succ_cons, List.take_zero]
        unfold Cx
        repeat (go_big_quiet_step (with_reducible exact KSz.at _))
        exact wpQuiet_nil rfl
      simp only [List.drop_succ_cons, List.drop_zero]
      refine lex_nil ?_
      intro x7 hx7 _
      have HB7 := Lib.hid (HBR.out.trans (hx7.below_of (b := w2.heap.size) (by simp) HBR.out.size))
      clear hx7 HBR K1 K2 HKS
      go_wp2_with fail
      go_roundw
      case rel => exact ⟨j + 1, by omega, by go_num, HB7⟩
      case measure => simp [intOf]; omega
    · obtain rfl : j = L.length := by omega
      go_wp2_with fail
      go_ret
      exact ⟨rfl, HB2.out.trans (HBR.out.mono HB2.out.size)⟩

set_option maxHeartbeats 3200000 in
set_option maxRecDepth 100000 in
theorem xSame (n : Int) (L : List (List Int)) (sh : List Int) (ws : List (Int × List UInt8)) (aL aS aW bL bS bW : Option Addr) (cL cS cW dL dS dW : Nat) (hl : L.length ≤ 100000000) (hll : ∀ xs ∈ L, xs.length ≤ 100000000) (hsl : sh.length ≤ 100000000) (hwl : ws.length ≤ 100000000) (w : World) (hA : FileAt w.heap.size w aL aS aW L sh ws) (hB : FileAt w.heap.size w bL bS bW L sh ws) :
    Calls Tryd.prog 9 #[.agg #[.int .i64 n, .slice aL L.length cL, .slice aS sh.length cS, .slice aW ws.length cW], .agg #[.int .i64 n, .slice bL L.length dL, .slice bS sh.length dS, .slice bW ws.length dW]] w fun e w' => e = .returned (.bool true) ∧ Below w.heap.size w w' := by
  have HLL := Lib.hid hll
  have HA0 := Lib.hid hA
  have HB0 := Lib.hid hB
  clear hA hB hll
  go_enter Tryd.func9, Tryd.ntmps9
  go_upto_region 1 with fail
  refine wp_gen ?_
  intro w2 hw2
  have hB2 : Below w.heap.size w w2 := by rw [hw2]; exact below_two _ _ _
  have m2 : w2.heap[w.heap.size]? = some (.cells #[.int .i64 n, .slice aL L.length cL, .slice aS sh.length cS, .slice aW ws.length cW] 35 (0, 0)) := by rw [hw2]; exact new_two1 _ _ _
  have m3 : w2.heap[w.heap.size + 1]? = some (.cells #[.int .i64 n, .slice bL L.length dL, .slice bS sh.length dS, .slice bW ws.length dW] 35 (0, 0)) := by rw [hw2]; exact new_two2 _ _ _
  clear hw2
  have M2 := Lib.hid m2
  have M3 := Lib.hid m3
  have hA2 := (HA0.out.below hB2 (Nat.le_refl _)).mono hB2.size
  have hB2' := (HB0.out.below hB2 (Nat.le_refl _)).mono hB2.size
  have KT := Lib.hid (xSameTheory n L aL bL cL dL hl HLL.out w2 hA2.l hB2'.l)
  have HA := Lib.hid hA2
  have HB := Lib.hid hB2'
  have HB2 := Lib.hid hB2
  have p0 := blk_cell m2 0 rfl
  have p1 := blk_cell m2 1 rfl
  have q0 := blk_cell m3 0 rfl
  have q1 := blk_cell m3 1 rfl
  clear m2 m3 HA0 HB0 hB2 hA2 hB2'
  go_wp2_with fail
  refine KT.out.mono ?_
  rintro e w3 ⟨rfl, hb3⟩
  have HB3 := Lib.hid hb3
  have M2b := Lib.hid ((hb3.block _ (lt_of_heap M2.out)).trans M2.out)
  have M3b := Lib.hid ((hb3.block _ (lt_of_heap M3.out)).trans M3.out)
  have KS := Lib.hid (xSameInts sh w3.heap.size aS bS cS dS hsl w3 ((HA.out.s.below hb3 (Nat.le_refl _)).mono hb3.size) ((HB.out.s.below hb3 (Nat.le_refl _)).mono hb3.size) (Nat.le_refl _))
  clear p0 p1 q0 q1 hb3 KT M2 M3
  have p2 := blk_cell M2b.out 2 rfl
  have q2 := blk_cell M3b.out 2 rfl
  go_wp2_with fail
  refine KS.out.mono ?_
  rintro e w4 ⟨rfl, hb4⟩
  have HB4 := Lib.hid (HB3.out.trans (hb4.mono HB3.out.size))
  have M2 := Lib.hid ((hb4.block _ (lt_of_heap M2b.out)).trans M2b.out)
  have M3 := Lib.hid ((hb4.block _ (lt_of_heap M3b.out)).trans M3b.out)
  clear p2 q2 hb4 KS M2b M3b HB3
  have p3 := blk_cell M2.out 3 rfl
  have q3 := blk_cell M3.out 3 rfl
  have hne : ((ws.length : Int) != (ws.length : Int)) = false := by simp
  go_wp2_with fail
  have P3 := Lib.hid p3
  have Q3 := Lib.hid q3
  clear p3 q3
  go_loopw [5] (fun i wr => ∃ j : Nat, j ≤ ws.length ∧ i = .int .i64 j ∧ Hid (Below w4.heap.size w4 wr)) (fun i _ => ws.length - (intOf i).toNat)
  case atStart => exact ⟨0, Nat.zero_le _, rfl, Below.refl _ _⟩
  case round =>
    obtain ⟨j, hj, rfl, HBR⟩ := hrel
    have d1 := below_cell HBR.out (block_lt_of_cell P3.out) P3.out
    by_cases hlt : j < ws.length
    · have hd : decide (j < ws.length) = true := by simpa using hlt
      have hxx : ws[j]? = some (ws.getD j (0, [])) := by simp [List.getD, hlt]
      obtain ⟨h0, h1⟩ := wts_get ws j _ hxx
      obtain ⟨b1, o1, hb1, rfl, k1⟩ := HA.out.w _ _ h0
      obtain ⟨_, _, _, e1, l1⟩ := HA.out.w _ _ h1
      cases e1
      obtain ⟨b2, o2, hb2, rfl, k2⟩ := HB.out.w _ _ h0
      obtain ⟨_, _, _, e2, l2⟩ := HB.out.w _ _ h1
      cases e2
      rw [Nat.mul_comm] at k1 k2
      rw [Nat.mul_comm, ← Nat.add_assoc] at l1 l2
      have hs24 := HB4.out.size
      have hb1' : b1 < w4.heap.size := by omega
      have hb2' : b2 < w4.heap.size := by omega
      have K1 := Lib.hid (below_cell HB4.out (by omega) k1)
      have K2 := Lib.hid (below_cell HB4.out (by omega) k2)
      have L1 := Lib.hid (below_cell HB4.out (by omega) l1)
      have L2 := Lib.hid (below_cell HB4.out (by omega) l2)
      have hp3 := block_lt_of_cell P3.out
      have hq3 := block_lt_of_cell Q3.out
      generalize ws.getD j (0, []) = x at *
      obtain ⟨l, y⟩ := x
      simp only at K1 K2 L1 L2
      generalize (⟨y.toArray⟩ : ByteArray) = y1 at *
      clear h0 h1 k1 k2 l1 l2 hxx hs24
      go_wp2_with fail
      clear d1
      refine wp_game (List.replicate 11 0) [] B0 fin_B0 (has_B0 _) (by kernel_rfl) (by kernel_rfl) ?_
      refine lex_quietE 11 (by kernel_rfl) (by rfl) ?_
      apply Exists.intro
      refine ⟨fun z hz => ?_, ?_⟩
      · have hwz := HBR.out.trans (hz.below_of (b := w4.heap.size) (by simp) HBR.out.size)
        have g0 := below_cellp hwz K1.out hb1'
        have g1 := below_cellp hwz K2.out hb2'
        have g2 := below_cellp hwz L1.out hb1'
        have g3 := below_cellp hwz L2.out hb2'
        have g4 := below_cellp hwz P3.out hp3
        have g5 := below_cellp hwz Q3.out hq3
        clear hz hwz
        simp only [List.take_succ_cons, List.take_zero]
        unfold Cx
        repeat (go_big_quiet_step (fail))
        exact wpQuiet_nil rfl
      simp only [List.drop_succ_cons, List.drop_zero]
      refine lex_nil ?_
      intro x7 hx7 _
      have HB7 := Lib.hid (HBR.out.trans (hx7.below_of (b := w4.heap.size) (by simp) HBR.out.size))
      clear hx7 HBR K1 K2
      go_wp2_with fail
      go_roundw
      case rel => exact ⟨j + 1, by omega, by go_num, HB7⟩
      case measure => simp [intOf]; omega
    · obtain rfl : j = ws.length := by omega
      have hd : decide (ws.length < ws.length) = false := by simp
      go_wp2_with fail
      go_ret
      exact ⟨rfl, HB2.out.trans ((HB4.out.trans (HBR.out.mono HB4.out.size)).mono HB2.out.size)⟩
end Go.Proofs.YtfleacdnkpckbaaDoor

/- The reference reads a line by its kind first: the same. Plain; and its two searches. -/
namespace Go.Proofs.YtfleacdnkpckbaaDoor
open Go.RowKit

section
variable {st : DS} {w : List (List UInt8)}
end
end Go.Proofs.YtfleacdnkpckbaaDoor

/- The reference's in and heavy. -/
namespace Go.Proofs.YtfleacdnkpckbaaDoor
open Go.RowKit

end Go.Proofs.YtfleacdnkpckbaaDoor

/- The reference's kind. -/
namespace Go.Proofs.YtfleacdnkpckbaaDoor
open Go.RowKit

section
variable {rd : List UInt8 → Bool} {r : List (List UInt8)}
end
end Go.Proofs.YtfleacdnkpckbaaDoor

/- The reference's kind, of a comment. -/
namespace Go.Proofs.YtfleacdnkpckbaaDoor
open Go.RowKit Num

end Go.Proofs.YtfleacdnkpckbaaDoor

/- The reference's kind, of literals; and of any line. -/
namespace Go.Proofs.YtfleacdnkpckbaaDoor
open Go.RowKit

end Go.Proofs.YtfleacdnkpckbaaDoor

/- works: the chapter's examples. -/
namespace Go.Proofs.YtfleacdnkpckbaaDoor
open Go.RowKit

theorem rowV_at2 {w : World} {E : TypeId} {size : Nat} {v : Value} {n : Nat} {xs : List Value} (hr : RowV (inW w) E size v n xs) : ∃ a c, v = .slice a n c ∧ n ≤ c ∧ AtN w.heap.size w a xs := by
  have hlen := hr.length
  cases hr with
  | nil => exact ⟨none, 0, rfl, Nat.le_refl _, fun i v hi => by simp at hi⟩
  | @row g n cap ys cur hr =>
    refine ⟨some ⟨g, 0, none⟩, cap, rfl, hr.le, fun i v hi => ⟨g, 0, lt_of_heap hr.blk, rfl, ?_⟩⟩
    have h2 := hr.tk
    rw [← h2, List.getElem?_take] at hi
    split at hi
    · rw [Nat.zero_add]
      exact blk_cell hr.blk i (by simpa using hi)
    · cases hi
theorem AtN.first {w : World} {a : Option Addr} {x : Value} {xs : List Value} (h : AtN w.heap.size w a (x :: xs)) : ∃ g o, a = some ⟨g, o, none⟩ ∧ w.cell? ⟨g, o, none⟩ = some x := by
  obtain ⟨g, o, _, e, hc⟩ := h 0 x rfl
  exact ⟨g, o, e, hc⟩

def xa : List UInt8 := [99, 32, 120, 10, 112, 32, 99, 110, 102, 32, 50, 32, 49, 10, 99, 32, 112, 32, 115, 104, 111, 119, 32, 50, 32, 48, 10, 99, 32, 112, 32, 119, 101, 105, 103, 104, 116, 32, 45, 49, 32, 49, 47, 50, 32, 48, 10, 48, 10]
def xb : List UInt8 := [49, 32, 48]
theorem parse_xa : parseD rdD xa = (⟨2, [[]], [2], [(-1, [49, 47, 50])], true, 1, [], false⟩, 0, 0) := by kernel_rfl
theorem parse_xb : parseD rdD xb = (.zero, 1, 5) := by kernel_rfl

set_option maxHeartbeats 3200000 in
set_option maxRecDepth 100000 in
theorem gWorks (w : World) (hM0 : ∃ m, w.cell? ⟨0, 0, none⟩ = some (.int .i64 m)) : Calls Tryd.prog 6 #[] w fun e w' => e = .returned (.bool true) ∧ Below w.heap.size w w' := by
  have K1 := gParse xa (by decide) w hM0
  rw [parse_xa] at K1
  unfold xa at K1
  have HK1 := Lib.hid K1
  have KB := Lib.hid (fun (x : World) (h : ∃ m, x.cell? ⟨0, 0, none⟩ = some (.int .i64 m)) => gParse xb (by decide) x h)
  rw [parse_xb] at KB
  unfold xb at KB
  have HM0 := Lib.hid hM0
  have hlt0 : 0 < w.heap.size := by obtain ⟨m, hm⟩ := hM0; exact block_lt_of_cell hm
  have hcast : ((0 : Nat) : Int) = 0 ∧ ((1 : Nat) : Int) = 1 := ⟨rfl, rfl⟩
  clear K1 hM0
  go_enter Tryd.func6, Tryd.ntmps6
  go_wp2_with fail
  refine HK1.out.mono ?_
  rintro e w1 ⟨v, rfl, hR, hB⟩
  obtain ⟨⟨cl, hL, hLc⟩, hS, hW, _, _, _, _, _, _, _, _⟩ := hR
  obtain ⟨aL, cL, hvL, _, atL⟩ := rowV_at2 hL
  obtain ⟨aS, cS, hvS, _, atS⟩ := rowV_at2 hS
  obtain ⟨aW, cW, hvW, _, atW⟩ := rowV_at2 hW
  obtain ⟨u, hcl⟩ : ∃ u, cl = [u] := by
    have := hL.length
    match cl, this with
    | [u], _ => exact ⟨u, rfl⟩
  subst hcl
  have hu := (hLc 0 u [] rfl rfl).1
  obtain ⟨au, cu, hvu⟩ := hu.slice
  obtain ⟨gL, oL, rfl, kL⟩ := atL.first
  obtain ⟨gS, oS, rfl, kS⟩ := AtN.first (x := .int .i64 2) (xs := []) atS
  obtain ⟨gW, oW, hW0, kW⟩ := AtN.first (x := .int .i64 (-1)) (xs := [.string ⟨#[49, 47, 50]⟩]) atW
  obtain ⟨_, _, _, hW1, kW1⟩ := atW 1 (.string ⟨#[49, 47, 50]⟩) rfl
  rw [hW0] at hW1
  cases hW1
  subst hW0
  subst hvu
  obtain ⟨vL, vS, vW, vc⟩ := v
  simp only at hvL hvS hvW
  subst hvL
  subst hvS
  subst hvW
  have HB1 := Lib.hid hB
  have hM1 : ∃ m, w1.cell? ⟨0, 0, none⟩ = some (.int .i64 m) := by
    obtain ⟨m, hm⟩ := HM0.out
    exact ⟨m, below_cell hB hlt0 hm⟩
  have HM1 := Lib.hid hM1
  have KL := Lib.hid kL
  have KS := Lib.hid kS
  have KW := Lib.hid kW
  have KW1 := Lib.hid kW1
  clear hL hLc hS hW hB hM1 atL atS atW kL kS kW kW1 HK1
  simp only [DS.zero, List.length_cons, List.length_nil]
  go_wp2_with fail
  refine calls_gen fun w2 hw2 => ?_
  have B2 := Lib.hid (show Below w1.heap.size w1 w2 by rw [hw2]; exact below_one _ _)
  have M2 := Lib.hid (show w2.heap[w1.heap.size]? = some (.cells #[.int .i64 2, .slice (some ⟨gL, oL, none⟩) 1 cL, .slice (some ⟨gS, oS, none⟩) 1 cS, .slice (some ⟨gW, oW, none⟩) 1 cW] 29 (0, 0)) by rw [hw2]; exact new_one _ _)
  clear hw2
  have hM2 : ∃ m, w2.cell? ⟨0, 0, none⟩ = some (.int .i64 m) := by
    obtain ⟨m, hm⟩ := HM1.out
    exact ⟨m, below_cell B2.out (block_lt_of_cell hm) hm⟩
  refine (KB.out w2 hM2).mono ?_
  rintro e w3 ⟨v3, rfl, hR3, hB3⟩
  have B3 := Lib.hid hB3
  obtain ⟨⟨_, hL3, _⟩, hS3, hW3, _, _, _, _, _, _, _, _⟩ := hR3
  obtain ⟨aL3, cL3, hv1⟩ := hL3.slice
  obtain ⟨aS3, cS3, hv2⟩ := hS3.slice
  obtain ⟨aW3, cW3, hv3⟩ := hW3.slice
  obtain ⟨vL3, vS3, vW3, vc3⟩ := v3
  simp only at hv1 hv2 hv3
  subst hv1
  subst hv2
  subst hv3
  clear hL3 hS3 hW3 hB3 hM2
  simp only [DS.zero, List.length_nil]
  go_upto_region 3 with fail
  refine wp_gen ?_
  intro w4 hw4
  have B4 := Lib.hid (show Below w1.heap.size w1 w4 by
    have hb : Below w3.heap.size w3 w4 := by rw [hw4]; exact below_one _ _
    have hs := B2.out.size
    have hs3 := B3.out.size
    exact (B2.out.trans (B3.out.mono hs)).trans (hb.mono (Nat.le_trans hs hs3)))
  have M4 := Lib.hid (show w4.heap[w1.heap.size]? = some (.cells #[.int .i64 2, .slice (some ⟨gL, oL, none⟩) 1 cL, .slice (some ⟨gS, oS, none⟩) 1 cS, .slice (some ⟨gW, oW, none⟩) 1 cW] 29 (0, 0)) by
    have hb : Below w3.heap.size w3 w4 := by rw [hw4]; exact below_one _ _
    have h2 := lt_of_heap M2.out
    exact (hb.block _ (Nat.lt_of_lt_of_le h2 B3.out.size)).trans ((B3.out.block _ h2).trans M2.out))
  clear hw4
  have c0 := blk_cell M4.out 0 rfl
  have c1 := blk_cell M4.out 1 rfl
  have c2 := blk_cell M4.out 2 rfl
  have c3 := blk_cell M4.out 3 rfl
  have kL := below_cell B4.out (block_lt_of_cell KL.out) KL.out
  have kS := below_cell B4.out (block_lt_of_cell KS.out) KS.out
  have kW := below_cell B4.out (block_lt_of_cell KW.out) KW.out
  have kW1 := below_cell B4.out (block_lt_of_cell KW1.out) KW1.out
  go_wp2_with fail
  go_ret
  exact ⟨rfl, HB1.out.trans (B4.out.mono HB1.out.size)⟩
end Go.Proofs.YtfleacdnkpckbaaDoor

/- What has been read, in memory, with a predicate for the blocks of one's own (D5X: as D5, printed out of it). -/
namespace Go.Proofs.YtfleacdnkpckbaaDoor
open Go.RowKit

structure DX (TW : TypeId) (w : World) (G : Nat → Prop) (st : DS) (v : DV) : Prop where
  rL : ∃ cl, RowV (inW w) 26 1 v.L st.L.length cl ∧ ∀ (i : Nat) (u : Value) (xs : List Int), cl[i]? = some u → st.L[i]? = some xs → RowV (inW w) 3 1 u xs.length (ints xs) ∧ ∀ g ∈ rowBlk u, G g ∧ g ∉ v.M
  rS : RowV (inW w) 3 1 v.S st.sh.length (ints st.sh)
  rW : RowV (inW w) TW 2 v.W st.ws.length (wts st.ws)
  rc : RowV (inW w) 3 1 v.c st.cl.length (ints st.cl)
  ge : ∀ g ∈ v.M, G g
  nLS : ∀ g ∈ rowBlk v.L, g ∉ rowBlk v.S
  nLW : ∀ g ∈ rowBlk v.L, g ∉ rowBlk v.W
  nLc : ∀ g ∈ rowBlk v.L, g ∉ rowBlk v.c
  nSW : ∀ g ∈ rowBlk v.S, g ∉ rowBlk v.W
  nSc : ∀ g ∈ rowBlk v.S, g ∉ rowBlk v.c
  nWc : ∀ g ∈ rowBlk v.W, g ∉ rowBlk v.c

variable {TW : TypeId} {w w' : World} {G : Nat → Prop} {st : DS} {v : DV}
theorem DX.lt (h : DX TW w G st v) : ∀ g ∈ v.M, g < w.heap.size := fun g hg => by
  obtain ⟨cl, hL, _⟩ := h.rL
  rcases DV.mem.1 hg with hg | hg | hg | hg
  · exact hL.lt g hg
  · exact h.rS.lt g hg
  · exact h.rW.lt g hg
  · exact h.rc.lt g hg
theorem DX.keep {U : List Nat} (h : DX TW w G st v) (hB : Behind w U w') (hU : ∀ g ∈ U, ¬ G g ∨ w.heap.size ≤ g) : DX TW w' G st v := by
  have hM : ∀ g, G g → g < w.heap.size → g ∉ U := fun g h1 h2 hu => (hU g hu).elim (fun e => e h1) (fun e => by omega)
  have hlt := h.lt
  obtain ⟨cl, hL, hC⟩ := h.rL
  have hx : ∀ g ∈ v.M, g ∉ U := fun g hg => hM g (h.ge g hg) (hlt g hg)
  refine ⟨⟨cl, hL.keep hB (fun g hg => hx g (DV.mem.2 (.inl hg))), fun i u xs h1 h2 => ?_⟩, h.rS.keep hB (fun g hg => hx g (DV.mem.2 (.inr (.inl hg)))), h.rW.keep hB (fun g hg => hx g (DV.mem.2 (.inr (.inr (.inl hg))))), h.rc.keep hB (fun g hg => hx g (DV.mem.2 (.inr (.inr (.inr hg))))), h.ge, h.nLS, h.nLW, h.nLc, h.nSW, h.nSc, h.nWc⟩
  obtain ⟨hr, hg⟩ := hC i u xs h1 h2
  exact ⟨hr.keep hB (fun g hg' => hM g (hg g hg').1 (hr.lt g hg')), hg⟩
theorem DX.keepB (h : DX TW w G st v) (hB : Below w.heap.size w w') : DX TW w' G st v := h.keep (behind_of_below hB) (by simp)
theorem DX.mono {G' : Nat → Prop} (h : DX TW w G st v) (hb : ∀ g, G g → G' g) : DX TW w G' st v := by
  obtain ⟨cl, hL, hC⟩ := h.rL
  exact ⟨⟨cl, hL, fun i u xs h1 h2 => ⟨(hC i u xs h1 h2).1, fun g hg => ⟨hb g ((hC i u xs h1 h2).2 g hg).1, ((hC i u xs h1 h2).2 g hg).2⟩⟩⟩, h.rS, h.rW, h.rc, fun g hg => hb g (h.ge g hg), h.nLS, h.nLW, h.nLc, h.nSW, h.nSc, h.nWc⟩
theorem DX.appS {x : Int} {vS : Value} (h : DX TW w G st v) (hb : ∀ g, w.heap.size ≤ g → G g) (hB : Behind w (rowBlk v.S) w') (hr : RowV (inW w') 3 1 vS (st.sh.length + 1) (ints st.sh ++ [.int .i64 x])) (hn : ∀ g ∈ rowBlk vS, g ∈ rowBlk v.S ∨ w.heap.size ≤ g) :
    DX TW w' G { st with sh := st.sh ++ [x] } { v with S := vS } := by
  obtain ⟨cl, hL, hC⟩ := h.rL
  have hlt := h.lt
  have hr' : RowV (inW w') 3 1 vS (st.sh ++ [x]).length (ints (st.sh ++ [x])) := by
    rw [List.length_append, show ints (st.sh ++ [x]) = ints st.sh ++ [.int .i64 x] by simp [ints]]; exact hr
  have hno : ∀ g, g < w.heap.size → g ∉ rowBlk v.S → g ∉ rowBlk vS := fun g h1 h2 h3 => (hn g h3).elim h2 (fun e => by omega)
  refine ⟨⟨cl, hL.keep hB (fun g hg => h.nLS g hg), fun i u xs h1 h2 => ?_⟩, hr', h.rW.keep hB (fun g hg hm => h.nSW g hm hg), h.rc.keep hB (fun g hg hm => h.nSc g hm hg), fun g hg => ?_, fun g hg => hno g (hL.lt g hg) (h.nLS g hg), h.nLW, h.nLc, fun g hg hm => ?_, fun g hg hm => ?_, h.nWc⟩
  · obtain ⟨hr2, hg⟩ := hC i u xs h1 h2
    refine ⟨hr2.keep hB (fun g hg' hm => (hg g hg').2 (DV.mem.2 (.inr (.inl hm)))), fun g hg' => ⟨(hg g hg').1, fun hm => ?_⟩⟩
    have h9 := (hg g hg').2
    rw [DV.mem] at h9 hm
    rcases hm with hm | hm | hm | hm
    · exact h9 (.inl hm)
    · exact (hn g hm).elim (fun e => h9 (.inr (.inl e))) (fun e => by have := hr2.lt g hg'; omega)
    · exact h9 (.inr (.inr (.inl hm)))
    · exact h9 (.inr (.inr (.inr hm)))
  · rcases DV.mem.1 hg with hg | hg | hg | hg
    · exact h.ge g (DV.mem.2 (.inl hg))
    · exact (hn g hg).elim (fun e => h.ge g (DV.mem.2 (.inr (.inl e)))) (fun e => hb g e)
    · exact h.ge g (DV.mem.2 (.inr (.inr (.inl hg))))
    · exact h.ge g (DV.mem.2 (.inr (.inr (.inr hg))))
  · exact (hn g hg).elim (fun e => h.nSW g e hm) (fun e => by have := h.rW.lt g hm; omega)
  · exact (hn g hg).elim (fun e => h.nSc g e hm) (fun e => by have := h.rc.lt g hm; omega)
theorem DX.appW {x : Int × List UInt8} {vW : Value} (h : DX TW w G st v) (hb : ∀ g, w.heap.size ≤ g → G g) (hB : Behind w (rowBlk v.W) w') (hr : RowV (inW w') TW 2 vW (st.ws.length + 1) (wts st.ws ++ [.int .i64 x.1, .string ⟨x.2.toArray⟩])) (hn : ∀ g ∈ rowBlk vW, g ∈ rowBlk v.W ∨ w.heap.size ≤ g) :
    DX TW w' G { st with ws := st.ws ++ [x] } { v with W := vW } := by
  obtain ⟨cl, hL, hC⟩ := h.rL
  have hlt := h.lt
  have hr' : RowV (inW w') TW 2 vW (st.ws ++ [x]).length (wts (st.ws ++ [x])) := by
    rw [List.length_append, wts_app]; exact hr
  have hno : ∀ g, g < w.heap.size → g ∉ rowBlk v.W → g ∉ rowBlk vW := fun g h1 h2 h3 => (hn g h3).elim h2 (fun e => by omega)
  refine ⟨⟨cl, hL.keep hB (fun g hg => h.nLW g hg), fun i u xs h1 h2 => ?_⟩, h.rS.keep hB (fun g hg => h.nSW g hg), hr', h.rc.keep hB (fun g hg hm => h.nWc g hm hg), fun g hg => ?_, h.nLS, fun g hg => hno g (hL.lt g hg) (h.nLW g hg), h.nLc, fun g hg => hno g (h.rS.lt g hg) (h.nSW g hg), h.nSc, fun g hg hm => ?_⟩
  · obtain ⟨hr2, hg⟩ := hC i u xs h1 h2
    refine ⟨hr2.keep hB (fun g hg' hm => (hg g hg').2 (DV.mem.2 (.inr (.inr (.inl hm))))), fun g hg' => ⟨(hg g hg').1, fun hm => ?_⟩⟩
    have h9 := (hg g hg').2
    rw [DV.mem] at h9 hm
    rcases hm with hm | hm | hm | hm
    · exact h9 (.inl hm)
    · exact h9 (.inr (.inl hm))
    · exact (hn g hm).elim (fun e => h9 (.inr (.inr (.inl e)))) (fun e => by have := hr2.lt g hg'; omega)
    · exact h9 (.inr (.inr (.inr hm)))
  · rcases DV.mem.1 hg with hg | hg | hg | hg
    · exact h.ge g (DV.mem.2 (.inl hg))
    · exact h.ge g (DV.mem.2 (.inr (.inl hg)))
    · exact (hn g hg).elim (fun e => h.ge g (DV.mem.2 (.inr (.inr (.inl e))))) (fun e => hb g e)
    · exact h.ge g (DV.mem.2 (.inr (.inr (.inr hg))))
  · exact (hn g hg).elim (fun e => h.nWc g e hm) (fun e => by have := h.rc.lt g hm; omega)
theorem DX.appc {x : Int} {vc : Value} {o : Bool} (h : DX TW w G st v) (hb : ∀ g, w.heap.size ≤ g → G g) (hB : Behind w (rowBlk v.c) w') (hr : RowV (inW w') 3 1 vc (st.cl.length + 1) (ints st.cl ++ [.int .i64 x])) (hn : ∀ g ∈ rowBlk vc, g ∈ rowBlk v.c ∨ w.heap.size ≤ g) :
    DX TW w' G { st with cl := st.cl ++ [x], op := o } { v with c := vc } := by
  obtain ⟨cl, hL, hC⟩ := h.rL
  have hlt := h.lt
  have hr' : RowV (inW w') 3 1 vc (st.cl ++ [x]).length (ints (st.cl ++ [x])) := by
    rw [List.length_append, show ints (st.cl ++ [x]) = ints st.cl ++ [.int .i64 x] by simp [ints]]; exact hr
  have hno : ∀ g, g < w.heap.size → g ∉ rowBlk v.c → g ∉ rowBlk vc := fun g h1 h2 h3 => (hn g h3).elim h2 (fun e => by omega)
  refine ⟨⟨cl, hL.keep hB (fun g hg => h.nLc g hg), fun i u xs h1 h2 => ?_⟩, h.rS.keep hB (fun g hg => h.nSc g hg), h.rW.keep hB (fun g hg => h.nWc g hg), hr', fun g hg => ?_, h.nLS, h.nLW, fun g hg => hno g (hL.lt g hg) (h.nLc g hg), h.nSW, fun g hg => hno g (h.rS.lt g hg) (h.nSc g hg), fun g hg => hno g (h.rW.lt g hg) (h.nWc g hg)⟩
  · obtain ⟨hr2, hg⟩ := hC i u xs h1 h2
    refine ⟨hr2.keep hB (fun g hg' hm => (hg g hg').2 (DV.mem.2 (.inr (.inr (.inr hm))))), fun g hg' => ⟨(hg g hg').1, fun hm => ?_⟩⟩
    have h9 := (hg g hg').2
    rw [DV.mem] at h9 hm
    rcases hm with hm | hm | hm | hm
    · exact h9 (.inl hm)
    · exact h9 (.inr (.inl hm))
    · exact h9 (.inr (.inr (.inl hm)))
    · exact (hn g hm).elim (fun e => h9 (.inr (.inr (.inr e)))) (fun e => by have := hr2.lt g hg'; omega)
  · rcases DV.mem.1 hg with hg | hg | hg | hg
    · exact h.ge g (DV.mem.2 (.inl hg))
    · exact h.ge g (DV.mem.2 (.inr (.inl hg)))
    · exact h.ge g (DV.mem.2 (.inr (.inr (.inl hg))))
    · exact (hn g hg).elim (fun e => h.ge g (DV.mem.2 (.inr (.inr (.inr e))))) (fun e => hb g e)
theorem DX.appL {vL : Value} (h : DX TW w G st v) (hb : ∀ g, w.heap.size ≤ g → G g) (hB : Behind w (rowBlk v.L) w')
    (hr : ∀ cl, RowV (inW w) 26 1 v.L st.L.length cl → RowV (inW w') 26 1 vL (st.L.length + 1) (cl ++ [v.c])) (hn : ∀ g ∈ rowBlk vL, g ∈ rowBlk v.L ∨ w.heap.size ≤ g) :
    DX TW w' G { st with L := st.L ++ [st.cl], cl := [], op := false } { v with L := vL, c := .slice none 0 0 } := by
  obtain ⟨cl, hL, hC⟩ := h.rL
  have hlt := h.lt
  have hlen := hL.length
  have hno : ∀ g, g < w.heap.size → g ∉ rowBlk v.L → g ∉ rowBlk vL := fun g h1 h2 h3 => (hn g h3).elim h2 (fun e => by omega)
  refine ⟨⟨cl ++ [v.c], by rw [List.length_append]; exact hr cl hL, fun i u xs h1 h2 => ?_⟩, h.rS.keep hB (fun g hg hm => h.nLS g hm hg), h.rW.keep hB (fun g hg hm => h.nLW g hm hg), .nil, fun g hg => ?_, fun g hg hm => ?_, fun g hg hm => ?_, by simp [rowBlk], h.nSW, by simp [rowBlk], by simp [rowBlk]⟩
  · by_cases hi : i < cl.length
    · rw [List.getElem?_append_left hi] at h1
      rw [List.getElem?_append_left (by omega)] at h2
      obtain ⟨hr2, hg⟩ := hC i u xs h1 h2
      refine ⟨hr2.keep hB (fun g hg' hm => (hg g hg').2 (DV.mem.2 (.inl hm))), fun g hg' => ⟨(hg g hg').1, fun hm => ?_⟩⟩
      have h9 := (hg g hg').2
      rw [DV.mem] at h9 hm
      rcases hm with hm | hm | hm | hm
      · exact (hn g hm).elim (fun e => h9 (.inl e)) (fun e => by have := hr2.lt g hg'; omega)
      · exact h9 (.inr (.inl hm))
      · exact h9 (.inr (.inr (.inl hm)))
      · simp [rowBlk] at hm
    · rw [List.getElem?_append_right (by omega)] at h1
      rw [List.getElem?_append_right (by omega)] at h2
      have hi0 : i - cl.length = 0 := by
        rcases Nat.eq_zero_or_pos (i - cl.length) with h0 | h0
        · exact h0
        · rw [List.getElem?_eq_none (by simp; omega)] at h1; cases h1
      rw [hi0] at h1
      rw [show i - st.L.length = 0 by omega] at h2
      simp only [List.getElem?_cons_zero, Option.some.injEq] at h1 h2
      subst h1
      subst h2
      refine ⟨h.rc.keep hB (fun g hg hm => h.nLc g hm hg), fun g hg => ⟨h.ge g (DV.mem.2 (.inr (.inr (.inr hg)))), fun hm => ?_⟩⟩
      rw [DV.mem] at hm
      rcases hm with hm | hm | hm | hm
      · exact (hn g hm).elim (fun e => h.nLc g e hg) (fun e => by have := h.rc.lt g hg; omega)
      · exact h.nSc g hm hg
      · exact h.nWc g hm hg
      · simp [rowBlk] at hm
  · rcases DV.mem.1 hg with hg | hg | hg | hg
    · exact (hn g hg).elim (fun e => h.ge g (DV.mem.2 (.inl e))) (fun e => hb g e)
    · exact h.ge g (DV.mem.2 (.inr (.inl hg)))
    · exact h.ge g (DV.mem.2 (.inr (.inr (.inl hg))))
    · simp [rowBlk] at hg
  · exact (hn g hg).elim (fun e => h.nLS g e hm) (fun e => by have := h.rS.lt g hm; omega)
  · exact (hn g hg).elim (fun e => h.nLW g e hm) (fun e => by have := h.rW.lt g hm; omega)
theorem DX.zero (TW : TypeId) (w : World) (G : Nat → Prop) : DX TW w G .zero ⟨.slice none 0 0, .slice none 0 0, .slice none 0 0, .slice none 0 0⟩ :=
  ⟨⟨[], .nil, fun i u xs h1 => by simp at h1⟩, .nil, .nil, .nil, by simp [DV.M, rowBlk], by simp [rowBlk], by simp [rowBlk], by simp [rowBlk], by simp [rowBlk], by simp [rowBlk], by simp [rowBlk]⟩
theorem DX.same {st' : DS} (h : DX TW w G st v) (hL : st'.L = st.L) (hS : st'.sh = st.sh) (hW : st'.ws = st.ws) (hc : st'.cl = st.cl) : DX TW w G st' v := by
  obtain ⟨a1, a2, a3, a4, a5, a6, a7, a8, a9, a10, a11⟩ := h
  exact ⟨by rw [hL]; exact a1, by rw [hS]; exact a2, by rw [hW]; exact a3, by rw [hc]; exact a4, a5, a6, a7, a8, a9, a10, a11⟩
end Go.Proofs.YtfleacdnkpckbaaDoor

/- The reference's state; its p line. -/
namespace Go.Proofs.YtfleacdnkpckbaaDoor
open Go.RowKit

def stV (st : DS) (v : DV) : Value := .agg #[.int .i64 st.n, v.L, v.S, v.W, .bool st.begun, .int .i64 st.m, v.c, .bool st.op]
def DV.Sl (v : DV) : Prop := ∃ a b c d e f g h i j k l, v = ⟨.slice a b c, .slice d e f, .slice g h i, .slice j k l⟩
def SPost (w : World) (G : Nat → Prop) (v : DV) (r : DS × Int) (e : Ending) (w' : World) : Prop := ∃ st' v', DV.Sl v' ∧ e = .returned (.tuple #[stV st' v', .int .i64 r.2]) ∧ Behind w v.M w' ∧ (r.2 = 0 → st' = r.1 ∧ DX 61 w' G st' v' ∧ ∀ g ∈ v'.M, g ∈ v.M ∨ w.heap.size ≤ g)
theorem SPost.err {w w' : World} {G : Nat → Prop} {v : DV} {st : DS} {n : Int} (hs : DV.Sl v) (hb : Below w.heap.size w w') (hn : n ≠ 0) : SPost w G v (st, n) (.returned (.tuple #[stV st v, .int .i64 n])) w' :=
  ⟨st, v, hs, rfl, (behind_of_below hb).mono (by simp), fun h => absurd h hn⟩

end Go.Proofs.YtfleacdnkpckbaaDoor

/- The reference's shown variables. -/
namespace Go.Proofs.YtfleacdnkpckbaaDoor
open Go.RowKit

end Go.Proofs.YtfleacdnkpckbaaDoor

/- The reference's weight. -/
namespace Go.Proofs.YtfleacdnkpckbaaDoor
open Go.RowKit

end Go.Proofs.YtfleacdnkpckbaaDoor

/- A copy of a row by append to a new empty one. -/
namespace Go.Proofs.YtfleacdnkpckbaaDoor
open Go.RowKit

end Go.Proofs.YtfleacdnkpckbaaDoor

/- The reference's literals. -/
namespace Go.Proofs.YtfleacdnkpckbaaDoor
open Go.RowKit

end Go.Proofs.YtfleacdnkpckbaaDoor

/- The reference's line. -/
namespace Go.Proofs.YtfleacdnkpckbaaDoor
open Go.RowKit

theorem SPost.from {w w1 w' : World} {G : Nat → Prop} {v : DV} {r : DS × Int} {e : Ending} (hb : Below w.heap.size w w1) (h : SPost w1 G v r e w') : SPost w G v r e w' := by
  obtain ⟨st', v', hs, he, hB, hq⟩ := h
  refine ⟨st', v', hs, he, ((behind_of_below hb).mono (by simp)).trans hB (fun k hk => .inl hk), fun h0 => ?_⟩
  obtain ⟨h1, h2, h3⟩ := hq h0
  exact ⟨h1, h2, fun g hg => (h3 g hg).imp id (fun e => Nat.le_trans hb.size e)⟩
end Go.Proofs.YtfleacdnkpckbaaDoor
