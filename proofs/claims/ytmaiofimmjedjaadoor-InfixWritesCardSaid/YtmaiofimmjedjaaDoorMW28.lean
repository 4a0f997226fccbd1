/- Texts of this claim, joined: HX, HR1, HR2, HQ1, HLp. -/
import Derived.Test.YtmaiofimmjedjaaDoorMW27
import Derived.Test.YtmaiofimmjedjaaDoorMW21
import Derived.Deep.DeepCutAuto
import Derived.Laws.IdiomStrings
import Derived.Test.YtmaiofimmjedjaaDoorMW06

/- works: the chapter's examples. -/
namespace Go.Proofs.YtmaiofimmjedjaaDoor
open Go.RowKit

def w1L : List UInt8 := [120, 49, 32, 38, 32, 33, 120, 50, 32, 124, 32, 120, 51]
def w2L : List UInt8 := [105, 102, 40, 120, 49, 44, 32, 120, 50, 41]
def wantG : List Gt := [⟨2, 1, []⟩, ⟨2, -2, []⟩, ⟨4, 0, [0, 1]⟩, ⟨2, 3, []⟩, ⟨5, 0, [2, 3]⟩]
theorem pw1 : parseI w1L 9 = (wantG, 0, 0) := by kernel_rfl
theorem pw2 : parseI w2L 9 = ([], 9, 5) := by kernel_rfl
theorem prw : printI 9 wantG = (w1L, 0) := by kernel_rfl
theorem fits_want : Fits wantG := fun g hg => by
  simp [wantG] at hg
  rcases hg with rfl | rfl | rfl | rfl | rfl <;> decide
theorem parse_at (l : List UInt8) (n : Int) (gs : List Gt) (q : Nat) (e : Int) (h : parseI l n = (gs, q, e)) (w : World) (hV : VarsI w) (hl : l.length ≤ 140737488355328) :
    Calls Tryd.prog 9 #[.string ⟨l.toArray⟩, .int .i64 n] w fun en w' => ∃ a d, en = .returned (.tuple #[.agg #[.int .i64 (if gs.length = 0 then 0 else n), .slice a gs.length d], .int .i64 (q : Nat), .int .i64 e]) ∧ CircAt w'.heap.size w' a gs ∧ Below w.heap.size w w' := by
  have := gParse l n w hV hl
  unfold ParseP at this
  rw [h] at this
  exact this
theorem four_at (w : World) (b1 b2 b3 b4 : Obj) : ((((w.alloc b1).alloc b2).alloc b3).alloc b4).heap[w.heap.size]? = some b1 ∧ ((((w.alloc b1).alloc b2).alloc b3).alloc b4).heap[w.heap.size + 1]? = some b2 ∧ ((((w.alloc b1).alloc b2).alloc b3).alloc b4).heap[w.heap.size + 1 + 1]? = some b3 ∧ ((((w.alloc b1).alloc b2).alloc b3).alloc b4).heap[w.heap.size + 1 + 1 + 1]? = some b4 ∧ Below w.heap.size w ((((w.alloc b1).alloc b2).alloc b3).alloc b4) := by
  obtain ⟨h1, h2, h3⟩ := three_at w b1 b2 b3
  have hs : (((w.alloc b1).alloc b2).alloc b3).heap.size = w.heap.size + 1 + 1 + 1 := by simp
  have hb := below_one (((w.alloc b1).alloc b2).alloc b3) b4
  have k := fun (g : Nat) (o : Obj) (h : (((w.alloc b1).alloc b2).alloc b3).heap[g]? = some o) => (behind_of_below hb).keep h (by simp)
  refine ⟨k _ _ h1, k _ _ h2, k _ _ h3, ?_, (three_below w b1 b2 b3).trans (hb.mono (by rw [hs]; omega))⟩
  have := new_one (((w.alloc b1).alloc b2).alloc b3) b4
  rwa [hs] at this

theorem at_nil {N : Nat} {w : World} {a : Option Addr} : AtN N w a (ints []) := fun i v hi => by simp [ints] at hi
theorem at_two {w : World} {g : Nat} {x y : Int} (h : w.heap[g]? = some (.cells #[.int .i64 x, .int .i64 y] 3 (0, 0))) : AtN w.heap.size w (some ⟨g, 0, none⟩) (ints [x, y]) := fun i v hi => by
  match i, hi with
  | 0, hi => simp [ints] at hi; subst hi; exact ⟨g, 0, lt_of_heap h, rfl, blk_cell h 0 rfl⟩
  | 1, hi => simp [ints] at hi; subst hi; exact ⟨g, 0, lt_of_heap h, rfl, blk_cell h 1 rfl⟩
  | i + 2, hi => simp [ints] at hi
theorem want_at {x : World} {g1 g2 g3 : Nat} (h1 : x.heap[g1]? = some (.cells #[.int .i64 0, .int .i64 1] 3 (0, 0))) (h2 : x.heap[g2]? = some (.cells #[.int .i64 2, .int .i64 3] 3 (0, 0)))
    (h3 : x.heap[g3]? = some (.cells #[.int .i64 2, .int .i64 1, .slice none 0 0, .int .i64 2, .int .i64 (-2), .slice none 0 0, .int .i64 4, .int .i64 0, .slice (some ⟨g1, 0, none⟩) 2 2, .int .i64 2, .int .i64 3, .slice none 0 0, .int .i64 5, .int .i64 0, .slice (some ⟨g2, 0, none⟩) 2 2] 37 (0, 0))) :
    CircAt x.heap.size x (some ⟨g3, 0, none⟩) wantG := fun i g hi => by
  have hl := lt_of_heap h3
  match i, hi with
  | 0, hi => simp [wantG] at hi; subst hi; exact ⟨g3, 0, none, 0, hl, rfl, blk_cell h3 0 rfl, blk_cell h3 1 rfl, blk_cell h3 2 rfl, at_nil⟩
  | 1, hi => simp [wantG] at hi; subst hi; exact ⟨g3, 0, none, 0, hl, rfl, blk_cell h3 3 rfl, blk_cell h3 4 rfl, blk_cell h3 5 rfl, at_nil⟩
  | 2, hi => simp [wantG] at hi; subst hi; exact ⟨g3, 0, some ⟨g1, 0, none⟩, 2, hl, rfl, blk_cell h3 6 rfl, blk_cell h3 7 rfl, blk_cell h3 8 rfl, at_two h1⟩
  | 3, hi => simp [wantG] at hi; subst hi; exact ⟨g3, 0, none, 0, hl, rfl, blk_cell h3 9 rfl, blk_cell h3 10 rfl, blk_cell h3 11 rfl, at_nil⟩
  | 4, hi => simp [wantG] at hi; subst hi; exact ⟨g3, 0, some ⟨g2, 0, none⟩, 2, hl, rfl, blk_cell h3 12 rfl, blk_cell h3 13 rfl, blk_cell h3 14 rfl, at_two h2⟩
  | i + 5, hi => simp [wantG] at hi

set_option maxHeartbeats 6400000 in
set_option maxRecDepth 100000 in
theorem gWorks (w : World) (hV : VarsI w) : Calls Tryd.prog 6 #[] w fun e w' => e = .returned (.bool true) ∧ Below w.heap.size w w' := by
  obtain ⟨Post, hPost⟩ : ∃ P : Ending → World → Prop, P = fun e w' => e = .returned (.bool true) ∧ Below w.heap.size w w' := ⟨_, rfl⟩
  rw [← hPost]
  have HP := Lib.hid hPost
  have HV := Lib.hid hV
  have K1 := parse_at w1L 9 wantG 0 0 pw1 w hV (by decide)
  rw [show (if wantG.length = 0 then (0 : Int) else 9) = 9 from rfl, show wantG.length = 5 from rfl, show (⟨w1L.toArray⟩ : ByteArray) = ⟨#[120, 49, 32, 38, 32, 33, 120, 50, 32, 124, 32, 120, 51]⟩ from rfl, show ((0 : Nat) : Int) = 0 from rfl] at K1
  clear hPost hV
  go_enter Tryd.func6, Tryd.ntmps6
  go_wp2_with fail
  refine K1.mono ?_
  rintro e w1 ⟨a1, d1, rfl, h1, h2⟩
  have HC1 := Lib.hid h1
  have HB1 := Lib.hid h2
  clear h1 h2 K1
  go_upto_region 2 with fail
  refine wp_gen ?_
  intro w2 hw2
  have HS2 := Lib.hid (show w2.heap[w1.heap.size]? = some (.cells #[.int .i64 9, .slice a1 5 d1] 24 (0, 0)) by rw [hw2]; exact new_one _ _)
  have hb2 : Below w1.heap.size w1 w2 := by rw [hw2]; exact below_one _ _
  have HB2 := Lib.hid (HB1.out.trans (hb2.mono HB1.out.size))
  have HC2 := Lib.hid (HC1.out.later hb2)
  clear hw2 hb2 HC1 HB1
  go_upto_region 3 with fail
  refine wp_gen ?_
  intro w3 hw3
  obtain ⟨e1, e2, e3, e4, hb3⟩ := four_at w2 (.cells #[.int .i64 0, .int .i64 1] 3 (0, 0)) (.cells #[.int .i64 2, .int .i64 3] 3 (0, 0)) (.cells #[.int .i64 2, .int .i64 1, .slice none 0 0, .int .i64 2, .int .i64 (-2), .slice none 0 0, .int .i64 4, .int .i64 0, .slice (some ⟨w2.heap.size, 0, none⟩) 2 2, .int .i64 2, .int .i64 3, .slice none 0 0, .int .i64 5, .int .i64 0, .slice (some ⟨w2.heap.size + 1, 0, none⟩) 2 2] 37 (0, 0)) (.cells #[.int .i64 9, .slice (some ⟨w2.heap.size + 1 + 1, 0, none⟩) 5 5] 24 (0, 0))
  rw [← hw3] at e1 e2 e3 e4 hb3
  have HW3 := Lib.hid (want_at e1 e2 e3)
  have HX3 := Lib.hid e4
  have HS3 := Lib.hid ((behind_of_below hb3).keep HS2.out (by simp))
  have HC3 := Lib.hid (HC2.out.later hb3)
  have HB3 := Lib.hid (HB2.out.trans (hb3.mono HB2.out.size))
  clear hw3 e1 e2 e3 e4 hb3 HC2 HS2 HB2
  have KP := gPrint 9 wantG (some ⟨w2.heap.size + 1 + 1, 0, none⟩) 5 w3 HW3.out fits_want (by decide) (HV.out.below HB3.out)
  rw [prw, show wantG.length = 5 from rfl] at KP
  have c0 := blk_cell HX3.out 0 rfl
  have c1 := blk_cell HX3.out 1 rfl
  go_wp2_with fail
  refine KP.mono ?_
  rintro e w4 ⟨rfl, hb4⟩
  have HW4 := Lib.hid (HW3.out.later hb4)
  have HX4 := Lib.hid ((behind_of_below hb4).keep HX3.out (by simp))
  have HS4 := Lib.hid ((behind_of_below hb4).keep HS3.out (by simp))
  have HC4 := Lib.hid (HC3.out.later hb4)
  have HB4 := Lib.hid (HB3.out.trans (hb4.mono HB3.out.size))
  clear hb4 KP c0 c1 HW3 HX3 HS3 HC3 HB3
  have K2 := parse_at w2L 9 [] 9 5 pw2 w4 (HV.out.below HB4.out) (by decide)
  rw [show (if ([] : List Gt).length = 0 then (0 : Int) else 9) = 0 from rfl, show ([] : List Gt).length = 0 from rfl, show (⟨w2L.toArray⟩ : ByteArray) = ⟨#[105, 102, 40, 120, 49, 44, 32, 120, 50, 41]⟩ from rfl, show ((9 : Nat) : Int) = 9 from rfl] at K2
  simp only []
  go_wp2_with fail
  refine K2.mono ?_
  rintro e w5 ⟨a5, d5, rfl, _, hb5⟩
  have HW5 := Lib.hid (HW4.out.later hb5)
  have HX5 := Lib.hid ((behind_of_below hb5).keep HX4.out (by simp))
  have HS5 := Lib.hid ((behind_of_below hb5).keep HS4.out (by simp))
  have HC5 := Lib.hid (HC4.out.later hb5)
  have HB5 := Lib.hid (HB4.out.trans (hb5.mono HB4.out.size))
  clear hb5 K2 HW4 HX4 HS4 HC4 HB4
  go_upto_region 5 with fail
  refine wp_gen ?_
  intro w6 hw6
  have hb6 : Below w5.heap.size w5 w6 := by rw [hw6]; exact below_one _ _
  have HW6 := Lib.hid (HW5.out.later hb6)
  have HX6 := Lib.hid ((behind_of_below hb6).keep HX5.out (by simp))
  have HS6 := Lib.hid ((behind_of_below hb6).keep HS5.out (by simp))
  have HC6 := Lib.hid (HC5.out.later hb6)
  have HB6 := Lib.hid (HB5.out.trans (hb6.mono HB5.out.size))
  clear hw6 hb6 HW5 HX5 HS5 HC5 HB5
  have KS := xSame7 9 wantG a1 (some ⟨w2.heap.size + 1 + 1, 0, none⟩) d1 5 w6 HC6.out HW6.out fits_want (by decide)
  rw [show wantG.length = 5 from rfl] at KS
  have c0 := blk_cell HX6.out 0 rfl
  have c1 := blk_cell HX6.out 1 rfl
  have s0 := blk_cell HS6.out 0 rfl
  have s1 := blk_cell HS6.out 1 rfl
  go_wp2_with fail
  refine KS.mono ?_
  rintro e w7 ⟨rfl, hb7⟩
  have HB7 := Lib.hid (HB6.out.trans (hb7.mono HB6.out.size))
  clear hb7 KS c0 c1 s0 s1
  go_wp2_with fail
  rw [HP.out]
  exact ⟨rfl, HB7.out⟩
end Go.Proofs.YtmaiofimmjedjaaDoor

/- The reference's circuits: Size, Check. -/
namespace Go.Proofs.YtmaiofimmjedjaaDoor
open Go.RowKit

set_option maxHeartbeats 1600000 in
set_option maxRecDepth 100000 in
theorem xSize (n : Int) (gs : List Gt) (a : Option Addr) (c : Nat) (w : World) (hC : CircAt w.heap.size w a gs) (hf : Fits gs) (hl : gs.length ≤ 4096) : Calls Tryd.prog 11 #[.agg #[.int .i64 n, .slice a gs.length c]] w fun e w' => e = .returned (.int .i64 (sizeI gs : Nat)) ∧ Below w.heap.size w w' := by
  obtain ⟨Post, hPost⟩ : ∃ P : Ending → World → Prop, P = fun e w' => e = .returned (.int .i64 (sizeI gs : Nat)) ∧ Below w.heap.size w w' := ⟨_, rfl⟩
  rw [← hPost]
  have HP := Lib.hid hPost
  have HC := Lib.hid hC
  have HT := Lib.hid (fun (i : Nat) (g : Gt) (h : gs[i]? = some g) => sizeI_take h)
  have HS := Lib.hid (fun i (hi : i ≤ gs.length) => sizeI_le hf i hi)
  have HN := Lib.hid (show sizeI gs = sizeI (gs.take gs.length) by rw [List.take_length])
  have HFI := Lib.hid hf
  clear hC hf hPost
  go_enter Tryd.func11, Tryd.ntmps11
  go_upto_region 1 with fail
  refine wp_gen ?_
  intro w1 hw1
  have hB1 : Below w.heap.size w w1 := by rw [hw1]; exact below_one _ _
  have A1 := Lib.hid (show w1.heap[w.heap.size]? = some (.cells #[.int .i64 n, .slice a gs.length c] 24 (0, 0)) by rw [hw1]; exact new_one _ _)
  have HB1 := Lib.hid hB1
  have a1 := blk_cell A1.out 1 rfl
  clear hw1 hB1
  go_wp2_with fail
  go_loopw [4, 3] (fun t4 t3 wr => ∃ j : Nat, j ≤ gs.length ∧ t4 = .int .i64 j ∧ t3 = .int .i64 (sizeI (gs.take j) : Nat) ∧ wr = w1) (fun t4 _ _ => gs.length - (intOf t4).toNat)
  case atStart => exact ⟨0, Nat.zero_le _, rfl, rfl, rfl⟩
  case round =>
    obtain ⟨j, hj, rfl, rfl, rfl⟩ := hrel
    by_cases hlt : j < gs.length
    · have hdd : decide ((j : Int) < (gs.length : Int)) = true := decide_eq_true (by omega)
      have hdd2 : decide (j < gs.length) = true := decide_eq_true hlt
      obtain ⟨g, hg⟩ : ∃ g, gs[j]? = some g := ⟨_, List.getElem?_eq_getElem hlt⟩
      obtain ⟨b, o, p, d, hb, rfl, k0, k1, k2, _⟩ := (HC.out.below HB1.out (Nat.le_refl _)) j g hg
      have hst := HT.out j g hg
      have hle := HS.out (j + 1) (by omega)
      have hfi := HFI.out g (List.mem_of_getElem? hg)
      obtain ⟨s, hs⟩ : ∃ s, s = sizeI (gs.take j) := ⟨_, rfl⟩
      obtain ⟨s2, hs2⟩ : ∃ s2, s2 = sizeI (gs.take (j + 1)) := ⟨_, rfl⟩
      rw [← hs, ← hs2] at hst
      rw [← hs2] at hle
      have HS2 := Lib.hid hs2
      rw [← hs]
      clear hs hs2 hg
      subst hst
      go_wp2_with fail
      go_roundw
      case rel => exact ⟨j + 1, by omega, by go_num, by rw [← HS2.out]; go_num, trivial⟩
      case measure => simp [intOf]; omega
    · obtain rfl : j = gs.length := by omega
      have hdd : decide ((gs.length : Int) < (gs.length : Int)) = false := by simp
      rw [← HN.out]
      go_wp2_with fail
      rw [HP.out]
      exact ⟨rfl, HB1.out⟩
theorem beqN (m c : Nat) : ((m : Int) == (c : Int)) = decide (m = c) := by by_cases h : m = c <;> simp [h]; omega

set_option maxHeartbeats 3200000 in
set_option maxRecDepth 100000 in
theorem xAllowed (k : Int) (m : Nat) : Gives 40 #[.int .i64 k, .int .i64 (m : Int)] (.bool (manyI k m)) := by
  intro w
  have HM := Lib.hid (show ∀ r, manyI k m = r → (Ending.returned (.bool r) = Ending.returned (.bool (manyI k m)) ∧ Below w.heap.size w w) from fun r h => ⟨by rw [h], Below.refl _ _⟩)
  obtain ⟨z0, hz0⟩ : ∃ b, b = decide (m = 0) := ⟨_, rfl⟩
  obtain ⟨z1, hz1⟩ : ∃ b, b = decide (m = 1) := ⟨_, rfl⟩
  obtain ⟨z2, hz2⟩ : ∃ b, b = decide (m = 2) := ⟨_, rfl⟩
  obtain ⟨z3, hz3⟩ : ∃ b, b = decide (m = 3) := ⟨_, rfl⟩
  have y0 : ((m : Int) == 0) = z0 := by rw [hz0]; exact beqN m 0
  have y1 : ((m : Int) == 1) = z1 := by rw [hz1]; exact beqN m 1
  have y2 : ((m : Int) == 2) = z2 := by rw [hz2]; exact beqN m 2
  have y3 : ((m : Int) == 3) = z3 := by rw [hz3]; exact beqN m 3
  have x0 : (m == 0) = z0 := by rw [hz0]; by_cases h : m = 0 <;> simp [h]
  have x1 : (m == 1) = z1 := by rw [hz1]; by_cases h : m = 1 <;> simp [h]
  have x2 : (m == 2) = z2 := by rw [hz2]; by_cases h : m = 2 <;> simp [h]
  have x3 : (m == 3) = z3 := by rw [hz3]; by_cases h : m = 3 <;> simp [h]
  have H0 := Lib.hid hz0
  have H1 := Lib.hid hz1
  have H2 := Lib.hid hz2
  have H3 := Lib.hid hz3
  clear hz0 hz1 hz2 hz3
  have HN := Lib.hid (show k ≠ 0 → k ≠ 1 → k ≠ 2 → k ≠ 3 → k ≠ 7 → k ≠ 8 → manyI k m = decide (k = 4 ∨ k = 5 ∨ k = 6) from fun h0 h1 h2 h3 h7 h8 => by unfold manyI; rw [if_neg (by omega), if_neg h3, if_neg h7, if_neg h8])
  by_cases k0 : k = 0
  · subst k0
    have HV := Lib.hid (show manyI 0 m = decide (m = 0) from rfl)
    go_enter Tryd.func40, Tryd.ntmps40
    go_wp2_with fail
    go_ret
    exact HM.out _ (HV.out.trans H0.out.symm)
  have b0 : (k == 0) = false := beq_no k0
  by_cases k1 : k = 1
  · subst k1
    have HV := Lib.hid (show manyI 1 m = decide (m = 0) from rfl)
    go_enter Tryd.func40, Tryd.ntmps40
    go_wp2_with fail
    go_ret
    exact HM.out _ (HV.out.trans H0.out.symm)
  have b1 : (k == 1) = false := beq_no k1
  by_cases k2 : k = 2
  · subst k2
    have HV := Lib.hid (show manyI 2 m = decide (m = 0) from rfl)
    go_enter Tryd.func40, Tryd.ntmps40
    go_wp2_with fail
    go_ret
    exact HM.out _ (HV.out.trans H0.out.symm)
  have b2 : (k == 2) = false := beq_no k2
  by_cases k3 : k = 3
  · subst k3
    have HV := Lib.hid (show manyI 3 m = decide (m = 1) from rfl)
    go_enter Tryd.func40, Tryd.ntmps40
    go_wp2_with fail
    go_ret
    exact HM.out _ (HV.out.trans H1.out.symm)
  have b3 : (k == 3) = false := beq_no k3
  by_cases k7 : k = 7
  · subst k7
    have HV := Lib.hid (show manyI 7 m = decide (m = 2) from rfl)
    go_enter Tryd.func40, Tryd.ntmps40
    go_wp2_with fail
    go_ret
    exact HM.out _ (HV.out.trans H2.out.symm)
  have b7 : (k == 7) = false := beq_no k7
  by_cases k8 : k = 8
  · subst k8
    have HV := Lib.hid (show manyI 8 m = decide (m = 3) from rfl)
    go_enter Tryd.func40, Tryd.ntmps40
    go_wp2_with fail
    go_ret
    exact HM.out _ (HV.out.trans H3.out.symm)
  have b8 : (k == 8) = false := beq_no k8
  have hn := Lib.hid (HN.out k0 k1 k2 k3 k7 k8)
  clear HN
  by_cases k4 : k = 4
  · have hv := Lib.hid (show manyI k m = true by rw [hn.out]; exact decide_eq_true (.inl k4))
    have b4 : (k == 4) = true := by simp [k4]
    clear k0 k1 k2 k3 k7 k8 k4
    go_enter Tryd.func40, Tryd.ntmps40
    go_wp2_with fail
    go_ret
    exact HM.out _ hv.out
  have b4 : (k == 4) = false := beq_no k4
  by_cases k5 : k = 5
  · have hv := Lib.hid (show manyI k m = true by rw [hn.out]; exact decide_eq_true (.inr (.inl k5)))
    have b5 : (k == 5) = true := by simp [k5]
    clear k0 k1 k2 k3 k7 k8 k4 k5
    go_enter Tryd.func40, Tryd.ntmps40
    go_wp2_with fail
    go_ret
    exact HM.out _ hv.out
  have b5 : (k == 5) = false := beq_no k5
  obtain ⟨b, hb⟩ : ∃ b, b = decide (k = 6) := ⟨_, rfl⟩
  have b6 : (k == 6) = b := by rw [hb]; by_cases h : k = 6 <;> simp [h]
  have hv := Lib.hid (show manyI k m = b by rw [hn.out, hb]; by_cases h : k = 6 <;> simp [h, k4, k5])
  clear k0 k1 k2 k3 k7 k8 k4 k5 hb
  go_enter Tryd.func40, Tryd.ntmps40
  go_wp2_with fail
  go_ret
  exact HM.out _ hv.out

set_option maxHeartbeats 3200000 in
set_option maxRecDepth 100000 in
theorem xLiteral (l n : Int) (h0 : 0 ≤ n) (h1 : n ≤ 128) : Gives 41 #[.int .i64 l, .int .i64 n] (.bool (litI l n)) := by
  intro w
  have HM := Lib.hid (show ∀ r, litI l n = r → (Ending.returned (.bool r) = Ending.returned (.bool (litI l n)) ∧ Below w.heap.size w w) from fun r h => ⟨by rw [h], Below.refl _ _⟩)
  by_cases h2 : 1 ≤ l
  · have d1 : decide (1 ≤ l) = true := decide_eq_true h2
    by_cases h3 : l ≤ n
    · have d2 : decide (l ≤ n) = true := decide_eq_true h3
      have hv := Lib.hid (show litI l n = true by unfold litI; rw [decide_eq_true ⟨h2, h3⟩]; rfl)
      go_enter Tryd.func41, Tryd.ntmps41
      go_wp2_with fail
      go_ret
      exact HM.out _ hv.out
    · have d2 : decide (l ≤ n) = false := decide_eq_false h3
      have d3 : decide (l ≤ -1) = false := decide_eq_false (by omega)
      have hv := Lib.hid (show litI l n = false by unfold litI; rw [decide_eq_false (fun h => h3 h.2), decide_eq_false (fun h => by omega)]; rfl)
      go_enter Tryd.func41, Tryd.ntmps41
      go_wp2_with fail
      go_ret
      exact HM.out _ hv.out
  · have d1 : decide (1 ≤ l) = false := decide_eq_false h2
    by_cases h4 : l ≤ -1
    · have d3 : decide (l ≤ -1) = true := decide_eq_true h4
      obtain ⟨b, hb⟩ : ∃ b, b = decide (-n ≤ l) := ⟨_, rfl⟩
      have hv := Lib.hid (show litI l n = b by unfold litI; rw [decide_eq_false (fun h => h2 h.1), hb]; by_cases h : -n ≤ l <;> simp [h, h4])
      have d4 := hb.symm
      clear hb
      go_enter Tryd.func41, Tryd.ntmps41
      go_wp2_with fail
      go_ret
      exact HM.out _ hv.out
    · have d3 : decide (l ≤ -1) = false := decide_eq_false h4
      have hv := Lib.hid (show litI l n = false by unfold litI; rw [decide_eq_false (fun h => h2 h.1), decide_eq_false (fun h => h4 h.1)]; rfl)
      go_enter Tryd.func41, Tryd.ntmps41
      go_wp2_with fail
      go_ret
      exact HM.out _ hv.out
end Go.Proofs.YtmaiofimmjedjaaDoor

/- The reference's Check. -/
namespace Go.Proofs.YtmaiofimmjedjaaDoor
open Go.RowKit

theorem all_take_succ {l : List Int} {p : Int → Bool} {i : Nat} {x : Int} (h : l[i]? = some x) : (l.take (i + 1)).all p = ((l.take i).all p && p x) := by
  rw [take_snoc h, List.all_append]; simp

set_option maxHeartbeats 6400000 in
set_option maxRecDepth 100000 in
theorem xCheck (n : Int) (gs : List Gt) (a : Option Addr) (c : Nat) (w : World) (hC : CircAt w.heap.size w a gs) (hf : Fits gs) (hl : gs.length ≤ 140737488355328) : Calls Tryd.prog 20 #[.agg #[.int .i64 n, .slice a gs.length c]] w fun e w' => e = .returned (.int .i64 (checkI n gs)) ∧ Below w.heap.size w w' := by
  obtain ⟨Post, hPost⟩ : ∃ P : Ending → World → Prop, P = fun e w' => e = .returned (.int .i64 (checkI n gs)) ∧ Below w.heap.size w w' := ⟨_, rfl⟩
  rw [← hPost]
  have HP := Lib.hid (show ∀ (r : Int) (w' : World), checkI n gs = r → Below w.heap.size w w' → Post (.returned (.int .i64 r)) w' from fun r w' h hb => by rw [hPost]; exact ⟨by rw [h], hb⟩)
  clear hPost
  have HC := Lib.hid hC
  have HFI := Lib.hid hf
  clear hC hf
  by_cases h1 : n < 0
  · have hd := Lib.hid (show checkI n gs = 6 by unfold checkI; rw [if_pos (.inl h1)])
    have hd1 : decide (n < 0) = true := decide_eq_true h1
    go_enter Tryd.func20, Tryd.ntmps20
    go_wp2_with fail
    exact HP.out _ _ hd.out (below_one w _)
  have hd1 : decide (n < 0) = false := decide_eq_false h1
  by_cases h2 : 128 < n
  · have hd := Lib.hid (show checkI n gs = 6 by unfold checkI; rw [if_pos (.inr h2)])
    have hd2 : decide (128 < n) = true := decide_eq_true h2
    go_enter Tryd.func20, Tryd.ntmps20
    go_wp2_with fail
    exact HP.out _ _ hd.out (below_one w _)
  have hd2 : decide (128 < n) = false := decide_eq_false h2
  by_cases h3 : 4096 < gs.length
  · have hd := Lib.hid (show checkI n gs = 2 by unfold checkI; rw [if_neg (by omega), if_pos (.inl h3)])
    have hd3 : decide ((4096 : Int) < (gs.length : Int)) = true := decide_eq_true (by omega)
    have hd4 : decide (4096 < gs.length) = true := decide_eq_true h3
    go_enter Tryd.func20, Tryd.ntmps20
    go_wp2_with fail
    exact HP.out _ _ hd.out (below_one w _)
  have hd3 : decide ((4096 : Int) < (gs.length : Int)) = false := decide_eq_false (by omega)
  have hd4 : decide (4096 < gs.length) = false := decide_eq_false h3
  have hB1 := below_one w (.cells #[.int .i64 n, .slice a gs.length c] 24 (0, 0))
  have KS := xSize n gs a c _ (HC.out.later hB1) HFI.out (by omega)
  have HCK := Lib.hid (show checkI n gs = if 65536 < sizeI gs then 2 else if gs = [] then 1 else if allGoodI n 0 gs then 0 else 1 by
    unfold checkI
    rw [if_neg (by omega)]
    by_cases hs : 65536 < sizeI gs
    · rw [if_pos (.inr hs), if_pos hs]
    · rw [if_neg (by omega), if_neg hs])
  have HB1 := Lib.hid hB1
  have A1 := Lib.hid (new_one w (.cells #[.int .i64 n, .slice a gs.length c] 24 (0, 0)))
  have HSL := Lib.hid (sizeI_le HFI.out gs.length (Nat.le_refl _))
  rw [List.take_length] at HSL
  obtain ⟨sz, hsz⟩ : ∃ sz, sz = sizeI gs := ⟨_, rfl⟩
  rw [← hsz] at KS HCK HSL
  have hsl := HSL.out
  clear hsz hB1
  go_enter Tryd.func20, Tryd.ntmps20
  go_wp2_with fail
  refine KS.mono ?_
  rintro e w2 ⟨rfl, hB2⟩
  have HB2 := Lib.hid (HB1.out.trans (hB2.mono HB1.out.size))
  have A2 := Lib.hid ((behind_of_below hB2).keep A1.out (by simp))
  have a0 := blk_cell A2.out 0 rfl
  have a1 := blk_cell A2.out 1 rfl
  clear hB2 KS A1 HB1
  by_cases h5 : 65536 < sz
  · have hd5 : decide ((65536 : Int) < (sz : Int)) = true := decide_eq_true (by omega)
    have hd6 : decide (65536 < sz) = true := decide_eq_true h5
    have hck := Lib.hid (HCK.out.trans (if_pos h5))
    go_wp2_with fail
    exact HP.out _ _ hck.out HB2.out
  have hd5 : decide ((65536 : Int) < (sz : Int)) = false := decide_eq_false (by omega)
  have hd6 : decide (65536 < sz) = false := decide_eq_false h5
  have HCK2 := Lib.hid (HCK.out.trans (if_neg h5))
  clear HCK
  go_wp2_with fail
  go_loopw [3] (fun t3 wr => ∃ j : Nat, j ≤ gs.length ∧ t3 = .int .i64 j ∧ Hid (∀ i g, i < j → gs[i]? = some g → goodI n i g = true) ∧ Hid (Below w.heap.size w wr) ∧ Hid (wr.heap[w.heap.size]? = some (.cells #[.int .i64 n, .slice a gs.length c] 24 (0, 0)))) (fun t3 _ => gs.length - (intOf t3).toNat)
  case atStart => exact ⟨0, Nat.zero_le _, rfl, (fun i g h => by omega), HB2.out, A2.out⟩
  case round =>
    obtain ⟨j, hj, rfl, HG, HB, HA⟩ := hrel
    obtain ⟨wq, rfl⟩ : ∃ w1, w1 = wr := ⟨_, rfl⟩
    have r0 := blk_cell HA.out 0 rfl
    have r1 := blk_cell HA.out 1 rfl
    clear a0 a1 A2
    by_cases hlt : j < gs.length
    · have hdd : decide ((j : Int) < (gs.length : Int)) = true := decide_eq_true (by omega)
      have hdd2 : decide (j < gs.length) = true := decide_eq_true hlt
      obtain ⟨g, hg⟩ : ∃ g, gs[j]? = some g := ⟨_, List.getElem?_eq_getElem hlt⟩
      obtain ⟨b, o, p, d, hb, rfl, k0, k1, k2, hin⟩ := (HC.out.below HB.out (Nat.le_refl _)) j g hg
      have hbad : goodI n j g = false → checkI n gs = 1 := fun h => by
        rw [HCK2.out, if_neg (by rintro rfl; simp at hlt), if_neg (fun hh => by have := (allGoodI_iff gs 0).1 hh j g hg; rw [Nat.zero_add, h] at this; cases this)]
      have HBAD := Lib.hid hbad
      have HGJ := Lib.hid hg
      have HGE := Lib.hid (goodI_eq n j g)
      have hfi := HFI.out g (List.mem_of_getElem? hg)
      have KA := xAllowed g.k g.ins.length
      obtain ⟨am, ham⟩ : ∃ am, am = manyI g.k g.ins.length := ⟨_, rfl⟩
      rw [← ham] at KA HGE
      have HIN := Lib.hid hin
      clear hbad hg ham hin
      go_upto_region 9 with fail
      refine wp_gen ?_
      intro w3 hw3
      have hb3 : Below wq.heap.size wq w3 := by rw [hw3]; exact below_one _ _
      have G3 := Lib.hid (show w3.heap[wq.heap.size]? = some (.cells #[.int .i64 g.k, .int .i64 g.lit, .slice p g.ins.length d] 37 (0, 0)) by rw [hw3]; exact new_one _ _)
      have HB3 := Lib.hid (HB.out.trans (hb3.mono HB.out.size))
      have HA3 := Lib.hid ((behind_of_below hb3).keep HA.out (by simp))
      have HIN3 := Lib.hid (HIN.out.below (hb3.mono HB.out.size) (Nat.le_refl _))
      clear hw3 hb3 r0 r1 k0 k1 k2 HIN HA
      have g0 := blk_cell G3.out 0 rfl
      have g1 := blk_cell G3.out 1 rfl
      have g2 := blk_cell G3.out 2 rfl
      go_wp2_with fail
      refine (KA w3).mono ?_
      rintro e w4 ⟨rfl, hb4⟩
      have G4 := Lib.hid ((behind_of_below hb4).keep G3.out (by simp))
      have HB4 := Lib.hid (HB3.out.trans (hb4.mono HB3.out.size))
      have HA4 := Lib.hid ((behind_of_below hb4).keep HA3.out (by simp))
      have HIN4 := Lib.hid (HIN3.out.below (hb4.mono HB3.out.size) (Nat.le_refl _))
      clear hb4 g0 g1 g2 G3 HB3 HA3 HIN3 KA
      have g0 := blk_cell G4.out 0 rfl
      have g1 := blk_cell G4.out 1 rfl
      have g2 := blk_cell G4.out 2 rfl
      have r0 := blk_cell HA4.out 0 rfl
      have r1 := blk_cell HA4.out 1 rfl
      cases am with
      | false =>
        have hck := Lib.hid (HBAD.out (by rw [HGE.out]; rfl))
        go_wp2_with fail
        exact HP.out _ _ hck.out HB4.out
      | true =>
      obtain ⟨ll, hll⟩ : ∃ ll, ll = (if g.k = 2 then litI g.lit n else decide (g.lit = 0)) := ⟨_, rfl⟩
      rw [← hll] at HGE
      have HLL := Lib.hid hll
      clear hll
      go_upto_region 11 with fail
      go_cut [62] (fun t62 wx => t62 = .bool (!ll) ∧ Hid (Below w4.heap.size w4 wx))
      case first =>
        by_cases kk : g.k = 2
        · have e2 : (g.k == 2) = true := by simp [kk]
          have en2 : (g.k != 2) = false := by simp [kk]
          have KL := xLiteral g.lit n (by omega) (by omega)
          rw [show litI g.lit n = ll by rw [HLL.out, if_pos kk]] at KL
          clear kk
          go_wp2_with fail
          refine (KL w4).mono ?_
          rintro e w5 ⟨rfl, hb5⟩
          have HB5 := Lib.hid hb5
          have h0 := blk_cell ((behind_of_below hb5).keep G4.out (by simp)) 0 rfl
          have h1 := blk_cell ((behind_of_below hb5).keep G4.out (by simp)) 1 rfl
          clear hb5 KL
          cases ll with
          | true =>
            go_wp2_with fail
            go_meet
            case rel => exact ⟨rfl, HB5.out⟩
          | false =>
            go_wp2_with fail
            go_meet
            case rel => exact ⟨rfl, HB5.out⟩
        · have e2 : (g.k == 2) = false := beq_no kk
          have en2 : (g.k != 2) = true := by simp [bne, e2]
          have hl0 : (g.lit != 0) = !ll := by
            rw [HLL.out, if_neg kk]
            by_cases h : g.lit = 0 <;> simp [h]
          clear kk
          go_wp2_with fail
          go_meet
          case rel => exact ⟨rfl, Below.refl _ _⟩
      case rest =>
      obtain ⟨rfl, HX⟩ := hcut
      have G5 := Lib.hid ((behind_of_below HX.out).keep G4.out (by simp))
      have HB5 := Lib.hid (HB4.out.trans (HX.out.mono HB4.out.size))
      have HA5 := Lib.hid ((behind_of_below HX.out).keep HA4.out (by simp))
      have HIN5 := Lib.hid (HIN4.out.below (HX.out.mono HB4.out.size) (Nat.le_refl _))
      clear HX g0 g1 g2 r0 r1 G4 HB4 HA4 HIN4
      cases ll with
      | false =>
        have hck := Lib.hid (HBAD.out (by rw [HGE.out]; rfl))
        go_wp2_with fail
        exact HP.out _ _ hck.out HB5.out
      | true =>
      have g2 := blk_cell G5.out 2 rfl
      go_wp2_with fail
      refine wp_gen ?_
      intro wx hwx
      subst hwx
      go_loopw [5] (fun t5 wy => ∃ i : Nat, i ≤ g.ins.length ∧ t5 = .int .i64 i ∧ Hid ((g.ins.take i).all (fun k => decide (0 ≤ k ∧ k < (j : Int))) = true) ∧ wy = wx) (fun t5 _ => g.ins.length - (intOf t5).toNat)
      case atStart => exact ⟨0, Nat.zero_le _, rfl, rfl, rfl⟩
      case round =>
        obtain ⟨i, hi, rfl, HI, rfl⟩ := hrel
        have g2 := blk_cell G5.out 2 rfl
        by_cases hli : i < g.ins.length
        · have hde : decide ((i : Int) < (g.ins.length : Int)) = true := decide_eq_true (by omega)
          have hde2 : decide (i < g.ins.length) = true := decide_eq_true hli
          obtain ⟨x, hx⟩ : ∃ x, g.ins[i]? = some x := ⟨_, List.getElem?_eq_getElem hli⟩
          obtain ⟨b1, o1, hb1, ea, kx⟩ := HIN5.out i _ (ints_get _ _ _ hx)
          have HTK := Lib.hid (all_take_succ (p := fun k => decide (0 ≤ k ∧ k < (j : Int))) hx)
          have HNO := Lib.hid (show ¬ (0 ≤ x ∧ x < (j : Int)) → checkI n gs = 1 from fun hno => HBAD.out (by
            rw [HGE.out]
            have : (g.ins.all fun k => decide (0 ≤ k ∧ k < (j : Int))) = false := by
              cases hh : g.ins.all fun k => decide (0 ≤ k ∧ k < (j : Int)) with
              | false => rfl
              | true => exact absurd (of_decide_eq_true (List.all_eq_true.1 hh x (List.mem_of_getElem? hx))) hno
            rw [this]; rfl))
          subst ea
          clear hx
          by_cases hx0 : x < 0
          · have dx : decide (x < 0) = true := decide_eq_true hx0
            have hck := Lib.hid (HNO.out (by omega))
            go_wp2_with fail
            exact HP.out _ _ hck.out HB5.out
          have dx : decide (x < 0) = false := decide_eq_false hx0
          by_cases hxj : (j : Int) ≤ x
          · have dy : decide ((j : Int) ≤ x) = true := decide_eq_true hxj
            have hck := Lib.hid (HNO.out (by omega))
            go_wp2_with fail
            exact HP.out _ _ hck.out HB5.out
          have dy : decide ((j : Int) ≤ x) = false := decide_eq_false hxj
          have HOKX := Lib.hid (show decide (0 ≤ x ∧ x < (j : Int)) = true from decide_eq_true (by omega))
          go_wp2_with fail
          go_roundw
          case rel => exact ⟨i + 1, by omega, by go_num, by rw [HTK.out, HI.out, HOKX.out]; rfl, trivial⟩
          case measure => simp [intOf]; omega
        · obtain rfl : i = g.ins.length := by omega
          have hde : decide ((g.ins.length : Int) < (g.ins.length : Int)) = false := by simp
          have HALL := Lib.hid (show goodI n j g = true by rw [HGE.out]; have := HI.out; rw [List.take_length] at this; rw [this]; rfl)
          go_wp2_with fail
          go_roundw
          case rel => exact ⟨j + 1, by omega, by go_num, (fun i x hi hx => by
            by_cases e : i = j
            · subst e; rw [HGJ.out] at hx; cases hx; exact HALL.out
            · exact HG.out i x (by omega) hx), HB5.out, HA5.out⟩
          case measure => simp [intOf]; omega
    · obtain rfl : j = gs.length := by omega
      have hdd : decide ((gs.length : Int) < (gs.length : Int)) = false := by simp
      by_cases h7 : gs.length = 0
      · have hck := Lib.hid (HCK2.out.trans (if_pos (List.length_eq_zero_iff.1 h7)))
        have e0 : ((gs.length : Int) == 0) = true := by simp [h7]
        have e1 : (gs.length == 0) = true := by simp [h7]
        clear h7
        go_wp2_with fail
        exact HP.out _ _ hck.out HB.out
      · have hck := Lib.hid ((HCK2.out.trans (if_neg (fun e => h7 (by rw [e]; rfl)))).trans (if_pos ((allGoodI_iff gs 0).2 (fun i g hg => by rw [Nat.zero_add]; exact HG.out i g (List.getElem?_eq_some_iff.1 hg).1 hg))))
        have hd8 : ((gs.length : Int) == 0) = false := beq_no (by omega)
        have hd9 : (gs.length == 0) = false := beq_eq_false_iff_ne.2 h7
        clear h7
        go_wp2_with fail
        exact HP.out _ _ hck.out HB.out
end Go.Proofs.YtmaiofimmjedjaaDoor

/- The reference's formulas: numbers, levels, names, signs. -/
namespace Go.Proofs.YtmaiofimmjedjaaDoor
open Go.RowKit

theorem conv_one (x : Int) (b : UInt8) (hb : x = (b.toNat : Int)) (w : World) : (convert 43 9 (.slice (some ⟨w.heap.size, 0, none⟩) 1 1)).run Tryd.prog (w.alloc (.cells #[.int .u8 x] 5 (0, 0))) = .ok (.string ⟨#[b]⟩) (w.alloc (.cells #[.int .u8 x] 5 (0, 0))) := by
  have h := run_convert_bytes_back (P := Tryd.prog) (w.alloc (.cells #[.int .u8 x] 5 (0, 0))) 43 9 5 ⟨w.heap.size, 0, none⟩ 1 [b] Tryd.underlying43 Tryd.underlying5 Tryd.underlying9 (fun j hj => by
    have : j = 0 := by simpa using hj
    subst this
    rw [hb]
    exact blk_cell (new_one w _) 0 rfl)
  exact h
theorem decN_step (v : Nat) (h : 10 ≤ v) : decN v = decN (v / 10) ++ [UInt8.ofNat (48 + v % 10)] := by
  rw [decN_eq, decN_eq, Lib.decDigits, dif_neg (by omega)]
theorem decN_one (v : Nat) (h : v < 10) : decN v = [UInt8.ofNat (48 + v)] := by unfold decN; rw [if_pos h]

set_option maxHeartbeats 1600000 in
set_option maxRecDepth 100000 in
theorem xNumber (m : Nat) (hm : m < 1000) : Gives 42 #[.int .i64 (m : Int)] (.string ⟨(decN m).toArray⟩) := by
  intro w
  obtain ⟨Post, hPost⟩ : ∃ P : Ending → World → Prop, P = fun e w' => e = .returned (.string ⟨(decN m).toArray⟩) ∧ Below w.heap.size w w' := ⟨_, rfl⟩
  rw [← hPost]
  have HP := Lib.hid hPost
  clear hPost
  go_enter Tryd.func42, Tryd.ntmps42
  go_wp2_with fail
  go_loopw [0, 3] (fun t0 t3 wr => ∃ (v : Nat) (l : List UInt8) (s : ByteArray), v < 1000 ∧ l.length + v ≤ 1000 ∧ t0 = .int .i64 v ∧ t3 = .string s ∧ Hid (s = ⟨l.toArray⟩) ∧ Hid (decN m = decN v ++ l) ∧ Hid (Below w.heap.size w wr)) (fun t0 _ _ => (intOf t0).toNat)
  case atStart => exact ⟨m, [], ⟨#[]⟩, hm, by simp; omega, rfl, rfl, rfl, (List.append_nil _).symm, Below.refl _ _⟩
  case round =>
    obtain ⟨v, l, s, hv, hlv, rfl, rfl, hs, hd, HB⟩ := hrel
    have hsz : s.size = l.length := by rw [hs.out]; exact ba_size l
    by_cases h9 : 9 < v
    · have d1 : decide ((9 : Int) < (v : Int)) = true := decide_eq_true (by omega)
      have d2 : decide (9 < v) = true := decide_eq_true h9
      obtain ⟨r, hr⟩ : ∃ r : Nat, v % 10 = r := ⟨_, rfl⟩
      obtain ⟨q, hq⟩ : ∃ q : Nat, v / 10 = q := ⟨_, rfl⟩
      have hr9 : r < 10 := by omega
      have hqv : q < v := by omega
      have e1 : (v : Int) % 10 = (r : Int) := by omega
      have e2 : (v : Int) / 10 = (q : Int) := by omega
      have HD := Lib.hid (show decN m = decN q ++ (UInt8.ofNat (48 + r) :: l) by rw [hd.out, decN_step v (by omega), hr, hq, List.append_assoc]; rfl)
      have hcv := conv_one ((48 : Int) + (r : Int)) (UInt8.ofNat (48 + r)) (by
        have : (UInt8.ofNat (48 + r)).toNat = 48 + r := by simp; omega
        rw [this]; omega) wr
      obtain ⟨z, hz⟩ : ∃ z : ByteArray, z = (⟨#[UInt8.ofNat (48 + r)]⟩ : ByteArray) ++ s := ⟨_, rfl⟩
      have ha : ∀ x, (Op.stringOp .add (⟨#[UInt8.ofNat (48 + r)]⟩ : ByteArray) s).run Tryd.prog x = .ok (.string z) x := fun x => by rw [hz]; exact run_string_add_sum x _ _ (by show 1 + s.size ≤ _; omega)
      have HZ := Lib.hid (show z = ⟨(UInt8.ofNat (48 + r) :: l).toArray⟩ by
        rw [hz, hs.out]
        exact ba_app [UInt8.ofNat (48 + r)] l)
      have HBW := Lib.hid (HB.out.trans ((below_one wr (.cells #[.int .u8 ((48 : Int) + (r : Int))] 5 (0, 0))).mono HB.out.size))
      have HQR := Lib.hid (show v = 10 * q + r by omega)
      generalize UInt8.ofNat (48 + r) = bb at *
      clear hr hq hz
      go_wp2_with fail
      go_roundw
      case rel => exact ⟨q, bb :: l, z, by omega, by simp; omega, by go_num, rfl, HZ.out, HD.out, HBW.out⟩
      case measure => simp [intOf]; omega
    · have d1 : decide ((9 : Int) < (v : Int)) = false := decide_eq_false (by omega)
      have d2 : decide (9 < v) = false := decide_eq_false h9
      have HD := Lib.hid (show decN m = UInt8.ofNat (48 + v) :: l by rw [hd.out, decN_one v (by omega)]; rfl)
      have hcv := conv_one ((48 : Int) + (v : Int)) (UInt8.ofNat (48 + v)) (by
        have : (UInt8.ofNat (48 + v)).toNat = 48 + v := by simp; omega
        rw [this]; omega) wr
      obtain ⟨z, hz⟩ : ∃ z : ByteArray, z = (⟨#[UInt8.ofNat (48 + v)]⟩ : ByteArray) ++ s := ⟨_, rfl⟩
      have ha : ∀ x, (Op.stringOp .add (⟨#[UInt8.ofNat (48 + v)]⟩ : ByteArray) s).run Tryd.prog x = .ok (.string z) x := fun x => by rw [hz]; exact run_string_add_sum x _ _ (by show 1 + s.size ≤ _; omega)
      have HZ := Lib.hid (show z = ⟨(decN m).toArray⟩ by
        rw [hz, hs.out, HD.out]
        exact ba_app [UInt8.ofNat (48 + v)] l)
      have HBW := Lib.hid (HB.out.trans ((below_one wr (.cells #[.int .u8 ((48 : Int) + (v : Int))] 5 (0, 0))).mono HB.out.size))
      generalize UInt8.ofNat (48 + v) = bb at *
      clear hz
      go_wp2_with fail
      rw [HP.out, ← HZ.out]
      exact ⟨rfl, HBW.out⟩

set_option maxHeartbeats 1600000 in
set_option maxRecDepth 100000 in
theorem xLevel (g : Gt) (p : Option Addr) (c : Nat) : Gives 43 #[.agg #[.int .i64 g.k, .int .i64 g.lit, .slice p g.ins.length c]] (.int .i64 (levelI g : Nat)) := by
  intro w
  have HL := Lib.hid (show levelI g = if g.k = 7 then 2 else if g.ins.length < 2 then 7 else if g.k = 5 then 4 else if g.k = 6 then 5 else if g.k = 4 then 6 else 7 from rfl)
  obtain ⟨k, lit, ins⟩ := g
  simp only at HL ⊢
  generalize levelI ⟨k, lit, ins⟩ = lv at *
  generalize ins.length = n at *
  obtain ⟨Post, hPost⟩ : ∃ P : Ending → World → Prop, P = fun e w' => e = .returned (.int .i64 (lv : Nat)) ∧ Below w.heap.size w w' := ⟨_, rfl⟩
  rw [← hPost]
  have HP := Lib.hid (show ∀ (v : Nat) (w' : World), lv = v → Below w.heap.size w w' → Post (.returned (.int .i64 (v : Nat))) w' from fun v w' h hb => by rw [hPost, h]; exact ⟨rfl, hb⟩)
  have HB1 := Lib.hid (below_one w (.cells #[.int .i64 k, .int .i64 lit, .slice p n c] 37 (0, 0)))
  clear hPost
  go_enter Tryd.func43, Tryd.ntmps43
  by_cases k7 : k = 7
  · have h := Lib.hid (HL.out.trans (if_pos k7))
    subst k7
    go_wp2_with fail
    exact HP.out 2 _ h.out HB1.out
  have e7 : (k == 7) = false := beq_no k7
  by_cases hn : n < 2
  · have h := Lib.hid ((HL.out.trans (if_neg k7)).trans (if_pos hn))
    have hd : decide (n < 2) = true := decide_eq_true hn
    have hd2 : decide ((n : Int) < 2) = true := decide_eq_true (by omega)
    go_wp2_with fail
    exact HP.out 7 _ h.out HB1.out
  have hd : decide (n < 2) = false := decide_eq_false hn
  have hd2 : decide ((n : Int) < 2) = false := decide_eq_false (by omega)
  by_cases k5 : k = 5
  · have h := Lib.hid (((HL.out.trans (if_neg k7)).trans (if_neg hn)).trans (if_pos k5))
    subst k5
    go_wp2_with fail
    exact HP.out 4 _ h.out HB1.out
  have e5 : (k == 5) = false := beq_no k5
  by_cases k6 : k = 6
  · have h := Lib.hid ((((HL.out.trans (if_neg k7)).trans (if_neg hn)).trans (if_neg k5)).trans (if_pos k6))
    subst k6
    go_wp2_with fail
    exact HP.out 5 _ h.out HB1.out
  have e6 : (k == 6) = false := beq_no k6
  by_cases k4 : k = 4
  · have h := Lib.hid (((((HL.out.trans (if_neg k7)).trans (if_neg hn)).trans (if_neg k5)).trans (if_neg k6)).trans (if_pos k4))
    subst k4
    go_wp2_with fail
    exact HP.out 6 _ h.out HB1.out
  have e4 : (k == 4) = false := beq_no k4
  have h := Lib.hid (((((HL.out.trans (if_neg k7)).trans (if_neg hn)).trans (if_neg k5)).trans (if_neg k6)).trans (if_neg k4))
  go_wp2_with fail
  exact HP.out 7 _ h.out HB1.out

def signK (k : Int) : List UInt8 := if k = 4 then [32, 38, 32] else if k = 5 then [32, 124, 32] else [32, 94, 32]
set_option maxHeartbeats 1600000 in
set_option maxRecDepth 100000 in
theorem xSign (k : Int) : Gives 44 #[.int .i64 k] (.string ⟨(signK k).toArray⟩) := by
  intro w
  obtain ⟨Post, hPost⟩ : ∃ P : Ending → World → Prop, P = fun e w' => e = .returned (.string ⟨(signK k).toArray⟩) ∧ Below w.heap.size w w' := ⟨_, rfl⟩
  rw [← hPost]
  have HP := Lib.hid (show ∀ (l : List UInt8), signK k = l → Post (.returned (.string ⟨l.toArray⟩)) w from fun l h => by rw [hPost, h]; exact ⟨rfl, Below.refl _ _⟩)
  clear hPost
  go_enter Tryd.func44, Tryd.ntmps44
  by_cases k4 : k = 4
  · have h := Lib.hid (show signK k = [32, 38, 32] from if_pos k4)
    subst k4
    go_wp2_with fail
    exact HP.out [32, 38, 32] h.out
  have e4 : (k == 4) = false := beq_no k4
  by_cases k5 : k = 5
  · have h := Lib.hid (show signK k = [32, 124, 32] from (if_neg k4).trans (if_pos k5))
    subst k5
    go_wp2_with fail
    exact HP.out [32, 124, 32] h.out
  have e5 : (k == 5) = false := beq_no k5
  have h := Lib.hid (show signK k = [32, 94, 32] from (if_neg k4).trans (if_neg k5))
  go_wp2_with fail
  exact HP.out [32, 94, 32] h.out

set_option maxHeartbeats 1600000 in
set_option maxRecDepth 100000 in
theorem xName (k : Int) : Gives 45 #[.int .i64 k] (.string ⟨(nameI k).toArray⟩) := by
  intro w
  obtain ⟨Post, hPost⟩ : ∃ P : Ending → World → Prop, P = fun e w' => e = .returned (.string ⟨(nameI k).toArray⟩) ∧ Below w.heap.size w w' := ⟨_, rfl⟩
  rw [← hPost]
  have HP := Lib.hid (show ∀ (l : List UInt8), nameI k = l → Post (.returned (.string ⟨l.toArray⟩)) w from fun l h => by rw [hPost, h]; exact ⟨rfl, Below.refl _ _⟩)
  clear hPost
  go_enter Tryd.func45, Tryd.ntmps45
  by_cases k4 : k = 4
  · have h := Lib.hid (show nameI k = [97, 110, 100] from if_pos k4)
    subst k4
    go_wp2_with fail
    exact HP.out [97, 110, 100] h.out
  have e4 : (k == 4) = false := beq_no k4
  by_cases k5 : k = 5
  · have h := Lib.hid (show nameI k = [111, 114] from (if_neg k4).trans (if_pos k5))
    subst k5
    go_wp2_with fail
    exact HP.out [111, 114] h.out
  have e5 : (k == 5) = false := beq_no k5
  by_cases k6 : k = 6
  · have h := Lib.hid (show nameI k = [120, 111, 114] from ((if_neg k4).trans (if_neg k5)).trans (if_pos k6))
    subst k6
    go_wp2_with fail
    exact HP.out [120, 111, 114] h.out
  have e6 : (k == 6) = false := beq_no k6
  have h := Lib.hid (show nameI k = [105, 102] from ((if_neg k4).trans (if_neg k5)).trans (if_neg k6))
  go_wp2_with fail
  exact HP.out [105, 102] h.out
end Go.Proofs.YtmaiofimmjedjaaDoor

/- The law: parentheses around a text. -/
namespace Go.Proofs.YtmaiofimmjedjaaDoor
open Go.RowKit

theorem check_fits {n : Int} {gs : List Gt} (h : checkI n gs = 0) : Fits gs ∧ gs.length ≤ 4096 ∧ gs.length ≠ 0 := by
  obtain ⟨_, _, h1, h2, h3, _⟩ := check_ok h
  exact ⟨fun g hg => by have := ins_size hg; omega, h1, fun e => h3 (List.length_eq_zero_iff.1 e)⟩
end Go.Proofs.YtmaiofimmjedjaaDoor
