/- Texts of this claim, joined: D15. -/
import Derived.Test.YtfleacdnkpckbaaDoorML22
import Derived.Lib.BufferWrite
import Derived.Lib.SlBuf
import Derived.Laws.IdiomStrings
import Derived.Deep.DeepCutAuto

/- The law on texts that are too long. -/
namespace Go.Proofs.YtfleacdnkpckbaaDoor
open Go.RowKit

def longL (c : UInt8) (n : Nat) : List UInt8 := c :: ([32, 99, 110, 102, 32, 49, 32, 48] ++ List.replicate (n - 9) 32)
theorem longL_length (c : UInt8) {n : Nat} (h : 9 ≤ n) : (longL c n).length = n := by simp [longL]; omega
theorem cutB_no {c : UInt8} : ∀ {l : List UInt8}, c ∉ l → cutB c l = [l]
  | [], _ => rfl
  | b :: l, h => by
    have hb : ¬ b = c := fun e => h (by simp [e])
    rw [show cutB c (b :: l) = match cutB c l with | p :: ps => (b :: p) :: ps | [] => [[b]] from if_neg hb, cutB_no (fun hm => h (by simp [hm]))]
theorem cutB_pad (c : UInt8) (k : Nat) : ∀ l : List UInt8, cutB c (l ++ List.replicate k c) = cutB c l ++ List.replicate k []
  | [] => by
    induction k with
    | zero => rfl
    | succ k ih =>
      have e : ([] : List UInt8) ++ List.replicate (k + 1) c = c :: ([] ++ List.replicate k c) := by simp [List.replicate_succ]
      rw [e, show cutB c (c :: ([] ++ List.replicate k c)) = [] :: cutB c ([] ++ List.replicate k c) from if_pos rfl, ih]
      simp [cutB, List.replicate_succ]
  | b :: l => by
    have ih := cutB_pad c k l
    rw [List.cons_append]
    by_cases h : b = c
    · rw [show cutB c (b :: (l ++ List.replicate k c)) = [] :: cutB c (l ++ List.replicate k c) from if_pos h, show cutB c (b :: l) = [] :: cutB c l from if_pos h, ih]; rfl
    · rw [show cutB c (b :: (l ++ List.replicate k c)) = match cutB c (l ++ List.replicate k c) with | p :: ps => (b :: p) :: ps | [] => [[b]] from if_neg h, show cutB c (b :: l) = match cutB c l with | p :: ps => (b :: p) :: ps | [] => [[b]] from if_neg h, ih]
      cases hc : cutB c l with
      | nil => exact absurd hc (cutB_ne c l)
      | cons p ps => rfl
theorem long_words (c : UInt8) (n : Nat) : wordsD (longL c n) = wordsD [c, 32, 99, 110, 102, 32, 49, 32, 48] := by
  unfold wordsD
  rw [pieces_cut, pieces_cut, show longL c n = [c, 32, 99, 110, 102, 32, 49, 32, 48] ++ List.replicate (n - 9) 32 by simp [longL], cutB_pad, List.filter_append]
  have : (List.replicate (n - 9) ([] : List UInt8)).filter (fun w => decide (w ≠ [])) = [] := by
    rw [List.filter_eq_nil_iff]
    intro w hw
    rw [(List.mem_replicate.1 hw).2]; simp
  rw [this, List.append_nil]
theorem long_lines {c : UInt8} (hc : c ≠ 10) (n : Nat) : pieces 10 (longL c n) = [longL c n] := by
  rw [pieces_cut]
  refine cutB_no fun hm => ?_
  simp only [longL, List.mem_cons, List.mem_append, List.mem_replicate] at hm
  rcases hm with h | h | h
  · exact hc h.symm
  · revert h; decide
  · exact absurd h.2 (by decide)
theorem parse_long {c : UInt8} (hc : c ≠ 10) {n : Nat} (h9 : 9 ≤ n) (hn : n ≤ 1048576) : parseD rdD (longL c n) = if (lineD rdD .zero (wordsD [c, 32, 99, 110, 102, 32, 49, 32, 48])).2 ≠ 0 then (.zero, 1, (lineD rdD .zero (wordsD [c, 32, 99, 110, 102, 32, 49, 32, 48])).2)
    else if (lineD rdD .zero (wordsD [c, 32, 99, 110, 102, 32, 49, 32, 48])).1.begun = false then (.zero, 0, 3)
    else if (lineD rdD .zero (wordsD [c, 32, 99, 110, 102, 32, 49, 32, 48])).1.op = true ∨ ((lineD rdD .zero (wordsD [c, 32, 99, 110, 102, 32, 49, 32, 48])).1.L.length : Int) ≠ (lineD rdD .zero (wordsD [c, 32, 99, 110, 102, 32, 49, 32, 48])).1.m then (.zero, 0, 5)
    else ((lineD rdD .zero (wordsD [c, 32, 99, 110, 102, 32, 49, 32, 48])).1, 0, 0) := by
  unfold parseD
  rw [if_neg (by rw [longL_length c h9]; omega), long_lines hc]
  have e : linesGo rdD .zero 0 [longL c n] = if (lineD rdD .zero (wordsD [c, 32, 99, 110, 102, 32, 49, 32, 48])).2 ≠ 0 then ((lineD rdD .zero (wordsD [c, 32, 99, 110, 102, 32, 49, 32, 48])).1, 1, (lineD rdD .zero (wordsD [c, 32, 99, 110, 102, 32, 49, 32, 48])).2) else ((lineD rdD .zero (wordsD [c, 32, 99, 110, 102, 32, 49, 32, 48])).1, 0, 0) := by
    rw [← long_words c n]; rfl
  rw [e]
  generalize lineD rdD .zero (wordsD [c, 32, 99, 110, 102, 32, 49, 32, 48]) = E
  by_cases hE : E.2 ≠ 0
  · simp [hE]
  · simp [hE]
theorem parse_longP {n : Nat} (h9 : 9 ≤ n) (hn : n ≤ 1048576) : parseD rdD (longL 112 n) = (⟨1, [], [], [], true, 0, [], false⟩, 0, 0) := by
  rw [parse_long (by decide) h9 hn]; rfl
theorem parse_longQ {n : Nat} (h9 : 9 ≤ n) (hn : n ≤ 1048576) : parseD rdD (longL 113 n) = (.zero, 1, 5) := by
  rw [parse_long (by decide) h9 hn]; rfl
theorem parse_longX {c : UInt8} {n : Nat} (hn : 1048576 < n) : parseD rdD (longL c n) = (.zero, 0, 2) := by
  unfold parseD
  rw [if_pos (by rw [longL_length c (by omega)]; omega)]

def blkP (n k : Nat) : Array Value := (List.replicate k (Value.int .u8 32) ++ List.replicate (n - k) (Value.int .u8 0)).toArray
theorem blkP_get {n k : Nat} (h : k < n) : (blkP n k)[k]? = some (.int .u8 0) := by
  unfold blkP
  rw [List.getElem?_toArray, List.getElem?_append_right (by simp), List.length_replicate, Nat.sub_self, List.getElem?_replicate, if_pos (by omega)]
theorem blkP_set {n k : Nat} (h : k < n) : (blkP n k).setIfInBounds k (.int .u8 32) = blkP n (k + 1) := by
  unfold blkP
  rw [List.setIfInBounds_toArray]
  congr 1
  apply List.ext_getElem?
  intro i
  rw [List.getElem?_set]
  by_cases hik : k = i
  · subst hik
    rw [if_pos rfl, if_pos (by simp; omega), List.getElem?_append_left (by simp), List.getElem?_replicate, if_pos (by omega)]
  · rw [if_neg hik]
    by_cases hi : i < k
    · rw [List.getElem?_append_left (by simpa using hi), List.getElem?_append_left (by simp; omega), List.getElem?_replicate, List.getElem?_replicate, if_pos hi, if_pos (by omega)]
    · rw [List.getElem?_append_right (by simp; omega), List.getElem?_append_right (by simp; omega), List.getElem?_replicate, List.getElem?_replicate]
      simp only [List.length_replicate]
      by_cases h2 : i - k < n - k
      · rw [if_pos h2, if_pos (by omega)]
      · rw [if_neg h2, if_neg (by omega)]
theorem makeB (n : Nat) (hn : n ≤ 1100001) (x : World) : (Instr.makeSlice 41 (.int .i64 (n : Int)) (.int .i64 (n : Int))).run Tryd.prog x = .ok (.slice (some ⟨x.heap.size, 0, none⟩) n n) (x.alloc (.cells (blkP n 0) 5)) := by
  obtain ⟨i0, ii, iz0, iz1, iz2⟩ := info_parts Tryd.infoU8
  have h := run_makeSlice (P := Tryd.prog) (w := x) 41 5 i0 _ Tryd.underlying41 ii iz0 .i64 .i64 n n (by omega) (by omega) (by rw [iz1]; omega) (by rw [iz2]; omega) (by omega)
  rw [iz1] at h
  have e : madeCells (Value.int .u8 0).cells ((n : Int).toNat * 1) = blkP n 0 := by
    apply Array.toList_inj.1
    unfold blkP
    simp [madeCells, Value.cells]
    rw [List.eq_replicate_iff]
    refine ⟨by simp, fun b hb => ?_⟩
    obtain ⟨x, _, rfl⟩ := List.mem_map.1 hb
    rw [Nat.mod_one]; rfl
  rw [e] at h
  simpa using h

set_option maxRecDepth 100000 in
theorem copyB {w : World} {g n c : Nat} (h9 : 9 ≤ n) (hg : w.heap[g]? = some (.cells (blkP n n) 5 (0, 0))) : ∃ w', (Builtin.copy_ #[41, 9] 3 #[.slice (some ⟨g, 0, none⟩) n c, .string ⟨#[112, 32, 99, 110, 102, 32, 49, 32, 48]⟩]).run Tryd.prog w = .ok (.int .i64 9) w' ∧ w'.heap[g]? = some (.cells (Lib.byteCells (longL 112 n)).toArray 5 (0, 0)) ∧ Below g w w' := by
  obtain ⟨i0, ii, iz0, iz1, iz2⟩ := info_parts Tryd.infoU8
  have hs : (blkP n n).size = n := by simp [blkP]
  have h := Lib.run_copy_row_string (P := Tryd.prog) w 41 9 3 5 g 0 n c ⟨#[112, 32, 99, 110, 102, 32, 49, 32, 48]⟩ (blkP n n) 5 Tryd.underlying41 (by rw [ii]; simp [iz1]) hg (by show 9 ≤ n; exact h9) (by show 0 + 9 ≤ _; omega)
  refine ⟨_, h, ?_, below_setRow (Below.refl _ _) (Nat.le_refl _) _⟩
  rw [setRow_heap _ _ _ _ _ _ hg]
  congr 2
  apply Array.toList_inj.1
  show ((blkP n n).toList.take 0 ++ Lib.byteCells [112, 32, 99, 110, 102, 32, 49, 32, 48] ++ (blkP n n).toList.drop (0 + 9)) = Lib.byteCells (longL 112 n)
  simp [blkP, longL, Lib.byteCells]
theorem convB {w : World} {g c : Nat} {l : List UInt8} (hg : w.heap[g]? = some (.cells (Lib.byteCells l).toArray 5 (0, 0))) : (convert 41 9 (.slice (some ⟨g, 0, none⟩) l.length c)).run Tryd.prog w = .ok (.string ⟨l.toArray⟩) w := by
  refine run_convert_bytes_back w 41 9 5 ⟨g, 0, none⟩ c l Tryd.underlying41 Tryd.underlying5 Tryd.underlying9 fun j hj => ?_
  have := blk_cell hg j (show (Lib.byteCells l).toArray[j]? = some (.int .u8 (l[j].toNat : Int)) by simp [Lib.byteCells, hj])
  have e : (Addr.add ⟨g, 0, none⟩ j) = ⟨g, j, none⟩ := by
    unfold Addr.add
    split
    · rename_i h0; rw [h0]
    · simp
  rw [e]; exact this
theorem badB {w : World} {g n : Nat} (hg : w.heap[g]? = some (.cells (Lib.byteCells (longL 112 n)).toArray 5 (0, 0))) : (w.setCell ⟨g, 0, none⟩ (.int .u8 113)).heap[g]? = some (.cells (Lib.byteCells (longL 113 n)).toArray 5 (0, 0)) := by
  rw [heap_setCell_same _ _ 0 _ _ _ hg]
  congr 2

set_option maxHeartbeats 3200000 in
set_option maxRecDepth 100000 in
theorem long_law (more : Nat) (hmore : more < 256) (bad : Bool) (w : World) (hM0 : ∃ m, w.cell? ⟨0, 0, none⟩ = some (.int .i64 m)) : Calls Tryd.prog 4 #[.int .u8 more, .bool bad] w fun e w' => e = .returned (.bool true) ∧ Below w.heap.size w w' := by
  obtain ⟨r, hr⟩ : ∃ r, r = more % 4 := ⟨_, rfl⟩
  have hr4 : r < 4 := by omega
  have hrm : ((more : Int)).tmod 4 = (r : Int) := by rw [Int.tmod_eq_emod_of_nonneg (by omega)]; omega
  obtain ⟨n, hn⟩ : ∃ n, n = 1048575 + r := ⟨_, rfl⟩
  have hnr : (1048575 : Int) + (r : Int) = (n : Int) := by omega
  have hn1 : 1048575 ≤ n ∧ n ≤ 1048578 := by omega
  have HM0 := Lib.hid hM0
  have hmk := makeB n (by omega) w
  clear hr hn hM0
  go_enter Tryd.func4, Tryd.ntmps4
  go_upto_region 3 with fail
  refine wp_gen ?_
  intro w1 hw1
  have M1 := Lib.hid (show w1.heap[w.heap.size]? = some (.cells (blkP n 0) 5 (0, 0)) by rw [hw1]; exact new_one _ _)
  have HB1 := Lib.hid (show Below w.heap.size w w1 by rw [hw1]; exact below_one _ _)
  clear hw1 hmk
  go_wp2_with fail
  go_loopw [7] (fun t7 wr => ∃ k : Nat, k ≤ n ∧ t7 = .int .i64 k ∧ Hid (wr.heap[w.heap.size]? = some (.cells (blkP n k) 5 (0, 0))) ∧ Hid (Below w.heap.size w wr)) (fun t7 _ => n - (intOf t7).toNat)
  case atStart => exact ⟨0, Nat.zero_le _, rfl, M1, HB1⟩
  case round =>
    obtain ⟨k, hk, rfl, M, HB⟩ := hrel
    by_cases hlt : k < n
    · have hdd : decide (k < n) = true := decide_eq_true hlt
      have HST := Lib.hid (blkP_set hlt)
      have m1 := blk_cell M.out k (blkP_get hlt)
      have m2 := blk_free M.out k
      go_wp2_with fail
      go_roundw
      case rel => exact ⟨k + 1, by omega, by go_num, by rw [← HST.out]; exact heap_setCell_same _ _ k _ _ _ M.out, HB.out.setCell (Nat.le_refl _) _⟩
      case measure => simp [intOf]; omega
    · obtain rfl : k = n := by omega
      have hdd : decide (k < k) = false := by simp
      obtain ⟨w2, hcp, M2, hB2⟩ := copyB (c := k) (show 9 ≤ k by omega) M.out
      have HB2 := Lib.hid (HB.out.trans (hB2.mono (Nat.le_refl _)))
      have HM2 := Lib.hid M2
      clear M HB hB2 M1 HB1 M2
      cases bad with
      | false =>
        have hcv := convB (c := k) HM2.out
        rw [longL_length _ (show 9 ≤ k by omega)] at hcv
        have hM2 : ∃ m, w2.cell? ⟨0, 0, none⟩ = some (.int .i64 m) := by
          obtain ⟨m, hm⟩ := HM0.out
          exact ⟨m, below_cell HB2.out (block_lt_of_cell hm) hm⟩
        go_wp2_with (first | (at_builtin; refine Lib.wpList_copy_run _ rfl _ _ 41 9 rfl _ _ rfl rfl hcp ?_))
        by_cases hn : 1048576 < k
        · have hd : decide (1048576 < k) = true := decide_eq_true hn
          have hd2 : decide ((1048576 : Int) < (k : Int)) = true := decide_eq_true (by omega)
          have KP := gParse (longL 112 k) (by rw [longL_length _ (by omega)]; omega) w2 hM2
          rw [parse_longX (c := 112) (by omega)] at KP
          refine KP.mono ?_
          rintro e w3 ⟨v3, rfl, hR3, hB3⟩
          obtain ⟨⟨_, hL3, _⟩, hS3, hW3, _, _, _, _, _, _, _, _⟩ := hR3
          obtain ⟨aL3, cL3, hv1⟩ := hL3.slice
          obtain ⟨aS3, cS3, hv2⟩ := hS3.slice
          obtain ⟨aW3, cW3, hv3⟩ := hW3.slice
          obtain ⟨vL3, vS3, vW3, vc3⟩ := v3
          simp only at hv1 hv2 hv3
          subst hv1
          subst hv2
          subst hv3
          have B3 := Lib.hid (HB2.out.trans (hB3.mono HB2.out.size))
          clear hL3 hS3 hW3 hB3 KP hcp hcv
          simp only [DS.zero, List.length_nil]
          go_upto_region 11 with fail
          refine wp_gen ?_
          intro w4 hw4
          have B4 := Lib.hid (show Below w.heap.size w w4 by
            have hb : Below w3.heap.size w3 w4 := by rw [hw4]; exact below_one _ _
            exact B3.out.trans (hb.mono B3.out.size))
          have M4 := Lib.hid (show w4.heap[w3.heap.size]? = some (.cells #[.int .i64 0, .slice aL3 0 cL3, .slice aS3 0 cS3, .slice aW3 0 cW3] 29 (0, 0)) by rw [hw4]; exact new_one _ _)
          clear hw4
          have c0 := blk_cell M4.out 0 rfl
          have hM4 : ∃ m, w4.cell? ⟨0, 0, none⟩ = some (.int .i64 m) := by
            obtain ⟨m, hm⟩ := HM0.out
            exact ⟨m, below_cell B4.out (block_lt_of_cell hm) hm⟩
          have KW := Lib.hid (gWorks w4 hM4)
          go_wp2_with fail
          refine KW.out.mono ?_
          rintro e w5 ⟨rfl, hB5⟩
          have B5 := Lib.hid (B4.out.trans (hB5.mono B4.out.size))
          go_wp2_with fail
          go_ret
          exact ⟨rfl, B5.out⟩
        · have hd : decide (1048576 < k) = false := decide_eq_false hn
          have hd2 : decide ((1048576 : Int) < (k : Int)) = false := decide_eq_false (by omega)
          have KP := gParse (longL 112 k) (by rw [longL_length _ (by omega)]; omega) w2 hM2
          rw [parse_longP (by omega) (by omega)] at KP
          refine KP.mono ?_
          rintro e w3 ⟨v3, rfl, hR3, hB3⟩
          obtain ⟨⟨_, hL3, _⟩, hS3, hW3, _, _, _, _, _, _, _, _⟩ := hR3
          obtain ⟨aL3, cL3, hv1⟩ := hL3.slice
          obtain ⟨aS3, cS3, hv2⟩ := hS3.slice
          obtain ⟨aW3, cW3, hv3⟩ := hW3.slice
          obtain ⟨vL3, vS3, vW3, vc3⟩ := v3
          simp only at hv1 hv2 hv3
          subst hv1
          subst hv2
          subst hv3
          have B3 := Lib.hid (HB2.out.trans (hB3.mono HB2.out.size))
          clear hL3 hS3 hW3 hB3 KP hcp hcv
          simp only [DS.zero, List.length_nil]
          go_upto_region 11 with fail
          refine wp_gen ?_
          intro w4 hw4
          have B4 := Lib.hid (show Below w.heap.size w w4 by
            have hb : Below w3.heap.size w3 w4 := by rw [hw4]; exact below_one _ _
            exact B3.out.trans (hb.mono B3.out.size))
          have M4 := Lib.hid (show w4.heap[w3.heap.size]? = some (.cells #[.int .i64 1, .slice aL3 0 cL3, .slice aS3 0 cS3, .slice aW3 0 cW3] 29 (0, 0)) by rw [hw4]; exact new_one _ _)
          clear hw4
          have c0 := blk_cell M4.out 0 rfl
          have hM4 : ∃ m, w4.cell? ⟨0, 0, none⟩ = some (.int .i64 m) := by
            obtain ⟨m, hm⟩ := HM0.out
            exact ⟨m, below_cell B4.out (block_lt_of_cell hm) hm⟩
          have KW := Lib.hid (gWorks w4 hM4)
          go_wp2_with fail
          refine KW.out.mono ?_
          rintro e w5 ⟨rfl, hB5⟩
          have B5 := Lib.hid (B4.out.trans (hB5.mono B4.out.size))
          go_wp2_with fail
          go_ret
          exact ⟨rfl, B5.out⟩
      | true =>
        have m1 := blk_cell HM2.out 0 (show (Lib.byteCells (longL 112 k)).toArray[0]? = some (.int .u8 112) from rfl)
        have m2 := blk_free HM2.out 0
        have hcv := convB (c := k) (badB HM2.out)
        rw [longL_length _ (show 9 ≤ k by omega)] at hcv
        have HB6 := Lib.hid (HB2.out.setCell (p := ⟨w.heap.size, 0, none⟩) (Nat.le_refl _) (.int .u8 113))
        have hM2 : ∃ m, (w2.setCell ⟨w.heap.size, 0, none⟩ (.int .u8 113)).cell? ⟨0, 0, none⟩ = some (.int .i64 m) := by
          obtain ⟨m, hm⟩ := HM0.out
          exact ⟨m, below_cell HB6.out (block_lt_of_cell hm) hm⟩
        go_wp2_with (first | (at_builtin; refine Lib.wpList_copy_run _ rfl _ _ 41 9 rfl _ _ rfl rfl hcp ?_))
        by_cases hn : 1048576 < k
        · have hd : decide (1048576 < k) = true := decide_eq_true hn
          have hd2 : decide ((1048576 : Int) < (k : Int)) = true := decide_eq_true (by omega)
          have KP := gParse (longL 113 k) (by rw [longL_length _ (by omega)]; omega) _ hM2
          rw [parse_longX (c := 113) (by omega)] at KP
          refine KP.mono ?_
          rintro e w3 ⟨v3, rfl, hR3, hB3⟩
          obtain ⟨⟨_, hL3, _⟩, hS3, hW3, _, _, _, _, _, _, _, _⟩ := hR3
          obtain ⟨aL3, cL3, hv1⟩ := hL3.slice
          obtain ⟨aS3, cS3, hv2⟩ := hS3.slice
          obtain ⟨aW3, cW3, hv3⟩ := hW3.slice
          obtain ⟨vL3, vS3, vW3, vc3⟩ := v3
          simp only at hv1 hv2 hv3
          subst hv1
          subst hv2
          subst hv3
          have B3 := Lib.hid (HB6.out.trans (hB3.mono HB6.out.size))
          clear hL3 hS3 hW3 hB3 KP hcp hcv
          simp only [DS.zero, List.length_nil]
          go_upto_region 11 with fail
          refine wp_gen ?_
          intro w4 hw4
          have B4 := Lib.hid (show Below w.heap.size w w4 by
            have hb : Below w3.heap.size w3 w4 := by rw [hw4]; exact below_one _ _
            exact B3.out.trans (hb.mono B3.out.size))
          have M4 := Lib.hid (show w4.heap[w3.heap.size]? = some (.cells #[.int .i64 0, .slice aL3 0 cL3, .slice aS3 0 cS3, .slice aW3 0 cW3] 29 (0, 0)) by rw [hw4]; exact new_one _ _)
          clear hw4
          have c0 := blk_cell M4.out 0 rfl
          have hM4 : ∃ m, w4.cell? ⟨0, 0, none⟩ = some (.int .i64 m) := by
            obtain ⟨m, hm⟩ := HM0.out
            exact ⟨m, below_cell B4.out (block_lt_of_cell hm) hm⟩
          have KW := Lib.hid (gWorks w4 hM4)
          go_wp2_with fail
          refine KW.out.mono ?_
          rintro e w5 ⟨rfl, hB5⟩
          have B5 := Lib.hid (B4.out.trans (hB5.mono B4.out.size))
          go_wp2_with fail
          go_ret
          exact ⟨rfl, B5.out⟩
        · have hd : decide (1048576 < k) = false := decide_eq_false hn
          have hd2 : decide ((1048576 : Int) < (k : Int)) = false := decide_eq_false (by omega)
          have KP := gParse (longL 113 k) (by rw [longL_length _ (by omega)]; omega) _ hM2
          rw [parse_longQ (by omega) (by omega)] at KP
          refine KP.mono ?_
          rintro e w3 ⟨v3, rfl, hR3, hB3⟩
          obtain ⟨⟨_, hL3, _⟩, hS3, hW3, _, _, _, _, _, _, _, _⟩ := hR3
          obtain ⟨aL3, cL3, hv1⟩ := hL3.slice
          obtain ⟨aS3, cS3, hv2⟩ := hS3.slice
          obtain ⟨aW3, cW3, hv3⟩ := hW3.slice
          obtain ⟨vL3, vS3, vW3, vc3⟩ := v3
          simp only at hv1 hv2 hv3
          subst hv1
          subst hv2
          subst hv3
          have B3 := Lib.hid (HB6.out.trans (hB3.mono HB6.out.size))
          clear hL3 hS3 hW3 hB3 KP hcp hcv
          simp only [DS.zero, List.length_nil]
          go_upto_region 11 with fail
          refine wp_gen ?_
          intro w4 hw4
          have B4 := Lib.hid (show Below w.heap.size w w4 by
            have hb : Below w3.heap.size w3 w4 := by rw [hw4]; exact below_one _ _
            exact B3.out.trans (hb.mono B3.out.size))
          have M4 := Lib.hid (show w4.heap[w3.heap.size]? = some (.cells #[.int .i64 0, .slice aL3 0 cL3, .slice aS3 0 cS3, .slice aW3 0 cW3] 29 (0, 0)) by rw [hw4]; exact new_one _ _)
          clear hw4
          have c0 := blk_cell M4.out 0 rfl
          have hM4 : ∃ m, w4.cell? ⟨0, 0, none⟩ = some (.int .i64 m) := by
            obtain ⟨m, hm⟩ := HM0.out
            exact ⟨m, below_cell B4.out (block_lt_of_cell hm) hm⟩
          have KW := Lib.hid (gWorks w4 hM4)
          go_wp2_with fail
          refine KW.out.mono ?_
          rintro e w5 ⟨rfl, hB5⟩
          have B5 := Lib.hid (B4.out.trans (hB5.mono B4.out.size))
          go_wp2_with fail
          go_ret
          exact ⟨rfl, B5.out⟩
end Go.Proofs.YtfleacdnkpckbaaDoor
