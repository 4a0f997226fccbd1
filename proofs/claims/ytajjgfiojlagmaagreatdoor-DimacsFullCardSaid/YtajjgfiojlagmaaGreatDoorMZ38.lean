/- Texts of this claim, joined: X6. -/
import Derived.Test.YtajjgfiojlagmaaGreatDoorMZ36
import Derived.Test.YtajjgfiojlagmaaGreatDoorMZ29
import Derived.Test.YtajjgfiojlagmaaGreatDoorMZ32
import Derived.Deep.DeepCutAuto

/- The law: long texts are refused by both, others written and read back. -/
namespace Go.Proofs.YtajjgfiojlagmaaGreatDoor
open Go.RowKit

def Fill (w : World) (g n j : Nat) (v : Int) : Prop := ∃ cur, w.heap[g]? = some (.cells cur 3 (0, 0)) ∧ cur.size = n ∧ (∀ i, i < j → cur[i]? = some (.int .i64 v)) ∧ ∀ i, i < n → ∃ z, cur[i]? = some (.int .i64 z)
theorem Fill.step {w : World} {g n j : Nat} {v : Int} (h : Fill w g n j v) (hj : j < n) : Fill (w.setCell ⟨g, j, none⟩ (.int .i64 v)) g n (j + 1) v := by
  obtain ⟨cur, h1, h2, h3, h4⟩ := h
  refine ⟨_, heap_setCell_any h1 _, by simp [h2], fun i hi => ?_, fun i hi => ?_⟩
  · by_cases e : i = j
    · subst e; exact Array.getElem?_setIfInBounds_self_of_lt (by omega)
    · rw [Array.getElem?_setIfInBounds_ne (by omega)]; exact h3 i (by omega)
  · by_cases e : i = j
    · subst e; exact ⟨v, Array.getElem?_setIfInBounds_self_of_lt (by omega)⟩
    · rw [Array.getElem?_setIfInBounds_ne (by omega)]; exact h4 i hi
theorem Fill.at {w : World} {g n : Nat} {v : Int} (h : Fill w g n n v) : AtN w.heap.size w (some ⟨g, 0, none⟩) (ints (List.replicate n v)) := fun i u hi => by
  obtain ⟨cur, h1, h2, h3, h4⟩ := h
  have hl := (List.getElem?_eq_some_iff.1 hi).1
  simp [ints] at hl
  refine ⟨g, 0, lt_of_heap h1, rfl, ?_⟩
  rw [Nat.zero_add]
  have e : (ints (List.replicate n v))[i]? = some (.int .i64 v) := ints_get _ _ _ (by simp [hl])
  rw [e] at hi
  cases hi
  exact blk_cell h1 i (h3 i hl)

theorem makeInts (n : Nat) (hn : n ≤ 1000) (x : World) : (Instr.makeSlice 25 (.int .i64 (n : Int)) (.int .i64 (n : Int))).run Tryz.prog x = .ok (.slice (some ⟨x.heap.size, 0, none⟩) n n) (x.alloc (.cells (Array.replicate n (.int .i64 0)) 3)) := by
  obtain ⟨i0, ii, iz0, iz1, iz2⟩ := info_parts Tryz.infoIntD
  have h := run_makeSlice (P := Tryz.prog) (w := x) 25 3 i0 _ Tryz.underlying25 ii iz0 .i64 .i64 n n (by omega) (by omega) (by rw [iz1]; omega) (by rw [iz2]; omega) (by omega)
  rw [iz1] at h
  have e : madeCells (Value.int .i64 0).cells ((n : Int).toNat * 1) = Array.replicate n (.int .i64 0) := by
    apply Array.toList_inj.1
    simp [madeCells, Value.cells]
    rw [List.eq_replicate_iff]
    refine ⟨by simp, fun b hb => ?_⟩
    obtain ⟨x, _, rfl⟩ := List.mem_map.1 hb
    rw [Nat.mod_one]; rfl
  rw [e] at h
  simpa using h
theorem made_fill {w : World} {g n : Nat} (v : Int) (h : w.heap[g]? = some (.cells (Array.replicate n (.int .i64 0)) 3 (0, 0))) : Fill w g n 0 v :=
  ⟨_, h, by simp, fun i hi => by omega, fun i hi => ⟨0, by simp [hi]⟩⟩

set_option maxHeartbeats 6400000 in
set_option maxRecDepth 100000 in
theorem full_law (k u : Nat) (hk : k < 65536) (hu : u < 256) (w : World) (hM0 : ∃ m, w.cell? ⟨1, 0, none⟩ = some (.int .i64 m)) (hT : TabI w) : Calls Tryz.prog 4 #[.int .u16 (k : Int), .int .u8 (u : Int)] w fun e w' => e = .returned (.bool true) ∧ Below w.heap.size w w' := by
  obtain ⟨Post, hPost⟩ : ∃ P : Ending → World → Prop, P = fun e w' => e = .returned (.bool true) ∧ Below w.heap.size w w' := ⟨_, rfl⟩
  rw [← hPost]
  have HP := Lib.hid hPost
  have HM := Lib.hid (show ∀ x, Below w.heap.size w x → ∃ m, x.cell? ⟨1, 0, none⟩ = some (.int .i64 m) from fun x hx => by obtain ⟨m, hm⟩ := hM0; exact ⟨m, below_cell hx (block_lt_of_cell hm) hm⟩)
  have KW := Lib.hid (fun (x : World) (hx : Below w.heap.size w x) => gWorks x (HM.out x hx))
  have HT := Lib.hid hT
  clear hPost hM0 hT
  go_enter Tryz.func4, Tryz.ntmps4
  have hmk := makeInts 128 (by omega) w
  rw [show ((128 : Nat) : Int) = 128 from rfl] at hmk
  go_upto_region 2 with fail
  refine wp_gen ?_
  intro w1 hw1
  have hB1 : Below w.heap.size w w1 := by rw [hw1]; exact below_one _ _
  have F1 := Lib.hid (made_fill (n := 128) (-128) (show w1.heap[w.heap.size]? = _ by rw [hw1]; exact new_one w _))
  have HB1 := Lib.hid hB1
  clear hw1 hmk hB1
  go_wp2_with fail
  go_loopw [6] (fun t6 wr => ∃ j : Nat, j ≤ 128 ∧ t6 = .int .i64 j ∧ Hid (Fill wr w.heap.size 128 j (-128)) ∧ Hid (Below w.heap.size w wr)) (fun t6 _ => 128 - (intOf t6).toNat)
  case atStart => exact ⟨0, by omega, rfl, F1.out, HB1.out⟩
  case round =>
    obtain ⟨j, hj, rfl, HF, HB⟩ := hrel
    by_cases hlt : j < 128
    · have hdd : decide ((j : Int) < 128) = true := decide_eq_true (by omega)
      obtain ⟨cur, c1, c2, c3, c4⟩ := HF.out
      obtain ⟨z, c5⟩ := c4 j hlt
      have q := blk_cell c1 j c5
      have f := Lib.frozen_of_heap c1 j
      have HF2 := Lib.hid (HF.out.step hlt)
      have HB2 := Lib.hid (HB.out.setCell (p := ⟨w.heap.size, j, none⟩) (Nat.le_refl _) (.int .i64 (-128)))
      clear c1 c2 c3 c4 c5
      go_wp2_with fail
      go_roundw
      case rel => exact ⟨j + 1, by omega, by go_num, HF2.out, HB2.out⟩
      case measure => simp [intOf]; omega
    · obtain rfl : j = 128 := by omega
      rw [show ((128 : Nat) : Int) = 128 from rfl]
      obtain ⟨w2, hw2⟩ : ∃ w2, w2 = wr := ⟨_, rfl⟩
      subst hw2
      have L2 := Lib.hid HF.out.at
      have HB2 := Lib.hid HB.out
      clear HF HB F1 HB1
      go_upto_region 7 with fail
      refine wp_gen ?_
      intro w3 hw3
      have S3 := Lib.hid (show w3.heap[w2.heap.size]? = some (.cells #[.int .i64 128, .slice none 0 0, .slice none 0 0, .slice none 0 0] 28 (0, 0)) by rw [hw3]; exact new_one _ _)
      have hB3 : Below w2.heap.size w2 w3 := by rw [hw3]; exact below_one _ _
      have HB3 := Lib.hid hB3
      have hs3 : w3.heap.size = w2.heap.size + 1 := by rw [hw3]; simp
      have hs2 : w.heap.size < w2.heap.size := by
        obtain ⟨b, o, hb, e, _⟩ := L2.out 0 (.int .i64 (-128)) (by rfl)
        cases e; exact hb
      clear hw3 hB3
      obtain ⟨i0, ii, iz0, iz1, iz2⟩ := info_parts Tryz.infoRow
      have II := Lib.hid ii
      have IZ0 := Lib.hid iz0
      have IZ1 := Lib.hid iz1
      have IZ2 := Lib.hid iz2
      clear ii iz0 iz1 iz2
      obtain ⟨kk, hkk⟩ : ∃ kk : Nat, ((k : Int) % 4097) = kk := ⟨k % 4097, by simp⟩
      have hk4 : kk ≤ 4096 := by omega
      go_wp2_with fail
      go_loopw [8] (fun t8 wr => ∃ (j : Nat) (v : Value), j ≤ kk ∧ t8 = .int .i64 j ∧ Hid (wr.heap[w2.heap.size]? = some (.cells #[.int .i64 128, v, .slice none 0 0, .slice none 0 0] 28 (0, 0))) ∧ Hid (RowV (inW wr) 25 1 v j (List.replicate j (.slice (some ⟨w.heap.size, 0, none⟩) 128 128))) ∧ Hid (∀ g ∈ rowBlk v, w3.heap.size ≤ g) ∧ Hid (Below w2.heap.size w2 wr)) (fun t8 _ => kk - (intOf t8).toNat)
      case atStart => exact ⟨0, _, Nat.zero_le _, rfl, S3.out, .nil, by simp [rowBlk, Hid], HB3.out⟩
      case round =>
        obtain ⟨j, v, hj, rfl, HS, HR, HG, HB⟩ := hrel
        obtain ⟨p, c, rfl⟩ := HR.out.slice
        have q1 := blk_cell HS.out 1 rfl
        have f1 := Lib.frozen_of_heap HS.out 1
        have hwr := lt_of_heap HS.out
        by_cases hlt : j < kk
        · have hdd : decide ((j : Int) < (kk : Int)) = true := decide_eq_true (by omega)
          have hdd2 : decide (j < kk) = true := decide_eq_true hlt
          go_wp2_with (at_builtin; refine wpList_append_row _ rfl _ _ 22 rfl 25 i0 (.slice none 0 0) 1 24 Tryz.underlying22 II.out IZ0.out IZ1.out IZ2.out rfl _ _ _ rfl (HR.out.keep (behind_of_below ((Below.refl _ _).alloc (Nat.le_refl _) _)) (by simp)) wr.heap.size 1 1 [.slice (some ⟨w.heap.size, 0, none⟩) 128 128] 25 rfl (heap_alloc_new wr _) rfl (by intro u hu; simp at hu; subst hu; rfl) (by omega) (by unfold maxLen; omega) (by omega) ?_)
          intro v9 w9 hr9 hB9 hn9
          have h09 : Behind wr (rowBlk (.slice p j c)) w9 := ((behind_of_below ((Below.refl _ _).alloc (Nat.le_refl _) _)).mono (by simp)).trans hB9 (fun k hk => .inl hk)
          have hnot : w2.heap.size ∉ rowBlk (.slice p j c) := fun h => by have := HG.out _ h; omega
          have S9 := h09.keep HS.out hnot
          obtain ⟨p9, c9, rfl⟩ := hr9.slice
          have HG9 := Lib.hid (show ∀ g ∈ rowBlk (.slice p9 (j + 1) c9), w3.heap.size ≤ g from fun g hg => (hn9 g hg).elim (HG.out g) (fun h => by first | omega | (simp at h; omega)))
          have HB9 := Lib.hid (HB.out.trans (h09.below_of (fun g hg => by have := HG.out g hg; omega) HB.out.size))
          have hb9 : Behind w9 [w2.heap.size] (w9.setCell ⟨w2.heap.size, 1, none⟩ (.slice p9 (j + 1) c9)) := ⟨rfl, rfl, rfl, by simp, fun k _ hk => heap_setCell_other _ _ _ _ (by simpa using hk)⟩
          have HR9 := Lib.hid ((show RowV (inW w9) 25 1 (.slice p9 (j + 1) c9) (j + 1) (List.replicate (j + 1) (.slice (some ⟨w.heap.size, 0, none⟩) 128 128)) by rw [List.replicate_succ']; exact hr9).keep hb9 (fun g hg => by have := HG9.out g hg; simp; omega))
          have HS9 := Lib.hid (heap_setCell_any (i := 1) S9 (.slice p9 (j + 1) c9))
          have q9 := blk_cell S9 1 rfl
          have f9 := Lib.frozen_of_heap S9 1
          clear h09 S9 hr9 hB9 hn9 hb9 q1 f1
          go_wp2_with fail
          go_roundw
          case rel => exact ⟨j + 1, _, by omega, by go_num, HS9.out, HR9.out, HG9.out, HB9.out.setCell (Nat.le_refl _) _⟩
          case measure => simp [intOf]; omega
        · obtain rfl : j = kk := by omega
          have hdd : decide ((j : Int) < (j : Int)) = false := by simp
          have HB2w := Lib.hid (show Below w.heap.size w wr from HB2.out.trans (HB.out.mono (by omega)))
          have LW := Lib.hid ((L2.out.below HB.out (Nat.le_refl _)).mono HB.out.size)
          have hC : ClsAt wr.heap.size wr p (List.replicate j (List.replicate 128 (-128))) := fun i xs hi => by
            obtain ⟨a9, c9, e9, _, hat⟩ := rowV_at2 HR.out
            cases e9
            have hl := (List.getElem?_eq_some_iff.1 hi).1
            rw [List.length_replicate] at hl
            rw [List.getElem?_replicate, if_pos hl] at hi
            cases hi
            obtain ⟨b, o, hb, e, hc⟩ := hat i (.slice (some ⟨w.heap.size, 0, none⟩) 128 128) (by rw [List.getElem?_replicate, if_pos hl])
            exact ⟨b, o, _, 128, hb, e, by rw [List.length_replicate]; exact hc, LW.out⟩
          have HC := Lib.hid hC
          obtain ⟨bs, hbs⟩ : ∃ bs, bs = decide (j < 4096) := ⟨_, rfl⟩
          have HBS := Lib.hid hbs
          have hd : decide (j < 4096) = bs := hbs.symm
          have hd2 : decide ((j : Int) < 4096) = bs := by
            rw [hbs]
            by_cases h : j < 4096
            · rw [decide_eq_true h, decide_eq_true (by omega)]
            · rw [decide_eq_false h, decide_eq_false (by omega)]
          clear hbs hC
          go_upto_if 49 with fail
          clear hd hd2
          go_cut [] (fun wx => ∃ (L : List (List Int)) (q : Option Addr) (d : Nat), L.length ≤ 4096 ∧ Hid (∀ xs ∈ L, xs.length ≤ 130) ∧ Hid (wx.heap[w2.heap.size]? = some (.cells #[.int .i64 128, .slice q L.length d, .slice none 0 0, .slice none 0 0] 28 (0, 0))) ∧ Hid (ClsAt wx.heap.size wx q L) ∧ Hid (Below w2.heap.size w2 wx))
          case first =>
            cases bs with
            | false =>
              go_wp2_with fail
              go_meet
              case rel => exact ⟨_, p, c, by rw [List.length_replicate]; exact hk4, fun xs hx => by rw [(List.mem_replicate.1 hx).2]; simp, by rw [List.length_replicate]; exact HS.out, HC.out, HB.out⟩
            | true =>
              obtain ⟨w4, hw4⟩ : ∃ w4, w4 = wr := ⟨_, rfl⟩
              subst hw4
              have hj4 : j < 4096 := of_decide_eq_true HBS.out.symm
              obtain ⟨m, hm⟩ : ∃ m : Nat, ((u : Int) % 131) = m := ⟨u % 131, by simp⟩
              have hm1 : m ≤ 130 := by omega
              have hmk := makeInts m (by omega) w4
              clear q1 f1
              go_upto_region 13 with fail
              refine wp_gen ?_
              intro w5 hw5
              have hB5 : Below w4.heap.size w4 w5 := by rw [hw5]; exact below_one _ _
              have F5 := Lib.hid (made_fill (n := m) 1 (show w5.heap[w4.heap.size]? = _ by rw [hw5]; exact new_one w4 _))
              have HB5 := Lib.hid hB5
              clear hw5 hmk hB5
              go_wp2_with fail
              go_loopw [10] (fun t10 wq => ∃ i : Nat, i ≤ m ∧ t10 = .int .i64 i ∧ Hid (Fill wq w4.heap.size m i 1) ∧ Hid (Below w4.heap.size w4 wq)) (fun t10 _ => m - (intOf t10).toNat)
              case atStart => exact ⟨0, by omega, rfl, F5.out, HB5.out⟩
              case round =>
                obtain ⟨i, hi, rfl, HFi, HBi⟩ := hrel
                by_cases hli : i < m
                · have hdi : decide ((i : Int) < (m : Int)) = true := decide_eq_true (by omega)
                  have hdi2 : decide (i < m) = true := decide_eq_true hli
                  obtain ⟨cur, c1, c2, c3, c4⟩ := HFi.out
                  obtain ⟨z, c5⟩ := c4 i hli
                  have q := blk_cell c1 i c5
                  have f := Lib.frozen_of_heap c1 i
                  have HF2 := Lib.hid (HFi.out.step hli)
                  have HBi2 := Lib.hid (HBi.out.setCell (p := ⟨w4.heap.size, i, none⟩) (Nat.le_refl _) (.int .i64 1))
                  clear c1 c2 c3 c4 c5
                  go_wp2_with fail
                  go_roundw
                  case rel => exact ⟨i + 1, by omega, by go_num, HF2.out, HBi2.out⟩
                  case measure => simp [intOf]; omega
                · obtain rfl : i = m := by omega
                  have hdi : decide ((i : Int) < (i : Int)) = false := by simp
                  have RW := Lib.hid (HR.out.keep (behind_of_below HBi.out) (by simp))
                  have SW := Lib.hid ((behind_of_below HBi.out).keep HS.out (by simp))
                  have q1 := blk_cell SW.out 1 rfl
                  have f1 := Lib.frozen_of_heap SW.out 1
                  have hsw := HBi.out.size
                  go_wp2_with (at_builtin; refine wpList_append_row _ rfl _ _ 22 rfl 25 i0 (.slice none 0 0) 1 24 Tryz.underlying22 II.out IZ0.out IZ1.out IZ2.out rfl _ _ _ rfl (RW.out.keep (behind_of_below ((Below.refl _ _).alloc (Nat.le_refl _) _)) (by simp)) wr.heap.size 1 1 [.slice (some ⟨w4.heap.size, 0, none⟩) i i] 25 rfl (heap_alloc_new wr _) rfl (by intro u hu; simp at hu; subst hu; rfl) (by omega) (by unfold maxLen; omega) (by omega) ?_)
                  intro v9 w9 hr9 hB9 hn9
                  have h09 : Behind wr (rowBlk (.slice p j c)) w9 := ((behind_of_below ((Below.refl _ _).alloc (Nat.le_refl _) _)).mono (by simp)).trans hB9 (fun k hk => .inl hk)
                  have hnot : w2.heap.size ∉ rowBlk (.slice p j c) := fun h => by have := HG.out _ h; omega
                  have S9 := h09.keep SW.out hnot
                  obtain ⟨p9, c9, rfl⟩ := hr9.slice
                  have HG9 := Lib.hid (show ∀ g ∈ rowBlk (.slice p9 (j + 1) c9), w3.heap.size ≤ g from fun g hg => (hn9 g hg).elim (HG.out g) (fun h => by first | omega | (simp at h; omega)))
                  have HBw := Lib.hid (HB.out.trans (HBi.out.mono HB.out.size))
                  have hB9w : Below w2.heap.size w2 w9 := HBw.out.trans (h09.below_of (fun g hg => by have := HG.out g hg; omega) HBw.out.size)
                  have hb9 : Behind w9 [w2.heap.size] (w9.setCell ⟨w2.heap.size, 1, none⟩ (.slice p9 (j + 1) c9)) := ⟨rfl, rfl, rfl, by simp, fun k _ hk => heap_setCell_other _ _ _ _ (by simpa using hk)⟩
                  have NL := Lib.hid (show AtN w9.heap.size w9 (some ⟨w4.heap.size, 0, none⟩) (ints (List.replicate i 1)) from fun t x ht => by
                    obtain ⟨b, o, hb, e, hc⟩ := HFi.out.at t x ht
                    cases e
                    exact ⟨_, _, Nat.lt_of_lt_of_le hb h09.size, rfl, behind_cellX h09 hc (fun h => by have := HR.out.lt _ h; omega)⟩)
                  have HS9 := Lib.hid (heap_setCell_any (i := 1) S9 (.slice p9 (j + 1) c9))
                  have HR9 := Lib.hid ((show RowV (inW w9) 25 1 (.slice p9 (j + 1) c9) (j + 1) (List.replicate j (.slice (some ⟨w.heap.size, 0, none⟩) 128 128) ++ [.slice (some ⟨w4.heap.size, 0, none⟩) i i]) from hr9).keep hb9 (fun g hg => by have := HG9.out g hg; simp; omega))
                  have LW9 := Lib.hid ((L2.out.below hB9w (Nat.le_refl _)))
                  have HB9 := Lib.hid (hB9w.setCell (p := ⟨w2.heap.size, 1, none⟩) (Nat.le_refl _) (.slice p9 (j + 1) c9))
                  have q9 := blk_cell S9 1 rfl
                  have f9 := Lib.frozen_of_heap S9 1
                  clear h09 S9 hr9 hB9 hn9 q1 f1 hB9w
                  go_wp2_with fail
                  go_meet
                  case rel =>
                    have hlen : (List.replicate j (List.replicate 128 (-128 : Int)) ++ [List.replicate i 1]).length = j + 1 := by simp
                    refine ⟨List.replicate j (List.replicate 128 (-128)) ++ [List.replicate i 1], p9, c9, by rw [hlen]; omega, fun xs hx => ?_, by rw [hlen]; exact HS9.out, fun t xs ht => ?_, HB9.out⟩
                    · rcases List.mem_append.1 hx with h | h
                      · rw [(List.mem_replicate.1 h).2]; simp
                      · rw [List.mem_singleton.1 h]; simp; omega
                    · obtain ⟨a9, d9, e9, _, hat⟩ := rowV_at2 HR9.out
                      cases e9
                      by_cases htj : t < j
                      · rw [List.getElem?_append_left (by simpa using htj), List.getElem?_replicate, if_pos htj] at ht
                        cases ht
                        obtain ⟨b, o, hb, e, hc⟩ := hat t (.slice (some ⟨w.heap.size, 0, none⟩) 128 128) (by rw [List.getElem?_append_left (by simpa using htj), List.getElem?_replicate, if_pos htj])
                        exact ⟨b, o, _, 128, hb, e, by rw [List.length_replicate]; exact hc, (L2.out.below HB9.out (Nat.le_refl _)).mono HB9.out.size⟩
                      · have htl := (List.getElem?_eq_some_iff.1 ht).1
                        rw [hlen] at htl
                        obtain rfl : t = j := by omega
                        rw [List.getElem?_append_right (by simp)] at ht
                        simp at ht
                        subst ht
                        obtain ⟨b, o, hb, e, hc⟩ := hat t (.slice (some ⟨w4.heap.size, 0, none⟩) i i) (by rw [List.getElem?_append_right (by simp)]; simp)
                        exact ⟨b, o, _, i, hb, e, by rw [List.length_replicate]; exact hc, fun y x hy => by
                          obtain ⟨b2, o2, hb2, e2, hc2⟩ := NL.out y x hy
                          cases e2
                          exact ⟨_, _, Nat.lt_of_lt_of_le hb2 hb9.size, rfl, behind_cellX hb9 hc2 (by simp; omega)⟩⟩
          case rest =>
          obtain ⟨L, aL, cL, hL4, HLC, HS6, HC6, HBc⟩ := hcut
          obtain ⟨w6, hw6⟩ : ∃ w6, w6 = wc := ⟨_, rfl⟩
          subst hw6
          have HB6 := Lib.hid (show Below w.heap.size w w6 from HB2.out.trans (HBc.out.mono (by omega)))
          have HF6 := Lib.hid (show FileAt w6.heap.size w6 aL none none L [] [] from ⟨HC6.out, fun i v h => by simp [ints] at h, fun i v h => by simp [wts] at h⟩)
          clear HS HR HG HB HC LW q1 f1 HBS
          have KPR := gPrint 128 L [] [] aL none none cL 0 0 w6 HF6.out (by simp) (by simp) (by simp) (HT.out.below HB6.out) (HM.out w6 HB6.out)
          have KX := Lib.hid (fun (p : Option Addr) (c : Nat) (x : World) (hF : FileAt x.heap.size x aL none p L [] []) => xPrint 128 L [] [] aL none p cL 0 c x hF (by simp) (by simp) (by simp) (by simp) (by simp))
          obtain ⟨R, hR⟩ : ∃ R, R = printD rdD 128 L [] [] := ⟨_, rfl⟩
          rw [← hR] at KPR KX
          have HRD := Lib.hid hR
          clear hR
          obtain ⟨bt, en⟩ := R
          simp only at KPR KX
          obtain ⟨tx, htx⟩ : ∃ tx : ByteArray, tx = ⟨bt.toArray⟩ := ⟨_, rfl⟩
          rw [← htx] at KPR KX
          have HTX := Lib.hid htx
          clear htx
          have a0 := blk_cell HS6.out 0 rfl
          have a1 := blk_cell HS6.out 1 rfl
          have a2 := blk_cell HS6.out 2 rfl
          have a3 := blk_cell HS6.out 3 rfl
          go_wp2_with fail
          refine KPR.mono ?_
          rintro e w7 ⟨rfl, hB⟩
          have HB7 := Lib.hid (HB6.out.trans (hB.mono HB6.out.size))
          have S7 := Lib.hid ((behind_of_below hB).keep HS6.out (by simp))
          have HF7 := Lib.hid ((HF6.out.below hB (Nat.le_refl _)).mono hB.size)
          clear hB KPR a0 a1 a2 a3 HS6 HF6 HC6
          have KG := gGiven 128 (.slice aL L.length cL) (.slice none 0 0) ⟨_, _, _, rfl⟩ ⟨_, _, _, rfl⟩ [] (by simp) w7 none 0 HF7.out.w
          have a0 := blk_cell S7.out 0 rfl
          have a1 := blk_cell S7.out 1 rfl
          have a2 := blk_cell S7.out 2 rfl
          have a3 := blk_cell S7.out 3 rfl
          go_wp2_with fail
          refine KG.mono ?_
          rintro e w8 ⟨vW, rfl, hO, hB⟩
          obtain ⟨p4, c4, rfl, hc4, hAt⟩ := rowV_at2 hO.1
          have HB8 := Lib.hid (HB7.out.trans (hB.mono HB7.out.size))
          have S8 := Lib.hid ((behind_of_below hB).keep S7.out (by simp))
          have HF8 := Lib.hid ((HF7.out.below hB (Nat.le_refl _)).mono hB.size)
          have KX4 := KX.out p4 c4 w8 ⟨HF8.out.l, HF8.out.s, hAt⟩
          clear hB KG a0 a1 a2 a3 S7 HF7 hO hAt KX
          go_wp2_with fail
          refine KX4.mono ?_
          rintro e w9 ⟨rfl, hB⟩
          have HB9 := Lib.hid (HB8.out.trans (hB.mono HB8.out.size))
          have S9 := Lib.hid ((behind_of_below hB).keep S8.out (by simp))
          have HF9 := Lib.hid ((HF8.out.below hB (Nat.le_refl _)).mono hB.size)
          clear hB KX4 S8 HF8
          have hee : (en != en) = false := by simp
          by_cases hen : en ≠ 0
          · have hq : (en != 0) = true := by simp [bne, beq_no hen]
            have KW1 := KW.out w9 HB9.out
            clear hen
            go_wp2_with fail
            refine KW1.mono ?_
            rintro e w11 ⟨rfl, hB⟩
            have HB := Lib.hid (HB9.out.trans (hB.mono HB9.out.size))
            clear hB KW1
            go_wp2_with fail
            rw [HP.out]
            exact ⟨rfl, HB.out⟩
          obtain rfl : en = 0 := Decidable.not_not.1 hen
          clear hen hee
          by_cases hbig : 40000 < tx.size
          · have hd : decide (40000 < tx.size) = true := decide_eq_true hbig
            have hd2 : decide ((40000 : Int) < (tx.size : Int)) = true := decide_eq_true (by omega)
            have KW1 := KW.out w9 HB9.out
            go_wp2_with fail
            refine KW1.mono ?_
            rintro e w11 ⟨rfl, hB⟩
            have HB := Lib.hid (HB9.out.trans (hB.mono HB9.out.size))
            clear hB KW1
            go_wp2_with fail
            rw [HP.out]
            exact ⟨rfl, HB.out⟩
          have hd : decide (40000 < tx.size) = false := decide_eq_false hbig
          have hd2 : decide ((40000 : Int) < (tx.size : Int)) = false := decide_eq_false (by omega)
          go_wp2_with fail
          have hp0 : checkD rdD 128 L [] [] = 0 ∧ (ptB 128 L [] []).length ≤ 1048576 ∧ bt = ptB 128 L [] [] := by
            have h := HRD.out
            unfold printD at h
            split at h
            · rename_i h1
              exact absurd (congrArg Prod.snd h).symm h1
            · rename_i h1
              split at h
              · exact absurd (congrArg Prod.snd h) (by simp)
              · exact ⟨Decidable.not_not.1 h1, by omega, congrArg Prod.fst h⟩
          obtain ⟨hck, hsh, hbt⟩ := hp0
          have hpp := parse_print rdD_no (checkD_ok.1 hck) hsh
          have KP2 := Lib.hid (fun (x : World) (hx : Below w.heap.size w x) => gParse (ptB 128 L [] []) (by omega) x (HM.out x hx))
          rw [hpp, ← hbt, ← HTX.out] at KP2
          have a0 := blk_cell S9.out 0 rfl
          clear hck hsh hbt hpp hd hd2 hbig HRD HTX
          have KP3 := KP2.out w9 HB9.out
          refine KP3.mono ?_
          rintro e w10 ⟨v5, rfl, hD, hB⟩
          obtain ⟨bL, dL, bS, dS, bW, dW, e1, e2, e3, hF⟩ := hD.file
          simp only at e1 e2 e3 hF ⊢
          rw [e1, e2, e3]
          have HG10 := Lib.hid hF
          have HB10 := Lib.hid (HB9.out.trans (hB.mono HB9.out.size))
          have HF10 := Lib.hid ((HF9.out.below hB (Nat.le_refl _)).mono hB.size)
          have S10 := Lib.hid ((behind_of_below hB).keep S9.out (by simp))
          clear hD hB KP3 KP2 e1 e2 e3 hF HF9 S9 a0
          go_upto_region 24 with fail
          refine wp_gen ?_
          intro w12 hw12
          have hB12 : Below w10.heap.size w10 w12 := by rw [hw12]; exact below_one w10 _
          have S12 := Lib.hid ((behind_of_below hB12).keep S10.out (by simp))
          have B12 := Lib.hid (show w12.heap[w10.heap.size]? = some (.cells #[.int .i64 128, .slice bL L.length dL, .slice bS 0 dS, .slice bW 0 dW] 28 (0, 0)) by rw [hw12]; exact new_one w10 _)
          have HB12 := Lib.hid (HB10.out.trans (hB12.mono HB10.out.size))
          have HF12 := Lib.hid ((HF10.out.below hB12 (Nat.le_refl _)).mono hB12.size)
          have HG12 := Lib.hid ((HG10.out.below hB12 (Nat.le_refl _)).mono hB12.size)
          clear hw12 hB12 S10 HF10 HG10
          go_wp2_with fail
          refine wp_gameM [0, 0, 0, 0, 0, 0, 0, 0, 6, 0, 6, 6, 0, 0, 6, 0, 0] [] (keptB [] w12) (fin_keptB _) (has_keptB _) (by kernel_rfl) (by kernel_rfl) ?_
          refine lexM_split 8 (by decide) (by rfl) ?_
          simp only [List.take_succ_cons, List.take_zero, List.drop_succ_cons, List.drop_zero]
          refine lex_quietE 8 (by kernel_rfl) (by rfl) ?_
          apply Exists.intro
          refine ⟨fun z hz1 => ?_, ?_⟩
          · have gz := hz1.keep B12.out (by simp)
            have g0 := blk_cellp gz 0 rfl
            have g1 := blk_cellp gz 1 rfl
            have g2 := blk_cellp gz 2 rfl
            have g3 := blk_cellp gz 3 rfl
            clear gz
            clear hz1
            simp only [List.take_succ_cons, List.take_zero]
            unfold Cx
            repeat (go_big_quiet_step (fail))
            exact wpQuiet_nil rfl
          simp only [List.drop_succ_cons, List.drop_zero]
          refine lex_nil ?_
          refine lexM_manyF (RGiven 128 (.slice bL L.length dL) (.slice bS ([] : List Int).length dS) []) (by rfl) (by rfl) (by simp) (fin_keptB (Wr := []) w12) (fun g o h => keptB_wr (Wr := []) (w := w12) h) (fun x => by go_simp) (fun x hx hBx => given_call 128 _ _ ⟨_, _, _, rfl⟩ ⟨_, _, _, rfl⟩ [] (by simp) bW dW HG12.out.w x hx) (fun u1 B1 hR1 hf1 hN1 => ?_)
          obtain ⟨pB, cB, rfl, hrB⟩ := hR1
          have HRB := Lib.hid hrB
          clear hrB
          have HF1 := Lib.hid (Fin.over (fin_keptB (Wr := []) w12) hf1)
          have HW1 := Lib.hid (over_wr (w := w12) (Wr := []) (fun g o h => keptB_wr (Wr := []) (w := w12) h) hN1)
          have HN1 := Lib.hid hN1
          clear hf1 hN1
          unfold setSlot
          go_big_quiet_step (fail)
          refine wpQuiet_nil ?_
          refine lexM_split 1 (by decide) (by rfl) ?_
          simp only [List.take_succ_cons, List.take_zero, List.drop_succ_cons, List.drop_zero]
          refine lex_quietE 1 (by kernel_rfl) (by rfl) ?_
          apply Exists.intro
          refine ⟨fun z hz1 => ?_, ?_⟩
          · have gz := hz1.keep S12.out (by simp)
            have g0 := blk_cellp gz 0 rfl
            have g1 := blk_cellp gz 1 rfl
            have g2 := blk_cellp gz 2 rfl
            have g3 := blk_cellp gz 3 rfl
            clear gz
            clear hz1
            simp only [List.take_succ_cons, List.take_zero]
            unfold Cx
            repeat (go_big_quiet_step (fail))
            exact wpQuiet_nil rfl
          simp only [List.drop_succ_cons, List.drop_zero]
          refine lex_nil ?_
          refine lexM_manyF (RGiven 128 (.slice aL L.length cL) (.slice none ([] : List Int).length 0) []) (by rfl) (by rfl) (by simp) HF1.out HW1.out (fun x => by go_simp) (fun x hx hBx => given_call 128 _ _ ⟨_, _, _, rfl⟩ ⟨_, _, _, rfl⟩ [] (by simp) none 0 HF12.out.w x hx) (fun u2 B2 hR2 hf2 hN2 => ?_)
          obtain ⟨pA, cA, rfl, hrA⟩ := hR2
          have HRA := Lib.hid hrA
          clear hrA
          have HF2 := Lib.hid (Fin.over HF1.out hf2)
          have HW2 := Lib.hid (over_wr (w := w12) (Wr := []) HW1.out hN2)
          have HN2 := Lib.hid hN2
          clear hf2 hN2
          unfold setSlot
          go_big_quiet_step (fail)
          refine wpQuiet_nil ?_
          refine lexM_manyF (fun v _ => v = .bool true) (by rfl) (by rfl) (by simp) HF2.out HW2.out (fun x => by go_simp) (fun x hx hBx => same2_call 128 L [] [] bL bS aL none dL dS cL 0 (by omega) (fun xs hxs => by have := HLC.out xs hxs; omega) (by simp) (by simp) ⟨HG12.out.l, HG12.out.s⟩ ⟨HF12.out.l, HF12.out.s⟩ HRB.out HRA.out x hx (has_upper (has_under (w := w12) hBx HN2.out)) (has_upper hBx)) (fun u3 B3 hR3 hf3 hN3 => ?_)
          subst hR3
          have HF3 := Lib.hid (Fin.over HF2.out hf3)
          have HW3 := Lib.hid (over_wr (w := w12) (Wr := []) HW2.out hN3)
          have HN3 := Lib.hid hN3
          clear hf3 hN3
          unfold setSlot
          go_big_quiet_step (fail)
          refine wpQuiet_nil ?_
          refine lexM_split 2 (by decide) (by rfl) ?_
          simp only [List.take_succ_cons, List.take_zero, List.drop_succ_cons, List.drop_zero]
          refine lex_quietE 2 (by kernel_rfl) (by rfl) ?_
          apply Exists.intro
          refine ⟨fun z hz1 => ?_, ?_⟩
          · clear hz1
            simp only [List.take_succ_cons, List.take_zero]
            unfold Cx
            repeat (go_big_quiet_step (fail))
            exact wpQuiet_nil rfl
          simp only [List.drop_succ_cons, List.drop_zero]
          refine lex_nil ?_
          refine lexM_manyF (fun v _ => v = .bool true) (by rfl) (by rfl) (by simp) HF3.out HW3.out (fun x => by go_simp) (fun x hx hBx => true_call (KW.out x (HB12.out.trans (hx.below.mono HB12.out.size)))) (fun u4 B4 hR4 hf4 hN4 => ?_)
          subst hR4
          have HF4 := Lib.hid (Fin.over HF3.out hf4)
          have HW4 := Lib.hid (over_wr (w := w12) (Wr := []) HW3.out hN4)
          have HN4 := Lib.hid hN4
          clear hf4 hN4
          unfold setSlot
          go_big_quiet_step (fail)
          refine wpQuiet_nil ?_
          refine lexM_split 2 (by decide) (by rfl) ?_
          simp only [List.take_succ_cons, List.take_zero, List.drop_succ_cons, List.drop_zero]
          refine lex_quietE 2 (by kernel_rfl) (by rfl) ?_
          apply Exists.intro
          refine ⟨fun z hz1 => ?_, ?_⟩
          · clear hz1
            simp only [List.take_succ_cons, List.take_zero]
            unfold Cx
            repeat (go_big_quiet_step (fail))
            exact wpQuiet_nil rfl
          simp only [List.drop_succ_cons, List.drop_zero]
          refine lex_nil ?_
          intro x2 hx2 _
          have HX2 := Lib.hid hx2
          clear hx2
          go_wp2_with fail
          rw [HP.out]
          exact ⟨rfl, HB12.out.trans (HX2.out.below.mono HB12.out.size)⟩
end Go.Proofs.YtajjgfiojlagmaaGreatDoor
