/- spoil: every number of a sum of one's own is written over. -/
import Derived.Test.YtchamkbnapjidaaDoorKZa
import Derived.Test.YtchamkbnapjidaaDoorKH
import Derived.Deep.DeepCutAuto
namespace Go.Proofs.YtchamkbnapjidaaDoor
open Go.RowKit

theorem row_slot {w : World} {v : Value} {X : List Int} (h : RowV (inW w) 3 1 v X.length (ints X)) (hn : 0 < X.length) :
    ∃ g c cur, v = .slice (some ⟨g, 0, none⟩) X.length c ∧ w.heap[g]? = some (.cells cur 3 (0, 0)) ∧ X.length ≤ cur.size := by
  generalize hN : X.length = n at h hn
  generalize ints X = zs at h
  cases h with
  | nil => omega
  | @row g _ cap _ cur h => exact ⟨_, _, cur, rfl, h.blk, by have := h.sz; have := h.le; omega⟩
theorem two_set1 {w : World} {B g i n c : Nat} {y : Int} {X Y : List Int} {v2 : Value} (hn : X.length = n) (h : Two w B (.slice (some ⟨g, 0, none⟩) n c) X v2 Y) : Two (w.setCell ⟨g, i, none⟩ (.int .i64 y)) B (.slice (some ⟨g, 0, none⟩) n c) (X.set i y) v2 Y := by
  subst hn
  refine ⟨⟨by rw [List.length_set]; exact h.o1.row.setI, h.o1.ge, by simp⟩, ⟨h.o2.row.keep (behind_set2 (b := g) (Wr := [g])) (fun k hk hm => ?_), h.o2.ge, by simp⟩, h.dis⟩
  have hkg : k = g := by simpa using hm
  subst hkg
  exact h.dis k (by simp [rowBlk]) hk

set_option maxHeartbeats 1600000 in
set_option maxRecDepth 100000 in
theorem gSpoil (s : PS) (B : Nat) (ca la : Option Addr) (cc lc : Nat) (hcl : s.C.length ≤ 100000000000000) (hll : s.L.length ≤ 100000000000000) (w : World) (h : Two w B (.slice ca s.C.length cc) s.C (.slice la s.L.length lc) s.L) (hB : B ≤ w.heap.size) :
    Calls Tryd.prog 13 #[sumV ca cc la lc s] w fun e w' => (∃ v, e = .returned v) ∧ Below B w w' := by
  have H0 := Lib.hid h
  have HLT1 := Lib.hid h.o1.row.lt
  have HLT2 := Lib.hid h.o2.row.lt
  unfold sumV
  clear h
  go_enter Tryd.func13, Tryd.ntmps13
  go_wp2_with fail
  refine wp_gen ?_
  intro w1 hw1
  have HB1 := Lib.hid (show Below w.heap.size w w1 by rw [hw1]; exact below_one _ _)
  have M1 := Lib.hid (show w1.heap[w.heap.size]? = some (.cells #[.slice ca s.C.length cc, .slice la s.L.length lc, .int .i64 s.m] 24 (0, 0)) by rw [hw1]; exact new_one _ _)
  have H1 := Lib.hid (H0.out.keepB HB1.out)
  clear hw1 H0
  go_loopw [7] (fun t7 wr => ∃ (j : Nat) (X : List Int), j ≤ s.C.length ∧ t7 = .int .i64 j ∧ X.length = s.C.length ∧ Hid (Two wr B (.slice ca s.C.length cc) X (.slice la s.L.length lc) s.L) ∧ Hid (wr.heap[w.heap.size]? = some (.cells #[.slice ca s.C.length cc, .slice la s.L.length lc, .int .i64 s.m] 24 (0, 0))) ∧ Hid (Below B w wr)) (fun t7 _ => s.C.length - (intOf t7).toNat)
  case atStart => exact ⟨0, s.C, Nat.zero_le _, rfl, rfl, H1, M1, HB1.out.mono hB⟩
  case round =>
    obtain ⟨j, X, hj, rfl, hX, H2, M2, HB⟩ := hrel
    have HX := Lib.hid hX
    clear hX
    have c0 := blk_cell M2.out 0 rfl
    have c1 := blk_cell M2.out 1 rfl
    by_cases hlt : j < s.C.length
    · have hdd : decide (j < s.C.length) = true := by simpa using hlt
      have hr := H2.out.o1.row
      obtain ⟨g, c, cur, hv, hg, hsz⟩ := row_slot hr (by rw [HX.out]; omega)
      rw [HX.out] at hv hsz
      cases hv
      have d1 := blk_cell hg j (v := cur[j]'(by omega)) (by simp)
      have d2 := blk_free hg j
      have hgw := HLT1.out g (by simp [rowBlk])
      have hgB := H2.out.o1.ge g (by simp [rowBlk])
      clear hr hg
      go_wp2_with fail
      go_roundw
      case rel => exact ⟨j + 1, X.set j 77, by omega, by go_num, by rw [List.length_set]; exact HX.out, two_set1 HX.out H2.out, (heap_setCell_other _ _ _ _ (by show w.heap.size ≠ g; omega)).trans M2.out, HB.out.setCell hgB _⟩
      case measure => simp [intOf]; omega
    · obtain rfl : j = s.C.length := by omega
      have hdd : decide (s.C.length < s.C.length) = false := by simp
      obtain ⟨w0, hw0⟩ : ∃ w0, w0 = wr := ⟨_, rfl⟩
      subst hw0
      go_wp2_with fail
      have H3 := Lib.hid H2.out.sym
      obtain ⟨X0, hX0⟩ : ∃ X0, X0 = X := ⟨_, rfl⟩
      subst hX0
      have HBw := Lib.hid HB.out
      have Mw := Lib.hid M2.out
      clear HX H2 c0 c1
      go_loopw [18] (fun t18 wr => ∃ (j : Nat) (Y : List Int), j ≤ s.L.length ∧ t18 = .int .i64 j ∧ Y.length = s.L.length ∧ Hid (Two wr B (.slice la s.L.length lc) Y (.slice ca s.C.length cc) X0) ∧ Hid (wr.heap[w.heap.size]? = some (.cells #[.slice ca s.C.length cc, .slice la s.L.length lc, .int .i64 s.m] 24 (0, 0))) ∧ Hid (Below B w wr)) (fun t18 _ => s.L.length - (intOf t18).toNat)
      case atStart => exact ⟨0, s.L, Nat.zero_le _, rfl, rfl, H3, Mw, HBw⟩
      case round =>
        obtain ⟨j, Y, hj, rfl, hY, H4, M4, HB4⟩ := hrel
        have HY := Lib.hid hY
        clear hY
        have c1 := blk_cell M4.out 1 rfl
        by_cases hlt : j < s.L.length
        · have hdd : decide (j < s.L.length) = true := by simpa using hlt
          have hr := H4.out.o1.row
          obtain ⟨g, c, cur, hv, hg, hsz⟩ := row_slot hr (by rw [HY.out]; omega)
          rw [HY.out] at hv hsz
          cases hv
          have d1 := blk_cell hg j (v := cur[j]'(by omega)) (by simp)
          have d2 := blk_free hg j
          have hgw := HLT2.out g (by simp [rowBlk])
          have hgB := H4.out.o1.ge g (by simp [rowBlk])
          clear hr hg
          go_wp2_with fail
          go_roundw
          case rel => exact ⟨j + 1, Y.set j 77, by omega, by go_num, by rw [List.length_set]; exact HY.out, two_set1 HY.out H4.out, (heap_setCell_other _ _ _ _ (by show w.heap.size ≠ g; omega)).trans M4.out, HB4.out.setCell hgB _⟩
          case measure => simp [intOf]; omega
        · obtain rfl : j = s.L.length := by omega
          have hdd : decide (s.L.length < s.L.length) = false := by simp
          go_wp2_with fail
          exact bodyPost_end (results_none rfl _ _ _) rfl ⟨⟨_, rfl⟩, HB4.out⟩
end Go.Proofs.YtchamkbnapjidaaDoor
