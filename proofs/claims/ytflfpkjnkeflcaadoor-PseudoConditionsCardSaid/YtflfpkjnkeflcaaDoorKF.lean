/- few: a valid sum of small numbers. -/
import Derived.Test.YtflfpkjnkeflcaaDoorKYa
import Derived.Test.YtflfpkjnkeflcaaDoorSF
import Derived.Deep.DeepCutAuto
namespace Go.Proofs.YtflfpkjnkeflcaaDoor
open Go.RowKit

theorem fewN_le (s : PS) : fewN s ≤ s.C.length ∧ fewN s ≤ s.L.length ∧ fewN s ≤ 30 := by unfold fewN; omega
theorem take_map_succ {C : List Int} {f : Int → Int} {j : Nat} (h : j < C.length) : (C.take (j + 1)).map f = (C.take j).map f ++ [f (C.getD j 0)] := by
  rw [take_snoc h, List.map_append]; rfl
set_option maxHeartbeats 6400000 in
set_option maxRecDepth 100000 in
theorem gFew (N : Nat) (s : PS) (n : Nat) (hn : 1 ≤ n) (hn8 : n ≤ 8) (ca la : Option Addr) (cc lc : Nat) (hcl : s.C.length ≤ 20000000000000) (hll : s.L.length ≤ 20000000000000) (hLi : ∀ z ∈ s.L, -9223372036854775808 ≤ z ∧ z ≤ 9223372036854775807) (w : World) (hC : AtN N w ca (ints s.C)) (hL : AtN N w la (ints s.L)) (hw : N ≤ w.heap.size) :
    Calls Tryd.prog 9 #[sumV ca cc la lc s, .int .i64 (n : Int)] w (OnePost w (fewS s n)) := by
  have HC := Lib.hid hC
  have HL := Lib.hid hL
  have HI := Lib.hid hLi
  obtain ⟨Post, hPost⟩ : ∃ P : Ending → World → Prop, P = OnePost w (fewS s n) := ⟨_, rfl⟩
  rw [← hPost]
  have HP := Lib.hid hPost
  have hfn := fewN_le s
  have HFN := Lib.hid (show fewN s = min (min s.C.length s.L.length) 30 from rfl)
  unfold sumV
  clear hC hL hLi hPost
  obtain ⟨i0, ii, iz0, iz1, iz2⟩ := info_parts Tryd.infoInt
  have II := Lib.hid ii
  have IZ0 := Lib.hid iz0
  have IZ1 := Lib.hid iz1
  have IZ2 := Lib.hid iz2
  clear ii iz0 iz1 iz2
  go_enter Tryd.func9, Tryd.ntmps9
  go_wp2_with fail
  refine wp_gen ?_
  intro w1 hw1
  have HB1 := Lib.hid (show Below w.heap.size w w1 by rw [hw1]; exact (below_two w _ _).alloc (by simp; omega) _)
  have P1 := Lib.hid (show w1.heap[w.heap.size]? = some (.cells #[.slice ca s.C.length cc, .slice la s.L.length lc, .int .i64 s.m] 24 (0, 0)) by rw [hw1]; exact (heap_alloc_old _ _ (by simp; omega)).trans (new_two1 _ _ _))
  have R1 := Lib.hid (show w1.heap[w.heap.size + 1]? = some (.cells #[.slice none 0 0, .slice none 0 0, .int .i64 0] 24 (0, 0)) by rw [hw1]; exact (heap_alloc_old _ _ (by simp)).trans (new_two2 _ _ _))
  have O1 := Lib.hid (show w1.heap[w.heap.size + 2]? = some (.cells #[.slice none 0 0, .slice none 0 0, .int .i64 (s.m.tmod 200)] 24 (0, 0)) by rw [hw1]; have := new_one ((w.alloc (.cells #[.slice ca s.C.length cc, .slice la s.L.length lc, .int .i64 s.m] 24 (0, 0))).alloc (.cells #[.slice none 0 0, .slice none 0 0, .int .i64 0] 24 (0, 0))) (.cells #[.slice none 0 0, .slice none 0 0, .int .i64 (s.m.tmod 200)] 24 (0, 0)); simpa using this)
  clear hw1
  go_loopw [6] (fun t6 wr => ∃ (j : Nat) (X Y : List Int) (vC vL : Value), j ≤ fewN s ∧ t6 = .int .i64 j ∧ X.length ≤ j ∧ Y.length ≤ j ∧ Hid (X = (s.C.take j).map fun c => c.tmod 50) ∧ Hid (Y = (s.L.take j).map (fewL n)) ∧ Hid (wr.heap[w.heap.size + 2]? = some (.cells #[vC, vL, .int .i64 (s.m.tmod 200)] 24 (0, 0))) ∧ Hid (Two wr (w.heap.size + 3) vC X vL Y) ∧ Hid (Below (w.heap.size + 2) w1 wr)) (fun t6 _ => fewN s - (intOf t6).toNat)
  case atStart => exact ⟨0, [], [], _, _, Nat.zero_le _, rfl, Nat.le_refl _, Nat.le_refl _, rfl, rfl, O1, two_none _ _, Below.refl _ _⟩
  case round =>
    obtain ⟨j, X, Y, vC, vL, hj, rfl, hX, hY, HX, HY, HO, HT, HB⟩ := hrel
    have P2 := Lib.hid ((HB.out.block w.heap.size (by omega)).trans P1.out)
    have c0 := blk_cell P2.out 0 rfl
    have c1 := blk_cell P2.out 1 rfl
    obtain ⟨pC, cC, hvC⟩ := HT.out.o1.row.slice
    obtain ⟨pL, cL, hvL⟩ := HT.out.o2.row.slice
    subst hvC
    subst hvL
    have hor := lt_of_heap HO.out
    by_cases hlt : j < fewN s
    · have e1 : decide ((j : Int) < (s.C.length : Int)) = true := decide_eq_true (by omega)
      have e2 : decide ((j : Int) < (s.L.length : Int)) = true := decide_eq_true (by omega)
      have e3 : decide ((j : Int) < 30) = true := decide_eq_true (by omega)
      have hyy : s.L[j]? = some (s.L.getD j 0) := by simp [List.getD, show j < s.L.length by omega]
      have hcc : s.C[j]? = some (s.C.getD j 0) := by simp [List.getD, show j < s.C.length by omega]
      have hli := HI.out (s.L.getD j 0) (by simp [List.getD, show j < s.L.length by omega])
      obtain ⟨b, o, hb, rfl, k0⟩ := HL.out _ _ (ints_get _ _ _ hyy)
      obtain ⟨b2, o2, hb2, rfl, k2⟩ := HC.out _ _ (ints_get _ _ _ hcc)
      have hBW := HB1.out.trans (HB.out.mono (by omega))
      have d1 := below_cell hBW (show b < w.heap.size by omega) k0
      have d2 := Lib.hid (below_cell hBW (show b2 < w.heap.size by omega) k2)
      have hTC := take_map_succ (f := fun c => c.tmod 50) (show j < s.C.length by omega)
      have hTL := take_map_succ (f := fewL n) (show j < s.L.length by omega)
      have HTC := Lib.hid (hTC.trans (by rw [← HX.out]))
      have HTL := Lib.hid (hTL.trans (by rw [← HY.out]))
      generalize s.L.getD j 0 = l at *
      generalize s.C.getD j 0 = c at *
      have HnS := Lib.hid (show w.heap.size + 2 ∉ (rowBlk (.slice pC X.length cC) ++ rowBlk (.slice pL Y.length cL)) from fun h => (List.mem_append.1 h).elim (fun h => by have := HT.out.o1.ge _ h; omega) (fun h => by have := HT.out.o2.ge _ h; omega))
      have HnD := Lib.hid (show ∀ k, k < w.heap.size + 2 → k ∉ (rowBlk (.slice pC X.length cC) ++ rowBlk (.slice pL Y.length cL)) from fun k hk h => (List.mem_append.1 h).elim (fun h => by have := HT.out.o1.ge _ h; omega) (fun h => by have := HT.out.o2.ge _ h; omega))
      clear hyy hcc k0 k2 hBW hTC hTL
      by_cases hl : l < 0
      · obtain ⟨x, rfl⟩ : ∃ x : Nat, l = -(x : Int) - 1 := ⟨(-l - 1).toNat, by omega⟩
        have hx : x ≤ 9223372036854775807 := by omega
        have hmx : max (-(x : Int) - 1) (x : Int) = (x : Int) := by omega
        obtain ⟨r, hr, hr8⟩ : ∃ r : Nat, (x : Int) % (n : Int) = (r : Int) ∧ r < 8 := ⟨x % n, (Int.natCast_emod x n).symm, Nat.lt_of_lt_of_le (Nat.mod_lt x (show 0 < n by omega)) hn8⟩
        have HV := Lib.hid (show fewL n (-(x : Int) - 1) = -(1 + (r : Int)) by
          unfold fewL fewV
          rw [if_pos (by omega), show -(-(x : Int) - 1 + 1) = (x : Int) by omega, hmx, hr])
        clear hl
        go_upto_region 9 with fail
        obtain ⟨kF1, hkF1⟩ : ∃ kF1, kF1 = kA (.slice pC X.length cC) X.length 1 := ⟨_, rfl⟩
        have hkF1' : kF1 = 2 ∨ kF1 = 5 := by rw [hkF1]; exact kA_or _ _ _
        obtain ⟨kF2, hkF2⟩ : ∃ kF2, kF2 = kA (.slice pL Y.length cL) Y.length 1 := ⟨_, rfl⟩
        have hkF2' : kF2 = 2 ∨ kF2 = 5 := by rw [hkF2]; exact kA_or _ _ _
        have HK1 := Lib.hid hkF1
        have HK2 := Lib.hid hkF2
        clear hkF1 hkF2
        have HWG := Lib.hid (show ∀ g ∈ (rowBlk (.slice pC X.length cC) ++ rowBlk (.slice pL Y.length cL)), (w.heap.size + 3) ≤ g from fun g hg => (List.mem_append.1 hg).elim (fun h => HT.out.o1.ge g h) (fun h => HT.out.o2.ge g h))
        have HLT1 := Lib.hid HT.out.o1.row.lt
        have HLT2 := Lib.hid HT.out.o2.row.lt
        refine wp_game_tail 16 [0, 0, 0, 0, 0, 0, 0, 0, 3, kF1, 0, 0, 0, 3, kF2, 0, 0, 0, 0] (rowBlk (.slice pC X.length cC) ++ rowBlk (.slice pL Y.length cL)) (rowsB wr (rowBlk (.slice pC X.length cC) ++ rowBlk (.slice pL Y.length cL))) (fin_rowsB _ _) (has_rowsB _ _) (by kernel_rfl) (by rcases hkF1' with h | h <;> rcases hkF2' with h' | h' <;> rw [h, h'] <;> kernel_rfl) ?_
        simp only [List.take_succ_cons, List.take_zero]
        refine lex_quietE 8 (by kernel_rfl) (by rfl) ?_
        apply Exists.intro
        refine ⟨fun z hz1 => ?_, ?_⟩
        · skip
          have g0 := blk_cellp (hz1.keep HO.out HnS.out) 0 rfl
          have g1 := blk_cellp (hz1.keep P2.out (HnD.out _ (by omega))) 0 rfl
          have g2 := below_cellp (hz1.below_of (b := w.heap.size + 2) (fun g hg => by have := HWG.out g hg; omega) (by omega)) d2.out (by omega)
          clear hz1
          simp only [List.take_succ_cons, List.take_zero]
          unfold Cx
          repeat (go_big_quiet_step (fail))
          exact wpQuiet_nil rfl
        simp only [List.drop_succ_cons, List.drop_zero]
        refine lex_slice 1 (.cells #[.int .i64 (c.tmod 50)] 3) (by rfl) (fun x => by go_simp) (fun g21 q21 hn21 => ?_)
        unfold setSlot
        go_big_quiet_step (fail)
        refine wpQuiet_nil ?_
        have n21v : g21 ∉ rowBlk (.slice pC X.length cC) := fun h => by have := HLT1.out g21 h; omega
        have n21w : g21 ∉ rowBlk (.slice pL Y.length cL) := fun h => by have := HLT2.out g21 h; omega
        clear hn21
        refine lex_append_v (.tmp 52) (.tmp 59) 22 3 i0 _ 1 8 Tryd.underlying22 II.out IZ0.out IZ1.out IZ2.out (by rfl) (.slice pC X.length cC) X.length (ints X) ((rowV_rowsB HT.out.o1.row (fun g hg => List.mem_append.2 (.inl hg))).of_put n21v) (by rfl) g21 1 1 [.int .i64 (c.tmod 50)] 3 (by rfl) (Blocks.put_same _ _ _) rfl (by simp [Value.oneCell']) (by omega) (by unfold maxLen; omega) (by omega) (fun g hg => .inl (List.mem_append.2 (.inl hg))) HK1.out (fun g22 c22 ob22 hr22 hg22 => ?_)
        unfold setSlot
        go_big_quiet_step (fail)
        refine wpQuiet_nil ?_
        have n22w : g22 ∉ rowBlk (.slice pL Y.length cL) := fun e => hg22.elim (fun h => HT.out.dis g22 h e) (fun h => by have := HLT2.out g22 e; omega)
        have hn22 : ∀ g ∈ rowBlk (.slice (some ⟨g22, 0, none⟩) (X.length + 1) c22), g ∈ rowBlk (.slice pC X.length cC) ∨ wr.heap.size ≤ g := fun g hg => by
          have : g = g22 := by simpa [rowBlk] using hg
          subst this
          exact hg22.imp id (fun h => h.1)
        clear hg22
        refine lex_quietE 3 (by kernel_rfl) (by rfl) ?_
        apply Exists.intro
        refine ⟨fun z hz1 => ?_, ?_⟩
        · skip
          have g0 := blk_cellp (hz1.keep HO.out HnS.out) 1 rfl
          clear hz1
          simp only [List.take_succ_cons, List.take_zero]
          unfold Cx
          repeat (go_big_quiet_step (fail))
          exact wpQuiet_nil rfl
        simp only [List.drop_succ_cons, List.drop_zero]
        refine lex_slice 1 (.cells #[.int .i64 (-(1 + (r : Int)))] 3) (by rfl) (fun x => by go_simp) (fun g23 q23 hn23 => ?_)
        unfold setSlot
        go_big_quiet_step (fail)
        refine wpQuiet_nil ?_
        have n23w : g23 ∉ rowBlk (.slice pL Y.length cL) := fun h => by have := HLT2.out g23 h; omega
        have n2322 : g23 ≠ g22 := ne_of_put hn23
        clear hn23
        refine lex_append_v (.tmp 62) (.tmp 64) 22 3 i0 _ 1 8 Tryd.underlying22 II.out IZ0.out IZ1.out IZ2.out (by rfl) (.slice pL Y.length cL) Y.length (ints Y) ((((rowV_rowsB HT.out.o2.row (fun g hg => List.mem_append.2 (.inr hg))).of_put n21w).of_put n22w).of_put n23w) (by rfl) g23 1 1 [.int .i64 (-(1 + (r : Int)))] 3 (by rfl) (Blocks.put_same _ _ _) rfl (by simp [Value.oneCell']) (by omega) (by unfold maxLen; omega) (by omega) (fun g hg => .inl (List.mem_append.2 (.inr hg))) HK2.out (fun g24 c24 ob24 hr24 hg24 => ?_)
        unfold setSlot
        go_big_quiet_step (fail)
        refine wpQuiet_nil ?_
        have n2422 : g24 ≠ g22 := hg24.elim (fun h e => n22w (e ▸ h)) (fun h => ne_of_put (none_of_put h.2))
        have hn24 : ∀ g ∈ rowBlk (.slice (some ⟨g24, 0, none⟩) (Y.length + 1) c24), g ∈ rowBlk (.slice pL Y.length cL) ∨ wr.heap.size ≤ g := fun g hg => by
          have : g = g24 := by simpa [rowBlk] using hg
          subst this
          exact hg24.imp id (fun h => h.1)
        clear hg24
        refine lex_quietE 1 (by kernel_rfl) (by rfl) ?_
        apply Exists.intro
        refine ⟨fun z hz1 => ?_, ?_⟩
        · skip
          clear hz1
          simp only [List.take_succ_cons, List.take_zero]
          unfold Cx
          repeat (go_big_quiet_step (fail))
          exact wpQuiet_nil rfl
        simp only [List.drop_succ_cons, List.drop_zero]
        refine lex_nil ?_
        intro x2 hx2 hH2
        have hr25 := (hr22.of_put (b := g23) (ob := .cells #[.int .i64 (-(1 + (r : Int)))] 3 (0, 0)) (fun h => n2322 (by simpa [rowBlk] using h))).of_put (b := g24) (ob := ob24) (fun h => n2422 (by simpa [rowBlk] using h))
        have hT2 := HT.out.both (show (w.heap.size + 3) ≤ wr.heap.size by omega) (hr25.of_has hH2) hn22 (hr24.of_has hH2) hn24 (fun g hg hm => by
          have e1 : g = g22 := by simpa [rowBlk] using hg
          have e2 : g = g24 := by simpa [rowBlk] using hm
          exact n2422 (e2.symm.trans e1))
        have T2 := Lib.hid hT2
        have X2 := Lib.hid hx2
        clear hx2 hH2 hT2 hn22 hn24 hr22 hr24 hr25 HLT1 HLT2
        have hS2 := X2.out.keep HO.out HnS.out
        have e0 := blk_cell hS2 0 rfl
        have e1' := blk_cell hS2 1 rfl
        have e2' := blk_free hS2 0
        have e3' := blk_free hS2 1
        have HS8 := Lib.hid hS2
        have HB8 := Lib.hid (HB.out.trans (X2.out.below_of (b := w.heap.size + 2) (fun g hg => by have := HWG.out g hg; omega) (by omega)))
        clear hS2 X2 HWG HnS HnD HO HT HB P2 c0 c1
        go_wp2_with fail
        go_roundw
        case rel =>
          refine ⟨j + 1, X ++ [c.tmod 50], Y ++ [(-(1 + (r : Int)))], .slice (some ⟨g22, 0, none⟩) (X.length + 1) c22, .slice (some ⟨g24, 0, none⟩) (Y.length + 1) c24, by omega, by go_num, by simp; omega, by simp; omega, HTC.out.symm, (HTL.out.trans (by rw [HV.out])).symm, ?_, T2.out.keepU ((behind_set2 (b := w.heap.size + 2) (Wr := [w.heap.size + 2])).trans (behind_set2 (b := w.heap.size + 2) (Wr := [w.heap.size + 2])) (by simp)) (fun g hg => by simp at hg; omega), (HB8.out.setCell (Nat.le_refl _) _).setCell (Nat.le_refl _) _⟩
          exact heap_setCell_same _ (w.heap.size + 2) 1 _ _ _ (heap_setCell_same _ (w.heap.size + 2) 0 _ _ _ HS8.out)
        case measure => simp [intOf]; omega
      · by_cases hlm : l = 9223372036854775807

        · subst hlm
          obtain ⟨r, hr, hr8⟩ : ∃ r : Nat, (9223372036854775807 : Int) % (n : Int) = (r : Int) ∧ r < 8 := ⟨9223372036854775807 % n, (Int.natCast_emod 9223372036854775807 n).symm, Nat.lt_of_lt_of_le (Nat.mod_lt 9223372036854775807 (show 0 < n by omega)) hn8⟩
          have HV := Lib.hid (show fewL n 9223372036854775807 = 1 + (r : Int) by
            unfold fewL fewV
            rw [if_neg (by omega), show max (9223372036854775807 : Int) (-(9223372036854775807 + 1)) = 9223372036854775807 from rfl, hr])
          have hmw : wrap64 (1 + wrap64 ((IntKind.u64.wrap (max 9223372036854775807 (wrap64 (-wrap64 9223372036854775808)))).tmod (n : Int))) = 1 + (r : Int) := by
            have z1 : wrap64 9223372036854775808 = -9223372036854775808 := by unfold wrap64; omega
            have z2 : wrap64 (- -9223372036854775808) = -9223372036854775808 := by unfold wrap64; omega
            have z3 : IntKind.u64.wrap 9223372036854775807 = 9223372036854775807 := by first | rfl | (unfold IntKind.wrap; simp) | (simp [IntKind.wrap]) | kernel_rfl
            rw [z1, z2, show max (9223372036854775807 : Int) (-9223372036854775808) = 9223372036854775807 from rfl, z3, Int.tmod_eq_emod_of_nonneg (by omega), hr, show wrap64 (r : Int) = r from by unfold wrap64; omega, show wrap64 (1 + (r : Int)) = 1 + r from by unfold wrap64; omega]
          have HMW := Lib.hid hmw
          clear hmw
          clear hl
          go_upto_region 9 with fail
          obtain ⟨kF1, hkF1⟩ : ∃ kF1, kF1 = kA (.slice pC X.length cC) X.length 1 := ⟨_, rfl⟩
          have hkF1' : kF1 = 2 ∨ kF1 = 5 := by rw [hkF1]; exact kA_or _ _ _
          obtain ⟨kF2, hkF2⟩ : ∃ kF2, kF2 = kA (.slice pL Y.length cL) Y.length 1 := ⟨_, rfl⟩
          have hkF2' : kF2 = 2 ∨ kF2 = 5 := by rw [hkF2]; exact kA_or _ _ _
          have HK1 := Lib.hid hkF1
          have HK2 := Lib.hid hkF2
          clear hkF1 hkF2
          have HWG := Lib.hid (show ∀ g ∈ (rowBlk (.slice pC X.length cC) ++ rowBlk (.slice pL Y.length cL)), (w.heap.size + 3) ≤ g from fun g hg => (List.mem_append.1 hg).elim (fun h => HT.out.o1.ge g h) (fun h => HT.out.o2.ge g h))
          have HLT1 := Lib.hid HT.out.o1.row.lt
          have HLT2 := Lib.hid HT.out.o2.row.lt
          refine wp_game_tail 16 [0, 0, 0, 0, 0, 0, 0, 0, 3, kF1, 0, 0, 0, 3, kF2, 0, 0, 0, 0] (rowBlk (.slice pC X.length cC) ++ rowBlk (.slice pL Y.length cL)) (rowsB wr (rowBlk (.slice pC X.length cC) ++ rowBlk (.slice pL Y.length cL))) (fin_rowsB _ _) (has_rowsB _ _) (by kernel_rfl) (by rcases hkF1' with h | h <;> rcases hkF2' with h' | h' <;> rw [h, h'] <;> kernel_rfl) ?_
          simp only [List.take_succ_cons, List.take_zero]
          refine lex_quietE 8 (by kernel_rfl) (by rfl) ?_
          apply Exists.intro
          refine ⟨fun z hz1 => ?_, ?_⟩
          · skip
            have g0 := blk_cellp (hz1.keep HO.out HnS.out) 0 rfl
            have g1 := blk_cellp (hz1.keep P2.out (HnD.out _ (by omega))) 0 rfl
            have g2 := below_cellp (hz1.below_of (b := w.heap.size + 2) (fun g hg => by have := HWG.out g hg; omega) (by omega)) d2.out (by omega)
            clear hz1
            simp only [List.take_succ_cons, List.take_zero]
            unfold Cx
            repeat (go_big_quiet_step (fail))
            exact wpQuiet_nil rfl
          simp only [List.drop_succ_cons, List.drop_zero]
          refine lex_slice 1 (.cells #[.int .i64 (c.tmod 50)] 3) (by rfl) (fun x => by go_simp) (fun g21 q21 hn21 => ?_)
          unfold setSlot
          go_big_quiet_step (fail)
          refine wpQuiet_nil ?_
          have n21v : g21 ∉ rowBlk (.slice pC X.length cC) := fun h => by have := HLT1.out g21 h; omega
          have n21w : g21 ∉ rowBlk (.slice pL Y.length cL) := fun h => by have := HLT2.out g21 h; omega
          clear hn21
          refine lex_append_v (.tmp 52) (.tmp 59) 22 3 i0 _ 1 8 Tryd.underlying22 II.out IZ0.out IZ1.out IZ2.out (by rfl) (.slice pC X.length cC) X.length (ints X) ((rowV_rowsB HT.out.o1.row (fun g hg => List.mem_append.2 (.inl hg))).of_put n21v) (by rfl) g21 1 1 [.int .i64 (c.tmod 50)] 3 (by rfl) (Blocks.put_same _ _ _) rfl (by simp [Value.oneCell']) (by omega) (by unfold maxLen; omega) (by omega) (fun g hg => .inl (List.mem_append.2 (.inl hg))) HK1.out (fun g22 c22 ob22 hr22 hg22 => ?_)
          unfold setSlot
          go_big_quiet_step (fail)
          refine wpQuiet_nil ?_
          have n22w : g22 ∉ rowBlk (.slice pL Y.length cL) := fun e => hg22.elim (fun h => HT.out.dis g22 h e) (fun h => by have := HLT2.out g22 e; omega)
          have hn22 : ∀ g ∈ rowBlk (.slice (some ⟨g22, 0, none⟩) (X.length + 1) c22), g ∈ rowBlk (.slice pC X.length cC) ∨ wr.heap.size ≤ g := fun g hg => by
            have : g = g22 := by simpa [rowBlk] using hg
            subst this
            exact hg22.imp id (fun h => h.1)
          clear hg22
          refine lex_quietE 3 (by kernel_rfl) (by rfl) ?_
          apply Exists.intro
          refine ⟨fun z hz1 => ?_, ?_⟩
          · skip
            have g0 := blk_cellp (hz1.keep HO.out HnS.out) 1 rfl
            clear hz1
            simp only [List.take_succ_cons, List.take_zero]
            unfold Cx
            repeat (go_big_quiet_step (fail))
            exact wpQuiet_nil rfl
          simp only [List.drop_succ_cons, List.drop_zero]
          refine lex_slice 1 (.cells #[.int .i64 (1 + (r : Int))] 3) (by rfl) (fun x => by go_simp; rw [HMW.out]) (fun g23 q23 hn23 => ?_)
          unfold setSlot
          go_big_quiet_step (fail)
          refine wpQuiet_nil ?_
          have n23w : g23 ∉ rowBlk (.slice pL Y.length cL) := fun h => by have := HLT2.out g23 h; omega
          have n2322 : g23 ≠ g22 := ne_of_put hn23
          clear hn23
          refine lex_append_v (.tmp 62) (.tmp 64) 22 3 i0 _ 1 8 Tryd.underlying22 II.out IZ0.out IZ1.out IZ2.out (by rfl) (.slice pL Y.length cL) Y.length (ints Y) ((((rowV_rowsB HT.out.o2.row (fun g hg => List.mem_append.2 (.inr hg))).of_put n21w).of_put n22w).of_put n23w) (by rfl) g23 1 1 [.int .i64 (1 + (r : Int))] 3 (by rfl) (Blocks.put_same _ _ _) rfl (by simp [Value.oneCell']) (by omega) (by unfold maxLen; omega) (by omega) (fun g hg => .inl (List.mem_append.2 (.inr hg))) HK2.out (fun g24 c24 ob24 hr24 hg24 => ?_)
          unfold setSlot
          go_big_quiet_step (fail)
          refine wpQuiet_nil ?_
          have n2422 : g24 ≠ g22 := hg24.elim (fun h e => n22w (e ▸ h)) (fun h => ne_of_put (none_of_put h.2))
          have hn24 : ∀ g ∈ rowBlk (.slice (some ⟨g24, 0, none⟩) (Y.length + 1) c24), g ∈ rowBlk (.slice pL Y.length cL) ∨ wr.heap.size ≤ g := fun g hg => by
            have : g = g24 := by simpa [rowBlk] using hg
            subst this
            exact hg24.imp id (fun h => h.1)
          clear hg24
          refine lex_quietE 1 (by kernel_rfl) (by rfl) ?_
          apply Exists.intro
          refine ⟨fun z hz1 => ?_, ?_⟩
          · skip
            clear hz1
            simp only [List.take_succ_cons, List.take_zero]
            unfold Cx
            repeat (go_big_quiet_step (fail))
            exact wpQuiet_nil rfl
          simp only [List.drop_succ_cons, List.drop_zero]
          refine lex_nil ?_
          intro x2 hx2 hH2
          have hr25 := (hr22.of_put (b := g23) (ob := .cells #[.int .i64 (1 + (r : Int))] 3 (0, 0)) (fun h => n2322 (by simpa [rowBlk] using h))).of_put (b := g24) (ob := ob24) (fun h => n2422 (by simpa [rowBlk] using h))
          have hT2 := HT.out.both (show (w.heap.size + 3) ≤ wr.heap.size by omega) (hr25.of_has hH2) hn22 (hr24.of_has hH2) hn24 (fun g hg hm => by
            have e1 : g = g22 := by simpa [rowBlk] using hg
            have e2 : g = g24 := by simpa [rowBlk] using hm
            exact n2422 (e2.symm.trans e1))
          have T2 := Lib.hid hT2
          have X2 := Lib.hid hx2
          clear hx2 hH2 hT2 hn22 hn24 hr22 hr24 hr25 HLT1 HLT2
          have hS2 := X2.out.keep HO.out HnS.out
          have e0 := blk_cell hS2 0 rfl
          have e1' := blk_cell hS2 1 rfl
          have e2' := blk_free hS2 0
          have e3' := blk_free hS2 1
          have HS8 := Lib.hid hS2
          have HB8 := Lib.hid (HB.out.trans (X2.out.below_of (b := w.heap.size + 2) (fun g hg => by have := HWG.out g hg; omega) (by omega)))
          clear hS2 X2 HWG HnS HnD HO HT HB P2 c0 c1
          go_wp2_with fail
          go_roundw
          case rel =>
            refine ⟨j + 1, X ++ [c.tmod 50], Y ++ [(1 + (r : Int))], .slice (some ⟨g22, 0, none⟩) (X.length + 1) c22, .slice (some ⟨g24, 0, none⟩) (Y.length + 1) c24, by omega, by go_num, by simp; omega, by simp; omega, HTC.out.symm, (HTL.out.trans (by rw [HV.out])).symm, ?_, T2.out.keepU ((behind_set2 (b := w.heap.size + 2) (Wr := [w.heap.size + 2])).trans (behind_set2 (b := w.heap.size + 2) (Wr := [w.heap.size + 2])) (by simp)) (fun g hg => by simp at hg; omega), (HB8.out.setCell (Nat.le_refl _) _).setCell (Nat.le_refl _) _⟩
            exact heap_setCell_same _ (w.heap.size + 2) 1 _ _ _ (heap_setCell_same _ (w.heap.size + 2) 0 _ _ _ HS8.out)
          case measure => simp [intOf]; omega

        · obtain ⟨x, rfl⟩ : ∃ x : Nat, l = (x : Int) := ⟨l.toNat, by omega⟩
          have hx : x ≤ 9223372036854775806 := by omega
          have hmx : max (x : Int) (-((x : Int) + 1)) = (x : Int) := by omega
          have hmy : max (x : Int) (-(x : Int) - 1) = (x : Int) := by omega
          have hmz : max (x : Int) (-1 - (x : Int)) = (x : Int) := by omega
          obtain ⟨r, hr, hr8⟩ : ∃ r : Nat, (x : Int) % (n : Int) = (r : Int) ∧ r < 8 := ⟨x % n, (Int.natCast_emod x n).symm, Nat.lt_of_lt_of_le (Nat.mod_lt x (show 0 < n by omega)) hn8⟩
          have HV := Lib.hid (show fewL n (x : Int) = 1 + (r : Int) by
            unfold fewL fewV
            rw [if_neg (by omega), hmx, hr])
          clear hl
          go_upto_region 9 with fail
          obtain ⟨kF1, hkF1⟩ : ∃ kF1, kF1 = kA (.slice pC X.length cC) X.length 1 := ⟨_, rfl⟩
          have hkF1' : kF1 = 2 ∨ kF1 = 5 := by rw [hkF1]; exact kA_or _ _ _
          obtain ⟨kF2, hkF2⟩ : ∃ kF2, kF2 = kA (.slice pL Y.length cL) Y.length 1 := ⟨_, rfl⟩
          have hkF2' : kF2 = 2 ∨ kF2 = 5 := by rw [hkF2]; exact kA_or _ _ _
          have HK1 := Lib.hid hkF1
          have HK2 := Lib.hid hkF2
          clear hkF1 hkF2
          have HWG := Lib.hid (show ∀ g ∈ (rowBlk (.slice pC X.length cC) ++ rowBlk (.slice pL Y.length cL)), (w.heap.size + 3) ≤ g from fun g hg => (List.mem_append.1 hg).elim (fun h => HT.out.o1.ge g h) (fun h => HT.out.o2.ge g h))
          have HLT1 := Lib.hid HT.out.o1.row.lt
          have HLT2 := Lib.hid HT.out.o2.row.lt
          refine wp_game_tail 16 [0, 0, 0, 0, 0, 0, 0, 0, 3, kF1, 0, 0, 0, 3, kF2, 0, 0, 0, 0] (rowBlk (.slice pC X.length cC) ++ rowBlk (.slice pL Y.length cL)) (rowsB wr (rowBlk (.slice pC X.length cC) ++ rowBlk (.slice pL Y.length cL))) (fin_rowsB _ _) (has_rowsB _ _) (by kernel_rfl) (by rcases hkF1' with h | h <;> rcases hkF2' with h' | h' <;> rw [h, h'] <;> kernel_rfl) ?_
          simp only [List.take_succ_cons, List.take_zero]
          refine lex_quietE 8 (by kernel_rfl) (by rfl) ?_
          apply Exists.intro
          refine ⟨fun z hz1 => ?_, ?_⟩
          · skip
            have g0 := blk_cellp (hz1.keep HO.out HnS.out) 0 rfl
            have g1 := blk_cellp (hz1.keep P2.out (HnD.out _ (by omega))) 0 rfl
            have g2 := below_cellp (hz1.below_of (b := w.heap.size + 2) (fun g hg => by have := HWG.out g hg; omega) (by omega)) d2.out (by omega)
            clear hz1
            simp only [List.take_succ_cons, List.take_zero]
            unfold Cx
            repeat (go_big_quiet_step (fail))
            exact wpQuiet_nil rfl
          simp only [List.drop_succ_cons, List.drop_zero]
          refine lex_slice 1 (.cells #[.int .i64 (c.tmod 50)] 3) (by rfl) (fun x => by go_simp) (fun g21 q21 hn21 => ?_)
          unfold setSlot
          go_big_quiet_step (fail)
          refine wpQuiet_nil ?_
          have n21v : g21 ∉ rowBlk (.slice pC X.length cC) := fun h => by have := HLT1.out g21 h; omega
          have n21w : g21 ∉ rowBlk (.slice pL Y.length cL) := fun h => by have := HLT2.out g21 h; omega
          clear hn21
          refine lex_append_v (.tmp 52) (.tmp 59) 22 3 i0 _ 1 8 Tryd.underlying22 II.out IZ0.out IZ1.out IZ2.out (by rfl) (.slice pC X.length cC) X.length (ints X) ((rowV_rowsB HT.out.o1.row (fun g hg => List.mem_append.2 (.inl hg))).of_put n21v) (by rfl) g21 1 1 [.int .i64 (c.tmod 50)] 3 (by rfl) (Blocks.put_same _ _ _) rfl (by simp [Value.oneCell']) (by omega) (by unfold maxLen; omega) (by omega) (fun g hg => .inl (List.mem_append.2 (.inl hg))) HK1.out (fun g22 c22 ob22 hr22 hg22 => ?_)
          unfold setSlot
          go_big_quiet_step (fail)
          refine wpQuiet_nil ?_
          have n22w : g22 ∉ rowBlk (.slice pL Y.length cL) := fun e => hg22.elim (fun h => HT.out.dis g22 h e) (fun h => by have := HLT2.out g22 e; omega)
          have hn22 : ∀ g ∈ rowBlk (.slice (some ⟨g22, 0, none⟩) (X.length + 1) c22), g ∈ rowBlk (.slice pC X.length cC) ∨ wr.heap.size ≤ g := fun g hg => by
            have : g = g22 := by simpa [rowBlk] using hg
            subst this
            exact hg22.imp id (fun h => h.1)
          clear hg22
          refine lex_quietE 3 (by kernel_rfl) (by rfl) ?_
          apply Exists.intro
          refine ⟨fun z hz1 => ?_, ?_⟩
          · skip
            have g0 := blk_cellp (hz1.keep HO.out HnS.out) 1 rfl
            clear hz1
            simp only [List.take_succ_cons, List.take_zero]
            unfold Cx
            repeat (go_big_quiet_step (fail))
            exact wpQuiet_nil rfl
          simp only [List.drop_succ_cons, List.drop_zero]
          refine lex_slice 1 (.cells #[.int .i64 (1 + (r : Int))] 3) (by rfl) (fun x => by go_simp) (fun g23 q23 hn23 => ?_)
          unfold setSlot
          go_big_quiet_step (fail)
          refine wpQuiet_nil ?_
          have n23w : g23 ∉ rowBlk (.slice pL Y.length cL) := fun h => by have := HLT2.out g23 h; omega
          have n2322 : g23 ≠ g22 := ne_of_put hn23
          clear hn23
          refine lex_append_v (.tmp 62) (.tmp 64) 22 3 i0 _ 1 8 Tryd.underlying22 II.out IZ0.out IZ1.out IZ2.out (by rfl) (.slice pL Y.length cL) Y.length (ints Y) ((((rowV_rowsB HT.out.o2.row (fun g hg => List.mem_append.2 (.inr hg))).of_put n21w).of_put n22w).of_put n23w) (by rfl) g23 1 1 [.int .i64 (1 + (r : Int))] 3 (by rfl) (Blocks.put_same _ _ _) rfl (by simp [Value.oneCell']) (by omega) (by unfold maxLen; omega) (by omega) (fun g hg => .inl (List.mem_append.2 (.inr hg))) HK2.out (fun g24 c24 ob24 hr24 hg24 => ?_)
          unfold setSlot
          go_big_quiet_step (fail)
          refine wpQuiet_nil ?_
          have n2422 : g24 ≠ g22 := hg24.elim (fun h e => n22w (e ▸ h)) (fun h => ne_of_put (none_of_put h.2))
          have hn24 : ∀ g ∈ rowBlk (.slice (some ⟨g24, 0, none⟩) (Y.length + 1) c24), g ∈ rowBlk (.slice pL Y.length cL) ∨ wr.heap.size ≤ g := fun g hg => by
            have : g = g24 := by simpa [rowBlk] using hg
            subst this
            exact hg24.imp id (fun h => h.1)
          clear hg24
          refine lex_quietE 1 (by kernel_rfl) (by rfl) ?_
          apply Exists.intro
          refine ⟨fun z hz1 => ?_, ?_⟩
          · skip
            clear hz1
            simp only [List.take_succ_cons, List.take_zero]
            unfold Cx
            repeat (go_big_quiet_step (fail))
            exact wpQuiet_nil rfl
          simp only [List.drop_succ_cons, List.drop_zero]
          refine lex_nil ?_
          intro x2 hx2 hH2
          have hr25 := (hr22.of_put (b := g23) (ob := .cells #[.int .i64 (1 + (r : Int))] 3 (0, 0)) (fun h => n2322 (by simpa [rowBlk] using h))).of_put (b := g24) (ob := ob24) (fun h => n2422 (by simpa [rowBlk] using h))
          have hT2 := HT.out.both (show (w.heap.size + 3) ≤ wr.heap.size by omega) (hr25.of_has hH2) hn22 (hr24.of_has hH2) hn24 (fun g hg hm => by
            have e1 : g = g22 := by simpa [rowBlk] using hg
            have e2 : g = g24 := by simpa [rowBlk] using hm
            exact n2422 (e2.symm.trans e1))
          have T2 := Lib.hid hT2
          have X2 := Lib.hid hx2
          clear hx2 hH2 hT2 hn22 hn24 hr22 hr24 hr25 HLT1 HLT2
          have hS2 := X2.out.keep HO.out HnS.out
          have e0 := blk_cell hS2 0 rfl
          have e1' := blk_cell hS2 1 rfl
          have e2' := blk_free hS2 0
          have e3' := blk_free hS2 1
          have HS8 := Lib.hid hS2
          have HB8 := Lib.hid (HB.out.trans (X2.out.below_of (b := w.heap.size + 2) (fun g hg => by have := HWG.out g hg; omega) (by omega)))
          clear hS2 X2 HWG HnS HnD HO HT HB P2 c0 c1
          go_wp2_with fail
          go_roundw
          case rel =>
            refine ⟨j + 1, X ++ [c.tmod 50], Y ++ [(1 + (r : Int))], .slice (some ⟨g22, 0, none⟩) (X.length + 1) c22, .slice (some ⟨g24, 0, none⟩) (Y.length + 1) c24, by omega, by go_num, by simp; omega, by simp; omega, HTC.out.symm, (HTL.out.trans (by rw [HV.out])).symm, ?_, T2.out.keepU ((behind_set2 (b := w.heap.size + 2) (Wr := [w.heap.size + 2])).trans (behind_set2 (b := w.heap.size + 2) (Wr := [w.heap.size + 2])) (by simp)) (fun g hg => by simp at hg; omega), (HB8.out.setCell (Nat.le_refl _) _).setCell (Nat.le_refl _) _⟩
            exact heap_setCell_same _ (w.heap.size + 2) 1 _ _ _ (heap_setCell_same _ (w.heap.size + 2) 0 _ _ _ HS8.out)
          case measure => simp [intOf]; omega
    · obtain rfl : j = fewN s := by omega
      have HFE := Lib.hid (show fewS s n = ⟨X, Y, s.m.tmod 200⟩ by unfold fewS; rw [← HX.out, ← HY.out])
      have hRb := (HB.out.block (w.heap.size + 1) (by omega)).trans R1.out
      have r0 := blk_cell hRb 0 rfl
      have r1 := blk_cell hRb 1 rfl
      have r2 := blk_cell hRb 2 rfl
      have f0 := blk_free hRb 0
      have f1 := blk_free hRb 1
      have f2 := blk_free hRb 2
      have a0 := blk_cell HO.out 0 rfl
      have a1 := blk_cell HO.out 1 rfl
      have a2 := blk_cell HO.out 2 rfl
      have HRb := Lib.hid hRb
      clear hRb
      by_cases hc1 : fewN s < s.C.length
      · have e1 : decide ((fewN s : Int) < (s.C.length : Int)) = true := decide_eq_true (by omega)
        by_cases hc2 : fewN s < s.L.length
        · have e2 : decide ((fewN s : Int) < (s.L.length : Int)) = true := decide_eq_true (by omega)
          have e3 : decide ((fewN s : Int) < 30) = false := decide_eq_false (by have := HFN.out; omega)
          clear hX hY HX HY hlt HI HC HL
          go_wp2_with fail
          refine bodyPost_ret (results_cell_row (p := 4) rfl _ _ (w.heap.size + 1) _ _ (0, 0) _ rfl (three_set HRb.out) Tryd.underlying24 rfl Tryd.sizeSum) rfl ?_
          rw [HP.out, HFE.out]
          exact ⟨_, _, rfl, (HT.out.keepU three_behind (fun g hg => by simp at hg; omega)).mono (by omega), (HB1.out.trans (HB.out.mono (by omega))).trans (three_below (by omega))⟩
        · have e2 : decide ((fewN s : Int) < (s.L.length : Int)) = false := decide_eq_false (by omega)
          clear hX hY HX HY hlt HI HC HL
          go_wp2_with fail
          refine bodyPost_ret (results_cell_row (p := 4) rfl _ _ (w.heap.size + 1) _ _ (0, 0) _ rfl (three_set HRb.out) Tryd.underlying24 rfl Tryd.sizeSum) rfl ?_
          rw [HP.out, HFE.out]
          exact ⟨_, _, rfl, (HT.out.keepU three_behind (fun g hg => by simp at hg; omega)).mono (by omega), (HB1.out.trans (HB.out.mono (by omega))).trans (three_below (by omega))⟩
      · have e1 : decide ((fewN s : Int) < (s.C.length : Int)) = false := decide_eq_false (by omega)
        clear hX hY HX HY hlt HI HC HL
        go_wp2_with fail
        refine bodyPost_ret (results_cell_row (p := 4) rfl _ _ (w.heap.size + 1) _ _ (0, 0) _ rfl (three_set HRb.out) Tryd.underlying24 rfl Tryd.sizeSum) rfl ?_
        rw [HP.out, HFE.out]
        exact ⟨_, _, rfl, (HT.out.keepU three_behind (fun g hg => by simp at hg; omega)).mono (by omega), (HB1.out.trans (HB.out.mono (by omega))).trans (three_below (by omega))⟩
end Go.Proofs.YtflfpkjnkeflcaaDoor
