/- The reference's Normal: the same normal form. -/
import Derived.Test.YtchamkbnapjidaaDoorKZc
import Derived.Test.YtchamkbnapjidaaDoorSM
import Derived.Deep.DeepCutAuto
namespace Go.Proofs.YtchamkbnapjidaaDoor
open Go.RowKit

def nLR (s : PS) (j : Nat) : NSt := nLoop s ((List.range j).map (· + 1))
theorem nLR_succ (s : PS) (j : Nat) : nLR s (j + 1) = nStep s (nLR s j) (j + 1) := by
  unfold nLR nLoop
  rw [List.range_succ, List.map_append, List.foldl_append]; rfl

set_option maxHeartbeats 4000000 in
set_option maxRecDepth 100000 in
theorem xNormal (N : Nat) (s : PS) (n : Int) (ca la : Option Addr) (cc lc : Nat) (hcl : s.C.length ≤ 100000000000000) (hll : s.L.length ≤ 100000000000000) (w : World) (hC : AtN N w ca (ints s.C)) (hL : AtN N w la (ints s.L)) (hw : N ≤ w.heap.size) :
    Calls Tryd.prog 11 #[sumV ca cc la lc s, .int .i64 n] w (SumPost w (normS s n).1 (normS s n).2) := by
  have KC := Lib.hid (fun (w1 : World) (hb : Below w.heap.size w w1) => xCheck N s n ca la cc lc hcl hll w1 (hC.below hb hw) (hL.below hb hw) (Nat.le_trans hw hb.size))
  have KOF := Lib.hid (fun (hk : s.Ok n) (z : Int) (w1 : World) (hb : Below w.heap.size w w1) => xOf s n z hk N ca la cc lc w1 (hC.below hb hw) (hL.below hb hw) (Nat.le_trans hw hb.size))
  unfold sumV at *
  obtain ⟨Post, hPost⟩ : ∃ P : Ending → World → Prop, P = SumPost w (normS s n).1 (normS s n).2 := ⟨_, rfl⟩
  rw [← hPost]
  by_cases hc : checkS s n = 0
  case neg =>
    have HQ := Lib.hid (fun (w' : World) (hb : Below w.heap.size w w') => show Post (.returned (.tuple #[.agg #[.slice none 0 0, .slice none 0 0, .int .i64 0], .int .i64 (checkS s n)])) w' by
      rw [hPost, show normS s n = (.zero, checkS s n) by unfold normS; rw [if_pos hc]]; exact ⟨_, _, rfl, two_none _ _, hb⟩)
    generalize checkS s n = r at *
    have hr : (r != 0) = true := by simp [bne, beq_no hc]
    clear hC hL hc hPost KOF
    go_enter Tryd.func11, Tryd.ntmps11
    go_wp2_with fail
    refine calls_gen fun w1 hw1 => ?_
    have HB1 := Lib.hid (show Below w.heap.size w w1 by rw [hw1]; exact below_two _ _ _)
    have M2 := (show w1.heap[w.heap.size + 1]? = some (.cells #[.slice none 0 0, .slice none 0 0, .int .i64 0] 24 (0, 0)) by rw [hw1]; exact new_two2 _ _ _)
    clear hw1
    refine (KC.out w1 HB1.out).mono ?_
    rintro e w2 ⟨rfl, hB2⟩
    have HB2 := Lib.hid (HB1.out.trans (hB2.mono HB1.out.size))
    have P2 := Lib.hid ((behind_of_below hB2).keep M2 (by simp))
    clear hB2 HB1 M2
    have c0 := blk_cell P2.out 0 rfl
    have c1 := blk_cell P2.out 1 rfl
    have c2 := blk_cell P2.out 2 rfl
    have f0 := blk_free P2.out 0
    have f1 := blk_free P2.out 1
    have f2 := blk_free P2.out 2
    go_wp2_with fail
    refine bodyPost_ret (results_cell_tmp (p := 4) (q := 5) rfl _ _ (w.heap.size + 1) _ _ (0, 0) _ rfl (three_set P2.out) Tryd.underlying24 rfl Tryd.sizeSum _ rfl) rfl ?_
    exact HQ.out _ (HB2.out.trans (three_below (by omega)))
  have hOk := check_ok.1 hc
  obtain ⟨nn, rfl⟩ : ∃ nn : Nat, n = (nn : Int) := ⟨n.toNat, by have := hOk.n0; omega⟩
  have hn128 : nn ≤ 128 := by have := hOk.n1; omega
  have HQ := Lib.hid (show normS s nn = (nEnd (nLR s nn), 0) by unfold normS; rw [if_neg (by simpa using hc), nLoop_ref hOk]; rfl)
  rw [hc] at KC
  have KOF := Lib.hid (KOF.out hOk)
  have HOK := Lib.hid hOk
  have hm0 := hOk.m0
  have hm1 := hOk.m1
  have HP := Lib.hid hPost
  clear hC hL hc hOk hcl hll hPost
  obtain ⟨i0, ii, iz0, iz1, iz2⟩ := info_parts Tryd.infoInt
  have II := Lib.hid ii
  have IZ0 := Lib.hid iz0
  have IZ1 := Lib.hid iz1
  have IZ2 := Lib.hid iz2
  clear ii iz0 iz1 iz2
  go_enter Tryd.func11, Tryd.ntmps11
  go_wp2_with fail
  refine calls_gen fun w1 hw1 => ?_
  have HB1 := Lib.hid (show Below w.heap.size w w1 by rw [hw1]; exact below_two _ _ _)
  have M1 := (show w1.heap[w.heap.size]? = some (.cells #[.slice ca s.C.length cc, .slice la s.L.length lc, .int .i64 s.m] 24 (0, 0)) by rw [hw1]; exact new_two1 _ _ _)
  have M2 := (show w1.heap[w.heap.size + 1]? = some (.cells #[.slice none 0 0, .slice none 0 0, .int .i64 0] 24 (0, 0)) by rw [hw1]; exact new_two2 _ _ _)
  clear hw1
  refine (KC.out w1 HB1.out).mono ?_
  rintro e w2 ⟨rfl, hB2⟩
  have HB2 := Lib.hid (HB1.out.trans (hB2.mono HB1.out.size))
  have P1 := Lib.hid ((behind_of_below hB2).keep M1 (by simp))
  have P2 := Lib.hid ((behind_of_below hB2).keep M2 (by simp))
  clear hB2 HB1 M1 M2 KC
  have c2 := blk_cell P1.out 2 rfl
  have hs2 : w.heap.size + 1 < w2.heap.size := lt_of_heap P2.out
  go_wp2_with fail
  refine wp_gen ?_
  intro w5 hw5
  have HS6 := Lib.hid (show w5.heap[w2.heap.size]? = some (.cells #[.slice none 0 0, .slice none 0 0, .int .i64 s.m] 24 (0, 0)) by rw [hw5]; exact new_one w2 _)
  have HB6 := Lib.hid (show Below w2.heap.size w2 w5 by rw [hw5]; exact below_one w2 _)
  obtain ⟨bo, hbo⟩ : ∃ bo, bo = w2.heap.size := ⟨_, rfl⟩
  rw [← hbo] at HS6
  rw [← hbo]
  have hbo1 : w2.heap.size ≤ bo := by omega
  have hbo2 : w.heap.size + 1 < bo := by omega
  clear hw5 hbo c2
  have HL0 := Lib.hid (show nLR s 0 = ⟨s.m, 0, [], []⟩ from rfl)
  generalize hsm : s.m = m at *
  go_loopw [9, 8] (fun t9 t8 wr => ∃ (v : Nat) (m1 t1 : Int) (C1 L1 : List Int) (vC vL : Value), v ≤ nn ∧ t9 = .int .i64 ((v : Int) + 1) ∧ t8 = .int .i64 t1 ∧ -1000000000 * ((v : Int) + 1) ≤ m1 ∧ m1 ≤ 1000000000 * ((v : Int) + 1) ∧ -4000000000 * (v : Int) ≤ t1 ∧ t1 ≤ 4000000000 * (v : Int) ∧ C1.length ≤ v ∧ L1.length = C1.length ∧
    Hid (nLR s v = ⟨m1, t1, C1, L1⟩) ∧ Hid (wr.heap[bo]? = some (.cells #[vC, vL, .int .i64 m1] 24 (0, 0))) ∧ Hid (Two wr (bo + 1) vC C1 vL L1) ∧ Hid (Below w2.heap.size w2 wr)) (fun t9 _ _ => nn + 1 - (intOf t9).toNat)
  case atStart => exact ⟨0, m, 0, [], [], _, _, Nat.zero_le _, rfl, rfl, by omega, by omega, by omega, by omega, Nat.le_refl _, rfl, HL0, HS6, two_none _ _, HB6⟩
  case round =>
    obtain ⟨v, m1, t1, C1, L1, vC, vL, hv, rfl, rfl, hm1', hm2', ht1, ht2, hC1, hL1, HN, HS, HT, HB⟩ := hrel
    have HL1 := Lib.hid hL1
    have hL1le : L1.length ≤ v := by omega
    clear hL1
    have hswr := HB.out.size
    by_cases hlt : v < nn
    · have hvd : decide ((v : Int) + 1 ≤ (nn : Int)) = true := by simp; omega
      have hpb := ofS_in HOK.out ((v : Int) + 1) (Nat.le_refl s.L.length)
      have hqb := ofS_in HOK.out (-((v : Int) + 1)) (Nat.le_refl s.L.length)
      have hns : nLR s (v + 1) = nStep s ⟨m1, t1, C1, L1⟩ (v + 1) := by rw [nLR_succ, HN.out]
      have hns2 : nLR s (v + 1) = ⟨m1 - min (ofS s ((v : Int) + 1) s.L.length) (ofS s (-((v : Int) + 1)) s.L.length), t1 + (ofS s ((v : Int) + 1) s.L.length + ofS s (-((v : Int) + 1)) s.L.length - 2 * min (ofS s ((v : Int) + 1) s.L.length) (ofS s (-((v : Int) + 1)) s.L.length)),
          if ofS s (-((v : Int) + 1)) s.L.length < ofS s ((v : Int) + 1) s.L.length then C1 ++ [ofS s ((v : Int) + 1) s.L.length - ofS s (-((v : Int) + 1)) s.L.length] else if ofS s ((v : Int) + 1) s.L.length < ofS s (-((v : Int) + 1)) s.L.length then C1 ++ [ofS s (-((v : Int) + 1)) s.L.length - ofS s ((v : Int) + 1) s.L.length] else C1,
          if ofS s (-((v : Int) + 1)) s.L.length < ofS s ((v : Int) + 1) s.L.length then L1 ++ [(v : Int) + 1] else if ofS s ((v : Int) + 1) s.L.length < ofS s (-((v : Int) + 1)) s.L.length then L1 ++ [-((v : Int) + 1)] else L1⟩ := hns
      have HNS := Lib.hid hns2
      have K1 := Lib.hid (KOF.out ((v : Int) + 1))
      have K2 := Lib.hid (KOF.out (-((v : Int) + 1)))
      clear hns hns2
      generalize ofS s ((v : Int) + 1) s.L.length = p at *
      generalize ofS s (-((v : Int) + 1)) s.L.length = q at *
      have Q := (behind_of_below HB.out).keep P1.out (by simp)
      have c0 := blk_cell Q 0 rfl
      have c1 := blk_cell Q 1 rfl
      have c2 := blk_cell Q 2 rfl
      clear Q
      go_wp2_with fail
      refine (K1.out wr (HB2.out.trans (HB.out.mono HB2.out.size))).mono ?_
      rintro e w3 ⟨rfl, hb⟩
      have HB3 := Lib.hid (HB.out.trans (hb.mono HB.out.size))
      have HT3 := Lib.hid (HT.out.keepB hb)
      have HS3 := Lib.hid ((behind_of_below hb).keep HS.out (by simp))
      clear hb c0 c1 c2 HB HT HS
      have Q := (behind_of_below HB3.out).keep P1.out (by simp)
      have c0 := blk_cell Q 0 rfl
      have c1 := blk_cell Q 1 rfl
      have c2 := blk_cell Q 2 rfl
      clear Q
      go_wp2_with fail
      refine (K2.out w3 (HB2.out.trans (HB3.out.mono HB2.out.size))).mono ?_
      rintro e w4 ⟨rfl, hb⟩
      have HB4 := Lib.hid (HB3.out.trans (hb.mono HB3.out.size))
      have HT4 := Lib.hid (HT3.out.keepB hb)
      have HS4 := Lib.hid ((behind_of_below hb).keep HS3.out (by simp))
      clear hb c0 c1 c2 HB3 HT3 HS3 K1 K2
      obtain ⟨pC, cC, hvC⟩ := HT4.out.o1.row.slice
      obtain ⟨pL, cL, hvL⟩ := HT4.out.o2.row.slice
      subst hvC
      subst hvL
      have b2 := blk_cell HS4.out 2 rfl
      have b2f := blk_free HS4.out 2
      have hb4 : bo < w4.heap.size := lt_of_heap HS4.out
      rcases Int.lt_trichotomy q p with hqp | hqp | hqp
      · have hmin : min p q = q := by omega
        have hmax : max p q = p := by omega
        obtain ⟨m2, hm2⟩ : ∃ m2, m2 = m1 - q := ⟨_, rfl⟩
        obtain ⟨t2, ht2'⟩ : ∃ t2, t2 = t1 + p - q := ⟨_, rfl⟩
        have HF := Lib.hid (HNS.out.trans (show _ = NSt.mk m2 t2 (C1 ++ [p - q]) (L1 ++ [(v : Int) + 1]) by
          rw [hmin]; rw [if_pos hqp, if_pos hqp, hm2, ht2']; congr 1; omega))
        have hlt1 : decide (q < p) = true := by simp; omega
        have hlt2 : decide (p < q) = false := by simp; omega
        clear HNS
        go_upto_region 13 with fail
        refine wp_gen ?_
        intro w7 hw7
        have HB7 := Lib.hid (show Below w2.heap.size w2 w7 by rw [hw7]; exact HB4.out.setCell (by show w2.heap.size ≤ bo; omega) _)
        have HS7 := Lib.hid (show w7.heap[bo]? = some (.cells #[.slice pC C1.length cC, .slice pL L1.length cL, .int .i64 m2] 24 (0, 0)) by rw [hw7, hm2]; exact heap_setCell_same _ bo 2 _ _ _ HS4.out)
        have HT7 := Lib.hid (show Two w7 (bo + 1) (.slice pC C1.length cC) C1 (.slice pL L1.length cL) L1 by rw [hw7]; exact HT4.out.keepU (behind_set2 (Wr := [bo])) (fun g hg => by simp at hg; omega))
        have hb7 : bo < w7.heap.size := lt_of_heap HS7.out
        have hb7w : w2.heap.size ≤ w7.heap.size := HB7.out.size
        rw [show t1 + p - q = t2 from ht2'.symm]
        have hm2b : -1000000000 * ((v : Int) + 1 + 1) ≤ m2 ∧ m2 ≤ 1000000000 * ((v : Int) + 1 + 1) := by omega
        have ht2b : -4000000000 * ((v : Int) + 1) ≤ t2 ∧ t2 ≤ 4000000000 * ((v : Int) + 1) := by omega
        clear hw7 HB4 HS4 HT4 b2 b2f hm2 ht2' hmin hmax
        have a0 := blk_cell HS7.out 0 rfl
        go_wp2_with (at_builtin; refine wpList_append_row _ rfl _ _ 22 rfl 3 i0 (.int .i64 0) 1 8 Tryd.underlying22 II.out IZ0.out IZ1.out IZ2.out rfl _ _ _ rfl (HT7.out.o1.row.keep (behind_of_below ((Below.refl _ _).alloc (Nat.le_refl _) _)) (by simp)) w7.heap.size 1 1 [.int .i64 (p - q)] 3 rfl (heap_alloc_new w7 _) rfl (by intro u hu; simp at hu; subst hu; rfl) (by omega) (by unfold maxLen; omega) (by omega) ?_)
        intro v9 w9 hr9 hB9 hn9
        have h09 : Behind w7 (rowBlk (.slice pC C1.length cC)) w9 := ((behind_of_below ((Below.refl _ _).alloc (Nat.le_refl _) _)).mono (by simp)).trans hB9 (fun k hk => .inl hk)
        obtain ⟨pv9, cv9, hv9⟩ := hr9.slice
        subst hv9
        have hT9 := HT7.out.app (by omega) h09 hr9 (fun g hg => (hn9 g hg).imp id (fun h => by first | omega | (simp at h; omega)))
        have hS9 := h09.keep HS7.out (fun h => by have := HT7.out.o1.ge _ h; omega)
        have a9 := blk_cell hS9 0 rfl
        have b9 := blk_cell hS9 1 rfl
        have f9 := blk_free hS9 0
        have HS_a := Lib.hid hS9
        have HT_a := Lib.hid hT9
        have HB_a := Lib.hid (HB7.out.trans (h09.below_of (b := w2.heap.size) (fun g hg => by have := HT7.out.o1.ge g hg; omega) HB7.out.size))
        clear hr9 hB9 hn9 h09 hT9 hS9
        go_upto_region 15 with fail
        refine wp_gen ?_
        intro w10 hw10
        have HS10 := Lib.hid (show w10.heap[bo]? = some (.cells #[.slice pv9 (C1.length + 1) cv9, .slice pL L1.length cL, .int .i64 m2] 24 (0, 0)) by rw [hw10]; exact heap_setCell_same _ bo 0 _ _ _ HS_a.out)
        have HT10 := Lib.hid (show Two w10 (bo + 1) (.slice pv9 (C1.length + 1) cv9) (C1 ++ [p - q]) (.slice pL L1.length cL) L1 by rw [hw10]; exact HT_a.out.keepU (behind_set2 (Wr := [bo])) (fun g hg => by simp at hg; omega))
        have HB10 := Lib.hid (show Below w2.heap.size w2 w10 by rw [hw10]; exact HB_a.out.setCell (by show w2.heap.size ≤ bo; omega) _)
        have hb10 : bo < w10.heap.size := lt_of_heap HS10.out
        have hs10 := HB10.out.size
        clear hw10 HS_a HT_a HB_a a9 b9 f9 HS7 HT7 HB7
        have a9 := blk_cell HS10.out 1 rfl
        go_wp2_with (at_builtin; refine wpList_append_row _ rfl _ _ 22 rfl 3 i0 (.int .i64 0) 1 8 Tryd.underlying22 II.out IZ0.out IZ1.out IZ2.out rfl _ _ _ rfl (HT10.out.sym.o1.row.keep (behind_of_below ((Below.refl _ _).alloc (Nat.le_refl _) _)) (by simp)) w10.heap.size 1 1 [.int .i64 ((v : Int) + 1)] 3 rfl (heap_alloc_new w10 _) rfl (by intro u hu; simp at hu; subst hu; rfl) (by omega) (by unfold maxLen; omega) (by omega) ?_)
        intro v11 w11 hr9 hB9 hn9
        have h09 : Behind w10 (rowBlk (.slice pL L1.length cL)) w11 := ((behind_of_below ((Below.refl _ _).alloc (Nat.le_refl _) _)).mono (by simp)).trans hB9 (fun k hk => .inl hk)
        obtain ⟨pv11, cv11, hv9⟩ := hr9.slice
        subst hv9
        have hT9 := HT10.out.sym.app (by omega) h09 hr9 (fun g hg => (hn9 g hg).imp id (fun h => by first | omega | (simp at h; omega)))
        have hS9 := h09.keep HS10.out (fun h => by have := HT10.out.sym.o1.ge _ h; omega)
        have a9 := blk_cell hS9 0 rfl
        have b9 := blk_cell hS9 1 rfl
        have f9 := blk_free hS9 1
        have HS_b := Lib.hid hS9
        have HT_b := Lib.hid hT9.sym
        have HB_b := Lib.hid (HB10.out.trans (h09.below_of (b := w2.heap.size) (fun g hg => by have := HT10.out.sym.o1.ge g hg; omega) HB10.out.size))
        clear hr9 hB9 hn9 h09 hT9 hS9
        go_wp2_with fail
        go_roundw
        case rel =>
          refine ⟨v + 1, m2, t2, C1 ++ [p - q], L1 ++ [(v : Int) + 1], .slice pv9 (C1.length + 1) cv9, .slice pv11 (L1.length + 1) cv11, by omega, by go_num, by go_num, by omega, by omega, by omega, by omega, by simp; omega, by simp [HL1.out], HF.out, heap_setCell_same _ bo 1 _ _ _ HS_b.out, HT_b.out.keepU (behind_set2 (Wr := [bo])) (fun g hg => by simp at hg; omega), HB_b.out.setCell (by show w2.heap.size ≤ bo; omega) _⟩
        case measure => simp [intOf]; omega
      · subst hqp
        have hmin : min q q = q := by omega
        have hmax : max q q = q := by omega
        have HF := Lib.hid (HNS.out.trans (show _ = NSt.mk (m1 - q) (t1 + q - q) C1 L1 by
          rw [hmin, if_neg (by omega), if_neg (by omega), if_neg (by omega), if_neg (by omega)]; congr 1; omega))
        have hlt1 : decide (q < q) = false := by simp
        clear HNS
        go_wp2_with fail
        go_roundw
        case rel =>
          exact ⟨v + 1, m1 - q, t1 + q - q, C1, L1, _, _, by omega, by go_num, by go_num, by omega, by omega, by omega, by omega, by omega, HL1.out, HF.out, heap_setCell_same _ bo 2 _ _ _ HS4.out, HT4.out.keepU (behind_set2 (Wr := [bo])) (fun g hg => by simp at hg; omega), HB4.out.setCell (by show w2.heap.size ≤ bo; omega) _⟩
        case measure => simp [intOf]; omega
      · have hmin : min p q = p := by omega
        have hmax : max p q = q := by omega
        obtain ⟨m2, hm2⟩ : ∃ m2, m2 = m1 - p := ⟨_, rfl⟩
        obtain ⟨t2, ht2'⟩ : ∃ t2, t2 = t1 + q - p := ⟨_, rfl⟩
        have HF := Lib.hid (HNS.out.trans (show _ = NSt.mk m2 t2 (C1 ++ [q - p]) (L1 ++ [-((v : Int) + 1)]) by
          rw [hmin]; rw [if_neg (show ¬ q < p by omega), if_pos hqp, if_neg (show ¬ q < p by omega), if_pos hqp, hm2, ht2']; congr 1; omega))
        have hlt1 : decide (q < p) = false := by simp; omega
        have hlt2 : decide (p < q) = true := by simp; omega
        clear HNS
        go_upto_region 13 with fail
        refine wp_gen ?_
        intro w7 hw7
        have HB7 := Lib.hid (show Below w2.heap.size w2 w7 by rw [hw7]; exact HB4.out.setCell (by show w2.heap.size ≤ bo; omega) _)
        have HS7 := Lib.hid (show w7.heap[bo]? = some (.cells #[.slice pC C1.length cC, .slice pL L1.length cL, .int .i64 m2] 24 (0, 0)) by rw [hw7, hm2]; exact heap_setCell_same _ bo 2 _ _ _ HS4.out)
        have HT7 := Lib.hid (show Two w7 (bo + 1) (.slice pC C1.length cC) C1 (.slice pL L1.length cL) L1 by rw [hw7]; exact HT4.out.keepU (behind_set2 (Wr := [bo])) (fun g hg => by simp at hg; omega))
        have hb7 : bo < w7.heap.size := lt_of_heap HS7.out
        have hb7w : w2.heap.size ≤ w7.heap.size := HB7.out.size
        rw [show t1 + q - p = t2 from ht2'.symm]
        have hm2b : -1000000000 * ((v : Int) + 1 + 1) ≤ m2 ∧ m2 ≤ 1000000000 * ((v : Int) + 1 + 1) := by omega
        have ht2b : -4000000000 * ((v : Int) + 1) ≤ t2 ∧ t2 ≤ 4000000000 * ((v : Int) + 1) := by omega
        clear hw7 HB4 HS4 HT4 b2 b2f hm2 ht2' hmin hmax
        have a0 := blk_cell HS7.out 0 rfl
        go_wp2_with (at_builtin; refine wpList_append_row _ rfl _ _ 22 rfl 3 i0 (.int .i64 0) 1 8 Tryd.underlying22 II.out IZ0.out IZ1.out IZ2.out rfl _ _ _ rfl (HT7.out.o1.row.keep (behind_of_below ((Below.refl _ _).alloc (Nat.le_refl _) _)) (by simp)) w7.heap.size 1 1 [.int .i64 (q - p)] 3 rfl (heap_alloc_new w7 _) rfl (by intro u hu; simp at hu; subst hu; rfl) (by omega) (by unfold maxLen; omega) (by omega) ?_)
        intro v9 w9 hr9 hB9 hn9
        have h09 : Behind w7 (rowBlk (.slice pC C1.length cC)) w9 := ((behind_of_below ((Below.refl _ _).alloc (Nat.le_refl _) _)).mono (by simp)).trans hB9 (fun k hk => .inl hk)
        obtain ⟨pv9, cv9, hv9⟩ := hr9.slice
        subst hv9
        have hT9 := HT7.out.app (by omega) h09 hr9 (fun g hg => (hn9 g hg).imp id (fun h => by first | omega | (simp at h; omega)))
        have hS9 := h09.keep HS7.out (fun h => by have := HT7.out.o1.ge _ h; omega)
        have a9 := blk_cell hS9 0 rfl
        have b9 := blk_cell hS9 1 rfl
        have f9 := blk_free hS9 0
        have HS_a := Lib.hid hS9
        have HT_a := Lib.hid hT9
        have HB_a := Lib.hid (HB7.out.trans (h09.below_of (b := w2.heap.size) (fun g hg => by have := HT7.out.o1.ge g hg; omega) HB7.out.size))
        clear hr9 hB9 hn9 h09 hT9 hS9
        go_upto_region 18 with fail
        refine wp_gen ?_
        intro w10 hw10
        have HS10 := Lib.hid (show w10.heap[bo]? = some (.cells #[.slice pv9 (C1.length + 1) cv9, .slice pL L1.length cL, .int .i64 m2] 24 (0, 0)) by rw [hw10]; exact heap_setCell_same _ bo 0 _ _ _ HS_a.out)
        have HT10 := Lib.hid (show Two w10 (bo + 1) (.slice pv9 (C1.length + 1) cv9) (C1 ++ [q - p]) (.slice pL L1.length cL) L1 by rw [hw10]; exact HT_a.out.keepU (behind_set2 (Wr := [bo])) (fun g hg => by simp at hg; omega))
        have HB10 := Lib.hid (show Below w2.heap.size w2 w10 by rw [hw10]; exact HB_a.out.setCell (by show w2.heap.size ≤ bo; omega) _)
        have hb10 : bo < w10.heap.size := lt_of_heap HS10.out
        have hs10 := HB10.out.size
        clear hw10 HS_a HT_a HB_a a9 b9 f9 HS7 HT7 HB7
        have a9 := blk_cell HS10.out 1 rfl
        go_wp2_with (at_builtin; refine wpList_append_row _ rfl _ _ 22 rfl 3 i0 (.int .i64 0) 1 8 Tryd.underlying22 II.out IZ0.out IZ1.out IZ2.out rfl _ _ _ rfl (HT10.out.sym.o1.row.keep (behind_of_below ((Below.refl _ _).alloc (Nat.le_refl _) _)) (by simp)) w10.heap.size 1 1 [.int .i64 (-((v : Int) + 1))] 3 rfl (heap_alloc_new w10 _) rfl (by intro u hu; simp at hu; subst hu; rfl) (by omega) (by unfold maxLen; omega) (by omega) ?_)
        intro v11 w11 hr9 hB9 hn9
        have h09 : Behind w10 (rowBlk (.slice pL L1.length cL)) w11 := ((behind_of_below ((Below.refl _ _).alloc (Nat.le_refl _) _)).mono (by simp)).trans hB9 (fun k hk => .inl hk)
        obtain ⟨pv11, cv11, hv9⟩ := hr9.slice
        subst hv9
        have hT9 := HT10.out.sym.app (by omega) h09 hr9 (fun g hg => (hn9 g hg).imp id (fun h => by first | omega | (simp at h; omega)))
        have hS9 := h09.keep HS10.out (fun h => by have := HT10.out.sym.o1.ge _ h; omega)
        have a9 := blk_cell hS9 0 rfl
        have b9 := blk_cell hS9 1 rfl
        have f9 := blk_free hS9 1
        have HS_b := Lib.hid hS9
        have HT_b := Lib.hid hT9.sym
        have HB_b := Lib.hid (HB10.out.trans (h09.below_of (b := w2.heap.size) (fun g hg => by have := HT10.out.sym.o1.ge g hg; omega) HB10.out.size))
        clear hr9 hB9 hn9 h09 hT9 hS9
        go_wp2_with fail
        go_roundw
        case rel =>
          refine ⟨v + 1, m2, t2, C1 ++ [q - p], L1 ++ [-((v : Int) + 1)], .slice pv9 (C1.length + 1) cv9, .slice pv11 (L1.length + 1) cv11, by omega, by go_num, by go_num, by omega, by omega, by omega, by omega, by simp; omega, by simp [HL1.out], HF.out, heap_setCell_same _ bo 1 _ _ _ HS_b.out, HT_b.out.keepU (behind_set2 (Wr := [bo])) (fun g hg => by simp at hg; omega), HB_b.out.setCell (by show w2.heap.size ≤ bo; omega) _⟩
        case measure => simp [intOf]; omega
    · obtain rfl : v = nn := by omega
      have hvd : decide ((v : Int) + 1 ≤ (v : Int)) = false := by simp; omega
      have b2 := blk_cell HS.out 2 rfl
      have HE := Lib.hid (show normS s v = (nEnd ⟨m1, t1, C1, L1⟩, 0) by rw [HQ.out, HN.out])
      have P4 := HB.out.block (w.heap.size + 1) hs2
      rw [P2.out] at P4
      have HBw := Lib.hid (HB2.out.trans (HB.out.mono HB2.out.size))
      have d0 := blk_cell P4 0 rfl
      have d1 := blk_cell P4 1 rfl
      have d2 := blk_cell P4 2 rfl
      have e0 := blk_free P4 0
      have e1 := blk_free P4 1
      have e2 := blk_free P4 2
      have HP4 := Lib.hid P4
      clear P4 hlt HQ
      by_cases hz1 : m1 ≤ 0
      · have hzd : decide (m1 ≤ 0) = true := by simpa using hz1
        have HF := Lib.hid (HE.out.trans (show _ = (PS.zero, 0) by unfold nEnd; rw [if_pos hz1]))
        clear HE
        go_wp2_with fail
        refine bodyPost_ret (results_cell_tmp (p := 4) (q := 5) rfl _ _ (w.heap.size + 1) _ _ (0, 0) _ rfl (three_set HP4.out) Tryd.underlying24 rfl Tryd.sizeSum _ rfl) rfl ?_
        rw [HP.out, HF.out]
        exact ⟨_, _, rfl, two_none _ _, HBw.out.trans (three_below (by omega))⟩
      have hzd : decide (m1 ≤ 0) = false := by simpa using hz1
      by_cases hz2 : t1 < m1
      · have hzd2 : decide (t1 < m1) = true := by simpa using hz2
        have HF := Lib.hid (HE.out.trans (show _ = (PS.mk [] [] 1, 0) by unfold nEnd; rw [if_neg hz1, if_pos hz2]))
        clear HE
        go_wp2_with fail
        refine bodyPost_ret (results_cell_tmp (p := 4) (q := 5) rfl _ _ (w.heap.size + 1) _ _ (0, 0) _ rfl (three_set HP4.out) Tryd.underlying24 rfl Tryd.sizeSum _ rfl) rfl ?_
        rw [HP.out, HF.out]
        exact ⟨_, _, rfl, two_none _ _, HBw.out.trans (three_below (by omega))⟩
      have hzd2 : decide (t1 < m1) = false := by simpa using hz2
      have HF := Lib.hid (HE.out.trans (show _ = (PS.mk (C1.map fun c => min c m1) L1 m1, 0) by unfold nEnd; rw [if_neg hz1, if_neg hz2]))
      obtain ⟨pC, cC, hvC⟩ := HT.out.o1.row.slice
      obtain ⟨pL, cL, hvL⟩ := HT.out.o2.row.slice
      subst hvC
      subst hvL
      clear HE hz2 d0 d1 d2 e0 e1 e2
      go_wp2_with fail
      have HS0 := Lib.hid HS.out
      obtain ⟨w8, hw8⟩ : ∃ w8, w8 = wr := ⟨_, rfl⟩
      subst hw8
      go_loopw [12] (fun t12 wr => ∃ j : Nat, j ≤ C1.length ∧ t12 = .int .i64 j ∧ Hid (wr.heap[bo]? = some (.cells #[.slice pC C1.length cC, .slice pL L1.length cL, .int .i64 m1] 24 (0, 0))) ∧ Hid (Two wr (bo + 1) (.slice pC C1.length cC) (clipL C1 m1 j) (.slice pL L1.length cL) L1) ∧ Hid (Below (w.heap.size + 2) w8 wr)) (fun t12 _ => C1.length - (intOf t12).toNat)
      case atStart => exact ⟨0, Nat.zero_le _, rfl, HS0, by rw [clipL_zero]; exact HT, Below.refl _ _⟩
      case round =>
        obtain ⟨j, hj, rfl, HSj, HTj, HBj⟩ := hrel
        have hsj : w8.heap.size ≤ wr.heap.size := HBj.out.size
        have hbj : bo < wr.heap.size := lt_of_heap HSj.out
        have hs8 : w2.heap.size ≤ w8.heap.size := HB.out.size
        have b0 := blk_cell HSj.out 0 rfl
        by_cases hlt : j < C1.length
        · have hdd : decide (j < C1.length) = true := by simpa using hlt
          obtain ⟨g, hpg, hbg, _, hgl, hfz, hce⟩ := HTj.out.first (by rw [clipL_len]; omega)
          subst hpg
          have HCE := Lib.hid (hce j _ (clipL_get hlt))
          have HFZ := Lib.hid hfz
          have HSU := Lib.hid (clipL_succ (m := m1) hlt)
          clear hce hfz
          generalize C1.getD j 0 = c at *
          go_wp2_with fail
          refine wp_game_tail 12 (List.replicate 13 0) [] B0 fin_B0 (has_B0 _) (by kernel_rfl) (by kernel_rfl) ?_
          simp only [List.take_succ_cons, List.take_zero]
          refine lex_quietE 12 (by kernel_rfl) (by rfl) ?_
          apply Exists.intro
          refine ⟨fun z hz1 => ?_, ?_⟩
          · have g0 := blk_cellp (hz1.keep HSj.out (by simp)) 0 rfl
            have g2 := blk_cellp (hz1.keep HSj.out (by simp)) 2 rfl
            have g1 := below_cellp hz1.below HCE.out hgl
            clear hz1
            simp only [List.take_succ_cons, List.take_zero]
            unfold Cx
            repeat (go_big_quiet_step (fail))
            exact wpQuiet_nil rfl
          simp only [List.drop_succ_cons, List.drop_zero]
          refine lex_nil ?_
          intro x2 hx2 _
          have c4 := below_cell hx2.below hgl HCE.out
          have HT4 := Lib.hid (HTj.out.keepB hx2.below)
          have f4 : x2.frozen? ⟨g, j, none⟩ = false := by
            obtain ⟨g', e1, _, _, _, e5, _⟩ := HT4.out.first (by rw [clipL_len]; omega)
            cases e1
            exact e5 j
          have HS4 := Lib.hid (hx2.keep HSj.out (by simp))
          have HB4 := Lib.hid (HBj.out.trans (hx2.below.mono (by omega)))
          clear hx2 HSj HTj HBj
          go_wp2_with fail
          go_roundw
          case rel => exact ⟨j + 1, by omega, by go_num, (heap_setCell_other _ _ bo _ (by show bo ≠ g; omega)).trans HS4.out, by rw [HSU.out, show min c m1 = if m1 < c then m1 else c by split <;> omega]; exact HT4.out.set1 (clipL_len _ _ _), HB4.out.setCell (by show w.heap.size + 2 ≤ g; omega) _⟩
          case measure => simp [intOf]; omega
        · obtain rfl : j = C1.length := by omega
          have hdd : decide (C1.length < C1.length) = false := by simp
          have d0 := blk_cell HSj.out 0 rfl
          have d1 := blk_cell HSj.out 1 rfl
          have d2 := blk_cell HSj.out 2 rfl
          have P5 := HBj.out.block (w.heap.size + 1) (by omega)
          rw [HP4.out] at P5
          have e0 := blk_cell P5 0 rfl
          have e1 := blk_cell P5 1 rfl
          have e2 := blk_cell P5 2 rfl
          have k0 := blk_free P5 0
          have k1 := blk_free P5 1
          have k2 := blk_free P5 2
          have HP5 := Lib.hid P5
          have HT5 := Lib.hid HTj.out
          rw [clipL_all] at HT5
          have HB5 := Lib.hid (HBw.out.trans (HBj.out.mono (by omega)))
          clear P5 HTj HBj
          go_wp2_with fail
          refine bodyPost_ret (results_cell_tmp (p := 4) (q := 5) rfl _ _ (w.heap.size + 1) _ _ (0, 0) _ rfl (three_set HP5.out) Tryd.underlying24 rfl Tryd.sizeSum _ rfl) rfl ?_
          rw [HP.out, HF.out]
          exact ⟨_, _, rfl, (HT5.out.keepU three_behind (fun g hg => by simp at hg; omega)).mono (by omega), HB5.out.trans (three_below (by omega))⟩
end Go.Proofs.YtchamkbnapjidaaDoor
