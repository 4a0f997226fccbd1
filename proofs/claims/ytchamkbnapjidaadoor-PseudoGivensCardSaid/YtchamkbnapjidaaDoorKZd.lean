/- kept: a sum's copy. -/
import Derived.Test.YtchamkbnapjidaaDoorKX
import Derived.Test.YtchamkbnapjidaaDoorKZk
import Derived.Deep.DeepCutAuto
namespace Go.Proofs.YtchamkbnapjidaaDoor
open Go.RowKit

/-- A sum whose rows lie in what memory there is. -/
def KeptPost (w : World) (s : PS) (e : Ending) (w' : World) : Prop :=
  ∃ pC cC pL cL, e = .returned (sumV pC cC pL cL s) ∧ AtN w'.heap.size w' pC (ints s.C) ∧ AtN w'.heap.size w' pL (ints s.L) ∧ Below w.heap.size w w'
theorem kept_at {x : World} {B : Blocks} {n c h : Nat} {pp : Option Addr} {X : List Int} (hn : X.length = n) (hrow : n = 0 ∨ ∃ g' cur', pp = some ⟨g', 0, none⟩ ∧ RowB B 3 1 g' n c (ints X) cur' ∧ h ≤ g' ∧ x.heap[g']? = B g') : AtN x.heap.size x pp (ints X) := by
  rcases hrow with h0 | ⟨g', cur', rfl, hr, hge, hx⟩
  · intro i v hi
    rw [List.length_eq_zero_iff.1 (hn.trans h0)] at hi
    simp [ints] at hi
  · have hx' := hr.of (B' := inW x) (hx.trans hr.blk)
    subst hn
    obtain ⟨_, _, hv, hO⟩ := own_at (b := 0) (M := []) (⟨RowV.row hx', fun _ _ => Nat.zero_le _, by simp⟩ : OwnI x 0 [] _ X)
    simp only [Value.slice.injEq] at hv
    rw [hv.1]; exact hO

set_option maxHeartbeats 3200000 in
set_option maxRecDepth 100000 in
theorem gKept (s : PS) (N : Nat) (ca la : Option Addr) (cc lc : Nat) (hcl : s.C.length ≤ 10000000000000) (hll : s.L.length ≤ 10000000000000) (w : World) (hC : AtN N w ca (ints s.C)) (hL : AtN N w la (ints s.L)) (hw : N ≤ w.heap.size) :
    Calls Tryd.prog 9 #[sumV ca cc la lc s] w (KeptPost w s) := by
  have HC := Lib.hid hC
  have HL := Lib.hid hL
  obtain ⟨Post, hPost⟩ : ∃ P : Ending → World → Prop, P = KeptPost w s := ⟨_, rfl⟩
  rw [← hPost]
  have HP := Lib.hid hPost
  obtain ⟨i0, ii, iz0, iz1, iz2⟩ := info_parts Tryd.infoInt
  have II := Lib.hid ii
  have IZ0 := Lib.hid iz0
  have IZ1 := Lib.hid iz1
  have IZ2 := Lib.hid iz2
  unfold sumV
  clear hC hL hPost ii iz0 iz1 iz2
  go_enter Tryd.func9, Tryd.ntmps9
  go_upto_region 1 with fail
  refine wp_gen ?_
  intro w1 hw1
  have HB1 := Lib.hid (show Below w.heap.size w w1 by rw [hw1]; exact below_two w _ _)
  have M1 := Lib.hid (show w1.heap[w.heap.size]? = some (.cells #[.slice ca s.C.length cc, .slice la s.L.length lc, .int .i64 s.m] 24 (0, 0)) by rw [hw1]; exact new_two1 _ _ _)
  have R1 := Lib.hid (show w1.heap[w.heap.size + 1]? = some (.cells #[.slice none 0 0, .slice none 0 0, .int .i64 0] 24 (0, 0)) by rw [hw1]; exact new_two2 _ _ _)
  clear hw1
  have HNC := Lib.hid (show ∀ x, Behind w1 [w.heap.size + 1] x → ∀ j u, (ints s.C)[j]? = some u → ∃ b o, ca = some ⟨b, o, none⟩ ∧ x.cell? ⟨b, o + j, none⟩ = some u from fun x hx j u hj => by
    obtain ⟨b, o, h1, h2, h3⟩ := (HC.out.below HB1.out hw) j u hj
    exact ⟨b, o, h2, (World.cell?_of_block (a := ⟨b, o + j, none⟩) (hx.block b (block_lt_of_cell h3) (by simp; omega))).trans h3⟩)
  have HNL := Lib.hid (show ∀ x, Behind w1 [w.heap.size + 1] x → ∀ j u, (ints s.L)[j]? = some u → ∃ b o, la = some ⟨b, o, none⟩ ∧ x.cell? ⟨b, o + j, none⟩ = some u from fun x hx j u hj => by
    obtain ⟨b, o, h1, h2, h3⟩ := (HL.out.below HB1.out hw) j u hj
    exact ⟨b, o, h2, (World.cell?_of_block (a := ⟨b, o + j, none⟩) (hx.block b (block_lt_of_cell h3) (by simp; omega))).trans h3⟩)
  obtain ⟨k1, hk1⟩ : ∃ k1, k1 = if s.C.length = 0 then 0 else 5 := ⟨_, rfl⟩
  obtain ⟨k2, hk2⟩ : ∃ k2, k2 = if s.L.length = 0 then 0 else 5 := ⟨_, rfl⟩
  have hk1' : k1 = 0 ∨ k1 = 5 := by rw [hk1]; split <;> simp
  have hk2' : k2 = 0 ∨ k2 = 5 := by rw [hk2]; split <;> simp
  have HK1 := Lib.hid hk1
  have HK2 := Lib.hid hk2
  clear hk1 hk2
  have hm1 := lt_of_heap R1.out
  refine wp_game [3, 0, 0, k1, 3, 0, 0, k2, 0, 0, 0, 2] [w.heap.size + 1] _ (Fin.put fin_B0 _ _) (has_put (has_B0 _) R1.out) (by kernel_rfl) (by rcases hk1' with h | h <;> rcases hk2' with h' | h' <;> rw [h, h'] <;> kernel_rfl) ?_
  refine lex_slice 0 (.cells #[] 3) (by rfl) (fun x => by go_simp) (fun g3 q3 hn3 => ?_)
  unfold setSlot
  go_big_quiet_step (fail)
  refine wpQuiet_nil ?_
  refine lex_quietE 2 (by kernel_rfl) (by rfl) ?_
  apply Exists.intro
  refine ⟨fun z hz => ?_, ?_⟩
  · have g0 := blk_cellp (hz.keep M1.out (by simp)) 0 rfl
    clear hz
    simp only [List.take_succ_cons, List.take_zero]
    unfold Cx
    repeat (go_big_quiet_step (fail))
    exact wpQuiet_nil rfl
  simp only [List.drop_succ_cons, List.drop_zero]
  refine lex_append_copy (.tmp 3) (.tmp 5) 22 3 i0 _ 1 8 Tryd.underlying22 II.out IZ0.out IZ1.out IZ2.out (by rfl) g3 (by rfl) ca s.C.length cc (ints s.C) (by rfl) HNC.out (by simp [ints]) (by omega) (by unfold maxLen; omega) (by omega) HK1.out (fun p1 d1 B1 hext1 hrow1 => ?_)
  unfold setSlot
  go_big_quiet_step (fail)
  refine wpQuiet_nil ?_
  refine lex_slice 0 (.cells #[] 3) (by rfl) (fun x => by go_simp) (fun g7 q7 hn7 => ?_)
  unfold setSlot
  go_big_quiet_step (fail)
  refine wpQuiet_nil ?_
  refine lex_quietE 2 (by kernel_rfl) (by rfl) ?_
  apply Exists.intro
  refine ⟨fun z hz => ?_, ?_⟩
  · have g0 := blk_cellp (hz.keep M1.out (by simp)) 1 rfl
    clear hz
    simp only [List.take_succ_cons, List.take_zero]
    unfold Cx
    repeat (go_big_quiet_step (fail))
    exact wpQuiet_nil rfl
  simp only [List.drop_succ_cons, List.drop_zero]
  refine lex_append_copy (.tmp 7) (.tmp 9) 22 3 i0 _ 1 8 Tryd.underlying22 II.out IZ0.out IZ1.out IZ2.out (by rfl) g7 (by rfl) la s.L.length lc (ints s.L) (by rfl) HNL.out (by simp [ints]) (by omega) (by unfold maxLen; omega) (by omega) HK2.out (fun p2 d2 B2 hext2 hrow2 => ?_)
  unfold setSlot
  go_big_quiet_step (fail)
  refine wpQuiet_nil ?_
  refine lex_quietE 3 (by kernel_rfl) (by rfl) ?_
  apply Exists.intro
  refine ⟨fun z hz => ?_, ?_⟩
  · have g0 := blk_cellp (hz.keep M1.out (by simp)) 2 rfl
    clear hz
    simp only [List.take_succ_cons, List.take_zero]
    unfold Cx
    repeat (go_big_quiet_step (fail))
    exact wpQuiet_nil rfl
  simp only [List.drop_succ_cons, List.drop_zero]
  have hR2 : B2 (w.heap.size + 1) = some (.cells #[.slice none 0 0, .slice none 0 0, .int .i64 0] 24 (0, 0)) := hext2 _ _ ((Blocks.put_other _ _ (by omega)).trans (hext1 _ _ ((Blocks.put_other _ _ (by omega)).trans (Blocks.put_same _ _ _))))
  refine lex_store_all (w.heap.size + 1) #[.slice p1 s.C.length d1, .slice p2 s.L.length d2, .int .i64 s.m] _ _ (by rfl) (by rfl) (by rfl) hR2 (by rfl) (Or.inl (by simp)) (by kernel_rfl) (by simp [Value.oneCell']) ?_
  refine lex_nil ?_
  intro x1 hx1 hH1
  have m1 := hH1 (w.heap.size + 1) _ (Blocks.put_same _ _ _)
  have hA1 : AtN x1.heap.size x1 p1 (ints s.C) := kept_at (h := w1.heap.size) rfl (hrow1.imp id fun ⟨g', cur', e1, hr, hge, hnone⟩ => ⟨g', cur', e1, hr, hge, (hH1 g' _ ((Blocks.put_other _ _ (by omega)).trans (hext2 _ _ ((Blocks.put_other _ _ (fun e => by have := hr.blk; rw [e, hn7] at this; cases this)).trans hr.blk)))).trans hr.blk.symm⟩)
  have hA2 : AtN x1.heap.size x1 p2 (ints s.L) := kept_at (h := w1.heap.size) rfl (hrow2.imp id fun ⟨g', cur', e1, hr, hge, hnone⟩ => ⟨g', cur', e1, hr, hge, (hH1 g' _ ((Blocks.put_other _ _ (by omega)).trans hr.blk)).trans hr.blk.symm⟩)
  have HB2 := Lib.hid (HB1.out.trans (hx1.below_of (b := w.heap.size) (by simp) HB1.out.size))
  have m1' := Lib.hid m1
  clear m1 hH1 hx1 hrow1 hrow2 hext1 hext2 hR2 hk1' hk2' hn3 hn7
  go_wp2_with fail
  refine bodyPost_ret (results_cell_row (p := 2) rfl _ _ (w.heap.size + 1) _ _ (0, 0) _ rfl m1'.out Tryd.underlying24 rfl Tryd.sizeSum) rfl ?_
  rw [HP.out]
  exact ⟨p1, d1, p2, d2, rfl, hA1, hA2, HB2.out⟩
end Go.Proofs.YtchamkbnapjidaaDoor
