/- Texts of this claim, joined: D25, D27. -/
import Derived.Test.YtajjgfiojlagmaaGreatDoorMO31
import Derived.Deep.DeepCutAuto
import Derived.Test.YtajjgfiojlagmaaGreatDoorMO22

/- The reference's weight. -/
namespace Go.Proofs.YtajjgfiojlagmaaGreatDoor
open Go.RowKit

set_option maxHeartbeats 6400000 in
set_option maxRecDepth 100000 in
theorem xWeight (w : World) (G : Nat → Prop) (hG : ∀ g, w.heap.size ≤ g → G g) (st : DS) (v : DV) (h : DX 55 w G st v) (hrg : 0 ≤ st.n ∧ st.n ≤ 128) (hwl : st.ws.length ≤ 10000000) (W : List (List UInt8)) (hn : W.length ≤ 1100000) (x3 x4 : List UInt8) (h3 : W[3]? = some x3) (h4 : W[4]? = some x4) (hl3 : x3.length ≤ 1100000) (a : Option Addr) (c : Nat) (hA : AtN w.heap.size w a (strs W)) (hoff : Off v a) :
    Calls Tryz.prog 47 #[stV st v, .slice a W.length c] w (SPost w G v (heavyD st (litD x3) x4)) := by
  obtain ⟨vL, vS, vW, vc⟩ := v
  obtain ⟨cl0, hcl0, _⟩ := h.rL
  obtain ⟨pL, cL, e1⟩ := hcl0.slice
  obtain ⟨pS, cS, e2⟩ := h.rS.slice
  obtain ⟨pW, cW, e3⟩ := h.rW.slice
  obtain ⟨pc, cc, e4⟩ := h.rc.slice
  simp only at e1 e2 e3 e4
  subst e1
  subst e2
  subst e3
  subst e4
  clear hcl0
  have H := Lib.hid h
  have HA := Lib.hid hA
  obtain ⟨R, hR⟩ : ∃ R : DS × Int, R = (heavyD st (litD x3) x4) := ⟨_, rfl⟩
  rw [← hR]
  obtain ⟨Post, hPost⟩ : ∃ P : Ending → World → Prop, P = SPost w G ⟨.slice pL st.L.length cL, .slice pS st.sh.length cS, .slice pW st.ws.length cW, .slice pc st.cl.length cc⟩ R := ⟨_, rfl⟩
  rw [← hPost]
  have HP := Lib.hid hPost
  obtain ⟨i0, ii, iz0, iz1, iz2⟩ := info_parts Tryz.infoXWt
  have II := Lib.hid ii
  have IZ0 := Lib.hid iz0
  have IZ1 := Lib.hid iz1
  have IZ2 := Lib.hid iz2
  clear ii iz0 iz1 iz2
  obtain ⟨b0, o0, hb0, e0, k3⟩ := hA 3 _ (strs_get W 3 _ h3)
  subst e0
  have k4 : w.cell? ⟨b0, o0 + 4, none⟩ = some (.string ⟨x4.toArray⟩) := by
    obtain ⟨_, _, _, e, k⟩ := hA 4 _ (strs_get W 4 _ h4)
    cases e
    exact k
  have hW4 : 4 < W.length := by
    rcases Nat.lt_or_ge 4 W.length with h' | h'
    · exact h'
    · rw [List.getElem?_eq_none h'] at h4; cases h4
  have HOFF := Lib.hid (hoff b0 o0 none rfl)
  have K4 := Lib.hid k4
  have KL := xLiteral x3 hl3
  have hlit := litD_in x3
  have HR := Lib.hid (show R = if litD x3 ∈ st.ws.map (·.1) then (st, 4) else if validD (litD x3) st.n = false then (st, 6) else ({ st with ws := st.ws ++ [(litD x3, x4)] }, 0) from hR)
  have HY4 : Hid (∃ y, y = (⟨x4.toArray⟩ : ByteArray)) := ⟨_, rfl⟩
  obtain ⟨y4, hy4⟩ := HY4.out
  have HY4 := Lib.hid hy4
  rw [← hy4] at K4 k4
  generalize (⟨x3.toArray⟩ : ByteArray) = y3 at *
  generalize litD x3 = z at *
  obtain ⟨G1, hG1⟩ : ∃ G1 : Nat → Prop, G1 = fun g => G g ∧ (g < w.heap.size ∨ w.heap.size + 2 ≤ g) := ⟨_, rfl⟩
  have HG0 := Lib.hid (show ∀ g, w.heap.size + 2 ≤ g → G1 g from fun g hg => by rw [hG1]; exact ⟨hG g (by omega), .inr hg⟩)
  have HGS := Lib.hid (show ∀ g, g ∈ [w.heap.size] ∨ g ∈ [w.heap.size + 1] → ¬ G1 g from fun g hg h1 => by rw [hG1] at h1; have := h1.2; simp at hg; omega)
  have HGG := Lib.hid (show ∀ g, G1 g → G g from fun g h1 => by rw [hG1] at h1; exact h1.1)
  have HD0 := Lib.hid (h.narrow.mono (G' := G1) (fun g h1 => by rw [hG1]; exact ⟨h1.1, .inl h1.2⟩))
  clear hPost hR h hA hn h3 h4 HA hoff hG1 k4 hy4 hG
  unfold stV
  go_enter Tryz.func47, Tryz.ntmps47
  go_upto_region 1 with fail
  refine wp_gen ?_
  intro w1 hw1
  have S1 := Lib.hid (show w1.heap[w.heap.size]? = some (.cells #[.int .i64 st.n, .slice pL st.L.length cL, .slice pS st.sh.length cS, .slice pW st.ws.length cW, .bool st.begun, .int .i64 st.m, .slice pc st.cl.length cc, .bool st.op] 67 (0, 0)) by rw [hw1]; exact new_two1 _ _ _)
  have O1 := Lib.hid (show w1.heap[w.heap.size + 1]? = some (.cells #[.int .i64 0, .slice none 0 0, .slice none 0 0, .slice none 0 0, .bool false, .int .i64 0, .slice none 0 0, .bool false] 67 (0, 0)) by rw [hw1]; exact new_two2 _ _ _)
  have HB1 := Lib.hid (show Below w.heap.size w w1 by rw [hw1]; exact below_two _ _ _)
  clear hw1
  have HD1 := Lib.hid (HD0.out.keepB HB1.out)
  have k3' := below_cell HB1.out hb0 k3
  clear k3
  go_wp2_with fail
  refine (KL w1).mono ?_
  rintro e w2 ⟨rfl, hB⟩
  have HB2 := Lib.hid (HB1.out.trans (hB.mono HB1.out.size))
  have S2 := Lib.hid ((behind_of_below hB).keep S1.out (by simp))
  have O2 := Lib.hid ((behind_of_below hB).keep O1.out (by simp))
  have HD2 := Lib.hid (HD1.out.keepB hB)
  clear hB KL k3' S1 O1 HD1 HB1
  obtain ⟨a9, c9, e9, hle9, hat9⟩ := rowV_at2 HD2.out.rW
  cases e9
  have KH := xHeavy st.ws z w2.heap.size pW cW (by omega) w2 hat9 (Nat.le_refl _)
  obtain ⟨yes, hyes⟩ : ∃ yes, yes = decide (z ∈ st.ws.map (·.1)) := ⟨_, rfl⟩
  rw [← hyes] at KH
  have HYS := Lib.hid hyes
  have q3 := blk_cell S2.out 3 rfl
  clear hyes hat9
  go_wp2_with fail
  refine (KH).mono ?_
  rintro e w3 ⟨rfl, hB⟩
  have HB3 := Lib.hid (HB2.out.trans (hB.mono HB2.out.size))
  have S3 := Lib.hid ((behind_of_below hB).keep S2.out (by simp))
  have O3 := Lib.hid ((behind_of_below hB).keep O2.out (by simp))
  have HD3 := Lib.hid (HD2.out.keepB hB)
  clear hB KH q3 S2 O2 HD2 HB2
  cases yes with
  | true =>
    have hin1 : z ∈ st.ws.map (·.1) := of_decide_eq_true HYS.out.symm
    have HF := Lib.hid (HR.out.trans (if_pos hin1))
    clear hin1
    have q0 := blk_cell S3.out 0 rfl
    have q1 := blk_cell S3.out 1 rfl
    have q2 := blk_cell S3.out 2 rfl
    have q3 := blk_cell S3.out 3 rfl
    have q4 := blk_cell S3.out 4 rfl
    have q5 := blk_cell S3.out 5 rfl
    have q6 := blk_cell S3.out 6 rfl
    have q7 := blk_cell S3.out 7 rfl
    have o0 := blk_cell O3.out 0 rfl
    have of0 := blk_free O3.out 0
    have o1 := blk_cell O3.out 1 rfl
    have of1 := blk_free O3.out 1
    have o2 := blk_cell O3.out 2 rfl
    have of2 := blk_free O3.out 2
    have o3 := blk_cell O3.out 3 rfl
    have of3 := blk_free O3.out 3
    have o4 := blk_cell O3.out 4 rfl
    have of4 := blk_free O3.out 4
    have o5 := blk_cell O3.out 5 rfl
    have of5 := blk_free O3.out 5
    have o6 := blk_cell O3.out 6 rfl
    have of6 := blk_free O3.out 6
    have o7 := blk_cell O3.out 7 rfl
    have of7 := blk_free O3.out 7
    go_wp2_with fail
    refine bodyPost_ret (results_cell_tmp1 (p := 4) (q := 5) rfl _ _ (w.heap.size + 1) _ _ (0, 0) _ rfl (eight_set O3.out) Tryz.underlying67 rfl Tryz.sizeState _ rfl) rfl ?_
    rw [HP.out, HF.out]
    exact SPost.err (n := 4) ⟨_, _, _, _, _, _, _, _, _, _, _, _, rfl⟩ (below_written HB3.out eight_behind (by omega) (Nat.le_refl _)) (by simp)
  | false =>
  have hin1 : ¬ z ∈ st.ws.map (·.1) := of_decide_eq_false HYS.out.symm
  have HR3 := Lib.hid (HR.out.trans (if_neg hin1))
  have KV := xValid z st.n hrg.1 hrg.2
  have q0 := blk_cell S3.out 0 rfl
  obtain ⟨vb, hvb⟩ : ∃ vb, vb = validD z st.n := ⟨_, rfl⟩
  rw [← hvb] at KV
  have HVB := Lib.hid hvb
  clear hvb hin1 HYS HR
  go_wp2_with fail
  refine (KV w3).mono ?_
  rintro e w4 ⟨rfl, hB⟩
  have HB4 := Lib.hid (HB3.out.trans (hB.mono HB3.out.size))
  have S4 := Lib.hid ((behind_of_below hB).keep S3.out (by simp))
  have O4 := Lib.hid ((behind_of_below hB).keep O3.out (by simp))
  have HD4 := Lib.hid (HD3.out.keepB hB)
  clear hB KV q0 S3 O3 HD3 HB3
  cases vb with
  | false =>
    have HF := Lib.hid (HR3.out.trans (if_pos HVB.out.symm))
    have q0 := blk_cell S4.out 0 rfl
    have q1 := blk_cell S4.out 1 rfl
    have q2 := blk_cell S4.out 2 rfl
    have q3 := blk_cell S4.out 3 rfl
    have q4 := blk_cell S4.out 4 rfl
    have q5 := blk_cell S4.out 5 rfl
    have q6 := blk_cell S4.out 6 rfl
    have q7 := blk_cell S4.out 7 rfl
    have o0 := blk_cell O4.out 0 rfl
    have of0 := blk_free O4.out 0
    have o1 := blk_cell O4.out 1 rfl
    have of1 := blk_free O4.out 1
    have o2 := blk_cell O4.out 2 rfl
    have of2 := blk_free O4.out 2
    have o3 := blk_cell O4.out 3 rfl
    have of3 := blk_free O4.out 3
    have o4 := blk_cell O4.out 4 rfl
    have of4 := blk_free O4.out 4
    have o5 := blk_cell O4.out 5 rfl
    have of5 := blk_free O4.out 5
    have o6 := blk_cell O4.out 6 rfl
    have of6 := blk_free O4.out 6
    have o7 := blk_cell O4.out 7 rfl
    have of7 := blk_free O4.out 7
    go_wp2_with fail
    refine bodyPost_ret (results_cell_tmp1 (p := 4) (q := 5) rfl _ _ (w.heap.size + 1) _ _ (0, 0) _ rfl (eight_set O4.out) Tryz.underlying67 rfl Tryz.sizeState _ rfl) rfl ?_
    rw [HP.out, HF.out]
    exact SPost.err (n := 6) ⟨_, _, _, _, _, _, _, _, _, _, _, _, rfl⟩ (below_written HB4.out eight_behind (by omega) (Nat.le_refl _)) (by simp)
  | true =>
  have HF := Lib.hid (HR3.out.trans (if_neg (by rw [← HVB.out]; simp)))
  have hwr := HB4.out.size
  have hSlt := lt_of_heap O4.out
  have HK4 := Lib.hid (below_cell HB4.out hb0 K4.out)
  clear HR3 HVB K4
  obtain ⟨vW, hvW⟩ : ∃ vW : Value, vW = .slice pW st.ws.length cW := ⟨_, rfl⟩
  obtain ⟨kF1, hkF1⟩ : ∃ kF1, kF1 = kA vW st.ws.length 1 := ⟨_, rfl⟩
  have hkF1' : kF1 = 2 ∨ kF1 = 5 := by rw [hkF1]; exact kA_or _ _ _
  have HK1 := Lib.hid hkF1
  have HVW := Lib.hid hvW
  have hrW := HD4.out.rW
  have hWM := Lib.hid (show ∀ g ∈ rowBlk vW, g ∈ DV.M ⟨.slice pL st.L.length cL, .slice pS st.sh.length cS, .slice pW st.ws.length cW, .slice pc st.cl.length cc⟩ from fun g hg => DV.mem.2 (.inr (.inr (.inl (by rw [← hvW]; exact hg)))))
  rw [show (DV.mk (.slice pL st.L.length cL) (.slice pS st.sh.length cS) (.slice pW st.ws.length cW) (.slice pc st.cl.length cc)).W = vW from hvW.symm] at hrW
  have HLT1 := Lib.hid hrW.lt
  have HRW := Lib.hid hrW
  have HnS := Lib.hid (show w.heap.size ∉ rowBlk vW from fun hg => by have := H.out.lt _ (hWM.out _ hg); omega)
  have HnO := Lib.hid (show w.heap.size + 1 ∉ rowBlk vW from fun hg => by have := H.out.lt _ (hWM.out _ hg); omega)
  have HnW := Lib.hid (show b0 ∉ rowBlk vW from fun hg => HOFF.out (hWM.out _ hg))
  have hb4 : b0 < w4.heap.size := by omega
  rw [← hvW] at S4
  clear hkF1 hrW hvW
  go_wp2_with fail
  refine wp_game_tail 12 [0, 0, 0, 0, 0, 0, 0, 0, 3, kF1, 0, 0, 0] (rowBlk vW) (rowB w4 vW) (fin_rowB _ _) (has_rowB _ _) (by kernel_rfl) (by rcases hkF1' with h | h <;> rw [h] <;> kernel_rfl) ?_
  simp only [List.take_succ_cons, List.take_zero]
  refine lex_quietE 8 (by kernel_rfl) (by rfl) ?_
  apply Exists.intro
  refine ⟨fun u hz1 => ?_, ?_⟩
  · have g0 := blk_cellp (hz1.keep S4.out HnS.out) 3 rfl
    have gz := (World.cell?_of_block (a := ⟨b0, o0 + 4, none⟩) (hz1.block b0 hb4 HnW.out)).trans HK4.out
    have g2 := fun p => plus_cell gz (block_lt_of_cell gz) p
    clear hz1 gz
    simp only [List.take_succ_cons, List.take_zero]
    unfold Cx
    repeat (go_big_quiet_step (fail))
    exact wpQuiet_nil rfl
  simp only [List.drop_succ_cons, List.drop_zero]
  refine lex_slice 1 (.cells #[.int .i64 z, .string y4] 55) (by rfl) (fun x => by go_simp) (fun g21 q21 hn21 => ?_)
  unfold setSlot
  go_big_quiet_step (fail)
  refine wpQuiet_nil ?_
  have n21v : g21 ∉ rowBlk vW := fun h => by have := HLT1.out g21 h; omega
  clear hn21
  refine lex_append_v (.tmp 27) (.tmp 33) 35 55 i0 _ 2 24 Tryz.underlying35 II.out IZ0.out IZ1.out IZ2.out (by rfl) vW st.ws.length (wts st.ws) ((rowV_rowB HRW.out).of_put n21v) (by rfl) g21 1 1 [.int .i64 z, .string y4] 55 (by rfl) (Blocks.put_same _ _ _) rfl (by simp [Value.oneCell']) (by omega) (by unfold maxLen; omega) (by omega) (fun g hg => .inl hg) HK1.out (fun g22 c22 ob22 hr22 hg22 => ?_)
  unfold setSlot
  go_big_quiet_step (fail)
  refine wpQuiet_nil ?_
  have hn22 : ∀ g ∈ rowBlk (.slice (some ⟨g22, 0, none⟩) (st.ws.length + 1) c22), g ∈ rowBlk vW ∨ w4.heap.size ≤ g := fun g hg => by
    have : g = g22 := by simpa [rowBlk] using hg
    subst this
    exact hg22.imp id (fun h => h.1)
  clear hg22
  refine lex_quietE 2 (by kernel_rfl) (by rfl) ?_
  apply Exists.intro
  refine ⟨fun u hz1 => ?_, ?_⟩
  · clear hz1
    simp only [List.take_succ_cons, List.take_zero]
    unfold Cx
    repeat (go_big_quiet_step (fail))
    exact wpQuiet_nil rfl
  simp only [List.drop_succ_cons, List.drop_zero]
  refine lex_nil ?_
  intro x2 hx2 hH2
  have hr9 := hr22.of_has hH2
  rw [HY4.out] at hr9
  have hD9 := HD4.out.appW (x := (z, x4)) (fun g hg => HG0.out g (by omega)) (by rw [← HVW.out]; exact hx2) hr9 (by rw [← HVW.out]; exact hn22)
  have S9 := Lib.hid (hx2.keep S4.out HnS.out)
  have O9 := Lib.hid (hx2.keep O4.out HnO.out)
  have HD9 := Lib.hid hD9
  have HB9 := Lib.hid (((behind_of_below HB4.out).mono (Wr' := DV.M ⟨.slice pL st.L.length cL, .slice pS st.sh.length cS, .slice pW st.ws.length cW, .slice pc st.cl.length cc⟩) (by simp)).trans hx2 (fun g hg => .inl (hWM.out g hg)))
  have HN9 := Lib.hid hn22
  have hsz9 := hx2.size
  clear hx2 hH2 hr9 hD9 hn22 hr22 n21v
  have q3 := blk_cell S9.out 3 rfl
  have f3 := blk_free S9.out 3
  go_upto_region 7 with fail
  refine wp_gen ?_
  intro w5 hw5
  have S5 := Lib.hid (show w5.heap[w.heap.size]? = some (.cells #[.int .i64 st.n, .slice pL st.L.length cL, .slice pS st.sh.length cS, .slice (some ⟨g22, 0, none⟩) (st.ws.length + 1) c22, .bool st.begun, .int .i64 st.m, .slice pc st.cl.length cc, .bool st.op] 67 (0, 0)) by rw [hw5]; exact heap_setCell_same _ w.heap.size 3 _ _ _ S9.out)
  have O5 := Lib.hid (show w5.heap[w.heap.size + 1]? = some (.cells #[.int .i64 0, .slice none 0 0, .slice none 0 0, .slice none 0 0, .bool false, .int .i64 0, .slice none 0 0, .bool false] 67 (0, 0)) by rw [hw5]; exact (heap_setCell_other _ _ _ _ (show w.heap.size + 1 ≠ w.heap.size by omega)).trans O9.out)
  have HBs := Lib.hid (show Behind x2 [w.heap.size] w5 by rw [hw5]; exact behind_set)
  clear hw5 q3 f3
  have q0 := blk_cell S5.out 0 rfl
  have q1 := blk_cell S5.out 1 rfl
  have q2 := blk_cell S5.out 2 rfl
  have q3 := blk_cell S5.out 3 rfl
  have q4 := blk_cell S5.out 4 rfl
  have q5 := blk_cell S5.out 5 rfl
  have q6 := blk_cell S5.out 6 rfl
  have q7 := blk_cell S5.out 7 rfl
  have o0 := blk_cell O5.out 0 rfl
  have of0 := blk_free O5.out 0
  have o1 := blk_cell O5.out 1 rfl
  have of1 := blk_free O5.out 1
  have o2 := blk_cell O5.out 2 rfl
  have of2 := blk_free O5.out 2
  have o3 := blk_cell O5.out 3 rfl
  have of3 := blk_free O5.out 3
  have o4 := blk_cell O5.out 4 rfl
  have of4 := blk_free O5.out 4
  have o5 := blk_cell O5.out 5 rfl
  have of5 := blk_free O5.out 5
  have o6 := blk_cell O5.out 6 rfl
  have of6 := blk_free O5.out 6
  have o7 := blk_cell O5.out 7 rfl
  have of7 := blk_free O5.out 7
  go_wp2_with fail
  refine bodyPost_ret (results_cell_tmp1 (p := 4) (q := 5) rfl _ _ (w.heap.size + 1) _ _ (0, 0) _ rfl (eight_set O5.out) Tryz.underlying67 rfl Tryz.sizeState _ rfl) rfl ?_
  rw [HP.out, HF.out]
  refine ⟨{ st with ws := st.ws ++ [(z, x4)] }, ⟨.slice pL st.L.length cL, .slice pS st.sh.length cS, .slice (some ⟨g22, 0, none⟩) (st.ws.length + 1) c22, .slice pc st.cl.length cc⟩, ⟨_, _, _, _, _, _, _, _, _, _, _, _, rfl⟩, rfl, (HB9.out.trans HBs.out (fun k hk => .inr (by simp at hk; omega))).trans eight_behind (fun k hk => .inr (by simp at hk; omega)), fun _ => ⟨rfl, ((HD9.out.keep HBs.out (fun g hg => .inl (HGS.out g (.inl hg)))).keep eight_behind (fun g hg => .inl (HGS.out g (.inr hg)))).mono HGG.out, fun g hg => ?_⟩⟩
  rcases DV.mem.1 hg with hg | hg | hg | hg
  · exact .inl (DV.mem.2 (.inl hg))
  · exact .inl (DV.mem.2 (.inr (.inl hg)))
  · exact (HN9.out g hg).elim (fun e => .inl (hWM.out g e)) (fun e => .inr (by omega))
  · exact .inl (DV.mem.2 (.inr (.inr (.inr hg))))
end Go.Proofs.YtajjgfiojlagmaaGreatDoor

/- The reference's literals. -/
namespace Go.Proofs.YtajjgfiojlagmaaGreatDoor
open Go.RowKit

set_option maxHeartbeats 6400000 in
set_option maxRecDepth 100000 in
theorem xLiterals (w : World) (G : Nat → Prop) (hG : ∀ g, w.heap.size ≤ g → G g) (st : DS) (v : DV) (h : DX 55 w G st v) (hrg : 0 ≤ st.n ∧ st.n ≤ 128) (hLl : st.L.length ≤ 10000000) (hcl : st.cl.length ≤ 128) (W : List (List UInt8)) (hn : W.length ≤ 1100001) (hl : ∀ x ∈ W, x.length ≤ 1100000) (hk : ∀ x ∈ W, litD x = 0 → x = [48]) (a : Option Addr) (c : Nat) (hA : AtN w.heap.size w a (strs W)) (hoff : Off v a) :
    Calls Tryz.prog 48 #[stV st v, .slice a W.length c] w (SPost w G v (litsGo st (W.map litD))) := by
  obtain ⟨vL, vS, vW, vc⟩ := v
  obtain ⟨cl0, hcl0, _⟩ := h.rL
  obtain ⟨pL, cL, e1⟩ := hcl0.slice
  obtain ⟨pS, cS, e2⟩ := h.rS.slice
  obtain ⟨pW, cW, e3⟩ := h.rW.slice
  obtain ⟨pc, cc, e4⟩ := h.rc.slice
  simp only at e1 e2 e3 e4
  subst e1
  subst e2
  subst e3
  subst e4
  clear hcl0
  have H := Lib.hid h
  have HA := Lib.hid hA
  obtain ⟨R, hR⟩ : ∃ R : DS × Int, R = (litsGo st (W.map litD)) := ⟨_, rfl⟩
  rw [← hR]
  obtain ⟨Post, hPost⟩ : ∃ P : Ending → World → Prop, P = SPost w G ⟨.slice pL st.L.length cL, .slice pS st.sh.length cS, .slice pW st.ws.length cW, .slice pc st.cl.length cc⟩ R := ⟨_, rfl⟩
  rw [← hPost]
  have HP := Lib.hid hPost
  obtain ⟨i0, ii, iz0, iz1, iz2⟩ := info_parts Tryz.infoIntD
  have II := Lib.hid ii
  have IZ0 := Lib.hid iz0
  have IZ1 := Lib.hid iz1
  have IZ2 := Lib.hid iz2
  clear ii iz0 iz1 iz2
  obtain ⟨j0, jj, jz0, jz1, jz2⟩ := info_parts Tryz.infoRow
  have JI := Lib.hid jj
  have JZ0 := Lib.hid jz0
  have JZ1 := Lib.hid jz1
  have JZ2 := Lib.hid jz2
  have HWA := Lib.hid (show ∀ (j : Nat) (x : List UInt8), W[j]? = some x → ∃ b0 o0, b0 < w.heap.size ∧ a = some ⟨b0, o0, none⟩ ∧ b0 ∉ DV.M ⟨.slice pL st.L.length cL, .slice pS st.sh.length cS, .slice pW st.ws.length cW, .slice pc st.cl.length cc⟩ ∧ w.cell? ⟨b0, o0 + j, none⟩ = some (.string ⟨x.toArray⟩) ∧ x.length ≤ 1100000 ∧ (litD x = 0 → x = [48]) from fun j x hj => by
    obtain ⟨b0, o0, hb, e, k⟩ := hA j _ (strs_get W j x hj)
    exact ⟨b0, o0, hb, e, hoff b0 o0 none e, k, hl x (List.mem_of_getElem? hj), hk x (List.mem_of_getElem? hj)⟩)
  have HR := Lib.hid hR
  obtain ⟨G1, hG1⟩ : ∃ G1 : Nat → Prop, G1 = fun g => G g ∧ (g < w.heap.size ∨ w.heap.size + 2 ≤ g) := ⟨_, rfl⟩
  have HG0 := Lib.hid (show ∀ g, w.heap.size + 2 ≤ g → G1 g from fun g hg => by rw [hG1]; exact ⟨hG g (by omega), .inr hg⟩)
  have HGS := Lib.hid (show ∀ g, g ∈ [w.heap.size] ∨ g ∈ [w.heap.size + 1] → ¬ G1 g from fun g hg h1 => by rw [hG1] at h1; have := h1.2; simp at hg; omega)
  have HGG := Lib.hid (show ∀ g, G1 g → G g from fun g h1 => by rw [hG1] at h1; exact h1.1)
  have HD0 := Lib.hid (h.narrow.mono (G' := G1) (fun g h1 => by rw [hG1]; exact ⟨h1.1, .inl h1.2⟩))
  clear hPost hR h hA hl hk HA hoff hG1 hG jj jz0 jz1 jz2
  unfold stV
  go_enter Tryz.func48, Tryz.ntmps48
  go_upto_region 1 with fail
  refine wp_gen ?_
  intro w1 hw1
  have S1 := Lib.hid (show w1.heap[w.heap.size]? = some (.cells #[.int .i64 st.n, .slice pL st.L.length cL, .slice pS st.sh.length cS, .slice pW st.ws.length cW, .bool st.begun, .int .i64 st.m, .slice pc st.cl.length cc, .bool st.op] 67 (0, 0)) by rw [hw1]; exact new_two1 _ _ _)
  have O1 := Lib.hid (show w1.heap[w.heap.size + 1]? = some (.cells #[.int .i64 0, .slice none 0 0, .slice none 0 0, .slice none 0 0, .bool false, .int .i64 0, .slice none 0 0, .bool false] 67 (0, 0)) by rw [hw1]; exact new_two2 _ _ _)
  have HB1 := Lib.hid (show Below w.heap.size w w1 by rw [hw1]; exact below_two _ _ _)
  clear hw1
  have HD1 := Lib.hid (HD0.out.keepB HB1.out)
  clear HD0
  go_wp2_with fail
  go_loopw [6] (fun t6 wr => ∃ (j : Nat) (s1 : DS) (v1 : DV), j ≤ W.length ∧ t6 = .int .i64 j ∧ s1.L.length ≤ 10000000 + j ∧ s1.cl.length ≤ 128 ∧ Hid (s1.n = st.n) ∧ Hid (R = litsGo s1 ((W.drop j).map litD)) ∧ Hid (wr.heap[w.heap.size]? = some (.cells #[.int .i64 s1.n, v1.L, v1.S, v1.W, .bool s1.begun, .int .i64 s1.m, v1.c, .bool s1.op] 67 (0, 0))) ∧ Hid (wr.heap[w.heap.size + 1]? = some (.cells #[.int .i64 0, .slice none 0 0, .slice none 0 0, .slice none 0 0, .bool false, .int .i64 0, .slice none 0 0, .bool false] 67 (0, 0))) ∧ Hid (DX 55 wr G1 s1 v1) ∧ Hid (∀ g ∈ v1.M, g ∈ DV.M ⟨.slice pL st.L.length cL, .slice pS st.sh.length cS, .slice pW st.ws.length cW, .slice pc st.cl.length cc⟩ ∨ w.heap.size + 2 ≤ g) ∧ Hid (Behind w (DV.M ⟨.slice pL st.L.length cL, .slice pS st.sh.length cS, .slice pW st.ws.length cW, .slice pc st.cl.length cc⟩) wr)) (fun t6 _ => W.length - (intOf t6).toNat)
  case atStart => exact ⟨0, st, ⟨.slice pL st.L.length cL, .slice pS st.sh.length cS, .slice pW st.ws.length cW, .slice pc st.cl.length cc⟩, Nat.zero_le _, rfl, by omega, hcl, rfl, HR.out, S1.out, O1.out, HD1.out, fun g hg => .inl hg, (behind_of_below HB1.out).mono (by simp)⟩
  case round =>
    obtain ⟨j, s1, v1, hj, rfl, hLj, hcj, HN1, HG, HS, HO, HD, HV, HBh⟩ := hrel
    obtain ⟨vL1, vS1, vW1, vc1⟩ := v1
    obtain ⟨cl1, hcl1, _⟩ := HD.out.rL
    obtain ⟨pL1, cL1, e1⟩ := hcl1.slice
    obtain ⟨pS1, cS1, e2⟩ := HD.out.rS.slice
    obtain ⟨pW1, cW1, e3⟩ := HD.out.rW.slice
    obtain ⟨pc1, cc1, e4⟩ := HD.out.rc.slice
    simp only at e1 e2 e3 e4
    subst e1
    subst e2
    subst e3
    subst e4
    clear hcl1
    have hwr : w.heap.size + 2 ≤ wr.heap.size := by have := lt_of_heap HO.out; omega
    simp only at *
    by_cases hlt : j < W.length
    · have hdd : decide (j < W.length) = true := decide_eq_true hlt
      have hyy : W[j]? = some (W.getD j []) := by simp [List.getD, hlt]
      have hdr : W.drop j = W.getD j [] :: W.drop (j + 1) := by rw [List.drop_eq_getElem_cons hlt]; simp [List.getD, hlt]
      obtain ⟨b0, o0, hb0, rfl, hb0M, kz, hzl, hz48⟩ := HWA.out j _ hyy
      have kz2 : wr.cell? ⟨b0, o0 + j, none⟩ = some (.string ⟨(W.getD j []).toArray⟩) := behind_cellD HBh.out kz hb0M
      have KN := xLiteral (W.getD j []) hzl
      have hin := litD_in (W.getD j [])
      have t4 := lit_both (W.getD j []) [48]
      have HG2 := Lib.hid (show R = _ from HG.out.trans (by rw [hdr, List.map_cons, litsGo_cons]))
      generalize W.getD j [] = x at *
      generalize hy : (⟨x.toArray⟩ : ByteArray) = y at *
      clear kz hyy hdr hy HG
      by_cases hx : x = [48]
      · have hz0 : litD x = 0 := by rw [hx]; rfl
        rw [decide_eq_true hx] at t4
        have HG3 := Lib.hid (HG2.out.trans (if_pos hz0))
        obtain ⟨cl9, hcl9, _⟩ := HD.out.rL
        have HCL := Lib.hid hcl9
        have q1 := blk_cell HS.out 1 rfl
        have q6 := blk_cell HS.out 6 rfl
        clear hx hz0 KN hz48 HG2 hcl9
        go_wp2_with (at_builtin; refine wpList_append_row _ rfl _ _ 22 rfl 25 j0 _ 1 24 Tryz.underlying22 JI.out JZ0.out JZ1.out JZ2.out rfl _ _ _ rfl (HCL.out.keep (behind_of_below (below_one wr _)) (by simp)) wr.heap.size 1 1 [.slice pc1 s1.cl.length cc1] 25 rfl (new_one wr _) rfl (by intro u hu; simp at hu; subst hu; rfl) (by omega) (by unfold maxLen; omega) (by omega) ?_)
        intro v9 w9 hr9 hB9 hn9
        obtain ⟨p9, k9, e9⟩ := hr9.slice
        subst e9
        have hn9' : ∀ g ∈ rowBlk (.slice p9 (s1.L.length + 1) k9), g ∈ rowBlk (.slice pL1 s1.L.length cL1) ∨ wr.heap.size ≤ g := fun g hg => (hn9 g hg).imp id (fun h => by first | omega | (simp at h; omega))
        have h09 : Behind wr (rowBlk (.slice pL1 s1.L.length cL1)) w9 := ((behind_of_below (below_one wr _)).mono (by simp)).trans hB9 (fun k hk => .inl hk)
        have hD9 := HD.out.appL (vL := .slice p9 (s1.L.length + 1) k9) (fun g hg => HG0.out g (by omega)) h09 (fun cl' hcl' => by rw [RowV.unique hcl' HCL.out]; exact hr9) hn9'
        have hSM : ∀ g ∈ rowBlk (.slice pL1 s1.L.length cL1), g ∈ DV.M ⟨.slice pL1 s1.L.length cL1, .slice pS1 s1.sh.length cS1, .slice pW1 s1.ws.length cW1, .slice pc1 s1.cl.length cc1⟩ := fun g hg => DV.mem.2 (.inl hg)
        have hnS : w.heap.size ∉ rowBlk (.slice pL1 s1.L.length cL1) := fun hm => (HV.out _ (hSM _ hm)).elim (fun e => by have := H.out.lt _ e; omega) (fun e => by omega)
        have hnO : w.heap.size + 1 ∉ rowBlk (.slice pL1 s1.L.length cL1) := fun hm => (HV.out _ (hSM _ hm)).elim (fun e => by have := H.out.lt _ e; omega) (fun e => by omega)
        have S9 := Lib.hid (h09.keep HS.out hnS)
        have O9 := Lib.hid (h09.keep HO.out hnO)
        have HB9 := Lib.hid (HBh.out.trans h09 (fun g hg => (HV.out g (hSM g hg)).elim .inl (fun e => .inr (by omega))))
        have HD9 := Lib.hid hD9
        have HV9 := Lib.hid (show ∀ g ∈ DV.M ⟨.slice p9 (s1.L.length + 1) k9, .slice pS1 s1.sh.length cS1, .slice pW1 s1.ws.length cW1, .slice none 0 0⟩, g ∈ DV.M ⟨.slice pL st.L.length cL, .slice pS st.sh.length cS, .slice pW st.ws.length cW, .slice pc st.cl.length cc⟩ ∨ w.heap.size + 2 ≤ g from fun g hg => by
          rcases DV.mem.1 hg with hg | hg | hg | hg
          · exact (hn9' g hg).elim (fun e => HV.out g (hSM g e)) (fun e => .inr (by omega))
          · exact HV.out g (DV.mem.2 (.inr (.inl hg)))
          · exact HV.out g (DV.mem.2 (.inr (.inr (.inl hg))))
          · simp [rowBlk] at hg)
        have hsz9 := h09.size
        clear hr9 hB9 hn9 hn9' h09 hD9 hSM hnS hnO q1 q6 kz2
        have q1 := blk_cell S9.out 1 rfl
        have q6 := blk_cell S9.out 6 rfl
        have q7 := blk_cell S9.out 7 rfl
        have f1 := blk_free S9.out 1
        have f6 := blk_free S9.out 6
        have f7 := blk_free S9.out 7
        go_wp2_with fail
        go_roundw
        case rel =>
          have hset : Behind w9 [w.heap.size] (((w9.setCell ⟨w.heap.size, 1, none⟩ (.slice p9 (s1.L.length + 1) k9)).setCell ⟨w.heap.size, 6, none⟩ (.slice none 0 0)).setCell ⟨w.heap.size, 7, none⟩ (.bool false)) := (behind_set.trans behind_set (by simp)).trans behind_set (by simp)
          have hO : w.heap.size + 1 ≠ w.heap.size := by omega
          exact ⟨j + 1, { s1 with L := s1.L ++ [s1.cl], cl := [], op := false }, ⟨.slice p9 (s1.L.length + 1) k9, .slice pS1 s1.sh.length cS1, .slice pW1 s1.ws.length cW1, .slice none 0 0⟩, by omega, by go_num, by simp; omega, by simp, HN1.out, HG3.out, heap_setCell_same _ w.heap.size 7 _ _ _ (heap_setCell_same _ w.heap.size 6 _ _ _ (heap_setCell_same _ w.heap.size 1 _ _ _ S9.out)), hset.keep O9.out (by simp), HD9.out.keep hset (fun g hg => .inl (HGS.out g (.inl hg))), HV9.out, HB9.out.trans hset (fun k hk => .inr (by simp at hk; omega))⟩
        case measure => simp [intOf]; omega
      rw [decide_eq_false hx] at t4
      have hz0 : litD x ≠ 0 := fun h => hx (hz48 h)
      have HG3 := Lib.hid (HG2.out.trans (if_neg hz0))
      generalize litD x = z at *
      clear HG2 hz48 hx
      go_wp2_with fail
      refine (KN wr).mono ?_
      rintro e w2 ⟨rfl, hB⟩
      have HBa := Lib.hid hB
      have S2 := Lib.hid ((behind_of_below hB).keep HS.out (by simp))
      have O2 := Lib.hid ((behind_of_below hB).keep HO.out (by simp))
      have KV := xValid z s1.n (by have := HN1.out; omega) (by have := HN1.out; omega)
      have q0 := blk_cell S2.out 0 rfl
      obtain ⟨vb, hvb⟩ : ∃ vb, vb = validD z s1.n := ⟨_, rfl⟩
      rw [← hvb] at KV
      have HVB := Lib.hid hvb
      clear hB KN kz2 hvb
      go_wp2_with fail
      refine (KV w2).mono ?_
      rintro e w4 ⟨rfl, hB⟩
      have HBc := Lib.hid (HBa.out.trans (hB.mono HBa.out.size))
      have S4 := Lib.hid ((behind_of_below hB).keep S2.out (by simp))
      have O4 := Lib.hid ((behind_of_below hB).keep O2.out (by simp))
      have HBx := Lib.hid (HBh.out.trans (behind_of_below HBc.out) (fun k hk => by simp at hk))
      have HD4 := Lib.hid (HD.out.keepB HBc.out)
      clear hB KV q0 S2 O2 HBa
      cases vb with
      | false =>
        have HF := Lib.hid (HG3.out.trans (if_pos HVB.out.symm))
        have q0 := blk_cell S4.out 0 rfl
        have q1 := blk_cell S4.out 1 rfl
        have q2 := blk_cell S4.out 2 rfl
        have q3 := blk_cell S4.out 3 rfl
        have q4 := blk_cell S4.out 4 rfl
        have q5 := blk_cell S4.out 5 rfl
        have q6 := blk_cell S4.out 6 rfl
        have q7 := blk_cell S4.out 7 rfl
        have o0 := blk_cell O4.out 0 rfl
        have of0 := blk_free O4.out 0
        have o1 := blk_cell O4.out 1 rfl
        have of1 := blk_free O4.out 1
        have o2 := blk_cell O4.out 2 rfl
        have of2 := blk_free O4.out 2
        have o3 := blk_cell O4.out 3 rfl
        have of3 := blk_free O4.out 3
        have o4 := blk_cell O4.out 4 rfl
        have of4 := blk_free O4.out 4
        have o5 := blk_cell O4.out 5 rfl
        have of5 := blk_free O4.out 5
        have o6 := blk_cell O4.out 6 rfl
        have of6 := blk_free O4.out 6
        have o7 := blk_cell O4.out 7 rfl
        have of7 := blk_free O4.out 7
        go_wp2_with fail
        refine bodyPost_ret (results_cell_tmp1 (p := 4) (q := 5) rfl _ _ (w.heap.size + 1) _ _ (0, 0) _ rfl (eight_set O4.out) Tryz.underlying67 rfl Tryz.sizeState _ rfl) rfl ?_
        rw [HP.out, HF.out]
        exact ⟨s1, _, ⟨_, _, _, _, _, _, _, _, _, _, _, _, rfl⟩, rfl, HBx.out.trans eight_behind (fun k hk => .inr (by simp at hk; omega)), fun h => absurd h (by simp)⟩
      | true =>
      have HG4 := Lib.hid (HG3.out.trans (if_neg (by rw [← HVB.out]; simp)))
      have q6 := blk_cell S4.out 6 rfl
      by_cases h128 : s1.cl.length = 128
      · have hq : ((s1.cl.length : Int) == 128) = true := by simp [h128]
        have HF := Lib.hid (HG4.out.trans (if_pos h128))
        clear q6 h128
        have q0 := blk_cell S4.out 0 rfl
        have q1 := blk_cell S4.out 1 rfl
        have q2 := blk_cell S4.out 2 rfl
        have q3 := blk_cell S4.out 3 rfl
        have q4 := blk_cell S4.out 4 rfl
        have q5 := blk_cell S4.out 5 rfl
        have q6 := blk_cell S4.out 6 rfl
        have q7 := blk_cell S4.out 7 rfl
        have o0 := blk_cell O4.out 0 rfl
        have of0 := blk_free O4.out 0
        have o1 := blk_cell O4.out 1 rfl
        have of1 := blk_free O4.out 1
        have o2 := blk_cell O4.out 2 rfl
        have of2 := blk_free O4.out 2
        have o3 := blk_cell O4.out 3 rfl
        have of3 := blk_free O4.out 3
        have o4 := blk_cell O4.out 4 rfl
        have of4 := blk_free O4.out 4
        have o5 := blk_cell O4.out 5 rfl
        have of5 := blk_free O4.out 5
        have o6 := blk_cell O4.out 6 rfl
        have of6 := blk_free O4.out 6
        have o7 := blk_cell O4.out 7 rfl
        have of7 := blk_free O4.out 7
        go_wp2_with fail
        refine bodyPost_ret (results_cell_tmp1 (p := 4) (q := 5) rfl _ _ (w.heap.size + 1) _ _ (0, 0) _ rfl (eight_set O4.out) Tryz.underlying67 rfl Tryz.sizeState _ rfl) rfl ?_
        rw [HP.out, HF.out]
        exact ⟨s1, _, ⟨_, _, _, _, _, _, _, _, _, _, _, _, rfl⟩, rfl, HBx.out.trans eight_behind (fun k hk => .inr (by simp at hk; omega)), fun h => absurd h (by simp)⟩
      have hq : ((s1.cl.length : Int) == 128) = false := beq_no (by omega)
      have HG5 := Lib.hid (HG4.out.trans (if_neg h128))
      have hcl2 : s1.cl.length < 128 := by omega
      have hw4 : w.heap.size + 2 ≤ w4.heap.size := by have := lt_of_heap O4.out; omega
      clear h128 HG4 HG3
      have q6' := below_cell (below_one w4 (.cells #[] 3 (0, 0))) (show w.heap.size < w4.heap.size by omega) q6
      go_wp2_with (at_builtin; refine wpList_append_copy _ rfl _ _ 25 rfl 3 i0 _ 8 Tryz.underlying25 II.out IZ0.out IZ1.out IZ2.out rfl w4.heap.size rfl (new_one w4 _) (.slice pc1 s1.cl.length cc1) s1.cl.length (ints s1.cl) rfl (HD4.out.rc.keep (behind_of_below (below_one w4 _)) (by simp)) (by intro u hu; obtain ⟨_, _, rfl⟩ := List.mem_map.1 hu; rfl) (by unfold maxLen; omega) (by omega) ?_)
      intro v5 w5 hr5 hB5 hn5
      obtain ⟨p5, k5, e5⟩ := hr5.slice
      subst e5
      have HB5 := Lib.hid ((below_one w4 (.cells #[] 3 (0, 0))).trans (hB5.mono (by simp)))
      have HR5 := Lib.hid hr5
      have HN5 := Lib.hid (show ∀ k ∈ rowBlk (.slice p5 s1.cl.length k5), w4.heap.size ≤ k from fun k hk => (hn5 k hk).elim (fun e => by omega) (fun e => by first | omega | (simp at e; omega)))
      clear hr5 hB5 hn5 q6 q6'
      go_wp2_with (at_builtin; refine wpList_append_row _ rfl _ _ 25 rfl 3 i0 _ 1 8 Tryz.underlying25 II.out IZ0.out IZ1.out IZ2.out rfl _ _ _ rfl (HR5.out.keep (behind_of_below (below_one w5 _)) (by simp)) w5.heap.size 1 1 [.int .i64 z] 3 rfl (new_one w5 _) rfl (by intro u hu; simp at hu; subst hu; rfl) (by omega) (by unfold maxLen; omega) (by omega) ?_)
      intro v9 w9 hr9 hB9 hn9
      obtain ⟨p9, k9, e9⟩ := hr9.slice
      subst e9
      have hs5 := HB5.out.size
      have hn9' : ∀ g ∈ rowBlk (.slice p9 (s1.cl.length + 1) k9), w4.heap.size ≤ g := fun g hg => (hn9 g hg).elim (fun e => HN5.out g e) (fun h => by first | omega | (simp at h; omega))
      have hX9 : Behind w5 (rowBlk (.slice p5 s1.cl.length k5)) w9 := ((behind_of_below (below_one w5 _)).mono (by simp)).trans hB9 (fun k hk => .inl hk)
      have h09 : Below w4.heap.size w4 w9 := HB5.out.trans (hX9.below_of (fun g hg => HN5.out g hg) hs5)
      have hD9 := HD4.out.appc (x := z) (o := true) (vc := .slice p9 (s1.cl.length + 1) k9) (fun g hg => HG0.out g (by omega)) ((behind_of_below h09).mono (by simp)) hr9 (fun g hg => .inr (hn9' g hg))
      have S9 := Lib.hid ((behind_of_below h09).keep S4.out (by simp))
      have O9 := Lib.hid ((behind_of_below h09).keep O4.out (by simp))
      have HB9 := Lib.hid (HBx.out.trans (behind_of_below h09) (fun g hg => by simp at hg))
      have HD9 := Lib.hid hD9
      have HV9 := Lib.hid (show ∀ g ∈ DV.M ⟨.slice pL1 s1.L.length cL1, .slice pS1 s1.sh.length cS1, .slice pW1 s1.ws.length cW1, .slice p9 (s1.cl.length + 1) k9⟩, g ∈ DV.M ⟨.slice pL st.L.length cL, .slice pS st.sh.length cS, .slice pW st.ws.length cW, .slice pc st.cl.length cc⟩ ∨ w.heap.size + 2 ≤ g from fun g hg => by
        rcases DV.mem.1 hg with hg | hg | hg | hg
        · exact HV.out g (DV.mem.2 (.inl hg))
        · exact HV.out g (DV.mem.2 (.inr (.inl hg)))
        · exact HV.out g (DV.mem.2 (.inr (.inr (.inl hg))))
        · exact .inr (by have := hn9' g hg; omega))
      have hsz9 := h09.size
      clear hr9 hB9 hn9 hn9' h09 hD9 hX9
      have q6 := blk_cell S9.out 6 rfl
      have q7 := blk_cell S9.out 7 rfl
      have f6 := blk_free S9.out 6
      have f7 := blk_free S9.out 7
      go_wp2_with fail
      go_roundw
      case rel =>
        have hset : Behind w9 [w.heap.size] ((w9.setCell ⟨w.heap.size, 6, none⟩ (.slice p9 (s1.cl.length + 1) k9)).setCell ⟨w.heap.size, 7, none⟩ (.bool true)) := behind_set.trans behind_set (by simp)
        exact ⟨j + 1, { s1 with cl := s1.cl ++ [z], op := true }, ⟨.slice pL1 s1.L.length cL1, .slice pS1 s1.sh.length cS1, .slice pW1 s1.ws.length cW1, .slice p9 (s1.cl.length + 1) k9⟩, by omega, by go_num, by show s1.L.length ≤ _; omega, by simp; omega, HN1.out, HG5.out, heap_setCell_same _ w.heap.size 7 _ _ _ (heap_setCell_same _ w.heap.size 6 _ _ _ S9.out), hset.keep O9.out (by simp), HD9.out.keep hset (fun g hg => .inl (HGS.out g (.inl hg))), HV9.out, HB9.out.trans hset (fun k hk => .inr (by simp at hk; omega))⟩
      case measure => simp [intOf]; omega
    · obtain rfl : j = W.length := by omega
      have hdd : decide (W.length < W.length) = false := by simp
      have HF := Lib.hid (show R = (s1, 0) by rw [HG.out, List.drop_length]; rfl)
      clear HG
      have q0 := blk_cell HS.out 0 rfl
      have q1 := blk_cell HS.out 1 rfl
      have q2 := blk_cell HS.out 2 rfl
      have q3 := blk_cell HS.out 3 rfl
      have q4 := blk_cell HS.out 4 rfl
      have q5 := blk_cell HS.out 5 rfl
      have q6 := blk_cell HS.out 6 rfl
      have q7 := blk_cell HS.out 7 rfl
      have o0 := blk_cell HO.out 0 rfl
      have of0 := blk_free HO.out 0
      have o1 := blk_cell HO.out 1 rfl
      have of1 := blk_free HO.out 1
      have o2 := blk_cell HO.out 2 rfl
      have of2 := blk_free HO.out 2
      have o3 := blk_cell HO.out 3 rfl
      have of3 := blk_free HO.out 3
      have o4 := blk_cell HO.out 4 rfl
      have of4 := blk_free HO.out 4
      have o5 := blk_cell HO.out 5 rfl
      have of5 := blk_free HO.out 5
      have o6 := blk_cell HO.out 6 rfl
      have of6 := blk_free HO.out 6
      have o7 := blk_cell HO.out 7 rfl
      have of7 := blk_free HO.out 7
      go_wp2_with fail
      refine bodyPost_ret (results_cell_tmp1 (p := 4) (q := 5) rfl _ _ (w.heap.size + 1) _ _ (0, 0) _ rfl (eight_set HO.out) Tryz.underlying67 rfl Tryz.sizeState _ rfl) rfl ?_
      rw [HP.out, HF.out]
      exact ⟨s1, _, ⟨_, _, _, _, _, _, _, _, _, _, _, _, rfl⟩, rfl, HBh.out.trans eight_behind (fun k hk => .inr (by simp at hk; omega)), fun _ => ⟨rfl, (HD.out.keep eight_behind (fun g hg => .inl (HGS.out g (.inr hg)))).mono HGG.out, fun g hg => (HV.out g hg).imp id (fun e => by omega)⟩⟩
end Go.Proofs.YtajjgfiojlagmaaGreatDoor
