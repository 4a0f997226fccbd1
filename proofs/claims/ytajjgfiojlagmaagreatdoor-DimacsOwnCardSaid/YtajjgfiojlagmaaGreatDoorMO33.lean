/- Texts of this claim, joined: D28. -/
import Derived.Test.YtajjgfiojlagmaaGreatDoorMO32
import Derived.Deep.DeepCutAuto

/- The reference's line. -/
namespace Go.Proofs.YtajjgfiojlagmaaGreatDoor
open Go.RowKit

theorem SPost.from {w w1 w' : World} {G : Nat → Prop} {v : DV} {r : DS × Int} {e : Ending} (hb : Below w.heap.size w w1) (h : SPost w1 G v r e w') : SPost w G v r e w' := by
  obtain ⟨st', v', hs, he, hB, hq⟩ := h
  refine ⟨st', v', hs, he, ((behind_of_below hb).mono (by simp)).trans hB (fun k hk => .inl hk), fun h0 => ?_⟩
  obtain ⟨h1, h2, h3⟩ := hq h0
  exact ⟨h1, h2, fun g hg => (h3 g hg).imp id (fun e => Nat.le_trans hb.size e)⟩
theorem new_two_size (w : World) (a b : Obj) : ((w.alloc a).alloc b).heap.size = w.heap.size + 2 := by simp
theorem kind_form {rd : List UInt8 → Bool} (W : List (List UInt8)) : (kindD rd W = 1 → ∃ x1 x2 x3, W = [[112], x1, x2, x3]) ∧ (kindD rd W = 2 → 4 ≤ W.length ∧ ∀ x ∈ (W.take (W.length - 1)).drop 3, 1 ≤ numX x) ∧ (kindD rd W = 3 → ∃ x1 x2 x3 x4 x5, W = [[99], x1, x2, x3, x4, x5]) ∧ (kindD rd W = 4 → ∀ x ∈ W, litD x = 0 → x = [48]) ∧ (kindD rd W = -1 ∨ kindD rd W = 0 ∨ kindD rd W = 1 ∨ kindD rd W = 2 ∨ kindD rd W = 3 ∨ kindD rd W = 4) := by
  cases W with
  | nil =>
    rw [show kindD rd [] = 0 from rfl]
    exact ⟨fun h => absurd h (by decide), fun h => absurd h (by decide), fun h => absurd h (by decide), fun h => absurd h (by decide), .inr (.inl rfl)⟩
  | cons w0 r =>
    by_cases h1 : w0 = [112]
    · subst h1
      rw [kind_p]
      split
      · rename_i h
        refine ⟨fun _ => ?_, fun h => absurd h (by decide), fun h => absurd h (by decide), fun h => absurd h (by decide), .inr (.inr (.inl rfl))⟩
        match r, h.1 with
        | [x1, x2, x3], _ => exact ⟨_, _, _, rfl⟩
      · exact ⟨fun h => absurd h (by decide), fun h => absurd h (by decide), fun h => absurd h (by decide), fun h => absurd h (by decide), .inl rfl⟩
    by_cases h2 : w0 = [99]
    · subst h2
      rw [kind_c]
      split
      · exact ⟨fun h => absurd h (by decide), fun h => absurd h (by decide), fun h => absurd h (by decide), fun h => absurd h (by decide), .inr (.inl rfl)⟩
      split
      · exact ⟨fun h => absurd h (by decide), fun h => absurd h (by decide), fun h => absurd h (by decide), fun h => absurd h (by decide), .inl rfl⟩
      rename_i h3 h4
      split
      · split
        · exact ⟨fun h => absurd h (by decide), fun h => absurd h (by decide), fun h => absurd h (by decide), fun h => absurd h (by decide), .inl rfl⟩
        · rename_i h5
          refine ⟨fun h => absurd h (by decide), fun _ => ⟨?_, fun x hx => ?_⟩, fun h => absurd h (by decide), fun h => absurd h (by decide), .inr (.inr (.inr (.inl rfl)))⟩
          · rw [List.length_cons]; have : ¬ r.length < 3 := fun h => h4 (.inr h); omega
          · have hr3 : ¬ r.length < 3 := fun h => h4 (.inr h)
            have e : ((([99] : List UInt8) :: r).take ((([99] : List UInt8) :: r).length - 1)).drop 3 = (r.take (r.length - 1)).drop 2 := by
              rw [List.length_cons, show r.length + 1 - 1 = (r.length - 1) + 1 by omega, List.take_succ_cons, List.drop_succ_cons]
            rw [e] at hx
            rcases Int.lt_or_le (numX x) 1 with h' | h'
            · exact absurd (List.any_eq_true.2 ⟨x, hx, by simpa using h'⟩) h5
            · exact h'
      · split
        · exact ⟨fun h => absurd h (by decide), fun h => absurd h (by decide), fun h => absurd h (by decide), fun h => absurd h (by decide), .inl rfl⟩
        · rename_i h5
          have h55 : r.length = 5 := Decidable.not_not.1 (fun h => h5 (.inl h))
          split
          · exact ⟨fun h => absurd h (by decide), fun h => absurd h (by decide), fun h => absurd h (by decide), fun h => absurd h (by decide), .inl rfl⟩
          · refine ⟨fun h => absurd h (by decide), fun h => absurd h (by decide), fun _ => ?_, fun h => absurd h (by decide), .inr (.inr (.inr (.inr (.inl rfl))))⟩
            match r, h55 with
            | [x1, x2, x3, x4, x5], _ => exact ⟨_, _, _, _, _, rfl⟩
    · rw [kind_l rd r h1 h2]
      split
      · exact ⟨fun h => absurd h (by decide), fun h => absurd h (by decide), fun h => absurd h (by decide), fun h => absurd h (by decide), .inl rfl⟩
      · rename_i h5
        refine ⟨fun h => absurd h (by decide), fun h => absurd h (by decide), fun h => absurd h (by decide), fun _ x hx h0 => ?_, .inr (.inr (.inr (.inr (.inr rfl))))⟩
        exact Decidable.not_not.1 fun hne => h5 (List.any_eq_true.2 ⟨x, hx, by rw [decide_eq_true h0, decide_eq_true (show x ≠ [48] from hne)]; rfl⟩)

set_option maxHeartbeats 6400000 in
set_option maxRecDepth 100000 in
theorem xLine (w : World) (G : Nat → Prop) (hG : ∀ g, w.heap.size ≤ g → G g) (st : DS) (v : DV) (h : DX 55 w G st v) (hrg : 0 ≤ st.n ∧ st.n ≤ 128) (hsl : st.sh.length ≤ 10000000) (hwl : st.ws.length ≤ 10000000) (hLl : st.L.length ≤ 10000000) (hcl : st.cl.length ≤ 128) (W : List (List UInt8)) (hn : W.length ≤ 1100000) (hl : ∀ x ∈ W, x.length ≤ 1000000) (a : Option Addr) (c : Nat) (hA : AtN w.heap.size w a (strs W)) (hoff : Off v a) :
    Calls Tryz.prog 26 #[stV st v, .slice a W.length c] w (SPost w G v (lineD rdD st W)) := by
  obtain ⟨vL, vS, vW, vc⟩ := v
  obtain ⟨cl0, hcl0, _⟩ := h.rL
  obtain ⟨pL, cL, e1⟩ := hcl0.slice
  obtain ⟨pS, cS, e2⟩ := h.rS.slice
  obtain ⟨pW, cW, e3⟩ := h.rW.slice
  obtain ⟨pc, cc, e4⟩ := h.rc.slice
  simp only at e1 e2 e3 e4
  subst e1
  subst e2
  subst e3
  subst e4
  clear hcl0
  have H := Lib.hid h
  have HA := Lib.hid hA
  have hl2 : ∀ x ∈ W, x.length ≤ 1100000 := fun x hx => by have := hl x hx; omega
  have KD := xKind W hl hn
  obtain ⟨R, hR⟩ : ∃ R : DS × Int, R = (lineD rdD st W) := ⟨_, rfl⟩
  rw [← hR]
  obtain ⟨Post, hPost⟩ : ∃ P : Ending → World → Prop, P = SPost w G ⟨.slice pL st.L.length cL, .slice pS st.sh.length cS, .slice pW st.ws.length cW, .slice pc st.cl.length cc⟩ R := ⟨_, rfl⟩
  rw [← hPost]
  have HP := Lib.hid hPost
  have HR := Lib.hid (show R = lineK st W (kindD rdD W) from hR.trans (line_same rdD st W).symm)
  have HKF := Lib.hid (kind_form (rd := rdD) W)
  obtain ⟨G1, hG1⟩ : ∃ G1 : Nat → Prop, G1 = fun g => G g ∧ (g < w.heap.size ∨ w.heap.size + 2 ≤ g) := ⟨_, rfl⟩
  have hg0 : ∀ w1 : World, w.heap.size + 2 ≤ w1.heap.size → ∀ g, w1.heap.size ≤ g → G1 g := fun w1 h1 g hg => by rw [hG1]; exact ⟨hG g (by omega), .inr (by omega)⟩
  have HGO := Lib.hid (show ¬ G1 (w.heap.size + 1) from fun h1 => by rw [hG1] at h1; have := h1.2; omega)
  have HGG := Lib.hid (show ∀ g, G1 g → G g from fun g h1 => by rw [hG1] at h1; exact h1.1)
  have h1 : DX 55 w G1 st ⟨.slice pL st.L.length cL, .slice pS st.sh.length cS, .slice pW st.ws.length cW, .slice pc st.cl.length cc⟩ := h.narrow.mono (G' := G1) (fun g h1 => by rw [hG1]; exact ⟨h1.1, .inl h1.2⟩)
  have HHD := Lib.hid (fun (w1 : World) (hB : Below w.heap.size w w1) (x2 x3 : List UInt8) (h2 : W[2]? = some x2) (h3 : W[3]? = some x3) => xHeader w1 G1 st ⟨.slice pL st.L.length cL, .slice pS st.sh.length cS, .slice pW st.ws.length cW, .slice pc st.cl.length cc⟩ (h1.keepB hB) W hn x2 x3 h2 h3 (hl2 x2 (List.mem_of_getElem? h2)) (hl2 x3 (List.mem_of_getElem? h3)) a c ((hA.below hB (Nat.le_refl _)).mono hB.size))
  have HSH := Lib.hid (fun (w1 : World) (hB : Below w.heap.size w w1) (hz : w.heap.size + 2 ≤ w1.heap.size) (h4 : 4 ≤ W.length) (hp : ∀ x ∈ (W.take (W.length - 1)).drop 3, 1 ≤ numX x) => xShow w1 G1 (hg0 w1 hz) st ⟨.slice pL st.L.length cL, .slice pS st.sh.length cS, .slice pW st.ws.length cW, .slice pc st.cl.length cc⟩ (h1.keepB hB) hrg hsl W h4 hn hl2 hp a c ((hA.below hB (Nat.le_refl _)).mono hB.size) hoff)
  have HWE := Lib.hid (fun (w1 : World) (hB : Below w.heap.size w w1) (hz : w.heap.size + 2 ≤ w1.heap.size) (x3 x4 : List UInt8) (h3 : W[3]? = some x3) (h4 : W[4]? = some x4) => xWeight w1 G1 (hg0 w1 hz) st ⟨.slice pL st.L.length cL, .slice pS st.sh.length cS, .slice pW st.ws.length cW, .slice pc st.cl.length cc⟩ (h1.keepB hB) hrg hwl W hn x3 x4 h3 h4 (hl2 x3 (List.mem_of_getElem? h3)) a c ((hA.below hB (Nat.le_refl _)).mono hB.size) hoff)
  have HLT := Lib.hid (fun (w1 : World) (hB : Below w.heap.size w w1) (hz : w.heap.size + 2 ≤ w1.heap.size) (hk : ∀ x ∈ W, litD x = 0 → x = [48]) => xLiterals w1 G1 (hg0 w1 hz) st ⟨.slice pL st.L.length cL, .slice pS st.sh.length cS, .slice pW st.ws.length cW, .slice pc st.cl.length cc⟩ (h1.keepB hB) hrg hLl hcl W (by omega) hl2 hk a c ((hA.below hB (Nat.le_refl _)).mono hB.size) hoff)
  have HKD := Lib.hid (fun (w1 : World) (hB : Below w.heap.size w w1) => KD w1 a c ((hA.below hB (Nat.le_refl _)).mono hB.size))
  have HD1 := Lib.hid h
  clear hPost hR h hA hl hl2 hoff KD hG HA h1 hg0 hG1
  unfold stV at *
  go_enter Tryz.func26, Tryz.ntmps26
  go_upto_region 1 with fail
  refine wp_gen ?_
  intro w1 hw1
  have S1 := Lib.hid (show w1.heap[w.heap.size]? = some (.cells #[.int .i64 st.n, .slice pL st.L.length cL, .slice pS st.sh.length cS, .slice pW st.ws.length cW, .bool st.begun, .int .i64 st.m, .slice pc st.cl.length cc, .bool st.op] 67 (0, 0)) by rw [hw1]; exact new_two1 _ _ _)
  have O1 := Lib.hid (show w1.heap[w.heap.size + 1]? = some (.cells #[.int .i64 0, .slice none 0 0, .slice none 0 0, .slice none 0 0, .bool false, .int .i64 0, .slice none 0 0, .bool false] 67 (0, 0)) by rw [hw1]; exact new_two2 _ _ _)
  have HB1 := Lib.hid (show Below w.heap.size w w1 by rw [hw1]; exact below_two _ _ _)
  clear hw1
  have KK := HKD.out w1 HB1.out
  obtain ⟨kk, hkk⟩ : ∃ kk, kk = kindD rdD W := ⟨_, rfl⟩
  rw [← hkk] at HR HKF KK
  have hrange : -1 ≤ kk ∧ kk ≤ 4 := by have := HKF.out.2.2.2.2; omega
  clear HKD hkk
  go_wp2_with fail
  refine KK.mono ?_
  rintro e w2 ⟨rfl, hB⟩
  have HB2 := Lib.hid (HB1.out.trans (hB.mono HB1.out.size))
  have S2 := Lib.hid ((behind_of_below hB).keep S1.out (by simp))
  have O2 := Lib.hid ((behind_of_below hB).keep O1.out (by simp))
  have hz2 : w.heap.size + 2 ≤ w2.heap.size := by have := lt_of_heap O2.out; omega
  clear hB KK S1 O1 HB1
  by_cases hneg : kk < 0
  · have hd : decide (kk < 0) = true := decide_eq_true hneg
    have HF := Lib.hid (HR.out.trans (show lineK st W kk = (st, 5) by
      obtain rfl : kk = -1 := by omega
      exact lineK_neg))
    have q0 := blk_cell S2.out 0 rfl
    have q1 := blk_cell S2.out 1 rfl
    have q2 := blk_cell S2.out 2 rfl
    have q3 := blk_cell S2.out 3 rfl
    have q4 := blk_cell S2.out 4 rfl
    have q5 := blk_cell S2.out 5 rfl
    have q6 := blk_cell S2.out 6 rfl
    have q7 := blk_cell S2.out 7 rfl
    have o0 := blk_cell O2.out 0 rfl
    have of0 := blk_free O2.out 0
    have o1 := blk_cell O2.out 1 rfl
    have of1 := blk_free O2.out 1
    have o2 := blk_cell O2.out 2 rfl
    have of2 := blk_free O2.out 2
    have o3 := blk_cell O2.out 3 rfl
    have of3 := blk_free O2.out 3
    have o4 := blk_cell O2.out 4 rfl
    have of4 := blk_free O2.out 4
    have o5 := blk_cell O2.out 5 rfl
    have of5 := blk_free O2.out 5
    have o6 := blk_cell O2.out 6 rfl
    have of6 := blk_free O2.out 6
    have o7 := blk_cell O2.out 7 rfl
    have of7 := blk_free O2.out 7
    go_wp2_with fail
    refine bodyPost_ret (results_cell_tmp1 (p := 4) (q := 5) rfl _ _ (w.heap.size + 1) _ _ (0, 0) _ rfl (eight_set O2.out) Tryz.underlying67 rfl Tryz.sizeState _ rfl) rfl ?_
    rw [HP.out, HF.out]
    exact SPost.err (n := 5) ⟨_, _, _, _, _, _, _, _, _, _, _, _, rfl⟩ (below_written HB2.out eight_behind (by omega) (Nat.le_refl _)) (by simp)
  have hd : decide (kk < 0) = false := decide_eq_false hneg
  by_cases h1 : 1 < kk ∧ st.begun = false
  · have hd1 : decide (1 < kk) = true := decide_eq_true h1.1
    have hd1' : decide (kk > 1) = true := hd1
    have HF := Lib.hid (HR.out.trans (lineK_not h1.1 h1.2))
    have S3 := S2.out
    rw [h1.2] at S3
    have HBG := Lib.hid h1.2
    have S3 := Lib.hid S3
    clear h1
    have q0 := blk_cell S3.out 0 rfl
    have q1 := blk_cell S3.out 1 rfl
    have q2 := blk_cell S3.out 2 rfl
    have q3 := blk_cell S3.out 3 rfl
    have q4 := blk_cell S3.out 4 rfl
    have q5 := blk_cell S3.out 5 rfl
    have q6 := blk_cell S3.out 6 rfl
    have q7 := blk_cell S3.out 7 rfl
    have o0 := blk_cell O2.out 0 rfl
    have of0 := blk_free O2.out 0
    have o1 := blk_cell O2.out 1 rfl
    have of1 := blk_free O2.out 1
    have o2 := blk_cell O2.out 2 rfl
    have of2 := blk_free O2.out 2
    have o3 := blk_cell O2.out 3 rfl
    have of3 := blk_free O2.out 3
    have o4 := blk_cell O2.out 4 rfl
    have of4 := blk_free O2.out 4
    have o5 := blk_cell O2.out 5 rfl
    have of5 := blk_free O2.out 5
    have o6 := blk_cell O2.out 6 rfl
    have of6 := blk_free O2.out 6
    have o7 := blk_cell O2.out 7 rfl
    have of7 := blk_free O2.out 7
    go_wp2_with fail
    refine bodyPost_ret (results_cell_tmp1 (p := 4) (q := 5) rfl _ _ (w.heap.size + 1) _ _ (0, 0) _ rfl (eight_set O2.out) Tryz.underlying67 rfl Tryz.sizeState _ rfl) rfl ?_
    rw [HP.out, HF.out, ← HBG.out]
    exact SPost.err (n := 5) ⟨_, _, _, _, _, _, _, _, _, _, _, _, rfl⟩ (below_written HB2.out eight_behind (by omega) (Nat.le_refl _)) (by simp)
  have hk5 : kk = 0 ∨ kk = 1 ∨ kk = 2 ∨ kk = 3 ∨ kk = 4 := by omega
  have HNB := Lib.hid (show 1 < kk → st.begun = true from fun h => by
    cases hb : st.begun with
    | true => rfl
    | false => exact absurd ⟨h, hb⟩ h1)
  clear h1 hneg hd hrange
  have HFO := Lib.hid HKF.out
  clear HKF
  rcases hk5 with rfl | rfl | rfl | rfl | rfl
  · have HF := Lib.hid (HR.out.trans lineK_0)
    have q0 := blk_cell S2.out 0 rfl
    have q1 := blk_cell S2.out 1 rfl
    have q2 := blk_cell S2.out 2 rfl
    have q3 := blk_cell S2.out 3 rfl
    have q4 := blk_cell S2.out 4 rfl
    have q5 := blk_cell S2.out 5 rfl
    have q6 := blk_cell S2.out 6 rfl
    have q7 := blk_cell S2.out 7 rfl
    have o0 := blk_cell O2.out 0 rfl
    have of0 := blk_free O2.out 0
    have o1 := blk_cell O2.out 1 rfl
    have of1 := blk_free O2.out 1
    have o2 := blk_cell O2.out 2 rfl
    have of2 := blk_free O2.out 2
    have o3 := blk_cell O2.out 3 rfl
    have of3 := blk_free O2.out 3
    have o4 := blk_cell O2.out 4 rfl
    have of4 := blk_free O2.out 4
    have o5 := blk_cell O2.out 5 rfl
    have of5 := blk_free O2.out 5
    have o6 := blk_cell O2.out 6 rfl
    have of6 := blk_free O2.out 6
    have o7 := blk_cell O2.out 7 rfl
    have of7 := blk_free O2.out 7
    go_wp2_with fail
    refine bodyPost_ret (results_cell_tmp1 (p := 4) (q := 5) rfl _ _ (w.heap.size + 1) _ _ (0, 0) _ rfl (eight_set O2.out) Tryz.underlying67 rfl Tryz.sizeState _ rfl) rfl ?_
    rw [HP.out, HF.out]
    have hB9 := below_written HB2.out (eight_behind (w := w2) (g := w.heap.size + 1) (a := .int .i64 st.n) (b := .slice pL st.L.length cL) (c := .slice pS st.sh.length cS) (d := .slice pW st.ws.length cW) (e := .bool st.begun) (f := .int .i64 st.m) (h := .slice pc st.cl.length cc) (i := .bool st.op)) (by omega) (Nat.le_refl _)
    exact ⟨st, _, ⟨_, _, _, _, _, _, _, _, _, _, _, _, rfl⟩, rfl, (behind_of_below hB9).mono (by simp), fun _ => ⟨rfl, HD1.out.keepB hB9, fun g hg => .inl hg⟩⟩
  · obtain ⟨x1, x2, x3, hW⟩ := HFO.out.1 rfl
    have KS := HHD.out w2 HB2.out x2 x3 (by rw [hW]; rfl) (by rw [hW]; rfl)
    have HF := Lib.hid (show R = hdrX st (numX x2) (numX x3) from HR.out.trans (lineK_1.trans (by rw [hW]; rfl)))
    clear hW HFO HHD HSH HWE HLT
    rw [← HF.out] at KS
    have S3 := Lib.hid S2.out
    have q0 := blk_cell S3.out 0 rfl
    have q1 := blk_cell S3.out 1 rfl
    have q2 := blk_cell S3.out 2 rfl
    have q3 := blk_cell S3.out 3 rfl
    have q4 := blk_cell S3.out 4 rfl
    have q5 := blk_cell S3.out 5 rfl
    have q6 := blk_cell S3.out 6 rfl
    have q7 := blk_cell S3.out 7 rfl
    go_wp2_with fail
    refine KS.mono ?_
    rintro e w3 ⟨st', v', ⟨A1, A2, A3, B1, B2, B3, C1, C2, C3, D1, D2, D3, rfl⟩, rfl, hB3, hq3⟩
    have HB3 := Lib.hid hB3
    have HQ3 := Lib.hid hq3
    have hnO : w.heap.size + 1 ∉ DV.M ⟨.slice pL st.L.length cL, .slice pS st.sh.length cS, .slice pW st.ws.length cW, .slice pc st.cl.length cc⟩ := fun hm => by have := H.out.lt _ hm; omega
    have O3 := Lib.hid (hB3.keep O2.out hnO)
    clear hB3 hq3 hnO KS
    clear q0
    clear q1
    clear q2
    clear q3
    clear q4
    clear q5
    clear q6
    clear q7
    unfold stV
    have o0 := blk_cell O3.out 0 rfl
    have of0 := blk_free O3.out 0
    have o1 := blk_cell O3.out 1 rfl
    have of1 := blk_free O3.out 1
    have o2 := blk_cell O3.out 2 rfl
    have of2 := blk_free O3.out 2
    have o3 := blk_cell O3.out 3 rfl
    have of3 := blk_free O3.out 3
    have o4 := blk_cell O3.out 4 rfl
    have of4 := blk_free O3.out 4
    have o5 := blk_cell O3.out 5 rfl
    have of5 := blk_free O3.out 5
    have o6 := blk_cell O3.out 6 rfl
    have of6 := blk_free O3.out 6
    have o7 := blk_cell O3.out 7 rfl
    have of7 := blk_free O3.out 7
    go_wp2_with fail
    refine bodyPost_ret (results_cell_tmp1 (p := 4) (q := 5) rfl _ _ (w.heap.size + 1) _ _ (0, 0) _ rfl (eight_set O3.out) Tryz.underlying67 rfl Tryz.sizeState _ rfl) rfl ?_
    rw [HP.out]
    refine ⟨st', ⟨.slice A1 A2 A3, .slice B1 B2 B3, .slice C1 C2 C3, .slice D1 D2 D3⟩, ⟨_, _, _, _, _, _, _, _, _, _, _, _, rfl⟩, rfl, (((behind_of_below HB2.out).mono (by simp)).trans HB3.out (fun k hk => .inl hk)).trans eight_behind (fun k hk => .inr (by simp at hk; omega)), fun h0 => ?_⟩
    obtain ⟨h1, h2, h3⟩ := HQ3.out h0
    exact ⟨h1, (h2.keep eight_behind (fun g hg => .inl (by simp at hg; subst hg; exact HGO.out))).mono HGG.out, fun g hg => (h3 g hg).imp id (fun e => by omega)⟩
  · have hfo := HFO.out.2.1 rfl
    have KS := HSH.out w2 HB2.out hz2 hfo.1 hfo.2
    have HF := Lib.hid (show R = showGo st (((W.take (W.length - 1)).drop 3).map numZ) from HR.out.trans (lineK_2 (by rw [HNB.out (by omega)]; simp)))
    clear hfo HFO HHD HSH HWE HLT
    rw [← HF.out] at KS
    have hbt := HNB.out (by omega)
    have S3 := S2.out
    rw [hbt] at S3 KS
    have S3 := Lib.hid S3
    clear hbt
    have q0 := blk_cell S3.out 0 rfl
    have q1 := blk_cell S3.out 1 rfl
    have q2 := blk_cell S3.out 2 rfl
    have q3 := blk_cell S3.out 3 rfl
    have q4 := blk_cell S3.out 4 rfl
    have q5 := blk_cell S3.out 5 rfl
    have q6 := blk_cell S3.out 6 rfl
    have q7 := blk_cell S3.out 7 rfl
    go_wp2_with fail
    refine KS.mono ?_
    rintro e w3 ⟨st', v', ⟨A1, A2, A3, B1, B2, B3, C1, C2, C3, D1, D2, D3, rfl⟩, rfl, hB3, hq3⟩
    have HB3 := Lib.hid hB3
    have HQ3 := Lib.hid hq3
    have hnO : w.heap.size + 1 ∉ DV.M ⟨.slice pL st.L.length cL, .slice pS st.sh.length cS, .slice pW st.ws.length cW, .slice pc st.cl.length cc⟩ := fun hm => by have := H.out.lt _ hm; omega
    have O3 := Lib.hid (hB3.keep O2.out hnO)
    clear hB3 hq3 hnO KS
    clear q0
    clear q1
    clear q2
    clear q3
    clear q4
    clear q5
    clear q6
    clear q7
    unfold stV
    have o0 := blk_cell O3.out 0 rfl
    have of0 := blk_free O3.out 0
    have o1 := blk_cell O3.out 1 rfl
    have of1 := blk_free O3.out 1
    have o2 := blk_cell O3.out 2 rfl
    have of2 := blk_free O3.out 2
    have o3 := blk_cell O3.out 3 rfl
    have of3 := blk_free O3.out 3
    have o4 := blk_cell O3.out 4 rfl
    have of4 := blk_free O3.out 4
    have o5 := blk_cell O3.out 5 rfl
    have of5 := blk_free O3.out 5
    have o6 := blk_cell O3.out 6 rfl
    have of6 := blk_free O3.out 6
    have o7 := blk_cell O3.out 7 rfl
    have of7 := blk_free O3.out 7
    go_wp2_with fail
    refine bodyPost_ret (results_cell_tmp1 (p := 4) (q := 5) rfl _ _ (w.heap.size + 1) _ _ (0, 0) _ rfl (eight_set O3.out) Tryz.underlying67 rfl Tryz.sizeState _ rfl) rfl ?_
    rw [HP.out]
    refine ⟨st', ⟨.slice A1 A2 A3, .slice B1 B2 B3, .slice C1 C2 C3, .slice D1 D2 D3⟩, ⟨_, _, _, _, _, _, _, _, _, _, _, _, rfl⟩, rfl, (((behind_of_below HB2.out).mono (by simp)).trans HB3.out (fun k hk => .inl hk)).trans eight_behind (fun k hk => .inr (by simp at hk; omega)), fun h0 => ?_⟩
    obtain ⟨h1, h2, h3⟩ := HQ3.out h0
    exact ⟨h1, (h2.keep eight_behind (fun g hg => .inl (by simp at hg; subst hg; exact HGO.out))).mono HGG.out, fun g hg => (h3 g hg).imp id (fun e => by omega)⟩
  · obtain ⟨x1, x2, x3, x4, x5, hW⟩ := HFO.out.2.2.1 rfl
    have KS := HWE.out w2 HB2.out hz2 x3 x4 (by rw [hW]; rfl) (by rw [hW]; rfl)
    have HF := Lib.hid (show R = heavyD st (litD x3) x4 from HR.out.trans ((lineK_3 (by rw [HNB.out (by omega)]; simp)).trans (by rw [hW]; rfl)))
    clear hW HFO HHD HSH HWE HLT
    rw [← HF.out] at KS
    have hbt := HNB.out (by omega)
    have S3 := S2.out
    rw [hbt] at S3 KS
    have S3 := Lib.hid S3
    clear hbt
    have q0 := blk_cell S3.out 0 rfl
    have q1 := blk_cell S3.out 1 rfl
    have q2 := blk_cell S3.out 2 rfl
    have q3 := blk_cell S3.out 3 rfl
    have q4 := blk_cell S3.out 4 rfl
    have q5 := blk_cell S3.out 5 rfl
    have q6 := blk_cell S3.out 6 rfl
    have q7 := blk_cell S3.out 7 rfl
    go_wp2_with fail
    refine KS.mono ?_
    rintro e w3 ⟨st', v', ⟨A1, A2, A3, B1, B2, B3, C1, C2, C3, D1, D2, D3, rfl⟩, rfl, hB3, hq3⟩
    have HB3 := Lib.hid hB3
    have HQ3 := Lib.hid hq3
    have hnO : w.heap.size + 1 ∉ DV.M ⟨.slice pL st.L.length cL, .slice pS st.sh.length cS, .slice pW st.ws.length cW, .slice pc st.cl.length cc⟩ := fun hm => by have := H.out.lt _ hm; omega
    have O3 := Lib.hid (hB3.keep O2.out hnO)
    clear hB3 hq3 hnO KS
    clear q0
    clear q1
    clear q2
    clear q3
    clear q4
    clear q5
    clear q6
    clear q7
    unfold stV
    have o0 := blk_cell O3.out 0 rfl
    have of0 := blk_free O3.out 0
    have o1 := blk_cell O3.out 1 rfl
    have of1 := blk_free O3.out 1
    have o2 := blk_cell O3.out 2 rfl
    have of2 := blk_free O3.out 2
    have o3 := blk_cell O3.out 3 rfl
    have of3 := blk_free O3.out 3
    have o4 := blk_cell O3.out 4 rfl
    have of4 := blk_free O3.out 4
    have o5 := blk_cell O3.out 5 rfl
    have of5 := blk_free O3.out 5
    have o6 := blk_cell O3.out 6 rfl
    have of6 := blk_free O3.out 6
    have o7 := blk_cell O3.out 7 rfl
    have of7 := blk_free O3.out 7
    go_wp2_with fail
    refine bodyPost_ret (results_cell_tmp1 (p := 4) (q := 5) rfl _ _ (w.heap.size + 1) _ _ (0, 0) _ rfl (eight_set O3.out) Tryz.underlying67 rfl Tryz.sizeState _ rfl) rfl ?_
    rw [HP.out]
    refine ⟨st', ⟨.slice A1 A2 A3, .slice B1 B2 B3, .slice C1 C2 C3, .slice D1 D2 D3⟩, ⟨_, _, _, _, _, _, _, _, _, _, _, _, rfl⟩, rfl, (((behind_of_below HB2.out).mono (by simp)).trans HB3.out (fun k hk => .inl hk)).trans eight_behind (fun k hk => .inr (by simp at hk; omega)), fun h0 => ?_⟩
    obtain ⟨h1, h2, h3⟩ := HQ3.out h0
    exact ⟨h1, (h2.keep eight_behind (fun g hg => .inl (by simp at hg; subst hg; exact HGO.out))).mono HGG.out, fun g hg => (h3 g hg).imp id (fun e => by omega)⟩
  · have hfo := HFO.out.2.2.2.1 rfl
    have KS := HLT.out w2 HB2.out hz2 hfo
    have HF := Lib.hid (show R = litsGo st (W.map litD) from HR.out.trans (lineK_4 (by rw [HNB.out (by omega)]; simp)))
    clear hfo HFO HHD HSH HWE HLT
    rw [← HF.out] at KS
    have hbt := HNB.out (by omega)
    have S3 := S2.out
    rw [hbt] at S3 KS
    have S3 := Lib.hid S3
    clear hbt
    have q0 := blk_cell S3.out 0 rfl
    have q1 := blk_cell S3.out 1 rfl
    have q2 := blk_cell S3.out 2 rfl
    have q3 := blk_cell S3.out 3 rfl
    have q4 := blk_cell S3.out 4 rfl
    have q5 := blk_cell S3.out 5 rfl
    have q6 := blk_cell S3.out 6 rfl
    have q7 := blk_cell S3.out 7 rfl
    go_wp2_with fail
    refine KS.mono ?_
    rintro e w3 ⟨st', v', ⟨A1, A2, A3, B1, B2, B3, C1, C2, C3, D1, D2, D3, rfl⟩, rfl, hB3, hq3⟩
    have HB3 := Lib.hid hB3
    have HQ3 := Lib.hid hq3
    have hnO : w.heap.size + 1 ∉ DV.M ⟨.slice pL st.L.length cL, .slice pS st.sh.length cS, .slice pW st.ws.length cW, .slice pc st.cl.length cc⟩ := fun hm => by have := H.out.lt _ hm; omega
    have O3 := Lib.hid (hB3.keep O2.out hnO)
    clear hB3 hq3 hnO KS
    clear q0
    clear q1
    clear q2
    clear q3
    clear q4
    clear q5
    clear q6
    clear q7
    unfold stV
    have o0 := blk_cell O3.out 0 rfl
    have of0 := blk_free O3.out 0
    have o1 := blk_cell O3.out 1 rfl
    have of1 := blk_free O3.out 1
    have o2 := blk_cell O3.out 2 rfl
    have of2 := blk_free O3.out 2
    have o3 := blk_cell O3.out 3 rfl
    have of3 := blk_free O3.out 3
    have o4 := blk_cell O3.out 4 rfl
    have of4 := blk_free O3.out 4
    have o5 := blk_cell O3.out 5 rfl
    have of5 := blk_free O3.out 5
    have o6 := blk_cell O3.out 6 rfl
    have of6 := blk_free O3.out 6
    have o7 := blk_cell O3.out 7 rfl
    have of7 := blk_free O3.out 7
    go_wp2_with fail
    refine bodyPost_ret (results_cell_tmp1 (p := 4) (q := 5) rfl _ _ (w.heap.size + 1) _ _ (0, 0) _ rfl (eight_set O3.out) Tryz.underlying67 rfl Tryz.sizeState _ rfl) rfl ?_
    rw [HP.out]
    refine ⟨st', ⟨.slice A1 A2 A3, .slice B1 B2 B3, .slice C1 C2 C3, .slice D1 D2 D3⟩, ⟨_, _, _, _, _, _, _, _, _, _, _, _, rfl⟩, rfl, (((behind_of_below HB2.out).mono (by simp)).trans HB3.out (fun k hk => .inl hk)).trans eight_behind (fun k hk => .inr (by simp at hk; omega)), fun h0 => ?_⟩
    obtain ⟨h1, h2, h3⟩ := HQ3.out h0
    exact ⟨h1, (h2.keep eight_behind (fun g hg => .inl (by simp at hg; subst hg; exact HGO.out))).mono HGG.out, fun g hg => (h3 g hg).imp id (fun e => by omega)⟩
end Go.Proofs.YtajjgfiojlagmaaGreatDoor
