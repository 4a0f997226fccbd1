/- Texts of this claim, joined: D23, D24. -/
import Derived.Test.YtajjgfiojlagmaaGreatDoorMO30
import Derived.Test.YtajjgfiojlagmaaGreatDoorMO28
import Derived.Test.YtajjgfiojlagmaaGreatDoorMO22
import Derived.Deep.DeepCutAuto

/- The reference's state; its p line. -/
namespace Go.Proofs.YtajjgfiojlagmaaGreatDoor
open Go.RowKit

def stV (st : DS) (v : DV) : Value := .agg #[.int .i64 st.n, v.L, v.S, v.W, .bool st.begun, .int .i64 st.m, v.c, .bool st.op]
def DV.Sl (v : DV) : Prop := ∃ a b c d e f g h i j k l, v = ⟨.slice a b c, .slice d e f, .slice g h i, .slice j k l⟩
def SPost (w : World) (G : Nat → Prop) (v : DV) (r : DS × Int) (e : Ending) (w' : World) : Prop := ∃ st' v', DV.Sl v' ∧ e = .returned (.tuple #[stV st' v', .int .i64 r.2]) ∧ Behind w v.M w' ∧ (r.2 = 0 → st' = r.1 ∧ DX 55 w' G st' v' ∧ ∀ g ∈ v'.M, g ∈ v.M ∨ w.heap.size ≤ g)
theorem behind_cellD {w x : World} {Wr : List Nat} (h : Behind w Wr x) {b o : Nat} {v : Value} (hc : w.cell? ⟨b, o, none⟩ = some v) (hn : b ∉ Wr) : x.cell? ⟨b, o, none⟩ = some v :=
  (World.cell?_of_block (a := ⟨b, o, none⟩) (h.block b (block_lt_of_cell hc) hn)).trans hc
def Off (v : DV) (a : Option Addr) : Prop := ∀ g o x, a = some ⟨g, o, x⟩ → g ∉ v.M
theorem Tryz.sizeState : (Tryz.prog.info? 67).map (·.size) = some 8 := by kernel_rfl
theorem results_cell_tmp1 {P : Program} {fn : Func} {p q : Tmp} {ty : TypeId} (h : fn.results = #[.cell p ty, .tmp q]) (tmps : Array Value) (w : World) (g : Nat) (t : TypeId) (cs : Array Value) (fr : Nat × Nat) (d : TypeDesc)
    (hp : tmps.getD p undef = .pointer (some ⟨g, 0, none⟩)) (hg : w.heap[g]? = some (.cells cs t fr))
    (hu : P.underlying ty = some d) (hd : (match d with | .struct _ | .array _ _ => true | _ => false) = true) (hi : (P.info? ty).map (·.size) = some cs.size) (v : Value) (hv : tmps.getD q undef = v) :
    (results fn tmps).run P w = .ok (.tuple #[.agg cs, v]) w := by
  have hp' : tmps[p]?.getD undef = .pointer (some ⟨g, 0, none⟩) := by simpa using hp
  have hv' : tmps[q]?.getD undef = v := by simpa using hv
  simp [results, h, hp', hv', asAddr, run_loadVar_row w g t ty cs fr d hg hu hd hi]
def put8 (w : World) (g : Nat) (a b c d e f h i : Value) : World := (((((((w.setCell ⟨g, 0, none⟩ a).setCell ⟨g, 1, none⟩ b).setCell ⟨g, 2, none⟩ c).setCell ⟨g, 3, none⟩ d).setCell ⟨g, 4, none⟩ e).setCell ⟨g, 5, none⟩ f).setCell ⟨g, 6, none⟩ h).setCell ⟨g, 7, none⟩ i
theorem eight_set {w : World} {g : Nat} {a0 b0 c0 d0 e0 f0 h0 i0 a b c d e f h i : Value} {T : TypeId} (hh : w.heap[g]? = some (.cells #[a0, b0, c0, d0, e0, f0, h0, i0] T (0, 0))) : (put8 w g a b c d e f h i).heap[g]? = some (.cells #[a, b, c, d, e, f, h, i] T (0, 0)) := by
  have h19 : (w.setCell ⟨g, 0, none⟩ a).heap[g]? = some (.cells #[a, b0, c0, d0, e0, f0, h0, i0] T (0, 0)) := heap_setCell_same _ g 0 _ _ _ hh
  have h29 : ((w.setCell ⟨g, 0, none⟩ a).setCell ⟨g, 1, none⟩ b).heap[g]? = some (.cells #[a, b, c0, d0, e0, f0, h0, i0] T (0, 0)) := heap_setCell_same _ g 1 _ _ _ h19
  have h39 : (((w.setCell ⟨g, 0, none⟩ a).setCell ⟨g, 1, none⟩ b).setCell ⟨g, 2, none⟩ c).heap[g]? = some (.cells #[a, b, c, d0, e0, f0, h0, i0] T (0, 0)) := heap_setCell_same _ g 2 _ _ _ h29
  have h49 : ((((w.setCell ⟨g, 0, none⟩ a).setCell ⟨g, 1, none⟩ b).setCell ⟨g, 2, none⟩ c).setCell ⟨g, 3, none⟩ d).heap[g]? = some (.cells #[a, b, c, d, e0, f0, h0, i0] T (0, 0)) := heap_setCell_same _ g 3 _ _ _ h39
  have h59 : (((((w.setCell ⟨g, 0, none⟩ a).setCell ⟨g, 1, none⟩ b).setCell ⟨g, 2, none⟩ c).setCell ⟨g, 3, none⟩ d).setCell ⟨g, 4, none⟩ e).heap[g]? = some (.cells #[a, b, c, d, e, f0, h0, i0] T (0, 0)) := heap_setCell_same _ g 4 _ _ _ h49
  have h69 : ((((((w.setCell ⟨g, 0, none⟩ a).setCell ⟨g, 1, none⟩ b).setCell ⟨g, 2, none⟩ c).setCell ⟨g, 3, none⟩ d).setCell ⟨g, 4, none⟩ e).setCell ⟨g, 5, none⟩ f).heap[g]? = some (.cells #[a, b, c, d, e, f, h0, i0] T (0, 0)) := heap_setCell_same _ g 5 _ _ _ h59
  have h79 : (((((((w.setCell ⟨g, 0, none⟩ a).setCell ⟨g, 1, none⟩ b).setCell ⟨g, 2, none⟩ c).setCell ⟨g, 3, none⟩ d).setCell ⟨g, 4, none⟩ e).setCell ⟨g, 5, none⟩ f).setCell ⟨g, 6, none⟩ h).heap[g]? = some (.cells #[a, b, c, d, e, f, h, i0] T (0, 0)) := heap_setCell_same _ g 6 _ _ _ h69
  have h89 : ((((((((w.setCell ⟨g, 0, none⟩ a).setCell ⟨g, 1, none⟩ b).setCell ⟨g, 2, none⟩ c).setCell ⟨g, 3, none⟩ d).setCell ⟨g, 4, none⟩ e).setCell ⟨g, 5, none⟩ f).setCell ⟨g, 6, none⟩ h).setCell ⟨g, 7, none⟩ i).heap[g]? = some (.cells #[a, b, c, d, e, f, h, i] T (0, 0)) := heap_setCell_same _ g 7 _ _ _ h79
  exact h89
theorem eight_behind {w : World} {g : Nat} {a b c d e f h i : Value} : Behind w [g] (put8 w g a b c d e f h i) :=
  ((((((behind_set.trans behind_set (by simp)).trans behind_set (by simp)).trans behind_set (by simp)).trans behind_set (by simp)).trans behind_set (by simp)).trans behind_set (by simp)).trans behind_set (by simp)
theorem below_written {B g : Nat} {w w1 w2 : World} (h : Below B w w1) (hB : Behind w1 [g] w2) (hg : B ≤ g) (hw : B ≤ w.heap.size) : Below B w w2 := h.trans (hB.below_of (fun k hk => by simp at hk; omega) (Nat.le_trans hw h.size))
def hdrX (st : DS) (a b : Int) : DS × Int := if st.begun = true then (st, 4) else if 128 < a ∨ 4096 < b then (st, 6) else ({ st with begun := true, n := a, m := b }, 0)
theorem SPost.err {w w' : World} {G : Nat → Prop} {v : DV} {st : DS} {n : Int} (hs : DV.Sl v) (hb : Below w.heap.size w w') (hn : n ≠ 0) : SPost w G v (st, n) (.returned (.tuple #[stV st v, .int .i64 n])) w' :=
  ⟨st, v, hs, rfl, (behind_of_below hb).mono (by simp), fun h => absurd h hn⟩

set_option maxHeartbeats 6400000 in
set_option maxRecDepth 100000 in
theorem xHeader (w : World) (G : Nat → Prop) (st : DS) (v : DV) (h : DX 55 w G st v) (W : List (List UInt8)) (hn : W.length ≤ 1100000) (x2 x3 : List UInt8) (h2 : W[2]? = some x2) (h3 : W[3]? = some x3) (hl2 : x2.length ≤ 1100000) (hl3 : x3.length ≤ 1100000) (a : Option Addr) (c : Nat) (hA : AtN w.heap.size w a (strs W)) :
    Calls Tryz.prog 45 #[stV st v, .slice a W.length c] w (SPost w G v (hdrX st (numX x2) (numX x3))) := by
  obtain ⟨vL, vS, vW, vc⟩ := v
  obtain ⟨cl0, hcl0, _⟩ := h.rL
  obtain ⟨pL, cL, e1⟩ := hcl0.slice
  obtain ⟨pS, cS, e2⟩ := h.rS.slice
  obtain ⟨pW, cW, e3⟩ := h.rW.slice
  obtain ⟨pc, cc, e4⟩ := h.rc.slice
  simp only at e1 e2 e3 e4
  subst e1
  subst e2
  subst e3
  subst e4
  clear hcl0
  have H := Lib.hid h
  have HA := Lib.hid hA
  have hsl : DV.Sl ⟨.slice pL st.L.length cL, .slice pS st.sh.length cS, .slice pW st.ws.length cW, .slice pc st.cl.length cc⟩ := ⟨_, _, _, _, _, _, _, _, _, _, _, _, rfl⟩
  have HSL := Lib.hid hsl
  obtain ⟨b0, o0, hb0, rfl, k2⟩ := hA 2 _ (strs_get W 2 _ h2)
  have k3 : w.cell? ⟨b0, o0 + 3, none⟩ = some (.string ⟨x3.toArray⟩) := by
    obtain ⟨_, _, _, e, k⟩ := hA 3 _ (strs_get W 3 _ h3)
    cases e
    exact k
  have hW3 : 3 < W.length := by
    rcases Nat.lt_or_ge 3 W.length with h' | h'
    · exact h'
    · rw [List.getElem?_eq_none h'] at h3; cases h3
  have K2 := Lib.hid k2
  have K3 := Lib.hid k3
  have N2 := xNumber x2 hl2
  have N3 := xNumber x3 hl3
  have i2 := numX_in x2
  have i3 := numX_in x3
  obtain ⟨R, hR⟩ : ∃ R : DS × Int, R = hdrX st (numX x2) (numX x3) := ⟨_, rfl⟩
  rw [← hR]
  obtain ⟨Post, hPost⟩ : ∃ P : Ending → World → Prop, P = SPost w G ⟨.slice pL st.L.length cL, .slice pS st.sh.length cS, .slice pW st.ws.length cW, .slice pc st.cl.length cc⟩ R := ⟨_, rfl⟩
  rw [← hPost]
  have HP := Lib.hid hPost
  have HR := Lib.hid hR
  clear hPost hR h hA h2 h3 k2 k3 hsl
  generalize numX x2 = z2 at *
  generalize numX x3 = z3 at *
  generalize (⟨x2.toArray⟩ : ByteArray) = y2 at *
  generalize (⟨x3.toArray⟩ : ByteArray) = y3 at *
  unfold stV
  go_enter Tryz.func45, Tryz.ntmps45
  go_upto_region 1 with fail
  refine wp_gen ?_
  intro w1 hw1
  have S1 := Lib.hid (show w1.heap[w.heap.size]? = some (.cells #[.int .i64 st.n, .slice pL st.L.length cL, .slice pS st.sh.length cS, .slice pW st.ws.length cW, .bool st.begun, .int .i64 st.m, .slice pc st.cl.length cc, .bool st.op] 67 (0, 0)) by rw [hw1]; exact new_two1 _ _ _)
  have O1 := Lib.hid (show w1.heap[w.heap.size + 1]? = some (.cells #[.int .i64 0, .slice none 0 0, .slice none 0 0, .slice none 0 0, .bool false, .int .i64 0, .slice none 0 0, .bool false] 67 (0, 0)) by rw [hw1]; exact new_two2 _ _ _)
  have HB1 := Lib.hid (show Below w.heap.size w w1 by rw [hw1]; exact below_two _ _ _)
  clear hw1
  cases hbg : st.begun with
  | true =>
    have HF := Lib.hid (HR.out.trans (if_pos hbg))
    have S2 := S1.out
    rw [hbg] at S2
    have q0 := blk_cell S2 0 rfl
    have q1 := blk_cell S2 1 rfl
    have q2 := blk_cell S2 2 rfl
    have q3 := blk_cell S2 3 rfl
    have q4 := blk_cell S2 4 rfl
    have q5 := blk_cell S2 5 rfl
    have q6 := blk_cell S2 6 rfl
    have q7 := blk_cell S2 7 rfl
    have o0 := blk_cell O1.out 0 rfl
    have of0 := blk_free O1.out 0
    have o1 := blk_cell O1.out 1 rfl
    have of1 := blk_free O1.out 1
    have o2 := blk_cell O1.out 2 rfl
    have of2 := blk_free O1.out 2
    have o3 := blk_cell O1.out 3 rfl
    have of3 := blk_free O1.out 3
    have o4 := blk_cell O1.out 4 rfl
    have of4 := blk_free O1.out 4
    have o5 := blk_cell O1.out 5 rfl
    have of5 := blk_free O1.out 5
    have o6 := blk_cell O1.out 6 rfl
    have of6 := blk_free O1.out 6
    have o7 := blk_cell O1.out 7 rfl
    have of7 := blk_free O1.out 7
    have HBG := Lib.hid hbg
    clear S2 hbg
    go_wp2_with fail
    refine bodyPost_ret (results_cell_tmp1 (p := 4) (q := 5) rfl _ _ (w.heap.size + 1) _ _ (0, 0) _ rfl (eight_set O1.out) Tryz.underlying67 rfl Tryz.sizeState _ rfl) rfl ?_
    rw [HP.out, HF.out, ← HBG.out]
    exact SPost.err (n := 4) HSL.out (below_written HB1.out eight_behind (by omega) (Nat.le_refl _)) (by simp)
  | false =>
    have HF := Lib.hid (HR.out.trans (if_neg (by rw [hbg]; simp)))
    have S2 := S1.out
    rw [hbg] at S2
    have S2' := Lib.hid S2
    have q4 := blk_cell S2 4 rfl
    have k2 := below_cell HB1.out hb0 K2.out
    have HBG := Lib.hid hbg
    clear S2 hbg S1
    go_wp2_with fail
    refine (N2 w1).mono ?_
    rintro e w2 ⟨rfl, hB⟩
    have S3 := Lib.hid ((behind_of_below hB).keep S2'.out (by simp))
    have O3 := Lib.hid ((behind_of_below hB).keep O1.out (by simp))
    have HB2 := Lib.hid (HB1.out.trans (hB.mono HB1.out.size))
    have k3 := below_cell HB2.out hb0 K3.out
    have k2' := below_cell HB2.out hb0 K2.out
    clear hB k2 q4
    by_cases hz2 : 128 < z2
    · have hd : decide (128 < z2) = true := decide_eq_true hz2
      have hd' : decide (z2 > 128) = true := hd
      have HF2 := Lib.hid (HF.out.trans (if_pos (.inl hz2)))
      have q0 := blk_cell S3.out 0 rfl
      have q1 := blk_cell S3.out 1 rfl
      have q2 := blk_cell S3.out 2 rfl
      have q3 := blk_cell S3.out 3 rfl
      have q4 := blk_cell S3.out 4 rfl
      have q5 := blk_cell S3.out 5 rfl
      have q6 := blk_cell S3.out 6 rfl
      have q7 := blk_cell S3.out 7 rfl
      have o0 := blk_cell O3.out 0 rfl
      have of0 := blk_free O3.out 0
      have o1 := blk_cell O3.out 1 rfl
      have of1 := blk_free O3.out 1
      have o2 := blk_cell O3.out 2 rfl
      have of2 := blk_free O3.out 2
      have o3 := blk_cell O3.out 3 rfl
      have of3 := blk_free O3.out 3
      have o4 := blk_cell O3.out 4 rfl
      have of4 := blk_free O3.out 4
      have o5 := blk_cell O3.out 5 rfl
      have of5 := blk_free O3.out 5
      have o6 := blk_cell O3.out 6 rfl
      have of6 := blk_free O3.out 6
      have o7 := blk_cell O3.out 7 rfl
      have of7 := blk_free O3.out 7
      clear N2 N3 hz2
      go_wp2_with fail
      refine bodyPost_ret (results_cell_tmp1 (p := 4) (q := 5) rfl _ _ (w.heap.size + 1) _ _ (0, 0) _ rfl (eight_set O3.out) Tryz.underlying67 rfl Tryz.sizeState _ rfl) rfl ?_
      rw [HP.out, HF2.out, ← HBG.out]
      exact SPost.err (n := 6) HSL.out (below_written HB2.out eight_behind (by omega) (Nat.le_refl _)) (by simp)
    have hd : decide (128 < z2) = false := decide_eq_false hz2
    have hd' : decide (z2 > 128) = false := hd
    go_wp2_with fail
    refine (N3 w2).mono ?_
    rintro e w3 ⟨rfl, hB⟩
    have S4 := Lib.hid ((behind_of_below hB).keep S3.out (by simp))
    have O4 := Lib.hid ((behind_of_below hB).keep O3.out (by simp))
    have HB3 := Lib.hid (HB2.out.trans (hB.mono HB2.out.size))
    clear hB k3 k2'
    by_cases hz3 : 4096 < z3
    · have hd3 : decide (4096 < z3) = true := decide_eq_true hz3
      have hd3' : decide (z3 > 4096) = true := hd3
      have HF2 := Lib.hid (HF.out.trans (if_pos (.inr hz3)))
      have q0 := blk_cell S4.out 0 rfl
      have q1 := blk_cell S4.out 1 rfl
      have q2 := blk_cell S4.out 2 rfl
      have q3 := blk_cell S4.out 3 rfl
      have q4 := blk_cell S4.out 4 rfl
      have q5 := blk_cell S4.out 5 rfl
      have q6 := blk_cell S4.out 6 rfl
      have q7 := blk_cell S4.out 7 rfl
      have o0 := blk_cell O4.out 0 rfl
      have of0 := blk_free O4.out 0
      have o1 := blk_cell O4.out 1 rfl
      have of1 := blk_free O4.out 1
      have o2 := blk_cell O4.out 2 rfl
      have of2 := blk_free O4.out 2
      have o3 := blk_cell O4.out 3 rfl
      have of3 := blk_free O4.out 3
      have o4 := blk_cell O4.out 4 rfl
      have of4 := blk_free O4.out 4
      have o5 := blk_cell O4.out 5 rfl
      have of5 := blk_free O4.out 5
      have o6 := blk_cell O4.out 6 rfl
      have of6 := blk_free O4.out 6
      have o7 := blk_cell O4.out 7 rfl
      have of7 := blk_free O4.out 7
      clear N2 N3 hz2 hz3
      go_wp2_with fail
      refine bodyPost_ret (results_cell_tmp1 (p := 4) (q := 5) rfl _ _ (w.heap.size + 1) _ _ (0, 0) _ rfl (eight_set O4.out) Tryz.underlying67 rfl Tryz.sizeState _ rfl) rfl ?_
      rw [HP.out, HF2.out, ← HBG.out]
      exact SPost.err (n := 6) HSL.out (below_written HB3.out eight_behind (by omega) (Nat.le_refl _)) (by simp)
    have hd3 : decide (4096 < z3) = false := decide_eq_false hz3
    have hd3' : decide (z3 > 4096) = false := hd3
    have HF2 := Lib.hid (HF.out.trans (if_neg (by omega)))
    have q4 := blk_cell S4.out 4 rfl
    have f4 := blk_free S4.out 4
    have hs3 : w.heap.size < w3.heap.size := lt_of_heap S4.out
    have k2 := below_cell HB3.out hb0 K2.out
    go_wp2_with fail
    refine (N2 _).mono ?_
    rintro e w4 ⟨rfl, hB⟩
    have S5 := Lib.hid ((behind_of_below hB).keep (heap_setCell_same _ w.heap.size 4 _ _ _ S4.out) (by simp))
    have O5 := Lib.hid ((behind_of_below hB).keep ((heap_setCell_other _ _ _ _ (show w.heap.size + 1 ≠ w.heap.size by omega)).trans O4.out) (by simp))
    have HB4 := Lib.hid ((HB3.out.setCell (p := ⟨w.heap.size, 4, none⟩) (Nat.le_refl _) (.bool true)).trans (hB.mono (by simp <;> omega)))
    clear hB q4 f4 k2
    have q0 := blk_cell S5.out 0 rfl
    have f0 := blk_free S5.out 0
    have k3 := below_cell HB4.out hb0 K3.out
    go_wp2_with fail
    refine (N3 _).mono ?_
    rintro e w5 ⟨rfl, hB⟩
    have S6 := Lib.hid ((behind_of_below hB).keep (heap_setCell_same _ w.heap.size 0 _ _ _ S5.out) (by simp))
    have O6 := Lib.hid ((behind_of_below hB).keep ((heap_setCell_other _ _ _ _ (show w.heap.size + 1 ≠ w.heap.size by omega)).trans O5.out) (by simp))
    have HB5 := Lib.hid ((HB4.out.setCell (p := ⟨w.heap.size, 0, none⟩) (Nat.le_refl _) (.int .i64 z2)).trans (hB.mono (by have := HB4.out.size; simp <;> omega)))
    clear hB q0 f0 k3
    have q5 := blk_cell S6.out 5 rfl
    have f5 := blk_free S6.out 5
    go_upto_region 8 with fail
    refine wp_gen ?_
    intro w6 hw6
    have S7 := Lib.hid (show w6.heap[w.heap.size]? = some (.cells #[.int .i64 z2, .slice pL st.L.length cL, .slice pS st.sh.length cS, .slice pW st.ws.length cW, .bool true, .int .i64 z3, .slice pc st.cl.length cc, .bool st.op] 67 (0, 0)) by rw [hw6]; exact heap_setCell_same _ w.heap.size 5 _ _ _ S6.out)
    have O7 := Lib.hid (show w6.heap[w.heap.size + 1]? = some (.cells #[.int .i64 0, .slice none 0 0, .slice none 0 0, .slice none 0 0, .bool false, .int .i64 0, .slice none 0 0, .bool false] 67 (0, 0)) by rw [hw6]; exact (heap_setCell_other _ _ _ _ (show w.heap.size + 1 ≠ w.heap.size by omega)).trans O6.out)
    have HB6 := Lib.hid (show Below w.heap.size w w6 by rw [hw6]; exact HB5.out.setCell (Nat.le_refl _) _)
    clear hw6 q5 f5 N2 N3
    have q0 := blk_cell S7.out 0 rfl
    have q1 := blk_cell S7.out 1 rfl
    have q2 := blk_cell S7.out 2 rfl
    have q3 := blk_cell S7.out 3 rfl
    have q4 := blk_cell S7.out 4 rfl
    have q5 := blk_cell S7.out 5 rfl
    have q6 := blk_cell S7.out 6 rfl
    have q7 := blk_cell S7.out 7 rfl
    have o0 := blk_cell O7.out 0 rfl
    have of0 := blk_free O7.out 0
    have o1 := blk_cell O7.out 1 rfl
    have of1 := blk_free O7.out 1
    have o2 := blk_cell O7.out 2 rfl
    have of2 := blk_free O7.out 2
    have o3 := blk_cell O7.out 3 rfl
    have of3 := blk_free O7.out 3
    have o4 := blk_cell O7.out 4 rfl
    have of4 := blk_free O7.out 4
    have o5 := blk_cell O7.out 5 rfl
    have of5 := blk_free O7.out 5
    have o6 := blk_cell O7.out 6 rfl
    have of6 := blk_free O7.out 6
    have o7 := blk_cell O7.out 7 rfl
    have of7 := blk_free O7.out 7
    go_wp2_with fail
    refine bodyPost_ret (results_cell_tmp1 (p := 4) (q := 5) rfl _ _ (w.heap.size + 1) _ _ (0, 0) _ rfl (eight_set O7.out) Tryz.underlying67 rfl Tryz.sizeState _ rfl) rfl ?_
    rw [HP.out, HF2.out]
    have hB9 := below_written HB6.out (eight_behind (w := w6) (g := w.heap.size + 1) (a := .int .i64 z2) (b := .slice pL st.L.length cL) (c := .slice pS st.sh.length cS) (d := .slice pW st.ws.length cW) (e := .bool true) (f := .int .i64 z3) (h := .slice pc st.cl.length cc) (i := .bool st.op)) (by omega) (Nat.le_refl _)
    exact ⟨{ st with begun := true, n := z2, m := z3 }, _, HSL.out, rfl, (behind_of_below hB9).mono (by simp), fun _ => ⟨rfl, (H.out.keepB hB9).same rfl rfl rfl rfl, fun g hg => .inl hg⟩⟩
end Go.Proofs.YtajjgfiojlagmaaGreatDoor

/- The reference's shown variables. -/
namespace Go.Proofs.YtajjgfiojlagmaaGreatDoor
open Go.RowKit

set_option maxHeartbeats 6400000 in
set_option maxRecDepth 100000 in
theorem xShow (w : World) (G : Nat → Prop) (hG : ∀ g, w.heap.size ≤ g → G g) (st : DS) (v : DV) (h : DX 55 w G st v) (hrg : 0 ≤ st.n ∧ st.n ≤ 128) (hsl : st.sh.length ≤ 10000000) (W : List (List UInt8)) (h4 : 4 ≤ W.length) (hn : W.length ≤ 1100000) (hl : ∀ x ∈ W, x.length ≤ 1100000) (hpos : ∀ x ∈ (W.take (W.length - 1)).drop 3, 1 ≤ numX x) (a : Option Addr) (c : Nat) (hA : AtN w.heap.size w a (strs W)) (hoff : Off v a) :
    Calls Tryz.prog 46 #[stV st v, .slice a W.length c] w (SPost w G v (showGo st (((W.take (W.length - 1)).drop 3).map numZ))) := by
  obtain ⟨vL, vS, vW, vc⟩ := v
  obtain ⟨cl0, hcl0, _⟩ := h.rL
  obtain ⟨pL, cL, e1⟩ := hcl0.slice
  obtain ⟨pS, cS, e2⟩ := h.rS.slice
  obtain ⟨pW, cW, e3⟩ := h.rW.slice
  obtain ⟨pc, cc, e4⟩ := h.rc.slice
  simp only at e1 e2 e3 e4
  subst e1
  subst e2
  subst e3
  subst e4
  clear hcl0
  have H := Lib.hid h
  have HA := Lib.hid hA
  obtain ⟨R, hR⟩ : ∃ R : DS × Int, R = (showGo st (((W.take (W.length - 1)).drop 3).map numZ)) := ⟨_, rfl⟩
  rw [← hR]
  obtain ⟨Post, hPost⟩ : ∃ P : Ending → World → Prop, P = SPost w G ⟨.slice pL st.L.length cL, .slice pS st.sh.length cS, .slice pW st.ws.length cW, .slice pc st.cl.length cc⟩ R := ⟨_, rfl⟩
  rw [← hPost]
  have HP := Lib.hid hPost
  obtain ⟨i0, ii, iz0, iz1, iz2⟩ := info_parts Tryz.infoIntD
  have II := Lib.hid ii
  have IZ0 := Lib.hid iz0
  have IZ1 := Lib.hid iz1
  have IZ2 := Lib.hid iz2
  clear ii iz0 iz1 iz2
  obtain ⟨Z, hZ⟩ : ∃ Z, Z = (W.take (W.length - 1)).drop 3 := ⟨_, rfl⟩
  have hZL : W.length = Z.length + 4 := by rw [hZ, List.length_drop, List.length_take]; omega
  obtain ⟨b0, o0, hb0, e0, _⟩ := hA 0 _ (strs_get W 0 (W.getD 0 []) (by simp [List.getD, show 0 < W.length by omega]))
  subst e0
  have HOFF := Lib.hid (hoff b0 o0 none rfl)
  have HZA := Lib.hid (show ∀ (j : Nat) (x : List UInt8), Z[j]? = some x → w.cell? ⟨b0, o0 + (j + 3), none⟩ = some (.string ⟨x.toArray⟩) ∧ x.length ≤ 1100000 ∧ 1 ≤ numX x from fun j x hj => by
    have hm : x ∈ (W.take (W.length - 1)).drop 3 := by rw [← hZ]; exact List.mem_of_getElem? hj
    have hj2 : W[j + 3]? = some x := by
      rw [hZ, List.getElem?_drop, List.getElem?_take] at hj
      split at hj
      · rw [Nat.add_comm]; exact hj
      · cases hj
    obtain ⟨_, _, _, e, k⟩ := hA (j + 3) _ (strs_get W (j + 3) x hj2)
    cases e
    exact ⟨k, hl x (List.mem_of_getElem? hj2), hpos x hm⟩)
  rw [← hZ] at hR
  obtain ⟨n, hnn⟩ : ∃ n, n = Z.length := ⟨_, rfl⟩
  have HNN := Lib.hid hnn
  rw [← hnn] at hZL
  rw [hZL]
  have hnb : n ≤ 1100000 := by omega
  have HR := Lib.hid hR
  clear hPost hR h hA hZ hl hpos hn hZL h4 hnn HA hoff
  unfold stV
  go_enter Tryz.func46, Tryz.ntmps46
  go_upto_region 1 with fail
  refine wp_gen ?_
  intro w1 hw1
  have S1 := Lib.hid (show w1.heap[w.heap.size]? = some (.cells #[.int .i64 st.n, .slice pL st.L.length cL, .slice pS st.sh.length cS, .slice pW st.ws.length cW, .bool st.begun, .int .i64 st.m, .slice pc st.cl.length cc, .bool st.op] 67 (0, 0)) by rw [hw1]; exact new_two1 _ _ _)
  have O1 := Lib.hid (show w1.heap[w.heap.size + 1]? = some (.cells #[.int .i64 0, .slice none 0 0, .slice none 0 0, .slice none 0 0, .bool false, .int .i64 0, .slice none 0 0, .bool false] 67 (0, 0)) by rw [hw1]; exact new_two2 _ _ _)
  have HB1 := Lib.hid (show Below w.heap.size w w1 by rw [hw1]; exact below_two _ _ _)
  clear hw1
  obtain ⟨G1, hG1⟩ : ∃ G1 : Nat → Prop, G1 = fun g => G g ∧ (g < w.heap.size ∨ w.heap.size + 2 ≤ g) := ⟨_, rfl⟩
  have HG0 := Lib.hid (show ∀ g, w.heap.size + 2 ≤ g → G1 g from fun g hg => by rw [hG1]; exact ⟨hG g (by omega), .inr hg⟩)
  have HGS := Lib.hid (show ∀ g, g ∈ [w.heap.size] ∨ g ∈ [w.heap.size + 1] → ¬ G1 g from fun g hg h1 => by rw [hG1] at h1; have := h1.2; simp at hg; omega)
  have HGG := Lib.hid (show ∀ g, G1 g → G g from fun g h1 => by rw [hG1] at h1; exact h1.1)
  have HD1 := Lib.hid ((H.out.narrow.mono (G' := G1) (fun g h1 => by rw [hG1]; exact ⟨h1.1, .inl h1.2⟩)).keepB HB1.out)
  clear hG1
  have hM0 := Lib.hid H.out.lt
  go_wp2_with fail
  go_loopw [6] (fun t6 wr => ∃ (j : Nat) (s1 : DS) (v1 : DV), j ≤ n ∧ t6 = .int .i64 (j + 3 : Nat) ∧ s1.sh.length ≤ 10000000 + j ∧ Hid (s1.n = st.n) ∧ Hid (R = showGo s1 ((Z.drop j).map numZ)) ∧ Hid (wr.heap[w.heap.size]? = some (.cells #[.int .i64 s1.n, v1.L, v1.S, v1.W, .bool s1.begun, .int .i64 s1.m, v1.c, .bool s1.op] 67 (0, 0))) ∧ Hid (wr.heap[w.heap.size + 1]? = some (.cells #[.int .i64 0, .slice none 0 0, .slice none 0 0, .slice none 0 0, .bool false, .int .i64 0, .slice none 0 0, .bool false] 67 (0, 0))) ∧ Hid (DX 55 wr G1 s1 v1) ∧ Hid (∀ g ∈ v1.M, g ∈ DV.M ⟨.slice pL st.L.length cL, .slice pS st.sh.length cS, .slice pW st.ws.length cW, .slice pc st.cl.length cc⟩ ∨ w.heap.size + 2 ≤ g) ∧ Hid (Behind w (DV.M ⟨.slice pL st.L.length cL, .slice pS st.sh.length cS, .slice pW st.ws.length cW, .slice pc st.cl.length cc⟩) wr)) (fun t6 _ => (n + 3) - (intOf t6).toNat)
  case atStart => exact ⟨0, st, ⟨.slice pL st.L.length cL, .slice pS st.sh.length cS, .slice pW st.ws.length cW, .slice pc st.cl.length cc⟩, Nat.zero_le _, rfl, by omega, rfl, HR.out, S1.out, O1.out, HD1.out, fun g hg => .inl hg, (behind_of_below HB1.out).mono (by simp)⟩
  case round =>
    obtain ⟨j, s1, v1, hj, rfl, hsj, HN1, HG, HS, HO, HD, HV, HBh⟩ := hrel
    obtain ⟨vL1, vS1, vW1, vc1⟩ := v1
    obtain ⟨cl1, hcl1, _⟩ := HD.out.rL
    obtain ⟨pL1, cL1, e1⟩ := hcl1.slice
    obtain ⟨pS1, cS1, e2⟩ := HD.out.rS.slice
    obtain ⟨pW1, cW1, e3⟩ := HD.out.rW.slice
    obtain ⟨pc1, cc1, e4⟩ := HD.out.rc.slice
    simp only at e1 e2 e3 e4
    subst e1
    subst e2
    subst e3
    subst e4
    clear hcl1
    have hwr : w.heap.size + 2 ≤ wr.heap.size := by have := lt_of_heap HO.out; omega
    simp only at *
    by_cases hlt : j < n
    · have hdd : decide (j + 3 < n + 4 - 1) = true := decide_eq_true (by omega)
      have hlt2 : ((j : Int) + 3) < (n : Int) + 3 := by omega
      have hjz : j < Z.length := by have := HNN.out; omega
      have hyy : Z[j]? = some (Z.getD j []) := by simp [List.getD, hjz]
      have hdr : Z.drop j = Z.getD j [] :: Z.drop (j + 1) := by rw [List.drop_eq_getElem_cons hjz]; simp [List.getD, hjz]
      obtain ⟨kz, hzl, hzp⟩ := HZA.out j _ hyy
      have kz2 : wr.cell? ⟨b0, o0 + (j + 3), none⟩ = some (.string ⟨(Z.getD j []).toArray⟩) := behind_cellD HBh.out kz HOFF.out
      have KN := xNumber (Z.getD j []) hzl
      have hin := numX_in (Z.getD j [])
      have hZX : numZ (Z.getD j []) = numX (Z.getD j []) := by have := numX_max (Z.getD j []); omega
      have HG2 := Lib.hid (show R = _ from HG.out.trans (by rw [hdr, List.map_cons, showGo_cons, hZX]))
      have HDP := HD.out
      obtain ⟨a9, c9, e9, hle9, hat9⟩ := rowV_at2 HD.out.rS
      cases e9
      have HAT := Lib.hid hat9
      generalize Z.getD j [] = x at *
      generalize (⟨x.toArray⟩ : ByteArray) = y at *
      generalize numX x = z at *
      have SZ := HS.out
      clear kz hyy hdr hjz hat9 HDP
      go_wp2_with fail
      refine (KN wr).mono ?_
      rintro e w2 ⟨rfl, hB⟩
      have KI := xIn s1.sh z w2.heap.size pS1 cS1 (by omega) w2 (HAT.out.below hB (Nat.le_refl _) |>.mono hB.size) (Nat.le_refl _)
      have HBa := Lib.hid hB
      have q2 := blk_cell ((behind_of_below hB).keep SZ (by simp)) 2 rfl
      clear hB KN kz2 SZ
      obtain ⟨yes, hyes⟩ : ∃ yes, yes = decide (z ∈ s1.sh) := ⟨_, rfl⟩
      rw [← hyes] at KI
      have HYS := Lib.hid hyes
      clear hyes
      go_wp2_with fail
      refine (KI).mono ?_
      rintro e w3 ⟨rfl, hB⟩
      have HBb := Lib.hid (HBa.out.trans (hB.mono HBa.out.size))
      have S3 := Lib.hid ((behind_of_below HBb.out).keep HS.out (by simp))
      have O3 := Lib.hid ((behind_of_below HBb.out).keep HO.out (by simp))
      have HBw := Lib.hid (HBh.out.trans (behind_of_below HBb.out) (fun k hk => by simp at hk))
      clear hB KI q2 HBa
      cases yes with
      | true =>
        have hin1 : z ∈ s1.sh := of_decide_eq_true HYS.out.symm
        have HF := Lib.hid (HG2.out.trans (if_pos hin1))
        clear hin1
        have q0 := blk_cell S3.out 0 rfl
        have q1 := blk_cell S3.out 1 rfl
        have q2 := blk_cell S3.out 2 rfl
        have q3 := blk_cell S3.out 3 rfl
        have q4 := blk_cell S3.out 4 rfl
        have q5 := blk_cell S3.out 5 rfl
        have q6 := blk_cell S3.out 6 rfl
        have q7 := blk_cell S3.out 7 rfl
        have o0 := blk_cell O3.out 0 rfl
        have of0 := blk_free O3.out 0
        have o1 := blk_cell O3.out 1 rfl
        have of1 := blk_free O3.out 1
        have o2 := blk_cell O3.out 2 rfl
        have of2 := blk_free O3.out 2
        have o3 := blk_cell O3.out 3 rfl
        have of3 := blk_free O3.out 3
        have o4 := blk_cell O3.out 4 rfl
        have of4 := blk_free O3.out 4
        have o5 := blk_cell O3.out 5 rfl
        have of5 := blk_free O3.out 5
        have o6 := blk_cell O3.out 6 rfl
        have of6 := blk_free O3.out 6
        have o7 := blk_cell O3.out 7 rfl
        have of7 := blk_free O3.out 7
        go_wp2_with fail
        refine bodyPost_ret (results_cell_tmp1 (p := 4) (q := 5) rfl _ _ (w.heap.size + 1) _ _ (0, 0) _ rfl (eight_set O3.out) Tryz.underlying67 rfl Tryz.sizeState _ rfl) rfl ?_
        rw [HP.out, HF.out]
        exact ⟨s1, _, ⟨_, _, _, _, _, _, _, _, _, _, _, _, rfl⟩, rfl, HBw.out.trans eight_behind (fun k hk => .inr (by simp at hk; omega)), fun h => absurd h (by simp)⟩
      | false =>
      have hin1 : ¬ z ∈ s1.sh := of_decide_eq_false HYS.out.symm
      have HG3 := Lib.hid (HG2.out.trans (if_neg hin1))
      have KV := xValid z s1.n (by have := HN1.out; omega) (by have := HN1.out; omega)
      have q0 := blk_cell S3.out 0 rfl
      have hvd : validD z s1.n = decide (z ≤ s1.n) := by
        have := HN1.out
        by_cases hle : z ≤ s1.n
        · rw [decide_eq_true hle]; exact validD_iff.2 ⟨by omega, by omega, hle⟩
        · rw [decide_eq_false hle, Bool.eq_false_iff]; intro hv; exact hle (validD_iff.1 hv).2.2
      rw [hvd] at KV
      clear hvd hin1 HYS HG2
      go_wp2_with fail
      refine (KV w3).mono ?_
      rintro e w4 ⟨rfl, hB⟩
      have HBc := Lib.hid (HBb.out.trans (hB.mono HBb.out.size))
      have S4 := Lib.hid ((behind_of_below hB).keep S3.out (by simp))
      have O4 := Lib.hid ((behind_of_below hB).keep O3.out (by simp))
      have HBx := Lib.hid (HBw.out.trans (behind_of_below hB) (fun k hk => by simp at hk))
      have HD4 := Lib.hid (HD.out.keepB HBc.out)
      clear hB KV q0 S3 O3 HBw HBb
      by_cases hle : z ≤ s1.n
      case neg =>
        have hd9 : decide (z ≤ s1.n) = false := decide_eq_false hle
        have HF := Lib.hid (HG3.out.trans (if_pos (by omega)))
        clear hle
        have q0 := blk_cell S4.out 0 rfl
        have q1 := blk_cell S4.out 1 rfl
        have q2 := blk_cell S4.out 2 rfl
        have q3 := blk_cell S4.out 3 rfl
        have q4 := blk_cell S4.out 4 rfl
        have q5 := blk_cell S4.out 5 rfl
        have q6 := blk_cell S4.out 6 rfl
        have q7 := blk_cell S4.out 7 rfl
        have o0 := blk_cell O4.out 0 rfl
        have of0 := blk_free O4.out 0
        have o1 := blk_cell O4.out 1 rfl
        have of1 := blk_free O4.out 1
        have o2 := blk_cell O4.out 2 rfl
        have of2 := blk_free O4.out 2
        have o3 := blk_cell O4.out 3 rfl
        have of3 := blk_free O4.out 3
        have o4 := blk_cell O4.out 4 rfl
        have of4 := blk_free O4.out 4
        have o5 := blk_cell O4.out 5 rfl
        have of5 := blk_free O4.out 5
        have o6 := blk_cell O4.out 6 rfl
        have of6 := blk_free O4.out 6
        have o7 := blk_cell O4.out 7 rfl
        have of7 := blk_free O4.out 7
        go_wp2_with fail
        refine bodyPost_ret (results_cell_tmp1 (p := 4) (q := 5) rfl _ _ (w.heap.size + 1) _ _ (0, 0) _ rfl (eight_set O4.out) Tryz.underlying67 rfl Tryz.sizeState _ rfl) rfl ?_
        rw [HP.out, HF.out]
        exact ⟨s1, _, ⟨_, _, _, _, _, _, _, _, _, _, _, _, rfl⟩, rfl, HBx.out.trans eight_behind (fun k hk => .inr (by simp at hk; omega)), fun h => absurd h (by simp)⟩
      have hd9 : decide (z ≤ s1.n) = true := decide_eq_true hle
      have HG4 := Lib.hid (HG3.out.trans (if_neg (by omega)))
      have hw4 : w.heap.size + 2 ≤ w4.heap.size := by have := lt_of_heap O4.out; omega
      clear hle HG3
      have q2 := blk_cell S4.out 2 rfl
      go_wp2_with (at_builtin; refine wpList_append_row _ rfl _ _ 25 rfl 3 i0 _ 1 8 Tryz.underlying25 II.out IZ0.out IZ1.out IZ2.out rfl _ _ _ rfl (HD4.out.rS.keep (behind_of_below (below_one w4 _)) (by simp)) w4.heap.size 1 1 [.int .i64 z] 3 rfl (new_one w4 _) rfl (by intro u hu; simp at hu; subst hu; rfl) (by omega) (by unfold maxLen; omega) (by omega) ?_)
      intro v9 w9 hr9 hB9 hn9
      obtain ⟨p9, k9, e9⟩ := hr9.slice
      subst e9
      have hn9' : ∀ g ∈ rowBlk (.slice p9 (s1.sh.length + 1) k9), g ∈ rowBlk (.slice pS1 s1.sh.length cS1) ∨ w4.heap.size ≤ g := fun g hg => (hn9 g hg).imp id (fun h => by first | omega | (simp at h; omega))
      have h09 : Behind w4 (rowBlk (.slice pS1 s1.sh.length cS1)) w9 := ((behind_of_below (below_one w4 _)).mono (by simp)).trans hB9 (fun k hk => .inl hk)
      have hD9 := HD4.out.appS (x := z) (vS := .slice p9 (s1.sh.length + 1) k9) (fun g hg => HG0.out g (by omega)) h09 hr9 hn9'
      have hSM : ∀ g ∈ rowBlk (.slice pS1 s1.sh.length cS1), g ∈ DV.M ⟨.slice pL1 s1.L.length cL1, .slice pS1 s1.sh.length cS1, .slice pW1 s1.ws.length cW1, .slice pc1 s1.cl.length cc1⟩ := fun g hg => DV.mem.2 (.inr (.inl hg))
      have hnS : w.heap.size ∉ rowBlk (.slice pS1 s1.sh.length cS1) := fun hm => (HV.out _ (hSM _ hm)).elim (fun e => by have := H.out.lt _ e; omega) (fun e => by omega)
      have hnO : w.heap.size + 1 ∉ rowBlk (.slice pS1 s1.sh.length cS1) := fun hm => (HV.out _ (hSM _ hm)).elim (fun e => by have := H.out.lt _ e; omega) (fun e => by omega)
      have S9 := Lib.hid (h09.keep S4.out hnS)
      have O9 := Lib.hid (h09.keep O4.out hnO)
      have HB9 := Lib.hid (HBx.out.trans h09 (fun g hg => (HV.out g (hSM g hg)).elim .inl (fun e => .inr (by omega))))
      have HD9 := Lib.hid hD9
      have HV9 := Lib.hid (show ∀ g ∈ DV.M ⟨.slice pL1 s1.L.length cL1, .slice p9 (s1.sh.length + 1) k9, .slice pW1 s1.ws.length cW1, .slice pc1 s1.cl.length cc1⟩, g ∈ DV.M ⟨.slice pL st.L.length cL, .slice pS st.sh.length cS, .slice pW st.ws.length cW, .slice pc st.cl.length cc⟩ ∨ w.heap.size + 2 ≤ g from fun g hg => by
        rcases DV.mem.1 hg with hg | hg | hg | hg
        · exact HV.out g (DV.mem.2 (.inl hg))
        · exact (hn9' g hg).elim (fun e => HV.out g (hSM g e)) (fun e => .inr (by omega))
        · exact HV.out g (DV.mem.2 (.inr (.inr (.inl hg))))
        · exact HV.out g (DV.mem.2 (.inr (.inr (.inr hg)))))
      have hsz9 := h09.size
      clear hr9 hB9 hn9 hn9' h09 hD9 hSM hnS hnO q2
      have q2 := blk_cell S9.out 2 rfl
      have f2 := blk_free S9.out 2
      go_wp2_with fail
      go_roundw
      case rel =>
        have hset : Behind w9 [w.heap.size] (w9.setCell ⟨w.heap.size, 2, none⟩ (.slice p9 (s1.sh.length + 1) k9)) := behind_set
        exact ⟨j + 1, { s1 with sh := s1.sh ++ [z] }, ⟨_, .slice p9 (s1.sh.length + 1) k9, _, _⟩, by omega, by go_num, by simp; omega, HN1.out, HG4.out, heap_setCell_same _ w.heap.size 2 _ _ _ S9.out, (heap_setCell_other _ _ _ _ (show w.heap.size + 1 ≠ w.heap.size by omega)).trans O9.out, HD9.out.keep hset (fun g hg => .inl (HGS.out g (.inl hg))), HV9.out, HB9.out.trans hset (fun k hk => .inr (by simp at hk; omega))⟩
      case measure => simp [intOf]; omega
    · obtain rfl : j = n := by omega
      have HF := Lib.hid (show R = (s1, 0) by rw [HG.out, HNN.out, List.drop_length]; rfl)
      clear HG
      have q0 := blk_cell HS.out 0 rfl
      have q1 := blk_cell HS.out 1 rfl
      have q2 := blk_cell HS.out 2 rfl
      have q3 := blk_cell HS.out 3 rfl
      have q4 := blk_cell HS.out 4 rfl
      have q5 := blk_cell HS.out 5 rfl
      have q6 := blk_cell HS.out 6 rfl
      have q7 := blk_cell HS.out 7 rfl
      have o0 := blk_cell HO.out 0 rfl
      have of0 := blk_free HO.out 0
      have o1 := blk_cell HO.out 1 rfl
      have of1 := blk_free HO.out 1
      have o2 := blk_cell HO.out 2 rfl
      have of2 := blk_free HO.out 2
      have o3 := blk_cell HO.out 3 rfl
      have of3 := blk_free HO.out 3
      have o4 := blk_cell HO.out 4 rfl
      have of4 := blk_free HO.out 4
      have o5 := blk_cell HO.out 5 rfl
      have of5 := blk_free HO.out 5
      have o6 := blk_cell HO.out 6 rfl
      have of6 := blk_free HO.out 6
      have o7 := blk_cell HO.out 7 rfl
      have of7 := blk_free HO.out 7
      go_wp2_with fail
      refine bodyPost_ret (results_cell_tmp1 (p := 4) (q := 5) rfl _ _ (w.heap.size + 1) _ _ (0, 0) _ rfl (eight_set HO.out) Tryz.underlying67 rfl Tryz.sizeState _ rfl) rfl ?_
      rw [HP.out, HF.out]
      exact ⟨s1, _, ⟨_, _, _, _, _, _, _, _, _, _, _, _, rfl⟩, rfl, HBh.out.trans eight_behind (fun k hk => .inr (by simp at hk; omega)), fun _ => ⟨rfl, (HD.out.keep eight_behind (fun g hg => .inl (HGS.out g (.inr hg)))).mono HGG.out, fun g hg => (HV.out g hg).imp id (fun e => by omega)⟩⟩
end Go.Proofs.YtajjgfiojlagmaaGreatDoor
