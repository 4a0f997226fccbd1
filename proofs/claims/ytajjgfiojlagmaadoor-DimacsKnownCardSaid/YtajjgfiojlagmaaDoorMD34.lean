/- Texts of this claim, joined: E8, E9, E10. -/
import Derived.Test.YtajjgfiojlagmaaDoorMD30
import Derived.Test.YtajjgfiojlagmaaDoorMD31
import Derived.Test.YtajjgfiojlagmaaDoorMD33
import Derived.Deep.DeepCutAuto
import Derived.KernelRfl

/- The law: the file of a text is written as a text that is read as the same file. -/
namespace Go.Proofs.YtajjgfiojlagmaaDoor
open Go.RowKit

set_option maxHeartbeats 6400000 in
set_option maxRecDepth 100000 in
theorem one_law (l : List UInt8) (hl : l.length ≤ 9223372036854775807) (w : World) (hM0 : ∃ m, w.cell? ⟨1, 0, none⟩ = some (.int .i64 m)) (hT : TabI w) : Calls Tryd.prog 4 #[.string ⟨l.toArray⟩] w fun e w' => e = .returned (.bool true) ∧ Below w.heap.size w w' := by
  obtain ⟨Post, hPost⟩ : ∃ P : Ending → World → Prop, P = fun e w' => e = .returned (.bool true) ∧ Below w.heap.size w w' := ⟨_, rfl⟩
  rw [← hPost]
  have HP := Lib.hid hPost
  have HM := Lib.hid (show ∀ x, Below w.heap.size w x → ∃ m, x.cell? ⟨1, 0, none⟩ = some (.int .i64 m) from fun x hx => by obtain ⟨m, hm⟩ := hM0; exact ⟨m, below_cell hx (block_lt_of_cell hm) hm⟩)
  have KW := Lib.hid (fun (x : World) (hx : Below w.heap.size w x) => gWorks x (HM.out x hx))
  have HT := Lib.hid hT
  by_cases hbig : 20000 < l.length
  · have KW1 := KW.out w (Below.refl _ _)
    obtain ⟨s, hs⟩ : ∃ s : ByteArray, s = ⟨l.toArray⟩ := ⟨_, rfl⟩
    have hsz : s.size = l.length := by rw [hs]; exact ba_size l
    rw [← hs]
    have hd : decide (20000 < s.size) = true := decide_eq_true (by omega)
    have hd2 : decide ((20000 : Int) < (s.size : Int)) = true := decide_eq_true (by omega)
    clear hPost hM0 hT hs hsz hbig
    go_enter Tryd.func4, Tryd.ntmps4
    go_wp2_with fail
    refine KW1.mono ?_
    rintro e w2 ⟨rfl, hB⟩
    have HB := Lib.hid hB
    clear hB KW1
    go_wp2_with fail
    rw [HP.out]
    exact ⟨rfl, HB.out⟩
  have KP := gParse l (by omega) w hM0
  have hll : l.length ≤ 20000 := by omega
  have HSZ := Lib.hid (parseD_sz (rd := rdD) l)
  have HER := Lib.hid (parseD_err (rd := rdD) (l := l))
  have HLN := Lib.hid (parseD_line (rd := rdD) (l := l))
  have HOK := Lib.hid (parseD_ok (rd := rdD) (l := l))
  have HSH := Lib.hid (one_short (rd := rdD) hll)
  have HVL := Lib.hid (values_le (rd := rdD) (l := l))
  obtain ⟨R, hR⟩ : ∃ R, R = parseD rdD l := ⟨_, rfl⟩
  rw [← hR] at KP HSZ HER HLN HOK HSH HVL
  obtain ⟨s, hs⟩ : ∃ s : ByteArray, s = ⟨l.toArray⟩ := ⟨_, rfl⟩
  have hsz : s.size = l.length := by rw [hs]; exact ba_size l
  rw [← hs] at KP ⊢
  have hd : decide (20000 < s.size) = false := decide_eq_false (by omega)
  have hd2 : decide ((20000 : Int) < (s.size : Int)) = false := decide_eq_false (by omega)
  clear hPost hM0 hT hs hsz hbig hR
  go_enter Tryd.func4, Tryd.ntmps4
  go_wp2_with fail
  refine KP.mono ?_
  rintro e w2 ⟨v, rfl, hD, hB⟩
  obtain ⟨aL, cL, aS, cS, aW, cW, e1, e2, e3, hF⟩ := hD.file
  rw [e1, e2, e3]
  have HF2 := Lib.hid hF
  have HB2 := Lib.hid hB
  clear hD hB KP e1 e2 e3 hF
  obtain ⟨st, ln, en⟩ := R
  simp only at *
  go_upto_region 4 with fail
  refine wp_gen ?_
  intro w3 hw3
  have hB23 : Below w2.heap.size w2 w3 := by rw [hw3]; exact below_one w2 _
  have A3 := Lib.hid (show w3.heap[w2.heap.size]? = some (.cells #[.int .i64 st.n, .slice aL st.L.length cL, .slice aS st.sh.length cS, .slice aW st.ws.length cW] 28 (0, 0)) by rw [hw3]; exact new_one w2 _)
  have HB3 := Lib.hid (HB2.out.trans (hB23.mono HB2.out.size))
  have HF3 := Lib.hid ((HF2.out.below hB23 (Nat.le_refl _)).mono hB23.size)
  clear hw3 hB23 HF2
  by_cases hen : en ≠ 0
  · obtain rfl : st = .zero := HER.out hen
    have hq : (en != 0) = true := by simp [bne, beq_no hen]
    have a0 := blk_cell A3.out 0 rfl
    have a1 := blk_cell A3.out 1 rfl
    have a2 := blk_cell A3.out 2 rfl
    have a3 := blk_cell A3.out 3 rfl
    have l1 : DS.zero.L.length = 0 := rfl
    have l2 : DS.zero.sh.length = 0 := rfl
    have l3 : DS.zero.ws.length = 0 := rfl
    have l4 : DS.zero.n = 0 := rfl
    rw [l4] at a0
    rw [l1] at a1
    rw [l2] at a2
    rw [l3] at a3
    have KW1 := KW.out w3 HB3.out
    clear hen
    go_wp2_with fail
    refine KW1.mono ?_
    rintro e w4 ⟨rfl, hB⟩
    have HB := Lib.hid (HB3.out.trans (hB.mono HB3.out.size))
    clear hB KW1
    go_wp2_with fail
    rw [HP.out]
    exact ⟨rfl, HB.out⟩
  obtain rfl : en = 0 := Decidable.not_not.1 hen
  obtain rfl : ln = 0 := HLN.out rfl
  have hok := HOK.out rfl
  have hsh := HSH.out hok
  have hsz := HSZ.out
  have KPR := gPrint st.n st.L st.sh st.ws aL aS aW cL cS cW w3 HF3.out (fun x hx => by have := HVL.out x hx; omega) (by omega) (by omega) (HT.out.below HB3.out) (HM.out w3 HB3.out)
  have hpd : printD rdD st.n st.L st.sh st.ws = (ptB st.n st.L st.sh st.ws, 0) := by
    unfold printD
    rw [if_neg (by rw [checkD_ok.2 hok]; simp), if_neg (by omega)]
  rw [hpd] at KPR
  have hpp := parse_print rdD_no hok hsh
  have KP2 := Lib.hid (fun (x : World) (hx : Below w.heap.size w x) => gParse (ptB st.n st.L st.sh st.ws) (by omega) x (HM.out x hx))
  rw [hpp] at KP2
  have HLE := Lib.hid (show st.sh.length ≤ 20000 ∧ st.ws.length ≤ 20000 ∧ st.L.length ≤ 20000 ∧ ∀ c ∈ st.L, c.length ≤ 128 from ⟨by omega, by omega, by omega, hsz.2.2.2⟩)
  simp only at KPR
  generalize (⟨(ptB st.n st.L st.sh st.ws).toArray⟩ : ByteArray) = tx at *
  clear hen hok hsh hsz hpd hpp HSZ HER HLN HOK HSH HVL
  have a0 := blk_cell A3.out 0 rfl
  have a1 := blk_cell A3.out 1 rfl
  have a2 := blk_cell A3.out 2 rfl
  have a3 := blk_cell A3.out 3 rfl
  go_wp2_with fail
  refine KPR.mono ?_
  rintro e w4 ⟨rfl, hB⟩
  have HB4 := Lib.hid (HB3.out.trans (hB.mono HB3.out.size))
  have A4 := Lib.hid ((behind_of_below hB).keep A3.out (by simp))
  have HF4 := Lib.hid ((HF3.out.below hB (Nat.le_refl _)).mono hB.size)
  clear hB KPR a0 a1 a2 a3 A3 HF3
  have KP3 := KP2.out w4 HB4.out
  go_wp2_with fail
  refine KP3.mono ?_
  rintro e w5 ⟨v5, rfl, hD, hB⟩
  obtain ⟨bL, dL, bS, dS, bW, dW, e1, e2, e3, hF⟩ := hD.file
  simp only at e1 e2 e3 hF ⊢
  rw [e1, e2, e3]
  have HG5 := Lib.hid hF
  have HB5 := Lib.hid (HB4.out.trans (hB.mono HB4.out.size))
  have HF5 := Lib.hid ((HF4.out.below hB (Nat.le_refl _)).mono hB.size)
  have A5 := Lib.hid ((behind_of_below hB).keep A4.out (by simp))
  clear hD hB KP3 KP2 e1 e2 e3 hF HF4 A4
  go_upto_region 8 with fail
  refine wp_gen ?_
  intro w6 hw6
  have hB56 : Below w5.heap.size w5 w6 := by rw [hw6]; exact below_one w5 _
  have A6 := Lib.hid ((behind_of_below hB56).keep A5.out (by simp))
  have B6 := Lib.hid (show w6.heap[w5.heap.size]? = some (.cells #[.int .i64 st.n, .slice bL st.L.length dL, .slice bS st.sh.length dS, .slice bW st.ws.length dW] 28 (0, 0)) by rw [hw6]; exact new_one w5 _)
  have HB6 := Lib.hid (HB5.out.trans (hB56.mono HB5.out.size))
  have HF6 := Lib.hid ((HF5.out.below hB56 (Nat.le_refl _)).mono hB56.size)
  have HG6 := Lib.hid ((HG5.out.below hB56 (Nat.le_refl _)).mono hB56.size)
  clear hw6 hB56 A5 HF5 HG5
  go_wp2_with fail
  refine wp_gameM [0, 0, 0, 0, 0, 0, 0, 0, 0, 0, 0, 0, 0, 0, 0, 0, 6, 0, 6, 6, 0, 0, 6, 0, 0] [] (keptB [] w6) (fin_keptB _) (has_keptB _) (by kernel_rfl) (by kernel_rfl) ?_
  refine lexM_split 16 (by decide) (by rfl) ?_
  simp only [List.take_succ_cons, List.take_zero, List.drop_succ_cons, List.drop_zero]
  refine lex_quietE 16 (by kernel_rfl) (by rfl) ?_
  apply Exists.intro
  refine ⟨fun z hz1 => ?_, ?_⟩
  · have gz := hz1.keep A6.out (by simp)
    have g0 := blk_cellp gz 0 rfl
    have g1 := blk_cellp gz 1 rfl
    have g2 := blk_cellp gz 2 rfl
    have g3 := blk_cellp gz 3 rfl
    clear gz
    clear hz1
    simp only [List.take_succ_cons, List.take_zero]
    unfold Cx
    repeat (go_big_quiet_step (fail))
    exact wpQuiet_nil rfl
  simp only [List.drop_succ_cons, List.drop_zero]
  refine lex_nil ?_
  refine lexM_manyF (RGiven st.n (.slice aL st.L.length cL) (.slice aS st.sh.length cS) st.ws) (by rfl) (by rfl) (by simp) (fin_keptB (Wr := []) w6) (fun g o h => keptB_wr (Wr := []) (w := w6) h) (fun x => by go_simp) (fun x hx hBx => given_call st.n _ _ ⟨_, _, _, rfl⟩ ⟨_, _, _, rfl⟩ st.ws (by have := HLE.out.2.1; omega) aW cW HF6.out.w x hx) (fun u1 B1 hR1 hf1 hN1 => ?_)
  obtain ⟨pA, cA, rfl, hrA⟩ := hR1
  have HRA := Lib.hid hrA
  clear hrA
  have HF1 := Lib.hid (Fin.over (fin_keptB (Wr := []) w6) hf1)
  have HW1 := Lib.hid (over_wr (w := w6) (Wr := []) (fun g o h => keptB_wr (Wr := []) (w := w6) h) hN1)
  have HN1 := Lib.hid hN1
  clear hf1 hN1
  unfold setSlot
  go_big_quiet_step (fail)
  refine wpQuiet_nil ?_
  refine lexM_split 1 (by decide) (by rfl) ?_
  simp only [List.take_succ_cons, List.take_zero, List.drop_succ_cons, List.drop_zero]
  refine lex_quietE 1 (by kernel_rfl) (by rfl) ?_
  apply Exists.intro
  refine ⟨fun z hz1 => ?_, ?_⟩
  · have gz := hz1.keep B6.out (by simp)
    have g0 := blk_cellp gz 0 rfl
    have g1 := blk_cellp gz 1 rfl
    have g2 := blk_cellp gz 2 rfl
    have g3 := blk_cellp gz 3 rfl
    clear gz
    clear hz1
    simp only [List.take_succ_cons, List.take_zero]
    unfold Cx
    repeat (go_big_quiet_step (fail))
    exact wpQuiet_nil rfl
  simp only [List.drop_succ_cons, List.drop_zero]
  refine lex_nil ?_
  refine lexM_manyF (RGiven st.n (.slice bL st.L.length dL) (.slice bS st.sh.length dS) st.ws) (by rfl) (by rfl) (by simp) HF1.out HW1.out (fun x => by go_simp) (fun x hx hBx => given_call st.n _ _ ⟨_, _, _, rfl⟩ ⟨_, _, _, rfl⟩ st.ws (by have := HLE.out.2.1; omega) bW dW HG6.out.w x hx) (fun u2 B2 hR2 hf2 hN2 => ?_)
  obtain ⟨pB, cB, rfl, hrB⟩ := hR2
  have HRB := Lib.hid hrB
  clear hrB
  have HF2 := Lib.hid (Fin.over HF1.out hf2)
  have HW2 := Lib.hid (over_wr (w := w6) (Wr := []) HW1.out hN2)
  have HN2 := Lib.hid hN2
  clear hf2 hN2
  unfold setSlot
  go_big_quiet_step (fail)
  refine wpQuiet_nil ?_
  refine lexM_manyF (fun v _ => v = .bool true) (by rfl) (by rfl) (by simp) HF2.out HW2.out (fun x => by go_simp) (fun x hx hBx => same2_call st.n st.L st.sh st.ws aL aS bL bS cL cS dL dS (by have := HLE.out.2.2.1; omega) (fun xs hxs => by have := HLE.out.2.2.2 xs hxs; omega) (by have := HLE.out.1; omega) (by have := HLE.out.2.1; omega) ⟨HF6.out.l, HF6.out.s⟩ ⟨HG6.out.l, HG6.out.s⟩ HRA.out HRB.out x hx (has_upper (has_under (w := w6) hBx HN2.out)) (has_upper hBx)) (fun u3 B3 hR3 hf3 hN3 => ?_)
  subst hR3
  have HF3 := Lib.hid (Fin.over HF2.out hf3)
  have HW3 := Lib.hid (over_wr (w := w6) (Wr := []) HW2.out hN3)
  have HN3 := Lib.hid hN3
  clear hf3 hN3
  unfold setSlot
  go_big_quiet_step (fail)
  refine wpQuiet_nil ?_
  refine lexM_split 2 (by decide) (by rfl) ?_
  simp only [List.take_succ_cons, List.take_zero, List.drop_succ_cons, List.drop_zero]
  refine lex_quietE 2 (by kernel_rfl) (by rfl) ?_
  apply Exists.intro
  refine ⟨fun z hz1 => ?_, ?_⟩
  · clear hz1
    simp only [List.take_succ_cons, List.take_zero]
    unfold Cx
    repeat (go_big_quiet_step (fail))
    exact wpQuiet_nil rfl
  simp only [List.drop_succ_cons, List.drop_zero]
  refine lex_nil ?_
  refine lexM_manyF (fun v _ => v = .bool true) (by rfl) (by rfl) (by simp) HF3.out HW3.out (fun x => by go_simp) (fun x hx hBx => true_call (KW.out x (HB6.out.trans (hx.below.mono HB6.out.size)))) (fun u4 B4 hR4 hf4 hN4 => ?_)
  subst hR4
  have HF4 := Lib.hid (Fin.over HF3.out hf4)
  have HW4 := Lib.hid (over_wr (w := w6) (Wr := []) HW3.out hN4)
  have HN4 := Lib.hid hN4
  clear hf4 hN4
  unfold setSlot
  go_big_quiet_step (fail)
  refine wpQuiet_nil ?_
  refine lexM_split 2 (by decide) (by rfl) ?_
  simp only [List.take_succ_cons, List.take_zero, List.drop_succ_cons, List.drop_zero]
  refine lex_quietE 2 (by kernel_rfl) (by rfl) ?_
  apply Exists.intro
  refine ⟨fun z hz1 => ?_, ?_⟩
  · clear hz1
    simp only [List.take_succ_cons, List.take_zero]
    unfold Cx
    repeat (go_big_quiet_step (fail))
    exact wpQuiet_nil rfl
  simp only [List.drop_succ_cons, List.drop_zero]
  refine lex_nil ?_
  intro x2 hx2 _
  have HX2 := Lib.hid hx2
  clear hx2
  go_wp2_with fail
  rw [HP.out]
  exact ⟨rfl, HB6.out.trans (HX2.out.below.mono HB6.out.size)⟩
end Go.Proofs.YtajjgfiojlagmaaDoor

/- The law: the text of a file is read as the file. -/
namespace Go.Proofs.YtajjgfiojlagmaaDoor
open Go.RowKit

set_option maxHeartbeats 6400000 in
set_option maxRecDepth 100000 in
theorem back_law (n : Int) (L : List (List Int)) (sh : List Int) (ws : List (Int × List UInt8)) (aL aS aW : Option Addr) (cL cS cW : Nat) (w : World) (hA : FileAt w.heap.size w aL aS aW L sh ws) (hM0 : ∃ m, w.cell? ⟨1, 0, none⟩ = some (.int .i64 m)) (hT : TabI w) :
    Calls Tryd.prog 3 #[.agg #[.int .i64 n, .slice aL L.length cL, .slice aS sh.length cS, .slice aW ws.length cW]] w fun e w' => e = .returned (.bool true) ∧ Below w.heap.size w w' := by
  obtain ⟨Post, hPost⟩ : ∃ P : Ending → World → Prop, P = fun e w' => e = .returned (.bool true) ∧ Below w.heap.size w w' := ⟨_, rfl⟩
  rw [← hPost]
  have HP := Lib.hid hPost
  have HM := Lib.hid (show ∀ x, Below w.heap.size w x → ∃ m, x.cell? ⟨1, 0, none⟩ = some (.int .i64 m) from fun x hx => by obtain ⟨m, hm⟩ := hM0; exact ⟨m, below_cell hx (block_lt_of_cell hm) hm⟩)
  have KW := Lib.hid (fun (x : World) (hx : Below w.heap.size w x) => gWorks x (HM.out x hx))
  have HT := Lib.hid hT
  have HA := Lib.hid hA
  clear hPost hM0 hT hA
  go_enter Tryd.func3, Tryd.ntmps3
  go_upto_region 1 with fail
  refine wp_gen ?_
  intro w1 hw1
  have A1 := Lib.hid (show w1.heap[w.heap.size]? = some (.cells #[.int .i64 n, .slice aL L.length cL, .slice aS sh.length cS, .slice aW ws.length cW] 28 (0, 0)) by rw [hw1]; exact new_one _ _)
  have HB1 := Lib.hid (show Below w.heap.size w w1 by rw [hw1]; exact below_one _ _)
  clear hw1
  have HF1 := Lib.hid ((HA.out.below HB1.out (Nat.le_refl _)).mono HB1.out.size)
  have KF := gFew n L sh ws aL aS aW cL cS cW w1 HF1.out
  obtain ⟨fw, hfw⟩ : ∃ fw, fw = fewD L sh ws := ⟨_, rfl⟩
  rw [← hfw] at KF
  have HFW := Lib.hid hfw
  clear hfw
  have a0 := blk_cell A1.out 0 rfl
  have a1 := blk_cell A1.out 1 rfl
  have a2 := blk_cell A1.out 2 rfl
  have a3 := blk_cell A1.out 3 rfl
  go_wp2_with fail
  refine KF.mono ?_
  rintro e w2 ⟨rfl, hB⟩
  have HB2 := Lib.hid (HB1.out.trans (hB.mono HB1.out.size))
  have A2 := Lib.hid ((behind_of_below hB).keep A1.out (by simp))
  have HF2 := Lib.hid ((HF1.out.below hB (Nat.le_refl _)).mono hB.size)
  clear hB KF a0 a1 a2 a3 A1 HF1
  cases fw with
  | false =>
    have KW1 := KW.out w2 HB2.out
    go_wp2_with fail
    refine KW1.mono ?_
    rintro e w3 ⟨rfl, hB⟩
    have HB := Lib.hid (HB2.out.trans (hB.mono HB2.out.size))
    clear hB KW1
    go_wp2_with fail
    rw [HP.out]
    exact ⟨rfl, HB.out⟩
  | true =>
  have hfew := fewD_yes.1 HFW.out.symm
  have KPR := gPrint n L sh ws aL aS aW cL cS cW w2 HF2.out (fun x hx => by have := hfew.2.2.2.2 x hx; omega) (by omega) (by omega) (HT.out.below HB2.out) (HM.out w2 HB2.out)
  have HFE := Lib.hid hfew
  have a0 := blk_cell A2.out 0 rfl
  have a1 := blk_cell A2.out 1 rfl
  have a2 := blk_cell A2.out 2 rfl
  have a3 := blk_cell A2.out 3 rfl
  clear hfew
  by_cases hpe : (printD rdD n L sh ws).2 ≠ 0
  · have hp1 : (printD rdD n L sh ws).1 = [] := by
      unfold printD at hpe ⊢
      split
      · rfl
      · rename_i h1
        rw [if_neg h1] at hpe
        split
        · rfl
        · rename_i h2
          rw [if_neg h2] at hpe
          exact absurd rfl hpe
    rw [hp1] at KPR
    have hq : ((printD rdD n L sh ws).2 != 0) = true := by simp [bne, beq_no hpe]
    generalize (printD rdD n L sh ws).2 = pe at *
    clear hpe hp1
    go_wp2_with fail
    refine KPR.mono ?_
    rintro e w3 ⟨rfl, hB⟩
    have HB3 := Lib.hid (HB2.out.trans (hB.mono HB2.out.size))
    have KW1 := KW.out w3 HB3.out
    clear hB KPR a0 a1 a2 a3
    go_wp2_with fail
    refine KW1.mono ?_
    rintro e w4 ⟨rfl, hB⟩
    have HB := Lib.hid (HB3.out.trans (hB.mono HB3.out.size))
    clear hB KW1
    go_wp2_with fail
    rw [HP.out]
    exact ⟨rfl, HB.out⟩
  have hpe0 : (printD rdD n L sh ws).2 = 0 := Decidable.not_not.1 hpe
  have hck : checkD rdD n L sh ws = 0 := by
    unfold printD at hpe0
    split at hpe0
    · exact hpe0
    · rename_i h1; exact Decidable.not_not.1 h1
  have hsh : (ptB n L sh ws).length ≤ 1048576 := by
    unfold printD at hpe0
    rw [if_neg (by rw [hck]; simp)] at hpe0
    split at hpe0
    · cases hpe0
    · omega
  have hok := checkD_ok.1 hck
  have hpd : printD rdD n L sh ws = (ptB n L sh ws, 0) := by
    unfold printD
    rw [if_neg (by rw [hck]; simp), if_neg (by omega)]
  rw [hpd] at KPR
  have hpp := parse_print rdD_no hok hsh
  have KP2 := Lib.hid (fun (x : World) (hx : Below w.heap.size w x) => gParse (ptB n L sh ws) (by omega) x (HM.out x hx))
  rw [hpp] at KP2
  simp only at KPR
  generalize (⟨(ptB n L sh ws).toArray⟩ : ByteArray) = tx at *
  clear hpe hpe0 hck hsh hok hpd hpp
  go_wp2_with fail
  refine KPR.mono ?_
  rintro e w4 ⟨rfl, hB⟩
  have HB4 := Lib.hid (HB2.out.trans (hB.mono HB2.out.size))
  have A4 := Lib.hid ((behind_of_below hB).keep A2.out (by simp))
  have HF4 := Lib.hid ((HF2.out.below hB (Nat.le_refl _)).mono hB.size)
  clear hB KPR a0 a1 a2 a3 A2 HF2
  have KP3 := KP2.out w4 HB4.out
  go_wp2_with fail
  refine KP3.mono ?_
  rintro e w5 ⟨v5, rfl, hD, hB⟩
  obtain ⟨bL, dL, bS, dS, bW, dW, e1, e2, e3, hF⟩ := hD.file
  simp only at e1 e2 e3 hF ⊢
  rw [e1, e2, e3]
  have HG5 := Lib.hid hF
  have HB5 := Lib.hid (HB4.out.trans (hB.mono HB4.out.size))
  have HF5 := Lib.hid ((HF4.out.below hB (Nat.le_refl _)).mono hB.size)
  have A5 := Lib.hid ((behind_of_below hB).keep A4.out (by simp))
  clear hD hB KP3 KP2 e1 e2 e3 hF HF4 A4
  go_upto_region 7 with fail
  refine wp_gen ?_
  intro w6 hw6
  have hB56 : Below w5.heap.size w5 w6 := by rw [hw6]; exact below_one w5 _
  have A6 := Lib.hid ((behind_of_below hB56).keep A5.out (by simp))
  have B6 := Lib.hid (show w6.heap[w5.heap.size]? = some (.cells #[.int .i64 n, .slice bL L.length dL, .slice bS sh.length dS, .slice bW ws.length dW] 28 (0, 0)) by rw [hw6]; exact new_one w5 _)
  have HB6 := Lib.hid (HB5.out.trans (hB56.mono HB5.out.size))
  have HF6 := Lib.hid ((HF5.out.below hB56 (Nat.le_refl _)).mono hB56.size)
  have HG6 := Lib.hid ((HG5.out.below hB56 (Nat.le_refl _)).mono hB56.size)
  clear hw6 hB56 A5 HF5 HG5
  go_wp2_with fail
  refine wp_gameM [0, 0, 0, 0, 0, 0, 0, 0, 6, 0, 6, 6, 0, 0, 6, 0, 0] [] (keptB [] w6) (fin_keptB _) (has_keptB _) (by kernel_rfl) (by kernel_rfl) ?_
  refine lexM_split 8 (by decide) (by rfl) ?_
  simp only [List.take_succ_cons, List.take_zero, List.drop_succ_cons, List.drop_zero]
  refine lex_quietE 8 (by kernel_rfl) (by rfl) ?_
  apply Exists.intro
  refine ⟨fun z hz1 => ?_, ?_⟩
  · have gz := hz1.keep A6.out (by simp)
    have g0 := blk_cellp gz 0 rfl
    have g1 := blk_cellp gz 1 rfl
    have g2 := blk_cellp gz 2 rfl
    have g3 := blk_cellp gz 3 rfl
    clear gz
    clear hz1
    simp only [List.take_succ_cons, List.take_zero]
    unfold Cx
    repeat (go_big_quiet_step (fail))
    exact wpQuiet_nil rfl
  simp only [List.drop_succ_cons, List.drop_zero]
  refine lex_nil ?_
  refine lexM_manyF (RGiven n (.slice aL L.length cL) (.slice aS sh.length cS) ws) (by rfl) (by rfl) (by simp) (fin_keptB (Wr := []) w6) (fun g o h => keptB_wr (Wr := []) (w := w6) h) (fun x => by go_simp) (fun x hx hBx => given_call n _ _ ⟨_, _, _, rfl⟩ ⟨_, _, _, rfl⟩ ws (by have := HFE.out.2.2.1; omega) aW cW HF6.out.w x hx) (fun u1 B1 hR1 hf1 hN1 => ?_)
  obtain ⟨pA, cA, rfl, hrA⟩ := hR1
  have HRA := Lib.hid hrA
  clear hrA
  have HF1 := Lib.hid (Fin.over (fin_keptB (Wr := []) w6) hf1)
  have HW1 := Lib.hid (over_wr (w := w6) (Wr := []) (fun g o h => keptB_wr (Wr := []) (w := w6) h) hN1)
  have HN1 := Lib.hid hN1
  clear hf1 hN1
  unfold setSlot
  go_big_quiet_step (fail)
  refine wpQuiet_nil ?_
  refine lexM_split 1 (by decide) (by rfl) ?_
  simp only [List.take_succ_cons, List.take_zero, List.drop_succ_cons, List.drop_zero]
  refine lex_quietE 1 (by kernel_rfl) (by rfl) ?_
  apply Exists.intro
  refine ⟨fun z hz1 => ?_, ?_⟩
  · have gz := hz1.keep B6.out (by simp)
    have g0 := blk_cellp gz 0 rfl
    have g1 := blk_cellp gz 1 rfl
    have g2 := blk_cellp gz 2 rfl
    have g3 := blk_cellp gz 3 rfl
    clear gz
    clear hz1
    simp only [List.take_succ_cons, List.take_zero]
    unfold Cx
    repeat (go_big_quiet_step (fail))
    exact wpQuiet_nil rfl
  simp only [List.drop_succ_cons, List.drop_zero]
  refine lex_nil ?_
  refine lexM_manyF (RGiven n (.slice bL L.length dL) (.slice bS sh.length dS) ws) (by rfl) (by rfl) (by simp) HF1.out HW1.out (fun x => by go_simp) (fun x hx hBx => given_call n _ _ ⟨_, _, _, rfl⟩ ⟨_, _, _, rfl⟩ ws (by have := HFE.out.2.2.1; omega) bW dW HG6.out.w x hx) (fun u2 B2 hR2 hf2 hN2 => ?_)
  obtain ⟨pB, cB, rfl, hrB⟩ := hR2
  have HRB := Lib.hid hrB
  clear hrB
  have HF2 := Lib.hid (Fin.over HF1.out hf2)
  have HW2 := Lib.hid (over_wr (w := w6) (Wr := []) HW1.out hN2)
  have HN2 := Lib.hid hN2
  clear hf2 hN2
  unfold setSlot
  go_big_quiet_step (fail)
  refine wpQuiet_nil ?_
  refine lexM_manyF (fun v _ => v = .bool true) (by rfl) (by rfl) (by simp) HF2.out HW2.out (fun x => by go_simp) (fun x hx hBx => same2_call n L sh ws aL aS bL bS cL cS dL dS (by have := HFE.out.1; omega) (fun xs hxs => by have := HFE.out.2.2.2.1 xs hxs; omega) (by have := HFE.out.2.1; omega) (by have := HFE.out.2.2.1; omega) ⟨HF6.out.l, HF6.out.s⟩ ⟨HG6.out.l, HG6.out.s⟩ HRA.out HRB.out x hx (has_upper (has_under (w := w6) hBx HN2.out)) (has_upper hBx)) (fun u3 B3 hR3 hf3 hN3 => ?_)
  subst hR3
  have HF3 := Lib.hid (Fin.over HF2.out hf3)
  have HW3 := Lib.hid (over_wr (w := w6) (Wr := []) HW2.out hN3)
  have HN3 := Lib.hid hN3
  clear hf3 hN3
  unfold setSlot
  go_big_quiet_step (fail)
  refine wpQuiet_nil ?_
  refine lexM_split 2 (by decide) (by rfl) ?_
  simp only [List.take_succ_cons, List.take_zero, List.drop_succ_cons, List.drop_zero]
  refine lex_quietE 2 (by kernel_rfl) (by rfl) ?_
  apply Exists.intro
  refine ⟨fun z hz1 => ?_, ?_⟩
  · clear hz1
    simp only [List.take_succ_cons, List.take_zero]
    unfold Cx
    repeat (go_big_quiet_step (fail))
    exact wpQuiet_nil rfl
  simp only [List.drop_succ_cons, List.drop_zero]
  refine lex_nil ?_
  refine lexM_manyF (fun v _ => v = .bool true) (by rfl) (by rfl) (by simp) HF3.out HW3.out (fun x => by go_simp) (fun x hx hBx => true_call (KW.out x (HB6.out.trans (hx.below.mono HB6.out.size)))) (fun u4 B4 hR4 hf4 hN4 => ?_)
  subst hR4
  have HF4 := Lib.hid (Fin.over HF3.out hf4)
  have HW4 := Lib.hid (over_wr (w := w6) (Wr := []) HW3.out hN4)
  have HN4 := Lib.hid hN4
  clear hf4 hN4
  unfold setSlot
  go_big_quiet_step (fail)
  refine wpQuiet_nil ?_
  refine lexM_split 2 (by decide) (by rfl) ?_
  simp only [List.take_succ_cons, List.take_zero, List.drop_succ_cons, List.drop_zero]
  refine lex_quietE 2 (by kernel_rfl) (by rfl) ?_
  apply Exists.intro
  refine ⟨fun z hz1 => ?_, ?_⟩
  · clear hz1
    simp only [List.take_succ_cons, List.take_zero]
    unfold Cx
    repeat (go_big_quiet_step (fail))
    exact wpQuiet_nil rfl
  simp only [List.drop_succ_cons, List.drop_zero]
  refine lex_nil ?_
  intro x2 hx2 _
  have HX2 := Lib.hid hx2
  clear hx2
  go_wp2_with fail
  rw [HP.out]
  exact ⟨rfl, HB6.out.trans (HX2.out.below.mono HB6.out.size)⟩
end Go.Proofs.YtajjgfiojlagmaaDoor

/- The law: the examples of the chapter, and further errors. -/
namespace Go.Proofs.YtajjgfiojlagmaaDoor
open Go.RowKit

def knT : List (List UInt8) := [[49, 32, 48], [112, 32, 99, 110, 102, 32, 49, 32, 49, 10, 50, 32, 48], [112, 32, 99, 110, 102, 32, 49, 32, 49, 10, 49], [], [112, 32, 99, 110, 102, 32, 49, 32, 48, 10, 99, 32, 112, 32, 119, 101, 105, 103, 104, 116, 32, 49, 32, 50, 47, 52, 32, 48], [112, 32, 99, 110, 102, 32, 49, 50, 57, 32, 48], [112, 32, 99, 110, 102, 32, 49, 32, 52, 48, 57, 55], [112, 32, 99, 110, 102, 32, 48, 49, 32, 48], [112, 32, 99, 110, 102, 32, 49], [112, 32, 99, 110, 102, 32, 49, 32, 48, 10, 112, 32, 99, 110, 102, 32, 49, 32, 48], [99, 32, 112, 32, 115, 104, 111, 119, 32, 49, 32, 48], [112, 32, 99, 110, 102, 32, 49, 32, 48, 10, 99, 32, 112, 32, 115, 104, 111, 119, 32, 49, 32, 49, 32, 48], [112, 32, 99, 110, 102, 32, 49, 32, 48, 10, 99, 32, 112, 32, 115, 104, 111, 119, 32, 50, 32, 48], [112, 32, 99, 110, 102, 32, 49, 32, 48, 10, 99, 32, 112, 32, 115, 104, 111, 119, 32, 49], [112, 32, 99, 110, 102, 32, 49, 32, 48, 10, 99, 32, 112, 32, 119, 101, 105, 103, 104, 116, 32, 49, 32, 49, 32, 48, 10, 99, 32, 112, 32, 119, 101, 105, 103, 104, 116, 32, 49, 32, 49, 32, 48], [112, 32, 99, 110, 102, 32, 49, 32, 49, 10, 49, 32, 45, 48, 32, 48], [112, 32, 99, 110, 102, 32, 49, 32, 50, 10, 48], [112, 32, 99, 110, 102, 32, 49, 32, 48, 10, 48]]
def knL : List Int := [1, 2, 0, 0, 2, 1, 1, 1, 1, 2, 1, 2, 2, 2, 3, 2, 0, 0]
def knE : List Int := [5, 6, 5, 3, 5, 6, 6, 5, 5, 4, 5, 4, 6, 5, 4, 5, 5, 5]
theorem kn_0 : parseD rdD [49, 32, 48] = (.zero, 1, 5) := by kernel_rfl
theorem kn_1 : parseD rdD [112, 32, 99, 110, 102, 32, 49, 32, 49, 10, 50, 32, 48] = (.zero, 2, 6) := by kernel_rfl
theorem kn_2 : parseD rdD [112, 32, 99, 110, 102, 32, 49, 32, 49, 10, 49] = (.zero, 0, 5) := by kernel_rfl
theorem kn_3 : parseD rdD [] = (.zero, 0, 3) := by kernel_rfl
theorem kn_4 : parseD rdD [112, 32, 99, 110, 102, 32, 49, 32, 48, 10, 99, 32, 112, 32, 119, 101, 105, 103, 104, 116, 32, 49, 32, 50, 47, 52, 32, 48] = (.zero, 2, 5) := by kernel_rfl
theorem kn_5 : parseD rdD [112, 32, 99, 110, 102, 32, 49, 50, 57, 32, 48] = (.zero, 1, 6) := by kernel_rfl
theorem kn_6 : parseD rdD [112, 32, 99, 110, 102, 32, 49, 32, 52, 48, 57, 55] = (.zero, 1, 6) := by kernel_rfl
theorem kn_7 : parseD rdD [112, 32, 99, 110, 102, 32, 48, 49, 32, 48] = (.zero, 1, 5) := by kernel_rfl
theorem kn_8 : parseD rdD [112, 32, 99, 110, 102, 32, 49] = (.zero, 1, 5) := by kernel_rfl
theorem kn_9 : parseD rdD [112, 32, 99, 110, 102, 32, 49, 32, 48, 10, 112, 32, 99, 110, 102, 32, 49, 32, 48] = (.zero, 2, 4) := by kernel_rfl
theorem kn_10 : parseD rdD [99, 32, 112, 32, 115, 104, 111, 119, 32, 49, 32, 48] = (.zero, 1, 5) := by kernel_rfl
theorem kn_11 : parseD rdD [112, 32, 99, 110, 102, 32, 49, 32, 48, 10, 99, 32, 112, 32, 115, 104, 111, 119, 32, 49, 32, 49, 32, 48] = (.zero, 2, 4) := by kernel_rfl
theorem kn_12 : parseD rdD [112, 32, 99, 110, 102, 32, 49, 32, 48, 10, 99, 32, 112, 32, 115, 104, 111, 119, 32, 50, 32, 48] = (.zero, 2, 6) := by kernel_rfl
theorem kn_13 : parseD rdD [112, 32, 99, 110, 102, 32, 49, 32, 48, 10, 99, 32, 112, 32, 115, 104, 111, 119, 32, 49] = (.zero, 2, 5) := by kernel_rfl
theorem kn_14 : parseD rdD [112, 32, 99, 110, 102, 32, 49, 32, 48, 10, 99, 32, 112, 32, 119, 101, 105, 103, 104, 116, 32, 49, 32, 49, 32, 48, 10, 99, 32, 112, 32, 119, 101, 105, 103, 104, 116, 32, 49, 32, 49, 32, 48] = (.zero, 3, 4) := by kernel_rfl
theorem kn_15 : parseD rdD [112, 32, 99, 110, 102, 32, 49, 32, 49, 10, 49, 32, 45, 48, 32, 48] = (.zero, 2, 5) := by kernel_rfl
theorem kn_16 : parseD rdD [112, 32, 99, 110, 102, 32, 49, 32, 50, 10, 48] = (.zero, 0, 5) := by kernel_rfl
theorem kn_17 : parseD rdD [112, 32, 99, 110, 102, 32, 49, 32, 48, 10, 48] = (.zero, 0, 5) := by kernel_rfl
theorem kn_all (j : Nat) (h : j < 18) : ∃ (x : List UInt8) (k : Nat) (e : Int), knT[j]? = some x ∧ knL[j]? = some (k : Int) ∧ knE[j]? = some e ∧ parseD rdD x = (.zero, k, e) ∧ x.length ≤ 100 := by
  match j, h with
  | 0, _ => exact ⟨_, 1, 5, rfl, rfl, rfl, kn_0, by decide⟩
  | 1, _ => exact ⟨_, 2, 6, rfl, rfl, rfl, kn_1, by decide⟩
  | 2, _ => exact ⟨_, 0, 5, rfl, rfl, rfl, kn_2, by decide⟩
  | 3, _ => exact ⟨_, 0, 3, rfl, rfl, rfl, kn_3, by decide⟩
  | 4, _ => exact ⟨_, 2, 5, rfl, rfl, rfl, kn_4, by decide⟩
  | 5, _ => exact ⟨_, 1, 6, rfl, rfl, rfl, kn_5, by decide⟩
  | 6, _ => exact ⟨_, 1, 6, rfl, rfl, rfl, kn_6, by decide⟩
  | 7, _ => exact ⟨_, 1, 5, rfl, rfl, rfl, kn_7, by decide⟩
  | 8, _ => exact ⟨_, 1, 5, rfl, rfl, rfl, kn_8, by decide⟩
  | 9, _ => exact ⟨_, 2, 4, rfl, rfl, rfl, kn_9, by decide⟩
  | 10, _ => exact ⟨_, 1, 5, rfl, rfl, rfl, kn_10, by decide⟩
  | 11, _ => exact ⟨_, 2, 4, rfl, rfl, rfl, kn_11, by decide⟩
  | 12, _ => exact ⟨_, 2, 6, rfl, rfl, rfl, kn_12, by decide⟩
  | 13, _ => exact ⟨_, 2, 5, rfl, rfl, rfl, kn_13, by decide⟩
  | 14, _ => exact ⟨_, 3, 4, rfl, rfl, rfl, kn_14, by decide⟩
  | 15, _ => exact ⟨_, 2, 5, rfl, rfl, rfl, kn_15, by decide⟩
  | 16, _ => exact ⟨_, 0, 5, rfl, rfl, rfl, kn_16, by decide⟩
  | 17, _ => exact ⟨_, 0, 5, rfl, rfl, rfl, kn_17, by decide⟩
  | n + 18, h => exact absurd h (by omega)
def knX : List UInt8 := [99, 32, 120, 10, 10, 32, 32, 112, 32, 32, 99, 110, 102, 32, 51, 32, 50, 32, 10, 49, 32, 50, 32, 48, 32, 45, 49, 10, 99, 32, 112, 10, 51, 32, 48]
theorem kn_x : parseD rdD knX = (⟨3, [[1, 2], [-1, 3]], [], [], true, 2, [], false⟩, 0, 0) := by kernel_rfl
theorem kn_c1 : checkD rdD 3 [[1, 2], [-1, 3]] [] [] = 0 := by kernel_rfl
theorem kn_c2 : checkD rdD 3 [[1, 2], [-1, 3]] [3, 1] [(-2, [49, 47, 51])] = 0 := by kernel_rfl
theorem kn_i1 : Lib.itoa 1 = [49] := by rw [itoa_pos (by decide), show (1 : Int).toNat = 1 from rfl, Lib.decDigits_one (by omega)]; rfl
theorem kn_i2 : Lib.itoa 2 = [50] := by rw [itoa_pos (by decide), show (2 : Int).toNat = 2 from rfl, Lib.decDigits_one (by omega)]; rfl
theorem kn_i3 : Lib.itoa 3 = [51] := by rw [itoa_pos (by decide), show (3 : Int).toNat = 3 from rfl, Lib.decDigits_one (by omega)]; rfl
theorem kn_m1 : Lib.itoa (-1) = [45, 49] := by rw [itoa_min (by decide), show (-1 : Int).natAbs = 1 from rfl, Lib.decDigits_one (by omega)]; rfl
theorem kn_m2 : Lib.itoa (-2) = [45, 50] := by rw [itoa_min (by decide), show (-2 : Int).natAbs = 2 from rfl, Lib.decDigits_one (by omega)]; rfl
def knP : List UInt8 := [112, 32, 99, 110, 102, 32, 51, 32, 50, 10, 49, 32, 50, 32, 48, 10, 45, 49, 32, 51, 32, 48, 10]
def knQ : List UInt8 := [112, 32, 99, 110, 102, 32, 51, 32, 50, 10, 99, 32, 112, 32, 115, 104, 111, 119, 32, 51, 32, 49, 32, 48, 10, 99, 32, 112, 32, 119, 101, 105, 103, 104, 116, 32, 45, 50, 32, 49, 47, 51, 32, 48, 10, 49, 32, 50, 32, 48, 10, 45, 49, 32, 51, 32, 48, 10]
theorem kn_p : printD rdD 3 [[1, 2], [-1, 3]] [] [] = (knP, 0) := by
  have e : ptB 3 [[1, 2], [-1, 3]] [] [] = knP := by
    simp [ptB, linesP, lnP, lnN, kn_i1, kn_i2, kn_i3, kn_m1, knP]
  unfold printD
  rw [if_neg (by rw [kn_c1]; simp), e, if_neg (by decide)]
theorem kn_q : printD rdD 3 [[1, 2], [-1, 3]] [3, 1] [(-2, [49, 47, 51])] = (knQ, 0) := by
  have e : ptB 3 [[1, 2], [-1, 3]] [3, 1] [(-2, [49, 47, 51])] = knQ := by
    simp [ptB, linesP, lnP, lnN, lnS, lnW, kn_i1, kn_i2, kn_i3, kn_m1, kn_m2, knQ]
  unfold printD
  rw [if_neg (by rw [kn_c2]; simp), e, if_neg (by decide)]
theorem new_three (w : World) (a b c : Obj) : (((w.alloc a).alloc b).alloc c).heap[w.heap.size]? = some a ∧ (((w.alloc a).alloc b).alloc c).heap[w.heap.size + 1]? = some b ∧ (((w.alloc a).alloc b).alloc c).heap[w.heap.size + 1 + 1]? = some c ∧ Below w.heap.size w (((w.alloc a).alloc b).alloc c) ∧ (((w.alloc a).alloc b).alloc c).heap.size = w.heap.size + 3 := by
  have h := four_new w a b c c
  have hs : (((w.alloc a).alloc b).alloc c).heap.size = w.heap.size + 3 := by simp
  have hb := (below_one (((w.alloc a).alloc b).alloc c) c).block
  rw [hs] at hb
  refine ⟨?_, ?_, ?_, ?_, hs⟩
  · rw [← hb _ (by omega)]; exact h.1
  · rw [← hb _ (by omega)]; exact h.2.1
  · rw [← hb _ (by omega)]; exact h.2.2.1
  · exact ((below_one w a).trans ((below_one (w.alloc a) b).mono (by simp))).trans ((below_one ((w.alloc a).alloc b) c).mono (by simp; omega))
theorem at_blk {w : World} {g : Nat} {xs : List Value} {E : TypeId} (h : w.heap[g]? = some (.cells xs.toArray E (0, 0))) : AtN w.heap.size w (some ⟨g, 0, none⟩) xs := fun i v hi =>
  ⟨g, 0, lt_of_heap h, rfl, by rw [Nat.zero_add]; exact blk_cell h i (by rw [List.getElem?_toArray]; exact hi)⟩
theorem put_new {w w' : World} {b i N : Nat} {cs : Array Value} {T : TypeId} {v : Value} {o : Obj} (hw : w' = (w.setCell ⟨b, i, none⟩ v).alloc o) (hb : w.heap[b]? = some (.cells cs T (0, 0))) (hN : N ≤ b) : w'.heap[b]? = some (.cells (cs.setIfInBounds i v) T (0, 0)) ∧ w'.heap[w.heap.size]? = some o ∧ Below N w w' := by
  have hlt := lt_of_heap hb
  have hsz : (w.setCell ⟨b, i, none⟩ v).heap.size = w.heap.size := by simp
  subst hw
  refine ⟨?_, ?_, ?_⟩
  · rw [(below_one (w.setCell ⟨b, i, none⟩ v) o).block b (by omega)]
    exact heap_setCell_any hb v
  · have := new_one (w.setCell ⟨b, i, none⟩ v) o
    rw [hsz] at this
    exact this
  · exact ((Below.refl _ _).setCell (by simpa using hN) v).trans ((below_one _ o).mono (by omega))

set_option maxHeartbeats 6400000 in
set_option maxRecDepth 100000 in
theorem known_law (w : World) (hM0 : ∃ m, w.cell? ⟨1, 0, none⟩ = some (.int .i64 m)) (hT : TabI w) : Calls Tryd.prog 5 #[] w fun e w' => e = .returned (.bool true) ∧ Below w.heap.size w w' := by
  obtain ⟨Post, hPost⟩ : ∃ P : Ending → World → Prop, P = fun e w' => e = .returned (.bool true) ∧ Below w.heap.size w w' := ⟨_, rfl⟩
  rw [← hPost]
  have HP := Lib.hid hPost
  have HM := Lib.hid (show ∀ x, Below w.heap.size w x → ∃ m, x.cell? ⟨1, 0, none⟩ = some (.int .i64 m) from fun x hx => by obtain ⟨m, hm⟩ := hM0; exact ⟨m, below_cell hx (block_lt_of_cell hm) hm⟩)
  have KW := Lib.hid (fun (x : World) (hx : Below w.heap.size w x) => gWorks x (HM.out x hx))
  have HT := Lib.hid hT
  clear hPost hM0 hT
  go_enter Tryd.func5, Tryd.ntmps5
  go_upto_region 4 with fail
  refine wp_gen ?_
  intro w1 hw1
  obtain ⟨hn1, hn2, hn3, hnb, hns⟩ := new_three w (.cells (strs knT).toArray 9 (0, 0)) (.cells (ints knL).toArray 3 (0, 0)) (.cells (ints knE).toArray 31 (0, 0))
  have T1 := Lib.hid (show w1.heap[w.heap.size]? = some (.cells (strs knT).toArray 9 (0, 0)) by rw [hw1]; exact hn1)
  have N1 := Lib.hid (show w1.heap[w.heap.size + 1]? = some (.cells (ints knL).toArray 3 (0, 0)) by rw [hw1]; exact hn2)
  have E1 := Lib.hid (show w1.heap[w.heap.size + 1 + 1]? = some (.cells (ints knE).toArray 31 (0, 0)) by rw [hw1]; exact hn3)
  have HB1 := Lib.hid (show Below w.heap.size w w1 by rw [hw1]; exact hnb)
  have hs1 : w1.heap.size = w.heap.size + 3 := by rw [hw1]; exact hns
  clear hw1 hn1 hn2 hn3 hnb hns
  go_wp2_with fail
  go_loopw [4] (fun t4 wr => ∃ j : Nat, j ≤ 18 ∧ t4 = .int .i64 j ∧ Hid (Below w1.heap.size w1 wr)) (fun t4 _ => 18 - (intOf t4).toNat)
  case atStart => exact ⟨0, Nat.zero_le _, rfl, Below.refl _ _⟩
  case round =>
    obtain ⟨j, hj, rfl, HB⟩ := hrel
    have hsz := HB.out.size
    by_cases hlt : j < 18
    · have hdd : decide ((j : Int) < 18) = true := decide_eq_true (by omega)
      obtain ⟨x, k, en, h1, h2, h3, h4, h5⟩ := kn_all j hlt
      have c1 := blk_cell ((HB.out.block _ (by omega)).trans T1.out) j (by rw [List.getElem?_toArray]; exact strs_get _ _ _ h1)
      have C2 := Lib.hid (blk_cell N1.out j (by rw [List.getElem?_toArray]; exact ints_get _ _ _ h2))
      have C3 := Lib.hid (blk_cell E1.out j (by rw [List.getElem?_toArray]; exact ints_get _ _ _ h3))
      have KP := gParse x (by omega) wr (HM.out wr (HB1.out.trans (HB.out.mono (by omega))))
      rw [h4] at KP
      generalize (⟨x.toArray⟩ : ByteArray) = y at *
      clear h1 h2 h3 h4 h5
      go_wp2_with fail
      refine KP.mono ?_
      rintro e w2 ⟨v, rfl, hD, hB⟩
      obtain ⟨aL, cL, aS, cS, aW, cW, e1, e2, e3, _⟩ := hD.file
      simp only at e1 e2 e3 ⊢
      rw [e1, e2, e3]
      have HB2 := Lib.hid (HB.out.trans (hB.mono hsz))
      have hs2 := hB.size
      have c2 := below_cell HB2.out (show w.heap.size + 1 < w1.heap.size by omega) C2.out
      have c3 := below_cell HB2.out (show w.heap.size + 1 + 1 < w1.heap.size by omega) C3.out
      have hnn : (((k : Nat) : Int) != (k : Int)) = false := by simp
      have hee : (en != en) = false := by simp
      clear hD hB KP e1 e2 e3 c1
      go_upto_region 8 with fail
      refine wp_gen ?_
      intro w3 hw3
      have hB23 : Below w2.heap.size w2 w3 := by rw [hw3]; exact below_one w2 _
      have HB3 := Lib.hid (HB2.out.trans (hB23.mono (by omega)))
      have c2 := below_cell hB23 (show w.heap.size + 1 < w2.heap.size by omega) c2
      have c3 := below_cell hB23 (show w.heap.size + 1 + 1 < w2.heap.size by omega) c3
      clear hw3 hB23
      go_wp2_with fail
      go_roundw
      case rel => exact ⟨j + 1, by omega, by go_num, HB3.out⟩
      case measure => simp [intOf]; omega
    · obtain rfl : j = 18 := by omega
      obtain ⟨w4, hw4⟩ : ∃ w4, w4 = wr := ⟨_, rfl⟩
      subst hw4
      have HB4 := Lib.hid (HB1.out.trans (HB.out.mono (by omega)))
      have KP := gParse knX (by decide) w4 (HM.out w4 HB4.out)
      rw [kn_x] at KP
      clear hj hlt T1 N1 E1 HB1 HB hs1 hsz
      go_wp2_with fail
      refine KP.mono ?_
      rintro e w5 ⟨v5, rfl, hD, hB⟩
      obtain ⟨aL, cL, aS, cS, aW, cW, e1, e2, e3, hF⟩ := hD.file
      simp only at e1 e2 e3 hF ⊢
      rw [e1, e2, e3]
      have HF5 := Lib.hid hF
      have HB5 := Lib.hid (HB4.out.trans (hB.mono HB4.out.size))
      clear hD hB KP e1 e2 e3 hF HB4
      go_upto_region 11 with fail
      refine wp_gen ?_
      intro w6 hw6
      have hB56 : Below w5.heap.size w5 w6 := by rw [hw6]; exact below_one w5 _
      have B6 := Lib.hid (show w6.heap[w5.heap.size]? = some (.cells #[.int .i64 3, .slice aL 2 cL, .slice aS 0 cS, .slice aW 0 cW] 28 (0, 0)) by rw [hw6]; exact new_one w5 _)
      have HB6 := Lib.hid (HB5.out.trans (hB56.mono HB5.out.size))
      have HF6 := Lib.hid (HF5.out.below hB56 (Nat.le_refl _))
      have hs56 := hB56.size
      have HB5s := HB5.out.size
      clear hw6 hB56 HF5 HB5
      have KP1 := gPrint 3 [[1, 2], [-1, 3]] [] [] aL aS aW cL cS cW w6 (HF6.out.mono hs56) (by simp) (by simp) (by simp) (HT.out.below HB6.out) (HM.out w6 HB6.out)
      rw [kn_p] at KP1
      have a0 := blk_cell B6.out 0 rfl
      have a1 := blk_cell B6.out 1 rfl
      have a2 := blk_cell B6.out 2 rfl
      have a3 := blk_cell B6.out 3 rfl
      go_wp2_with fail
      refine KP1.mono ?_
      rintro e w7 ⟨rfl, hB⟩
      have HB7 := Lib.hid (HB6.out.trans (hB.mono HB6.out.size))
      have B7 := Lib.hid ((behind_of_below hB).keep B6.out (by simp))
      have HF7 := Lib.hid (HF6.out.below hB hs56)
      clear hB KP1 a0 a1 a2 a3 B6 HF6
      have a2 := blk_cell B7.out 2 rfl
      have a3 := blk_cell B7.out 3 rfl
      have u2 := Lib.frozen_of_heap B7.out 2
      have u3 := Lib.frozen_of_heap B7.out 3
      have hz7 : w5.heap.size < w7.heap.size := lt_of_heap B7.out
      go_upto_region 13 with fail
      refine wp_gen ?_
      intro w8 hw8
      obtain ⟨B8, C8, hB78⟩ := put_new hw8 B7.out (Nat.le_refl _)
      have HB8 := Lib.hid (HB7.out.trans (hB78.mono (HB5s)))
      have HF8 := Lib.hid (HF7.out.below hB78 (Nat.le_refl _))
      have hz8 : w7.heap.size < w8.heap.size := lt_of_heap C8
      have B8 := Lib.hid B8
      have C8 := Lib.hid C8
      clear hw8 hB78 u2 u3 a2 a3 HF7 B7
      have a3 := blk_cell B8.out 3 rfl
      have u3 := Lib.frozen_of_heap B8.out 3
      have hz58 : w5.heap.size < w8.heap.size := by omega
      go_upto_region 14 with fail
      refine wp_gen ?_
      intro w9 hw9
      obtain ⟨B9, D9, hB89⟩ := put_new hw9 B8.out (Nat.le_refl _)
      have HB9 := Lib.hid (HB8.out.trans (hB89.mono HB5s))
      have C9 : w9.heap[w7.heap.size]? = some (.cells (ints [3, 1]).toArray 3 (0, 0)) := by
        rw [hw9, (below_one (w8.setCell ⟨w5.heap.size, 3, none⟩ _) _).block _ (by simp; omega), heap_setCell_other _ _ _ _ (by simp only; omega)]
        exact C8.out
      have hz9 : w8.heap.size < w9.heap.size := lt_of_heap D9
      have HF9 := Lib.hid (show FileAt w9.heap.size w9 aL (some ⟨w7.heap.size, 0, none⟩) (some ⟨w8.heap.size, 0, none⟩) [[1, 2], [-1, 3]] [3, 1] [(-2, [49, 47, 51])] from ⟨(HF8.out.below hB89 (Nat.le_refl _)).l.mono (by omega), at_blk C9, at_blk (xs := wts [(-2, [49, 47, 51])]) D9⟩)
      have B9 := Lib.hid B9
      clear hw9 hB89 u3 a3 HF8 B8 C8 C9 D9
      have KP2 := gPrint 3 [[1, 2], [-1, 3]] [3, 1] [(-2, [49, 47, 51])] _ _ _ cL 2 1 w9 HF9.out (by simp) (by simp) (by simp) (HT.out.below HB9.out) (HM.out w9 HB9.out)
      rw [kn_q] at KP2
      have a0 := blk_cell B9.out 0 rfl
      have a1 := blk_cell B9.out 1 rfl
      have a2 := blk_cell B9.out 2 rfl
      have a3 := blk_cell B9.out 3 rfl
      go_wp2_with fail
      refine KP2.mono ?_
      rintro e w10 ⟨rfl, hB⟩
      have HB10 := Lib.hid (HB9.out.trans (hB.mono HB9.out.size))
      have KW1 := KW.out w10 HB10.out
      clear hB KP2 a0 a1 a2 a3 B9 HF9
      go_wp2_with fail
      refine KW1.mono ?_
      rintro e w11 ⟨rfl, hB⟩
      have HB11 := Lib.hid (HB10.out.trans (hB.mono HB10.out.size))
      clear hB KW1
      go_wp2_with fail
      rw [HP.out]
      exact ⟨rfl, HB11.out⟩
end Go.Proofs.YtajjgfiojlagmaaDoor
