/- Texts of this claim, joined: X8. -/
import Derived.Test.YtajjgfiojlagmaaGreatDoorMO38
import Derived.Test.YtajjgfiojlagmaaGreatDoorMO36
import Derived.Deep.DeepCutAuto

/- The law: what is read again is new. -/
namespace Go.Proofs.YtajjgfiojlagmaaGreatDoor
open Go.RowKit

set_option maxHeartbeats 6400000 in
set_option maxRecDepth 100000 in
theorem own_law (l : List UInt8) (hl : l.length ≤ 9223372036854775807) (w : World) (hM0 : ∃ m, w.cell? ⟨1, 0, none⟩ = some (.int .i64 m)) (hT : TabI w) : Calls Tryz.prog 5 #[.string ⟨l.toArray⟩] w fun e w' => e = .returned (.bool true) ∧ Below w.heap.size w w' := by
  obtain ⟨Post, hPost⟩ : ∃ P : Ending → World → Prop, P = fun e w' => e = .returned (.bool true) ∧ Below w.heap.size w w' := ⟨_, rfl⟩
  rw [← hPost]
  have HP := Lib.hid hPost
  have HM := Lib.hid (show ∀ x, Below w.heap.size w x → ∃ m, x.cell? ⟨1, 0, none⟩ = some (.int .i64 m) from fun x hx => by obtain ⟨m, hm⟩ := hM0; exact ⟨m, below_cell hx (block_lt_of_cell hm) hm⟩)
  have KW := Lib.hid (fun (x : World) (hx : Below w.heap.size w x) => gWorks x (HM.out x hx))
  have HT := Lib.hid hT
  by_cases hbig : 10000 < l.length
  · have KW1 := KW.out w (Below.refl _ _)
    obtain ⟨s, hs⟩ : ∃ s : ByteArray, s = ⟨l.toArray⟩ := ⟨_, rfl⟩
    have hsz : s.size = l.length := by rw [hs]; exact ba_size l
    rw [← hs]
    have hd : decide (10000 < s.size) = true := decide_eq_true (by omega)
    have hd2 : decide ((10000 : Int) < (s.size : Int)) = true := decide_eq_true (by omega)
    clear hPost hM0 hT hs hsz hbig
    go_enter Tryz.func5, Tryz.ntmps5
    go_wp2_with fail
    refine KW1.mono ?_
    rintro e w2 ⟨rfl, hB⟩
    have HB := Lib.hid hB
    clear hB KW1
    go_wp2_with fail
    rw [HP.out]
    exact ⟨rfl, HB.out⟩
  have KP := Lib.hid (fun (x : World) (hx : Below w.heap.size w x) => gParse l (by omega) x (HM.out x hx))
  have KX := Lib.hid (fun (x : World) => xParse l (by omega) x)
  have hsz0 := parseD_sz (rd := rdD) l
  have HER := Lib.hid (parseD_err (rd := rdD) (l := l))
  have HLN := Lib.hid (parseD_line (rd := rdD) (l := l))
  have HVL := Lib.hid (values_le (rd := rdD) (l := l))
  obtain ⟨R, hR⟩ : ∃ R, R = parseD rdD l := ⟨_, rfl⟩
  rw [← hR] at KP KX HER HLN HVL hsz0
  obtain ⟨s, hs⟩ : ∃ s : ByteArray, s = ⟨l.toArray⟩ := ⟨_, rfl⟩
  have hsz : s.size = l.length := by rw [hs]; exact ba_size l
  rw [← hs] at KP KX ⊢
  have hd : decide (10000 < s.size) = false := decide_eq_false (by omega)
  have hd2 : decide ((10000 : Int) < (s.size : Int)) = false := decide_eq_false (by omega)
  obtain ⟨st, ln, en⟩ := R
  simp only at hsz0 HER HLN HVL
  have HLE := Lib.hid (show st.sh.length ≤ 20000 ∧ st.ws.length ≤ 20000 ∧ st.L.length ≤ 20000 ∧ ∀ c ∈ st.L, c.length ≤ 128 from ⟨by omega, by omega, by omega, hsz0.2.2.2⟩)
  have HLW := Lib.hid (show l.length ≤ 10000 by omega)
  clear hPost hM0 hT hs hsz hbig hR hsz0
  have KP1 := KP.out w (Below.refl _ _)
  go_enter Tryz.func5, Tryz.ntmps5
  go_wp2_with fail
  refine KP1.mono ?_
  rintro e w2 ⟨v, rfl, hD, hB⟩
  obtain ⟨aL, cL, aS, cS, aW, cW, e1, e2, e3, hF⟩ := hD.file
  simp only at e1 e2 e3 hF hD ⊢
  have HD := Lib.hid hD
  have HeL := Lib.hid e1
  have HeS := Lib.hid e2
  rw [e1, e2, e3]
  have HF2 := Lib.hid hF
  have HB2 := Lib.hid hB
  clear hD hB KP1 e1 e2 e3 hF
  go_upto_region 4 with fail
  refine wp_gen ?_
  intro w3 hw3
  have hB23 : Below w2.heap.size w2 w3 := by rw [hw3]; exact below_one w2 _
  have A3 := Lib.hid (show w3.heap[w2.heap.size]? = some (.cells #[.int .i64 st.n, .slice aL st.L.length cL, .slice aS st.sh.length cS, .slice aW st.ws.length cW] 28 (0, 0)) by rw [hw3]; exact new_one w2 _)
  have HB3 := Lib.hid (HB2.out.trans (hB23.mono HB2.out.size))
  have HC3 := Lib.hid hB23
  have HF3 := Lib.hid ((HF2.out.below hB23 (Nat.le_refl _)).mono hB23.size)
  have hz23 : w2.heap.size < w3.heap.size := lt_of_heap A3.out
  clear hw3 hB23 HF2
  by_cases hen : en ≠ 0
  · have hq : (en != 0) = true := by simp [bne, beq_no hen]
    have KW1 := KW.out w3 HB3.out
    clear hen
    go_wp2_with fail
    refine KW1.mono ?_
    rintro e w4 ⟨rfl, hB⟩
    have HB := Lib.hid (HB3.out.trans (hB.mono HB3.out.size))
    clear hB KW1
    go_wp2_with fail
    rw [HP.out]
    exact ⟨rfl, HB.out⟩
  obtain rfl : en = 0 := Decidable.not_not.1 hen
  obtain rfl : ln = 0 := HLN.out rfl
  clear hen HER HLN
  have KX3 := KX.out w3
  go_wp2_with fail
  refine KX3.mono ?_
  rintro e w4 ⟨v4, rfl, hD, hB⟩
  obtain ⟨bL, dL, bS, dS, bW, dW, e1, e2, e3, hF⟩ := hD.file
  simp only at e1 e2 e3 hF hD ⊢
  have HX := Lib.hid hD
  have HfL := Lib.hid e1
  have HfS := Lib.hid e2
  have HfW := Lib.hid e3
  rw [e1, e2, e3]
  have HG4 := Lib.hid hF
  have HB4 := Lib.hid (HB3.out.trans (hB.mono HB3.out.size))
  have HC4 := Lib.hid (HC3.out.trans (hB.mono HC3.out.size))
  have HF4 := Lib.hid ((HF3.out.below hB (Nat.le_refl _)).mono hB.size)
  have A4 := Lib.hid ((behind_of_below hB).keep A3.out (by simp))
  have hz34 := hB.size
  clear hD hB KX3 KX e1 e2 e3 hF HF3 A3
  go_upto_region 7 with fail
  refine wp_gen ?_
  intro w5 hw5
  have hB45 : Below w4.heap.size w4 w5 := by rw [hw5]; exact below_one w4 _
  have A5 := Lib.hid ((behind_of_below hB45).keep A4.out (by simp))
  have B5 := Lib.hid (show w5.heap[w4.heap.size]? = some (.cells #[.int .i64 st.n, .slice bL st.L.length dL, .slice bS st.sh.length dS, .slice bW st.ws.length dW] 37 (0, 0)) by rw [hw5]; exact new_one w4 _)
  have HB5 := Lib.hid (HB4.out.trans (hB45.mono HB4.out.size))
  have HC5 := Lib.hid (HC4.out.trans (hB45.mono HC4.out.size))
  have HF5 := Lib.hid ((HF4.out.below hB45 (Nat.le_refl _)).mono hB45.size)
  have HG5 := Lib.hid ((HG4.out.below hB45 (Nat.le_refl _)).mono hB45.size)
  have HX5 := Lib.hid (HX.out.keepB hB45)
  clear hw5 hB45 A4 HF4 HG4 HX
  have KPR := Lib.hid (fun (aL aS aW : Option Addr) (cL cS cW : Nat) (x : World) (hF : FileAt x.heap.size x aL aS aW st.L st.sh st.ws) (hx : Below w.heap.size w x) => gPrint st.n st.L st.sh st.ws aL aS aW cL cS cW x hF (fun y hy => by have := HVL.out y hy; have := HLW.out; omega) (by have := HLE.out.1; omega) (by have := HLE.out.2.1; omega) (HT.out.below hx) (HM.out x hx))
  obtain ⟨R2, hR2⟩ : ∃ R2, R2 = printD rdD st.n st.L st.sh st.ws := ⟨_, rfl⟩
  rw [← hR2] at KPR
  obtain ⟨bt, en2⟩ := R2
  simp only at KPR
  obtain ⟨tx, htx⟩ : ∃ tx : ByteArray, tx = ⟨bt.toArray⟩ := ⟨_, rfl⟩
  rw [← htx] at KPR
  clear hR2 htx HVL HLW
  have KPR5 := KPR.out aL aS aW cL cS cW w5 HF5.out HB5.out
  have a0 := blk_cell A5.out 0 rfl
  have a1 := blk_cell A5.out 1 rfl
  have a2 := blk_cell A5.out 2 rfl
  have a3 := blk_cell A5.out 3 rfl
  go_wp2_with fail
  refine KPR5.mono ?_
  rintro e w6 ⟨rfl, hB⟩
  have A6 := Lib.hid ((behind_of_below hB).keep A5.out (by simp))
  have B6 := Lib.hid ((behind_of_below hB).keep B5.out (by simp))
  have HB6 := Lib.hid (HB5.out.trans (hB.mono HB5.out.size))
  have HC6 := Lib.hid (HC5.out.trans (hB.mono HC5.out.size))
  have HF6 := Lib.hid ((HF5.out.below hB (Nat.le_refl _)).mono hB.size)
  have HG6 := Lib.hid ((HG5.out.below hB (Nat.le_refl _)).mono hB.size)
  have HX6 := Lib.hid (HX5.out.keepB hB)
  clear hB KPR5 A5 B5 HF5 HG5 HX5 a0 a1 a2 a3
  go_wp2_with fail
  refine wp_gameM [0, 6, 0, 6, 0] [] (keptB [] w6) (fin_keptB _) (has_keptB _) (by kernel_rfl) (by kernel_rfl) ?_
  refine lexM_split 1 (by decide) (by rfl) ?_
  simp only [List.take_succ_cons, List.take_zero, List.drop_succ_cons, List.drop_zero]
  refine lex_quietE 1 (by kernel_rfl) (by rfl) ?_
  apply Exists.intro
  refine ⟨fun z hz1 => ?_, ?_⟩
  · have gz := hz1.keep A6.out (by simp)
    have g0 := blk_cellp gz 0 rfl
    have g1 := blk_cellp gz 1 rfl
    have g2 := blk_cellp gz 2 rfl
    have g3 := blk_cellp gz 3 rfl
    clear gz
    clear hz1
    simp only [List.take_succ_cons, List.take_zero]
    unfold Cx
    repeat (go_big_quiet_step (fail))
    exact wpQuiet_nil rfl
  simp only [List.drop_succ_cons, List.drop_zero]
  refine lex_nil ?_
  refine lexM_manyF (RGiven st.n (.slice aL st.L.length cL) (.slice aS st.sh.length cS) st.ws) (by rfl) (by rfl) (by simp) (fin_keptB (Wr := []) w6) (fun g o h => keptB_wr (Wr := []) (w := w6) h) (fun x => by go_simp) (fun x hx hBx => given_call st.n _ _ ⟨_, _, _, rfl⟩ ⟨_, _, _, rfl⟩ st.ws (by have := HLE.out.2.1; omega) aW cW HF6.out.w x hx) (fun u1 B1 hR1 hf1 hN1 => ?_)
  obtain ⟨pA, cA, rfl, hrA⟩ := hR1
  have HRA := Lib.hid hrA
  clear hrA
  have HF1 := Lib.hid (Fin.over (fin_keptB (Wr := []) w6) hf1)
  have HW1 := Lib.hid (over_wr (w := w6) (Wr := []) (fun g o h => keptB_wr (Wr := []) (w := w6) h) hN1)
  have HN1 := Lib.hid hN1
  clear hf1 hN1
  unfold setSlot
  go_big_quiet_step (fail)
  refine wpQuiet_nil ?_
  refine lexM_split 1 (by decide) (by rfl) ?_
  simp only [List.take_succ_cons, List.take_zero, List.drop_succ_cons, List.drop_zero]
  refine lex_quietE 1 (by kernel_rfl) (by rfl) ?_
  apply Exists.intro
  refine ⟨fun z hz1 => ?_, ?_⟩
  · have gz := hz1.keep B6.out (by simp)
    have g0 := blk_cellp gz 0 rfl
    have g1 := blk_cellp gz 1 rfl
    have g2 := blk_cellp gz 2 rfl
    have g3 := blk_cellp gz 3 rfl
    clear gz
    clear hz1
    simp only [List.take_succ_cons, List.take_zero]
    unfold Cx
    repeat (go_big_quiet_step (fail))
    exact wpQuiet_nil rfl
  simp only [List.drop_succ_cons, List.drop_zero]
  refine lex_nil ?_
  refine lexM_manyF (fun v _ => v = .bool true) (by rfl) (by rfl) (by simp) HF1.out HW1.out (fun x => by go_simp) (fun x hx hBx => same_call st.n st.L st.sh st.ws aL aS bL bS bW cL cS dL dS dW (by have := HLE.out.2.2.1; omega) (fun xs hxs => by have := HLE.out.2.2.2 xs hxs; omega) (by have := HLE.out.1; omega) (by have := HLE.out.2.1; omega) ⟨HF6.out.l, HF6.out.s⟩ HG6.out HRA.out x hx (has_upper hBx)) (fun u2 B2 hR2 hf2 hN2 => ?_)
  subst hR2
  have HF2 := Lib.hid (Fin.over HF1.out hf2)
  have HW2 := Lib.hid (over_wr (w := w6) (Wr := []) HW1.out hN2)
  have HN2 := Lib.hid hN2
  clear hf2 hN2
  unfold setSlot
  go_big_quiet_step (fail)
  refine wpQuiet_nil ?_
  refine lexM_split 1 (by decide) (by rfl) ?_
  simp only [List.take_succ_cons, List.take_zero, List.drop_succ_cons, List.drop_zero]
  refine lex_quietE 1 (by kernel_rfl) (by rfl) ?_
  apply Exists.intro
  refine ⟨fun z hz1 => ?_, ?_⟩
  · clear hz1
    simp only [List.take_succ_cons, List.take_zero]
    unfold Cx
    repeat (go_big_quiet_step (fail))
    exact wpQuiet_nil rfl
  simp only [List.drop_succ_cons, List.drop_zero]
  refine lex_nil ?_
  intro x2 hx2 _
  obtain ⟨w7, hw7⟩ : ∃ w7, w7 = x2 := ⟨_, rfl⟩
  subst hw7
  have HB7 := Lib.hid (HB6.out.trans (hx2.below.mono HB6.out.size))
  have HC7 := Lib.hid (HC6.out.trans (hx2.below.mono HC6.out.size))
  have A7 := Lib.hid (hx2.keep A6.out (by simp))
  have B7 := Lib.hid (hx2.keep B6.out (by simp))
  have HX7 := Lib.hid (HX6.out.keepB hx2.below)
  have hz37 : w3.heap.size ≤ w4.heap.size := hz34
  have hs47 := lt_of_heap B7.out
  clear hx2 A6 B6 HX6
  obtain ⟨U, hU⟩ : ∃ U : List Nat, ∀ g, g ∈ U ↔ w.heap.size ≤ g ∧ g < w2.heap.size := ⟨List.range' w.heap.size (w2.heap.size - w.heap.size), fun g => by rw [List.mem_range'_1]; have := HB2.out.size; omega⟩
  have HU := Lib.hid hU
  clear hU
  have KC := Lib.hid (fun (i : Nat) (xs : List Int) (hi : st.L[i]? = some xs) => HD.out.clause (behind_of_below HC7.out) HeL.out hi)
  have KS := Lib.hid (fun (k : Nat) (hk : k < st.sh.length) => HD.out.show (behind_of_below HC7.out) HeS.out hk)
  have KA := Lib.hid (show ∀ x, Zr w7 U x → x.heap[w2.heap.size]? = some (.cells #[.int .i64 st.n, .slice aL st.L.length cL, .slice aS st.sh.length cS, .slice aW st.ws.length cW] 28 (0, 0)) from fun x hx => hx.be.keep A7.out (fun h => by have := (HU.out _).1 h; omega))
  go_wp2_with fail
  go_loopw [11] (fun t11 wr => ∃ i : Nat, i ≤ st.L.length ∧ t11 = .int .i64 i ∧ Hid (Zr w7 U wr)) (fun t11 _ => st.L.length - (intOf t11).toNat)
  case atStart => exact ⟨0, Nat.zero_le _, rfl, Zr.refl _ _⟩
  case round =>
    obtain ⟨i, hi, rfl, HZ⟩ := hrel
    have hLl := HLE.out.2.2.1
    have a1 := blk_cell (KA.out _ HZ.out) 1 rfl
    by_cases hlt : i < st.L.length
    · have hdd : decide ((i : Int) < (st.L.length : Int)) = true := decide_eq_true (by omega)
      have hdd2 : decide (i < st.L.length) = true := decide_eq_true hlt
      obtain ⟨xs, hxs⟩ : ∃ xs, st.L[i]? = some xs := ⟨_, List.getElem?_eq_getElem hlt⟩
      have hxl := HLE.out.2.2.2 xs (List.mem_of_getElem? hxs)
      obtain ⟨gL, p, c, rfl, hc, hk⟩ := KC.out i xs hxs
      have HCL := Lib.hid hc
      have HKL := Lib.hid hk
      obtain ⟨w8, hw8⟩ : ∃ w8, w8 = wr := ⟨_, rfl⟩
      subst hw8
      clear hxs hc hk
      go_wp2_with fail
      go_loopw [12] (fun t12 wr => ∃ k : Nat, k ≤ xs.length ∧ t12 = .int .i64 k ∧ Hid (Zr w7 U wr)) (fun t12 _ => xs.length - (intOf t12).toNat)
      case atStart => exact ⟨0, Nat.zero_le _, rfl, HZ.out⟩
      case round =>
        obtain ⟨k, hk, rfl, HZk⟩ := hrel
        clear a1
        have a1 := blk_cell (KA.out _ HZk.out) 1 rfl
        have q1 := HCL.out U _ HZk.out
        by_cases hkt : k < xs.length
        · have hdk : decide ((k : Int) < (xs.length : Int)) = true := decide_eq_true (by omega)
          have hdk2 : decide (k < xs.length) = true := decide_eq_true hkt
          obtain ⟨g, rfl, hg1, hg2, hz⟩ := HKL.out k hkt
          obtain ⟨cur, T, z, c1, c2⟩ := hz U _ HZk.out
          have q2 := blk_cell c1 k c2
          have f2 := Lib.frozen_of_heap c1 k
          have HZ2 := Lib.hid (HZk.out.step ((HU.out g).2 ⟨hg1, hg2⟩) c1 c2)
          clear c1 c2 hz
          go_wp2_with fail
          go_roundw
          case rel => exact ⟨k + 1, by omega, by go_num, HZ2.out⟩
          case measure => simp [intOf]; omega
        · obtain rfl : k = xs.length := by omega
          have hdk : decide ((xs.length : Int) < (xs.length : Int)) = false := by simp
          go_wp2_with fail
          go_roundw
          case rel => exact ⟨i + 1, by omega, by go_num, HZk.out⟩
          case measure => simp [intOf]; omega
    · obtain rfl : i = st.L.length := by omega
      have hdd : decide ((st.L.length : Int) < (st.L.length : Int)) = false := by simp
      obtain ⟨w8, hw8⟩ : ∃ w8, w8 = wr := ⟨_, rfl⟩
      subst hw8
      go_wp2_with fail
      clear a1
      go_loopw [13] (fun t13 wr => ∃ k : Nat, k ≤ st.sh.length ∧ t13 = .int .i64 k ∧ Hid (Zr w7 U wr)) (fun t13 _ => st.sh.length - (intOf t13).toNat)
      case atStart => exact ⟨0, Nat.zero_le _, rfl, HZ.out⟩
      case round =>
        obtain ⟨k, hk, rfl, HZk⟩ := hrel
        have a2 := blk_cell (KA.out _ HZk.out) 2 rfl
        have hsl := HLE.out.1
        by_cases hkt : k < st.sh.length
        · have hdk : decide ((k : Int) < (st.sh.length : Int)) = true := decide_eq_true (by omega)
          have hdk2 : decide (k < st.sh.length) = true := decide_eq_true hkt
          obtain ⟨g, rfl, hg1, hg2, hz⟩ := KS.out k hkt
          obtain ⟨cur, T, z, c1, c2⟩ := hz U _ HZk.out
          have q2 := blk_cell c1 k c2
          have f2 := Lib.frozen_of_heap c1 k
          have HZ2 := Lib.hid (HZk.out.step ((HU.out g).2 ⟨hg1, hg2⟩) c1 c2)
          clear c1 c2 hz
          go_wp2_with fail
          go_roundw
          case rel => exact ⟨k + 1, by omega, by go_num, HZ2.out⟩
          case measure => simp [intOf]; omega
        · obtain rfl : k = st.sh.length := by omega
          have hdk : decide ((st.sh.length : Int) < (st.sh.length : Int)) = false := by simp
          obtain ⟨w9, hw9⟩ : ∃ w9, w9 = wr := ⟨_, rfl⟩
          subst hw9
          have HB9 := Lib.hid (show Below w.heap.size w w9 from HB7.out.trans (HZk.out.be.below_of (fun g hg => ((HU.out g).1 hg).1) HB7.out.size))
          have B9 := Lib.hid (HZk.out.be.keep B7.out (fun h => by have := (HU.out _).1 h; omega))
          have HX9 := Lib.hid (HX7.out.keep HZk.out.be (fun g hg => .inl (fun h => by have := (HU.out _).1 hg; omega)))
          have KP9 := KP.out w9 HB9.out
          clear KA KC KS HZ HZk HB7 HC7 A7 B7 HX7 hz23 hz34 hz37 hs47
          go_wp2_with fail
          clear a2
          refine KP9.mono ?_
          rintro e w10 ⟨v10, rfl, hD, hB⟩
          obtain ⟨hL, fL, hS, fS, hW, fW, e1, e2, e3, hF⟩ := hD.file
          simp only at e1 e2 e3 hF ⊢
          rw [e1, e2, e3]
          have HF10 := Lib.hid hF
          have HB10 := Lib.hid (HB9.out.trans (hB.mono HB9.out.size))
          have B10 := Lib.hid ((behind_of_below hB).keep B9.out (by simp))
          have HX10 := Lib.hid (HX9.out.keepB hB)
          clear hD hB KP9 e1 e2 e3 hF B9 HX9
          go_upto_region 22 with fail
          refine wp_gen ?_
          intro w11 hw11
          have hB11 : Below w10.heap.size w10 w11 := by rw [hw11]; exact below_one w10 _
          have A11 := Lib.hid (show w11.heap[w10.heap.size]? = some (.cells #[.int .i64 st.n, .slice hL st.L.length fL, .slice hS st.sh.length fS, .slice hW st.ws.length fW] 28 (0, 0)) by rw [hw11]; exact new_one w10 _)
          have B11 := Lib.hid ((behind_of_below hB11).keep B10.out (by simp))
          have HB11 := Lib.hid (HB10.out.trans (hB11.mono HB10.out.size))
          have HF11 := Lib.hid ((HF10.out.below hB11 (Nat.le_refl _)).mono hB11.size)
          have HX11 := Lib.hid (HX10.out.keepB hB11)
          clear hw11 hB11 B10 HF10 HX10
          have KPR11 := KPR.out hL hS hW fL fS fW w11 HF11.out HB11.out
          have a0 := blk_cell A11.out 0 rfl
          have a1 := blk_cell A11.out 1 rfl
          have a2 := blk_cell A11.out 2 rfl
          have a3 := blk_cell A11.out 3 rfl
          go_wp2_with fail
          refine KPR11.mono ?_
          rintro e w12 ⟨rfl, hB⟩
          have A12 := Lib.hid ((behind_of_below hB).keep A11.out (by simp))
          have B12 := Lib.hid ((behind_of_below hB).keep B11.out (by simp))
          have HB12 := Lib.hid (HB11.out.trans (hB.mono HB11.out.size))
          have HF12 := Lib.hid ((HF11.out.below hB (Nat.le_refl _)).mono hB.size)
          have hX12 := HX11.out.keepB hB
          obtain ⟨xL, eL, xS, eS, xW, eW, i1, i2, i3, hFX⟩ := hX12.file
          rw [HfL.out] at i1
          rw [HfS.out] at i2
          rw [HfW.out] at i3
          cases i1
          cases i2
          cases i3
          have HG12 := Lib.hid hFX
          clear hB KPR11 A11 B11 HF11 HX11 a0 a1 a2 a3 hX12 hFX
          go_wp2_with fail
          refine wp_gameM [0, 0, 0, 0, 6, 0, 6, 0, 0, 0, 0, 0, 0, 0, 6, 0, 0] [] (keptB [] w12) (fin_keptB _) (has_keptB _) (by kernel_rfl) (by kernel_rfl) ?_
          refine lexM_split 4 (by decide) (by rfl) ?_
          simp only [List.take_succ_cons, List.take_zero, List.drop_succ_cons, List.drop_zero]
          refine lex_quietE 4 (by kernel_rfl) (by rfl) ?_
          apply Exists.intro
          refine ⟨fun z hz1 => ?_, ?_⟩
          · have gz := hz1.keep A12.out (by simp)
            have g0 := blk_cellp gz 0 rfl
            have g1 := blk_cellp gz 1 rfl
            have g2 := blk_cellp gz 2 rfl
            have g3 := blk_cellp gz 3 rfl
            clear gz
            clear hz1
            simp only [List.take_succ_cons, List.take_zero]
            unfold Cx
            repeat (go_big_quiet_step (fail))
            exact wpQuiet_nil rfl
          simp only [List.drop_succ_cons, List.drop_zero]
          refine lex_nil ?_
          refine lexM_manyF (RGiven st.n (.slice hL st.L.length fL) (.slice hS st.sh.length fS) st.ws) (by rfl) (by rfl) (by simp) (fin_keptB (Wr := []) w12) (fun g o h => keptB_wr (Wr := []) (w := w12) h) (fun x => by go_simp) (fun x hx hBx => given_call st.n _ _ ⟨_, _, _, rfl⟩ ⟨_, _, _, rfl⟩ st.ws (by have := HLE.out.2.1; omega) hW fW HF12.out.w x hx) (fun u1 B1 hR1 hf1 hN1 => ?_)
          obtain ⟨pG, cG, rfl, hrG⟩ := hR1
          have HRG := Lib.hid hrG
          clear hrG
          have HF1 := Lib.hid (Fin.over (fin_keptB (Wr := []) w12) hf1)
          have HW1 := Lib.hid (over_wr (w := w12) (Wr := []) (fun g o h => keptB_wr (Wr := []) (w := w12) h) hN1)
          have HN1 := Lib.hid hN1
          clear hf1 hN1
          unfold setSlot
          go_big_quiet_step (fail)
          refine wpQuiet_nil ?_
          refine lexM_split 1 (by decide) (by rfl) ?_
          simp only [List.take_succ_cons, List.take_zero, List.drop_succ_cons, List.drop_zero]
          refine lex_quietE 1 (by kernel_rfl) (by rfl) ?_
          apply Exists.intro
          refine ⟨fun z hz1 => ?_, ?_⟩
          · have gz := hz1.keep B12.out (by simp)
            have g0 := blk_cellp gz 0 rfl
            have g1 := blk_cellp gz 1 rfl
            have g2 := blk_cellp gz 2 rfl
            have g3 := blk_cellp gz 3 rfl
            clear gz
            clear hz1
            simp only [List.take_succ_cons, List.take_zero]
            unfold Cx
            repeat (go_big_quiet_step (fail))
            exact wpQuiet_nil rfl
          simp only [List.drop_succ_cons, List.drop_zero]
          refine lex_nil ?_
          refine lexM_manyF (fun v _ => v = .bool true) (by rfl) (by rfl) (by simp) HF1.out HW1.out (fun x => by go_simp) (fun x hx hBx => same_call st.n st.L st.sh st.ws hL hS bL bS bW fL fS dL dS dW (by have := HLE.out.2.2.1; omega) (fun xs hxs => by have := HLE.out.2.2.2 xs hxs; omega) (by have := HLE.out.1; omega) (by have := HLE.out.2.1; omega) ⟨HF12.out.l, HF12.out.s⟩ HG12.out HRG.out x hx (has_upper hBx)) (fun u2 B2 hR2 hf2 hN2 => ?_)
          subst hR2
          have HF2 := Lib.hid (Fin.over HF1.out hf2)
          have HW2 := Lib.hid (over_wr (w := w12) (Wr := []) HW1.out hN2)
          have HN2 := Lib.hid hN2
          clear hf2 hN2
          unfold setSlot
          go_big_quiet_step (fail)
          refine wpQuiet_nil ?_
          refine lexM_split 7 (by decide) (by rfl) ?_
          simp only [List.take_succ_cons, List.take_zero, List.drop_succ_cons, List.drop_zero]
          refine lex_quietE 7 (by kernel_rfl) (by rfl) ?_
          apply Exists.intro
          refine ⟨fun z hz1 => ?_, ?_⟩
          · clear hz1
            simp only [List.take_succ_cons, List.take_zero]
            unfold Cx
            repeat (go_big_quiet_step (fail))
            exact wpQuiet_nil rfl
          simp only [List.drop_succ_cons, List.drop_zero]
          refine lex_nil ?_
          refine lexM_manyF (fun v _ => v = .bool true) (by rfl) (by rfl) (by simp) HF2.out HW2.out (fun x => by go_simp) (fun x hx hBx => true_call (KW.out x (HB12.out.trans (hx.below.mono HB12.out.size)))) (fun u3 B3 hR3 hf3 hN3 => ?_)
          subst hR3
          have HF3 := Lib.hid (Fin.over HF2.out hf3)
          have HW3 := Lib.hid (over_wr (w := w12) (Wr := []) HW2.out hN3)
          have HN3 := Lib.hid hN3
          clear hf3 hN3
          unfold setSlot
          go_big_quiet_step (fail)
          refine wpQuiet_nil ?_
          refine lexM_split 2 (by decide) (by rfl) ?_
          simp only [List.take_succ_cons, List.take_zero, List.drop_succ_cons, List.drop_zero]
          refine lex_quietE 2 (by kernel_rfl) (by rfl) ?_
          apply Exists.intro
          refine ⟨fun z hz1 => ?_, ?_⟩
          · clear hz1
            simp only [List.take_succ_cons, List.take_zero]
            unfold Cx
            repeat (go_big_quiet_step (fail))
            exact wpQuiet_nil rfl
          simp only [List.drop_succ_cons, List.drop_zero]
          refine lex_nil ?_
          intro x2 hx2 _
          have HX2 := Lib.hid hx2
          clear hx2
          go_wp2_with fail
          rw [HP.out]
          exact ⟨rfl, HB12.out.trans (HX2.out.below.mono HB12.out.size)⟩
end Go.Proofs.YtajjgfiojlagmaaGreatDoor
