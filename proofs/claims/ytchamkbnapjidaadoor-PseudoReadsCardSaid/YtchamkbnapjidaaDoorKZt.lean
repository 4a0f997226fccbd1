/- The reference's numerals and texts. -/
import Derived.Test.YtchamkbnapjidaaDoorKP
import Derived.Test.YtchamkbnapjidaaDoorKYa
import Derived.Test.YtchamkbnapjidaaDoorKZa
import Derived.Deep.DeepCutAuto
namespace Go.Proofs.YtchamkbnapjidaaDoor
open Go.RowKit

section
variable {P : Program} {ops : Array Oper} {w : World} {Wr : List Nat}
/-- An operation that reads a block that the region has made. -/
theorem lex_seen {kd : Nat → Nat} {Q : Act → Blocks → Prop} {B : Blocks} {rest : List Oper} {k d : Nat} {op : Op} {ty : TypeId} {pos : String} {after : Array Edge} {a : Act} (v : Value) (hk : kd k = 1)
    (hrun : ∀ x, Behind w Wr x → Has B x → (execOp a.eval ⟨some d, op, ty, pos, after, none⟩).run P x = .ok (.value v) x)
    (h : setSlot P ops d ty pos v (fun a' => wpLex P ops w Wr kd Q rest (k + 1) a' B) a) :
    wpLex P ops w Wr kd Q (⟨some d, op, ty, pos, after, none⟩ :: rest) k a B := by
  have g : GStep P ops w Wr ⟨some d, op, ty, pos, after, none⟩ a (kd k) B (fun v' B' => v' = v ∧ B' = B) := by
    rw [hk]
    exact .read B v rfl (fun x hx hB => by unfold Oper.quietAt; rw [hrun x hx hB]; exact ⟨rfl, rfl⟩)
  refine ⟨_, g, fun v' B' hO => ?_⟩
  obtain ⟨rfl, rfl⟩ := hO
  exact of_setSlot h
end
theorem conv_one {x : World} {g : Nat} {c : Int} (h : x.heap[g]? = some (.cells #[.int .u8 c] 5 (0, 0))) (h0 : 0 ≤ c) : (convert 57 9 (.slice (some ⟨g, 0, none⟩) 1 1)).run Tryd.prog x = .ok (.string ⟨[UInt8.ofNat c.toNat].toArray⟩) x := by
  have := run_convert_bytes_arg (P := Tryd.prog) x 57 5 Tryd.underlying57 Tryd.underlying5 g 0 1 1 [c] rfl (fun i hi => by
    obtain rfl : i = 0 := by omega
    exact blk_cell h 0 rfl) 9 Tryd.underlying9
  rw [this]; rfl

theorem itoa_n (m : Nat) : Lib.itoa (m : Int) = Lib.decDigits m := by unfold Lib.itoa; rw [if_neg (by omega)]; simp
theorem itoa_neg' {n : Int} (h : n < 0) : Lib.itoa n = 45 :: Lib.itoa (-n) := by
  unfold Lib.itoa
  rw [if_pos h, if_neg (by omega)]
  congr 2; omega
theorem itoa_small {m : Nat} (h : m < 10) : Lib.itoa (m : Int) = [UInt8.ofNat (48 + (m : Int)).toNat] := by
  rw [itoa_n, Lib.decDigits_one h, show (48 + (m : Int)).toNat = 48 + m by omega]
theorem itoa_big {m : Nat} (h : ¬ m < 10) : Lib.itoa (m : Int) = Lib.itoa ((m / 10 : Nat) : Int) ++ [UInt8.ofNat (48 + ((m % 10 : Nat) : Int)).toNat] := by
  rw [itoa_n, itoa_n, Lib.decDigits, dif_neg h, show (48 + ((m % 10 : Nat) : Int)).toNat = 48 + m % 10 by omega]

set_option maxHeartbeats 1600000 in
set_option maxRecDepth 100000 in
theorem xDecN (m : Nat) : m < 10000000000 → Gives 33 #[.int .i64 (m : Int)] (.string ⟨(Lib.itoa (m : Int)).toArray⟩) := by
  induction m using Nat.strongRecOn with
  | _ m ih =>
  intro hm w
  have hn0 : decide ((m : Int) < 0) = false := by simp
  by_cases h : m < 10
  · have HE := Lib.hid (itoa_small h)
    have hd : decide ((m : Int) < 10) = true := by simp; omega
    go_enter Tryd.func33, Tryd.ntmps33
    go_wp2_with fail
    rw [conv_one (heap_alloc_new w _) (by omega)]
    go_wp2_with fail
    go_ret
    exact ⟨by rw [HE.out]; rfl, below_one _ _⟩
  · have K := ih (m / 10) (by omega) (by omega)
    have HE := Lib.hid (itoa_big h)
    have hd : decide ((m : Int) < 10) = false := by simp; omega
    have hr : m % 10 < 10 := Nat.mod_lt _ (by omega)
    have hq : (m : Int).tdiv 10 = ((m / 10 : Nat) : Int) := by rw [Int.tdiv_eq_ediv_of_nonneg (by omega)]; omega
    have hq2 : (m : Int) / 10 = ((m / 10 : Nat) : Int) := by omega
    have hq3 : (m : Int).tmod 10 = ((m % 10 : Nat) : Int) := by rw [Int.tmod_eq_emod_of_nonneg (by omega)]; omega
    have hq4 : (m : Int) % 10 = ((m % 10 : Nat) : Int) := by omega
    have hln := itoa_len (n := ((m / 10 : Nat) : Int)) (by unfold inTen; omega)
    generalize m % 10 = r at *
    generalize m / 10 = q at *
    go_enter Tryd.func33, Tryd.ntmps33
    go_wp2_with fail
    refine wp_game [0, 0, 0, 0, 0, 0, 0, 3, 1, 0, 0] [] B0 fin_B0 (has_B0 _) (by kernel_rfl) (by kernel_rfl) ?_
    refine lex_quietE 7 (by kernel_rfl) (by rfl) ?_
    apply Exists.intro
    refine ⟨fun z hz1 => ?_, ?_⟩
    · clear hz1
      simp only [List.take_succ_cons, List.take_zero]
      unfold Cx
      repeat (go_big_quiet_step (first | with_reducible exact K.at _ _))
      exact wpQuiet_nil rfl
    simp only [List.drop_succ_cons, List.drop_zero]
    refine lex_slice 1 (.cells #[.int .u8 (48 + (r : Int))] 5) (by rfl) (fun x => by go_simp) (fun g q hn => ?_)
    unfold setSlot
    go_big_quiet_step (fail)
    refine wpQuiet_nil ?_
    refine lex_seen (.string ⟨[UInt8.ofNat (48 + (r : Int)).toNat].toArray⟩) (by rfl) (fun x hx hH => ?_) ?_
    · have hcv := conv_one (hH g _ (Blocks.put_same _ _ _)) (by omega)
      go_simp
    unfold setSlot
    go_big_quiet_step (fail)
    refine wpQuiet_nil ?_
    refine lex_quietE 2 (by kernel_rfl) (by rfl) ?_
    apply Exists.intro
    refine ⟨fun z hz1 => ?_, ?_⟩
    · clear hz1
      simp only [List.take_succ_cons, List.take_zero]
      unfold Cx
      repeat (go_big_quiet_step (fail))
      exact wpQuiet_nil rfl
    simp only [List.drop_succ_cons, List.drop_zero]
    refine lex_nil ?_
    intro x hx _
    have HB := Lib.hid hx.below
    clear hx
    go_wp2_with fail
    go_ret
    exact ⟨by rw [HE.out, ← ba_app]; rfl, HB.out⟩
theorem xDec (n : Int) (h : inTen n) : Gives 33 #[.int .i64 n] (.string ⟨(Lib.itoa n).toArray⟩) := by
  have hin : -10000000000 < n ∧ n < 10000000000 := h
  by_cases hn : n < 0
  · intro w
    have K := xDecN (-n).toNat (by omega)
    rw [show (((-n).toNat : Nat) : Int) = -n by omega] at K
    have HE := Lib.hid (itoa_neg' hn)
    have hln := itoa_len (n := -n) (by unfold inTen; omega)
    have hd : decide (n < 0) = true := by simpa using hn
    go_enter Tryd.func33, Tryd.ntmps33
    go_wp2_with fail
    refine (K w).mono ?_
    rintro e w2 ⟨rfl, hb⟩
    have HB := Lib.hid hb
    clear hb K
    go_wp2_with fail
    go_ret
    exact ⟨by rw [HE.out, show (45 :: Lib.itoa (-n)) = [45] ++ Lib.itoa (-n) from rfl, ← ba_app]; rfl, HB.out⟩
  · have K := xDecN n.toNat (by omega)
    rw [show ((n.toNat : Nat) : Int) = n by omega] at K
    exact K
theorem xLit (n : Int) (h : inTen n) : Gives 34 #[.int .i64 n] (.string ⟨(litW n).toArray⟩) := by
  intro w
  have hin : -10000000000 < n ∧ n < 10000000000 := h
  by_cases hn : n < 0
  · have K := xDec (-n) (by unfold inTen; omega)
    have hln := itoa_len (n := -n) (by unfold inTen; omega)
    have HE := Lib.hid (show litW n = [126, 120] ++ Lib.itoa (-n) from if_pos hn)
    have hd : decide (n < 0) = true := by simpa using hn
    go_enter Tryd.func34, Tryd.ntmps34
    go_wp2_with fail
    refine (K w).mono ?_
    rintro e w2 ⟨rfl, hb⟩
    have HB := Lib.hid hb
    clear hb K
    go_wp2_with fail
    go_ret
    exact ⟨by rw [HE.out, ← ba_app]; rfl, HB.out⟩
  · have K := xDec n h
    have hln := itoa_len h
    have HE := Lib.hid (show litW n = [120] ++ Lib.itoa n from if_neg hn)
    have hd : decide (n < 0) = false := by simpa using hn
    go_enter Tryd.func34, Tryd.ntmps34
    go_wp2_with fail
    refine (K w).mono ?_
    rintro e w2 ⟨rfl, hb⟩
    have HB := Lib.hid hb
    clear hb K
    go_wp2_with fail
    go_ret
    exact ⟨by rw [HE.out, ← ba_app]; rfl, HB.out⟩

/-- What stands ahead of a term's number, and the number. -/
def preT (j : Nat) (c : Int) : List UInt8 := if j = 0 then [] else if c < 0 then [32, 45, 32] else [32, 43, 32]
def absT (j : Nat) (c : Int) : Int := if j = 0 then c else if c < 0 then -c else c
theorem tTerm_pre (j : Nat) (c y : Int) : tTerm j c y = preT j c ++ Lib.itoa (absT j c) ++ [32] ++ litW y := by
  unfold tTerm preT absT
  rw [tLit_W]
  split
  · simp
  · split <;> simp

set_option maxHeartbeats 4000000 in
set_option maxRecDepth 100000 in
theorem xPrint (N : Nat) (s : PS) (ca la : Option Addr) (cc lc : Nat) (hcl : s.C.length ≤ 100000000000000) (hll : s.L.length ≤ 100000000000000) (w : World) (hC : AtN N w ca (ints s.C)) (hL : AtN N w la (ints s.L)) (hw : N ≤ w.heap.size) :
    Calls Tryd.prog 17 #[sumV ca cc la lc s] w fun e w' => e = .returned (.tuple #[.string ⟨(printS s).1.toArray⟩, .int .i64 (printS s).2]) ∧ Below w.heap.size w w' := by
  have HC := Lib.hid hC
  have HL := Lib.hid hL
  have KC := Lib.hid (fun (w1 : World) (hb : Below w.heap.size w w1) => xCheck N s 128 ca la cc lc hcl hll w1 (hC.below hb hw) (hL.below hb hw) (Nat.le_trans hw hb.size))
  unfold sumV at *
  by_cases hc : checkS s 128 = 0
  case neg =>
    have HQ := Lib.hid (show printS s = ([], checkS s 128) by unfold printS; rw [if_pos hc])
    generalize checkS s 128 = r at *
    have hr : (r != 0) = true := by simp [bne, beq_no hc]
    clear hC hL hc
    go_enter Tryd.func17, Tryd.ntmps17
    go_wp2_with fail
    refine calls_gen fun w1 hw1 => ?_
    have HB1 := Lib.hid (show Below w.heap.size w w1 by rw [hw1]; exact below_one _ _)
    clear hw1
    refine (KC.out w1 HB1.out).mono ?_
    rintro e w2 ⟨rfl, hB2⟩
    have HB2 := Lib.hid (HB1.out.trans (hB2.mono HB1.out.size))
    clear hB2 HB1
    go_wp2_with fail
    go_ret2
    exact ⟨by rw [HQ.out]; rfl, HB2.out⟩
  have hOk := check_ok.1 hc
  have HQ := Lib.hid (show printS s = (textS s, 0) by unfold printS; rw [if_neg (by simpa using hc)])
  rw [hc] at KC
  have HOK := Lib.hid hOk
  have hl64 : s.L.length ≤ 64 := by have := hOk.len; have := hOk.l64; omega
  have HCL := Lib.hid (show s.C.length = s.L.length from hOk.len)
  have HLn := Lib.hid (fun j hj => tTerms_len hOk j hj)
  have hm0 := hOk.m0
  have hm1 := hOk.m1
  clear hC hL hc hOk hcl hll
  obtain ⟨C, L, m⟩ := s
  simp only at hl64 HQ HC HL KC HCL hm0 hm1
  go_enter Tryd.func17, Tryd.ntmps17
  go_wp2_with fail
  refine calls_gen fun w1 hw1 => ?_
  have HB1 := Lib.hid (show Below w.heap.size w w1 by rw [hw1]; exact below_one _ _)
  have M1 := (show w1.heap[w.heap.size]? = some (.cells #[.slice ca C.length cc, .slice la L.length lc, .int .i64 m] 24 (0, 0)) by rw [hw1]; exact new_one _ _)
  clear hw1
  refine (KC.out w1 HB1.out).mono ?_
  rintro e w2 ⟨rfl, hB2⟩
  have HB2 := Lib.hid (HB1.out.trans (hB2.mono HB1.out.size))
  have P1 := Lib.hid ((behind_of_below hB2).keep M1 (by simp))
  clear hB2 HB1 M1 KC
  have hbw : w.heap.size < w2.heap.size := lt_of_heap P1.out
  go_wp2_with fail
  have HWE := Lib.hid (fun (z : World) (hz : Below w2.heap.size w2 z) => HB2.out.trans (hz.mono HB2.out.size))
  go_loopw [6, 5] (fun t6 t5 wr => ∃ j : Nat, j ≤ L.length ∧ t6 = .int .i64 j ∧ t5 = .string ⟨(tTerms ⟨C, L, m⟩ j).toArray⟩ ∧ Hid (Below w2.heap.size w2 wr)) (fun t6 _ _ => L.length - (intOf t6).toNat)
  case atStart => exact ⟨0, Nat.zero_le _, rfl, rfl, Below.refl _ _⟩
  case round =>
    obtain ⟨j, hj, rfl, rfl, HB⟩ := hrel
    have q2 := (behind_of_below HB.out).keep P1.out (by simp)
    have HQ2 := Lib.hid q2
    have b1 := blk_cell q2 1 rfl
    have b0 := blk_cell q2 0 rfl
    clear q2
    by_cases hlt : j < L.length
    · have hdd : decide (j < L.length) = true := by simpa using hlt
      have hltC : j < C.length := by have := HCL.out; omega
      have hyy : L[j]? = some (L.getD j 0) := by simp [List.getD, hlt]
      have hcc : C[j]? = some (C.getD j 0) := by simp [List.getD, hltC]
      have hly := lit_in HOK.out hlt
      have hcy := coef_in HOK.out hlt
      have HX := Lib.hid (tTerms_succ ⟨C, L, m⟩ j)
      have hXl := HLn.out j hj
      obtain ⟨b, o, hb, rfl, k0⟩ := HL.out _ _ (ints_get _ _ _ hyy)
      obtain ⟨b2, o2, hb2, rfl, k2⟩ := HC.out _ _ (ints_get _ _ _ hcc)
      have K0 := Lib.hid (below_cell (HWE.out _ HB.out) (show b < w.heap.size by omega) k0)
      simp only at hly hcy HX
      have KY := xLit (L.getD j 0) (by unfold inTen; omega)
      have hlw : (litW (L.getD j 0)).length ≤ 13 := by
        have h1 := tLit_len (v := L.getD j 0) (by unfold inTen; omega)
        rw [tLit_W, List.length_cons] at h1; omega
      generalize L.getD j 0 = y at *
      have c2 := below_cell (HWE.out _ HB.out) (show b2 < w.heap.size by omega) k2
      generalize C.getD j 0 = c at *
      have hbw' : b < wr.heap.size := block_lt_of_cell K0.out
      clear hyy k0 hcc k2
      generalize tTerms ⟨C, L, m⟩ j = X at *
      have hXl2 : X.length ≤ 2000 := by omega
      have HT := Lib.hid (tTerm_pre j c y)
      go_upto_region 9 with fail
      go_cut [30] (fun t30 wx => t30 = .bool (decide (0 < j) && decide (c < 0)) ∧ wr = wx)
      case first =>
        by_cases hj0 : 0 < j
        · have hd0 : decide (0 < j) = true := by simpa using hj0
          go_wp2_with fail
          go_meet
          case rel => exact ⟨by rw [hd0]; rfl, rfl⟩
        · have hd0 : decide (0 < j) = false := by simpa using hj0
          go_wp2_with fail
          go_meet
          case rel => exact ⟨by rw [hd0]; rfl, rfl⟩
      case rest =>
      obtain ⟨rfl, rfl⟩ := hcut
      go_upto_if 30 with fail
      go_cut [5, 7] (fun t5 t7 wx => t5 = .string ⟨(X ++ preT j c).toArray⟩ ∧ t7 = .int .i64 (absT j c) ∧ wr = wx)
      case first =>
        have HP := Lib.hid (show preT j c = if j = 0 then [] else if c < 0 then [32, 45, 32] else [32, 43, 32] from rfl)
        have HA := Lib.hid (show absT j c = if j = 0 then c else if c < 0 then -c else c from rfl)
        by_cases hj0 : j = 0
        · have hd0 : decide (0 < j) = false := by simp; omega
          have HP1 := Lib.hid (HP.out.trans (if_pos hj0))
          have HA1 := Lib.hid (HA.out.trans (if_pos hj0))
          rw [hd0, Bool.false_and]
          clear HP HA hj0
          go_wp2_with fail
          go_meet
          case rel => exact ⟨by rw [HP1.out, List.append_nil], by rw [HA1.out], rfl⟩
        have hd0 : decide (0 < j) = true := by simp; omega
        by_cases hc0 : c < 0
        · have hdc : decide (c < 0) = true := by simpa using hc0
          have HP1 := Lib.hid (HP.out.trans ((if_neg hj0).trans (if_pos hc0)))
          have HA1 := Lib.hid (HA.out.trans ((if_neg hj0).trans (if_pos hc0)))
          rw [hd0, hdc, Bool.true_and]
          clear HP HA
          go_wp2_with fail
          go_meet
          case rel => exact ⟨by rw [HP1.out, ← ba_app], by rw [HA1.out], rfl⟩
        · have hdc : decide (c < 0) = false := by simpa using hc0
          have HP1 := Lib.hid (HP.out.trans ((if_neg hj0).trans (if_neg hc0)))
          have HA1 := Lib.hid (HA.out.trans ((if_neg hj0).trans (if_neg hc0)))
          rw [hd0, hdc, Bool.true_and]
          clear HP HA
          go_wp2_with fail
          go_meet
          case rel => exact ⟨by rw [HP1.out, ← ba_app], by rw [HA1.out], rfl⟩
      case rest =>
      obtain ⟨rfl, rfl, rfl⟩ := hcut
      have hab : -1000000000 ≤ absT j c ∧ absT j c ≤ 1000000000 := by unfold absT; split <;> (try split) <;> omega
      have KD := xDec (absT j c) (by unfold inTen; omega)
      have hla := itoa_len (n := absT j c) (by unfold inTen; omega)
      have hlp : (preT j c).length ≤ 3 := by unfold preT; split <;> (try split) <;> simp
      generalize absT j c = d at *
      generalize preT j c = p at *
      clear b0 b1 c2
      go_wp2_with fail
      refine wp_game (List.replicate 13 0) [] B0 fin_B0 (has_B0 _) (by kernel_rfl) (by kernel_rfl) ?_
      refine lex_quietE 13 (by kernel_rfl) (by rfl) ?_
      apply Exists.intro
      refine ⟨fun z hz1 => ?_, ?_⟩
      · have g0 := blk_cellp (hz1.keep HQ2.out (by simp)) 1 rfl
        have g1 := below_cellp hz1.below K0.out hbw'
        clear hz1
        simp only [List.take_succ_cons, List.take_zero]
        unfold Cx
        repeat (go_big_quiet_step (first | with_reducible exact KD.at _ _ | with_reducible exact KY.at _ _))
        exact wpQuiet_nil rfl
      simp only [List.drop_succ_cons, List.drop_zero]
      refine lex_nil ?_
      intro x hx _
      have HBx := Lib.hid (HB.out.trans (hx.below.mono HB.out.size))
      clear hx
      go_wp2_with fail
      go_roundw
      case rel =>
        refine ⟨j + 1, by omega, by go_num, ?_, HBx.out⟩
        rw [HX.out, HT.out, show X ++ (p ++ Lib.itoa d ++ [32] ++ litW y) = X ++ p ++ Lib.itoa d ++ [32] ++ litW y by simp only [List.append_assoc], ← ba_app, ← ba_app, ← ba_app, ← ba_app, ← ba_app]
      case measure => simp [intOf]; omega
    · obtain rfl : j = L.length := by omega
      have hdd : decide (L.length < L.length) = false := by simp
      have b2 := blk_cell HQ2.out 2 rfl
      have KD := xDec m (by unfold inTen; omega)
      have hla := itoa_len (n := m) (by unfold inTen; omega)
      have hXl := HLn.out L.length hj
      have HTX := Lib.hid (show textS ⟨C, L, m⟩ = (if L.length = 0 then [48] else tTerms ⟨C, L, m⟩ L.length) ++ ([32, 62, 61, 32] ++ Lib.itoa m) by unfold textS tEnd; simp only [HCL.out])
      have HBw := Lib.hid (HWE.out _ HB.out)
      generalize tTerms ⟨C, L, m⟩ L.length = X at *
      by_cases h0 : L.length = 0
      · have hd0 : ((L.length : Int) == 0) = true := by simp [h0]
        have HE := Lib.hid (HTX.out.trans (by rw [if_pos h0]))
        clear h0 HTX
        go_wp2_with fail
        refine (KD wr).mono ?_
        rintro e w3 ⟨rfl, hb⟩
        have HB3 := Lib.hid (HBw.out.trans (hb.mono HBw.out.size))
        clear hb KD
        go_wp2_with fail
        go_ret2
        exact ⟨by rw [HQ.out, HE.out, ← List.append_assoc, ← ba_app]; rfl, HB3.out⟩
      · have hd0 : ((L.length : Int) == 0) = false := by simpa using h0
        have HE := Lib.hid (HTX.out.trans (by rw [if_neg h0]))
        clear h0 HTX
        go_wp2_with fail
        refine (KD wr).mono ?_
        rintro e w3 ⟨rfl, hb⟩
        have HB3 := Lib.hid (HBw.out.trans (hb.mono HBw.out.size))
        clear hb KD
        go_wp2_with fail
        go_ret2
        exact ⟨by rw [HQ.out, HE.out, ← List.append_assoc, ← ba_app, ← ba_app]; rfl, HB3.out⟩
end Go.Proofs.YtchamkbnapjidaaDoor
