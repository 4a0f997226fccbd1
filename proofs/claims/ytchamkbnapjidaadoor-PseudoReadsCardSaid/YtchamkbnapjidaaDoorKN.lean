/- The reader: numbers. -/
import Derived.Test.YtchamkbnapjidaaDoorKR
import Derived.Deep.DeepCutAuto
namespace Go.Proofs.YtchamkbnapjidaaDoor
open Go.RowKit

theorem dig_at {l : List UInt8} : ∀ (k : Nat), k < digN l → ∃ c, l[k]? = some c ∧ isDig c = true := by
  induction l with
  | nil => intro k h; simp [digN] at h
  | cons a l ih =>
    intro k h
    unfold digN at h
    rw [List.takeWhile_cons] at h
    by_cases ha : isDig a = true
    · rw [if_pos ha, List.length_cons] at h
      cases k with
      | zero => exact ⟨a, rfl, ha⟩
      | succ k => exact ih k (show k < digN l by unfold digN; omega)
    · rw [if_neg ha] at h; simp at h
theorem dig_stop {l : List UInt8} : ∀ c, l[digN l]? = some c → isDig c = false := by
  induction l with
  | nil => intro c h; simp at h
  | cons a l ih =>
    intro c h
    by_cases ha : isDig a = true
    · have e : digN (a :: l) = digN l + 1 := by unfold digN; rw [List.takeWhile_cons, if_pos ha]; rfl
      rw [e] at h
      exact ih c (by simpa using h)
    · have e : digN (a :: l) = 0 := by unfold digN; rw [List.takeWhile_cons, if_neg ha]; rfl
      rw [e] at h
      simp at h; subst h; simpa using ha

def NumPost (br : Nat) (signed : Bool) (l : List UInt8) (w : World) (e : Ending) (w' : World) : Prop :=
  (∃ n r, numP signed l = some (n, r) ∧ e = .returned (.int .i64 n) ∧ Rd br r w' ∧ Behind w [br] w') ∨ (numP signed l = none ∧ e = wrongE ∧ Behind w [br] w')
theorem num_yes {signed : Bool} {l : List UInt8} (h : numBad (numNeg signed l) (numRest signed l) = false) : numP signed l = some ((if numNeg signed l then (-1 : Int) else 1) * ((decV ((numRest signed l).take (digN (numRest signed l))) : Nat) : Int), (numRest signed l).drop (digN (numRest signed l))) := by
  unfold numP; rw [if_neg (by rw [h]; simp)]
theorem num_no {signed : Bool} {l : List UInt8} (h : numBad (numNeg signed l) (numRest signed l) = true) : numP signed l = none := by
  unfold numP; rw [if_pos h]
theorem Behind.chain {w x y : World} {Wr : List Nat} (h : Behind w Wr x) (h2 : Behind x Wr y) : Behind w Wr y := h.trans h2 fun _ hb => .inl hb
theorem bytes_behind (w : World) (t : ByteArray) : Behind w [] (Lib.bytesWorld w 5 t) := behind_of_below (Joins.below_bytesWorld _ w _ t (Nat.le_refl _))

set_option maxHeartbeats 1600000 in
set_option maxRecDepth 100000 in
theorem gNum (br : Nat) (signed : Bool) (l : List UInt8) (w : World) (hR : Rd br l w) (hl : l.length ≤ 1000000) :
    Calls Tryd.prog 39 #[.pointer (some ⟨br, 0, none⟩), .bool signed] w (NumPost br signed l w) := by
  have K := gHasR br l [45] w hR
  have HN := Lib.hid (show numNeg signed l = (signed && Lib.hasPrefix l [45]) from rfl)
  have HX := Lib.hid (show numRest signed l = if numNeg signed l then l.drop 1 else l from rfl)
  have HY := Lib.hid (@num_yes signed l)
  have HZ := Lib.hid (@num_no signed l)
  have hxl : (numRest signed l).length ≤ 1000000 := by
    unfold numRest; split
    · rw [List.length_drop]; omega
    · exact hl
  have HR := Lib.hid hR
  have hdl := digN_le (numRest signed l)
  obtain ⟨Post, hPost⟩ : ∃ P : Ending → World → Prop, P = NumPost br signed l w := ⟨_, rfl⟩
  rw [← hPost]
  have HYE := Lib.hid (fun (h : numBad (numNeg signed l) (numRest signed l) = false) (e : Ending) (w' : World) (h1 : e = .returned (.int .i64 ((if numNeg signed l then (-1 : Int) else 1) * ((decV ((numRest signed l).take (digN (numRest signed l))) : Nat) : Int)))) (h2 : Rd br ((numRest signed l).drop (digN (numRest signed l))) w') (h3 : Behind w [br] w') => (show Post e w' by rw [hPost]; exact .inl ⟨_, _, HY.out h, h1, h2, h3⟩))
  have HNE := Lib.hid (fun (h : numBad (numNeg signed l) (numRest signed l) = true) (w' : World) (h3 : Behind w [br] w') => (show Post wrongE w' by rw [hPost]; exact .inr ⟨HZ.out h, rfl, h3⟩))
  have HBD := Lib.hid (show numBad (numNeg signed l) (numRest signed l) = (decide (digN (numRest signed l) = 0) || (decide (10 < digN (numRest signed l)) || (decide ((numRest signed l).head? = some 48) && (decide (1 < digN (numRest signed l)) || numNeg signed l)))) from rfl)
  have HAT := Lib.hid (@dig_at (numRest signed l))
  have HST := Lib.hid (@dig_stop (numRest signed l))
  have HDA := Lib.hid (fun (h0 : digN (numRest signed l) ≠ 0) => atoi_dig (l := (numRest signed l).take (digN (numRest signed l))) (fun e => h0 (by
    have h1 := congrArg List.length e
    have h2 := digN_le (numRest signed l)
    rw [List.length_take, List.length_nil] at h1; omega)) (dig_all _))
  have HDV := Lib.hid (fun (h : digN (numRest signed l) ≤ 10) => show decV ((numRest signed l).take (digN (numRest signed l))) < 10000000000 by
    have h1 := decV_lt _ _ rfl (dig_all (numRest signed l))
    have h2 : ((numRest signed l).take (digN (numRest signed l))).length ≤ 10 := by rw [List.length_take]; omega
    have h3 : (10 : Nat) ^ ((numRest signed l).take (digN (numRest signed l))).length ≤ 10 ^ 10 := Nat.pow_le_pow_right (by omega) h2
    have e : (10 : Nat) ^ 10 = 10000000000 := by decide
    omega)
  clear hR hl hPost HY HZ
  go_enter Tryd.func39, Tryd.ntmps39
  go_upto_region 2 with fail
  go_cut [13] (fun t13 wx => t13 = .bool (numNeg signed l) ∧ Hid (Rd br (numRest signed l) wx) ∧ Hid (Behind w [br] wx))
  case first =>
    cases signed with
    | false =>
      go_wp2_with fail
      go_meet
      case rel => exact ⟨rfl, HR.out, Behind.refl _ _⟩
    | true =>
      go_wp2_with fail
      refine K.mono ?_
      rintro e w1 ⟨rfl, h1, h2⟩
      have H1 := Lib.hid h1
      have H2 := Lib.hid h2
      clear h1 h2 K
      go_wp2_with fail
      go_meet
      case rel => exact ⟨by rw [HN.out]; rfl, by rw [HX.out, HN.out]; exact H1.out, H2.out⟩
  case rest =>
  obtain ⟨rfl, HR1, HB1⟩ := hcut
  clear K HR HN HX
  generalize numNeg signed l = neg at *
  generalize numRest signed l = x at *
  obtain ⟨s, hs⟩ : ∃ s : ByteArray, s = ⟨x.toArray⟩ := ⟨_, rfl⟩
  have hsz : s.size = x.length := by rw [hs]; exact ba_size x
  have hget : ∀ k (h : k < s.size), x[k]? = some s[k] := fun k h => by
    subst hs
    rw [List.getElem?_eq_getElem (by rw [ba_size] at h; exact h)]; rfl
  obtain ⟨w1, hw1⟩ : ∃ w1, w1 = wc := ⟨_, rfl⟩
  subst hw1
  have M0 := Lib.hid (show w1.heap[br]? = some (.cells #[.string s] 68 (0, 0)) by rw [hs]; exact HR1.out)
  have HG := Lib.hid hget
  have hsz1 : s.size ≤ 1000000 := by omega
  have hds : digN x ≤ s.size := by omega
  have HT := Lib.hid (show ∀ k, (⟨(x.take k).toArray⟩ : ByteArray) = s.extract 0 k from fun k => by rw [hs]; apply ByteArray.ext; simp [List.extract])
  have HU := Lib.hid (show ∀ k, (⟨(x.drop k).toArray⟩ : ByteArray) = s.extract k s.size from fun k => by
    rw [hs, ba_size]; apply ByteArray.ext; simp only [ByteArray.data_extract, List.extract_toArray, List.extract_eq_take_drop]; rw [List.take_of_length_le (by rw [List.length_drop]; omega)])
  have HHD := Lib.hid (show ∀ h : 0 < s.size, x.head? = some s[0] from fun h => by rw [← hget 0 h]; cases x <;> rfl)
  clear hs hget hsz hdl hxl HR1
  generalize hd : digN x = d at *
  have c0 := blk_cell M0.out 0 rfl
  have f0 := blk_free M0.out 0
  clear hd
  go_upto_if 13 with fail
  go_cut [5] (fun t5 wx => t5 = .int .i64 (if neg then -1 else 1) ∧ w1 = wx)
  case first =>
    cases neg with
    | false =>
      go_wp2_with fail
      go_meet
      case rel => exact ⟨rfl, rfl⟩
    | true =>
      go_wp2_with fail
      go_meet
      case rel => exact ⟨rfl, rfl⟩
  case rest =>
  obtain ⟨rfl, rfl⟩ := hcut
  have hsg : -1 ≤ (if neg then (-1 : Int) else 1) ∧ (if neg then (-1 : Int) else 1) ≤ 1 := by cases neg <;> decide
  have HSN := Lib.hid (show decide ((if neg then (-1 : Int) else 1) < 0) = neg by cases neg <;> rfl)
  generalize (if neg then (-1 : Int) else 1) = sg at *
  go_upto_region 4 with fail
  go_cut [6] (fun t6 wx => t6 = .int .i64 0 ∧ w1 = wx)
  case first =>
    go_wp2_with fail
    go_meet
    case rel => exact ⟨rfl, rfl⟩
  case rest =>
  obtain ⟨rfl, rfl⟩ := hcut
  apply_assumption
  refine wp_seq_k fun K hK => ?_
  go_cut [6] (fun t6 wx => t6 = .int .i64 (d : Nat) ∧ w1 = wx)
  case first =>
    go_wp2_with fail
    go_loop [6] (fun t6 => ∃ k : Nat, k ≤ d ∧ t6 = .int .i64 k) (fun t6 => d - (intOf t6).toNat)
    case atStart => exact ⟨0, Nat.zero_le _, rfl⟩
    case round =>
      obtain ⟨k, hk, rfl⟩ := hrel
      by_cases hlt : k < d
      · have hkl : k < s.size := by omega
        have hkd : decide (k < s.size) = true := by simpa using hkl
        obtain ⟨c, hc1, hc2⟩ := HAT.out k hlt
        have hc3 : c = s[k] := by rw [HG.out k hkl] at hc1; simpa using hc1.symm
        subst hc3
        simp only [isDig, Bool.and_eq_true, decide_eq_true_eq] at hc2
        obtain ⟨hlo, hhi⟩ := hc2
        clear hc1
        go_wp2_with fail
        go_round
        case rel => exact ⟨k + 1, by omega, by go_num⟩
        case measure => simp [intOf]; omega
      · obtain rfl : k = d := by omega
        by_cases hkl : k < s.size
        · have hkd : decide (k < s.size) = true := by simpa using hkl
          have hst := HST.out _ (HG.out k hkl)
          by_cases hlo : 48 ≤ s[k].toNat
          · have hhi : ¬ s[k].toNat ≤ 57 := by
              intro h
              simp only [isDig, Bool.and_eq_false_iff, decide_eq_false_iff_not] at hst
              omega
            clear hst
            go_wp2_with fail
            go_meet
            case rel => exact ⟨rfl, rfl⟩
          · clear hst
            go_wp2_with fail
            go_meet
            case rel => exact ⟨rfl, rfl⟩
        · have hkd : decide (k < s.size) = false := by simpa using hkl
          go_wp2_with fail
          go_meet
          case rel => exact ⟨rfl, rfl⟩
  case rest =>
  obtain ⟨rfl, rfl⟩ := hcut
  clear HAT HST HG
  go_upto_region 7 with fail
  go_cut [62] (fun t62 wx => t62 = .bool (numBad neg x) ∧ w1 = wx)
  case first =>
    by_cases h0 : d = 0
    · have hz : ((d : Int) == 0) = true := by simp [h0]
      have HV := Lib.hid (show numBad neg x = true by rw [HBD.out, h0]; rfl)
      clear h0
      go_wp2_with fail
      go_meet
      case rel => exact ⟨by rw [HV.out]; try rfl, rfl⟩
    have hz : ((d : Int) == 0) = false := by simp [h0]
    by_cases h10 : 10 < d
    · have hd1 : decide ((10 : Int) < (d : Int)) = true := by simp; omega
      have HV := Lib.hid (show numBad neg x = true by rw [HBD.out, decide_eq_true h10]; simp)
      clear h0
      go_wp2_with fail
      go_meet
      case rel => exact ⟨by rw [HV.out]; try rfl, rfl⟩
    have hd1 : decide ((10 : Int) < (d : Int)) = false := by simp; omega
    have hs0 : 0 < s.size := by omega
    by_cases h48 : s[0].toNat = 48
    · have h4 : ((s[0].toNat : Int) == 48) = true := by simp [h48]
      have HV := Lib.hid (show numBad neg x = (decide (1 < d) || neg) by
        rw [HBD.out, decide_eq_false h0, decide_eq_false h10, HHD.out hs0, decide_eq_true (show some s[0] = some 48 by congr 1; exact UInt8.toNat_inj.1 h48)]; simp)
      clear h0 h48
      by_cases h1 : 1 < d
      · have hd2 : decide ((1 : Int) < (d : Int)) = true := by simp; omega
        go_wp2_with fail
        go_meet
        case rel => exact ⟨by rw [HV.out, decide_eq_true h1]; try rfl, rfl⟩
      · have hd2 : decide ((1 : Int) < (d : Int)) = false := by simp; omega
        go_wp2_with fail
        go_meet
        case rel => exact ⟨by rw [HV.out, decide_eq_false h1, ← HSN.out]; try rfl, rfl⟩
    · have h4 : ((s[0].toNat : Int) == 48) = false := by
        rw [beq_eq_false_iff_ne]; omega
      have HV := Lib.hid (show numBad neg x = false by
        rw [HBD.out, decide_eq_false h0, decide_eq_false h10, HHD.out hs0, decide_eq_false (show ¬ some s[0] = some 48 from fun e => h48 (by simp only [Option.some.injEq] at e; rw [e]; rfl))]; simp)
      clear h0 h48
      go_wp2_with fail
      go_meet
      case rel => exact ⟨by rw [HV.out]; try rfl, rfl⟩
  case rest =>
  obtain ⟨rfl, rfl⟩ := hcut
  cases hb : numBad neg x with
  | true =>
    have HF := Lib.hid (HNE.out hb)
    clear hb
    go_wp2_with fail
    exact ⟨rfl, HF.out _ HB1.out⟩
  | false =>
    have hd0 : d ≠ 0 := fun e => by rw [HBD.out, e] at hb; cases hb
    have hd10 : d ≤ 10 := by
      rcases Nat.lt_or_ge 10 d with h | h
      · rw [HBD.out, decide_eq_true h] at hb; simp at hb
      · exact h
    have hv := HDV.out hd10
    have hat := HDA.out hd0
    have HF := Lib.hid (HYE.out hb)
    have K1 := Tryd.strconv_Atoi (s.extract 0 d) (decV (x.take d)) (by rw [← HT.out, ba_size, List.length_take]; omega) (by rw [← HT.out]; exact hat) w1
    have HUd := Lib.hid (HU.out d)
    clear hb hat HNE HYE HBD HHD HDA HDV
    generalize decV (x.take d) = v at *
    have hdb : d ≤ s.size := hds
    go_wp2_with fail
    refine K1.mono ?_
    rintro e w2 ⟨rfl, q, rfl⟩
    have hBq := bytes_behind w1 q
    have M2 := hBq.keep M0.out (by simp)
    have c2 := blk_cell M2 0 rfl
    have f2 := blk_free M2 0
    have HB2 := Lib.hid (HB1.out.chain (hBq.mono (by simp)))
    have MM := Lib.hid M2
    clear M2 hBq K1 c0 f0
    generalize Lib.bytesWorld w1 5 q = w3 at *
    have hmul : sg * (v : Int) = -(v : Int) ∨ sg * (v : Int) = 0 ∨ sg * (v : Int) = v := by
      rcases (show sg = -1 ∨ sg = 0 ∨ sg = 1 by omega) with rfl | rfl | rfl <;> omega
    have HM := Lib.hid hmul
    clear hmul
    go_wp2_with fail
    have hmul := HM.out
    refine HF.out _ _ ?_ ?_ (HB2.out.chain (behind_set (by simp)))
    · show Ending.returned (.int .i64 (wrap64 (sg * (v : Int)))) = _
      have hw64 : wrap64 (sg * (v : Int)) = sg * (v : Int) := by unfold wrap64; omega
      rw [hw64]
    · unfold Rd
      rw [HUd.out]
      exact heap_setCell_same _ br 0 _ _ _ MM.out
end Go.Proofs.YtchamkbnapjidaaDoor
