/- Texts of this claim, joined: X2, EG. -/
import Derived.Test.YtajjgfiojlagmaaGreatDoorMZ30
import Derived.Test.YtajjgfiojlagmaaGreatDoorMZ31
import Derived.Deep.DeepCutAuto
import Derived.Test.YtajjgfiojlagmaaGreatDoorMZ27

/- The reference's check of a theory. -/
namespace Go.Proofs.YtajjgfiojlagmaaGreatDoor
open Go.RowKit

set_option maxHeartbeats 1600000 in
set_option maxRecDepth 100000 in
theorem xValid5 (l n : Int) (h0 : 0 ≤ n) (hn : n ≤ 128) : Gives 57 #[.int .i64 l, .int .i64 n] (.bool (validD l n)) := by
  intro w
  have HQ := Lib.hid (show validD l n = (decide (l ≠ 0) && (decide (-n ≤ l) && decide (l ≤ n))) from rfl)
  by_cases h1 : l = 0
  · have hb : (l != 0) = false := by simp [h1]
    have HV := Lib.hid (show validD l n = false by rw [HQ.out, decide_eq_false (by omega)]; rfl)
    clear h1
    go_enter Tryz.func57, Tryz.ntmps57
    go_wp2_with fail
    go_ret
    exact ⟨by rw [HV.out]; rfl, Below.refl _ _⟩
  have hb : (l != 0) = true := by simp [bne, beq_no h1]
  by_cases h2 : -n ≤ l
  · have d2 : decide (-n ≤ l) = true := decide_eq_true h2
    by_cases h3 : l ≤ n
    · have d3 : decide (l ≤ n) = true := decide_eq_true h3
      have HV := Lib.hid (show validD l n = true by rw [HQ.out, decide_eq_true h1, d2, d3]; rfl)
      go_enter Tryz.func57, Tryz.ntmps57
      go_wp2_with fail
      go_ret
      exact ⟨by rw [HV.out]; rfl, Below.refl _ _⟩
    · have d3 : decide (l ≤ n) = false := decide_eq_false h3
      have HV := Lib.hid (show validD l n = false by rw [HQ.out, decide_eq_true h1, d2, d3]; rfl)
      go_enter Tryz.func57, Tryz.ntmps57
      go_wp2_with fail
      go_ret
      exact ⟨by rw [HV.out]; rfl, Below.refl _ _⟩
  · have d2 : decide (-n ≤ l) = false := decide_eq_false h2
    have HV := Lib.hid (show validD l n = false by rw [HQ.out, decide_eq_true h1, d2]; rfl)
    go_enter Tryz.func57, Tryz.ntmps57
    go_wp2_with fail
    go_ret
    exact ⟨by rw [HV.out]; rfl, Below.refl _ _⟩
theorem val_call {f : FuncId} {vs : Array Value} {x : World} {v0 : Value} (h : Calls Tryz.prog f vs x fun e w' => e = .returned v0 ∧ Below x.heap.size x w') : Calls Tryz.prog f vs x fun e w' => ∃ v, e = .returned v ∧ Behind x [] w' ∧ v = v0 :=
  h.mono fun _ _ ⟨he, hb⟩ => ⟨_, he, behind_of_below hb, rfl⟩
theorem behind_cellX {w x : World} {Wr : List Nat} (h : Behind w Wr x) {b o : Nat} {v : Value} (hc : w.cell? ⟨b, o, none⟩ = some v) (hn : b ∉ Wr) : x.cell? ⟨b, o, none⟩ = some v :=
  (World.cell?_of_block (a := ⟨b, o, none⟩) (h.block b (block_lt_of_cell hc) hn)).trans hc
theorem behind_cellXp {w x : World} {Wr : List Nat} (h : Behind w Wr x) {b o : Nat} {v : Value} (hc : w.cell? ⟨b, o, none⟩ = some v) (hn : b ∉ Wr) (p : Extra) : (plus x p).cell? ⟨b, o, none⟩ = some v :=
  plus_cell (behind_cellX h hc hn) (block_lt_of_cell (behind_cellX h hc hn)) p

set_option maxHeartbeats 6400000 in
set_option maxRecDepth 100000 in
theorem xTCheck (n : Int) (L : List (List Int)) (aL : Option Addr) (cL : Nat) (w : World) (hA : ClsAt w.heap.size w aL L) :
    Calls Tryz.prog 33 #[.agg #[.int .i64 n, .slice aL L.length cL]] w fun e w' => e = .returned (.int .i64 (theoC n L)) ∧ Below w.heap.size w w' := by
  obtain ⟨R, hR⟩ : ∃ R, R = theoC n L := ⟨_, rfl⟩
  rw [← hR]
  have HR := Lib.hid (show R = if n < 0 ∨ 128 < n then 6 else if 4096 < L.length then 2 else clsC n L from hR)
  have HA := Lib.hid hA
  clear hR hA
  go_enter Tryz.func33, Tryz.ntmps33
  go_upto_region 1 with fail
  refine wp_gen ?_
  intro w1 hw1
  have S1 := Lib.hid (show w1.heap[w.heap.size]? = some (.cells #[.int .i64 n, .slice aL L.length cL] 24 (0, 0)) by rw [hw1]; exact new_one _ _)
  have HB1 := Lib.hid (show Below w.heap.size w w1 by rw [hw1]; exact below_one _ _)
  have hs1 : w1.heap.size = w.heap.size + 1 := by rw [hw1]; simp
  clear hw1
  have q0 := blk_cell S1.out 0 rfl
  have q1 := blk_cell S1.out 1 rfl
  by_cases hneg : n < 0
  · have hd : decide (n < 0) = true := decide_eq_true hneg
    have HF := Lib.hid (HR.out.trans (if_pos (.inl hneg)))
    go_wp2_with fail
    go_ret
    exact ⟨by rw [HF.out]; rfl, HB1.out⟩
  have hd : decide (n < 0) = false := decide_eq_false hneg
  by_cases hbig : 128 < n
  · have hd2 : decide (128 < n) = true := decide_eq_true hbig
    have hd3 : decide (n > 128) = true := hd2
    have HF := Lib.hid (HR.out.trans (if_pos (.inr hbig)))
    go_wp2_with fail
    go_ret
    exact ⟨by rw [HF.out]; rfl, HB1.out⟩
  have hd2 : decide (128 < n) = false := decide_eq_false hbig
  have hd3 : decide (n > 128) = false := hd2
  have HR2 := Lib.hid (HR.out.trans (if_neg (by omega)))
  by_cases hlong : 4096 < L.length
  · have hd4 : decide (4096 < L.length) = true := decide_eq_true hlong
    have hd5 : decide ((4096 : Int) < (L.length : Int)) = true := decide_eq_true (by omega)
    have HF := Lib.hid (HR2.out.trans (if_pos hlong))
    go_wp2_with fail
    go_ret
    exact ⟨by rw [HF.out]; rfl, HB1.out⟩
  have hd4 : decide (4096 < L.length) = false := decide_eq_false hlong
  have hd5 : decide ((4096 : Int) < (L.length : Int)) = false := decide_eq_false (by omega)
  have HR3 := Lib.hid (HR2.out.trans (if_neg hlong))
  have hL4 : L.length ≤ 4096 := by omega
  have hn8 : 0 ≤ n ∧ n ≤ 128 := by omega
  clear HR HR2 hneg hbig hlong
  go_wp2_with fail
  clear q0 q1
  go_loopw [3] (fun t3 wr => ∃ j : Nat, j ≤ L.length ∧ t3 = .int .i64 j ∧ Hid (R = clsC n (L.drop j)) ∧ Hid (Below w1.heap.size w1 wr)) (fun t3 _ => L.length - (intOf t3).toNat)
  case atStart => exact ⟨0, Nat.zero_le _, rfl, HR3.out, Below.refl _ _⟩
  case round =>
    obtain ⟨j, hj, rfl, HG, HB⟩ := hrel
    have SJ := Lib.hid ((behind_of_below HB.out).keep S1.out (by simp))
    have q0 := blk_cell SJ.out 0 rfl
    have q1 := blk_cell SJ.out 1 rfl
    by_cases hlt : j < L.length
    · have hdd : decide (j < L.length) = true := decide_eq_true hlt
      have hxx : L[j]? = some (L.getD j []) := by simp [List.getD, hlt]
      have hdr : L.drop j = L.getD j [] :: L.drop (j + 1) := by rw [List.drop_eq_getElem_cons hlt]; simp [List.getD, hlt]
      obtain ⟨b1, o1, p1, c1, hb1, e1, k1, hat⟩ := HA.out j _ hxx
      subst e1
      have D0 := Lib.hid (below_cell HB1.out hb1 k1)
      have d1 := below_cell HB.out (show b1 < w1.heap.size by omega) D0.out
      have HAT := Lib.hid hat
      have HG2 := Lib.hid (show R = _ from HG.out.trans (by rw [hdr, clsC_cons]))
      generalize L.getD j [] = xs at *
      clear k1 hxx hdr hat
      by_cases h128 : 128 < xs.length
      · have h1 : decide (128 < xs.length) = true := decide_eq_true h128
        have h2 : decide ((128 : Int) < (xs.length : Int)) = true := decide_eq_true (by omega)
        have HF := Lib.hid (HG2.out.trans (if_pos h128))
        go_wp2_with fail
        go_ret
        exact ⟨by rw [HF.out]; rfl, HB1.out.trans (HB.out.mono (by omega))⟩
      have h1 : decide (128 < xs.length) = false := decide_eq_false h128
      have h2 : decide ((128 : Int) < (xs.length : Int)) = false := decide_eq_false (by omega)
      have HG3 := Lib.hid (HG2.out.trans (if_neg h128))
      clear HG2 HG
      go_wp2_with fail
      clear q0 q1 d1 SJ
      obtain ⟨wz, hwz⟩ : ∃ wz, wz = wr := ⟨_, rfl⟩
      subst hwz
      go_loopw [4] (fun t4 wr => ∃ k : Nat, k ≤ xs.length ∧ t4 = .int .i64 k ∧ Hid (∀ z ∈ xs.take k, validD z n = true) ∧ Hid (Below w1.heap.size w1 wr)) (fun t4 _ => xs.length - (intOf t4).toNat)
      case atStart => exact ⟨0, Nat.zero_le _, rfl, by simp [Hid], HB.out⟩
      case round =>
        obtain ⟨k, hk, rfl, HZ, HBk⟩ := hrel
        have SK := Lib.hid ((behind_of_below HBk.out).keep S1.out (by simp))
        have q0 := blk_cell SK.out 0 rfl
        have q1 := blk_cell SK.out 1 rfl
        have d1 := below_cell HBk.out (show b1 < w1.heap.size by omega) D0.out
        by_cases hlk : k < xs.length
        · have hdk : decide (k < xs.length) = true := decide_eq_true hlk
          have hzz : xs[k]? = some (xs.getD k 0) := by simp [List.getD, hlk]
          obtain ⟨b2, o2, hb2, e2, k2⟩ := HAT.out k _ (ints_get _ _ _ hzz)
          subst e2
          have D2 := Lib.hid (below_cell HBk.out (show b2 < w1.heap.size by omega) (below_cell HB1.out hb2 k2))
          have D1 := Lib.hid d1
          have HT := Lib.hid (take_one hzz)
          have HM := Lib.hid (List.mem_of_getElem? hzz)
          generalize xs.getD k 0 = z at *
          have KV := Lib.hid (xValid5 z n (by omega) (by omega))
          obtain ⟨vb, hvb⟩ : ∃ vb, vb = validD z n := ⟨_, rfl⟩
          rw [← hvb] at KV
          have HVB := Lib.hid hvb
          clear k2 hzz hvb
          go_wp2_with fail
          refine wp_gameM [0, 0, 0, 0, 0, 0, 0, 0, 0, 0, 6, 0] [] (keptB [] wr) (fin_keptB _) (has_keptB _) (by kernel_rfl) (by kernel_rfl) ?_
          refine lexM_split 10 (by decide) (by rfl) ?_
          simp only [List.take_succ_cons, List.take_zero, List.drop_succ_cons, List.drop_zero]
          refine lex_quietE 10 (by kernel_rfl) (by rfl) ?_
          apply Exists.intro
          refine ⟨fun z hz1 => ?_, ?_⟩
          · have gz := hz1.keep SK.out (by simp)
            have g0 := blk_cellp gz 0 rfl
            have g1 := blk_cellp gz 1 rfl
            have g2 := behind_cellXp hz1 D1.out (by simp)
            have g3 := behind_cellXp hz1 D2.out (by simp)
            clear gz
            clear hz1
            simp only [List.take_succ_cons, List.take_zero]
            unfold Cx
            repeat (go_big_quiet_step (fail))
            exact wpQuiet_nil rfl
          simp only [List.drop_succ_cons, List.drop_zero]
          refine lex_nil ?_
          refine lexM_manyF (fun v _ => v = .bool vb) (by rfl) (by rfl) (by simp) (fin_keptB (Wr := []) wr) (fun g o h => keptB_wr (Wr := []) (w := wr) h) (fun x => by go_simp) (fun x hx hBx => val_call (KV.out x)) (fun u1 B1 hR1 hf1 hN1 => ?_)
          subst hR1
          have HF1 := Lib.hid (Fin.over (fin_keptB (Wr := []) wr) hf1)
          have HW1 := Lib.hid (over_wr (w := wr) (Wr := []) (fun g o h => keptB_wr (Wr := []) (w := wr) h) hN1)
          have HN1 := Lib.hid hN1
          clear hf1 hN1
          unfold setSlot
          go_big_quiet_step (fail)
          refine wpQuiet_nil ?_
          refine lexM_split 1 (by decide) (by rfl) ?_
          simp only [List.take_succ_cons, List.take_zero, List.drop_succ_cons, List.drop_zero]
          refine lex_quietE 1 (by kernel_rfl) (by rfl) ?_
          apply Exists.intro
          refine ⟨fun z hz1 => ?_, ?_⟩
          · clear hz1
            simp only [List.take_succ_cons, List.take_zero]
            unfold Cx
            repeat (go_big_quiet_step (fail))
            exact wpQuiet_nil rfl
          simp only [List.drop_succ_cons, List.drop_zero]
          refine lex_nil ?_
          intro x2 hx2 _
          have HB2 := Lib.hid (HBk.out.trans (hx2.below.mono HBk.out.size))
          clear hx2 q0 q1 d1
          cases vb with
          | false =>
            have HF := Lib.hid (HG3.out.trans (if_pos (List.any_eq_true.2 ⟨z, HM.out, by rw [← HVB.out]; rfl⟩)))
            go_wp2_with fail
            go_ret
            exact ⟨by rw [HF.out]; rfl, HB1.out.trans (HB2.out.mono (by omega))⟩
          | true =>
            go_wp2_with fail
            go_roundw
            case rel => exact ⟨k + 1, by omega, by go_num, fun u hu => by
              rw [HT.out] at hu
              rcases List.mem_append.1 hu with hu | hu
              · exact HZ.out u hu
              · rw [List.mem_singleton.1 hu]; exact HVB.out.symm, HB2.out⟩
            case measure => simp [intOf]; omega
        · obtain rfl : k = xs.length := by omega
          have hdk : decide (xs.length < xs.length) = false := by simp
          have HG4 := Lib.hid (HG3.out.trans (if_neg (by
            intro h
            obtain ⟨z, hz, hb⟩ := List.any_eq_true.1 h
            rw [HZ.out z (by rw [List.take_length]; exact hz)] at hb; cases hb)))
          go_wp2_with fail
          go_roundw
          case rel => exact ⟨j + 1, by omega, by go_num, HG4.out, HBk.out⟩
          case measure => simp [intOf]; omega
    · obtain rfl : j = L.length := by omega
      have hdd : decide (L.length < L.length) = false := by simp
      have HF := Lib.hid (show R = 0 by rw [HG.out, List.drop_length]; rfl)
      go_wp2_with fail
      go_ret
      exact ⟨by rw [HF.out]; rfl, HB1.out.trans (HB.out.mono (by omega))⟩
end Go.Proofs.YtajjgfiojlagmaaGreatDoor

/- Files in memory, given and Same in a region that draws its order. -/
namespace Go.Proofs.YtajjgfiojlagmaaGreatDoor
open Go.RowKit

theorem RowV.moved {B B' : Blocks} {E : TypeId} {size : Nat} {v : Value} {n : Nat} {xs : List Value} (h : RowV B E size v n xs) (hb : ∀ g ∈ rowBlk v, ∀ o, B g = some o → B' g = some o) : RowV B' E size v n xs := by
  cases h with
  | nil => exact .nil
  | @row g n cap xs cur h => exact .row (h.of (hb g (by simp [rowBlk]) _ h.blk))
theorem rowV_atx {x : World} {E : TypeId} {size : Nat} {p : Option Addr} {n m c : Nat} {xs : List Value} (h : RowV (inW x) E size (.slice p m c) n xs) : AtN x.heap.size x p xs := by
  obtain ⟨a, c', e, _, hA⟩ := rowV_at2 h
  cases e
  exact hA
theorem rows_cls {w : World} {vL : Value} {L : List (List Int)} {cl : List Value} (hL : RowV (inW w) 25 1 vL L.length cl) (hC : ∀ (i : Nat) (u : Value) (xs : List Int), cl[i]? = some u → L[i]? = some xs → RowV (inW w) 3 1 u xs.length (ints xs)) : ∃ aL cL, vL = .slice aL L.length cL ∧ ClsAt w.heap.size w aL L := by
  obtain ⟨a, c, e, _, hA⟩ := rowV_at2 hL
  refine ⟨a, c, e, fun i xs hi => ?_⟩
  have hlen := hL.length
  have hil : i < cl.length := by
    have := (List.getElem?_eq_some_iff.1 hi).1
    omega
  obtain ⟨b, o, hb, ea, hc⟩ := hA i _ (List.getElem?_eq_getElem hil)
  have hr := hC i _ xs (List.getElem?_eq_getElem hil) hi
  obtain ⟨p, c2, e2, _, hA2⟩ := rowV_at2 hr
  rw [e2] at hc
  exact ⟨b, o, p, c2, hb, ea, hc, hA2⟩
theorem DR.file {TW : TypeId} {w : World} {b : Nat} {st : DS} {v : DV} (h : DR TW w b st v) : ∃ aL cL aS cS aW cW, v.L = .slice aL st.L.length cL ∧ v.S = .slice aS st.sh.length cS ∧ v.W = .slice aW st.ws.length cW ∧ FileAt w.heap.size w aL aS aW st.L st.sh st.ws := by
  obtain ⟨cl, hL, hC⟩ := h.rL
  obtain ⟨aL, cL, e1, h1⟩ := rows_cls hL (fun i u xs a b => (hC i u xs a b).1)
  obtain ⟨aS, cS, e2, _, h2⟩ := rowV_at2 h.rS
  obtain ⟨aW, cW, e3, _, h3⟩ := rowV_at2 h.rW
  exact ⟨aL, cL, aS, cS, aW, cW, e1, e2, e3, h1, h2, h3⟩
def RGiven (n : Int) (vL vS : Value) (ws : List (Int × List UInt8)) (v : Value) (Bn : Blocks) : Prop := ∃ p c, v = .agg #[.int .i64 n, vL, vS, .slice p ws.length c] ∧ RowV Bn 55 2 (.slice p ws.length c) ws.length (wts ws)
theorem given_call (n : Int) (vL vS : Value) (hvL : ∃ p m c, vL = .slice p m c) (hvS : ∃ p m c, vS = .slice p m c) (ws : List (Int × List UInt8)) (hws : ws.length ≤ 10000000) {w : World} (a : Option Addr) (c : Nat) (hA : AtN w.heap.size w a (wts ws)) (x : World) (hx : Behind w [] x) :
    Calls Tryz.prog 10 #[.agg #[.int .i64 n, vL, vS, .slice a ws.length c]] x fun e w' => ∃ v, e = .returned v ∧ Behind x [] w' ∧ RGiven n vL vS ws v (newB [] x w') := by
  refine (gGiven n vL vS hvL hvS ws hws x a c ((hA.below hx.below (Nat.le_refl _)).mono hx.size)).mono ?_
  rintro e w' ⟨vW, rfl, ⟨hr, hge⟩, hB⟩
  obtain ⟨p, c', e2⟩ := hr.slice
  subst e2
  exact ⟨_, rfl, behind_of_below hB, p, c', rfl, hr.moved (fun g hg o ho => by rw [newB_in (.inr (hge g hg))]; exact ho)⟩
theorem true_call {f : FuncId} {vs : Array Value} {x : World} (h : Calls Tryz.prog f vs x fun e w' => e = .returned (.bool true) ∧ Below x.heap.size x w') : Calls Tryz.prog f vs x fun e w' => ∃ v, e = .returned v ∧ Behind x [] w' ∧ v = .bool true :=
  h.mono fun e w' ⟨he, hB⟩ => ⟨_, he, behind_of_below hB, rfl⟩
theorem same2_call (n : Int) (L : List (List Int)) (sh : List Int) (ws : List (Int × List UInt8)) (aL aS bL bS : Option Addr) (cL cS dL dS : Nat) (hl : L.length ≤ 100000000) (hll : ∀ xs ∈ L, xs.length ≤ 100000000) (hsl : sh.length ≤ 100000000) (hwl : ws.length ≤ 100000000) {w : World} (hA : ClsAt w.heap.size w aL L ∧ AtN w.heap.size w aS (ints sh)) (hB : ClsAt w.heap.size w bL L ∧ AtN w.heap.size w bS (ints sh))
    {B1 B2 : Blocks} {p q : Option Addr} {c d : Nat} (hp : RowV B1 55 2 (.slice p ws.length c) ws.length (wts ws)) (hq : RowV B2 55 2 (.slice q ws.length d) ws.length (wts ws)) (x : World) (hx : Behind w [] x) (h1 : Has B1 x) (h2 : Has B2 x) :
    Calls Tryz.prog 12 #[.agg #[.int .i64 n, .slice aL L.length cL, .slice aS sh.length cS, .slice p ws.length c], .agg #[.int .i64 n, .slice bL L.length dL, .slice bS sh.length dS, .slice q ws.length d]] x fun e w' => ∃ v, e = .returned v ∧ Behind x [] w' ∧ v = .bool true :=
  true_call (xSame n L sh ws aL aS p bL bS q cL cS c dL dS d hl hll hsl hwl x ⟨(hA.1.below hx.below (Nat.le_refl _)).mono hx.size, (hA.2.below hx.below (Nat.le_refl _)).mono hx.size, rowV_atx (hp.of_has h1)⟩ ⟨(hB.1.below hx.below (Nat.le_refl _)).mono hx.size, (hB.2.below hx.below (Nat.le_refl _)).mono hx.size, rowV_atx (hq.of_has h2)⟩)
end Go.Proofs.YtajjgfiojlagmaaGreatDoor
