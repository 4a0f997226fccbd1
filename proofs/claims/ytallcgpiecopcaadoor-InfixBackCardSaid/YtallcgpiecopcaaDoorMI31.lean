/- Texts of this claim, joined: HR2, HV1. -/
import Derived.Test.YtallcgpiecopcaaDoorMI28
import Derived.Deep.DeepCutAuto
import Derived.Laws.BitsAllLaws
import Derived.Laws.MakeOwn

/- The reference's Check. -/
namespace Go.Proofs.YtallcgpiecopcaaDoor
open Go.RowKit

theorem all_take_succ {l : List Int} {p : Int → Bool} {i : Nat} {x : Int} (h : l[i]? = some x) : (l.take (i + 1)).all p = ((l.take i).all p && p x) := by
  rw [take_snoc h, List.all_append]; simp

set_option maxHeartbeats 6400000 in
set_option maxRecDepth 100000 in
theorem xCheck (n : Int) (gs : List Gt) (a : Option Addr) (c : Nat) (w : World) (hC : CircAt w.heap.size w a gs) (hf : Fits gs) (hl : gs.length ≤ 140737488355328) : Calls Tryd.prog 27 #[.agg #[.int .i64 n, .slice a gs.length c]] w fun e w' => e = .returned (.int .i64 (checkI n gs)) ∧ Below w.heap.size w w' := by
  obtain ⟨Post, hPost⟩ : ∃ P : Ending → World → Prop, P = fun e w' => e = .returned (.int .i64 (checkI n gs)) ∧ Below w.heap.size w w' := ⟨_, rfl⟩
  rw [← hPost]
  have HP := Lib.hid (show ∀ (r : Int) (w' : World), checkI n gs = r → Below w.heap.size w w' → Post (.returned (.int .i64 r)) w' from fun r w' h hb => by rw [hPost]; exact ⟨by rw [h], hb⟩)
  clear hPost
  have HC := Lib.hid hC
  have HFI := Lib.hid hf
  clear hC hf
  by_cases h1 : n < 0
  · have hd := Lib.hid (show checkI n gs = 6 by unfold checkI; rw [if_pos (.inl h1)])
    have hd1 : decide (n < 0) = true := decide_eq_true h1
    go_enter Tryd.func27, Tryd.ntmps27
    go_wp2_with fail
    exact HP.out _ _ hd.out (below_one w _)
  have hd1 : decide (n < 0) = false := decide_eq_false h1
  by_cases h2 : 128 < n
  · have hd := Lib.hid (show checkI n gs = 6 by unfold checkI; rw [if_pos (.inr h2)])
    have hd2 : decide (128 < n) = true := decide_eq_true h2
    go_enter Tryd.func27, Tryd.ntmps27
    go_wp2_with fail
    exact HP.out _ _ hd.out (below_one w _)
  have hd2 : decide (128 < n) = false := decide_eq_false h2
  by_cases h3 : 4096 < gs.length
  · have hd := Lib.hid (show checkI n gs = 2 by unfold checkI; rw [if_neg (by omega), if_pos (.inl h3)])
    have hd3 : decide ((4096 : Int) < (gs.length : Int)) = true := decide_eq_true (by omega)
    have hd4 : decide (4096 < gs.length) = true := decide_eq_true h3
    go_enter Tryd.func27, Tryd.ntmps27
    go_wp2_with fail
    exact HP.out _ _ hd.out (below_one w _)
  have hd3 : decide ((4096 : Int) < (gs.length : Int)) = false := decide_eq_false (by omega)
  have hd4 : decide (4096 < gs.length) = false := decide_eq_false h3
  have hB1 := below_one w (.cells #[.int .i64 n, .slice a gs.length c] 24 (0, 0))
  have KS := xSize n gs a c _ (HC.out.later hB1) HFI.out (by omega)
  have HCK := Lib.hid (show checkI n gs = if 65536 < sizeI gs then 2 else if gs = [] then 1 else if allGoodI n 0 gs then 0 else 1 by
    unfold checkI
    rw [if_neg (by omega)]
    by_cases hs : 65536 < sizeI gs
    · rw [if_pos (.inr hs), if_pos hs]
    · rw [if_neg (by omega), if_neg hs])
  have HB1 := Lib.hid hB1
  have A1 := Lib.hid (new_one w (.cells #[.int .i64 n, .slice a gs.length c] 24 (0, 0)))
  have HSL := Lib.hid (sizeI_le HFI.out gs.length (Nat.le_refl _))
  rw [List.take_length] at HSL
  obtain ⟨sz, hsz⟩ : ∃ sz, sz = sizeI gs := ⟨_, rfl⟩
  rw [← hsz] at KS HCK HSL
  have hsl := HSL.out
  clear hsz hB1
  go_enter Tryd.func27, Tryd.ntmps27
  go_wp2_with fail
  refine KS.mono ?_
  rintro e w2 ⟨rfl, hB2⟩
  have HB2 := Lib.hid (HB1.out.trans (hB2.mono HB1.out.size))
  have A2 := Lib.hid ((behind_of_below hB2).keep A1.out (by simp))
  have a0 := blk_cell A2.out 0 rfl
  have a1 := blk_cell A2.out 1 rfl
  clear hB2 KS A1 HB1
  by_cases h5 : 65536 < sz
  · have hd5 : decide ((65536 : Int) < (sz : Int)) = true := decide_eq_true (by omega)
    have hd6 : decide (65536 < sz) = true := decide_eq_true h5
    have hck := Lib.hid (HCK.out.trans (if_pos h5))
    go_wp2_with fail
    exact HP.out _ _ hck.out HB2.out
  have hd5 : decide ((65536 : Int) < (sz : Int)) = false := decide_eq_false (by omega)
  have hd6 : decide (65536 < sz) = false := decide_eq_false h5
  have HCK2 := Lib.hid (HCK.out.trans (if_neg h5))
  clear HCK
  go_wp2_with fail
  go_loopw [3] (fun t3 wr => ∃ j : Nat, j ≤ gs.length ∧ t3 = .int .i64 j ∧ Hid (∀ i g, i < j → gs[i]? = some g → goodI n i g = true) ∧ Hid (Below w.heap.size w wr) ∧ Hid (wr.heap[w.heap.size]? = some (.cells #[.int .i64 n, .slice a gs.length c] 24 (0, 0)))) (fun t3 _ => gs.length - (intOf t3).toNat)
  case atStart => exact ⟨0, Nat.zero_le _, rfl, (fun i g h => by omega), HB2.out, A2.out⟩
  case round =>
    obtain ⟨j, hj, rfl, HG, HB, HA⟩ := hrel
    obtain ⟨wq, rfl⟩ : ∃ w1, w1 = wr := ⟨_, rfl⟩
    have r0 := blk_cell HA.out 0 rfl
    have r1 := blk_cell HA.out 1 rfl
    clear a0 a1 A2
    by_cases hlt : j < gs.length
    · have hdd : decide ((j : Int) < (gs.length : Int)) = true := decide_eq_true (by omega)
      have hdd2 : decide (j < gs.length) = true := decide_eq_true hlt
      obtain ⟨g, hg⟩ : ∃ g, gs[j]? = some g := ⟨_, List.getElem?_eq_getElem hlt⟩
      obtain ⟨b, o, p, d, hb, rfl, k0, k1, k2, hin⟩ := (HC.out.below HB.out (Nat.le_refl _)) j g hg
      have hbad : goodI n j g = false → checkI n gs = 1 := fun h => by
        rw [HCK2.out, if_neg (by rintro rfl; simp at hlt), if_neg (fun hh => by have := (allGoodI_iff gs 0).1 hh j g hg; rw [Nat.zero_add, h] at this; cases this)]
      have HBAD := Lib.hid hbad
      have HGJ := Lib.hid hg
      have HGE := Lib.hid (goodI_eq n j g)
      have hfi := HFI.out g (List.mem_of_getElem? hg)
      have KA := xAllowed g.k g.ins.length
      obtain ⟨am, ham⟩ : ∃ am, am = manyI g.k g.ins.length := ⟨_, rfl⟩
      rw [← ham] at KA HGE
      have HIN := Lib.hid hin
      clear hbad hg ham hin
      go_upto_region 9 with fail
      refine wp_gen ?_
      intro w3 hw3
      have hb3 : Below wq.heap.size wq w3 := by rw [hw3]; exact below_one _ _
      have G3 := Lib.hid (show w3.heap[wq.heap.size]? = some (.cells #[.int .i64 g.k, .int .i64 g.lit, .slice p g.ins.length d] 46 (0, 0)) by rw [hw3]; exact new_one _ _)
      have HB3 := Lib.hid (HB.out.trans (hb3.mono HB.out.size))
      have HA3 := Lib.hid ((behind_of_below hb3).keep HA.out (by simp))
      have HIN3 := Lib.hid (HIN.out.below (hb3.mono HB.out.size) (Nat.le_refl _))
      clear hw3 hb3 r0 r1 k0 k1 k2 HIN HA
      have g0 := blk_cell G3.out 0 rfl
      have g1 := blk_cell G3.out 1 rfl
      have g2 := blk_cell G3.out 2 rfl
      go_wp2_with fail
      refine (KA w3).mono ?_
      rintro e w4 ⟨rfl, hb4⟩
      have G4 := Lib.hid ((behind_of_below hb4).keep G3.out (by simp))
      have HB4 := Lib.hid (HB3.out.trans (hb4.mono HB3.out.size))
      have HA4 := Lib.hid ((behind_of_below hb4).keep HA3.out (by simp))
      have HIN4 := Lib.hid (HIN3.out.below (hb4.mono HB3.out.size) (Nat.le_refl _))
      clear hb4 g0 g1 g2 G3 HB3 HA3 HIN3 KA
      have g0 := blk_cell G4.out 0 rfl
      have g1 := blk_cell G4.out 1 rfl
      have g2 := blk_cell G4.out 2 rfl
      have r0 := blk_cell HA4.out 0 rfl
      have r1 := blk_cell HA4.out 1 rfl
      cases am with
      | false =>
        have hck := Lib.hid (HBAD.out (by rw [HGE.out]; rfl))
        go_wp2_with fail
        exact HP.out _ _ hck.out HB4.out
      | true =>
      obtain ⟨ll, hll⟩ : ∃ ll, ll = (if g.k = 2 then litI g.lit n else decide (g.lit = 0)) := ⟨_, rfl⟩
      rw [← hll] at HGE
      have HLL := Lib.hid hll
      clear hll
      go_upto_region 11 with fail
      go_cut [62] (fun t62 wx => t62 = .bool (!ll) ∧ Hid (Below w4.heap.size w4 wx))
      case first =>
        by_cases kk : g.k = 2
        · have e2 : (g.k == 2) = true := by simp [kk]
          have en2 : (g.k != 2) = false := by simp [kk]
          have KL := xLiteral g.lit n (by omega) (by omega)
          rw [show litI g.lit n = ll by rw [HLL.out, if_pos kk]] at KL
          clear kk
          go_wp2_with fail
          refine (KL w4).mono ?_
          rintro e w5 ⟨rfl, hb5⟩
          have HB5 := Lib.hid hb5
          have h0 := blk_cell ((behind_of_below hb5).keep G4.out (by simp)) 0 rfl
          have h1 := blk_cell ((behind_of_below hb5).keep G4.out (by simp)) 1 rfl
          clear hb5 KL
          cases ll with
          | true =>
            go_wp2_with fail
            go_meet
            case rel => exact ⟨rfl, HB5.out⟩
          | false =>
            go_wp2_with fail
            go_meet
            case rel => exact ⟨rfl, HB5.out⟩
        · have e2 : (g.k == 2) = false := beq_no kk
          have en2 : (g.k != 2) = true := by simp [bne, e2]
          have hl0 : (g.lit != 0) = !ll := by
            rw [HLL.out, if_neg kk]
            by_cases h : g.lit = 0 <;> simp [h]
          clear kk
          go_wp2_with fail
          go_meet
          case rel => exact ⟨rfl, Below.refl _ _⟩
      case rest =>
      obtain ⟨rfl, HX⟩ := hcut
      have G5 := Lib.hid ((behind_of_below HX.out).keep G4.out (by simp))
      have HB5 := Lib.hid (HB4.out.trans (HX.out.mono HB4.out.size))
      have HA5 := Lib.hid ((behind_of_below HX.out).keep HA4.out (by simp))
      have HIN5 := Lib.hid (HIN4.out.below (HX.out.mono HB4.out.size) (Nat.le_refl _))
      clear HX g0 g1 g2 r0 r1 G4 HB4 HA4 HIN4
      cases ll with
      | false =>
        have hck := Lib.hid (HBAD.out (by rw [HGE.out]; rfl))
        go_wp2_with fail
        exact HP.out _ _ hck.out HB5.out
      | true =>
      have g2 := blk_cell G5.out 2 rfl
      go_wp2_with fail
      refine wp_gen ?_
      intro wx hwx
      subst hwx
      go_loopw [5] (fun t5 wy => ∃ i : Nat, i ≤ g.ins.length ∧ t5 = .int .i64 i ∧ Hid ((g.ins.take i).all (fun k => decide (0 ≤ k ∧ k < (j : Int))) = true) ∧ wy = wx) (fun t5 _ => g.ins.length - (intOf t5).toNat)
      case atStart => exact ⟨0, Nat.zero_le _, rfl, rfl, rfl⟩
      case round =>
        obtain ⟨i, hi, rfl, HI, rfl⟩ := hrel
        have g2 := blk_cell G5.out 2 rfl
        by_cases hli : i < g.ins.length
        · have hde : decide ((i : Int) < (g.ins.length : Int)) = true := decide_eq_true (by omega)
          have hde2 : decide (i < g.ins.length) = true := decide_eq_true hli
          obtain ⟨x, hx⟩ : ∃ x, g.ins[i]? = some x := ⟨_, List.getElem?_eq_getElem hli⟩
          obtain ⟨b1, o1, hb1, ea, kx⟩ := HIN5.out i _ (ints_get _ _ _ hx)
          have HTK := Lib.hid (all_take_succ (p := fun k => decide (0 ≤ k ∧ k < (j : Int))) hx)
          have HNO := Lib.hid (show ¬ (0 ≤ x ∧ x < (j : Int)) → checkI n gs = 1 from fun hno => HBAD.out (by
            rw [HGE.out]
            have : (g.ins.all fun k => decide (0 ≤ k ∧ k < (j : Int))) = false := by
              cases hh : g.ins.all fun k => decide (0 ≤ k ∧ k < (j : Int)) with
              | false => rfl
              | true => exact absurd (of_decide_eq_true (List.all_eq_true.1 hh x (List.mem_of_getElem? hx))) hno
            rw [this]; rfl))
          subst ea
          clear hx
          by_cases hx0 : x < 0
          · have dx : decide (x < 0) = true := decide_eq_true hx0
            have hck := Lib.hid (HNO.out (by omega))
            go_wp2_with fail
            exact HP.out _ _ hck.out HB5.out
          have dx : decide (x < 0) = false := decide_eq_false hx0
          by_cases hxj : (j : Int) ≤ x
          · have dy : decide ((j : Int) ≤ x) = true := decide_eq_true hxj
            have hck := Lib.hid (HNO.out (by omega))
            go_wp2_with fail
            exact HP.out _ _ hck.out HB5.out
          have dy : decide ((j : Int) ≤ x) = false := decide_eq_false hxj
          have HOKX := Lib.hid (show decide (0 ≤ x ∧ x < (j : Int)) = true from decide_eq_true (by omega))
          go_wp2_with fail
          go_roundw
          case rel => exact ⟨i + 1, by omega, by go_num, by rw [HTK.out, HI.out, HOKX.out]; rfl, trivial⟩
          case measure => simp [intOf]; omega
        · obtain rfl : i = g.ins.length := by omega
          have hde : decide ((g.ins.length : Int) < (g.ins.length : Int)) = false := by simp
          have HALL := Lib.hid (show goodI n j g = true by rw [HGE.out]; have := HI.out; rw [List.take_length] at this; rw [this]; rfl)
          go_wp2_with fail
          go_roundw
          case rel => exact ⟨j + 1, by omega, by go_num, (fun i x hi hx => by
            by_cases e : i = j
            · subst e; rw [HGJ.out] at hx; cases hx; exact HALL.out
            · exact HG.out i x (by omega) hx), HB5.out, HA5.out⟩
          case measure => simp [intOf]; omega
    · obtain rfl : j = gs.length := by omega
      have hdd : decide ((gs.length : Int) < (gs.length : Int)) = false := by simp
      by_cases h7 : gs.length = 0
      · have hck := Lib.hid (HCK2.out.trans (if_pos (List.length_eq_zero_iff.1 h7)))
        have e0 : ((gs.length : Int) == 0) = true := by simp [h7]
        have e1 : (gs.length == 0) = true := by simp [h7]
        clear h7
        go_wp2_with fail
        exact HP.out _ _ hck.out HB.out
      · have hck := Lib.hid ((HCK2.out.trans (if_neg (fun e => h7 (by rw [e]; rfl)))).trans (if_pos ((allGoodI_iff gs 0).2 (fun i g hg => by rw [Nat.zero_add]; exact HG.out i g (List.getElem?_eq_some_iff.1 hg).1 hg))))
        have hd8 : ((gs.length : Int) == 0) = false := beq_no (by omega)
        have hd9 : (gs.length == 0) = false := beq_eq_false_iff_ne.2 h7
        clear h7
        go_wp2_with fail
        exact HP.out _ _ hck.out HB.out
end Go.Proofs.YtallcgpiecopcaaDoor

/- The reference's sets: Has, literals, none. -/
namespace Go.Proofs.YtallcgpiecopcaaDoor
open Go.RowKit

theorem wrap_pow {u : Nat} (hu : u < 64) : IntKind.u64.wrap (2 ^ u) = ((2 ^ u : Nat) : Int) := by
  have hp : (2 : Nat) ^ u < 2 ^ 64 := Nat.pow_lt_pow_right (by omega) hu
  unfold IntKind.wrap
  simp only [IntKind.signed, IntKind.bits, Bool.false_and]
  rw [if_neg (by simp)]
  rw [Int.natCast_pow]
  refine Int.emod_eq_of_lt (Int.pow_nonneg (by omega)) ?_
  have := Int.ofNat_lt.2 hp
  rw [Int.natCast_pow, Int.natCast_pow] at this
  exact this

set_option maxHeartbeats 400000 in
set_option maxRecDepth 100000 in
theorem xHas3 (a0 a1 : Nat) (v : Int) (h1 : 1 ≤ v) (h2 : v ≤ 128) : Gives 63 #[setV a0 a1, .int .i64 v] (.bool (bitS a0 a1 v)) := by
  intro w
  unfold setV
  have d1 : decide (v < 1) = false := decide_eq_false (by omega)
  have d2 : decide (128 < v) = false := decide_eq_false (by omega)
  by_cases h : v ≤ 64
  · obtain ⟨u, hu1⟩ : ∃ u : Nat, v = (u : Int) + 1 := ⟨(v - 1).toNat, by omega⟩
    have hu : u < 64 := by omega
    have hum : u % 64 = u := Nat.mod_eq_of_lt hu
    have HQ := Lib.hid (show bitS a0 a1 v = (((a0 : Int) / 2 ^ u).tmod 2 == 1) by
      unfold bitS; rw [if_pos h, show v - 1 = (u : Int) by omega, Int.toNat_natCast, tb_eq])
    have e2 : (v - 1) / 64 = 0 := by omega
    have e3 : (v - 1) % 64 = (u : Int) := by omega
    clear h hu1
    go_enter Tryd.func63, Tryd.ntmps63
    go_wp2_with fail
    go_ret
    refine ⟨?_, below_one _ _⟩
    rw [HQ.out]
    rfl
  · obtain ⟨u, hu1⟩ : ∃ u : Nat, v = (u : Int) + 65 := ⟨(v - 65).toNat, by omega⟩
    have hu : u < 64 := by omega
    have hum : u % 64 = u := Nat.mod_eq_of_lt hu
    have HQ := Lib.hid (show bitS a0 a1 v = (((a1 : Int) / 2 ^ u).tmod 2 == 1) by
      unfold bitS; rw [if_neg h, show v - 65 = (u : Int) by omega, Int.toNat_natCast, tb_eq])
    have e2 : (v - 1) / 64 = 1 := by omega
    have e3 : (v - 1) % 64 = (u : Int) := by omega
    clear h hu1
    go_enter Tryd.func63, Tryd.ntmps63
    go_wp2_with fail
    go_ret
    refine ⟨?_, below_one _ _⟩
    rw [HQ.out]
    rfl

set_option maxHeartbeats 1600000 in
set_option maxRecDepth 100000 in
theorem xHolds7 (a0 a1 : Nat) (y : Int) (h0 : y ≠ 0) (h1 : -128 ≤ y) (h2 : y ≤ 128) : Gives 66 #[setV a0 a1, .int .i64 y] (.bool (litB (bitS a0 a1) y)) := by
  intro w
  by_cases hp : 0 < y
  · have KI := xHas3 a0 a1 y hp h2
    have HQ := Lib.hid (show litB (bitS a0 a1) y = bitS a0 a1 y from if_pos hp)
    have d1 : decide (y < 0) = false := decide_eq_false (by omega)
    generalize bitS a0 a1 y = q at *
    unfold setV at *
    go_enter Tryd.func66, Tryd.ntmps66
    go_wp2_with fail
    refine (KI _).mono ?_
    rintro r3 w3 ⟨rfl, hB3⟩
    have HB3 := Lib.hid ((below_one w _).trans (hB3.mono (by simp)))
    clear hB3
    go_wp2_with fail
    go_ret
    exact ⟨by rw [HQ.out]; rfl, HB3.out⟩
  · have hn : y < 0 := by omega
    have KI := xHas3 a0 a1 (-y) (by omega) (by omega)
    have HQ := Lib.hid (show litB (bitS a0 a1) y = !bitS a0 a1 (-y) from if_neg hp)
    have d1 : decide (y < 0) = true := decide_eq_true hn
    generalize bitS a0 a1 (-y) = q at *
    unfold setV at *
    go_enter Tryd.func66, Tryd.ntmps66
    go_wp2_with fail
    refine (KI _).mono ?_
    rintro r3 w3 ⟨rfl, hB3⟩
    have HB3 := Lib.hid ((below_one w _).trans (hB3.mono (by simp)))
    clear hB3
    go_wp2_with fail
    go_ret
    exact ⟨by rw [HQ.out]; rfl, HB3.out⟩

def bRow (l : Nat → Bool) : Array Value := ((List.range 129).map fun j => Value.bool (l j)).toArray
theorem bRow_get {l : Nat → Bool} {j : Nat} (h : j < 129) : (bRow l)[j]? = some (.bool (l j)) := by simp [bRow, h]
theorem bRow_set {l : Nat → Bool} {i : Nat} {b : Bool} : (bRow l).setIfInBounds i (.bool b) = bRow (fun j => if j = i then b else l j) := by
  apply Array.ext_getElem?
  intro j
  rw [Array.getElem?_setIfInBounds]
  by_cases hj : j < 129
  · by_cases e : i = j
    · subst e
      rw [if_pos rfl, if_pos (by simpa [bRow] using hj), bRow_get hj, if_pos rfl]
    · rw [if_neg e, bRow_get hj, bRow_get hj, if_neg (Ne.symm e)]
  · have h1 : (bRow l)[j]? = none := Array.getElem?_eq_none (by simp [bRow]; omega)
    have h2 : (bRow (fun j => if j = i then b else l j))[j]? = none := Array.getElem?_eq_none (by simp [bRow]; omega)
    rw [h1, h2]
    split
    · split
      · rename_i h; simp [bRow] at h; omega
      · rfl
    · rfl
theorem Tryd.infoBool : (Tryd.prog.info? 4).map (fun i => (i.zero, i.size, i.bytes)) = some (some (.bool false), 1, 1) := by kernel_rfl
theorem made_bools (w : World) : (Instr.makeSlice 73 (.int .i64 129) (.int .i64 129)).run Tryd.prog w = .ok (.slice (some ⟨w.heap.size, 0, none⟩) 129 129) (w.alloc (.cells (bRow fun _ => false) 4)) := by
  obtain ⟨i0, ii, iz0, iz1, iz2⟩ := info_parts Tryd.infoBool
  have h := run_makeSlice (P := Tryd.prog) (w := w) 73 4 i0 (.bool false) Tryd.underlying73 ii iz0 .i64 .i64 129 129 (by omega) (by omega) (by rw [iz1]; decide) (by rw [iz2]; decide) (by omega)
  rw [iz1] at h
  rw [show madeCells (Value.bool false).cells ((129 : Int).toNat * 1) = bRow (fun _ => false) by kernel_rfl] at h
  exact h
theorem xNone (w : World) : Calls Tryd.prog 64 #[] w fun e w' => e = .returned (.slice (some ⟨w.heap.size, 0, none⟩) 129 129) ∧ w' = w.alloc (.cells (bRow fun _ => false) 4) := by
  have hm := made_bools w
  go_enter Tryd.func64, Tryd.ntmps64
  go_wp2_with fail
  go_ret
  exact ⟨rfl, rfl⟩

theorem results_cell_agg {P : Program} {fn : Func} {p : Tmp} {ty : TypeId} (h : fn.results = #[.cell p ty]) (tmps : Array Value) (w : World) (g : Nat) (t : TypeId) (cs : Array Value) (fr : Nat × Nat) (d : TypeDesc)
    (hp : tmps.getD p undef = .pointer (some ⟨g, 0, none⟩)) (hg : w.heap[g]? = some (.cells cs t fr))
    (hu : P.underlying ty = some d) (hd : (match d with | .struct _ | .array _ _ => true | _ => false) = true) (hi : (P.info? ty).map (·.size) = some cs.size) :
    (results fn tmps).run P w = .ok (.agg cs) w := by
  have hp' : tmps[p]?.getD undef = .pointer (some ⟨g, 0, none⟩) := by simpa using hp
  simp [results, h, hp', asAddr, run_loadVar_row w g t ty cs fr d hg hu hd hi]
theorem results_cell_tmp {P : Program} {fn : Func} {p q : Tmp} {ty : TypeId} (h : fn.results = #[.cell p ty, .tmp q]) (tmps : Array Value) (w : World) (g : Nat) (t : TypeId) (cs : Array Value) (fr : Nat × Nat) (d : TypeDesc)
    (hp : tmps.getD p undef = .pointer (some ⟨g, 0, none⟩)) (hg : w.heap[g]? = some (.cells cs t fr))
    (hu : P.underlying ty = some d) (hd : (match d with | .struct _ | .array _ _ => true | _ => false) = true) (hi : (P.info? ty).map (·.size) = some cs.size) (v : Value) (hv : tmps.getD q undef = v) :
    (results fn tmps).run P w = .ok (.tuple #[.agg cs, v]) w := by
  have hp' : tmps[p]?.getD undef = .pointer (some ⟨g, 0, none⟩) := by simpa using hp
  have hv' : tmps[q]?.getD undef = v := by simpa using hv
  simp [results, h, hp', hv', asAddr, run_loadVar_row w g t ty cs fr d hg hu hd hi]
theorem Tryd.sizeSetV : (Tryd.prog.info? 38).map (·.size) = some 2 := by kernel_rfl
theorem two_set {w : World} {g : Nat} {a b x y : Value} {T : TypeId} (h : w.heap[g]? = some (.cells #[a, b] T (0, 0))) : ((w.setCell ⟨g, 0, none⟩ x).setCell ⟨g, 1, none⟩ y).heap[g]? = some (.cells #[x, y] T (0, 0)) :=
  heap_setCell_same _ g 1 _ _ _ (heap_setCell_same _ g 0 _ _ _ h)
theorem two_below {w : World} {g B : Nat} {x y : Value} (h : B ≤ g) : Below B w ((w.setCell ⟨g, 0, none⟩ x).setCell ⟨g, 1, none⟩ y) :=
  ((Below.refl _ w).setCell (by exact h) _).setCell (by exact h) _
def orS (b : Bool) (v : Nat) (s : Nat × Nat) : Nat × Nat := if b then (if v ≤ 64 then (s.1 ||| 2 ^ (v - 1), s.2) else (s.1, s.2 ||| 2 ^ (v - 65))) else s
def setL (l : Nat → Bool) : Nat → Nat × Nat
  | 0 => (0, 0)
  | v + 1 => orS (l (v + 1)) (v + 1) (setL l v)
theorem setL_lt (l : Nat → Bool) : ∀ v, v ≤ 128 → (setL l v).1 < 18446744073709551616 ∧ (setL l v).2 < 18446744073709551616
  | 0, _ => by simp [setL]
  | v + 1, h => by
    have ih := setL_lt l v (by omega)
    unfold setL orS
    split
    · split
      · exact ⟨Nat.or_lt_two_pow (n := 64) ih.1 (Nat.pow_lt_pow_right (by omega) (by omega)), ih.2⟩
      · exact ⟨ih.1, Nat.or_lt_two_pow (n := 64) ih.2 (Nat.pow_lt_pow_right (by omega) (by omega))⟩
    · exact ih

set_option maxHeartbeats 3200000 in
set_option maxRecDepth 100000 in
theorem xSet (l : Nat → Bool) (g : Nat) (w : World) (hb : w.heap[g]? = some (.cells (bRow l) 4 (0, 0))) : Calls Tryd.prog 65 #[.slice (some ⟨g, 0, none⟩) 129 129] w fun e w' => e = .returned (setV (setL l 128).1 (setL l 128).2) ∧ Below w.heap.size w w' := by
  obtain ⟨Post, hPost⟩ : ∃ P : Ending → World → Prop, P = fun e w' => e = .returned (setV (setL l 128).1 (setL l 128).2) ∧ Below w.heap.size w w' := ⟨_, rfl⟩
  rw [← hPost]
  have HP := Lib.hid hPost
  have HB := Lib.hid hb
  clear hPost hb
  go_enter Tryd.func65, Tryd.ntmps65
  go_upto_region 2 with fail
  refine wp_gen ?_
  intro w1 hw1
  have S1 := Lib.hid (show w1.heap[w.heap.size + 1]? = some (.cells #[.int .u64 ((setL l 0).1 : Nat), .int .u64 ((setL l 0).2 : Nat)] 38 (0, 0)) by rw [hw1]; exact new_two2 _ _ _)
  have R1 := Lib.hid (show w1.heap[w.heap.size]? = some (.cells #[.int .u64 0, .int .u64 0] 38 (0, 0)) by rw [hw1]; exact new_two1 _ _ _)
  have HB1 := Lib.hid (show Below w.heap.size w w1 by rw [hw1]; exact below_two _ _ _)
  have HG1 := Lib.hid ((behind_of_below HB1.out).keep HB.out (by simp))
  have hg := lt_of_heap HB.out
  clear hw1
  go_wp2_with fail
  go_loopw [4] (fun t4 wr => ∃ v : Nat, 1 ≤ v ∧ v ≤ 129 ∧ t4 = .int .i64 v ∧ Hid (wr.heap[w.heap.size + 1]? = some (.cells #[.int .u64 ((setL l (v - 1)).1 : Nat), .int .u64 ((setL l (v - 1)).2 : Nat)] 38 (0, 0))) ∧ Hid (wr.heap[w.heap.size]? = some (.cells #[.int .u64 0, .int .u64 0] 38 (0, 0))) ∧ Hid (Below w.heap.size w wr)) (fun t4 _ => 129 - (intOf t4).toNat)
  case atStart => exact ⟨1, Nat.le_refl _, by omega, rfl, S1.out, R1.out, HB1.out⟩
  case round =>
    obtain ⟨v, h1, h2, rfl, HS, HR, HBr⟩ := hrel
    have HGr := Lib.hid ((behind_of_below HBr.out).keep HB.out (by simp))
    by_cases hlt : v < 129
    · have hdd : decide ((v : Int) < 129) = true := decide_eq_true (by omega)
      have hdd2 : decide (v < 129) = true := decide_eq_true hlt
      have c0 := blk_cell HGr.out v (bRow_get hlt)
      obtain ⟨s, hs⟩ : ∃ s, s = setL l (v - 1) := ⟨_, rfl⟩
      have hlts := setL_lt l (v - 1) (by omega)
      rw [← hs] at HS hlts
      have hnx : setL l v = orS (l v) v s := by
        obtain ⟨u, rfl⟩ : ∃ u, v = u + 1 := ⟨v - 1, by omega⟩
        rw [hs]; rfl
      have HNX := Lib.hid hnx
      have HLS := Lib.hid hlts
      clear hs hnx hlts
      obtain ⟨b, hb⟩ : ∃ b, b = l v := ⟨_, rfl⟩
      rw [← hb] at c0 HNX
      clear hb
      cases b with
      | false =>
        have HE := Lib.hid (show setL l v = s from HNX.out)
        go_wp2_with fail
        go_roundw
        case rel => exact ⟨v + 1, by omega, by omega, by go_num, by rw [Nat.add_sub_cancel, HE.out]; exact HS.out, HR.out, HBr.out⟩
        case measure => simp [intOf]; omega
      | true =>
        have s0 := blk_cell HS.out 0 rfl
        have s1 := blk_cell HS.out 1 rfl
        have f0 := blk_free HS.out 0
        have f1 := blk_free HS.out 1
        by_cases h64 : v ≤ 64
        · obtain ⟨u, hu1⟩ : ∃ u : Nat, (v : Int) = (u : Int) + 1 := ⟨v - 1, by omega⟩
          have hu : u < 64 := by omega
          have hum : u % 64 = u := Nat.mod_eq_of_lt hu
          have e2 : ((v : Int) - 1) / 64 = 0 := by omega
          have e3 : ((v : Int) - 1) % 64 = (u : Int) := by omega
          have HBT := Lib.hid (show bits BinOp.or IntKind.u64 (s.1 : Int) (IntKind.u64.wrap (2 ^ u)) = ((s.1 ||| 2 ^ u : Nat) : Int) by
            rw [wrap_pow hu, u64_or_nat _ _ HLS.out.1 (show 2 ^ u < 2 ^ 64 from Nat.pow_lt_pow_right (by omega) hu)])
          have HE := Lib.hid (show setL l v = (s.1 ||| 2 ^ u, s.2) by
            rw [HNX.out]; unfold orS; rw [if_pos rfl, if_pos h64, show v - 1 = u by omega])
          clear hu1 h64
          have HQ := Lib.hid (show Behind wr [w.heap.size + 1] (wr.setCell ⟨w.heap.size + 1, 0, none⟩ (.int .u64 (bits BinOp.or IntKind.u64 (s.1 : Int) (IntKind.u64.wrap (2 ^ u))))) from behind_set1)
          have HS2 := Lib.hid (heap_setCell_same wr (w.heap.size + 1) 0 _ _ (.int .u64 (bits BinOp.or IntKind.u64 (s.1 : Int) (IntKind.u64.wrap (2 ^ u)))) HS.out)
          clear HNX
          go_wp2_with fail
          go_roundw
          case rel => exact ⟨v + 1, by omega, by omega, by go_num, by rw [Nat.add_sub_cancel, HE.out, ← HBT.out]; exact HS2.out, HQ.out.keep HR.out (by simp), HBr.out.trans (HQ.out.below_of (fun k hk => by simp at hk; omega) HBr.out.size)⟩
          case measure => simp [intOf]; omega
        · obtain ⟨u, hu1⟩ : ∃ u : Nat, (v : Int) = (u : Int) + 65 := ⟨v - 65, by omega⟩
          have hu : u < 64 := by omega
          have hum : u % 64 = u := Nat.mod_eq_of_lt hu
          have e2 : ((v : Int) - 1) / 64 = 1 := by omega
          have e3 : ((v : Int) - 1) % 64 = (u : Int) := by omega
          have HBT := Lib.hid (show bits BinOp.or IntKind.u64 (s.2 : Int) (IntKind.u64.wrap (2 ^ u)) = ((s.2 ||| 2 ^ u : Nat) : Int) by
            rw [wrap_pow hu, u64_or_nat _ _ HLS.out.2 (show 2 ^ u < 2 ^ 64 from Nat.pow_lt_pow_right (by omega) hu)])
          have HE := Lib.hid (show setL l v = (s.1, s.2 ||| 2 ^ u) by
            rw [HNX.out]; unfold orS; rw [if_pos rfl, if_neg h64, show v - 65 = u by omega])
          clear hu1 h64
          have HQ := Lib.hid (show Behind wr [w.heap.size + 1] (wr.setCell ⟨w.heap.size + 1, 1, none⟩ (.int .u64 (bits BinOp.or IntKind.u64 (s.2 : Int) (IntKind.u64.wrap (2 ^ u))))) from behind_set1)
          have HS2 := Lib.hid (heap_setCell_same wr (w.heap.size + 1) 1 _ _ (.int .u64 (bits BinOp.or IntKind.u64 (s.2 : Int) (IntKind.u64.wrap (2 ^ u)))) HS.out)
          clear HNX
          go_wp2_with fail
          go_roundw
          case rel => exact ⟨v + 1, by omega, by omega, by go_num, by rw [Nat.add_sub_cancel, HE.out, ← HBT.out]; exact HS2.out, HQ.out.keep HR.out (by simp), HBr.out.trans (HQ.out.below_of (fun k hk => by simp at hk; omega) HBr.out.size)⟩
          case measure => simp [intOf]; omega
    · obtain rfl : v = 129 := by omega
      have s0 := blk_cell HS.out 0 rfl
      have s1 := blk_cell HS.out 1 rfl
      have r0 := blk_cell HR.out 0 rfl
      have r1 := blk_cell HR.out 1 rfl
      have f0 := blk_free HR.out 0
      have f1 := blk_free HR.out 1
      go_wp2_with fail
      refine bodyPost_ret (results_cell_agg (p := 2) rfl _ _ w.heap.size _ _ (0, 0) _ rfl (two_set HR.out) Tryd.underlying38 rfl Tryd.sizeSetV) rfl ?_
      rw [HP.out]
      exact ⟨rfl, HBr.out.trans (two_below (Nat.le_refl _))⟩

def allL (n : Int) (v : Nat) : Bool := decide (1 ≤ v ∧ (v : Int) ≤ n)
theorem allL_row (n : Int) (v : Nat) (h1 : 1 ≤ v) (h2 : (v : Int) ≤ n) : (fun j => if j = v then true else (decide (j < v) && allL n j)) = fun j => (decide (j < v + 1) && allL n j) := by
  funext j
  by_cases e : j = v
  · subst e
    rw [if_pos rfl, decide_eq_true (Nat.lt_succ_self _)]
    unfold allL
    rw [decide_eq_true ⟨h1, h2⟩]; rfl
  · rw [if_neg e]
    by_cases h : j < v
    · rw [decide_eq_true h, decide_eq_true (by omega)]
    · rw [decide_eq_false h, decide_eq_false (by omega)]

set_option maxHeartbeats 3200000 in
set_option maxRecDepth 100000 in
theorem xAll (n : Int) (h0 : 0 ≤ n) (h128 : n ≤ 128) : Gives 36 #[.int .i64 n] (setV (setL (allL n) 128).1 (setL (allL n) 128).2) := by
  intro w
  obtain ⟨Post, hPost⟩ : ∃ P : Ending → World → Prop, P = fun e w' => e = .returned (setV (setL (allL n) 128).1 (setL (allL n) 128).2) ∧ Below w.heap.size w w' := ⟨_, rfl⟩
  rw [← hPost]
  have HP := Lib.hid hPost
  clear hPost
  go_enter Tryd.func36, Tryd.ntmps36
  go_upto_region 1 with fail
  refine wp_gen ?_
  intro w1 hw1
  have R1 := Lib.hid (show w1.heap[w.heap.size]? = some (.cells #[.int .u64 0, .int .u64 0] 38 (0, 0)) by rw [hw1]; exact new_one _ _)
  have HB1 := Lib.hid (show Below w.heap.size w w1 by rw [hw1]; exact below_one _ _)
  clear hw1
  go_wp2_with fail
  refine (xNone w1).mono ?_
  rintro e w2 ⟨rfl, hw2⟩
  have e2 := new_one w1 (.cells (bRow fun _ => false) 4 (0, 0))
  have b2 := below_one w1 (.cells (bRow fun _ => false) 4 (0, 0))
  rw [← hw2] at e2 b2
  have S2 := Lib.hid (show w2.heap[w1.heap.size]? = some (.cells (bRow fun j => (decide (j < 1) && allL n j)) 4 (0, 0)) by
    rw [show (fun j => (decide (j < 1) && allL n j)) = fun _ => false from funext fun j => by
      by_cases h : j < 1
      · have : j = 0 := by omega
        subst this; rfl
      · rw [decide_eq_false h]; rfl]
    exact e2)
  have R2 := Lib.hid ((behind_of_below b2).keep R1.out (by simp))
  have HB2 := Lib.hid (HB1.out.trans (b2.mono HB1.out.size))
  have hlt1 := lt_of_heap R1.out
  clear hw2 e2 b2 R1
  go_wp2_with fail
  go_loopw [4] (fun t4 wr => ∃ v : Nat, 1 ≤ v ∧ v ≤ 129 ∧ (v : Int) ≤ n + 1 ∧ t4 = .int .i64 v ∧ Hid (wr.heap[w1.heap.size]? = some (.cells (bRow fun j => (decide (j < v) && allL n j)) 4 (0, 0))) ∧ Hid (wr.heap[w.heap.size]? = some (.cells #[.int .u64 0, .int .u64 0] 38 (0, 0))) ∧ Hid (Below w.heap.size w wr)) (fun t4 _ => 129 - (intOf t4).toNat)
  case atStart => exact ⟨1, Nat.le_refl _, by omega, by omega, rfl, S2.out, R2.out, HB2.out⟩
  case round =>
    obtain ⟨v, h1, h2, h3, rfl, HS, HR, HBr⟩ := hrel
    have fin : ∀ x : World, x = wr → v = 129 ∨ (v : Int) = n + 1 → Calls Tryd.prog 65 #[.slice (some ⟨w1.heap.size, 0, none⟩) 129 129] x fun e w' => e = .returned (setV (setL (allL n) 128).1 (setL (allL n) 128).2) ∧ Below x.heap.size x w' := fun x hx hv => by
      subst hx
      refine xSet _ _ _ ?_
      have h := HS.out
      have e : bRow (fun j => (decide (j < v) && allL n j)) = bRow (allL n) := by
        unfold bRow
        congr 1
        apply List.map_congr_left
        intro j hj
        have hj2 : j < 129 := by simpa using hj
        show Value.bool (decide (j < v) && allL n j) = Value.bool (allL n j)
        by_cases hjv : j < v
        · rw [decide_eq_true hjv]; rfl
        · rw [decide_eq_false hjv]
          have : allL n j = false := by unfold allL; exact decide_eq_false (by omega)
          rw [this]; rfl
      rw [e] at h
      exact h
    by_cases hlt : v ≤ 128
    · have hdd : decide ((v : Int) ≤ 128) = true := decide_eq_true (by omega)
      have hdd2 : decide (v ≤ 128) = true := decide_eq_true hlt
      by_cases hn : (v : Int) ≤ n
      · have hde : decide ((v : Int) ≤ n) = true := decide_eq_true hn
        have c0 := blk_cell HS.out v (bRow_get (by omega))
        have f0 := blk_free HS.out v
        have HS3 := Lib.hid (heap_setCell_same wr w1.heap.size v _ _ (.bool true) HS.out)
        rw [bRow_set, allL_row n v h1 hn] at HS3
        have HQ := Lib.hid (show Behind wr [w1.heap.size] (wr.setCell ⟨w1.heap.size, v, none⟩ (.bool true)) from behind_set1)
        have hs1 := HB1.out.size
        clear fin
        go_wp2_with fail
        go_roundw
        case rel => exact ⟨v + 1, by omega, by omega, by omega, by go_num, HS3.out, HQ.out.keep HR.out (by simp; omega), HBr.out.trans (HQ.out.below_of (fun k hk => by simp at hk; omega) HBr.out.size)⟩
        case measure => simp [intOf]; omega
      · have hde : decide ((v : Int) ≤ n) = false := decide_eq_false hn
        have KF := fin wr rfl (.inr (by omega))
        unfold setV at KF HP
        clear fin
        go_wp2_with fail
        refine KF.mono ?_
        rintro e w3 ⟨rfl, hb3⟩
        have R3 := Lib.hid ((behind_of_below hb3).keep HR.out (by simp))
        have HB3 := Lib.hid (HBr.out.trans (hb3.mono HBr.out.size))
        have r0 := blk_cell R3.out 0 rfl
        have r1 := blk_cell R3.out 1 rfl
        have f0 := blk_free R3.out 0
        have f1 := blk_free R3.out 1
        clear hb3 KF
        go_wp2_with fail
        refine bodyPost_ret (results_cell_agg (p := 2) rfl _ _ w.heap.size _ _ (0, 0) _ rfl (two_set R3.out) Tryd.underlying38 rfl Tryd.sizeSetV) rfl ?_
        rw [HP.out]
        exact ⟨rfl, HB3.out.trans (two_below (Nat.le_refl _))⟩
    · obtain rfl : v = 129 := by omega
      have KF := fin wr rfl (.inl rfl)
      unfold setV at KF HP
      clear fin
      go_wp2_with fail
      refine KF.mono ?_
      rintro e w3 ⟨rfl, hb3⟩
      have R3 := Lib.hid ((behind_of_below hb3).keep HR.out (by simp))
      have HB3 := Lib.hid (HBr.out.trans (hb3.mono HBr.out.size))
      have r0 := blk_cell R3.out 0 rfl
      have r1 := blk_cell R3.out 1 rfl
      have f0 := blk_free R3.out 0
      have f1 := blk_free R3.out 1
      clear hb3 KF
      go_wp2_with fail
      refine bodyPost_ret (results_cell_agg (p := 2) rfl _ _ w.heap.size _ _ (0, 0) _ rfl (two_set R3.out) Tryd.underlying38 rfl Tryd.sizeSetV) rfl ?_
      rw [HP.out]
      exact ⟨rfl, HB3.out.trans (two_below (Nat.le_refl _))⟩
end Go.Proofs.YtallcgpiecopcaaDoor
