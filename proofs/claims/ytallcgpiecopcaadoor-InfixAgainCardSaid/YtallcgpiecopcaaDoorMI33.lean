/- Texts of this claim, joined: HV2, HV3, HT1. -/
import Derived.Test.YtallcgpiecopcaaDoorMI31
import Derived.Test.YtallcgpiecopcaaDoorMI32
import Derived.Deep.DeepCutAuto
import Derived.Test.YtallcgpiecopcaaDoorMI04

/- The reference's Eval: subsets, values of gates. -/
namespace Go.Proofs.YtallcgpiecopcaaDoor
open Go.RowKit

def subS (a0 a1 b0 b1 : Nat) : Nat → Bool
  | 0 => true
  | v + 1 => subS a0 a1 b0 b1 v && !(bitS a0 a1 ((v + 1 : Nat) : Int) && !bitS b0 b1 ((v + 1 : Nat) : Int))
theorem subS_down {a0 a1 b0 b1 : Nat} : ∀ (m v : Nat), v ≤ m → subS a0 a1 b0 b1 m = true → subS a0 a1 b0 b1 v = true
  | 0, v, h, k => by obtain rfl : v = 0 := by omega
                     exact k
  | m + 1, v, h, k => by
    by_cases e : v = m + 1
    · rw [e]; exact k
    · rw [subS, Bool.and_eq_true] at k
      exact subS_down m v (by omega) k.1

set_option maxHeartbeats 1600000 in
set_option maxRecDepth 100000 in
theorem xSub (a0 a1 b0 b1 : Nat) : Gives 35 #[setV a0 a1, setV b0 b1] (.bool (subS a0 a1 b0 b1 128)) := by
  intro w
  obtain ⟨Post, hPost⟩ : ∃ P : Ending → World → Prop, P = fun e w' => e = .returned (.bool (subS a0 a1 b0 b1 128)) ∧ Below w.heap.size w w' := ⟨_, rfl⟩
  rw [← hPost]
  have HP := Lib.hid hPost
  have KA := Lib.hid (fun v h1 h2 => xHas3 a0 a1 v h1 h2)
  have KB := Lib.hid (fun v h1 h2 => xHas3 b0 b1 v h1 h2)
  have HS := Lib.hid (fun v => show subS a0 a1 b0 b1 (v + 1) = (subS a0 a1 b0 b1 v && !(bitS a0 a1 ((v + 1 : Nat) : Int) && !bitS b0 b1 ((v + 1 : Nat) : Int))) from rfl)
  have HD := Lib.hid (fun v (h : v ≤ 128) => subS_down (a0 := a0) (a1 := a1) (b0 := b0) (b1 := b1) 128 v h)
  have H0 := Lib.hid (show subS a0 a1 b0 b1 0 = true from rfl)
  clear hPost
  unfold setV at *
  go_enter Tryd.func35, Tryd.ntmps35
  go_upto_region 1 with fail
  refine wp_gen ?_
  intro w1 hw1
  have A1 := Lib.hid (show w1.heap[w.heap.size]? = some (.cells #[.int .u64 (a0 : Nat), .int .u64 (a1 : Nat)] 38 (0, 0)) by rw [hw1]; exact new_two1 _ _ _)
  have B1 := Lib.hid (show w1.heap[w.heap.size + 1]? = some (.cells #[.int .u64 (b0 : Nat), .int .u64 (b1 : Nat)] 38 (0, 0)) by rw [hw1]; exact new_two2 _ _ _)
  have HB1 := Lib.hid (show Below w.heap.size w w1 by rw [hw1]; exact below_two _ _ _)
  clear hw1
  go_wp2_with fail
  go_loopw [5] (fun t5 wr => ∃ v : Nat, 1 ≤ v ∧ v ≤ 129 ∧ t5 = .int .i64 v ∧ Hid (subS a0 a1 b0 b1 (v - 1) = true) ∧ Hid (wr.heap[w.heap.size]? = some (.cells #[.int .u64 (a0 : Nat), .int .u64 (a1 : Nat)] 38 (0, 0))) ∧ Hid (wr.heap[w.heap.size + 1]? = some (.cells #[.int .u64 (b0 : Nat), .int .u64 (b1 : Nat)] 38 (0, 0))) ∧ Hid (Below w.heap.size w wr)) (fun t5 _ => 129 - (intOf t5).toNat)
  case atStart => exact ⟨1, Nat.le_refl _, by omega, rfl, H0.out, A1.out, B1.out, HB1.out⟩
  case round =>
    obtain ⟨v, h1, h2, rfl, HT, HA, HB, HW⟩ := hrel
    by_cases hlt : v ≤ 128
    · have hdd : decide ((v : Int) ≤ 128) = true := decide_eq_true (by omega)
      have hdd2 : decide (v ≤ 128) = true := decide_eq_true hlt
      have a0' := blk_cell HA.out 0 rfl
      have a1' := blk_cell HA.out 1 rfl
      have K1 := KA.out v (by omega) (by omega) wr
      have K2 := fun x => KB.out v (by omega) (by omega) x
      have hs := HS.out (v - 1)
      rw [show v - 1 + 1 = v by omega, HT.out, Bool.true_and] at hs
      have hd := HD.out v hlt
      obtain ⟨x, hx⟩ : ∃ x, x = bitS a0 a1 (v : Int) := ⟨_, rfl⟩
      obtain ⟨y, hy⟩ : ∃ y, y = bitS b0 b1 (v : Int) := ⟨_, rfl⟩
      rw [← hx] at K1 hs
      rw [← hy] at K2 hs
      have HSV := Lib.hid hs
      have HDV := Lib.hid hd
      clear hx hy hs hd
      go_wp2_with fail
      refine K1.mono ?_
      rintro e w3 ⟨rfl, hb3⟩
      have HA3 := Lib.hid ((behind_of_below hb3).keep HA.out (by simp))
      have HBB3 := Lib.hid ((behind_of_below hb3).keep HB.out (by simp))
      have HW3 := Lib.hid (HW.out.trans (hb3.mono HW.out.size))
      clear hb3 K1 a0' a1'
      cases x with
      | false =>
        have HN := Lib.hid (show subS a0 a1 b0 b1 v = true from HSV.out)
        go_wp2_with fail
        go_roundw
        case rel => exact ⟨v + 1, by omega, by omega, by go_num, by rw [Nat.add_sub_cancel]; exact HN.out, HA3.out, HBB3.out, HW3.out⟩
        case measure => simp [intOf]; omega
      | true =>
        have b0' := blk_cell HBB3.out 0 rfl
        have b1' := blk_cell HBB3.out 1 rfl
        go_wp2_with fail
        refine (K2 w3).mono ?_
        rintro e w4 ⟨rfl, hb4⟩
        have HA4 := Lib.hid ((behind_of_below hb4).keep HA3.out (by simp))
        have HBB4 := Lib.hid ((behind_of_below hb4).keep HBB3.out (by simp))
        have HW4 := Lib.hid (HW3.out.trans (hb4.mono HW3.out.size))
        clear hb4 K2 b0' b1'
        cases y with
        | true =>
          have HN := Lib.hid (show subS a0 a1 b0 b1 v = true from HSV.out)
          go_wp2_with fail
          go_roundw
          case rel => exact ⟨v + 1, by omega, by omega, by go_num, by rw [Nat.add_sub_cancel]; exact HN.out, HA4.out, HBB4.out, HW4.out⟩
          case measure => simp [intOf]; omega
        | false =>
          have HN := Lib.hid (show subS a0 a1 b0 b1 128 = false by
            cases hq : subS a0 a1 b0 b1 128 with
            | false => rfl
            | true => have := HDV.out hq; rw [HSV.out] at this; cases this)
          go_wp2_with fail
          rw [HP.out, HN.out]
          exact ⟨rfl, HW4.out⟩
    · obtain rfl : v = 129 := by omega
      have HN := Lib.hid (show subS a0 a1 b0 b1 128 = true from HT.out)
      go_wp2_with fail
      rw [HP.out, HN.out]
      exact ⟨rfl, HW.out⟩

def bools (l : List Bool) : List Value := l.map Value.bool
theorem bools_get (l : List Bool) (i : Nat) (b : Bool) (h : l[i]? = some b) : (bools l)[i]? = some (.bool b) := by unfold bools; rw [List.getElem?_map, h]; rfl
theorem odd_snoc (v : Int → Bool) (x : Int) : ∀ (l : List Int) (o : Bool), oddI v (l ++ [x]) o = (oddI v l o != v x)
  | [], _o => rfl
  | _k :: l, _o => odd_snoc v x l _
theorem any_snoc (v : Int → Bool) (l : List Int) (x : Int) : (l ++ [x]).any v = (l.any v || v x) := by simp [List.any_append]
theorem all_snoc (v : Int → Bool) (l : List Int) (x : Int) : (l ++ [x]).all v = (l.all v && v x) := by simp [List.all_append]

set_option maxHeartbeats 3200000 in
set_option maxRecDepth 100000 in
theorem xValue (a0 a1 : Nat) (g : Gt) (p a : Option Addr) (c d : Nat) (l : List Bool) (w : World) (hI : AtN w.heap.size w p (ints g.ins)) (hV : AtN w.heap.size w a (bools l)) (hins : ∀ k ∈ g.ins, 0 ≤ k ∧ k < (l.length : Int)) (hlit : g.k = 2 → g.lit ≠ 0 ∧ -128 ≤ g.lit ∧ g.lit ≤ 128) (h8 : g.k = 8 → g.ins.length = 3) (hil : g.ins.length ≤ 65536) (_hll : l.length ≤ 65536) :
    Calls Tryd.prog 37 #[.agg #[.int .i64 g.k, .int .i64 g.lit, .slice p g.ins.length c], setV a0 a1, .slice a l.length d] w fun e w' => e = .returned (.bool (valG (litB (bitS a0 a1)) (fun k => l.getD k.toNat false) g)) ∧ Below w.heap.size w w' := by
  obtain ⟨Post, hPost⟩ : ∃ P : Ending → World → Prop, P = fun e w' => e = .returned (.bool (valG (litB (bitS a0 a1)) (fun k => l.getD k.toNat false) g)) ∧ Below w.heap.size w w' := ⟨_, rfl⟩
  rw [← hPost]
  obtain ⟨V, hVd⟩ : ∃ V : Int → Bool, V = fun k => l.getD k.toNat false := ⟨_, rfl⟩
  rw [← hVd] at hPost
  have HP := Lib.hid (show ∀ (r : Bool) (w' : World), valG (litB (bitS a0 a1)) V g = r → Below w.heap.size w w' → Post (.returned (.bool r)) w' from fun r w' h hb => by rw [hPost]; exact ⟨by rw [h], hb⟩)
  have HI := Lib.hid hI
  have HVV := Lib.hid hV
  have HIN := Lib.hid hins
  have H8 := Lib.hid h8
  have HLIT := Lib.hid hlit
  have HX := Lib.hid (show ∀ (j : Nat), j < l.length → l[j]? = some (V (j : Int)) from fun j hj => by rw [hVd]; simp [List.getD, hj])
  clear hPost hI hV hins h8 hVd hlit
  have KH := Lib.hid (fun (h : g.k = 2) => xHolds7 a0 a1 g.lit (HLIT.out h).1 (HLIT.out h).2.1 (HLIT.out h).2.2)
  have HVG := Lib.hid (show valG (litB (bitS a0 a1)) V g = if g.k = 1 then true else if g.k = 2 then litB (bitS a0 a1) g.lit else if g.k = 3 then !(g.ins.any V) else if g.k = 4 then g.ins.all V else if g.k = 5 then g.ins.any V
  else if g.k = 6 then oddI V g.ins false else if g.k = 7 then !(oddI V g.ins false) else if g.k = 8 then (V (g.ins.getD 0 0) && V (g.ins.getD 1 0)) || (!(V (g.ins.getD 0 0)) && V (g.ins.getD 2 0)) else false from rfl)
  unfold setV at *
  go_enter Tryd.func37, Tryd.ntmps37
  go_upto_region 1 with fail
  refine wp_gen ?_
  intro w1 hw1
  have A1 := Lib.hid (show w1.heap[w.heap.size]? = some (.cells #[.int .i64 g.k, .int .i64 g.lit, .slice p g.ins.length c] 46 (0, 0)) by rw [hw1]; exact new_two1 _ _ _)
  have B1 := Lib.hid (show w1.heap[w.heap.size + 1]? = some (.cells #[.int .u64 (a0 : Nat), .int .u64 (a1 : Nat)] 38 (0, 0)) by rw [hw1]; exact new_two2 _ _ _)
  have HB1 := Lib.hid (show Below w.heap.size w w1 by rw [hw1]; exact below_two _ _ _)
  have HI1 := Lib.hid (HI.out.below HB1.out (Nat.le_refl _))
  have HV1 := Lib.hid (HVV.out.below HB1.out (Nat.le_refl _))
  clear hw1
  have g0 := blk_cell A1.out 0 rfl
  have g1 := blk_cell A1.out 1 rfl
  have g2 := blk_cell A1.out 2 rfl
  have s0 := blk_cell B1.out 0 rfl
  have s1 := blk_cell B1.out 1 rfl
  go_wp2_with fail
  go_loopw [10, 7, 8, 9] (fun t10 t7 t8 t9 wr => ∃ (j : Nat) (x y z : Bool), j ≤ g.ins.length ∧ t10 = .int .i64 j ∧ t7 = .bool x ∧ t8 = .bool y ∧ t9 = .bool z ∧ Hid ((g.ins.take j).all V = x) ∧ Hid ((g.ins.take j).any V = y) ∧ Hid (oddI V (g.ins.take j) false = z) ∧ wr = w1) (fun t10 _ _ _ _ => g.ins.length - (intOf t10).toNat)
  case atStart => exact ⟨0, true, false, false, Nat.zero_le _, rfl, rfl, rfl, rfl, rfl, rfl, rfl, rfl⟩
  case round =>
    obtain ⟨j, x, y, z, hj, rfl, rfl, rfl, rfl, HXa, HXo, HXd, rfl⟩ := hrel
    by_cases hlt : j < g.ins.length
    · have hdd : decide ((j : Int) < (g.ins.length : Int)) = true := decide_eq_true (by omega)
      have hdd2 : decide (j < g.ins.length) = true := decide_eq_true hlt
      obtain ⟨k, hk⟩ : ∃ k, g.ins[j]? = some k := ⟨_, List.getElem?_eq_getElem hlt⟩
      obtain ⟨hk0, hk1⟩ := HIN.out k (List.mem_of_getElem? hk)
      obtain ⟨kn, rfl⟩ : ∃ kn : Nat, k = kn := ⟨k.toNat, by omega⟩
      have hknl : kn < l.length := by omega
      obtain ⟨b1, o1, hb1, ea, kx⟩ := HI1.out j _ (ints_get _ _ _ hk)
      obtain ⟨b2, o2, hb2, eb, ky⟩ := HV1.out kn _ (bools_get _ _ _ (HX.out kn hknl))
      have e1 := Lib.hid (show (g.ins.take (j + 1)).all V = (x && V (kn : Int)) by rw [take_snoc hk, all_snoc, HXa.out])
      have e2 := Lib.hid (show (g.ins.take (j + 1)).any V = (y || V (kn : Int)) by rw [take_snoc hk, any_snoc, HXo.out])
      have e3 := Lib.hid (show oddI V (g.ins.take (j + 1)) false = (z != V (kn : Int)) by rw [take_snoc hk, odd_snoc, HXd.out])
      obtain ⟨vk, hvk⟩ : ∃ vk, vk = V (kn : Int) := ⟨_, rfl⟩
      rw [← hvk] at e1 e2 e3 ky
      clear hk hvk
      subst ea
      subst eb
      cases x <;> cases y <;>
      · go_wp2_with fail
        go_roundw
        case rel => exact ⟨j + 1, _, _, _, by omega, by go_num, rfl, rfl, rfl, e1.out, e2.out, e3.out, trivial⟩
        case measure => simp [intOf]; omega
    · obtain rfl : j = g.ins.length := by omega
      have hdd : decide ((g.ins.length : Int) < (g.ins.length : Int)) = false := by simp
      have ha := HXa.out
      have ho := HXo.out
      have hd := HXd.out
      rw [List.take_length] at ha ho hd
      rw [ha, ho, hd] at HVG
      clear ha ho hd
      by_cases k1 : g.k = 1
      · have hv := Lib.hid (HVG.out.trans (if_pos k1))
        rw [k1] at g0
        go_wp2_with fail
        exact HP.out _ _ hv.out HB1.out
      have b1 : (g.k == 1) = false := beq_no k1
      by_cases k2 : g.k = 2
      · have hv := Lib.hid ((HVG.out.trans (if_neg k1)).trans (if_pos k2))
        have KK := KH.out k2 wr
        generalize litB (bitS a0 a1) g.lit = lb at *
        rw [k2] at g0
        clear k1 k2 b1 KH
        go_wp2_with fail
        refine KK.mono ?_
        rintro e w3 ⟨rfl, hb3⟩
        have HB3 := Lib.hid (HB1.out.trans (hb3.mono HB1.out.size))
        clear hb3 KK
        go_wp2_with fail
        exact HP.out _ _ hv.out HB3.out
      have b2 : (g.k == 2) = false := beq_no k2
      by_cases k3 : g.k = 3
      · have hv := Lib.hid (((HVG.out.trans (if_neg k1)).trans (if_neg k2)).trans (if_pos k3))
        rw [k3] at g0
        clear k1 k2 k3 b1 b2 KH
        go_wp2_with fail
        exact HP.out _ _ hv.out HB1.out
      have b3 : (g.k == 3) = false := beq_no k3
      by_cases k4 : g.k = 4
      · have hv := Lib.hid ((((HVG.out.trans (if_neg k1)).trans (if_neg k2)).trans (if_neg k3)).trans (if_pos k4))
        rw [k4] at g0
        clear k1 k2 k3 k4 b1 b2 b3 KH
        go_wp2_with fail
        exact HP.out _ _ hv.out HB1.out
      have b4 : (g.k == 4) = false := beq_no k4
      by_cases k5 : g.k = 5
      · have hv := Lib.hid (((((HVG.out.trans (if_neg k1)).trans (if_neg k2)).trans (if_neg k3)).trans (if_neg k4)).trans (if_pos k5))
        rw [k5] at g0
        clear k1 k2 k3 k4 k5 b1 b2 b3 b4 KH
        go_wp2_with fail
        exact HP.out _ _ hv.out HB1.out
      have b5 : (g.k == 5) = false := beq_no k5
      by_cases k6 : g.k = 6
      · have hv := Lib.hid ((((((HVG.out.trans (if_neg k1)).trans (if_neg k2)).trans (if_neg k3)).trans (if_neg k4)).trans (if_neg k5)).trans (if_pos k6))
        rw [k6] at g0
        clear k1 k2 k3 k4 k5 k6 b1 b2 b3 b4 b5 KH
        go_wp2_with fail
        exact HP.out _ _ hv.out HB1.out
      have b6 : (g.k == 6) = false := beq_no k6
      by_cases k7 : g.k = 7
      · have hv := Lib.hid (((((((HVG.out.trans (if_neg k1)).trans (if_neg k2)).trans (if_neg k3)).trans (if_neg k4)).trans (if_neg k5)).trans (if_neg k6)).trans (if_pos k7))
        rw [k7] at g0
        clear k1 k2 k3 k4 k5 k6 k7 b1 b2 b3 b4 b5 b6 KH
        go_wp2_with fail
        exact HP.out _ _ hv.out HB1.out
      have b7 : (g.k == 7) = false := beq_no k7
      by_cases k8 : g.k = 8
      · have hv0 := (((((((HVG.out.trans (if_neg k1)).trans (if_neg k2)).trans (if_neg k3)).trans (if_neg k4)).trans (if_neg k5)).trans (if_neg k6)).trans (if_neg k7)).trans (if_pos k8)
        obtain ⟨q0, q1, q2, hq⟩ := len_three (H8.out k8)
        have hl3 : g.ins.length = 3 := H8.out k8
        have m0 := HIN.out q0 (by rw [hq]; simp)
        have m1 := HIN.out q1 (by rw [hq]; simp)
        have m2 := HIN.out q2 (by rw [hq]; simp)
        obtain ⟨n0, rfl⟩ : ∃ n : Nat, q0 = n := ⟨q0.toNat, by omega⟩
        obtain ⟨n1, rfl⟩ : ∃ n : Nat, q1 = n := ⟨q1.toNat, by omega⟩
        obtain ⟨n2, rfl⟩ : ∃ n : Nat, q2 = n := ⟨q2.toNat, by omega⟩
        have l0 : n0 < l.length := by omega
        have l1 : n1 < l.length := by omega
        have l2 : n2 < l.length := by omega
        obtain ⟨b1', o1, _, ea, x0⟩ := HI1.out 0 _ (ints_get g.ins 0 (n0 : Int) (by rw [hq]; rfl))
        obtain ⟨b2', o2, _, eb, x1⟩ := HI1.out 1 _ (ints_get g.ins 1 (n1 : Int) (by rw [hq]; rfl))
        obtain ⟨b3', o3, _, ec, x2⟩ := HI1.out 2 _ (ints_get g.ins 2 (n2 : Int) (by rw [hq]; rfl))
        obtain ⟨d1', r1, _, ed, y0⟩ := HV1.out n0 _ (bools_get _ _ _ (HX.out n0 l0))
        obtain ⟨d2', r2, _, ee, y1⟩ := HV1.out n1 _ (bools_get _ _ _ (HX.out n1 l1))
        obtain ⟨d3', r3, _, ef, y2⟩ := HV1.out n2 _ (bools_get _ _ _ (HX.out n2 l2))
        rw [show g.ins.getD 0 0 = (n0 : Int) by rw [hq]; rfl, show g.ins.getD 1 0 = (n1 : Int) by rw [hq]; rfl, show g.ins.getD 2 0 = (n2 : Int) by rw [hq]; rfl] at hv0
        obtain ⟨v0, hv0'⟩ : ∃ v, v = V (n0 : Int) := ⟨_, rfl⟩
        obtain ⟨v1, hv1'⟩ : ∃ v, v = V (n1 : Int) := ⟨_, rfl⟩
        obtain ⟨v2, hv2'⟩ : ∃ v, v = V (n2 : Int) := ⟨_, rfl⟩
        rw [← hv0', ← hv1', ← hv2'] at hv0
        rw [← hv0'] at y0
        rw [← hv1'] at y1
        rw [← hv2'] at y2
        have hv := Lib.hid hv0
        subst ea
        cases eb
        cases ec
        subst ed
        cases ee
        cases ef
        rw [Nat.add_zero] at x0
        rw [k8] at g0
        rw [hl3] at g2
        clear k1 k2 k3 k4 k5 k6 k7 k8 b1 b2 b3 b4 b5 b6 b7 KH hv0 hv0' hv1' hv2' hq
        cases v0 <;> cases v1 <;> cases v2 <;>
        · go_wp2_with fail
          exact HP.out _ _ hv.out HB1.out
      have b8 : (g.k == 8) = false := beq_no k8
      have hv := Lib.hid ((((((((HVG.out.trans (if_neg k1)).trans (if_neg k2)).trans (if_neg k3)).trans (if_neg k4)).trans (if_neg k5)).trans (if_neg k6)).trans (if_neg k7)).trans (if_neg k8))
      clear k1 k2 k3 k4 k5 k6 k7 k8 KH
      go_wp2_with fail
      exact HP.out _ _ hv.out HB1.out
end Go.Proofs.YtallcgpiecopcaaDoor

/- The reference's Eval. -/
namespace Go.Proofs.YtallcgpiecopcaaDoor
open Go.RowKit


def evalI (n : Int) (gs : List Gt) (a0 a1 : Nat) : Bool := if checkI n gs ≠ 0 then false else if subS a0 a1 (setL (allL n) 128).1 (setL (allL n) 128).2 128 = false then false else VL (litB (bitS a0 a1)) gs ((gs.length - 1 : Nat) : Int)
def vls (h : Int → Bool) (gs : List Gt) (j : Nat) : List Bool := (List.range j).map fun i : Nat => VL h gs (i : Int)
theorem vls_len (h : Int → Bool) (gs : List Gt) (j : Nat) : (vls h gs j).length = j := by simp [vls]
theorem vls_succ (h : Int → Bool) (gs : List Gt) (j : Nat) : vls h gs (j + 1) = vls h gs j ++ [VL h gs (j : Int)] := by simp [vls, List.range_succ]
theorem vls_get (h : Int → Bool) (gs : List Gt) {i j : Nat} (hi : i < j) : (vls h gs j)[i]? = some (VL h gs (i : Int)) := by simp [vls, hi]
theorem vls_val {n : Int} {h : Int → Bool} {gs : List Gt} (hok : Ok n gs) {j : Nat} {g : Gt} (hg : gs[j]? = some g) : valG h (fun k => (vls h gs j).getD k.toNat false) g = VL h gs (j : Int) := by
  rw [VL_eq hok hg]
  refine valG_cong (fun k hk => ?_) (fun h8 => many_three (hok j g hg).many h8)
  obtain ⟨h0, h1⟩ := (hok j g hg).ins k hk
  obtain ⟨m, rfl⟩ : ∃ m : Nat, k = m := ⟨k.toNat, by omega⟩
  have hm : m < j := by omega
  have := vls_get h gs hm
  simp [List.getD, this]
theorem bools_snoc (l : List Bool) (b : Bool) : bools (l ++ [b]) = bools l ++ [.bool b] := by simp [bools]
set_option maxHeartbeats 6400000 in
set_option maxRecDepth 100000 in
theorem xEval (n : Int) (gs : List Gt) (a : Option Addr) (c : Nat) (a0 a1 : Nat) (w : World) (hC : CircAt w.heap.size w a gs) (hf : Fits gs) (hl : gs.length ≤ 140737488355328) : Calls Tryd.prog 17 #[.agg #[.int .i64 n, .slice a gs.length c], setV a0 a1] w fun e w' => e = .returned (.bool (evalI n gs a0 a1)) ∧ Below w.heap.size w w' := by
  obtain ⟨Post, hPost⟩ : ∃ P : Ending → World → Prop, P = fun e w' => e = .returned (.bool (evalI n gs a0 a1)) ∧ Below w.heap.size w w' := ⟨_, rfl⟩
  rw [← hPost]
  have HP := Lib.hid (show ∀ (r : Bool) (w' : World), evalI n gs a0 a1 = r → Below w.heap.size w w' → Post (.returned (.bool r)) w' from fun r w' h hb => by rw [hPost]; exact ⟨by rw [h], hb⟩)
  have KC := Lib.hid (show GivesFrom w 27 #[.agg #[.int .i64 n, .slice a gs.length c]] (.int .i64 (checkI n gs)) from fun z hz => xCheck n gs a c z (hC.later hz) hf hl)
  have HC := Lib.hid hC
  have HE := Lib.hid (show evalI n gs a0 a1 = if checkI n gs ≠ 0 then false else if subS a0 a1 (setL (allL n) 128).1 (setL (allL n) 128).2 128 = false then false else VL (litB (bitS a0 a1)) gs ((gs.length - 1 : Nat) : Int) from rfl)
  have KSB := Lib.hid (xSub a0 a1 (setL (allL n) 128).1 (setL (allL n) 128).2)
  have KAL := Lib.hid (fun h0 h1 => xAll n h0 h1)
  have KVA := Lib.hid (fun g p a c d l w => xValue a0 a1 g p a c d l w)
  obtain ⟨sb, hsb⟩ : ∃ sb, sb = subS a0 a1 (setL (allL n) 128).1 (setL (allL n) 128).2 128 := ⟨_, rfl⟩
  rw [← hsb] at HE KSB
  clear hPost hC hsb
  generalize (setL (allL n) 128).1 = q0 at *
  generalize (setL (allL n) 128).2 = q1 at *
  unfold setV at *
  go_enter Tryd.func17, Tryd.ntmps17
  go_upto_region 1 with fail
  refine wp_gen ?_
  intro w1 hw1
  have A1 := Lib.hid (show w1.heap[w.heap.size]? = some (.cells #[.int .i64 n, .slice a gs.length c] 24 (0, 0)) by rw [hw1]; exact new_two1 _ _ _)
  have B1 := Lib.hid (show w1.heap[w.heap.size + 1]? = some (.cells #[.int .u64 (a0 : Nat), .int .u64 (a1 : Nat)] 38 (0, 0)) by rw [hw1]; exact new_two2 _ _ _)
  have HB1 := Lib.hid (show Below w.heap.size w w1 by rw [hw1]; exact below_two _ _ _)
  clear hw1
  have C0 := Lib.hid (blk_cell A1.out 0 rfl)
  have C1 := Lib.hid (blk_cell A1.out 1 rfl)
  have S0 := Lib.hid (blk_cell B1.out 0 rfl)
  have S1 := Lib.hid (blk_cell B1.out 1 rfl)
  have KC1 := Lib.hid (show GivesFrom w1 27 #[.agg #[.int .i64 n, .slice a gs.length c]] (.int .i64 (checkI n gs)) from fun z hz => KC.out z (HB1.out.trans (hz.mono HB1.out.size)))
  clear KC
  by_cases hck : checkI n gs ≠ 0
  · have hb1 : (checkI n gs != 0) = true := by simp [bne, beq_no hck]
    have HF := Lib.hid (HE.out.trans (if_pos hck))
    generalize checkI n gs = ck at *
    clear hck HE KSB KAL
    refine wp_game (List.replicate 11 0) [] B0 fin_B0 (has_B0 _) (by kernel_rfl) (by kernel_rfl) ?_
    refine lex_quietE 11 (by kernel_rfl) (by rfl) ?_
    apply Exists.intro
    refine ⟨fun z hz => ?_, ?_⟩
    · have e0 := behind_cellXp hz C0.out (by simp)
      have e1 := behind_cellXp hz C1.out (by simp)
      have e2 := behind_cellXp hz S0.out (by simp)
      have e3 := behind_cellXp hz S1.out (by simp)
      have hzb := hz.below
      clear hz
      simp only [List.take_succ_cons, List.take_zero]
      unfold Cx
      repeat (go_big_quiet_step (with_reducible exact KC1.out.at2 hzb _))
      exact wpQuiet_nil rfl
    simp only [List.drop_succ_cons, List.drop_zero]
    refine lex_nil ?_
    intro z hz _
    have HBZ := Lib.hid (HB1.out.trans (hz.below.mono HB1.out.size))
    clear hz
    go_wp2_with fail
    exact HP.out _ _ HF.out HBZ.out
  have hb1 : (checkI n gs != 0) = false := by simp at hck; simp [hck]
  obtain ⟨h0, h128, hlen, hsize, hne, hok⟩ := check_ok (Decidable.not_not.1 hck)
  have HE2 := Lib.hid (HE.out.trans (if_neg hck))
  have HOK := Lib.hid hok
  have HSZ := Lib.hid hsize
  have KAL2 := Lib.hid (KAL.out h0 h128)
  obtain ⟨m, hm⟩ : ∃ m, gs.length = m + 1 := ⟨gs.length - 1, by have := List.length_pos_iff.2 hne; omega⟩
  have HM := Lib.hid hm
  generalize checkI n gs = ck at *
  clear hck HE KAL hok hsize hne hm
  cases sb with
  | false =>
    have HF := Lib.hid (show evalI n gs a0 a1 = false from HE2.out)
    refine wp_game (List.replicate 11 0) [] B0 fin_B0 (has_B0 _) (by kernel_rfl) (by kernel_rfl) ?_
    refine lex_quietE 11 (by kernel_rfl) (by rfl) ?_
    apply Exists.intro
    refine ⟨fun z hz => ?_, ?_⟩
    · have e0 := behind_cellXp hz C0.out (by simp)
      have e1 := behind_cellXp hz C1.out (by simp)
      have e2 := behind_cellXp hz S0.out (by simp)
      have e3 := behind_cellXp hz S1.out (by simp)
      have hzb := hz.below
      clear hz
      simp only [List.take_succ_cons, List.take_zero]
      unfold Cx
      repeat (go_big_quiet_step (first | with_reducible exact KC1.out.at2 hzb _ | with_reducible exact KAL2.out.at _ _ | with_reducible exact KSB.out.at _ _))
      exact wpQuiet_nil rfl
    simp only [List.drop_succ_cons, List.drop_zero]
    refine lex_nil ?_
    intro z hz _
    have HBZ := Lib.hid (HB1.out.trans (hz.below.mono HB1.out.size))
    clear hz
    go_wp2_with fail
    exact HP.out _ _ HF.out HBZ.out
  | true =>
  have HE3 := Lib.hid (show evalI n gs a0 a1 = VL (litB (bitS a0 a1)) gs (m : Int) by
    have := HE2.out
    rw [if_neg (by simp), show (gs.length - 1 : Nat) = m by have := HM.out; omega] at this
    exact this)
  clear HE2
  refine wp_game (List.replicate 11 0) [] B0 fin_B0 (has_B0 _) (by kernel_rfl) (by kernel_rfl) ?_
  refine lex_quietE 11 (by kernel_rfl) (by rfl) ?_
  apply Exists.intro
  refine ⟨fun z hz => ?_, ?_⟩
  · have e0 := behind_cellXp hz C0.out (by simp)
    have e1 := behind_cellXp hz C1.out (by simp)
    have e2 := behind_cellXp hz S0.out (by simp)
    have e3 := behind_cellXp hz S1.out (by simp)
    have hzb := hz.below
    clear hz
    simp only [List.take_succ_cons, List.take_zero]
    unfold Cx
    repeat (go_big_quiet_step (first | with_reducible exact KC1.out.at2 hzb _ | with_reducible exact KAL2.out.at _ _ | with_reducible exact KSB.out.at _ _))
    exact wpQuiet_nil rfl
  simp only [List.drop_succ_cons, List.drop_zero]
  refine lex_nil ?_
  intro w2 hw2 _
  have HB2 := Lib.hid (HB1.out.trans (hw2.below.mono HB1.out.size))
  have A2 := Lib.hid (hw2.keep A1.out (by simp))
  have B2 := Lib.hid (hw2.keep B1.out (by simp))
  clear hw2 A1 B1 C0 C1 S0 S1 KC1 KAL2 KSB HB1
  obtain ⟨i0, ii, iz0, iz1, iz2⟩ := info_parts Tryd.infoBool
  have II := Lib.hid ii
  have IZ0 := Lib.hid iz0
  have IZ1 := Lib.hid iz1
  have IZ2 := Lib.hid iz2
  obtain ⟨h, hh⟩ : ∃ h, h = litB (bitS a0 a1) := ⟨_, rfl⟩
  rw [← hh] at HE3 KVA
  clear ii iz0 iz1 iz2 hh
  go_wp2_with fail
  go_loopw [6, 5] (fun t6 t5 wr => ∃ (j : Nat) (pv : Option Addr) (cv : Nat), j ≤ gs.length ∧ t6 = .int .i64 j ∧ t5 = .slice pv j cv ∧ Hid (RowV (inW wr) 4 1 (.slice pv j cv) j (bools (vls h gs j))) ∧ Hid (∀ g ∈ rowBlk (.slice pv j cv), w.heap.size + 1 < g) ∧ Hid (wr.heap[w.heap.size]? = some (.cells #[.int .i64 n, .slice a gs.length c] 24 (0, 0))) ∧ Hid (wr.heap[w.heap.size + 1]? = some (.cells #[.int .u64 (a0 : Nat), .int .u64 (a1 : Nat)] 38 (0, 0))) ∧ Hid (Below w.heap.size w wr)) (fun t6 _ _ => gs.length - (intOf t6).toNat)
  case atStart => exact ⟨0, none, 0, Nat.zero_le _, rfl, rfl, .nil, fun g hg => by simp [rowBlk] at hg, A2.out, B2.out, HB2.out⟩
  case round =>
    obtain ⟨j, pv, cv, hj, rfl, rfl, HR, HG, HA, HS, HB⟩ := hrel
    have c1 := blk_cell HA.out 1 rfl
    by_cases hlt : j < gs.length
    · have hdd : decide ((j : Int) < (gs.length : Int)) = true := decide_eq_true (by omega)
      have hdd2 : decide (j < gs.length) = true := decide_eq_true hlt
      obtain ⟨g, hg⟩ : ∃ g, gs[j]? = some g := ⟨_, List.getElem?_eq_getElem hlt⟩
      obtain ⟨b, o, p, d, hb, rfl, k0, k1, k2, hin⟩ := (HC.out.below HB.out (Nat.le_refl _)) j g hg
      have hgk := HOK.out j g hg
      have hWn : ∀ g ∈ rowBlk (.slice pv j cv), w.heap.size ≤ g := fun g hg => by have := HG.out g hg; omega
      have hbW : b ∉ rowBlk (.slice pv j cv) := fun hm => by have := HG.out b hm; omega
      have hlitb : g.k = 2 → g.lit ≠ 0 ∧ -128 ≤ g.lit ∧ g.lit ≤ 128 := fun e => by
        have := hgk.lit e
        unfold litI at this
        simp only [Bool.or_eq_true, decide_eq_true_eq] at this
        omega
      have hsz := HSZ.out
      have hinl := ins_size (List.mem_of_getElem? hg)
      have hval : valG h (fun k => (vls h gs j).getD k.toNat false) g = VL h gs (j : Int) := vls_val HOK.out hg
      have key : ∀ z, Behind wr (rowBlk (.slice pv j cv)) z → Has (rowB wr (.slice pv j cv)) z → GivesFrom z 37 #[.agg #[.int .i64 g.k, .int .i64 g.lit, .slice p g.ins.length d], .agg #[.int .u64 (a0 : Nat), .int .u64 (a1 : Nat)], .slice pv j cv] (.bool (VL h gs (j : Int))) := fun z hz hH y hy => by
        have hr := (rowV_rowB HR.out).of_has hH
        obtain ⟨a', c', ea, _, hat⟩ := rowV_at2 hr
        have ea' : pv = a' ∧ cv = c' := by cases ea; exact ⟨rfl, rfl⟩
        obtain ⟨rfl, rfl⟩ := ea'
        have hzb : Below w.heap.size wr z := hz.below_of hWn HB.out.size
        have hbz : w.heap.size ≤ z.heap.size := Nat.le_trans HB.out.size hz.size
        have hv := KVA.out g p pv d cv (vls h gs j) y (((hin.below hzb (Nat.le_refl _)).below (hy.mono hbz) (Nat.le_refl _)).mono (Nat.le_trans hbz hy.size)) ((hat.below hy (Nat.le_refl _)).mono hy.size) (fun k hk => by rw [vls_len]; exact hgk.ins k hk) hlitb (fun e => many_three hgk.many e) (by omega) (by rw [vls_len]; omega)
        rw [hval, vls_len] at hv
        exact hv
      have KEY := Lib.hid key
      have K0 := Lib.hid k0
      have K1 := Lib.hid k1
      have K2 := Lib.hid k2
      have C1 := Lib.hid (blk_cell HA.out 1 rfl)
      have S0 := Lib.hid (blk_cell HS.out 0 rfl)
      have S1 := Lib.hid (blk_cell HS.out 1 rfl)
      have HBW := Lib.hid hbW
      have HNA := Lib.hid (show w.heap.size ∉ rowBlk (.slice pv j cv) from fun hm => by have := HG.out _ hm; omega)
      have HNS := Lib.hid (show w.heap.size + 1 ∉ rowBlk (.slice pv j cv) from fun hm => by have := HG.out _ hm; omega)
      have HWN := Lib.hid hWn
      have HLT1 := Lib.hid HR.out.lt
      have HSU := Lib.hid (show bools (vls h gs (j + 1)) = bools (vls h gs j) ++ [.bool (VL h gs (j : Int))] by rw [vls_succ, bools_snoc])
      have hAs := lt_of_heap HS.out
      generalize VL h gs (j : Int) = vj at *
      clear key hgk hlitb hinl hval hsz hg hin k0 k1 k2 hbW hWn
      go_upto_region 7 with fail
      clear c1
      obtain ⟨kF1, hkF1⟩ : ∃ kF1, kF1 = kA (.slice pv j cv) j 1 := ⟨_, rfl⟩
      have hkF1' : kF1 = 2 ∨ kF1 = 5 := by rw [hkF1]; exact kA_or _ _ _
      have HK1 := Lib.hid hkF1
      clear hkF1
      refine wp_game [0, 0, 0, 0, 0, 0, 0, 0, 1, 3, kF1, 0] (rowBlk (.slice pv j cv)) (rowB wr (.slice pv j cv)) (fin_rowB _ _) (has_rowB _ _) (by kernel_rfl) (by rcases hkF1' with h | h <;> rw [h] <;> kernel_rfl) ?_
      refine lex_quietE 8 (by kernel_rfl) (by rfl) ?_
      apply Exists.intro
      refine ⟨fun z hz => ?_, ?_⟩
      · have e1 := behind_cellXp hz C1.out HNA.out
        have e2 := behind_cellXp hz K0.out HBW.out
        have e3 := behind_cellXp hz K1.out HBW.out
        have e4 := behind_cellXp hz K2.out HBW.out
        have e5 := behind_cellXp hz S0.out HNS.out
        have e6 := behind_cellXp hz S1.out HNS.out
        clear hz
        simp only [List.take_succ_cons, List.take_zero]
        unfold Cx
        repeat (go_big_quiet_step (fail))
        exact wpQuiet_nil rfl
      simp only [List.drop_succ_cons, List.drop_zero]
      refine lex_readE 1 wr (Behind.refl _ _) (has_rowB _ _) (by kernel_rfl) (by rfl) ?_
      apply Exists.intro
      refine ⟨fun z hz hH => ?_, ?_⟩
      · have KV := KEY.out z hz hH
        clear hz hH
        simp only [List.take_succ_cons, List.take_zero]
        unfold Cx
        repeat (go_big_quiet_step (with_reducible exact KV.at _))
        exact wpQuiet_nil rfl
      simp only [List.drop_succ_cons, List.drop_zero]
      refine lex_slice 1 (.cells #[.bool vj] 4) (by rfl) (fun x => by go_simp) (fun g21 q21 hn21 => ?_)
      unfold setSlot
      go_big_quiet_step (fail)
      refine wpQuiet_nil ?_
      have n21v : g21 ∉ rowBlk (.slice pv j cv) := fun h => by have := HLT1.out g21 h; omega
      clear hn21
      refine lex_append_v (.tmp 25) (.tmp 34) 73 4 i0 _ 1 1 Tryd.underlying73 II.out IZ0.out IZ1.out IZ2.out (by rfl) (.slice pv j cv) j (bools (vls h gs j)) ((rowV_rowB HR.out).of_put n21v) (by rfl) g21 1 1 [.bool vj] 4 (by rfl) (Blocks.put_same _ _ _) rfl (by simp [Value.oneCell']) (by omega) (by unfold maxLen; omega) (by omega) (fun g hg => .inl hg) HK1.out (fun g22 c22 ob22 hr22 hg22 => ?_)
      unfold setSlot
      go_big_quiet_step (fail)
      refine wpQuiet_nil ?_
      have hn22 : ∀ g ∈ rowBlk (.slice (some ⟨g22, 0, none⟩) (j + 1) c22), g ∈ rowBlk (.slice pv j cv) ∨ wr.heap.size ≤ g := fun g hg => by
        have : g = g22 := by simpa [rowBlk] using hg
        subst this
        exact hg22.imp id (fun h => h.1)
      clear hg22
      refine lex_quietE 1 (by kernel_rfl) (by rfl) ?_
      apply Exists.intro
      refine ⟨fun z hz1 => ?_, ?_⟩
      · clear hz1
        simp only [List.take_succ_cons, List.take_zero]
        unfold Cx
        repeat (go_big_quiet_step (fail))
        exact wpQuiet_nil rfl
      simp only [List.drop_succ_cons, List.drop_zero]
      refine lex_nil ?_
      intro x2 hx2 hH2
      have hr9 := hr22.of_has hH2
      rw [← HSU.out] at hr9
      have HR9 := Lib.hid hr9
      have HG9 := Lib.hid (show ∀ g ∈ rowBlk (.slice (some ⟨g22, 0, none⟩) (j + 1) c22), w.heap.size + 1 < g from fun g hg => (hn22 g hg).elim (HG.out g) (fun h => by omega))
      have HA9 := Lib.hid (hx2.keep HA.out HNA.out)
      have HS9 := Lib.hid (hx2.keep HS.out HNS.out)
      have HB9 := Lib.hid (HB.out.trans (hx2.below_of HWN.out HB.out.size))
      clear hx2 hH2 hr9 hn22 hr22
      go_wp2_with fail
      go_roundw
      case rel => exact ⟨j + 1, _, _, by omega, by go_num, rfl, HR9.out, HG9.out, HA9.out, HS9.out, HB9.out⟩
      case measure => simp [intOf]; omega
    · obtain rfl : j = gs.length := by omega
      have hdd : decide ((gs.length : Int) < (gs.length : Int)) = false := by simp
      have hm := HM.out
      have hml : m < gs.length := by omega
      obtain ⟨a', c', ea, _, hat⟩ := rowV_at2 HR.out
      have ea' : pv = a' ∧ cv = c' := by cases ea; exact ⟨rfl, rfl⟩
      obtain ⟨rfl, rfl⟩ := ea'
      obtain ⟨b, o, _, eb, kx⟩ := hat m _ (bools_get _ _ _ (vls_get h gs hml))
      have hmi : ((gs.length : Int) - 1) = (m : Int) := by omega
      subst eb
      clear hat ea
      go_wp2_with fail
      exact HP.out _ _ HE3.out HB.out
end Go.Proofs.YtallcgpiecopcaaDoor

/- The reference's tree form: a gate's tree is grown. -/
namespace Go.Proofs.YtallcgpiecopcaaDoor
open Go.RowKit

theorem seqI_snoc (T : Int → Nat → List Gt) (x : Int) : ∀ (l : List Int) (b : Nat), seqI T (l ++ [x]) b = ((seqI T l b).1 ++ T x (b + (seqI T l b).1.length), (seqI T l b).2 ++ [((b + (seqI T l b).1.length + (T x (b + (seqI T l b).1.length)).length : Nat) : Int) - 1])
  | [], b => by simp [seqI]
  | k :: l, b => by
    rw [List.cons_append, seqI, seqI_snoc T x l (b + (T k b).length), seqI]
    simp only [List.length_append, List.append_assoc, List.cons_append, Nat.add_assoc]
theorem seqI_len (T : Int → Nat → List Gt) : ∀ (l : List Int) (b : Nat), (seqI T l b).2.length = l.length
  | [], _ => rfl
  | k :: l, b => by rw [seqI]; simp [seqI_len T l]
theorem seqI_app_le (T : Int → Nat → List Gt) : ∀ (l m : List Int) (b : Nat), (seqI T l b).1.length ≤ (seqI T (l ++ m) b).1.length
  | [], _, _ => Nat.zero_le _
  | k :: l, m, b => by
    rw [List.cons_append, seqI, seqI]
    have := seqI_app_le T l m (b + (T k b).length)
    simp only [List.length_append]; omega
theorem seqI_take_le (T : Int → Nat → List Gt) (l : List Int) (k b : Nat) : (seqI T (l.take k) b).1.length ≤ (seqI T l b).1.length := by
  have := seqI_app_le T (l.take k) (l.drop k) b
  rwa [List.take_append_drop] at this

theorem ins_of_row {w : World} {X : List Nat} {p : Option Addr} {n c : Nat} {xs : List Int} (h : RowV (inW w) 3 1 (.slice p n c) n (ints xs)) (hX : ∀ g ∈ rowBlk (.slice p n c), g ∉ X) : InsAt w X p xs := fun k x hk => by
  generalize hz : ints xs = zs at h hk
  cases h with
  | nil => simp at hk
  | @row g n cap ys cur hr =>
    have hc : cur[k]? = some x := by
      have h2 := hr.tk
      rw [← h2, List.getElem?_take] at hk
      split at hk
      · simpa using hk
      · cases hk
    exact ⟨g, 0, lt_of_heap hr.blk, hX g (by simp [rowBlk]), rfl, by rw [Nat.zero_add]; exact blk_cell hr.blk k hc⟩

def Grew (N br : Nat) (E : List Nat) (v : Value) (gs : List Gt) (x : World) (e : Ending) (x' : World) : Prop := ∃ v', e = .returned v' ∧ GR x' N br E v' gs ∧ Behind x (rowBlk v) x' ∧ ∀ g ∈ rowBlk v', g ∈ rowBlk v ∨ x.heap.size ≤ g
structure GL (N br : Nat) (E : List Nat) (n : Int) (G : List Gt) (a : Option Addr) (ca : Nat) (g : Gt) (v0 : Value) (w0 : World) (cb bx : Nat) (gs : List Gt) (roots : List Int) (v u : Value) (x : World) : Prop where
  gr : GR x N br (bx :: (rowBlk u ++ E)) v gs
  hc : x.heap[cb]? = some (.cells #[.int .i64 n, .slice a G.length ca] 24 (0, 0))
  hx : x.heap[bx]? = some (.cells #[.int .i64 g.k, .int .i64 g.lit, u] 46 (0, 0))
  ur : RowV (inW x) 3 1 u roots.length (ints roots)
  un : ∀ b ∈ rowBlk u, w0.heap.size ≤ b ∧ b ∉ rowBlk v ∧ b ≠ cb ∧ b ≠ bx
  cn : cb ∉ rowBlk v
  bn : bx ∉ rowBlk v
  cx : cb ≠ bx
  cge : w0.heap.size ≤ cb
  bge : w0.heap.size ≤ bx
  be : Behind w0 (rowBlk v0) x
  vn : ∀ b ∈ rowBlk v, b ∈ rowBlk v0 ∨ w0.heap.size ≤ b
section
variable {N br : Nat} {E : List Nat} {n : Int} {G : List Gt} {a : Option Addr} {ca : Nat} {g : Gt} {v0 : Value} {w0 : World} {cb bx : Nat} {gs gs2 : List Gt} {roots : List Int} {v u : Value} {x : World}
theorem GL.below (h : GL N br E n G a ca g v0 w0 cb bx gs roots v u x) {z : World} (hz : Behind x [] z) : GL N br E n G a ca g v0 w0 cb bx gs roots v u z :=
  ⟨h.gr.keep hz (fun g hg => by simp at hg) (fun g hg => .inl hg), hz.keep h.hc (by simp), hz.keep h.hx (by simp), h.ur.keep hz (by simp), h.un, h.cn, h.bn, h.cx, h.cge, h.bge, h.be.trans hz (by simp), h.vn⟩
theorem GL.after (h : GL N br E n G a ca g v0 w0 cb bx gs roots v u x) {e : Ending} {x' : World} (hg : Grew N br (bx :: (rowBlk u ++ E)) v gs2 x e x') : ∃ v', e = .returned v' ∧ GL N br E n G a ca g v0 w0 cb bx gs2 roots v' u x' := by
  obtain ⟨v', rfl, h1, h2, h3⟩ := hg
  have hbs := h.be.size
  refine ⟨v', rfl, h1, h2.keep h.hc h.cn, h2.keep h.hx h.bn, h.ur.keep h2 (fun b hb => (h.un b hb).2.1), fun b hb => ?_, fun hm => ?_, fun hm => ?_, h.cx, h.cge, h.bge, h.be.trans h2 h.vn, fun b hb => (h3 b hb).elim (h.vn b) (fun e => .inr (Nat.le_trans hbs e))⟩
  · obtain ⟨k1, k2, k3⟩ := h.un b hb
    exact ⟨k1, fun hm => (h3 b hm).elim k2 (fun e => by have := h.ur.lt b hb; omega), k3⟩
  · exact (h3 _ hm).elim h.cn (fun e => by have := lt_of_heap h.hc; omega)
  · exact (h3 _ hm).elim h.bn (fun e => by have := lt_of_heap h.hx; omega)
theorem GL.push (h : GL N br E n G a ca g v0 w0 cb bx gs roots v u x) {r : Int} {q : Option Addr} {c : Nat} {x' : World} (hr : RowV (inW x') 3 1 (.slice q (roots.length + 1) c) (roots.length + 1) (ints roots ++ [.int .i64 r])) (hb : Behind x (rowBlk u) x') (hn : ∀ b ∈ rowBlk (.slice q (roots.length + 1) c), b ∈ rowBlk u ∨ x.heap.size ≤ b) :
    GL N br E n G a ca g v0 w0 cb bx gs (roots ++ [r]) v (.slice q (roots.length + 1) c) (x'.setCell ⟨bx, 2, none⟩ (.slice q (roots.length + 1) c)) := by
  have hxu : bx ∉ rowBlk u := fun hm => (h.un _ hm).2.2.2 rfl
  have hcu : cb ∉ rowBlk u := fun hm => (h.un _ hm).2.2.1 rfl
  have hx1 := hb.keep h.hx hxu
  have hb2 : Behind x' [bx] (x'.setCell ⟨bx, 2, none⟩ (.slice q (roots.length + 1) c)) := behind_set1
  have hxl := lt_of_heap h.hx
  have hcl := lt_of_heap h.hc
  have hw0 : ∀ b ∈ rowBlk u, b ∈ rowBlk v0 ∨ w0.heap.size ≤ b := fun b hb => .inr (h.un b hb).1
  have hnew : ∀ b ∈ rowBlk (.slice q (roots.length + 1) c), w0.heap.size ≤ b ∧ b ∉ rowBlk v ∧ b ≠ cb ∧ b ≠ bx := fun b hb => (hn b hb).elim (h.un b) (fun e => ⟨Nat.le_trans h.be.size e, fun hm => by have := h.gr.lt b hm; omega, by omega, by omega⟩)
  have g1 : GR x' N br (bx :: (rowBlk (.slice q (roots.length + 1) c) ++ E)) v gs := h.gr.keep hb (fun b hb => ⟨(h.un b hb).2.1, .inr (.inr (by simp [hb]))⟩) (fun b hb => by
    rcases List.mem_cons.1 hb with rfl | hb
    · exact .inl (by simp)
    · rcases List.mem_append.1 hb with hb | hb
      · exact (hn b hb).imp (fun e => by simp [e]) id
      · exact .inl (by simp [hb]))
  refine ⟨g1.keep hb2 (fun b hb => by simp at hb; rw [hb]; exact ⟨h.bn, .inr (.inr (by simp))⟩) (fun b hb => .inl hb), hb2.keep (hb.keep h.hc hcu) (by simp [h.cx]), heap_setCell_same _ bx 2 _ _ _ hx1, ?_, hnew, h.cn, h.bn, h.cx, h.cge, h.bge, (h.be.trans hb hw0).trans hb2 (fun b hb => .inr (by simp at hb; rw [hb]; exact h.bge)), h.vn⟩
  have hk := hr.keep hb2 (fun b hb hm => by simp at hm; exact (hnew b hb).2.2.2 hm)
  rw [show ints (roots ++ [r]) = ints roots ++ [.int .i64 r] by simp [ints], List.length_append]
  exact hk
theorem GL.last (h : GL N br E n G a ca g v0 w0 cb bx gs roots v u x) (hbr : br < w0.heap.size) (hE : ∀ b ∈ E, b < w0.heap.size) (hN : N ≤ w0.heap.size) {q : Option Addr} {m c : Nat} (hu : u = .slice q m c) (hm : m = roots.length) {v' : Value} {x' : World}
    (cl : List Value) (hcl : ∀ (i : Nat) (g : Gt), gs[i]? = some g → ∃ p c, cl[i * 3]? = some (.int .i64 g.k) ∧ cl[i * 3 + 1]? = some (.int .i64 g.lit) ∧ cl[i * 3 + 2]? = some (.slice p g.ins.length c) ∧ InsAt x (br :: (rowBlk v ++ (bx :: (rowBlk u ++ E)))) p g.ins) (hlen : cl.length = gs.length * 3)
    (hb : Behind x (rowBlk v) x') (hr : RowV (inW x') 46 3 v' (gs.length + 1) (cl ++ [.int .i64 g.k, .int .i64 g.lit, u])) (hn : ∀ b ∈ rowBlk v', b ∈ rowBlk v ∨ x.heap.size ≤ b) (hnb : ∀ b ∈ rowBlk v, b ≠ br) : Grew N br E v0 (gs ++ [⟨g.k, g.lit, roots⟩]) w0 (.returned v') x' := by
  subst hu
  subst hm
  have hxs := h.be.size
  have hG : GR x N br E v gs := h.gr.keep (Behind.refl x []) (fun b hb => by simp at hb) (fun b hb => .inl (by simp [hb]))
  have hI : InsAt x (br :: (rowBlk v ++ E)) q roots := ins_of_row h.ur (fun b hb hm => by
    obtain ⟨k1, k2, _⟩ := h.un b hb
    rcases List.mem_cons.1 hm with rfl | hm
    · omega
    · rcases List.mem_append.1 hm with hm | hm
      · exact k2 hm
      · have := hE b hm; omega)
  have hcl2 : ∀ (i : Nat) (g : Gt), gs[i]? = some g → ∃ p c, cl[i * 3]? = some (.int .i64 g.k) ∧ cl[i * 3 + 1]? = some (.int .i64 g.lit) ∧ cl[i * 3 + 2]? = some (.slice p g.ins.length c) ∧ InsAt x (br :: (rowBlk v ++ E)) p g.ins := fun i g hg => by
    obtain ⟨p, c, k1, k2, k3, k4⟩ := hcl i g hg
    exact ⟨p, c, k1, k2, k3, k4.keep (Behind.refl x []) (by simp) (fun b hb => .inl (by
      rcases List.mem_cons.1 hb with rfl | hb
      · simp
      · rcases List.mem_append.1 hb with hb | hb <;> simp [hb]))⟩
  exact ⟨v', rfl, hG.app (g := ⟨g.k, g.lit, roots⟩) hcl2 (hb.mono (fun k hk => List.mem_cons_of_mem _ hk)) hlen hr hn hI (by omega) (by omega), h.be.trans hb h.vn, fun b hb => (hn b hb).elim (h.vn b) (fun e => .inr (by omega))⟩
end
end Go.Proofs.YtallcgpiecopcaaDoor
