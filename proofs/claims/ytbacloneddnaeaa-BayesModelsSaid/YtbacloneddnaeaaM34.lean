/- Texts of this claim, joined: BModD, BModA, BModG, BModC. -/
import Derived.Test.YtbacloneddnaeaaM33

/- Check, All1, Order. -/
namespace Go.Proofs.Ytbacloneddnaeaa
open Go.RowKit Go.Shelf Num

theorem xvalid5 (y : Int) (n : Nat) (h0 : y ≠ 0) (h1 : -(n : Int) ≤ y) (h2 : y ≤ n) (hn : n ≤ 1000) : Gives 87 #[.int .i64 y, .int .i64 (n : Nat)] (.bool true) := by
  intro w
  have hy0 : (y != 0) = true := by simp [bne, beq_no h0]
  go_enter Try.func87, Try.ntmps87
  go_wp2_with fail
  go_ret
  exact ⟨rfl, Below.refl _ _⟩

theorem xvar4 (y : Int) (h0 : y ≠ 0) (h1 : -128 ≤ y) (h2 : y ≤ 128) : Gives 53 #[.int .i64 y] (.int .i64 (if 0 < y then y else -y)) := by
  intro w
  go_enter Try.func53, Try.ntmps53
  by_cases hp : 1 ≤ y
  · rw [if_pos (by omega)]
    go_wp2_with fail
    go_ret
    exact ⟨rfl, Below.refl _ _⟩
  · rw [if_neg (by omega)]
    have hm : y ≤ -1 := by omega
    go_wp2_with fail
    go_ret
    exact ⟨rfl, Below.refl _ _⟩

theorem xvalid4 (y : Int) (n : Nat) (h0 : y ≠ 0) (h1 : -(n : Int) ≤ y) (h2 : y ≤ n) (hn : n ≤ 128) : Gives 107 #[.int .i64 y, .int .i64 (n : Nat)] (.bool true) := by
  intro w
  have KV := xvar4 y h0 (by omega) (by omega)
  obtain ⟨v, hv⟩ : ∃ v : Int, v = if 0 < y then y else -y := ⟨_, rfl⟩
  have hv1 : 0 < v := by rw [hv]; split <;> omega
  have hv2 : v ≤ n := by rw [hv]; split <;> omega
  rw [← hv] at KV
  clear hv
  go_enter Try.func107, Try.ntmps107
  go_wp2_with fail
  refine (KV _).mono ?_
  rintro r1 w1 ⟨rfl, hB1⟩
  have HB1 := Lib.hid hB1
  clear hB1
  go_wp2_with fail
  refine (KV _).mono ?_
  rintro r2 w2 ⟨rfl, hB2⟩
  have HB2 := Lib.hid (HB1.out.trans (hB2.mono HB1.out.size))
  clear hB2
  go_wp2_with fail
  go_ret
  exact ⟨rfl, HB2.out⟩

set_option maxHeartbeats 1600000 in
set_option maxRecDepth 100000 in
theorem xall1_law (N : Nat) (ds : List Int) (a : Option Addr) (c n : Nat) (hn : n ≤ 128) (hd : ∀ y ∈ ds, y ≠ 0 ∧ -(n : Int) ≤ y ∧ y ≤ n) (hl : ds.length ≤ 100000) (w : World) (hA : AtN N w a (ints ds)) (hw : N ≤ w.heap.size) :
    Calls Try.prog 89 #[.slice a ds.length c, .int .i64 (n : Nat)] w fun e w' => e = .returned (.bool true) ∧ Below w.heap.size w w' := by
  have HA := Lib.hid hA
  have HD := Lib.hid hd
  clear hA hd
  go_enter Try.func89, Try.ntmps89
  go_wp2_with fail
  go_loopw [5] (fun i wr => ∃ j : Nat, j ≤ ds.length ∧ i = .int .i64 j ∧ Hid (Below w.heap.size w wr)) (fun i _ => ds.length - (intOf i).toNat)
  case atStart => exact ⟨0, Nat.zero_le _, rfl, Below.refl _ _⟩
  case round =>
    obtain ⟨j, hj, rfl, HB⟩ := hrel
    by_cases hlt : j < ds.length
    · have hdd : decide (j < ds.length) = true := by simpa using hlt
      obtain ⟨y, hy⟩ : ∃ y, ds[j]? = some y := ⟨_, List.getElem?_eq_getElem hlt⟩
      obtain ⟨h0, h1, h2⟩ := HD.out y (List.mem_of_getElem? hy)
      have KV := xvalid4 y n h0 h1 h2 hn
      obtain ⟨b, o, hb, rfl, k0⟩ := HA.out _ _ (ints_get _ _ _ hy)
      have c0 := below_cell HB.out (show b < w.heap.size by omega) k0
      clear hy k0 h0
      go_wp2_with fail
      refine (KV _).mono ?_
      rintro r1 w1 ⟨rfl, hB1⟩
      have HB1 := Lib.hid (HB.out.trans (hB1.mono HB.out.size))
      clear hB1 c0 HB
      go_wp2_with fail
      go_roundw
      case rel => exact ⟨j + 1, by omega, by go_num, HB1⟩
      case measure => simp [intOf]; omega
    · obtain rfl : j = ds.length := by omega
      have hdd : decide (ds.length < ds.length) = false := by simp
      go_wp2_with fail
      go_ret
      exact ⟨rfl, HB.out⟩

set_option maxHeartbeats 1600000 in
set_option maxRecDepth 100000 in
theorem xcheck5_law (n : Nat) (L : List (List Int)) (la : Option Addr) (lc : Nat) (hn : n ≤ 128) (hl : L.length ≤ 4096) (hL : ∀ c ∈ L, c.length ≤ 128 ∧ ∀ y ∈ c, y ≠ 0 ∧ -(n : Int) ≤ y ∧ y ≤ n) (w : World) (hA : IndAt w.heap.size w la L) :
    Calls Try.prog 55 #[.agg #[.int .i64 (n : Nat), .slice la L.length lc]] w fun e w' => e = .returned (.int .i64 0) ∧ Below w.heap.size w w' := by
  have HA := Lib.hid hA
  have HL := Lib.hid hL
  clear hA hL
  go_enter Try.func55, Try.ntmps55
  go_wp2_with fail
  refine wp_gen ?_
  intro w1 hw1
  have hB1 : Below w.heap.size w w1 := by rw [hw1]; exact below_one _ _
  have m2 : w1.heap[w.heap.size]? = some (.cells #[.int .i64 (n : Nat), .slice la L.length lc] 43 (0, 0)) := by rw [hw1]; exact new_one _ _
  have hl2 := lt_of_heap m2
  have C20 := Lib.hid (blk_cell m2 0 rfl)
  have C21 := Lib.hid (blk_cell m2 1 rfl)
  have HB1 := Lib.hid hB1
  clear hw1 m2 hB1
  go_loopw [3] (fun i wr => ∃ j : Nat, j ≤ L.length ∧ i = .int .i64 j ∧ Hid (Below w1.heap.size w1 wr)) (fun i _ => L.length - (intOf i).toNat)
  case atStart => exact ⟨0, Nat.zero_le _, rfl, Below.refl _ _⟩
  case round =>
    obtain ⟨j, hj, rfl, HB⟩ := hrel
    have d21 := below_cell HB.out hl2 C21.out
    by_cases hlt : j < L.length
    · have hd : decide (j < L.length) = true := by simpa using hlt
      obtain ⟨cl, hcl⟩ : ∃ cl, L[j]? = some cl := ⟨_, List.getElem?_eq_getElem hlt⟩
      obtain ⟨hcl1, hcl2⟩ := HL.out cl (List.mem_of_getElem? hcl)
      have HC2 := Lib.hid hcl2
      obtain ⟨b1, o1, pa1, pc1, hb1, rfl, k1, hx1⟩ := HA.out j cl hcl
      have K1 := Lib.hid k1
      have HX1 := Lib.hid hx1
      have d1 := below_cell (HB1.out.trans (HB.out.mono HB1.out.size)) hb1 k1
      clear hcl k1 hx1 hcl2
      go_wp2_with fail
      obtain ⟨w5, rfl⟩ : ∃ w5, w5 = wr := ⟨_, rfl⟩
      go_loopw [4] (fun i wr => ∃ k : Nat, k ≤ cl.length ∧ i = .int .i64 k ∧ Hid (Below w1.heap.size w1 wr)) (fun i _ => cl.length - (intOf i).toNat)
      case atStart => exact ⟨0, Nat.zero_le _, rfl, HB.out⟩
      case round =>
        obtain ⟨k, hk, rfl, HB5⟩ := hrel
        clear d21 d1
        have d21 := below_cell HB5.out hl2 C21.out
        have HBW := Lib.hid (HB1.out.trans (HB5.out.mono HB1.out.size))
        have d1 := below_cell HBW.out hb1 K1.out
        by_cases hkl : k < cl.length
        · have hdk : decide (k < cl.length) = true := by simpa using hkl
          obtain ⟨y, hy⟩ : ∃ y, cl[k]? = some y := ⟨_, List.getElem?_eq_getElem hkl⟩
          obtain ⟨h0, h1, h2⟩ := HC2.out y (List.mem_of_getElem? hy)
          have KV := xvalid5 y n h0 h1 h2 (by omega)
          obtain ⟨b, o, hb, rfl, k0⟩ := HX1.out _ _ (ints_get _ _ _ hy)
          have K0 := Lib.hid k0
          clear hy k0 h0 h1 h2
          go_wp2_with fail
          clear d21 d1
          refine wp_game [0, 0, 0, 0, 0, 0, 0, 0, 0, 0, 0, 0] [] B0 fin_B0 (has_B0 _) (by kernel_rfl) (by kernel_rfl) ?_
          refine lex_quietE 12 (by kernel_rfl) (by rfl) ?_
          apply Exists.intro
          refine ⟨fun z hz => ?_, ?_⟩
          · have hwz := HB5.out.trans (hz.below_of (b := w1.heap.size) (by simp) HB5.out.size)
            have hww := HB1.out.trans (hwz.mono HB1.out.size)
            have g0 := below_cellp hwz C20.out hl2
            have g1 := below_cellp hwz C21.out hl2
            have g2 := below_cellp hww K1.out hb1
            have g3 := below_cellp hww K0.out hb
            clear hz hwz hww
            simp only [List.take_succ_cons, List.take_zero]
            unfold Cx
            repeat (go_big_quiet_step (with_reducible exact KV.at _ _))
            exact wpQuiet_nil rfl
          simp only [List.drop_succ_cons, List.drop_zero]
          refine lex_nil ?_
          intro x7 hx7 _
          have HB7 := Lib.hid (HB5.out.trans (hx7.below_of (b := w1.heap.size) (by simp) HB5.out.size))
          clear hx7 HB5 HBW
          go_wp2_with fail
          go_roundw
          case rel => exact ⟨k + 1, by omega, by go_num, HB7⟩
          case measure => simp [intOf]; omega
        · obtain rfl : k = cl.length := by omega
          have hdk : decide (cl.length < cl.length) = false := by simp
          go_wp2_with fail
          go_roundw
          case rel => exact ⟨j + 1, by omega, by go_num, HB5⟩
          case measure => simp [intOf]; omega
    · obtain rfl : j = L.length := by omega
      have hd : decide (L.length < L.length) = false := by simp
      go_wp2_with fail
      go_ret
      exact ⟨rfl, HB1.out.trans (HB.out.mono HB1.out.size)⟩

set_option maxHeartbeats 1600000 in
set_option maxRecDepth 100000 in
theorem xhas_law (N : Nat) (ys : List Int) (a : Option Addr) (c : Nat) (x : Int) (hl : ys.length ≤ 100000) (w : World) (hA : AtN N w a (ints ys)) (hw : N ≤ w.heap.size) :
    Calls Try.prog 93 #[.slice a ys.length c, .int .i64 x] w fun e w' => e = .returned (.bool (decide (x ∈ ys))) ∧ Below w.heap.size w w' := by
  have HA := Lib.hid hA
  clear hA
  go_enter Try.func93, Try.ntmps93
  go_wp2_with fail
  go_loopw [5] (fun i wr => ∃ j : Nat, j ≤ ys.length ∧ i = .int .i64 j ∧ Hid (x ∉ ys.take j) ∧ Hid (Below w.heap.size w wr)) (fun i _ => ys.length - (intOf i).toNat)
  case atStart => exact ⟨0, Nat.zero_le _, rfl, by simp [Hid], Below.refl _ _⟩
  case round =>
    obtain ⟨j, hj, rfl, HX, HB⟩ := hrel
    by_cases hlt : j < ys.length
    · have hd : decide (j < ys.length) = true := by simpa using hlt
      obtain ⟨t, ht⟩ : ∃ t, ys[j]? = some t := ⟨_, List.getElem?_eq_getElem hlt⟩
      obtain ⟨b, o, hb, rfl, k0⟩ := HA.out _ _ (ints_get _ _ _ ht)
      have c0 := below_cell HB.out (show b < w.heap.size by omega) k0
      by_cases he : t = x
      · have HM := Lib.hid (show decide (x ∈ ys) = true from decide_eq_true (he ▸ List.mem_of_getElem? ht))
        have hq : (t == x) = true := by simp [he]
        clear ht k0
        go_wp2_with fail
        go_ret
        exact ⟨by rw [HM.out]; rfl, HB.out⟩
      · have hq : (t == x) = false := beq_no he
        have HX2 := Lib.hid (show x ∉ ys.take (j + 1) from fun hm => ((mem_take_succ ht).1 hm).elim HX.out (fun e => he e.symm))
        clear ht k0
        go_wp2_with fail
        go_roundw
        case rel => exact ⟨j + 1, by omega, by go_num, HX2.out, HB.out⟩
        case measure => simp [intOf]; omega
    · obtain rfl : j = ys.length := by omega
      have hd : decide (ys.length < ys.length) = false := by simp
      have HM := Lib.hid (show decide (x ∈ ys) = false from decide_eq_false (by
        have := HX.out
        rwa [List.take_length] at this))
      go_wp2_with fail
      go_ret
      exact ⟨by rw [HM.out]; rfl, HB.out⟩

def orderF (ys : List Int) (n : Nat) : List Int := (List.range n).flatMap fun v => (if -((v + 1 : Nat) : Int) ∈ ys then [-((v + 1 : Nat) : Int)] else []) ++ (if ((v + 1 : Nat) : Int) ∈ ys then [((v + 1 : Nat) : Int)] else [])
theorem orderF_succ (ys : List Int) (n : Nat) : orderF ys (n + 1) = (orderF ys n ++ (if -((n + 1 : Nat) : Int) ∈ ys then [-((n + 1 : Nat) : Int)] else [])) ++ (if ((n + 1 : Nat) : Int) ∈ ys then [((n + 1 : Nat) : Int)] else []) := by
  unfold orderF
  rw [List.range_succ, List.flatMap_append]
  simp
theorem orderF_len (ys : List Int) : ∀ n, (orderF ys n).length ≤ 2 * n
  | 0 => by simp [orderF]
  | n + 1 => by
    have := orderF_len ys n
    rw [orderF_succ, List.length_append, List.length_append]
    split <;> split <;> simp <;> omega
end Go.Proofs.Ytbacloneddnaeaa

/- Sets, and evaluation of a theory. -/
namespace Go.Proofs.Ytbacloneddnaeaa
open Go.RowKit Go.Shelf Num

theorem tb_eq (a u : Nat) : (((a : Int) / 2 ^ u).tmod 2 == 1) = a.testBit u := by
  have e : (a : Int) / 2 ^ u = ((a / 2 ^ u : Nat) : Int) := by rw [Int.natCast_ediv]; simp
  rw [e, Int.tmod_eq_emod_of_nonneg (Int.natCast_nonneg _), Nat.testBit_eq_decide_div_mod_eq]
  generalize a / 2 ^ u = q
  by_cases h : q % 2 = 1
  · rw [decide_eq_true h, beq_iff_eq]; omega
  · rw [decide_eq_false h]
    exact beq_no (by omega)

def bitS (a0 a1 : Nat) (v : Int) : Bool := if v ≤ 64 then a0.testBit (v - 1).toNat else a1.testBit (v - 65).toNat
section
variable (a0 a1 : Nat)
set_option maxHeartbeats 1600000 in
set_option maxRecDepth 100000 in
theorem gIn4 (v : Int) (h1 : 1 ≤ v) (h2 : v ≤ 128) : Gives 54 #[.agg #[.int .u64 (a0 : Nat), .int .u64 (a1 : Nat)], .int .i64 v] (.bool (bitS a0 a1 v)) := by
  intro w
  by_cases h : v ≤ 64
  · obtain ⟨u, rfl⟩ : ∃ u : Nat, v = ((u + 1 : Nat) : Int) := ⟨(v - 1).toNat, by omega⟩
    have e1 : ((u + 1 : Nat) : Int) - 1 = (u : Int) := by omega
    have e2 : (u : Int) / 64 = 0 := by omega
    have hu : u < 64 := by omega
    have hum : u % 64 = u := Nat.mod_eq_of_lt hu
    have HQ := Lib.hid (show bitS a0 a1 ((u + 1 : Nat) : Int) = (((a0 : Int) / 2 ^ u).tmod 2 == 1) by
      unfold bitS; rw [if_pos h, e1, Int.toNat_natCast, tb_eq])
    clear h1 h2 h
    go_enter Try.func54, Try.ntmps54
    go_wp2_with fail
    go_ret
    exact ⟨by rw [HQ.out]; rfl, below_one _ _⟩
  · obtain ⟨u, rfl⟩ : ∃ u : Nat, v = ((u + 65 : Nat) : Int) := ⟨(v - 65).toNat, by omega⟩
    have hu : u < 64 := by omega
    have hum : u % 64 = u := Nat.mod_eq_of_lt hu
    have HQ := Lib.hid (show bitS a0 a1 ((u + 65 : Nat) : Int) = (((a1 : Int) / 2 ^ u).tmod 2 == 1) by
      unfold bitS; rw [if_neg h, show (((u + 65 : Nat) : Int) - 65) = (u : Int) by omega, Int.toNat_natCast, tb_eq])
    have e2 : ((u : Int) + 65 - 1) / 64 = 1 := by omega
    clear h1 h2 h
    go_enter Try.func54, Try.ntmps54
    go_wp2_with fail
    go_ret
    refine ⟨?_, below_one _ _⟩
    rw [HQ.out]
    rfl

set_option maxHeartbeats 1600000 in
set_option maxRecDepth 100000 in
theorem gHolds4 (v : Int) (h1 : 1 ≤ v) (h2 : v ≤ 128) : Gives 22 #[.agg #[.int .u64 (a0 : Nat), .int .u64 (a1 : Nat)], .int .i64 v] (.bool (bitS a0 a1 v)) := by
  intro w
  have KV := xvar4 v (by omega) (by omega) h2
  rw [if_pos (show 0 < v by omega)] at KV
  have KI := gIn4 a0 a1 v h1 h2
  generalize bitS a0 a1 v = q at *
  go_enter Try.func22, Try.ntmps22
  go_wp2_with fail
  refine calls_gen fun w1 hw1 => ?_
  have hB1 : Below w.heap.size w w1 := by rw [hw1]; exact below_one _ _
  have m2 : w1.heap[w.heap.size]? = some (.cells #[.int .u64 (a0 : Nat), .int .u64 (a1 : Nat)] 60 (0, 0)) := by rw [hw1]; exact new_one _ _
  clear hw1
  refine (KV _).mono ?_
  rintro r2 w2 ⟨rfl, hB2⟩
  have m22 := (behind_of_below hB2).keep m2 (by simp)
  have c0 := blk_cell m22 0 rfl
  have c1 := blk_cell m22 1 rfl
  have HB2 := Lib.hid (hB1.trans (hB2.mono hB1.size))
  clear hB1 m2 hB2 m22
  go_wp2_with fail
  refine (KI _).mono ?_
  rintro r3 w3 ⟨rfl, hB3⟩
  have HB3 := Lib.hid (HB2.out.trans (hB3.mono HB2.out.size))
  have hv : decide (0 < v) = true := by simp; omega
  clear hB3 c0 c1 HB2
  cases q with
  | true =>
    go_wp2_with fail
    go_ret
    exact ⟨rfl, HB3.out⟩
  | false =>
    go_wp2_with fail
    go_ret
    exact ⟨rfl, HB3.out⟩

set_option maxHeartbeats 400000 in
set_option maxRecDepth 100000 in
theorem gHas5 (v : Int) (h1 : 1 ≤ v) (h2 : v ≤ 128) : Gives 88 #[.agg #[.int .u64 (a0 : Nat), .int .u64 (a1 : Nat)], .int .i64 v] (.bool (bitS a0 a1 v)) := by
  intro w
  by_cases h : v ≤ 64
  · obtain ⟨u, rfl⟩ : ∃ u : Nat, v = ((u + 1 : Nat) : Int) := ⟨(v - 1).toNat, by omega⟩
    have e1 : ((u + 1 : Nat) : Int) - 1 = (u : Int) := by omega
    have e2 : (u : Int) / 64 = 0 := by omega
    have hu : u < 64 := by omega
    have hum : u % 64 = u := Nat.mod_eq_of_lt hu
    have HQ := Lib.hid (show bitS a0 a1 ((u + 1 : Nat) : Int) = (((a0 : Int) / 2 ^ u).tmod 2 == 1) by
      unfold bitS; rw [if_pos h, e1, Int.toNat_natCast, tb_eq])
    clear h
    go_enter Try.func88, Try.ntmps88
    go_wp2_with fail
    go_ret
    exact ⟨by rw [HQ.out]; rfl, below_one _ _⟩
  · obtain ⟨u, hu1⟩ : ∃ u : Nat, v = (u : Int) + 65 := ⟨(v - 65).toNat, by omega⟩
    have hu : u < 64 := by omega
    have hum : u % 64 = u := Nat.mod_eq_of_lt hu
    have HQ := Lib.hid (show bitS a0 a1 v = (((a1 : Int) / 2 ^ u).tmod 2 == 1) by
      unfold bitS; rw [if_neg h, show v - 65 = (u : Int) by omega, Int.toNat_natCast, tb_eq])
    have e2 : (v - 1) / 64 = 1 := by omega
    have e3 : (v - 1) % 64 = (u : Int) := by omega
    clear h hu1
    go_enter Try.func88, Try.ntmps88
    go_wp2_with fail
    go_ret
    refine ⟨?_, below_one _ _⟩
    rw [HQ.out]
    rfl

set_option maxHeartbeats 1600000 in
set_option maxRecDepth 100000 in
theorem gHolds5 (y : Int) (h0 : y ≠ 0) (h1 : -128 ≤ y) (h2 : y ≤ 128) : Gives 57 #[.agg #[.int .u64 (a0 : Nat), .int .u64 (a1 : Nat)], .int .i64 y] (.bool (litB (bitS a0 a1) y)) := by
  intro w
  by_cases hp : 0 < y
  · have KI := gHas5 a0 a1 y hp h2
    have HQ := Lib.hid (show litB (bitS a0 a1) y = bitS a0 a1 y from if_pos hp)
    generalize bitS a0 a1 y = q at *
    go_enter Try.func57, Try.ntmps57
    go_wp2_with fail
    refine (KI _).mono ?_
    rintro r3 w3 ⟨rfl, hB3⟩
    have HB3 := Lib.hid ((below_one w _).trans (hB3.mono (by simp)))
    clear hB3
    go_wp2_with fail
    go_ret
    exact ⟨by rw [HQ.out]; rfl, HB3.out⟩
  · have hn : y < 0 := by omega
    have KI := gHas5 a0 a1 (-y) (by omega) (by omega)
    have HQ := Lib.hid (show litB (bitS a0 a1) y = !bitS a0 a1 (-y) from if_neg hp)
    generalize bitS a0 a1 (-y) = q at *
    go_enter Try.func57, Try.ntmps57
    go_wp2_with fail
    refine (KI _).mono ?_
    rintro r3 w3 ⟨rfl, hB3⟩
    have HB3 := Lib.hid ((below_one w _).trans (hB3.mono (by simp)))
    clear hB3
    go_wp2_with fail
    go_ret
    exact ⟨by rw [HQ.out]; rfl, HB3.out⟩

def assignB (a0 a1 n : Nat) : Bool := (List.range 128).all fun v => decide (v < n) || !bitS a0 a1 ((v + 1 : Nat) : Int)
theorem assignB_iff {n : Nat} : assignB a0 a1 n = true ↔ ∀ v : Nat, n ≤ v → v < 128 → bitS a0 a1 ((v + 1 : Nat) : Int) = false := by
  unfold assignB
  simp only [List.all_eq_true, List.mem_range, Bool.or_eq_true, decide_eq_true_eq, Bool.not_eq_true']
  constructor
  · intro h v h1 h2
    exact (h v h2).resolve_left (by omega)
  · intro h v h2
    by_cases h1 : v < n
    · exact .inl h1
    · exact .inr (h v (by omega) h2)

set_option maxHeartbeats 1600000 in
set_option maxRecDepth 100000 in
theorem gAssign (n : Nat) (hn : n ≤ 128) : Gives 56 #[.agg #[.int .u64 (a0 : Nat), .int .u64 (a1 : Nat)], .int .i64 (n : Nat)] (.bool (assignB a0 a1 n)) := by
  intro w
  go_enter Try.func56, Try.ntmps56
  go_wp2_with fail
  refine wp_gen ?_
  intro w1 hw1
  have hB1 : Below w.heap.size w w1 := by rw [hw1]; exact below_one _ _
  have m2 : w1.heap[w.heap.size]? = some (.cells #[.int .u64 (a0 : Nat), .int .u64 (a1 : Nat)] 60 (0, 0)) := by rw [hw1]; exact new_one _ _
  have M2 := Lib.hid m2
  have HB1 := Lib.hid hB1
  clear hw1 m2 hB1
  go_loopw [5] (fun t5 wr => ∃ v : Nat, n ≤ v ∧ v ≤ 128 ∧ t5 = .int .i64 ((v : Int) + 1) ∧ Hid (∀ u : Nat, n ≤ u → u < v → bitS a0 a1 ((u + 1 : Nat) : Int) = false) ∧ Hid (Below w1.heap.size w1 wr)) (fun t5 _ => 129 - (intOf t5).toNat)
  case atStart => exact ⟨n, Nat.le_refl _, hn, rfl, fun u h1 h2 => by omega, Below.refl _ _⟩
  case round =>
    obtain ⟨v, hv1, hv2, rfl, HO, HB⟩ := hrel
    by_cases hlt : v < 128
    · have hd : decide ((v : Int) + 1 ≤ 128) = true := by simp; omega
      have KI := gHas5 a0 a1 ((v : Int) + 1) (by omega) (by omega)
      have m3 := (behind_of_below HB.out).keep M2.out (by simp)
      have c0 := blk_cell m3 0 rfl
      have c1 := blk_cell m3 1 rfl
      clear m3
      go_wp2_with fail
      refine (KI _).mono ?_
      rintro r3 w3 ⟨rfl, hB3⟩
      have HB3 := Lib.hid (HB.out.trans (hB3.mono HB.out.size))
      clear hB3 c0 c1 HB KI
      cases hq : bitS a0 a1 ((v : Int) + 1) with
      | true =>
        have HF := Lib.hid (show assignB a0 a1 n = false by
          cases h : assignB a0 a1 n with
          | false => rfl
          | true =>
            have := (assignB_iff a0 a1).1 h v hv1 hlt
            rw [show ((v + 1 : Nat) : Int) = (v : Int) + 1 by omega, hq] at this
            cases this)
        clear hq
        go_wp2_with fail
        go_ret
        exact ⟨by rw [HF.out]; rfl, HB1.out.trans (HB3.out.mono HB1.out.size)⟩
      | false =>
        have HO2 := Lib.hid (show ∀ u : Nat, n ≤ u → u < v + 1 → bitS a0 a1 ((u + 1 : Nat) : Int) = false from fun u h1 h2 => by
          rcases Nat.lt_or_ge u v with h | h
          · exact HO.out u h1 h
          · obtain rfl : u = v := by omega
            rw [show ((u + 1 : Nat) : Int) = (u : Int) + 1 by omega, hq])
        clear hq
        go_wp2_with fail
        go_roundw
        case rel => exact ⟨v + 1, by omega, by omega, by go_num, HO2, HB3⟩
        case measure => simp [intOf]; omega
    · obtain rfl : v = 128 := by omega
      have hd : decide (((128 : Nat) : Int) + 1 ≤ 128) = false := by decide
      have HT := Lib.hid (show assignB a0 a1 n = true from (assignB_iff a0 a1).2 fun u h1 h2 => HO.out u h1 h2)
      go_wp2_with fail
      go_ret
      exact ⟨by rw [HT.out]; rfl, HB1.out.trans (HB.out.mono HB1.out.size)⟩
end

def evalB (a0 a1 n : Nat) (L : List (List Int)) : Bool := assignB a0 a1 n && L.all fun c => c.any (litB (bitS a0 a1))
end Go.Proofs.Ytbacloneddnaeaa

/- censusref05.Eval. -/
namespace Go.Proofs.Ytbacloneddnaeaa
open Go.RowKit Go.Shelf Num

theorem any_take {p : Int → Bool} {c : List Int} {k : Nat} {y : Int} (h : c[k]? = some y) : (c.take (k + 1)).any p = ((c.take k).any p || p y) := by
  rw [take_snoc_of h, List.any_append]; simp

set_option maxHeartbeats 3200000 in
set_option maxRecDepth 100000 in
theorem xeval_law (a0 a1 n : Nat) (L : List (List Int)) (la : Option Addr) (lc : Nat) (hn : n ≤ 128) (hl : L.length ≤ 4096) (hL : ∀ c ∈ L, c.length ≤ 128 ∧ ∀ y ∈ c, y ≠ 0 ∧ -(n : Int) ≤ y ∧ y ≤ n) (w : World) (hA : IndAt w.heap.size w la L) :
    Calls Try.prog 23 #[.agg #[.int .i64 (n : Nat), .slice la L.length lc], .agg #[.int .u64 (a0 : Nat), .int .u64 (a1 : Nat)]] w fun e w' => e = .returned (.bool (evalB a0 a1 n L)) ∧ Below w.heap.size w w' := by
  have HA0 := Lib.hid hA
  have HL := Lib.hid hL
  clear hA hL
  go_enter Try.func23, Try.ntmps23
  go_wp2_with fail
  refine calls_gen fun w1 hw1 => ?_
  have hB1 : Below w.heap.size w w1 := by rw [hw1]; exact below_two _ _ _
  have m2 : w1.heap[w.heap.size]? = some (.cells #[.int .i64 (n : Nat), .slice la L.length lc] 43 (0, 0)) := by rw [hw1]; exact new_two1 _ _ _
  have m3 : w1.heap[w.heap.size + 1]? = some (.cells #[.int .u64 (a0 : Nat), .int .u64 (a1 : Nat)] 60 (0, 0)) := by rw [hw1]; exact new_two2 _ _ _
  have hl2 := lt_of_heap m2
  have hl3 := lt_of_heap m3
  have C20 := Lib.hid (blk_cell m2 0 rfl)
  have C21 := Lib.hid (blk_cell m2 1 rfl)
  have C30 := Lib.hid (blk_cell m3 0 rfl)
  have C31 := Lib.hid (blk_cell m3 1 rfl)
  have HB1 := Lib.hid hB1
  have HA := Lib.hid ((HA0.out.below hB1 (Nat.le_refl _)).mono hB1.size)
  clear hw1 m2 m3 hB1 HA0
  refine (xcheck5_law n L la lc hn hl HL.out w1 HA.out).mono ?_
  rintro r2 w2 ⟨rfl, hB2⟩
  have c20 := below_cell hB2 hl2 C20.out
  have c30 := below_cell hB2 hl3 C30.out
  have c31 := below_cell hB2 hl3 C31.out
  have HB2 := Lib.hid hB2
  clear hB2
  go_wp2_with fail
  refine (gAssign a0 a1 n hn _).mono ?_
  rintro r3 w3 ⟨rfl, hB3⟩
  have HB3 := Lib.hid (HB2.out.trans (hB3.mono HB2.out.size))
  clear hB3 c20 c30 c31 HB2
  cases has : assignB a0 a1 n with
  | false =>
    have HE := Lib.hid (show evalB a0 a1 n L = false by unfold evalB; rw [has]; rfl)
    clear has
    go_wp2_with fail
    go_ret
    exact ⟨by rw [HE.out]; rfl, HB1.out.trans (HB3.out.mono HB1.out.size)⟩
  | true =>
    have HE := Lib.hid (show evalB a0 a1 n L = L.all fun c => c.any (litB (bitS a0 a1)) by unfold evalB; rw [has]; rfl)
    clear has
    go_wp2_with fail
    go_loopw [5] (fun i wr => ∃ j : Nat, j ≤ L.length ∧ i = .int .i64 j ∧ Hid (∀ c ∈ L.take j, c.any (litB (bitS a0 a1)) = true) ∧ Hid (Below w1.heap.size w1 wr)) (fun i _ => L.length - (intOf i).toNat)
    case atStart => exact ⟨0, Nat.zero_le _, rfl, by simp [Hid], HB3.out⟩
    case round =>
      obtain ⟨j, hj, rfl, HX, HB⟩ := hrel
      have d21 := below_cell HB.out hl2 C21.out
      by_cases hlt : j < L.length
      · have hd : decide (j < L.length) = true := by simpa using hlt
        obtain ⟨cl, hcl⟩ : ∃ cl, L[j]? = some cl := ⟨_, List.getElem?_eq_getElem hlt⟩
        obtain ⟨hcl1, hcl2⟩ := HL.out cl (List.mem_of_getElem? hcl)
        have HC2 := Lib.hid hcl2
        obtain ⟨b1, o1, pa1, pc1, hb1, rfl, k1, hx1⟩ := HA.out j cl hcl
        have K1 := Lib.hid k1
        have HX1 := Lib.hid hx1
        have HCL := Lib.hid hcl
        clear hcl k1 hx1 hcl2
        go_wp2_with fail
        obtain ⟨w5, rfl⟩ : ∃ w5, w5 = wr := ⟨_, rfl⟩
        go_loopw [6, 7] (fun is i wr => ∃ k : Nat, k ≤ cl.length ∧ i = .int .i64 k ∧ is = .bool ((cl.take k).any (litB (bitS a0 a1))) ∧ Hid (Below w1.heap.size w1 wr)) (fun _ i _ => cl.length - (intOf i).toNat)
        case atStart => exact ⟨0, Nat.zero_le _, rfl, by simp, HB.out⟩
        case round =>
          obtain ⟨k, hk, rfl, rfl, HB5⟩ := hrel
          clear d21
          have d21 := below_cell HB5.out hl2 C21.out
          have d1 := below_cell HB5.out hb1 K1.out
          by_cases hkl : k < cl.length
          · have hdk : decide (k < cl.length) = true := by simpa using hkl
            obtain ⟨y, hy⟩ : ∃ y, cl[k]? = some y := ⟨_, List.getElem?_eq_getElem hkl⟩
            obtain ⟨h0, h1, h2⟩ := HC2.out y (List.mem_of_getElem? hy)
            have KV := gHolds5 a0 a1 y h0 (by omega) (by omega)
            obtain ⟨b, o, hb, rfl, k0⟩ := HX1.out _ _ (ints_get _ _ _ hy)
            have K0 := Lib.hid k0
            have HAT := Lib.hid (any_take (p := litB (bitS a0 a1)) hy)
            clear hy k0 h0 h1 h2
            generalize hq : litB (bitS a0 a1) y = q at *
            clear hq
            cases hp : (cl.take k).any (litB (bitS a0 a1)) with
            | true =>
              rw [hp, Bool.true_or] at HAT
              clear hp KV
              go_wp2_with fail
              clear d21 d1
              refine wp_game [0, 0, 0, 0, 0, 0, 0, 0, 0, 0, 0, 0, 0, 0] [] B0 fin_B0 (has_B0 _) (by kernel_rfl) (by kernel_rfl) ?_
              refine lex_quietE 14 (by kernel_rfl) (by rfl) ?_
              apply Exists.intro
              refine ⟨fun z hz => ?_, ?_⟩
              · clear hz
                simp only [List.take_succ_cons, List.take_zero]
                unfold Cx
                repeat (go_big_quiet_step (fail))
                exact wpQuiet_nil rfl
              simp only [List.drop_succ_cons, List.drop_zero]
              refine lex_nil ?_
              intro x7 hx7 _
              have HB7 := Lib.hid (HB5.out.trans (hx7.below_of (b := w1.heap.size) (by simp) HB5.out.size))
              clear hx7 HB5
              go_wp2_with fail
              go_roundw
              case rel => exact ⟨k + 1, by omega, by go_num, by rw [HAT.out], HB7⟩
              case measure => simp [intOf]; omega
            | false =>
              rw [hp, Bool.false_or] at HAT
              clear hp
              go_wp2_with fail
              clear d21 d1
              refine wp_game [0, 0, 0, 0, 0, 0, 0, 0, 0, 0, 0, 0, 0, 0] [] B0 fin_B0 (has_B0 _) (by kernel_rfl) (by kernel_rfl) ?_
              refine lex_quietE 14 (by kernel_rfl) (by rfl) ?_
              apply Exists.intro
              refine ⟨fun z hz => ?_, ?_⟩
              · have hwz := HB5.out.trans (hz.below_of (b := w1.heap.size) (by simp) HB5.out.size)
                have g0 := below_cellp hwz C21.out hl2
                have g1 := below_cellp hwz K1.out hb1
                have g2 := below_cellp hwz K0.out hb
                have g3 := below_cellp hwz C30.out hl3
                have g4 := below_cellp hwz C31.out hl3
                clear hz hwz
                simp only [List.take_succ_cons, List.take_zero]
                unfold Cx
                repeat (go_big_quiet_step (with_reducible exact KV.at _ _))
                exact wpQuiet_nil rfl
              simp only [List.drop_succ_cons, List.drop_zero]
              refine lex_nil ?_
              intro x7 hx7 _
              have HB7 := Lib.hid (HB5.out.trans (hx7.below_of (b := w1.heap.size) (by simp) HB5.out.size))
              clear hx7 HB5 KV
              go_wp2_with fail
              go_roundw
              case rel => exact ⟨k + 1, by omega, by go_num, by rw [HAT.out], HB7⟩
              case measure => simp [intOf]; omega
          · obtain rfl : k = cl.length := by omega
            have hdk : decide (cl.length < cl.length) = false := by simp
            rw [List.take_length]
            cases hp : cl.any (litB (bitS a0 a1)) with
            | true =>
              have HX2 := Lib.hid (show ∀ z ∈ L.take (j + 1), z.any (litB (bitS a0 a1)) = true from fun z hz => by
                rw [take_snoc_of HCL.out, List.mem_append, List.mem_singleton] at hz
                rcases hz with hz | rfl
                · exact HX.out z hz
                · exact hp)
              clear hp
              go_wp2_with fail
              go_roundw
              case rel => exact ⟨j + 1, by omega, by go_num, HX2.out, HB5.out⟩
              case measure => simp [intOf]; omega
            | false =>
              have HF := Lib.hid (show evalB a0 a1 n L = false by
                rw [HE.out]
                cases h : L.all fun c => c.any (litB (bitS a0 a1)) with
                | false => rfl
                | true =>
                  have := List.all_eq_true.1 h cl (List.mem_of_getElem? HCL.out)
                  rw [hp] at this; cases this)
              clear hp
              go_wp2_with fail
              go_ret
              exact ⟨by rw [HF.out]; rfl, HB1.out.trans (HB5.out.mono HB1.out.size)⟩
      · obtain rfl : j = L.length := by omega
        have hd : decide (L.length < L.length) = false := by simp
        have HT := Lib.hid (show evalB a0 a1 n L = true by
          rw [HE.out, List.all_eq_true]
          have := HX.out
          rwa [List.take_length] at this)
        go_wp2_with fail
        go_ret
        exact ⟨by rw [HT.out]; rfl, HB1.out.trans (HB.out.mono HB1.out.size)⟩
end Go.Proofs.Ytbacloneddnaeaa

/- first, propagate, Trail. -/
namespace Go.Proofs.Ytbacloneddnaeaa
open Go.RowKit Go.Shelf Num

theorem Try.infoStep : (Try.prog.info? 109).map (fun i => (i.zero, i.size, i.bytes)) = some (some (.agg #[.int .i64 0, .int .i64 0, .int .i64 0]), 3, 24) := by kernel_rfl

theorem rowv_at {w : World} {E : TypeId} {size : Nat} {v : Value} {n : Nat} {xs : List Value} (h : RowV (inW w) E size v n xs) : ∃ a c, v = .slice a n c ∧ AtN w.heap.size w a xs := by
  obtain ⟨a, c, h1, h2, _⟩ := OutN.row (M := []) h (by simp)
  exact ⟨a, c, h1, fun i v hi => by
    obtain ⟨g, o, _, e, k⟩ := h2 i v hi
    exact ⟨g, o, block_lt_of_cell k, e, k⟩⟩

def FirstP (S : List Int) (L : List (List Int)) (r : Int) : Prop := (r = -1 ∧ Stuck S L) ∨ ∃ (i : Nat) (c : List Int), r = i ∧ L[i]? = some c ∧ badB S c = true

set_option maxHeartbeats 1600000 in
set_option maxRecDepth 100000 in
theorem xfirst_law (N : Nat) (T : List (Int × Int × Int)) (a la : Option Addr) (c lc : Nat) (n : Int) (L : List (List Int)) (hLv : ∀ c ∈ L, c.length ≤ 1000 ∧ ∀ y ∈ c, -1000 ≤ y ∧ y ≤ 1000) (hLl : L.length ≤ 100000) (hl : T.length ≤ 100000) (w : World) (hT : AtN N w a (steps T)) (hL : IndAt N w la L) (hw : N ≤ w.heap.size) :
    Calls Try.prog 108 #[.agg #[.int .i64 n, .slice la L.length lc], .slice a T.length c] w fun e w' => ∃ r : Int, e = .returned (.int .i64 r) ∧ FirstP (litsOf T) L r ∧ Below w.heap.size w w' := by
  obtain ⟨R, hR⟩ : ∃ R : Ending → World → Prop, R = fun e w' => ∃ r : Int, e = .returned (.int .i64 r) ∧ FirstP (litsOf T) L r ∧ Below w.heap.size w w' := ⟨_, rfl⟩
  rw [← hR]
  have HR := Lib.hid hR
  have HT := Lib.hid (hT.mono hw)
  have HL := Lib.hid (hL.mono hw)
  have HV := Lib.hid hLv
  clear hR hT hL hw hLv
  go_enter Try.func108, Try.ntmps108
  go_wp2_with fail
  refine wp_gen ?_
  intro w1 hw1
  have hB1 : Below w.heap.size w w1 := by rw [hw1]; exact below_one _ _
  have m2 : w1.heap[w.heap.size]? = some (.cells #[.int .i64 n, .slice la L.length lc] 43 (0, 0)) := by rw [hw1]; exact new_one _ _
  have hl2 := lt_of_heap m2
  have C21 := Lib.hid (blk_cell m2 1 rfl)
  have HB1 := Lib.hid hB1
  clear hw1 m2 hB1
  go_loopw [5] (fun i wr => ∃ j : Nat, j ≤ L.length ∧ i = .int .i64 j ∧ Hid (∀ c ∈ L.take j, badB (litsOf T) c = false) ∧ Hid (Below w1.heap.size w1 wr)) (fun i _ => L.length - (intOf i).toNat)
  case atStart => exact ⟨0, Nat.zero_le _, rfl, by simp [Hid], Below.refl _ _⟩
  case round =>
    obtain ⟨j, hj, rfl, HX, HB⟩ := hrel
    have d21 := below_cell HB.out hl2 C21.out
    have HBW := Lib.hid (HB1.out.trans (HB.out.mono HB1.out.size))
    by_cases hlt : j < L.length
    · have hd : decide (j < L.length) = true := by simpa using hlt
      obtain ⟨cl, hcl⟩ : ∃ cl, L[j]? = some cl := ⟨_, List.getElem?_eq_getElem hlt⟩
      obtain ⟨hcl1, hcl2⟩ := HV.out cl (List.mem_of_getElem? hcl)
      have HC2 := Lib.hid hcl2
      obtain ⟨b1, o1, pa1, pc1, hb1, rfl, k1, hx1⟩ := HL.out j cl hcl
      have K1 := Lib.hid k1
      have HX1 := Lib.hid hx1
      have d1 := below_cell HBW.out hb1 k1
      have HCL := Lib.hid hcl
      clear hcl k1 hx1 hcl2
      go_wp2_with fail
      refine (xfalse_law w.heap.size T cl a pa1 c pc1 HC2.out hl (by omega) wr (HT.out.below HBW.out (Nat.le_refl _)) (HX1.out.below HBW.out (Nat.le_refl _)) HBW.out.size).mono ?_
      rintro r2 w2 ⟨rfl, hB2⟩
      have HB2 := Lib.hid (HB.out.trans (hB2.mono HB.out.size))
      clear hB2 d1 d21
      cases hf : falseB (litsOf T) cl with
      | true =>
        have HF := Lib.hid (show badB (litsOf T) cl = true by simp [badB, hf])
        clear hf
        go_wp2_with fail
        rw [HR.out]
        exact ⟨_, rfl, .inr ⟨j, cl, rfl, HCL.out, HF.out⟩, HB1.out.trans (HB2.out.mono HB1.out.size)⟩
      | false =>
        have HBW2 := Lib.hid (HB1.out.trans (HB2.out.mono HB1.out.size))
        have d21 := below_cell HB2.out hl2 C21.out
        have d1 := below_cell HBW2.out hb1 K1.out
        have HF := Lib.hid hf
        clear hf
        go_wp2_with fail
        refine (xunit_law w.heap.size T cl a pa1 c pc1 HC2.out hl (by omega) w2 (HT.out.below HBW2.out (Nat.le_refl _)) (HX1.out.below HBW2.out (Nat.le_refl _)) HBW2.out.size).mono ?_
        rintro r3 w3 ⟨rfl, hB3⟩
        have HB3 := Lib.hid (HB2.out.trans (hB3.mono HB2.out.size))
        have HBAD := Lib.hid (show badB (litsOf T) cl = decide (unitF (litsOf T) cl 0 ≠ 0) by simp [badB, HF.out])
        clear hB3 d1 d21
        generalize unitF (litsOf T) cl 0 = u at *
        by_cases hu : u = 0
        · subst hu
          have HX2 := Lib.hid (show ∀ z ∈ L.take (j + 1), badB (litsOf T) z = false from fun z hz => by
            rw [take_snoc_of HCL.out, List.mem_append, List.mem_singleton] at hz
            rcases hz with hz | rfl
            · exact HX.out z hz
            · rw [HBAD.out]; simp)
          go_wp2_with fail
          go_roundw
          case rel => exact ⟨j + 1, by omega, by go_num, HX2.out, HB3.out⟩
          case measure => simp [intOf]; omega
        · have hu1 : (u != 0) = true := by simp [bne, beq_no hu]
          have HF2 := Lib.hid (show badB (litsOf T) cl = true by rw [HBAD.out]; simpa using hu)
          go_wp2_with fail
          rw [HR.out]
          exact ⟨_, rfl, .inr ⟨j, cl, rfl, HCL.out, HF2.out⟩, HB1.out.trans (HB3.out.mono HB1.out.size)⟩
    · obtain rfl : j = L.length := by omega
      have hd : decide (L.length < L.length) = false := by simp
      have HS := Lib.hid (show Stuck (litsOf T) L from fun z hz => HX.out z (by rw [List.take_length]; exact hz))
      go_wp2_with fail
      rw [HR.out]
      exact ⟨_, rfl, .inl ⟨rfl, HS.out⟩, HBW.out⟩

set_option maxHeartbeats 3200000 in
set_option maxRecDepth 100000 in
theorem xprop_law {P : Int → Prop} {n : Nat} {L : List (List Int)} (hP : PCl P n L) (hn : n ≤ 128) (hLc : ∀ c ∈ L, c.length ≤ 1000) (hLl : L.length ≤ 100000) (N : Nat) (T0 : List (Int × Int × Int)) (v0 : Value) (lev : Int) (la : Option Addr) (lc : Nat) (hS : PInv P n (litsOf T0)) (w : World) (hT : RowV (inW w) 109 3 v0 T0.length (steps T0)) (hv : ∀ g ∈ rowBlk v0, N ≤ g) (hL : IndAt N w la L) (hw : N ≤ w.heap.size) :
    Calls Try.prog 90 #[.agg #[.int .i64 n, .slice la L.length lc], v0, .int .i64 lev] w fun e w' => ∃ v T, e = .returned (.tuple #[v, .int .i64 (-1)]) ∧ RowV (inW w') 109 3 v T.length (steps T) ∧ PInv P n (litsOf T) ∧ (∀ y ∈ litsOf T0, y ∈ litsOf T) ∧ Stuck (litsOf T) L ∧ (∀ g ∈ rowBlk v, g ∈ rowBlk v0 ∨ w.heap.size ≤ g) ∧ Behind w (rowBlk v0) w' := by
  obtain ⟨R, hR⟩ : ∃ R : Ending → World → Prop, R = fun e w' => ∃ v T, e = .returned (.tuple #[v, .int .i64 (-1)]) ∧ RowV (inW w') 109 3 v T.length (steps T) ∧ PInv P n (litsOf T) ∧ (∀ y ∈ litsOf T0, y ∈ litsOf T) ∧ Stuck (litsOf T) L ∧ (∀ g ∈ rowBlk v, g ∈ rowBlk v0 ∨ w.heap.size ≤ g) ∧ Behind w (rowBlk v0) w' := ⟨_, rfl⟩
  rw [← hR]
  have HR := Lib.hid hR
  have HLV := Lib.hid (show ∀ c ∈ L, c.length ≤ 1000 ∧ ∀ y ∈ c, -1000 ≤ y ∧ y ≤ 1000 from fun c hc => ⟨hLc c hc, fun y hy => by have := hP.val c hc y hy; omega⟩)
  have HP := Lib.hid hP
  have HS := Lib.hid hS
  have HT := Lib.hid hT
  have HL := Lib.hid hL
  have HVB := Lib.hid hv
  have hvlt := hT.lt
  have HVL := Lib.hid hvlt
  obtain ⟨a0, c0, rfl⟩ := hT.slice
  obtain ⟨r0, ri, rz0, rz1, rz2⟩ := info_parts Try.infoStep
  clear hR hP hS hT hL hv hvlt
  go_enter Try.func90, Try.ntmps90
  go_wp2_with fail
  refine wp_gen ?_
  intro w1 hw1
  have hB1 : Below w.heap.size w w1 := by rw [hw1]; exact below_one _ _
  have m2 : w1.heap[w.heap.size]? = some (.cells #[.int .i64 (n : Nat), .slice la L.length lc] 43 (0, 0)) := by rw [hw1]; exact new_one _ _
  have hl2 := lt_of_heap m2
  have HSZ1 := Lib.hid (show w1.heap.size = w.heap.size + 1 by rw [hw1]; simp)
  have M2 := Lib.hid m2
  have HB1 := Lib.hid hB1
  have HT1 := Lib.hid (HT.out.keep (behind_of_below hB1) (by simp))
  clear hw1 m2 hB1 HT
  go_loopg [1] (n - T0.length) (fun k v wr => ∃ T, n - T.length ≤ k ∧ Hid (RowV (inW wr) 109 3 v T.length (steps T)) ∧ Hid (PInv P n (litsOf T)) ∧ Hid (∀ y ∈ litsOf T0, y ∈ litsOf T) ∧ Hid (∀ g ∈ rowBlk v, g ∈ rowBlk (.slice a0 T0.length c0) ∨ w.heap.size + 1 ≤ g) ∧ Hid (Behind w1 (rowBlk (.slice a0 T0.length c0)) wr))
  case atStart => exact ⟨T0, Nat.le_refl _, HT1.out, HS.out, fun y hy => hy, fun g hg => .inl hg, Behind.refl _ _⟩
  case round =>
    obtain ⟨T, hk, HT, HI, HSUB, HG, HB⟩ := hrel
    clear HT1
    have hTn : T.length ≤ n := by have := p_len HP.out.con HI.out; simpa [litsOf] using this
    obtain ⟨a, c, rfl, hA⟩ := rowv_at HT.out
    have HA := Lib.hid hA
    have m2r := HB.out.keep M2.out (fun hm => by have := HVL.out _ hm; omega)
    have hbl : Below N w wr := (HB1.out.mono hw).trans (HB.out.below_of (b := N) HVB.out (Nat.le_trans hw HB1.out.size))
    have HLr := Lib.hid ((HL.out.below hbl (Nat.le_refl _)).mono (Nat.le_trans hw hbl.size))
    have HBH := Lib.hid (show Behind w (rowBlk (.slice a0 T0.length c0)) wr from ((behind_of_below HB1.out).mono (by simp)).trans HB.out (fun g hg => .inl hg))
    have c20 := blk_cell m2r 0 rfl
    have c21 := blk_cell m2r 1 rfl
    have HM2 := Lib.hid m2r
    have hTl : T.length ≤ 100000 := by omega
    clear hA m2r hbl
    go_wp2_with fail
    refine (xfirst_law wr.heap.size T a la c lc n L HLV.out hLl hTl wr HA.out HLr.out (Nat.le_refl _)).mono ?_
    rintro r2 w2 ⟨r, rfl, hF, hB2⟩
    have HB2 := Lib.hid hB2
    have HT2 := Lib.hid (HT.out.keep (behind_of_below hB2) (by simp))
    rcases hF with ⟨rfl, hst⟩ | ⟨i, cl, rfl, hcl, hbad⟩
    · have HST := Lib.hid hst
      clear hst hB2 c20 c21
      go_wp2_with fail
      rw [HR.out]
      exact ⟨_, T, rfl, HT2.out, HI.out, HSUB.out, HST.out, fun g hg => (HG.out g hg).imp id (fun h => by omega), HBH.out.trans (behind_of_below HB2.out) (by simp)⟩
    · have hiL := (List.getElem?_eq_some_iff.1 hcl).1
      have hclm := List.mem_of_getElem? hcl
      obtain ⟨hcl1, hcl2⟩ := HLV.out cl hclm
      have HC2 := Lib.hid hcl2
      have hff := p_false HP.out HI.out hclm
      have hu0 : unitF (litsOf T) cl 0 ≠ 0 := by
        unfold badB at hbad
        rw [hff] at hbad
        simpa using hbad
      have hpu := p_unit HP.out HI.out hclm hu0
      have HFF := Lib.hid hff
      have HPU := Lib.hid hpu.1
      obtain ⟨b1, o1, pa1, pc1, hb1, rfl, k1, hx1⟩ := HLr.out i cl hcl
      have HX1 := Lib.hid hx1
      have K1 := Lib.hid k1
      have m22 := (behind_of_below hB2).keep HM2.out (by simp)
      have c22 := blk_cell m22 1 rfl
      have d2 := below_cell hB2 hb1 k1
      clear hB2 c20 c21 hcl hclm hcl2 hff hbad hpu hx1 k1 m22
      go_wp2_with fail
      have KF := xfalse_law wr.heap.size T cl a pa1 c pc1 HC2.out hTl (by omega) w2 (HA.out.below HB2.out (Nat.le_refl _)) (HX1.out.below HB2.out (Nat.le_refl _)) HB2.out.size
      rw [HFF.out] at KF
      refine KF.mono ?_
      rintro r3 w3 ⟨rfl, hB3⟩
      have HB3 := Lib.hid (HB2.out.trans (hB3.mono HB2.out.size))
      have m23 := (behind_of_below HB3.out).keep HM2.out (by simp)
      have c23 := blk_cell m23 1 rfl
      have d3 := below_cell HB3.out hb1 K1.out
      clear hB3 KF c22 d2 m23 HB2 HT2
      go_wp2_with fail
      have KU := xunit_law wr.heap.size T cl a pa1 c pc1 HC2.out hTl (by omega) w3 (HA.out.below HB3.out (Nat.le_refl _)) (HX1.out.below HB3.out (Nat.le_refl _)) HB3.out.size
      refine KU.mono ?_
      rintro r4 w4 ⟨rfl, hB4⟩
      have HB4 := Lib.hid (HB3.out.trans (hB4.mono HB3.out.size))
      have HT4 := Lib.hid (HT.out.keep (behind_of_below HB4.out) (by simp))
      clear KU hB4 c23 d3 HB3 HX1 K1 HA HT
      generalize unitF (litsOf T) cl 0 = u at *
      go_wp2_with (at_builtin; refine wpList_append_row _ rfl _ _ 105 rfl 109 r0 _ 3 24 Try.underlying105 ri rz0 rz1 rz2 rfl _ _ _ rfl (HT4.out.keep (behind_of_below (below_one w4 _)) (by simp)) w4.heap.size 1 1 [.int .i64 u, .int .i64 (i : Nat), .int .i64 lev] 109 rfl (new_one w4 _) rfl (by intro z hz; simp at hz; rcases hz with rfl | rfl | rfl <;> rfl) (by omega) (by unfold maxLen; omega) (by omega) ?_)
      intro v9 w9 hr9 hB9 hn9
      have h49 : Behind w4 (rowBlk (.slice a T.length c)) w9 := ((behind_of_below (below_one w4 _)).mono (by simp)).trans hB9 (fun k hk => .inl hk)
      have e1 : (T ++ [(u, ((i : Nat) : Int), lev)]).length = T.length + 1 := by simp
      have hr9' : RowV (inW w9) 109 3 v9 (T ++ [(u, ((i : Nat) : Int), lev)]).length (steps (T ++ [(u, ((i : Nat) : Int), lev)])) := by
        rw [e1, steps_snoc]; exact hr9
      have hwr4 : w.heap.size + 1 ≤ w4.heap.size := by have := HB.out.size; have := HB4.out.size; omega
      have HR9 := Lib.hid hr9'
      have HG9 := Lib.hid (show ∀ g ∈ rowBlk v9, g ∈ rowBlk (.slice a0 T0.length c0) ∨ w.heap.size + 1 ≤ g from fun g hg => (hn9 g hg).elim (fun h => HG.out g h) (fun h => .inr (by first | omega | (simp at h; omega))))
      have HB9 := Lib.hid ((HB.out.trans (behind_of_below HB4.out) (by simp)).trans h49 (fun g hg => (HG.out g hg).imp id (fun h => by have := HSZ1.out; omega)))
      have HI9 := Lib.hid (show PInv P n (litsOf (T ++ [(u, ((i : Nat) : Int), lev)])) by
        have : litsOf (T ++ [(u, ((i : Nat) : Int), lev)]) = litsOf T ++ [u] := by simp [litsOf]
        rw [this]; exact HPU.out)
      have HS9 := Lib.hid (show ∀ y ∈ litsOf T0, y ∈ litsOf (T ++ [(u, ((i : Nat) : Int), lev)]) from fun y hy => by
        have : litsOf (T ++ [(u, ((i : Nat) : Int), lev)]) = litsOf T ++ [u] := by simp [litsOf]
        rw [this]; exact List.mem_append.2 (.inl (HSUB.out y hy)))
      have hTn9 : T.length + 1 ≤ n := by have := p_len HP.out.con HI9.out; simpa [litsOf] using this
      clear hr9 hB9 hn9 h49 hr9' HT4 HG HB HB4 HI HSUB
      go_wp2_with fail
      go_roundg (n - (T.length + 1))
      case measure => omega
      case rel => exact ⟨T ++ [(u, ((i : Nat) : Int), lev)], by rw [e1]; exact Nat.le_refl _, HR9, HI9, HS9, HG9, HB9⟩
end Go.Proofs.Ytbacloneddnaeaa
