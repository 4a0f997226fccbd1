/- Texts of this claim, joined: BModW. -/
import Derived.Test.YtbacloneddnaeaaM36

/- BayesModels: the walk. -/
namespace Go.Proofs.Ytbacloneddnaeaa
open Go.RowKit Go.Shelf Num

set_option maxHeartbeats 3200000 in
set_option maxRecDepth 100000 in
theorem models_law (l : List RV) (a : Option Addr) (c : Nat) (vu : List Nat) (ua : Option Addr) (uc a0 a1 : Nat) (hts : ∀ x ∈ l, x.ts.length ≤ 20000000000000 ∧ x.ps.length ≤ 20000000000000) (hll : l.length ≤ 20000000000000) (hul : vu.length ≤ 200000000000000) (hvu : ∀ v ∈ vu, v < 256) (w : World) (hN : RefAt w.heap.size w a l) (hU : AtN w.heap.size w ua (u8s vu)) (hM : ∃ m, w.cell? ⟨0, 0, none⟩ = some (.int .i64 m)) :
    Calls Try.prog 6 #[.slice a l.length c, .slice ua vu.length uc, .agg #[.int .u64 (a0 : Nat), .int .u64 (a1 : Nat)]] w fun e w' => e = .returned (.bool true) ∧ Below w.heap.size w w' := by
  obtain ⟨M, hM⟩ := hM
  have HM := Lib.hid hM
  have HN := Lib.hid hN
  have HU := Lib.hid hU
  have HTS := Lib.hid hts
  have HVU := Lib.hid hvu
  clear hM hN hts hU hvu
  go_enter Try.func6, Try.ntmps6
  go_wp2_with fail
  refine calls_gen fun w0 hw0 => ?_
  have hB0 : Below w.heap.size w w0 := by rw [hw0]; exact below_one _ _
  have m5 : w0.heap[w.heap.size]? = some (.cells #[.int .u64 (a0 : Nat), .int .u64 (a1 : Nat)] 60 (0, 0)) := by rw [hw0]; exact new_one _ _
  have M5 := Lib.hid m5
  have HB0 := Lib.hid hB0
  clear hw0 m5
  refine (few_law w.heap.size l a c HTS.out hll w0 (HN.out.below hB0 (Nat.le_refl _)) hB0.size).mono ?_
  rintro r1 w1 ⟨b, rfl, hb, hB1⟩
  have HB1 := Lib.hid (HB0.out.trans (hB1.mono HB0.out.size))
  have HM1 := Lib.hid ((behind_of_below hB1).keep M5.out (by simp))
  clear hB0 hB1 M5
  cases b with
  | false =>
    clear hb
    go_wp2_with fail
    refine (works_law w1 ⟨M, below_cell HB1.out (block_lt_of_cell HM.out) HM.out⟩).mono ?_
    rintro r90 w90 ⟨rfl, hB90⟩
    have HB90 := Lib.hid (HB1.out.trans (hB90.mono HB1.out.size))
    clear hB90
    go_wp2_with fail
    go_ret
    exact ⟨rfl, HB90.out⟩
  | true =>
    by_cases hu0 : vu.length = 0
    · clear hb
      go_wp2_with fail
      refine (works_law w1 ⟨M, below_cell HB1.out (block_lt_of_cell HM.out) HM.out⟩).mono ?_
      rintro r90 w90 ⟨rfl, hB90⟩
      have HB90 := Lib.hid (HB1.out.trans (hB90.mono HB1.out.size))
      clear hB90
      go_wp2_with fail
      go_ret
      exact ⟨rfl, HB90.out⟩
    have hu1 : ((vu.length : Int) == 0) = false := beq_no (by omega)
    have hu2 : (vu.length == 0) = false := by simpa using hu0
    have HFP := Lib.hid (hb rfl)
    have HL := Lib.hid (few_lit HFP.out)
    have HIN := Lib.hid (lit_in HL.out)
    have hsm : ∀ (i : Nat) (x : BV), (gnet l)[i]? = some x → ∀ p ∈ x.tab, Sm 1000 p := fun i x hx p hp => by
      obtain ⟨y, hy, rfl⟩ := List.mem_map.1 (List.mem_of_getElem? hx)
      obtain ⟨t, ht, rfl⟩ := List.mem_map.1 hp
      exact (raw_small ((HL.out.ts y hy).2 t ht)).2.mono (by omega)
    have HSM := Lib.hid hsm
    have hl20 := HL.out.len
    clear hb hsm
    go_wp2_with fail
    refine (given_law w.heap.size l a c HL.out w1 (HN.out.below HB1.out (Nat.le_refl _)) HB1.out.size ⟨M, below_cell HB1.out (block_lt_of_cell HM.out) HM.out⟩).mono ?_
    rintro r2 w2 ⟨v, cs, rfl, hG, hB2⟩
    obtain ⟨p, n, cp, rfl, hn⟩ : ∃ p n cp, v = .slice p n cp ∧ n = (gnet l).length := by
      obtain ⟨p, cp, h⟩ := hG.row.slice
      exact ⟨p, _, cp, h, rfl⟩
    have HB2 := Lib.hid (HB1.out.trans (hB2.mono HB1.out.size))
    have HM2 := Lib.hid ((behind_of_below hB2).keep HM1.out (by simp))
    have HG := Lib.hid hG.net
    have HNN := Lib.hid hn
    clear hG hB2 hn HB1 HM1
    go_wp2_with fail
    rw [HNN.out]
    refine (enc_prog HIN.out HSM.out w2.heap.size p cp w2 HG.out (Nat.le_refl _)).mono ?_
    rintro r3 w3 ⟨la, lc, wa, wc, ha, hac, ia, ic, rfl, hL3, hW3, hH3, hI3, hB3⟩
    have HB3 := Lib.hid (HB2.out.trans (hB3.mono HB2.out.size))
    have HM3 := Lib.hid ((behind_of_below hB3).keep HM2.out (by simp))
    clear hB3 HB2 HM2 HG
    by_cases hc : checkE (gnet l) ≠ 0
    · obtain ⟨E, hE⟩ : ∃ E, E = checkE (gnet l) := ⟨_, rfl⟩
      rw [← hE] at hc ⊢
      have hc1 : (E == 0) = false := beq_no hc
      have hc2 : (E != 0) = true := by simp [bne, hc1]
      generalize encL (gnet l) = S at *
      obtain ⟨nS, LS, low, high, ind⟩ := S
      clear hE hL3 hW3 hH3 hI3
      go_wp2_with fail
      refine calls_gen fun u1 hu => ?_
      have hbu := HB3.out.trans ((show Below w3.heap.size w3 u1 by rw [hu]; exact below_two _ _ _).mono HB3.out.size)
      have HBU := Lib.hid hbu
      clear hu hbu
      refine (works_law u1 ⟨M, below_cell HBU.out (block_lt_of_cell HM.out) HM.out⟩).mono ?_
      rintro r90 w90 ⟨rfl, hB90⟩
      have HB90 := Lib.hid (HBU.out.trans (hB90.mono HBU.out.size))
      clear hB90
      go_wp2_with fail
      go_ret
      exact ⟨rfl, HB90.out⟩
    have hc0 : checkE (gnet l) = 0 := Classical.not_not.1 hc
    have HC := Lib.hid hc0
    have hg := check_ok HIN.out hc0
    have HGD := Lib.hid hg
    have hfe := encFit HIN.out hc0
    have HFE := Lib.hid hfe
    have hok := encOf_ok hfe HSM.out
    have HOK := Lib.hid hok
    have hen := encOf_len hfe
    have eL : encL (gnet l) = ⟨(encOf (gnet l)).N, (encOf (gnet l)).L, (encOf (gnet l)).low, (encOf (gnet l)).high, (encOf (gnet l)).ind⟩ := if_neg hc
    rw [eL] at hL3 hW3 hH3 hI3 ⊢
    rw [hc0]
    simp only at hL3 hW3 hH3 hI3 ⊢
    have hgl : (gnet l).length = l.length := by simp [gnet]
    have hil : (encOf (gnet l)).ind.length = l.length := hen.2.2.trans hgl
    have hN128 : (encOf (gnet l)).N ≤ 128 := hen.1
    have hlow := hok.low
    have hhigh := hok.high
    rw [hlow, hhigh, hil]
    have HL3 := Lib.hid hL3
    have HW3 := Lib.hid hW3
    have HH3 := Lib.hid hH3
    have HI3 := Lib.hid hI3
    obtain ⟨n, hn⟩ : ∃ n, n = (encOf (gnet l)).N := ⟨_, rfl⟩
    rw [← hn] at hN128 ⊢
    have HNE := Lib.hid hn
    clear hc hc0 hg hfe hok hen eL hL3 hW3 hH3 hI3 hgl hil hlow hhigh hn
    obtain ⟨W4, hW4⟩ : ∃ W4, W4 = (w3.alloc (.cells #[.int .i64 (n : Nat), .slice la (encOf (gnet l)).L.length lc] 43 (0, 0))).alloc (.cells #[.slice wa (n + 1) wc, .slice ha (n + 1) hac] 46 (0, 0)) := ⟨_, rfl⟩
    have hb4 : Below w3.heap.size w3 W4 := by rw [hW4]; exact below_two _ _ _
    have M7 := Lib.hid (show W4.heap[w3.heap.size]? = some (.cells #[.int .i64 (n : Nat), .slice la (encOf (gnet l)).L.length lc] 43 (0, 0)) by rw [hW4]; exact new_two1 _ _ _)
    have M8 := Lib.hid (show W4.heap[w3.heap.size + 1]? = some (.cells #[.slice wa (n + 1) wc, .slice ha (n + 1) hac] 46 (0, 0)) by rw [hW4]; exact new_two2 _ _ _)
    have M5 := Lib.hid ((behind_of_below hb4).keep HM3.out (by simp))
    have HB4 := Lib.hid (HB3.out.trans (hb4.mono HB3.out.size))
    have HL4 := Lib.hid ((HL3.out.below hb4 (Nat.le_refl _)).mono hb4.size)
    have HW4 := Lib.hid ((HW3.out.below hb4 (Nat.le_refl _)).mono hb4.size)
    have HH4 := Lib.hid ((HH3.out.below hb4 (Nat.le_refl _)).mono hb4.size)
    have HI4 := Lib.hid ((HI3.out.below hb4 (Nat.le_refl _)).mono hb4.size)
    have HWW := Lib.hid hW4
    clear hb4 hW4 HL3 HW3 HH3 HI3 HB3 HM3
    go_wp2_with fail
    rw [← HWW.out]
    obtain ⟨vs, hvs⟩ : ∃ vs, vs = chosenV l vu := ⟨_, rfl⟩
    have HF := Lib.hid (show Fit (gnet l) vs by rw [hvs]; exact chosen_fit HGD.out vu)
    have HVL := Lib.hid (show vs.length = l.length by rw [hvs]; exact chosen_len l vu)
    have HVG := Lib.hid (show ∀ j, j < l.length → vs[j]? = some (vu.getD (j % vu.length) 0 % kAt (gnet l) j) by rw [hvs]; exact fun j hj => chosen_get vu hj)
    have HPC := Lib.hid (show PCl (Sat (gnet l) vs) n (encOf (gnet l)).L by rw [HNE.out]; exact enc_pcl HC.out HGD.out HF.out)
    have hgl : (gnet l).length = l.length := by simp [gnet]
    have HGL := Lib.hid hgl
    clear hgl
    have hLl := enc_Llen HFE.out
    have HCV := Lib.hid (show ∀ c ∈ (encOf (gnet l)).L, c.length ≤ 128 ∧ ∀ y ∈ c, y ≠ 0 ∧ -(n : Int) ≤ y ∧ y ≤ n from fun c hc => ⟨by have := HOK.out.cl c hc; omega, fun y hy => HPC.out.val c hc y hy⟩)
    have hu00 : 0 < vu.length := by omega
    clear hvs hu0
    have hl5 := lt_of_heap M5.out
    have C50 := Lib.hid (blk_cell M5.out 0 rfl)
    have C51 := Lib.hid (blk_cell M5.out 1 rfl)
    have hl7 := lt_of_heap M7.out
    have C70 := Lib.hid (blk_cell M7.out 0 rfl)
    have C71 := Lib.hid (blk_cell M7.out 1 rfl)
    have C80 := Lib.hid (blk_cell M8.out 0 rfl)
    have C81 := Lib.hid (blk_cell M8.out 1 rfl)
    obtain ⟨i0, ii, iz0, iz1, iz2⟩ := info_parts Try.infoInt
    go_loopw [11, 12, 13] (fun v11 v12 t13 wr => ∃ j : Nat, j ≤ l.length ∧ t13 = .int .i64 j ∧ Hid (Two wr W4.heap.size v11 (termF (gnet l) vs j) v12 ((vs.take j).map Int.ofNat)) ∧ Hid (Below W4.heap.size W4 wr)) (fun _ _ t13 _ => l.length - (intOf t13).toNat)
    case atStart => exact ⟨0, Nat.zero_le _, rfl, ⟨⟨.nil, by simp [rowBlk], by simp [rowBlk]⟩, ⟨.nil, by simp [rowBlk], by simp [rowBlk]⟩, by simp [rowBlk]⟩, Below.refl _ _⟩
    case round =>
      obtain ⟨j, hj, rfl, HO, HB⟩ := hrel
      obtain ⟨wj, rfl⟩ : ∃ wj, wj = wr := ⟨_, rfl⟩
      by_cases hlt : j < l.length
      · have hd : decide (j < l.length) = true := by simpa using hlt
        obtain ⟨x, hx⟩ : ∃ x, l[j]? = some x := ⟨_, List.getElem?_eq_getElem hlt⟩
        have hgx := gnet_get hx
        have hk := HGD.out.kb j _ hgx
        obtain ⟨k, hk0⟩ : ∃ k : Nat, x.k = k := ⟨x.k.toNat, by have : 1 ≤ x.k := hk.1; omega⟩
        have hgk : (gvar x).k = k := hk0
        rw [hgk] at hk
        have hka : kAt (gnet l) j = k := by rw [kAt_of hgx, hgk]; rfl
        have hind : (encOf (gnet l)).ind[j]? = some (seqFrom (kSum ((gnet l).take j)) k) := by
          have := ind_get hgx
          rw [hgk] at this
          rw [encOf_ind]; exact this
        obtain ⟨d, hd0⟩ : ∃ d, vu[j % vu.length]? = some d := ⟨_, List.getElem?_eq_getElem (Nat.mod_lt _ hu00)⟩
        have hd256 := HVU.out d (List.mem_of_getElem? hd0)
        have hvj : vs[j]? = some (d % k) := by rw [HVG.out j hlt, hka, List.getD_eq_getElem?_getD, hd0]; rfl
        obtain ⟨b1, o1, pa1, pc1, hb1, rfl, k1, hx1⟩ := HI4.out j _ hind
        rw [seqFrom_length] at k1
        obtain ⟨b2, o2, pa, pc, ta, tc, hb2, rfl, n0, n1, n2, _⟩ := HN.out j x hx
        rw [hk0] at n0
        obtain ⟨b3, o3, hb3, rfl, n3⟩ := HU.out _ _ (u8s_get vu _ d hd0)
        have hi1 : 0 ≤ (j : Int) % (vu.length : Int) := Int.emod_nonneg _ (by omega)
        have hi2 : (j : Int) % (vu.length : Int) < (vu.length : Int) := Int.emod_lt_of_pos _ (by omega)
        obtain ⟨y, hy0⟩ : ∃ y, y = d % k := ⟨_, rfl⟩
        have hyI : (d : Int) % (k : Int) = (y : Int) := by rw [hy0]; omega
        have hk00 : ((k : Int) == 0) = false := beq_no (by omega)
        have hk01 : (k == 0) = false := by simp; omega
        have hyk : y < k := by rw [hy0]; exact Nat.mod_lt _ (by omega)
        rw [← hy0] at hvj
        have hk8 : k ≤ 8 := by omega
        have HYK := Lib.hid (show (vs.take (j + 1)).map Int.ofNat = (vs.take j).map Int.ofNat ++ [(y : Int)] by rw [take_snoc_of hvj, List.map_append]; rfl)
        have HYG := Lib.hid (show vs.getD j 0 = y by rw [List.getD_eq_getElem?_getD, hvj]; rfl)
        obtain ⟨S0, hS0⟩ : ∃ S0, S0 = kSum ((gnet l).take j) := ⟨_, rfl⟩
        have HS0 := Lib.hid hS0.symm
        have hS0k : S0 + k ≤ 128 := by
          have h1 := kSum_bound hgx
          have h2 := encOf_N (gnet l)
          rw [← HNE.out] at h2
          rw [hgk] at h1
          have : (k : Int).toNat = k := rfl
          omega
        rw [← hS0] at hx1
        have htf := termF_len (gnet l) vs (fun i => by
          cases hi : (gnet l)[i]? with
          | none => unfold kAt; rw [hi]; exact Nat.zero_le _
          | some z => rw [kAt_of hi]; have := HGD.out.kb i z hi; omega) j
        have HBW := Lib.hid (HB4.out.trans (HB.out.mono HB4.out.size))
        have K1 := Lib.hid k1
        have HX1 := Lib.hid hx1
        have N0 := Lib.hid n0
        have N3 := Lib.hid n3
        have HVJ := Lib.hid hvj
        have HGX := Lib.hid hgx
        have HGK := Lib.hid hgk
        have HKA := Lib.hid hka
        have HK0 := Lib.hid hk0
        clear hx hgx hgk hka hind hd0 k1 hx1 n0 n1 n2 n3 hvj hk0 hy0 hS0
        go_wp2_with fail
        refine wp_game [0, 0, 0, 0, 0, 0, 0, 0, 0, 0, 0] [] B0 fin_B0 (has_B0 _) (by kernel_rfl) (by kernel_rfl) ?_
        refine lex_quietE 11 (by kernel_rfl) (by rfl) ?_
        apply Exists.intro
        refine ⟨fun z hz => ?_, ?_⟩
        · have hwz := HB.out.trans (hz.below_of (b := W4.heap.size) (by simp) HB.out.size)
          have g0 := below_cellp hwz K1.out hb1
          have g1 := below_cellp (HB4.out.trans (hwz.mono HB4.out.size)) N0.out hb2
          clear hz hwz
          simp only [List.take_succ_cons, List.take_zero]
          unfold Cx
          repeat (go_big_quiet_step (fail))
          exact wpQuiet_nil rfl
        simp only [List.drop_succ_cons, List.drop_zero]
        refine lex_nil ?_
        intro w12 hx12 _
        have HB12 := Lib.hid (HB.out.trans (hx12.below_of (b := W4.heap.size) (by simp) HB.out.size))
        replace HO := Lib.hid (HO.out.keepB (hx12.below_of (b := wj.heap.size) (by simp) (Nat.le_refl _)))
        clear hx12 HB
        go_wp2_with fail
        refine wp_game [0, 0, 0, 0, 0, 0, 0, 0, 0, 0, 0, 0, 0, 0, 0] [] B0 fin_B0 (has_B0 _) (by kernel_rfl) (by kernel_rfl) ?_
        refine lex_quietE 15 (by kernel_rfl) (by rfl) ?_
        apply Exists.intro
        refine ⟨fun z hz => ?_, ?_⟩
        · have hwz := HB4.out.trans ((HB12.out.trans (hz.below_of (b := W4.heap.size) (by simp) HB12.out.size)).mono HB4.out.size)
          have g0 := below_cellp hwz N3.out hb3
          have g1 := below_cellp hwz N0.out hb2
          clear hz hwz
          simp only [List.take_succ_cons, List.take_zero]
          unfold Cx
          repeat (go_big_quiet_step (fail))
          exact wpQuiet_nil rfl
        simp only [List.drop_succ_cons, List.drop_zero]
        refine lex_nil ?_
        intro w14 hx14 _
        have HB14 := Lib.hid (HB12.out.trans (hx14.below_of (b := W4.heap.size) (by simp) HB12.out.size))
        replace HO := Lib.hid (HO.out.keepB (hx14.below_of (b := w12.heap.size) (by simp) (Nat.le_refl _)))
        rw [hyI]
        clear hx14 HB12 hi1 hi2 hyI hk00 hk01
        have hol : ((vs.take j).map Int.ofNat).length ≤ 20 := by simp; omega
        have hbw4 : W4.heap.size ≤ W4.heap.size := Nat.le_refl _
        go_wp2_with (at_builtin; refine wpList_append_row _ rfl _ _ 30 rfl 3 i0 (.int .i64 0) 1 8 Try.underlying30 ii iz0 iz1 iz2 rfl _ _ _ rfl (HO.out.o2.row.keep (behind_of_below (below_one w14 _)) (by simp)) w14.heap.size 1 1 [.int .i64 (y : Int)] 3 rfl (new_one w14 _) rfl (by intro z hz; simp at hz; subst hz; rfl) (by omega) (by unfold maxLen; omega) (by omega) ?_)
        intro v9 w9 hr9 hB9 hn9
        have h09 : Behind w14 (rowBlk u12) w9 := ((behind_of_below (below_one w14 _)).mono (by simp)).trans hB9 (fun k hk => .inl hk)
        replace hn9 : ∀ g ∈ rowBlk v9, g ∈ rowBlk u12 ∨ w14.heap.size ≤ g := fun g hg => (hn9 g hg).imp id (fun h => by first | omega | (simp at h; omega))
        have hr9' : RowV (inW w9) 3 1 v9 (((vs.take j).map Int.ofNat).length + 1) (ints ((vs.take j).map Int.ofNat) ++ [.int .i64 (y : Int)]) := by
          first | exact hr9 | (simp only [List.length_append, List.length_singleton]; exact hr9) | (simpa using hr9)
        have hO9 := HO.out.sym.app (Nat.le_trans hbw4 HB14.out.size) h09 hr9' hn9
        rw [← HYK.out] at hO9
        have HB9 := Lib.hid (HB14.out.trans (h09.below_of (b := W4.heap.size) HO.out.o2.ge HB14.out.size))
        have HO9 := Lib.hid hO9.sym
        clear hr9 hr9' hB9 hn9 h09 hO9 HO HB14 hol
        go_wp2_with fail
        go_loopw [11, 15, 16] (fun u11 t15 t16 wr => ∃ m cnt : Nat, m ≤ k ∧ cnt ≤ m ∧ t16 = .int .i64 m ∧ t15 = .int .i64 cnt ∧ Hid (((seqFrom S0 k).take m).countP (bitS a0 a1) = cnt) ∧ Hid (Two wr W4.heap.size u11 (termF (gnet l) vs j ++ termRow (gnet l) vs j m) v9 ((vs.take (j + 1)).map Int.ofNat)) ∧ Hid (Below W4.heap.size W4 wr)) (fun _ _ t16 _ => k - (intOf t16).toNat)
        case atStart => exact ⟨0, 0, Nat.zero_le _, Nat.le_refl _, rfl, rfl, rfl, by rw [show termRow (gnet l) vs j 0 = [] from rfl, List.append_nil]; exact HO9.out, HB9.out⟩
        case round =>
          clear HO9
          obtain ⟨m, cnt, hm, hcm, rfl, rfl, HCT, HO, HB⟩ := hrel
          by_cases hmk : m < k
          · have hdm : decide (m < k) = true := by simpa using hmk
            obtain ⟨t, ht⟩ : ∃ t : Int, t = ((S0 + m + 1 : Nat) : Int) := ⟨_, rfl⟩
            have hsq : (seqFrom S0 k)[m]? = some t := by rw [ht]; exact seq_get hmk
            have ht1 : 1 ≤ t := by omega
            have ht2 : t ≤ 128 := by omega
            have HTV := Lib.hid (show ((kSum ((gnet l).take j) + m + 1 : Nat) : Int) = t by rw [HS0.out, ht])
            obtain ⟨b4, o4, hb4, rfl, k0⟩ := HX1.out m _ (ints_get _ _ _ hsq)
            have K0 := Lib.hid k0
            have KV := gHolds4 a0 a1 t ht1 ht2
            have HCN := Lib.hid (show ((seqFrom S0 k).take (m + 1)).countP (bitS a0 a1) = cnt + (if bitS a0 a1 t = true then 1 else 0) by rw [take_snoc_of hsq, List.countP_append, HCT.out]; simp [List.countP_cons])
            have htl : (termF (gnet l) vs j ++ termRow (gnet l) vs j m).length ≤ 1000 := by rw [List.length_append, termRow_len]; omega
            have c1 := below_cell HB.out hb1 K1.out
            clear hsq k0 ht
            cases hq : bitS a0 a1 t with
            | true =>
              rw [hq] at HCN KV
              clear hq
              go_wp2_with fail
              refine wp_game [0, 0, 0, 0, 0, 0, 0, 0, 0] [] B0 fin_B0 (has_B0 _) (by kernel_rfl) (by kernel_rfl) ?_
              refine lex_quietE 9 (by kernel_rfl) (by rfl) ?_
              apply Exists.intro
              refine ⟨fun z hz => ?_, ?_⟩
              · have hwz := HB.out.trans (hz.below_of (b := W4.heap.size) (by simp) HB.out.size)
                have g0 := below_cellp hwz C50.out hl5
                have g1 := below_cellp hwz C51.out hl5
                have g2 := below_cellp hwz K1.out hb1
                have g3 := below_cellp hwz K0.out hb4
                clear hz hwz
                simp only [List.take_succ_cons, List.take_zero]
                unfold Cx
                repeat (go_big_quiet_step (with_reducible exact KV.at _ _))
                exact wpQuiet_nil rfl
              simp only [List.drop_succ_cons, List.drop_zero]
              refine lex_nil ?_
              intro w20 hx20 _
              replace HB := Lib.hid (HB.out.trans (hx20.below_of (b := W4.heap.size) (by simp) HB.out.size))
              replace HO := Lib.hid (HO.out.keepB (hx20.below_of (b := wr.heap.size) (by simp) (Nat.le_refl _)))
              clear hx20 KV
              have c1 := below_cell HB.out hb1 K1.out
              have c0 := below_cell HB.out hb4 K0.out
              by_cases hmy : m = y
              · have hmy1 : ((m : Int) == (y : Int)) = true := by simp [hmy]
                have HTR := Lib.hid (show termRow (gnet l) vs j (m + 1) = termRow (gnet l) vs j m ++ [t] by rw [termRow_succ, HYG.out, if_pos hmy, HTV.out])
                clear hmy
                go_wp2_with (at_builtin; refine wpList_append_row _ rfl _ _ 30 rfl 3 i0 (.int .i64 0) 1 8 Try.underlying30 ii iz0 iz1 iz2 rfl _ _ _ rfl (HO.out.o1.row.keep (behind_of_below (below_one w20 _)) (by simp)) w20.heap.size 1 1 [.int .i64 (t)] 3 rfl (new_one w20 _) rfl (by intro z hz; simp at hz; subst hz; rfl) (by omega) (by unfold maxLen; omega) (by omega) ?_)
                intro v9 w9 hr9 hB9 hn9
                have h09 : Behind w20 (rowBlk u11) w9 := ((behind_of_below (below_one w20 _)).mono (by simp)).trans hB9 (fun k hk => .inl hk)
                replace hn9 : ∀ g ∈ rowBlk v9, g ∈ rowBlk u11 ∨ w20.heap.size ≤ g := fun g hg => (hn9 g hg).imp id (fun h => by first | omega | (simp at h; omega))
                have hr9' : RowV (inW w9) 3 1 v9 ((termF (gnet l) vs j ++ termRow (gnet l) vs j m).length + 1) (ints (termF (gnet l) vs j ++ termRow (gnet l) vs j m) ++ [.int .i64 (t)]) := by
                  first | exact hr9 | (simp only [List.length_append, List.length_singleton]; exact hr9)
                have hO9 := HO.out.app (Nat.le_trans hbw4 HB.out.size) h09 hr9' hn9
                rw [List.append_assoc, ← HTR.out] at hO9
                have HB9 := Lib.hid (HB.out.trans (h09.below_of (b := W4.heap.size) HO.out.o1.ge HB.out.size))
                have HO9 := Lib.hid hO9
                clear hr9 hr9' hB9 hn9 h09 hO9 HO HB c0 c1 hmy1
                go_wp2_with fail
                go_roundw
                case rel => exact ⟨m + 1, cnt + 1, by omega, by omega, by go_num, by go_num, by rw [HCN.out]; exact Lib.hid (by simp), HO9, HB9⟩
                case measure => simp [intOf]; omega
              · have hmy1 : ((m : Int) == (y : Int)) = false := beq_no (by omega)
                have HTR := Lib.hid (show termRow (gnet l) vs j (m + 1) = termRow (gnet l) vs j m ++ [-t] by rw [termRow_succ, HYG.out, if_neg hmy, HTV.out])
                clear hmy
                go_wp2_with (at_builtin; refine wpList_append_row _ rfl _ _ 30 rfl 3 i0 (.int .i64 0) 1 8 Try.underlying30 ii iz0 iz1 iz2 rfl _ _ _ rfl (HO.out.o1.row.keep (behind_of_below (below_one w20 _)) (by simp)) w20.heap.size 1 1 [.int .i64 (-t)] 3 rfl (new_one w20 _) rfl (by intro z hz; simp at hz; subst hz; rfl) (by omega) (by unfold maxLen; omega) (by omega) ?_)
                intro v9 w9 hr9 hB9 hn9
                have h09 : Behind w20 (rowBlk u11) w9 := ((behind_of_below (below_one w20 _)).mono (by simp)).trans hB9 (fun k hk => .inl hk)
                replace hn9 : ∀ g ∈ rowBlk v9, g ∈ rowBlk u11 ∨ w20.heap.size ≤ g := fun g hg => (hn9 g hg).imp id (fun h => by first | omega | (simp at h; omega))
                have hr9' : RowV (inW w9) 3 1 v9 ((termF (gnet l) vs j ++ termRow (gnet l) vs j m).length + 1) (ints (termF (gnet l) vs j ++ termRow (gnet l) vs j m) ++ [.int .i64 (-t)]) := by
                  first | exact hr9 | (simp only [List.length_append, List.length_singleton]; exact hr9)
                have hO9 := HO.out.app (Nat.le_trans hbw4 HB.out.size) h09 hr9' hn9
                rw [List.append_assoc, ← HTR.out] at hO9
                have HB9 := Lib.hid (HB.out.trans (h09.below_of (b := W4.heap.size) HO.out.o1.ge HB.out.size))
                have HO9 := Lib.hid hO9
                clear hr9 hr9' hB9 hn9 h09 hO9 HO HB c0 c1 hmy1
                go_wp2_with fail
                go_roundw
                case rel => exact ⟨m + 1, cnt + 1, by omega, by omega, by go_num, by go_num, by rw [HCN.out]; exact Lib.hid (by simp), HO9, HB9⟩
                case measure => simp [intOf]; omega
            | false =>
              rw [hq] at HCN KV
              clear hq
              go_wp2_with fail
              refine wp_game [0, 0, 0, 0, 0, 0, 0, 0, 0] [] B0 fin_B0 (has_B0 _) (by kernel_rfl) (by kernel_rfl) ?_
              refine lex_quietE 9 (by kernel_rfl) (by rfl) ?_
              apply Exists.intro
              refine ⟨fun z hz => ?_, ?_⟩
              · have hwz := HB.out.trans (hz.below_of (b := W4.heap.size) (by simp) HB.out.size)
                have g0 := below_cellp hwz C50.out hl5
                have g1 := below_cellp hwz C51.out hl5
                have g2 := below_cellp hwz K1.out hb1
                have g3 := below_cellp hwz K0.out hb4
                clear hz hwz
                simp only [List.take_succ_cons, List.take_zero]
                unfold Cx
                repeat (go_big_quiet_step (with_reducible exact KV.at _ _))
                exact wpQuiet_nil rfl
              simp only [List.drop_succ_cons, List.drop_zero]
              refine lex_nil ?_
              intro w20 hx20 _
              replace HB := Lib.hid (HB.out.trans (hx20.below_of (b := W4.heap.size) (by simp) HB.out.size))
              replace HO := Lib.hid (HO.out.keepB (hx20.below_of (b := wr.heap.size) (by simp) (Nat.le_refl _)))
              clear hx20 KV
              have c1 := below_cell HB.out hb1 K1.out
              have c0 := below_cell HB.out hb4 K0.out
              by_cases hmy : m = y
              · have hmy1 : ((m : Int) == (y : Int)) = true := by simp [hmy]
                have HTR := Lib.hid (show termRow (gnet l) vs j (m + 1) = termRow (gnet l) vs j m ++ [t] by rw [termRow_succ, HYG.out, if_pos hmy, HTV.out])
                clear hmy
                go_wp2_with (at_builtin; refine wpList_append_row _ rfl _ _ 30 rfl 3 i0 (.int .i64 0) 1 8 Try.underlying30 ii iz0 iz1 iz2 rfl _ _ _ rfl (HO.out.o1.row.keep (behind_of_below (below_one w20 _)) (by simp)) w20.heap.size 1 1 [.int .i64 (t)] 3 rfl (new_one w20 _) rfl (by intro z hz; simp at hz; subst hz; rfl) (by omega) (by unfold maxLen; omega) (by omega) ?_)
                intro v9 w9 hr9 hB9 hn9
                have h09 : Behind w20 (rowBlk u11) w9 := ((behind_of_below (below_one w20 _)).mono (by simp)).trans hB9 (fun k hk => .inl hk)
                replace hn9 : ∀ g ∈ rowBlk v9, g ∈ rowBlk u11 ∨ w20.heap.size ≤ g := fun g hg => (hn9 g hg).imp id (fun h => by first | omega | (simp at h; omega))
                have hr9' : RowV (inW w9) 3 1 v9 ((termF (gnet l) vs j ++ termRow (gnet l) vs j m).length + 1) (ints (termF (gnet l) vs j ++ termRow (gnet l) vs j m) ++ [.int .i64 (t)]) := by
                  first | exact hr9 | (simp only [List.length_append, List.length_singleton]; exact hr9)
                have hO9 := HO.out.app (Nat.le_trans hbw4 HB.out.size) h09 hr9' hn9
                rw [List.append_assoc, ← HTR.out] at hO9
                have HB9 := Lib.hid (HB.out.trans (h09.below_of (b := W4.heap.size) HO.out.o1.ge HB.out.size))
                have HO9 := Lib.hid hO9
                clear hr9 hr9' hB9 hn9 h09 hO9 HO HB c0 c1 hmy1
                go_wp2_with fail
                go_roundw
                case rel => exact ⟨m + 1, cnt, by omega, by omega, by go_num, by rfl, by rw [HCN.out]; exact Lib.hid (by simp), HO9, HB9⟩
                case measure => simp [intOf]; omega
              · have hmy1 : ((m : Int) == (y : Int)) = false := beq_no (by omega)
                have HTR := Lib.hid (show termRow (gnet l) vs j (m + 1) = termRow (gnet l) vs j m ++ [-t] by rw [termRow_succ, HYG.out, if_neg hmy, HTV.out])
                clear hmy
                go_wp2_with (at_builtin; refine wpList_append_row _ rfl _ _ 30 rfl 3 i0 (.int .i64 0) 1 8 Try.underlying30 ii iz0 iz1 iz2 rfl _ _ _ rfl (HO.out.o1.row.keep (behind_of_below (below_one w20 _)) (by simp)) w20.heap.size 1 1 [.int .i64 (-t)] 3 rfl (new_one w20 _) rfl (by intro z hz; simp at hz; subst hz; rfl) (by omega) (by unfold maxLen; omega) (by omega) ?_)
                intro v9 w9 hr9 hB9 hn9
                have h09 : Behind w20 (rowBlk u11) w9 := ((behind_of_below (below_one w20 _)).mono (by simp)).trans hB9 (fun k hk => .inl hk)
                replace hn9 : ∀ g ∈ rowBlk v9, g ∈ rowBlk u11 ∨ w20.heap.size ≤ g := fun g hg => (hn9 g hg).imp id (fun h => by first | omega | (simp at h; omega))
                have hr9' : RowV (inW w9) 3 1 v9 ((termF (gnet l) vs j ++ termRow (gnet l) vs j m).length + 1) (ints (termF (gnet l) vs j ++ termRow (gnet l) vs j m) ++ [.int .i64 (-t)]) := by
                  first | exact hr9 | (simp only [List.length_append, List.length_singleton]; exact hr9)
                have hO9 := HO.out.app (Nat.le_trans hbw4 HB.out.size) h09 hr9' hn9
                rw [List.append_assoc, ← HTR.out] at hO9
                have HB9 := Lib.hid (HB.out.trans (h09.below_of (b := W4.heap.size) HO.out.o1.ge HB.out.size))
                have HO9 := Lib.hid hO9
                clear hr9 hr9' hB9 hn9 h09 hO9 HO HB c0 c1 hmy1
                go_wp2_with fail
                go_roundw
                case rel => exact ⟨m + 1, cnt, by omega, by omega, by go_num, by rfl, by rw [HCN.out]; exact Lib.hid (by simp), HO9, HB9⟩
                case measure => simp [intOf]; omega
          · obtain rfl : m = k := by omega
            have HCT2 := Lib.hid (show (seqFrom S0 m).countP (bitS a0 a1) = cnt by rw [← HCT.out, List.take_of_length_le (by rw [seqFrom_length]; exact Nat.le_refl _)])
            have HO2 := Lib.hid (show Two wr W4.heap.size u11 (termF (gnet l) vs (j + 1)) v9 ((vs.take (j + 1)).map Int.ofNat) by rw [termF_succ, HKA.out]; exact HO.out)
            have c1 := below_cell HB.out hb1 K1.out
            have c50 := below_cell HB.out hl5 C50.out
            have c51 := below_cell HB.out hl5 C51.out
            have c70 := below_cell HB.out hl7 C70.out
            have c71 := below_cell HB.out hl7 C71.out
            clear HCT HO
            by_cases hc1 : cnt = 1
            · subst hc1
              go_wp2_with fail
              go_roundw
              case rel => exact ⟨j + 1, by omega, by go_num, HO2, HB⟩
              case measure => simp [intOf]; omega
            · have hc2 : ((cnt : Int) == 1) = false := beq_no (by omega)
              have hc3 : ((cnt : Int) != 1) = true := by simp [bne, hc2]
              have HEV := Lib.hid (show evalB a0 a1 n (encOf (gnet l)).L = false by
                cases hE : evalB a0 a1 n (encOf (gnet l)).L with
                | false => rfl
                | true =>
                  rw [HNE.out] at hE
                  have h1 := eval_once hE HGX.out
                  rw [HGK.out, HS0.out, show ((m : Nat) : Int).toNat = m from rfl, HCT2.out] at h1
                  exact absurd h1 hc1)
              have hLB := (HL4.out.below HB.out (Nat.le_refl _)).mono HB.out.size
              have HLB := Lib.hid hLB
              clear hc1 hLB
              go_wp2_with fail
              refine (xeval_law a0 a1 n (encOf (gnet l)).L la lc hN128 hLl HCV.out wr HLB.out).mono ?_
              rintro r25 w25 ⟨rfl, hB25⟩
              rw [HEV.out]
              replace HO2 := Lib.hid (HO2.out.keepB hB25)
              replace HB := Lib.hid (HB.out.trans (hB25.mono HB.out.size))
              clear hB25 c1 c50 c51 c70 c71
              go_wp2_with fail
              go_roundw
              case rel => exact ⟨j + 1, by omega, by go_num, HO2, HB⟩
              case measure => simp [intOf]; omega
      · obtain rfl : j = l.length := by omega
        have hdl : decide (l.length < l.length) = false := by simp
        have hO := HO.out
        rw [List.take_of_length_le (by rw [HVL.out]; exact Nat.le_refl _)] at hO
        obtain ⟨ta, tc, rfl, hTA⟩ := own_at hO.o1
        obtain ⟨ca, cc, rfl, hCA⟩ := own_at hO.o2
        have htl : (termF (gnet l) vs l.length).length ≤ 1000 := by
          have htf := termF_len (gnet l) vs (fun i => by
            cases hi : (gnet l)[i]? with
            | none => unfold kAt; rw [hi]; exact Nat.zero_le _
            | some z => rw [kAt_of hi]; have := HGD.out.kb i z hi; omega) l.length
          omega
        have HTA := Lib.hid hTA
        have HCA := Lib.hid hCA
        have hcl : (vs.map Int.ofNat).length = l.length := by rw [List.length_map, HVL.out]
        have HCL := Lib.hid hcl
        have c70 := below_cell HB.out hl7 C70.out
        have c71 := below_cell HB.out hl7 C71.out
        have HLB := Lib.hid ((HL4.out.below HB.out (Nat.le_refl _)).mono HB.out.size)
        have HRL := Lib.hid (show (resF (gnet l) vs n).length = n by simp [resF])
        clear hO hTA hCA HO hcl
        go_wp2_with fail
        refine (xclosure_law HPC.out hN128 (fun c hc => (HCV.out c hc).1) hLl (termF (gnet l) vs l.length) (fun d hd => by rw [HNE.out]; exact term_mem HF.out (by rw [HGL.out]; exact Nat.le_refl _) hd) htl (resF (gnet l) vs n) (fun S hS => by
          rw [HNE.out] at hS ⊢
          rw [← HGL.out] at hS
          exact order_res HC.out HGD.out HF.out hS (by rw [← HNE.out]; exact hN128)) la ta lc tc wj HLB.out HTA.out).mono ?_
        rintro r27 w27 ⟨ra, rc, rfl, hRA, hB27⟩
        rw [HRL.out]
        have HRA := Lib.hid hRA
        have HCA2 := Lib.hid ((HCA.out.below hB27 (Nat.le_refl _)).mono hB27.size)
        replace HB := Lib.hid (HB.out.trans (hB27.mono HB.out.size))
        clear hRA hB27 c70 c71 HLB HCA HTA
        have c70 := below_cell HB.out hl7 C70.out
        go_wp2_with fail
        have KO : Gives 25 #[.int .u64 1, .int .u64 1] (.tuple #[.agg #[.string (nb 1), .string (nb 1)], .bool true]) := gROf 1 1 (by decide) (by decide) (by decide)
        obtain ⟨gM, hgM⟩ : ∃ gM, gM = w27.heap.size := ⟨_, rfl⟩
        refine calls_gen fun u30 hu => ?_
        rw [← hgM]
        have hMM : u30.heap[gM]? = some (.cells #[.int .u64 0, .int .u64 0] 60 (0, 0)) := by rw [hu, hgM]; exact new_one _ _
        have hb30 : Below w27.heap.size w27 u30 := by rw [hu]; exact below_one _ _
        refine (KO _).mono ?_
        rintro r31 w31 ⟨rfl, hB31⟩
        have hMM1 := (behind_of_below hB31).keep hMM (by simp)
        have hb31 := hb30.trans (hB31.mono hb30.size)
        have hgMl := lt_of_heap hMM1
        have hgMW : W4.heap.size ≤ gM := by rw [hgM]; exact HB.out.size
        have HMM := Lib.hid hMM1
        have HB31 := Lib.hid (HB.out.trans (hb31.mono HB.out.size))
        have HRA3 := Lib.hid (HRA.out.below hb31 (Nat.le_refl _))
        have HCA3 := Lib.hid (HCA2.out.below hb31 (Nat.le_refl _))
        have hrl : w27.heap.size ≤ gM := by rw [hgM]; exact Nat.le_refl _
        clear hu hMM hb30 hB31 hMM1 hb31 hgM HB HRA HCA2 KO c70
        go_wp2_with fail
        refine wp_gen ?_
        intro w32 hw32
        obtain ⟨gP, hgP⟩ : ∃ gP, gP = w31.heap.size := ⟨_, rfl⟩
        rw [← hgP]
        have hPP : w32.heap[gP]? = some (.cells #[.string (nb 1), .string (nb 1)] 34 (0, 0)) := by rw [hw32, hgP]; exact new_one _ _
        have hb32 : Below w31.heap.size w31 w32 := by rw [hw32]; exact below_one _ _
        have HPP := Lib.hid hPP
        have HM2 := Lib.hid ((behind_of_below hb32).keep HMM.out (by simp))
        have HB32 := Lib.hid (HB31.out.trans (hb32.mono HB31.out.size))
        have hMP : gM < gP := by rw [hgP]; exact hgMl
        have HRA4 := Lib.hid (HRA3.out.below hb32 (by omega))
        have HCA4 := Lib.hid (HCA3.out.below hb32 (by omega))
        have hw32s : w27.heap.size ≤ w32.heap.size := by have := hb32.size; omega
        clear hw32 hgP hPP hb32 HMM HB31 HRA3 HCA3
        go_loopw [22] (fun t22 wr => ∃ i m0 m1 : Nat, i ≤ n ∧ t22 = .int .i64 i ∧ m0 < 18446744073709551616 ∧ m1 < 18446744073709551616 ∧ Hid (wr.heap[gM]? = some (.cells #[.int .u64 (m0 : Nat), .int .u64 (m1 : Nat)] 60 (0, 0))) ∧ Hid (wr.heap[gP]? = some (.cells #[.string (nb (wProd (gnet l) vs i).1), .string (nb (wProd (gnet l) vs i).2)] 34 (0, 0))) ∧ Hid (∀ v : Nat, v < 128 → (bitS m0 m1 ((v + 1 : Nat) : Int) = true ↔ v < i ∧ Tru (gnet l) vs ((v + 1 : Nat) : Int))) ∧ Hid (Behind w32 [gM, gP] wr)) (fun t22 _ => n - (intOf t22).toNat)
        case atStart => exact ⟨0, 0, 0, Nat.zero_le _, rfl, by decide, by decide, HM2.out, HPP.out, fun v hv => by unfold bitS; simp, Behind.refl _ _⟩
        case round =>
          obtain ⟨i, m0, m1, hi, rfl, hm0, hm1, HM3, HP3, HBT, HB⟩ := hrel
          by_cases hin : i < n
          · have hdi : decide (i < n) = true := by simpa using hin
            obtain ⟨y, hy⟩ : ∃ y, (resF (gnet l) vs n)[i]? = some y := ⟨_, List.getElem?_eq_getElem (by rw [HRL.out]; exact hin)⟩
            have hyv : (Tru (gnet l) vs ((i + 1 : Nat) : Int) ∧ y = ((i + 1 : Nat) : Int)) ∨ (¬ Tru (gnet l) vs ((i + 1 : Nat) : Int) ∧ y = -((i + 1 : Nat) : Int)) := by
              unfold resF at hy
              rw [List.getElem?_map, List.getElem?_range hin] at hy
              simp only [Option.map_some, Option.some.injEq] at hy
              by_cases ht : Tru (gnet l) vs ((i + 1 : Nat) : Int)
              · rw [if_pos ht] at hy; exact .inl ⟨ht, hy.symm⟩
              · rw [if_neg ht] at hy; exact .inr ⟨ht, hy.symm⟩
            obtain ⟨b5, o5, hb5, rfl, k5⟩ := HRA4.out i _ (ints_get _ _ _ hy)
            have k5 := below_cell (HB.out.below_of (b := w27.heap.size) (by simp; omega) hw32s) hb5 k5
            have cM0 := blk_cell HM3.out 0 rfl
            have cM1 := blk_cell HM3.out 1 rfl
            have fM0 := blk_free HM3.out 0
            have fM1 := blk_free HM3.out 1
            clear hy
            obtain ⟨v, hv⟩ : ∃ v, v = i + 1 := ⟨_, rfl⟩
            rw [← hv] at hyv
            have hv1 : 1 ≤ v := by omega
            have hv128 : v ≤ n := by omega
            have hgMw : W4.heap.size ≤ gP := by omega
            have hlh : (encOf (gnet l)).high.length = n + 1 := by rw [HOK.out.high, HNE.out]
            have hll2 : (encOf (gnet l)).low.length = n + 1 := by rw [HOK.out.low, HNE.out]
            obtain ⟨hPL, hPS⟩ := wProd_low HGD.out vs i (by omega)
            have hPnz := nz_low hPL
            rcases hyv with ⟨ht, rfl⟩ | ⟨ht, hyn⟩
            · have HT := Lib.hid (by rw [hv] at ht; exact ht : Tru (gnet l) vs ((i + 1 : Nat) : Int))
              obtain ⟨H, hH⟩ : ∃ H, (encOf (gnet l)).high[v]? = some H := ⟨_, List.getElem?_eq_getElem (by omega)⟩
              obtain ⟨q1, q2⟩ := rats_get hH
              obtain ⟨b6, o6, hb6, rfl, k1⟩ := HH4.out _ _ q1
              obtain ⟨b7, o7, _, e7, k2⟩ := HH4.out _ _ q2
              cases e7
              rw [← Nat.add_assoc] at k2
              have HPN := Lib.hid (show wProd (gnet l) vs (i + 1) = Q.mul (wProd (gnet l) vs i) (nz H) by rw [wProd_yes HT.out, ← hv, List.getD_eq_getElem?_getD, hH]; rfl)
              have hHS : Sm 4 H := by
                have := (high_low HGD.out v).2
                rwa [List.getD_eq_getElem?_getD, hH] at this
              have KM0 := gRMulB (wProd (gnet l) vs i) H (hPS.mono (by omega)) (hHS.mono (by omega))
              rw [hPnz] at KM0
              have KM : Gives 26 #[.agg #[.string (nb (wProd (gnet l) vs i).1), .string (nb (wProd (gnet l) vs i).2)], .agg #[.string (nb H.1), .string (nb H.2)]] (.agg #[.string (nb (Q.mul (wProd (gnet l) vs i) (nz H)).1), .string (nb (Q.mul (wProd (gnet l) vs i) (nz H)).2)]) := KM0
              have K1 := Lib.hid k1
              have K2 := Lib.hid k2
              have e3 : decide (0 < v) = true := by simp; omega
              have hl8 := lt_of_heap M8.out
              clear hH q1 q2 k1 k2 hHS KM0 ht hlh hll2 hPL hPS hPnz
              generalize Q.mul (wProd (gnet l) vs i) (nz H) = U at *
              generalize wProd (gnet l) vs i = T at *
              by_cases h64 : i < 64
              · have e1 : ((v : Int) - 1) / 64 = 0 := by omega
                have e2 : ((v : Int) - 1) % 64 = (i : Int) := by omega
                have HV := Lib.hid hv
                clear hv
                go_wp2_with fail
                refine wp_gen ?_
                intro w37 hw37
                rw [or_bit hm0 h64] at hw37
                have hW37 : Wrote gM (.cells #[.int .u64 ((m0 ||| 2 ^ i : Nat) : Int), .int .u64 (m1 : Nat)] 60 (0, 0)) wr w37 := by rw [hw37]; exact wrote_cell (o := 0) _ HM3.out
                have M37 := Lib.hid hW37.here
                have P37 := Lib.hid (hW37.other HP3.out (by omega))
                have B37 := Lib.hid (HB.out.wrote hW37 (.inl (by simp)))
                clear hw37 hW37 cM0 cM1 fM0 fM1 HM3 HP3 HB k5 e1 e2
                refine wp_game [1, 0, 0, 0, 0, 0, 0, 2] [gP] _ (Fin.put fin_B0 _ _) (has_put (has_B0 _) P37.out) (by kernel_rfl) (by kernel_rfl) ?_
                refine lex_readE 1 w37 (Behind.refl _ _) (has_put (has_B0 _) P37.out) (by kernel_rfl) (by rfl) ?_
                apply Exists.intro
                refine ⟨fun z hz hH => ?_, ?_⟩
                · have g0 := blk_cellp (hH gP _ (Blocks.put_same _ _ _)) 0 rfl
                  have g2 := blk_cellp (hH gP _ (Blocks.put_same _ _ _)) 1 rfl
                  clear hz hH
                  simp only [List.take_succ_cons, List.take_zero]
                  unfold Cx
                  repeat (go_big_quiet_step (fail))
                  exact wpQuiet_nil rfl
                simp only [List.drop_succ_cons, List.drop_zero]
                refine lex_quietE 6 (by kernel_rfl) (by rfl) ?_
                apply Exists.intro
                refine ⟨fun z hz => ?_, ?_⟩
                · have hwz := HB32.out.trans ((B37.out.trans (hz.mono (by simp)) (fun k hk => .inl hk)).below_of (b := W4.heap.size) (by simp; omega) HB32.out.size)
                  have g0 := below_cellp hwz C81.out hl8
                  have g1 := below_cellp hwz K1.out hb6
                  have g2 := below_cellp hwz K2.out hb6
                  clear hz hwz
                  simp only [List.take_succ_cons, List.take_zero]
                  unfold Cx
                  repeat (go_big_quiet_step (first | with_reducible exact KM.at _ _))
                  exact wpQuiet_nil rfl
                simp only [List.drop_succ_cons, List.drop_zero]
                refine lex_store_all gP _ _ _ (by rfl) (by rfl) (by rfl) (Blocks.put_same _ _ _) (by rfl) (Or.inl (by simp)) (by kernel_rfl) (by simp [Value.oneCell']) ?_
                refine lex_nil ?_
                intro w38 hx38 hH
                have P38 := Lib.hid (hH gP _ (Blocks.put_same _ _ _))
                have M38 := Lib.hid (hx38.keep M37.out (by simp; omega))
                have B38 := Lib.hid (B37.out.trans (hx38.mono (by simp)) (fun k hk => .inl hk))
                clear hx38 hH P37 M37 B37 KM K1 K2
                go_wp2_with fail
                go_roundw
                case rel => exact ⟨i + 1, m0 ||| 2 ^ i, m1, by omega, by go_num, or_lt hm0 h64, hm1, M38, by rw [HPN.out]; exact P38, fun v2 hv2 => by
                  rw [bit_or_lo h64 v2 hv2, Bool.or_eq_true, HBT.out v2 hv2, decide_eq_true_eq]
                  constructor
                  · rintro (⟨h1, h2⟩ | h1)
                    · exact ⟨by omega, h2⟩
                    · obtain rfl : v2 = i := by omega
                      exact ⟨by omega, HT.out⟩
                  · rintro ⟨h1, h2⟩
                    by_cases h3 : v2 = i
                    · exact .inr (by omega)
                    · exact .inl ⟨by omega, h2⟩, B38⟩
                case measure => simp [intOf]; omega
              · obtain ⟨u, hu⟩ : ∃ u, i = u + 64 := ⟨i - 64, by omega⟩
                have hu64 : u < 64 := by omega
                have e1 : ((v : Int) - 1) / 64 = 1 := by omega
                have e2 : ((v : Int) - 1) % 64 = (u : Int) := by omega
                have HUI := Lib.hid hu
                have HV := Lib.hid hv
                clear hv hu
                go_wp2_with fail
                refine wp_gen ?_
                intro w37 hw37
                rw [or_bit hm1 hu64] at hw37
                have hW37 : Wrote gM (.cells #[.int .u64 (m0 : Nat), .int .u64 ((m1 ||| 2 ^ u : Nat) : Int)] 60 (0, 0)) wr w37 := by rw [hw37]; exact wrote_cell (o := 1) _ HM3.out
                have M37 := Lib.hid hW37.here
                have P37 := Lib.hid (hW37.other HP3.out (by omega))
                have B37 := Lib.hid (HB.out.wrote hW37 (.inl (by simp)))
                clear hw37 hW37 cM0 cM1 fM0 fM1 HM3 HP3 HB k5 e1 e2
                refine wp_game [1, 0, 0, 0, 0, 0, 0, 2] [gP] _ (Fin.put fin_B0 _ _) (has_put (has_B0 _) P37.out) (by kernel_rfl) (by kernel_rfl) ?_
                refine lex_readE 1 w37 (Behind.refl _ _) (has_put (has_B0 _) P37.out) (by kernel_rfl) (by rfl) ?_
                apply Exists.intro
                refine ⟨fun z hz hH => ?_, ?_⟩
                · have g0 := blk_cellp (hH gP _ (Blocks.put_same _ _ _)) 0 rfl
                  have g2 := blk_cellp (hH gP _ (Blocks.put_same _ _ _)) 1 rfl
                  clear hz hH
                  simp only [List.take_succ_cons, List.take_zero]
                  unfold Cx
                  repeat (go_big_quiet_step (fail))
                  exact wpQuiet_nil rfl
                simp only [List.drop_succ_cons, List.drop_zero]
                refine lex_quietE 6 (by kernel_rfl) (by rfl) ?_
                apply Exists.intro
                refine ⟨fun z hz => ?_, ?_⟩
                · have hwz := HB32.out.trans ((B37.out.trans (hz.mono (by simp)) (fun k hk => .inl hk)).below_of (b := W4.heap.size) (by simp; omega) HB32.out.size)
                  have g0 := below_cellp hwz C81.out hl8
                  have g1 := below_cellp hwz K1.out hb6
                  have g2 := below_cellp hwz K2.out hb6
                  clear hz hwz
                  simp only [List.take_succ_cons, List.take_zero]
                  unfold Cx
                  repeat (go_big_quiet_step (first | with_reducible exact KM.at _ _))
                  exact wpQuiet_nil rfl
                simp only [List.drop_succ_cons, List.drop_zero]
                refine lex_store_all gP _ _ _ (by rfl) (by rfl) (by rfl) (Blocks.put_same _ _ _) (by rfl) (Or.inl (by simp)) (by kernel_rfl) (by simp [Value.oneCell']) ?_
                refine lex_nil ?_
                intro w38 hx38 hH
                have P38 := Lib.hid (hH gP _ (Blocks.put_same _ _ _))
                have M38 := Lib.hid (hx38.keep M37.out (by simp; omega))
                have B38 := Lib.hid (B37.out.trans (hx38.mono (by simp)) (fun k hk => .inl hk))
                clear hx38 hH P37 M37 B37 KM K1 K2
                go_wp2_with fail
                go_roundw
                case rel => exact ⟨i + 1, m0, m1 ||| 2 ^ u, by omega, by go_num, hm0, or_lt hm1 hu64, M38, by rw [HPN.out]; exact P38, fun v2 hv2 => by
                  rw [bit_or_hi v2 hv2, Bool.or_eq_true, HBT.out v2 hv2, decide_eq_true_eq]
                  constructor
                  · rintro (⟨h1, h2⟩ | h1)
                    · exact ⟨by omega, h2⟩
                    · have := HUI.out; obtain rfl : v2 = i := by omega
                      exact ⟨by omega, HT.out⟩
                  · rintro ⟨h1, h2⟩
                    by_cases h3 : v2 = i
                    · exact .inr (by have := HUI.out; omega)
                    · exact .inl ⟨by omega, h2⟩, B38⟩
                case measure => simp [intOf]; omega
            · have HT := Lib.hid (by rw [hv] at ht; exact ht : ¬ Tru (gnet l) vs ((i + 1 : Nat) : Int))
              obtain ⟨H, hH⟩ : ∃ H, (encOf (gnet l)).low[v]? = some H := ⟨_, List.getElem?_eq_getElem (by omega)⟩
              obtain rfl := HOK.out.one H (List.mem_of_getElem? hH)
              obtain ⟨q1, q2⟩ := rats_get hH
              obtain ⟨b6, o6, hb6, rfl, k1⟩ := HW4.out _ _ q1
              obtain ⟨b7, o7, _, e7, k2⟩ := HW4.out _ _ q2
              cases e7
              rw [← Nat.add_assoc] at k2
              have HPN := Lib.hid (wProd_no HT.out)
              have KM0 := gRMulB (wProd (gnet l) vs i) (1, 1) (hPS.mono (by omega)) ⟨by decide, by decide⟩
              rw [hPnz, show nz (1, 1) = (1, 1) from rfl, Q.mul1 hPL] at KM0
              have KM : Gives 26 #[.agg #[.string (nb (wProd (gnet l) vs i).1), .string (nb (wProd (gnet l) vs i).2)], .agg #[.string (nb 1), .string (nb 1)]] (.agg #[.string (nb (wProd (gnet l) vs i).1), .string (nb (wProd (gnet l) vs i).2)]) := KM0
              have K1 := Lib.hid k1
              have K2 := Lib.hid k2
              have hyn2 : -y = (v : Int) := by omega
              have e3 : decide (0 < y) = false := by simp; omega
              have hy1 : -128 ≤ y := by omega
              have hy2 : y ≤ 128 := by omega
              have hl8 := lt_of_heap M8.out
              have HV := Lib.hid hv
              clear hH q1 q2 k1 k2 KM0 ht hlh hll2 hPL hPS hPnz hyn hv
              generalize wProd (gnet l) vs i = T at *
              go_wp2_with fail
              have M37 := HM3
              have P37 := HP3
              have B37 := HB
              obtain ⟨w37, rfl⟩ : ∃ w37, w37 = wr := ⟨_, rfl⟩
              clear cM0 cM1 fM0 fM1 HM3 HP3 HB k5
              refine wp_game [1, 0, 0, 0, 0, 0, 0, 0, 2] [gP] _ (Fin.put fin_B0 _ _) (has_put (has_B0 _) P37.out) (by kernel_rfl) (by kernel_rfl) ?_
              refine lex_readE 1 w37 (Behind.refl _ _) (has_put (has_B0 _) P37.out) (by kernel_rfl) (by rfl) ?_
              apply Exists.intro
              refine ⟨fun z hz hH => ?_, ?_⟩
              · have g0 := blk_cellp (hH gP _ (Blocks.put_same _ _ _)) 0 rfl
                have g2 := blk_cellp (hH gP _ (Blocks.put_same _ _ _)) 1 rfl
                clear hz hH
                simp only [List.take_succ_cons, List.take_zero]
                unfold Cx
                repeat (go_big_quiet_step (fail))
                exact wpQuiet_nil rfl
              simp only [List.drop_succ_cons, List.drop_zero]
              refine lex_quietE 7 (by kernel_rfl) (by rfl) ?_
              apply Exists.intro
              refine ⟨fun z hz => ?_, ?_⟩
              · have hwz := HB32.out.trans ((B37.out.trans (hz.mono (by simp)) (fun k hk => .inl hk)).below_of (b := W4.heap.size) (by simp; omega) HB32.out.size)
                have g0 := below_cellp hwz C80.out hl8
                have g1 := below_cellp hwz K1.out hb6
                have g2 := below_cellp hwz K2.out hb6
                clear hz hwz
                simp only [List.take_succ_cons, List.take_zero]
                unfold Cx
                repeat (go_big_quiet_step (first | with_reducible exact KM.at _ _))
                exact wpQuiet_nil rfl
              simp only [List.drop_succ_cons, List.drop_zero]
              refine lex_store_all gP _ _ _ (by rfl) (by rfl) (by rfl) (Blocks.put_same _ _ _) (by rfl) (Or.inl (by simp)) (by kernel_rfl) (by simp [Value.oneCell']) ?_
              refine lex_nil ?_
              intro w38 hx38 hH
              have P38 := Lib.hid (hH gP _ (Blocks.put_same _ _ _))
              have M38 := Lib.hid (hx38.keep M37.out (by simp; omega))
              have B38 := Lib.hid (B37.out.trans (hx38.mono (by simp)) (fun k hk => .inl hk))
              clear hx38 hH P37 M37 B37 KM K1 K2
              go_wp2_with fail
              go_roundw
              case rel => exact ⟨i + 1, m0, m1, by omega, by go_num, hm0, hm1, M38, by rw [HPN.out]; exact P38, fun v2 hv2 => by
                rw [HBT.out v2 hv2]
                constructor
                · rintro ⟨h1, h2⟩
                  exact ⟨by omega, h2⟩
                · rintro ⟨h1, h2⟩
                  by_cases h3 : v2 = i
                  · subst h3; exact absurd h2 HT.out
                  · exact ⟨by omega, h2⟩, B38⟩
              case measure => simp [intOf]; omega
          · obtain rfl : n = i := by omega
            have hdi : decide (n < n) = false := by simp
            have HBw := Lib.hid (HB4.out.trans ((HB32.out.trans (HB.out.below_of (b := W4.heap.size) (by simp; omega) HB32.out.size)).mono HB4.out.size))
            have HBv := Lib.hid (HB32.out.trans (HB.out.below_of (b := W4.heap.size) (by simp; omega) HB32.out.size))
            have HCA5 := Lib.hid (HCA4.out.below (HB.out.below_of (b := w27.heap.size) (by simp; omega) hw32s) (Nat.le_refl _))
            have hs27 : w27.heap.size ≤ wr.heap.size := Nat.le_trans hw32s HB.out.size
            have hPw : wProd (gnet l) vs n = prodV (gnet l) vs (gnet l).length := by rw [HNE.out]; exact wProd_all HGD.out HF.out
            obtain ⟨⟨q1, q2⟩, hq1, hq2, hq3⟩ := joint_val HC.out HGD.out HF.out
            obtain ⟨hPL, hPS⟩ := prodV_low HGD.out vs (gnet l).length
            have hgl16 := HGD.out.len
            have hEV : evalB m0 m1 n (encOf (gnet l)).L = true := by
              rw [HNE.out]
              exact eval_model HC.out HGD.out HF.out (by rw [← HNE.out]; exact hN128) (by rw [← HNE.out]; exact HBT.out)
            have KC0 := gRCmpB (prodV (gnet l) vs (gnet l).length) (q1, q2) (hPS.mono (by omega)) (hq3.mono (by omega))
            rw [nz_low hPL, hq2, cmp_self, ← hPw] at KC0
            have KC : Gives 27 #[.agg #[.string (nb (wProd (gnet l) vs n).1), .string (nb (wProd (gnet l) vs n).2)], .agg #[.string (nb q1), .string (nb q2)]] (.int .i64 0) := KC0
            have HEV := Lib.hid hEV
            have HQ1 := Lib.hid hq1
            have HSZ := Lib.hid (few_sz HFP.out)
            clear hPw hq1 hq2 hq3 hPL hPS hEV KC0
            generalize wProd (gnet l) vs n = T at *
            go_wp2_with fail
            refine (given_law w.heap.size l a c HL.out wr (HN.out.below HBw.out (Nat.le_refl _)) HBw.out.size ⟨M, below_cell HBw.out (block_lt_of_cell HM.out) HM.out⟩).mono ?_
            rintro r40 w40 ⟨v40, cs40, rfl, hG40, hB40⟩
            obtain ⟨p4, n4, cp4, rfl, hn4⟩ : ∃ p4 n4 cp4, v40 = .slice p4 n4 cp4 ∧ n4 = (gnet l).length := by
              obtain ⟨p, cp, h⟩ := hG40.row.slice
              exact ⟨p, _, cp, h, rfl⟩
            have HG4 := Lib.hid hG40.net
            have HN4 := Lib.hid hn4
            have HB40 := Lib.hid hB40
            have HCA6 := Lib.hid ((HCA5.out.below hB40 hs27).mono (Nat.le_trans hs27 hB40.size))
            clear hG40 hn4 hB40
            go_wp2_with fail
            rw [HN4.out]
            have KJ := joint_law gBOne w40.heap.size (gnet l) (vs.map Int.ofNat) p4 ca cp4 cc HIN.out (by rw [List.length_map, HVL.out]; omega) HSZ.out w40 HG4.out HCA6.out (Nat.le_refl _)
            rw [List.length_map, HQ1.out] at KJ
            refine KJ.mono ?_
            rintro r41 w41 ⟨rfl, hB41⟩
            clear KJ
            rw [show ratV ((q1, q2), (0 : Int)).1 = .agg #[.string (nb q1), .string (nb q2)] from rfl]
            have hB41 := HB40.out.trans (hB41.mono HB40.out.size)
            have HB41 := Lib.hid hB41
            have hBA := below_one w41 (.cells #[.string (nb q1), .string (nb q2)] 34 (0, 0))
            have hM41 := (behind_of_below hB41).keep HM3.out (by simp)
            have hP41 := (behind_of_below hB41).keep HP3.out (by simp)
            have hBB := HB41.out.trans (hBA.mono HB41.out.size)
            have c70 := below_cell hBB (block_lt_of_cell (below_cell HBv.out hl7 C70.out)) (below_cell HBv.out hl7 C70.out)
            have c71 := below_cell hBB (block_lt_of_cell (below_cell HBv.out hl7 C70.out)) (below_cell HBv.out hl7 C71.out)
            have hMA := (behind_of_below hBA).keep hM41 (by simp)
            have m0c := blk_cell hMA 0 rfl
            have m1c := blk_cell hMA 1 rfl
            have l1 := lt_of_heap hM41
            have l2 := lt_of_heap hP41
            have HP41 := Lib.hid hP41
            clear hB41 hM41 hP41 HM3 HP3 HB hMA hBB hBA
            go_wp2_with fail
            refine calls_gen fun u42 hu => ?_
            have hPP4 : u42.heap[w41.heap.size]? = some (.cells #[.string (nb q1), .string (nb q2)] 34 (0, 0)) := by rw [hu]; exact new_one _ _
            have hB42 : Below w41.heap.size w41 u42 := by rw [hu]; exact below_one _ _
            have hP42 := (behind_of_below hB42).keep HP41.out (by simp)
            have HL42 := Lib.hid ((HL4.out.below (HBv.out.trans ((HB41.out.trans (hB42.mono HB41.out.size)).mono HBv.out.size)) (Nat.le_refl _)).mono (Nat.le_trans HBv.out.size (Nat.le_trans HB41.out.size hB42.size)))
            have HB42 := Lib.hid (HBw.out.trans ((HB41.out.trans (hB42.mono HB41.out.size)).mono HBw.out.size))
            clear hu hB42 c70 c71 m0c m1c
            refine (xeval_law m0 m1 n (encOf (gnet l)).L la lc hN128 hLl HCV.out u42 HL42.out).mono ?_
            rintro r43 w43 ⟨rfl, hB43⟩
            rw [HEV.out]
            have hP43 := (behind_of_below hB43).keep hP42 (by simp)
            have hQ43 := (behind_of_below hB43).keep hPP4 (by simp)
            have p0 := blk_cell hP43 0 rfl
            have p1 := blk_cell hP43 1 rfl
            have q0 := blk_cell hQ43 0 rfl
            have q1c := blk_cell hQ43 1 rfl
            have HB43 := Lib.hid (HB42.out.trans (hB43.mono HB42.out.size))
            clear hPP4 hP42 hB43 hP43 hQ43
            go_wp2_with fail
            refine (KC _).mono ?_
            rintro r44 w44 ⟨rfl, hB44⟩
            have HB44 := Lib.hid (HB43.out.trans (hB44.mono HB43.out.size))
            clear hB44 p0 p1 q0 q1c KC
            go_wp2_with fail
            refine (works_law w44 ⟨M, below_cell HB44.out (block_lt_of_cell HM.out) HM.out⟩).mono ?_
            rintro r90 w90 ⟨rfl, hB90⟩
            have HB90 := Lib.hid (HB44.out.trans (hB90.mono HB44.out.size))
            clear hB90
            go_wp2_with fail
            go_ret
            exact ⟨rfl, HB90.out⟩
end Go.Proofs.Ytbacloneddnaeaa
