/- Texts of this claim, joined: BAddsW. -/
import Derived.Test.YtbacloneddnaeaaA40

/- BayesAdds: the walk. -/
namespace Go.Proofs.Ytbacloneddnaeaa
open Go.RowKit Go.Shelf Num

set_option maxHeartbeats 6400000 in
set_option maxRecDepth 100000 in
theorem adds_law (l : List RV) (a : Option Addr) (c : Nat) (vs : List Int) (va : Option Addr) (vc : Nat) (v : Int) (hts : ∀ x ∈ l, x.ts.length ≤ 20000000000000 ∧ x.ps.length ≤ 20000000000000) (hll : l.length ≤ 20000000000000) (hvl : vs.length ≤ 20000000000000) (w : World) (hN : RefAt w.heap.size w a l) (hV : AtN w.heap.size w va (ints vs)) (hM : ∃ m, w.cell? ⟨0, 0, none⟩ = some (.int .i64 m)) :
    Calls Try.prog 7 #[.slice a l.length c, .slice va vs.length vc, .int .i64 v] w fun e w' => e = .returned (.bool true) ∧ Below w.heap.size w w' := by
  obtain ⟨M, hM⟩ := hM
  have HM := Lib.hid hM
  have HN := Lib.hid hN
  have HV := Lib.hid hV
  have HTS := Lib.hid hts
  clear hM hN hV hts
  go_enter Try.func7, Try.ntmps7
  go_wp2_with fail
  refine (few_law w.heap.size l a c HTS.out hll w HN.out (Nat.le_refl _)).mono ?_
  rintro r1 w1 ⟨b, rfl, hb, hB1⟩
  have HB1 := Lib.hid hB1
  have K1 := Lib.hid (Kn.mk (w0 := w) (ns := []) (bs := []) (ls := []) hB1 (by simp) (by simp) (by simp))
  cases b with
  | false =>
    clear hb hB1
    go_wp2_with fail
    refine (works_law w1 ⟨M, below_cell K1.out.be (block_lt_of_cell HM.out) HM.out⟩).mono ?_
    rintro r90 w90 ⟨rfl, hB90⟩
    have K90 := Lib.hid (K1.out.go hB90)
    clear hB90
    go_wp2_with fail
    go_ret
    exact ⟨rfl, K90.out.be⟩

  | true =>
    by_cases h30 : 30 < vs.length
    · clear hb hB1
      go_wp2_with fail
      refine (works_law w1 ⟨M, below_cell K1.out.be (block_lt_of_cell HM.out) HM.out⟩).mono ?_
      rintro r90 w90 ⟨rfl, hB90⟩
      have K90 := Lib.hid (K1.out.go hB90)
      clear hB90
      go_wp2_with fail
      go_ret
      exact ⟨rfl, K90.out.be⟩

    have h30' : vs.length ≤ 30 := by omega
    have HFP := Lib.hid (hb rfl)
    have HL := Lib.hid (few_lit HFP.out)
    have HN1 := Lib.hid (HN.out.below hB1 (Nat.le_refl _))
    clear hb hB1 h30 hvl
    go_wp2_with fail
    refine (given_law w.heap.size l a c HL.out w1 HN1.out HB1.out.size ⟨M, below_in HB1.out HM.out⟩).mono ?_
    rintro r2 w2 ⟨v2, cs2, rfl, hG, hB2⟩
    obtain ⟨p, cp, rfl⟩ := hG.row.slice
    have hgl : (gnet l).length = l.length := by simp [gnet]
    have HGL := Lib.hid hgl
    have hl20 : l.length ≤ 20 := HL.out.len
    have HIN := Lib.hid (lit_in HL.out)
    have HSZ := Lib.hid (few_sz HFP.out)
    have K2 := Lib.hid (((Kn.mk (w0 := w) (ns := []) (bs := []) (ls := []) (HB1.out.trans (hB2.mono HB1.out.size)) (by simp) (by simp) (by simp)).addN hG.net).addA (a := va) (xs := ints vs) ((HV.out.below (HB1.out.trans (hB2.mono HB1.out.size)) (Nat.le_refl _)).mono (HB1.out.trans (hB2.mono HB1.out.size)).size))
    obtain ⟨i0, hi, hz0, hz1, hz2⟩ := info_parts Try.infoInt
    clear hG hB2 hgl HN1
    obtain ⟨n, hn⟩ : ∃ n, n = (gnet l).length := ⟨_, rfl⟩
    rw [← hn]
    have HNN := Lib.hid hn
    clear hn
    go_wp2_with fail
    go_loopw [8, 9] (fun v i wr => ∃ (j : Nat), j ≤ l.length ∧ i = .int .i64 j ∧ Hid (OwnI wr w2.heap.size [] v (List.replicate j (-1))) ∧ Hid (Below w2.heap.size w2 wr)) (fun _ i _ => l.length - (intOf i).toNat)
    case atStart => exact ⟨0, Nat.zero_le _, rfl, ⟨.nil, by simp [rowBlk], by simp [rowBlk]⟩, Below.refl _ _⟩
    case round =>
      obtain ⟨j, hj, rfl, HO, HB⟩ := hrel
      by_cases hlt : j < l.length
      · have hd : decide (j < l.length) = true := by simpa using hlt
        have hrl : (List.replicate j (-1 : Int)).length ≤ 20 := by simp; omega
        go_wp2_with (at_builtin; refine wpList_append_row _ rfl _ _ 30 rfl 3 i0 (.int .i64 0) 1 8 Try.underlying30 hi hz0 hz1 hz2 rfl _ _ _ rfl (HO.out.row.keep (behind_of_below ((Below.refl _ _).alloc (Nat.le_refl _) _)) (by simp)) wr.heap.size 1 1 [.int .i64 (-1)] 3 rfl (heap_alloc_new wr _) rfl (by intro u hu; simp at hu; subst hu; rfl) (by omega) (by unfold maxLen; omega) (by omega) ?_)
        intro v9 w9 hr9 hB9 hn9
        have h09 : Behind wr (rowBlk u8) w9 := ((behind_of_below ((Below.refl _ _).alloc (Nat.le_refl _) _)).mono (by simp)).trans hB9 (fun k hk => .inl hk)
        have hr9 : RowV (inW w9) 3 1 v9 ((List.replicate j (-1 : Int)).length + 1) (ints (List.replicate j (-1)) ++ [.int .i64 (-1)]) := by rw [List.length_replicate]; exact hr9
        have hO9 := HO.out.grown HB.out.size (by simp) hr9 (fun g hg => (hn9 g hg).imp id (fun h => by first | omega | (simp at h; omega)))
        rw [← List.replicate_succ'] at hO9
        have HO9 := Lib.hid hO9
        have HB9 := Lib.hid (HB.out.trans (h09.below_of HO.out.ge HB.out.size))
        clear hO9 hr9 hB9 hn9 h09 HO HB hrl
        go_wp2_with fail
        go_roundw
        case rel => exact ⟨j + 1, by omega, by go_num, HO9, HB9⟩
        case measure => simp [intOf]; omega
      · obtain rfl : j = l.length := by omega
        obtain ⟨R, hR⟩ : ∃ R : List Int, R = List.replicate l.length (-1) := ⟨_, rfl⟩
        have hRl : R.length = l.length := by rw [hR]; simp
        have HO := HO.out
        rw [← hR] at HO
        replace hR := hR.trans (by rw [← HGL.out])
        obtain ⟨oa, oc, rfl, hoA⟩ := atN_own HO
        have K3 := Lib.hid (K2.out.go HB.out)
        have HOA := Lib.hid hoA
        have HRL := Lib.hid hRl
        have HI0 := Lib.hid hi
        have HI1 := Lib.hid hz0
        have HI2 := Lib.hid hz1
        have HI3 := Lib.hid hz2
        clear HO hoA HB hz0 hz1 hz2 hi hRl hj hlt K2
        by_cases hc : checkE (gnet l) ≠ 0
        · have hq : askE (gnet l) R (-1) = ((0, 0), checkE (gnet l)) := if_pos hc
          obtain ⟨E, hE⟩ : ∃ E, E = checkE (gnet l) := ⟨_, rfl⟩
          rw [← hE] at hq hc
          have hc1 : (E == 0) = false := beq_no hc
          have hc2 : (E != 0) = true := by simp [bne, hc1]
          have HQ := Lib.hid hq
          clear hE hc hR hq
          go_wp2_with fail
          rw [HNN.out]
          refine (ask_at wr.heap.size (gnet l) R p oa cp oc 0 0 E HQ.out HIN.out (by rw [HRL.out]; omega) HSZ.out wr (K3.out.net (p, gnet l) (by simp)) HOA.out (Nat.le_refl _)).mono ?_
          rintro r3 w3 ⟨rfl, hB3⟩
          have K4 := Lib.hid (K3.out.go hB3)
          clear hB3 K3
          go_wp2_with fail
          refine calls_gen fun u9 hu => ?_
          have K89 := Lib.hid (K4.out.go (by rw [hu]; exact below_one _ _ : Below w3.heap.size w3 u9))
          clear hu
          refine (works_law u9 ⟨M, below_cell K89.out.be (block_lt_of_cell HM.out) HM.out⟩).mono ?_
          rintro r90 w90 ⟨rfl, hB90⟩
          have K90 := Lib.hid (K89.out.go hB90)
          clear hB90
          go_wp2_with fail
          go_ret
          exact ⟨rfl, K90.out.be⟩

        have hc0 : checkE (gnet l) = 0 := Classical.not_not.1 hc
        obtain ⟨hq, ht⟩ := adds_open HIN.out hc0
        have hsm := ask_small HIN.out HSZ.out R (-1)
        rw [← hR] at hq ht
        rw [hq] at hsm
        have HC := Lib.hid hc0
        generalize rawQ (gnet l) R (gnet l).length [] = X at *
        obtain ⟨x1, x2⟩ := X
        have KT : Gives 16 #[.agg #[.string (nb x1), .string (nb x2)]] (.string (rtext (x1, x2))) := gRText (x1, x2) hsm
        rw [ht] at KT
        have HQ := Lib.hid hq
        clear hc hc0 hq ht hsm hR
        go_wp2_with fail
        rw [HNN.out]
        refine (ask_at wr.heap.size (gnet l) R p oa cp oc x1 x2 0 HQ.out HIN.out (by rw [HRL.out]; omega) HSZ.out wr (K3.out.net (p, gnet l) (by simp)) HOA.out (Nat.le_refl _)).mono ?_
        rintro r3 w3 ⟨rfl, hB3⟩
        have K4 := Lib.hid (K3.out.go hB3)
        clear hB3 K3 HQ HOA
        go_wp2_with fail
        refine calls_gen fun u1 hu => ?_
        have K5 := Lib.hid (K4.out.go (by rw [hu]; exact below_one _ _ : Below w3.heap.size w3 u1))
        clear hu K4
        refine (KT _).mono ?_
        rintro r4 w4 ⟨rfl, hB4⟩
        have K6 := Lib.hid (K5.out.go hB4)
        clear hB4 K5 KT
        go_wp2_with fail
        obtain ⟨⟨⟨q1, q2⟩, E⟩, hA⟩ : ∃ A, askE (gnet l) vs (-1) = A := ⟨_, rfl⟩
        have HA := Lib.hid hA
        clear hA
        refine (ask_at w4.heap.size (gnet l) vs p va cp vc q1 q2 E HA.out HIN.out (by omega) HSZ.out w4 (K6.out.net (p, gnet l) (by simp)) (K6.out.at' (va, ints vs) (by simp)) (Nat.le_refl _)).mono ?_
        rintro r5 w5 ⟨rfl, hB5⟩
        have K7 := Lib.hid (K6.out.go hB5)
        clear hB5 K6
        go_wp2_with fail
        refine calls_gen fun u1 hu => ?_
        have K8 := Lib.hid ((K7.out.go (by rw [hu]; exact below_one _ _ : Below w5.heap.size w5 u1)).addB (g := w5.heap.size) (o := .cells #[.string (nb q1), .string (nb q2)] 34 (0, 0)) (by rw [hu]; exact new_one _ _))
        clear hu K7
        obtain ⟨⟨L, G⟩, hP⟩ : ∃ A, postE (gnet l) vs v = A := ⟨_, rfl⟩
        have HP := Lib.hid hP
        clear hP
        refine (post_at u1.heap.size (gnet l) vs p va cp vc v L G HP.out HIN.out (by omega) HSZ.out u1 (K8.out.net (p, gnet l) (by simp)) (K8.out.at' (va, ints vs) (by simp)) (Nat.le_refl _)).mono ?_
        rintro r6 w6 ⟨ps, n6, cs, rfl, rfl, hAL, hB6⟩
        have K9 := Lib.hid ((K8.out.go hB6).addA hAL)
        clear hAL hB6 K8
        by_cases hE : E ≠ 0
        · have hG := post_shut HC.out HA.out HP.out (.inl hE)
          have hE1 : (E == 0) = false := beq_no hE
          have hE2 : (E != 0) = true := by simp [bne, hE1]
          subst hG
          clear hE
          go_wp2_with fail
          refine (works_law w6 ⟨M, below_cell K9.out.be (block_lt_of_cell HM.out) HM.out⟩).mono ?_
          rintro r90 w90 ⟨rfl, hB90⟩
          have K90 := Lib.hid (K9.out.go hB90)
          clear hB90
          go_wp2_with fail
          go_ret
          exact ⟨rfl, K90.out.be⟩

        obtain rfl : E = 0 := Classical.not_not.1 hE
        clear hE
        by_cases hv0 : v < 0
        · have hG := post_shut HC.out HA.out HP.out (.inr (.inl hv0))
          subst hG
          go_wp2_with fail
          refine (works_law w6 ⟨M, below_cell K9.out.be (block_lt_of_cell HM.out) HM.out⟩).mono ?_
          rintro r90 w90 ⟨rfl, hB90⟩
          have K90 := Lib.hid (K9.out.go hB90)
          clear hB90
          go_wp2_with fail
          go_ret
          exact ⟨rfl, K90.out.be⟩

        by_cases hvn : (l.length : Int) ≤ v
        · have hG := post_shut HC.out HA.out HP.out (.inr (.inr (by rw [HGL.out]; exact hvn)))
          subst hG
          go_wp2_with fail
          refine (works_law w6 ⟨M, below_cell K9.out.be (block_lt_of_cell HM.out) HM.out⟩).mono ?_
          rintro r90 w90 ⟨rfl, hB90⟩
          have K90 := Lib.hid (K9.out.go hB90)
          clear hB90
          go_wp2_with fail
          go_ret
          exact ⟨rfl, K90.out.be⟩

        obtain ⟨i, rfl⟩ : ∃ i : Nat, v = i := ⟨v.toNat, by omega⟩
        have hil : i < l.length := by omega
        obtain ⟨hvs, hq, hge, hG⟩ := post_open HIN.out HC.out (HSZ.out HC.out) HA.out (by rw [HGL.out]; exact hil) HP.out
        obtain ⟨x, hx⟩ : ∃ x, l[i]? = some x := ⟨_, List.getElem?_eq_getElem hil⟩
        obtain ⟨d, hdv⟩ : ∃ d, vs[i]? = some d := ⟨_, List.getElem?_eq_getElem (by rw [hvs, HGL.out]; exact hil)⟩
        obtain ⟨b, o, pa, pc, ta, tc, hb, rfl, k0, _⟩ := HN.out i x hx
        obtain ⟨eb, eo, heb, rfl, hce⟩ := HV.out i _ (ints_get _ _ _ hdv)
        have hgx : (gnet l)[i]? = some (gvar x) := by simp [gnet, hx]
        have hgood := check_ok HIN.out HC.out
        have hkb := hgood.kb i _ hgx
        obtain ⟨K, hK⟩ : ∃ K : Nat, x.k = K := ⟨x.k.toNat, by have : x.k = (gvar x).k := rfl; omega⟩
        have hka : kAt (gnet l) i = K := by rw [kAt_of hgx]; show x.k.toNat = K; omega
        have hK8 : K ≤ 8 := by have : x.k = (gvar x).k := rfl; omega
        rw [hK] at k0
        rw [hka] at hG
        have K0 := Lib.hid k0
        have HCE := Lib.hid hce
        have HG := Lib.hid hG
        have HKA := Lib.hid hka
        have hd1 := hge d hdv
        have hd0' : i < vs.length := by rw [hvs, HGL.out]; exact hil
        have HDV := Lib.hid hdv
        have HQE := Lib.hid hq
        have HVS := Lib.hid hvs
        have HGO := Lib.hid hgood
        clear hvs hq hge hG hdv hx k0 hce hgx hgood hkb hK hka
        have ce := below_cell K9.out.be heb HCE.out
        by_cases hd0 : d < 0
        · obtain rfl : d = -1 := by omega
          clear hd1 hd0
          go_wp2_with (at_builtin; refine wpList_append_old _ rfl _ _ 30 rfl 3 i0 (.int .i64 0) 1 8 Try.underlying30 HI0.out HI1.out HI2.out HI3.out rfl _ rfl _ _ _ (ints vs) rfl (fun j u hj => by
            obtain ⟨eb', eo', h1, e, h3⟩ := K9.out.at' (some ⟨eb, eo, none⟩, ints vs) (by simp) j u hj
            cases e
            rw [Addr.add_lit]
            exact below_cell (below_two _ _ _) h1 h3) (by simp [ints]) (by omega) (by unfold maxLen; omega) (by omega) ?_)
          intro g1 cap cur w7 hrow hbe hg1
          have hg1' : w6.heap.size ≤ g1 := by first | omega | (simp at hg1; omega)
          have HBW := Lib.hid ((below_two w6 _ _).trans (hbe.mono (by omega)))
          have m16 := (hbe.block w6.heap.size (by omega)).trans (new_two1 w6 _ _)
          have mO : w7.heap[g1]? = some (.cells cur 3 (0, 0)) := hrow.blk
          have hcs : cur.size = cap := by have := hrow.sz; omega
          have hct := hrow.tk
          rw [Nat.mul_one] at hct
          have hcap := hrow.le
          have HS9 := Lib.hid (HSZ.out HC.out)
          clear hrow hbe hg1 ce
          go_wp2_with fail
          go_loopw [18] (fun k wq => ∃ (j : Nat) (cu : Array Value) (e : Int), j ≤ K ∧ k = .int .i64 j ∧ wq.heap[g1]? = some (.cells cu 3 (0, 0)) ∧ cu.size = cap ∧ Hid (cu.toList.take vs.length = ints (vs.set i e)) ∧
              wq.heap[w6.heap.size]? = some (.cells #[.string (nb (rowR ((partsR (gnet l) vs i K).take j)).1), .string (nb (rowR ((partsR (gnet l) vs i K).take j)).2)] 34 (0, 0)) ∧ Hid (Below w6.heap.size w6 wq))
            (fun k _ => K - (intOf k).toNat)
          case atStart => exact ⟨0, cur, vs.getD i 0, Nat.zero_le _, rfl, mO, hcs, by unfold Hid; rw [hct]; simp [ints, hd0'], m16, HBW.out⟩
          case round =>
            obtain ⟨j, cu, e, hj, rfl, m1, hcu, HCU, m9, HB⟩ := hrel
            clear mO m16 HBW hct hcs
            by_cases hlt : j < K
            · have hdk : decide ((j : Int) < (K : Int)) = true := by simp; omega
              have k0r := below_cell (K9.out.be.trans (HB.out.mono K9.out.be.size)) hb K0.out
              have hci : cu[i]? = some (cu[i]'(by omega)) := Array.getElem?_eq_getElem (by omega)
              have cb := blk_cell m1 i hci
              have fb := blk_free m1 i
              have hwr1 := wrote_cell (o := i) (.int .i64 j) m1
              obtain ⟨W1, hW1⟩ : ∃ W1, W1 = wr.setCell ⟨g1, i, none⟩ (.int .i64 j) := ⟨_, rfl⟩
              rw [← hW1] at hwr1
              have hB1 : Below w6.heap.size w6 W1 := by rw [hW1]; exact HB.out.setCell hg1' _
              have hCU : (cu.setIfInBounds i (.int .i64 j)).toList.take vs.length = ints (vs.set i (j : Int)) := by
                rw [Array.toList_setIfInBounds, List.take_set, HCU.out]
                simp [ints, List.map_set]
              have hg1s := lt_of_heap hwr1.here
              have hV1 : AtN W1.heap.size W1 (some ⟨g1, 0, none⟩) (ints (vs.set i (j : Int))) := fun m v hv => by
                refine ⟨g1, 0, hg1s, rfl, ?_⟩
                rw [Nat.zero_add]
                refine blk_cell hwr1.here m ?_
                rw [← hCU] at hv
                have hm : m < vs.length := by
                  have := (List.getElem?_eq_some_iff.1 hv).1
                  simp at this; omega
                rw [List.getElem?_take, if_pos hm, Array.getElem?_toList] at hv
                exact hv
              have hS := ask_set HC.out HA.out (i := i) (j := j) (by rw [HKA.out]; exact hlt)
              have hSs := (raw_sm HGO.out HS9.out (vs.set i (j : Nat))).2
              have hTs := parts_sm HGO.out HS9.out vs i hK8 j
              have hRT := parts_next (l := gnet l) (ev := vs) (v := i) hlt
              generalize rawQ (gnet l) (vs.set i (j : Nat)) (gnet l).length [] = S at *
              obtain ⟨S1, S2⟩ := S
              have KS := ask_at W1.heap.size (gnet l) (vs.set i (j : Int)) p (some ⟨g1, 0, none⟩) cp cap S1 S2 0 hS HIN.out (by rw [List.length_set]; omega) HSZ.out W1 ((K9.out.go hB1).net (p, gnet l) (by simp)) hV1 (Nat.le_refl _)
              rw [List.length_set] at KS
              have q9 := (hwr1.block w6.heap.size (by have := lt_of_heap m9; omega) (by have := lt_of_heap m9; have := m1; intro e; subst e; rw [m9] at m1; cases m1)).trans m9
              have HRT := Lib.hid hRT
              have HCU1 := Lib.hid hCU
              have HW1 := Lib.hid hwr1.here
              have HB1 := Lib.hid hB1
              have hcs1 : (cu.setIfInBounds i (.int .i64 j)).size = cap := by simp [hcu]
              clear hRT hCU hB1 hV1 hwr1 hS m1 m9 HCU
              generalize cu.setIfInBounds i (.int .i64 j) = cu1 at *
              generalize rowR ((partsR (gnet l) vs i K).take j) = T at *
              have KA : Gives 30 #[.agg #[.string (nb T.1), .string (nb T.2)], .agg #[.string (nb S1), .string (nb S2)]] (.agg #[.string (nb (Q.add (nz T) (nz (S1, S2))).1), .string (nb (Q.add (nz T) (nz (S1, S2))).2)]) := gRAddB T (S1, S2) (hTs.mono (by omega)) (hSs.mono (by omega))
              generalize hU : Q.add (nz T) (nz (S1, S2)) = U at *
              clear hU hTs hSs
              go_wp2_with fail
              rw [← hW1]
              clear cb fb hW1 k0r
              refine KS.mono ?_
              rintro r8 w8 ⟨rfl, hB8⟩
              have p1 := (behind_of_below hB8).keep HW1.out (by simp)
              have p9 := (behind_of_below hB8).keep q9 (by simp)
              have HB8 := Lib.hid (HB1.out.trans (hB8.mono HB1.out.size))
              have p9a := (behind_of_below (below_one w8 (.cells #[.string (nb S1), .string (nb S2)] 34))).keep p9 (by simp)
              have c90 := blk_cell p9a 0 rfl
              have c91 := blk_cell p9a 1 rfl
              clear KS hB8 q9 HW1 p9a
              go_wp2_with fail
              clear c90 c91
              refine calls_gen fun u1 hu => ?_
              have hbu : Below w8.heap.size w8 u1 := by rw [hu]; exact below_one _ _
              clear hu
              have p1 := (behind_of_below hbu).keep p1 (by simp)
              have p9 := (behind_of_below hbu).keep p9 (by simp)
              refine (KA _).mono ?_
              rintro r10 w10 ⟨rfl, hB10⟩
              have HB10 := Lib.hid ((HB8.out.trans (hbu.mono HB8.out.size)).trans (hB10.mono (Nat.le_trans HB8.out.size hbu.size)))
              have p1 := (behind_of_below hB10).keep p1 (by simp)
              have p9 := (behind_of_below hB10).keep p9 (by simp)
              clear KA hB10 hbu
              have a0 := blk_cell p9 0 rfl
              have a1 := blk_cell p9 1 rfl
              have b0 := blk_free p9 0
              have b1 := blk_free p9 1
              have hr1 := wrote_cell (o := 0) (.string (nb U.1)) p9
              have hr2 := wrote_cell (o := 1) (.string (nb U.2)) hr1.here
              have h16 := hr2.here
              have hbh : Behind w10 [w6.heap.size] _ := ((Behind.refl w10 [w6.heap.size]).wrote hr1 (.inl (by simp))).wrote hr2 (.inl (by simp))
              have hne : g1 ≠ w6.heap.size := by intro e; subst e; rw [p1] at p9; cases p9
              have s1 := hbh.keep p1 (by simpa using hne)
              have HB11 := Lib.hid (HB10.out.trans (hbh.below_of (b := w6.heap.size) (by simp) HB10.out.size))
              clear hr1 hr2 hbh HB10 p1 p9 HB8 HB1 HB
              go_wp2_with fail
              go_roundw
              case rel => exact ⟨j + 1, cu1, _, by omega, by go_num, s1, hcs1, HCU1, by rw [HRT.out]; exact h16, HB11⟩
              case measure => simp [intOf]; omega
            · obtain rfl : j = K := by omega
              have hdk : decide ((j : Int) < (j : Int)) = false := by simp
              have k0r := below_cell (K9.out.be.trans (HB.out.mono K9.out.be.size)) hb K0.out
              obtain ⟨hcmp, hz1, hz2⟩ := split_cmp HGO.out HDV.out (by rw [HGL.out]; exact hil) HKA.out HQE.out
              have hTs := parts_sm HGO.out HS9.out vs i hK8 j
              have hqs := (raw_sm HGO.out HS9.out vs).2
              rw [← HQE.out] at hqs
              have KC : Gives 27 #[.agg #[.string (nb (rowR ((partsR (gnet l) vs i j).take j)).1), .string (nb (rowR ((partsR (gnet l) vs i j).take j)).2)], .agg #[.string (nb q1), .string (nb q2)]] (.int .i64 0) := by
                have := gRCmpB (rowR ((partsR (gnet l) vs i j).take j)) (q1, q2) (hTs.mono (by omega)) (hqs.mono (by omega))
                rwa [hcmp] at this
              have KQ : Gives 16 #[.agg #[.string (nb q1), .string (nb q2)]] (.string (rtext (q1, q2))) := gRText (q1, q2) (hqs.mono (by omega))
              have K11 := Lib.hid (K9.out.go HB.out)
              clear hcmp hTs hqs m1 HCU hcu HB hlt
              generalize rowR ((partsR (gnet l) vs i j).take j) = T at *
              have c160 := blk_cell m9 0 rfl
              have c161 := blk_cell m9 1 rfl
              have m12 := K11.out.bl (w5.heap.size, .cells #[.string (nb q1), .string (nb q2)] 34 (0, 0)) (by simp)
              have c120 := blk_cell m12 0 rfl
              have c121 := blk_cell m12 1 rfl
              rcases HG.out with ⟨hG, h0⟩ | ⟨hG, h0, hLl, hLs, hLt, hL1⟩
              · subst hG
                rw [hz1 h0] at KQ
                clear hz1 hz2
                go_wp2_with fail
                refine (KC _).mono ?_
                rintro r20 w20 ⟨rfl, hB20⟩
                have K20 := Lib.hid (K11.out.go hB20)
                have m12 := K20.out.bl (w5.heap.size, .cells #[.string (nb q1), .string (nb q2)] 34 (0, 0)) (by simp)
                have d120 := blk_cell m12 0 rfl
                have d121 := blk_cell m12 1 rfl
                clear c160 c161 c120 c121 hB20 KC m9 k0r
                go_wp2_with fail
                refine (KQ _).mono ?_
                rintro r21 w21 ⟨rfl, hB21⟩
                have K21 := Lib.hid (K20.out.go hB21)
                clear d120 d121 hB21 KQ m12

                clear h0
                go_wp2_with fail
                refine (works_law w21 ⟨M, below_cell K21.out.be (block_lt_of_cell HM.out) HM.out⟩).mono ?_
                rintro r90 w90 ⟨rfl, hB90⟩
                have K90 := Lib.hid (K21.out.go hB90)
                clear hB90
                go_wp2_with fail
                go_ret
                exact ⟨rfl, K90.out.be⟩

              · subst hG
                have HLL := Lib.hid hLl
                have HLS := Lib.hid hLs
                have HLT := Lib.hid hLt
                have HL1 := Lib.hid hL1
                have hL8 : L.length ≤ 8 := by rw [hLl]; exact hK8
                clear hLl hLs hLt hL1
                have hq0 := hz2 h0
                clear hz1 hz2
                generalize rtext (q1, q2) = TQ at *
                go_wp2_with fail
                refine (KC _).mono ?_
                rintro r20 w20 ⟨rfl, hB20⟩
                have K20 := Lib.hid (K11.out.go hB20)
                have m12 := K20.out.bl (w5.heap.size, .cells #[.string (nb q1), .string (nb q2)] 34 (0, 0)) (by simp)
                have d120 := blk_cell m12 0 rfl
                have d121 := blk_cell m12 1 rfl
                clear c160 c161 c120 c121 hB20 KC m9 k0r
                go_wp2_with fail
                refine (KQ _).mono ?_
                rintro r21 w21 ⟨rfl, hB21⟩
                have K21 := Lib.hid (K20.out.go hB21)
                clear d120 d121 hB21 KQ m12

                clear h0
                go_wp2_with fail
                refine wp_gen ?_
                intro u1 hu
                have hBU : Hid (Below w21.heap.size w21 u1) := by rw [hu]; exact below_one _ _
                have KU := Lib.hid (K21.out.go (by rw [hu]; exact below_one _ _ : Below w21.heap.size w21 u1))
                have m21 : u1.heap[w21.heap.size]? = some (.cells #[.string (nb 0), .string (nb 0)] 34 (0, 0)) := by rw [hu]; exact new_one _ _
                have hP1 : AtN w21.heap.size u1 ps (rats L) := by rw [hu]; exact (K21.out.at' (ps, rats L) (by simp)).below (below_one _ _) (Nat.le_refl _)
                have HP1 := Lib.hid hP1
                clear hu hP1
                refine wp_code (c' := loopNo Try.f7 2) (by kernel_rfl) ?_
                refine adds_loop3 _ w21.heap.size L ps cs u1 HP1.out (by omega) HLS.out HLT.out m21 ?_
                intro y138 y139 y140 y141 y142 y143 y144 y145 w30 m30 hB30
                have K30 := Lib.hid (K21.out.go ((by exact hBU.out : Below w21.heap.size w21 u1).trans hB30))
                have k0' := below_cell K30.out.be hb K0.out
                have KT1 : Gives 16 #[.agg #[.string (nb (rowR L).1), .string (nb (rowR L).2)]] (.string (rtext (rowR L))) := gRText (rowR L) (by have := HLT.out L.length; rw [List.take_length] at this; exact this.mono (by omega))
                rw [HL1.out] at KT1
                have c30 := blk_cell m30 0 rfl
                have c31 := blk_cell m30 1 rfl
                have hLK : (L.length : Int) = j := by rw [HLL.out]
                generalize rowR L = T at *
                clear hB30 m30 KU
                rw [hLK]
                go_wp2_with fail
                refine (KT1 _).mono ?_
                rintro r31 w31 ⟨rfl, hB31⟩
                have K31 := Lib.hid (K30.out.go hB31)
                have k0'' := below_cell K31.out.be hb K0.out
                clear hB31 c30 c31 k0'
                go_wp2_with fail
                refine (works_law w31 ⟨M, below_cell K31.out.be (block_lt_of_cell HM.out) HM.out⟩).mono ?_
                rintro r90 w90 ⟨rfl, hB90⟩
                have K90 := Lib.hid (K31.out.go hB90)
                clear hB90
                go_wp2_with fail
                go_ret
                exact ⟨rfl, K90.out.be⟩

        · have hd2 : ¬ (d < 0) := hd0
          rcases HG.out with ⟨hG, h0⟩ | ⟨hG, h0, hLl, hLs, hLt, hL1⟩
          · subst hG

            clear h0
            go_wp2_with fail
            refine (works_law w6 ⟨M, below_cell K9.out.be (block_lt_of_cell HM.out) HM.out⟩).mono ?_
            rintro r90 w90 ⟨rfl, hB90⟩
            have K90 := Lib.hid (K9.out.go hB90)
            clear hB90
            go_wp2_with fail
            go_ret
            exact ⟨rfl, K90.out.be⟩

          · subst hG
            have HLL := Lib.hid hLl
            have HLS := Lib.hid hLs
            have HLT := Lib.hid hLt
            have HL1 := Lib.hid hL1
            have hL8 : L.length ≤ 8 := by rw [hLl]; exact hK8
            clear hLl hLs hLt hL1

            clear h0
            go_wp2_with fail
            refine wp_gen ?_
            intro u1 hu
            have hBU : Hid (Below w6.heap.size w6 u1) := by rw [hu]; exact below_one _ _
            have KU := Lib.hid (K9.out.go (by rw [hu]; exact below_one _ _ : Below w6.heap.size w6 u1))
            have m21 : u1.heap[w6.heap.size]? = some (.cells #[.string (nb 0), .string (nb 0)] 34 (0, 0)) := by rw [hu]; exact new_one _ _
            have hP1 : AtN w6.heap.size u1 ps (rats L) := by rw [hu]; exact (K9.out.at' (ps, rats L) (by simp)).below (below_one _ _) (Nat.le_refl _)
            have HP1 := Lib.hid hP1
            clear hu hP1
            refine wp_code (c' := loopNo Try.f7 2) (by kernel_rfl) ?_
            refine adds_loop3 _ w6.heap.size L ps cs u1 HP1.out (by omega) HLS.out HLT.out m21 ?_
            intro y138 y139 y140 y141 y142 y143 y144 y145 w30 m30 hB30
            have K30 := Lib.hid (K9.out.go ((by exact hBU.out : Below w6.heap.size w6 u1).trans hB30))
            have k0' := below_cell K30.out.be hb K0.out
            have KT1 : Gives 16 #[.agg #[.string (nb (rowR L).1), .string (nb (rowR L).2)]] (.string (rtext (rowR L))) := gRText (rowR L) (by have := HLT.out L.length; rw [List.take_length] at this; exact this.mono (by omega))
            rw [HL1.out] at KT1
            have c30 := blk_cell m30 0 rfl
            have c31 := blk_cell m30 1 rfl
            have hLK : (L.length : Int) = K := by rw [HLL.out]
            generalize rowR L = T at *
            clear hB30 m30 KU
            rw [hLK]
            go_wp2_with fail
            refine (KT1 _).mono ?_
            rintro r31 w31 ⟨rfl, hB31⟩
            have K31 := Lib.hid (K30.out.go hB31)
            have k0'' := below_cell K31.out.be hb K0.out
            clear hB31 c30 c31 k0'
            go_wp2_with fail
            refine (works_law w31 ⟨M, below_cell K31.out.be (block_lt_of_cell HM.out) HM.out⟩).mono ?_
            rintro r90 w90 ⟨rfl, hB90⟩
            have K90 := Lib.hid (K31.out.go hB90)
            clear hB90
            go_wp2_with fail
            go_ret
            exact ⟨rfl, K90.out.be⟩
end Go.Proofs.Ytbacloneddnaeaa
