/- Texts of this claim, joined: BEncW. -/
import Derived.Test.YtbacloneddnaeaaE39
import Derived.Test.YtbacloneddnaeaaE38

/- BayesEncodes: the walk. -/
namespace Go.Proofs.Ytbacloneddnaeaa
open Go.RowKit Go.Shelf Num

theorem ind_nil (N : Nat) (w : World) (a : Option Addr) : IndAt N w a [] := fun i xs h => by simp at h

theorem enc_prog {l : List BV} (hn : NetIn l) (hs : ∀ (i : Nat) (x : BV), l[i]? = some x → ∀ p ∈ x.tab, Sm 1000 p) (N : Nat) (a : Option Addr) (c : Nat) (w : World) (hN : NetAt N w a l) (hw : N ≤ w.heap.size) :
    Calls Try.prog 17 #[.slice a l.length c] w fun r w' => ∃ la lc wa wc ha hc ia ic, r = .returned (.tuple #[.agg #[.int .i64 ((encL l).n : Nat), .slice la (encL l).L.length lc], .agg #[.slice wa (encL l).low.length wc, .slice ha (encL l).high.length hc], .slice ia (encL l).ind.length ic, .int .i64 (checkE l)]) ∧
      IndAt w'.heap.size w' la (encL l).L ∧ AtN w'.heap.size w' wa (rats (encL l).low) ∧ AtN w'.heap.size w' ha (rats (encL l).high) ∧ IndAt w'.heap.size w' ia (encL l).ind ∧ Below w.heap.size w w' := by
  refine (encode_law gBOne N l a c hn w hN hw).mono ?_
  rintro r w' ⟨hB, ⟨hc, rfl⟩ | ⟨hc, gT, gW, gI, ep, rfl, hE⟩⟩
  · have e : encL l = ⟨0, [], [], [], []⟩ := if_pos hc
    rw [e]
    exact ⟨none, 0, none, 0, none, 0, none, 0, rfl, ind_nil _ _ _, fun i v h => by simp [rats] at h, fun i v h => by simp [rats] at h, ind_nil _ _ _, hB⟩
  · have e : encL l = ⟨(encOf l).N, (encOf l).L, (encOf l).low, (encOf l).high, (encOf l).ind⟩ := if_neg (by rw [hc]; simp)
    have hok := encOf_ok (encFit hn hc) hs
    obtain ⟨la, lc, h1, h2⟩ := ind_of hE.rC (fun i v xs k1 k2 => (hE.oC i v xs k1 k2).1.anyM)
    obtain ⟨ia, ic, h3, h4⟩ := ind_of hE.rI (fun i v xs k1 k2 => (hE.oI i v xs k1 k2).1.anyM)
    have hrow : ∀ {g n cap : Nat} {xs : List Value} {cur : Array Value}, RowB (inW w') 34 2 g n cap xs cur → AtN w'.heap.size w' (some ⟨g, 0, none⟩) xs := fun {g n cap xs cur} h => by
      obtain ⟨a, c, e1, e2, _⟩ := OutN.row (M := []) (RowV.row h) (by simp)
      cases e1
      exact fun i v hi => by
        obtain ⟨g', o, _, e, k⟩ := e2 i v hi
        exact ⟨g', o, block_lt_of_cell k, e, k⟩
    rw [e, hc, h1, h3]
    refine ⟨la, lc, some ⟨ep.gL, 0, none⟩, ep.capL, some ⟨ep.gH, 0, none⟩, ep.capH, ia, ic, ?_, h2, hrow hE.rL, hrow hE.rH, h4, hB⟩
    simp only [hok.low, hok.high]
theorem enc_ref {l : List RV} (hl : Lit l) (hs : ∀ (i : Nat) (x : BV), (gnet l)[i]? = some x → ∀ p ∈ x.tab, Sm 1000 p) (N : Nat) (a : Option Addr) (c : Nat) (w : World) (hN : RefAt N w a l) (hw : N ≤ w.heap.size) :
    Calls Try.prog 18 #[.slice a l.length c] w fun r w' => ∃ la lc ha hc ia ic, r = .returned (.tuple #[.agg #[.int .i64 ((encL (gnet l)).n : Nat), .slice la (encL (gnet l)).L.length lc, .slice ha (encL (gnet l)).high.length hc, .slice ia (encL (gnet l)).ind.length ic], .int .i64 (checkE (gnet l))]) ∧
      IndAt w'.heap.size w' la (encL (gnet l)).L ∧ AtN w'.heap.size w' ha (strs ((encL (gnet l)).high.map rtext)) ∧ IndAt w'.heap.size w' ia (encL (gnet l)).ind ∧ Below w.heap.size w w' := by
  refine (xencode_law N l a c hl w hN hw).mono ?_
  rintro r w' ⟨hB, ⟨hc, rfl⟩ | ⟨hc, la, lc, ha, hac, ia, ic, rfl, h1, h2, h3⟩⟩
  · have e : encL (gnet l) = ⟨0, [], [], [], []⟩ := if_pos hc
    rw [e]
    exact ⟨none, 0, none, 0, none, 0, rfl, ind_nil _ _ _, fun i v h => by simp [strs] at h, ind_nil _ _ _, hB⟩
  · have e : encL (gnet l) = ⟨(encOf (gnet l)).N, (encOf (gnet l)).L, (encOf (gnet l)).low, (encOf (gnet l)).high, (encOf (gnet l)).ind⟩ := if_neg (by rw [hc]; simp)
    have hok := encOf_ok (encFit (lit_in hl) hc) hs
    rw [e, hc]
    refine ⟨la, lc, ha, hac, ia, ic, ?_, h1, h2, h3, hB⟩
    simp only [hok.high]

set_option maxHeartbeats 3200000 in
set_option maxRecDepth 100000 in
theorem encodes_law (l : List RV) (a : Option Addr) (c : Nat) (hts : ∀ x ∈ l, x.ts.length ≤ 20000000000000 ∧ x.ps.length ≤ 20000000000000) (hll : l.length ≤ 20000000000000) (w : World) (hN : RefAt w.heap.size w a l) (hM : ∃ m, w.cell? ⟨0, 0, none⟩ = some (.int .i64 m)) :
    Calls Try.prog 5 #[.slice a l.length c] w fun e w' => e = .returned (.bool true) ∧ Below w.heap.size w w' := by
  obtain ⟨M, hM⟩ := hM
  have HM := Lib.hid hM
  have HN := Lib.hid hN
  have HTS := Lib.hid hts
  clear hM hN hts
  go_enter Try.func5, Try.ntmps5
  go_wp2_with fail
  refine (few_law w.heap.size l a c HTS.out hll w HN.out (Nat.le_refl _)).mono ?_
  rintro r1 w1 ⟨b, rfl, hb, hB1⟩
  cases b with
  | false =>
    have HB1 := Lib.hid hB1
    clear hb hB1
    go_wp2_with fail
    refine (works_law w1 ⟨M, below_cell HB1.out (block_lt_of_cell HM.out) HM.out⟩).mono ?_
    rintro r90 w90 ⟨rfl, hB90⟩
    have HB90 := Lib.hid (HB1.out.trans (hB90.mono HB1.out.size))
    clear hB90
    go_wp2_with fail
    go_ret
    exact ⟨rfl, HB90.out⟩
  | true =>
    have HB1 := Lib.hid hB1
    have HFP := Lib.hid (hb rfl)
    have HL := Lib.hid (few_lit HFP.out)
    have HIN := Lib.hid (lit_in HL.out)
    have hsm : ∀ (i : Nat) (x : BV), (gnet l)[i]? = some x → ∀ p ∈ x.tab, Sm 1000 p := fun i x hx p hp => by
      obtain ⟨y, hy, rfl⟩ := List.mem_map.1 (List.mem_of_getElem? hx)
      obtain ⟨t, ht, rfl⟩ := List.mem_map.1 hp
      exact (raw_small ((HL.out.ts y hy).2 t ht)).2.mono (by omega)
    have HOK := Lib.hid (encL_ok HIN.out hsm)
    have HSM := Lib.hid hsm
    clear hb hB1 hsm
    go_wp2_with fail
    refine (given_law w.heap.size l a c HL.out w1 (HN.out.below HB1.out (Nat.le_refl _)) HB1.out.size ⟨M, below_cell HB1.out (block_lt_of_cell HM.out) HM.out⟩).mono ?_
    rintro r2 w2 ⟨v, cs, rfl, hG, hB2⟩
    obtain ⟨p, n, cp, rfl, hn⟩ : ∃ p n cp, v = .slice p n cp ∧ n = (gnet l).length := by
      obtain ⟨p, cp, h⟩ := hG.row.slice
      exact ⟨p, _, cp, h, rfl⟩
    have HB2 := Lib.hid (HB1.out.trans (hB2.mono HB1.out.size))
    have HG := Lib.hid hG.net
    have HNN := Lib.hid hn
    clear hG hB2 hn HB1
    go_wp2_with fail
    rw [HNN.out]
    refine (enc_prog HIN.out HSM.out w2.heap.size p cp w2 HG.out (Nat.le_refl _)).mono ?_
    rintro r3 w3 ⟨la, lc, wa, wc, ha, hc, ia, ic, rfl, hL3, hW3, hH3, hI3, hB3⟩
    have HB3 := Lib.hid (HB2.out.trans (hB3.mono HB2.out.size))
    have HL3 := Lib.hid hL3
    have HW3 := Lib.hid hW3
    have HH3 := Lib.hid hH3
    have HI3 := Lib.hid hI3
    obtain ⟨E, hE⟩ : ∃ E, E = checkE (gnet l) := ⟨_, rfl⟩
    have KR := fun (w' : World) (hN' : RefAt w'.heap.size w' a l) => enc_ref HL.out HSM.out w'.heap.size a c w' hN' (Nat.le_refl _)
    rw [← hE] at KR ⊢
    have HOK2 := HOK.out
    generalize encL (gnet l) = S at *
    obtain ⟨nS, LS, low, high, ind⟩ := S
    obtain ⟨hlh, ⟨hl1, hl2, hl3⟩, hone, hsmh, hcl, hind⟩ := HOK2
    simp only at hlh hl1 hl2 hl3 hone hsmh hcl hind
    have HLH := Lib.hid hlh
    have HONE := Lib.hid hone
    have HSMH := Lib.hid hsmh
    have HCL := Lib.hid hcl
    have HIND := Lib.hid hind
    have hlh2 : high.length ≤ 1000 := by omega
    have KR2 := Lib.hid KR
    clear hL3 hW3 hH3 hI3 hB3 hE HB2 HG HOK KR hlh hone hsmh hcl hind
    go_wp2_with fail
    refine calls_gen fun u1 hu => ?_
    have m3 : u1.heap[w3.heap.size]? = some (.cells #[.int .i64 (nS : Nat), .slice la LS.length lc] 43 (0, 0)) := by rw [hu]; exact new_two1 _ _ _
    have m4 : u1.heap[w3.heap.size + 1]? = some (.cells #[.slice wa low.length wc, .slice ha high.length hc] 46 (0, 0)) := by rw [hu]; exact new_two2 _ _ _
    have hbu : Below w3.heap.size w3 u1 := by rw [hu]; exact below_two _ _ _
    have hBu := HB3.out.trans (hbu.mono HB3.out.size)
    clear hu
    refine (KR2.out u1 ((HN.out.below hBu (Nat.le_refl _)).mono' hBu.size)).mono ?_
    rintro r4 w4 ⟨la', lc', ha', hc', ia', ic', rfl, hL4, hH4, hI4, hB4⟩
    obtain ⟨W5, hW5⟩ : ∃ W5, W5 = w4.alloc (.cells #[.int .i64 (nS : Nat), .slice la' LS.length lc', .slice ha' high.length hc', .slice ia' ind.length ic'] 51 (0, 0)) := ⟨_, rfl⟩
    have hb5 : Below w4.heap.size w4 W5 := by rw [hW5]; exact below_one _ _
    have hb35 : Below w3.heap.size w3 W5 := hbu.trans ((hB4.trans (hb5.mono hB4.size)).mono hbu.size)
    have M3 := Lib.hid ((behind_of_below hb5).keep ((behind_of_below hB4).keep m3 (by simp)) (by simp))
    have M4 := Lib.hid ((behind_of_below hb5).keep ((behind_of_below hB4).keep m4 (by simp)) (by simp))
    have M7 := Lib.hid (show W5.heap[w4.heap.size]? = some (.cells #[.int .i64 (nS : Nat), .slice la' LS.length lc', .slice ha' high.length hc', .slice ia' ind.length ic'] 51 (0, 0)) by rw [hW5]; exact new_one _ _)
    have HB5 := Lib.hid (HB3.out.trans (hb35.mono HB3.out.size))
    have HL5 := Lib.hid ((HL3.out.below hb35 (Nat.le_refl _)).mono hb35.size)
    have HW5 := Lib.hid ((HW3.out.below hb35 (Nat.le_refl _)).mono hb35.size)
    have HH5 := Lib.hid ((HH3.out.below hb35 (Nat.le_refl _)).mono hb35.size)
    have HI5 := Lib.hid ((HI3.out.below hb35 (Nat.le_refl _)).mono hb35.size)
    have HL6 := Lib.hid ((hL4.below hb5 (Nat.le_refl _)).mono hb5.size)
    have HH6 := Lib.hid ((hH4.below hb5 (Nat.le_refl _)).mono hb5.size)
    have HI6 := Lib.hid ((hI4.below hb5 (Nat.le_refl _)).mono hb5.size)
    have c30 := blk_cell M3.out 0 rfl
    have c31 := blk_cell M3.out 1 rfl
    rw [hW5] at c30 c31
    have hlh := HLH.out
    have HWW := Lib.hid hW5
    clear m3 m4 hbu hBu hL4 hH4 hI4 hB4 hb5 hb35 HL3 HW3 HH3 HI3 HB3 KR2 hW5
    go_wp2_with fail
    rw [← HWW.out]
    clear c30 c31 HWW
    refine (xtheory_law (nS : Nat) LS la la' lc lc' (by omega) (fun xs hx => by have := HCL.out xs hx; omega) W5 HL5.out HL6.out).mono ?_
    rintro r6 w6 ⟨rfl, hB6⟩
    have c41 := blk_cell ((behind_of_below hB6).keep M4.out (by simp)) 1 rfl
    have c72 := blk_cell ((behind_of_below hB6).keep M7.out (by simp)) 2 rfl
    have KX := texts_law W5.heap.size high (high.map rtext) ha ha' hc hc' (fun p hp => (HSMH.out p hp).mono (by omega)) (by omega) (by rw [List.length_map]; omega) w6 (HH5.out.below hB6 (Nat.le_refl _)) (HH6.out.below hB6 (Nat.le_refl _)) hB6.size
    rw [List.length_map, show textsB high (high.map rtext) = true from decide_eq_true rfl] at KX
    have HB6 := Lib.hid hB6
    clear hB6
    go_wp2_with fail
    refine KX.mono ?_
    rintro r7 w7 ⟨rfl, hB7⟩
    have HB7 := Lib.hid (HB6.out.trans (hB7.mono HB6.out.size))
    have c40 := blk_cell ((behind_of_below HB7.out).keep M4.out (by simp)) 0 rfl
    have c72' := blk_cell ((behind_of_below HB7.out).keep M7.out (by simp)) 2 rfl
    have c73 := blk_cell ((behind_of_below HB7.out).keep M7.out (by simp)) 3 rfl
    clear KX hB7 c41 c72 HB6
    go_wp2_with fail
    clear c40 c72' c73
    have hl7 := lt_of_heap M7.out
    have hl4 := lt_of_heap M4.out
    have C73 := Lib.hid (blk_cell M7.out 3 rfl)
    have C40 := Lib.hid (blk_cell M4.out 0 rfl)
    go_loopw [9] (fun i wr => ∃ j : Nat, j ≤ ind.length ∧ i = .int .i64 j ∧ Hid (Below W5.heap.size W5 wr)) (fun i _ => ind.length - (intOf i).toNat)
    case atStart => exact ⟨0, Nat.zero_le _, rfl, HB7.out⟩
    case round =>
      obtain ⟨j, hj, rfl, HBR⟩ := hrel
      clear HB7
      by_cases hlt : j < ind.length
      · have hd : decide (j < ind.length) = true := by simpa using hlt
        obtain ⟨xs, hxs⟩ : ∃ xs, ind[j]? = some xs := ⟨_, List.getElem?_eq_getElem hlt⟩
        have hxl := HIND.out xs (List.mem_of_getElem? hxs)
        obtain ⟨b1, o1, pa1, pc1, hb1, rfl, k1, hx1⟩ := HI5.out j xs hxs
        obtain ⟨b2, o2, pa2, pc2, hb2, rfl, k2, hx2⟩ := HI6.out j xs hxs
        have K1 := Lib.hid k1
        have K2 := Lib.hid k2
        have KS : ∀ z : World, Below W5.heap.size W5 z → GivesFrom z 21 #[.slice pa1 xs.length pc1, .slice pa2 xs.length pc2] (.bool true) := fun z hz w' hb =>
          xsame_law z.heap.size xs pa1 pa2 pc1 pc2 (by omega) w' (((hx1.below hz (Nat.le_refl _)).mono hz.size).below hb (Nat.le_refl _)) (((hx2.below hz (Nat.le_refl _)).mono hz.size).below hb (Nat.le_refl _)) hb.size
        have HKS := Lib.hid KS
        clear hxs k1 k2 hx1 hx2 KS
        go_wp2_with fail
        refine wp_game [0, 0, 0, 0, 0, 0, 0, 0, 0, 0, 0] [] B0 fin_B0 (has_B0 _) (by kernel_rfl) (by kernel_rfl) ?_
        refine lex_quietE 11 (by kernel_rfl) (by rfl) ?_
        apply Exists.intro
        refine ⟨fun z hz => ?_, ?_⟩
        · have hwz := HBR.out.trans (hz.below_of (b := W5.heap.size) (by simp) HBR.out.size)
          have g0 := below_cellp hwz K1.out hb1
          have g1 := below_cellp hwz K2.out hb2
          have g3 := below_cellp hwz C73.out hl7
          have KSz := HKS.out z hwz
          clear hz hwz
          simp only [List.take_succ_cons, List.take_zero]
          unfold Cx
          repeat (go_big_quiet_step (with_reducible exact KSz.at _))
          exact wpQuiet_nil rfl
        simp only [List.drop_succ_cons, List.drop_zero]
        refine lex_nil ?_
        intro x7 hx7 _
        have HB7 := Lib.hid (HBR.out.trans (hx7.below_of (b := W5.heap.size) (by simp) HBR.out.size))
        clear hx7 HBR K1 K2 HKS
        go_wp2_with fail
        go_roundw
        case rel => exact ⟨j + 1, by omega, by go_num, HB7⟩
        case measure => simp [intOf]; omega
      · obtain rfl : j = ind.length := by omega
        have hd : decide (ind.length < ind.length) = false := by simp
        have KT : Gives 16 #[.agg #[.string (nb 1), .string (nb 1)]] (.string { data := #[49] }) := by
          have := gRText (1, 1) ⟨by decide, by decide⟩
          rw [rtext_one] at this
          exact this
        go_wp2_with fail
        obtain ⟨w8, rfl⟩ : ∃ w8, w8 = wr := ⟨_, rfl⟩
        go_loopw [10] (fun i wr => ∃ j : Nat, j ≤ low.length ∧ i = .int .i64 j ∧ Hid (Below W5.heap.size W5 wr)) (fun i _ => low.length - (intOf i).toNat)
        case atStart => exact ⟨0, Nat.zero_le _, rfl, HBR.out⟩
        case round =>
          obtain ⟨v, hv, rfl, HBV⟩ := hrel
          clear HBR
          have d40 := below_cell HBV.out hl4 C40.out
          by_cases hvl : v < low.length
          · have hdv : decide (v < low.length) = true := by simpa using hvl
            obtain ⟨q, hq⟩ : ∃ q, low[v]? = some q := ⟨_, List.getElem?_eq_getElem hvl⟩
            obtain rfl := HONE.out q (List.mem_of_getElem? hq)
            obtain ⟨bw, ow, hbw, rfl, q0⟩ := HW5.out _ _ (rats_get hq).1
            obtain ⟨bw', ow', _, e', q1⟩ := HW5.out _ _ (rats_get hq).2
            cases e'
            have g0 := below_cell HBV.out hbw q0
            have g1 := below_cell HBV.out hbw (show W5.cell? ⟨bw, ow + v * 2 + 1, none⟩ = some (.string (nb 1)) from q1)
            clear hq q0 q1
            go_wp2_with fail
            clear g0 g1 d40
            refine (KT _).mono ?_
            rintro r9 w9 ⟨rfl, hB9⟩
            have HB9 := Lib.hid (HBV.out.trans (hB9.mono HBV.out.size))
            clear hB9 HBV
            go_wp2_with fail
            go_roundw
            case rel => exact ⟨v + 1, by omega, by go_num, HB9⟩
            case measure => simp [intOf]; omega
          · obtain rfl : v = low.length := by omega
            have hdv : decide (low.length < low.length) = false := by simp
            have HB10 := Lib.hid (HB5.out.trans (HBV.out.mono HB5.out.size))
            go_wp2_with fail
            refine (works_law wr ⟨M, below_cell HB10.out (block_lt_of_cell HM.out) HM.out⟩).mono ?_
            rintro r90 w90 ⟨rfl, hB90⟩
            have HB90 := Lib.hid (HB10.out.trans (hB90.mono HB10.out.size))
            clear hB90
            go_wp2_with fail
            go_ret
            exact ⟨rfl, HB90.out⟩
end Go.Proofs.Ytbacloneddnaeaa
