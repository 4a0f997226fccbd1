/- Texts of this claim, joined: BRefS, BRefC, BRefE, BRefP, BChecks. -/
import Derived.Test.YtbacloneddnaeaaGreatP38
import Derived.Test.YtbacloneddnaeaaGreatP37
import Derived.Test.YtbacloneddnaeaaGreatP20
import Derived.Test.YtbacloneddnaeaaGreatP10
import Derived.Test.YtbacloneddnaeaaGreatP27

/- censusref40.sums. -/
namespace Go.Proofs.YtbacloneddnaeaaGreat
open Go.RowKit Go.Shelf Num

def SumsP (x : RV) (rows : Nat) : Prop := ∀ j, j < rows → nz (rowR (rowAt (gvar x) j)) = (1, 1)

set_option maxHeartbeats 3200000 in
set_option maxRecDepth 100000 in
theorem sums_law (x : RV) (rows K : Nat) (hk : x.k = K) (hr : rows * K = x.ts.length) (hK1 : 1 ≤ K) (hK8 : K ≤ 8) (htl : x.ts.length ≤ 1000) (hs : ∀ t ∈ x.ts, t.size ≤ 9) (N : Nat) (pa ta : Option Addr) (np pc tc : Nat) (w : World) (hta : AtN N w ta (strs x.ts)) (hw : N ≤ w.heap.size) :
    Calls Tryz.prog 51 #[.agg #[.int .i64 K, .slice pa np pc, .slice ta x.ts.length tc], .int .i64 rows] w fun e w' => ∃ b : Bool, e = .returned (.bool b) ∧ (b = true ↔ SumsP x rows) ∧ Below w.heap.size w w' := by
  obtain ⟨R, hR⟩ : ∃ R : Ending → World → Prop, R = fun e w' => ∃ b : Bool, e = .returned (.bool b) ∧ (b = true ↔ SumsP x rows) ∧ Below w.heap.size w w' := ⟨_, rfl⟩
  rw [← hR]
  have HR := Lib.hid hR
  clear hR
  have HTA := Lib.hid hta
  have HS := Lib.hid hs
  have HW := Lib.hid hw
  have HK := Lib.hid hk
  have hrl : rows ≤ 1000 := by have := Nat.mul_le_mul_left rows hK1; omega
  clear hta hs hw hk
  go_enter Tryz.func51, Tryz.ntmps51
  go_wp2_with fail
  refine wp_gen ?_
  intro w1 hw1
  have m2 : w1.heap[w.heap.size]? = some (.cells #[.int .i64 K, .slice pa np pc, .slice ta x.ts.length tc] 49 (0, 0)) := by rw [hw1]; exact heap_alloc_new w _
  have hB1 : Below w.heap.size w w1 := by rw [hw1]; exact (Below.refl _ _).alloc (Nat.le_refl _) _
  have M2 := Lib.hid m2
  have HB1 := Lib.hid hB1
  have HTA1 := Lib.hid (HTA.out.below hB1 HW.out)
  have hwl := lt_of_heap m2
  clear hw1 m2 hB1 HTA
  go_loopw [5] (fun i wr => ∃ j : Nat, j ≤ rows ∧ i = .int .i64 j ∧ Hid (∀ m, m < j → nz (rowR (rowAt (gvar x) m)) = (1, 1)) ∧ Hid (Below w1.heap.size w1 wr))
    (fun i _ => rows - (intOf i).toNat)
  case atStart => exact ⟨0, Nat.zero_le _, rfl, fun m h => by omega, Below.refl _ _⟩
  case round =>
    obtain ⟨j, hj, rfl, HP, HB⟩ := hrel
    have hNw := HW.out
    by_cases hlt : j < rows
    · have hd : decide (j < rows) = true := by simpa using hlt
      have KZ : Gives 33 #[] (.agg #[.string (dec 0), .string (dec 1)]) := gXZero
      have KO : Gives 80 #[] (.agg #[.string (dec 1), .string (dec 1)]) := gXOne
      have hJK : j * K + K ≤ x.ts.length := by
        have := Nat.mul_le_mul_right K (show j + 1 ≤ rows by omega)
        rw [Nat.add_mul, Nat.one_mul] at this; omega
      have hmu := mulI (A := j) (K := K) (by omega)
      go_wp2_with fail
      refine (KZ _).mono ?_
      rintro r3 w3 ⟨rfl, hB3⟩
      have hb3 : Below w1.heap.size w1 w3 := HB.out.trans (hB3.mono HB.out.size)
      have HB3 := Lib.hid hb3
      clear hB3 hb3 HB
      go_wp2_with fail
      refine wp_gen ?_
      intro w4 hw4
      have m6 : w4.heap[w3.heap.size]? = some (.cells #[.string (dec 0), .string (dec 1)] 69 (0, 0)) := by rw [hw4]; exact heap_alloc_new w3 _
      have hb4 : Below w3.heap.size w3 w4 := by rw [hw4]; exact (Below.refl _ _).alloc (Nat.le_refl _) _
      have HB4 := Lib.hid (HB3.out.trans (hb4.mono HB3.out.size))
      have hs4 : w1.heap.size ≤ w3.heap.size := HB3.out.size
      have M6 := Lib.hid m6
      clear hw4 m6 hb4
      go_loopw [7] (fun i wr => ∃ m : Nat, m ≤ K ∧ i = .int .i64 m ∧ Hid (wr.heap[w3.heap.size]? = some (.cells #[.string (dec (nz (rowR (((gvar x).tab.drop (j * K)).take m))).1), .string (dec (nz (rowR (((gvar x).tab.drop (j * K)).take m))).2)] 69 (0, 0))) ∧ Hid (Below w1.heap.size w1 wr) ∧ w3.heap.size < wr.heap.size)
        (fun i _ => K - (intOf i).toNat)
      case atStart => exact ⟨0, Nat.zero_le _, rfl, by simpa [Hid, rowR, nz, dn] using M6.out, HB4.out, lt_of_heap M6.out⟩
      case round =>
        obtain ⟨m, hm, rfl, H6, HB5, h6l⟩ := hrel
        have m2 := (behind_of_below HB5.out).keep M2.out (by simp)
        have d0 := blk_cell m2 0 rfl
        have d2 := blk_cell m2 2 rfl
        have htk : ∀ p ∈ ((gvar x).tab.drop (j * K)).take m, Q.Low (nz p) ∧ Sm 4 p := fun p hp => by
          have h1 := List.mem_of_mem_drop (List.mem_of_mem_take hp)
          obtain ⟨t, ht, rfl⟩ := List.mem_map.1 (show p ∈ x.ts.map rawOf from h1)
          exact raw_small (HS.out t ht)
        have hlen : (((gvar x).tab.drop (j * K)).take m).length ≤ m := by simp; omega
        have hlow := rowR_low _ _ rfl htk
        have hsm : Sm 10000 (nz (rowR (((gvar x).tab.drop (j * K)).take m))) := hlow.2.nz.mono (by omega)
        by_cases hmk : m < K
        · have hd2 : decide (m < K) = true := by simpa using hmk
          have hidx : j * K + m < x.ts.length := by omega
          obtain ⟨I, hI⟩ : ∃ I, j * K + m = I := ⟨_, rfl⟩
          have hIi := addI hI
          rw [hI] at hidx
          obtain ⟨t, ht⟩ : ∃ t, x.ts[I]? = some t := ⟨_, List.getElem?_eq_getElem hidx⟩
          obtain ⟨tb, to, htb, rfl, kt⟩ := HTA1.out _ _ (strs_get ht)
          have dt := below_cell HB5.out (by omega) kt
          have hts := raw_small (HS.out t (List.mem_of_getElem? ht))
          have hqs : Sm 10000 (numQ t) := by rw [← nz_raw]; exact hts.2.nz.mono (by omega)
          have KN := gXNum t (by have := HS.out t (List.mem_of_getElem? ht); omega)
          have KA := gXAdd2 _ _ hsm hqs hlow.1 (numQ_low t)
          have hnx : nz (rowR (((gvar x).tab.drop (j * K)).take (m + 1))) = Q.add (nz (rowR (((gvar x).tab.drop (j * K)).take m))) (numQ t) := by
            have hg : ((gvar x).tab.drop (j * K))[m]? = some (rawOf t) := by
              rw [List.getElem?_drop, hI]
              simp [gvar, ht]
            rw [take_snoc_of hg, rowR_nz_snoc hlow.1 hts.1, nz_raw]
          have HNX := Lib.hid hnx
          have H6' := Lib.hid H6.out
          generalize hs : nz (rowR (((gvar x).tab.drop (j * K)).take m)) = s at *
          have KN2 : Gives 78 #[.string t] (.agg #[.string (dec (numQ t).1), .string (dec (numQ t).2)]) := KN
          have KA2 : Gives 34 #[.agg #[.string (dec s.1), .string (dec s.2)], .agg #[.string (dec (numQ t).1), .string (dec (numQ t).2)]] (.agg #[.string (dec (Q.add s (numQ t)).1), .string (dec (Q.add s (numQ t)).2)]) := KA
          have HM2 := Lib.hid m2
          have HDT := Lib.hid dt
          have hjk : j * K ≤ 2251799813685248 := by omega
          clear ht kt dt hts hqs KN KA hnx hs hlow hsm htk hlen m2 hI
          generalize Q.add s (numQ t) = S2 at *
          generalize numQ t = qn at *
          go_wp2_with fail
          clear d0 d2
          refine wp_game [1, 0, 0, 0, 0, 0, 0, 0, 0, 0, 0, 0, 0, 2] [w3.heap.size] _ (Fin.put fin_B0 _ _) (has_put (has_B0 _) H6.out) (by kernel_rfl) (by kernel_rfl) ?_
          refine lex_readE 1 wr (Behind.refl _ _) (has_put (has_B0 _) H6.out) (by kernel_rfl) (by rfl) ?_
          apply Exists.intro
          refine ⟨fun z hz hB => ?_, ?_⟩
          · have g0 := blk_cellp (hB w3.heap.size _ (Blocks.put_same _ _ _)) 0 rfl
            have g1 := blk_cellp (hB w3.heap.size _ (Blocks.put_same _ _ _)) 1 rfl
            clear hz hB
            simp only [List.take_succ_cons, List.take_zero]
            unfold Cx
            repeat (go_big_quiet_step (fail))
            exact wpQuiet_nil rfl
          simp only [List.drop_succ_cons, List.drop_zero]
          refine lex_quietE 12 (by kernel_rfl) (by rfl) ?_
          apply Exists.intro
          refine ⟨fun z hz => ?_, ?_⟩
          · have g2 := blk_cellp (hz.keep HM2.out (by simp; omega)) 0 rfl
            have g3 := blk_cellp (hz.keep HM2.out (by simp; omega)) 2 rfl
            have g4 := behind_cellp hz HDT.out (by simp; omega)
            clear hz
            simp only [List.take_succ_cons, List.take_zero]
            unfold Cx
            repeat (go_big_quiet_step (first | with_reducible exact KN2.at _ _ | with_reducible exact KA2.at _ _))
            exact wpQuiet_nil rfl
          simp only [List.drop_succ_cons, List.drop_zero]
          refine lex_store_all w3.heap.size #[.string (dec S2.1), .string (dec S2.2)] _ _ (by rfl) (by rfl) (by rfl) (Blocks.put_same _ _ _) (by rfl) (.inl (by simp)) (by kernel_rfl) (by simp [Value.oneCell']) ?_
          refine lex_nil ?_
          intro x7 hx7 hH7
          have m67 := hH7 w3.heap.size _ (Blocks.put_same _ _ _)
          have HB7 := Lib.hid (HB5.out.trans (hx7.below_of (b := w1.heap.size) (by intro k hk; rw [List.mem_singleton.1 hk]; exact hs4) HB5.out.size))
          rw [← HNX.out] at m67
          have M67 := Lib.hid m67
          have hl7 := lt_of_heap m67
          clear hx7 hH7 m67 HNX H6 H6' HB5 HM2 HDT KN2 KA2
          go_wp2_with fail
          go_roundw
          case rel => exact ⟨m + 1, by omega, by go_num, M67, HB7, hl7⟩
          case measure => simp [intOf]; omega
        · obtain rfl : m = K := by omega
          have hrow : ((gvar x).tab.drop (j * m)).take m = rowAt (gvar x) j := by
            unfold rowAt
            rw [show (gvar x).k = x.k from rfl, HK.out, Int.toNat_natCast]
          rw [hrow] at hlow hsm H6
          generalize hs : nz (rowR (rowAt (gvar x) j)) = s at *
          have lone : Q.Low (1, 1) := ⟨by decide, by decide⟩
          have KC : Gives 79 #[.agg #[.string (dec s.1), .string (dec s.2)], .agg #[.string (dec 1), .string (dec 1)]] (.int .i64 (Q.cmp s (1, 1))) := gXCmp2 s (1, 1) hsm ⟨by decide, by decide⟩
          by_cases hz : s = (1, 1)
          · rw [(Q.cmp_eq hlow.1 lone).2 hz] at KC
            have HZ := Lib.hid (hs.trans hz)
            clear hz hlow hsm htk hlen m2 hs hrow
            go_wp2_with fail
            clear d0 d2
            refine wp_game [0, 0, 0, 0] [] B0 fin_B0 (has_B0 _) (by kernel_rfl) (by kernel_rfl) ?_
            refine lex_quietE 4 (by kernel_rfl) (by rfl) ?_
            apply Exists.intro
            refine ⟨fun z hz => ?_, ?_⟩
            · have g0 := blk_cellp (hz.keep H6.out (by simp)) 0 rfl
              have g1 := blk_cellp (hz.keep H6.out (by simp)) 1 rfl
              clear hz
              simp only [List.take_succ_cons, List.take_zero]
              unfold Cx
              repeat (go_big_quiet_step (first | with_reducible exact KO.at _ _ | with_reducible exact KC.at _ _))
              exact wpQuiet_nil rfl
            simp only [List.drop_succ_cons, List.drop_zero]
            refine lex_nil ?_
            intro x7 hx7 _
            have HB7 := Lib.hid (HB5.out.trans (hx7.below.mono HB5.out.size))
            have HP7 : Hid (∀ n, n < j + 1 → nz (rowR (rowAt (gvar x) n)) = (1, 1)) := fun n hn => by
              rcases Nat.lt_or_ge n j with h | h
              · exact HP.out n h
              · obtain rfl : n = j := by omega
                exact HZ.out
            clear hx7 HB5 H6 HP
            go_wp2_with fail
            go_roundw
            case rel => exact ⟨j + 1, by omega, by go_num, HP7, HB7⟩
            case measure => simp [intOf]; omega
          · obtain ⟨cc, hcc⟩ : ∃ cc, Q.cmp s (1, 1) = cc := ⟨_, rfl⟩
            have hc0 : cc ≠ 0 := fun h => hz ((Q.cmp_eq hlow.1 lone).1 (hcc.trans h))
            rw [hcc] at KC
            have hc1 : (cc == 0) = false := beq_no hc0
            have hc2 : (cc != 0) = true := by simp [bne, hc1]
            have HZ := Lib.hid hz
            have HSS := Lib.hid hs
            clear hcc hz hlow hsm htk hlen m2 hs hrow
            go_wp2_with fail
            clear d0 d2
            refine wp_game [0, 0, 0, 0] [] B0 fin_B0 (has_B0 _) (by kernel_rfl) (by kernel_rfl) ?_
            refine lex_quietE 4 (by kernel_rfl) (by rfl) ?_
            apply Exists.intro
            refine ⟨fun z hz => ?_, ?_⟩
            · have g0 := blk_cellp (hz.keep H6.out (by simp)) 0 rfl
              have g1 := blk_cellp (hz.keep H6.out (by simp)) 1 rfl
              clear hz
              simp only [List.take_succ_cons, List.take_zero]
              unfold Cx
              repeat (go_big_quiet_step (first | with_reducible exact KO.at _ _ | with_reducible exact KC.at _ _))
              exact wpQuiet_nil rfl
            simp only [List.drop_succ_cons, List.drop_zero]
            refine lex_nil ?_
            intro x7 hx7 _
            have HB7 := Lib.hid (HB5.out.trans (hx7.below.mono HB5.out.size))
            clear hx7 HB5 H6 HP
            go_wp2_with fail
            rw [HR.out]
            exact ⟨false, rfl, ⟨fun h => (Bool.false_ne_true h).elim, fun h => absurd (HSS.out ▸ h j hlt) HZ.out⟩, HB1.out.trans (HB7.out.mono HB1.out.size)⟩
    · obtain rfl : j = rows := by omega
      go_wp2_with fail
      rw [HR.out]
      exact ⟨true, rfl, ⟨fun _ => HP.out, fun _ => rfl⟩, HB1.out.trans (HB.out.mono HB1.out.size)⟩
end Go.Proofs.YtbacloneddnaeaaGreat

/- censusref40.Check. -/
namespace Go.Proofs.YtbacloneddnaeaaGreat
open Go.RowKit Go.Shelf Num

theorem formed_iff {l : List RV} {i : Nat} {x : RV} (hx : l[i]? = some x) : formedP (gnet l) i ↔ ∃ r, Shape (gnet l) i x r ∧ SumsP x r := by
  constructor
  · rintro ⟨y, r, h1, h2, h3, h4, h5, h6⟩
    rw [gnet_get hx] at h1
    cases h1
    simp only [gvar, List.length_map] at h2 h3 h4 h5
    exact ⟨r, ⟨h2, h3, h4, h5⟩, h6⟩
  · rintro ⟨r, ⟨h2, h3, h4, h5⟩, h6⟩
    exact ⟨gvar x, r, gnet_get hx, h2, h3, by simpa [gvar] using h4, by simpa [gvar] using h5, h6⟩

theorem min_step {J k : Nat} (hk : 1 ≤ k) : min (if J ≤ 65536 then J * k else J) 65537 = min (min J 65537 * k) 65537 := by
  by_cases h : J ≤ 65536
  · rw [if_pos h, Nat.min_eq_left (show J ≤ 65537 by omega)]
  · rw [if_neg h, Nat.min_eq_right (show 65537 ≤ J by omega), Nat.min_eq_right (show 65537 ≤ 65537 * k by omega)]

set_option maxHeartbeats 3200000 in
set_option maxRecDepth 100000 in
theorem xcheck_law (N : Nat) (l : List RV) (a : Option Addr) (c : Nat) (hl : Lit l) (w : World) (hN : RefAt N w a l) (hw : N ≤ w.heap.size) :
    Calls Tryz.prog 22 #[.slice a l.length c] w fun e w' => e = .returned (.int .i64 (checkE (gnet l))) ∧ Below w.heap.size w w' := by
  have HN := Lib.hid hN
  have HL := Lib.hid hl
  have hlen := hl.len
  have hgl : (gnet l).length = l.length := by simp [gnet]
  have HGL := Lib.hid hgl
  clear hN hl
  by_cases h16 : 16 < l.length
  · have hE : Hid (checkE (gnet l) = 1) := if_pos (by rw [hgl]; exact h16)
    clear hgl
    go_enter Tryz.func22, Tryz.ntmps22
    go_wp2_with fail
    go_ret
    exact ⟨by rw [hE.out]; rfl, Below.refl _ _⟩
  have h16' : l.length ≤ 16 := by omega
  clear h16 hgl
  have hbadE : ∀ j, j < l.length → ¬ formedP (gnet l) j → Hid (checkE (gnet l) = 1) := fun j hj hn => by
    unfold Hid checkE
    rw [if_neg (by rw [HGL.out]; omega), if_neg (fun h => hn (h j (by rw [HGL.out]; exact hj)))]
  have HBAD := Lib.hid hbadE
  clear hbadE
  go_enter Tryz.func22, Tryz.ntmps22
  go_wp2_with fail
  go_loopw [3] (fun i wr => ∃ j : Nat, j ≤ l.length ∧ i = .int .i64 j ∧ Hid (∀ m, m < j → formedP (gnet l) m) ∧ Hid (Below w.heap.size w wr))
    (fun i _ => l.length - (intOf i).toNat)
  case atStart => exact ⟨0, Nat.zero_le _, rfl, fun m h => by omega, Below.refl _ _⟩
  case round =>
    obtain ⟨j, hj, rfl, HF, HB⟩ := hrel
    by_cases hlt : j < l.length
    · have hd : decide (j < l.length) = true := by simpa using hlt
      obtain ⟨x, hx⟩ : ∃ x, l[j]? = some x := ⟨_, List.getElem?_eq_getElem hlt⟩
      have HX := Lib.hid hx
      have hxm := List.mem_of_getElem? hx
      have hps := HL.out.ps x hxm
      obtain ⟨hts, hss⟩ := HL.out.ts x hxm
      have HSS := Lib.hid hss
      have hpre : Pre (gnet l) j := ⟨fun m y hm hy => by
        obtain ⟨y', _, h1, h2, h3, _⟩ := HF.out m hm
        rw [hy] at h1
        cases h1
        omega⟩
      have hNr := HN.out.below HB.out hw
      have HNR := Lib.hid hNr
      have HPRE := Lib.hid hpre
      have hwr : N ≤ wr.heap.size := Nat.le_trans hw HB.out.size
      clear hx hss hpre hNr
      go_wp2_with fail
      refine (rows_law N l a c j x HX.out HPRE.out h16' hts (by omega) wr HNR.out hwr).mono ?_
      rintro r1 w1 ⟨v, rfl, hv, hB1⟩
      rcases hv with ⟨r, rfl, hsh⟩ | ⟨rfl, hno⟩
      · obtain ⟨b, o, pa, pc, ta, tc, hb, rfl, n0, n1, n2, _, hta⟩ := HNR.out j x HX.out
        have d0 := below_cell hB1 (by omega) n0
        have d1 := below_cell hB1 (by omega) n1
        have d2 := below_cell hB1 (by omega) n2
        have HTA := Lib.hid (hta.below hB1 hwr)
        have HSH := Lib.hid hsh
        have HB1 := Lib.hid (HB.out.trans (hB1.mono HB.out.size))
        have hw1 : N ≤ w1.heap.size := Nat.le_trans hwr hB1.size
        obtain ⟨K, hK⟩ : ∃ K : Nat, x.k = K := ⟨x.k.toNat, by have := hsh.1; omega⟩
        have HK := Lib.hid hK
        have hK2 : 2 ≤ K := by have := hsh.1; omega
        have hK8 : K ≤ 8 := by have := hsh.2.1; omega
        have hrK : r * K = x.ts.length := by have := hsh.2.2.2; rwa [hK, Int.toNat_natCast] at this
        have HRK := Lib.hid hrK
        have hr1 : ¬ (r : Int) < 0 := by omega
        have hr0 : decide ((r : Int) < 0) = false := by simp
        rw [hK] at d0
        clear n0 n1 n2 hta hsh hB1 hK hrK HB HNR
        go_wp2_with fail
        refine (sums_law x r K HK.out HRK.out (by omega) hK8 hts HSS.out N pa ta x.ps.length pc tc w1 HTA.out hw1).mono ?_
        rintro r2 w2 ⟨bb, rfl, hbb, hB2⟩
        have HB2 := Lib.hid (HB1.out.trans (hB2.mono HB1.out.size))
        have HBB := Lib.hid hbb
        clear hB2 hbb HB1 d0 d1 d2
        cases bb with
        | true =>
          have HF2 : Hid (∀ m, m < j + 1 → formedP (gnet l) m) := fun m hm => by
            rcases Nat.lt_or_ge m j with h | h
            · exact HF.out m h
            · obtain rfl : m = j := by omega
              exact (formed_iff HX.out).2 ⟨r, HSH.out, HBB.out.1 rfl⟩
          clear HF HBB
          go_wp2_with fail
          go_roundw
          case rel => exact ⟨j + 1, by omega, by go_num, HF2, HB2⟩
          case measure => simp [intOf]; omega
        | false =>
          have HE := HBAD.out j hlt (fun h => by
            obtain ⟨r', h1, h2⟩ := (formed_iff HX.out).1 h
            have e1 := h1.2.2.1
            rw [HSH.out.2.2.1] at e1
            cases e1
            exact Bool.false_ne_true (HBB.out.2 h2))
          clear HF HBB
          go_wp2_with fail
          go_ret
          exact ⟨by rw [HE.out]; rfl, HB2.out⟩
      · have HB1 := Lib.hid (HB.out.trans (hB1.mono HB.out.size))
        have HE := HBAD.out j hlt (fun h => by
          obtain ⟨r', h1, _⟩ := (formed_iff HX.out).1 h
          exact hno r' h1)
        clear hno hB1 HB HNR
        go_wp2_with fail
        go_ret
        exact ⟨by rw [HE.out]; rfl, HB1.out⟩
    · obtain rfl : j = l.length := by omega
      clear hlt hj
      have HALL : Hid (∀ m, m < l.length → formedP (gnet l) m) := HF.out
      clear HF HBAD
      obtain ⟨w1, rfl⟩ : ∃ w1, w1 = wr := ⟨_, rfl⟩
      have HN1 := Lib.hid (HN.out.below HB.out hw)
      go_wp2_with fail
      go_loopw [5, 6, 7] (fun jt vt i wr => ∃ j J V : Nat, j ≤ l.length ∧ i = .int .i64 j ∧ jt = .int .i64 J ∧ vt = .int .i64 V ∧ J ≤ 600000 ∧ V ≤ j * 2000 ∧ Hid (min J 65537 = jointOf ((gnet l).take j)) ∧ Hid (V = varsOf ((gnet l).take j)) ∧ Hid (Below w1.heap.size w1 wr))
        (fun _ _ i _ => l.length - (intOf i).toNat)
      case atStart => exact ⟨0, 1, 0, Nat.zero_le _, rfl, rfl, rfl, by omega, by omega, rfl, rfl, Below.refl _ _⟩
      case round =>
        obtain ⟨j, J, V, hj, rfl, rfl, rfl, hJ, hV, HJ, HV, HB2⟩ := hrel
        by_cases hlt : j < l.length
        · have hd : decide (j < l.length) = true := by simpa using hlt
          obtain ⟨x, hx⟩ : ∃ x, l[j]? = some x := ⟨_, List.getElem?_eq_getElem hlt⟩
          have hxm := List.mem_of_getElem? hx
          obtain ⟨hts, _⟩ := HL.out.ts x hxm
          obtain ⟨b, o, pa, pc, ta, tc, hb, rfl, n0, n1, n2, _, _⟩ := HN1.out j x hx
          have hw1 : N ≤ w1.heap.size := Nat.le_trans hw HB.out.size
          obtain ⟨y, _, hy, hk2, hk8, _⟩ := HALL.out j hlt
          rw [gnet_get hx] at hy
          cases hy
          obtain ⟨K, hK⟩ : ∃ K : Nat, x.k = K := ⟨x.k.toNat, by simp [gvar] at hk2; omega⟩
          have hK2 : 2 ≤ K := by simp [gvar] at hk2; omega
          have hK8 : K ≤ 8 := by simp [gvar] at hk8; omega
          have d0 := below_cell HB2.out (by omega) n0
          have d2 := below_cell HB2.out (by omega) n2
          rw [hK] at d0
          have hg : (gnet l)[j]? = some (gvar x) := gnet_get hx
          have HJ2 : Hid (min (if J ≤ 65536 then J * K else J) 65537 = jointOf ((gnet l).take (j + 1))) := by
            unfold Hid
            rw [take_snoc_of hg, jointOf_snoc, ← HJ.out, show (gvar x).k = x.k from rfl, hK, Int.toNat_natCast]
            exact min_step (by omega)
          have HV2 : Hid (V + (K + x.ts.length) = varsOf ((gnet l).take (j + 1))) := by
            unfold Hid
            rw [take_snoc_of hg, varsOf_snoc, ← HV.out, show (gvar x).k = x.k from rfl, hK, Int.toNat_natCast]
            simp [gvar]
          have hN0 : Hid (wr.cell? ⟨b, o + j * 3, none⟩ = some (.int .i64 (K : Nat))) := d0
          have hN2 : Hid (wr.cell? ⟨b, o + j * 3 + 2, none⟩ = some (.slice ta x.ts.length tc)) := d2
          clear hx n0 n1 n2 hk2 hk8 hg HJ HV hxm
          by_cases hJ6 : J ≤ 65536
          · have hmul := mulI (A := J) (K := K) (by have := Nat.mul_le_mul hJ6 hK8; omega)
            have hJ2b : J * K ≤ 600000 := by have := Nat.mul_le_mul hJ6 hK8; omega
            rw [if_pos hJ6] at HJ2
            go_wp2_with fail
            clear d0 d2
            refine wp_game [0, 0, 0, 0, 0, 0, 0, 0, 0, 0, 0, 0, 0, 0, 0] [] B0 fin_B0 (has_B0 _) (by kernel_rfl) (by kernel_rfl) ?_
            refine lex_quietE 15 (by kernel_rfl) (by rfl) ?_
            apply Exists.intro
            refine ⟨fun z hz => ?_, ?_⟩
            · have g0 := behind_cellp hz hN0.out (by simp)
              have g2 := behind_cellp hz hN2.out (by simp)
              clear hz
              simp only [List.take_succ_cons, List.take_zero]
              unfold Cx
              repeat (go_big_quiet_step (fail))
              exact wpQuiet_nil rfl
            simp only [List.drop_succ_cons, List.drop_zero]
            refine lex_nil ?_
            intro x7 hx7 _
            have HB7 := Lib.hid (HB2.out.trans (hx7.below.mono HB2.out.size))
            clear hx7 HB2 hN0 hN2
            go_wp2_with fail
            go_roundw
            case rel => exact ⟨j + 1, J * K, V + (K + x.ts.length), by omega, by go_num, by rw [Int.natCast_mul], by go_num, hJ2b, by omega, HJ2, HV2, HB7⟩
            case measure => simp [intOf]; omega
          · have hJ7 : 65536 < J := by omega
            rw [if_neg hJ6] at HJ2
            clear hJ6
            go_wp2_with fail
            clear d0 d2
            refine wp_game [0, 0, 0, 0, 0, 0, 0, 0, 0, 0, 0, 0, 0, 0, 0] [] B0 fin_B0 (has_B0 _) (by kernel_rfl) (by kernel_rfl) ?_
            refine lex_quietE 15 (by kernel_rfl) (by rfl) ?_
            apply Exists.intro
            refine ⟨fun z hz => ?_, ?_⟩
            · have g0 := behind_cellp hz hN0.out (by simp)
              have g2 := behind_cellp hz hN2.out (by simp)
              clear hz
              simp only [List.take_succ_cons, List.take_zero]
              unfold Cx
              repeat (go_big_quiet_step (fail))
              exact wpQuiet_nil rfl
            simp only [List.drop_succ_cons, List.drop_zero]
            refine lex_nil ?_
            intro x7 hx7 _
            have HB7 := Lib.hid (HB2.out.trans (hx7.below.mono HB2.out.size))
            clear hx7 HB2 hN0 hN2
            go_wp2_with fail
            go_roundw
            case rel => exact ⟨j + 1, J, V + (K + x.ts.length), by omega, by go_num, rfl, by go_num, hJ, by omega, HJ2, HV2, HB7⟩
            case measure => simp [intOf]; omega
        · obtain rfl : j = l.length := by omega
          have hJE := HJ.out
          have hVE := HV.out
          rw [← HGL.out, List.take_length] at hJE hVE
          have hall : ∀ i, i < (gnet l).length → formedP (gnet l) i := fun i hi => HALL.out i (by rw [HGL.out] at hi; exact hi)
          by_cases hJ6 : 65536 < J
          · have hE : Hid (checkE (gnet l) = 2) := by
              unfold Hid checkE
              rw [if_neg (by rw [HGL.out]; omega), if_pos hall, if_pos (.inl (by omega))]
            clear hall hJE hVE
            go_wp2_with fail
            go_ret
            exact ⟨by rw [hE.out]; rfl, HB.out.trans (HB2.out.mono HB.out.size)⟩
          · have hJ6' : J ≤ 65536 := by omega
            by_cases hV1 : 128 < V
            · have hE : Hid (checkE (gnet l) = 2) := by
                unfold Hid checkE
                rw [if_neg (by rw [HGL.out]; omega), if_pos hall, if_pos (.inr (by omega))]
              clear hall hJE hVE hJ6
              go_wp2_with fail
              go_ret
              exact ⟨by rw [hE.out]; rfl, HB.out.trans (HB2.out.mono HB.out.size)⟩
            · have hE : Hid (checkE (gnet l) = 0) := by
                unfold Hid checkE
                rw [if_neg (by rw [HGL.out]; omega), if_pos hall, if_neg (by omega)]
              have hV2 : V ≤ 128 := by omega
              clear hall hJE hVE hJ6 hV1
              go_wp2_with fail
              go_ret
              exact ⟨by rw [hE.out]; rfl, HB.out.trans (HB2.out.mono HB.out.size)⟩
end Go.Proofs.YtbacloneddnaeaaGreat

/- censusref40.Entry and product. -/
namespace Go.Proofs.YtbacloneddnaeaaGreat
open Go.RowKit Go.Shelf Num

set_option maxHeartbeats 3200000 in
set_option maxRecDepth 100000 in
theorem xentry_law (N : Nat) (l : List RV) (vs : List Nat) (a va : Option Addr) (c vc i : Nat) (x : RV) (hx : l[i]? = some x) (hf : Fit (gnet l) vs) (hp : ∀ p ∈ x.ps, 0 ≤ p ∧ p.toNat < l.length) (hpl : x.ps.length ≤ 16) (hl : l.length ≤ 100) (w : World) (hN : RefAt N w a l) (hV : AtN N w va (ints (vs.map Int.ofNat))) (hw : N ≤ w.heap.size) :
    Calls Tryz.prog 82 #[.slice a l.length c, .int .i64 i, .slice va vs.length vc] w fun e w' => e = .returned (.int .i64 ((idxFrom (gnet l) vs 0 x.ps * x.k.toNat + vs.getD i 0 : Nat) : Int)) ∧ Below w.heap.size w w' := by
  obtain ⟨R, hR⟩ : ∃ R : Ending → World → Prop, R = fun e w' => e = .returned (.int .i64 ((idxFrom (gnet l) vs 0 x.ps * x.k.toNat + vs.getD i 0 : Nat) : Int)) ∧ Below w.heap.size w w' := ⟨_, rfl⟩
  rw [← hR]
  have HR := Lib.hid hR
  clear hR
  have hgl : (gnet l).length = l.length := by simp [gnet]
  have HGL := Lib.hid hgl
  have HN := Lib.hid hN
  have HV := Lib.hid hV
  have HF := Lib.hid hf
  have HP := Lib.hid (show ∀ p ∈ x.ps, 0 ≤ p ∧ p.toNat < (gnet l).length by rw [hgl]; exact hp)
  have HX := Lib.hid hx
  have hi : i < l.length := (List.getElem?_eq_some_iff.1 hx).1
  obtain ⟨b, o, pa, pc, ta, tc, hb, rfl, c0, c1, c2, hpa, _⟩ := hN i x hx
  have HPA := Lib.hid hpa
  have C0 := Lib.hid c0
  have C1 := Lib.hid c1
  clear hgl hN hV hf hp hx hpa c0 c1 c2
  go_enter Tryz.func82, Tryz.ntmps82
  go_wp2_with fail
  go_loopw [7, 8] (fun at0 k wr => ∃ j : Nat, j ≤ x.ps.length ∧ k = .int .i64 j ∧ at0 = .int .i64 (idxFrom (gnet l) vs 0 (x.ps.take j) : Nat) ∧ Hid (Below w.heap.size w wr))
    (fun _ k _ => x.ps.length - (intOf k).toNat)
  case atStart => exact ⟨0, Nat.zero_le _, rfl, rfl, Below.refl _ _⟩
  case round =>
    obtain ⟨j, hj, rfl, rfl, HB⟩ := hrel
    have f1 := below_cell HB.out (by omega) C1.out
    by_cases hlt : j < x.ps.length
    · have hd : decide (j < x.ps.length) = true := by simpa using hlt
      obtain ⟨p, hpj⟩ : ∃ p, x.ps[j]? = some p := ⟨_, List.getElem?_eq_getElem hlt⟩
      obtain ⟨hp0, hpl2⟩ := HP.out p (List.mem_of_getElem? hpj)
      obtain ⟨pn, rfl⟩ : ∃ pn : Nat, p = pn := ⟨p.toNat, by omega⟩
      rw [Int.toNat_natCast, HGL.out] at hpl2
      obtain ⟨y, hy⟩ : ∃ y, l[pn]? = some y := ⟨_, List.getElem?_eq_getElem hpl2⟩
      obtain ⟨hk1, hk8⟩ := HF.out.kpos pn (gvar y) (gnet_get hy)
      obtain ⟨K, hK⟩ : ∃ K : Nat, y.k = K := ⟨y.k.toNat, by simp [gvar] at hk1; omega⟩
      obtain ⟨v, hv⟩ : ∃ v, vs[pn]? = some v := ⟨_, List.getElem?_eq_getElem (by rw [HF.out.len, HGL.out]; omega)⟩
      have hvK := HF.out.lt pn (gvar y) v (gnet_get hy) hv
      obtain ⟨_, _, _, _, _, _, _, he, e0, _⟩ := HN.out pn y hy
      cases he
      obtain ⟨pb, po, hpb, rfl, e1⟩ := HPA.out j _ (ints_get _ _ _ hpj)
      obtain ⟨vb, vo, hvb, rfl, e2⟩ := HV.out pn _ (ints_get _ _ (v : Int) (by simp [hv]))
      rw [hK] at e0
      simp only [gvar, hK] at hk1 hk8 hvK
      have hA := idxFrom_le HF.out x.ps HP.out hpl j
      have hS : Hid (idxFrom (gnet l) vs 0 (x.ps.take j) * K + v = idxFrom (gnet l) vs 0 (x.ps.take (j + 1))) := by
        unfold Hid
        rw [idxFrom_snoc hpj (gnet_get hy) hv]; simp [gvar, hK]
      have hk1' : 1 ≤ K := by omega
      have hk8' : K ≤ 8 := by omega
      have hvK' : v < K := by omega
      have hlv : pn < vs.length := by rw [HF.out.len, HGL.out]; omega
      have f2 := below_cell HB.out (by omega) e1
      have E0 := Lib.hid e0
      have E2 := Lib.hid e2
      clear hK hpj hy hv hk1 hk8 hvK e0 e1 e2
      generalize idxFrom (gnet l) vs 0 (x.ps.take j) = A at *
      generalize hA2 : idxFrom (gnet l) vs 0 (x.ps.take (j + 1)) = A2 at *
      have HA2 := Lib.hid hA2
      clear hA2
      have hm1 : A * K ≤ 2251799813685248 := Nat.le_trans (Nat.mul_le_mul hA hk8') (by decide)
      obtain ⟨hm2, hm3⟩ := mulI hm1
      have hbw : b < w.heap.size := by omega
      have hvbw : vb < w.heap.size := by omega
      go_wp2_with fail
      clear f1 f2
      refine wp_game [0, 0, 0, 0, 0, 0, 0, 0, 0, 0, 0, 0, 0] [] B0 fin_B0 (has_B0 _) (by kernel_rfl) (by kernel_rfl) ?_
      refine lex_quietE 13 (by kernel_rfl) (by rfl) ?_
      apply Exists.intro
      refine ⟨fun z hz => ?_, ?_⟩
      · have hwz := HB.out.trans (hz.below_of (b := w.heap.size) (by simp) HB.out.size)
        have g0 := below_cellp hwz E0.out hbw
        have g2 := below_cellp hwz E2.out hvbw
        clear hz hwz
        simp only [List.take_succ_cons, List.take_zero]
        unfold Cx
        repeat (go_big_quiet_step (fail))
        exact wpQuiet_nil rfl
      simp only [List.drop_succ_cons, List.drop_zero]
      refine lex_nil ?_
      intro w5 hx5 _
      have HB5 := Lib.hid (HB.out.trans (hx5.below_of (b := w.heap.size) (by simp) HB.out.size))
      clear hx5 HB
      go_wp2_with fail
      go_roundw
      case rel => exact ⟨j + 1, by omega, by go_num, by rw [HA2.out, ← hS.out]; go_num, HB5⟩
      case measure => simp [intOf]; omega
    · obtain rfl : j = x.ps.length := by omega
      obtain ⟨hk1, hk8⟩ := HF.out.kpos i (gvar x) (gnet_get HX.out)
      obtain ⟨K, hK⟩ : ∃ K : Nat, x.k = K := ⟨x.k.toNat, by simp [gvar] at hk1; omega⟩
      obtain ⟨v, hv⟩ : ∃ v, vs[i]? = some v := ⟨_, List.getElem?_eq_getElem (by rw [HF.out.len, HGL.out]; omega)⟩
      have hvK := HF.out.lt i (gvar x) v (gnet_get HX.out) hv
      obtain ⟨vb, vo, hvb, rfl, e2⟩ := HV.out i _ (ints_get _ _ (v : Int) (by simp [hv]))
      have hA := idxFrom_le HF.out x.ps HP.out hpl x.ps.length
      have hvd : vs.getD i 0 = v := by simp [hv]
      have HS : Hid (idxFrom (gnet l) vs 0 x.ps * x.k.toNat + vs.getD i 0 = idxFrom (gnet l) vs 0 x.ps * K + v) := by unfold Hid; rw [hvd, hK, Int.toNat_natCast]
      rw [List.take_length] at *
      have HRR := HR.out
      have HS2 := HS.out
      rw [HS2] at HRR
      have HR2 := Lib.hid HRR
      clear HR HS HS2 HRR
      have c0 := C0.out
      rw [hK] at c0
      simp only [gvar, hK] at hk1 hk8 hvK
      generalize idxFrom (gnet l) vs 0 x.ps = A at *
      have hlv : i < vs.length := by rw [HF.out.len, HGL.out]; omega
      have hm1 : A * K ≤ 2251799813685248 := Nat.le_trans (Nat.mul_le_mul hA (show K ≤ 8 by omega)) (by decide)
      obtain ⟨hm2, hm3⟩ := mulI hm1
      have hK8 : K ≤ 8 := by omega
      have hvK' : v < K := by omega
      have hbw : b < w.heap.size := by omega
      have hvbw : vb < w.heap.size := by omega
      have C02 := Lib.hid c0
      have E2 := Lib.hid e2
      obtain ⟨I, hI⟩ : ∃ I, A * K + v = I := ⟨_, rfl⟩
      have hI2 := addI hI
      rw [hI] at HR2
      have HI := Lib.hid hI
      clear hk1 hk8 hvK hK hv hvd hm1 c0 e2 hI
      go_wp2_with fail
      clear f1
      refine wp_game [0, 0, 0, 0, 0, 0, 0, 0, 0, 0, 0, 0, 0] [] B0 fin_B0 (has_B0 _) (by kernel_rfl) (by kernel_rfl) ?_
      refine lex_quietE 13 (by kernel_rfl) (by rfl) ?_
      apply Exists.intro
      refine ⟨fun z hz => ?_, ?_⟩
      · have hwz := HB.out.trans (hz.below_of (b := w.heap.size) (by simp) HB.out.size)
        have g0 := below_cellp hwz C02.out hbw
        have g2 := below_cellp hwz E2.out hvbw
        clear hz hwz
        simp only [List.take_succ_cons, List.take_zero]
        unfold Cx
        repeat (go_big_quiet_step (fail))
        exact wpQuiet_nil rfl
      simp only [List.drop_succ_cons, List.drop_zero]
      refine lex_nil ?_
      intro w5 hx5 _
      have HB5 := Lib.hid (HB.out.trans (hx5.below_of (b := w.heap.size) (by simp) HB.out.size))
      clear hx5 HB
      go_wp2_with fail
      rw [HR2.out]
      exact ⟨rfl, HB5.out⟩

def prodV (l : List BV) (vs : List Nat) (j : Nat) : Nat × Nat := (List.range j).foldl (fun s i => Q.mul s (pAt l i vs)) (1, 1)
theorem prodV_succ (l : List BV) (vs : List Nat) (j : Nat) : prodV l vs (j + 1) = Q.mul (prodV l vs j) (pAt l j vs) := by simp [prodV, List.range_succ]
end Go.Proofs.YtbacloneddnaeaaGreat

/- censusref40.product, allowed and Joint. -/
namespace Go.Proofs.YtbacloneddnaeaaGreat
open Go.RowKit Go.Shelf Num

theorem prodV_low {l : List BV} (hg : Good l) (vs : List Nat) : ∀ j, Q.Low (prodV l vs j) ∧ Sm (1 + 5 * j) (prodV l vs j)
  | 0 => by
    show Q.Low (1, 1) ∧ Sm 1 (1, 1)
    exact ⟨⟨by decide, by decide⟩, ⟨by decide, by decide⟩⟩
  | j + 1 => by
    obtain ⟨h1, h2⟩ := prodV_low hg vs j
    obtain ⟨h3, h4⟩ := pAt_low hg j vs
    rw [prodV_succ]
    exact ⟨Q.mul_low h1 h3, (sm_mul2 h2 h4).mono (by omega)⟩

theorem xentry_from (N : Nat) (l : List RV) (vs : List Nat) (a va : Option Addr) (c vc i : Nat) (x : RV) (hx : l[i]? = some x) (hf : Fit (gnet l) vs) (hp : ∀ p ∈ x.ps, 0 ≤ p ∧ p.toNat < l.length) (hpl : x.ps.length ≤ 16) (hl : l.length ≤ 100) (w : World) (hN : RefAt N w a l) (hV : AtN N w va (ints (vs.map Int.ofNat))) (hw : N ≤ w.heap.size) :
    GivesFrom w 82 #[.slice a l.length c, .int .i64 i, .slice va vs.length vc] (.int .i64 ((idxFrom (gnet l) vs 0 x.ps * x.k.toNat + vs.getD i 0 : Nat) : Int)) := fun w' hb =>
  xentry_law N l vs a va c vc i x hx hf hp hpl hl w' (hN.below hb hw) (hV.below hb hw) (Nat.le_trans hw hb.size)

set_option maxHeartbeats 3200000 in
set_option maxRecDepth 100000 in
theorem xproduct_law (N : Nat) (l : List RV) (vs : List Nat) (a va : Option Addr) (c vc : Nat) (hl : Lit l) (hg : Good (gnet l)) (hf : Fit (gnet l) vs) (w : World) (hN : RefAt N w a l) (hV : AtN N w va (ints (vs.map Int.ofNat))) (hw : N ≤ w.heap.size) :
    Calls Tryz.prog 54 #[.slice a l.length c, .slice va vs.length vc] w fun e w' => e = .returned (.agg #[.string (dec (prodV (gnet l) vs l.length).1), .string (dec (prodV (gnet l) vs l.length).2)]) ∧ Below w.heap.size w w' := by
  have hlen : l.length ≤ 16 := by have := hg.len; simpa [gnet] using this
  have HL := Lib.hid hl
  have HG := Lib.hid hg
  have HF := Lib.hid hf
  have HN := Lib.hid hN
  have HV := Lib.hid hV
  have HW := Lib.hid hw
  have KO : Gives 80 #[] (.agg #[.string (dec 1), .string (dec 1)]) := gXOne
  clear hl hg hf hN hV hw
  go_enter Tryz.func54, Tryz.ntmps54
  go_wp2_with fail
  refine calls_gen fun u1 hu => ?_
  have m4 : ∃ s1 s2, u1.heap[w.heap.size]? = some (.cells #[s1, s2] 69 (0, 0)) := ⟨_, _, by rw [hu]; exact World.alloc_heap_new w _⟩
  have hb1 : Below w.heap.size w u1 := by rw [hu]; exact (Below.refl _ _).alloc (Nat.le_refl _) _
  clear hu
  refine (KO _).mono ?_
  rintro r3 w3 ⟨rfl, hB3⟩
  obtain ⟨s1, s2, m4⟩ := m4
  have m43 := (behind_of_below hB3).keep m4 (by simp)
  have HB3 := Lib.hid (hb1.trans (hB3.mono hb1.size))
  have hl4 := lt_of_heap m43
  have M43 := Lib.hid m43
  clear m4 hb1 hB3 m43
  go_wp2_with fail
  refine wp_gen ?_
  intro w4 hw4
  have m5 : w4.heap[w3.heap.size]? = some (.cells #[.string (dec 1), .string (dec 1)] 69 (0, 0)) := by rw [hw4]; exact heap_alloc_new w3 _
  have hb4 : Below w3.heap.size w3 w4 := by rw [hw4]; exact (Below.refl _ _).alloc (Nat.le_refl _) _
  have M4 := Lib.hid ((behind_of_below hb4).keep M43.out (by simp))
  have M5 := Lib.hid m5
  have HB4 := Lib.hid (HB3.out.trans (hb4.mono HB3.out.size))
  clear hw4 m5 hb4 M43
  go_loopw [6] (fun i wr => ∃ j : Nat, j ≤ l.length ∧ i = .int .i64 j ∧ Hid (wr.heap[w3.heap.size]? = some (.cells #[.string (dec (prodV (gnet l) vs j).1), .string (dec (prodV (gnet l) vs j).2)] 69 (0, 0))) ∧ Hid (wr.heap[w.heap.size]? = some (.cells #[s1, s2] 69 (0, 0))) ∧ Hid (Below w.heap.size w wr))
    (fun i _ => l.length - (intOf i).toNat)
  case atStart => exact ⟨0, Nat.zero_le _, rfl, M5.out, M4.out, HB4.out⟩
  case round =>
    obtain ⟨j, hj, rfl, H5, H4, HB⟩ := hrel
    have hNw := HW.out
    by_cases hlt : j < l.length
    · have hd : decide (j < l.length) = true := by simpa using hlt
      obtain ⟨x, hx⟩ : ∃ x, l[j]? = some x := ⟨_, List.getElem?_eq_getElem hlt⟩
      have hxm := List.mem_of_getElem? hx
      obtain ⟨hts, hss⟩ := HL.out.ts x hxm
      have hpar : ∀ p ∈ x.ps, 0 ≤ p ∧ p.toNat < l.length := fun p hp => by
        have := HG.out.par j (gvar x) (gnet_get hx) p hp
        omega
      have hpl : x.ps.length ≤ 16 := HG.out.plen j (gvar x) (gnet_get hx)
      have htab := HG.out.tab j (gvar x) vs (gnet_get hx) HF.out
      have KE := xentry_from N l vs a va c vc j x hx HF.out hpar hpl (by omega) w HN.out HV.out hNw
      have hpA : pAt (gnet l) j vs = nz ((x.ts.map rawOf).getD (idxFrom (gnet l) vs 0 x.ps * x.k.toNat + vs.getD j 0) (0, 0)) := by
        unfold pAt
        rw [gnet_get hx]; rfl
      simp only [gvar, List.length_map] at htab
      obtain ⟨I, hI⟩ : ∃ I, I = idxFrom (gnet l) vs 0 x.ps * x.k.toNat + vs.getD j 0 := ⟨_, rfl⟩
      rw [← hI] at KE hpA htab
      obtain ⟨t, ht⟩ : ∃ t, x.ts[I]? = some t := ⟨_, List.getElem?_eq_getElem htab⟩
      have hpT : pAt (gnet l) j vs = numQ t := by rw [hpA, List.getD_eq_getElem?_getD, List.getElem?_map, ht]; exact nz_raw t
      obtain ⟨b, o, pa, pc, ta, tc, hb, rfl, n0, n1, n2, _, hta⟩ := HN.out j x hx
      obtain ⟨tb, to, htb, rfl, kt⟩ := hta I _ (strs_get ht)
      have N2 := Lib.hid n2
      have KT := Lib.hid kt
      have hqs : Sm 10000 (numQ t) := by rw [← nz_raw]; exact (raw_small (hss t (List.mem_of_getElem? ht))).2.nz.mono (by omega)
      have KN := gXNum t (by have := hss t (List.mem_of_getElem? ht); omega)
      obtain ⟨hlow, hsm⟩ := prodV_low HG.out vs j
      have KM := gXMul2 (prodV (gnet l) vs j) (numQ t) (hsm.mono (by omega)) hqs hlow (numQ_low t)
      have HNX := Lib.hid (show prodV (gnet l) vs (j + 1) = Q.mul (prodV (gnet l) vs j) (numQ t) by rw [prodV_succ, hpT])
      have hbw : b < w.heap.size := by omega
      have htbw : tb < w.heap.size := by omega
      have hb5 : w.heap.size ≤ w3.heap.size := by omega
      generalize hs : prodV (gnet l) vs j = s at *
      have KN2 : Gives 78 #[.string t] (.agg #[.string (dec (numQ t).1), .string (dec (numQ t).2)]) := KN
      have KM2 : Gives 81 #[.agg #[.string (dec s.1), .string (dec s.2)], .agg #[.string (dec (numQ t).1), .string (dec (numQ t).2)]] (.agg #[.string (dec (Q.mul s (numQ t)).1), .string (dec (Q.mul s (numQ t)).2)]) := KM
      clear hx hss hpar hpl hpA hI ht hpT n0 n1 n2 hta kt hqs KN KM hlow hsm hs
      generalize Q.mul s (numQ t) = S2 at *
      generalize numQ t = qn at *
      go_wp2_with fail
      refine wp_game [1, 0, 0, 0, 0, 0, 0, 0, 0, 0, 0, 0, 0, 0, 2] [w3.heap.size] _ (Fin.put fin_B0 _ _) (has_put (has_B0 _) H5.out) (by kernel_rfl) (by kernel_rfl) ?_
      refine lex_readE 1 wr (Behind.refl _ _) (has_put (has_B0 _) H5.out) (by kernel_rfl) (by rfl) ?_
      apply Exists.intro
      refine ⟨fun z hz hB => ?_, ?_⟩
      · have g0 := blk_cellp (hB w3.heap.size _ (Blocks.put_same _ _ _)) 0 rfl
        have g1 := blk_cellp (hB w3.heap.size _ (Blocks.put_same _ _ _)) 1 rfl
        clear hz hB
        simp only [List.take_succ_cons, List.take_zero]
        unfold Cx
        repeat (go_big_quiet_step (fail))
        exact wpQuiet_nil rfl
      simp only [List.drop_succ_cons, List.drop_zero]
      refine lex_quietE 13 (by kernel_rfl) (by rfl) ?_
      apply Exists.intro
      refine ⟨fun z hz => ?_, ?_⟩
      · have hwz := HB.out.trans (hz.below_of (b := w.heap.size) (by intro k hk; rw [List.mem_singleton.1 hk]; exact hb5) HB.out.size)
        have g2 := below_cellp hwz N2.out hbw
        have g4 := below_cellp hwz KT.out htbw
        clear hz
        simp only [List.take_succ_cons, List.take_zero]
        unfold Cx
        repeat (go_big_quiet_step (first | with_reducible exact KE.at2 hwz _ | with_reducible exact KN2.at _ _ | with_reducible exact KM2.at _ _))
        exact wpQuiet_nil rfl
      simp only [List.drop_succ_cons, List.drop_zero]
      refine lex_store_all w3.heap.size #[.string (dec S2.1), .string (dec S2.2)] _ _ (by rfl) (by rfl) (by rfl) (Blocks.put_same _ _ _) (by rfl) (.inl (by simp)) (by kernel_rfl) (by simp [Value.oneCell']) ?_
      refine lex_nil ?_
      intro x7 hx7 hH7
      have m57 := hH7 w3.heap.size _ (Blocks.put_same _ _ _)
      rw [← HNX.out] at m57
      have M57 := Lib.hid m57
      have M47 := Lib.hid (hx7.keep H4.out (by simp; omega))
      have HB7 := Lib.hid (HB.out.trans (hx7.below_of (b := w.heap.size) (by intro k hk; rw [List.mem_singleton.1 hk]; exact hb5) HB.out.size))
      clear hx7 hH7 m57 HNX H5 H4 HB KE KN2 KM2 N2 KT
      go_wp2_with fail
      go_roundw
      case rel => exact ⟨j + 1, by omega, by go_num, M57, M47, HB7⟩
      case measure => simp [intOf]; omega
    · obtain rfl : j = l.length := by omega
      have c50 := blk_cell H5.out 0 rfl
      have c51 := blk_cell H5.out 1 rfl
      have c40 := blk_cell H4.out 0 rfl
      have c41 := blk_cell H4.out 1 rfl
      have f40 := blk_free H4.out 0
      have f41 := blk_free H4.out 1
      have hw1 := wrote_cell (o := 0) (.string (dec (prodV (gnet l) vs l.length).1)) H4.out
      have hw2 := wrote_cell (o := 1) (.string (dec (prodV (gnet l) vs l.length).2)) hw1.here
      have HW2 := Lib.hid hw2
      have HW1 := Lib.hid hw1
      have hbx : w.heap.size ≤ wr.heap.size := HB.out.size
      clear hw1 hw2
      go_wp2_with fail
      have m9 := HW2.out.here
      have c90 := blk_cell m9 0 (v := .string (dec (prodV (gnet l) vs l.length).1)) (by simp)
      have c91 := blk_cell m9 1 (v := .string (dec (prodV (gnet l) vs l.length).2)) (by simp)
      have HB9 := HB.out.trans ((((Behind.refl wr [w.heap.size]).wrote HW1.out (.inl (by simp))).wrote HW2.out (.inl (by simp))).below_of (b := w.heap.size) (by intro k hk; rw [List.mem_singleton.1 hk]; exact Nat.le_refl _) hbx)
      exact bodyPost_ret (v := .agg #[.string (dec (prodV (gnet l) vs l.length).1), .string (dec (prodV (gnet l) vs l.length).2)]) (by simp [results, Tryz.results54, go_sem, c90, c91]) rfl ⟨rfl, HB9⟩
end Go.Proofs.YtbacloneddnaeaaGreat

/- BayesChecks: the walk. -/
namespace Go.Proofs.YtbacloneddnaeaaGreat
open Go.RowKit Go.Shelf Num

end Go.Proofs.YtbacloneddnaeaaGreat
