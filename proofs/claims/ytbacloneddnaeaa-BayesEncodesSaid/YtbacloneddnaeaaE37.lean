/- Texts of this claim, joined: BRefS, BRefC, BRefE, BLit, BRefP. -/
import Derived.Test.YtbacloneddnaeaaE36
import Derived.Test.YtbacloneddnaeaaE35
import Derived.Test.YtbacloneddnaeaaE20
import Derived.Test.YtbacloneddnaeaaE10
import Derived.Test.YtbacloneddnaeaaE23
import Derived.Test.YtbacloneddnaeaaE27

/- censusref40.sums. -/
namespace Go.Proofs.Ytbacloneddnaeaa
open Go.RowKit Go.Shelf Num

def SumsP (x : RV) (rows : Nat) : Prop := ∀ j, j < rows → nz (rowR (rowAt (gvar x) j)) = (1, 1)

set_option maxHeartbeats 3200000 in
set_option maxRecDepth 100000 in
theorem sums_law (x : RV) (rows K : Nat) (hk : x.k = K) (hr : rows * K = x.ts.length) (hK1 : 1 ≤ K) (hK8 : K ≤ 8) (htl : x.ts.length ≤ 1000) (hs : ∀ t ∈ x.ts, t.size ≤ 9) (N : Nat) (pa ta : Option Addr) (np pc tc : Nat) (w : World) (hta : AtN N w ta (strs x.ts)) (hw : N ≤ w.heap.size) :
    Calls Try.prog 35 #[.agg #[.int .i64 K, .slice pa np pc, .slice ta x.ts.length tc], .int .i64 rows] w fun e w' => ∃ b : Bool, e = .returned (.bool b) ∧ (b = true ↔ SumsP x rows) ∧ Below w.heap.size w w' := by
  obtain ⟨R, hR⟩ : ∃ R : Ending → World → Prop, R = fun e w' => ∃ b : Bool, e = .returned (.bool b) ∧ (b = true ↔ SumsP x rows) ∧ Below w.heap.size w w' := ⟨_, rfl⟩
  rw [← hR]
  have HR := Lib.hid hR
  clear hR
  have HTA := Lib.hid hta
  have HS := Lib.hid hs
  have HW := Lib.hid hw
  have HK := Lib.hid hk
  have hrl : rows ≤ 1000 := by have := Nat.mul_le_mul_left rows hK1; omega
  clear hta hs hw hk
  go_enter Try.func35, Try.ntmps35
  go_wp2_with fail
  refine wp_gen ?_
  intro w1 hw1
  have m2 : w1.heap[w.heap.size]? = some (.cells #[.int .i64 K, .slice pa np pc, .slice ta x.ts.length tc] 62 (0, 0)) := by rw [hw1]; exact heap_alloc_new w _
  have hB1 : Below w.heap.size w w1 := by rw [hw1]; exact (Below.refl _ _).alloc (Nat.le_refl _) _
  have M2 := Lib.hid m2
  have HB1 := Lib.hid hB1
  have HTA1 := Lib.hid (HTA.out.below hB1 HW.out)
  have hwl := lt_of_heap m2
  clear hw1 m2 hB1 HTA
  go_loopw [5] (fun i wr => ∃ j : Nat, j ≤ rows ∧ i = .int .i64 j ∧ Hid (∀ m, m < j → nz (rowR (rowAt (gvar x) m)) = (1, 1)) ∧ Hid (Below w1.heap.size w1 wr))
    (fun i _ => rows - (intOf i).toNat)
  case atStart => exact ⟨0, Nat.zero_le _, rfl, fun m h => by omega, Below.refl _ _⟩
  case round =>
    obtain ⟨j, hj, rfl, HP, HB⟩ := hrel
    have hNw := HW.out
    by_cases hlt : j < rows
    · have hd : decide (j < rows) = true := by simpa using hlt
      have KZ : Gives 70 #[] (.agg #[.string (dec 0), .string (dec 1)]) := gXZero
      have KO : Gives 73 #[] (.agg #[.string (dec 1), .string (dec 1)]) := gXOne
      have hJK : j * K + K ≤ x.ts.length := by
        have := Nat.mul_le_mul_right K (show j + 1 ≤ rows by omega)
        rw [Nat.add_mul, Nat.one_mul] at this; omega
      have hmu := mulI (A := j) (K := K) (by omega)
      go_wp2_with fail
      refine (KZ _).mono ?_
      rintro r3 w3 ⟨rfl, hB3⟩
      have hb3 : Below w1.heap.size w1 w3 := HB.out.trans (hB3.mono HB.out.size)
      have HB3 := Lib.hid hb3
      clear hB3 hb3 HB
      go_wp2_with fail
      refine wp_gen ?_
      intro w4 hw4
      have m6 : w4.heap[w3.heap.size]? = some (.cells #[.string (dec 0), .string (dec 1)] 88 (0, 0)) := by rw [hw4]; exact heap_alloc_new w3 _
      have hb4 : Below w3.heap.size w3 w4 := by rw [hw4]; exact (Below.refl _ _).alloc (Nat.le_refl _) _
      have HB4 := Lib.hid (HB3.out.trans (hb4.mono HB3.out.size))
      have hs4 : w1.heap.size ≤ w3.heap.size := HB3.out.size
      have M6 := Lib.hid m6
      clear hw4 m6 hb4
      go_loopw [7] (fun i wr => ∃ m : Nat, m ≤ K ∧ i = .int .i64 m ∧ Hid (wr.heap[w3.heap.size]? = some (.cells #[.string (dec (nz (rowR (((gvar x).tab.drop (j * K)).take m))).1), .string (dec (nz (rowR (((gvar x).tab.drop (j * K)).take m))).2)] 88 (0, 0))) ∧ Hid (Below w1.heap.size w1 wr) ∧ w3.heap.size < wr.heap.size)
        (fun i _ => K - (intOf i).toNat)
      case atStart => exact ⟨0, Nat.zero_le _, rfl, by simpa [Hid, rowR, nz, dn] using M6.out, HB4.out, lt_of_heap M6.out⟩
      case round =>
        obtain ⟨m, hm, rfl, H6, HB5, h6l⟩ := hrel
        have m2 := (behind_of_below HB5.out).keep M2.out (by simp)
        have d0 := blk_cell m2 0 rfl
        have d2 := blk_cell m2 2 rfl
        have htk : ∀ p ∈ ((gvar x).tab.drop (j * K)).take m, Q.Low (nz p) ∧ Sm 4 p := fun p hp => by
          have h1 := List.mem_of_mem_drop (List.mem_of_mem_take hp)
          obtain ⟨t, ht, rfl⟩ := List.mem_map.1 (show p ∈ x.ts.map rawOf from h1)
          exact raw_small (HS.out t ht)
        have hlen : (((gvar x).tab.drop (j * K)).take m).length ≤ m := by simp; omega
        have hlow := rowR_low _ _ rfl htk
        have hsm : Sm 10000 (nz (rowR (((gvar x).tab.drop (j * K)).take m))) := hlow.2.nz.mono (by omega)
        by_cases hmk : m < K
        · have hd2 : decide (m < K) = true := by simpa using hmk
          have hidx : j * K + m < x.ts.length := by omega
          obtain ⟨I, hI⟩ : ∃ I, j * K + m = I := ⟨_, rfl⟩
          have hIi := addI hI
          rw [hI] at hidx
          obtain ⟨t, ht⟩ : ∃ t, x.ts[I]? = some t := ⟨_, List.getElem?_eq_getElem hidx⟩
          obtain ⟨tb, to, htb, rfl, kt⟩ := HTA1.out _ _ (strs_get ht)
          have dt := below_cell HB5.out (by omega) kt
          have hts := raw_small (HS.out t (List.mem_of_getElem? ht))
          have hqs : Sm 10000 (numQ t) := by rw [← nz_raw]; exact hts.2.nz.mono (by omega)
          have KN := gXNum t (by have := HS.out t (List.mem_of_getElem? ht); omega)
          have KA := gXAdd2 _ _ hsm hqs hlow.1 (numQ_low t)
          have hnx : nz (rowR (((gvar x).tab.drop (j * K)).take (m + 1))) = Q.add (nz (rowR (((gvar x).tab.drop (j * K)).take m))) (numQ t) := by
            have hg : ((gvar x).tab.drop (j * K))[m]? = some (rawOf t) := by
              rw [List.getElem?_drop, hI]
              simp [gvar, ht]
            rw [take_snoc_of hg, rowR_nz_snoc hlow.1 hts.1, nz_raw]
          have HNX := Lib.hid hnx
          have H6' := Lib.hid H6.out
          generalize hs : nz (rowR (((gvar x).tab.drop (j * K)).take m)) = s at *
          have KN2 : Gives 51 #[.string t] (.agg #[.string (dec (numQ t).1), .string (dec (numQ t).2)]) := KN
          have KA2 : Gives 71 #[.agg #[.string (dec s.1), .string (dec s.2)], .agg #[.string (dec (numQ t).1), .string (dec (numQ t).2)]] (.agg #[.string (dec (Q.add s (numQ t)).1), .string (dec (Q.add s (numQ t)).2)]) := KA
          have HM2 := Lib.hid m2
          have HDT := Lib.hid dt
          have hjk : j * K ≤ 2251799813685248 := by omega
          clear ht kt dt hts hqs KN KA hnx hs hlow hsm htk hlen m2 hI
          generalize Q.add s (numQ t) = S2 at *
          generalize numQ t = qn at *
          go_wp2_with fail
          clear d0 d2
          refine wp_game [1, 0, 0, 0, 0, 0, 0, 0, 0, 0, 0, 0, 0, 2] [w3.heap.size] _ (Fin.put fin_B0 _ _) (has_put (has_B0 _) H6.out) (by kernel_rfl) (by kernel_rfl) ?_
          refine lex_readE 1 wr (Behind.refl _ _) (has_put (has_B0 _) H6.out) (by kernel_rfl) (by rfl) ?_
          apply Exists.intro
          refine ⟨fun z hz hB => ?_, ?_⟩
          · have g0 := blk_cellp (hB w3.heap.size _ (Blocks.put_same _ _ _)) 0 rfl
            have g1 := blk_cellp (hB w3.heap.size _ (Blocks.put_same _ _ _)) 1 rfl
            clear hz hB
            simp only [List.take_succ_cons, List.take_zero]
            unfold Cx
            repeat (go_big_quiet_step (fail))
            exact wpQuiet_nil rfl
          simp only [List.drop_succ_cons, List.drop_zero]
          refine lex_quietE 12 (by kernel_rfl) (by rfl) ?_
          apply Exists.intro
          refine ⟨fun z hz => ?_, ?_⟩
          · have g2 := blk_cellp (hz.keep HM2.out (by simp; omega)) 0 rfl
            have g3 := blk_cellp (hz.keep HM2.out (by simp; omega)) 2 rfl
            have g4 := behind_cellp hz HDT.out (by simp; omega)
            clear hz
            simp only [List.take_succ_cons, List.take_zero]
            unfold Cx
            repeat (go_big_quiet_step (first | with_reducible exact KN2.at _ _ | with_reducible exact KA2.at _ _))
            exact wpQuiet_nil rfl
          simp only [List.drop_succ_cons, List.drop_zero]
          refine lex_store_all w3.heap.size #[.string (dec S2.1), .string (dec S2.2)] _ _ (by rfl) (by rfl) (by rfl) (Blocks.put_same _ _ _) (by rfl) (.inl (by simp)) (by kernel_rfl) (by simp [Value.oneCell']) ?_
          refine lex_nil ?_
          intro x7 hx7 hH7
          have m67 := hH7 w3.heap.size _ (Blocks.put_same _ _ _)
          have HB7 := Lib.hid (HB5.out.trans (hx7.below_of (b := w1.heap.size) (by intro k hk; rw [List.mem_singleton.1 hk]; exact hs4) HB5.out.size))
          rw [← HNX.out] at m67
          have M67 := Lib.hid m67
          have hl7 := lt_of_heap m67
          clear hx7 hH7 m67 HNX H6 H6' HB5 HM2 HDT KN2 KA2
          go_wp2_with fail
          go_roundw
          case rel => exact ⟨m + 1, by omega, by go_num, M67, HB7, hl7⟩
          case measure => simp [intOf]; omega
        · obtain rfl : m = K := by omega
          have hrow : ((gvar x).tab.drop (j * m)).take m = rowAt (gvar x) j := by
            unfold rowAt
            rw [show (gvar x).k = x.k from rfl, HK.out, Int.toNat_natCast]
          rw [hrow] at hlow hsm H6
          generalize hs : nz (rowR (rowAt (gvar x) j)) = s at *
          have lone : Q.Low (1, 1) := ⟨by decide, by decide⟩
          have KC : Gives 72 #[.agg #[.string (dec s.1), .string (dec s.2)], .agg #[.string (dec 1), .string (dec 1)]] (.int .i64 (Q.cmp s (1, 1))) := gXCmp2 s (1, 1) hsm ⟨by decide, by decide⟩
          by_cases hz : s = (1, 1)
          · rw [(Q.cmp_eq hlow.1 lone).2 hz] at KC
            have HZ := Lib.hid (hs.trans hz)
            clear hz hlow hsm htk hlen m2 hs hrow
            go_wp2_with fail
            clear d0 d2
            refine wp_game [0, 0, 0, 0] [] B0 fin_B0 (has_B0 _) (by kernel_rfl) (by kernel_rfl) ?_
            refine lex_quietE 4 (by kernel_rfl) (by rfl) ?_
            apply Exists.intro
            refine ⟨fun z hz => ?_, ?_⟩
            · have g0 := blk_cellp (hz.keep H6.out (by simp)) 0 rfl
              have g1 := blk_cellp (hz.keep H6.out (by simp)) 1 rfl
              clear hz
              simp only [List.take_succ_cons, List.take_zero]
              unfold Cx
              repeat (go_big_quiet_step (first | with_reducible exact KO.at _ _ | with_reducible exact KC.at _ _))
              exact wpQuiet_nil rfl
            simp only [List.drop_succ_cons, List.drop_zero]
            refine lex_nil ?_
            intro x7 hx7 _
            have HB7 := Lib.hid (HB5.out.trans (hx7.below.mono HB5.out.size))
            have HP7 : Hid (∀ n, n < j + 1 → nz (rowR (rowAt (gvar x) n)) = (1, 1)) := fun n hn => by
              rcases Nat.lt_or_ge n j with h | h
              · exact HP.out n h
              · obtain rfl : n = j := by omega
                exact HZ.out
            clear hx7 HB5 H6 HP
            go_wp2_with fail
            go_roundw
            case rel => exact ⟨j + 1, by omega, by go_num, HP7, HB7⟩
            case measure => simp [intOf]; omega
          · obtain ⟨cc, hcc⟩ : ∃ cc, Q.cmp s (1, 1) = cc := ⟨_, rfl⟩
            have hc0 : cc ≠ 0 := fun h => hz ((Q.cmp_eq hlow.1 lone).1 (hcc.trans h))
            rw [hcc] at KC
            have hc1 : (cc == 0) = false := beq_no hc0
            have hc2 : (cc != 0) = true := by simp [bne, hc1]
            have HZ := Lib.hid hz
            have HSS := Lib.hid hs
            clear hcc hz hlow hsm htk hlen m2 hs hrow
            go_wp2_with fail
            clear d0 d2
            refine wp_game [0, 0, 0, 0] [] B0 fin_B0 (has_B0 _) (by kernel_rfl) (by kernel_rfl) ?_
            refine lex_quietE 4 (by kernel_rfl) (by rfl) ?_
            apply Exists.intro
            refine ⟨fun z hz => ?_, ?_⟩
            · have g0 := blk_cellp (hz.keep H6.out (by simp)) 0 rfl
              have g1 := blk_cellp (hz.keep H6.out (by simp)) 1 rfl
              clear hz
              simp only [List.take_succ_cons, List.take_zero]
              unfold Cx
              repeat (go_big_quiet_step (first | with_reducible exact KO.at _ _ | with_reducible exact KC.at _ _))
              exact wpQuiet_nil rfl
            simp only [List.drop_succ_cons, List.drop_zero]
            refine lex_nil ?_
            intro x7 hx7 _
            have HB7 := Lib.hid (HB5.out.trans (hx7.below.mono HB5.out.size))
            clear hx7 HB5 H6 HP
            go_wp2_with fail
            rw [HR.out]
            exact ⟨false, rfl, ⟨fun h => (Bool.false_ne_true h).elim, fun h => absurd (HSS.out ▸ h j hlt) HZ.out⟩, HB1.out.trans (HB7.out.mono HB1.out.size)⟩
    · obtain rfl : j = rows := by omega
      go_wp2_with fail
      rw [HR.out]
      exact ⟨true, rfl, ⟨fun _ => HP.out, fun _ => rfl⟩, HB1.out.trans (HB.out.mono HB1.out.size)⟩
end Go.Proofs.Ytbacloneddnaeaa

/- censusref40.Check. -/
namespace Go.Proofs.Ytbacloneddnaeaa
open Go.RowKit Go.Shelf Num

theorem formed_iff {l : List RV} {i : Nat} {x : RV} (hx : l[i]? = some x) : formedP (gnet l) i ↔ ∃ r, Shape (gnet l) i x r ∧ SumsP x r := by
  constructor
  · rintro ⟨y, r, h1, h2, h3, h4, h5, h6⟩
    rw [gnet_get hx] at h1
    cases h1
    simp only [gvar, List.length_map] at h2 h3 h4 h5
    exact ⟨r, ⟨h2, h3, h4, h5⟩, h6⟩
  · rintro ⟨r, ⟨h2, h3, h4, h5⟩, h6⟩
    exact ⟨gvar x, r, gnet_get hx, h2, h3, by simpa [gvar] using h4, by simpa [gvar] using h5, h6⟩

theorem min_step {J k : Nat} (hk : 1 ≤ k) : min (if J ≤ 65536 then J * k else J) 65537 = min (min J 65537 * k) 65537 := by
  by_cases h : J ≤ 65536
  · rw [if_pos h, Nat.min_eq_left (show J ≤ 65537 by omega)]
  · rw [if_neg h, Nat.min_eq_right (show 65537 ≤ J by omega), Nat.min_eq_right (show 65537 ≤ 65537 * k by omega)]

set_option maxHeartbeats 3200000 in
set_option maxRecDepth 100000 in
theorem xcheck_law (N : Nat) (l : List RV) (a : Option Addr) (c : Nat) (hl : Lit l) (w : World) (hN : RefAt N w a l) (hw : N ≤ w.heap.size) :
    Calls Try.prog 12 #[.slice a l.length c] w fun e w' => e = .returned (.int .i64 (checkE (gnet l))) ∧ Below w.heap.size w w' := by
  have HN := Lib.hid hN
  have HL := Lib.hid hl
  have hlen := hl.len
  have hgl : (gnet l).length = l.length := by simp [gnet]
  have HGL := Lib.hid hgl
  clear hN hl
  by_cases h16 : 16 < l.length
  · have hE : Hid (checkE (gnet l) = 1) := if_pos (by rw [hgl]; exact h16)
    clear hgl
    go_enter Try.func12, Try.ntmps12
    go_wp2_with fail
    go_ret
    exact ⟨by rw [hE.out]; rfl, Below.refl _ _⟩
  have h16' : l.length ≤ 16 := by omega
  clear h16 hgl
  have hbadE : ∀ j, j < l.length → ¬ formedP (gnet l) j → Hid (checkE (gnet l) = 1) := fun j hj hn => by
    unfold Hid checkE
    rw [if_neg (by rw [HGL.out]; omega), if_neg (fun h => hn (h j (by rw [HGL.out]; exact hj)))]
  have HBAD := Lib.hid hbadE
  clear hbadE
  go_enter Try.func12, Try.ntmps12
  go_wp2_with fail
  go_loopw [3] (fun i wr => ∃ j : Nat, j ≤ l.length ∧ i = .int .i64 j ∧ Hid (∀ m, m < j → formedP (gnet l) m) ∧ Hid (Below w.heap.size w wr))
    (fun i _ => l.length - (intOf i).toNat)
  case atStart => exact ⟨0, Nat.zero_le _, rfl, fun m h => by omega, Below.refl _ _⟩
  case round =>
    obtain ⟨j, hj, rfl, HF, HB⟩ := hrel
    by_cases hlt : j < l.length
    · have hd : decide (j < l.length) = true := by simpa using hlt
      obtain ⟨x, hx⟩ : ∃ x, l[j]? = some x := ⟨_, List.getElem?_eq_getElem hlt⟩
      have HX := Lib.hid hx
      have hxm := List.mem_of_getElem? hx
      have hps := HL.out.ps x hxm
      obtain ⟨hts, hss⟩ := HL.out.ts x hxm
      have HSS := Lib.hid hss
      have hpre : Pre (gnet l) j := ⟨fun m y hm hy => by
        obtain ⟨y', _, h1, h2, h3, _⟩ := HF.out m hm
        rw [hy] at h1
        cases h1
        omega⟩
      have hNr := HN.out.below HB.out hw
      have HNR := Lib.hid hNr
      have HPRE := Lib.hid hpre
      have hwr : N ≤ wr.heap.size := Nat.le_trans hw HB.out.size
      clear hx hss hpre hNr
      go_wp2_with fail
      refine (rows_law N l a c j x HX.out HPRE.out h16' hts (by omega) wr HNR.out hwr).mono ?_
      rintro r1 w1 ⟨v, rfl, hv, hB1⟩
      rcases hv with ⟨r, rfl, hsh⟩ | ⟨rfl, hno⟩
      · obtain ⟨b, o, pa, pc, ta, tc, hb, rfl, n0, n1, n2, _, hta⟩ := HNR.out j x HX.out
        have d0 := below_cell hB1 (by omega) n0
        have d1 := below_cell hB1 (by omega) n1
        have d2 := below_cell hB1 (by omega) n2
        have HTA := Lib.hid (hta.below hB1 hwr)
        have HSH := Lib.hid hsh
        have HB1 := Lib.hid (HB.out.trans (hB1.mono HB.out.size))
        have hw1 : N ≤ w1.heap.size := Nat.le_trans hwr hB1.size
        obtain ⟨K, hK⟩ : ∃ K : Nat, x.k = K := ⟨x.k.toNat, by have := hsh.1; omega⟩
        have HK := Lib.hid hK
        have hK2 : 2 ≤ K := by have := hsh.1; omega
        have hK8 : K ≤ 8 := by have := hsh.2.1; omega
        have hrK : r * K = x.ts.length := by have := hsh.2.2.2; rwa [hK, Int.toNat_natCast] at this
        have HRK := Lib.hid hrK
        have hr1 : ¬ (r : Int) < 0 := by omega
        have hr0 : decide ((r : Int) < 0) = false := by simp
        rw [hK] at d0
        clear n0 n1 n2 hta hsh hB1 hK hrK HB HNR
        go_wp2_with fail
        refine (sums_law x r K HK.out HRK.out (by omega) hK8 hts HSS.out N pa ta x.ps.length pc tc w1 HTA.out hw1).mono ?_
        rintro r2 w2 ⟨bb, rfl, hbb, hB2⟩
        have HB2 := Lib.hid (HB1.out.trans (hB2.mono HB1.out.size))
        have HBB := Lib.hid hbb
        clear hB2 hbb HB1 d0 d1 d2
        cases bb with
        | true =>
          have HF2 : Hid (∀ m, m < j + 1 → formedP (gnet l) m) := fun m hm => by
            rcases Nat.lt_or_ge m j with h | h
            · exact HF.out m h
            · obtain rfl : m = j := by omega
              exact (formed_iff HX.out).2 ⟨r, HSH.out, HBB.out.1 rfl⟩
          clear HF HBB
          go_wp2_with fail
          go_roundw
          case rel => exact ⟨j + 1, by omega, by go_num, HF2, HB2⟩
          case measure => simp [intOf]; omega
        | false =>
          have HE := HBAD.out j hlt (fun h => by
            obtain ⟨r', h1, h2⟩ := (formed_iff HX.out).1 h
            have e1 := h1.2.2.1
            rw [HSH.out.2.2.1] at e1
            cases e1
            exact Bool.false_ne_true (HBB.out.2 h2))
          clear HF HBB
          go_wp2_with fail
          go_ret
          exact ⟨by rw [HE.out]; rfl, HB2.out⟩
      · have HB1 := Lib.hid (HB.out.trans (hB1.mono HB.out.size))
        have HE := HBAD.out j hlt (fun h => by
          obtain ⟨r', h1, _⟩ := (formed_iff HX.out).1 h
          exact hno r' h1)
        clear hno hB1 HB HNR
        go_wp2_with fail
        go_ret
        exact ⟨by rw [HE.out]; rfl, HB1.out⟩
    · obtain rfl : j = l.length := by omega
      clear hlt hj
      have HALL : Hid (∀ m, m < l.length → formedP (gnet l) m) := HF.out
      clear HF HBAD
      obtain ⟨w1, rfl⟩ : ∃ w1, w1 = wr := ⟨_, rfl⟩
      have HN1 := Lib.hid (HN.out.below HB.out hw)
      go_wp2_with fail
      go_loopw [5, 6, 7] (fun jt vt i wr => ∃ j J V : Nat, j ≤ l.length ∧ i = .int .i64 j ∧ jt = .int .i64 J ∧ vt = .int .i64 V ∧ J ≤ 600000 ∧ V ≤ j * 2000 ∧ Hid (min J 65537 = jointOf ((gnet l).take j)) ∧ Hid (V = varsOf ((gnet l).take j)) ∧ Hid (Below w1.heap.size w1 wr))
        (fun _ _ i _ => l.length - (intOf i).toNat)
      case atStart => exact ⟨0, 1, 0, Nat.zero_le _, rfl, rfl, rfl, by omega, by omega, rfl, rfl, Below.refl _ _⟩
      case round =>
        obtain ⟨j, J, V, hj, rfl, rfl, rfl, hJ, hV, HJ, HV, HB2⟩ := hrel
        by_cases hlt : j < l.length
        · have hd : decide (j < l.length) = true := by simpa using hlt
          obtain ⟨x, hx⟩ : ∃ x, l[j]? = some x := ⟨_, List.getElem?_eq_getElem hlt⟩
          have hxm := List.mem_of_getElem? hx
          obtain ⟨hts, _⟩ := HL.out.ts x hxm
          obtain ⟨b, o, pa, pc, ta, tc, hb, rfl, n0, n1, n2, _, _⟩ := HN1.out j x hx
          have hw1 : N ≤ w1.heap.size := Nat.le_trans hw HB.out.size
          obtain ⟨y, _, hy, hk2, hk8, _⟩ := HALL.out j hlt
          rw [gnet_get hx] at hy
          cases hy
          obtain ⟨K, hK⟩ : ∃ K : Nat, x.k = K := ⟨x.k.toNat, by simp [gvar] at hk2; omega⟩
          have hK2 : 2 ≤ K := by simp [gvar] at hk2; omega
          have hK8 : K ≤ 8 := by simp [gvar] at hk8; omega
          have d0 := below_cell HB2.out (by omega) n0
          have d2 := below_cell HB2.out (by omega) n2
          rw [hK] at d0
          have hg : (gnet l)[j]? = some (gvar x) := gnet_get hx
          have HJ2 : Hid (min (if J ≤ 65536 then J * K else J) 65537 = jointOf ((gnet l).take (j + 1))) := by
            unfold Hid
            rw [take_snoc_of hg, jointOf_snoc, ← HJ.out, show (gvar x).k = x.k from rfl, hK, Int.toNat_natCast]
            exact min_step (by omega)
          have HV2 : Hid (V + (K + x.ts.length) = varsOf ((gnet l).take (j + 1))) := by
            unfold Hid
            rw [take_snoc_of hg, varsOf_snoc, ← HV.out, show (gvar x).k = x.k from rfl, hK, Int.toNat_natCast]
            simp [gvar]
          have hN0 : Hid (wr.cell? ⟨b, o + j * 3, none⟩ = some (.int .i64 (K : Nat))) := d0
          have hN2 : Hid (wr.cell? ⟨b, o + j * 3 + 2, none⟩ = some (.slice ta x.ts.length tc)) := d2
          clear hx n0 n1 n2 hk2 hk8 hg HJ HV hxm
          by_cases hJ6 : J ≤ 65536
          · have hmul := mulI (A := J) (K := K) (by have := Nat.mul_le_mul hJ6 hK8; omega)
            have hJ2b : J * K ≤ 600000 := by have := Nat.mul_le_mul hJ6 hK8; omega
            rw [if_pos hJ6] at HJ2
            go_wp2_with fail
            clear d0 d2
            refine wp_game [0, 0, 0, 0, 0, 0, 0, 0, 0, 0, 0, 0, 0, 0, 0] [] B0 fin_B0 (has_B0 _) (by kernel_rfl) (by kernel_rfl) ?_
            refine lex_quietE 15 (by kernel_rfl) (by rfl) ?_
            apply Exists.intro
            refine ⟨fun z hz => ?_, ?_⟩
            · have g0 := behind_cellp hz hN0.out (by simp)
              have g2 := behind_cellp hz hN2.out (by simp)
              clear hz
              simp only [List.take_succ_cons, List.take_zero]
              unfold Cx
              repeat (go_big_quiet_step (fail))
              exact wpQuiet_nil rfl
            simp only [List.drop_succ_cons, List.drop_zero]
            refine lex_nil ?_
            intro x7 hx7 _
            have HB7 := Lib.hid (HB2.out.trans (hx7.below.mono HB2.out.size))
            clear hx7 HB2 hN0 hN2
            go_wp2_with fail
            go_roundw
            case rel => exact ⟨j + 1, J * K, V + (K + x.ts.length), by omega, by go_num, by rw [Int.natCast_mul], by go_num, hJ2b, by omega, HJ2, HV2, HB7⟩
            case measure => simp [intOf]; omega
          · have hJ7 : 65536 < J := by omega
            rw [if_neg hJ6] at HJ2
            clear hJ6
            go_wp2_with fail
            clear d0 d2
            refine wp_game [0, 0, 0, 0, 0, 0, 0, 0, 0, 0, 0, 0, 0, 0, 0] [] B0 fin_B0 (has_B0 _) (by kernel_rfl) (by kernel_rfl) ?_
            refine lex_quietE 15 (by kernel_rfl) (by rfl) ?_
            apply Exists.intro
            refine ⟨fun z hz => ?_, ?_⟩
            · have g0 := behind_cellp hz hN0.out (by simp)
              have g2 := behind_cellp hz hN2.out (by simp)
              clear hz
              simp only [List.take_succ_cons, List.take_zero]
              unfold Cx
              repeat (go_big_quiet_step (fail))
              exact wpQuiet_nil rfl
            simp only [List.drop_succ_cons, List.drop_zero]
            refine lex_nil ?_
            intro x7 hx7 _
            have HB7 := Lib.hid (HB2.out.trans (hx7.below.mono HB2.out.size))
            clear hx7 HB2 hN0 hN2
            go_wp2_with fail
            go_roundw
            case rel => exact ⟨j + 1, J, V + (K + x.ts.length), by omega, by go_num, rfl, by go_num, hJ, by omega, HJ2, HV2, HB7⟩
            case measure => simp [intOf]; omega
        · obtain rfl : j = l.length := by omega
          have hJE := HJ.out
          have hVE := HV.out
          rw [← HGL.out, List.take_length] at hJE hVE
          have hall : ∀ i, i < (gnet l).length → formedP (gnet l) i := fun i hi => HALL.out i (by rw [HGL.out] at hi; exact hi)
          by_cases hJ6 : 65536 < J
          · have hE : Hid (checkE (gnet l) = 2) := by
              unfold Hid checkE
              rw [if_neg (by rw [HGL.out]; omega), if_pos hall, if_pos (.inl (by omega))]
            clear hall hJE hVE
            go_wp2_with fail
            go_ret
            exact ⟨by rw [hE.out]; rfl, HB.out.trans (HB2.out.mono HB.out.size)⟩
          · have hJ6' : J ≤ 65536 := by omega
            by_cases hV1 : 128 < V
            · have hE : Hid (checkE (gnet l) = 2) := by
                unfold Hid checkE
                rw [if_neg (by rw [HGL.out]; omega), if_pos hall, if_pos (.inr (by omega))]
              clear hall hJE hVE hJ6
              go_wp2_with fail
              go_ret
              exact ⟨by rw [hE.out]; rfl, HB.out.trans (HB2.out.mono HB.out.size)⟩
            · have hE : Hid (checkE (gnet l) = 0) := by
                unfold Hid checkE
                rw [if_neg (by rw [HGL.out]; omega), if_pos hall, if_neg (by omega)]
              have hV2 : V ≤ 128 := by omega
              clear hall hJE hVE hJ6 hV1
              go_wp2_with fail
              go_ret
              exact ⟨by rw [hE.out]; rfl, HB.out.trans (HB2.out.mono HB.out.size)⟩
end Go.Proofs.Ytbacloneddnaeaa

/- censusref40.Entry and product. -/
namespace Go.Proofs.Ytbacloneddnaeaa
open Go.RowKit Go.Shelf Num

end Go.Proofs.Ytbacloneddnaeaa

/- censusref40.literals. -/
namespace Go.Proofs.Ytbacloneddnaeaa
open Go.RowKit Go.Shelf Num

def IndAt (N : Nat) (w : World) (ia : Option Addr) (ind : List (List Int)) : Prop := ∀ i xs, ind[i]? = some xs → ∃ b o pa pc, b < N ∧ ia = some ⟨b, o, none⟩ ∧ w.cell? ⟨b, o + i, none⟩ = some (.slice pa xs.length pc) ∧ AtN N w pa (ints xs)
theorem IndAt.below {N M : Nat} {w w' : World} {a : Option Addr} {ind : List (List Int)} (h : IndAt N w a ind) (hb : Below M w w') (hM : N ≤ M) : IndAt N w' a ind := fun i xs hi => by
  obtain ⟨b, o, pa, pc, h1, h2, h3, h4⟩ := h i xs hi
  exact ⟨b, o, pa, pc, h1, h2, below_cell hb (by omega) h3, h4.below hb hM⟩
theorem IndAt.mono {N M : Nat} {w : World} {a : Option Addr} {ind : List (List Int)} (h : IndAt N w a ind) (hM : N ≤ M) : IndAt M w a ind := fun i xs hi => by
  obtain ⟨b, o, pa, pc, h1, h2, h3, h4⟩ := h i xs hi
  exact ⟨b, o, pa, pc, by omega, h2, h3, h4.mono hM⟩

theorem wpList_append_full {P : Program} {ops : Array Oper} {rest : List Oper} {o : Oper} {a : Act} {Q : Exit → Act → World → Prop} (w : World) (hgd : o.guard = none) (s x : Operand) (t : TypeId) (ho : o.op = .call { callee := .builtin .append, args := #[s, x], argTypes := #[t, t] })
    (E : TypeId) (i : TypeInfo) (z : Value) (bytes : Nat) (ht : P.underlying t = some (.slice E)) (hi : P.info? E = some i) (hz : i.zero = some z) (hsize : i.size = 1) (hby : i.bytes = bytes) (hzs : z.cells.size = 1)
    (g : Nat) (d : Value) (hs : a.eval s = .slice (some ⟨g, 0, none⟩) 1 1) (hd : w.heap[g]? = some (.cells #[d] E (0, 0))) (ad : Addr) (m c2 : Nat) (news : List Value) (hx : a.eval x = .slice (some ad) m c2) (hnews : ∀ j u, news[j]? = some u → w.cell? (ad.add j) = some u) (hl : news.length = m) (h0 : 0 < m)
    (h63 : 1 + m ≤ maxLen) (hbytes : (1 + m) * bytes ≤ 140737488355328)
    (h : ∀ g' cap' cur' w', RowB (inW w') E 1 g' (1 + m) cap' (d :: news) cur' → Below w.heap.size w w' → w.heap.size ≤ g' → wpList P ops Q rest (a.put o.dst (.slice (some ⟨g', 0, none⟩) (1 + m) cap')) w') : wpList P ops Q (o :: rest) a w := by
  subst hby
  refine wpList_plain hgd fun _ hK => ?_
  have hr := run_append_grow (P := P) w t o.type E i z ht hi hz ⟨g, 0, none⟩ 1 1 [d] (by simp [hsize]) (fun j v hj => by
    rw [Addr.add_lit, Nat.zero_add]
    exact blk_cell hd j (by simpa using hj)) ad m c2 news (by rw [hl, hsize]; omega) hnews (by omega) (by simp only [maxLen] at h63; omega) (growslice_fits (by omega) hbytes)
  unfold Oper.wp execOp
  simp only [ho, resolve, invoke, builtin, Sem.run_bind, Sem.run_pure, Result.andThen_ok, List.map_toArray, List.map_cons, List.map_nil, hs, hx, hr]
  refine hK _ _ (h _ _ _ _ ⟨heap_alloc_new w.drew _, grownCap_ge w (1 + m) 1 E, grownCap_le_maxLen w (1 + m) 1 E h63, ?_, ?_, by simp [hl]; omega⟩ ((Below.refl _ w).drew.alloc (by simp) _) (by simp))
  · have := grownCap_ge w (1 + m) 1 E
    simp only [Array.size_append, List.size_toArray, List.length_cons, List.length_nil, size_zeroCells, hzs, hl]
    omega
  · simp only [Array.toList_append]
    rw [Nat.mul_one, List.take_append_of_le_length (by simp [hl]; omega)]
    exact List.take_of_length_le (by simp [hl]; omega)

theorem RefAt.mono' {N M : Nat} {w : World} {a : Option Addr} {l : List RV} (h : RefAt N w a l) (hM : N ≤ M) : RefAt M w a l := fun i x hi => by
  obtain ⟨b, o, pa, pc, ta, tc, hb, ha, n0, n1, n2, hpa, hta⟩ := h i x hi
  exact ⟨b, o, pa, pc, ta, tc, by omega, ha, n0, n1, n2, hpa.mono hM, hta.mono hM⟩
theorem wrap_div {r K : Nat} (h : r ≤ 1000000) : wrap64 ((r : Int) / (K : Int)) = ((r / K : Nat) : Int) := by
  rw [← Int.natCast_ediv]
  have := Nat.div_le_self r K
  generalize r / K = q at *
  unfold wrap64; omega
theorem own_at {w : World} {b : Nat} {v : Value} {xs : List Int} (h : OwnI w b [] v xs) : ∃ a c, v = .slice a xs.length c ∧ AtN w.heap.size w a (ints xs) := by
  obtain ⟨a, c, h1, h2, _⟩ := OutN.row (M := []) h.row (by simp)
  exact ⟨a, c, h1, fun i v hi => by
    obtain ⟨g, o, _, e, k⟩ := h2 i v hi
    exact ⟨g, o, block_lt_of_cell k, e, k⟩⟩
theorem own_front {w : World} {b g cap : Nat} {cur : Array Value} {d : Int} {st : List Int} (h : RowB (inW w) 3 1 g (1 + st.reverse.length) cap (.int .i64 d :: ints st.reverse) cur) (hb : b ≤ g) : OwnI w b [] (.slice (some ⟨g, 0, none⟩) (1 + st.length) cap) (st ++ [d]).reverse := by
  rw [List.length_reverse] at h
  have e1 : ((st ++ [d]).reverse).length = 1 + st.length := by simp; omega
  have e2 : ints ((st ++ [d]).reverse) = .int .i64 d :: ints st.reverse := by simp [ints]
  refine ⟨?_, fun g' hg => ?_, by simp⟩
  · rw [e1, e2]; exact .row h
  · have : g' = g := by simpa [rowBlk] using hg
    omega

set_option maxHeartbeats 3200000 in
set_option maxRecDepth 100000 in
theorem xliterals_law (N : Nat) (l : List RV) (ind : List (List Int)) (a ia : Option Addr) (c ic i r : Nat) (x : RV) (hx : l[i]? = some x) (hl : l.length ≤ 100) (hk : ∀ (j : Nat) (y : RV), l[j]? = some y → 1 ≤ y.k ∧ y.k ≤ 8 ∧ ∃ xs, ind[j]? = some xs ∧ (xs.length : Int) = y.k) (hp : ∀ p ∈ x.ps, 0 ≤ p ∧ p.toNat < l.length) (hpl : x.ps.length ≤ 16) (hr : r ≤ 1000000) (w : World) (hN : RefAt N w a l) (hI : IndAt N w ia ind) (hw : N ≤ w.heap.size) :
    Calls Try.prog 52 #[.slice a l.length c, .slice ia l.length ic, .int .i64 i, .int .i64 r] w fun e w' => ∃ v, e = .returned v ∧ OwnI w' w.heap.size [] v (rowIs (gnet l) ind i (gvar x) r) ∧ Below w.heap.size w w' := by
  obtain ⟨R, hR⟩ : ∃ R : Ending → World → Prop, R = fun e w' => ∃ v, e = .returned v ∧ OwnI w' w.heap.size [] v (rowIs (gnet l) ind i (gvar x) r) ∧ Below w.heap.size w w' := ⟨_, rfl⟩
  rw [← hR]
  have HR := Lib.hid hR
  obtain ⟨i0, ii, iz0, iz1, iz2⟩ := info_parts Try.infoInt
  obtain ⟨hk1, hk8, xs0, hx0, hxl0⟩ := hk i x hx
  obtain ⟨K, hK⟩ : ∃ K : Nat, x.k = K := ⟨x.k.toNat, by omega⟩
  rw [hK] at hk1 hk8 hxl0
  obtain ⟨b, o, pa, pc, ta, tc, hb, rfl, n0, n1, n2, hpa, hta⟩ := hN i x hx
  obtain ⟨ib, io, ipa, ipc, hib, rfl, m0, hxs0⟩ := hI i xs0 hx0
  have hxl : xs0.length = K := by omega
  have hrK : r % K < K := Nat.mod_lt _ (by omega)
  obtain ⟨d0, hd0⟩ : ∃ d0, xs0[r % K]? = some d0 := ⟨_, List.getElem?_eq_getElem (by omega)⟩
  obtain ⟨vb, vo, hvb, rfl, hdc⟩ := hxs0 _ _ (ints_get _ _ _ hd0)
  have hbw : b < w.heap.size := by omega
  have hibw : ib < w.heap.size := by omega
  have hvbw : vb < w.heap.size := by omega
  rw [hK] at n0
  rw [hxl] at m0
  have N0 := Lib.hid n0
  have N1 := Lib.hid n1
  have M0 := Lib.hid m0
  have DC := Lib.hid hdc
  have HPA := Lib.hid hpa
  have HN := Lib.hid hN
  have HI := Lib.hid hI
  have HKK := Lib.hid hk
  have HP := Lib.hid hp
  have HX0 := Lib.hid (show rowIs (gnet l) ind i (gvar x) r = (digsAt (gnet l) ind x.ps ([d0], r / K) (downTo x.ps.length 0)).1.reverse by
    unfold rowIs
    rw [show (gvar x).k = x.k from rfl, hK, Int.toNat_natCast, show (gvar x).ps = x.ps from rfl]
    congr 3
    rw [List.getD_eq_getElem?_getD, List.getD_eq_getElem?_getD, hx0]
    simp [hd0])
  have hik : i < l.length := (List.getElem?_eq_some_iff.1 hx).1
  have hrm : ((r : Int)).tmod (K : Int) = ((r % K : Nat) : Int) := by rw [Int.tmod_eq_emod_of_nonneg (by omega)]; rfl
  have hrd : ((r : Int)).tdiv (K : Int) = ((r / K : Nat) : Int) := by rw [Int.tdiv_eq_ediv_of_nonneg (by omega)]; rfl
  have hq0 : r / K ≤ 1000000 := Nat.le_trans (Nat.div_le_self _ _) hr
  have hK0 : ((K : Int) == 0) = false := beq_no (by omega)
  have HRM := Lib.hid hrm
  have HRD := Lib.hid hrd
  clear hR hx hk hp hN hI hx0 hxl0 n0 n1 n2 m0 hdc hpa hta hxs0 hd0 hK hrm hrd
  go_enter Try.func52, Try.ntmps52
  go_wp2_with fail
  refine wp_game [0, 0, 0, 0, 0, 0, 0, 0, 0, 0, 0, 0, 0, 3, 0] [] B0 fin_B0 (has_B0 _) (by kernel_rfl) (by kernel_rfl) ?_
  refine lex_quietE 13 (by kernel_rfl) (by rfl) ?_
  apply Exists.intro
  refine ⟨fun z hz => ?_, ?_⟩
  · have hwz := hz.below_of (b := w.heap.size) (by simp) (Nat.le_refl _)
    have g0 := below_cellp hwz M0.out hibw
    have g1 := below_cellp hwz N0.out hbw
    have g2 := below_cellp hwz DC.out hvbw
    clear hz hwz
    simp only [List.take_succ_cons, List.take_zero]
    unfold Cx
    repeat (go_big_quiet_step (fail))
    exact wpQuiet_nil rfl
  simp only [List.drop_succ_cons, List.drop_zero]
  refine lex_slice 1 (.cells #[.int .i64 d0] 3) (by rfl) (fun x => by go_simp) (fun g25 q25 hn25 => ?_)
  unfold setSlot
  go_big_quiet_step (fail)
  refine wpQuiet_nil ?_
  refine lex_quietE 1 (by kernel_rfl) (by rfl) ?_
  apply Exists.intro
  refine ⟨fun z hz => ?_, ?_⟩
  · clear hz
    simp only [List.take_succ_cons, List.take_zero]
    unfold Cx
    repeat (go_big_quiet_step (fail))
    exact wpQuiet_nil rfl
  simp only [List.drop_succ_cons, List.drop_zero]
  refine lex_nil ?_
  intro w1 hx1 hH1
  have m25 := hH1 g25 _ (Blocks.put_same _ _ _)
  have HB1 := Lib.hid (hx1.below_of (b := w.heap.size) (by simp) (Nat.le_refl _))
  have M25 := Lib.hid m25
  have c0 := below_cell HB1.out hbw N0.out
  have c1 := below_cell HB1.out hbw N1.out
  clear hx1 hH1 m25 hn25 M0 DC
  go_wp2_with fail
  go_loopw [3, 9, 10] (fun t3 t9 t10 wr => ∃ (s : Nat) (st : List Int) (q : Nat), s ≤ x.ps.length ∧ t10 = .int .i64 ((s : Int) - 1) ∧ t3 = .int .i64 (q : Nat) ∧ Hid (digsAt (gnet l) ind x.ps ([d0], r / K) (downTo x.ps.length s) = (st, q)) ∧ q ≤ 1000000 ∧ 0 < st.length ∧ st.length ≤ 17 - s + 16 ∧ Hid (OwnI wr w.heap.size [] t9 st.reverse) ∧ Hid (Below w.heap.size w wr))
    (fun _ _ t10 _ => (intOf t10 + 1).toNat)
  case atStart =>
    refine ⟨x.ps.length, [d0], r / K, Nat.le_refl _, rfl, by rw [wrap_div hr], ?_, hq0, by simp, by simp, ⟨?_, ?_, by simp⟩, HB1.out⟩
    · unfold Hid
      rw [downTo_start]; rfl
    · refine .row (cur := #[.int .i64 d0]) ⟨M25.out, by simp, by simp [maxLen], by simp, ?_, by simp [ints]⟩
      simp [ints]
    · intro g hg
      have : g = g25 := by simpa [rowBlk] using hg
      omega
  case round =>
    obtain ⟨s, st, q, hs, rfl, rfl, HX, hq, hs0, hs17, HO, HB⟩ := hrel
    clear M25 HB1 c0 c1
    cases s with
    | zero =>
      rw [show ((0 : Nat) : Int) - 1 = -1 by omega]
      go_wp2_with fail
      rw [HR.out]
      refine ⟨_, rfl, ?_, HB.out⟩
      rw [HX0.out, HX.out]
      exact HO.out
    | succ s =>
      rw [show ((s + 1 : Nat) : Int) - 1 = (s : Int) by omega]
      obtain ⟨p, hps⟩ : ∃ p, x.ps[s]? = some p := ⟨_, List.getElem?_eq_getElem (by omega)⟩
      obtain ⟨hp0, hpl2⟩ := HP.out p (List.mem_of_getElem? hps)
      obtain ⟨pn, rfl⟩ : ∃ pn : Nat, p = pn := ⟨p.toNat, by omega⟩
      rw [Int.toNat_natCast] at hpl2
      obtain ⟨y, hy⟩ : ∃ y, l[pn]? = some y := ⟨_, List.getElem?_eq_getElem hpl2⟩
      obtain ⟨hk1', hk8', xs, hxs, hxsl⟩ := HKK.out pn y hy
      obtain ⟨K', hK'⟩ : ∃ K' : Nat, y.k = K' := ⟨y.k.toNat, by omega⟩
      rw [hK'] at hk1' hk8' hxsl
      have hxl' : xs.length = K' := by omega
      have hqK : q % K' < K' := Nat.mod_lt _ (by omega)
      obtain ⟨d, hd⟩ : ∃ d, xs[q % K']? = some d := ⟨_, List.getElem?_eq_getElem (by omega)⟩
      obtain ⟨b', o', _, _, _, _, _, e1, n0', _⟩ := HN.out pn y hy
      cases e1
      obtain ⟨ib', io', ipa', ipc', _, e2, m0', hxs'⟩ := HI.out pn xs hxs
      cases e2
      obtain ⟨vb', vo', hvb', rfl, hdc'⟩ := hxs' _ _ (ints_get _ _ _ hd)
      obtain ⟨pb, po, hpb, rfl, hpc⟩ := HPA.out s _ (ints_get _ _ _ hps)
      have hNX := digs_next (l := gnet l) (ind := ind) HX.out hps hxs (by rw [kAt_of (gnet_get hy)]; show y.k.toNat = _; omega) (by rw [hxl']; exact hd) (by rw [hxl'])
      rw [← downTo_step (show s < x.ps.length by omega)] at hNX
      have HNX := Lib.hid hNX
      rw [hK'] at n0'
      rw [hxl'] at m0'
      have N0' := Lib.hid n0'
      have M0' := Lib.hid m0'
      have DC' := Lib.hid hdc'
      have hvbw' : vb' < w.heap.size := by omega
      have hpbw : pb < w.heap.size := by omega
      have hK0' : ((K' : Int) == 0) = false := beq_no (by omega)
      obtain ⟨oa, oc, rfl, hOA⟩ := own_at HO.out
      obtain ⟨og, oo, hog, rfl, hoc⟩ := hOA.base (by simp [ints]; omega)
      have HOC := Lib.hid hoc
      have c2 := below_cell HB.out hpbw hpc
      have c4 := below_cell HB.out hbw N1.out
      have hpnl : pn < l.length := hpl2
      have hsr : st.reverse.length ≤ 33 := by simp; omega
      have hsr0 : 0 < st.reverse.length := by simpa using hs0
      have hq2 : q / K' ≤ 1000000 := Nat.le_trans (Nat.div_le_self _ _) hq
      obtain ⟨i1, ii1, jz0, jz1, jz2⟩ := info_parts Try.infoInt
      clear hps hy hxs hxsl hd n0' m0' hdc' hxs' hpc hNX hK' hOA hoc HX
      go_wp2_with fail
      clear c2 c4
      refine wp_game_tail 15 [0, 0, 0, 0, 0, 0, 0, 0, 0, 0, 0, 0, 0, 3, 0] [] B0 fin_B0 (has_B0 _) (by kernel_rfl) (by kernel_rfl) ?_
      simp only [List.take_succ_cons, List.take_zero]
      refine lex_quietE 13 (by kernel_rfl) (by rfl) ?_
      apply Exists.intro
      refine ⟨fun z hz => ?_, ?_⟩
      · have hwz := HB.out.trans (hz.below_of (b := w.heap.size) (by simp) HB.out.size)
        have g0 := below_cellp hwz M0'.out hibw
        have g1 := below_cellp hwz N0'.out hbw
        have g2 := below_cellp hwz DC'.out hvbw'
        clear hz hwz
        simp only [List.take_succ_cons, List.take_zero]
        unfold Cx
        repeat (go_big_quiet_step (fail))
        exact wpQuiet_nil rfl
      simp only [List.drop_succ_cons, List.drop_zero]
      refine lex_slice 1 (.cells #[.int .i64 d] 3) (by rfl) (fun x => by go_simp) (fun g65 q65 hn65 => ?_)
      unfold setSlot
      go_big_quiet_step (fail)
      refine wpQuiet_nil ?_
      refine lex_quietE 1 (by kernel_rfl) (by rfl) ?_
      apply Exists.intro
      refine ⟨fun z hz => ?_, ?_⟩
      · clear hz
        simp only [List.take_succ_cons, List.take_zero]
        unfold Cx
        repeat (go_big_quiet_step (fail))
        exact wpQuiet_nil rfl
      simp only [List.drop_succ_cons, List.drop_zero]
      refine lex_nil ?_
      intro x7 hx7 hH7
      have m65 := hH7 g65 _ (Blocks.put_same _ _ _)
      have hb7 : Below wr.heap.size wr x7 := hx7.below
      have HB7 := Lib.hid (HB.out.trans (hb7.mono HB.out.size))
      refine wpList_append_full _ rfl _ _ 30 rfl 3 i1 (.int .i64 0) 8 Try.underlying30 ii1 jz0 jz1 jz2 rfl g65 (.int .i64 d) rfl m65 _ _ _ (ints st.reverse) rfl (fun j u hj => by
        rw [Addr.add_lit]
        exact below_cell hb7 hog (HOC.out j u hj)) (by simp [ints]) hsr0 (by unfold maxLen; omega) (by omega) ?_
      intro g9 cap9 cur9 w9 hr9 hB9 hg9
      have HO9 := Lib.hid (own_front (b := w.heap.size) hr9 (Nat.le_trans HB7.out.size hg9))
      have HB9 := Lib.hid (HB7.out.trans (hB9.mono HB7.out.size))
      have c3 := below_cell HB9.out hbw N0'.out
      clear hr9 hB9 hg9 hx7 hH7 m65 hb7 HB7 HB HO HOC M0' N0' DC' hn65 ii1 jz0 jz1 jz2
      go_wp2_with fail
      go_roundw
      case rel => exact ⟨s, st ++ [d], q / K', by omega, by go_num, by rw [wrap_div hq], HNX, hq2, by simp, by simp; omega, HO9, HB9⟩
      case measure => simp [intOf]
end Go.Proofs.Ytbacloneddnaeaa

/- censusref40.product, allowed and Joint. -/
namespace Go.Proofs.Ytbacloneddnaeaa
open Go.RowKit Go.Shelf Num

end Go.Proofs.Ytbacloneddnaeaa
