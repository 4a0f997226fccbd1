/- Texts of this claim, joined: BRefS, BRefC, BGiven. -/
import Derived.Test.YtbacloneddnaeaaJ31
import Derived.Test.YtbacloneddnaeaaJ35
import Derived.Test.YtbacloneddnaeaaJ21

/- censusref40.sums. -/
namespace Go.Proofs.Ytbacloneddnaeaa
open Go.RowKit Go.Shelf Num

theorem nz_raw (s : ByteArray) : nz (rawOf s) = numQ s := by
  unfold rawOf numQ
  cases h : ratRead s with
  | none => rfl
  | some r =>
    obtain ⟨n, d⟩ := r
    have := (ratRead_spec h).2.1.1
    show (n, dn d) = (n, d)
    rw [dn_of this]
theorem raw_small {s : ByteArray} (hs : s.size ≤ 9) : Q.Low (nz (rawOf s)) ∧ Sm 4 (rawOf s) := by
  refine ⟨by rw [nz_raw]; exact numQ_low s, ?_⟩
  unfold rawOf
  cases h : ratRead s with
  | none => exact ⟨by decide, by decide⟩
  | some r =>
    obtain ⟨n, d⟩ := r
    obtain ⟨h1, h2, _⟩ := ratRead_spec h
    have key : ∀ m : Nat, (dec m).size ≤ 9 → nl m ≤ 4 := fun m hm => by
      refine nl_le_of_lt (Nat.lt_of_lt_of_le (lt_dec_size m) (Nat.le_trans (Nat.pow_le_pow_right (by omega) hm) (by decide)))
    have h3 := congrArg ByteArray.size h1
    unfold rtext at h3
    rw [dn_of h2.1] at h3
    simp only at h3
    split at h3
    · rename_i hd
      refine ⟨key n (by omega), ?_⟩
      show nl d ≤ 4
      rw [hd]; decide
    · rw [ByteArray.size_append, ByteArray.size_append] at h3
      exact ⟨key n (by omega), key d (by omega)⟩

/-- The rows of a table add up to 1. -/
def SumsP (x : RV) (rows : Nat) : Prop := ∀ j, j < rows → nz (rowR (rowAt (gvar x) j)) = (1, 1)

theorem rowR_nz_snoc {t : List (Nat × Nat)} {q : Nat × Nat} (h1 : Q.Low (nz (rowR t))) (h2 : Q.Low (nz q)) : nz (rowR (t ++ [q])) = Q.add (nz (rowR t)) (nz q) := by
  rw [rowR_snoc, nz_low (Q.add_low h1 h2)]

set_option maxHeartbeats 3200000 in
set_option maxRecDepth 100000 in
theorem sums_law (x : RV) (rows K : Nat) (hk : x.k = K) (hr : rows * K = x.ts.length) (hK1 : 1 ≤ K) (hK8 : K ≤ 8) (htl : x.ts.length ≤ 1000) (hs : ∀ t ∈ x.ts, t.size ≤ 9) (N : Nat) (pa ta : Option Addr) (np pc tc : Nat) (w : World) (hta : AtN N w ta (strs x.ts)) (hw : N ≤ w.heap.size) :
    Calls Try.prog 35 #[.agg #[.int .i64 K, .slice pa np pc, .slice ta x.ts.length tc], .int .i64 rows] w fun e w' => ∃ b : Bool, e = .returned (.bool b) ∧ (b = true ↔ SumsP x rows) ∧ Below w.heap.size w w' := by
  obtain ⟨R, hR⟩ : ∃ R : Ending → World → Prop, R = fun e w' => ∃ b : Bool, e = .returned (.bool b) ∧ (b = true ↔ SumsP x rows) ∧ Below w.heap.size w w' := ⟨_, rfl⟩
  rw [← hR]
  have HR := Lib.hid hR
  clear hR
  have HTA := Lib.hid hta
  have HS := Lib.hid hs
  have HW := Lib.hid hw
  have HK := Lib.hid hk
  have hrl : rows ≤ 1000 := by have := Nat.mul_le_mul_left rows hK1; omega
  clear hta hs hw hk
  go_enter Try.func35, Try.ntmps35
  go_wp2_with fail
  refine wp_gen ?_
  intro w1 hw1
  have m2 : w1.heap[w.heap.size]? = some (.cells #[.int .i64 K, .slice pa np pc, .slice ta x.ts.length tc] 62 (0, 0)) := by rw [hw1]; exact heap_alloc_new w _
  have hB1 : Below w.heap.size w w1 := by rw [hw1]; exact (Below.refl _ _).alloc (Nat.le_refl _) _
  have M2 := Lib.hid m2
  have HB1 := Lib.hid hB1
  have HTA1 := Lib.hid (HTA.out.below hB1 HW.out)
  have hwl := lt_of_heap m2
  clear hw1 m2 hB1 HTA
  go_loopw [5] (fun i wr => ∃ j : Nat, j ≤ rows ∧ i = .int .i64 j ∧ Hid (∀ m, m < j → nz (rowR (rowAt (gvar x) m)) = (1, 1)) ∧ Hid (Below w1.heap.size w1 wr))
    (fun i _ => rows - (intOf i).toNat)
  case atStart => exact ⟨0, Nat.zero_le _, rfl, fun m h => by omega, Below.refl _ _⟩
  case round =>
    obtain ⟨j, hj, rfl, HP, HB⟩ := hrel
    have hNw := HW.out
    by_cases hlt : j < rows
    · have hd : decide (j < rows) = true := by simpa using hlt
      have KZ : Gives 70 #[] (.agg #[.string (dec 0), .string (dec 1)]) := gXZero
      have KO : Gives 73 #[] (.agg #[.string (dec 1), .string (dec 1)]) := gXOne
      have hJK : j * K + K ≤ x.ts.length := by
        have := Nat.mul_le_mul_right K (show j + 1 ≤ rows by omega)
        rw [Nat.add_mul, Nat.one_mul] at this; omega
      have hmu := mulI (A := j) (K := K) (by omega)
      go_wp2_with fail
      refine (KZ _).mono ?_
      rintro r3 w3 ⟨rfl, hB3⟩
      have hb3 : Below w1.heap.size w1 w3 := HB.out.trans (hB3.mono HB.out.size)
      have HB3 := Lib.hid hb3
      clear hB3 hb3 HB
      go_wp2_with fail
      refine wp_gen ?_
      intro w4 hw4
      have m6 : w4.heap[w3.heap.size]? = some (.cells #[.string (dec 0), .string (dec 1)] 88 (0, 0)) := by rw [hw4]; exact heap_alloc_new w3 _
      have hb4 : Below w3.heap.size w3 w4 := by rw [hw4]; exact (Below.refl _ _).alloc (Nat.le_refl _) _
      have HB4 := Lib.hid (HB3.out.trans (hb4.mono HB3.out.size))
      have hs4 : w1.heap.size ≤ w3.heap.size := HB3.out.size
      have M6 := Lib.hid m6
      clear hw4 m6 hb4
      go_loopw [7] (fun i wr => ∃ m : Nat, m ≤ K ∧ i = .int .i64 m ∧ Hid (wr.heap[w3.heap.size]? = some (.cells #[.string (dec (nz (rowR (((gvar x).tab.drop (j * K)).take m))).1), .string (dec (nz (rowR (((gvar x).tab.drop (j * K)).take m))).2)] 88 (0, 0))) ∧ Hid (Below w1.heap.size w1 wr) ∧ w3.heap.size < wr.heap.size)
        (fun i _ => K - (intOf i).toNat)
      case atStart => exact ⟨0, Nat.zero_le _, rfl, by simpa [Hid, rowR, nz, dn] using M6.out, HB4.out, lt_of_heap M6.out⟩
      case round =>
        obtain ⟨m, hm, rfl, H6, HB5, h6l⟩ := hrel
        have m2 := (behind_of_below HB5.out).keep M2.out (by simp)
        have d0 := blk_cell m2 0 rfl
        have d2 := blk_cell m2 2 rfl
        have htk : ∀ p ∈ ((gvar x).tab.drop (j * K)).take m, Q.Low (nz p) ∧ Sm 4 p := fun p hp => by
          have h1 := List.mem_of_mem_drop (List.mem_of_mem_take hp)
          obtain ⟨t, ht, rfl⟩ := List.mem_map.1 (show p ∈ x.ts.map rawOf from h1)
          exact raw_small (HS.out t ht)
        have hlen : (((gvar x).tab.drop (j * K)).take m).length ≤ m := by simp; omega
        have hlow := rowR_low _ _ rfl htk
        have hsm : Sm 10000 (nz (rowR (((gvar x).tab.drop (j * K)).take m))) := hlow.2.nz.mono (by omega)
        by_cases hmk : m < K
        · have hd2 : decide (m < K) = true := by simpa using hmk
          have hidx : j * K + m < x.ts.length := by omega
          obtain ⟨I, hI⟩ : ∃ I, j * K + m = I := ⟨_, rfl⟩
          have hIi := addI hI
          rw [hI] at hidx
          obtain ⟨t, ht⟩ : ∃ t, x.ts[I]? = some t := ⟨_, List.getElem?_eq_getElem hidx⟩
          obtain ⟨tb, to, htb, rfl, kt⟩ := HTA1.out _ _ (strs_get ht)
          have dt := below_cell HB5.out (by omega) kt
          have hts := raw_small (HS.out t (List.mem_of_getElem? ht))
          have hqs : Sm 10000 (numQ t) := by rw [← nz_raw]; exact hts.2.nz.mono (by omega)
          have KN := gXNum t (by have := HS.out t (List.mem_of_getElem? ht); omega)
          have KA := gXAdd2 _ _ hsm hqs hlow.1 (numQ_low t)
          have hnx : nz (rowR (((gvar x).tab.drop (j * K)).take (m + 1))) = Q.add (nz (rowR (((gvar x).tab.drop (j * K)).take m))) (numQ t) := by
            have hg : ((gvar x).tab.drop (j * K))[m]? = some (rawOf t) := by
              rw [List.getElem?_drop, hI]
              simp [gvar, ht]
            rw [take_snoc_of hg, rowR_nz_snoc hlow.1 hts.1, nz_raw]
          have HNX := Lib.hid hnx
          have H6' := Lib.hid H6.out
          generalize hs : nz (rowR (((gvar x).tab.drop (j * K)).take m)) = s at *
          have KN2 : Gives 51 #[.string t] (.agg #[.string (dec (numQ t).1), .string (dec (numQ t).2)]) := KN
          have KA2 : Gives 71 #[.agg #[.string (dec s.1), .string (dec s.2)], .agg #[.string (dec (numQ t).1), .string (dec (numQ t).2)]] (.agg #[.string (dec (Q.add s (numQ t)).1), .string (dec (Q.add s (numQ t)).2)]) := KA
          have HM2 := Lib.hid m2
          have HDT := Lib.hid dt
          have hjk : j * K ≤ 2251799813685248 := by omega
          clear ht kt dt hts hqs KN KA hnx hs hlow hsm htk hlen m2 hI
          generalize Q.add s (numQ t) = S2 at *
          generalize numQ t = qn at *
          go_wp2_with fail
          clear d0 d2
          refine wp_game [1, 0, 0, 0, 0, 0, 0, 0, 0, 0, 0, 0, 0, 2] [w3.heap.size] _ (Fin.put fin_B0 _ _) (has_put (has_B0 _) H6.out) (by kernel_rfl) (by kernel_rfl) ?_
          refine lex_readE 1 wr (Behind.refl _ _) (has_put (has_B0 _) H6.out) (by kernel_rfl) (by rfl) ?_
          apply Exists.intro
          refine ⟨fun z hz hB => ?_, ?_⟩
          · have g0 := blk_cellp (hB w3.heap.size _ (Blocks.put_same _ _ _)) 0 rfl
            have g1 := blk_cellp (hB w3.heap.size _ (Blocks.put_same _ _ _)) 1 rfl
            clear hz hB
            simp only [List.take_succ_cons, List.take_zero]
            unfold Cx
            repeat (go_big_quiet_step (fail))
            exact wpQuiet_nil rfl
          simp only [List.drop_succ_cons, List.drop_zero]
          refine lex_quietE 12 (by kernel_rfl) (by rfl) ?_
          apply Exists.intro
          refine ⟨fun z hz => ?_, ?_⟩
          · have g2 := blk_cellp (hz.keep HM2.out (by simp; omega)) 0 rfl
            have g3 := blk_cellp (hz.keep HM2.out (by simp; omega)) 2 rfl
            have g4 := behind_cellp hz HDT.out (by simp; omega)
            clear hz
            simp only [List.take_succ_cons, List.take_zero]
            unfold Cx
            repeat (go_big_quiet_step (first | with_reducible exact KN2.at _ _ | with_reducible exact KA2.at _ _))
            exact wpQuiet_nil rfl
          simp only [List.drop_succ_cons, List.drop_zero]
          refine lex_store_all w3.heap.size #[.string (dec S2.1), .string (dec S2.2)] _ _ (by rfl) (by rfl) (by rfl) (Blocks.put_same _ _ _) (by rfl) (.inl (by simp)) (by kernel_rfl) (by simp [Value.oneCell']) ?_
          refine lex_nil ?_
          intro x7 hx7 hH7
          have m67 := hH7 w3.heap.size _ (Blocks.put_same _ _ _)
          have HB7 := Lib.hid (HB5.out.trans (hx7.below_of (b := w1.heap.size) (by intro k hk; rw [List.mem_singleton.1 hk]; exact hs4) HB5.out.size))
          rw [← HNX.out] at m67
          have M67 := Lib.hid m67
          have hl7 := lt_of_heap m67
          clear hx7 hH7 m67 HNX H6 H6' HB5 HM2 HDT KN2 KA2
          go_wp2_with fail
          go_roundw
          case rel => exact ⟨m + 1, by omega, by go_num, M67, HB7, hl7⟩
          case measure => simp [intOf]; omega
        · obtain rfl : m = K := by omega
          have hrow : ((gvar x).tab.drop (j * m)).take m = rowAt (gvar x) j := by
            unfold rowAt
            rw [show (gvar x).k = x.k from rfl, HK.out, Int.toNat_natCast]
          rw [hrow] at hlow hsm H6
          generalize hs : nz (rowR (rowAt (gvar x) j)) = s at *
          have lone : Q.Low (1, 1) := ⟨by decide, by decide⟩
          have KC : Gives 72 #[.agg #[.string (dec s.1), .string (dec s.2)], .agg #[.string (dec 1), .string (dec 1)]] (.int .i64 (Q.cmp s (1, 1))) := gXCmp2 s (1, 1) hsm ⟨by decide, by decide⟩
          by_cases hz : s = (1, 1)
          · rw [(Q.cmp_eq hlow.1 lone).2 hz] at KC
            have HZ := Lib.hid (hs.trans hz)
            clear hz hlow hsm htk hlen m2 hs hrow
            go_wp2_with fail
            clear d0 d2
            refine wp_game [0, 0, 0, 0] [] B0 fin_B0 (has_B0 _) (by kernel_rfl) (by kernel_rfl) ?_
            refine lex_quietE 4 (by kernel_rfl) (by rfl) ?_
            apply Exists.intro
            refine ⟨fun z hz => ?_, ?_⟩
            · have g0 := blk_cellp (hz.keep H6.out (by simp)) 0 rfl
              have g1 := blk_cellp (hz.keep H6.out (by simp)) 1 rfl
              clear hz
              simp only [List.take_succ_cons, List.take_zero]
              unfold Cx
              repeat (go_big_quiet_step (first | with_reducible exact KO.at _ _ | with_reducible exact KC.at _ _))
              exact wpQuiet_nil rfl
            simp only [List.drop_succ_cons, List.drop_zero]
            refine lex_nil ?_
            intro x7 hx7 _
            have HB7 := Lib.hid (HB5.out.trans (hx7.below.mono HB5.out.size))
            have HP7 : Hid (∀ n, n < j + 1 → nz (rowR (rowAt (gvar x) n)) = (1, 1)) := fun n hn => by
              rcases Nat.lt_or_ge n j with h | h
              · exact HP.out n h
              · obtain rfl : n = j := by omega
                exact HZ.out
            clear hx7 HB5 H6 HP
            go_wp2_with fail
            go_roundw
            case rel => exact ⟨j + 1, by omega, by go_num, HP7, HB7⟩
            case measure => simp [intOf]; omega
          · obtain ⟨cc, hcc⟩ : ∃ cc, Q.cmp s (1, 1) = cc := ⟨_, rfl⟩
            have hc0 : cc ≠ 0 := fun h => hz ((Q.cmp_eq hlow.1 lone).1 (hcc.trans h))
            rw [hcc] at KC
            have hc1 : (cc == 0) = false := beq_no hc0
            have hc2 : (cc != 0) = true := by simp [bne, hc1]
            have HZ := Lib.hid hz
            have HSS := Lib.hid hs
            clear hcc hz hlow hsm htk hlen m2 hs hrow
            go_wp2_with fail
            clear d0 d2
            refine wp_game [0, 0, 0, 0] [] B0 fin_B0 (has_B0 _) (by kernel_rfl) (by kernel_rfl) ?_
            refine lex_quietE 4 (by kernel_rfl) (by rfl) ?_
            apply Exists.intro
            refine ⟨fun z hz => ?_, ?_⟩
            · have g0 := blk_cellp (hz.keep H6.out (by simp)) 0 rfl
              have g1 := blk_cellp (hz.keep H6.out (by simp)) 1 rfl
              clear hz
              simp only [List.take_succ_cons, List.take_zero]
              unfold Cx
              repeat (go_big_quiet_step (first | with_reducible exact KO.at _ _ | with_reducible exact KC.at _ _))
              exact wpQuiet_nil rfl
            simp only [List.drop_succ_cons, List.drop_zero]
            refine lex_nil ?_
            intro x7 hx7 _
            have HB7 := Lib.hid (HB5.out.trans (hx7.below.mono HB5.out.size))
            clear hx7 HB5 H6 HP
            go_wp2_with fail
            rw [HR.out]
            exact ⟨false, rfl, ⟨fun h => (Bool.false_ne_true h).elim, fun h => absurd (HSS.out ▸ h j hlt) HZ.out⟩, HB1.out.trans (HB7.out.mono HB1.out.size)⟩
    · obtain rfl : j = rows := by omega
      go_wp2_with fail
      rw [HR.out]
      exact ⟨true, rfl, ⟨fun _ => HP.out, fun _ => rfl⟩, HB1.out.trans (HB.out.mono HB1.out.size)⟩
end Go.Proofs.Ytbacloneddnaeaa

/- censusref40.Check. -/
namespace Go.Proofs.Ytbacloneddnaeaa
open Go.RowKit Go.Shelf Num

theorem formed_iff {l : List RV} {i : Nat} {x : RV} (hx : l[i]? = some x) : formedP (gnet l) i ↔ ∃ r, Shape (gnet l) i x r ∧ SumsP x r := by
  constructor
  · rintro ⟨y, r, h1, h2, h3, h4, h5, h6⟩
    rw [gnet_get hx] at h1
    cases h1
    simp only [gvar, List.length_map] at h2 h3 h4 h5
    exact ⟨r, ⟨h2, h3, h4, h5⟩, h6⟩
  · rintro ⟨r, ⟨h2, h3, h4, h5⟩, h6⟩
    exact ⟨gvar x, r, gnet_get hx, h2, h3, by simpa [gvar] using h4, by simpa [gvar] using h5, h6⟩

theorem min_step {J k : Nat} (hk : 1 ≤ k) : min (if J ≤ 65536 then J * k else J) 65537 = min (min J 65537 * k) 65537 := by
  by_cases h : J ≤ 65536
  · rw [if_pos h, Nat.min_eq_left (show J ≤ 65537 by omega)]
  · rw [if_neg h, Nat.min_eq_right (show 65537 ≤ J by omega), Nat.min_eq_right (show 65537 ≤ 65537 * k by omega)]

set_option maxHeartbeats 3200000 in
set_option maxRecDepth 100000 in
theorem xcheck_law (N : Nat) (l : List RV) (a : Option Addr) (c : Nat) (hl : Lit l) (w : World) (hN : RefAt N w a l) (hw : N ≤ w.heap.size) :
    Calls Try.prog 12 #[.slice a l.length c] w fun e w' => e = .returned (.int .i64 (checkE (gnet l))) ∧ Below w.heap.size w w' := by
  have HN := Lib.hid hN
  have HL := Lib.hid hl
  have hlen := hl.len
  have hgl : (gnet l).length = l.length := by simp [gnet]
  have HGL := Lib.hid hgl
  clear hN hl
  by_cases h16 : 16 < l.length
  · have hE : Hid (checkE (gnet l) = 1) := if_pos (by rw [hgl]; exact h16)
    clear hgl
    go_enter Try.func12, Try.ntmps12
    go_wp2_with fail
    go_ret
    exact ⟨by rw [hE.out]; rfl, Below.refl _ _⟩
  have h16' : l.length ≤ 16 := by omega
  clear h16 hgl
  have hbadE : ∀ j, j < l.length → ¬ formedP (gnet l) j → Hid (checkE (gnet l) = 1) := fun j hj hn => by
    unfold Hid checkE
    rw [if_neg (by rw [HGL.out]; omega), if_neg (fun h => hn (h j (by rw [HGL.out]; exact hj)))]
  have HBAD := Lib.hid hbadE
  clear hbadE
  go_enter Try.func12, Try.ntmps12
  go_wp2_with fail
  go_loopw [3] (fun i wr => ∃ j : Nat, j ≤ l.length ∧ i = .int .i64 j ∧ Hid (∀ m, m < j → formedP (gnet l) m) ∧ Hid (Below w.heap.size w wr))
    (fun i _ => l.length - (intOf i).toNat)
  case atStart => exact ⟨0, Nat.zero_le _, rfl, fun m h => by omega, Below.refl _ _⟩
  case round =>
    obtain ⟨j, hj, rfl, HF, HB⟩ := hrel
    by_cases hlt : j < l.length
    · have hd : decide (j < l.length) = true := by simpa using hlt
      obtain ⟨x, hx⟩ : ∃ x, l[j]? = some x := ⟨_, List.getElem?_eq_getElem hlt⟩
      have HX := Lib.hid hx
      have hxm := List.mem_of_getElem? hx
      have hps := HL.out.ps x hxm
      obtain ⟨hts, hss⟩ := HL.out.ts x hxm
      have HSS := Lib.hid hss
      have hpre : Pre (gnet l) j := ⟨fun m y hm hy => by
        obtain ⟨y', _, h1, h2, h3, _⟩ := HF.out m hm
        rw [hy] at h1
        cases h1
        omega⟩
      have hNr := HN.out.below HB.out hw
      have HNR := Lib.hid hNr
      have HPRE := Lib.hid hpre
      have hwr : N ≤ wr.heap.size := Nat.le_trans hw HB.out.size
      clear hx hss hpre hNr
      go_wp2_with fail
      refine (rows_law N l a c j x HX.out HPRE.out h16' hts (by omega) wr HNR.out hwr).mono ?_
      rintro r1 w1 ⟨v, rfl, hv, hB1⟩
      rcases hv with ⟨r, rfl, hsh⟩ | ⟨rfl, hno⟩
      · obtain ⟨b, o, pa, pc, ta, tc, hb, rfl, n0, n1, n2, _, hta⟩ := HNR.out j x HX.out
        have d0 := below_cell hB1 (by omega) n0
        have d1 := below_cell hB1 (by omega) n1
        have d2 := below_cell hB1 (by omega) n2
        have HTA := Lib.hid (hta.below hB1 hwr)
        have HSH := Lib.hid hsh
        have HB1 := Lib.hid (HB.out.trans (hB1.mono HB.out.size))
        have hw1 : N ≤ w1.heap.size := Nat.le_trans hwr hB1.size
        obtain ⟨K, hK⟩ : ∃ K : Nat, x.k = K := ⟨x.k.toNat, by have := hsh.1; omega⟩
        have HK := Lib.hid hK
        have hK2 : 2 ≤ K := by have := hsh.1; omega
        have hK8 : K ≤ 8 := by have := hsh.2.1; omega
        have hrK : r * K = x.ts.length := by have := hsh.2.2.2; rwa [hK, Int.toNat_natCast] at this
        have HRK := Lib.hid hrK
        have hr1 : ¬ (r : Int) < 0 := by omega
        have hr0 : decide ((r : Int) < 0) = false := by simp
        rw [hK] at d0
        clear n0 n1 n2 hta hsh hB1 hK hrK HB HNR
        go_wp2_with fail
        refine (sums_law x r K HK.out HRK.out (by omega) hK8 hts HSS.out N pa ta x.ps.length pc tc w1 HTA.out hw1).mono ?_
        rintro r2 w2 ⟨bb, rfl, hbb, hB2⟩
        have HB2 := Lib.hid (HB1.out.trans (hB2.mono HB1.out.size))
        have HBB := Lib.hid hbb
        clear hB2 hbb HB1 d0 d1 d2
        cases bb with
        | true =>
          have HF2 : Hid (∀ m, m < j + 1 → formedP (gnet l) m) := fun m hm => by
            rcases Nat.lt_or_ge m j with h | h
            · exact HF.out m h
            · obtain rfl : m = j := by omega
              exact (formed_iff HX.out).2 ⟨r, HSH.out, HBB.out.1 rfl⟩
          clear HF HBB
          go_wp2_with fail
          go_roundw
          case rel => exact ⟨j + 1, by omega, by go_num, HF2, HB2⟩
          case measure => simp [intOf]; omega
        | false =>
          have HE := HBAD.out j hlt (fun h => by
            obtain ⟨r', h1, h2⟩ := (formed_iff HX.out).1 h
            have e1 := h1.2.2.1
            rw [HSH.out.2.2.1] at e1
            cases e1
            exact Bool.false_ne_true (HBB.out.2 h2))
          clear HF HBB
          go_wp2_with fail
          go_ret
          exact ⟨by rw [HE.out]; rfl, HB2.out⟩
      · have HB1 := Lib.hid (HB.out.trans (hB1.mono HB.out.size))
        have HE := HBAD.out j hlt (fun h => by
          obtain ⟨r', h1, _⟩ := (formed_iff HX.out).1 h
          exact hno r' h1)
        clear hno hB1 HB HNR
        go_wp2_with fail
        go_ret
        exact ⟨by rw [HE.out]; rfl, HB1.out⟩
    · obtain rfl : j = l.length := by omega
      clear hlt hj
      have HALL : Hid (∀ m, m < l.length → formedP (gnet l) m) := HF.out
      clear HF HBAD
      obtain ⟨w1, rfl⟩ : ∃ w1, w1 = wr := ⟨_, rfl⟩
      have HN1 := Lib.hid (HN.out.below HB.out hw)
      go_wp2_with fail
      go_loopw [5, 6, 7] (fun jt vt i wr => ∃ j J V : Nat, j ≤ l.length ∧ i = .int .i64 j ∧ jt = .int .i64 J ∧ vt = .int .i64 V ∧ J ≤ 600000 ∧ V ≤ j * 2000 ∧ Hid (min J 65537 = jointOf ((gnet l).take j)) ∧ Hid (V = varsOf ((gnet l).take j)) ∧ Hid (Below w1.heap.size w1 wr))
        (fun _ _ i _ => l.length - (intOf i).toNat)
      case atStart => exact ⟨0, 1, 0, Nat.zero_le _, rfl, rfl, rfl, by omega, by omega, rfl, rfl, Below.refl _ _⟩
      case round =>
        obtain ⟨j, J, V, hj, rfl, rfl, rfl, hJ, hV, HJ, HV, HB2⟩ := hrel
        by_cases hlt : j < l.length
        · have hd : decide (j < l.length) = true := by simpa using hlt
          obtain ⟨x, hx⟩ : ∃ x, l[j]? = some x := ⟨_, List.getElem?_eq_getElem hlt⟩
          have hxm := List.mem_of_getElem? hx
          obtain ⟨hts, _⟩ := HL.out.ts x hxm
          obtain ⟨b, o, pa, pc, ta, tc, hb, rfl, n0, n1, n2, _, _⟩ := HN1.out j x hx
          have hw1 : N ≤ w1.heap.size := Nat.le_trans hw HB.out.size
          obtain ⟨y, _, hy, hk2, hk8, _⟩ := HALL.out j hlt
          rw [gnet_get hx] at hy
          cases hy
          obtain ⟨K, hK⟩ : ∃ K : Nat, x.k = K := ⟨x.k.toNat, by simp [gvar] at hk2; omega⟩
          have hK2 : 2 ≤ K := by simp [gvar] at hk2; omega
          have hK8 : K ≤ 8 := by simp [gvar] at hk8; omega
          have d0 := below_cell HB2.out (by omega) n0
          have d2 := below_cell HB2.out (by omega) n2
          rw [hK] at d0
          have hg : (gnet l)[j]? = some (gvar x) := gnet_get hx
          have HJ2 : Hid (min (if J ≤ 65536 then J * K else J) 65537 = jointOf ((gnet l).take (j + 1))) := by
            unfold Hid
            rw [take_snoc_of hg, jointOf_snoc, ← HJ.out, show (gvar x).k = x.k from rfl, hK, Int.toNat_natCast]
            exact min_step (by omega)
          have HV2 : Hid (V + (K + x.ts.length) = varsOf ((gnet l).take (j + 1))) := by
            unfold Hid
            rw [take_snoc_of hg, varsOf_snoc, ← HV.out, show (gvar x).k = x.k from rfl, hK, Int.toNat_natCast]
            simp [gvar]
          have hN0 : Hid (wr.cell? ⟨b, o + j * 3, none⟩ = some (.int .i64 (K : Nat))) := d0
          have hN2 : Hid (wr.cell? ⟨b, o + j * 3 + 2, none⟩ = some (.slice ta x.ts.length tc)) := d2
          clear hx n0 n1 n2 hk2 hk8 hg HJ HV hxm
          by_cases hJ6 : J ≤ 65536
          · have hmul := mulI (A := J) (K := K) (by have := Nat.mul_le_mul hJ6 hK8; omega)
            have hJ2b : J * K ≤ 600000 := by have := Nat.mul_le_mul hJ6 hK8; omega
            rw [if_pos hJ6] at HJ2
            go_wp2_with fail
            clear d0 d2
            refine wp_game [0, 0, 0, 0, 0, 0, 0, 0, 0, 0, 0, 0, 0, 0, 0] [] B0 fin_B0 (has_B0 _) (by kernel_rfl) (by kernel_rfl) ?_
            refine lex_quietE 15 (by kernel_rfl) (by rfl) ?_
            apply Exists.intro
            refine ⟨fun z hz => ?_, ?_⟩
            · have g0 := behind_cellp hz hN0.out (by simp)
              have g2 := behind_cellp hz hN2.out (by simp)
              clear hz
              simp only [List.take_succ_cons, List.take_zero]
              unfold Cx
              repeat (go_big_quiet_step (fail))
              exact wpQuiet_nil rfl
            simp only [List.drop_succ_cons, List.drop_zero]
            refine lex_nil ?_
            intro x7 hx7 _
            have HB7 := Lib.hid (HB2.out.trans (hx7.below.mono HB2.out.size))
            clear hx7 HB2 hN0 hN2
            go_wp2_with fail
            go_roundw
            case rel => exact ⟨j + 1, J * K, V + (K + x.ts.length), by omega, by go_num, by rw [Int.natCast_mul], by go_num, hJ2b, by omega, HJ2, HV2, HB7⟩
            case measure => simp [intOf]; omega
          · have hJ7 : 65536 < J := by omega
            rw [if_neg hJ6] at HJ2
            clear hJ6
            go_wp2_with fail
            clear d0 d2
            refine wp_game [0, 0, 0, 0, 0, 0, 0, 0, 0, 0, 0, 0, 0, 0, 0] [] B0 fin_B0 (has_B0 _) (by kernel_rfl) (by kernel_rfl) ?_
            refine lex_quietE 15 (by kernel_rfl) (by rfl) ?_
            apply Exists.intro
            refine ⟨fun z hz => ?_, ?_⟩
            · have g0 := behind_cellp hz hN0.out (by simp)
              have g2 := behind_cellp hz hN2.out (by simp)
              clear hz
              simp only [List.take_succ_cons, List.take_zero]
              unfold Cx
              repeat (go_big_quiet_step (fail))
              exact wpQuiet_nil rfl
            simp only [List.drop_succ_cons, List.drop_zero]
            refine lex_nil ?_
            intro x7 hx7 _
            have HB7 := Lib.hid (HB2.out.trans (hx7.below.mono HB2.out.size))
            clear hx7 HB2 hN0 hN2
            go_wp2_with fail
            go_roundw
            case rel => exact ⟨j + 1, J, V + (K + x.ts.length), by omega, by go_num, rfl, by go_num, hJ, by omega, HJ2, HV2, HB7⟩
            case measure => simp [intOf]; omega
        · obtain rfl : j = l.length := by omega
          have hJE := HJ.out
          have hVE := HV.out
          rw [← HGL.out, List.take_length] at hJE hVE
          have hall : ∀ i, i < (gnet l).length → formedP (gnet l) i := fun i hi => HALL.out i (by rw [HGL.out] at hi; exact hi)
          by_cases hJ6 : 65536 < J
          · have hE : Hid (checkE (gnet l) = 2) := by
              unfold Hid checkE
              rw [if_neg (by rw [HGL.out]; omega), if_pos hall, if_pos (.inl (by omega))]
            clear hall hJE hVE
            go_wp2_with fail
            go_ret
            exact ⟨by rw [hE.out]; rfl, HB.out.trans (HB2.out.mono HB.out.size)⟩
          · have hJ6' : J ≤ 65536 := by omega
            by_cases hV1 : 128 < V
            · have hE : Hid (checkE (gnet l) = 2) := by
                unfold Hid checkE
                rw [if_neg (by rw [HGL.out]; omega), if_pos hall, if_pos (.inr (by omega))]
              clear hall hJE hVE hJ6
              go_wp2_with fail
              go_ret
              exact ⟨by rw [hE.out]; rfl, HB.out.trans (HB2.out.mono HB.out.size)⟩
            · have hE : Hid (checkE (gnet l) = 0) := by
                unfold Hid checkE
                rw [if_neg (by rw [HGL.out]; omega), if_pos hall, if_neg (by omega)]
              have hV2 : V ≤ 128 := by omega
              clear hall hJE hVE hJ6 hV1
              go_wp2_with fail
              go_ret
              exact ⟨by rw [hE.out]; rfl, HB.out.trans (HB2.out.mono HB.out.size)⟩
end Go.Proofs.Ytbacloneddnaeaa

/- censuslaw40.Given. -/
namespace Go.Proofs.Ytbacloneddnaeaa
open Go.RowKit Go.Shelf Num

theorem Try.infoVar : (Try.prog.info? 78).map (fun i => (i.zero, i.size, i.bytes)) = some (some (.agg #[.int .i64 0, .slice none 0 0, .slice none 0 0]), 3, 56) := by kernel_rfl

set_option maxHeartbeats 3200000 in
set_option maxRecDepth 100000 in
theorem given_law (N : Nat) (l : List RV) (a : Option Addr) (c : Nat) (hL : Lit l) (w : World) (hN : RefAt N w a l) (hw : N ≤ w.heap.size) (hM : ∃ m, w.cell? ⟨0, 0, none⟩ = some (.int .i64 m)) :
    Calls Try.prog 11 #[.slice a l.length c] w fun e w' => ∃ v cs, e = .returned v ∧ GAt w.heap.size (gnet l) v cs w' ∧ Below w.heap.size w w' := by
  have HN := Lib.hid hN
  have HW := Lib.hid hw
  have HM := Lib.hid hM
  have HL := Lib.hid hL
  have hl := hL.len
  obtain ⟨i0, ii, iz0, iz1, iz2⟩ := info_parts Try.infoInt
  obtain ⟨r0, ri, rz0, rz1, rz2⟩ := info_parts Try.infoRat2
  obtain ⟨v0, vi, vz0, vz1, vz2⟩ := info_parts Try.infoVar
  clear hN hw hM hL
  go_enter Try.func11, Try.ntmps11
  go_wp2_with fail
  go_loopw [3, 4] (fun v i wr => ∃ (j : Nat) (cs : List Value), j ≤ l.length ∧ i = .int .i64 j ∧ Hid (GAt w.heap.size (gnet (l.take j)) v cs wr) ∧ Hid (Below w.heap.size w wr))
    (fun _ i _ => l.length - (intOf i).toNat)
  case atStart => exact ⟨0, [], Nat.zero_le _, rfl, GAt.nil _ _, Below.refl _ _⟩
  case round =>
    obtain ⟨j, cs, hj, rfl, HG, HB⟩ := hrel
    by_cases hlt : j < l.length
    · have hd : decide (j < l.length) = true := by simpa using hlt
      obtain ⟨x, hx⟩ : ∃ x, l[j]? = some x := ⟨_, List.getElem?_eq_getElem hlt⟩
      have HX := Lib.hid hx
      have hxm := List.mem_of_getElem? hx
      have hps := HL.out.ps x hxm
      obtain ⟨hts, hss⟩ := HL.out.ts x hxm
      have HSS := Lib.hid hss
      obtain ⟨b, o, pa, pc, ta, tc, hb, rfl, n0, n1, n2, hpa, hta⟩ := (HN.out.below HB.out HW.out) j x hx
      have HPA := Lib.hid hpa
      have HTA := Lib.hid hta
      have N0 := Lib.hid n0
      have N1 := Lib.hid n1
      have N2 := Lib.hid n2
      have hwr : w.heap.size ≤ wr.heap.size := HB.out.size
      have hN := HW.out
      clear hx hpa hta hss n0 n1 n2
      go_wp2_with fail
      obtain ⟨k1, hk1⟩ : ∃ k1, k1 = if x.ps.length = 0 then 0 else 5 := ⟨_, rfl⟩
      have hk1' : k1 = 0 ∨ k1 = 5 := by rw [hk1]; split <;> simp
      have HK1 := Lib.hid hk1
      clear hk1
      refine wp_game [0, 0, 0, 0, 0, 3, 0, 0, 0, 0, 0, k1, 0, 3, 2] [] B0 fin_B0 (has_B0 _) (by kernel_rfl) (by rcases hk1' with h | h <;> rw [h] <;> kernel_rfl) ?_
      refine lex_quietE 5 (by kernel_rfl) (by rfl) ?_
      apply Exists.intro
      refine ⟨fun z hz => ?_, ?_⟩
      · have c0 := behind_cellp hz N0.out (by simp)
        clear hz
        simp only [List.take_succ_cons, List.take_zero]
        unfold Cx
        repeat (go_big_quiet_step (fail))
        exact wpQuiet_nil rfl
      simp only [List.drop_succ_cons, List.drop_zero]
      refine lex_slice 0 (.cells #[] 3) (by rfl) (fun x => by go_simp) (fun g20 q20 hn20 => ?_)
      unfold setSlot
      go_big_quiet_step (fail)
      refine wpQuiet_nil ?_
      refine lex_quietE 5 (by kernel_rfl) (by rfl) ?_
      apply Exists.intro
      refine ⟨fun z hz => ?_, ?_⟩
      · have c1 := behind_cellp hz N1.out (by simp)
        clear hz
        simp only [List.take_succ_cons, List.take_zero]
        unfold Cx
        repeat (go_big_quiet_step (fail))
        exact wpQuiet_nil rfl
      simp only [List.drop_succ_cons, List.drop_zero]
      refine lex_append_copy (.tmp 20) (.tmp 25) 30 3 i0 _ 1 8 Try.underlying30 ii iz0 iz1 iz2 (by rfl) g20 (by rfl) pa x.ps.length pc (ints x.ps) (by rfl) (fun z hz j u hj => ?_) (by simp [ints]) (by omega) (by unfold maxLen; omega) (by omega) HK1.out (fun pp pcp B1 hext hrow => ?_)
      · obtain ⟨b', o', hb', e', hc'⟩ := HPA.out j u hj
        exact ⟨b', o', e', (World.cell?_of_block (a := ⟨b', o' + j, none⟩) (hz.block b' (block_lt_of_cell hc') (by simp))).trans hc'⟩
      unfold setSlot
      go_big_quiet_step (fail)
      refine wpQuiet_nil ?_
      refine lex_quietE 1 (by kernel_rfl) (by rfl) ?_
      apply Exists.intro
      refine ⟨fun z hz => ?_, ?_⟩
      · clear hz
        simp only [List.take_succ_cons, List.take_zero]
        unfold Cx
        repeat (go_big_quiet_step (fail))
        exact wpQuiet_nil rfl
      simp only [List.drop_succ_cons, List.drop_zero]
      refine lex_alloc (.agg #[.int .i64 0, .slice none 0 0, .slice none 0 0]) (by rfl) (fun x => by kernel_rfl) (fun g5 q5 hn5 => ?_)
      unfold setSlot
      go_big_quiet_step (fail)
      refine wpQuiet_nil ?_
      refine lex_store_all g5 #[.int .i64 x.k, .slice pp x.ps.length pcp, .slice none 0 0] _ _ (by rfl) (by rfl) (by rfl) (Blocks.put_same _ _ _) (by rfl) (.inr q5) (by kernel_rfl) (by simp [Value.oneCell']) ?_
      refine lex_nil ?_
      intro x1 hx1 hH1
      have m5 := hH1 g5 _ (Blocks.put_same _ _ _)
      have hlv : ∀ g ∈ rowBlk u3, g < wr.heap.size := HG.out.row.lt
      have hPP : OutN (g5 :: rowBlk u3) x1 pp (ints x.ps) := by
        rcases hrow with h0 | ⟨g', cur', rfl, hr, hge, _⟩
        · rw [List.length_eq_zero_iff.1 h0]; exact OutN.nil _ _ _
        · have hb' := hr.blk
          have hne : g5 ≠ g' := fun e => by rw [← e, hn5] at hb'; cases hb'
          have hx' := hr.of (B' := inW x1) (hH1 g' _ ((Blocks.put_other _ _ (Ne.symm hne)).trans ((Blocks.put_other _ _ (Ne.symm hne)).trans hb')))
          obtain ⟨_, _, hv, hO, _⟩ := OutN.row (M := g5 :: rowBlk u3) (RowV.row hx') (by
            intro g hg
            have hg : g = g' := by simpa [rowBlk] using hg
            rw [hg, List.mem_cons, not_or]
            exact ⟨Ne.symm hne, fun hm => by have := hlv _ hm; omega⟩)
          simp only [Value.slice.injEq] at hv
          rw [hv.1]; exact hO
      have hl5 := lt_of_heap m5
      have M5 := Lib.hid m5
      have HX1 := Lib.hid hx1
      have HPP := Lib.hid hPP
      have HLV := Lib.hid hlv
      have hBx : Below w.heap.size w x1 := HB.out.trans (hx1.below.mono (by omega))
      have HBX := Lib.hid hBx
      have hn5v : g5 ∉ rowBlk u3 := fun hm => by have := hlv _ hm; omega
      clear m5 hH1 hrow hext hn5 hn20 hx1 hPP hlv hBx hd HK1 hk1'
      go_wp2_with fail
      obtain ⟨w1, rfl⟩ : ∃ w1, w1 = wr := ⟨_, rfl⟩
      go_loopw [6] (fun i w2 => ∃ (m : Nat) (vT : Value), m ≤ x.ts.length ∧ i = .int .i64 m ∧ Hid (w2.heap[g5]? = some (.cells #[.int .i64 x.k, .slice pp x.ps.length pcp, vT] 78 (0, 0))) ∧
        Hid (RowV (inW w2) 34 2 vT m (rats ((x.ts.map rawOf).take m))) ∧ Hid (∀ g ∈ rowBlk vT, x1.heap.size ≤ g) ∧ Hid (Behind x1 [g5] w2))
        (fun i _ => x.ts.length - (intOf i).toNat)
      case atStart => exact ⟨0, .slice none 0 0, Nat.zero_le _, rfl, M5.out, .nil, by intro g hg; simp [rowBlk] at hg, Behind.refl _ _⟩
      case round =>
        obtain ⟨m, vT, hm, rfl, H5, HR, HGE, HB2⟩ := hrel
        have hBW : Behind w1 [] wr := HX1.out.trans HB2.out (by intro k hk; have : k = g5 := by simpa using hk
                                                                right; omega)
        have HBW := Lib.hid hBW
        have d2 := behind_cell hBW N2.out (by simp)
        have hl5w := lt_of_heap H5.out
        clear hBW
        by_cases hmt : m < x.ts.length
        · have hd : decide (j < l.length) = true := by simpa using hlt
          obtain ⟨t, ht⟩ : ∃ t, x.ts[m]? = some t := ⟨_, List.getElem?_eq_getElem hmt⟩
          obtain ⟨tb, to, htb, rfl, kt⟩ := HTA.out _ _ (strs_get ht)
          have dt := behind_cell HBW.out kt (by simp)
          have hts9 := HSS.out t (List.mem_of_getElem? ht)
          have KR : GivesFrom w 33 #[.string t] (.tuple #[.agg #[.string (nb (rawOf t).1), .string (nb (rawOf t).2)], .bool (ratRead t).isSome]) := gRatRead w t (by omega) HM.out
          have HTM := Lib.hid ht
          have hbw2 : Below w.heap.size w wr := HB.out.trans (HBW.out.below.mono (by omega))
          have HBW2 := Lib.hid hbw2
          have hTk : Hid (rats ((x.ts.map rawOf).take (m + 1)) = rats ((x.ts.map rawOf).take m) ++ [.string (nb (rawOf t).1), .string (nb (rawOf t).2)]) := by
            unfold Hid
            rw [take_snoc_of (show (x.ts.map rawOf)[m]? = some (rawOf t) by simp [ht]), rats_append]; rfl
          generalize rawOf t = q at *
          generalize (ratRead t).isSome = bq at *
          clear ht kt hbw2
          go_wp2_with fail
          refine (KR _ HBW2.out).mono ?_
          rintro r3 w3 ⟨rfl, hB3⟩
          have hb3 := behind_of_below hB3
          have m53 := hb3.keep H5.out (by simp)
          have HR3 := Lib.hid (HR.out.keep hb3 (by simp))
          have HM53 := Lib.hid m53
          have HB3 := Lib.hid (HB2.out.trans hb3 (by simp))
          have c52 := blk_cell m53 2 rfl
          have hl53 := lt_of_heap m53
          have hx3 : x1.heap.size ≤ w3.heap.size := HB3.out.size
          clear hB3 hb3 m53 HR H5 HB2 KR
          go_wp2_with (at_builtin; refine wpList_append_row _ rfl _ _ 44 rfl 34 r0 _ 2 32 Try.underlying44 ri rz0 rz1 rz2 rfl _ _ _ rfl (HR3.out.keep (behind_of_below (((Below.refl _ _).alloc (Nat.le_refl _) _).alloc (by simp) _)) (by simp)) (w3.heap.size + 1) 1 1 [.string (nb q.1), .string (nb q.2)] 34 rfl (by have := heap_alloc_new (w3.alloc (Obj.cells #[.string (nb q.1), .string (nb q.2)] 34)) (Obj.cells #[.string (nb q.1), .string (nb q.2)] 34); simpa using this) rfl (by intro u hu; simp at hu; rcases hu with rfl | rfl <;> rfl) (by omega) (by unfold maxLen; omega) (by omega) ?_)
          intro v7 w7 hr7 hB7 hn7
          obtain ⟨p7, c7, rfl⟩ := hr7.slice
          rw [← hTk.out] at hr7
          have h37 : Behind w3 (rowBlk vT) w7 := ((behind_of_below (((Below.refl _ _).alloc (Nat.le_refl _) _).alloc (by simp) _)).mono (by simp)).trans hB7 (fun k hk => .inl hk)
          have hnv : g5 ∉ rowBlk vT := fun h => by have := HGE.out _ h; omega
          have m57 := h37.keep HM53.out hnv
          have f52 := blk_free m57 2
          have c52' := blk_cell m57 2 rfl
          have hw8 := wrote_cell (o := 2) (.slice p7 (m + 1) c7) m57
          have hn7' : ∀ g ∈ rowBlk (.slice p7 (m + 1) c7), x1.heap.size ≤ g ∧ g ≠ g5 := fun g hg => by
            rcases hn7 g hg with h | h
            · exact ⟨HGE.out g h, fun e => hnv (e ▸ h)⟩
            · first | omega | (simp at h; omega)
          have H8 := Lib.hid (show (w7.setCell ⟨g5, 2, none⟩ (.slice p7 (m + 1) c7)).heap[g5]? = some (.cells #[.int .i64 x.k, .slice pp x.ps.length pcp, .slice p7 (m + 1) c7] 78 (0, 0)) by simpa using hw8.here)
          have HB8 := Lib.hid ((HB3.out.trans h37 (fun g hg => .inr (HGE.out g hg))).wrote hw8 (.inl (by simp)))
          have HR8 := Lib.hid (hr7.keep (M := [g5]) ((Behind.refl w7 [g5]).wrote hw8 (.inl (by simp))) (fun g hg => by simpa using (hn7' g hg).2))
          have HGE8 := Lib.hid (fun g hg => (hn7' g hg).1)
          clear hr7 hB7 hn7 h37 m57 hw8 hn7' HM53 HR3 c52 dt d2
          go_wp2_with fail
          go_roundw
          case rel => exact ⟨m + 1, _, by omega, by go_num, H8, HR8, HGE8, HB8⟩
          case measure => simp [intOf]; omega
        · obtain rfl : m = x.ts.length := by omega
          have hd : decide (j < l.length) = true := by simpa using hlt
          have hRV := HR.out
          rw [List.take_of_length_le (by simp)] at hRV
          obtain ⟨pT, cT, rfl, hOT, hcT, hcT2⟩ := OutN.row (M := rowBlk u3) hRV (fun g hg hm => by have := HGE.out g hg; have := HLV.out g hm; have := HX1.out.size; omega)
          have HOT := Lib.hid hOT
          have HRV := Lib.hid hRV
          have c50 := blk_cell H5.out 0 rfl
          have c51 := blk_cell H5.out 1 rfl
          have c52 := blk_cell H5.out 2 rfl
          have hGW := HG.out.keep HBW.out
          have HGW := Lib.hid hGW
          have hPW := HPP.out.keep (M' := rowBlk u3) HB2.out (fun g hg => .inl (by simp at hg; simp [hg])) (fun g hg => .inl (by simp [hg]))
          have HPW := Lib.hid hPW
          have hgl : (gnet (l.take j)).length ≤ 20 := by simp [gnet]; omega
          have hsw : w.heap.size ≤ wr.heap.size := Nat.le_trans hwr HBW.out.size
          clear hOT hRV hGW hPW
          go_wp2_with (at_builtin; refine wpList_append_row _ rfl _ _ 26 rfl 78 v0 _ 3 56 Try.underlying26 vi vz0 vz1 vz2 rfl _ _ _ rfl (HGW.out.row.keep (behind_of_below ((Below.refl _ _).alloc (Nat.le_refl _) _)) (by simp)) wr.heap.size 1 1 [.int .i64 x.k, .slice pp x.ps.length pcp, .slice pT x.ts.length cT] 78 rfl (heap_alloc_new wr _) rfl (by intro u hu; simp at hu; rcases hu with rfl | rfl | rfl <;> rfl) (by omega) (by unfold maxLen; omega) (by omega) ?_)
          intro v9 w9 hr9 hB9 hn9
          have h09 : Behind wr (rowBlk u3) w9 := ((behind_of_below ((Below.refl _ _).alloc (Nat.le_refl _) _)).mono (by simp)).trans hB9 (fun k hk => .inl hk)
          have hG9 := GAt.snoc (x := gvar x) (pa := pp) (ta := pT) (pc := pcp) (tc := cT) HGW.out (by simpa [gvar] using hr9) h09 (fun g hg => (hn9 g hg).imp id (fun h => by first | omega | (simp at h; omega))) hsw HPW.out HOT.out ⟨by simpa [gvar] using hcT, hcT2⟩
          have hgs : gnet (l.take (j + 1)) = gnet (l.take j) ++ [gvar x] := by rw [take_snoc_of HX.out]; simp [gnet]
          rw [← hgs] at hG9
          have HG9 := Lib.hid hG9
          have HB9 := Lib.hid ((HB.out.trans (HBW.out.below.mono (by omega))).trans (h09.below_of HG.out.ge (by omega)))
          clear hG9 hr9 hB9 hn9 h09 c50 c51 c52 d2
          go_wp2_with fail
          go_roundw
          case rel => exact ⟨j + 1, _, by omega, by go_num, HG9, HB9⟩
          case measure => simp [intOf]; omega
    · obtain rfl : j = l.length := by omega
      have hG := HG.out
      rw [List.take_length] at hG
      have HG2 := Lib.hid hG
      clear hG HG
      go_wp2_with fail
      go_ret
      exact ⟨_, cs, rfl, HG2.out, HB.out⟩
end Go.Proofs.Ytbacloneddnaeaa
