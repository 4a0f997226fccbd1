/- Texts of this claim, joined: BSum2, BSum, BAllowed. -/
import Derived.Test.YtbacloneddnaeaaM19
import Derived.Test.YtbacloneddnaeaaM20

/- bayes.sum's own function: the step. -/
namespace Go.Proofs.Ytbacloneddnaeaa
open Go.RowKit Go.Shelf Num
attribute [local go_sem] Oper.semAt_some

def SumOK (c : Cfg) (d : Nat) : Prop := ∀ (i : Nat) (w : World) (vs : List Nat), i + d = c.l.length → St c w vs → c.N ≤ w.heap.size →
  Calls Try.prog 74 (c.args i) w fun e w' => e = .returned (ratV (rawQ c.l c.ev d (vs.take i))) ∧ Behind w [c.bv] w' ∧ ∃ vs', St c w' vs' ∧ vs'.take i = vs.take i

theorem three_new (w : World) (i : Nat) : ∃ w1, w1 = ((w.alloc (Obj.cells #[Value.int .i64 i] 3)).alloc (Obj.cells #[Value.string { data := #[] }, Value.string { data := #[] }] 34)).alloc (Obj.cells #[Value.string { data := #[] }, Value.string { data := #[] }] 34) ∧
    IntBox w1 w.heap.size i ∧ w1.heap[w.heap.size + 1]? = some (.cells #[.string { data := #[] }, .string { data := #[] }] 34 (0, 0)) ∧
    w1.heap[w.heap.size + 1 + 1]? = some (.cells #[.string { data := #[] }, .string { data := #[] }] 34 (0, 0)) ∧ w1.heap.size = w.heap.size + 3 ∧ Below w.heap.size w w1 := by
  refine ⟨_, rfl, ?_, ?_, ?_, by simp, (((Below.refl _ _).alloc (Nat.le_refl _) _).alloc (by simp) _).alloc (by simp; omega) _⟩
  · exact (heap_alloc_old _ _ (by simp; omega)).trans ((heap_alloc_old _ _ (by simp)).trans (heap_alloc_new w _))
  · refine (heap_alloc_old _ _ (by simp)).trans ?_
    have := heap_alloc_new (w.alloc (Obj.cells #[Value.int .i64 i] 3)) (Obj.cells #[Value.string { data := #[] }, Value.string { data := #[] }] 34)
    simpa using this
  · have := heap_alloc_new ((w.alloc (Obj.cells #[Value.int .i64 i] 3)).alloc (Obj.cells #[Value.string { data := #[] }, Value.string { data := #[] }] 34)) (Obj.cells #[Value.string { data := #[] }, Value.string { data := #[] }] 34)
    simpa using this

set_option maxHeartbeats 3200000 in
set_option maxRecDepth 100000 in
theorem sum1_step (c : Cfg) (hg : Good c.l) (hev : c.ev.length = c.l.length) (hsz : szs (ksOf c.l) ≤ 9000) (d : Nat) (ih : SumOK c d) : SumOK c (d + 1) := by
  intro i w vs hi hs hN
  obtain ⟨x, hx⟩ : ∃ x, c.l[i]? = some x := ⟨_, List.getElem?_eq_getElem (by omega)⟩
  have hkb := hg.kb i x hx
  obtain ⟨K, hK⟩ : ∃ K : Nat, x.k = K := ⟨x.k.toNat, by omega⟩
  obtain ⟨e, he⟩ : ∃ e, c.ev[i]? = some e := ⟨_, List.getElem?_eq_getElem (by omega)⟩
  have hla := hs.net i x hx
  have hea := hs.evs i _ (ints_get _ _ _ he)
  have hl := hs.hl
  have hge := hs.he
  have hil : i < c.l.length := by omega
  have hie : i < c.ev.length := by omega
  have hl16 := hg.len
  have HC : Hid (∃ c', c' = c) := ⟨_, rfl⟩
  have hsN := hs.lo
  obtain ⟨R, hR⟩ : ∃ R : Ending → World → Prop, R = fun e w' => e = .returned (ratV (rawQ c.l c.ev (d + 1) (vs.take i))) ∧ Behind w [c.bv] w' ∧ ∃ vs', St c w' vs' ∧ vs'.take i = vs.take i := ⟨_, rfl⟩
  rw [← hR]
  have HR := Lib.hid hR
  clear hR
  unfold Cfg.args
  obtain ⟨b, o, pa, pc, ta, tc, hb, hla1, c0, _⟩ := hla
  obtain ⟨eb, eo, heb, hea1, c1⟩ := hea
  rw [hla1] at hl
  rw [hea1] at hge
  rw [hK] at c0
  have hgl := lt_of_heap hl
  have hge' := lt_of_heap hge
  have hne : ((i : Int) == (c.l.length : Int)) = false := beq_no (by omega)
  have hne2 : decide (i = c.l.length) = false := by simp; omega
  have hne3 : (i == c.l.length) = false := by simp; omega
  rw [← callsIn_wide (n := 5)]
  have HX := Lib.hid hx
  have HE := Lib.hid he
  have HS := Lib.hid hs
  have HK := Lib.hid hK
  have HI := Lib.hid hi
  have HL1 := Lib.hid hla1
  have HE1 := Lib.hid hea1
  clear hx he hs hK hi hla1 hea1 hkb
  refine callsIn_of_wp_marks Try.func74 rfl trivial ?_ rfl
  simp only [Try.ntmps74, List.size_toArray, List.length_cons, List.length_nil, Nat.reduceAdd, Nat.reduceSub, Array.replicate_succ, Array.replicate_zero, List.push_toArray, List.append_toArray, List.nil_append, List.cons_append]
  have cl := blk_cell hl 0 rfl
  have ce := blk_cell hge 0 rfl
  gi_wp2
  obtain ⟨w1, hw1, m5, m6, m7, hsz1, hB1⟩ := three_new w i
  rw [← hw1]
  clear hw1
  have HB1 := Lib.hid hB1
  have d0 := below_cell hB1 (by omega) c0
  have d1 := below_cell hB1 (by omega) c1
  have dl := below_cell hB1 hgl cl
  have de := below_cell hB1 hge' ce
  have d5 := m5.cell
  have M5 := Lib.hid m5
  have M6 := Lib.hid m6
  have M7 := Lib.hid m7
  have HSZ := Lib.hid hsz1
  clear c0 c1 cl ce hl hge m5 m6 m7 hB1 hsz1
  refine wpIn_wide.2 ?_
  refine wp_region_tail 9 (by kernel_rfl) (by kernel_rfl) ?_
  simp only [List.take_succ_cons, List.take_zero]
  repeat (go_big_quiet_step (fail))
  refine wpQuiet_nil ?_
  simp only [List.drop_succ_cons, List.drop_zero]
  go_wp2_with (go_at_call 75; ((with_reducible refine (choices_law _ _ _).mono ?_); rintro e3 w3 ⟨rfl, hb1, hb2, hB3, hsz3⟩))
  have hG : w1.drew.heap.size = w.heap.size + 3 := HSZ.out
  have hbw : Below w.heap.size w w3 := HB1.out.trans ((Below.refl _ w1).drew.trans (hB3.mono (B' := w.heap.size) (by omega)))
  have hKx := hg.kb i x HX.out
  have hK8 : K ≤ 8 := by have := HK.out; omega
  gi_wp2
  refine' wpIn_rangeFunc_ownG (F := Fence.wide) (n := 5) rfl (by omega) (gf := 103) rfl trivial (enters_of Try.func103 (by kernel_rfl) rfl)
    (choices_stops 4 (by omega) w1.drew.heap.size (w1.drew.heap.size + 1) K e (by omega) w3 (by omega) (by omega) hb1 hb2) KeepsTwo.trans ?kb (Below.refl _ _) (fun _ => rfl)
    (SumI c d w i vs K) (fun _ _ _ => False) (sumI_own hbw.size hN) (fun _ _ _ _ _ h _ _ => h) ?start _ ?assign ?body ?done ?stop
  case assign =>
    intro l x W K hK
    gi_wp2
    exact hK
  case kb =>
    intro W l o o' hl hW _ _
    exact ⟨World.putObj_heap_other (by omega), World.putObj_heap_other (by omega)⟩
  case start =>
    have hs3 := HS.out.below hbw hN
    exact ⟨⟨vs, hs3, rfl⟩, (hB3.block _ (by omega)).trans M7.out, (hB3.block _ (by omega)).trans M5.out, (hB3.block _ (by omega)).trans M6.out, (behind_of_below hbw).mono (by simp), by omega⟩
  case stop => exact fun _ _ _ _ _ _ h _ => h.elim
  case body =>
    rintro lr pre ⟨y, hy⟩ W hI hlen
    have HI0 := Lib.hid hI
    obtain ⟨⟨vs', hst, htk⟩, m7, m5, m6, hbe, hsz5⟩ := hI
    have hyk : (y : Int) < x.k := by rw [HK.out]; omega
    have hvl : i < vs'.length := by rw [hst.fit.len]; omega
    have hNW : c.N ≤ W.heap.size := Nat.le_trans hN hbe.size
    have hfit1 := hst.fit.set HX.out hyk
    have hrow0 : W.heap[c.bv]? = some (.cells (ints (vs'.map Int.ofNat)).toArray 3 (0, 0)) := hst.row
    have htl : (vs.take i).length = i := by have := HS.out.fit.len; simp; omega
    have HTL := Lib.hid htl
    clear htl
    have hcb : (ints (vs'.map Int.ofNat)).toArray[i]? = some (.int .i64 (vs'[i] : Nat)) := by simp [ints, hvl]
    have cb := blk_cell hrow0 i hcb
    have fb := blk_free hrow0 i
    have hw1 := wrote_cell (o := i) (.int .i64 y) hrow0
    have hrow1 : (W.setCell ⟨c.bv, i, none⟩ (.int .i64 y)).heap[c.bv]? = some (Cfg.row (vs'.set i y)) := by
      rw [hw1.here]; simp [Cfg.row, ints, List.map_set]
    have hb1 : Behind W [c.bv] (W.setCell ⟨c.bv, i, none⟩ (.int .i64 y)) := (Behind.refl W [c.bv]).wrote hw1 (.inl (by simp))
    have hst1 := hst.on hb1 (by simp) hNW hfit1 hrow1
    have cgv := blk_cell hst.hv 0 rfl
    have c5 := m5.cell
    have hpar := hg.par i x HX.out
    obtain ⟨q, hq⟩ : ∃ q, x.tab[idxFrom c.l (vs'.set i y) 0 x.ps * x.k.toNat + (vs'.set i y).getD i 0]? = some q := ⟨_, List.getElem?_eq_getElem (hg.tab i x _ HX.out hfit1)⟩
    have hV1 : AtN (c.bv + 1) (W.setCell ⟨c.bv, i, none⟩ (.int .i64 y)) (some ⟨c.bv, 0, none⟩) (ints ((vs'.set i y).map Int.ofNat)) := fun j v hv => by
      refine ⟨c.bv, 0, by omega, rfl, ?_⟩
      rw [Nat.zero_add]
      have hrow2 : (W.setCell ⟨c.bv, i, none⟩ (.int .i64 y)).heap[c.bv]? = some (Obj.cells (ints ((vs'.set i y).map Int.ofNat)).toArray 3 (0, 0)) := hrow1
      exact blk_cell hrow2 j (by simpa using hv)
    have hbvW : c.bv + 1 ≤ W.heap.size := lt_of_heap hst.row
    have HEn : ∀ X, Behind (W.setCell ⟨c.bv, i, none⟩ (.int .i64 y)) [] X → Calls Try.prog 76 #[.slice (some ⟨b, o, none⟩) c.l.length c.lc, .int .i64 i, .slice (some ⟨c.bv, 0, none⟩) c.l.length c.l.length] X fun e w' => e = .returned (.agg #[.string (nb q.1), .string (nb q.2)]) ∧ Below X.heap.size X w' := fun X hX => by
      have hle : c.bv + 1 ≤ (W.setCell ⟨c.bv, i, none⟩ (.int .i64 y)).heap.size := by simpa using hbvW
      have := entry_law (c.bv + 1) c.l (vs'.set i y) (some ⟨b, o, none⟩) (some ⟨c.bv, 0, none⟩) c.lc c.l.length i x HX.out hfit1 (fun p hp => ⟨(hpar p hp).1, by have := (hpar p hp).2; omega⟩) (hg.plen i x HX.out) q hq X
        (by have := (hst1.net.mono (M := c.bv + 1) (by omega)).below hX.below hle; rwa [HL1.out] at this) (hV1.below hX.below hle) (Nat.le_trans hle hX.size) (by omega)
      rwa [hfit1.len] at this
    have HP : Hid (pAt c.l i (vs.take i ++ [y]) = nz q) := by
      unfold Hid
      have hpi : ∀ x', c.l[i]? = some x' → ∀ p ∈ x'.ps, p.toNat < i := fun x' hx' p hp => ((hg.par i x' hx') p hp).2
      have e2 : (vs.take i ++ [y]).take (i + 1) = (vs'.set i y).take (i + 1) := by
        rw [take_set_snoc hvl, htk, List.take_of_length_le]
        have := HS.out.fit.len
        simp; omega
      rw [pAt_congr e2 hpi]
      unfold pAt
      rw [HX.out]
      show nz (x.tab.getD _ (0, 0)) = nz q
      rw [List.getD_eq_getElem?_getD, hq]; rfl
    have hqs : Q.Low (nz q) ∧ Sm 4 q := hg.low i x HX.out q (List.mem_of_getElem? hq)
    have HST1 := Lib.hid hst1
    have HB1' := Lib.hid hb1
    have HQS := Lib.hid hqs
    clear hq hV1 hpar hw1 hrow1 hrow0 hcb hfit1 hst1 hb1 hqs
    gi_wp2_with (with_reducible refine wpListIn_from 30 [0, 0, 0, 0, 3, 2] [] B0 (has_B0 _) (by kernel_rfl) ?_)
    refine lex_quietE 4 (by kernel_rfl) (by rfl) ?_
    apply Exists.intro
    refine ⟨fun z hz => ?_, ?_⟩
    · have g1 := blk_cellp (hz.keep (by have := HST1.out.hl; rwa [HL1.out] at this) (by simp)) 0 rfl
      have g2 := blk_cellp (hz.keep HST1.out.hv (by simp)) 0 rfl
      have g3 := blk_cellp (hz.keep (HB1'.out.keep m5 (by have := lt_of_heap HS.out.row; simp; omega)) (by simp)) 0 rfl
      have K1 := fun p => calls_plus (p := p) (HEn _ (hz.plus p))
      clear hz
      simp only [List.take_succ_cons, List.take_zero]
      unfold Cx
      repeat (go_big_quiet_step (first | with_reducible exact K1 _))
      exact wpQuiet_nil rfl
    simp only [List.drop_succ_cons, List.drop_zero]
    refine lex_alloc (.agg #[.string { data := #[] }, .string { data := #[] }]) (by rfl) (fun x => by kernel_rfl) (fun g9 q9 hn9 => ?_)
    unfold setSlot
    go_big_quiet_step (fail)
    refine wpQuiet_nil ?_
    clear hn9
    refine lex_store_all g9 _ _ _ (by rfl) (by rfl) (by rfl) (Blocks.put_same _ _ _) (by rfl) (Or.inr q9) (by kernel_rfl) (by simp [Value.oneCell']) ?_
    refine lex_nil ?_
    intro w4 hx4 hH
    have m9 := hH g9 _ (Blocks.put_same _ _ _)
    have hx : Behind W [c.bv] w4 := HB1'.out.trans hx4 (by simp)
    have hst4 := Lib.hid (HST1.out.below hx4.below (by simpa using hNW))
    have hbvw : c.bv < w.heap.size := lt_of_heap HS.out.row
    have p7 := hx.keep m7 (by simp; omega)
    have p5 := hx.keep m5 (by simp; omega)
    have p6 := hx.keep m6 (by simp; omega)
    have hg9 : W.heap.size ≤ g9 := by simpa using q9
    have HX4 := Lib.hid hx
    have d9 := blk_cell m9 0 rfl
    have d9' := blk_cell m9 1 rfl
    clear hH hx hx4 m7 m5 m6 q9 cb fb cgv c5 hst HST1 HB1' HEn
    have KC : Gives 27 #[.agg #[.string (nb q.1), .string (nb q.2)], .agg #[.string { data := #[] }, .string { data := #[] }]] (.int .i64 (Q.cmp (nz q) (0, 1))) := gRCmp q (0, 0) (HQS.out.2.mono (by omega)) ⟨by decide, by decide⟩
    have low01 : Q.Low (0, 1) := ⟨by decide, by decide⟩
    by_cases hz : nz q = (0, 1)
    · have hcc : Q.cmp (nz q) (0, 1) = 0 := (Q.cmp_eq HQS.out.1 low01).2 hz
      rw [hcc] at KC
      have HZ := Lib.hid hz
      clear hcc hz
      gi_wp2
      refine ⟨trivial, CallsIn.mono (CallsIn.inRound lr (callsIn_wide.2 (KC _))) ?_⟩
      rintro e5 w5 ⟨rfl, hB5⟩
      clear d9 d9'
      gi_wp2
      have hb5 := (HX4.out.trans (behind_of_below hB5) (by simp)).mono (Wr' := [c.bv, w.heap.size + 1 + 1]) (by simp)
      have hst5 := hst4.out.below hB5 (Nat.le_trans hNW HX4.out.size)
      refine round_end (y := ⟨y, hy⟩) HI0.out hbvw hb5 hst5 (by rw [List.take_set_of_le (Nat.le_refl _), htk]) ?_ w3.heap.size _ hG
      have e7 : partR c.l c.ev d (vs.take i) ((pre ++ [(⟨y, hy⟩ : _root_.Fin K)]).map (·.1)) = partR c.l c.ev d (vs.take i) (pre.map (·.1)) := by
        rw [List.map_append, List.map_singleton]
        exact partR_skip (by rw [HTL.out, HP.out, HZ.out])
      rw [e7]
      exact (behind_of_below hB5).keep p7 (by simp)
    · obtain ⟨cc, hcc⟩ : ∃ cc, Q.cmp (nz q) (0, 1) = cc := ⟨_, rfl⟩
      have hc0 : cc ≠ 0 := fun h => hz ((Q.cmp_eq HQS.out.1 low01).1 (hcc.trans h))
      rw [hcc] at KC
      have HZ := Lib.hid hz
      have hc1 : (cc == 0) = false := beq_no hc0
      have hc2 : (cc != 0) = true := by simp [bne, hc1]
      clear hcc hz
      gi_wp2
      refine ⟨trivial, CallsIn.mono (CallsIn.inRound lr (callsIn_wide.2 (KC _))) ?_⟩
      rintro e5 w5 ⟨rfl, hB5⟩
      clear d9 d9'
      gi_wp2
      obtain ⟨C, hCd⟩ : ∃ C : World → Prop, C = fun X => Behind w5 [c.bv] X ∧ ∃ vs2, St c X vs2 ∧ vs2.take (i + 1) = vs.take i ++ [y] := ⟨_, rfl⟩
      have htk1 : (vs'.set i y).take (i + 1) = vs.take i ++ [y] := by rw [take_set_snoc hvl, htk]
      have hst5 := hst4.out.below hB5 (Nat.le_trans hNW HX4.out.size)
      have hN5 : c.N ≤ w5.heap.size := Nat.le_trans (Nat.le_trans hNW HX4.out.size) hB5.size
      have hC0 : C w5.drew := by
        rw [hCd]
        exact ⟨Behind.drew w5 _, _, hst5.below (Below.refl _ w5).drew hN5, htk1⟩
      obtain ⟨I, inst, f, hf⟩ := class_index C hC0
      obtain ⟨p0, hp0⟩ := (hf _).1 hC0
      have F : ∀ p, Behind w5 [c.bv] (f p) ∧ ∃ vs2, St c (f p) vs2 ∧ vs2.take (i + 1) = vs.take i ++ [y] := fun p => by
        have := (hf (f p)).2 ⟨p, rfl⟩
        rwa [hCd] at this
      have cls : ∀ p X, Below (f p).heap.size (f p) X → ∃ q, X = f q := fun p X hb => (hf X).1 (by
        obtain ⟨h1, vs2, h2, h3⟩ := F p
        rw [hCd]
        exact ⟨h1.trans (behind_of_below hb) (by simp), vs2, h2.below hb (Nat.le_trans hN5 h1.size), h3⟩)
      have clb : ∀ p X, Behind (f p) [c.bv] X → (∃ vs2, St c X vs2 ∧ vs2.take (i + 1) = vs.take i ++ [y]) → ∃ q, X = f q := fun p X hb hv => (hf X).1 (by
        obtain ⟨h1, _⟩ := F p
        rw [hCd]
        exact ⟨h1.trans hb (by simp), hv⟩)
      have o7 := (behind_of_below hB5).keep p7 (by simp)
      have o9 := (behind_of_below hB5).keep m9 (by simp)
      have o5 := (behind_of_below hB5).keep p5 (by simp)
      have of := hst5.hf
      unfold Cfg.fn at of
      have hrl := partR_low hg c.ev d (vs.take i) (pre.map (·.1)) (by rw [HTL.out]; exact HI.out) (by rw [HTL.out, kAt_of HX.out, HK.out]; simp; omega)
      have hSl := rawQ_spec hg c.ev d (vs.take i ++ [y]) (by simp [HTL.out]; have := HI.out; omega)
      have hSq := fromQ_low hg c.ev d (vs.take i ++ [y]) (by simp [HTL.out]; have := HI.out; omega)
      have hmono := szs_mono c.l hg
      have hP7 : ∀ S, partR c.l c.ev d (vs.take i) (pre.map (·.1)) = S → rawQ c.l c.ev d (vs.take i ++ [y]) = S → True := fun _ _ _ => trivial
      obtain ⟨s, hs⟩ : ∃ s, partR c.l c.ev d (vs.take i) (pre.map (·.1)) = s := ⟨_, rfl⟩
      obtain ⟨S, hS⟩ : ∃ S, rawQ c.l c.ev d (vs.take i ++ [y]) = S := ⟨_, rfl⟩
      have hend : partR c.l c.ev d (vs.take i) ((pre ++ [(⟨y, hy⟩ : _root_.Fin K)]).map (·.1)) = Q.add (nz s) (Q.mul (nz q) (nz S)) := by
        rw [List.map_append, List.map_singleton]
        rw [partR_add (by rw [HTL.out, HP.out]; exact HZ.out), HTL.out, HP.out, hs, hS]
      rw [hs] at hrl o7
      rw [hS] at hSl
      rw [← hSl.1] at hSq
      have hsm : Sm 9000 s := hrl.2.mono (Nat.le_trans (hmono _ (by rw [HTL.out]; omega)) hsz)
      have hSm : Sm 9000 S := (sm_of_nz hSl.2 hSq.2).mono (Nat.le_trans (hmono _ (by simp [HTL.out]; omega)) hsz)
      have KF : ∀ p, Calls Try.prog 74 #[.int .i64 ((i : Int) + 1), .pointer (some ⟨c.gl, 0, none⟩), .pointer (some ⟨c.ge, 0, none⟩), .pointer (some ⟨c.gv, 0, none⟩), .pointer (some ⟨c.gf, 0, none⟩)] (f p) fun e w' => e = .returned (.agg #[.string (nb S.1), .string (nb S.2)]) ∧ ∃ q, w' = f q := fun p => by
        obtain ⟨h1, vs2, h2, h3⟩ := F p
        have := ih (i + 1) (f p) vs2 (by have := HI.out; omega) h2 (Nat.le_trans hN5 h1.size)
        rw [h3, hS] at this
        refine Calls.mono (by simpa [Cfg.args] using this) ?_
        rintro e w' ⟨h4, h5, vs3, h6, h7⟩
        exact ⟨h4, clb p w' h5 ⟨vs3, h6, h7⟩⟩
      have hPl : Q.Low (Q.mul (nz q) (nz S)) := Q.mul_low HQS.out.1 hSq.1
      have hPs : Sm 9500 (Q.mul (nz q) (nz S)) := (sm_mul2 HQS.out.2.nz hSm.nz).mono (by omega)
      have KM := class_gives cls (gRMul q S (HQS.out.2.mono (by omega)) (hSm.mono (by omega)))
      have KA := class_gives cls (gRAdd s (Q.mul (nz q) (nz S)) (hsm.mono (by omega)) (hPs.mono (by omega)))
      rw [nz_low hPl] at KA
      generalize Q.mul (nz q) (nz S) = P at *
      generalize hT : Q.add (nz s) P = T at *
      unfold ratV at KM KA
      have HEND := Lib.hid hend
      have FF := Lib.hid F
      have HF0 := Lib.hid hp0
      clear hend hT hs hS hSl hSq hrl hmono hP7 hsm hSm hPl hPs F cls clb hf hC0 hCd htk1 hp0
      have r7 := fun p => blk_cell ((FF.out p).1.keep o7 (by simp; omega)) 0 rfl
      have r7' := fun p => blk_cell ((FF.out p).1.keep o7 (by simp; omega)) 1 rfl
      have r9 := fun p => blk_cell ((FF.out p).1.keep o9 (by simp; omega)) 0 rfl
      have r9' := fun p => blk_cell ((FF.out p).1.keep o9 (by simp; omega)) 1 rfl
      have r5 := fun p => blk_cell ((FF.out p).1.keep o5 (by simp; omega)) 0 rfl
      have rf := fun p => blk_cell ((FF.out p).1.keep of (by have := HS.out.n4; simp; exact this)) 0 rfl
      refine wpIn_class_tail (C := fun X => ∃ p, X = f p) 8 (by kernel_rfl) (by kernel_rfl) (by kernel_rfl) ⟨p0, HF0.out⟩ ?_
      simp only [List.take_succ_cons, List.take_zero]
      repeat (go_big_quiet_step (first | with_reducible exact KF _ | with_reducible exact KM _ | with_reducible exact KA _))
      refine wpQuiet_nil ?_
      rintro X ⟨p, rfl⟩
      simp only [List.drop_succ_cons, List.drop_zero]
      have m7p := (FF.out p).1.keep o7 (by simp; omega)
      refine wpListIn_any [2] [w.heap.size + 1 + 1] _ (has_put (has_B0 _) m7p) (by kernel_rfl) ?_
      refine lex_store_all (w.heap.size + 1 + 1) _ _ _ (by rfl) (by rfl) (by rfl) (Blocks.put_same _ _ _) (by rfl) (Or.inl (by simp)) (by kernel_rfl) (by simp [Value.oneCell']) ?_
      refine lex_nil ?_
      intro X hX hH
      have m7n := hH (w.heap.size + 1 + 1) _ (Blocks.put_same _ _ _)
      obtain ⟨h1, vs2, h2, h3⟩ := FF.out p
      have hb6 : Behind W [c.bv, w.heap.size + 1 + 1] (f p) := ((HX4.out.trans (behind_of_below hB5) (by simp)).trans h1 (by simp)).mono (by simp)
      have hb7 := hb6.trans hX (fun k hk => .inl (by simp at hk; simp [hk]))
      have hN6 : c.N ≤ (f p).heap.size := Nat.le_trans hNW hb6.size
      have a1 := lt_of_heap HS.out.hv
      have a2 := lt_of_heap HS.out.hf
      have hst6 := h2.on hX (fun k hk => by
        have hk : k = w.heap.size + 1 + 1 := by simpa using hk
        exact .inr ⟨by omega, by omega, by omega, by omega, by omega⟩) hN6 h2.fit (hX.keep h2.row (by simp; omega))
      have htk6 : vs2.take i = vs.take i := by
        have := congrArg (List.take i) h3
        rw [List.take_take, Nat.min_eq_left (by omega)] at this
        rw [this, List.take_append_of_le_length (Nat.le_of_eq HTL.out.symm), List.take_of_length_le (Nat.le_of_eq HTL.out)]
      refine round_end (y := ⟨y, hy⟩) HI0.out hbvw hb7 hst6 htk6 ?_ w3.heap.size _ hG
      rw [HEND.out]
      exact m7n
  case done =>
    rintro D ys W hD hys ⟨⟨vs', hst, htk⟩, m7, m5, m6, hbe, hsz5⟩ hKd
    have hlt : (vs.take i).length = i := by have := HS.out.fit.len; simp; omega
    have hS : partR c.l c.ev d (vs.take i) (ys.map (·.1)) = rawQ c.l c.ev (d + 1) (vs.take i) := by
      rw [rawQ_part, hlt, hys, List.getD_eq_getElem?_getD, HE.out, kAt_of HX.out, HK.out]; rfl
    rw [hS] at m7
    clear hS hys hlt
    generalize rawQ c.l c.ev (d + 1) (vs.take i) = s at *
    have c7 := blk_cell m7 0 rfl
    have c7' := blk_cell m7 1 rfl
    have c6 := blk_cell m6 0 rfl
    have c6' := blk_cell m6 1 rfl
    have f6 := blk_free m6 0
    have f6' := blk_free m6 1
    have hst' := Lib.hid hst
    have hbe' := Lib.hid hbe
    have htk' := Lib.hid htk
    clear hst hbe htk
    gi_wp2
    have hK2 := (((KeepsOthers.setCell W ⟨w.heap.size + 1, 0, none⟩ (.string (nb s.1))).trans (KeepsOthers.setCell _ ⟨w.heap.size + 1, 1, none⟩ (.string (nb s.2)))).same D _ hKd rfl)
    refine ⟨by simp, .inl ⟨_, _, rfl, run_takeDeferred hK2, ?_⟩⟩
    have hr1 := wrote_cell (o := 0) (.string (nb s.1)) m6
    have hr2 := wrote_cell (o := 1) (.string (nb s.2)) hr1.here
    have hp1 : Behind W [w.heap.size + 1] _ := (Behind.refl W [w.heap.size + 1]).wrote hr1 (.inl (by simp))
    have hp2 := hp1.wrote hr2 (.inl (by simp))
    have hp3 := (hp2.mono (Wr' := [w.heap.size + 1, D]) (by simp)).trans (behind_grown (grownBy_putObj' _ D (Obj.deferred none))) fun k hk => .inl (by simp at hk; simp [hk])
    have hne : w.heap.size + 1 ≠ D := by omega
    have m6' := (World.putObj_heap_other (o := Obj.deferred none) hne).trans hr2.here
    clear hp1 hp2 hr1 hr2 hK2 c7 c7' c6 c6' f6 f6' m6 m7 hKd
    generalize ((W.setCell ⟨w.heap.size + 1, 0, none⟩ (.string (nb s.1))).setCell ⟨w.heap.size + 1, 1, none⟩ (.string (nb s.2))).putObj D (.deferred none) = w5 at *
    have c0 := blk_cell m6' 0 rfl
    have c1 := blk_cell m6' 1 rfl
    refine ⟨ratV s, by simp [results, Try.results74, go_sem, c0, c1, ratV], ?_⟩
    have hst := hst'.out
    rw [HR.out]
    refine ⟨rfl, hbe'.out.trans hp3 (fun k hk => .inr (by simp at hk; omega)), vs', hst.on hp3 ?_ (Nat.le_trans hN hbe'.out.size) hst.fit (hp3.keep hst.row ?_), htk'.out⟩
    · have a1 := lt_of_heap HS.out.hv
      have a2 := lt_of_heap HS.out.hf
      intro k hk
      have hk : k = w.heap.size + 1 ∨ k = D := by simpa using hk
      exact .inr ⟨by omega, by omega, by omega, by omega, by omega⟩
    · have a1 := lt_of_heap HS.out.row
      simp; omega

theorem sumOK (c : Cfg) (KO : Gives 45 #[] (.agg #[.string (nb 1), .string (nb 1)])) (hg : Good c.l) (hev : c.ev.length = c.l.length) (hsz : szs (ksOf c.l) ≤ 9000) : ∀ d, SumOK c d
  | 0 => fun i w vs hi hs _ => (sum1_zero _ _ KO c w vs hs i (by omega)).mono fun _ _ ⟨h1, h2⟩ => ⟨h1, (behind_of_below h2).mono (by simp), vs, hs.below h2 (by assumption), rfl⟩
  | d + 1 => sum1_step c hg hev hsz d (sumOK c KO hg hev hsz d)

end Go.Proofs.Ytbacloneddnaeaa

/- bayes.sum. -/
namespace Go.Proofs.Ytbacloneddnaeaa
open Go.RowKit Go.Shelf Num


theorem three_val (w : World) (x y : Value) (T U : TypeId) : ∃ w1, w1 = ((w.alloc (Obj.cells #[x] T)).alloc (Obj.cells #[y] U)).alloc (Obj.cells #[Value.string { data := #[] }, Value.string { data := #[] }] 34) ∧
    w1.heap[w.heap.size]? = some (.cells #[x] T (0, 0)) ∧ w1.heap[w.heap.size + 1]? = some (.cells #[y] U (0, 0)) ∧
    w1.heap[w.heap.size + 1 + 1]? = some (.cells #[.string { data := #[] }, .string { data := #[] }] 34 (0, 0)) ∧ w1.heap.size = w.heap.size + 3 ∧ Below w.heap.size w w1 := by
  refine ⟨_, rfl, ?_, ?_, ?_, by simp, (((Below.refl _ _).alloc (Nat.le_refl _) _).alloc (by simp) _).alloc (by simp; omega) _⟩
  · exact (heap_alloc_old _ _ (by simp; omega)).trans ((heap_alloc_old _ _ (by simp)).trans (heap_alloc_new w _))
  · refine (heap_alloc_old _ _ (by simp)).trans ?_
    have := heap_alloc_new (w.alloc (Obj.cells #[x] T)) (Obj.cells #[y] U)
    simpa using this
  · have := heap_alloc_new ((w.alloc (Obj.cells #[x] T)).alloc (Obj.cells #[y] U)) (Obj.cells #[Value.string { data := #[] }, Value.string { data := #[] }] 34)
    simpa using this

theorem two_val (w : World) (x y : Value) (T U : TypeId) : ∃ w1, w1 = (w.alloc (Obj.cells #[x] T)).alloc (Obj.cells #[y] U) ∧
    w1.heap[w.heap.size]? = some (.cells #[x] T (0, 0)) ∧ w1.heap[w.heap.size + 1]? = some (.cells #[y] U (0, 0)) ∧ w1.heap.size = w.heap.size + 2 ∧ Below w.heap.size w w1 := by
  refine ⟨_, rfl, ?_, ?_, by simp, ((Below.refl _ _).alloc (Nat.le_refl _) _).alloc (by simp) _⟩
  · exact (heap_alloc_old _ _ (by simp)).trans (heap_alloc_new w _)
  · have := heap_alloc_new (w.alloc (Obj.cells #[x] T)) (Obj.cells #[y] U)
    simpa using this

set_option maxHeartbeats 1600000 in
set_option maxRecDepth 100000 in
theorem sum_law (KO : Gives 45 #[] (.agg #[.string (nb 1), .string (nb 1)])) (N : Nat) (l : List BV) (ev : List Int) (a ea : Option Addr) (lc ec : Nat) (hg : Good l) (hev : ev.length = l.length) (hsz : szs (ksOf l) ≤ 9000)
    (w : World) (hN : NetAt N w a l) (hE : AtN N w ea (ints ev)) (hw : N ≤ w.heap.size) :
    Calls Try.prog 37 #[.slice a l.length lc, .slice ea ev.length ec] w fun e w' => e = .returned (ratV (rawQ l ev l.length [])) ∧ Below w.heap.size w w' := by
  have HN := Lib.hid hN
  have HE := Lib.hid hE
  have hl16 := hg.len
  clear hN hE
  obtain ⟨i0, hi, hz0, hz1, hz2⟩ := info_parts Try.infoInt
  go_enter Try.func37, Try.ntmps37
  go_wp2_with (at_make; refine wpList_make_full _ rfl (.tmp 8) (.tmp 8) 30 rfl (w.heap.size + 3) 3 i0 (.int .i64 0) 1 Try.underlying30 hi hz0 hz1 .i64 .i64 _ _ l.length rfl rfl (by omega) (by omega) (by rw [hz2]; omega) (by unfold maxLen; omega) (by simp) ?_)
  intro w1 hown hgr
  have hR := Row.ofOwns hown
  rw [ints_zeros] at hR
  obtain ⟨w0, hw0, n2, n3, n4, sz0, hB0⟩ := three_val w (.slice a l.length lc) (.slice ea ev.length ec) 26 30
  rw [hev] at hw0 n3
  rw [← hw0] at hgr
  clear hw0
  have hB1 := hB0.trans ((grown_below hgr (Nat.le_refl _) (by simp)).mono (B' := w.heap.size) (by omega))
  have hk : ∀ k, k < w0.heap.size → w1.heap[k]? = w0.heap[k]? := fun k hk => hgr.block k hk (by simp)
  have m2 := (hk _ (by omega)).trans n2
  have m3 := (hk _ (by omega)).trans n3
  have m4 := (hk _ (by omega)).trans n4
  have sz1 : w.heap.size + 3 < w1.heap.size := by have := hR.lt; simpa using this
  clear hown hgr hk n2 n3 n4 sz0 hB0
  obtain ⟨w2, hw2, k5, k6, sz2, hB2⟩ := two_val w1 (.slice (some ⟨w.heap.size + 1 + 1 + 1, 0, none⟩) l.length l.length) .nilFunc 30 125
  have K6 := k6
  rw [hw2] at K6
  go_wp2_with (with_reducible refine wpList_from 10 [0, 2] [w1.heap.size + 1] _ (has_put (has_B0 _) K6) ?_)
  rw [← hw2]
  clear hw2 K6
  refine lex_quietE 1 (by kernel_rfl) (by rfl) ?_
  apply Exists.intro
  refine ⟨fun z hz => ?_, ?_⟩
  · clear hz
    simp only [List.take_succ_cons, List.take_zero]
    unfold Cx
    repeat (go_big_quiet_step (fail))
    exact wpQuiet_nil rfl
  simp only [List.drop_succ_cons, List.drop_zero]
  refine lex_store_one (w1.heap.size + 1) (.func (.func 74) #[] #[.pointer (some ⟨w.heap.size, 0, none⟩), .pointer (some ⟨w.heap.size + 1, 0, none⟩), .pointer (some ⟨w1.heap.size, 0, none⟩), .pointer (some ⟨w1.heap.size + 1, 0, none⟩)]) _ _ (by rfl) (by rfl) (by rfl) (Blocks.put_same _ _ _) (by rfl) (Or.inl (by simp)) (by kernel_rfl) (by simp [Value.oneCell']) ?_
  refine lex_nil ?_
  intro w3 hx hH
  have m6 := hH (w1.heap.size + 1) _ (Blocks.put_same _ _ _)
  have hb3 := hB2.trans (hx.below_of (b := w1.heap.size) (by simp) (by omega))
  have j2 := (hb3.block _ (by omega)).trans m2
  have j3 := (hb3.block _ (by omega)).trans m3
  have j4 := (hb3.block _ (by omega)).trans m4
  have j5 := hx.keep k5 (by simp)
  have jr := (hb3.block _ (by omega)).trans hR
  have sz3 : w.heap.size + 3 < w3.heap.size := by have := hx.size; omega
  have HB3 := Lib.hid (hB1.trans (hb3.mono (B' := w.heap.size) (by omega)))
  clear hx hH hb3 k5 k6 sz2 hB2 m2 m3 m4 hR hB1
  have hfit : Fit l (List.replicate l.length 0) := ⟨by simp, hg.kb, fun i x v hx hv => by
    have h1 := hg.kb i x hx
    have : v = 0 := by
      rw [List.getElem?_replicate] at hv
      split at hv
      · exact (Option.some.inj hv).symm
      · cases hv
    subst this; omega⟩
  have hst : St ⟨N, l, ev, w.heap.size, w.heap.size + 1, w1.heap.size, w1.heap.size + 1, w.heap.size + 1 + 1 + 1, a, lc, ea, ec⟩ w3 (List.replicate l.length 0) :=
    ⟨j2, by rw [hev]; exact j3, j5, m6, HN.out.below HB3.out hw, HE.out.below HB3.out hw, hfit, by simpa [Cfg.row] using jr, Nat.le_trans hw (show w.heap.size ≤ w.heap.size + 1 + 1 + 1 by omega), show w.heap.size ≠ w.heap.size + 1 + 1 + 1 by omega, show w.heap.size + 1 ≠ w.heap.size + 1 + 1 + 1 by omega, show w1.heap.size ≠ w.heap.size + 1 + 1 + 1 by omega, show w1.heap.size + 1 ≠ w.heap.size + 1 + 1 + 1 by omega⟩
  have hS := sumOK _ KO hg hev hsz l.length 0 w3 _ (by simp) hst (show N ≤ w3.heap.size by omega)
  unfold Cfg.args ratV at hS
  simp only [List.take_zero] at hS
  rw [show ((0 : Nat) : Int) = 0 from rfl] at hS
  generalize hSS : rawQ l ev l.length [] = S at *
  have HSS := Lib.hid hSS
  clear hSS
  have c6 := blk_cell m6 0 rfl
  have J4 := Lib.hid j4
  have HS := Lib.hid hS
  clear hst hfit jr j2 j3 j4 j5 m6 hS
  go_wp2_with (go_at_call 74; ((with_reducible refine (HS.out).mono ?_); rintro e5 w5 ⟨rfl, hbe, _⟩; have r4 := hbe.keep J4.out (by simp); have HB5 := Lib.hid (HB3.out.trans (hbe.below_of (b := w.heap.size) (by simp; omega) (by omega))); clear hbe c6; have d0 := blk_cell r4 0 rfl; have d1 := blk_cell r4 1 rfl; have f0 := blk_free r4 0; have f1 := blk_free r4 1))
  exact bodyPost_ret (v := ratV S) (by simp [results, Try.results37, go_sem, d0, d1, ratV]) rfl ⟨by rw [HSS.out], (HB5.out.setCell (by simp; omega) _).setCell (by simp; omega) _⟩
end Go.Proofs.Ytbacloneddnaeaa

/- bayes.allowed, Joint, Ask. -/
namespace Go.Proofs.Ytbacloneddnaeaa
open Go.RowKit Go.Shelf Num

def allowedP (l : List BV) (vs : List Int) (least : Int) : Prop := vs.length = l.length ∧ ∀ (i : Nat) (x : BV) (v : Int), l[i]? = some x → vs[i]? = some v → least ≤ v ∧ v < x.k
open Classical in
noncomputable def allowedB (l : List BV) (vs : List Int) (least : Int) : Bool := decide (allowedP l vs least)

theorem allowedB_true {l : List BV} {vs : List Int} {least : Int} (h : allowedP l vs least) : allowedB l vs least = true := by unfold allowedB; simp [h]
theorem allowedB_false {l : List BV} {vs : List Int} {least : Int} (h : ¬ allowedP l vs least) : allowedB l vs least = false := by unfold allowedB; simp [h]

set_option maxHeartbeats 3200000 in
set_option maxRecDepth 100000 in
theorem allowed_law (N : Nat) (l : List BV) (vs : List Int) (a va : Option Addr) (c vc : Nat) (least : Int) (hl : l.length ≤ 100) (hvl : vs.length ≤ 100) (w : World) (hN : NetAt N w a l) (hV : AtN N w va (ints vs)) :
    Calls Try.prog 36 #[.slice a l.length c, .slice va vs.length vc, .int .i64 least] w fun e w' => e = .returned (.bool (allowedB l vs least)) ∧ w' = w := by
  have HN := Lib.hid hN
  have HV := Lib.hid hV
  clear hN hV
  by_cases hlen : vs.length = l.length
  · have HL := Lib.hid hlen
    clear hlen
    have HLc := HL
    go_enter Try.func36, Try.ntmps36
    have e1 : ((vs.length : Int) != (l.length : Int)) = false := by rw [HL.out]; simp
    have e2 : decide (vs.length = l.length) = true := by simp [HL.out]
    have e3 : ((vs.length : Int) == (l.length : Int)) = true := by rw [HL.out]; simp
    have e4 : (vs.length == l.length) = true := by rw [HL.out]; simp
    have e5 : (vs.length != l.length) = false := by rw [HL.out]; simp
    go_wp2_with fail
    go_loopw [16] (fun k wr => ∃ j : Nat, j ≤ vs.length ∧ k = .int .i64 j ∧ Hid (∀ (i : Nat) (x : BV) (v : Int), i < j → l[i]? = some x → vs[i]? = some v → least ≤ v ∧ v < x.k) ∧ wr = w)
      (fun k _ => vs.length - (intOf k).toNat)
    case atStart => exact ⟨0, Nat.zero_le _, rfl, fun i x v h => by omega, rfl⟩
    case round =>
      obtain ⟨j, hj, rfl, HA, rfl⟩ := hrel
      clear e1 e2 e3 e4 e5
      by_cases hlt : j < vs.length
      · obtain ⟨v, hv⟩ : ∃ v, vs[j]? = some v := ⟨_, List.getElem?_eq_getElem hlt⟩
        have hjl : j < l.length := by rw [← HL.out]; exact hlt
        obtain ⟨x, hx⟩ : ∃ x, l[j]? = some x := ⟨_, List.getElem?_eq_getElem hjl⟩
        obtain ⟨vb, vo, _, rfl, c1⟩ := HV.out j _ (ints_get _ _ _ hv)
        obtain ⟨b, o, _, _, _, _, _, rfl, c0, _⟩ := HN.out j x hx
        by_cases h1 : v < least
        · have HE : Hid (allowedB l vs least = false) := allowedB_false fun h => by have := (h.2 j x v hx hv).1; omega
          clear hx hv
          go_wp2_with fail
          go_ret
          exact ⟨by rw [HE.out]; rfl, rfl⟩
        · have h1' : least ≤ v := by omega
          clear h1
          by_cases h2 : x.k ≤ v
          · have HE : Hid (allowedB l vs least = false) := allowedB_false fun h => by have := (h.2 j x v hx hv).2; omega
            clear hx hv
            go_wp2_with fail
            go_ret
            exact ⟨by rw [HE.out]; rfl, rfl⟩
          · have h2' : v < x.k := by omega
            have HA2 : Hid (∀ (i : Nat) (x : BV) (v : Int), i < j + 1 → l[i]? = some x → vs[i]? = some v → least ≤ v ∧ v < x.k) := fun i x' v' hi h3 h4 => by
              rcases Nat.lt_succ_iff_lt_or_eq.1 hi with h | h
              · exact HA.out i x' v' h h3 h4
              · subst h
                rw [hx] at h3; rw [hv] at h4; cases h3; cases h4
                exact ⟨h1', h2'⟩
            clear hx hv h2
            go_wp2_with fail
            go_roundw
            case rel => exact ⟨j + 1, by omega, by go_num, HA2, trivial⟩
            case measure => simp [intOf]; omega
      · obtain rfl : j = vs.length := by omega
        have HE : Hid (allowedB l vs least = true) := allowedB_true ⟨HL.out, fun i x v h3 h4 => HA.out i x v (List.getElem?_eq_some_iff.1 h4).1 h3 h4⟩
        go_wp2_with fail
        go_ret
        exact ⟨by rw [HE.out]; rfl, rfl⟩
  · have HE : Hid (allowedB l vs least = false) := allowedB_false (fun h => hlen h.1)
    go_enter Try.func36, Try.ntmps36
    have e1 : ((vs.length : Int) != (l.length : Int)) = true := by simp; omega
    have e2 : decide (vs.length = l.length) = false := by simp; omega
    have e3 : ((vs.length : Int) == (l.length : Int)) = false := by simp; omega
    have e4 : (vs.length == l.length) = false := by simp; omega
    have e5 : (vs.length != l.length) = true := by simp; omega
    clear hlen
    go_wp2_with fail
    go_ret
    exact ⟨by rw [HE.out]; rfl, rfl⟩

/-! ### What Check says of a network -/

def prevN : Option Int → Int
  | none => 0
  | some q => q + 1

theorem okPar_spec (l : List BV) (i tn : Nat) : ∀ (ps : List Int) (prev : Option Int) (r0 r : Nat), okPar l i tn ps prev r0 = some r → (∀ q, prev = some q → 0 ≤ q ∧ q < i) →
    (∀ p ∈ ps, 0 ≤ p ∧ p.toNat < i) ∧ (ps.length : Int) + prevN prev ≤ i ∧ (∀ (vs : List Nat) (a0 : Nat), Fit l vs → i ≤ l.length → a0 < r0 → idxFrom l vs a0 ps < r)
  | [], prev, r0, r, h, hq => by
    cases h
    refine ⟨by simp, ?_, fun vs a0 _ _ h => h⟩
    cases prev with
    | none => simp [prevN]
    | some q => have := hq q rfl; simp [prevN]; omega
  | p :: ps, prev, r0, r, h, hq => by
    unfold okPar at h
    split at h
    · cases h
    · rename_i hc
      split at h
      · cases h
      · have h0 : 0 ≤ p := by
          refine Int.not_lt.1 fun h => hc (.inl h)
        have h1 : p < i := Int.not_le.1 fun h => hc (.inr (.inl h))
        obtain ⟨e1, e2, e3⟩ := okPar_spec l i tn ps (some p) _ r h (fun q hq => by cases hq; exact ⟨h0, h1⟩)
        refine ⟨fun q hq => ?_, ?_, fun vs a0 hf hi ha => ?_⟩
        · rcases List.mem_cons.1 hq with rfl | hq
          · exact ⟨h0, by omega⟩
          · exact e1 q hq
        · have h2 : prevN prev ≤ p := by
            cases prev with
            | none => exact h0
            | some q =>
              have : ¬ p ≤ q := fun h => hc (.inr (.inr ⟨q, rfl, h⟩))
              simp [prevN]; omega
          simp only [prevN] at e2
          simp; omega
        · refine e3 vs _ hf hi ?_
          have hpl : p.toNat < l.length := by omega
          obtain ⟨y, hy⟩ : ∃ y, l[p.toNat]? = some y := ⟨_, List.getElem?_eq_getElem hpl⟩
          obtain ⟨v, hv⟩ : ∃ v, vs[p.toNat]? = some v := ⟨_, List.getElem?_eq_getElem (by rw [hf.len]; exact hpl)⟩
          have hlt := hf.lt _ y v hy hv
          show a0 * kAt l p.toNat + vs.getD p.toNat 0 < _
          rw [kAt_of hy, show vs.getD p.toNat 0 = v by simp [hv]]
          have h3 : (a0 + 1) * y.k.toNat ≤ r0 * y.k.toNat := Nat.mul_le_mul_right _ ha
          rw [Nat.add_mul, Nat.one_mul] at h3
          omega

theorem good_of_formed {l : List BV} (hn : NetIn l) (h16 : l.length ≤ 16) (hf : ∀ i, i < l.length → formedP l i) : Good l where
  len := h16
  kb := fun i x hx => by
    obtain ⟨y, _, h1, h2, h3, _⟩ := hf i (List.getElem?_eq_some_iff.1 hx).1
    rw [hx] at h1; cases h1; omega
  par := fun i x hx => by
    obtain ⟨y, r, h1, _, _, h4, _⟩ := hf i (List.getElem?_eq_some_iff.1 hx).1
    rw [hx] at h1; cases h1
    exact (okPar_spec l i _ _ _ _ _ h4 (fun _ h => by cases h)).1
  plen := fun i x hx => by
    have hi := (List.getElem?_eq_some_iff.1 hx).1
    obtain ⟨y, r, h1, _, _, h4, _⟩ := hf i hi
    rw [hx] at h1; cases h1
    have := (okPar_spec l i _ _ _ _ _ h4 (fun _ h => by cases h)).2.1
    simp only [prevN] at this
    omega
  tab := fun i x vs hx hfit => by
    have hi := (List.getElem?_eq_some_iff.1 hx).1
    obtain ⟨y, r, h1, _, _, h4, h5, _⟩ := hf i hi
    rw [hx] at h1; cases h1
    have h6 := (okPar_spec l i _ _ _ _ _ h4 (fun _ h => by cases h)).2.2 vs 0 hfit (by omega) (by omega)
    obtain ⟨v, hv⟩ : ∃ v, vs[i]? = some v := ⟨_, List.getElem?_eq_getElem (by rw [hfit.len]; exact hi)⟩
    have hlt := hfit.lt _ x v hx hv
    rw [show vs.getD i 0 = v by simp [hv], ← h5]
    have h7 : (idxFrom l vs 0 x.ps + 1) * x.k.toNat ≤ r * x.k.toNat := Nat.mul_le_mul_right _ h6
    rw [Nat.add_mul, Nat.one_mul] at h7
    omega
  low := fun i x hx => hn.tab i x hx

theorem check_ok {l : List BV} (hn : NetIn l) (h : checkE l = 0) : Good l := by
  unfold checkE at h
  split at h
  · cases h
  · split at h
    · rename_i h1 h2
      exact good_of_formed hn (by omega) h2
    · cases h

end Go.Proofs.Ytbacloneddnaeaa
