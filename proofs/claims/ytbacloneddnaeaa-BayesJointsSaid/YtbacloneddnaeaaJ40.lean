/- Texts of this claim, joined: BWorks, BRefP, BChecks, BJntP, BJnt. -/
import Derived.Test.YtbacloneddnaeaaJ39
import Derived.Test.YtbacloneddnaeaaJ38
import Derived.Test.YtbacloneddnaeaaJ28
import Derived.Test.YtbacloneddnaeaaJ36
import Derived.Test.YtbacloneddnaeaaJ35

/- censuslaw40.works. -/
namespace Go.Proofs.Ytbacloneddnaeaa
open Go.RowKit Go.Shelf Num

theorem ask_at (N : Nat) (l : List BV) (vs : List Int) (a va : Option Addr) (c vc q1 q2 : Nat) (E : Int) (h : askE l vs (-1) = ((q1, q2), E)) (hn : NetIn l) (hvl : vs.length ≤ 100) (hsz : checkE l = 0 → szs (ksOf l) ≤ 9000) (w : World) (hN : NetAt N w a l) (hV : AtN N w va (ints vs)) (hw : N ≤ w.heap.size) :
    Calls Try.prog 28 #[.slice a l.length c, .slice va vs.length vc] w fun e w' => e = .returned (.tuple #[.agg #[.string (nb q1), .string (nb q2)], .int .i64 E]) ∧ Below w.heap.size w w' := by
  have := ask_law gBOne N l vs a va c vc hn hvl hsz w hN hV hw
  rw [h] at this
  exact this
theorem joint_at (N : Nat) (l : List BV) (vs : List Int) (a va : Option Addr) (c vc q1 q2 : Nat) (E : Int) (h : askE l vs 0 = ((q1, q2), E)) (hn : NetIn l) (hvl : vs.length ≤ 100) (hsz : checkE l = 0 → szs (ksOf l) ≤ 9000) (w : World) (hN : NetAt N w a l) (hV : AtN N w va (ints vs)) (hw : N ≤ w.heap.size) :
    Calls Try.prog 14 #[.slice a l.length c, .slice va vs.length vc] w fun e w' => e = .returned (.tuple #[.agg #[.string (nb q1), .string (nb q2)], .int .i64 E]) ∧ Below w.heap.size w w' := by
  have := joint_law gBOne N l vs a va c vc hn hvl hsz w hN hV hw
  rw [h] at this
  exact this
theorem post_at (N : Nat) (l : List BV) (vs : List Int) (a va : Option Addr) (c vc : Nat) (v : Int) (L : List (Nat × Nat)) (E : Int) (h : postE l vs v = (L, E)) (hn : NetIn l) (hvl : vs.length ≤ 100) (hsz : checkE l = 0 → szs (ksOf l) ≤ 9000) (w : World) (hN : NetAt N w a l) (hV : AtN N w va (ints vs)) (hw : N ≤ w.heap.size) :
    Calls Try.prog 29 #[.slice a l.length c, .slice va vs.length vc, .int .i64 v] w fun e w' => ∃ p n c, e = .returned (.tuple #[.slice p n c, .int .i64 E]) ∧ n = L.length ∧ AtN w'.heap.size w' p (rats L) ∧ Below w.heap.size w w' := by
  refine (posterior_law gBOne N l vs a va c vc v hn hvl hsz w hN hV hw).mono ?_
  rintro e w' ⟨s, rfl, hR, hB⟩
  rw [h] at *
  rcases hR with ⟨rfl, hL⟩ | ⟨g, c, rfl, _, hA⟩
  · have hL : L = [] := hL
    subst hL
    exact ⟨_, _, _, rfl, rfl, fun i v h => by simp [rats] at h, hB⟩
  · exact ⟨_, _, _, rfl, rfl, hA, hB⟩

theorem chap_lit : Lit chapR := by
  refine ⟨by decide, fun x hx => ?_, fun x hx => ?_⟩
  · simp only [chapR, List.mem_cons, List.not_mem_nil, or_false] at hx
    rcases hx with rfl | rfl <;> decide
  · simp only [chapR, List.mem_cons, List.not_mem_nil, or_false] at hx
    rcases hx with rfl | rfl
    · exact ⟨by decide, by intro s hs; simp only [List.mem_cons, List.not_mem_nil, or_false] at hs; rcases hs with rfl | rfl <;> decide⟩
    · exact ⟨by decide, by intro s hs; simp only [List.mem_cons, List.not_mem_nil, or_false] at hs; rcases hs with rfl | rfl | rfl | rfl <;> decide⟩

/-- The chapter's network, made anew. -/
theorem net_law (w : World) (hM : ∃ m, w.cell? ⟨0, 0, none⟩ = some (.int .i64 m)) (a : Option Addr) (c : Nat) (hR : RefAt w.heap.size w a chapR) :
    Calls Try.prog 11 #[.slice a 2 c] w fun e w' => ∃ p cp, e = .returned (.slice p 2 cp) ∧ NetAt w'.heap.size w' p chapN ∧ Below w.heap.size w w' := by
  refine (given_law w.heap.size chapR a c chap_lit w hR (Nat.le_refl _) hM).mono ?_
  rintro e w' ⟨v, cs, rfl, hG, hB⟩
  rw [gnet_chap] at hG
  obtain ⟨p, cp, rfl⟩ := hG.row.slice
  exact ⟨p, cp, rfl, hG.net, hB⟩

theorem below_in {w w' : World} (h : Below w.heap.size w w') {m : Int} (hM : w.cell? ⟨0, 0, none⟩ = some (.int .i64 m)) : w'.cell? ⟨0, 0, none⟩ = some (.int .i64 m) := below_cell h (block_lt_of_cell hM) hM

theorem calls_gen {P : Program} {f : FuncId} {args : Array Value} {w : World} {Q : Ending → World → Prop} (h : ∀ w1, w1 = w → Calls P f args w1 Q) : Calls P f args w Q := h _ rfl
theorem gTextOf (p q : Nat) (s : ByteArray) (hp : Sm 1000000 (p, q)) (h : rtext (p, q) = s) : Gives 16 #[.agg #[.string (nb p), .string (nb q)]] (.string s) := by
  have := gRText (p, q) hp
  rw [h] at this
  exact this
theorem post0 : postE chapN [-1, 0] 0 = ([(1, 7), (6, 7)], 0) := by
  have := post_chap (vs := [-1, 0]) (v := 0) (L := [(1, 7), (6, 7)]) (t := (7, 8)) rfl (by decide) (by decide) (by kernel_rfl) (by decide) (by kernel_rfl)
  exact this

set_option maxHeartbeats 3200000 in
set_option maxRecDepth 100000 in
theorem works_law (w : World) (hM : ∃ m, w.cell? ⟨0, 0, none⟩ = some (.int .i64 m)) : Calls Try.prog 13 #[] w fun e w' => e = .returned (.bool true) ∧ Below w.heap.size w w' := by
  obtain ⟨M, hM⟩ := hM
  go_enter Try.func13, Try.ntmps13
  go_wp2_with fail
  refine (chapter_law _).mono ?_
  rintro r1 w1 ⟨a1, c1, rfl, hR1, hB1⟩
  have hM1 := below_in hB1 hM
  rw [show chapR.length = 2 from rfl]
  go_wp2_with fail
  refine (net_law w1 ⟨M, hM1⟩ a1 c1 hR1).mono ?_
  rintro r2 w2 ⟨p, cp, rfl, hN2, hB2⟩
  have HB2 := Lib.hid (hB1.trans (hB2.mono hB1.size))
  have HN2 := Lib.hid hN2
  clear hR1 hB1 hM1 hN2 hB2 hM
  go_wp2_with fail
  obtain ⟨w3, hw3, mV, sz3, hB3⟩ := one_cells w2 #[.int .i64 (-1), .int .i64 0] 3
  rw [← hw3]
  clear hw3
  have hN3 := (HN2.out.below hB3 (Nat.le_refl _)).mono (M := w3.heap.size) (by omega)
  refine (ask_at w3.heap.size chapN [-1, 0] p (some ⟨w2.heap.size, 0, none⟩) cp 2 7 8 0 (ask_chap rfl (by decide) askm0) chap_in (by decide) (fun _ => chap_sz) w3 hN3 (atN_cells mV) (Nat.le_refl _)).mono ?_
  rintro r4 w4 ⟨rfl, hB4⟩
  have HN4 := Lib.hid (hN3.below hB4 (Nat.le_refl _))
  have HB4 := Lib.hid ((HB2.out.trans (hB3.mono HB2.out.size)).trans (hB4.mono (by have := HB2.out.size; omega)))
  have hs4 := hB4.size
  clear mV hN3 hB3 hB4
  go_wp2_with fail
  obtain ⟨w5, hw5, m2, mV, sz5, hB5⟩ := two_cells w4 #[.string (nb 7), .string (nb 8)] #[.int .i64 (-1), .int .i64 0] 34 3
  rw [← hw5]
  clear hw5
  have hN5 := (HN4.out.below hB5 (by omega)).mono (M := w5.heap.size) (by omega)
  refine (post_at w5.heap.size chapN [-1, 0] p (some ⟨w4.heap.size + 1, 0, none⟩) cp 2 0 [(1, 7), (6, 7)] 0 post0 chap_in (by decide) (fun _ => chap_sz) w5 hN5 (atN_cells mV) (Nat.le_refl _)).mono ?_
  rintro r6 w6 ⟨ps, n, cs, rfl, rfl, hA6, hB6⟩
  rw [show ([(1, 7), (6, 7)] : List (Nat × Nat)).length = 2 from rfl]
  have hs6 := hB6.size
  have HN6 := Lib.hid (hN5.below hB6 (Nat.le_refl _))
  have HB6 := Lib.hid ((HB4.out.trans (hB5.mono HB4.out.size)).trans (hB6.mono (by have := HB4.out.size; omega)))
  have M2 := Lib.hid ((behind_of_below hB6).keep m2 (by simp))
  have HA6 := Lib.hid hA6
  clear m2 mV hN5 hB5 hB6 hA6
  go_wp2_with fail
  obtain ⟨w7, hw7, mV, sz7, hB7⟩ := one_cells w6 #[.int .i64 0, .int .i64 1] 3
  rw [← hw7]
  clear hw7
  have hN7 := (HN6.out.below hB7 (by omega)).mono (M := w7.heap.size) (by omega)
  refine (joint_at w7.heap.size chapN [0, 1] p (some ⟨w6.heap.size, 0, none⟩) cp 2 1 8 0 (ask_chap rfl (by decide) joint01) chap_in (by decide) (fun _ => chap_sz) w7 hN7 (atN_cells mV) (Nat.le_refl _)).mono ?_
  rintro r8 w8 ⟨rfl, hB8⟩
  have hs8 := hB8.size
  have h68 : Behind w6 [] w8 := (behind_of_below hB7).trans (behind_of_below hB8) (by simp)
  have HN8 := Lib.hid (hN7.below hB8 (Nat.le_refl _))
  have HB8 := Lib.hid (HB6.out.trans (h68.below.mono HB6.out.size))
  have M28 := Lib.hid (h68.keep M2.out (by simp))
  have HA8 := Lib.hid (HA6.out.below h68.below (Nat.le_refl _))
  clear mV hN7 hB7 hB8 h68 M2 HA6 HN6 HB6
  go_wp2_with fail
  obtain ⟨w9, hw9, m6, sz9, hB9⟩ := one_cells w8 #[.string (nb 1), .string (nb 8)] 34
  rw [← hw9]
  clear hw9
  have hN9 := (HN8.out.below hB9 (by omega)).mono (M := w9.heap.size) (by omega)
  refine (encode_law gBOne w9.heap.size chapN p cp chap_in w9 hN9 (Nat.le_refl _)).mono ?_
  rintro r10 w10 ⟨hB10, ⟨hc, _⟩ | ⟨_, gT, gW, gI, ep, rfl, hE10⟩⟩
  · exact absurd chap_check hc
  obtain ⟨pL, cL, hvL⟩ := hE10.rC.slice
  obtain ⟨pI, cI, hvI⟩ := hE10.rI.slice
  have hs10 := hB10.size
  have h810 : Behind w8 [] w10 := (behind_of_below hB9).trans (behind_of_below hB10) (by simp)
  have HB10 := Lib.hid (HB8.out.trans (h810.below.mono HB8.out.size))
  have M2' := Lib.hid (h810.keep M28.out (by simp))
  have M6 := Lib.hid ((behind_of_below hB10).keep m6 (by simp))
  have HA10 := Lib.hid (HA8.out.below h810.below (by omega))
  rw [enc_chap, hvL, hvI]
  clear hE10 hvL hvI hB9 hB10 h810 m6 hN9 HN8 HB8 M28 HA8
  have KT1 : Gives 16 #[.agg #[.string (nb 7), .string (nb 8)]] (.string { data := #[55, 47, 56] }) := gTextOf 7 8 _ ⟨by decide, by decide⟩ (by kernel_rfl)
  have KT2 : Gives 16 #[.agg #[.string (nb 1), .string (nb 8)]] (.string { data := #[49, 47, 56] }) := gTextOf 1 8 _ ⟨by decide, by decide⟩ (by kernel_rfl)
  have c2a := blk_cell M2'.out 0 rfl
  have c2b := blk_cell M2'.out 1 rfl
  have l2 := lt_of_heap M2'.out
  go_wp2_with fail
  refine calls_gen fun w11 hw11 => ?_
  have mT : w11.heap[w10.heap.size]? = some (.cells #[.int .i64 10, .slice pL (encOf chapN).L.length cL] 43 (0, 0)) := by rw [hw11]; exact (heap_alloc_old _ _ (by simp)).trans (heap_alloc_new _ _)
  have hB11 : Below w10.heap.size w10 w11 := by rw [hw11]; exact ((Below.refl _ _).alloc (Nat.le_refl _) _).alloc (by simp) _
  have hs11 := hB11.size
  clear hw11 c2a c2b
  refine (KT1 _).mono ?_
  rintro r12 w12 ⟨rfl, hB12⟩
  have hs12 := hB12.size
  have h12 : Behind w10 [] w12 := (behind_of_below hB11).trans (behind_of_below hB12) (by simp)
  have MT := Lib.hid ((behind_of_below hB12).keep mT (by simp))
  have M6' := Lib.hid (h12.keep M6.out (by simp))
  have HA12 := Lib.hid (HA10.out.below h12.below (by omega))
  have HB12 := Lib.hid (HB10.out.trans (h12.below.mono HB10.out.size))
  clear mT hB11 hB12 h12 M6 HA10 HB10
  go_wp2_with fail
  obtain ⟨w13, hw13, mS, sz13, hB13⟩ := one_cells w12 #[.string { data := #[49, 47, 55] }, .string { data := #[54, 47, 55] }] 9
  rw [← hw13]
  clear hw13
  refine (texts_law w13.heap.size [(1, 7), (6, 7)] [{ data := #[49, 47, 55] }, { data := #[54, 47, 55] }] ps (some ⟨w12.heap.size, 0, none⟩) cs 2 (by intro q hq; simp only [List.mem_cons, List.not_mem_nil, or_false] at hq; rcases hq with rfl | rfl <;> exact ⟨by decide, by decide⟩) (by decide) (by decide) w13 ((HA12.out.below hB13 (by omega)).mono (by omega)) (atN_cells mS) (Nat.le_refl _)).mono ?_
  rintro r14 w14 ⟨rfl, hB14⟩
  rw [show textsB [(1, 7), (6, 7)] [{ data := #[49, 47, 55] }, { data := #[54, 47, 55] }] = true from decide_eq_true (by kernel_rfl)]
  have h14 : Behind w12 [] w14 := (behind_of_below hB13).trans (behind_of_below hB14) (by simp)
  have MT14 := Lib.hid (h14.keep MT.out (by simp))
  have m614 := h14.keep M6'.out (by simp)
  have c6a := blk_cell m614 0 rfl
  have c6b := blk_cell m614 1 rfl
  have HB14 := Lib.hid (HB12.out.trans (h14.below.mono HB12.out.size))
  clear hB13 hB14 h14 m614 mS MT M6' HB12 HA12
  go_wp2_with fail
  refine (KT2 _).mono ?_
  rintro r15 w15 ⟨rfl, hB15⟩
  have mT15 := (behind_of_below hB15).keep MT14.out (by simp)
  have cT := blk_cell mT15 0 rfl
  have HB15 := Lib.hid (HB14.out.trans (hB15.mono HB14.out.size))
  clear c6a c6b hB15 mT15 MT14
  go_wp2_with fail
  go_ret
  exact ⟨rfl, HB15.out⟩
end Go.Proofs.Ytbacloneddnaeaa

/- censusref40.product, allowed and Joint. -/
namespace Go.Proofs.Ytbacloneddnaeaa
open Go.RowKit Go.Shelf Num

theorem prodV_low {l : List BV} (hg : Good l) (vs : List Nat) : ∀ j, Q.Low (prodV l vs j) ∧ Sm (1 + 5 * j) (prodV l vs j)
  | 0 => by
    show Q.Low (1, 1) ∧ Sm 1 (1, 1)
    exact ⟨⟨by decide, by decide⟩, ⟨by decide, by decide⟩⟩
  | j + 1 => by
    obtain ⟨h1, h2⟩ := prodV_low hg vs j
    obtain ⟨h3, h4⟩ := pAt_low hg j vs
    rw [prodV_succ]
    exact ⟨Q.mul_low h1 h3, (sm_mul2 h2 h4).mono (by omega)⟩

theorem xentry_from (N : Nat) (l : List RV) (vs : List Nat) (a va : Option Addr) (c vc i : Nat) (x : RV) (hx : l[i]? = some x) (hf : Fit (gnet l) vs) (hp : ∀ p ∈ x.ps, 0 ≤ p ∧ p.toNat < l.length) (hpl : x.ps.length ≤ 16) (hl : l.length ≤ 100) (w : World) (hN : RefAt N w a l) (hV : AtN N w va (ints (vs.map Int.ofNat))) (hw : N ≤ w.heap.size) :
    GivesFrom w 78 #[.slice a l.length c, .int .i64 i, .slice va vs.length vc] (.int .i64 ((idxFrom (gnet l) vs 0 x.ps * x.k.toNat + vs.getD i 0 : Nat) : Int)) := fun w' hb =>
  xentry_law N l vs a va c vc i x hx hf hp hpl hl w' (hN.below hb hw) (hV.below hb hw) (Nat.le_trans hw hb.size)

set_option maxHeartbeats 3200000 in
set_option maxRecDepth 100000 in
theorem xproduct_law (N : Nat) (l : List RV) (vs : List Nat) (a va : Option Addr) (c vc : Nat) (hl : Lit l) (hg : Good (gnet l)) (hf : Fit (gnet l) vs) (w : World) (hN : RefAt N w a l) (hV : AtN N w va (ints (vs.map Int.ofNat))) (hw : N ≤ w.heap.size) :
    Calls Try.prog 40 #[.slice a l.length c, .slice va vs.length vc] w fun e w' => e = .returned (.agg #[.string (dec (prodV (gnet l) vs l.length).1), .string (dec (prodV (gnet l) vs l.length).2)]) ∧ Below w.heap.size w w' := by
  have hlen : l.length ≤ 16 := by have := hg.len; simpa [gnet] using this
  have HL := Lib.hid hl
  have HG := Lib.hid hg
  have HF := Lib.hid hf
  have HN := Lib.hid hN
  have HV := Lib.hid hV
  have HW := Lib.hid hw
  have KO : Gives 73 #[] (.agg #[.string (dec 1), .string (dec 1)]) := gXOne
  clear hl hg hf hN hV hw
  go_enter Try.func40, Try.ntmps40
  go_wp2_with fail
  refine calls_gen fun u1 hu => ?_
  have m4 : ∃ s1 s2, u1.heap[w.heap.size]? = some (.cells #[s1, s2] 88 (0, 0)) := ⟨_, _, by rw [hu]; exact World.alloc_heap_new w _⟩
  have hb1 : Below w.heap.size w u1 := by rw [hu]; exact (Below.refl _ _).alloc (Nat.le_refl _) _
  clear hu
  refine (KO _).mono ?_
  rintro r3 w3 ⟨rfl, hB3⟩
  obtain ⟨s1, s2, m4⟩ := m4
  have m43 := (behind_of_below hB3).keep m4 (by simp)
  have HB3 := Lib.hid (hb1.trans (hB3.mono hb1.size))
  have hl4 := lt_of_heap m43
  have M43 := Lib.hid m43
  clear m4 hb1 hB3 m43
  go_wp2_with fail
  refine wp_gen ?_
  intro w4 hw4
  have m5 : w4.heap[w3.heap.size]? = some (.cells #[.string (dec 1), .string (dec 1)] 88 (0, 0)) := by rw [hw4]; exact heap_alloc_new w3 _
  have hb4 : Below w3.heap.size w3 w4 := by rw [hw4]; exact (Below.refl _ _).alloc (Nat.le_refl _) _
  have M4 := Lib.hid ((behind_of_below hb4).keep M43.out (by simp))
  have M5 := Lib.hid m5
  have HB4 := Lib.hid (HB3.out.trans (hb4.mono HB3.out.size))
  clear hw4 m5 hb4 M43
  go_loopw [6] (fun i wr => ∃ j : Nat, j ≤ l.length ∧ i = .int .i64 j ∧ Hid (wr.heap[w3.heap.size]? = some (.cells #[.string (dec (prodV (gnet l) vs j).1), .string (dec (prodV (gnet l) vs j).2)] 88 (0, 0))) ∧ Hid (wr.heap[w.heap.size]? = some (.cells #[s1, s2] 88 (0, 0))) ∧ Hid (Below w.heap.size w wr))
    (fun i _ => l.length - (intOf i).toNat)
  case atStart => exact ⟨0, Nat.zero_le _, rfl, M5.out, M4.out, HB4.out⟩
  case round =>
    obtain ⟨j, hj, rfl, H5, H4, HB⟩ := hrel
    have hNw := HW.out
    by_cases hlt : j < l.length
    · have hd : decide (j < l.length) = true := by simpa using hlt
      obtain ⟨x, hx⟩ : ∃ x, l[j]? = some x := ⟨_, List.getElem?_eq_getElem hlt⟩
      have hxm := List.mem_of_getElem? hx
      obtain ⟨hts, hss⟩ := HL.out.ts x hxm
      have hpar : ∀ p ∈ x.ps, 0 ≤ p ∧ p.toNat < l.length := fun p hp => by
        have := HG.out.par j (gvar x) (gnet_get hx) p hp
        omega
      have hpl : x.ps.length ≤ 16 := HG.out.plen j (gvar x) (gnet_get hx)
      have htab := HG.out.tab j (gvar x) vs (gnet_get hx) HF.out
      have KE := xentry_from N l vs a va c vc j x hx HF.out hpar hpl (by omega) w HN.out HV.out hNw
      have hpA : pAt (gnet l) j vs = nz ((x.ts.map rawOf).getD (idxFrom (gnet l) vs 0 x.ps * x.k.toNat + vs.getD j 0) (0, 0)) := by
        unfold pAt
        rw [gnet_get hx]; rfl
      simp only [gvar, List.length_map] at htab
      obtain ⟨I, hI⟩ : ∃ I, I = idxFrom (gnet l) vs 0 x.ps * x.k.toNat + vs.getD j 0 := ⟨_, rfl⟩
      rw [← hI] at KE hpA htab
      obtain ⟨t, ht⟩ : ∃ t, x.ts[I]? = some t := ⟨_, List.getElem?_eq_getElem htab⟩
      have hpT : pAt (gnet l) j vs = numQ t := by rw [hpA, List.getD_eq_getElem?_getD, List.getElem?_map, ht]; exact nz_raw t
      obtain ⟨b, o, pa, pc, ta, tc, hb, rfl, n0, n1, n2, _, hta⟩ := HN.out j x hx
      obtain ⟨tb, to, htb, rfl, kt⟩ := hta I _ (strs_get ht)
      have N2 := Lib.hid n2
      have KT := Lib.hid kt
      have hqs : Sm 10000 (numQ t) := by rw [← nz_raw]; exact (raw_small (hss t (List.mem_of_getElem? ht))).2.nz.mono (by omega)
      have KN := gXNum t (by have := hss t (List.mem_of_getElem? ht); omega)
      obtain ⟨hlow, hsm⟩ := prodV_low HG.out vs j
      have KM := gXMul2 (prodV (gnet l) vs j) (numQ t) (hsm.mono (by omega)) hqs hlow (numQ_low t)
      have HNX := Lib.hid (show prodV (gnet l) vs (j + 1) = Q.mul (prodV (gnet l) vs j) (numQ t) by rw [prodV_succ, hpT])
      have hbw : b < w.heap.size := by omega
      have htbw : tb < w.heap.size := by omega
      have hb5 : w.heap.size ≤ w3.heap.size := by omega
      generalize hs : prodV (gnet l) vs j = s at *
      have KN2 : Gives 51 #[.string t] (.agg #[.string (dec (numQ t).1), .string (dec (numQ t).2)]) := KN
      have KM2 : Gives 77 #[.agg #[.string (dec s.1), .string (dec s.2)], .agg #[.string (dec (numQ t).1), .string (dec (numQ t).2)]] (.agg #[.string (dec (Q.mul s (numQ t)).1), .string (dec (Q.mul s (numQ t)).2)]) := KM
      clear hx hss hpar hpl hpA hI ht hpT n0 n1 n2 hta kt hqs KN KM hlow hsm hs
      generalize Q.mul s (numQ t) = S2 at *
      generalize numQ t = qn at *
      go_wp2_with fail
      refine wp_game [1, 0, 0, 0, 0, 0, 0, 0, 0, 0, 0, 0, 0, 0, 2] [w3.heap.size] _ (Fin.put fin_B0 _ _) (has_put (has_B0 _) H5.out) (by kernel_rfl) (by kernel_rfl) ?_
      refine lex_readE 1 wr (Behind.refl _ _) (has_put (has_B0 _) H5.out) (by kernel_rfl) (by rfl) ?_
      apply Exists.intro
      refine ⟨fun z hz hB => ?_, ?_⟩
      · have g0 := blk_cellp (hB w3.heap.size _ (Blocks.put_same _ _ _)) 0 rfl
        have g1 := blk_cellp (hB w3.heap.size _ (Blocks.put_same _ _ _)) 1 rfl
        clear hz hB
        simp only [List.take_succ_cons, List.take_zero]
        unfold Cx
        repeat (go_big_quiet_step (fail))
        exact wpQuiet_nil rfl
      simp only [List.drop_succ_cons, List.drop_zero]
      refine lex_quietE 13 (by kernel_rfl) (by rfl) ?_
      apply Exists.intro
      refine ⟨fun z hz => ?_, ?_⟩
      · have hwz := HB.out.trans (hz.below_of (b := w.heap.size) (by intro k hk; rw [List.mem_singleton.1 hk]; exact hb5) HB.out.size)
        have g2 := below_cellp hwz N2.out hbw
        have g4 := below_cellp hwz KT.out htbw
        clear hz
        simp only [List.take_succ_cons, List.take_zero]
        unfold Cx
        repeat (go_big_quiet_step (first | with_reducible exact KE.at2 hwz _ | with_reducible exact KN2.at _ _ | with_reducible exact KM2.at _ _))
        exact wpQuiet_nil rfl
      simp only [List.drop_succ_cons, List.drop_zero]
      refine lex_store_all w3.heap.size #[.string (dec S2.1), .string (dec S2.2)] _ _ (by rfl) (by rfl) (by rfl) (Blocks.put_same _ _ _) (by rfl) (.inl (by simp)) (by kernel_rfl) (by simp [Value.oneCell']) ?_
      refine lex_nil ?_
      intro x7 hx7 hH7
      have m57 := hH7 w3.heap.size _ (Blocks.put_same _ _ _)
      rw [← HNX.out] at m57
      have M57 := Lib.hid m57
      have M47 := Lib.hid (hx7.keep H4.out (by simp; omega))
      have HB7 := Lib.hid (HB.out.trans (hx7.below_of (b := w.heap.size) (by intro k hk; rw [List.mem_singleton.1 hk]; exact hb5) HB.out.size))
      clear hx7 hH7 m57 HNX H5 H4 HB KE KN2 KM2 N2 KT
      go_wp2_with fail
      go_roundw
      case rel => exact ⟨j + 1, by omega, by go_num, M57, M47, HB7⟩
      case measure => simp [intOf]; omega
    · obtain rfl : j = l.length := by omega
      have c50 := blk_cell H5.out 0 rfl
      have c51 := blk_cell H5.out 1 rfl
      have c40 := blk_cell H4.out 0 rfl
      have c41 := blk_cell H4.out 1 rfl
      have f40 := blk_free H4.out 0
      have f41 := blk_free H4.out 1
      have hw1 := wrote_cell (o := 0) (.string (dec (prodV (gnet l) vs l.length).1)) H4.out
      have hw2 := wrote_cell (o := 1) (.string (dec (prodV (gnet l) vs l.length).2)) hw1.here
      have HW2 := Lib.hid hw2
      have HW1 := Lib.hid hw1
      have hbx : w.heap.size ≤ wr.heap.size := HB.out.size
      clear hw1 hw2
      go_wp2_with fail
      have m9 := HW2.out.here
      have c90 := blk_cell m9 0 (v := .string (dec (prodV (gnet l) vs l.length).1)) (by simp)
      have c91 := blk_cell m9 1 (v := .string (dec (prodV (gnet l) vs l.length).2)) (by simp)
      have HB9 := HB.out.trans ((((Behind.refl wr [w.heap.size]).wrote HW1.out (.inl (by simp))).wrote HW2.out (.inl (by simp))).below_of (b := w.heap.size) (by intro k hk; rw [List.mem_singleton.1 hk]; exact Nat.le_refl _) hbx)
      exact bodyPost_ret (v := .agg #[.string (dec (prodV (gnet l) vs l.length).1), .string (dec (prodV (gnet l) vs l.length).2)]) (by simp [results, Try.results40, go_sem, c90, c91]) rfl ⟨rfl, HB9⟩
end Go.Proofs.Ytbacloneddnaeaa

/- BayesChecks: the walk. -/
namespace Go.Proofs.Ytbacloneddnaeaa
open Go.RowKit Go.Shelf Num

theorem fewT_le : ∀ (l : List RV) (n : Nat) (x : RV), x ∈ l → x.ts.length ≤ l.foldl (fun n x => n + x.ts.length) n ∧ n ≤ l.foldl (fun n x => n + x.ts.length) n
  | [], n, x, h => by simp at h
  | y :: l, n, x, h => by
    have mono : ∀ (l : List RV) (n : Nat), n ≤ l.foldl (fun n x => n + x.ts.length) n := by
      intro l
      induction l with
      | nil => intro n; exact Nat.le_refl _
      | cons y l ih => intro n; exact Nat.le_trans (Nat.le_add_right _ _) (ih _)
    have h1 := mono l (n + y.ts.length)
    rw [List.foldl_cons]
    rcases List.mem_cons.1 h with rfl | h
    · omega
    · exact ⟨(fewT_le l _ x h).1, by omega⟩
theorem few_lit {l : List RV} (h : FewP l) : Lit l :=
  ⟨h.len, fun x hx => (h.el x hx).1, fun x hx => ⟨by have := (fewT_le l 0 x hx).1; have := h.t; unfold fewT at this; omega, (h.el x hx).2⟩⟩
theorem lit_in {l : List RV} (h : Lit l) : NetIn (gnet l) := by
  have hg : ∀ (i : Nat) (y : BV), (gnet l)[i]? = some y → ∃ x ∈ l, y = gvar x := fun i y hy => by
    obtain ⟨x, hx, rfl⟩ := List.mem_map.1 (List.mem_of_getElem? hy)
    exact ⟨x, hx, rfl⟩
  refine ⟨by have := h.len; simp [gnet]; omega, fun i y hy p hp => ?_, fun i y hy => ?_, fun i y hy => ?_⟩
  · obtain ⟨x, hx, rfl⟩ := hg i y hy
    obtain ⟨t, ht, rfl⟩ := List.mem_map.1 hp
    exact raw_small ((h.ts x hx).2 t ht)
  · obtain ⟨x, hx, rfl⟩ := hg i y hy
    have := (h.ts x hx).1
    simpa [gvar] using this
  · obtain ⟨x, hx, rfl⟩ := hg i y hy
    have := h.ps x hx
    simp [gvar]; omega

set_option maxHeartbeats 3200000 in
set_option maxRecDepth 100000 in
theorem checks_law (l : List RV) (a : Option Addr) (c : Nat) (hts : ∀ x ∈ l, x.ts.length ≤ 20000000000000 ∧ x.ps.length ≤ 20000000000000) (hll : l.length ≤ 20000000000000) (w : World) (hN : RefAt w.heap.size w a l) (hM : ∃ m, w.cell? ⟨0, 0, none⟩ = some (.int .i64 m)) :
    Calls Try.prog 3 #[.slice a l.length c] w fun e w' => e = .returned (.bool true) ∧ Below w.heap.size w w' := by
  obtain ⟨M, hM⟩ := hM
  have HM := Lib.hid hM
  have HN := Lib.hid hN
  have HTS := Lib.hid hts
  clear hM hN hts
  go_enter Try.func3, Try.ntmps3
  go_wp2_with fail
  refine (few_law w.heap.size l a c HTS.out hll w HN.out (Nat.le_refl _)).mono ?_
  rintro r1 w1 ⟨b, rfl, hb, hB1⟩
  have HB1 := Lib.hid hB1
  cases b with
  | false =>
    clear hb hB1
    go_wp2_with fail
    refine (works_law w1 ⟨M, below_in HB1.out HM.out⟩).mono ?_
    rintro r2 w2 ⟨rfl, hB2⟩
    have HB2 := Lib.hid (HB1.out.trans (hB2.mono HB1.out.size))
    clear hB2
    go_wp2_with fail
    go_ret
    exact ⟨rfl, HB2.out⟩
  | true =>
    have HL := Lib.hid (few_lit (hb rfl))
    have hN1 := (HN.out.below hB1 (Nat.le_refl _))
    have HN1 := Lib.hid hN1
    clear hb hB1 hN1
    go_wp2_with fail
    refine (given_law w.heap.size l a c HL.out w1 HN1.out HB1.out.size ⟨M, below_in HB1.out HM.out⟩).mono ?_
    rintro r2 w2 ⟨v, cs, rfl, hG, hB2⟩
    obtain ⟨p, n, cp, rfl, hn⟩ : ∃ p n cp, v = .slice p n cp ∧ n = (gnet l).length := by
      obtain ⟨p, cp, h⟩ := hG.row.slice
      exact ⟨p, _, cp, h, rfl⟩
    have HG := Lib.hid hG.net
    have HB2 := Lib.hid (HB1.out.trans (hB2.mono HB1.out.size))
    have hlit := HL.out.len
    subst hn
    obtain ⟨n, hn⟩ : ∃ n, n = (gnet l).length := ⟨_, rfl⟩
    have HNN := Lib.hid hn
    rw [← hn]
    clear hG hB2 hn
    go_wp2_with fail
    rw [HNN.out]
    refine (check_law gBOne w2.heap.size (gnet l) p cp (lit_in HL.out) w2 HG.out (Nat.le_refl _)).mono ?_
    rintro r3 w3 ⟨rfl, hB3⟩
    have HB3 := Lib.hid (HB2.out.trans (hB3.mono HB2.out.size))
    have HN3 := Lib.hid (HN.out.below HB3.out (Nat.le_refl _))
    obtain ⟨E, hE⟩ : ∃ E, E = checkE (gnet l) := ⟨_, rfl⟩
    have HE := Lib.hid hE
    rw [← hE]
    clear hB3 hE
    go_wp2_with fail
    refine (xcheck_law w.heap.size l a c HL.out w3 HN3.out HB3.out.size).mono ?_
    rintro r4 w4 ⟨rfl, hB4⟩
    rw [← HE.out]
    have HB4 := Lib.hid (HB3.out.trans (hB4.mono HB3.out.size))
    clear hB4
    go_wp2_with fail
    refine (works_law w4 ⟨M, below_in HB4.out HM.out⟩).mono ?_
    rintro r5 w5 ⟨rfl, hB5⟩
    have HB5 := Lib.hid (HB4.out.trans (hB5.mono HB4.out.size))
    clear hB5
    go_wp2_with fail
    go_ret
    exact ⟨rfl, HB5.out⟩
end Go.Proofs.Ytbacloneddnaeaa

/- The probability of an assignment: the tree of choices and the product. -/
namespace Go.Proofs.Ytbacloneddnaeaa
open Go.RowKit Go.Shelf Num

theorem chosen_one {v : Nat} : ∀ k, chosen (v : Int) k = if v < k then [v] else []
  | 0 => by simp [chosen]
  | k + 1 => by
    by_cases h : v = k
    · subst h
      rw [chosen_succ_yes (.inr rfl), chosen_one v, if_neg (by omega), if_pos (by omega)]; rfl
    · rw [chosen_succ_no (by omega), chosen_one k]
      by_cases h2 : v < k
      · rw [if_pos h2, if_pos (by omega)]
      · rw [if_neg h2, if_neg (by omega)]

theorem idxFrom_take (l : List BV) (vs : List Nat) (n : Nat) : ∀ (ps : List Int) (a0 : Nat), (∀ p ∈ ps, p.toNat < n) → idxFrom l (vs.take n) a0 ps = idxFrom l vs a0 ps
  | [], _, _ => rfl
  | p :: ps, a0, h => by
    have e : (vs.take n).getD p.toNat 0 = vs.getD p.toNat 0 := by
      rw [List.getD_eq_getElem?_getD, List.getD_eq_getElem?_getD, List.getElem?_take, if_pos (h p (by simp))]
    show idxFrom l (vs.take n) (a0 * kAt l p.toNat + (vs.take n).getD p.toNat 0) ps = idxFrom l vs (a0 * kAt l p.toNat + vs.getD p.toNat 0) ps
    rw [e]
    exact idxFrom_take l vs n ps _ (fun q hq => h q (by simp [hq]))
theorem pAt_take {l : List BV} (hg : Good l) (vs : List Nat) (n : Nat) : pAt l n (vs.take (n + 1)) = pAt l n vs := by
  unfold pAt
  cases h : l[n]? with
  | none => rfl
  | some x =>
    have e : (vs.take (n + 1)).getD n 0 = vs.getD n 0 := by
      rw [List.getD_eq_getElem?_getD, List.getD_eq_getElem?_getD, List.getElem?_take, if_pos (by omega)]
    simp only [e]
    rw [idxFrom_take l vs (n + 1) x.ps 0 (fun p hp => by have := hg.par n x h p hp; omega)]

theorem fromQ_full {l : List BV} (hg : Good l) {vs : List Nat} (hf : Fit l vs) : ∀ (d n : Nat), n + d = l.length → Q.mul (prodV l vs n) (fromQ l (vs.map Int.ofNat) d (vs.take n)) = prodV l vs l.length
  | 0, n, h => by
    obtain rfl : n = l.length := by omega
    exact Q.mul1 (prodV_low hg vs _).1
  | d + 1, n, h => by
    have ih := fromQ_full hg hf d (n + 1) (by omega)
    have hn : n < l.length := by omega
    obtain ⟨x, hx⟩ : ∃ x, l[n]? = some x := ⟨_, List.getElem?_eq_getElem hn⟩
    obtain ⟨v, hv⟩ : ∃ v, vs[n]? = some v := ⟨_, List.getElem?_eq_getElem (by rw [hf.len]; exact hn)⟩
    have hvk := hf.lt n x v hx hv
    have hlen : (vs.take n).length = n := by have := hf.len; simp; omega
    have hev : (vs.map Int.ofNat).getD n 0 = (v : Int) := by rw [List.getD_eq_getElem?_getD, List.getElem?_map, hv]; rfl
    have hk : kAt l n = x.k.toNat := kAt_of hx
    have hsn : vs.take n ++ [v] = vs.take (n + 1) := (take_snoc_of hv).symm
    have hp := pAt_low hg n vs
    have hF := fromQ_low hg (vs.map Int.ofNat) d (vs.take (n + 1)) (by have := hf.len; simp; omega)
    have hpr := prodV_low hg vs n
    have e : fromQ l (vs.map Int.ofNat) (d + 1) (vs.take n) = if pAt l n vs = (0, 1) then (0, 1) else Q.add (0, 1) (Q.mul (pAt l n vs) (fromQ l (vs.map Int.ofNat) d (vs.take (n + 1)))) := by
      show (chosen ((vs.map Int.ofNat).getD (vs.take n).length 0) (kAt l (vs.take n).length)).foldl _ _ = _
      rw [hlen, hev, hk, chosen_one, if_pos (by omega)]
      simp only [List.foldl_cons, List.foldl_nil]
      rw [hsn, pAt_take hg]
    rw [e]
    rw [prodV_succ] at ih
    by_cases h0 : pAt l n vs = (0, 1)
    · rw [if_pos h0, Q.mul0 hpr.1, ← ih, h0, Q.mul0 hpr.1, Q.zmul hF.1]
    · rw [if_neg h0, Q.zadd (Q.mul_low hp.1 hF.1), ← Q.mul_assoc hpr.1.1 hp.1.1 hF.1.1]
      exact ih

theorem rtext_nz (p : Nat × Nat) : rtext (nz p) = rtext p := by
  obtain ⟨n, d⟩ := p
  show rtext (n, dn d) = rtext (n, d)
  by_cases h : d = 0
  · subst h; rfl
  · rw [dn_of (by omega)]

/-- What the program says of an assignment is what the reference says. -/
theorem joint_same {l : List BV} (hg : Good l) {vs : List Nat} (hf : Fit l vs) : rtext (rawQ l (vs.map Int.ofNat) l.length []) = rtext (prodV l vs l.length) := by
  have h1 := (rawQ_spec hg (vs.map Int.ofNat) l.length [] (by simp)).1
  have h2 := fromQ_full hg hf l.length 0 (by omega)
  have h3 := (fromQ_low hg (vs.map Int.ofNat) l.length [] (by simp)).1
  rw [show vs.take 0 = [] from rfl, show prodV l vs 0 = (1, 1) from rfl, Q.one_mul h3, ← h1] at h2
  rw [← rtext_nz, h2]

/-- Sizes. -/
theorem szs_prod : ∀ ks : List Nat, (∀ k ∈ ks, 2 ≤ k) → szs ks + 18 ≤ 19 * ks.foldr (· * ·) 1
  | [], _ => by simp [szs]
  | k :: ks, h => by
    have ih := szs_prod ks (fun k hk => h k (by simp [hk]))
    have hk := h k (by simp)
    rw [szs_cons, List.foldr_cons]
    have h1 := Nat.mul_le_mul_left k ih
    rw [Nat.mul_add] at h1
    have h2 : k * (19 * ks.foldr (· * ·) 1) = 19 * (k * ks.foldr (· * ·) 1) := by rw [Nat.mul_left_comm]
    rw [Nat.mul_add]
    omega
theorem fewJ_prod : ∀ (l : List RV) (j : Nat), (∀ x ∈ l, 2 ≤ x.k ∧ x.k ≤ 8) → l.foldl stepJ j = j * (l.map fun x => x.k.toNat).foldr (· * ·) 1
  | [], j, _ => by simp
  | x :: l, j, h => by
    rw [List.foldl_cons, fewJ_prod l _ (fun y hy => h y (by simp [hy]))]
    unfold stepJ
    rw [if_pos (h x (by simp))]
    simp [Nat.mul_assoc]
theorem few_sz {l : List RV} (h : FewP l) (hc : checkE (gnet l) = 0) : szs (ksOf (gnet l)) ≤ 9000 := by
  have hfit := encFit (lit_in (few_lit h)) hc
  have hk : ∀ x ∈ l, 2 ≤ x.k ∧ x.k ≤ 8 := fun x hx => by
    obtain ⟨i, hi⟩ := List.getElem?_of_mem hx
    exact hfit.kb i (gvar x) (gnet_get hi)
  have h1 := fewJ_prod l 1 hk
  have h2 := h.j
  unfold fewJ at h2
  have e : ksOf (gnet l) = l.map fun x => x.k.toNat := by simp [ksOf, gnet, gvar]
  have h3 := szs_prod (ksOf (gnet l)) (fun k hk' => by
    rw [e] at hk'
    obtain ⟨x, hx, rfl⟩ := List.mem_map.1 hk'
    have := hk x hx
    omega)
  rw [e] at h3 ⊢
  omega

/-- Numbers that are allowed are values. -/
theorem fit_of {l : List BV} (hg : Good l) {vs : List Int} (h : allowedP l vs 0) : Fit l (vs.map Int.toNat) ∧ (vs.map Int.toNat).map Int.ofNat = vs := by
  have hpos : ∀ v ∈ vs, 0 ≤ v := fun v hv => by
    obtain ⟨i, hi⟩ := List.getElem?_of_mem hv
    have hl := (List.getElem?_eq_some_iff.1 hi).1
    obtain ⟨x, hx⟩ : ∃ x, l[i]? = some x := ⟨_, List.getElem?_eq_getElem (by rw [← h.1]; exact hl)⟩
    exact (h.2 i x v hx hi).1
  refine ⟨⟨by simpa using h.1, hg.kb, fun i x v hx hv => ?_⟩, ?_⟩
  · rw [List.getElem?_map] at hv
    obtain ⟨u, hu, rfl⟩ := Option.map_eq_some_iff.1 hv
    have := h.2 i x u hx hu
    omega
  · rw [List.map_map]
    refine (List.map_congr_left fun v hv => ?_).trans (List.map_id vs)
    have := hpos v hv
    show ((v.toNat : Nat) : Int) = v
    omega
end Go.Proofs.Ytbacloneddnaeaa

/- censusref40.Joint; BayesJoints: the walk. -/
namespace Go.Proofs.Ytbacloneddnaeaa
open Go.RowKit Go.Shelf Num

/-- The answer of the reference's Joint. -/
noncomputable def jointE (l : List BV) (vs : List Int) : ByteArray × Int := if checkE l ≠ 0 then ({ data := #[48] }, checkE l) else if allowedB l vs 0 = false then ({ data := #[48] }, 1) else (rtext (prodV l (vs.map Int.toNat) l.length), 0)

theorem rtext00 : rtext (0, 0) = { data := #[48] } := by kernel_rfl
theorem allowedP_of {l : List BV} {vs : List Int} {least : Int} (h : ¬ allowedB l vs least = false) : allowedP l vs least := by
  refine Classical.byContradiction fun hn => h (allowedB_false hn)

theorem joint_agree {l : List BV} (hn : NetIn l) (vs : List Int) : (askE l vs 0).2 = (jointE l vs).2 ∧ rtext (askE l vs 0).1 = (jointE l vs).1 := by
  unfold askE jointE
  by_cases hc : checkE l ≠ 0
  · rw [if_pos hc, if_pos hc]; exact ⟨rfl, rtext00⟩
  · rw [if_neg hc, if_neg hc]
    by_cases ha : allowedB l vs 0 = false
    · rw [if_pos ha, if_pos ha]; exact ⟨rfl, rtext00⟩
    · rw [if_neg ha, if_neg ha]
      have hg := check_ok hn (Classical.not_not.1 hc)
      obtain ⟨hf, e⟩ := fit_of hg (allowedP_of ha)
      have := joint_same hg hf
      rw [e] at this
      exact ⟨rfl, this⟩
theorem ask_small {l : List BV} (hn : NetIn l) (hsz : checkE l = 0 → szs (ksOf l) ≤ 9000) (vs : List Int) (least : Int) : Sm 1000000 (askE l vs least).1 := by
  unfold askE
  by_cases hc : checkE l ≠ 0
  · rw [if_pos hc]; show Sm 1000000 (0, 0); exact ⟨by decide, by decide⟩
  · rw [if_neg hc]
    by_cases ha : allowedB l vs least = false
    · rw [if_pos ha]; show Sm 1000000 (0, 0); exact ⟨by decide, by decide⟩
    · rw [if_neg ha]
      have h0 := Classical.not_not.1 hc
      have hg := check_ok hn h0
      obtain ⟨h1, h2⟩ := rawQ_spec hg vs l.length [] (by simp)
      have h3 := (fromQ_low hg vs l.length [] (by simp)).2
      have h4 := hsz h0
      rcases h2 with h2 | h2
      · show Sm 1000000 (rawQ l vs l.length [])
        rw [h2]; exact ⟨by decide, by decide⟩
      · show Sm 1000000 (rawQ l vs l.length [])
        rw [h2, h1]
        exact h3.mono (by simp; omega)

set_option maxHeartbeats 3200000 in
set_option maxRecDepth 100000 in
theorem xjoint_law (N : Nat) (l : List RV) (vs : List Int) (a va : Option Addr) (c vc : Nat) (hl : Lit l) (hvl : vs.length ≤ 100) (w : World) (hN : RefAt N w a l) (hV : AtN N w va (ints vs)) (hw : N ≤ w.heap.size) :
    Calls Try.prog 15 #[.slice a l.length c, .slice va vs.length vc] w fun e w' => e = .returned (.tuple #[.string (jointE (gnet l) vs).1, .int .i64 (jointE (gnet l) vs).2]) ∧ Below w.heap.size w w' := by
  have HL := Lib.hid hl
  have HN := Lib.hid hN
  have HV := Lib.hid hV
  have HW := Lib.hid hw
  have hll := hl.len
  clear hl hN hV hw
  go_enter Try.func15, Try.ntmps15
  go_wp2_with fail
  refine (xcheck_law N l a c HL.out w HN.out HW.out).mono ?_
  rintro r1 w1 ⟨rfl, hB1⟩
  have HB1 := Lib.hid hB1
  clear hB1
  by_cases hc : checkE (gnet l) ≠ 0
  · have HE : Hid (jointE (gnet l) vs = ({ data := #[48] }, checkE (gnet l))) := if_pos hc
    obtain ⟨E, hE⟩ : ∃ E, E = checkE (gnet l) := ⟨_, rfl⟩
    have HEE := Lib.hid hE
    rw [← hE] at hc ⊢
    have hc1 : (E == 0) = false := beq_no hc
    have hc2 : (E != 0) = true := by simp [bne, hc1]
    clear hE
    go_wp2_with fail
    refine bodyPost_ret (v := .tuple #[.string { data := #[48] }, .int .i64 E]) (by simp [results, Try.results15, go_sem]) rfl ?_
    exact ⟨by rw [HE.out, ← HEE.out], HB1.out⟩
  have hc0 : checkE (gnet l) = 0 := Classical.not_not.1 hc
  have HC0 := Lib.hid hc0
  rw [hc0]
  clear hc hc0
  go_wp2_with fail
  refine (xallowed_law N l vs a va c vc false (by omega) hvl w1 (HN.out.below HB1.out HW.out) (HV.out.below HB1.out HW.out) (Nat.le_trans HW.out HB1.out.size)).mono ?_
  rintro r2 w2 ⟨rfl, hB2⟩
  have HB2 := Lib.hid (HB1.out.trans (hB2.mono HB1.out.size))
  rw [show leastOf false = 0 from rfl]
  clear hB2 HB1
  cases ha : allowedB (gnet l) vs 0 with
  | false =>
    have HE : Hid (jointE (gnet l) vs = ({ data := #[48] }, 1)) := by
      unfold Hid jointE
      rw [if_neg (by rw [HC0.out]; simp), if_pos ha]
    clear ha
    go_wp2_with fail
    refine bodyPost_ret (v := .tuple #[.string { data := #[48] }, .int .i64 1]) (by simp [results, Try.results15, go_sem]) rfl ?_
    exact ⟨by rw [HE.out], HB2.out⟩
  | true =>
    have HE : Hid (jointE (gnet l) vs = (rtext (prodV (gnet l) (vs.map Int.toNat) (gnet l).length), 0)) := by
      unfold Hid jointE
      rw [if_neg (by rw [HC0.out]; simp), if_neg (by rw [ha]; simp)]
    have hg := check_ok (lit_in HL.out) HC0.out
    obtain ⟨hf, e⟩ := fit_of hg (allowedP_of (by rw [ha]; simp))
    have hvn : vs.length = (vs.map Int.toNat).length := by simp
    have HG := Lib.hid hg
    have HF := Lib.hid hf
    have HVN := Lib.hid hvn
    have HEV := Lib.hid e
    clear ha hg hf e hvn
    go_wp2_with fail
    rw [HVN.out]
    refine (xproduct_law N l (vs.map Int.toNat) a va c vc HL.out HG.out HF.out w2 (HN.out.below HB2.out HW.out) (by rw [HEV.out]; exact HV.out.below HB2.out HW.out) (Nat.le_trans HW.out HB2.out.size)).mono ?_
    rintro r3 w3 ⟨rfl, hB3⟩
    have HB3 := Lib.hid (HB2.out.trans (hB3.mono HB2.out.size))
    have hgl : (gnet l).length = l.length := by simp [gnet]
    obtain ⟨hlow, hsm⟩ := prodV_low HG.out (vs.map Int.toNat) l.length
    have KT : Gives 39 #[.agg #[.string (dec (prodV (gnet l) (vs.map Int.toNat) l.length).1), .string (dec (prodV (gnet l) (vs.map Int.toNat) l.length).2)]] (.string (rtext (prodV (gnet l) (vs.map Int.toNat) l.length))) := gXText _ (hsm.mono (by omega)) hlow.1
    rw [hgl] at HE
    clear hB3 hgl hlow hsm HB2
    generalize prodV (gnet l) (vs.map Int.toNat) l.length = P at *
    go_wp2_with fail
    refine (KT _).mono ?_
    rintro r4 w4 ⟨rfl, hB4⟩
    have HB4 := Lib.hid (HB3.out.trans (hB4.mono HB3.out.size))
    clear hB4 HB3
    go_wp2_with fail
    refine bodyPost_ret (v := .tuple #[.string (rtext P), .int .i64 0]) (by simp [results, Try.results15, go_sem]) rfl ?_
    exact ⟨by rw [HE.out], HB4.out⟩

set_option maxHeartbeats 3200000 in
set_option maxRecDepth 100000 in
theorem joints_law (l : List RV) (a : Option Addr) (c : Nat) (vs : List Int) (va : Option Addr) (vc : Nat) (hts : ∀ x ∈ l, x.ts.length ≤ 20000000000000 ∧ x.ps.length ≤ 20000000000000) (hll : l.length ≤ 20000000000000) (hvl : vs.length ≤ 20000000000000) (w : World) (hN : RefAt w.heap.size w a l) (hV : AtN w.heap.size w va (ints vs)) (hM : ∃ m, w.cell? ⟨0, 0, none⟩ = some (.int .i64 m)) :
    Calls Try.prog 4 #[.slice a l.length c, .slice va vs.length vc] w fun e w' => e = .returned (.bool true) ∧ Below w.heap.size w w' := by
  obtain ⟨M, hM⟩ := hM
  have HM := Lib.hid hM
  have HN := Lib.hid hN
  have HV := Lib.hid hV
  have HTS := Lib.hid hts
  clear hM hN hV hts
  go_enter Try.func4, Try.ntmps4
  go_wp2_with fail
  refine (few_law w.heap.size l a c HTS.out hll w HN.out (Nat.le_refl _)).mono ?_
  rintro r1 w1 ⟨b, rfl, hb, hB1⟩
  have HB1 := Lib.hid hB1
  cases b with
  | false =>
    clear hb hB1
    go_wp2_with fail
    refine (works_law w1 ⟨M, below_in HB1.out HM.out⟩).mono ?_
    rintro r2 w2 ⟨rfl, hB2⟩
    have HB2 := Lib.hid (HB1.out.trans (hB2.mono HB1.out.size))
    clear hB2
    go_wp2_with fail
    go_ret
    exact ⟨rfl, HB2.out⟩
  | true =>
    by_cases h30 : 30 < vs.length
    · clear hb hB1
      go_wp2_with fail
      refine (works_law w1 ⟨M, below_in HB1.out HM.out⟩).mono ?_
      rintro r2 w2 ⟨rfl, hB2⟩
      have HB2 := Lib.hid (HB1.out.trans (hB2.mono HB1.out.size))
      clear hB2
      go_wp2_with fail
      go_ret
      exact ⟨rfl, HB2.out⟩
    have h30' : vs.length ≤ 30 := by omega
    have HFP := Lib.hid (hb rfl)
    have HL := Lib.hid (few_lit HFP.out)
    have HN1 := Lib.hid (HN.out.below hB1 (Nat.le_refl _))
    clear hb hB1 h30 hvl
    go_wp2_with fail
    refine (given_law w.heap.size l a c HL.out w1 HN1.out HB1.out.size ⟨M, below_in HB1.out HM.out⟩).mono ?_
    rintro r2 w2 ⟨v, cs, rfl, hG, hB2⟩
    obtain ⟨p, n, cp, rfl, hn⟩ : ∃ p n cp, v = .slice p n cp ∧ n = (gnet l).length := by
      obtain ⟨p, cp, h⟩ := hG.row.slice
      exact ⟨p, _, cp, h, rfl⟩
    have HG := Lib.hid hG.net
    have HB2 := Lib.hid (HB1.out.trans (hB2.mono HB1.out.size))
    have HV2 := Lib.hid ((HV.out.below HB2.out (Nat.le_refl _)).mono HB2.out.size)
    have hnl : n ≤ 20 := by have := HL.out.len; rw [hn]; simpa [gnet] using this
    have HNN := Lib.hid hn
    clear hG hB2 hn
    go_wp2_with fail
    rw [HNN.out]
    have HIN := Lib.hid (lit_in HL.out)
    have hsz := few_sz HFP.out
    refine (joint_law gBOne w2.heap.size (gnet l) vs p va cp vc HIN.out (by omega) hsz w2 HG.out HV2.out (Nat.le_refl _)).mono ?_
    rintro r3 w3 ⟨rfl, hB3⟩
    have HB3 := Lib.hid (HB2.out.trans (hB3.mono HB2.out.size))
    have hsm := ask_small HIN.out hsz vs 0
    obtain ⟨hag1, hag2⟩ := joint_agree HIN.out vs
    have HAG1 := Lib.hid hag1
    have HAG2 := Lib.hid hag2
    generalize askE (gnet l) vs 0 = A at *
    obtain ⟨⟨q1, q2⟩, E⟩ := A
    have KT : Gives 16 #[.agg #[.string (nb q1), .string (nb q2)]] (.string (rtext (q1, q2))) := gRText (q1, q2) hsm
    rw [show ratV ((q1, q2), E).1 = .agg #[.string (nb q1), .string (nb q2)] from rfl, show ((q1, q2), E).2 = E from rfl]
    clear hB3 hsm hag1 hag2 hsz
    go_wp2_with fail
    refine calls_gen fun u1 hu => ?_
    have m5 : u1.heap[w3.heap.size]? = some (.cells #[.string (nb q1), .string (nb q2)] 34 (0, 0)) := by rw [hu]; exact World.alloc_heap_new w3 _
    have hbu : Below w3.heap.size w3 u1 := by rw [hu]; exact (Below.refl _ _).alloc (Nat.le_refl _) _
    have HBU := Lib.hid (HB3.out.trans (hbu.mono HB3.out.size))
    clear hu hbu
    refine (xjoint_law w.heap.size l vs a va c vc HL.out (by omega) u1 (HN.out.below HBU.out (Nat.le_refl _)) (HV.out.below HBU.out (Nat.le_refl _)) HBU.out.size).mono ?_
    rintro r4 w4 ⟨rfl, hB4⟩
    have m54 := (behind_of_below hB4).keep m5 (by simp)
    have HB4 := Lib.hid (HBU.out.trans (hB4.mono HBU.out.size))
    have c50 := blk_cell m54 0 rfl
    have c51 := blk_cell m54 1 rfl
    rw [← HAG1.out, ← HAG2.out]
    generalize rtext (q1, q2) = T at *
    clear hB4 m5 m54
    go_wp2_with fail
    refine (KT _).mono ?_
    rintro r5 w5 ⟨rfl, hB5⟩
    have HB5 := Lib.hid (HB4.out.trans (hB5.mono HB4.out.size))
    clear hB5 c50 c51
    go_wp2_with fail
    refine (works_law w5 ⟨M, below_in HB5.out HM.out⟩).mono ?_
    rintro r6 w6 ⟨rfl, hB6⟩
    have HB6 := Lib.hid (HB5.out.trans (hB6.mono HB5.out.size))
    clear hB6
    go_wp2_with fail
    go_ret
    exact ⟨rfl, HB6.out⟩
end Go.Proofs.Ytbacloneddnaeaa
