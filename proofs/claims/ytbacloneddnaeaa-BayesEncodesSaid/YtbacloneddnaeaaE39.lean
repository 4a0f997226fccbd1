/- Texts of this claim, joined: BCod. -/
import Derived.Test.YtbacloneddnaeaaE38
import Derived.Test.YtbacloneddnaeaaE10
import Derived.Test.YtbacloneddnaeaaE37

/- censusref40.Encode: the walk. -/
namespace Go.Proofs.Ytbacloneddnaeaa
open Go.RowKit Go.Shelf Num

theorem Try.infoTx : (Try.prog.info? 9).map (fun i => (i.zero, i.size, i.bytes)) = some (some (.string { data := #[] }), 1, 16) := by kernel_rfl
theorem rtext_one : rtext (1, 1) = { data := #[49] } := by kernel_rfl

def CodPost (l : List RV) (w : World) (r : Ending) (w' : World) : Prop := Below w.heap.size w w' ∧
  ((checkE (gnet l) ≠ 0 ∧ r = .returned (.tuple #[.agg #[.int .i64 0, .slice none 0 0, .slice none 0 0, .slice none 0 0], .int .i64 (checkE (gnet l))])) ∨
   (checkE (gnet l) = 0 ∧ ∃ la lc ha hc ia ic, r = .returned (.tuple #[.agg #[.int .i64 ((encOf (gnet l)).N : Nat), .slice la (encOf (gnet l)).L.length lc, .slice ha ((encOf (gnet l)).N + 1) hc, .slice ia (encOf (gnet l)).ind.length ic], .int .i64 0]) ∧
     IndAt w'.heap.size w' la (encOf (gnet l)).L ∧ AtN w'.heap.size w' ha (strs ((encOf (gnet l)).high.map rtext)) ∧ IndAt w'.heap.size w' ia (encOf (gnet l)).ind))

theorem cod_start {b gC gH : Nat} {w : World} (mC : w.heap[gC]? = some (.cells #[.int .i64 0, .slice none 0 0, .slice (some ⟨gH, 0, none⟩) 1 1, .slice none 0 0] 51 (0, 0))) (mH : w.heap[gH]? = some (.cells #[.string { data := #[49] }] 9 (0, 0))) (h1 : b ≤ gC) (h2 : b ≤ gH) (hn : gC ≠ gH) :
    CodAt b w.heap.size gC ⟨.slice none 0 0, .slice (some ⟨gH, 0, none⟩) 1 1, .slice none 0 0, [], []⟩ est0 w := by
  refine ⟨mC, .nil, .row (cur := #[.string { data := #[49] }]) ⟨mH, by simp [est0], by simp [maxLen], by simp, ?_, by simp [est0, strs]⟩, .nil, fun i v xs h => by simp at h, fun i v xs h => by simp at h, ?_, ?_⟩
  · simp [est0, strs, rtext_one]
  · simp [CodP.M, rowBlk]; omega
  · simp [CodP.M, rowBlk]; exact hn

theorem four_set {w : World} {g : Nat} {T : TypeId} {a0 a1 a2 a3 : Value} (v0 v1 v2 v3 : Value) (h : w.heap[g]? = some (.cells #[a0, a1, a2, a3] T (0, 0))) :
    ((((w.setCell ⟨g, 0, none⟩ v0).setCell ⟨g, 1, none⟩ v1).setCell ⟨g, 2, none⟩ v2).setCell ⟨g, 3, none⟩ v3).heap[g]? = some (.cells #[v0, v1, v2, v3] T (0, 0)) ∧ Behind w [g] ((((w.setCell ⟨g, 0, none⟩ v0).setCell ⟨g, 1, none⟩ v1).setCell ⟨g, 2, none⟩ v2).setCell ⟨g, 3, none⟩ v3) := by
  have h1 := wrote_cell (o := 0) v0 h
  have h2 := wrote_cell (o := 1) v1 h1.here
  have h3 := wrote_cell (o := 2) v2 h2.here
  have h4 := wrote_cell (o := 3) v3 h3.here
  refine ⟨by simpa using h4.here, ?_⟩
  exact ((((Behind.refl w [g]).wrote h1 (.inl (by simp))).wrote h2 (.inl (by simp))).wrote h3 (.inl (by simp))).wrote h4 (.inl (by simp))

set_option maxHeartbeats 3200000 in
set_option maxRecDepth 100000 in
theorem xencode_law (N : Nat) (l : List RV) (a : Option Addr) (c : Nat) (hl : Lit l) (w : World) (hN : RefAt N w a l) (hw : N ≤ w.heap.size) :
    Calls Try.prog 18 #[.slice a l.length c] w fun e w' => CodPost l w e w' := by
  obtain ⟨R, hR⟩ : ∃ R : Ending → World → Prop, R = fun e w' => CodPost l w e w' := ⟨_, rfl⟩
  rw [← hR]
  have HR := Lib.hid hR
  have HL := Lib.hid hl
  have HN := Lib.hid hN
  have HW := Lib.hid hw
  have hll := hl.len
  clear hR hl hN hw
  go_enter Try.func18, Try.ntmps18
  go_wp2_with fail
  refine calls_gen fun u1 hu => ?_
  have m2 : u1.heap[w.heap.size]? = some (.cells #[.int .i64 0, .slice none 0 0, .slice none 0 0, .slice none 0 0] 51 (0, 0)) := by rw [hu]; exact new_one w _
  have hb1 : Below w.heap.size w u1 := by rw [hu]; exact below_one w _
  clear hu
  refine (xcheck_law N l a c HL.out u1 (HN.out.below hb1 HW.out) (Nat.le_trans HW.out hb1.size)).mono ?_
  rintro r3 w3 ⟨rfl, hB3⟩
  have m23 := (behind_of_below hB3).keep m2 (by simp)
  have HB3 := Lib.hid (hb1.trans (hB3.mono hb1.size))
  have M23 := Lib.hid m23
  clear m2 hb1 hB3
  by_cases hc : checkE (gnet l) ≠ 0
  · have HC := Lib.hid hc
    obtain ⟨E, hE⟩ : ∃ E, E = checkE (gnet l) := ⟨_, rfl⟩
    have HEE := Lib.hid hE
    rw [← hE] at hc ⊢
    have hc1 : (E == 0) = false := beq_no hc
    have hc2 : (E != 0) = true := by simp [bne, hc1]
    have c0 := blk_cell m23 0 rfl
    have c1 := blk_cell m23 1 rfl
    have c2 := blk_cell m23 2 rfl
    have c3 := blk_cell m23 3 rfl
    have f0 := blk_free m23 0
    have f1 := blk_free m23 1
    have f2 := blk_free m23 2
    have f3 := blk_free m23 3
    clear hE m23
    go_wp2_with fail
    obtain ⟨k0, k1⟩ := four_set (.int .i64 0) (.slice none 0 0) (.slice none 0 0) (.slice none 0 0) M23.out
    have hbz := HB3.out.trans (k1.below_of (b := w.heap.size) (by simp) HB3.out.size)
    have d0 := blk_cell k0 0 rfl
    have d1 := blk_cell k0 1 rfl
    have d2 := blk_cell k0 2 rfl
    have d3 := blk_cell k0 3 rfl
    exact bodyPost_ret (v := .tuple #[.agg #[.int .i64 0, .slice none 0 0, .slice none 0 0, .slice none 0 0], .int .i64 E]) (by simp [results, Try.results18, go_sem, d0, d1, d2, d3]) rfl (by rw [HR.out]; exact ⟨hbz, .inl ⟨HC.out, by rw [HEE.out]⟩⟩)
  have hc0 : checkE (gnet l) = 0 := Classical.not_not.1 hc
  have HC0 := Lib.hid hc0
  have hfit := encFit (lit_in HL.out) hc0
  have HF := Lib.hid hfit
  have hl16 : l.length ≤ 16 := by have := hfit.l16; simpa [gnet] using this
  rw [hc0]
  clear hc hc0 hfit m23
  go_wp2_with fail
  refine wp_gen ?_
  intro w4 hw4
  have mH : w4.heap[w3.heap.size]? = some (.cells #[.string { data := #[49] }] 9 (0, 0)) := by rw [hw4]; exact new_two1 _ _ _
  have mC : w4.heap[w3.heap.size + 1]? = some (.cells #[.int .i64 0, .slice none 0 0, .slice (some ⟨w3.heap.size, 0, none⟩) 1 1, .slice none 0 0] 51 (0, 0)) := by rw [hw4]; exact new_two2 _ _ _
  have hb4 : Below w3.heap.size w3 w4 := by rw [hw4]; exact below_two _ _ _
  have M2 := Lib.hid ((behind_of_below hb4).keep M23.out (by simp))
  have HB4 := Lib.hid (HB3.out.trans (hb4.mono HB3.out.size))
  have hl23 := lt_of_heap M23.out
  obtain ⟨gC, hgC⟩ : ∃ gC, gC = w3.heap.size + 1 := ⟨_, rfl⟩
  have hst := cod_start (b := w.heap.size + 1) mC mH (by omega) (by omega) (by omega)
  rw [← hgC] at hst ⊢
  obtain ⟨e0, he0⟩ : ∃ e0 : CodP, e0 = ⟨.slice none 0 0, .slice (some ⟨w3.heap.size, 0, none⟩) 1 1, .slice none 0 0, [], []⟩ := ⟨_, rfl⟩
  rw [← he0] at hst
  have HST := Lib.hid hst
  have hbw4 : w.heap.size + 1 ≤ w4.heap.size := by have := lt_of_heap mC; omega
  have HS0 := Lib.hid (Step.refl (e0.M gC) w4)
  have HM0 := Lib.hid (show w.heap.size ∉ e0.M gC from fun hm => by have := hst.ge _ hm; omega)
  have HX := Lib.hid (fun (x : World) (M : List Nat) (h : Step (e0.M gC) w4 M x) => HB4.out.trans (h.beh.below_of (b := w.heap.size) (fun k hk => by have := HST.out.ge k hk; omega) HB4.out.size))
  obtain ⟨i0, ii, iz0, iz1, iz2⟩ := info_parts Try.infoInt
  obtain ⟨s0, si, sz0, sz1, sz2⟩ := info_parts Try.infoTx
  obtain ⟨r0, ri, rz0, rz1, rz2⟩ := info_parts Try.infoInts
  clear hw4 mH mC hb4 M23 HB3 hst he0 hgC hl23
  go_loopw [6] (fun t6 wr => ∃ (j : Nat) (e : CodP), j ≤ l.length ∧ t6 = .int .i64 j ∧ Hid (CodAt (w.heap.size + 1) wr.heap.size gC e (est0.vars ((gnet l).take j)) wr) ∧ Hid (Step (e0.M gC) w4 (e.M gC) wr))
    (fun t6 _ => l.length - (intOf t6).toNat)
  case atStart => exact ⟨0, e0, Nat.zero_le _, rfl, HST.out, HS0.out⟩
  case round =>
    obtain ⟨j, e, hj, rfl, HE, HS⟩ := hrel
    by_cases hlt : j < l.length
    · have hd : decide (j < l.length) = true := by simpa using hlt
      obtain ⟨x, hx⟩ : ∃ x, l[j]? = some x := ⟨_, List.getElem?_eq_getElem hlt⟩
      have hkb := HF.out.kb j (gvar x) (gnet_get hx)
      obtain ⟨k, hk⟩ : ∃ k : Nat, x.k = k := ⟨x.k.toNat, by have : x.k = (gvar x).k := rfl; omega⟩
      have hk2 : 2 ≤ k := by have : x.k = (gvar x).k := rfl; omega
      have hk8 : k ≤ 8 := by have : x.k = (gvar x).k := rfl; omega
      obtain ⟨b, o, pa, pc, ta, tc, hb, rfl, n0, _⟩ := HN.out j x hx
      rw [hk] at n0
      have N0 := Lib.hid n0
      have hbw : b < w.heap.size := by have := HW.out; omega
      have hsn : est0.vars ((gnet l).take (j + 1)) = (est0.vars ((gnet l).take j)).var k := by
        rw [take_snoc_of (gnet_get hx), ESt.vars_snoc]
        show _ = _
        rw [show (gvar x).k.toNat = k from by show x.k.toNat = k; omega]
      have HSN := Lib.hid hsn
      have hNb : (est0.vars ((gnet l).take j)).N + k ≤ 128 := by
        have h1 := ESt.vars_N ((gnet l).take (j + 1)) est0
        rw [hsn, ESt.var_N] at h1
        have h2 := kSum_take (gnet l) (j + 1)
        have h3 := HF.out.vb
        rw [varsOf_sum] at h3
        have h0 : est0.N = 0 := rfl
        omega
      have hLb : (est0.vars ((gnet l).take j)).L.length ≤ 2000 := by
        have h1 := ESt.vars_L ((gnet l).take j) est0 (fun y hy => by
          obtain ⟨q, hq⟩ := List.getElem?_of_mem (List.mem_of_mem_take hy)
          have := (HF.out.kb q y hq).2
          omega)
        have h2 : ((gnet l).take j).length ≤ 16 := by have := HF.out.l16; rw [List.length_take]; omega
        have h0 : est0.L.length = 0 := rfl
        omega
      have hIb : (est0.vars ((gnet l).take j)).ind.length ≤ 16 := by
        have h1 := ESt.vars_ilen ((gnet l).take j) est0
        have h2 : ((gnet l).take j).length ≤ 16 := by have := HF.out.l16; rw [List.length_take]; omega
        have h0 : est0.ind.length = 0 := rfl
        omega
      generalize est0.vars ((gnet l).take j) = s at *
      clear hx hkb hk n0 hsn
      go_wp2_with fail
      obtain ⟨w5, rfl⟩ : ∃ w5, w5 = wr := ⟨_, rfl⟩
      go_loopw [7, 8] (fun t7 t8 wr => ∃ (m : Nat) (e2 : CodP), m ≤ k ∧ t8 = .int .i64 m ∧ Hid (CodAt (w.heap.size + 1) w5.heap.size gC e2 (s.nexts m) wr) ∧ Hid (Step (e0.M gC) w4 (e2.M gC) wr) ∧ Hid (OwnI wr w5.heap.size (e2.M gC) t7 (seqFrom s.N m)) ∧ w5.heap.size ≤ wr.heap.size)
        (fun _ t8 _ => k - (intOf t8).toNat)
      case atStart => exact ⟨0, e, Nat.zero_le _, rfl, HE, HS, ⟨.nil, by simp [rowBlk], by simp [rowBlk]⟩, Nat.le_refl _⟩
      case round =>
        obtain ⟨m, e2, hm, rfl, HE2, HS2, HO2, hsz2⟩ := hrel
        have c0 := below_cell (HX.out _ _ HS2.out) hbw N0.out
        by_cases hmk : m < k
        · have hdk : decide ((m : Int) < (k : Int)) = true := by simp; omega
          obtain ⟨vL, vH, vI, cl, ci⟩ := e2
          obtain ⟨hp, hc, rfl⟩ := HE2.out.rH.slice
          have m1 := HE2.out.mC
          have cH := blk_cell m1 2 rfl
          have hNm : (s.nexts m).N + 1 ≤ 130 := by rw [ESt.nexts_N]; omega
          have HNM := Lib.hid (ESt.nexts_N s m)
          have hrl : (seqFrom s.N m).length ≤ 8 := by rw [seqFrom_length]; omega
          have hvN : (((s.nexts m).N : Int) + 1) = (s.N : Int) + m + 1 := by rw [ESt.nexts_N]; omega
          have HVN := Lib.hid hvN
          have hw45 : w4.heap.size ≤ w5.heap.size := HS.out.beh.size
          clear hvN m1
          go_wp2_with (at_builtin; refine wpList_append_row _ rfl _ _ 30 rfl 3 i0 (.int .i64 0) 1 8 Try.underlying30 ii iz0 iz1 iz2 rfl _ _ _ rfl (HO2.out.row.keep (behind_of_below (below_one wr _)) (by simp)) wr.heap.size 1 1 [.int .i64 (((s.nexts m).N : Int) + 1)] 3 rfl (new_one wr _) rfl (by intro u hu; simp at hu; subst hu; rfl) (by omega) (by unfold maxLen; omega) (by omega) ?_)
          intro v9 w9 hr9 hB9 hn9
          have h09 : Behind wr (rowBlk u7) w9 := ((behind_of_below (below_one wr _)).mono (by simp)).trans hB9 (fun k hk => .inl hk)
          have hO9 := HO2.out.grown hsz2 HE2.out.lt hr9 (fun g hg => (hn9 g hg).imp id (fun h => by first | omega | (simp at h; omega)))
          rw [HVN.out, ← seqFrom_succ] at hO9
          have HE9 := Lib.hid (HE2.out.keep h09 (fun g hg => ⟨HO2.out.ge g hg, HO2.out.out g hg⟩))
          have HS9 := Lib.hid (show Step (e0.M gC) w4 _ w9 from ⟨HS2.out.beh.trans h09 (fun g hg => .inr (by have := HO2.out.ge g hg; omega)), HS2.out.new⟩)
          have HO9 := Lib.hid hO9
          have hsz9 : w5.heap.size ≤ w9.heap.size := Nat.le_trans hsz2 h09.size
          have cH9 := blk_cell HE9.out.mC 2 rfl
          have hb9 : w.heap.size + 1 ≤ w9.heap.size := Nat.le_trans hbw4 HS9.out.beh.size
          clear cH hr9 hB9 hn9 h09 hO9 HE2 HS2 HO2 hsz2
          go_wp2_with (at_builtin; refine wpList_append_row _ rfl _ _ 49 rfl 9 s0 _ 1 16 Try.underlying49 si sz0 sz1 sz2 rfl _ _ _ rfl (HE9.out.rH.keep (behind_of_below (below_one w9 _)) (by simp)) w9.heap.size 1 1 [.string { data := #[49] }] 9 rfl (new_one w9 _) rfl (by intro u hu; simp at hu; subst hu; rfl) (by omega) (by unfold maxLen; omega) (by omega) ?_)
          intro v10 w10 hr10 hB10 hn10
          obtain ⟨hp2, hc2, rfl⟩ := hr10.slice
          obtain ⟨m10, hE10, hS10⟩ := HE9.out.storeH (p := (1, 1)) hb9 (by rw [rtext_one]; exact hr10) hB10 hn10
          have c10 := blk_cell m10 2 rfl
          have f10 := blk_free m10 2
          have HEX := Lib.hid hE10
          have HSX := Lib.hid (HS9.out.trans hS10)
          have HOX := Lib.hid (HO9.out.step hS10)
          have hszX := Nat.le_trans hsz9 hS10.beh.size
          clear hr10 hB10 hn10 m10 hE10 hS10 HE9 HS9 HO9 cH9 hsz9
          go_wp2_with fail
          clear c10 f10
          generalize w10.setCell ⟨gC, 2, none⟩ (.slice hp2 ((s.nexts m).N + 1 + 1) hc2) = W at *
          go_roundw
          case rel => exact ⟨m + 1, _, by omega, by go_num, HEX.out, HSX.out, HOX.out, hszX⟩
          case measure => simp [intOf]; omega
        · obtain rfl : m = k := by omega
          have hdk : decide ((m : Int) < (m : Int)) = false := by simp
          obtain ⟨xs, hxs⟩ : ∃ xs, xs = seqFrom s.N m := ⟨_, rfl⟩
          have HXS := Lib.hid hxs
          have HXL := Lib.hid (show xs.length = m by rw [hxs]; exact seqFrom_length _ _)
          rw [← hxs] at HO2
          have hxl8 : xs.length ≤ 8 := by rw [HXL.out]; exact hk8
          have hxl1 : 1 ≤ xs.length := by rw [HXL.out]; omega
          have hIx : (s.nexts m).ind.length ≤ 16 := by rw [ESt.nexts_ind]; exact hIb
          have hLx : (s.nexts m).L.length ≤ 2000 := by rw [ESt.nexts_L]; exact hLb
          have hw45 : w4.heap.size ≤ w5.heap.size := HS.out.beh.size
          obtain ⟨s2, hs2⟩ : ∃ s2, s2 = s.nexts m := ⟨_, rfl⟩
          have HSS2 := Lib.hid hs2
          rw [← hs2] at HE2 hIx hLx
          clear hxs hs2 HE HS
          obtain ⟨vL, vH, vI, cl, ci⟩ := e2
          obtain ⟨oa, oc, rfl⟩ := HO2.out.row.slice
          have HE3 := Lib.hid (HE2.out.lift (top' := wr.heap.size) (Nat.le_refl _))
          have HO3 := Lib.hid (HO2.out.mono (b' := w.heap.size + 1) (by omega))
          have cI := blk_cell HE3.out.mC 3 rfl
          have hb3 : w.heap.size + 1 ≤ wr.heap.size := Nat.le_trans hbw4 HS2.out.beh.size
          clear HE2 HO2 hsz2 hm hmk
          go_wp2_with (at_builtin; refine wpList_append_row _ rfl _ _ 41 rfl 30 r0 (.slice none 0 0) 1 24 Try.underlying41 ri rz0 rz1 rz2 rfl _ _ _ rfl (HE3.out.rI.keep (behind_of_below (below_one wr _)) (by simp)) wr.heap.size 1 1 [.slice oa xs.length oc] 30 rfl (new_one wr _) rfl (by intro u hu; simp at hu; subst hu; rfl) (by omega) (by unfold maxLen; omega) (by omega) ?_)
          intro v9 w9 hr9 hB9 hn9
          obtain ⟨ip, ic, rfl⟩ := hr9.slice
          obtain ⟨m9, hE9, hS9⟩ := HE3.out.storeI hb3 (Nat.le_refl _) hr9 hB9 hn9 HO3.out
          have c9 := blk_cell m9 3 rfl
          have f9 := blk_free m9 3
          have HE9 := Lib.hid hE9
          have HS9 := Lib.hid (HS2.out.trans hS9)
          have HO9 := Lib.hid (HO3.out.step hS9)
          have hsz9 := hS9.beh.size
          clear hr9 hB9 hn9 m9 hE9 hS9 HE3 HS2 HO3 cI c0
          obtain ⟨W, hW⟩ : ∃ W, W = w9.setCell ⟨gC, 3, none⟩ (.slice ip (s2.ind.length + 1) ic) := ⟨_, rfl⟩
          rw [← hW] at HE9 HS9 HO9 hsz9
          have cL := blk_cell HE9.out.mC 1 rfl
          have hb9 : w.heap.size + 1 ≤ W.heap.size := Nat.le_trans hb3 hsz9
          have HWW := Lib.hid hW
          have hWs : W.heap.size = w9.heap.size := by rw [hW]; simp
          have HWS := Lib.hid hWs
          have hLk : (s2.know xs).L.length ≤ 2000 := hLx
          rw [hW] at cL
          clear hW hWs
          go_wp2_with (at_builtin; rw [← HWW.out]; refine wpList_append_row _ rfl _ _ 41 rfl 30 r0 (.slice none 0 0) 1 24 Try.underlying41 ri rz0 rz1 rz2 rfl _ _ _ rfl (HE9.out.rC.keep (behind_of_below (below_one W _)) (by simp)) w9.heap.size 1 1 [.slice oa xs.length oc] 30 rfl (by rw [← HWS.out]; exact new_one W _) rfl (by intro u hu; simp at hu; subst hu; rfl) (by omega) (by unfold maxLen; omega) (by omega) ?_)
          intro v10 w10 hr10 hB10 hn10
          obtain ⟨lp, lc, rfl⟩ := hr10.slice
          obtain ⟨m10, hE10, hS10⟩ := HE9.out.storeL hb9 hsz9 hr10 hB10 hn10 HO9.out
          have c10 := blk_cell m10 1 rfl
          have f10 := blk_free m10 1
          have HE10 := Lib.hid hE10
          have HS10 := Lib.hid (HS9.out.trans hS10)
          have HO10 := Lib.hid (HO9.out.step hS10)
          clear hr10 hB10 hn10 m10 hE10 hS10 HE9 HS9 HO9 cL hsz9 hb9 HWW HWS hLk
          go_wp2_with fail
          clear c10 f10
          obtain ⟨s3, hs3⟩ : ∃ s3, s3 = (s2.know xs).add xs := ⟨_, rfl⟩
          have HS3 := Lib.hid hs3
          have hL3 : s3.L.length ≤ 2001 := by rw [hs3]; simp only [ESt.add, ESt.know, List.length_append, List.length_singleton]; omega
          have hL30 : 0 < s3.L.length := by rw [hs3]; simp [ESt.add]
          have hxm : ∀ y ∈ xs, 0 ≤ y ∧ y ≤ 100000 := fun y hy => by
            rw [HXS.out] at hy
            have := seqFrom_mem hy
            omega
          have HXM := Lib.hid hxm
          rw [← hs3] at HE10
          generalize w10.setCell ⟨gC, 1, none⟩ (.slice lp ((s2.know xs).L.length + 1) lc) = W2 at *
          have HE11 := Lib.hid (HE10.out.lift (top' := W2.heap.size) (Nat.le_refl _))
          obtain ⟨e3, he3⟩ : ∃ e3 : CodP, e3 = { vL := .slice lp ((s2.know xs).L.length + 1) lc, vH := vH, vI := .slice ip (s2.ind.length + 1) ic, cl := cl ++ [.slice oa xs.length oc], ci := ci ++ [.slice oa xs.length oc] } := ⟨_, rfl⟩
          have HE12 : Hid (CodAt (w.heap.size + 1) W2.heap.size gC e3 s3 W2) := by rw [he3]; exact HE11
          have HS12 : Hid (Step (e0.M gC) w4 (e3.M gC) W2) := by rw [he3]; exact HS10
          have HO12 : Hid (OwnI W2 (w.heap.size + 1) (e3.M gC) (.slice oa xs.length oc) xs) := by rw [he3]; exact HO10
          clear hs3 he3 HE10 HE11 HS10 HO10 hxm
          go_loopw [9] (fun t9 wr => ∃ (i : Nat) (e : CodP), i ≤ xs.length ∧ t9 = .int .i64 i ∧ Hid (CodAt (w.heap.size + 1) wr.heap.size gC e (s3.adds (pairsAt xs i)) wr) ∧ Hid (Step (e0.M gC) w4 (e.M gC) wr) ∧ Hid (OwnI wr (w.heap.size + 1) (e.M gC) (.slice oa xs.length oc) xs))
            (fun t9 _ => xs.length - (intOf t9).toNat)
          case atStart => exact ⟨0, e3, Nat.zero_le _, rfl, HE12.out, HS12.out, HO12.out⟩
          case round =>
            obtain ⟨i, e4, hi, rfl, HE4, HS4, HO4⟩ := hrel
            clear HE12 HS12 HO12
            by_cases hix : i < xs.length
            · have hdi : decide (i < xs.length) = true := by simpa using hix
              go_wp2_with fail
              obtain ⟨w6, rfl⟩ : ∃ w6, w6 = wr := ⟨_, rfl⟩
              go_loopw [10] (fun t10 wr => ∃ (q : Nat) (e : CodP), i + 1 ≤ q ∧ q ≤ xs.length ∧ t10 = .int .i64 q ∧ Hid (CodAt (w.heap.size + 1) wr.heap.size gC e ((s3.adds (pairsAt xs i)).adds (((xs.drop (i + 1)).take (q - (i + 1))).map fun y => [-(xs.getD i 0), -y])) wr) ∧ Hid (Step (e0.M gC) w4 (e.M gC) wr) ∧ Hid (OwnI wr (w.heap.size + 1) (e.M gC) (.slice oa xs.length oc) xs))
                (fun t10 _ => xs.length - (intOf t10).toNat)
              case atStart => exact ⟨i + 1, e4, Nat.le_refl _, hix, by go_num, by rw [Nat.sub_self]; exact HE4.out, HS4.out, HO4.out⟩
              case round =>
                obtain ⟨q, e5, hq1, hq2, rfl, HE5, HS5, HO5⟩ := hrel
                by_cases hqx : q < xs.length
                · have hdq : decide (q < xs.length) = true := by simpa using hqx
                  obtain ⟨z, hz⟩ : ∃ z, xs[i]? = some z := ⟨_, List.getElem?_eq_getElem hix⟩
                  obtain ⟨y, hy⟩ : ∃ y, xs[q]? = some y := ⟨_, List.getElem?_eq_getElem hqx⟩
                  obtain ⟨hz1, hz2⟩ := HXM.out z (List.mem_of_getElem? hz)
                  obtain ⟨hy1, hy2⟩ := HXM.out y (List.mem_of_getElem? hy)
                  have hnx : ((xs.drop (i + 1)).take (q + 1 - (i + 1))).map (fun y => [-(xs.getD i 0), -y]) = ((xs.drop (i + 1)).take (q - (i + 1))).map (fun y => [-(xs.getD i 0), -y]) ++ [[-z, -y]] := by
                    rw [show q + 1 - (i + 1) = (q - (i + 1)) + 1 by omega, take_snoc_of (show (xs.drop (i + 1))[q - (i + 1)]? = some y by rw [List.getElem?_drop, show i + 1 + (q - (i + 1)) = q by omega, hy]), List.map_append]
                    simp [hz]
                  have HNX := Lib.hid hnx
                  obtain ⟨s5, hs5⟩ : ∃ s5, s5 = (s3.adds (pairsAt xs i)).adds (((xs.drop (i + 1)).take (q - (i + 1))).map fun y => [-(xs.getD i 0), -y]) := ⟨_, rfl⟩
                  have HS5' := Lib.hid hs5
                  have hL5 : s5.L.length ≤ 3000 := by
                    have h1 := pairsAt_length xs i
                    have h2 := Nat.mul_le_mul (show i ≤ 8 by omega) hxl8
                    rw [hs5, ESt.adds_len, ESt.adds_len, List.length_map, List.length_take, List.length_drop]
                    omega
                  have hL50 : 0 < s5.L.length := by rw [hs5, ESt.adds_len, ESt.adds_len]; omega
                  rw [← hs5] at HE5
                  obtain ⟨vL5, vH5, vI5, cl5, ci5⟩ := e5
                  obtain ⟨gL, capL, curL, rfl, hRL⟩ := HE5.out.rC.pos hL50
                  obtain ⟨bz, oz, hbz, rfl, hcz⟩ := own_cell HO5.out hz
                  obtain ⟨by', oy, hby, ey, hcy⟩ := own_cell HO5.out hy
                  cases ey
                  have hdn := (nd3.1 HE5.out.nd).1.1
                  have dCL : gC ≠ gL := by simpa [rowBlk] using hdn
                  have hbzM : bz ∉ [gC, gL] := fun hm => hbz (by simp at hm; rcases hm with rfl | rfl <;> simp [CodP.M, rowBlk])
                  have HRL := Lib.hid hRL
                  have HmC := Lib.hid HE5.out.mC
                  have HmL := Lib.hid (show wr.heap[gL]? = some (.cells curL 30 (0, 0)) from hRL.blk)
                  have HCZ := Lib.hid hcz
                  have HCY := Lib.hid hcy
                  obtain ⟨k1, hk1⟩ : ∃ k1, k1 = if s5.L.length + 1 ≤ capL then 2 else 5 := ⟨_, rfl⟩
                  have hk1' : k1 = 2 ∨ k1 = 5 := by rw [hk1]; split <;> simp
                  have HK1 := Lib.hid hk1
                  have hlC := lt_of_heap HE5.out.mC
                  have hlL := lt_of_heap HmL.out
                  have hbr : w.heap.size + 1 ≤ wr.heap.size := Nat.le_trans hbw4 HS5.out.beh.size
                  clear hz hy hnx hs5 hdn hRL hcz hcy hk1 hbz hby
                  go_wp2_with fail
                  refine wp_game [0, 0, 1, 0, 0, 0, 0, 0, 0, 0, 0, 0, 0, 3, 3, k1, 0, 0, 2] [gC, gL] _ (Fin.put (Fin.put fin_B0 _ _) _ _) (has_put (has_put (has_B0 _) HmL.out) HmC.out) (by kernel_rfl) (by rcases hk1' with h | h <;> rw [h] <;> kernel_rfl) ?_
                  refine lex_quietE 2 (by kernel_rfl) (by rfl) ?_
                  apply Exists.intro
                  refine ⟨fun z' hz' => ?_, ?_⟩
                  · clear hz'
                    simp only [List.take_succ_cons, List.take_zero]
                    unfold Cx
                    repeat (go_big_quiet_step (fail))
                    exact wpQuiet_nil rfl
                  simp only [List.drop_succ_cons, List.drop_zero]
                  refine lex_readE 1 wr (Behind.refl _ _) (has_put (has_put (has_B0 _) HmL.out) HmC.out) (by kernel_rfl) (by rfl) ?_
                  apply Exists.intro
                  refine ⟨fun z' hz' hB => ?_, ?_⟩
                  · have g0 := blk_cellp (hB gC _ (Blocks.put_same _ _ _)) 1 rfl
                    clear hz' hB
                    simp only [List.take_succ_cons, List.take_zero]
                    unfold Cx
                    repeat (go_big_quiet_step (fail))
                    exact wpQuiet_nil rfl
                  simp only [List.drop_succ_cons, List.drop_zero]
                  refine lex_quietE 10 (by kernel_rfl) (by rfl) ?_
                  apply Exists.intro
                  refine ⟨fun z' hz' => ?_, ?_⟩
                  · have g0 := behind_cellp hz' HCZ.out hbzM
                    have g1 := behind_cellp hz' HCY.out hbzM
                    clear hz'
                    simp only [List.take_succ_cons, List.take_zero]
                    unfold Cx
                    repeat (go_big_quiet_step (fail))
                    exact wpQuiet_nil rfl
                  simp only [List.drop_succ_cons, List.drop_zero]
                  refine lex_slice 2 (.cells #[.int .i64 (-z), .int .i64 (-y)] 3) (by rfl) (fun x => by go_simp) (fun g93 q93 hn93 => ?_)
                  unfold setSlot
                  go_big_quiet_step (fail)
                  refine wpQuiet_nil ?_
                  refine lex_slice 1 (.cells #[.slice (some ⟨g93, 0, none⟩) 2 2] 30) (by rfl) (fun x => by go_simp) (fun g94 q94 hn94 => ?_)
                  unfold setSlot
                  go_big_quiet_step (fail)
                  refine wpQuiet_nil ?_
                  have n9394 : g93 ≠ g94 := fun e => by rw [← e, Blocks.put_same] at hn94; cases hn94
                  have n94C : gC ≠ g94 := by omega
                  have n94L : gL ≠ g94 := by omega
                  have n93C : gC ≠ g93 := by omega
                  have n93L : gL ≠ g93 := by omega
                  clear hn93 hn94
                  refine lex_append (.tmp 82) (.tmp 94) 41 30 r0 _ 1 24 Try.underlying41 ri rz0 rz1 rz2 (by rfl) gL s5.L.length capL cl5 curL (HRL.out.of ((Blocks.put_other _ _ n94L).trans ((Blocks.put_other _ _ n93L).trans ((Blocks.put_other _ _ (Ne.symm dCL)).trans (Blocks.put_same _ _ _))))) (by rfl) g94 1 1 [.slice (some ⟨g93, 0, none⟩) 2 2] 30 (by rfl) (Blocks.put_same _ _ _) rfl (by simp [Value.oneCell'])
                    (by unfold maxLen; omega) (by omega) (.inl (by simp)) HK1.out (fun gL' capL' curL' hrL hgL => ?_)
                  unfold setSlot
                  go_big_quiet_step (fail)
                  refine wpQuiet_nil ?_
                  have nLC : gC ≠ gL' := by
                    rcases hgL with rfl | ⟨h, _⟩
                    · exact dCL
                    · omega
                  have nL93 : g93 ≠ gL' := by
                    rcases hgL with rfl | ⟨_, h⟩
                    · omega
                    · intro e
                      rw [← e, Blocks.put_other _ _ n9394, Blocks.put_same] at h
                      cases h
                  refine lex_quietE 2 (by kernel_rfl) (by rfl) ?_
                  apply Exists.intro
                  refine ⟨fun z' hz' => ?_, ?_⟩
                  · clear hz'
                    simp only [List.take_succ_cons, List.take_zero]
                    unfold Cx
                    repeat (go_big_quiet_step (fail))
                    exact wpQuiet_nil rfl
                  simp only [List.drop_succ_cons, List.drop_zero]
                  refine lex_store_part gC 1 (.slice (some ⟨gL', 0, none⟩) (s5.L.length + 1) capL') #[.int .i64 0, .slice (some ⟨gL, 0, none⟩) s5.L.length capL, vH5, vI5] #[.int .i64 0, .slice (some ⟨gL', 0, none⟩) (s5.L.length + 1) capL', vH5, vI5] 51 (by rfl) (by rfl) (by rfl) ((Blocks.put_other _ _ nLC).trans ((Blocks.put_other _ _ n94C).trans ((Blocks.put_other _ _ n93C).trans (Blocks.put_same _ _ _)))) (by simp [Value.cells]) rfl (fun i hi => by
                    have : i = 0 ∨ i = 1 ∨ i = 2 ∨ i = 3 := by simp at hi; omega
                    rcases this with rfl | rfl | rfl | rfl <;> rfl) (Or.inl (by simp)) (by kernel_rfl) (by simp [Value.oneCell', Value.cells]) ?_
                  refine lex_nil ?_
                  intro x7 hx7 hH7
                  have bC := hH7 gC _ (Blocks.put_same _ _ _)
                  have bL := hH7 gL' _ ((Blocks.put_other _ _ (Ne.symm nLC)).trans (Blocks.put_same _ _ _))
                  have b93 := hH7 g93 _ ((Blocks.put_other _ _ (Ne.symm n93C)).trans ((Blocks.put_other _ _ nL93).trans ((Blocks.put_other _ _ n9394).trans (Blocks.put_same _ _ _))))
                  obtain ⟨hE6, hS6⟩ := HE5.out.add' (top' := x7.heap.size) (c := [-z, -y]) bC (.row (hrL.of (B' := inW x7) bL)) (fun g hg => by
                    have : g = gL' := by simpa [rowBlk] using hg
                    subst this
                    exact hgL.imp (fun e => by simp [rowBlk, e]) (fun e => e.1)) hx7 hbr (OwnI.block (c := [-z, -y]) b93 (by simp) (by omega) (HE5.out.newL q93 nL93)) (fun g hg => by
                    have : g = g93 := by simpa [rowBlk] using hg
                    subst this
                    exact lt_of_heap b93) hx7.size
                  have HE6 := Lib.hid hE6
                  have HS6 := Lib.hid (HS5.out.trans hS6)
                  have HO6 := Lib.hid (HO5.out.step hS6)
                  clear hE6 hS6 bC bL b93 hx7 hH7 hrL hgL HE5 HS5 HO5 HmC HmL HRL HCZ HCY HK1 hk1'
                  go_wp2_with fail
                  go_roundw
                  case rel => exact ⟨q + 1, _, by omega, by omega, by go_num, by rw [HNX.out, ESt.adds_snoc, ← HS5'.out]; exact HE6.out, HS6.out, HO6.out⟩
                  case measure => simp [intOf]; omega
                · obtain rfl : q = xs.length := by omega
                  have hdq : decide (xs.length < xs.length) = false := by simp
                  have hpx : (s3.adds (pairsAt xs i)).adds (((xs.drop (i + 1)).take (xs.length - (i + 1))).map fun y => [-(xs.getD i 0), -y]) = s3.adds (pairsAt xs (i + 1)) := by
                    rw [List.take_of_length_le (by simp), pairsAt_succ, ESt.adds_append]
                  have HPX := Lib.hid hpx
                  clear hpx
                  go_wp2_with fail
                  go_roundw
                  case rel => exact ⟨i + 1, e5, by omega, by go_num, by rw [← HPX.out]; exact HE5.out.lift (Nat.le_refl _), HS5.out, HO5.out⟩
                  case measure => simp [intOf]; omega
            · obtain rfl : i = xs.length := by omega
              have hdi : decide (xs.length < xs.length) = false := by simp
              have hfin : s3.adds (pairsAt xs xs.length) = est0.vars ((gnet l).take (j + 1)) := by
                rw [HSN.out, HS3.out, HSS2.out, HXL.out, HXS.out]; rfl
              have HFIN := Lib.hid hfin
              clear hfin
              go_wp2_with fail
              go_roundw
              case rel => exact ⟨j + 1, e4, by omega, by go_num, by rw [← HFIN.out]; exact HE4.out, HS4.out⟩
              case measure => simp [intOf]; omega
    · obtain rfl : j = l.length := by omega
      have hd : decide (l.length < l.length) = false := by simp
      have htk : (gnet l).take l.length = gnet l := List.take_of_length_le (by simp [gnet])
      rw [htk] at HE
      obtain ⟨w7, rfl⟩ : ∃ w7, w7 = wr := ⟨_, rfl⟩
      clear htk
      go_wp2_with fail
      have hsI := ESt.vars_ilen (gnet l) est0
      have hsI2 : (est0.vars (gnet l)).ind.length = l.length := by
        have h0 : est0.ind.length = 0 := rfl
        have h1 : (gnet l).length = l.length := by simp [gnet]
        omega
      have hsK : ∀ (q : Nat) (y : RV), l[q]? = some y → 1 ≤ y.k ∧ y.k ≤ 8 ∧ ∃ xs, (est0.vars (gnet l)).ind[q]? = some xs ∧ (xs.length : Int) = y.k := fun q y hy => by
        have h1 := HF.out.kb q (gvar y) (gnet_get hy)
        have h2 : y.k = (gvar y).k := rfl
        obtain ⟨n, h3, _, _⟩ := ESt.vars_get (gnet l) est0 q (gvar y) (gnet_get hy)
        refine ⟨by omega, by omega, seqFrom n y.k.toNat, ?_, by rw [seqFrom_length]; omega⟩
        rw [show est0.ind.length = 0 from rfl, Nat.zero_add] at h3
        exact h3
      have hsM : ∀ xs ∈ (est0.vars (gnet l)).ind, ∀ y ∈ xs, 0 ≤ y ∧ y ≤ 100000 := fun xs hxs y hy => by
        rcases ESt.vars_mem (gnet l) est0 xs hxs with h | ⟨n, k, rfl, hnk⟩
        · simp [est0] at h
        · have h1 := seqFrom_mem hy
          have h2 := ESt.vars_N (gnet l) est0
          have h3 := HF.out.vb
          rw [varsOf_sum] at h3
          have h0 : est0.N = 0 := rfl
          omega
      have hNt : ∀ j, j ≤ l.length → ((est0.vars (gnet l)).tables (gnet l) j).N = kSum (gnet l) + tSum ((gnet l).take j) := fun j hj => by
        rw [ESt.tables_N _ _ j (by simpa [gnet] using hj), ESt.vars_N]
        show est0.N + _ + _ = _
        rw [show est0.N = 0 from rfl, Nat.zero_add]
      have hLt : ∀ j, j ≤ l.length → ((est0.vars (gnet l)).tables (gnet l) j).L.length ≤ 1100 + tSum ((gnet l).take j) * 18 := fun j hj => by
        have h1 := ESt.tables_L (est0.vars (gnet l)) (gnet l) (fun i x hx => (HF.out.pb i x hx).1) j (by simpa [gnet] using hj)
        have h2 := ESt.vars_L (gnet l) est0 (fun y hy => by
          obtain ⟨q, hq⟩ := List.getElem?_of_mem hy
          have := (HF.out.kb q y hq).2
          omega)
        have h3 := HF.out.l16
        have h0 : est0.L.length = 0 := rfl
        omega
      have HSI := Lib.hid hsI2
      have HSK := Lib.hid hsK
      have HSM := Lib.hid hsM
      have HNT := Lib.hid hNt
      have HLT := Lib.hid hLt
      have HLG := Lib.hid (show ∀ j, j ≤ l.length → l.length ≤ ((est0.vars (gnet l)).tables (gnet l) j).L.length from fun j hj => by
        have h1 := ESt.tables_Lge (est0.vars (gnet l)) (gnet l) j (by simpa [gnet] using hj)
        have h2 := ESt.vars_Lge (gnet l) est0
        have h3 : (gnet l).length = l.length := by simp [gnet]
        omega)
      have HENC := Lib.hid (show encOf (gnet l) = (est0.vars (gnet l)).tables (gnet l) l.length by
        unfold encOf
        rw [show (gnet l).length = l.length by simp [gnet]])
      generalize est0.vars (gnet l) = sV at *
      clear hsI hsI2 hsK hsM hNt hLt
      go_loopw [11] (fun t11 wr => ∃ (j : Nat) (e : CodP), j ≤ l.length ∧ t11 = .int .i64 j ∧ Hid (CodAt (w.heap.size + 1) wr.heap.size gC e (sV.tables (gnet l) j) wr) ∧ Hid (Step (e0.M gC) w4 (e.M gC) wr))
        (fun t11 _ => l.length - (intOf t11).toNat)
      case atStart => exact ⟨0, e, Nat.zero_le _, rfl, by rw [ESt.tables_zero]; exact HE.out, HS.out⟩
      case round =>
        obtain ⟨j, e2, hj2, rfl, HE2, HS2⟩ := hrel
        clear HE HS
        by_cases hlt2 : j < l.length
        · have hd2 : decide (j < l.length) = true := by simpa using hlt2
          obtain ⟨x, hx⟩ : ∃ x, l[j]? = some x := ⟨_, List.getElem?_eq_getElem hlt2⟩
          obtain ⟨b, o, pa, pc, ta, tc, hb, rfl, n0, n1, n2, hpa, hta⟩ := HN.out j x hx
          have N2 := Lib.hid n2
          have HTA := Lib.hid hta
          have hbw : b < w.heap.size := by have := HW.out; omega
          have hts := (HL.out.ts x (List.mem_of_getElem? hx)).1
          have HSS := Lib.hid (HL.out.ts x (List.mem_of_getElem? hx)).2
          have hpb := HF.out.pb j (gvar x) (gnet_get hx)
          have hpl : x.ps.length ≤ 16 := hpb.1
          have HPB := Lib.hid (show ∀ p ∈ x.ps, 0 ≤ p ∧ p.toNat < l.length from fun p hp => by have := hpb.2 p hp; simpa [gnet] using this)
          have HX1 := Lib.hid hx
          have hts2 := tSum_take (gnet l) j (gvar x) (gnet_get hx)
          have hgt : (gvar x).tab.length = x.ts.length := by simp [gvar]
          rw [hgt] at hts2
          have h128 := HF.out.vb
          rw [varsOf_sum] at h128
          have hNj := HNT.out j (by omega)
          have hLj := HLT.out j (by omega)
          have hLg : l.length ≤ (sV.tables (gnet l) j).L.length := HLG.out j (by omega)
          have hIj : (sV.tables (gnet l) j).ind = sV.ind := ESt.tables_ind sV (gnet l) j
          have HTS2 := Lib.hid hts2
          have HIJ := Lib.hid hIj
          have HTB := Lib.hid (ESt.tables_succ sV (gnet l) j (gvar x) (gnet_get hx))
          have HTL := Lib.hid hgt
          have hN1 : (sV.tables (gnet l) j).N + x.ts.length ≤ 128 := by omega
          have hL1 : (sV.tables (gnet l) j).L.length ≤ 3500 := by omega
          generalize hs1 : sV.tables (gnet l) j = s1 at *
          have hwr2 := (HX.out _ _ HS2.out).size
          clear hs1 hx n0 n1 n2 hpa hta hpb hgt h128 hNj hLj hIj hts2
          go_wp2_with fail
          obtain ⟨w8, rfl⟩ : ∃ w8, w8 = wr := ⟨_, rfl⟩
          go_loopw [12] (fun t12 wr => ∃ (r : Nat) (e : CodP), r ≤ x.ts.length ∧ t12 = .int .i64 r ∧ Hid (CodAt (w.heap.size + 1) wr.heap.size gC e (s1.rows (gnet l) j (gvar x) r) wr) ∧ Hid (Step (e0.M gC) w4 (e.M gC) wr))
            (fun t12 _ => x.ts.length - (intOf t12).toNat)
          case atStart => exact ⟨0, e2, Nat.zero_le _, rfl, by rw [ESt.rows_zero]; exact HE2.out, HS2.out⟩
          case round =>
            obtain ⟨r, e6, hr, rfl, HE6, HS6⟩ := hrel
            have d2 := below_cell (HX.out _ _ HS6.out) hbw N2.out
            by_cases hrt : r < x.ts.length
            · have hdr : decide (r < x.ts.length) = true := by simpa using hrt
              obtain ⟨t, ht⟩ : ∃ t, x.ts[r]? = some t := ⟨_, List.getElem?_eq_getElem hrt⟩
              have ht9 := HSS.out t (List.mem_of_getElem? ht)
              obtain ⟨tb, to, htb, rfl, ktc⟩ := HTA.out r _ (strs_get ht)
              have KTC := Lib.hid ktc
              have htbw : tb < w.heap.size := by have := HW.out; omega
              have HRW := Lib.hid (show s1.rows (gnet l) j (gvar x) (r + 1) = (s1.rows (gnet l) j (gvar x) r).row (gnet l) j (gvar x) r (rawOf t) by
                rw [ESt.rows_succ]
                congr 1
                show (x.ts.map rawOf).getD r (0, 1) = _
                rw [List.getD_eq_getElem?_getD, List.getElem?_map, ht]; rfl)
              have hsN : (s1.rows (gnet l) j (gvar x) r).N + 1 ≤ 200 := by rw [ESt.rows_N]; omega
              have hsL : (s1.rows (gnet l) j (gvar x) r).L.length ≤ 6000 := by
                have h1 := ESt.rows_L s1 (gnet l) j (gvar x) r
                have h2 : (gvar x).ps.length = x.ps.length := rfl
                have h3 := Nat.mul_le_mul (show r ≤ 128 by omega) (show x.ps.length + 2 ≤ 18 by omega)
                rw [h1, h2]
                omega
              have hsL0 : 0 < (s1.rows (gnet l) j (gvar x) r).L.length := by rw [ESt.rows_L]; omega
              have HSIR := Lib.hid (show (s1.rows (gnet l) j (gvar x) r).ind = sV.ind by rw [ESt.rows_ind, HIJ.out])
              have KN2 := gXNum t (by omega)
              have KT2 := gXText (numQ t) (by
                have := (raw_small ht9).2.nz
                rw [nz_raw] at this
                exact this.mono (by omega)) (numQ_low t).1
              have HXT := Lib.hid (show rtext (rawOf t) = rtext (numQ t) by rw [← nz_raw, rtext_nz])
              have KN3 : Gives 51 #[.string t] (.agg #[.string (dec (numQ t).1), .string (dec (numQ t).2)]) := KN2
              have KT3 : Gives 39 #[.agg #[.string (dec (numQ t).1), .string (dec (numQ t).2)]] (.string (rtext (numQ t))) := KT2
              generalize hs6 : s1.rows (gnet l) j (gvar x) r = s at *
              generalize rtext (numQ t) = X at *
              clear KN2 KT2 hs6 ht ktc
              have KN2 := KN3
              have KT2 := KT3
              clear KN3 KT3
              generalize numQ t = qt at *
              obtain ⟨vL5, vH5, vI5, cl5, ci5⟩ := e6
              obtain ⟨gH, capH, curH, rfl, hRH⟩ := HE6.out.rH.pos (by omega)
              have hdn := (nd3.1 HE6.out.nd).1.2.1
              have dCH : gC ≠ gH := by simpa [rowBlk] using hdn
              have hgeC := HE6.out.ge gC (by simp [CodP.M])
              have hgeH := HE6.out.ge gH (by simp [CodP.M, rowBlk])
              have HRH := Lib.hid hRH
              have HmC := Lib.hid HE6.out.mC
              have HmH := Lib.hid (show wr.heap[gH]? = some (.cells curH 9 (0, 0)) from hRH.blk)
              obtain ⟨k1, hk1⟩ : ∃ k1, k1 = if s.N + 1 + 1 ≤ capH then 2 else 5 := ⟨_, rfl⟩
              have hk1' : k1 = 2 ∨ k1 = 5 := by rw [hk1]; split <;> simp
              have HK1 := Lib.hid hk1
              have hlC := lt_of_heap HE6.out.mC
              have hlH := lt_of_heap HmH.out
              have hbr : w.heap.size + 1 ≤ wr.heap.size := Nat.le_trans hbw4 HS6.out.beh.size
              have HBW := Lib.hid (HX.out _ _ HS6.out)
              have cH := blk_cell HmC.out 2 rfl
              clear hdn hRH hk1
              go_wp2_with fail
              clear cH d2
              refine wp_game [0, 1, 0, 0, 0, 0, 0, 0, 0, 0, 0, 0, 3, k1, 0, 2] [gC, gH] _ (Fin.put (Fin.put fin_B0 _ _) _ _) (has_put (has_put (has_B0 _) HmH.out) HmC.out) (by kernel_rfl) (by rcases hk1' with h | h <;> rw [h] <;> kernel_rfl) ?_
              refine lex_quietE 1 (by kernel_rfl) (by rfl) ?_
              apply Exists.intro
              refine ⟨fun z' hz' => ?_, ?_⟩
              · clear hz'
                simp only [List.take_succ_cons, List.take_zero]
                unfold Cx
                repeat (go_big_quiet_step (fail))
                exact wpQuiet_nil rfl
              simp only [List.drop_succ_cons, List.drop_zero]
              refine lex_readE 1 wr (Behind.refl _ _) (has_put (has_put (has_B0 _) HmH.out) HmC.out) (by kernel_rfl) (by rfl) ?_
              apply Exists.intro
              refine ⟨fun z' hz' hB => ?_, ?_⟩
              · have g0 := blk_cellp (hB gC _ (Blocks.put_same _ _ _)) 2 rfl
                clear hz' hB
                simp only [List.take_succ_cons, List.take_zero]
                unfold Cx
                repeat (go_big_quiet_step (fail))
                exact wpQuiet_nil rfl
              simp only [List.drop_succ_cons, List.drop_zero]
              refine lex_quietE 10 (by kernel_rfl) (by rfl) ?_
              apply Exists.intro
              refine ⟨fun z' hz' => ?_, ?_⟩
              · have hwz := HBW.out.trans (hz'.below_of (b := w.heap.size) (by intro k hk; simp at hk; omega) HBW.out.size)
                have g0 := below_cellp hwz N2.out hbw
                have g1 := below_cellp hwz KTC.out htbw
                clear hwz
                clear hz'
                simp only [List.take_succ_cons, List.take_zero]
                unfold Cx
                repeat (go_big_quiet_step (first | with_reducible exact KN2.at _ _ | with_reducible exact KT2.at _ _))
                exact wpQuiet_nil rfl
              simp only [List.drop_succ_cons, List.drop_zero]
              refine lex_slice 1 (.cells #[.string X] 9) (by rfl) (fun x => by go_simp) (fun g29 q29 hn29 => ?_)
              unfold setSlot
              go_big_quiet_step (fail)
              refine wpQuiet_nil ?_
              have n29C : gC ≠ g29 := by omega
              have n29H : gH ≠ g29 := by omega
              clear hn29
              refine lex_append (.tmp 118) (.tmp 129) 49 9 s0 _ 1 16 Try.underlying49 si sz0 sz1 sz2 (by rfl) gH (s.N + 1) capH _ curH (HRH.out.of ((Blocks.put_other _ _ n29H).trans ((Blocks.put_other _ _ (Ne.symm dCH)).trans (Blocks.put_same _ _ _)))) (by rfl) g29 1 1 [.string X] 9 (by rfl) (Blocks.put_same _ _ _) rfl (by simp [Value.oneCell'])
                (by unfold maxLen; omega) (by omega) (.inl (by simp)) HK1.out (fun gH' capH' curH' hrH hgH => ?_)
              unfold setSlot
              go_big_quiet_step (fail)
              refine wpQuiet_nil ?_
              have nHC : gC ≠ gH' := by
                rcases hgH with rfl | ⟨h, _⟩
                · exact dCH
                · omega
              refine lex_quietE 1 (by kernel_rfl) (by rfl) ?_
              apply Exists.intro
              refine ⟨fun z' hz' => ?_, ?_⟩
              · clear hz'
                simp only [List.take_succ_cons, List.take_zero]
                unfold Cx
                repeat (go_big_quiet_step (fail))
                exact wpQuiet_nil rfl
              simp only [List.drop_succ_cons, List.drop_zero]
              refine lex_store_part gC 2 (.slice (some ⟨gH', 0, none⟩) (s.N + 1 + 1) capH') #[.int .i64 0, vL5, .slice (some ⟨gH, 0, none⟩) (s.N + 1) capH, vI5] #[.int .i64 0, vL5, .slice (some ⟨gH', 0, none⟩) (s.N + 1 + 1) capH', vI5] 51 (by rfl) (by rfl) (by rfl) ((Blocks.put_other _ _ nHC).trans ((Blocks.put_other _ _ n29C).trans (Blocks.put_same _ _ _))) (by simp [Value.cells]) rfl (fun i hi => by
                have : i = 0 ∨ i = 1 ∨ i = 2 ∨ i = 3 := by simp at hi; omega
                rcases this with rfl | rfl | rfl | rfl <;> rfl) (Or.inl (by simp)) (by kernel_rfl) (by simp [Value.oneCell', Value.cells]) ?_
              refine lex_nil ?_
              intro x7 hx7 hH7
              have bC := hH7 gC _ (Blocks.put_same _ _ _)
              have bH := hH7 gH' _ ((Blocks.put_other _ _ (Ne.symm nHC)).trans (Blocks.put_same _ _ _))
              obtain ⟨hE6, hS6⟩ := HE6.out.next' (p := rawOf t) bC (by
                have := hrH.of (B' := inW x7) bH
                rw [HXT.out]
                exact .row this) (fun g hg => by
                have : g = gH' := by simpa [rowBlk] using hg
                subst this
                exact hgH.imp (fun e => by simp [rowBlk, e]) (fun e => e.1)) hx7 hbr
              have HE7 := Lib.hid (hE6.lift (top' := x7.heap.size) (Nat.le_refl _))
              have HS7 := Lib.hid (HS6.out.trans hS6)
              clear hE6 hS6 bC bH hx7 hH7 hrH hgH HE6 HS6 HmC HmH HRH HK1 hk1' HBW KN2 KT2 KTC hlC hlH hgeC hgeH
              obtain ⟨ia, ic, hvi, hIA⟩ := HE7.out.indAt
              have hsi : (s.next (rawOf t)).ind = sV.ind := HSIR.out
              rw [hsi] at hIA hvi
              rw [HSI.out] at hvi
              simp only at hvi
              subst hvi
              have HIA := Lib.hid hIA
              have HBW := Lib.hid (HX.out _ _ HS7.out)
              have cI := blk_cell HE7.out.mC 3 rfl
              have hr6 : r ≤ 1000000 := by omega
              clear hsi hIA
              go_wp2_with fail
              have KLit := xliterals_law x7.heap.size l sV.ind (some ⟨b, o, none⟩) ia c ic j r x HX1.out (by omega) HSK.out HPB.out hpl hr6 x7 ((HN.out.below HBW.out HW.out).mono' (Nat.le_trans HW.out HBW.out.size)) HIA.out (Nat.le_refl _)
              have hislen := rowIs_length (gnet l) sV.ind j (gvar x) r
              have hism := rowIs_mem (P := fun y => 0 ≤ y ∧ y ≤ 100000) ⟨by omega, by omega⟩ HSM.out j (gvar x) r (l := gnet l)
              rw [show (gvar x).ps.length = x.ps.length from rfl] at hislen
              obtain ⟨is, his⟩ : ∃ is, is = rowIs (gnet l) sV.ind j (gvar x) r := ⟨_, rfl⟩
              rw [← his] at KLit hislen hism
              have HIS := Lib.hid his
              have HISM := Lib.hid hism
              have his17 : is.length ≤ 17 := by omega
              have his1 : 1 ≤ is.length := by omega
              clear his hism hislen
              refine KLit.mono ?_
              rintro r9 wl ⟨lv, rfl, hlv, hB8⟩
              obtain ⟨va, vc, rfl, hvA⟩ := own_at hlv
              obtain ⟨vb, vo, hvb, rfl, hvc⟩ := hvA.base (by simp [ints]; omega)
              have HVC := Lib.hid hvc
              have HO8 := Lib.hid (show OwnI wl x7.heap.size (CodP.M _ gC) (.slice (some ⟨vb, vo, none⟩) is.length vc) is from ⟨hlv.row, hlv.ge, fun g hg hm => by have := hlv.ge g hg; have := HE7.out.lt g hm; omega⟩)
              have HE8 := Lib.hid ((HE7.out.keep (behind_of_below hB8) (by simp)).lift (top' := wl.heap.size) (Nat.le_refl _))
              have HS8 := Lib.hid (HS7.out.trans ⟨(behind_of_below hB8).mono (by simp), fun _ h => .inl h⟩)
              have hbwl : w.heap.size + 1 ≤ wl.heap.size := Nat.le_trans hbw4 HS8.out.beh.size
              have hx7l : x7.heap.size ≤ wl.heap.size := hB8.size
              clear KLit hlv hB8 hvA hvc HE7 HS7 HIA HBW cI
              go_wp2_with fail
              obtain ⟨w9, rfl⟩ : ∃ w9, w9 = wr := ⟨_, rfl⟩
              go_loopw [15, 16] (fun t15 t16 wr => ∃ q : Nat, q ≤ is.length ∧ t16 = .int .i64 q ∧ Hid (OwnI wr wl.heap.size [] t15 ((is.take q).map fun y => -y)) ∧ Hid (Below wl.heap.size wl wr))
                (fun _ t16 _ => is.length - (intOf t16).toNat)
              case atStart => exact ⟨0, Nat.zero_le _, rfl, ⟨.nil, by simp [rowBlk], by simp [rowBlk]⟩, Below.refl _ _⟩
              case round =>
                obtain ⟨q, hq, rfl, HF7, HB7⟩ := hrel
                by_cases hqi : q < is.length
                · have hdq : decide (q < is.length) = true := by simpa using hqi
                  obtain ⟨y, hy⟩ : ∃ y, is[q]? = some y := ⟨_, List.getElem?_eq_getElem hqi⟩
                  obtain ⟨hy1, hy2⟩ := HISM.out y (List.mem_of_getElem? hy)
                  have hyc := below_cell HB7.out hvb (HVC.out q _ (ints_get _ _ _ hy))
                  have hfl : ((is.take q).map fun y => -y).length ≤ 17 := by rw [List.length_map, List.length_take]; omega
                  have HFN := Lib.hid (show (is.take q).map (fun y => -y) ++ [-y] = (is.take (q + 1)).map fun y => -y by rw [take_snoc_of hy, List.map_append]; rfl)
                  clear hy
                  go_wp2_with (at_builtin; refine wpList_append_row _ rfl _ _ 30 rfl 3 i0 (.int .i64 0) 1 8 Try.underlying30 ii iz0 iz1 iz2 rfl _ _ _ rfl (HF7.out.row.keep (behind_of_below (below_one wr _)) (by simp)) wr.heap.size 1 1 [.int .i64 (-y)] 3 rfl (new_one wr _) rfl (by intro u hu; simp at hu; subst hu; rfl) (by omega) (by unfold maxLen; omega) (by omega) ?_)
                  intro v9 w10 hr9 hB9 hn9
                  have h09 : Behind wr (rowBlk u15) w10 := ((behind_of_below (below_one wr _)).mono (by simp)).trans hB9 (fun k hk => .inl hk)
                  have hr9' : RowV (inW w10) 3 1 v9 (((is.take q).map fun y => -y).length + 1) (ints ((is.take q).map fun y => -y) ++ [.int .i64 (-y)]) := by
                    rw [show ((is.take q).map fun y => -y).length = q by rw [List.length_map, List.length_take]; omega, List.map_take]
                    exact hr9
                  have hO9 := HF7.out.grown HB7.out.size (by simp) hr9' (fun g hg => (hn9 g hg).imp id (fun h => by first | omega | (simp at h; omega)))
                  rw [HFN.out] at hO9
                  have HO9 := Lib.hid hO9
                  have HB9 := Lib.hid (HB7.out.trans (h09.below_of (b := wl.heap.size) HF7.out.ge HB7.out.size))
                  clear hr9 hr9' hB9 hn9 h09 hO9 HF7 HB7 hyc hfl HFN
                  go_wp2_with fail
                  go_roundw
                  case rel => exact ⟨q + 1, by omega, by go_num, HO9, HB9⟩
                  case measure => simp [intOf]; omega
                · obtain rfl : q = is.length := by omega
                  have hdq : decide (is.length < is.length) = false := by simp
                  have hF7 := HF7.out
                  rw [List.take_length] at hF7
                  have hF7r := hF7.row
                  rw [List.length_map] at hF7r
                  obtain ⟨gF, capF, curF, rfl, hRF⟩ := hF7r.pos (by omega)
                  have hgeF : wl.heap.size ≤ gF := hF7.ge gF (by simp [rowBlk])
                  have HEr := HE8.out.keep (behind_of_below HB7.out) (by simp)
                  obtain ⟨gL, capL, curL, hvL, hRL⟩ := HE8.out.rC.pos (show 0 < (s.next (rawOf t)).L.length from hsL0)
                  simp only at hvL
                  subst hvL
                  have hRLr := HEr.rC
                  have hdn := (nd3.1 HE8.out.nd).1.1
                  have dCL : gC ≠ gL := by simpa [rowBlk] using hdn
                  have hltL := HE8.out.lt gL (by simp [CodP.M, rowBlk])
                  have hltC := HE8.out.lt gC (by simp [CodP.M])
                  have dCF : gC ≠ gF := by omega
                  have dLF : gL ≠ gF := by omega
                  have mL0 : wl.heap[gL]? = some (.cells curL 30 (0, 0)) := hRL.blk
                  have HmC := Lib.hid HEr.mC
                  have HmL := Lib.hid ((behind_of_below HB7.out).keep mL0 (by simp))
                  have HmF := Lib.hid (show wr.heap[gF]? = some (.cells curF 3 (0, 0)) from hRF.blk)
                  have HRL := Lib.hid hRL
                  have HRF := Lib.hid hRF
                  obtain ⟨kF, hkF⟩ : ∃ kF, kF = if is.length + 1 ≤ capF then 2 else 5 := ⟨_, rfl⟩
                  have hkF' : kF = 2 ∨ kF = 5 := by rw [hkF]; split <;> simp
                  have HKF := Lib.hid hkF
                  obtain ⟨k2, hk2⟩ : ∃ k2, k2 = if s.L.length + 1 ≤ capL then 2 else 5 := ⟨_, rfl⟩
                  have hk2' : k2 = 2 ∨ k2 = 5 := by rw [hk2]; split <;> simp
                  have HK2 := Lib.hid hk2
                  have hszr : wl.heap.size ≤ wr.heap.size := HB7.out.size
                  have hltF := lt_of_heap HmF.out
                  clear hF7 hF7r hRF hRL hRLr hdn mL0 hkF hk2 HEr HF7
                  go_wp2_with fail
                  refine wp_game_tail 11 [0, 0, 0, 0, 0, 3, kF, 3, k2, 0, 0] [gL, gF] _ (Fin.put (Fin.put fin_B0 _ _) _ _) (has_put (has_put (has_B0 _) HmF.out) HmL.out) (by kernel_rfl) (by rcases hkF' with h | h <;> rcases hk2' with h' | h' <;> rw [h, h'] <;> kernel_rfl) ?_
                  simp only [List.take_succ_cons, List.take_zero]
                  refine lex_quietE 5 (by kernel_rfl) (by rfl) ?_
                  apply Exists.intro
                  refine ⟨fun z' hz' => ?_, ?_⟩
                  · have g0 := behind_cellp hz' (blk_cell HmC.out 1 rfl) (by simp; omega)
                    clear hz'
                    simp only [List.take_succ_cons, List.take_zero]
                    unfold Cx
                    repeat (go_big_quiet_step (fail))
                    exact wpQuiet_nil rfl
                  simp only [List.drop_succ_cons, List.drop_zero]
                  refine lex_slice 1 (.cells #[.int .i64 ((s.N : Int) + 1)] 3) (by rfl) (fun x => by go_simp) (fun g57 q57 hn57 => ?_)
                  unfold setSlot
                  go_big_quiet_step (fail)
                  refine wpQuiet_nil ?_
                  have n57C : gC ≠ g57 := by omega
                  have n57L : gL ≠ g57 := by omega
                  have n57F : gF ≠ g57 := by omega
                  clear hn57
                  refine lex_append (.tmp 155) (.tmp 157) 30 3 i0 _ 1 8 Try.underlying30 ii iz0 iz1 iz2 (by rfl) gF is.length capF _ curF (HRF.out.of ((Blocks.put_other _ _ n57F).trans ((Blocks.put_other _ _ (Ne.symm dLF)).trans (Blocks.put_same _ _ _)))) (by rfl) g57 1 1 [.int .i64 ((s.N : Int) + 1)] 3 (by rfl) (Blocks.put_same _ _ _) rfl (by simp [Value.oneCell'])
                    (by unfold maxLen; omega) (by omega) (.inl (by simp)) HKF.out (fun gF' capF' curF' hrF hgF => ?_)
                  unfold setSlot
                  go_big_quiet_step (fail)
                  refine wpQuiet_nil ?_
                  have nFC : gC ≠ gF' := by
                    rcases hgF with rfl | ⟨h, _⟩
                    · exact dCF
                    · omega
                  have nFL : gL ≠ gF' := by
                    rcases hgF with rfl | ⟨h, _⟩
                    · exact dLF
                    · omega
                  have qF : wl.heap.size ≤ gF' := by
                    rcases hgF with rfl | ⟨h, _⟩
                    · exact hgeF
                    · omega
                  clear hgF
                  refine lex_slice 1 (.cells #[.slice (some ⟨gF', 0, none⟩) (is.length + 1) capF'] 30) (by rfl) (fun x => by go_simp) (fun g59 q59 hn59 => ?_)
                  unfold setSlot
                  go_big_quiet_step (fail)
                  refine wpQuiet_nil ?_
                  have n59C : gC ≠ g59 := by omega
                  have n59L : gL ≠ g59 := by omega
                  have n59F : gF' ≠ g59 := fun e => by rw [← e, Blocks.put_same] at hn59; cases hn59
                  clear hn59
                  refine lex_append (.tmp 154) (.tmp 159) 41 30 r0 _ 1 24 Try.underlying41 ri rz0 rz1 rz2 (by rfl) gL s.L.length capL cl5 curL (HRL.out.of ((Blocks.put_other _ _ n59L).trans ((Blocks.put_other _ _ nFL).trans ((Blocks.put_other _ _ n57L).trans (Blocks.put_same _ _ _))))) (by rfl) g59 1 1 [.slice (some ⟨gF', 0, none⟩) (is.length + 1) capF'] 30 (by rfl) (Blocks.put_same _ _ _) rfl (by simp [Value.oneCell'])
                    (by unfold maxLen; omega) (by omega) (.inl (by simp)) HK2.out (fun gL' capL' curL' hrL hgL => ?_)
                  unfold setSlot
                  go_big_quiet_step (fail)
                  refine wpQuiet_nil ?_
                  have nLC : gC ≠ gL' := by
                    rcases hgL with rfl | ⟨h, _⟩
                    · exact dCL
                    · omega
                  have nLF : gF' ≠ gL' := by
                    rcases hgL with rfl | ⟨_, h⟩
                    · exact Ne.symm nFL
                    · intro e
                      rw [← e, Blocks.put_other _ _ n59F, Blocks.put_same] at h
                      cases h
                  have hgL2 : gL' = gL ∨ wl.heap.size ≤ gL' := hgL.imp id (fun h => by omega)
                  clear hgL
                  refine lex_quietE 2 (by kernel_rfl) (by rfl) ?_
                  apply Exists.intro
                  refine ⟨fun z' hz' => ?_, ?_⟩
                  · clear hz'
                    simp only [List.take_succ_cons, List.take_zero]
                    unfold Cx
                    repeat (go_big_quiet_step (fail))
                    exact wpQuiet_nil rfl
                  simp only [List.drop_succ_cons, List.drop_zero]
                  refine lex_nil ?_
                  intro x9 hx9 hH9
                  have mC9 := hx9.keep HmC.out (by simp; omega)
                  have bL0 := hH9 gL' _ (Blocks.put_same _ _ _)
                  have bF0 := hH9 gF' _ ((Blocks.put_other _ _ nLF).trans ((Blocks.put_other _ _ n59F).trans (Blocks.put_same _ _ _)))
                  have c9 := blk_cell mC9 1 rfl
                  have f9 := blk_free mC9 1
                  have hwr := wrote_cell (o := 1) (.slice (some ⟨gL', 0, none⟩) (s.L.length + 1) capL') mC9
                  have hb1 := behind_cell1 (o := 1) (v := .slice (some ⟨gL', 0, none⟩) (s.L.length + 1) capL') mC9
                  have bC := hwr.here
                  have bL := hb1.keep bL0 (by simp; omega)
                  have bF := hb1.keep bF0 (by simp; omega)
                  obtain ⟨X9, hX9⟩ : ∃ X9, X9 = x9.setCell ⟨gC, 1, none⟩ (.slice (some ⟨gL', 0, none⟩) (s.L.length + 1) capL') := ⟨_, rfl⟩
                  rw [← hX9] at bC bL bF hb1
                  have hx9l : Behind wl [gC, gL] X9 := by
                    have h1 : Behind wl [gC, gL] wr := (behind_of_below HB7.out).mono (by simp)
                    have h2 : Behind wl [gC, gL] x9 := h1.trans hx9 (fun k hk => by
                      simp only [List.mem_cons, List.not_mem_nil, or_false] at hk
                      rcases hk with rfl | rfl
                      · simp
                      · exact .inr hgeF)
                    exact h2.trans hb1 (fun k hk => by
                      simp only [List.mem_cons, List.not_mem_nil, or_false] at hk
                      subst hk
                      simp)
                  have hcF : OwnI X9 (w.heap.size + 1) (CodP.M { vL := .slice (some ⟨gL', 0, none⟩) (s.L.length + 1) capL', vH := .slice (some ⟨gH', 0, none⟩) (s.N + 1 + 1) capH', vI := .slice ia l.length ic, cl := cl5 ++ [.slice (some ⟨gF', 0, none⟩) (is.length + 1) capF'], ci := ci5 } gC) (.slice (some ⟨gF', 0, none⟩) (is.length + 1) capF') (is.map (fun y => -y) ++ [(s.N : Int) + 1]) := by
                    have e1 : (is.map (fun y => -y) ++ [(s.N : Int) + 1]).length = is.length + 1 := by simp
                    have e2 : ints (is.map (fun y => -y) ++ [(s.N : Int) + 1]) = ints (is.map fun y => -y) ++ [.int .i64 ((s.N : Int) + 1)] := by simp [ints]
                    refine ⟨?_, fun g hg => ?_, fun g hg => ?_⟩
                    · rw [e1, e2]; exact .row (hrF.of (B' := inW X9) bF)
                    · have : g = gF' := by simpa [rowBlk] using hg
                      omega
                    · have : g = gF' := by simpa [rowBlk] using hg
                      subst this
                      exact HE8.out.newL qF nLF
                  obtain ⟨hE9, hS9⟩ := HE8.out.add' (top' := X9.heap.size) (c := is.map (fun y => -y) ++ [(s.N : Int) + 1]) bC (.row (hrL.of (B' := inW X9) bL)) (fun g hg => by
                    have : g = gL' := by simpa [rowBlk] using hg
                    subst this
                    exact hgL2.imp (fun e => by simp [rowBlk, e]) id) hx9l (by omega) hcF (fun g hg => by
                    have : g = gF' := by simpa [rowBlk] using hg
                    subst this
                    exact lt_of_heap bF) hx9l.size
                  have HE9 := Lib.hid hE9
                  have HS9 := Lib.hid (HS8.out.trans hS9)
                  have HO9 := Lib.hid (HO8.out.step hS9)
                  have HX9 := Lib.hid hX9
                  clear hE9 hS9 hx9 hH9 hx9l hcF hrF hrL hgL2 bC bL bF bL0 bF0 hb1 hwr mC9 HE8 HS8 HO8 HB7 HmC HmL HmF HRL HRF HKF HK2 hkF' hk2' hX9 HVC
                  go_wp2_with fail
                  rw [← HX9.out]
                  clear c9 f9 HX9
                  obtain ⟨sA, hsA⟩ : ∃ sA, sA = (s.next (rawOf t)).add (is.map (fun y => -y) ++ [(s.N : Int) + 1]) := ⟨_, rfl⟩
                  have HSA := Lib.hid hsA
                  have hLA : sA.L.length = s.L.length + 1 := by rw [hsA]; simp [ESt.add, ESt.next]
                  rw [← hsA] at HE9
                  clear hsA
                  obtain ⟨w11, rfl⟩ : ∃ w11, w11 = wr := ⟨_, rfl⟩
                  go_loopw [17] (fun t17 wr => ∃ (q : Nat) (e : CodP), q ≤ is.length ∧ t17 = .int .i64 q ∧ Hid (CodAt (w.heap.size + 1) wr.heap.size gC e (sA.adds ((is.take q).map fun y => [-((s.N : Int) + 1), y])) wr) ∧ Hid (Step (e0.M gC) w4 (e.M gC) wr) ∧ Hid (OwnI wr x7.heap.size (e.M gC) (.slice (some ⟨vb, vo, none⟩) is.length vc) is))
                    (fun t17 _ => is.length - (intOf t17).toNat)
                  case atStart => exact ⟨0, _, Nat.zero_le _, rfl, HE9.out, HS9.out, HO9.out⟩
                  case round =>
                    obtain ⟨q, e9, hq2, rfl, HE5, HS5, HO5⟩ := hrel
                    clear HE9 HS9 HO9
                    by_cases hqi : q < is.length
                    · have hdq2 : decide (q < is.length) = true := by simpa using hqi
                      obtain ⟨y, hy⟩ : ∃ y, is[q]? = some y := ⟨_, List.getElem?_eq_getElem hqi⟩
                      obtain ⟨hy1, hy2⟩ := HISM.out y (List.mem_of_getElem? hy)
                      have HNX := Lib.hid (show (is.take (q + 1)).map (fun y => [-((s.N : Int) + 1), y]) = (is.take q).map (fun y => [-((s.N : Int) + 1), y]) ++ [[-((s.N : Int) + 1), y]] by rw [take_snoc_of hy, List.map_append]; rfl)
                      obtain ⟨s5, hs5⟩ : ∃ s5, s5 = sA.adds ((is.take q).map fun y => [-((s.N : Int) + 1), y]) := ⟨_, rfl⟩
                      have HS5' := Lib.hid hs5
                      have hL5 : s5.L.length ≤ 7000 := by rw [hs5, ESt.adds_len, List.length_map, List.length_take]; omega
                      have hL50 : 0 < s5.L.length := by rw [hs5, ESt.adds_len]; omega
                      rw [← hs5] at HE5
                      obtain ⟨vL5, vH5, vI5, cl5, ci5⟩ := e9
                      obtain ⟨gL, capL, curL, rfl, hRL⟩ := HE5.out.rC.pos hL50
                      obtain ⟨by', oy, hby, ey, hcy⟩ := own_cell HO5.out hy
                      cases ey
                      have hdn := (nd3.1 HE5.out.nd).1.1
                      have dCL : gC ≠ gL := by simpa [rowBlk] using hdn
                      have hbyM : vb ∉ [gC, gL] := fun hm => hby (by simp at hm; rcases hm with rfl | rfl <;> simp [CodP.M, rowBlk])
                      have HRL := Lib.hid hRL
                      have HmC := Lib.hid HE5.out.mC
                      have HmL := Lib.hid (show wr.heap[gL]? = some (.cells curL 30 (0, 0)) from hRL.blk)
                      have HCY := Lib.hid hcy
                      obtain ⟨k1, hk1⟩ : ∃ k1, k1 = if s5.L.length + 1 ≤ capL then 2 else 5 := ⟨_, rfl⟩
                      have hk1' : k1 = 2 ∨ k1 = 5 := by rw [hk1]; split <;> simp
                      have HK1 := Lib.hid hk1
                      have hlC := lt_of_heap HE5.out.mC
                      have hlL := lt_of_heap HmL.out
                      have hbr : w.heap.size + 1 ≤ wr.heap.size := Nat.le_trans hbw4 HS5.out.beh.size
                      clear hy hs5 hdn hRL hcy hk1 hby
                      go_wp2_with fail
                      refine wp_game [0, 0, 1, 0, 0, 0, 0, 0, 0, 3, 3, k1, 0, 0, 2] [gC, gL] _ (Fin.put (Fin.put fin_B0 _ _) _ _) (has_put (has_put (has_B0 _) HmL.out) HmC.out) (by kernel_rfl) (by rcases hk1' with h | h <;> rw [h] <;> kernel_rfl) ?_
                      refine lex_quietE 2 (by kernel_rfl) (by rfl) ?_
                      apply Exists.intro
                      refine ⟨fun z' hz' => ?_, ?_⟩
                      · clear hz'
                        simp only [List.take_succ_cons, List.take_zero]
                        unfold Cx
                        repeat (go_big_quiet_step (fail))
                        exact wpQuiet_nil rfl
                      simp only [List.drop_succ_cons, List.drop_zero]
                      refine lex_readE 1 wr (Behind.refl _ _) (has_put (has_put (has_B0 _) HmL.out) HmC.out) (by kernel_rfl) (by rfl) ?_
                      apply Exists.intro
                      refine ⟨fun z' hz' hB => ?_, ?_⟩
                      · have g0 := blk_cellp (hB gC _ (Blocks.put_same _ _ _)) 1 rfl
                        clear hz' hB
                        simp only [List.take_succ_cons, List.take_zero]
                        unfold Cx
                        repeat (go_big_quiet_step (fail))
                        exact wpQuiet_nil rfl
                      simp only [List.drop_succ_cons, List.drop_zero]
                      refine lex_quietE 6 (by kernel_rfl) (by rfl) ?_
                      apply Exists.intro
                      refine ⟨fun z' hz' => ?_, ?_⟩
                      · have g0 := behind_cellp hz' HCY.out hbyM
                        clear hz'
                        simp only [List.take_succ_cons, List.take_zero]
                        unfold Cx
                        repeat (go_big_quiet_step (fail))
                        exact wpQuiet_nil rfl
                      simp only [List.drop_succ_cons, List.drop_zero]
                      refine lex_slice 2 (.cells #[.int .i64 (-((s.N : Int) + 1)), .int .i64 (y)] 3) (by rfl) (fun x => by go_simp) (fun g93 q93 hn93 => ?_)
                      unfold setSlot
                      go_big_quiet_step (fail)
                      refine wpQuiet_nil ?_
                      refine lex_slice 1 (.cells #[.slice (some ⟨g93, 0, none⟩) 2 2] 30) (by rfl) (fun x => by go_simp) (fun g94 q94 hn94 => ?_)
                      unfold setSlot
                      go_big_quiet_step (fail)
                      refine wpQuiet_nil ?_
                      have n9394 : g93 ≠ g94 := fun e => by rw [← e, Blocks.put_same] at hn94; cases hn94
                      have n94C : gC ≠ g94 := by omega
                      have n94L : gL ≠ g94 := by omega
                      have n93C : gC ≠ g93 := by omega
                      have n93L : gL ≠ g93 := by omega
                      clear hn93 hn94
                      refine lex_append (.tmp 171) (.tmp 179) 41 30 r0 _ 1 24 Try.underlying41 ri rz0 rz1 rz2 (by rfl) gL s5.L.length capL cl5 curL (HRL.out.of ((Blocks.put_other _ _ n94L).trans ((Blocks.put_other _ _ n93L).trans ((Blocks.put_other _ _ (Ne.symm dCL)).trans (Blocks.put_same _ _ _))))) (by rfl) g94 1 1 [.slice (some ⟨g93, 0, none⟩) 2 2] 30 (by rfl) (Blocks.put_same _ _ _) rfl (by simp [Value.oneCell'])
                        (by unfold maxLen; omega) (by omega) (.inl (by simp)) HK1.out (fun gL' capL' curL' hrL hgL => ?_)
                      unfold setSlot
                      go_big_quiet_step (fail)
                      refine wpQuiet_nil ?_
                      have nLC : gC ≠ gL' := by
                        rcases hgL with rfl | ⟨h, _⟩
                        · exact dCL
                        · omega
                      have nL93 : g93 ≠ gL' := by
                        rcases hgL with rfl | ⟨_, h⟩
                        · omega
                        · intro e
                          rw [← e, Blocks.put_other _ _ n9394, Blocks.put_same] at h
                          cases h
                      refine lex_quietE 2 (by kernel_rfl) (by rfl) ?_
                      apply Exists.intro
                      refine ⟨fun z' hz' => ?_, ?_⟩
                      · clear hz'
                        simp only [List.take_succ_cons, List.take_zero]
                        unfold Cx
                        repeat (go_big_quiet_step (fail))
                        exact wpQuiet_nil rfl
                      simp only [List.drop_succ_cons, List.drop_zero]
                      refine lex_store_part gC 1 (.slice (some ⟨gL', 0, none⟩) (s5.L.length + 1) capL') #[.int .i64 0, .slice (some ⟨gL, 0, none⟩) s5.L.length capL, vH5, vI5] #[.int .i64 0, .slice (some ⟨gL', 0, none⟩) (s5.L.length + 1) capL', vH5, vI5] 51 (by rfl) (by rfl) (by rfl) ((Blocks.put_other _ _ nLC).trans ((Blocks.put_other _ _ n94C).trans ((Blocks.put_other _ _ n93C).trans (Blocks.put_same _ _ _)))) (by simp [Value.cells]) rfl (fun i hi => by
                        have : i = 0 ∨ i = 1 ∨ i = 2 ∨ i = 3 := by simp at hi; omega
                        rcases this with rfl | rfl | rfl | rfl <;> rfl) (Or.inl (by simp)) (by kernel_rfl) (by simp [Value.oneCell', Value.cells]) ?_
                      refine lex_nil ?_
                      intro x7' hx7 hH7
                      have bC := hH7 gC _ (Blocks.put_same _ _ _)
                      have bL := hH7 gL' _ ((Blocks.put_other _ _ (Ne.symm nLC)).trans (Blocks.put_same _ _ _))
                      have b93 := hH7 g93 _ ((Blocks.put_other _ _ (Ne.symm n93C)).trans ((Blocks.put_other _ _ nL93).trans ((Blocks.put_other _ _ n9394).trans (Blocks.put_same _ _ _))))
                      obtain ⟨hE6, hS6⟩ := HE5.out.add' (top' := x7'.heap.size) (c := [-((s.N : Int) + 1), y]) bC (.row (hrL.of (B' := inW x7') bL)) (fun g hg => by
                        have : g = gL' := by simpa [rowBlk] using hg
                        subst this
                        exact hgL.imp (fun e => by simp [rowBlk, e]) (fun e => e.1)) hx7 hbr (OwnI.block (c := [-((s.N : Int) + 1), y]) b93 (by simp) (by omega) (HE5.out.newL q93 nL93)) (fun g hg => by
                        have : g = g93 := by simpa [rowBlk] using hg
                        subst this
                        exact lt_of_heap b93) hx7.size
                      have HE6 := Lib.hid hE6
                      have HS6 := Lib.hid (HS5.out.trans hS6)
                      have HO6 := Lib.hid (HO5.out.step hS6)
                      clear hE6 hS6 bC bL b93 hx7 hH7 hrL hgL HE5 HS5 HO5 HmC HmL HRL HCY HK1 hk1'
                      go_wp2_with fail
                      go_roundw
                      case rel => exact ⟨q + 1, _, by omega, by go_num, by rw [HNX.out, ESt.adds_snoc, ← HS5'.out]; exact HE6.out, HS6.out, HO6.out⟩
                      case measure => simp [intOf]; omega
                    · obtain rfl : q = is.length := by omega
                      have hrow : s.row (gnet l) j (gvar x) r (rawOf t) = sA.adds ((is.take is.length).map fun y => [-((s.N : Int) + 1), y]) := by
                        rw [List.take_length, HSA.out, HIS.out]
                        unfold ESt.row
                        rw [HSIR.out]
                      have HROW := Lib.hid hrow
                      clear hrow
                      go_wp2_with fail
                      go_roundw
                      case rel => exact ⟨r + 1, e9, by omega, by go_num, by rw [HRW.out, HROW.out]; exact HE5.out, HS5.out⟩
                      case measure => simp [intOf]; omega
            · obtain rfl : r = x.ts.length := by omega
              have hdr : decide (x.ts.length < x.ts.length) = false := by simp
              go_wp2_with fail
              go_roundw
              case rel => exact ⟨j + 1, e6, by omega, by go_num, by rw [HTB.out, HTL.out]; exact HE6.out, HS6.out⟩
              case measure => simp [intOf]; omega
        · obtain rfl : j = l.length := by omega
          have hd2 : decide (l.length < l.length) = false := by simp
          have hSN : ((sV.tables (gnet l) l.length)).N ≤ 128 := by
            have h1 := HNT.out l.length (Nat.le_refl _)
            have h2 := HF.out.vb
            rw [varsOf_sum] at h2
            rw [List.take_of_length_le (by simp [gnet])] at h1
            omega
          rw [← HENC.out] at HE2 hSN
          obtain ⟨S, hS⟩ : ∃ S, S = encOf (gnet l) := ⟨_, rfl⟩
          have HSE := Lib.hid hS
          rw [← hS] at HE2 hSN
          obtain ⟨vL5, vH5, vI5, cl5, ci5⟩ := e2
          obtain ⟨hp, hpc, rfl⟩ := HE2.out.rH.slice
          obtain ⟨la, lc, rfl⟩ := HE2.out.rC.slice
          obtain ⟨ia, ic, rfl⟩ := HE2.out.rI.slice
          have mC := HE2.out.mC
          have mR := HS2.out.beh.keep M2.out HM0.out
          have hlR := lt_of_heap mR
          have nCR : w.heap.size ≠ gC := fun e => by have := HE2.out.ge gC (by simp [CodP.M]); omega
          have hw0 := wrote_cell (o := 0) (.int .i64 (S.N : Nat)) mC
          have hb0 := behind_cell1 (o := 0) (v := .int .i64 (S.N : Nat)) mC
          have mR2 := hb0.keep mR (by simp; exact nCR)
          have mC2 := hw0.here
          obtain ⟨mz, hbz⟩ := four_set (.int .i64 (S.N : Nat)) (.slice la S.L.length lc) (.slice hp (S.N + 1) hpc) (.slice ia S.ind.length ic) mR2
          have hbx := (hb0.mono (Wr' := [gC, w.heap.size]) (by simp)).trans hbz (fun k hk => .inl (by simp at hk; simp [hk]))
          have hout := HE2.out.out hbx (Nat.lt_succ_self _)
          have hbel := (HX.out _ _ HS2.out).trans (hbx.below_of (b := w.heap.size) (fun k hk => by
            simp only [List.mem_cons, List.not_mem_nil, or_false] at hk
            have := HE2.out.ge gC (by simp [CodP.M])
            rcases hk with h | h <;> omega) (HX.out _ _ HS2.out).size)
          have c0 := blk_cell mC 0 rfl
          have c1 := blk_cell mC 1 rfl
          have c2 := blk_cell mC 2 rfl
          have c3 := blk_cell mC 3 rfl
          have f0 := blk_free mC 0
          have r0' := blk_cell mR 0 rfl
          have r1' := blk_cell mR 1 rfl
          have r2' := blk_cell mR 2 rfl
          have r3' := blk_cell mR 3 rfl
          have fr0 := blk_free mR 0
          have fr1 := blk_free mR 1
          have fr2 := blk_free mR 2
          have fr3 := blk_free mR 3
          have z0 := Lib.hid (blk_cell mz 0 rfl)
          have z1 := Lib.hid (blk_cell mz 1 rfl)
          have z2 := Lib.hid (blk_cell mz 2 rfl)
          have z3 := Lib.hid (blk_cell mz 3 rfl)
          have HOUT := Lib.hid hout
          have HBEL := Lib.hid hbel
          clear hS mC mR hw0 hb0 mR2 mC2 mz hbz hbx hout hbel
          go_wp2_with fail
          have y0 := z0.out
          have y1 := z1.out
          have y2 := z2.out
          have y3 := z3.out
          obtain ⟨⟨la', lc', hla, hLA⟩, ⟨ha, hac, hha, hHA⟩, ⟨ia', ic', hia, hIA⟩⟩ := HOUT.out
          cases hla
          cases hha
          cases hia
          exact bodyPost_ret (v := .tuple #[.agg #[.int .i64 (S.N : Nat), .slice la S.L.length lc, .slice hp (S.N + 1) hpc, .slice ia S.ind.length ic], .int .i64 0]) (by simp [results, Try.results18, go_sem, y0, y1, y2, y3]) rfl (by
            rw [HR.out]
            refine ⟨HBEL.out, .inr ⟨HC0.out, la, lc, hp, hpc, ia, ic, ?_, ?_, ?_, ?_⟩⟩
            · rw [← HSE.out]
            · rw [← HSE.out]; exact hLA
            · rw [← HSE.out]; exact hHA
            · rw [← HSE.out]; exact hIA)
end Go.Proofs.Ytbacloneddnaeaa
