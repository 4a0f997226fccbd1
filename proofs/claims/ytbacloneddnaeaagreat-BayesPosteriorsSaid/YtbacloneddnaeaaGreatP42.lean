/- Texts of this claim, joined: BPstX, BPstW. -/
import Derived.Test.YtbacloneddnaeaaGreatP40
import Derived.Test.YtbacloneddnaeaaGreatP41

/- censusref40.Posterior: the walk. -/
namespace Go.Proofs.YtbacloneddnaeaaGreat
open Go.RowKit Go.Shelf Num

theorem Tryz.infoXRat : (Tryz.prog.info? 69).map (fun i => (i.zero, i.size, i.bytes)) = some (some (.agg #[.string { data := #[] }, .string { data := #[] }]), 2, 32) := by kernel_rfl
theorem Tryz.infoTxt : (Tryz.prog.info? 9).map (fun i => (i.zero, i.size, i.bytes)) = some (some (.string { data := #[] }), 1, 16) := by kernel_rfl

section
variable (p q : Nat × Nat) (hp : Sm 200000 p) (hq : Sm 200000 q) (lp : Q.Low p)
include hp hq lp
theorem gXDiv3 (h : 0 < q.1) : Gives 35 #[xratV p, xratV q] (.tuple #[xratV (Q.div p q), .bool true]) := by
  obtain ⟨h1, h2⟩ := hp
  obtain ⟨h3, h4⟩ := hq
  have e1 := nl_mul p.1 q.2
  have e3 := nl_mul p.2 q.1
  have s1 := dec_nl p.1 200000 (by omega) h1
  have s2 := dec_nl p.2 200000 (by omega) h2
  have s3 := dec_nl q.1 200000 (by omega) h3
  have s4 := dec_nl q.2 200000 (by omega) h4
  exact w_xdiv_n _ _ _ _ _ _ _ _ true (dec_toList_ne (by omega)) (gXMul _ _ (by omega) (by omega)) (gXMul _ _ (by omega) (by omega)) (gXNew _ _ (by omega) (by omega) (Nat.mul_pos lp.1 h))
end
theorem div_sm {p q : Nat × Nat} (hp : Sm 200000 p) (hq : Sm 200000 q) : Sm 400000 (Q.div p q) ∧ (0 < p.2 → 0 < q.1 → 0 < (Q.div p q).2) := by
  obtain ⟨h1, h2⟩ := hp
  obtain ⟨h3, h4⟩ := hq
  have e1 := nl_mul p.1 q.2
  have e3 := nl_mul p.2 q.1
  have a1 := nl_mono (Nat.div_le_self (p.1 * q.2) (Nat.gcd (p.1 * q.2) (p.2 * q.1)))
  have a2 := nl_mono (Nat.div_le_self (p.2 * q.1) (Nat.gcd (p.1 * q.2) (p.2 * q.1)))
  refine ⟨⟨?_, ?_⟩, fun k1 k2 => ?_⟩
  · show nl (p.1 * q.2 / Nat.gcd (p.1 * q.2) (p.2 * q.1)) ≤ 400000
    omega
  · show nl (p.2 * q.1 / Nat.gcd (p.1 * q.2) (p.2 * q.1)) ≤ 400000
    omega
  · exact Nat.div_pos (Nat.le_of_dvd (Nat.mul_pos k1 k2) (Nat.gcd_dvd_right _ _)) (Nat.gcd_pos_of_pos_right _ (Nat.mul_pos k1 k2))

def xrats (l : List (Nat × Nat)) : List Value := l.flatMap fun p => [.string (dec p.1), .string (dec p.2)]
theorem xrats_snoc (l : List (Nat × Nat)) (p : Nat × Nat) : xrats (l ++ [p]) = xrats l ++ [.string (dec p.1), .string (dec p.2)] := by simp [xrats]
theorem xrats_get : ∀ {l : List (Nat × Nat)} {i : Nat} {p : Nat × Nat}, l[i]? = some p → (xrats l)[i * 2]? = some (.string (dec p.1)) ∧ (xrats l)[i * 2 + 1]? = some (.string (dec p.2))
  | [], _, _, h => by simp at h
  | q :: l, 0, p, h => by
    simp at h; subst h
    exact ⟨rfl, rfl⟩
  | q :: l, i + 1, p, h => by
    have h' : l[i]? = some p := by simpa using h
    obtain ⟨h1, h2⟩ := xrats_get h'
    have e : xrats (q :: l) = .string (dec q.1) :: .string (dec q.2) :: xrats l := rfl
    rw [e, show (i + 1) * 2 = (i * 2 + 1) + 1 by omega]
    exact ⟨h1, h2⟩

structure OwnT (w : World) (b : Nat) (M : List Nat) (E : TypeId) (size : Nat) (v : Value) (n : Nat) (xs : List Value) : Prop where
  row : RowV (inW w) E size v n xs
  ge : ∀ g ∈ rowBlk v, b ≤ g
  out : ∀ g ∈ rowBlk v, g ∉ M
theorem OwnT.keep {w w' : World} {b : Nat} {M U : List Nat} {E : TypeId} {size : Nat} {v : Value} {n : Nat} {xs : List Value} (h : OwnT w b M E size v n xs) (hb : Behind w U w') (hU : ∀ g ∈ U, g ∈ M ∨ w.heap.size ≤ g) : OwnT w' b M E size v n xs :=
  ⟨h.row.keep hb (fun g hg hm => (hU g hm).elim (h.out g hg) (fun e => by have := h.row.lt g hg; omega)), h.ge, h.out⟩
theorem OwnT.grow {w w' : World} {b : Nat} {M : List Nat} {E : TypeId} {size : Nat} {v v' : Value} {n m : Nat} {xs ys : List Value} {top : Nat} (h : OwnT w b M E size v n xs) (hb : b ≤ top) (hM : ∀ g ∈ M, g < top) (hr : RowV (inW w') E size v' m ys) (hn : ∀ g ∈ rowBlk v', g ∈ rowBlk v ∨ top ≤ g) : OwnT w' b M E size v' m ys :=
  ⟨hr, fun g hg => (hn g hg).elim (h.ge g) (fun e => by omega), fun g hg hm => (hn g hg).elim (fun e => h.out g e hm) (fun e => by have := hM g hm; omega)⟩
theorem OwnT.at' {w : World} {b : Nat} {M : List Nat} {E : TypeId} {size : Nat} {v : Value} {n : Nat} {xs : List Value} (h : OwnT w b M E size v n xs) : ∃ a c, v = .slice a n c ∧ AtN w.heap.size w a xs := by
  obtain ⟨a, c, h1, h2, _⟩ := OutN.row (M := []) h.row (by simp)
  exact ⟨a, c, h1, fun i v hi => by
    obtain ⟨g, o, _, e, k⟩ := h2 i v hi
    exact ⟨g, o, block_lt_of_cell k, e, k⟩⟩

theorem wpList_append_cp {P : Program} {ops : Array Oper} {rest : List Oper} {o : Oper} {a : Act} {Q : Exit → Act → World → Prop} (w : World) (hgd : o.guard = none) (s x : Operand) (t : TypeId) (ho : o.op = .call { callee := .builtin .append, args := #[s, x], argTypes := #[t, t] })
    (E : TypeId) (i : TypeInfo) (z : Value) (size bytes : Nat) (ht : P.underlying t = some (.slice E)) (hi : P.info? E = some i) (hz : i.zero = some z) (hsize : i.size = size) (hby : i.bytes = bytes) (hzs : z.cells.size = size)
    (g : Nat) (hs : a.eval s = .slice (some ⟨g, 0, none⟩) 0 0) (ad : Addr) (m c2 : Nat) (news : List Value) (hx : a.eval x = .slice (some ad) m c2) (hnews : ∀ j u, news[j]? = some u → w.cell? (ad.add j) = some u) (hl : news.length = m * size) (h0 : 0 < m)
    (h63 : m ≤ maxLen) (hbytes : m * bytes ≤ 140737488355328)
    (h : ∀ g' cap' cur' w', RowB (inW w') E size g' m cap' news cur' → Below w.heap.size w w' → w.heap.size ≤ g' → wpList P ops Q rest (a.put o.dst (.slice (some ⟨g', 0, none⟩) m cap')) w') : wpList P ops Q (o :: rest) a w := by
  subst hsize hby
  refine wpList_plain hgd fun _ hK => ?_
  have hr := run_append_grow (P := P) w t o.type E i z ht hi hz ⟨g, 0, none⟩ 0 0 [] (by simp) (fun j v hj => by simp at hj) ad m c2 news hl hnews (by omega) (by simp only [maxLen] at h63; omega) (growslice_fits (by omega) (by rw [Nat.zero_add]; exact hbytes))
  simp only [Nat.zero_add, List.nil_append] at hr
  unfold Oper.wp execOp
  simp only [ho, resolve, invoke, builtin, Sem.run_bind, Sem.run_pure, Result.andThen_ok, List.map_toArray, List.map_cons, List.map_nil, hs, hx, hr]
  refine hK _ _ (h _ _ _ _ ⟨heap_alloc_new w.drew _, grownCap_ge w m 0 E, grownCap_le_maxLen w m 0 E h63, ?_, ?_, hl⟩ ((Below.refl _ w).drew.alloc (by simp) _) (by simp))
  · simp only [Array.size_append, List.size_toArray, List.length_nil, Nat.zero_add, size_zeroCells, hzs, hl, ← Nat.add_mul]
    have := grownCap_ge w m 0 E
    congr 1
    omega
  · simp only [List.nil_append, Array.toList_append]
    rw [← hl]
    exact List.take_left

theorem copy_set {w W1 : World} {g cap i j : Nat} {vs : List Int} {cur : Array Value} (hrow : RowB (inW w) 3 1 g vs.length cap (ints vs) cur) (hi : i < vs.length) (hW : W1 = w.setCell ⟨g, i, none⟩ (.int .i64 (j : Int))) : AtN W1.heap.size W1 (some ⟨g, 0, none⟩) (ints (vs.set i (j : Int))) := by
  have hblk : w.heap[g]? = some (.cells cur 3 (0, 0)) := hrow.blk
  have hwr := wrote_cell (o := i) (.int .i64 (j : Int)) hblk
  rw [← hW] at hwr
  have hg := lt_of_heap hwr.here
  have htk := hrow.tk
  rw [Nat.mul_one] at htk
  have hCU : (cur.setIfInBounds i (.int .i64 j)).toList.take vs.length = ints (vs.set i (j : Int)) := by
    rw [Array.toList_setIfInBounds, List.take_set, htk]
    simp [ints, List.map_set]
  intro m v hv
  refine ⟨g, 0, hg, rfl, ?_⟩
  rw [Nat.zero_add]
  refine blk_cell hwr.here m ?_
  rw [← hCU] at hv
  have hm : m < vs.length := by
    have := (List.getElem?_eq_some_iff.1 hv).1
    simp at this; omega
  rw [List.getElem?_take, if_pos hm, Array.getElem?_toList] at hv
  exact hv

set_option maxHeartbeats 2000000 in
set_option maxRecDepth 100000 in
theorem xPosterior_law (N : Nat) (l : List RV) (ev : List Int) (a va : Option Addr) (c vc : Nat) (v : Int) (hl : Lit l) (hct : checkE (gnet l) = 0 → (allV (ksOf (gnet l))).length ≤ 300) (hvl : ev.length ≤ 100) (w : World) (hN : RefAt N w a l) (hV : AtN N w va (ints ev)) (hw : N ≤ w.heap.size) :
    Calls Tryz.prog 13 #[.slice a l.length c, .slice va ev.length vc, .int .i64 v] w fun e w' => ∃ (sa : Option Addr) (sc : Nat), e = .returned (.tuple #[.slice sa (postX (gnet l) ev v).1.length sc, .int .i64 (postX (gnet l) ev v).2]) ∧ AtN w'.heap.size w' sa (strs (postX (gnet l) ev v).1) ∧ Below w.heap.size w w' := by
  obtain ⟨R, hR⟩ : ∃ R : Ending → World → Prop, R = fun e w' => ∃ (sa : Option Addr) (sc : Nat), e = .returned (.tuple #[.slice sa (postX (gnet l) ev v).1.length sc, .int .i64 (postX (gnet l) ev v).2]) ∧ AtN w'.heap.size w' sa (strs (postX (gnet l) ev v).1) ∧ Below w.heap.size w w' := ⟨_, rfl⟩
  rw [← hR]
  have HR := Lib.hid hR
  clear hR
  have HL := Lib.hid hl
  have HN := Lib.hid hN
  have HV := Lib.hid hV
  have HW := Lib.hid hw
  have HCT := Lib.hid hct
  have hll := hl.len
  have KO : Gives 33 #[] (.agg #[.string (dec 0), .string (dec 1)]) := gXZero
  clear hl hN hV hw hct
  go_enter Tryz.func13, Tryz.ntmps13
  go_wp2_with fail
  refine (xcheck_law N l a c HL.out w HN.out HW.out).mono ?_
  rintro r1 w1 ⟨rfl, hB1⟩
  have HB1 := Lib.hid hB1
  clear hB1
  by_cases hc : checkE (gnet l) ≠ 0
  · have HE : Hid (postX (gnet l) ev v = ([], checkE (gnet l))) := if_pos hc
    obtain ⟨E, hE⟩ : ∃ E, E = checkE (gnet l) := ⟨_, rfl⟩
    have HEE := Lib.hid hE
    rw [← hE] at hc ⊢
    have hc1 : (E == 0) = false := beq_no hc
    have hc2 : (E != 0) = true := by simp [bne, hc1]
    clear hE
    go_wp2_with fail
    rw [HR.out, HE.out, ← HEE.out]
    exact ⟨none, 0, rfl, fun i v h => by simp [strs] at h, HB1.out⟩
  have hc0 : checkE (gnet l) = 0 := Classical.not_not.1 hc
  have HC0 := Lib.hid hc0
  rw [hc0]
  clear hc hc0
  go_wp2_with fail
  refine (xallowed_law N l ev a va c vc true (by omega) hvl w1 (HN.out.below HB1.out HW.out) (HV.out.below HB1.out HW.out) (Nat.le_trans HW.out HB1.out.size)).mono ?_
  rintro r2 w2 ⟨rfl, hB2⟩
  have HB2 := Lib.hid (HB1.out.trans (hB2.mono HB1.out.size))
  rw [show leastOf true = -1 from rfl]
  have hgl : (gnet l).length = l.length := by simp [gnet]
  have HGL := Lib.hid hgl
  clear hB2 HB1 hgl
  have shut : allowedB (gnet l) ev (-1) = false ∨ v < 0 ∨ (l.length : Int) ≤ v → Hid (postX (gnet l) ev v = ([], 1)) := fun h => by
    unfold Hid postX
    rw [if_neg (by rw [HC0.out]; simp), if_pos (by rw [HGL.out]; exact h)]
  cases ha : allowedB (gnet l) ev (-1) with
  | false =>
    have HE := shut (.inl ha)
    clear ha shut
    go_wp2_with fail
    rw [HR.out, HE.out]
    exact ⟨none, 0, rfl, fun i v h => by simp [strs] at h, HB2.out⟩
  | true =>
    by_cases hv0 : v < 0
    · have HE := shut (.inr (.inl hv0))
      clear ha shut
      go_wp2_with fail
      rw [HR.out, HE.out]
      exact ⟨none, 0, rfl, fun i v h => by simp [strs] at h, HB2.out⟩
    by_cases hvn : (l.length : Int) ≤ v
    · have HE := shut (.inr (.inr hvn))
      clear ha shut
      go_wp2_with fail
      rw [HR.out, HE.out]
      exact ⟨none, 0, rfl, fun i v h => by simp [strs] at h, HB2.out⟩
    obtain ⟨i, rfl⟩ : ∃ i : Nat, v = i := ⟨v.toNat, by omega⟩
    have hil : i < l.length := by omega
    have hg := check_ok (lit_in HL.out) HC0.out
    have hal := (allowedP_of (by rw [ha]; simp)).1
    have hev : ev.length = l.length := by rw [hal, HGL.out]
    obtain ⟨x, hx⟩ : ∃ x, l[i]? = some x := ⟨_, List.getElem?_eq_getElem hil⟩
    obtain ⟨d, hdv⟩ : ∃ d, ev[i]? = some d := ⟨_, List.getElem?_eq_getElem (by rw [hev]; exact hil)⟩
    obtain ⟨b, o, pa, pc, ta, tc, hb, rfl, k0, _⟩ := HN.out i x hx
    obtain ⟨eb, eo, heb, rfl, hce⟩ := HV.out i _ (ints_get _ _ _ hdv)
    have hkb := hg.kb i (gvar x) (gnet_get hx)
    obtain ⟨K, hK⟩ : ∃ K : Nat, x.k = K := ⟨x.k.toNat, by have : x.k = (gvar x).k := rfl; omega⟩
    have hka : kAt (gnet l) i = K := by rw [kAt_of (gnet_get hx)]; show x.k.toNat = K; omega
    have hK8 : K ≤ 8 := by have : x.k = (gvar x).k := rfl; omega
    have hK1 : 1 ≤ K := by have : x.k = (gvar x).k := rfl; omega
    rw [hK] at k0
    have HX := Lib.hid (postX_main HC0.out ha (by rw [HGL.out]; exact hil) hka)
    have hct := HCT.out HC0.out
    have HPS := Lib.hid (fun j => partsV_sums hg hct (ev := ev) (v := i) (K := K) hK8 j)
    have HPM := Lib.hid (partsV_sm hg hct (ev := ev) (v := i) (K := K))
    have HPG := Lib.hid (fun (j : Nat) (h : j < K) => partsV_get (l := gnet l) (ev := ev) (v := i) h)
    have HPL := Lib.hid (partsV_length (gnet l) ev i K)
    have HG := Lib.hid hg
    have HEV := Lib.hid hev
    have HCT2 := Lib.hid hct
    have K0 := Lib.hid k0
    have hie : i < ev.length := by rw [hev]; exact hil
    have hbw : b < w.heap.size := by have := HW.out; omega
    have hebw : eb < w.heap.size := by have := HW.out; omega
    obtain ⟨i0, ii, iz0, iz1, iz2⟩ := info_parts Tryz.infoInt
    obtain ⟨r0, ri, rz0, rz1, rz2⟩ := info_parts Tryz.infoXRat
    obtain ⟨s0, si, sz0, sz1, sz2⟩ := info_parts Tryz.infoTxt
    generalize hPV : partsV (gnet l) ev i K = PV at *
    have HPLEN := Lib.hid HPL.out
    clear hPV hg hal hdv hce hkb hK hka hct k0 hx shut HPL hev
    go_wp2_with fail
    refine (KO _).mono ?_
    rintro r3 w3 ⟨rfl, hB3⟩
    have HB3 := Lib.hid (HB2.out.trans (hB3.mono HB2.out.size))
    clear hB3 HB2
    go_wp2_with fail
    refine wp_gen ?_
    intro w4 hw4
    have m10 : w4.heap[w3.heap.size]? = some (.cells #[.string (dec 0), .string (dec 1)] 69 (0, 0)) := by rw [hw4]; exact heap_alloc_new w3 _
    have hb4 : Below w3.heap.size w3 w4 := by rw [hw4]; exact below_one _ _
    have HB4 := Lib.hid (HB3.out.trans (hb4.mono HB3.out.size))
    obtain ⟨gA, hgA⟩ : ∃ gA, gA = w3.heap.size := ⟨_, rfl⟩
    have hlA : w.heap.size ≤ gA := by rw [hgA]; exact HB3.out.size
    rw [← hgA] at m10 ⊢
    have M10 := Lib.hid m10
    clear hw4 m10 hb4 HB3 hgA
    go_loopw [9, 11] (fun t9 t11 wr => ∃ j : Nat, j ≤ K ∧ t11 = .int .i64 j ∧ Hid (OwnT wr w.heap.size [gA] 69 2 t9 j (xrats (PV.take j))) ∧ Hid (wr.heap[gA]? = some (.cells #[.string (dec (Q.sumL (PV.take j)).1), .string (dec (Q.sumL (PV.take j)).2)] 69 (0, 0))) ∧ Hid (Below w.heap.size w wr))
      (fun _ t11 _ => K - (intOf t11).toNat)
    case atStart => exact ⟨0, Nat.zero_le _, rfl, ⟨.nil, by simp [rowBlk], by simp [rowBlk]⟩, M10.out, HB4.out⟩
    case round =>
      obtain ⟨j, hj, rfl, HO, HA, HB⟩ := hrel
      clear M10 HB4
      have c0 := below_cell HB.out hbw K0.out
      by_cases hlt : j < K
      · have hdk : decide ((j : Int) < (K : Int)) = true := by simp; omega
        go_wp2_with (at_builtin; refine wpList_append_cp _ rfl _ _ 23 rfl 3 i0 (.int .i64 0) 1 8 Tryz.underlying23 ii iz0 iz1 iz2 rfl _ rfl _ _ _ (ints ev) rfl (fun j u hj => by
            obtain ⟨eb', eo', h1, e, h3⟩ := HV.out j u hj
            cases e
            rw [Addr.add_lit]
            exact below_cell (HB.out.trans ((below_one _ _).mono HB.out.size)) hebw h3) (by simp [ints]) (by omega) (by unfold maxLen; omega) (by omega) ?_)
        intro g1 cap cur w5 hrow hbe hg1
        have hg1' : wr.heap.size ≤ g1 := by first | omega | (simp at hg1; omega)
        have hB5 : Below wr.heap.size wr w5 := (below_one wr _).trans (hbe.mono (by simp))
        have mO : w5.heap[g1]? = some (.cells cur 3 (0, 0)) := hrow.blk
        have hcs : cur.size = cap := by have := hrow.sz; omega
        have hcap := hrow.le
        have hci : cur[i]? = some (cur[i]'(by omega)) := Array.getElem?_eq_getElem (by omega)
        have cb := blk_cell mO i hci
        have fb := blk_free mO i
        obtain ⟨W6, hW6⟩ : ∃ W6, W6 = w5.setCell ⟨g1, i, none⟩ (.int .i64 (j : Int)) := ⟨_, rfl⟩
        have hB6 : Below wr.heap.size wr W6 := by rw [hW6]; exact hB5.setCell hg1' _
        have hA6 := copy_set hrow hie hW6
        have HOX := Lib.hid (HO.out.keep (behind_of_below hB6) (by simp))
        have HAX := Lib.hid ((behind_of_below hB6).keep HA.out (by simp))
        have HBX := Lib.hid (HB.out.trans (hB6.mono HB.out.size))
        have KS := xask_law W6.heap.size l (ev.set i (j : Int)) (some ⟨b, o, none⟩) (some ⟨g1, 0, none⟩) c cap HL.out HG.out (by rw [List.length_set, HEV.out]) HCT2.out W6 ((HN.out.below HBX.out HW.out).mono (Nat.le_trans HW.out HBX.out.size)) hA6 (Nat.le_refl _)
        rw [List.length_set] at KS
        have hpg := HPG.out j hlt
        have hps := HPS.out j
        have hpm := HPM.out _ (List.mem_of_getElem? hpg)
        have hsn := sumL_snoc (PV.take j) (askV (gnet l) (ev.set i (j : Int)) (allV (ksOf (gnet l))))
        rw [← take_snoc_of hpg] at hsn
        have hxs := xrats_snoc (PV.take j) (askV (gnet l) (ev.set i (j : Int)) (allV (ksOf (gnet l))))
        rw [← take_snoc_of hpg] at hxs
        generalize askV (gnet l) (ev.set i (j : Int)) (allV (ksOf (gnet l))) = S at *
        have KA : Gives 34 #[.agg #[.string (dec (Q.sumL (PV.take j)).1), .string (dec (Q.sumL (PV.take j)).2)], .agg #[.string (dec S.1), .string (dec S.2)]] (.agg #[.string (dec (Q.add (Q.sumL (PV.take j)) S).1), .string (dec (Q.add (Q.sumL (PV.take j)) S).2)]) := gXAdd3 _ _ hps.2 (hpm.2.mono (by omega)) hps.1 hpm.1
        rw [← hsn] at KA
        have HXS := Lib.hid hxs
        generalize Q.sumL (PV.take j) = T at *
        generalize hT2 : Q.sumL (PV.take (j + 1)) = T2 at *
        have HT2 := Lib.hid hT2
        clear hrow hbe hg1 hB5 mO hB6 hA6 HO HA HB hpg hps hpm hsn hxs hT2
        go_wp2_with fail
        rw [← hW6]
        clear cb fb hW6 c0
        refine KS.mono ?_
        rintro r7 w7 ⟨rfl, hB7⟩
        have HO7 := Lib.hid (HOX.out.keep (behind_of_below hB7) (by simp))
        have HA7 := Lib.hid ((behind_of_below hB7).keep HAX.out (by simp))
        have HB7 := Lib.hid (HBX.out.trans (hB7.mono HBX.out.size))
        clear KS hB7 HOX HAX HBX hci hcs
        have hl7 : ∀ g ∈ rowBlk u9, g < w7.heap.size := HO7.out.row.lt
        go_wp2_with (at_builtin; refine wpList_append_row _ rfl _ _ 78 rfl 69 r0 _ 2 32 Tryz.underlying78 ri rz0 rz1 rz2 rfl _ _ _ rfl (HO7.out.row.keep (behind_of_below (below_two w7 _ _)) (by simp)) _ 1 1 [.string (dec S.1), .string (dec S.2)] 69 rfl (by first | exact new_two2 w7 _ _ | exact new_one _ _) rfl (by intro u hu; simp at hu; rcases hu with rfl | rfl <;> rfl) (by omega) (by unfold maxLen; omega) (by omega) ?_)
        intro v9 w9 hr9 hB9 hn9
        have h79 : Behind w7 (rowBlk u9) w9 := ((behind_of_below (below_two w7 _ _)).mono (by simp)).trans hB9 (fun k hk => .inl hk)
        have hO9 := HO7.out.grow (top := w7.heap.size) HB7.out.size (by intro g hg; rw [List.mem_singleton.1 hg]; exact lt_of_heap HA7.out) hr9 (fun g hg => (hn9 g hg).imp id (fun h => by first | omega | (simp at h; omega)))
        rw [← HXS.out] at hO9
        have hA9 := h79.keep HA7.out (fun hm => HO7.out.out _ hm (by simp))
        have hS9 := hB9.keep (new_two1 w7 _ _) (fun hm => by have := hl7 _ hm; omega)
        have HO9 := Lib.hid hO9
        have HA9 := Lib.hid hA9
        have HB9 := Lib.hid (HB7.out.trans (h79.below_of (b := w.heap.size) HO7.out.ge HB7.out.size))
        have a0 := blk_cell hA9 0 rfl
        have a1 := blk_cell hA9 1 rfl
        have b0 := blk_cell hS9 0 rfl
        have b1 := blk_cell hS9 1 rfl
        clear hr9 hB9 hn9 h79 hO9 hA9 hS9 HO7 HA7 HB7 hl7
        go_wp2_with fail
        clear a0 a1 b0 b1
        refine (KA _).mono ?_
        rintro r8 w8 ⟨rfl, hB8⟩
        have mA := (behind_of_below hB8).keep HA9.out (by simp)
        have f0 := blk_free mA 0
        have f1 := blk_free mA 1
        have a0 := blk_cell mA 0 rfl
        have a1 := blk_cell mA 1 rfl
        have hw1 := wrote_cell (o := 0) (.string (dec T2.1)) mA
        have hw2 := wrote_cell (o := 1) (.string (dec T2.2)) hw1.here
        have hBB : Behind w8 [gA] ((w8.setCell ⟨gA, 0, none⟩ (.string (dec T2.1))).setCell ⟨gA, 1, none⟩ (.string (dec T2.2))) := ((Behind.refl w8 [gA]).wrote hw1 (.inl (by simp))).wrote hw2 (.inl (by simp))
        have HOZ := Lib.hid ((HO9.out.keep (behind_of_below hB8) (by simp)).keep hBB (by intro g hg; exact .inl hg))
        have hB89 := HB9.out.trans (hB8.mono HB9.out.size)
        have HBZ := Lib.hid (hB89.trans (hBB.below_of (b := w.heap.size) (by intro k hk; rw [List.mem_singleton.1 hk]; exact hlA) hB89.size))
        have HAZ := Lib.hid hw2.here
        clear hw1 hw2 hBB hB89 hB8 HO9 HA9 HB9 mA
        go_wp2_with fail
        go_roundw
        case rel => exact ⟨j + 1, by omega, by go_num, HOZ.out, by rw [HT2.out]; exact HAZ.out, HBZ⟩
        case measure => simp [intOf]; omega
      · obtain rfl : j = K := by omega
        have hdk : decide ((j : Int) < (j : Int)) = false := by simp
        have hPVl : PV.length = j := HPLEN.out
        have hal := HO.out
        rw [List.take_of_length_le (by omega)] at hal
        have hA := HA.out
        rw [List.take_of_length_le (by omega)] at hA
        obtain ⟨sp, spc, rfl, hAP⟩ := hal.at'
        have hps := HPS.out j
        rw [List.take_of_length_le (by omega)] at hps
        obtain ⟨wB, hwB⟩ : ∃ wB, wB = wr := ⟨_, rfl⟩
        have HAP := Lib.hid hAP
        have HA0 := Lib.hid hA
        have HBS := Lib.hid HB.out
        have hgA := lt_of_heap hA
        have A0 := Lib.hid (blk_cell hA 0 rfl)
        have A1 := Lib.hid (blk_cell hA 1 rfl)
        clear hal hAP hA HO HA HB hPVl
        subst hwB
        by_cases hz : (Q.sumL PV).1 = 0
        · have HE := Lib.hid (HX.out.trans (if_pos hz))
          have HZ := Lib.hid hz
          clear hz
          go_wp2_with fail
          go_loopw [14, 15] (fun t14 t15 wq => t14 = .slice none 0 0 ∧ t15 = .int .i64 0 ∧ Hid (Below wB.heap.size wB wq)) (fun _ _ _ => 0)
          case atStart => exact ⟨rfl, rfl, Below.refl _ _⟩
          case round =>
            obtain ⟨rfl, rfl, HB⟩ := hrel
            obtain ⟨p, hp⟩ : ∃ p, PV[0]? = some p := ⟨_, HPG.out 0 (by omega)⟩
            have hpm := HPM.out p (List.mem_of_getElem? hp)
            have KD : Gives 35 #[.agg #[.string (dec p.1), .string (dec p.2)], .agg #[.string (dec (Q.sumL PV).1), .string (dec (Q.sumL PV).2)]] (.tuple #[.agg #[.string (dec 0), .string (dec 1)], .bool false]) := gXDivZ2 p _ HZ.out
            obtain ⟨pb, po, hpb, rfl, p0⟩ := HAP.out _ _ (xrats_get hp).1
            obtain ⟨pb', po', _, e', p1⟩ := HAP.out _ _ (xrats_get hp).2
            cases e'
            have P0 := Lib.hid (show wB.cell? ⟨pb, po, none⟩ = some (.string (dec p.1)) from p0)
            have P1 := Lib.hid (show wB.cell? ⟨pb, po + 1, none⟩ = some (.string (dec p.2)) from p1)
            have hdk : decide ((0 : Int) < (j : Int)) = true := by simp; omega
            clear p0 p1 hp hpm
            generalize Q.sumL PV = ALL at *
            go_wp2_with fail
            refine wp_game [0, 0, 0, 0, 0, 0, 0, 0, 0, 3, 2, 0] [] B0 fin_B0 (has_B0 _) (by kernel_rfl) (by kernel_rfl) ?_
            refine lex_quietE 9 (by kernel_rfl) (by rfl) ?_
            apply Exists.intro
            refine ⟨fun z hz => ?_, ?_⟩
            · have hwz := HB.out.trans (hz.below_of (b := wB.heap.size) (by simp) HB.out.size)
              have g0 := below_cellp hwz P0.out hpb
              have g1 := below_cellp hwz P1.out hpb
              have g2 := below_cellp hwz A0.out hgA
              have g3 := below_cellp hwz A1.out hgA
              clear hz hwz
              simp only [List.take_succ_cons, List.take_zero]
              unfold Cx
              repeat (go_big_quiet_step (with_reducible exact KD.at _ _))
              exact wpQuiet_nil rfl
            simp only [List.drop_succ_cons, List.drop_zero]
            refine lex_alloc (.agg #[.string ByteArray.empty, .string ByteArray.empty]) (by rfl) (fun x => by kernel_rfl) (fun g16 q16 hn16 => ?_)
            unfold setSlot
            go_big_quiet_step (fail)
            refine wpQuiet_nil ?_
            clear hn16
            refine lex_store_all g16 #[.string (dec 0), .string (dec 1)] _ _ (by rfl) (by rfl) (by rfl) (Blocks.put_same _ _ _) (by rfl) (.inr q16) (by kernel_rfl) (by simp [Value.oneCell']) ?_
            refine lex_quietE 1 (by kernel_rfl) (by rfl) ?_
            apply Exists.intro
            refine ⟨fun z hz => ?_, ?_⟩
            · clear hz
              simp only [List.take_succ_cons, List.take_zero]
              unfold Cx
              repeat (go_big_quiet_step (fail))
              exact wpQuiet_nil rfl
            simp only [List.drop_succ_cons, List.drop_zero]
            refine lex_nil ?_
            intro x7 hx7 hH7
            have m16 := hH7 g16 _ (Blocks.put_same _ _ _)
            have c16 := blk_cell m16 0 rfl
            have c17 := blk_cell m16 1 rfl
            have HB7 := Lib.hid (HB.out.trans (hx7.below_of (b := wB.heap.size) (by simp) HB.out.size))
            clear hx7 hH7 HB
            go_wp2_with fail
            rw [HR.out, HE.out]
            exact ⟨none, 0, rfl, fun i v h => by simp [strs] at h, HBS.out.trans (HB7.out.mono HBS.out.size)⟩
        · have HE := Lib.hid (HX.out.trans (if_neg hz))
          have HZ := Lib.hid (Nat.pos_of_ne_zero hz)
          obtain ⟨SS, hSS⟩ : ∃ SS, SS = PV.map fun p => rtext (Q.div p (Q.sumL PV)) := ⟨_, rfl⟩
          rw [← hSS] at HE
          have HSL := Lib.hid (show SS.length = j by rw [hSS, List.length_map]; exact HPLEN.out)
          have HSG := Lib.hid (fun (i : Nat) (p : Nat × Nat) (h : PV[i]? = some p) => show SS[i]? = some (rtext (Q.div p (Q.sumL PV))) by rw [hSS, List.getElem?_map, h]; rfl)
          have HAL := Lib.hid hps
          clear hz hSS hps
          generalize hALL : Q.sumL PV = ALL at *
          clear hALL
          go_wp2_with fail
          go_loopw [14, 15] (fun t14 t15 wq => ∃ m : Nat, m ≤ j ∧ t15 = .int .i64 m ∧ Hid (OwnT wq wB.heap.size [] 9 1 t14 m (strs (SS.take m))) ∧ Hid (Below wB.heap.size wB wq)) (fun _ t15 _ => j - (intOf t15).toNat)
          case atStart => exact ⟨0, Nat.zero_le _, rfl, ⟨.nil, by simp [rowBlk], by simp [rowBlk]⟩, Below.refl _ _⟩
          case round =>
            obtain ⟨m, hm, rfl, HO, HB⟩ := hrel
            by_cases hlt2 : m < j
            · have hdm : decide ((m : Int) < (j : Int)) = true := by simp; omega
              obtain ⟨p, hp⟩ : ∃ p, PV[m]? = some p := ⟨_, HPG.out m (by omega)⟩
              have hpm := HPM.out p (List.mem_of_getElem? hp)
              have KD : Gives 35 #[.agg #[.string (dec p.1), .string (dec p.2)], .agg #[.string (dec ALL.1), .string (dec ALL.2)]] (.tuple #[.agg #[.string (dec (Q.div p ALL).1), .string (dec (Q.div p ALL).2)], .bool true]) := gXDiv3 p _ (hpm.2.mono (by omega)) HAL.out.2 hpm.1 HZ.out
              obtain ⟨hds, hdp⟩ := div_sm (hpm.2.mono (by omega)) HAL.out.2
              have KT : Gives 24 #[.agg #[.string (dec (Q.div p ALL).1), .string (dec (Q.div p ALL).2)]] (.string (rtext (Q.div p ALL))) := gXText _ (hds.mono (by omega)) (hdp hpm.1.1 HZ.out)
              obtain ⟨pb, po, hpb, rfl, p0⟩ := HAP.out _ _ (xrats_get hp).1
              obtain ⟨pb', po', _, e', p1⟩ := HAP.out _ _ (xrats_get hp).2
              cases e'
              have P0 := Lib.hid p0
              have P1 := Lib.hid (show wB.cell? ⟨pb, po + m * 2 + 1, none⟩ = some (.string (dec p.2)) from p1)
              have hts := take_snoc_of (HSG.out m p hp)
              have HTS := Lib.hid (show strs (SS.take (m + 1)) = strs (SS.take m) ++ [.string (rtext (Q.div p ALL))] by rw [hts]; simp [strs])
              generalize rtext (Q.div p ALL) = X at *
              generalize Q.div p ALL = D at *
              clear p0 p1 hp hpm hds hdp hts
              go_wp2_with fail
              refine wp_game [0, 0, 0, 0, 0, 0, 0, 0, 0, 3, 2, 0] [] B0 fin_B0 (has_B0 _) (by kernel_rfl) (by kernel_rfl) ?_
              refine lex_quietE 9 (by kernel_rfl) (by rfl) ?_
              apply Exists.intro
              refine ⟨fun z hz => ?_, ?_⟩
              · have hwz := HB.out.trans (hz.below_of (b := wB.heap.size) (by simp) HB.out.size)
                have g0 := below_cellp hwz P0.out hpb
                have g1 := below_cellp hwz P1.out hpb
                have g2 := below_cellp hwz A0.out hgA
                have g3 := below_cellp hwz A1.out hgA
                clear hz hwz
                simp only [List.take_succ_cons, List.take_zero]
                unfold Cx
                repeat (go_big_quiet_step (with_reducible exact KD.at _ _))
                exact wpQuiet_nil rfl
              simp only [List.drop_succ_cons, List.drop_zero]
              refine lex_alloc (.agg #[.string ByteArray.empty, .string ByteArray.empty]) (by rfl) (fun x => by kernel_rfl) (fun g16 q16 hn16 => ?_)
              unfold setSlot
              go_big_quiet_step (fail)
              refine wpQuiet_nil ?_
              clear hn16
              refine lex_store_all g16 #[.string (dec D.1), .string (dec D.2)] _ _ (by rfl) (by rfl) (by rfl) (Blocks.put_same _ _ _) (by rfl) (.inr q16) (by kernel_rfl) (by simp [Value.oneCell']) ?_
              refine lex_quietE 1 (by kernel_rfl) (by rfl) ?_
              apply Exists.intro
              refine ⟨fun z hz => ?_, ?_⟩
              · clear hz
                simp only [List.take_succ_cons, List.take_zero]
                unfold Cx
                repeat (go_big_quiet_step (fail))
                exact wpQuiet_nil rfl
              simp only [List.drop_succ_cons, List.drop_zero]
              refine lex_nil ?_
              intro x7 hx7 hH7
              have m16 := hH7 g16 _ (Blocks.put_same _ _ _)
              have HB7 := Lib.hid (HB.out.trans (hx7.below_of (b := wB.heap.size) (by simp) HB.out.size))
              have HO7 := Lib.hid (HO.out.keep hx7 (by simp))
              have c16 := blk_cell m16 0 rfl
              have c17 := blk_cell m16 1 rfl
              clear hx7 hH7 HB HO KD P0 P1 m16
              go_wp2_with fail
              refine (KT _).mono ?_
              rintro r8 w8 ⟨rfl, hB8⟩
              have HB8 := Lib.hid (HB7.out.trans (hB8.mono HB7.out.size))
              have HO8 := Lib.hid (HO7.out.keep (behind_of_below hB8) (by simp))
              clear hB8 HB7 HO7 c16 c17 KT
              go_wp2_with (at_builtin; refine wpList_append_row _ rfl _ _ 43 rfl 9 s0 _ 1 16 Tryz.underlying43 si sz0 sz1 sz2 rfl _ _ _ rfl (HO8.out.row.keep (behind_of_below (below_one w8 _)) (by simp)) w8.heap.size 1 1 [.string X] 9 rfl (new_one w8 _) rfl (by intro u hu; simp at hu; subst hu; rfl) (by omega) (by unfold maxLen; omega) (by omega) ?_)
              intro v9 w9 hr9 hB9 hn9
              have h89 : Behind w8 (rowBlk u14) w9 := ((behind_of_below (below_one w8 _)).mono (by simp)).trans hB9 (fun k hk => .inl hk)
              have hO9 := HO8.out.grow (top := w8.heap.size) HB8.out.size (by simp) hr9 (fun g hg => (hn9 g hg).imp id (fun h => by first | omega | (simp at h; omega)))
              rw [← HTS.out] at hO9
              have HO9 := Lib.hid hO9
              have HB9 := Lib.hid (HB8.out.trans (h89.below_of (b := wB.heap.size) HO8.out.ge HB8.out.size))
              clear hO9 hr9 hB9 hn9 h89 HO8 HB8
              go_wp2_with fail
              go_roundw
              case rel => exact ⟨m + 1, by omega, by go_num, HO9, HB9⟩
              case measure => simp [intOf]; omega
            · obtain rfl : m = j := by omega
              have hdm : decide ((m : Int) < (m : Int)) = false := by simp
              have hO := HO.out
              rw [List.take_of_length_le (by rw [HSL.out]; omega)] at hO
              obtain ⟨sa, sc, rfl, hAS⟩ := hO.at'
              go_wp2_with fail
              rw [HR.out, HE.out]
              exact ⟨sa, sc, by rw [HSL.out]; rfl, hAS, HBS.out.trans (HB.out.mono HBS.out.size)⟩
end Go.Proofs.YtbacloneddnaeaaGreat

/- BayesPosteriors: the walk. -/
namespace Go.Proofs.YtbacloneddnaeaaGreat
open Go.RowKit Go.Shelf Num

set_option maxHeartbeats 3200000 in
set_option maxRecDepth 100000 in
theorem posteriors_law (l : List RV) (a : Option Addr) (c : Nat) (vs : List Int) (va : Option Addr) (vc : Nat) (v : Int) (hts : ∀ x ∈ l, x.ts.length ≤ 20000000000000 ∧ x.ps.length ≤ 20000000000000) (hll : l.length ≤ 20000000000000) (hvl : vs.length ≤ 20000000000000) (w : World) (hN : RefAt w.heap.size w a l) (hV : AtN w.heap.size w va (ints vs)) (hM : ∃ m, w.cell? ⟨0, 0, none⟩ = some (.int .i64 m)) :
    Calls Tryz.prog 4 #[.slice a l.length c, .slice va vs.length vc, .int .i64 v] w fun e w' => e = .returned (.bool true) ∧ Below w.heap.size w w' := by
  obtain ⟨M, hM⟩ := hM
  have HM := Lib.hid hM
  have HN := Lib.hid hN
  have HV := Lib.hid hV
  have HTS := Lib.hid hts
  clear hM hN hV hts
  go_enter Tryz.func4, Tryz.ntmps4
  go_wp2_with fail
  refine (few_law w.heap.size l a c HTS.out hll w HN.out (Nat.le_refl _)).mono ?_
  rintro r1 w1 ⟨b, rfl, hb, hB1⟩
  have K1 := Lib.hid (Kn.mk0 hB1)
  cases b with
  | false =>
    clear hb hB1
    go_wp2_with fail
    refine (works_law w1 ⟨M, below_cell K1.out.be (block_lt_of_cell HM.out) HM.out⟩).mono ?_
    rintro r90 w90 ⟨rfl, hB90⟩
    have K90 := Lib.hid (K1.out.go hB90)
    clear hB90
    go_wp2_with fail
    go_ret
    exact ⟨rfl, K90.out.be⟩
  | true =>
    by_cases h30 : 30 < vs.length
    · clear hb hB1
      go_wp2_with fail
      refine (works_law w1 ⟨M, below_cell K1.out.be (block_lt_of_cell HM.out) HM.out⟩).mono ?_
      rintro r90 w90 ⟨rfl, hB90⟩
      have K90 := Lib.hid (K1.out.go hB90)
      clear hB90
      go_wp2_with fail
      go_ret
      exact ⟨rfl, K90.out.be⟩
    have h30' : vs.length ≤ 30 := by omega
    have HFP := Lib.hid (hb rfl)
    have HL := Lib.hid (few_lit HFP.out)
    obtain ⟨i0, hi, hz0, hz1, hz2⟩ := info_parts Tryz.infoInt
    have K2 := Lib.hid (K1.out.addA (a := va) (xs := ints vs) ((HV.out.below hB1 (Nat.le_refl _)).mono hB1.size))
    clear hb hB1 h30 hvl K1
    go_wp2_with (at_builtin; refine wpList_append_any _ rfl _ _ 23 rfl 3 i0 (.int .i64 0) 8 Tryz.underlying23 hi hz0 hz1 hz2 rfl _ rfl _ _ _ _ (ints vs) rfl ((K2.out.at' (va, ints vs) (by simp)).below (below_one _ _) (Nat.le_refl _)) (by simp [ints]) (by unfold maxLen; omega) (by omega) ?_)
    intro sa sc w3 hsa hB3
    have K3 := Lib.hid ((K2.out.go (Below.trans (below_one w1 _) (hB3.mono (by simp)))).addA hsa)
    clear hsa hB3 K2 hi hz0 hz1 hz2
    go_wp2_with fail
    refine (given_law w3.heap.size l a c HL.out w3 (K3.out.keepN HN.out) (Nat.le_refl _) ⟨M, below_cell K3.out.be (block_lt_of_cell HM.out) HM.out⟩).mono ?_
    rintro r4 w4 ⟨gv, cs, rfl, hG, hB4⟩
    obtain ⟨p, n, cp, rfl, hn⟩ : ∃ p n cp, gv = .slice p n cp ∧ n = (gnet l).length := by
      obtain ⟨p, cp, h⟩ := hG.row.slice
      exact ⟨p, _, cp, h, rfl⟩
    have K4 := Lib.hid ((K3.out.go hB4).addN hG.net)
    have hnl : n ≤ 20 := by have := HL.out.len; rw [hn]; simpa [gnet] using this
    have HNN := Lib.hid hn
    clear hG hB4 hn K3
    go_wp2_with fail
    rw [HNN.out]
    have HIN := Lib.hid (lit_in HL.out)
    have hsz := few_sz HFP.out
    have HCT := Lib.hid (few_count HFP.out)
    obtain ⟨⟨L, G⟩, hP⟩ : ∃ A, postE (gnet l) vs v = A := ⟨_, rfl⟩
    obtain ⟨hag2, hag1, hsm, hlen⟩ := post_agree HIN.out hsz vs v
    rw [hP] at hag1 hag2 hsm hlen
    simp only at hag1 hag2 hsm hlen
    have HAG1 := Lib.hid hag1
    have HAG2 := Lib.hid hag2
    have HSM := Lib.hid hsm
    refine (post_at w4.heap.size (gnet l) vs p va cp vc v L G hP HIN.out (by omega) hsz w4 (K4.out.net (p, gnet l) (by simp)) (K4.out.at' (va, ints vs) (by simp)) (Nat.le_refl _)).mono ?_
    rintro r5 w5 ⟨pp, n5, cp5, rfl, hn5, hAL, hB5⟩
    have K5 := Lib.hid ((K4.out.go hB5).addA hAL)
    have HN5 := Lib.hid hn5
    have hn8 : n5 ≤ 8 := by rw [hn5]; exact hlen
    clear hB5 hsm hag1 hag2 hsz K4 hP hAL hn5 hlen
    go_wp2_with fail
    refine (xPosterior_law w5.heap.size l vs a va c vc v HL.out HCT.out (by omega) w5 (K5.out.keepN HN.out) (K5.out.at' (va, ints vs) (by simp)) (Nat.le_refl _)).mono ?_
    rintro r6 w6 ⟨xa, xc, rfl, hAX, hB6⟩
    have K7 := Lib.hid ((K5.out.go hB6).addA hAX)
    have HTB := Lib.hid (textsB_self L _ HAG1.out)
    rw [← HAG2.out]
    have hsl : (postX (gnet l) vs v).1.length = n5 := by rw [← HAG1.out, List.length_map, HN5.out]
    have HSL := Lib.hid hsl
    rw [hsl]
    generalize (postX (gnet l) vs v).1 = SS at *
    clear hB6 hAX K5 hsl
    go_wp2_with fail
    have KX := texts_law w6.heap.size L SS pp xa cp5 xc HSM.out (by rw [← HN5.out]; omega) (by rw [HSL.out]; omega) w6 (K7.out.at' (pp, rats L) (by simp)) (K7.out.at' (xa, strs SS) (by simp)) (Nat.le_refl _)
    rw [HSL.out, ← HN5.out, HTB.out] at KX
    refine KX.mono ?_
    rintro r7 w7 ⟨rfl, hB7⟩
    have K8 := Lib.hid (K7.out.go hB7)
    clear hB7 K7 KX
    go_wp2_with fail
    refine (xsame_law w7.heap.size vs sa va sc vc (by omega) w7 (K8.out.at' (sa, ints vs) (by simp)) (K8.out.at' (va, ints vs) (by simp)) (Nat.le_refl _)).mono ?_
    rintro r8 w8 ⟨rfl, hB8⟩
    have K9 := Lib.hid (K8.out.go hB8)
    clear hB8 K8
    go_wp2_with fail
    refine (works_law w8 ⟨M, below_cell K9.out.be (block_lt_of_cell HM.out) HM.out⟩).mono ?_
    rintro r90 w90 ⟨rfl, hB90⟩
    have K90 := Lib.hid (K9.out.go hB90)
    clear hB90
    go_wp2_with fail
    go_ret
    exact ⟨rfl, K90.out.be⟩
end Go.Proofs.YtbacloneddnaeaaGreat
