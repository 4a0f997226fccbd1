/- Texts of this claim, joined: JT, JU. -/
import Derived.Test.YtmaiofimmjedjaaDoorMW16

/- The reader: the closure of a list of three. -/
namespace Go.Proofs.YtmaiofimmjedjaaDoor
open Go.RowKit

set_option maxHeartbeats 12800000 in
set_option maxRecDepth 100000 in
theorem list1T (c : Cf) (hc : c.Ok) (E : List Nat) (mb kb ib nx o : Nat) (v : Value) (gs : List Gt) (w : World) (hS : St c E w nx o v gs) (ho : o ≤ 200) (hmb : mb ∈ E) (hkb : kb ∈ E) (hib : ib ∈ E) (hmi : mb ≠ ib) (hki : kb ≠ ib) (hiw : c.w0.heap.size ≤ ib) (HM : w.heap[mb]? = some (.cells #[.int .i64 3] 3 (0, 0))) (HK : w.heap[kb]? = some (.cells #[.pointer (some ⟨c.br, 0, none⟩)] 55 (0, 0))) (HI : w.heap[ib]? = some (.cells #[.slice none 0 0] 31 (0, 0))) (hA : ∀ ts, ts.length ≤ (TS c.l nx).length → Con c .form ts) :
    Calls Tryd.prog 87 #[.pointer (some ⟨mb, 0, none⟩), .pointer (some ⟨kb, 0, none⟩), .pointer (some ⟨ib, 0, none⟩)] w (OkIn c E w v [ib] (FL c E ib) o (thrR c o gs (TS c.l nx))) := by
  obtain ⟨i0, ii, iz0, iz1, iz2⟩ := info_parts Tryd.infoIntJ
  have II := Lib.hid ii
  have IZ0 := Lib.hid iz0
  have IZ1 := Lib.hid iz1
  have IZ2 := Lib.hid iz2
  obtain ⟨Post, hPost⟩ : ∃ P : Ending → World → Prop, P = OkIn c E w v [ib] (FL c E ib) o (thrR c o gs (TS c.l nx)) := ⟨_, rfl⟩
  rw [← hPost]
  unfold thrR at hPost
  have HP := Lib.hid hPost
  have hw0 := hS.be.size
  have hS00 := Lib.hid (fun g hg => (hS.ex g hg).1)
  have hilt := hS00.out ib hib
  have hklt := hS00.out kb hkb
  have hmlt := hS00.out mb hmb
  have hcnt0 := hS.cnt
  have KF := Lib.hid (fun (E' : List Nat) (nx2 : Nat) (v2 : Value) (gs2 : List Gt) (x : World) (hlt : (TS c.l nx2).length ≤ (TS c.l nx).length) (hx : St c E' x nx2 o v2 gs2) => (show Calls Tryd.prog 23 #[.pointer (some ⟨c.br, 0, none⟩)] x (OkP c E' x v2 o (RI c.n .form (TS c.l nx2) o gs2)) from hA _ hlt E' nx2 o v2 gs2 x rfl hx ho))
  have HM0 := Lib.hid HM
  have HK0 := Lib.hid HK
  have HI0 := Lib.hid HI
  have HS0 := Lib.hid (show St c (rowBlk (.slice none 0 0) ++ E) w nx o v gs from hS)
  have HR0 := Lib.hid (show RowV (inW w) 3 1 (.slice none 0 0) 0 (ints []) from .nil)
  have HGE0 := Lib.hid (show ∀ g ∈ rowBlk (.slice none 0 0), w.heap.size ≤ g from fun g hg => by simp [rowBlk] at hg)
  have HG0 := Lib.hid (show Gu c [ib] w v w v from (Gw.refl c w v).wide)
  clear hPost ii iz0 iz1 iz2 hS HM HK HI hA
  have HF := Lib.hid HP.out
  have hm0 := blk_cell HM0.out 0 rfl
  have hlt2 : (TS c.l nx).length ≤ (TS c.l nx).length := Nat.le_refl _
  clear HP
  go_enter Tryd.func87, Tryd.ntmps87
  go_wp2_with fail
  refine wp_seq 2 (fun y => y.heap[ib]? = some (.cells #[.slice none 0 0] 31 (0, 0)) ∧ y.heap[kb]? = some (.cells #[.pointer (some ⟨c.br, 0, none⟩)] 55 (0, 0))) (by kernel_rfl) (by kernel_rfl) (fun c d v a w h => by cases d <;> exact h) ?_
  intro x4 hx4
  have HS4 := Lib.hid (HS0.out.later hc hx4.below)
  have HI4 := Lib.hid (hx4.keep HI0.out (by simp))
  have HK4 := Lib.hid (hx4.keep HK0.out (by simp))
  have HM4 := Lib.hid (hx4.keep HM0.out (by simp))
  have HR4 := Lib.hid (HR0.out.keep hx4 (by simp))
  have HG4 := Lib.hid (HG0.out.trans (Gw.of_below (v := v) hx4.below).wide)
  clear hx4
  simp only [List.take_succ_cons, List.take_zero, List.drop_succ_cons, List.drop_zero]
  refine ⟨.slice none 0 0, ⟨by rfl, fun y hy => by have := blk_cell hy.1 0 rfl; clear hy; go_simp⟩, ?_⟩
  refine ⟨.pointer (some ⟨c.br, 0, none⟩), ⟨by rfl, fun y hy => by have := blk_cell hy.2 0 rfl; clear hy; go_simp⟩, ?_⟩
  show SeqW Tryd.prog _ _ _ _ _ _ _
  refine SeqW.step (by rfl) ⟨HI4.out, HK4.out⟩ ?_
  have KA4 : Calls Tryd.prog 23 #[.pointer (some ⟨c.br, 0, none⟩)] x4 (OkP c (rowBlk (.slice none 0 0) ++ E) x4 v o (RI c.n .form (TS c.l nx) o gs)) := KF.out _ nx v gs x4 hlt2 HS4.out
  have HLEN := Lib.hid (fun a b d (h : RI c.n .form (TS c.l nx) o gs = .ok a b d) => ok_less h rfl)
  have HGS := Lib.hid (fun a b d (h : RI c.n .form (TS c.l nx) o gs = .ok a b d) => (RI_gs (by trivial) h).1)
  obtain ⟨R1, hR1⟩ : ∃ R1, R1 = RI c.n .form (TS c.l nx) o gs := ⟨_, rfl⟩
  rw [← hR1] at KA4 HF HLEN HGS
  clear hR1
  go_wp2_with fail
  refine KA4.mono ?_
  intro e w5 h5
  cases R1 with
  | err q5 en =>
    obtain ⟨rfl, h5⟩ := h5
    refine ⟨rfl, ?_⟩
    rw [HF.out]
    exact OkIn.err_after (v1 := v) HG4.out (h5.mono (fun g hg => (List.mem_cons.1 hg).elim (fun e => by simp [e]) (fun e => by simp [e])))
  | ok l5 ts5 gs5 =>
    obtain ⟨k5, nx5, v5, rfl, rfl, rfl, hS5, hG5⟩ := h5
    have hlen5 := HLEN.out _ _ _ rfl
    have hgs5 := HGS.out _ _ _ rfl
    simp [loopM, moreM] at hgs5
    have HR5 := Lib.hid (row_keep HR4.out HS4.out hG5)
    have HS5 := Lib.hid hS5
    have HG5 := Lib.hid (HG4.out.trans hG5.wide)
    have HI5 := Lib.hid (hG5.be.keep HI4.out (HS4.out.ex ib (by simp [hib])).2)
    have HK5 := Lib.hid (hG5.be.keep HK4.out (HS4.out.ex kb (by simp [hkb])).2)
    have HM5 := Lib.hid (hG5.be.keep HM4.out (HS4.out.ex mb (by simp [hmb])).2)
    have HFP := Lib.hid (show Post = OkIn c E w v [ib] (FL c E ib) o (thr c o 2 [k5] (TS c.l nx5) gs5) from HF.out)
    have hw5 : w.heap.size ≤ w5.heap.size := HG5.out.be.size
    have HBA := Lib.hid (below_one w5 (.cells #[.int .i64 k5] 3 (0, 0)))
    have HI6 := Lib.hid ((behind_of_below HBA.out).keep HI5.out (by simp))
    have HK6 := Lib.hid ((behind_of_below HBA.out).keep HK5.out (by simp))
    clear hS5 hG5 KA4 HLEN HGS HF HR4 HS4 HG4 HI4 HK4 HM4
    go_wp2_with fail
    show SeqW Tryd.prog _ _ _ _ _ _ _
    refine SeqW.step (by rfl) ⟨HI5.out, HK5.out⟩ ?_
    go_wp2_with fail
    show SeqW Tryd.prog _ _ _ _ _ _ _
    refine SeqW.step (by rfl) ⟨HI6.out, HK6.out⟩ ?_
    go_wp2_with (at_builtin; refine wpList_append_row _ rfl _ _ 31 rfl 3 i0 (.int .i64 0) 1 8 Tryd.underlying31 II.out IZ0.out IZ1.out IZ2.out rfl _ _ _ rfl (HR5.out.keep (behind_of_below ((Below.refl _ _).alloc (Nat.le_refl _) _)) (by simp)) w5.heap.size 1 1 [.int .i64 k5] 3 rfl (heap_alloc_new w5 _) rfl (by intro x hx; simp at hx; subst hx; rfl) (by omega) (by unfold maxLen; omega) (by omega) ?_)
    intro v9 w9 hr9 hB9 hn9
    have hr9 : RowV (inW w9) 3 1 v9 1 (ints (([] : List Int) ++ [k5])) := by
      rw [show ints (([] : List Int) ++ [k5]) = ints ([] : List Int) ++ [.int .i64 k5] by simp [ints]]; exact hr9
    obtain ⟨p9, d9, hv9⟩ := hr9.slice
    subst hv9
    have h09 : Behind w5 (rowBlk (.slice none 0 0)) w9 := ((behind_of_below HBA.out).mono (by simp)).trans hB9 (fun k hk => .inl hk)
    have hn9' : ∀ g ∈ rowBlk (.slice p9 1 d9), g ∈ rowBlk (.slice none 0 0) ∨ w5.heap.size ≤ g := fun g hg => (hn9 g hg).imp id (fun h => by first | omega | (simp at h; omega))
    have HS9 := Lib.hid (HS5.out.rowed hc h09 (fun g hg => Nat.le_trans hw0 (HGE0.out g hg)) hn9' hr9.lt)
    have HG9 := Lib.hid (show Gu c [ib] w v w9 v5 from ⟨HG5.out.be.trans h09 (fun b hb => .inr (HGE0.out b hb)), HG5.out.new⟩)
    have hge9 : ∀ g ∈ rowBlk (.slice p9 1 d9), w.heap.size ≤ g := fun g hg => (hn9' g hg).elim (HGE0.out g) (fun e => by omega)
    have HGE9 := Lib.hid hge9
    have HR9 := Lib.hid hr9
    have HI9 := Lib.hid (h09.keep HI5.out (fun h => by have := HGE0.out _ h; omega))
    have HK9 := Lib.hid (h09.keep HK5.out (fun h => by have := HGE0.out _ h; omega))
    have HM9 := Lib.hid (h09.keep HM5.out (fun h => by have := HGE0.out _ h; omega))
    have ci9 := blk_cell HI9.out 0 rfl
    have fi9 := blk_free HI9.out 0
    clear h09 hn9 hn9' hr9 hB9 hge9 HS5 HG5 HR5
    go_wp2_with fail
    show SeqW Tryd.prog _ _ _ _ _ _ _
    refine SeqW.step (by rfl) ⟨HI9.out, HK9.out⟩ ?_
    go_wp2_with fail
    have hbs : Behind w9 [ib] (w9.setCell ⟨ib, 0, none⟩ (.slice p9 1 d9)) := behind_set1
    have HSA := Lib.hid (HS9.out.wrote hc hbs (fun g hg => by simp at hg; subst hg; exact ⟨by simp [hib], hiw⟩))
    have HGA := Lib.hid (HG9.out.trans (Gu.of hbs))
    have HRA := Lib.hid (HR9.out.keep hbs (fun g hg h => by simp at h; subst h; have := HGE9.out _ hg; omega))
    have HIA := Lib.hid (heap_setCell_same _ ib 0 _ _ (.slice p9 1 d9) HI9.out)
    have HKA := Lib.hid (hbs.keep HK9.out (by simpa using hki))
    have HMA := Lib.hid (hbs.keep HM9.out (by simpa using hmi))
    clear HS9 HG9 HR9 HI9 HK9 HM9 ci9 fi9 hbs
    refine SQ.done ?_
    go_wp2_with fail
    clear HS0 HI0 HK0 HM0 HR0 HG0 HGE0
    go_loopg [] (TS c.l nx5).length (fun kk wr => ∃ (nx2 : Nat) (v2 : Value) (gs2 : List Gt) (p : Option Addr) (d m : Nat) (lst : List Int), lst.length = m ∧ (TS c.l nx2).length ≤ kk ∧ (TS c.l nx2).length ≤ (TS c.l nx).length ∧ 1 ≤ m ∧ m ≤ 3 ∧ gs2.length + 3 * (TS c.l nx2).length + 2 * m ≤ 10000000 ∧ Hid (St c (rowBlk (.slice p m d) ++ E) wr nx2 o v2 gs2) ∧ Hid (RowV (inW wr) 3 1 (.slice p m d) m (ints lst)) ∧ Hid (∀ g ∈ rowBlk (.slice p m d), w.heap.size ≤ g) ∧ Hid (wr.heap[ib]? = some (.cells #[.slice p m d] 31 (0, 0))) ∧ Hid (wr.heap[kb]? = some (.cells #[.pointer (some ⟨c.br, 0, none⟩)] 55 (0, 0))) ∧ Hid (wr.heap[mb]? = some (.cells #[.int .i64 3] 3 (0, 0))) ∧ Hid (Gu c [ib] w v wr v2) ∧ Hid (Post = OkIn c E w v [ib] (FL c E ib) o (thr c o (3 - m) lst (TS c.l nx2) gs2)))
    case atStart => exact ⟨nx5, v5, gs5, p9, d9, 1, [k5], rfl, Nat.le_refl _, by omega, Nat.le_refl _, by omega, by omega, HSA.out, HRA.out, HGE9.out, HIA.out, HKA.out, HMA.out, HGA.out, HFP.out⟩
    case round =>
      obtain ⟨nx2, v2, gs2, p, d, m, lst, hlm', hkk, hlen2, hl1, hl3, hcnt2, HS0, HR0, HGE0, HI0, HK0, HM0, HG0, HP⟩ := hrel
      have hlm := Lib.hid hlm'
      clear hlm' HSA HRA HGE9 HIA HKA HMA HGA HFP hlt2 hlen5 hgs5 hw5
      have hi0 := blk_cell HI0.out 0 rfl
      have hk0 := blk_cell HK0.out 0 rfl
      have hm0 := blk_cell HM0.out 0 rfl
      by_cases hm3 : m = 3
      · subst hm3
        have HF := Lib.hid (show Post = OkIn c E w v [ib] (FL c E ib) o (needI [41] (TS c.l nx2) fun ts => .ok lst ts gs2) from HP.out)
        have hm4 := hlm.out
        clear hm4 HP
        go_wp2_with fail
        have hfm := HF.out
        rw [need_TS] at hfm
        have hp2 := HS0.out.pl.le
        by_cases ht : tokI (c.l.drop (nxtI c.l nx2)) = some [41]
        · rw [ht] at hfm
          have hfm2 : Post = OkIn c E w v [ib] (FL c E ib) o (.ok lst (TS c.l nx2).tail gs2) := by rw [hfm]; simp
          rw [TS_tail ht (by simp)] at hfm2
          have HF3 := Lib.hid hfm2
          have hless := TS_less ht (by simp)
          have HPL := Lib.hid (HS0.out.pl.next ht (by simp))
          have KT := Lib.hid (fun x hR => gNeed_yes c.br c.l c.n nx2 o v2 [41] x hR hp2 hc.l ht)
          obtain ⟨nx3, hnx3⟩ : ∃ nx3, nx3 = nxtI c.l nx2 + ([41] : List UInt8).length := ⟨_, rfl⟩
          rw [← hnx3] at KT HF3 HPL hless
          clear hfm hfm2 ht hp2 hnx3
          have KT2 := KT.out _ HS0.out.rd
          go_wp2_with fail
          refine KT2.mono ?_
          rintro e w4 ⟨rfl, hR4, hB4⟩
          have HS4 := Lib.hid (HS0.out.move hc hR4 hB4 HPL.out (by omega))
          have HG4 := Lib.hid (HG0.out.trans (Gw.of_br (v := v2) hB4).wide)
          have HI4 := Lib.hid (hB4.keep HI0.out (fun h => (HS0.out.ex ib (by simp [hib])).2 (by simp at h; simp [h])))
          have HR4 := Lib.hid (HR0.out.keep hB4 (fun g hg h => (HS0.out.ex g (by simp [hg])).2 (by simp at h; simp [h])))
          clear hR4 hB4 KT2
          go_wp2_with fail
          go_end0
          rw [HF3.out]
          exact ⟨nx3, v2, rfl, rfl, HS4.out.apart hc (Below.refl _ _) (fun g hg => .inl (by simp [hg])), HG4.out, _, HI4.out, (by rw [hlm.out]; exact HR4.out), fun g hg => ⟨Nat.le_trans hw0 (HGE0.out g hg), (HS4.out.ex g (by simp [hg])).2, fun h => by have := hS00.out g h; have := HGE0.out g hg; omega, (HS4.out.ex g (by simp [hg])).1⟩⟩
        · have hfm2 : Post = OkIn c E w v [ib] (FL c E ib) o (.err (TS c.l nx2).length 5) := by
            rw [hfm]
            cases h : tokI (c.l.drop (nxtI c.l nx2)) with
            | none => rfl
            | some t => simp only []; rw [if_neg (fun e => ht (by rw [h, e]))]
          have HF3 := Lib.hid hfm2
          have KT := Lib.hid (fun x hR => gNeed_no c.br c.l c.n nx2 o v2 [41] x hR hp2 hc.l ht)
          clear hfm hfm2 ht hp2
          have KT2 := KT.out _ HS0.out.rd
          go_wp2_with fail
          refine KT2.mono ?_
          rintro e w4 ⟨rfl, hB4⟩
          refine ⟨rfl, ?_⟩
          rw [HF3.out, ← HS0.out.pl.pos]
          exact OkIn.err_after HG0.out ((behind_of_below hB4).mono (by simp))
      · obtain ⟨j, hj⟩ : ∃ j, 3 - m = j + 1 := ⟨2 - m, by omega⟩
        have HF := Lib.hid (show Post = OkIn c E w v [ib] (FL c E ib) o (needI [44] (TS c.l nx2) fun ts => (RI c.n .form ts o gs2).bind fun l2 ts gs => thr c o j (lst ++ l2) ts gs) by rw [HP.out, hj]; rfl)
        have hd3 : decide ((m : Int) < 3) = true := decide_eq_true (by omega)
        clear HP
        go_wp2_with fail
        have hfm := HF.out
        rw [need_TS] at hfm
        have hp2 := HS0.out.pl.le
        by_cases ht : tokI (c.l.drop (nxtI c.l nx2)) = some [44]
        · rw [ht] at hfm
          have hfm2 : Post = OkIn c E w v [ib] (FL c E ib) o ((RI c.n .form (TS c.l nx2).tail o gs2).bind fun l2 ts gs => thr c o j (lst ++ l2) ts gs) := by rw [hfm]; simp
          rw [TS_tail ht (by simp)] at hfm2
          have HF3 := Lib.hid hfm2
          have hless := TS_less ht (by simp)
          have HPL := Lib.hid (HS0.out.pl.next ht (by simp))
          have KT := Lib.hid (fun x hR => gNeed_yes c.br c.l c.n nx2 o v2 [44] x hR hp2 hc.l ht)
          obtain ⟨nx3, hnx3⟩ : ∃ nx3, nx3 = nxtI c.l nx2 + ([44] : List UInt8).length := ⟨_, rfl⟩
          rw [← hnx3] at KT HF3 HPL hless
          clear hfm hfm2 ht hp2 hnx3
          have KT2 := KT.out _ HS0.out.rd
          go_wp2_with fail
          refine KT2.mono ?_
          rintro e w2 ⟨rfl, hR4, hB4⟩
          have HS3 := Lib.hid (HS0.out.move hc hR4 hB4 HPL.out (by omega))
          have HI3 := Lib.hid (hB4.keep HI0.out (fun h => (HS0.out.ex ib (by simp [hib])).2 (by simp at h; simp [h])))
          have HK3 := Lib.hid (hB4.keep HK0.out (fun h => (HS0.out.ex kb (by simp [hkb])).2 (by simp at h; simp [h])))
          have HM3 := Lib.hid (hB4.keep HM0.out (fun h => (HS0.out.ex mb (by simp [hmb])).2 (by simp at h; simp [h])))
          have HR3 := Lib.hid (HR0.out.keep hB4 (fun g hg h => (HS0.out.ex g (by simp [hg])).2 (by simp at h; simp [h])))
          have HG3 := Lib.hid (HG0.out.trans (Gw.of_br (v := v2) hB4).wide)
          have hlt2 : (TS c.l nx3).length ≤ (TS c.l nx).length := by omega
          clear hR4 hB4 KT2 hi0 hk0 hm0 HS0 HI0 HK0 HM0 HR0 HG0 HF
          go_wp2_with fail
          refine wp_seq 2 (fun y => y.heap[ib]? = some (.cells #[.slice p m d] 31 (0, 0)) ∧ y.heap[kb]? = some (.cells #[.pointer (some ⟨c.br, 0, none⟩)] 55 (0, 0))) (by kernel_rfl) (by kernel_rfl) (fun c d v a w h => by cases d <;> exact h) ?_
          intro x4 hx4
          have HS4 := Lib.hid (HS3.out.later hc hx4.below)
          have HI4 := Lib.hid (hx4.keep HI3.out (by simp))
          have HK4 := Lib.hid (hx4.keep HK3.out (by simp))
          have HM4 := Lib.hid (hx4.keep HM3.out (by simp))
          have HR4 := Lib.hid (HR3.out.keep hx4 (by simp))
          have HG4 := Lib.hid (HG3.out.trans (Gw.of_below (v := v2) hx4.below).wide)
          clear hx4
          simp only [List.take_succ_cons, List.take_zero, List.drop_succ_cons, List.drop_zero]
          refine ⟨.slice p m d, ⟨by rfl, fun y hy => by have := blk_cell hy.1 0 rfl; clear hy; go_simp⟩, ?_⟩
          refine ⟨.pointer (some ⟨c.br, 0, none⟩), ⟨by rfl, fun y hy => by have := blk_cell hy.2 0 rfl; clear hy; go_simp⟩, ?_⟩
          show SeqW Tryd.prog _ _ _ _ _ _ _
          refine SeqW.step (by rfl) ⟨HI4.out, HK4.out⟩ ?_
          have KA4 : Calls Tryd.prog 23 #[.pointer (some ⟨c.br, 0, none⟩)] x4 (OkP c (rowBlk (.slice p m d) ++ E) x4 v2 o (RI c.n .form (TS c.l nx3) o gs2)) := KF.out _ nx3 v2 gs2 x4 hlt2 HS4.out
          have HLEN := Lib.hid (fun a b d (h : RI c.n .form (TS c.l nx3) o gs2 = .ok a b d) => ok_less h rfl)
          have HGS := Lib.hid (fun a b d (h : RI c.n .form (TS c.l nx3) o gs2 = .ok a b d) => (RI_gs (by trivial) h).1)
          obtain ⟨R1, hR1⟩ : ∃ R1, R1 = RI c.n .form (TS c.l nx3) o gs2 := ⟨_, rfl⟩
          rw [← hR1] at KA4 HF3 HLEN HGS
          clear hR1
          go_wp2_with fail
          refine KA4.mono ?_
          intro e w5 h5
          cases R1 with
          | err q5 en =>
            obtain ⟨rfl, h5⟩ := h5
            refine ⟨rfl, ?_⟩
            rw [HF3.out]
            exact OkIn.err_after (v1 := v2) HG4.out (h5.mono (fun g hg => (List.mem_cons.1 hg).elim (fun e => by simp [e]) (fun e => by simp [e])))
          | ok l5 ts5 gs5 =>
            obtain ⟨k5, nx5, v5, rfl, rfl, rfl, hS5, hG5⟩ := h5
            have hlen5 := HLEN.out _ _ _ rfl
            have hgs5 := HGS.out _ _ _ rfl
            simp [loopM, moreM] at hgs5
            have HR5 := Lib.hid (row_keep HR4.out HS4.out hG5)
            have HS5 := Lib.hid hS5
            have HG5 := Lib.hid (HG4.out.trans hG5.wide)
            have HI5 := Lib.hid (hG5.be.keep HI4.out (HS4.out.ex ib (by simp [hib])).2)
            have HK5 := Lib.hid (hG5.be.keep HK4.out (HS4.out.ex kb (by simp [hkb])).2)
            have HM5 := Lib.hid (hG5.be.keep HM4.out (HS4.out.ex mb (by simp [hmb])).2)
            have HFP := Lib.hid (show Post = OkIn c E w v [ib] (FL c E ib) o (thr c o j (lst ++ [k5]) (TS c.l nx5) gs5) from HF3.out)
            have hw5 : w.heap.size ≤ w5.heap.size := HG5.out.be.size
            have HBA := Lib.hid (below_one w5 (.cells #[.int .i64 k5] 3 (0, 0)))
            have HI6 := Lib.hid ((behind_of_below HBA.out).keep HI5.out (by simp))
            have HK6 := Lib.hid ((behind_of_below HBA.out).keep HK5.out (by simp))
            clear hS5 hG5 KA4 HLEN HGS HF3 HR4 HS4 HG4 HI4 HK4 HM4
            go_wp2_with fail
            show SeqW Tryd.prog _ _ _ _ _ _ _
            refine SeqW.step (by rfl) ⟨HI5.out, HK5.out⟩ ?_
            go_wp2_with fail
            show SeqW Tryd.prog _ _ _ _ _ _ _
            refine SeqW.step (by rfl) ⟨HI6.out, HK6.out⟩ ?_
            go_wp2_with (at_builtin; refine wpList_append_row _ rfl _ _ 31 rfl 3 i0 (.int .i64 0) 1 8 Tryd.underlying31 II.out IZ0.out IZ1.out IZ2.out rfl _ _ _ rfl (HR5.out.keep (behind_of_below ((Below.refl _ _).alloc (Nat.le_refl _) _)) (by simp)) w5.heap.size 1 1 [.int .i64 k5] 3 rfl (heap_alloc_new w5 _) rfl (by intro x hx; simp at hx; subst hx; rfl) (by omega) (by unfold maxLen; omega) (by omega) ?_)
            intro v9 w9 hr9 hB9 hn9
            have hr9 : RowV (inW w9) 3 1 v9 (m + 1) (ints (lst ++ [k5])) := by
              rw [show ints (lst ++ [k5]) = ints lst ++ [.int .i64 k5] by simp [ints]]; exact hr9
            obtain ⟨p9, d9, hv9⟩ := hr9.slice
            subst hv9
            have h09 : Behind w5 (rowBlk (.slice p m d)) w9 := ((behind_of_below HBA.out).mono (by simp)).trans hB9 (fun k hk => .inl hk)
            have hn9' : ∀ g ∈ rowBlk (.slice p9 (m + 1) d9), g ∈ rowBlk (.slice p m d) ∨ w5.heap.size ≤ g := fun g hg => (hn9 g hg).imp id (fun h => by first | omega | (simp at h; omega))
            have HS9 := Lib.hid (HS5.out.rowed hc h09 (fun g hg => Nat.le_trans hw0 (HGE0.out g hg)) hn9' hr9.lt)
            have HG9 := Lib.hid (show Gu c [ib] w v w9 v5 from ⟨HG5.out.be.trans h09 (fun b hb => .inr (HGE0.out b hb)), HG5.out.new⟩)
            have hge9 : ∀ g ∈ rowBlk (.slice p9 (m + 1) d9), w.heap.size ≤ g := fun g hg => (hn9' g hg).elim (HGE0.out g) (fun e => by omega)
            have HGE9 := Lib.hid hge9
            have HR9 := Lib.hid hr9
            have HI9 := Lib.hid (h09.keep HI5.out (fun h => by have := HGE0.out _ h; omega))
            have HK9 := Lib.hid (h09.keep HK5.out (fun h => by have := HGE0.out _ h; omega))
            have HM9 := Lib.hid (h09.keep HM5.out (fun h => by have := HGE0.out _ h; omega))
            have ci9 := blk_cell HI9.out 0 rfl
            have fi9 := blk_free HI9.out 0
            clear h09 hn9 hn9' hr9 hB9 hge9 HS5 HG5 HR5
            go_wp2_with fail
            show SeqW Tryd.prog _ _ _ _ _ _ _
            refine SeqW.step (by rfl) ⟨HI9.out, HK9.out⟩ ?_
            go_wp2_with fail
            have hbs : Behind w9 [ib] (w9.setCell ⟨ib, 0, none⟩ (.slice p9 (m + 1) d9)) := behind_set1
            have HSA := Lib.hid (HS9.out.wrote hc hbs (fun g hg => by simp at hg; subst hg; exact ⟨by simp [hib], hiw⟩))
            have HGA := Lib.hid (HG9.out.trans (Gu.of hbs))
            have HRA := Lib.hid (HR9.out.keep hbs (fun g hg h => by simp at h; subst h; have := HGE9.out _ hg; omega))
            have HIA := Lib.hid (heap_setCell_same _ ib 0 _ _ (.slice p9 (m + 1) d9) HI9.out)
            have HKA := Lib.hid (hbs.keep HK9.out (by simpa using hki))
            have HMA := Lib.hid (hbs.keep HM9.out (by simpa using hmi))
            clear HS9 HG9 HR9 HI9 HK9 HM9 ci9 fi9 hbs
            refine SQ.done ?_
            go_wp2_with fail
            go_roundg (TS c.l nx5).length
            case measure => omega
            case rel => exact ⟨nx5, v5, gs5, p9, d9, m + 1, lst ++ [k5], by simp [hlm.out], Nat.le_refl _, by omega, by omega, by omega, by omega, HSA.out, HRA.out, HGE9.out, HIA.out, HKA.out, HMA.out, HGA.out, Lib.hid (by rw [HFP.out, show 3 - (m + 1) = j by omega])⟩
        · have hfm2 : Post = OkIn c E w v [ib] (FL c E ib) o (.err (TS c.l nx2).length 5) := by
            rw [hfm]
            cases h : tokI (c.l.drop (nxtI c.l nx2)) with
            | none => rfl
            | some t => simp only []; rw [if_neg (fun e => ht (by rw [h, e]))]
          have HF3 := Lib.hid hfm2
          have KT := Lib.hid (fun x hR => gNeed_no c.br c.l c.n nx2 o v2 [44] x hR hp2 hc.l ht)
          clear hfm hfm2 ht hp2
          have KT2 := KT.out _ HS0.out.rd
          go_wp2_with fail
          refine KT2.mono ?_
          rintro e w4 ⟨rfl, hB4⟩
          refine ⟨rfl, ?_⟩
          rw [HF3.out, ← HS0.out.pl.pos]
          exact OkIn.err_after HG0.out ((behind_of_below hB4).mono (by simp))
end Go.Proofs.YtmaiofimmjedjaaDoor

/- The reader: lists. -/
namespace Go.Proofs.YtmaiofimmjedjaaDoor
open Go.RowKit

def OkL (c : Cf) (E : List Nat) (w : World) (v : Value) (o : Nat) (r : PR) (e : Ending) (w' : World) : Prop := match r with
  | .ok lst ts gs => ∃ nx v' p d, e = .returned (.slice p lst.length d) ∧ ts = TS c.l nx ∧ St c E w' nx o v' gs ∧ Gw c w v w' v' ∧ InsAt w' (c.br :: (rowBlk v' ++ E)) p lst
  | .err q en => e = wrongE (posI c.l q) en ∧ Behind w (c.br :: rowBlk v) w'
theorem three_below (w : World) (b1 b2 b3 : Obj) : Below w.heap.size w (((w.alloc b1).alloc b2).alloc b3) := ((below_one w b1).trans ((below_one _ b2).mono (by simp))).trans ((below_one _ b3).mono (by simp; omega))
theorem St.three {c : Cf} (hc : c.Ok) {E : List Nat} {w : World} {nx o : Nat} {v : Value} {gs : List Gt} (h : St c E w nx o v gs) (b1 b2 b3 : Obj) : St c (w.heap.size :: (w.heap.size + 1) :: (w.heap.size + 1 + 1) :: E) (((w.alloc b1).alloc b2).alloc b3) nx o v gs :=
  h.apart hc (three_below w b1 b2 b3) (fun g hg => by
    simp only [List.mem_cons] at hg
    rcases hg with rfl | rfl | rfl | hg
    · exact .inr ⟨Nat.le_refl _, by simp; omega⟩
    · exact .inr ⟨by omega, by simp⟩
    · exact .inr ⟨by omega, by simp⟩
    · exact .inl hg)
theorem three_at (w : World) (b1 b2 b3 : Obj) : (((w.alloc b1).alloc b2).alloc b3).heap[w.heap.size]? = some b1 ∧ (((w.alloc b1).alloc b2).alloc b3).heap[w.heap.size + 1]? = some b2 ∧ (((w.alloc b1).alloc b2).alloc b3).heap[w.heap.size + 1 + 1]? = some b3 := by
  have h1 := heap_alloc_new w b1
  have h2 := heap_alloc_new (w.alloc b1) b2
  have h3 := heap_alloc_new ((w.alloc b1).alloc b2) b3
  have s1 : (w.alloc b1).heap.size = w.heap.size + 1 := by simp
  have s2 : ((w.alloc b1).alloc b2).heap.size = w.heap.size + 1 + 1 := by simp
  rw [s1] at h2
  rw [s2] at h3
  refine ⟨(behind_of_below (below_one _ b3)).keep ((behind_of_below (below_one _ b2)).keep h1 (by simp)) (by simp), (behind_of_below (below_one _ b3)).keep h2 (by simp), h3⟩

set_option maxHeartbeats 6400000 in
set_option maxRecDepth 100000 in
theorem gListA (c : Cf) (hc : c.Ok) (E : List Nat) (nx o : Nat) (v : Value) (gs : List Gt) (w : World) (hS : St c E w nx o v gs) (hA : ∀ ts, ts.length < (TS c.l nx).length → Con c .form ts) :
    Calls Tryd.prog 78 #[.pointer (some ⟨c.br, 0, none⟩), .int .i64 (-1)] w (OkL c E w v o (RI c.n .args (TS c.l nx) o gs)) := by
  obtain ⟨Post, hPost⟩ : ∃ P : Ending → World → Prop, P = OkL c E w v o (RI c.n .args (TS c.l nx) o gs) := ⟨_, rfl⟩
  rw [← hPost]
  rw [args_eq] at hPost
  have HP := Lib.hid hPost
  have hbr : c.br < w.heap.size := hS.X c.br (by simp)
  have hw0 := hS.be.size
  have HS2 := Lib.hid (hS.three hc (.cells #[.pointer (some ⟨c.br, 0, none⟩)] 55 (0, 0)) (.cells #[.int .i64 (-1)] 3 (0, 0)) (.cells #[.slice none 0 0] 31 (0, 0)))
  have HB2 := Lib.hid (three_below w (.cells #[.pointer (some ⟨c.br, 0, none⟩)] 55 (0, 0)) (.cells #[.int .i64 (-1)] 3 (0, 0)) (.cells #[.slice none 0 0] 31 (0, 0)))
  obtain ⟨hk2, hm2, hi2⟩ := three_at w (.cells #[.pointer (some ⟨c.br, 0, none⟩)] 55 (0, 0)) (.cells #[.int .i64 (-1)] 3 (0, 0)) (.cells #[.slice none 0 0] 31 (0, 0))
  have KN := insideL c hc _ nx o v gs _ HS2.out [40] #[.pointer (some ⟨w.heap.size + 1, 0, none⟩), .pointer (some ⟨w.heap.size, 0, none⟩), .pointer (some ⟨w.heap.size + 1 + 1, 0, none⟩)] (by simp) [w.heap.size + 1 + 1] (FL c (w.heap.size :: (w.heap.size + 1) :: (w.heap.size + 1 + 1) :: E) (w.heap.size + 1 + 1)) (FL.later (by omega)) (argR c (o + 1) gs)
    (fun w1 ho hB1 ht hS1 => list1A c hc _ (w.heap.size + 1) w.heap.size (w.heap.size + 1 + 1) _ (o + 1) v gs w1 hS1 (by omega) (by simp) (by simp) (by simp) (by omega) (by omega) (by omega) (hB1.keep hm2 (by simp; omega)) (hB1.keep hk2 (by simp; omega)) (hB1.keep hi2 (by simp; omega)) (fun ts hts => hA ts (by have := TS_less ht (by simp); omega)))
  obtain ⟨R, hR⟩ : ∃ R, R = openI [40] (TS c.l nx) o (argR c (o + 1) gs) := ⟨_, rfl⟩
  rw [← hR] at KN HP
  clear hPost hR hS hA hk2 hm2 hi2
  go_enter Tryd.func78, Tryd.ntmps78
  go_wp2_with fail
  refine KN.mono ?_
  intro e w3 h3
  cases R with
  | err q en =>
    obtain ⟨rfl, h3⟩ := h3
    refine ⟨rfl, ?_⟩
    rw [HP.out]
    exact ⟨rfl, drop_err h3 HB2.out (fun g hg => by simp at hg; omega)⟩
  | ok lst ts3 gs3 =>
    obtain ⟨nx3, v3, rfl, rfl, hS3, hG3, u, hI3, hR3, hX3⟩ := h3
    obtain ⟨p, d, hu⟩ := hR3.slice
    subst hu
    have HS3 := Lib.hid hS3
    have HG3 := Lib.hid hG3
    have HI3 := Lib.hid hI3
    have HR3 := Lib.hid hR3
    have HX3 := Lib.hid hX3
    have c3 := blk_cell hI3 0 rfl
    have f3 := blk_free hI3 0
    clear hS3 hG3 hI3 hR3 hX3 KN
    go_wp2_with fail
    refine bodyPost_ret (results_cell_one (p := 4) rfl _ _ (w.heap.size + 1 + 1) _ _ rfl (blk_cell (heap_setCell_same _ (w.heap.size + 1 + 1) 0 _ _ _ HI3.out) 0 rfl) Tryd.underlying31 rfl) rfl ?_
    rw [HP.out]
    have hb : Behind w3 [w.heap.size + 1 + 1] (w3.setCell ⟨w.heap.size + 1 + 1, 0, none⟩ (.slice p lst.length d)) := behind_set1
    refine ⟨nx3, v3, p, d, rfl, rfl, (HS3.out.wrote hc hb (fun g hg => by simp at hg; subst hg; exact ⟨by simp, by omega⟩)).apart hc (Below.refl _ _) (fun g hg => .inl (by simp [hg])), (HG3.out.trans (Gu.of hb)).drop HB2.out (fun g hg => by simp at hg; omega), row_ins (HR3.out.keep hb (fun g hg h => (HX3.out g hg).2.2.1 (by simp at h; simp [h]))) (fun g hg hm => ?_)⟩
    rcases List.mem_cons.1 hm with rfl | hm
    · exact (HX3.out _ hg).2.1 (by simp)
    · rcases List.mem_append.1 hm with hm | hm
      · exact (HX3.out g hg).2.1 (by simp [hm])
      · exact (HX3.out g hg).2.2.1 (by simp [hm])

set_option maxHeartbeats 6400000 in
set_option maxRecDepth 100000 in
theorem gListT (c : Cf) (hc : c.Ok) (E : List Nat) (nx o : Nat) (v : Value) (gs : List Gt) (w : World) (hS : St c E w nx o v gs) (hA : ∀ ts, ts.length < (TS c.l nx).length → Con c .form ts) :
    Calls Tryd.prog 78 #[.pointer (some ⟨c.br, 0, none⟩), .int .i64 3] w (OkL c E w v o (RI c.n .three (TS c.l nx) o gs)) := by
  obtain ⟨Post, hPost⟩ : ∃ P : Ending → World → Prop, P = OkL c E w v o (RI c.n .three (TS c.l nx) o gs) := ⟨_, rfl⟩
  rw [← hPost]
  rw [three_eq] at hPost
  have HP := Lib.hid hPost
  have hbr : c.br < w.heap.size := hS.X c.br (by simp)
  have hw0 := hS.be.size
  have HS2 := Lib.hid (hS.three hc (.cells #[.pointer (some ⟨c.br, 0, none⟩)] 55 (0, 0)) (.cells #[.int .i64 3] 3 (0, 0)) (.cells #[.slice none 0 0] 31 (0, 0)))
  have HB2 := Lib.hid (three_below w (.cells #[.pointer (some ⟨c.br, 0, none⟩)] 55 (0, 0)) (.cells #[.int .i64 3] 3 (0, 0)) (.cells #[.slice none 0 0] 31 (0, 0)))
  obtain ⟨hk2, hm2, hi2⟩ := three_at w (.cells #[.pointer (some ⟨c.br, 0, none⟩)] 55 (0, 0)) (.cells #[.int .i64 3] 3 (0, 0)) (.cells #[.slice none 0 0] 31 (0, 0))
  have KN := insideL c hc _ nx o v gs _ HS2.out [40] #[.pointer (some ⟨w.heap.size + 1, 0, none⟩), .pointer (some ⟨w.heap.size, 0, none⟩), .pointer (some ⟨w.heap.size + 1 + 1, 0, none⟩)] (by simp) [w.heap.size + 1 + 1] (FL c (w.heap.size :: (w.heap.size + 1) :: (w.heap.size + 1 + 1) :: E) (w.heap.size + 1 + 1)) (FL.later (by omega)) (thrR c (o + 1) gs)
    (fun w1 ho hB1 ht hS1 => list1T c hc _ (w.heap.size + 1) w.heap.size (w.heap.size + 1 + 1) _ (o + 1) v gs w1 hS1 (by omega) (by simp) (by simp) (by simp) (by omega) (by omega) (by omega) (hB1.keep hm2 (by simp; omega)) (hB1.keep hk2 (by simp; omega)) (hB1.keep hi2 (by simp; omega)) (fun ts hts => hA ts (by have := TS_less ht (by simp); omega)))
  obtain ⟨R, hR⟩ : ∃ R, R = openI [40] (TS c.l nx) o (thrR c (o + 1) gs) := ⟨_, rfl⟩
  rw [← hR] at KN HP
  clear hPost hR hS hA hk2 hm2 hi2
  go_enter Tryd.func78, Tryd.ntmps78
  go_wp2_with fail
  refine KN.mono ?_
  intro e w3 h3
  cases R with
  | err q en =>
    obtain ⟨rfl, h3⟩ := h3
    refine ⟨rfl, ?_⟩
    rw [HP.out]
    exact ⟨rfl, drop_err h3 HB2.out (fun g hg => by simp at hg; omega)⟩
  | ok lst ts3 gs3 =>
    obtain ⟨nx3, v3, rfl, rfl, hS3, hG3, u, hI3, hR3, hX3⟩ := h3
    obtain ⟨p, d, hu⟩ := hR3.slice
    subst hu
    have HS3 := Lib.hid hS3
    have HG3 := Lib.hid hG3
    have HI3 := Lib.hid hI3
    have HR3 := Lib.hid hR3
    have HX3 := Lib.hid hX3
    have c3 := blk_cell hI3 0 rfl
    have f3 := blk_free hI3 0
    clear hS3 hG3 hI3 hR3 hX3 KN
    go_wp2_with fail
    refine bodyPost_ret (results_cell_one (p := 4) rfl _ _ (w.heap.size + 1 + 1) _ _ rfl (blk_cell (heap_setCell_same _ (w.heap.size + 1 + 1) 0 _ _ _ HI3.out) 0 rfl) Tryd.underlying31 rfl) rfl ?_
    rw [HP.out]
    have hb : Behind w3 [w.heap.size + 1 + 1] (w3.setCell ⟨w.heap.size + 1 + 1, 0, none⟩ (.slice p lst.length d)) := behind_set1
    refine ⟨nx3, v3, p, d, rfl, rfl, (HS3.out.wrote hc hb (fun g hg => by simp at hg; subst hg; exact ⟨by simp, by omega⟩)).apart hc (Below.refl _ _) (fun g hg => .inl (by simp [hg])), (HG3.out.trans (Gu.of hb)).drop HB2.out (fun g hg => by simp at hg; omega), row_ins (HR3.out.keep hb (fun g hg h => (HX3.out g hg).2.2.1 (by simp at h; simp [h]))) (fun g hg hm => ?_)⟩
    rcases List.mem_cons.1 hm with rfl | hm
    · exact (HX3.out _ hg).2.1 (by simp)
    · rcases List.mem_append.1 hm with hm | hm
      · exact (HX3.out g hg).2.1 (by simp [hm])
      · exact (HX3.out g hg).2.2.1 (by simp [hm])
end Go.Proofs.YtmaiofimmjedjaaDoor
