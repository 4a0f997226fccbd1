/- Texts of this claim, joined: JS, HW. -/
import Derived.Test.YtmaiofimmjedjaaDoorMW15
import Derived.Test.YtmaiofimmjedjaaDoorMW04
import Derived.Test.YtmaiofimmjedjaaDoorMW12
import Derived.Lib.AppendStr
import Derived.Test.YtmaiofimmjedjaaDoorShelf
import Derived.Shelf.Strings.BuilderX
import Derived.Lib.UnsafeStr

/- The reader: the closure of a list. -/
namespace Go.Proofs.YtmaiofimmjedjaaDoor
open Go.RowKit

def FL (c : Cf) (E : List Nat) (ib : Nat) (lst : List Int) (v' : Value) (w : World) : Prop := ∃ u, w.heap[ib]? = some (.cells #[u] 31 (0, 0)) ∧ RowV (inW w) 3 1 u lst.length (ints lst) ∧ ∀ g ∈ rowBlk u, c.w0.heap.size ≤ g ∧ g ∉ c.br :: rowBlk v' ∧ g ∉ E ∧ g < w.heap.size
theorem FL.later {c : Cf} {E : List Nat} {ib : Nat} (hne : ib ≠ c.br) : ∀ lst v' x x', Behind x [c.br] x' → FL c E ib lst v' x → FL c E ib lst v' x' := fun lst v' x x' hB h => by
  obtain ⟨u, h1, h2, h3⟩ := h
  exact ⟨u, hB.keep h1 (by simpa using hne), h2.keep hB (fun g hg h => (h3 g hg).2.1 (by simp at h; simp [h])), fun g hg => ⟨(h3 g hg).1, (h3 g hg).2.1, (h3 g hg).2.2.1, Nat.lt_of_lt_of_le (h3 g hg).2.2.2 hB.size⟩⟩
def argR (c : Cf) (o : Nat) (gs : List Gt) (ts : List Tk) : PR := nextI ts fun t => if t = [41] then .ok [] ts.tail gs else (RI c.n .form ts o gs).bind fun l ts gs => RI c.n (.argsL l) ts o gs
def thr (c : Cf) (o : Nat) : Nat → List Int → List Tk → List Gt → PR
  | 0, l, ts, gs => needI [41] ts fun ts => .ok l ts gs
  | k + 1, l, ts, gs => needI [44] ts fun ts => (RI c.n .form ts o gs).bind fun l2 ts gs => thr c o k (l ++ l2) ts gs
def thrR (c : Cf) (o : Nat) (gs : List Gt) (ts : List Tk) : PR := (RI c.n .form ts o gs).bind fun l ts gs => thr c o 2 l ts gs
theorem args_eq (c : Cf) (ts : List Tk) (o : Nat) (gs : List Gt) : RI c.n .args ts o gs = openI [40] ts o (argR c (o + 1) gs) := RI_args _ _ _ _
theorem three_eq (c : Cf) (ts : List Tk) (o : Nat) (gs : List Gt) : RI c.n .three ts o gs = openI [40] ts o (thrR c (o + 1) gs) := RI_three _ _ _ _

set_option maxHeartbeats 12800000 in
set_option maxRecDepth 100000 in
theorem list1A (c : Cf) (hc : c.Ok) (E : List Nat) (mb kb ib nx o : Nat) (v : Value) (gs : List Gt) (w : World) (hS : St c E w nx o v gs) (ho : o ≤ 200) (hmb : mb ∈ E) (hkb : kb ∈ E) (hib : ib ∈ E) (hmi : mb ≠ ib) (hki : kb ≠ ib) (hiw : c.w0.heap.size ≤ ib) (HM : w.heap[mb]? = some (.cells #[.int .i64 (-1)] 3 (0, 0))) (HK : w.heap[kb]? = some (.cells #[.pointer (some ⟨c.br, 0, none⟩)] 55 (0, 0))) (HI : w.heap[ib]? = some (.cells #[.slice none 0 0] 31 (0, 0))) (hA : ∀ ts, ts.length ≤ (TS c.l nx).length → Con c .form ts) :
    Calls Tryd.prog 87 #[.pointer (some ⟨mb, 0, none⟩), .pointer (some ⟨kb, 0, none⟩), .pointer (some ⟨ib, 0, none⟩)] w (OkIn c E w v [ib] (FL c E ib) o (argR c o gs (TS c.l nx))) := by
  obtain ⟨i0, ii, iz0, iz1, iz2⟩ := info_parts Tryd.infoIntJ
  have II := Lib.hid ii
  have IZ0 := Lib.hid iz0
  have IZ1 := Lib.hid iz1
  have IZ2 := Lib.hid iz2
  obtain ⟨Post, hPost⟩ : ∃ P : Ending → World → Prop, P = OkIn c E w v [ib] (FL c E ib) o (argR c o gs (TS c.l nx)) := ⟨_, rfl⟩
  rw [← hPost]
  unfold argR at hPost
  have HP := Lib.hid hPost
  have hw0 := hS.be.size
  have hS00 := Lib.hid (fun g hg => (hS.ex g hg).1)
  have hilt := hS00.out ib hib
  have hklt := hS00.out kb hkb
  have hmlt := hS00.out mb hmb
  have hcnt0 := hS.cnt
  have KF := Lib.hid (fun (E' : List Nat) (nx2 : Nat) (v2 : Value) (gs2 : List Gt) (x : World) (hlt : (TS c.l nx2).length ≤ (TS c.l nx).length) (hx : St c E' x nx2 o v2 gs2) => (show Calls Tryd.prog 23 #[.pointer (some ⟨c.br, 0, none⟩)] x (OkP c E' x v2 o (RI c.n .form (TS c.l nx2) o gs2)) from hA _ hlt E' nx2 o v2 gs2 x rfl hx ho))
  have HM0 := Lib.hid HM
  have HK0 := Lib.hid HK
  have HI0 := Lib.hid HI
  have HS0 := Lib.hid (show St c (rowBlk (.slice none 0 0) ++ E) w nx o v gs from hS)
  have HR0 := Lib.hid (show RowV (inW w) 3 1 (.slice none 0 0) 0 (ints []) from .nil)
  have HGE0 := Lib.hid (show ∀ g ∈ rowBlk (.slice none 0 0), w.heap.size ≤ g from fun g hg => by simp [rowBlk] at hg)
  have HG0 := Lib.hid (show Gu c [ib] w v w v from (Gw.refl c w v).wide)
  clear hPost ii iz0 iz1 iz2 hS HM HK HI hA
  have hp2 := HS0.out.pl.le
  have hfm := HP.out
  rw [next_TS] at hfm
  have hm0 := blk_cell HM0.out 0 rfl
  have hk0 := blk_cell HK0.out 0 rfl
  cases ht : tokI (c.l.drop (nxtI c.l nx)) with
  | none =>
    rw [ht] at hfm
    have HF := Lib.hid hfm
    have KT := gTake_none c.br c.l c.n nx o v [41] w HS0.out.rd hp2 hc.l ht
    clear hfm ht hp2
    go_enter Tryd.func87, Tryd.ntmps87
    go_wp2_with fail
    refine KT.mono ?_
    rintro e w4 ⟨rfl, hB⟩
    refine ⟨rfl, ?_⟩
    rw [HF.out]
    exact ⟨by rw [HS0.out.pl.pos]; rfl, (behind_of_below hB).mono (by simp)⟩
  | some t =>
    rw [ht] at hfm
    by_cases hteq : t = [41]
    · subst hteq
      have hfm2 : Post = OkIn c E w v [ib] (FL c E ib) o (.ok [] (TS c.l nx).tail gs) := by rw [hfm]; simp
      rw [TS_tail ht (by simp)] at hfm2
      have HF := Lib.hid hfm2
      have hless := TS_less ht (by simp)
      have HPL := Lib.hid (HS0.out.pl.next ht (by simp))
      have KT := gTake_yes c.br c.l c.n nx o v [41] w HS0.out.rd hp2 hc.l ht
      obtain ⟨nx3, hnx3⟩ : ∃ nx3, nx3 = nxtI c.l nx + ([41] : List UInt8).length := ⟨_, rfl⟩
      rw [← hnx3] at KT HF HPL hless
      clear hfm hfm2 ht hp2 hnx3
      go_enter Tryd.func87, Tryd.ntmps87
      go_wp2_with fail
      refine KT.mono ?_
      rintro e w4 ⟨rfl, hR4, hB4⟩
      have HS4 := Lib.hid (HS0.out.move hc hR4 hB4 HPL.out (by omega))
      have HG4 := Lib.hid (HG0.out.trans (Gw.of_br (v := v) hB4).wide)
      have HI4 := Lib.hid (hB4.keep HI0.out (fun h => (HS0.out.ex ib (by simp [hib])).2 (by simp at h; simp [h])))
      have HR4 := Lib.hid (HR0.out.keep hB4 (fun g hg h => by simp [rowBlk] at hg))
      clear hR4 hB4 KT
      go_wp2_with fail
      go_end0
      rw [HF.out]
      exact ⟨nx3, v, rfl, rfl, HS4.out, HG4.out, _, HI4.out, HR4.out, fun g hg => by simp [rowBlk] at hg⟩
    · have HF := Lib.hid (show Post = OkIn c E w v [ib] (FL c E ib) o ((RI c.n .form (TS c.l nx) o gs).bind fun l ts gs => RI c.n (.argsL l) ts o gs) by rw [hfm]; simp [hteq])
      have KT := gTake_no c.br c.l c.n nx o v [41] t w HS0.out.rd hp2 hc.l ht hteq
      clear hfm ht hp2 hteq HP
      go_enter Tryd.func87, Tryd.ntmps87
      go_wp2_with fail
      refine KT.mono ?_
      rintro e w2 ⟨rfl, hB⟩
      have hB2 := behind_of_below hB
      have HS0 := Lib.hid (HS0.out.later hc hB)
      have HI0 := Lib.hid (hB2.keep HI0.out (by simp))
      have HK0 := Lib.hid (hB2.keep HK0.out (by simp))
      have HM0 := Lib.hid (hB2.keep HM0.out (by simp))
      have HR0 := Lib.hid (HR0.out.keep hB2 (by simp))
      have HG0 := Lib.hid (HG0.out.trans (Gw.of_below (v := v) hB).wide)
      have hlt2 : (TS c.l nx).length ≤ (TS c.l nx).length := Nat.le_refl _
      have hl0 : ([] : List Int).length = 0 := rfl
      clear hB hB2 KT hm0 hk0
      go_wp2_with fail
      refine wp_seq 2 (fun y => y.heap[ib]? = some (.cells #[.slice none 0 0] 31 (0, 0)) ∧ y.heap[kb]? = some (.cells #[.pointer (some ⟨c.br, 0, none⟩)] 55 (0, 0))) (by kernel_rfl) (by kernel_rfl) (fun c d v a w h => by cases d <;> exact h) ?_
      intro x4 hx4
      have HS4 := Lib.hid (HS0.out.later hc hx4.below)
      have HI4 := Lib.hid (hx4.keep HI0.out (by simp))
      have HK4 := Lib.hid (hx4.keep HK0.out (by simp))
      have HM4 := Lib.hid (hx4.keep HM0.out (by simp))
      have HR4 := Lib.hid (HR0.out.keep hx4 (by simp))
      have HG4 := Lib.hid (HG0.out.trans (Gw.of_below (v := v) hx4.below).wide)
      clear hx4
      simp only [List.take_succ_cons, List.take_zero, List.drop_succ_cons, List.drop_zero]
      refine ⟨.slice none 0 0, ⟨by rfl, fun y hy => by have := blk_cell hy.1 0 rfl; clear hy; go_simp⟩, ?_⟩
      refine ⟨.pointer (some ⟨c.br, 0, none⟩), ⟨by rfl, fun y hy => by have := blk_cell hy.2 0 rfl; clear hy; go_simp⟩, ?_⟩
      show SeqW Tryd.prog _ _ _ _ _ _ _
      refine SeqW.step (by rfl) ⟨HI4.out, HK4.out⟩ ?_
      have KA4 : Calls Tryd.prog 23 #[.pointer (some ⟨c.br, 0, none⟩)] x4 (OkP c (rowBlk (.slice none 0 0) ++ E) x4 v o (RI c.n .form (TS c.l nx) o gs)) := KF.out _ nx v gs x4 hlt2 HS4.out
      have HLEN := Lib.hid (fun a b d (h : RI c.n .form (TS c.l nx) o gs = .ok a b d) => ok_less h rfl)
      have HGS := Lib.hid (fun a b d (h : RI c.n .form (TS c.l nx) o gs = .ok a b d) => (RI_gs (by trivial) h).1)
      obtain ⟨R1, hR1⟩ : ∃ R1, R1 = RI c.n .form (TS c.l nx) o gs := ⟨_, rfl⟩
      rw [← hR1] at KA4 HF HLEN HGS
      clear hR1
      go_wp2_with fail
      refine KA4.mono ?_
      intro e w5 h5
      cases R1 with
      | err q5 en =>
        obtain ⟨rfl, h5⟩ := h5
        refine ⟨rfl, ?_⟩
        rw [HF.out]
        exact OkIn.err_after (v1 := v) HG4.out (h5.mono (fun g hg => (List.mem_cons.1 hg).elim (fun e => by simp [e]) (fun e => by simp [e])))
      | ok l5 ts5 gs5 =>
        obtain ⟨k5, nx5, v5, rfl, rfl, rfl, hS5, hG5⟩ := h5
        have hlen5 := HLEN.out _ _ _ rfl
        have hgs5 := HGS.out _ _ _ rfl
        simp [loopM, moreM] at hgs5
        have HR5 := Lib.hid (row_keep HR4.out HS4.out hG5)
        have HS5 := Lib.hid hS5
        have HG5 := Lib.hid (HG4.out.trans hG5.wide)
        have HI5 := Lib.hid (hG5.be.keep HI4.out (HS4.out.ex ib (by simp [hib])).2)
        have HK5 := Lib.hid (hG5.be.keep HK4.out (HS4.out.ex kb (by simp [hkb])).2)
        have HM5 := Lib.hid (hG5.be.keep HM4.out (HS4.out.ex mb (by simp [hmb])).2)
        have HFP := Lib.hid (show Post = OkIn c E w v [ib] (FL c E ib) o (RI c.n (.argsL [k5]) (TS c.l nx5) o gs5) from HF.out)
        have hw5 : w.heap.size ≤ w5.heap.size := HG5.out.be.size
        have HBA := Lib.hid (below_one w5 (.cells #[.int .i64 k5] 3 (0, 0)))
        have HI6 := Lib.hid ((behind_of_below HBA.out).keep HI5.out (by simp))
        have HK6 := Lib.hid ((behind_of_below HBA.out).keep HK5.out (by simp))
        clear hS5 hG5 KA4 HLEN HGS HF HR4 HS4 HG4 HI4 HK4 HM4
        go_wp2_with fail
        show SeqW Tryd.prog _ _ _ _ _ _ _
        refine SeqW.step (by rfl) ⟨HI5.out, HK5.out⟩ ?_
        go_wp2_with fail
        show SeqW Tryd.prog _ _ _ _ _ _ _
        refine SeqW.step (by rfl) ⟨HI6.out, HK6.out⟩ ?_
        go_wp2_with (at_builtin; refine wpList_append_row _ rfl _ _ 31 rfl 3 i0 (.int .i64 0) 1 8 Tryd.underlying31 II.out IZ0.out IZ1.out IZ2.out rfl _ _ _ rfl (HR5.out.keep (behind_of_below ((Below.refl _ _).alloc (Nat.le_refl _) _)) (by simp)) w5.heap.size 1 1 [.int .i64 k5] 3 rfl (heap_alloc_new w5 _) rfl (by intro x hx; simp at hx; subst hx; rfl) (by omega) (by unfold maxLen; omega) (by omega) ?_)
        intro v9 w9 hr9 hB9 hn9
        have hr9 : RowV (inW w9) 3 1 v9 1 (ints (([] : List Int) ++ [k5])) := by
          rw [show ints (([] : List Int) ++ [k5]) = ints ([] : List Int) ++ [.int .i64 k5] by simp [ints]]; exact hr9
        obtain ⟨p9, d9, hv9⟩ := hr9.slice
        subst hv9
        have h09 : Behind w5 (rowBlk (.slice none 0 0)) w9 := ((behind_of_below HBA.out).mono (by simp)).trans hB9 (fun k hk => .inl hk)
        have hn9' : ∀ g ∈ rowBlk (.slice p9 1 d9), g ∈ rowBlk (.slice none 0 0) ∨ w5.heap.size ≤ g := fun g hg => (hn9 g hg).imp id (fun h => by first | omega | (simp at h; omega))
        have HS9 := Lib.hid (HS5.out.rowed hc h09 (fun g hg => Nat.le_trans hw0 (HGE0.out g hg)) hn9' hr9.lt)
        have HG9 := Lib.hid (show Gu c [ib] w v w9 v5 from ⟨HG5.out.be.trans h09 (fun b hb => .inr (HGE0.out b hb)), HG5.out.new⟩)
        have hge9 : ∀ g ∈ rowBlk (.slice p9 1 d9), w.heap.size ≤ g := fun g hg => (hn9' g hg).elim (HGE0.out g) (fun e => by omega)
        have HGE9 := Lib.hid hge9
        have HR9 := Lib.hid hr9
        have HI9 := Lib.hid (h09.keep HI5.out (fun h => by have := HGE0.out _ h; omega))
        have HK9 := Lib.hid (h09.keep HK5.out (fun h => by have := HGE0.out _ h; omega))
        have HM9 := Lib.hid (h09.keep HM5.out (fun h => by have := HGE0.out _ h; omega))
        have ci9 := blk_cell HI9.out 0 rfl
        have fi9 := blk_free HI9.out 0
        clear h09 hn9 hn9' hr9 hB9 hge9 HS5 HG5 HR5
        go_wp2_with fail
        show SeqW Tryd.prog _ _ _ _ _ _ _
        refine SeqW.step (by rfl) ⟨HI9.out, HK9.out⟩ ?_
        go_wp2_with fail
        have hbs : Behind w9 [ib] (w9.setCell ⟨ib, 0, none⟩ (.slice p9 1 d9)) := behind_set1
        have HSA := Lib.hid (HS9.out.wrote hc hbs (fun g hg => by simp at hg; subst hg; exact ⟨by simp [hib], hiw⟩))
        have HGA := Lib.hid (HG9.out.trans (Gu.of hbs))
        have HRA := Lib.hid (HR9.out.keep hbs (fun g hg h => by simp at h; subst h; have := HGE9.out _ hg; omega))
        have HIA := Lib.hid (heap_setCell_same _ ib 0 _ _ (.slice p9 1 d9) HI9.out)
        have HKA := Lib.hid (hbs.keep HK9.out (by simpa using hki))
        have HMA := Lib.hid (hbs.keep HM9.out (by simpa using hmi))
        clear HS9 HG9 HR9 HI9 HK9 HM9 ci9 fi9 hbs
        refine SQ.done ?_
        go_wp2_with fail
        clear HS0 HI0 HK0 HM0 HR0 HG0 HGE0
        go_loopg [] (TS c.l nx5).length (fun kk wr => ∃ (nx2 : Nat) (v2 : Value) (gs2 : List Gt) (p : Option Addr) (d m : Nat) (lst : List Int), lst.length = m ∧ (TS c.l nx2).length ≤ kk ∧ (TS c.l nx2).length ≤ (TS c.l nx).length ∧ 1 ≤ m ∧ gs2.length + 3 * (TS c.l nx2).length + 2 * m ≤ 10000000 ∧ Hid (St c (rowBlk (.slice p m d) ++ E) wr nx2 o v2 gs2) ∧ Hid (RowV (inW wr) 3 1 (.slice p m d) m (ints lst)) ∧ Hid (∀ g ∈ rowBlk (.slice p m d), w.heap.size ≤ g) ∧ Hid (wr.heap[ib]? = some (.cells #[.slice p m d] 31 (0, 0))) ∧ Hid (wr.heap[kb]? = some (.cells #[.pointer (some ⟨c.br, 0, none⟩)] 55 (0, 0))) ∧ Hid (wr.heap[mb]? = some (.cells #[.int .i64 (-1)] 3 (0, 0))) ∧ Hid (Gu c [ib] w v wr v2) ∧ Hid (Post = OkIn c E w v [ib] (FL c E ib) o (RI c.n (.argsL lst) (TS c.l nx2) o gs2)))
        case atStart => exact ⟨nx5, v5, gs5, p9, d9, 1, [k5], rfl, Nat.le_refl _, by omega, Nat.le_refl _, by omega, HSA.out, HRA.out, HGE9.out, HIA.out, HKA.out, HMA.out, HGA.out, HFP.out⟩
        case round =>
          obtain ⟨nx2, v2, gs2, p, d, m, lst, hlm', hkk, hlen2, hl1, hcnt2, HS0, HR0, HGE0, HI0, HK0, HM0, HG0, HP⟩ := hrel
          have hlm := Lib.hid hlm'
          clear hlm' HSA HRA HGE9 HIA HKA HMA HGA HFP hlt2 hlen5 hgs5 hw5 hl0
          have hi0 := blk_cell HI0.out 0 rfl
          have hk0 := blk_cell HK0.out 0 rfl
          have hm0 := blk_cell HM0.out 0 rfl
          have hp2 := HS0.out.pl.le
          have hfm := HP.out
          rw [RI_argsL, next_TS] at hfm
          cases ht : tokI (c.l.drop (nxtI c.l nx2)) with
          | none =>
            rw [ht] at hfm
            have HF := Lib.hid hfm
            have KT := gTake_none c.br c.l c.n nx2 o v2 [44] wr HS0.out.rd hp2 hc.l ht
            clear hfm ht hp2
            go_wp2_with fail
            refine KT.mono ?_
            rintro e w4 ⟨rfl, hB⟩
            refine ⟨rfl, ?_⟩
            rw [HF.out, ← HS0.out.pl.pos]
            exact OkIn.err_after HG0.out ((behind_of_below hB).mono (by simp))
          | some t =>
            rw [ht] at hfm
            by_cases hteq : t = [44]
            · subst hteq
              have hfm2 : Post = OkIn c E w v [ib] (FL c E ib) o ((RI c.n .form (TS c.l nx2).tail o gs2).bind fun l2 ts gs => RI c.n (.argsL (lst ++ l2)) ts o gs) := by rw [hfm]; simp
              rw [TS_tail ht (by simp)] at hfm2
              have HF := Lib.hid hfm2
              have hless := TS_less ht (by simp)
              have HPL := Lib.hid (HS0.out.pl.next ht (by simp))
              have KT := gTake_yes c.br c.l c.n nx2 o v2 [44] wr HS0.out.rd hp2 hc.l ht
              obtain ⟨nx3, hnx3⟩ : ∃ nx3, nx3 = nxtI c.l nx2 + ([44] : List UInt8).length := ⟨_, rfl⟩
              rw [← hnx3] at KT HF HPL hless
              clear hfm hfm2 ht hp2 hnx3 HP
              go_wp2_with fail
              refine KT.mono ?_
              rintro e w2 ⟨rfl, hR4, hB4⟩
              have HS3 := Lib.hid (HS0.out.move hc hR4 hB4 HPL.out (by omega))
              have HI3 := Lib.hid (hB4.keep HI0.out (fun h => (HS0.out.ex ib (by simp [hib])).2 (by simp at h; simp [h])))
              have HK3 := Lib.hid (hB4.keep HK0.out (fun h => (HS0.out.ex kb (by simp [hkb])).2 (by simp at h; simp [h])))
              have HM3 := Lib.hid (hB4.keep HM0.out (fun h => (HS0.out.ex mb (by simp [hmb])).2 (by simp at h; simp [h])))
              have HR3 := Lib.hid (HR0.out.keep hB4 (fun g hg h => (HS0.out.ex g (by simp [hg])).2 (by simp at h; simp [h])))
              have HG3 := Lib.hid (HG0.out.trans (Gw.of_br (v := v2) hB4).wide)
              have hlt2 : (TS c.l nx3).length ≤ (TS c.l nx).length := by omega
              have hm3 := blk_cell HM3.out 0 rfl
              clear hR4 hB4 KT hi0 hk0 hm0 HS0 HI0 HK0 HM0 HR0 HG0
              go_wp2_with fail
              refine wp_seq 2 (fun y => y.heap[ib]? = some (.cells #[.slice p m d] 31 (0, 0)) ∧ y.heap[kb]? = some (.cells #[.pointer (some ⟨c.br, 0, none⟩)] 55 (0, 0))) (by kernel_rfl) (by kernel_rfl) (fun c d v a w h => by cases d <;> exact h) ?_
              intro x4 hx4
              have HS4 := Lib.hid (HS3.out.later hc hx4.below)
              have HI4 := Lib.hid (hx4.keep HI3.out (by simp))
              have HK4 := Lib.hid (hx4.keep HK3.out (by simp))
              have HM4 := Lib.hid (hx4.keep HM3.out (by simp))
              have HR4 := Lib.hid (HR3.out.keep hx4 (by simp))
              have HG4 := Lib.hid (HG3.out.trans (Gw.of_below (v := v2) hx4.below).wide)
              clear hx4
              simp only [List.take_succ_cons, List.take_zero, List.drop_succ_cons, List.drop_zero]
              refine ⟨.slice p m d, ⟨by rfl, fun y hy => by have := blk_cell hy.1 0 rfl; clear hy; go_simp⟩, ?_⟩
              refine ⟨.pointer (some ⟨c.br, 0, none⟩), ⟨by rfl, fun y hy => by have := blk_cell hy.2 0 rfl; clear hy; go_simp⟩, ?_⟩
              show SeqW Tryd.prog _ _ _ _ _ _ _
              refine SeqW.step (by rfl) ⟨HI4.out, HK4.out⟩ ?_
              have KA4 : Calls Tryd.prog 23 #[.pointer (some ⟨c.br, 0, none⟩)] x4 (OkP c (rowBlk (.slice p m d) ++ E) x4 v2 o (RI c.n .form (TS c.l nx3) o gs2)) := KF.out _ nx3 v2 gs2 x4 hlt2 HS4.out
              have HLEN := Lib.hid (fun a b d (h : RI c.n .form (TS c.l nx3) o gs2 = .ok a b d) => ok_less h rfl)
              have HGS := Lib.hid (fun a b d (h : RI c.n .form (TS c.l nx3) o gs2 = .ok a b d) => (RI_gs (by trivial) h).1)
              obtain ⟨R1, hR1⟩ : ∃ R1, R1 = RI c.n .form (TS c.l nx3) o gs2 := ⟨_, rfl⟩
              rw [← hR1] at KA4 HF HLEN HGS
              clear hR1
              go_wp2_with fail
              refine KA4.mono ?_
              intro e w5 h5
              cases R1 with
              | err q5 en =>
                obtain ⟨rfl, h5⟩ := h5
                refine ⟨rfl, ?_⟩
                rw [HF.out]
                exact OkIn.err_after (v1 := v2) HG4.out (h5.mono (fun g hg => (List.mem_cons.1 hg).elim (fun e => by simp [e]) (fun e => by simp [e])))
              | ok l5 ts5 gs5 =>
                obtain ⟨k5, nx5, v5, rfl, rfl, rfl, hS5, hG5⟩ := h5
                have hlen5 := HLEN.out _ _ _ rfl
                have hgs5 := HGS.out _ _ _ rfl
                simp [loopM, moreM] at hgs5
                have HR5 := Lib.hid (row_keep HR4.out HS4.out hG5)
                have HS5 := Lib.hid hS5
                have HG5 := Lib.hid (HG4.out.trans hG5.wide)
                have HI5 := Lib.hid (hG5.be.keep HI4.out (HS4.out.ex ib (by simp [hib])).2)
                have HK5 := Lib.hid (hG5.be.keep HK4.out (HS4.out.ex kb (by simp [hkb])).2)
                have HM5 := Lib.hid (hG5.be.keep HM4.out (HS4.out.ex mb (by simp [hmb])).2)
                have HFP := Lib.hid (show Post = OkIn c E w v [ib] (FL c E ib) o (RI c.n (.argsL (lst ++ [k5])) (TS c.l nx5) o gs5) from HF.out)
                have hw5 : w.heap.size ≤ w5.heap.size := HG5.out.be.size
                have HBA := Lib.hid (below_one w5 (.cells #[.int .i64 k5] 3 (0, 0)))
                have HI6 := Lib.hid ((behind_of_below HBA.out).keep HI5.out (by simp))
                have HK6 := Lib.hid ((behind_of_below HBA.out).keep HK5.out (by simp))
                clear hS5 hG5 KA4 HLEN HGS HF HR4 HS4 HG4 HI4 HK4 HM4
                go_wp2_with fail
                show SeqW Tryd.prog _ _ _ _ _ _ _
                refine SeqW.step (by rfl) ⟨HI5.out, HK5.out⟩ ?_
                go_wp2_with fail
                show SeqW Tryd.prog _ _ _ _ _ _ _
                refine SeqW.step (by rfl) ⟨HI6.out, HK6.out⟩ ?_
                go_wp2_with (at_builtin; refine wpList_append_row _ rfl _ _ 31 rfl 3 i0 (.int .i64 0) 1 8 Tryd.underlying31 II.out IZ0.out IZ1.out IZ2.out rfl _ _ _ rfl (HR5.out.keep (behind_of_below ((Below.refl _ _).alloc (Nat.le_refl _) _)) (by simp)) w5.heap.size 1 1 [.int .i64 k5] 3 rfl (heap_alloc_new w5 _) rfl (by intro x hx; simp at hx; subst hx; rfl) (by omega) (by unfold maxLen; omega) (by omega) ?_)
                intro v9 w9 hr9 hB9 hn9
                have hr9 : RowV (inW w9) 3 1 v9 (m + 1) (ints (lst ++ [k5])) := by
                  rw [show ints (lst ++ [k5]) = ints lst ++ [.int .i64 k5] by simp [ints]]; exact hr9
                obtain ⟨p9, d9, hv9⟩ := hr9.slice
                subst hv9
                have h09 : Behind w5 (rowBlk (.slice p m d)) w9 := ((behind_of_below HBA.out).mono (by simp)).trans hB9 (fun k hk => .inl hk)
                have hn9' : ∀ g ∈ rowBlk (.slice p9 (m + 1) d9), g ∈ rowBlk (.slice p m d) ∨ w5.heap.size ≤ g := fun g hg => (hn9 g hg).imp id (fun h => by first | omega | (simp at h; omega))
                have HS9 := Lib.hid (HS5.out.rowed hc h09 (fun g hg => Nat.le_trans hw0 (HGE0.out g hg)) hn9' hr9.lt)
                have HG9 := Lib.hid (show Gu c [ib] w v w9 v5 from ⟨HG5.out.be.trans h09 (fun b hb => .inr (HGE0.out b hb)), HG5.out.new⟩)
                have hge9 : ∀ g ∈ rowBlk (.slice p9 (m + 1) d9), w.heap.size ≤ g := fun g hg => (hn9' g hg).elim (HGE0.out g) (fun e => by omega)
                have HGE9 := Lib.hid hge9
                have HR9 := Lib.hid hr9
                have HI9 := Lib.hid (h09.keep HI5.out (fun h => by have := HGE0.out _ h; omega))
                have HK9 := Lib.hid (h09.keep HK5.out (fun h => by have := HGE0.out _ h; omega))
                have HM9 := Lib.hid (h09.keep HM5.out (fun h => by have := HGE0.out _ h; omega))
                have ci9 := blk_cell HI9.out 0 rfl
                have fi9 := blk_free HI9.out 0
                clear h09 hn9 hn9' hr9 hB9 hge9 HS5 HG5 HR5
                go_wp2_with fail
                show SeqW Tryd.prog _ _ _ _ _ _ _
                refine SeqW.step (by rfl) ⟨HI9.out, HK9.out⟩ ?_
                go_wp2_with fail
                have hbs : Behind w9 [ib] (w9.setCell ⟨ib, 0, none⟩ (.slice p9 (m + 1) d9)) := behind_set1
                have HSA := Lib.hid (HS9.out.wrote hc hbs (fun g hg => by simp at hg; subst hg; exact ⟨by simp [hib], hiw⟩))
                have HGA := Lib.hid (HG9.out.trans (Gu.of hbs))
                have HRA := Lib.hid (HR9.out.keep hbs (fun g hg h => by simp at h; subst h; have := HGE9.out _ hg; omega))
                have HIA := Lib.hid (heap_setCell_same _ ib 0 _ _ (.slice p9 (m + 1) d9) HI9.out)
                have HKA := Lib.hid (hbs.keep HK9.out (by simpa using hki))
                have HMA := Lib.hid (hbs.keep HM9.out (by simpa using hmi))
                clear HS9 HG9 HR9 HI9 HK9 HM9 ci9 fi9 hbs
                refine SQ.done ?_
                go_wp2_with fail
                go_roundg (TS c.l nx5).length
                case measure => omega
                case rel => exact ⟨nx5, v5, gs5, p9, d9, m + 1, lst ++ [k5], by simp [hlm.out], Nat.le_refl _, by omega, by omega, by omega, HSA.out, HRA.out, HGE9.out, HIA.out, HKA.out, HMA.out, HGA.out, HFP.out⟩
            · have HF := Lib.hid (show Post = OkIn c E w v [ib] (FL c E ib) o (needI [41] (TS c.l nx2) fun ts => .ok lst ts gs2) by rw [hfm]; simp [hteq])
              have KT := gTake_no c.br c.l c.n nx2 o v2 [44] t wr HS0.out.rd hp2 hc.l ht hteq
              have hdl : decide ((m : Int) < -1) = false := decide_eq_false (by omega)
              clear hfm ht hp2 hteq HP
              go_wp2_with fail
              refine KT.mono ?_
              rintro e w2 ⟨rfl, hB⟩
              have hB2 := behind_of_below hB
              have HS3 := Lib.hid (HS0.out.later hc hB)
              have HI3 := Lib.hid (hB2.keep HI0.out (by simp))
              have HK3 := Lib.hid (hB2.keep HK0.out (by simp))
              have HM3 := Lib.hid (hB2.keep HM0.out (by simp))
              have HR3 := Lib.hid (HR0.out.keep hB2 (by simp))
              have HG3 := Lib.hid (HG0.out.trans (Gw.of_below (v := v2) hB).wide)
              have hi3 := blk_cell HI3.out 0 rfl
              have hk3 := blk_cell HK3.out 0 rfl
              have hm3 := blk_cell HM3.out 0 rfl
              clear hB hB2 KT hi0 hk0 hm0 HS0 HI0 HK0 HM0 HR0 HG0
              have hfm := HF.out
              rw [need_TS] at hfm
              have hp2 := HS3.out.pl.le
              by_cases ht : tokI (c.l.drop (nxtI c.l nx2)) = some [41]
              · rw [ht] at hfm
                have hfm2 : Post = OkIn c E w v [ib] (FL c E ib) o (.ok lst (TS c.l nx2).tail gs2) := by rw [hfm]; simp
                rw [TS_tail ht (by simp)] at hfm2
                have HF3 := Lib.hid hfm2
                have hless := TS_less ht (by simp)
                have HPL := Lib.hid (HS3.out.pl.next ht (by simp))
                have KT := Lib.hid (fun x hR => gNeed_yes c.br c.l c.n nx2 o v2 [41] x hR hp2 hc.l ht)
                obtain ⟨nx3, hnx3⟩ : ∃ nx3, nx3 = nxtI c.l nx2 + ([41] : List UInt8).length := ⟨_, rfl⟩
                rw [← hnx3] at KT HF3 HPL hless
                clear hfm hfm2 ht hp2 hnx3
                have KT2 := KT.out _ HS3.out.rd
                go_wp2_with fail
                refine KT2.mono ?_
                rintro e w4 ⟨rfl, hR4, hB4⟩
                have HS4 := Lib.hid (HS3.out.move hc hR4 hB4 HPL.out (by omega))
                have HG4 := Lib.hid (HG3.out.trans (Gw.of_br (v := v2) hB4).wide)
                have HI4 := Lib.hid (hB4.keep HI3.out (fun h => (HS3.out.ex ib (by simp [hib])).2 (by simp at h; simp [h])))
                have HR4 := Lib.hid (HR3.out.keep hB4 (fun g hg h => (HS3.out.ex g (by simp [hg])).2 (by simp at h; simp [h])))
                clear hR4 hB4 KT2
                go_wp2_with fail
                go_end0
                rw [HF3.out]
                exact ⟨nx3, v2, rfl, rfl, HS4.out.apart hc (Below.refl _ _) (fun g hg => .inl (by simp [hg])), HG4.out, _, HI4.out, (by rw [hlm.out]; exact HR4.out), fun g hg => ⟨Nat.le_trans hw0 (HGE0.out g hg), (HS4.out.ex g (by simp [hg])).2, fun h => by have := hS00.out g h; have := HGE0.out g hg; omega, (HS4.out.ex g (by simp [hg])).1⟩⟩
              · have hfm2 : Post = OkIn c E w v [ib] (FL c E ib) o (.err (TS c.l nx2).length 5) := by
                  rw [hfm]
                  cases h : tokI (c.l.drop (nxtI c.l nx2)) with
                  | none => rfl
                  | some t => simp only []; rw [if_neg (fun e => ht (by rw [h, e]))]
                have HF3 := Lib.hid hfm2
                have KT := Lib.hid (fun x hR => gNeed_no c.br c.l c.n nx2 o v2 [41] x hR hp2 hc.l ht)
                clear hfm hfm2 ht hp2
                have KT2 := KT.out _ HS3.out.rd
                go_wp2_with fail
                refine KT2.mono ?_
                rintro e w4 ⟨rfl, hB4⟩
                refine ⟨rfl, ?_⟩
                rw [HF3.out, ← HS3.out.pl.pos]
                exact OkIn.err_after HG3.out ((behind_of_below hB4).mono (by simp))
end Go.Proofs.YtmaiofimmjedjaaDoor

/- strings.Builder's WriteString. -/
namespace Go.Proofs.YtmaiofimmjedjaaDoor
open Go.Shelf Go.RowKit

theorem Tryd.sizeBuilder : (Tryd.prog.info? 45).map (·.size) = some 2 := by kernel_rfl
theorem Tryd.liesBuilder : liesAt Tryd.prog Tryd.prog.depth 45 (2 / Tryd.prog.cellsOf 45) 0 45 1 = true := by kernel_rfl
theorem Tryd.infoByte : (Tryd.prog.info? 5).map (fun i => (i.zero, i.size, i.bytes)) = some (some (.int .u8 0), 1, 1) := by kernel_rfl

set_option maxHeartbeats 1000000 in
set_option maxRecDepth 100000 in
theorem copyCheck_used (b : Nat) (w : World) (h0 : w.cell? ⟨b, 0, none⟩ = some (.pointer (some ⟨b, 0, none⟩))) :
    Calls Tryd.prog 39 #[.pointer (some ⟨b, 0, none⟩)] w fun e w' => e = .returned (.tuple #[]) ∧ w' = w := by
  obtain ⟨j, hj, _⟩ := Option.map_eq_some_iff.1 Tryd.sizeBuilder
  go_enter Tryd.func39, Tryd.ntmps39
  go_wp2
  rw [Lib.run_neq_ptr_same w _ Tryd.underlying42 hj]
  go_wp2
  go_end0
  exact ⟨rfl, rfl⟩

set_option maxHeartbeats 1000000 in
set_option maxRecDepth 100000 in
theorem copyCheck_fresh (b : Nat) (w : World) (h0 : w.cell? ⟨b, 0, none⟩ = some (.pointer none)) (hsh : w.shape? b = some (45, 2)) (hfz : w.frozen? ⟨b, 0, none⟩ = false) :
    Calls Tryd.prog 39 #[.pointer (some ⟨b, 0, none⟩)] w fun e w' => e = .returned (.tuple #[]) ∧ w' = w.setCell ⟨b, 0, none⟩ (.pointer (some ⟨b, 0, none⟩)) := by
  obtain ⟨j, hj, hjs⟩ := Option.map_eq_some_iff.1 Tryd.sizeBuilder
  go_enter Tryd.func39, Tryd.ntmps39
  go_wp2
  rw [Lib.run_to_unsafe w ⟨b, 0, none⟩ Tryd.underlying42 Tryd.underlying91 hj (by rw [hjs]; decide) hsh (Nat.zero_lt_succ 1)]
  simp only [Result.andThen]
  rw [Oper.upon_value]
  go_wp2
  rw [run_callFunc_extern Tryd.func61 (by kernel_rfl) (by kernel_rfl) (by kernel_rfl) (e := Extern.AbiNoEscape.same) (by kernel_rfl)]
  rw [Lib.run_noEscape]
  simp only [Result.andThen]
  rw [Oper.upon_value]
  go_wp2
  rw [Lib.run_from_unsafe w ⟨b, 0, none⟩ Tryd.underlying91 Tryd.underlying42 hj hsh Tryd.liesBuilder]
  simp only [Result.andThen]
  rw [Oper.upon_value]
  go_wp2
  go_end0
  exact ⟨rfl, rfl⟩

theorem run_append_strV {P : Program} (w : World) (t u ty E : TypeId) (i : TypeInfo) (ht : P.underlying t = some (.slice E)) (hu : P.underlying u = some .string) (hi : P.info? E = some i) (hz : i.zero = some (.int .u8 0)) (hsize : i.size = 1) (hby : i.bytes = 1)
    (v : Value) (n : Nat) (xs : List Value) (hrow : RowV (inW w) E 1 v n xs) (s : ByteArray) (h63 : n + s.size ≤ maxLen) (hbytes : n + s.size ≤ 140737488355328) :
    ∃ v' w', (Builtin.append_ #[t, u] ty #[v, .string s]).run P w = .ok v' w' ∧ RowV (inW w') E 1 v' (n + s.size) (xs ++ Lib.strCells s) ∧ Behind w (rowBlk v) w' ∧ ∀ g ∈ rowBlk v', g ∈ rowBlk v ∨ w.heap.size ≤ g := by
  have hsmall : n + s.size ≤ 9223372036854775807 := by simp only [maxLen] at h63; omega
  have hl := Lib.strCells_length s
  cases hrow with
  | nil =>
    obtain ⟨v', w', hr, ho, hg, _⟩ := Lib.run_append_own_string (P := P) w w.heap.size t u ty E i ht hu hi hz hsize hby (.slice none 0 0) 0 [] ⟨rfl, .inl ⟨rfl, rfl⟩⟩ s h63 hbytes (Nat.le_refl _)
    obtain ⟨g1, g2⟩ := RowV.of_own ho
    exact ⟨v', w', hr, g1, ⟨hg.os, hg.tape, hg.output, hg.size, fun k hk _ => hg.block k hk (by simp [Value.ownBlock])⟩, fun g hm => .inr (g2 g hm)⟩
  | @row g n cap xs cur hrow =>
    have hb : w.heap[g]? = some (.cells cur E (0, 0)) := hrow.blk
    have hxl : xs.length = n := by have := hrow.len; omega
    have hlen : (xs ++ Lib.strCells s).length = (n + s.size) * 1 := by rw [List.length_append, hxl, hl, Nat.mul_one]
    have hsz : cur.size = cap := by have := hrow.sz; omega
    by_cases hroom : n + s.size ≤ cap
    · have hr := Lib.run_append_room_string (P := P) w t u ty E i ht hu hi hsize g n cap cur hb s hroom (by omega)
      refine ⟨_, _, hr, .row ⟨setRow_heap w g cur _ E _ hb, hroom, hrow.mx, ?_, ?_, hlen⟩, ⟨rfl, rfl, rfl, by simp, fun k' _ hk' => setRow_other w g k' _ (by simpa [rowBlk] using hk')⟩, fun g' hg => .inl (by simpa [rowBlk] using hg)⟩
      · simp only [List.size_toArray, List.length_append, List.length_take, List.length_drop, Array.length_toList]
        omega
      · have htk := hrow.tk
        rw [Nat.mul_one] at htk
        rw [htk, ← hlen]
        exact List.take_left
    · have holds : ∀ j u, xs[j]? = some u → w.cell? ((⟨g, 0, none⟩ : Addr).add j) = some u := fun j u hj => by
        have hj' : cur[j]? = some u := by
          rw [← hrow.tk, List.getElem?_take] at hj
          split at hj
          · simpa using hj
          · cases hj
        rw [Addr.add_lit, Nat.zero_add]
        exact blk_cell hb j hj'
      have hr := Lib.run_append_grow_string (P := P) w t u ty E i (.int .u8 0) ht hu hi hz ⟨g, 0, none⟩ n cap xs (by rw [hsize]; omega) holds s (by omega) (by omega) (by rw [hby]; exact growslice_fits (by omega) (by omega))
      refine ⟨_, _, hr, .row ⟨heap_alloc_new w.drew _, grownCap_ge w (n + s.size) cap E, grownCap_le_maxLen w (n + s.size) cap E h63, ?_, ?_, hlen⟩, (behind_of_below ((Below.refl _ w).drew.alloc (by simp) _)).mono (by simp), fun g' hg => .inr ?_⟩
      · have := grownCap_ge w (n + s.size) cap E
        have hz1 : (Value.int IntKind.u8 0).cells.size = 1 := rfl
        simp only [Array.size_append, List.size_toArray, size_zeroCells, hz1, hxl, hl]
        omega
      · simp only [Array.toList_append, List.append_assoc]
        rw [← List.append_assoc, ← hlen]
        exact List.take_left
      · have : g' = w.heap.size := by simpa [rowBlk] using hg
        omega
theorem wpList_append_strV {P : Program} {ops : Array Oper} {rest : List Oper} {o : Oper} {a : Act} {Q : Exit → Act → World → Prop} (w : World) (hgd : o.guard = none) (sl x : Operand) (t u : TypeId) (ho : o.op = .call { callee := .builtin .append, args := #[sl, x], argTypes := #[t, u] })
    (E : TypeId) (i : TypeInfo) (ht : P.underlying t = some (.slice E)) (hu : P.underlying u = some .string) (hi : P.info? E = some i) (hz : i.zero = some (.int .u8 0)) (hsize : i.size = 1) (hby : i.bytes = 1)
    (v : Value) (n : Nat) (xs : List Value) (hs : a.eval sl = v) (hrow : RowV (inW w) E 1 v n xs) (s : ByteArray) (hx : a.eval x = .string s) (h63 : n + s.size ≤ maxLen) (hbytes : n + s.size ≤ 140737488355328)
    (h : ∀ v' w', RowV (inW w') E 1 v' (n + s.size) (xs ++ Lib.strCells s) → Behind w (rowBlk v) w' → (∀ g ∈ rowBlk v', g ∈ rowBlk v ∨ w.heap.size ≤ g) → wpList P ops Q rest (a.put o.dst v') w') : wpList P ops Q (o :: rest) a w := by
  refine wpList_plain hgd fun _ hK => ?_
  obtain ⟨v', w', hr, h2, h3, h4⟩ := run_append_strV (P := P) w t u o.type E i ht hu hi hz hsize hby v n xs hrow s h63 hbytes
  unfold Oper.wp execOp
  simp only [ho, resolve, invoke, builtin, Sem.run_bind, Sem.run_pure, Result.andThen_ok, List.map_toArray, List.map_cons, List.map_nil, hs, hx, hr]
  exact hK _ _ (h v' w' h2 h3 h4)

structure BuV (x : World) (b : Nat) (l : List UInt8) (v : Value) : Prop where
  blk : ∃ p, (p = .pointer none ∨ p = .pointer (some ⟨b, 0, none⟩)) ∧ x.heap[b]? = some (.cells #[p, v] 45 (0, 0))
  row : RowV (inW x) 5 1 v l.length (Lib.byteCells l)
  out : b ∉ rowBlk v
theorem rowV_slice {B : Blocks} {E : TypeId} {z : Nat} {v : Value} {n : Nat} {xs : List Value} (h : RowV B E z v n xs) : ∃ a m c, v = .slice a m c := by
  cases h with
  | nil => exact ⟨_, _, _, rfl⟩
  | row h => exact ⟨_, _, _, rfl⟩
theorem own_not {v : Value} {b : Nat} (h : b ∉ rowBlk v) : v.ownBlock ≠ some b := by
  unfold Value.ownBlock
  split
  · rename_i a n c
    intro e
    have : a.block = b := Option.some.inj e
    exact h (by simp [rowBlk, this])
  · simp
theorem BuV.isB {x : World} {b : Nat} {l : List UInt8} {v : Value} (h : BuV x b l v) {B : Nat} (hb : B ≤ b) (hr : ∀ g ∈ rowBlk v, B ≤ g) : Lib.IsBuilder 45 5 B b (Lib.byteCells l) x := by
  obtain ⟨p, hp, hk⟩ := h.blk
  have key : Lib.BuilderAt 45 5 B b p (Lib.byteCells l) x := ⟨hb, v, hk, by rw [Lib.byteCells_length]; exact h.row.own hr, own_not h.out⟩
  rcases hp with rfl | rfl
  · exact .inl key
  · exact .inr key
theorem BuV.later {x x' : World} {b : Nat} {l : List UInt8} {v : Value} (h : BuV x b l v) (hb : Below x.heap.size x x') : BuV x' b l v := by
  obtain ⟨p, hp, hk⟩ := h.blk
  exact ⟨⟨p, hp, (behind_of_below hb).keep hk (by simp)⟩, h.row.keep (behind_of_below hb) (by simp), h.out⟩
theorem copyV {x : World} {b : Nat} {l : List UInt8} {v : Value} (h : BuV x b l v) :
    Calls Tryd.prog 39 #[.pointer (some ⟨b, 0, none⟩)] x fun e x' => e = .returned (.tuple #[]) ∧ x'.heap[b]? = some (.cells #[.pointer (some ⟨b, 0, none⟩), v] 45 (0, 0)) ∧ Behind x [b] x' := by
  obtain ⟨p, hp, hk⟩ := h.blk
  have key : Lib.BuilderAt 45 5 0 b p (Lib.byteCells l) x := ⟨Nat.zero_le _, v, hk, by rw [Lib.byteCells_length]; exact h.row.own (fun _ _ => Nat.zero_le _), own_not h.out⟩
  rcases hp with rfl | rfl
  · refine (copyCheck_fresh b x key.cell0 key.shape key.frozen0).mono ?_
    rintro e w' ⟨rfl, rfl⟩
    exact ⟨rfl, heap_setCell_same _ b 0 _ _ _ hk, behind_set1⟩
  · refine (copyCheck_used b x key.cell0).mono ?_
    rintro e w' ⟨rfl, rfl⟩
    exact ⟨rfl, hk, Behind.refl _ _⟩

set_option maxHeartbeats 2000000 in
set_option maxRecDepth 100000 in
theorem gWriteV (b : Nat) (l t : List UInt8) (v : Value) (x : World) (h : BuV x b l v) (hlen : l.length + t.length ≤ 1000000000) :
    Calls Tryd.prog 18 #[.pointer (some ⟨b, 0, none⟩), .string ⟨t.toArray⟩] x fun e x' => e = .returned (.tuple #[.int .i64 t.length, .nilIface]) ∧ ∃ v', BuV x' b (l ++ t) v' ∧ Behind x (b :: rowBlk v) x' ∧ ∀ g ∈ rowBlk v', g ∈ rowBlk v ∨ x.heap.size ≤ g := by
  obtain ⟨i0, hi, hz0, hz1, hz2⟩ := info_parts Tryd.infoByte
  have hsz := ba_size t
  obtain ⟨s, hs⟩ : ∃ s : ByteArray, s = ⟨t.toArray⟩ := ⟨_, rfl⟩
  rw [← hs] at hsz ⊢
  have HS := Lib.hid hs
  have H := Lib.hid h
  have KC := copyV h
  clear hs h
  go_enter Tryd.func18, Tryd.ntmps18
  go_wp2_with fail
  refine KC.mono ?_
  rintro e w1 ⟨rfl, h1, hb1⟩
  have HB1 := Lib.hid hb1
  have M1 := Lib.hid h1
  have c0 := blk_cell h1 0 rfl
  have c1 := blk_cell h1 1 rfl
  have hrow : RowV (inW w1) 5 1 v l.length (Lib.byteCells l) := H.out.row.keep hb1 (fun g hg hm => by simp at hm; exact H.out.out (hm ▸ hg))
  clear h1 hb1 KC
  go_wp2_with (at_builtin; refine wpList_append_strV _ rfl _ _ 43 9 rfl 5 i0 Tryd.underlying43 Tryd.underlying9 hi hz0 hz1 hz2 _ _ _ rfl hrow s rfl ?c3 ?c4 ?_)
  case c3 => unfold maxLen; omega
  case c4 => omega
  intro v' w2 hrow' hb2 hn2
  have M2 := hb2.keep M1.out H.out.out
  have d0 := blk_cell M2 0 rfl
  have d1 := blk_cell M2 1 rfl
  have f1 := blk_free M2 1
  have HR := Lib.hid hrow'
  have HB2 := Lib.hid hb2
  have HN2 := Lib.hid hn2
  have HM2 := Lib.hid M2
  have hlt := lt_of_heap M1.out
  have hout : b ∉ rowBlk v' := fun hm => (hn2 b hm).elim H.out.out (fun e => by omega)
  have HO := Lib.hid hout
  obtain ⟨ao, n', cap, hv'⟩ := rowV_slice hrow'
  subst hv'
  clear hrow' hb2 hn2 M2 hrow c0 c1 hout
  go_wp2
  go_ret2
  have hb3 : Behind w2 [b] (w2.setCell ⟨b, 1, none⟩ (.slice ao n' cap)) := behind_set1
  refine ⟨rfl, .slice ao n' cap, ⟨⟨_, .inr rfl, heap_setCell_same _ b 1 _ _ _ HM2.out⟩, ?_, HO.out⟩, ?_, fun g hg => (HN2.out g hg).imp_right (fun e => by have := HB1.out.size; omega)⟩
  · have := HR.out.keep hb3 (fun g hg hm => by simp at hm; exact HO.out (hm ▸ hg))
    rw [Lib.byteCells_append, List.length_append, ← hsz]
    rw [HS.out] at this ⊢
    exact this
  · have g1 : Behind x (b :: rowBlk v) w1 := HB1.out.mono (fun k hk => by simp at hk; simp [hk])
    have g2 : Behind x (b :: rowBlk v) w2 := g1.trans HB2.out (fun k hk => .inl (by simp [hk]))
    exact g2.trans hb3 (fun k hk => .inl (by simp at hk; simp [hk]))
theorem gStrV (b : Nat) (l : List UInt8) (v : Value) (x : World) (h : BuV x b l v) (hbl : b < x.heap.size) :
    Calls Tryd.prog 19 #[.pointer (some ⟨b, 0, none⟩)] x fun e x' => e = .returned (.string ⟨l.toArray⟩) ∧ ∃ B, B ≤ x.heap.size ∧ (∀ M, M ≤ b → (∀ g ∈ rowBlk v, M ≤ g) → M ≤ B) ∧ Below B x x' := by
  cases v with
  | slice a n c =>
    cases a with
    | none =>
      exact (Tryd.Builder_String_any b b l x (h.isB (Nat.le_refl _) (by simp [rowBlk])) (by omega)).mono fun e w' hh => ⟨hh.1, b, by omega, fun M hM _ => hM, hh.2⟩
    | some a =>
      exact (Tryd.Builder_String_any (min b a.block) b l x (h.isB (Nat.min_le_left _ _) (fun g hg => by rw [show g = a.block by simpa [rowBlk] using hg]; exact Nat.min_le_right _ _)) (by omega)).mono fun e w' hh => ⟨hh.1, min b a.block, by omega, fun M hM hr => by have := hr a.block (by simp [rowBlk]); omega, hh.2⟩
  | _ => exact absurd h.row (by intro hr; cases hr)
end Go.Proofs.YtmaiofimmjedjaaDoor
