/- Texts of this claim, joined: JK, JL, JM. -/
import Derived.Test.YtmaiofimmjedjaaDoorMW12
import Derived.Maps.Own
import Derived.Maps.OwnOps

/- The reader: rows of gates' numbers; implications. -/
namespace Go.Proofs.YtmaiofimmjedjaaDoor
open Go.RowKit

theorem Tryd.infoIntJ : (Tryd.prog.info? 3).map (fun i => (i.zero, i.size, i.bytes)) = some (some (.int .i64 0), 1, 8) := by kernel_rfl
theorem St.rowed {c : Cf} (hc : c.Ok) {E : List Nat} {u u' : Value} {w w' : World} {nx o : Nat} {v : Value} {gs : List Gt} (h : St c (rowBlk u ++ E) w nx o v gs) (hB : Behind w (rowBlk u) w') (hge : ∀ g ∈ rowBlk u, c.w0.heap.size ≤ g) (hn : ∀ g ∈ rowBlk u', g ∈ rowBlk u ∨ w.heap.size ≤ g) (hlt : ∀ g ∈ rowBlk u', g < w'.heap.size) : St c (rowBlk u' ++ E) w' nx o v gs := by
  have hX := h.X
  refine ⟨hB.keep h.rd (fun hm => (h.ex c.br (by simp [hm])).2 (by simp)), h.gr.keep hB (fun g hg => ⟨fun hm => (h.ex g (by simp [hg])).2 (by simp [hm]), .inr (.inr (by simp [hg]))⟩) (fun g hg => ?_), fun g hg => ?_, h.pl, h.be.trans (hB.below_of hge h.be.size), h.cnt⟩
  · rcases List.mem_append.1 hg with hg | hg
    · exact (hn g hg).imp (fun e => by simp [e]) id
    · exact .inl (by simp [hg])
  · rcases List.mem_append.1 hg with hg | hg
    · refine ⟨hlt g hg, fun hm => ?_⟩
      rcases hn g hg with h1 | h1
      · exact (h.ex g (by simp [h1])).2 hm
      · have := hX g (by
          rcases List.mem_cons.1 hm with rfl | hm
          · simp
          · simp [hm])
        omega
    · have := h.ex g (by simp [hg])
      exact ⟨Nat.lt_of_lt_of_le this.1 hB.size, this.2⟩
theorem St.apart {c : Cf} {E E' : List Nat} {w w' : World} (hc : c.Ok) {nx o : Nat} {v : Value} {gs : List Gt} (h : St c E w nx o v gs) (hB : Below w.heap.size w w') (hE : ∀ g ∈ E', g ∈ E ∨ (w.heap.size ≤ g ∧ g < w'.heap.size)) : St c E' w' nx o v gs := by
  have h2 := h.later hc hB
  refine ⟨h2.rd, h.gr.keep (behind_of_below hB) (by simp) (fun g hg => (hE g hg).imp id (fun e => e.1)), fun g hg => ?_, h2.pl, h2.be, h2.cnt⟩
  rcases hE g hg with h1 | ⟨h1, h3⟩
  · exact h2.ex g h1
  · refine ⟨h3, fun hm => ?_⟩
    have := h.X g (by
      rcases List.mem_cons.1 hm with rfl | hm
      · simp
      · simp [hm])
    omega
theorem row_keep {c : Cf} {E : List Nat} {u : Value} {w w' : World} {nx o : Nat} {v v' : Value} {gs : List Gt} {m : Nat} {xs : List Value} (h : RowV (inW w) 3 1 u m xs) (hS : St c (rowBlk u ++ E) w nx o v gs) (hG : Gw c w v w' v') : RowV (inW w') 3 1 u m xs :=
  h.keep hG.be (fun g hg hm => (hS.ex g (by simp [hg])).2 hm)
theorem AtN.keepX {w w' : World} {U : List Nat} {b o : Nat} {xs : List Value} (h : AtN w.heap.size w (some ⟨b, o, none⟩) xs) (hB : Behind w U w') (hb : b ∉ U) : AtN w'.heap.size w' (some ⟨b, o, none⟩) xs := fun i x hi => by
  obtain ⟨b', o', h1, e, h2⟩ := h i x hi
  cases e
  exact ⟨b, o, Nat.lt_of_lt_of_le h1 hB.size, rfl, behind_cellX hB h2 hb⟩
theorem row_new (w : World) (k : Int) : RowV (inW (w.alloc (.cells #[.int .i64 k] 3 (0, 0)))) 3 1 (.slice (some ⟨w.heap.size, 0, none⟩) 1 1) 1 (ints [k]) :=
  .row (cur := #[.int .i64 k]) ⟨heap_alloc_new w _, Nat.le_refl _, by unfold maxLen; omega, rfl, rfl, rfl⟩
theorem OkP.err_after {c : Cf} {E : List Nat} {w w1 w2 : World} {v v1 : Value} {o q : Nat} {en : Int} (hg : Gw c w v w1 v1) (h : Behind w1 (c.br :: rowBlk v1) w2) : OkP c E w v o (.err q en) (wrongE (posI c.l q) en) w2 := ⟨rfl, (hg.trans (v2 := v1) ⟨h, fun g hg => .inl hg⟩).be⟩
theorem rev_tail {lst : List Int} {m : Nat} (h : lst.length = m + 1) : lst.reverse.tail = (lst.take m).reverse ∧ headI lst.reverse = lst.getD m 0 := by
  have hx : lst[m]? = some lst[m] := List.getElem?_eq_getElem (by omega)
  have e : lst = lst.take m ++ [lst[m]] := by
    have := take_snoc (l := lst) hx
    rw [← this, List.take_of_length_le (by omega)]
  have key : ∀ (A : List Int) (x : Int), (A ++ [x]).reverse.tail = A.reverse ∧ headI (A ++ [x]).reverse = x := fun A x => by simp [headI]
  obtain ⟨k1, k2⟩ := key (lst.take m) lst[m]
  rw [← e] at k1 k2
  exact ⟨k1, by rw [k2, List.getD_eq_getElem?_getD, hx]; rfl⟩

set_option maxHeartbeats 12800000 in
set_option maxRecDepth 100000 in
theorem step_impl (c : Cf) (hc : c.Ok) (ts : List Tk) (hL : Less c .impl ts) : Con c .impl ts := by
  intro E nx o v gs w hts hS ho
  subst hts
  obtain ⟨i0, ii, iz0, iz1, iz2⟩ := info_parts Tryd.infoIntJ
  have II := Lib.hid ii
  have IZ0 := Lib.hid iz0
  have IZ1 := Lib.hid iz1
  have IZ2 := Lib.hid iz2
  have KI : Calls Tryd.prog 62 #[.pointer (some ⟨c.br, 0, none⟩), .int .i64 4] w (OkP c E w v o (RI c.n (.chain 4) (TS c.l nx) o gs)) := hL (.chain 4) (TS c.l nx) (by decide) (by simp [bdI, rkI]) E nx o v gs w rfl hS ho
  have HLS := Lib.hid hL
  obtain ⟨Post, hPost⟩ : ∃ P : Ending → World → Prop, P = OkP c E w v o (RI c.n .impl (TS c.l nx) o gs) := ⟨_, rfl⟩
  rw [← hPost]
  rw [RI_impl] at hPost
  have HP := Lib.hid hPost
  have HS := Lib.hid hS
  have hcnt0 := hS.cnt
  clear hPost hL hS ii iz0 iz1 iz2
  show Calls Tryd.prog 46 #[.pointer (some ⟨c.br, 0, none⟩)] w Post
  have HLEN := Lib.hid (fun a b d (h : RI c.n (.chain 4) (TS c.l nx) o gs = .ok a b d) => ok_less h rfl)
  have HGS := Lib.hid (fun a b d (h : RI c.n (.chain 4) (TS c.l nx) o gs = .ok a b d) => (RI_gs (by trivial) h).1)
  obtain ⟨R1, hR1⟩ : ∃ R1, R1 = RI c.n (.chain 4) (TS c.l nx) o gs := ⟨_, rfl⟩
  rw [← hR1] at KI HP HLEN HGS
  clear hR1
  go_enter Tryd.func46, Tryd.ntmps46
  go_wp2_with fail
  refine KI.mono ?_
  intro e w1 h1
  cases R1 with
  | err q en =>
    obtain ⟨rfl, h1⟩ := h1
    refine ⟨rfl, ?_⟩
    rw [HP.out]
    exact ⟨rfl, h1⟩
  | ok lst ts1 gs1 =>
    obtain ⟨k, nx1, v1, rfl, rfl, rfl, hS1, hG1⟩ := h1
    have hlen1 := HLEN.out _ _ _ rfl
    have hgs1 := HGS.out _ _ _ rfl
    simp [loopM, moreM] at hgs1
    have hB2 := below_one w1 (.cells #[.int .i64 k] 3 (0, 0))
    have HS2 := Lib.hid (show St c (rowBlk (.slice (some ⟨w1.heap.size, 0, none⟩) 1 1) ++ E) _ nx1 o v1 gs1 from hS1.apart hc hB2 (fun g hg => by
      rcases List.mem_append.1 hg with hg | hg
      · simp [rowBlk] at hg; subst hg; exact .inr ⟨Nat.le_refl _, by simp⟩
      · exact .inl hg))
    have HG2 := Lib.hid (hG1.trans (Gw.of_below (v := v1) hB2))
    have HR2 := Lib.hid (row_new w1 k)
    have hws : w.heap.size ≤ w1.heap.size := hG1.be.size
    have HPR := Lib.hid (show Post = OkP c E w v o (RI c.n (.implL [k]) (TS c.l nx1) o gs1) from HP.out)
    clear hS1 hG1 KI HP HLEN HGS hB2
    go_wp2_with fail
    go_loopg [3] (TS c.l nx1).length (fun kk t3 wr => ∃ (nx2 : Nat) (v2 : Value) (gs2 : List Gt) (u : Value) (lst : List Int), (TS c.l nx2).length ≤ kk ∧ t3 = u ∧ (TS c.l nx2).length + 1 ≤ (TS c.l nx).length ∧ 1 ≤ lst.length ∧ gs2.length + 3 * (TS c.l nx2).length + 2 * lst.length ≤ 10000000 ∧ Hid (St c (rowBlk u ++ E) wr nx2 o v2 gs2) ∧ Hid (RowV (inW wr) 3 1 u lst.length (ints lst)) ∧ Hid (∀ g ∈ rowBlk u, w.heap.size ≤ g) ∧ Hid (Gw c w v wr v2) ∧ Hid (Post = OkP c E w v o (RI c.n (.implL lst) (TS c.l nx2) o gs2)))
    case atStart => exact ⟨nx1, v1, gs1, _, [k], Nat.le_refl _, rfl, hlen1, Nat.le_refl _, by simp; omega, HS2.out, HR2.out, (fun g hg => by simp [rowBlk] at hg; omega), HG2.out, HPR.out⟩
    case round =>
      obtain ⟨nx2, v2, gs2, u9, lst, hkk, rfl, hlen2, hl1, hcnt2, HSr, HRr, HGe, HGr, HPr⟩ := hrel
      have hp2 := HSr.out.pl.le
      have hfm := HPr.out
      rw [RI_implL, next_TS] at hfm
      cases ht : tokI (c.l.drop (nxtI c.l nx2)) with
      | none =>
        rw [ht] at hfm
        have HF := Lib.hid hfm
        have KT := gTake_none c.br c.l c.n nx2 o v2 [45, 62] wr HSr.out.rd hp2 hc.l ht
        clear hfm ht hp2
        go_wp2_with fail
        refine KT.mono ?_
        rintro e w2 ⟨rfl, hB⟩
        refine ⟨rfl, ?_⟩
        rw [HF.out]
        exact ⟨by rw [HSr.out.pl.pos]; rfl, (HGr.out.trans (Gw.of_below (v := v2) hB)).be⟩
      | some t =>
        rw [ht] at hfm
        by_cases hteq : t = [45, 62]
        · subst hteq
          have hfm2 : Post = OkP c E w v o ((RI c.n (.chain 4) (TS c.l nx2).tail o gs2).bind fun l2 ts gs => RI c.n (.implL (lst ++ l2)) ts o gs) := by rw [hfm]; simp
          rw [TS_tail ht (by simp)] at hfm2
          have HF := Lib.hid hfm2
          have hless := TS_less ht (by simp)
          have HPL := Lib.hid (HSr.out.pl.next ht (by simp))
          have KT := gTake_yes c.br c.l c.n nx2 o v2 [45, 62] wr HSr.out.rd hp2 hc.l ht
          obtain ⟨nx3, hnx3⟩ : ∃ nx3, nx3 = nxtI c.l nx2 + ([45, 62] : List UInt8).length := ⟨_, rfl⟩
          rw [← hnx3] at KT HF HPL hless
          clear hfm hfm2 ht hp2 hnx3
          go_wp2_with fail
          refine KT.mono ?_
          rintro e w2 ⟨rfl, hR, hB⟩
          have HS3 := Lib.hid (HSr.out.move hc hR hB HPL.out (by omega))
          have HG3 := Lib.hid (HGr.out.trans (Gw.of_br (v := v2) hB))
          have HR3 := Lib.hid (row_keep HRr.out HSr.out (Gw.of_br (v := v2) hB))
          have KI2 : Calls Tryd.prog 62 #[.pointer (some ⟨c.br, 0, none⟩), .int .i64 4] w2 (OkP c (rowBlk u3 ++ E) w2 v2 o (RI c.n (.chain 4) (TS c.l nx3) o gs2)) := HLS.out (.chain 4) (TS c.l nx3) (by decide) (bd_lt (by omega)) _ nx3 o v2 gs2 w2 rfl HS3.out ho
          have HLEN := Lib.hid (fun a b d (h : RI c.n (.chain 4) (TS c.l nx3) o gs2 = .ok a b d) => ok_less h rfl)
          have HGS := Lib.hid (fun a b d (h : RI c.n (.chain 4) (TS c.l nx3) o gs2 = .ok a b d) => (RI_gs (by trivial) h).1)
          obtain ⟨R2, hR2⟩ : ∃ R2, R2 = RI c.n (.chain 4) (TS c.l nx3) o gs2 := ⟨_, rfl⟩
          rw [← hR2] at KI2 HF HLEN HGS
          clear hR2 hR hB KT
          go_wp2_with fail
          refine KI2.mono ?_
          intro e w3 h3
          cases R2 with
          | err q en =>
            obtain ⟨rfl, h3⟩ := h3
            refine ⟨rfl, ?_⟩
            rw [HF.out]
            exact OkP.err_after HG3.out h3
          | ok lst2 ts4 gs4 =>
            obtain ⟨k4, nx4, v4, rfl, rfl, rfl, hS4, hG4⟩ := h3
            have hlen4 := HLEN.out _ _ _ rfl
            have hgs4 := HGS.out _ _ _ rfl
            simp [loopM, moreM] at hgs4
            have HR4 := Lib.hid (row_keep HR3.out HS3.out hG4)
            have HS4 := Lib.hid hS4
            have HG4 := Lib.hid (HG3.out.trans hG4)
            have HFP := Lib.hid (show Post = OkP c E w v o (RI c.n (.implL (lst ++ [k4])) (TS c.l nx4) o gs4) from HF.out)
            have hw3 : w.heap.size ≤ w3.heap.size := HG4.out.be.size
            clear hS4 hG4 KI2 HLEN HGS HF HR3 HS3 HG3 HRr HSr HGr HPr
            go_wp2_with (at_builtin; refine wpList_append_row _ rfl _ _ 31 rfl 3 i0 (.int .i64 0) 1 8 Tryd.underlying31 II.out IZ0.out IZ1.out IZ2.out rfl _ _ _ rfl (HR4.out.keep (behind_of_below ((Below.refl _ _).alloc (Nat.le_refl _) _)) (by simp)) w3.heap.size 1 1 [.int .i64 k4] 3 rfl (heap_alloc_new w3 _) rfl (by intro x hx; simp at hx; subst hx; rfl) (by omega) (by unfold maxLen; omega) (by omega) ?_)
            intro v9 w9 hr9 hB9 hn9
            have h09 : Behind w3 (rowBlk u3) w9 := ((behind_of_below ((Below.refl _ _).alloc (Nat.le_refl _) _)).mono (by simp)).trans hB9 (fun k hk => .inl hk)
            have hn9' : ∀ g ∈ rowBlk v9, g ∈ rowBlk u3 ∨ w3.heap.size ≤ g := fun g hg => (hn9 g hg).imp id (fun h => by first | omega | (simp at h; omega))
            have HS9 := Lib.hid (HS4.out.rowed hc h09 (fun g hg => Nat.le_trans HS.out.be.size (HGe.out g hg)) hn9' hr9.lt)
            have HG9 := Lib.hid (show Gw c w v w9 v4 from ⟨HG4.out.be.trans h09 (fun b hb => .inr (HGe.out b hb)), HG4.out.new⟩)
            have hge9 : ∀ g ∈ rowBlk v9, w.heap.size ≤ g := fun g hg => (hn9' g hg).elim (HGe.out g) (fun e => by omega)
            have HGE9 := Lib.hid hge9
            have HR9 := Lib.hid (show RowV (inW w9) 3 1 v9 (lst ++ [k4]).length (ints (lst ++ [k4])) by
              rw [List.length_append, show ints (lst ++ [k4]) = ints lst ++ [.int .i64 k4] by simp [ints]]; exact hr9)
            clear h09 hn9 hn9' hr9 hB9 hge9 HS4 HG4 HR4
            go_wp2_with fail
            go_roundg (TS c.l nx4).length
            case measure => omega
            case rel => exact ⟨nx4, v4, gs4, v9, lst ++ [k4], Nat.le_refl _, rfl, by omega, by simp, by simp; omega, HS9.out, HR9.out, HGE9.out, HG9.out, HFP.out⟩
        · have hfm2 : Post = OkP c E w v o (.ok [(foldI lst.reverse.tail (headI lst.reverse) gs2).1] (TS c.l nx2) (foldI lst.reverse.tail (headI lst.reverse) gs2).2) := by rw [hfm]; simp [hteq]
          have KT := gTake_no c.br c.l c.n nx2 o v2 [45, 62] t wr HSr.out.rd hp2 hc.l ht hteq
          obtain ⟨m, hm⟩ : ∃ m, lst.length = m + 1 := ⟨lst.length - 1, by omega⟩
          obtain ⟨e1, e2⟩ := rev_tail hm
          rw [e1, e2] at hfm2
          have HF := Lib.hid hfm2
          clear hfm hfm2 ht hp2 hteq e1 e2
          go_wp2_with fail
          refine KT.mono ?_
          rintro e w2 ⟨rfl, hB⟩
          have HS3 := Lib.hid (HSr.out.later hc hB)
          have HG3 := Lib.hid (HGr.out.trans (Gw.of_below (v := v2) hB))
          have HR3 := Lib.hid (row_keep HRr.out HSr.out (Gw.of_below (v := v2) hB))
          obtain ⟨pu, cu, hu⟩ := HRr.out.slice
          subst hu
          have hAT := (rowV_at2 HR3.out)
          obtain ⟨a9, c9, e9, _, hA⟩ := hAT
          cases e9
          have HA := Lib.hid hA
          have hlast : (ints lst)[m]? = some (.int .i64 (lst.getD m 0)) := ints_get _ _ _ (by rw [List.getD_eq_getElem?_getD, List.getElem?_eq_getElem (by omega)]; rfl)
          obtain ⟨bu, ou, hbu, rfl, hcl⟩ := HA.out m _ hlast
          have hmb : m ≤ 10000000 := by omega
          have HM := Lib.hid hm
          rw [hm]
          clear hB KT HSr HGr HRr HPr hA hlast hm
          go_wp2_with fail
          go_loopw [5, 4] (fun t5 t4 wr => ∃ (j : Nat) (v3 : Value) (gs3 : List Gt) (k3 : Int), j ≤ m ∧ t5 = .int .i64 ((j : Int) - 1) ∧ t4 = .int .i64 k3 ∧ gs3.length + 3 * (TS c.l nx2).length + 2 * j ≤ 10000000 ∧ Hid (St c (bu :: E) wr nx2 o v3 gs3) ∧ Hid (Gw c w v wr v3) ∧ Hid (AtN wr.heap.size wr (some ⟨bu, ou, none⟩) (ints lst)) ∧ Hid (Post = OkP c E w v o (.ok [(foldI (lst.take j).reverse k3 gs3).1] (TS c.l nx2) (foldI (lst.take j).reverse k3 gs3).2))) (fun t5 _ _ => (intOf t5 + 1).toNat)
          case atStart => exact ⟨m, v2, gs2, _, Nat.le_refl _, by go_num, rfl, by have := HM.out; omega, HS3.out, HG3.out, HA.out, HF.out⟩
          case round =>
            obtain ⟨j, v3, gs3, k3, hj, rfl, rfl, hcnt3, HSj, HGj, HAj, HPj⟩ := hrel
            by_cases hj0 : j = 0
            · subst hj0
              have HFF := Lib.hid (show Post = OkP c E w v o (.ok [k3] (TS c.l nx2) gs3) from HPj.out)
              have hd : decide ((0 : Int) ≤ ((0 : Nat) : Int) - 1) = false := by decide
              go_wp2_with fail
              rw [HFF.out]
              exact ⟨k3, nx2, v3, rfl, rfl, rfl, HSj.out.apart hc (Below.refl _ _) (fun g hg => .inl (by simp [hg])), HGj.out⟩
            · obtain ⟨i, rfl⟩ : ∃ i, j = i + 1 := ⟨j - 1, by omega⟩
              have hil : i < lst.length := by have := HM.out; omega
              have hx : lst[i]? = some (lst.getD i 0) := by rw [List.getD_eq_getElem?_getD, List.getElem?_eq_getElem hil]; rfl
              have htk : (lst.take (i + 1)).reverse = lst.getD i 0 :: (lst.take i).reverse := by rw [take_snoc hx]; simp
              obtain ⟨b7, o7, hb7, e7, hcl7⟩ := HAj.out i _ (ints_get _ _ _ hx)
              cases e7
              obtain ⟨x, hxx⟩ : ∃ x, x = lst.getD i 0 := ⟨_, rfl⟩
              rw [← hxx] at hcl7 htk
              have hbu7 : bu ∉ c.br :: rowBlk v3 := (HSj.out.ex bu (by simp)).2
              have HFP := Lib.hid (show Post = OkP c E w v o (.ok [(foldI (lst.take i).reverse (gs3.length + 1 : Nat) (gs3 ++ [⟨3, 0, [x]⟩, ⟨5, 0, [(gs3.length : Nat), k3]⟩])).1] (TS c.l nx2) (foldI (lst.take i).reverse (gs3.length + 1 : Nat) (gs3 ++ [⟨3, 0, [x]⟩, ⟨5, 0, [(gs3.length : Nat), k3]⟩])).2) by rw [HPj.out, htk]; rfl)
              have hBA := below_one wr (.cells #[.int .i64 x] 3 (0, 0))
              have hIA : InsAt (wr.alloc (.cells #[.int .i64 x] 3 (0, 0))) (c.br :: (rowBlk v3 ++ (bu :: E))) (some ⟨wr.heap.size, 0, none⟩) [x] := ints_new [x] HSj.out.X
              have KA1 := kAdd c hc ⟨3, 0, [x]⟩ (some ⟨wr.heap.size, 0, none⟩) 1 (HSj.out.later hc hBA) hIA (by omega)
              simp only [List.length_cons, List.length_nil] at KA1
              have HGA := Lib.hid (HGj.out.trans (Gw.of_below (v := v3) hBA))
              have HAA := Lib.hid (HAj.out.keepX (behind_of_below hBA) (by simp))
              rw [show (((i + 1 : Nat) : Int) - 1) = (i : Int) by omega]
              have hd1 : decide ((0 : Int) ≤ (i : Int)) = true := decide_eq_true (by omega)
              have hd2 : decide (i < m + 1) = true := decide_eq_true (by omega)
              have him : i < m + 1 := by omega
              clear htk hx hxx hBA hIA HSj HGj HAj HPj hil
              go_wp2_with fail
              refine KA1.mono ?_
              rintro e w5 ⟨v5, rfl, hS5, hG5⟩
              have HGB := Lib.hid (HGA.out.trans hG5)
              have HAB := Lib.hid (HAA.out.keepX hG5.be hbu7)
              have hbu5 : bu ∉ c.br :: rowBlk v5 := (hS5.ex bu (by simp)).2
              have hBB := below_one w5 (.cells #[.int .i64 (gs3.length : Nat), .int .i64 k3] 3 (0, 0))
              have hIB : InsAt (w5.alloc (.cells #[.int .i64 (gs3.length : Nat), .int .i64 k3] 3 (0, 0))) (c.br :: (rowBlk v5 ++ (bu :: E))) (some ⟨w5.heap.size, 0, none⟩) [(gs3.length : Nat), k3] := ints_new [(gs3.length : Nat), k3] hS5.X
              have KA2 := kAdd c hc ⟨5, 0, [(gs3.length : Nat), k3]⟩ (some ⟨w5.heap.size, 0, none⟩) 2 (hS5.later hc hBB) hIB (by simp; omega)
              simp only [List.length_cons, List.length_nil] at KA2
              have HGC := Lib.hid (HGB.out.trans (Gw.of_below (v := v5) hBB))
              have HAC := Lib.hid (HAB.out.keepX (behind_of_below hBB) (by simp))
              clear hS5 hG5 KA1 hBB hIB HGA HAA HGB HAB
              go_wp2_with fail
              refine KA2.mono ?_
              rintro e w7 ⟨v7, rfl, hS7, hG7⟩
              have HS7 := Lib.hid hS7
              have HG7 := Lib.hid (HGC.out.trans hG7)
              have HA7 := Lib.hid (HAC.out.keepX hG7.be hbu5)
              clear hS7 hG7 KA2 HGC HAC
              go_wp2_with fail
              go_roundw
              case rel => exact ⟨i, v7, _, _, by omega, by go_num, rfl, by simp; omega, HS7.out, HG7.out, HA7.out, Lib.hid (by simpa using HFP.out)⟩
              case measure => simp [intOf] <;> omega
end Go.Proofs.YtmaiofimmjedjaaDoor

/- Maps that are made and looked up: the signs of chains, the names of lists. -/
namespace Go.Proofs.YtmaiofimmjedjaaDoor
open Go.RowKit Go.Maps Go.MapKept

theorem Tryd.keyIntJ : Keyed Tryd.prog 3 := int_keyed Tryd.underlying3
theorem map_look {T V : TypeId} (hT : Tryd.prog.underlying T = some (.map 3 V)) {w : World} {g : Nat} {es : Array MapEntry} {clock : Nat} (hb : w.heap[g]? = some (.map es clock)) (x : Int) (hx : -9223372036854775808 ≤ x ∧ x ≤ 9223372036854775807) {j : Nat} {v : Value} (hf : Instr.findNow (.int .i64) (.int .i64 x) es.toList 0 = some (some (j, v))) : (Instr.lookup T (.map (some g)) (.int .i64 x) false).run Tryd.prog w = .ok v w := by
  have hkey : keyOf Tryd.prog 3 (.int .i64 x) = some (.int .i64 x) := keyOf_int_mk Tryd.underlying3 (WalkArith.wf_i64 hx)
  simp [Instr.lookup, run_underlying hT, Go.MapKept.run_getObj_map hb, Tryd.keyIntJ.check w _ hkey, run_findKey Tryd.underlying3 hf, Result.andThen]
theorem map_put {T V : TypeId} (hT : Tryd.prog.underlying T = some (.map 3 V)) {w : World} {g : Nat} {es : Array MapEntry} {clock : Nat} (hb : w.heap[g]? = some (.map es clock)) (x : Int) (v : Value) (hx : -9223372036854775808 ≤ x ∧ x ≤ 9223372036854775807) (hf : Instr.findNow (.int .i64) (.int .i64 x) es.toList 0 = some none) : ∃ w', (Instr.mapUpdate T (.map (some g)) (.int .i64 x) v).run Tryd.prog w = .ok () w' ∧ w'.heap[g]? = some (.map (es.push ⟨.int .i64 x, v, clock⟩) (clock + 1)) ∧ Behind w [g] w' := by
  have hkey : keyOf Tryd.prog 3 (.int .i64 x) = some (.int .i64 x) := keyOf_int_mk Tryd.underlying3 (WalkArith.wf_i64 hx)
  have hlt : g < w.heap.size := lt_of_heap hb
  refine ⟨{ w with heap := w.heap.setIfInBounds g (.map (es.push ⟨.int .i64 x, v, clock⟩) (clock + 1)) }, ?_, ?_, rfl, rfl, rfl, by simp, fun k hk' hn' => ?_⟩
  · simp [Instr.mapUpdate, run_underlying hT, Go.MapKept.run_getObj_map hb, Tryd.keyIntJ.check w _ hkey, run_findKey Tryd.underlying3 hf, Go.MapKept.run_setObj_map _ hb, Result.andThen]
  · simp [hlt]
  · have hne : g ≠ k := fun e => hn' (by simp [e])
    show (w.heap.setIfInBounds g _)[k]? = _
    rw [Array.getElem?_setIfInBounds_ne hne]
def chE : Array MapEntry := #[⟨.int .i64 4, .agg #[.string ⟨#[124]⟩, .int .i64 5], 0⟩, ⟨.int .i64 5, .agg #[.string ⟨#[94]⟩, .int .i64 6], 1⟩, ⟨.int .i64 6, .agg #[.string ⟨#[38]⟩, .int .i64 4], 2⟩]
def ChMap (w : World) (v : Value) : Prop := ∃ g, v = .map (some g) ∧ w.heap[g]? = some (.map chE 3)
theorem ch_look {w : World} {v : Value} (h : ChMap w v) (lv : Nat) (h4 : 4 ≤ lv) (h6 : lv ≤ 6) : (Instr.lookup 73 v (.int .i64 (lv : Nat)) false).run Tryd.prog w = .ok (.agg #[.string ⟨(signI lv).toArray⟩, .int .i64 (kindI lv)]) w := by
  obtain ⟨g, rfl, hb⟩ := h
  have : lv = 4 ∨ lv = 5 ∨ lv = 6 := by omega
  rcases this with rfl | rfl | rfl
  · exact map_look Tryd.underlying73 hb 4 (by omega) (j := 0) (by rfl)
  · exact map_look Tryd.underlying73 hb 5 (by omega) (j := 1) (by rfl)
  · exact map_look Tryd.underlying73 hb 6 (by omega) (j := 2) (by rfl)

set_option maxHeartbeats 3200000 in
set_option maxRecDepth 100000 in
theorem gChains (w : World) : Calls Tryd.prog 38 #[] w fun e w' => ∃ v, e = .returned v ∧ ChMap w' v ∧ Below w.heap.size w w' := by
  obtain ⟨Post, hPost⟩ : ∃ P : Ending → World → Prop, P = fun e w' => ∃ v, e = .returned v ∧ ChMap w' v ∧ Below w.heap.size w w' := ⟨_, rfl⟩
  rw [← hPost]
  have HP := Lib.hid hPost
  clear hPost
  have hmm : ∀ (ty : TypeId) (w : World), (Instr.makeMap ty none).run Tryd.prog w = .ok (.map (some w.heap.size)) (w.alloc (.map #[] 0)) := fun _ _ => rfl
  have h0 : (w.alloc (.map #[] 0)).heap[w.heap.size]? = some (.map #[] 0) := heap_alloc_new w _
  obtain ⟨w1, r1, h1, b1⟩ := map_put Tryd.underlying73 h0 4 (.agg #[.string ⟨#[124]⟩, .int .i64 5]) (by omega) (by rfl)
  obtain ⟨w2, r2, h2, b2⟩ := map_put Tryd.underlying73 h1 5 (.agg #[.string ⟨#[94]⟩, .int .i64 6]) (by omega) (by rfl)
  obtain ⟨w3, r3, h3, b3⟩ := map_put Tryd.underlying73 h2 6 (.agg #[.string ⟨#[38]⟩, .int .i64 4]) (by omega) (by rfl)
  have HC := Lib.hid (show ChMap w3 (.map (some w.heap.size)) from ⟨_, rfl, h3⟩)
  have hb0 := below_one w (.map #[] 0)
  have HB := Lib.hid (show Below w.heap.size w w3 from (hb0.trans (b1.below_of (fun k hk => by simp at hk; omega) hb0.size)).trans (Below.trans (b2.below_of (b := w.heap.size) (fun k hk => by simp at hk; omega) (by have := b1.size; have := hb0.size; omega)) (b3.below_of (fun k hk => by simp at hk; omega) (by have := b1.size; have := b2.size; have := hb0.size; omega))))
  clear h0 h1 h2 h3 b1 b2 b3 hb0
  go_enter Tryd.func38, Tryd.ntmps38
  go_wp2_with fail
  rw [HP.out]
  exact ⟨_, rfl, HC.out, HB.out⟩
end Go.Proofs.YtmaiofimmjedjaaDoor

/- The reader: chains. -/
namespace Go.Proofs.YtmaiofimmjedjaaDoor
open Go.RowKit

theorem row_ins {w : World} {p : Option Addr} {m d : Nat} {lst : List Int} {X : List Nat} (h : RowV (inW w) 3 1 (.slice p m d) m (ints lst)) (hX : ∀ g ∈ rowBlk (.slice p m d), g ∉ X) : InsAt w X p lst := fun k x hk => by
  obtain ⟨a, c', e, _, hA⟩ := rowV_at2 h
  cases e
  obtain ⟨b, o, h1, h2, h3⟩ := hA k x hk
  exact ⟨b, o, h1, hX b (by rw [h2]; simp [rowBlk]), h2, h3⟩

set_option maxHeartbeats 12800000 in
set_option maxRecDepth 100000 in
theorem step_chain (c : Cf) (hc : c.Ok) (lv : Nat) (h4 : 4 ≤ lv) (h6 : lv ≤ 6) (ts : List Tk) (hL : Less c (.chain lv) ts) : Con c (.chain lv) ts := by
  intro E nx o v gs w hts hS ho
  subst hts
  obtain ⟨i0, ii, iz0, iz1, iz2⟩ := info_parts Tryd.infoIntJ
  have II := Lib.hid ii
  have IZ0 := Lib.hid iz0
  have IZ1 := Lib.hid iz1
  have IZ2 := Lib.hid iz2
  have KI := Lib.hid (fun (E' : List Nat) (x : World) (hx : St c E' x nx o v gs) => (show Calls Tryd.prog 62 #[.pointer (some ⟨c.br, 0, none⟩), .int .i64 ((lv : Int) + 1)] x (OkP c E' x v o (RI c.n (.chain (lv + 1)) (TS c.l nx) o gs)) from by
    have h := hL (.chain (lv + 1)) (TS c.l nx) (by simp [oneM]; omega) (by simp [bdI, rkI]; omega) E' nx o v gs x rfl hx ho
    rw [show ((lv : Int) + 1) = ((lv + 1 : Nat) : Int) by omega]
    exact h))
  have HLS := Lib.hid (fun (E' : List Nat) (nx3 : Nat) (v2 : Value) (gs2 : List Gt) (x : World) (hlt : (TS c.l nx3).length < (TS c.l nx).length) (hx : St c E' x nx3 o v2 gs2) => (show Calls Tryd.prog 62 #[.pointer (some ⟨c.br, 0, none⟩), .int .i64 ((lv : Int) + 1)] x (OkP c E' x v2 o (RI c.n (.chain (lv + 1)) (TS c.l nx3) o gs2)) from by
    have h := hL (.chain (lv + 1)) (TS c.l nx3) (by simp [oneM]; omega) (bd_lt hlt) E' nx3 o v2 gs2 x rfl hx ho
    rw [show ((lv : Int) + 1) = ((lv + 1 : Nat) : Int) by omega]
    exact h))
  obtain ⟨Post, hPost⟩ : ∃ P : Ending → World → Prop, P = OkP c E w v o (RI c.n (.chain lv) (TS c.l nx) o gs) := ⟨_, rfl⟩
  rw [← hPost]
  rw [RI_chain c.n lv (by omega)] at hPost
  have HP := Lib.hid hPost
  have HS := Lib.hid hS
  have hcnt0 := hS.cnt
  have KC := gChains w
  have HSN := Lib.hid (signI_ne lv)
  clear hPost hL hS ii iz0 iz1 iz2
  show Calls Tryd.prog 62 #[.pointer (some ⟨c.br, 0, none⟩), .int .i64 (lv : Nat)] w Post
  have HLEN := Lib.hid (fun a b d (h : RI c.n (.chain (lv + 1)) (TS c.l nx) o gs = .ok a b d) => ok_less h rfl)
  have HGS := Lib.hid (fun a b d (h : RI c.n (.chain (lv + 1)) (TS c.l nx) o gs = .ok a b d) => (RI_gs (by trivial) h).1)
  obtain ⟨R1, hR1⟩ : ∃ R1, R1 = RI c.n (.chain (lv + 1)) (TS c.l nx) o gs := ⟨_, rfl⟩
  rw [← hR1] at KI HP HLEN HGS
  clear hR1
  have hd7 : ((lv : Int) == 7) = false := beq_no (by omega)
  go_enter Tryd.func62, Tryd.ntmps62
  go_wp2_with fail
  refine KC.mono ?_
  rintro e wC ⟨mv, rfl, hCM, hBC⟩
  have hlook := ch_look hCM lv h4 h6
  obtain ⟨sg, hsg⟩ : ∃ sg, sg = signI lv := ⟨_, rfl⟩
  obtain ⟨kd, hkd⟩ : ∃ kd, kd = kindI lv := ⟨_, rfl⟩
  rw [← hsg, ← hkd] at hlook
  have HSG := Lib.hid hsg
  have HKD := Lib.hid hkd
  obtain ⟨sb, hsb⟩ : ∃ sb : ByteArray, sb = ⟨sg.toArray⟩ := ⟨_, rfl⟩
  rw [← hsb] at hlook
  have HSB := Lib.hid hsb
  have HBC := Lib.hid hBC
  clear hsg hkd hsb hCM hBC KC
  go_upto_region 4 with fail
  refine wp_gen ?_
  intro w1 hw1
  have hB1 : Below wC.heap.size wC w1 := by rw [hw1]; exact below_one _ _
  have X1 := Lib.hid (show w1.heap[wC.heap.size]? = some (.cells #[.string sb, .int .i64 kd] 72 (0, 0)) by rw [hw1]; exact new_one _ _)
  have hBw : Below w.heap.size w w1 := HBC.out.trans (hB1.mono HBC.out.size)
  obtain ⟨bx, hbx⟩ : ∃ bx, bx = wC.heap.size := ⟨_, rfl⟩
  rw [← hbx] at X1 ⊢
  have hwbx : w.heap.size ≤ bx := by rw [hbx]; exact HBC.out.size
  have hbx1 := lt_of_heap X1.out
  have HS1 := Lib.hid (show St c (bx :: E) w1 nx o v gs from HS.out.apart hc hBw (fun g hg => by
    rcases List.mem_cons.1 hg with rfl | hg
    · exact .inr ⟨hwbx, hbx1⟩
    · exact .inl hg))
  have HG1 := Lib.hid (Gw.of_below (c := c) (v := v) hBw)
  have KI1 := KI.out (bx :: E) w1 HS1.out
  clear hw1 hB1 hBw hbx KI hlook
  go_wp2_with fail
  refine KI1.mono ?_
  intro e w2 h2
  cases R1 with
  | err q en =>
    obtain ⟨rfl, h2⟩ := h2
    refine ⟨rfl, ?_⟩
    rw [HP.out]
    exact OkP.err_after HG1.out h2
  | ok lst ts1 gs1 =>
    obtain ⟨k, nx1, v1, rfl, rfl, rfl, hS2, hG2⟩ := h2
    have hlen1 := HLEN.out _ _ _ rfl
    have hgs1 := HGS.out _ _ _ rfl
    simp [loopM, moreM] at hgs1
    have hbxv : bx ∉ c.br :: rowBlk v := (HS1.out.ex bx (by simp)).2
    have hbx2 : bx < w2.heap.size := Nat.lt_of_lt_of_le hbx1 hG2.be.size
    have hB3 := below_one w2 (.cells #[.int .i64 k] 3 (0, 0))
    have X3 := Lib.hid ((behind_of_below hB3).keep (hG2.be.keep X1.out hbxv) (by simp))
    have HS3 := Lib.hid (show St c (rowBlk (.slice (some ⟨w2.heap.size, 0, none⟩) 1 1) ++ (bx :: E)) _ nx1 o v1 gs1 from hS2.apart hc hB3 (fun g hg => by
      rcases List.mem_append.1 hg with hg | hg
      · simp [rowBlk] at hg; subst hg; exact .inr ⟨Nat.le_refl _, by simp⟩
      · exact .inl hg))
    have HG3 := Lib.hid ((HG1.out.trans hG2).trans (Gw.of_below (v := v1) hB3))
    have HR3 := Lib.hid (row_new w2 k)
    have hws : w.heap.size ≤ w2.heap.size := (HG1.out.trans hG2).be.size
    have HPR := Lib.hid (show Post = OkP c E w v o (RI c.n (.chainL lv [k]) (TS c.l nx1) o gs1) from HP.out)
    clear hS2 hG2 KI1 HP HLEN HGS hB3 hbxv HS1 X1
    go_wp2_with fail
    go_loopg [6] (TS c.l nx1).length (fun kk t6 wr => ∃ (nx2 : Nat) (v2 : Value) (gs2 : List Gt) (lst : List Int), (TS c.l nx2).length ≤ kk ∧ (TS c.l nx2).length + 1 ≤ (TS c.l nx).length ∧ 1 ≤ lst.length ∧ gs2.length + 3 * (TS c.l nx2).length + 2 * lst.length ≤ 10000000 ∧ Hid (St c (rowBlk t6 ++ (bx :: E)) wr nx2 o v2 gs2) ∧ Hid (RowV (inW wr) 3 1 t6 lst.length (ints lst)) ∧ Hid (∀ g ∈ rowBlk t6, w.heap.size ≤ g) ∧ Hid (wr.heap[bx]? = some (.cells #[.string sb, .int .i64 kd] 72 (0, 0))) ∧ Hid (Gw c w v wr v2) ∧ Hid (∀ g ∈ rowBlk t6, g ≠ bx) ∧ Hid (Post = OkP c E w v o (RI c.n (.chainL lv lst) (TS c.l nx2) o gs2)))
    case atStart => exact ⟨nx1, v1, gs1, [k], Nat.le_refl _, hlen1, Nat.le_refl _, by simp; omega, HS3.out, HR3.out, (fun g hg => by simp [rowBlk] at hg; omega), X3.out, HG3.out, (fun g hg => by simp [rowBlk] at hg; omega), HPR.out⟩
    case round =>
      obtain ⟨nx2, v2, gs2, lst, hkk, hlen2, hl1, hcnt2, HSr, HRr, HGe, HXr, HGr, HNe, HPr⟩ := hrel
      have hp2 := HSr.out.pl.le
      have x0 := blk_cell HXr.out 0 rfl
      have hbxr : bx ∉ c.br :: rowBlk v2 := (HSr.out.ex bx (by simp)).2
      have hfm := HPr.out
      rw [RI_chainL, next_TS] at hfm
      cases ht : tokI (c.l.drop (nxtI c.l nx2)) with
      | none =>
        rw [ht] at hfm
        have HF := Lib.hid hfm
        have KT := gTake_none c.br c.l c.n nx2 o v2 sg wr HSr.out.rd hp2 hc.l ht
        rw [← HSB.out] at KT
        clear hfm ht hp2
        go_wp2_with fail
        refine KT.mono ?_
        rintro e w4 ⟨rfl, hB⟩
        refine ⟨rfl, ?_⟩
        rw [HF.out]
        exact ⟨by rw [HSr.out.pl.pos]; rfl, (HGr.out.trans (Gw.of_below (v := v2) hB)).be⟩
      | some t =>
        rw [ht] at hfm
        by_cases hteq : t = sg
        · subst hteq
          have hne : t ≠ [] := by rw [HSG.out]; exact HSN.out
          have hfm2 : Post = OkP c E w v o ((RI c.n (.chain (lv + 1)) (TS c.l nx2).tail o gs2).bind fun l2 ts gs => RI c.n (.chainL lv (lst ++ l2)) ts o gs) := by rw [hfm]; simp only []; rw [if_pos HSG.out]
          rw [TS_tail ht hne] at hfm2
          have HF := Lib.hid hfm2
          have hless := TS_less ht hne
          have HPL := Lib.hid (HSr.out.pl.next ht hne)
          have KT := gTake_yes c.br c.l c.n nx2 o v2 t wr HSr.out.rd hp2 hc.l ht
          rw [← HSB.out] at KT
          obtain ⟨nx3, hnx3⟩ : ∃ nx3, nx3 = nxtI c.l nx2 + t.length := ⟨_, rfl⟩
          rw [← hnx3] at KT HF HPL hless
          clear hfm hfm2 ht hp2 hnx3 hne
          go_wp2_with fail
          refine KT.mono ?_
          rintro e w4 ⟨rfl, hR, hB⟩
          have HS4 := Lib.hid (HSr.out.move hc hR hB HPL.out (by omega))
          have HG4 := Lib.hid (HGr.out.trans (Gw.of_br (v := v2) hB))
          have HR4 := Lib.hid (row_keep HRr.out HSr.out (Gw.of_br (v := v2) hB))
          have X4 := Lib.hid ((Gw.of_br (v := v2) hB).be.keep HXr.out hbxr)
          have KI2 := HLS.out _ nx3 v2 gs2 w4 (by omega) HS4.out
          have HLEN := Lib.hid (fun a b d (h : RI c.n (.chain (lv + 1)) (TS c.l nx3) o gs2 = .ok a b d) => ok_less h rfl)
          have HGS := Lib.hid (fun a b d (h : RI c.n (.chain (lv + 1)) (TS c.l nx3) o gs2 = .ok a b d) => (RI_gs (by trivial) h).1)
          obtain ⟨R2, hR2⟩ : ∃ R2, R2 = RI c.n (.chain (lv + 1)) (TS c.l nx3) o gs2 := ⟨_, rfl⟩
          rw [← hR2] at KI2 HF HLEN HGS
          clear hR2 hR hB KT x0 HXr
          go_wp2_with fail
          refine KI2.mono ?_
          intro e w5 h5
          cases R2 with
          | err q en =>
            obtain ⟨rfl, h5⟩ := h5
            refine ⟨rfl, ?_⟩
            rw [HF.out]
            exact OkP.err_after HG4.out h5
          | ok lst2 ts4 gs4 =>
            obtain ⟨k4, nx4, v4, rfl, rfl, rfl, hS5, hG5⟩ := h5
            have hlen4 := HLEN.out _ _ _ rfl
            have hgs4 := HGS.out _ _ _ rfl
            simp [loopM, moreM] at hgs4
            have HR5 := Lib.hid (row_keep HR4.out HS4.out hG5)
            have HS5 := Lib.hid hS5
            have X5 := Lib.hid (hG5.be.keep X4.out hbxr)
            have HG5 := Lib.hid (HG4.out.trans hG5)
            have HFP := Lib.hid (show Post = OkP c E w v o (RI c.n (.chainL lv (lst ++ [k4])) (TS c.l nx4) o gs4) from HF.out)
            have hw5 : w.heap.size ≤ w5.heap.size := HG5.out.be.size
            have hbx5 : bx < w5.heap.size := lt_of_heap X5.out
            clear hS5 hG5 KI2 HLEN HGS HF HR4 HS4 HG4 HRr HSr HGr HPr X4
            go_wp2_with (at_builtin; refine wpList_append_row _ rfl _ _ 31 rfl 3 i0 (.int .i64 0) 1 8 Tryd.underlying31 II.out IZ0.out IZ1.out IZ2.out rfl _ _ _ rfl (HR5.out.keep (behind_of_below ((Below.refl _ _).alloc (Nat.le_refl _) _)) (by simp)) w5.heap.size 1 1 [.int .i64 k4] 3 rfl (heap_alloc_new w5 _) rfl (by intro x hx; simp at hx; subst hx; rfl) (by omega) (by unfold maxLen; omega) (by omega) ?_)
            intro v9 w9 hr9 hB9 hn9
            have h09 : Behind w5 (rowBlk u6) w9 := ((behind_of_below ((Below.refl _ _).alloc (Nat.le_refl _) _)).mono (by simp)).trans hB9 (fun k hk => .inl hk)
            have hn9' : ∀ g ∈ rowBlk v9, g ∈ rowBlk u6 ∨ w5.heap.size ≤ g := fun g hg => (hn9 g hg).imp id (fun h => by first | omega | (simp at h; omega))
            have HS9 := Lib.hid (HS5.out.rowed hc h09 (fun g hg => Nat.le_trans HS.out.be.size (HGe.out g hg)) hn9' hr9.lt)
            have X9 := Lib.hid (h09.keep X5.out (fun h => HNe.out bx h rfl))
            have HG9 := Lib.hid (show Gw c w v w9 v4 from ⟨HG5.out.be.trans h09 (fun b hb => .inr (HGe.out b hb)), HG5.out.new⟩)
            have hge9 : ∀ g ∈ rowBlk v9, w.heap.size ≤ g := fun g hg => (hn9' g hg).elim (HGe.out g) (fun e => by omega)
            have HGE9 := Lib.hid hge9
            have HNE9 := Lib.hid (show ∀ g ∈ rowBlk v9, g ≠ bx from fun g hg => (hn9' g hg).elim (HNe.out g) (fun e => by omega))
            have HR9 := Lib.hid (show RowV (inW w9) 3 1 v9 (lst ++ [k4]).length (ints (lst ++ [k4])) by
              rw [List.length_append, show ints (lst ++ [k4]) = ints lst ++ [.int .i64 k4] by simp [ints]]; exact hr9)
            clear h09 hn9 hn9' hr9 hB9 hge9 HS5 HG5 HR5 X5
            go_wp2_with fail
            go_roundg (TS c.l nx4).length
            case measure => omega
            case rel => exact ⟨nx4, v4, gs4, lst ++ [k4], Nat.le_refl _, by omega, by simp, by simp; omega, HS9.out, HR9.out, HGE9.out, X9.out, HG9.out, HNE9.out, HFP.out⟩
        · have hns : ¬ t = signI lv := fun e => hteq (e.trans HSG.out.symm)
          have hfm2 : Post = OkP c E w v o (if lst.length = 1 then .ok lst (TS c.l nx2) gs2 else .ok [(gs2.length : Nat)] (TS c.l nx2) (gs2 ++ [⟨kindI lv, 0, lst⟩])) := by rw [hfm]; simp only []; rw [if_neg hns]
          have KT := gTake_no c.br c.l c.n nx2 o v2 sg t wr HSr.out.rd hp2 hc.l ht hteq
          rw [← HSB.out] at KT
          obtain ⟨pu, cu, hu⟩ := HRr.out.slice
          subst hu
          by_cases hone : lst.length = 1
          · obtain ⟨k9, rfl⟩ := List.length_eq_one_iff.1 hone
            rw [if_pos hone] at hfm2
            have HF := Lib.hid hfm2
            obtain ⟨a9, c9, e9, _, hA⟩ := rowV_at2 HRr.out
            cases e9
            obtain ⟨bu, ou, hbu, rfl, hcl⟩ := hA 0 (.int .i64 k9) rfl
            rw [Nat.add_zero] at hcl
            have HCL := Lib.hid hcl
            clear hfm hfm2 ht hp2 hteq hns hA hcl
            go_wp2_with fail
            refine KT.mono ?_
            rintro e w4 ⟨rfl, hB⟩
            have hcl4 := below_cell hB hbu HCL.out
            have HB := Lib.hid hB
            clear hB KT
            go_wp2_with fail
            rw [HF.out]
            exact ⟨k9, nx2, v2, rfl, rfl, rfl, HSr.out.apart hc HB.out (fun g hg => .inl (by simp [hg])), HGr.out.trans (Gw.of_below HB.out)⟩
          · rw [if_neg hone] at hfm2
            have HF := Lib.hid hfm2
            have hl1n : ((lst.length : Int) == 1) = false := beq_no (by omega)
            have hee := HS.out.ex
            have KA := Lib.hid (fun (x : World) (hB : Below wr.heap.size wr x) => kAdd c hc ⟨kd, 0, lst⟩ pu cu (HSr.out.apart (E' := E) hc hB (fun g hg => .inl (by simp [hg]))) (row_ins (HRr.out.keep (behind_of_below hB) (by simp)) (fun g hg hm => by
              rcases List.mem_cons.1 hm with rfl | hm
              · exact (HSr.out.ex _ (List.mem_append_left _ hg)).2 (by simp)
              · rcases List.mem_append.1 hm with hm | hm
                · exact (HSr.out.ex _ (List.mem_append_left _ hg)).2 (by simp [hm])
                · have := (hee g hm).1; have := HGe.out g hg; omega)) (by omega))
            simp only at KA
            have x1 := blk_cell HXr.out 1 rfl
            clear hfm hfm2 ht hp2 hteq hns
            go_wp2_with fail
            refine KT.mono ?_
            rintro e w4 ⟨rfl, hB⟩
            have x1' := below_cell hB (lt_of_heap HXr.out) x1
            have KA4 := KA.out w4 hB
            have HB := Lib.hid hB
            clear hB KT x0 x1 KA
            go_wp2_with fail
            refine KA4.mono ?_
            rintro e w5 ⟨v5, rfl, hS5, hG5⟩
            have HS5 := Lib.hid hS5
            have HG5 := Lib.hid ((HGr.out.trans (Gw.of_below (v := v2) HB.out)).trans hG5)
            clear hS5 hG5 KA4
            go_wp2_with fail
            rw [HF.out]
            exact ⟨_, nx2, v5, rfl, rfl, rfl, by rw [← HKD.out]; exact HS5.out, HG5.out⟩
end Go.Proofs.YtmaiofimmjedjaaDoor
