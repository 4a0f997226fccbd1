/- Texts of this claim, joined: HC, HD, HE. -/
import Derived.Test.YtmaiofimmjedjaaDoorMW20
import Derived.Test.YtmaiofimmjedjaaDoorMW21
import Derived.Test.YtmaiofimmjedjaaDoorMW03

/- Parse. -/
namespace Go.Proofs.YtmaiofimmjedjaaDoor
open Go.RowKit

theorem ParseP.err {l : List UInt8} {n : Int} {w w' : World} {q : Nat} {en : Int} (h : parseI l n = ([], q, en)) (hB : Below w.heap.size w w') : ParseP l n w (.returned (.tuple #[.agg #[.int .i64 0, .slice none 0 0], .int .i64 (q : Nat), .int .i64 en])) w' := by
  unfold ParseP
  rw [h]
  exact ⟨none, 0, rfl, fun i g hg => by simp at hg, hB⟩
theorem ParseP.good {l : List UInt8} {n : Int} {w w' : World} {gs : List Gt} {a : Option Addr} {d : Nat} (h : parseI l n = (gs, 0, 0)) (hne : gs ≠ []) (hC : CircAt w'.heap.size w' a gs) (hB : Below w.heap.size w w') : ParseP l n w (.returned (.tuple #[.agg #[.int .i64 n, .slice a gs.length d], .int .i64 0, .int .i64 0])) w' := by
  unfold ParseP
  rw [h]
  exact ⟨a, d, by rw [if_neg (fun e => hne (List.length_eq_zero_iff.1 e))]; rfl, hC, hB⟩
theorem stored4 {w : World} {b : Nat} {a0 a1 x y A B X Y : Value} {T1 T2 T3 : TypeId} (h1 : w.heap[b]? = some (.cells #[a0, a1] T1 (0, 0))) (h2 : w.heap[b + 1]? = some (.cells #[x] T2 (0, 0))) (h3 : w.heap[b + 1 + 1]? = some (.cells #[y] T3 (0, 0))) :
    ((((w.setCell ⟨b, 0, none⟩ A).setCell ⟨b, 1, none⟩ B).setCell ⟨b + 1, 0, none⟩ X).setCell ⟨b + 1 + 1, 0, none⟩ Y).heap[b]? = some (.cells #[A, B] T1 (0, 0)) ∧ ((((w.setCell ⟨b, 0, none⟩ A).setCell ⟨b, 1, none⟩ B).setCell ⟨b + 1, 0, none⟩ X).setCell ⟨b + 1 + 1, 0, none⟩ Y).heap[b + 1]? = some (.cells #[X] T2 (0, 0)) ∧ ((((w.setCell ⟨b, 0, none⟩ A).setCell ⟨b, 1, none⟩ B).setCell ⟨b + 1, 0, none⟩ X).setCell ⟨b + 1 + 1, 0, none⟩ Y).heap[b + 1 + 1]? = some (.cells #[Y] T3 (0, 0)) ∧ Behind w [b, b + 1, b + 1 + 1] ((((w.setCell ⟨b, 0, none⟩ A).setCell ⟨b, 1, none⟩ B).setCell ⟨b + 1, 0, none⟩ X).setCell ⟨b + 1 + 1, 0, none⟩ Y) := by
  have d1 : Behind w [b] ((w.setCell ⟨b, 0, none⟩ A).setCell ⟨b, 1, none⟩ B) := behind_set1.trans behind_set1 (fun k hk => .inl hk)
  have d2 : Behind ((w.setCell ⟨b, 0, none⟩ A).setCell ⟨b, 1, none⟩ B) [b + 1] (((w.setCell ⟨b, 0, none⟩ A).setCell ⟨b, 1, none⟩ B).setCell ⟨b + 1, 0, none⟩ X) := behind_set1
  have d3 : Behind (((w.setCell ⟨b, 0, none⟩ A).setCell ⟨b, 1, none⟩ B).setCell ⟨b + 1, 0, none⟩ X) [b + 1 + 1] ((((w.setCell ⟨b, 0, none⟩ A).setCell ⟨b, 1, none⟩ B).setCell ⟨b + 1, 0, none⟩ X).setCell ⟨b + 1 + 1, 0, none⟩ Y) := behind_set1
  refine ⟨d3.keep (d2.keep (heap_setCell_same _ b 1 _ _ B (heap_setCell_same _ b 0 _ _ A h1)) (by simp)) (by simp <;> omega), d3.keep (heap_setCell_same _ (b + 1) 0 _ _ X (d1.keep h2 (by simp))) (by simp), heap_setCell_same _ (b + 1 + 1) 0 _ _ Y (d2.keep (d1.keep h3 (by simp <;> omega)) (by simp)), ?_⟩
  exact (((d1.mono (Wr' := [b, b + 1, b + 1 + 1]) (by simp)).trans d2 (by simp)).trans d3 (by simp))
set_option maxHeartbeats 6400000 in
set_option maxRecDepth 100000 in
theorem gParse (l : List UInt8) (n : Int) (w : World) (hV : VarsI w) (hl9 : l.length ≤ 140737488355328) : Calls Tryd.prog 9 #[.string ⟨l.toArray⟩, .int .i64 n] w (ParseP l n w) := by
  have hmf : ∀ (fn : Fn) (first cap : Array Value) (w : World), (Instr.makeFunc fn first cap).run Tryd.prog w = .ok (.func fn first cap) w := fun _ _ _ _ => rfl
  obtain ⟨Post, hPost⟩ : ∃ P : Ending → World → Prop, P = ParseP l n w := ⟨_, rfl⟩
  rw [← hPost]
  have HP := Lib.hid hPost
  clear hPost
  have hs := ba_size l
  obtain ⟨s, hse⟩ : ∃ s : ByteArray, s = ⟨l.toArray⟩ := ⟨_, rfl⟩
  rw [← hse] at hs ⊢
  have HSE := Lib.hid hse
  clear hse
  have HT := Lib.hid (fun z => three_at w (.cells #[.int .i64 0, .slice none 0 0] 24 (0, 0)) (.cells #[.int .i64 0] 3 (0, 0)) (.cells #[.int .i64 z] 27 (0, 0)))
  have HTB := Lib.hid (fun z => three_below w (.cells #[.int .i64 0, .slice none 0 0] 24 (0, 0)) (.cells #[.int .i64 0] 3 (0, 0)) (.cells #[.int .i64 z] 27 (0, 0)))
  by_cases h1 : n < 0
  · have hd1 : decide (n < 0) = true := decide_eq_true h1
    have HQ := Lib.hid (show parseI l n = ([], 0, 1) by unfold parseI; rw [if_pos (.inl h1)])
    go_enter_defers Tryd.func9, Tryd.ntmps9
    go_wp2_with fail
    refine parse_now w.heap.size (w.heap.size + 1) (w.heap.size + 1 + 1) _ _ _ _ _ _ _ rfl rfl rfl (HT.out 1).1 (HT.out 1).2.1 (HT.out 1).2.2 ?_
    rw [HP.out]
    exact ParseP.err (q := 0) HQ.out (HTB.out 1)
  have hd1 : decide (n < 0) = false := decide_eq_false h1
  by_cases h2 : 128 < n
  · have hd2 : decide (128 < n) = true := decide_eq_true h2
    have HQ := Lib.hid (show parseI l n = ([], 0, 1) by unfold parseI; rw [if_pos (.inr h2)])
    go_enter_defers Tryd.func9, Tryd.ntmps9
    go_wp2_with fail
    refine parse_now w.heap.size (w.heap.size + 1) (w.heap.size + 1 + 1) _ _ _ _ _ _ _ rfl rfl rfl (HT.out 1).1 (HT.out 1).2.1 (HT.out 1).2.2 ?_
    rw [HP.out]
    exact ParseP.err (q := 0) HQ.out (HTB.out 1)
  have hd2 : decide (128 < n) = false := decide_eq_false h2
  by_cases h3 : 1048576 < l.length
  · have hd3 : decide ((1048576 : Int) < (s.size : Int)) = true := decide_eq_true (by omega)
    have hd4 : decide (1048576 < s.size) = true := decide_eq_true (by omega)
    have hd5 : decide (1048576 < l.length) = true := decide_eq_true (by omega)
    have hd6 : decide ((1048576 : Int) < (l.length : Int)) = true := decide_eq_true (by omega)
    have HQ := Lib.hid (show parseI l n = ([], 0, 2) by unfold parseI; rw [if_neg (by omega), if_pos h3])
    go_enter_defers Tryd.func9, Tryd.ntmps9
    go_wp2_with fail
    refine parse_now w.heap.size (w.heap.size + 1) (w.heap.size + 1 + 1) _ _ _ _ _ _ _ rfl rfl rfl (HT.out 2).1 (HT.out 2).2.1 (HT.out 2).2.2 ?_
    rw [HP.out]
    exact ParseP.err (q := 0) HQ.out (HTB.out 2)
  obtain ⟨m, rfl⟩ : ∃ m : Nat, n = m := ⟨n.toNat, by omega⟩
  have hd3 : decide ((1048576 : Int) < (s.size : Int)) = false := decide_eq_false (by omega)
  have hd4 : decide (1048576 < s.size) = false := decide_eq_false (by omega)
  have hd5 : decide (1048576 < l.length) = false := decide_eq_false (by omega)
  have hd6 : decide ((1048576 : Int) < (l.length : Int)) = false := decide_eq_false (by omega)
  have HPI := Lib.hid (show parseI l m = finI l m (RI m .form (TS l 0) 0 []) by
    rw [parseI_eq (by omega) (by omega) (by omega)]
    rfl)
  have HTL := Lib.hid (show (TS l 0).length ≤ 1048577 by have := TS_len l l.length 0 (by omega); omega)
  obtain ⟨c, hcc⟩ : ∃ c : Cf, c = ⟨w, w.heap.size + 1 + 1 + 1, l, m⟩ := ⟨_, rfl⟩
  have cl : c.l = l := by rw [hcc]
  have cn : c.n = m := by rw [hcc]
  have cb : c.br = w.heap.size + 1 + 1 + 1 := by rw [hcc]
  have cw : c.w0 = w := by rw [hcc]
  have hc : c.Ok := ⟨by rw [cw]; exact hV, by rw [cw, cb]; omega, by rw [cl]; omega, by rw [cn]; omega⟩
  have CL := Lib.hid cl
  have CN := Lib.hid cn
  have CB := Lib.hid cb
  have CW := Lib.hid cw
  clear hcc cl cn cb cw
  go_enter_defers Tryd.func9, Tryd.ntmps9
  go_wp2_with fail
  refine calls_gen fun w1 hw1 => ?_
  have hf1 : w1.heap[w.heap.size]? = some (.cells #[.int .i64 0, .slice none 0 0] 24 (0, 0)) ∧ w1.heap[w.heap.size + 1]? = some (.cells #[.int .i64 0] 3 (0, 0)) ∧ w1.heap[w.heap.size + 1 + 1]? = some (.cells #[.int .i64 0] 27 (0, 0)) ∧ w1.heap[w.heap.size + 1 + 1 + 1]? = some (.cells #[.string s, .int .i64 (m : Int), .int .i64 0, .int .i64 0, .slice none 0 0] 57 (0, 0)) ∧ Below w.heap.size w w1 := by
    rw [hw1]
    have hb := below_one (((w.alloc (.cells #[.int .i64 0, .slice none 0 0] 24 (0, 0))).alloc (.cells #[.int .i64 0] 3 (0, 0))).alloc (.cells #[.int .i64 0] 27 (0, 0))) (.cells #[.string s, .int .i64 (m : Int), .int .i64 0, .int .i64 0, .slice none 0 0] 57 (0, 0))
    have hn := heap_alloc_new (((w.alloc (.cells #[.int .i64 0, .slice none 0 0] 24 (0, 0))).alloc (.cells #[.int .i64 0] 3 (0, 0))).alloc (.cells #[.int .i64 0] 27 (0, 0))) (.cells #[.string s, .int .i64 (m : Int), .int .i64 0, .int .i64 0, .slice none 0 0] 57 (0, 0))
    refine ⟨(behind_of_below hb).keep (HT.out 0).1 (by simp), (behind_of_below hb).keep (HT.out 0).2.1 (by simp), (behind_of_below hb).keep (HT.out 0).2.2 (by simp), by simpa using hn, (HTB.out 0).trans (hb.mono (HTB.out 0).size)⟩
  obtain ⟨y0, y1, y2, y3, hb1⟩ := hf1
  have Y0 := Lib.hid y0
  have Y1 := Lib.hid y1
  have Y2 := Lib.hid y2
  have HB1 := Lib.hid hb1
  have hlt3 := lt_of_heap y3
  have HS1 := Lib.hid (show St c [w.heap.size, w.heap.size + 1, w.heap.size + 1 + 1] w1 0 0 (.slice none 0 0) [] from ⟨by unfold Rd; rw [CB.out, CL.out, CN.out, ← HSE.out]; exact y3, GR.nil _ _ _ _, fun g hg => ⟨by simp at hg; omega, by rw [CB.out]; simp at hg; simp [rowBlk]; omega⟩, Pl.zero _, by rw [CW.out]; exact hb1, by have := HTL.out; rw [CL.out]; simp; omega⟩)
  have KF := gFormula c hc [w.heap.size, w.heap.size + 1, w.heap.size + 1 + 1] 0 (.slice none 0 0) [] w1 HS1.out
  rw [CB.out, CL.out, CN.out] at KF
  have HFT := Lib.hid (fun a b d (h : RI m .form (TS l 0) 0 [] = .ok a b d) => RI_fit (n := m) (L := 1048577) (by omega) HTL.out h)
  have HGS := Lib.hid (fun a b d (h : RI m .form (TS l 0) 0 [] = .ok a b d) => (RI_gs (by trivial) h).1)
  obtain ⟨R1, hR1⟩ : ∃ R1, R1 = RI m .form (TS l 0) 0 [] := ⟨_, rfl⟩
  rw [← hR1] at KF HPI HFT HGS
  clear hw1 y0 y1 y2 y3 hb1 hR1
  refine KF.mono ?_
  intro e w2 h2
  cases R1 with
  | err q en =>
    obtain ⟨rfl, hB⟩ := h2
    rw [CL.out]
    have hB2 : Behind w1 [w.heap.size + 1 + 1 + 1] w2 := by
      rw [CB.out] at hB
      exact hB.mono (by simp [rowBlk])
    have HQ := Lib.hid (show parseI l m = ([], posI l q, en) from HPI.out)
    refine parse_fails w.heap.size (w.heap.size + 1) (w.heap.size + 1 + 1) _ Post w2 (posI l q) en _ _ _ _ rfl rfl rfl (hB2.keep Y0.out (by simp <;> omega)) (hB2.keep Y1.out (by simp <;> omega)) (hB2.keep Y2.out (by simp)) (by omega) (by omega) (by omega) (fun x' hx' => ?_)
    rw [HP.out]
    exact ParseP.err HQ.out (HB1.out.trans (((hB2.mono (Wr' := [w.heap.size, w.heap.size + 1, w.heap.size + 1 + 1, w.heap.size + 1 + 1 + 1]) (by simp)).trans hx' (fun b hb => .inl (by simp at hb ⊢; omega))).below_of (fun k hk => by simp at hk; omega) HB1.out.size))
  | ok lst ts2 gs2 =>
    obtain ⟨k2, nx2, v2, rfl, rfl, rfl, hS2, hG2⟩ := h2
    have hfit := HFT.out _ _ _ rfl
    have hgs := HGS.out _ _ _ rfl
    simp [loopM, moreM] at hgs
    have hB2 : Behind w1 [w.heap.size + 1 + 1 + 1] w2 := by
      have := hG2.be
      rw [CB.out] at this
      exact this.mono (by simp [rowBlk])
    have hrd : Rd (w.heap.size + 1 + 1 + 1) l m nx2 0 v2 w2 := by
      have := hS2.rd
      rw [CB.out, CL.out, CN.out] at this
      exact this
    have hpl : Pl l nx2 := by
      have := hS2.pl
      rw [CL.out] at this
      exact this
    obtain ⟨p2, d2, hv2⟩ := hS2.gr.slice
    subst hv2
    have HCI := Lib.hid (fun (x : World) (U : List Nat) (hB : Behind w2 U x) (hU : ∀ g ∈ U, g ∈ [w.heap.size, w.heap.size + 1, w.heap.size + 1 + 1] ∨ w2.heap.size ≤ g) => hS2.circ hB hU)
    have HPQ := Lib.hid (show parseI l m = if (TS l nx2).headD (some []) ≠ some [] then ([], posI l (TS l nx2).length, 5) else if checkI m gs2 = 0 then (gs2, 0, 0) else ([], 0, 2) by
      have := HPI.out
      rw [CL.out] at this
      exact this)
    have hp2 := hpl.le
    have hl2 : l.length ≤ 1048576 := by omega
    have HPL := Lib.hid hpl
    have HRD := Lib.hid hrd
    have HB2 := Lib.hid hB2
    have HTLN := Lib.hid HTL.out
    have r0 := blk_cell hrd 2 rfl
    have r4 := blk_cell hrd 4 rfl
    have hpos := HPL.out.pos
    have HFIT := Lib.hid hfit
    have hgl : gs2.length ≤ 3145731 := by have := HTL.out; omega
    clear hG2 hS2 KF HPI HFT HGS hfit hgs hB2 hrd hpl
    rw [TS_head, hpos] at HPQ
    clear hpos
    cases ht : tokI (l.drop (nxtI l nx2)) with
    | none =>
      have KT := tok_dies hp2 hl2 ht w2
      have HQ := Lib.hid (show parseI l m = ([], nxtI l nx2, 5) by rw [HPQ.out, ht]; rfl)
      rw [← HSE.out] at KT
      clear ht HPQ
      go_wp2_with fail
      refine KT.mono ?_
      rintro e w3 ⟨rfl, hB3⟩
      have hB4 := HB2.out.trans ((behind_of_below hB3).mono (Wr' := [w.heap.size + 1 + 1 + 1]) (by simp)) (fun b hb => .inl hb)
      refine parse_fails w.heap.size (w.heap.size + 1) (w.heap.size + 1 + 1) _ Post w3 (nxtI l nx2) 5 _ _ _ _ rfl rfl rfl (hB4.keep Y0.out (by simp <;> omega)) (hB4.keep Y1.out (by simp <;> omega)) (hB4.keep Y2.out (by simp)) (by omega) (by omega) (by omega) (fun x' hx' => ?_)
      rw [HP.out]
      exact ParseP.err HQ.out (HB1.out.trans (((hB4.mono (Wr' := [w.heap.size, w.heap.size + 1, w.heap.size + 1 + 1, w.heap.size + 1 + 1 + 1]) (by simp)).trans hx' (fun b hb => .inl (by simp at hb ⊢; omega))).below_of (fun k hk => by simp at hk; omega) HB1.out.size))
    | some t =>
      have KT := tok_gives hp2 hl2 ht w2
      rw [← HSE.out] at KT
      by_cases hte : t = []
      · subst hte
        have HQ0 := Lib.hid (show parseI l m = if checkI m gs2 = 0 then (gs2, 0, 0) else ([], 0, 2) by rw [HPQ.out, ht]; rfl)
        clear ht HPQ
        go_wp2_with fail
        refine KT.mono ?_
        rintro e w3 ⟨rfl, hB3⟩
        have hB4 := HB2.out.trans ((behind_of_below hB3).mono (Wr' := [w.heap.size + 1 + 1 + 1]) (by simp)) (fun b hb => .inl hb)
        have HB4 := Lib.hid hB4
        have Z0 := Lib.hid (hB4.keep Y0.out (by simp <;> omega))
        have Z1 := Lib.hid (hB4.keep Y1.out (by simp <;> omega))
        have Z2 := Lib.hid (hB4.keep Y2.out (by simp))
        have R3 := Lib.hid ((behind_of_below hB3).keep HRD.out (by simp))
        have q4 := blk_cell R3.out 4 rfl
        have z00 := blk_cell Z0.out 0 rfl
        have z01 := blk_cell Z0.out 1 rfl
        have zf0 := blk_free Z0.out 0
        have zf1 := blk_free Z0.out 1
        have hbs : Behind w3 [w.heap.size] ((w3.setCell ⟨w.heap.size, 0, none⟩ (.int .i64 (m : Int))).setCell ⟨w.heap.size, 1, none⟩ (.slice p2 gs2.length d2)) := (behind_set1 (b := w.heap.size) (o := 0)).trans (behind_set1 (b := w.heap.size) (o := 1)) (fun k hk => .inl hk)
        have HBS := Lib.hid hbs
        have HCJ := Lib.hid (show CircAt ((w3.setCell ⟨w.heap.size, 0, none⟩ (.int .i64 (m : Int))).setCell ⟨w.heap.size, 1, none⟩ (.slice p2 gs2.length d2)).heap.size ((w3.setCell ⟨w.heap.size, 0, none⟩ (.int .i64 (m : Int))).setCell ⟨w.heap.size, 1, none⟩ (.slice p2 gs2.length d2)) p2 gs2 from HCI.out _ [w.heap.size] (((behind_of_below hB3).mono (by simp)).trans hbs (fun k hk => .inl hk)) (by simp))
        have KC := gCheck (m : Int) gs2 p2 d2 _ HCJ.out (fun g hg => by have := HFIT.out g hg; omega) (by omega)
        have V0 := Lib.hid (heap_setCell_same _ w.heap.size 1 _ _ (.slice p2 gs2.length d2) (heap_setCell_same _ w.heap.size 0 _ _ (.int .i64 (m : Int)) Z0.out))
        have hB3' := hB3
        clear hB3 hB4 KT hbs
        have HB3 := Lib.hid hB3'
        clear hB3'
        go_wp2_with fail
        refine KC.mono ?_
        rintro e w5 ⟨rfl, hB5⟩
        have V5 := Lib.hid ((behind_of_below hB5).keep V0.out (by simp))
        have V51 := Lib.hid ((behind_of_below hB5).keep (HBS.out.keep Z1.out (by simp)) (by simp))
        have V52 := Lib.hid ((behind_of_below hB5).keep (HBS.out.keep Z2.out (by simp <;> omega)) (by simp))
        have HB5 := Lib.hid (show Behind w2 [w.heap.size] w5 from (((behind_of_below HB3.out).mono (by simp)).trans HBS.out (fun k hk => .inl hk)).trans ((behind_of_below hB5).mono (Wr' := [w.heap.size]) (by simp)) (fun k hk => .inl hk))
        have v50 := blk_cell V5.out 0 rfl
        have v51 := blk_cell V5.out 1 rfl
        have g50 := blk_free V5.out 0
        have g51 := blk_free V5.out 1
        have v510 := blk_cell V51.out 0 rfl
        have g510 := blk_free V51.out 0
        have v520 := blk_cell V52.out 0 rfl
        have g520 := blk_free V52.out 0
        clear hB5 KC q4 z00 z01 zf0 zf1 HBS HCJ
        by_cases hck : checkI m gs2 = 0
        · have HQ := Lib.hid (show parseI l m = (gs2, 0, 0) by rw [HQ0.out, if_pos hck])
          have HNE := Lib.hid (show gs2 ≠ [] from fun e => by rw [e] at hck; exact absurd hck (by unfold checkI; simp; omega))
          rw [hck]
          clear hck HQ0
          go_wp2_with fail
          obtain ⟨k1, k2, k3, kB⟩ := stored4 (A := .int .i64 (m : Int)) (B := .slice p2 gs2.length d2) (X := .int .i64 0) (Y := .int .i64 0) V5.out V51.out V52.out
          refine parse_ends w.heap.size (w.heap.size + 1) (w.heap.size + 1 + 1) _ Post _ _ _ _ _ rfl rfl rfl k1 k2 k3 ?_
          rw [HP.out]
          exact ParseP.good HQ.out HNE.out (HCI.out _ [w.heap.size, w.heap.size + 1, w.heap.size + 1 + 1] ((HB5.out.mono (by simp)).trans kB (fun k hk => .inl hk)) (fun k hk => .inl hk)) (HB1.out.trans (((HB2.out.mono (Wr' := [w.heap.size, w.heap.size + 1, w.heap.size + 1 + 1, w.heap.size + 1 + 1 + 1]) (by simp)).trans ((HB5.out.mono (by simp)).trans kB (fun k hk => .inl hk)) (fun k hk => .inl (by simp at hk ⊢; omega))).below_of (fun k hk => by simp at hk; omega) HB1.out.size))
        · have HQ := Lib.hid (show parseI l m = ([], 0, 2) by rw [HQ0.out, if_neg hck])
          obtain ⟨ck, hcke⟩ : ∃ ck, ck = checkI m gs2 := ⟨_, rfl⟩
          rw [← hcke] at hck ⊢
          have hcb : (ck != 0) = true := by simp [bne, beq_no hck]
          clear hcke HQ0
          go_wp2_with fail
          obtain ⟨k1, k2, k3, kB⟩ := stored4 (A := .int .i64 0) (B := .slice none 0 0) (X := .int .i64 0) (Y := .int .i64 2) V5.out V51.out V52.out
          refine parse_ends w.heap.size (w.heap.size + 1) (w.heap.size + 1 + 1) _ Post _ _ _ _ _ rfl rfl rfl k1 k2 k3 ?_
          rw [HP.out]
          exact ParseP.err (q := 0) HQ.out (HB1.out.trans (((HB2.out.mono (Wr' := [w.heap.size, w.heap.size + 1, w.heap.size + 1 + 1, w.heap.size + 1 + 1 + 1]) (by simp)).trans ((HB5.out.mono (Wr' := [w.heap.size, w.heap.size + 1, w.heap.size + 1 + 1]) (by simp)).trans kB (fun k hk => .inl hk)) (fun k hk => .inl (by simp at hk ⊢; omega))).below_of (fun k hk => by simp at hk; omega) HB1.out.size))
      · have HQ := Lib.hid (show parseI l m = ([], nxtI l nx2, 5) by rw [HPQ.out, ht, if_pos (fun e => hte (by simpa using e))])
        have hn1 : ((⟨t.toArray⟩ : ByteArray).toList == []) = false := by rw [ba_list]; exact beq_eq_false_iff_ne.2 hte
        obtain ⟨t1, ht1⟩ : ∃ t1 : ByteArray, t1 = ⟨t.toArray⟩ := ⟨_, rfl⟩
        rw [← ht1] at KT hn1
        have KF := Lib.hid (fun x (hR : Rd (w.heap.size + 1 + 1 + 1) l m nx2 0 (.slice p2 gs2.length d2) x) => gFail (w.heap.size + 1 + 1 + 1) l m nx2 0 (.slice p2 gs2.length d2) x hR hp2 hl2)
        clear ht HPQ hte ht1
        go_wp2_with fail
        refine KT.mono ?_
        rintro e w3 ⟨rfl, hB3⟩
        have hB4 := HB2.out.trans ((behind_of_below hB3).mono (Wr' := [w.heap.size + 1 + 1 + 1]) (by simp)) (fun b hb => .inl hb)
        have KF3 := KF.out w3 ((behind_of_below hB3).keep HRD.out (by simp))
        have HB4 := Lib.hid hB4
        clear hB3 hB4 KT
        go_wp2_with fail
        refine KF3.mono ?_
        rintro e w5 ⟨rfl, hB5⟩
        have hB6 := HB4.out.trans ((behind_of_below hB5).mono (Wr' := [w.heap.size + 1 + 1 + 1]) (by simp)) (fun b hb => .inl hb)
        refine parse_fails w.heap.size (w.heap.size + 1) (w.heap.size + 1 + 1) _ Post w5 (nxtI l nx2) 5 _ _ _ _ rfl rfl rfl (hB6.keep Y0.out (by simp <;> omega)) (hB6.keep Y1.out (by simp <;> omega)) (hB6.keep Y2.out (by simp)) (by omega) (by omega) (by omega) (fun x' hx' => ?_)
        rw [HP.out]
        exact ParseP.err HQ.out (HB1.out.trans (((hB6.mono (Wr' := [w.heap.size, w.heap.size + 1, w.heap.size + 1 + 1, w.heap.size + 1 + 1 + 1]) (by simp)).trans hx' (fun b hb => .inl (by simp at hb ⊢; omega))).below_of (fun k hk => by simp at hk; omega) HB1.out.size))
end Go.Proofs.YtmaiofimmjedjaaDoor

/- Equal circuits are equal. -/
namespace Go.Proofs.YtmaiofimmjedjaaDoor
open Go.RowKit

set_option maxHeartbeats 3200000 in
set_option maxRecDepth 100000 in
theorem xSame3 (t : List Int) (a b : Option Addr) (c d : Nat) (w : World) (hA : AtN w.heap.size w a (ints t)) (hB : AtN w.heap.size w b (ints t)) (hl : t.length ≤ 140737488355328) :
    Calls Tryd.prog 55 #[.slice a t.length c, .slice b t.length d] w fun e w' => e = .returned (.bool true) ∧ Below w.heap.size w w' := by
  have HA := Lib.hid hA
  have HB := Lib.hid hB
  clear hA hB
  have hne : (t.length != t.length) = false := by simp
  have hne2 : ((t.length : Int) != (t.length : Int)) = false := by simp
  go_enter Tryd.func55, Tryd.ntmps55
  go_wp2_with fail
  go_loopw [5] (fun t5 wr => ∃ j : Nat, j ≤ t.length ∧ t5 = .int .i64 j ∧ Hid (Behind w [] wr)) (fun t5 _ => t.length - (intOf t5).toNat)
  case atStart => exact ⟨0, Nat.zero_le _, rfl, Behind.refl _ _⟩
  case round =>
    obtain ⟨j, hj, rfl, HX⟩ := hrel
    by_cases hlt : j < t.length
    · have hdd : decide ((j : Int) < (t.length : Int)) = true := decide_eq_true (by omega)
      have hdd2 : decide (j < t.length) = true := decide_eq_true hlt
      obtain ⟨x, hx⟩ : ∃ x, t[j]? = some x := ⟨_, List.getElem?_eq_getElem hlt⟩
      obtain ⟨b1, o1, hb1, ea, hc1⟩ := HA.out j _ (ints_get _ _ _ hx)
      obtain ⟨b2, o2, hb2, eb, hc2⟩ := HB.out j _ (ints_get _ _ _ hx)
      have C1 := Lib.hid (behind_cellX HX.out hc1 (by simp))
      have C2 := Lib.hid (behind_cellX HX.out hc2 (by simp))
      have hxx : (x != x) = false := by simp
      clear hc1 hc2 hx
      subst ea
      subst eb
      go_wp2_with fail
      refine wp_game (List.replicate 9 0) [] B0 fin_B0 (has_B0 _) (by kernel_rfl) (by kernel_rfl) ?_
      refine lex_quietE 9 (by kernel_rfl) (by rfl) ?_
      apply Exists.intro
      refine ⟨fun z hz => ?_, ?_⟩
      · have g1 := behind_cellXp hz C1.out (by simp)
        have g2 := behind_cellXp hz C2.out (by simp)
        clear hz
        simp only [List.take_succ_cons, List.take_zero]
        unfold Cx
        repeat (go_big_quiet_step (fail))
        exact wpQuiet_nil rfl
      simp only [List.drop_succ_cons, List.drop_zero]
      refine lex_nil ?_
      intro x2 hx2 _
      have HX2 := Lib.hid (HX.out.trans hx2 (by simp))
      clear hx2
      go_wp2_with fail
      go_roundw
      case rel => exact ⟨j + 1, by omega, by go_num, HX2.out⟩
      case measure => simp [intOf]; omega
    · obtain rfl : j = t.length := by omega
      have hdd : decide ((t.length : Int) < (t.length : Int)) = false := by simp
      go_wp2_with fail
      go_ret
      exact ⟨rfl, HX.out.below⟩

set_option maxHeartbeats 3200000 in
set_option maxRecDepth 100000 in
theorem xEqual (k l : Int) (t : List Int) (p q : Option Addr) (c d : Nat) (w : World) (hA : AtN w.heap.size w p (ints t)) (hB : AtN w.heap.size w q (ints t)) (hl : t.length ≤ 140737488355328) :
    Calls Tryd.prog 30 #[.agg #[.int .i64 k, .int .i64 l, .slice p t.length c], .agg #[.int .i64 k, .int .i64 l, .slice q t.length d]] w fun e w' => e = .returned (.bool true) ∧ Below w.heap.size w w' := by
  have hbb : Below w.heap.size w ((w.alloc (.cells #[.int .i64 k, .int .i64 l, .slice p t.length c] 37 (0, 0))).alloc (.cells #[.int .i64 k, .int .i64 l, .slice q t.length d] 37 (0, 0))) := (below_one w _).trans ((below_one _ _).mono (by simp))
  have KS := xSame3 t p q c d ((w.alloc (.cells #[.int .i64 k, .int .i64 l, .slice p t.length c] 37 (0, 0))).alloc (.cells #[.int .i64 k, .int .i64 l, .slice q t.length d] 37 (0, 0))) ((hA.below hbb (Nat.le_refl _)).mono hbb.size) ((hB.below hbb (Nat.le_refl _)).mono hbb.size) hl
  have HBB := Lib.hid hbb
  have h1 : (k == k) = true := by simp
  have h2 : (l == l) = true := by simp
  clear hA hB hbb
  go_enter Tryd.func30, Tryd.ntmps30
  go_wp2_with fail
  refine KS.mono ?_
  rintro e w2 ⟨rfl, hB2⟩
  have HB2 := Lib.hid (HBB.out.trans (hB2.mono HBB.out.size))
  clear hB2 KS
  go_wp2_with fail
  go_ret
  exact ⟨rfl, HB2.out⟩

set_option maxHeartbeats 6400000 in
set_option maxRecDepth 100000 in
theorem xSame7 (n : Int) (gs : List Gt) (a b : Option Addr) (c d : Nat) (w : World) (hA : CircAt w.heap.size w a gs) (hB : CircAt w.heap.size w b gs) (hf : Fits gs) (hl : gs.length ≤ 140737488355328) :
    Calls Tryd.prog 12 #[.agg #[.int .i64 n, .slice a gs.length c], .agg #[.int .i64 n, .slice b gs.length d]] w fun e w' => e = .returned (.bool true) ∧ Below w.heap.size w w' := by
  have HA := Lib.hid hA
  have HB := Lib.hid hB
  have HF := Lib.hid hf
  clear hA hB hf
  have hne : (gs.length != gs.length) = false := by simp
  have hne2 : ((gs.length : Int) != (gs.length : Int)) = false := by simp
  have hnn : (n != n) = false := by simp
  have hbb : Below w.heap.size w ((w.alloc (.cells #[.int .i64 n, .slice a gs.length c] 24 (0, 0))).alloc (.cells #[.int .i64 n, .slice b gs.length d] 24 (0, 0))) := (below_one w _).trans ((below_one _ _).mono (by simp))
  have y1 := (behind_of_below (below_one (w.alloc (.cells #[.int .i64 n, .slice a gs.length c] 24 (0, 0))) (.cells #[.int .i64 n, .slice b gs.length d] 24 (0, 0)))).keep (heap_alloc_new w _) (by simp)
  have y2 := heap_alloc_new (w.alloc (.cells #[.int .i64 n, .slice a gs.length c] 24 (0, 0))) (.cells #[.int .i64 n, .slice b gs.length d] 24 (0, 0))
  rw [show (w.alloc (.cells #[.int .i64 n, .slice a gs.length c] 24 (0, 0))).heap.size = w.heap.size + 1 by simp] at y2
  have HBB := Lib.hid hbb
  have Y1 := Lib.hid y1
  have Y2 := Lib.hid y2
  clear hbb y1 y2
  go_enter Tryd.func12, Tryd.ntmps12
  go_wp2_with fail
  go_loopw [5] (fun t5 wr => ∃ j : Nat, j ≤ gs.length ∧ t5 = .int .i64 j ∧ Hid (Below w.heap.size w wr) ∧ Hid (wr.heap[w.heap.size]? = some (.cells #[.int .i64 n, .slice a gs.length c] 24 (0, 0))) ∧ Hid (wr.heap[w.heap.size + 1]? = some (.cells #[.int .i64 n, .slice b gs.length d] 24 (0, 0)))) (fun t5 _ => gs.length - (intOf t5).toNat)
  case atStart => exact ⟨0, Nat.zero_le _, rfl, HBB.out, Y1.out, Y2.out⟩
  case round =>
    obtain ⟨j, hj, rfl, HX, H1, H2⟩ := hrel
    have c11 := blk_cell H1.out 1 rfl
    by_cases hlt : j < gs.length
    · have hdd : decide ((j : Int) < (gs.length : Int)) = true := decide_eq_true (by omega)
      have hdd2 : decide (j < gs.length) = true := decide_eq_true hlt
      obtain ⟨g, hg⟩ : ∃ g, gs[j]? = some g := ⟨_, List.getElem?_eq_getElem hlt⟩
      obtain ⟨b1, o1, p1, e1, hb1, ea, ka0, ka1, ka2, hi1⟩ := (HA.out.below HX.out (Nat.le_refl _)) j g hg
      obtain ⟨b2, o2, p2, e2, hb2, eb, kb0, kb1, kb2, hi2⟩ := (HB.out.below HX.out (Nat.le_refl _)) j g hg
      have hfi := HF.out g (List.mem_of_getElem? hg)
      obtain ⟨k, l, t⟩ := g
      simp only at ka0 ka1 ka2 kb0 kb1 kb2 hi1 hi2 hfi
      have KE := Lib.hid (fun (x : World) (hx : Below wr.heap.size wr x) => xEqual k l t p1 p2 e1 e2 x ((hi1.below hx HX.out.size).mono (Nat.le_trans HX.out.size hx.size)) ((hi2.below hx HX.out.size).mono (Nat.le_trans HX.out.size hx.size)) hfi)
      have KG := Lib.hid (show GivesFrom wr 30 #[.agg #[.int .i64 k, .int .i64 l, .slice p1 t.length e1], .agg #[.int .i64 k, .int .i64 l, .slice p2 t.length e2]] (.bool true) from fun x hx => KE.out x hx)
      have KA0 := Lib.hid ka0
      have KA1 := Lib.hid ka1
      have KA2 := Lib.hid ka2
      have KB0 := Lib.hid kb0
      have KB1 := Lib.hid kb1
      have KB2 := Lib.hid kb2
      have C11 := Lib.hid (blk_cell H1.out 1 rfl)
      have C21 := Lib.hid (blk_cell H2.out 1 rfl)
      clear hi1 hi2 hg ka0 ka1 ka2 kb0 kb1 kb2
      subst ea
      subst eb
      go_wp2_with fail
      refine wp_game (List.replicate 12 0) [] B0 fin_B0 (has_B0 _) (by kernel_rfl) (by kernel_rfl) ?_
      refine lex_quietE 12 (by kernel_rfl) (by rfl) ?_
      apply Exists.intro
      refine ⟨fun z hz => ?_, ?_⟩
      · have g1 := behind_cellXp hz C11.out (by simp)
        have g2 := behind_cellXp hz C21.out (by simp)
        have g3 := behind_cellXp hz KA0.out (by simp)
        have g4 := behind_cellXp hz KA1.out (by simp)
        have g5 := behind_cellXp hz KA2.out (by simp)
        have g6 := behind_cellXp hz KB0.out (by simp)
        have g7 := behind_cellXp hz KB1.out (by simp)
        have g8 := behind_cellXp hz KB2.out (by simp)
        have hzb := hz.below
        clear hz
        simp only [List.take_succ_cons, List.take_zero]
        unfold Cx
        repeat (go_big_quiet_step (with_reducible exact GivesFrom.at2 KG.out hzb _))
        exact wpQuiet_nil rfl
      simp only [List.drop_succ_cons, List.drop_zero]
      refine lex_nil ?_
      intro x2 hx2 _
      have HX2 := Lib.hid (HX.out.trans (hx2.below.mono HX.out.size))
      have H12 := Lib.hid (hx2.keep H1.out (by simp))
      have H22 := Lib.hid (hx2.keep H2.out (by simp))
      clear hx2
      go_wp2_with fail
      go_roundw
      case rel => exact ⟨j + 1, by omega, by go_num, HX2.out, H12.out, H22.out⟩
      case measure => simp [intOf]; omega
    · obtain rfl : j = gs.length := by omega
      have hdd : decide ((gs.length : Int) < (gs.length : Int)) = false := by simp
      go_wp2_with fail
      go_ret
      exact ⟨rfl, HX.out⟩
end Go.Proofs.YtmaiofimmjedjaaDoor

/- The pieces of a formula, by whatever visitor: the closures. -/
namespace Go.Proofs.YtmaiofimmjedjaaDoor
open Go.RowKit

def Vd (J : List Pc → List Nat → World → Prop) (d : List Pc) (V : List Nat) (x : World) (e : Ending) (x' : World) : Prop := e = .returned (.tuple #[]) ∧ ∃ V', J d V' x' ∧ Behind x V x' ∧ ∀ g ∈ V', g ∈ V ∨ x.heap.size ≤ g
structure Vis (N : Nat) (vf : FuncId) (p1 p2 : Value) (L : List Pc) (J : List Pc → List Nat → World → Prop) : Prop where
  eg : ∀ args w, (callFunc vf args).run Tryd.prog w = .ok (.enter vf args) w
  later : ∀ d V x x', J d V x → Below x.heap.size x x' → J d V x'
  ge : ∀ d V x, J d V x → ∀ g ∈ V, N ≤ g
  vs : ∀ d t u rest V x, L = d ++ .s t u :: rest → J d V x → Calls Tryd.prog vf #[.string ⟨t.toArray⟩, .int .i64 (-1), p1, p2] x (Vd J (d ++ [.s t u]) V x)
  vg : ∀ d (k : Int) rest V x, L = d ++ .g k :: rest → J d V x → Calls Tryd.prog vf #[.string ⟨#[]⟩, .int .i64 k, p1, p2] x (Vd J (d ++ [.g k]) V x)
theorem Vd.trans {J : List Pc → List Nat → World → Prop} {d2 : List Pc} {V V1 : List Nat} {x x1 : World} {e : Ending} {x' : World} (hB : Behind x V x1) (hn : ∀ g ∈ V1, g ∈ V ∨ x.heap.size ≤ g) (h : Vd J d2 V1 x1 e x') : Vd J d2 V x e x' := by
  obtain ⟨rfl, V', h1, h2, h3⟩ := h
  exact ⟨rfl, V', h1, hB.trans h2 hn, fun g hg => (h3 g hg).elim (hn g) (fun e => .inr (Nat.le_trans hB.size e))⟩
def visV (vf : FuncId) (p1 p2 : Value) : Value := .func (.func vf) #[] #[p1, p2]

set_option maxHeartbeats 1600000 in
set_option maxRecDepth 100000 in
theorem gSay (vf : FuncId) (p1 p2 : Value) (eg : ∀ args w, (callFunc vf args).run Tryd.prog w = .ok (.enter vf args) w) (vb : Nat) (s : ByteArray) (x : World) (hv : x.heap[vb]? = some (.cells #[visV vf p1 p2] 41 (0, 0))) (R : Ending → World → Prop) (hR : ∀ e x', R e x' → e = .returned (.tuple #[])) (KV : Calls Tryd.prog vf #[.string s, .int .i64 (-1), p1, p2] x R) :
    Calls Tryd.prog 33 #[.string s, .pointer (some ⟨vb, 0, none⟩)] x R := by
  have c0 := blk_cell hv 0 rfl
  unfold visV at c0
  have HR := Lib.hid hR
  clear hv hR
  go_enter Tryd.func33, Tryd.ntmps33
  go_wp2_with fail
  refine KV.mono ?_
  intro e x' h
  have he := HR.out e x' h
  subst he
  go_wp2_with fail
  go_end0
  exact h

structure Own2 (vf : FuncId) (p1 p2 : Value) (vb sb : Nat) (V : List Nat) (x : World) : Prop where
  v : x.heap[vb]? = some (.cells #[visV vf p1 p2] 41 (0, 0))
  s : x.heap[sb]? = some (.cells #[.func (.func 33) #[] #[.pointer (some ⟨vb, 0, none⟩)]] 67 (0, 0))
  nv : vb ∉ V
  ns : sb ∉ V
theorem Own2.keep {vf : FuncId} {p1 p2 : Value} {vb sb : Nat} {V V' : List Nat} {x x' : World} (h : Own2 vf p1 p2 vb sb V x) (hB : Behind x V x') (hn : ∀ g ∈ V', g ∈ V ∨ x.heap.size ≤ g) : Own2 vf p1 p2 vb sb V' x' :=
  ⟨hB.keep h.v h.nv, hB.keep h.s h.ns, fun hm => (hn vb hm).elim h.nv (fun e => by have := lt_of_heap h.v; omega), fun hm => (hn sb hm).elim h.ns (fun e => by have := lt_of_heap h.s; omega)⟩
theorem Own2.below {vf : FuncId} {p1 p2 : Value} {vb sb : Nat} {V : List Nat} {x x' : World} (h : Own2 vf p1 p2 vb sb V x) (hB : Below x.heap.size x x') : Own2 vf p1 p2 vb sb V x' :=
  ⟨(behind_of_below hB).keep h.v (by simp), (behind_of_below hB).keep h.s (by simp), h.nv, h.ns⟩
theorem say_piece {N : Nat} {vf : FuncId} {p1 p2 : Value} {L : List Pc} {J : List Pc → List Nat → World → Prop} (hV : Vis N vf p1 p2 L J) {vb sb : Nat} {V : List Nat} {x : World} (ho : Own2 vf p1 p2 vb sb V x) (d : List Pc) (t : List UInt8) (u : List (List UInt8)) (rest : List Pc) (hL : L = d ++ .s t u :: rest) (hJ : J d V x) :
    Calls Tryd.prog 33 #[.string ⟨t.toArray⟩, .pointer (some ⟨vb, 0, none⟩)] x (Vd J (d ++ [.s t u]) V x) :=
  gSay vf p1 p2 hV.eg vb _ x ho.v _ (fun _ _ h => h.1) (hV.vs d t u rest V x hL hJ)

set_option maxHeartbeats 3200000 in
set_option maxRecDepth 100000 in
theorem gPut {N : Nat} {vf : FuncId} {p1 p2 : Value} {L : List Pc} {J : List Pc → List Nat → World → Prop} (hV : Vis N vf p1 p2 L J) {vb sb : Nat} {V : List Nat} {x : World} (ho : Own2 vf p1 p2 vb sb V x) (d : List Pc) (k : Int) (p : Bool) (rest : List Pc) (hL : L = d ++ (putI k p ++ rest)) (hJ : J d V x) :
    Calls Tryd.prog 34 #[.int .i64 k, .bool p, .pointer (some ⟨sb, 0, none⟩), .pointer (some ⟨vb, 0, none⟩)] x (Vd J (d ++ putI k p) V x) := by
  obtain ⟨Post, hPost⟩ : ∃ P : Ending → World → Prop, P = Vd J (d ++ putI k p) V x := ⟨_, rfl⟩
  rw [← hPost]
  have eg := hV.eg
  have HV := Lib.hid hV
  cases p with
  | false =>
    have hL2 : L = d ++ .g k :: rest := by rw [hL]; rfl
    have KG := hV.vg d k rest V x hL2 hJ
    have c0 := blk_cell ho.v 0 rfl
    unfold visV at c0
    have HP := Lib.hid (show Post = Vd J (d ++ [.g k]) V x from hPost)
    clear hPost hV ho hL hL2 hJ
    go_enter Tryd.func34, Tryd.ntmps34
    go_wp2_with fail
    refine KG.mono ?_
    intro e x1 h1
    have he := h1.1
    subst he
    have H1 := Lib.hid h1
    clear h1 KG
    go_wp2_with fail
    go_end0
    rw [HP.out]
    exact H1.out
  | true =>
    have hL2 : L = d ++ .s [40] [[40]] :: (.g k :: .s [41] [[41]] :: rest) := by rw [hL]; rfl
    have KS := say_piece hV ho d [40] [[40]] _ hL2 hJ
    have c0 := blk_cell ho.s 0 rfl
    have HP := Lib.hid (show Post = Vd J (((d ++ [.s [40] [[40]]]) ++ [.g k]) ++ [.s [41] [[41]]]) V x by rw [hPost]; simp [putI])
    have HL2 := Lib.hid hL2
    have HO := Lib.hid ho
    clear hPost hV ho hL hL2 hJ
    go_enter Tryd.func34, Tryd.ntmps34
    go_wp2_with fail
    refine KS.mono ?_
    rintro e x1 ⟨rfl, V1, hJ1, hB1, hn1⟩
    have HO1 := Lib.hid (HO.out.keep hB1 hn1)
    have KG := HV.out.vg _ k (.s [41] [[41]] :: rest) V1 x1 (by rw [HL2.out]; simp) hJ1
    have HB1 := Lib.hid hB1
    have HN1 := Lib.hid hn1
    have c1 := blk_cell HO1.out.v 0 rfl
    unfold visV at c1
    clear hJ1 hB1 hn1 KS c0
    go_wp2_with fail
    refine KG.mono ?_
    rintro e x2 ⟨rfl, V2, hJ2, hB2, hn2⟩
    have HO2 := Lib.hid (HO1.out.keep hB2 hn2)
    have HB2 := Lib.hid (HB1.out.trans hB2 HN1.out)
    have HN2 := Lib.hid (fun g hg => (hn2 g hg).elim (HN1.out g) (fun e => Or.inr (Nat.le_trans HB1.out.size e)))
    have KS2 := say_piece HV.out HO2.out _ [41] [[41]] rest (by rw [HL2.out]; simp) hJ2
    have c2 := blk_cell HO2.out.s 0 rfl
    clear hJ2 hB2 hn2 KG c1
    go_wp2_with fail
    refine KS2.mono ?_
    intro e x3 h3
    have he := h3.1
    subst he
    have H3 := Lib.hid h3
    clear h3 KS2
    go_wp2_with fail
    go_end0
    rw [HP.out]
    exact Vd.trans HB2.out HN2.out H3.out
end Go.Proofs.YtmaiofimmjedjaaDoor
