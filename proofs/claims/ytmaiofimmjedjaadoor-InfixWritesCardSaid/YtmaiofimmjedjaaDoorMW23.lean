/- Texts of this claim, joined: HF. -/
import Derived.Test.YtmaiofimmjedjaaDoorMW22

/- The pieces of a formula: operands one behind the other. -/
namespace Go.Proofs.YtmaiofimmjedjaaDoor
open Go.RowKit

theorem between_split (gs : List Gt) (sep : List UInt8) (u : List (List UInt8)) (own : Nat) (l : List Int) : ∀ (m i : Nat), i + m ≤ l.length → ∃ r, betweenI gs sep u own (l.take (i + m)) = betweenI gs sep u own (l.take i) ++ r
  | 0, i, _ => ⟨[], by simp⟩
  | m + 1, i, h => by
    obtain ⟨r, hr⟩ := between_split gs sep u own l m i (by omega)
    have hx : l[i + m]? = some l[i + m] := List.getElem?_eq_getElem (by omega)
    rw [show i + (m + 1) = i + m + 1 by omega, between_take gs sep u own hx, hr]
    exact ⟨_, by rw [List.append_assoc]⟩
theorem between_rest (gs : List Gt) (sep : List UInt8) (u : List (List UInt8)) (own : Nat) (l : List Int) (i : Nat) (k : Int) (h : l[i]? = some k) : ∃ r, betweenI gs sep u own l = betweenI gs sep u own (l.take i) ++ ((if i = 0 then [] else [.s sep u]) ++ (opI gs own k ++ r)) := by
  have hi := (List.getElem?_eq_some_iff.1 h).1
  obtain ⟨r, hr⟩ := between_split gs sep u own l (l.length - (i + 1)) (i + 1) (by omega)
  rw [show i + 1 + (l.length - (i + 1)) = l.length by omega, List.take_length, between_take gs sep u own h] at hr
  exact ⟨r, by rw [hr]; simp⟩
theorem gI_at {gs : List Gt} {k : Int} (h0 : 0 ≤ k) (h1 : k < gs.length) : gs[k.toNat]? = some (gI gs k) := by
  unfold gI
  rw [List.getD_eq_getElem?_getD, List.getElem?_eq_getElem (by omega)]
  rfl
structure Own5 (vf : FuncId) (p1 p2 : Value) (n : Int) (gs : List Gt) (a : Option Addr) (ca : Nat) (g : Gt) (ip : Option Addr) (ic : Nat) (vb sb pb gb cb : Nat) (V : List Nat) (x : World) : Prop where
  o2 : Own2 vf p1 p2 vb sb V x
  p : x.heap[pb]? = some (.cells #[.func (.func 34) #[] #[.pointer (some ⟨sb, 0, none⟩), .pointer (some ⟨vb, 0, none⟩)]] 68 (0, 0))
  g : x.heap[gb]? = some (.cells #[.int .i64 g.k, .int .i64 g.lit, .slice ip g.ins.length ic] 37 (0, 0))
  c : x.heap[cb]? = some (.cells #[.int .i64 n, .slice a gs.length ca] 24 (0, 0))
  np : pb ∉ V
  ng : gb ∉ V
  nc : cb ∉ V
theorem Own5.keep {vf : FuncId} {p1 p2 : Value} {n : Int} {gs : List Gt} {a : Option Addr} {ca : Nat} {g : Gt} {ip : Option Addr} {ic vb sb pb gb cb : Nat} {V V' : List Nat} {x x' : World} (h : Own5 vf p1 p2 n gs a ca g ip ic vb sb pb gb cb V x) (hB : Behind x V x') (hn : ∀ g ∈ V', g ∈ V ∨ x.heap.size ≤ g) : Own5 vf p1 p2 n gs a ca g ip ic vb sb pb gb cb V' x' :=
  ⟨h.o2.keep hB hn, hB.keep h.p h.np, hB.keep h.g h.ng, hB.keep h.c h.nc, fun hm => (hn _ hm).elim h.np (fun e => by have := lt_of_heap h.p; omega), fun hm => (hn _ hm).elim h.ng (fun e => by have := lt_of_heap h.g; omega), fun hm => (hn _ hm).elim h.nc (fun e => by have := lt_of_heap h.c; omega)⟩
theorem Own5.below {vf : FuncId} {p1 p2 : Value} {n : Int} {gs : List Gt} {a : Option Addr} {ca : Nat} {g : Gt} {ip : Option Addr} {ic vb sb pb gb cb : Nat} {V : List Nat} {x x' : World} (h : Own5 vf p1 p2 n gs a ca g ip ic vb sb pb gb cb V x) (hB : Below x.heap.size x x') : Own5 vf p1 p2 n gs a ca g ip ic vb sb pb gb cb V x' :=
  ⟨h.o2.below hB, (behind_of_below hB).keep h.p (by simp), (behind_of_below hB).keep h.g (by simp), (behind_of_below hB).keep h.c (by simp), h.np, h.ng, h.nc⟩

set_option maxHeartbeats 6400000 in
set_option maxRecDepth 100000 in
theorem gBetween {N : Nat} {vf : FuncId} {p1 p2 : Value} {L : List Pc} {J : List Pc → List Nat → World → Prop} (hV : Vis N vf p1 p2 L J) {n : Int} {gs : List Gt} {a : Option Addr} {ca : Nat} {g : Gt} {ip : Option Addr} {ic vb sb pb gb cb : Nat} {V : List Nat} {x : World} (ho : Own5 vf p1 p2 n gs a ca g ip ic vb sb pb gb cb V x) (d : List Pc) (sep : List UInt8) (u : List (List UInt8)) (own : Nat) (hown : own ≤ 7) (rest : List Pc) (hL : L = d ++ (betweenI gs sep u own g.ins ++ rest)) (hJ : J d V x)
    (hN : N ≤ x.heap.size) (hC : CircAt N x a gs) (hI : AtN N x ip (ints g.ins)) (hins : ∀ k ∈ g.ins, 0 ≤ k ∧ k < gs.length) (hgl : gs.length ≤ 4096) (hil : g.ins.length ≤ 65536) :
    Calls Tryd.prog 35 #[.string ⟨sep.toArray⟩, .int .i64 (own : Nat), .pointer (some ⟨gb, 0, none⟩), .pointer (some ⟨sb, 0, none⟩), .pointer (some ⟨pb, 0, none⟩), .pointer (some ⟨cb, 0, none⟩)] x (Vd J (d ++ betweenI gs sep u own g.ins) V x) := by
  obtain ⟨Post, hPost⟩ : ∃ P : Ending → World → Prop, P = Vd J (d ++ betweenI gs sep u own g.ins) V x := ⟨_, rfl⟩
  rw [← hPost]
  have HP := Lib.hid hPost
  have HV := Lib.hid hV
  have HO := Lib.hid ho
  have HJ := Lib.hid hJ
  have HL := Lib.hid hL
  have HC := Lib.hid hC
  have HI := Lib.hid hI
  have HIN := Lib.hid hins
  have g2 := blk_cell ho.g 2 rfl
  have HTK := Lib.hid (fun (i : Nat) (k : Int) (h : g.ins[i]? = some k) => between_take gs sep u own h)
  have HRS := Lib.hid (fun (i : Nat) (k : Int) (h : g.ins[i]? = some k) => between_rest gs sep u own g.ins i k h)
  obtain ⟨s, hs⟩ : ∃ s : ByteArray, s = ⟨sep.toArray⟩ := ⟨_, rfl⟩
  rw [← hs]
  have HS := Lib.hid hs
  clear hPost hV ho hJ hL hC hI hins hs
  go_enter Tryd.func35, Tryd.ntmps35
  go_wp2_with fail
  go_loopw [13] (fun t13 wr => ∃ (i : Nat) (V' : List Nat), i ≤ g.ins.length ∧ t13 = .int .i64 i ∧ Hid (J (d ++ betweenI gs sep u own (g.ins.take i)) V' wr) ∧ Hid (Own5 vf p1 p2 n gs a ca g ip ic vb sb pb gb cb V' wr) ∧ Hid (Behind x V wr) ∧ Hid (∀ g ∈ V', g ∈ V ∨ x.heap.size ≤ g)) (fun t13 _ => g.ins.length - (intOf t13).toNat)
  case atStart => exact ⟨0, V, Nat.zero_le _, rfl, Lib.hid (by simpa [betweenI] using HJ.out), HO.out, Behind.refl _ _, fun g hg => .inl hg⟩
  case round =>
    obtain ⟨i, V', hi, rfl, HJ', HO', HB', HN'⟩ := hrel
    by_cases hlt : i < g.ins.length
    · have hdd : decide ((i : Int) < (g.ins.length : Int)) = true := decide_eq_true (by omega)
      have hdd2 : decide (i < g.ins.length) = true := decide_eq_true hlt
      obtain ⟨k, hk⟩ : ∃ k, g.ins[i]? = some k := ⟨_, List.getElem?_eq_getElem hlt⟩
      obtain ⟨hk0, hk1⟩ := HIN.out k (List.mem_of_getElem? hk)
      obtain ⟨r, hr⟩ := HRS.out i k hk
      have htk := HTK.out i k hk
      have hgk := gI_at hk0 hk1
      obtain ⟨kn, hkn⟩ : ∃ kn : Nat, k = kn := ⟨k.toNat, by omega⟩
      subst hkn
      rw [Int.toNat_natCast] at hgk
      have HGK := Lib.hid hgk
      clear HTK
      by_cases hi0 : i = 0
      · have hd0 : decide ((0 : Int) < (i : Int)) = false := decide_eq_false (by omega)
        have hd01 : decide (0 < i) = false := decide_eq_false (by omega)
        rw [if_pos hi0, List.nil_append] at hr htk
        have HR := Lib.hid hr
        have HTK := Lib.hid htk
        have HI0 := Lib.hid hi0
        clear hr htk hgk hi0
        have hbn : Below N x wr := HB'.out.below_of (fun g hg => HV.out.ge _ _ _ HJ.out g hg) hN
        obtain ⟨b1, o1, hb1, ea, hc1⟩ := (HI.out.below hbn (Nat.le_refl _)) i _ (ints_get _ _ _ hk)
        obtain ⟨b2, o2, q2, e2, hb2, eb, ka0, ka1, ka2, _⟩ := (HC.out.below hbn (Nat.le_refl _)) kn _ HGK.out
        obtain ⟨lv, hlv⟩ : ∃ lv, lv = levelI (gI gs (kn : Int)) := ⟨_, rfl⟩
        have KLV := Lib.hid (show Gives 36 #[.agg #[.int .i64 (gI gs (kn : Int)).k, .int .i64 (gI gs (kn : Int)).lit, .slice q2 (gI gs (kn : Int)).ins.length e2]] (.int .i64 (lv : Nat)) from fun z => by rw [hlv]; exact gLevel _ q2 e2 z)
        obtain ⟨bb, hbb⟩ : ∃ bb, bb = decide (lv ≤ own) := ⟨_, rfl⟩
        have hbb1 : decide ((lv : Int) ≤ (own : Int)) = bb := by rw [hbb]; by_cases h : lv ≤ own <;> simp [h]
        have hbb2 : decide (lv ≤ own) = bb := hbb.symm
        have KPUT := Lib.hid (fun (z : World) (hz : Behind wr [] z) => gPut HV.out (HO'.out.below hz.below).o2 (d ++ betweenI gs sep u own (g.ins.take i)) (kn : Int) bb (r ++ rest) (by rw [HL.out, HR.out, hbb, hlv]; simp [opI]) (HV.out.later _ _ _ _ HJ'.out hz.below))
        have HOP := Lib.hid (show putI (kn : Int) bb = opI gs own (kn : Int) by rw [hbb, hlv]; rfl)
        have KA0 := Lib.hid ka0
        have KA1 := Lib.hid ka1
        have KA2 := Lib.hid ka2
        have P0 := Lib.hid (blk_cell HO'.out.p 0 rfl)
        have C1 := Lib.hid (blk_cell HO'.out.c 1 rfl)
        have hke := blk_cell HO'.out.p 0 rfl
        clear hbb hlv ka0 ka1 ka2 hke
        subst ea
        subst eb
        go_wp2_with fail
        refine wp_game_tail 10 (List.replicate 11 0) [] B0 fin_B0 (has_B0 _) (by kernel_rfl) (by kernel_rfl) ?_
        simp only [List.take_succ_cons, List.take_zero]
        refine lex_quietE 10 (by kernel_rfl) (by rfl) ?_
        apply Exists.intro
        refine ⟨fun z hz => ?_, ?_⟩
        · have g1 := behind_cellXp hz P0.out (by simp)
          have g2 := behind_cellXp hz C1.out (by simp)
          have g3 := behind_cellXp hz KA0.out (by simp)
          have g4 := behind_cellXp hz KA1.out (by simp)
          have g5 := behind_cellXp hz KA2.out (by simp)
          clear hz
          simp only [List.take_succ_cons, List.take_zero]
          unfold Cx
          repeat (go_big_quiet_step (with_reducible exact KLV.out.at _ _))
          exact wpQuiet_nil rfl
        simp only [List.drop_succ_cons, List.drop_zero]
        refine lex_nil ?_
        intro z hz _
        have KP := KPUT.out z hz
        have HZ := Lib.hid hz
        clear hz
        go_wp2_with fail
        refine KP.mono ?_
        rintro e y ⟨rfl, V3, hJ3, hB3, hn3⟩
        have HJ3 := Lib.hid hJ3
        have HO3 := Lib.hid ((HO'.out.below HZ.out.below).keep hB3 hn3)
        have HB3 := Lib.hid ((HB'.out.trans HZ.out (fun b hb => by simp at hb)).trans hB3 HN'.out)
        have HN3 := Lib.hid (fun g hg => (hn3 g hg).elim (HN'.out g) (fun e => Or.inr (Nat.le_trans (HB'.out.trans HZ.out (fun b hb => by simp at hb)).size e)))
        clear hJ3 hB3 hn3 KP
        go_wp2_with fail
        go_roundw
        case rel => exact ⟨i + 1, V3, by omega, by go_num, Lib.hid (by rw [HTK.out]; have := HJ3.out; rw [HOP.out] at this; simpa using this), HO3.out, HB3.out, HN3.out⟩
        case measure => simp [intOf]; omega
      · have hd0 : decide ((0 : Int) < (i : Int)) = true := decide_eq_true (by omega)
        have hd01 : decide (0 < i) = true := decide_eq_true (by omega)
        rw [if_neg hi0] at hr htk
        have HR := Lib.hid hr
        have HTK := Lib.hid htk
        have KSAY := say_piece HV.out HO'.out.o2 (d ++ betweenI gs sep u own (g.ins.take i)) sep u (opI gs own (kn : Int) ++ (r ++ rest)) (by rw [HL.out, hr]; simp) HJ'.out
        rw [← HS.out] at KSAY
        have s0 := blk_cell HO'.out.o2.s 0 rfl
        have hcell := (HI.out.below (HB'.out.below_of (fun g hg => HV.out.ge _ _ _ HJ.out g hg) hN) (Nat.le_refl _)) i _ (ints_get _ _ _ hk)
        obtain ⟨b1, o1, hb1, ea, hc1⟩ := hcell
        subst ea
        clear hr htk hgk hi0
        go_wp2_with fail
        refine KSAY.mono ?_
        rintro e y2 ⟨rfl, V2, hJ2, hB2, hn2⟩
        have HJ2 := Lib.hid hJ2
        have HO2 := Lib.hid (HO'.out.keep hB2 hn2)
        have HB2 := Lib.hid (HB'.out.trans hB2 HN'.out)
        have HN2 := Lib.hid (fun g hg => (hn2 g hg).elim (HN'.out g) (fun e => Or.inr (Nat.le_trans HB'.out.size e)))
        clear hJ2 hB2 hn2 KSAY s0 hc1
        have hbn : Below N x y2 := HB2.out.below_of (fun g hg => HV.out.ge _ _ _ HJ.out g hg) hN
        skip
        obtain ⟨b2, o2, q2, e2, hb2, eb, ka0, ka1, ka2, _⟩ := (HC.out.below hbn (Nat.le_refl _)) kn _ HGK.out
        obtain ⟨lv, hlv⟩ : ∃ lv, lv = levelI (gI gs (kn : Int)) := ⟨_, rfl⟩
        have KLV := Lib.hid (show Gives 36 #[.agg #[.int .i64 (gI gs (kn : Int)).k, .int .i64 (gI gs (kn : Int)).lit, .slice q2 (gI gs (kn : Int)).ins.length e2]] (.int .i64 (lv : Nat)) from fun z => by rw [hlv]; exact gLevel _ q2 e2 z)
        obtain ⟨bb, hbb⟩ : ∃ bb, bb = decide (lv ≤ own) := ⟨_, rfl⟩
        have hbb1 : decide ((lv : Int) ≤ (own : Int)) = bb := by rw [hbb]; by_cases h : lv ≤ own <;> simp [h]
        have hbb2 : decide (lv ≤ own) = bb := hbb.symm
        have KPUT := Lib.hid (fun (z : World) (hz : Behind y2 [] z) => gPut HV.out (HO2.out.below hz.below).o2 ((d ++ betweenI gs sep u own (g.ins.take i)) ++ [.s sep u]) (kn : Int) bb (r ++ rest) (by rw [HL.out, HR.out, hbb, hlv]; simp [opI]) (HV.out.later _ _ _ _ HJ2.out hz.below))
        have HOP := Lib.hid (show putI (kn : Int) bb = opI gs own (kn : Int) by rw [hbb, hlv]; rfl)
        have KA0 := Lib.hid ka0
        have KA1 := Lib.hid ka1
        have KA2 := Lib.hid ka2
        have P0 := Lib.hid (blk_cell HO2.out.p 0 rfl)
        have C1 := Lib.hid (blk_cell HO2.out.c 1 rfl)
        have hke := blk_cell HO2.out.p 0 rfl
        clear hbb hlv ka0 ka1 ka2 hke
        subst eb
        go_wp2_with fail
        refine wp_game_tail 10 (List.replicate 11 0) [] B0 fin_B0 (has_B0 _) (by kernel_rfl) (by kernel_rfl) ?_
        simp only [List.take_succ_cons, List.take_zero]
        refine lex_quietE 10 (by kernel_rfl) (by rfl) ?_
        apply Exists.intro
        refine ⟨fun z hz => ?_, ?_⟩
        · have g1 := behind_cellXp hz P0.out (by simp)
          have g2 := behind_cellXp hz C1.out (by simp)
          have g3 := behind_cellXp hz KA0.out (by simp)
          have g4 := behind_cellXp hz KA1.out (by simp)
          have g5 := behind_cellXp hz KA2.out (by simp)
          clear hz
          simp only [List.take_succ_cons, List.take_zero]
          unfold Cx
          repeat (go_big_quiet_step (with_reducible exact KLV.out.at _ _))
          exact wpQuiet_nil rfl
        simp only [List.drop_succ_cons, List.drop_zero]
        refine lex_nil ?_
        intro z hz _
        have KP := KPUT.out z hz
        have HZ := Lib.hid hz
        clear hz
        go_wp2_with fail
        refine KP.mono ?_
        rintro e y ⟨rfl, V3, hJ3, hB3, hn3⟩
        have HJ3 := Lib.hid hJ3
        have HO3 := Lib.hid ((HO2.out.below HZ.out.below).keep hB3 hn3)
        have HB3 := Lib.hid ((HB2.out.trans HZ.out (fun b hb => by simp at hb)).trans hB3 HN2.out)
        have HN3 := Lib.hid (fun g hg => (hn3 g hg).elim (HN2.out g) (fun e => Or.inr (Nat.le_trans (HB2.out.trans HZ.out (fun b hb => by simp at hb)).size e)))
        clear hJ3 hB3 hn3 KP
        go_wp2_with fail
        go_roundw
        case rel => exact ⟨i + 1, V3, by omega, by go_num, Lib.hid (by rw [HTK.out]; have := HJ3.out; rw [HOP.out] at this; simpa using this), HO3.out, HB3.out, HN3.out⟩
        case measure => simp [intOf]; omega
    · obtain rfl : i = g.ins.length := by omega
      have hdd : decide ((g.ins.length : Int) < (g.ins.length : Int)) = false := by simp
      have HF := Lib.hid (show Vd J (d ++ betweenI gs sep u own g.ins) V x (.returned (.tuple #[])) wr from ⟨rfl, V', by have := HJ'.out; rwa [List.take_length] at this, HB'.out, HN'.out⟩)
      go_wp2_with fail
      go_end0
      rw [HP.out]
      exact HF.out
end Go.Proofs.YtmaiofimmjedjaaDoor
