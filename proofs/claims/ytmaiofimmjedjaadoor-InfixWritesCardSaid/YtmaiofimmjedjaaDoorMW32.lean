/- Texts of this claim, joined: HQ5, HQ6. -/
import Derived.Test.YtmaiofimmjedjaaDoorMW31
import Derived.Test.YtmaiofimmjedjaaDoorMW28
import Derived.Deep.DeepCutAuto

/- The reference's Print. -/
namespace Go.Proofs.YtmaiofimmjedjaaDoor
open Go.RowKit

theorem Tryd.infoStrP : (Tryd.prog.info? 9).map (fun i => (i.zero, i.size, i.bytes)) = some (some (.string ⟨#[]⟩), 1, 16) := by kernel_rfl
def kns (gs : List Gt) (i : Nat) : List Value := (List.range i).map fun k : Nat => .string ⟨(KN gs (k : Int)).toArray⟩
theorem kns_get (gs : List Gt) {i k : Nat} (h : k < i) : (kns gs i)[k]? = some (.string ⟨(KN gs (k : Int)).toArray⟩) := by simp [kns, h]
theorem kns_succ (gs : List Gt) (i : Nat) : kns gs (i + 1) = kns gs i ++ [.string ⟨(KN gs (i : Int)).toArray⟩] := by simp [kns, List.range_succ]
def longI (gs : List Gt) (l : List Int) : Bool := l.any fun k => decide (1048576 < (TX gs k).length)
theorem long_take {gs : List Gt} {l : List Int} {i : Nat} {k : Int} (h : l[i]? = some k) : longI gs (l.take (i + 1)) = (longI gs (l.take i) || decide (1048576 < (TX gs k).length)) := by
  unfold longI
  rw [take_snoc h, List.any_append]
  simp
theorem KN_short {gs : List Gt} {k : Int} (h : (TX gs k).length ≤ 1048576) : KN gs k = TX gs k := by unfold KN; rw [if_neg (by omega)]
theorem KN_long {gs : List Gt} {k : Int} (h : 1048576 < (TX gs k).length) : KN gs k = [0] := by unfold KN; rw [if_pos h]
theorem KN_eq {n : Int} {gs : List Gt} (hok : Ok n gs) {k : Nat} (hk : k < gs.length) {y : ByteArray} (hy : y = ⟨(KN gs (k : Int)).toArray⟩) : (y.data.toList == [0]) = decide (1048576 < (TX gs (k : Int)).length) := by
  subst hy
  show (KN gs (k : Int) == [0]) = _
  by_cases h : 1048576 < (TX gs (k : Int)).length
  · rw [KN_long h, decide_eq_true h]; rfl
  · rw [KN_short (by omega), decide_eq_false h, beq_eq_false_iff_ne]
    exact TX_ne0 hok hk
theorem ba_list2 (y : ByteArray) : y.toList = y.data.toList := by rw [ByteArray.toList_eq]

set_option maxHeartbeats 12800000 in
set_option maxRecDepth 100000 in
theorem xPrint (n : Int) (gs : List Gt) (a : Option Addr) (ca : Nat) (w : World) (hC : CircAt w.heap.size w a gs) (hf : Fits gs) (hl : gs.length ≤ 140737488355328) :
    Calls Tryd.prog 8 #[.agg #[.int .i64 n, .slice a gs.length ca]] w fun e w' => e = .returned (.tuple #[.string ⟨(printI n gs).1.toArray⟩, .int .i64 (printI n gs).2]) ∧ Below w.heap.size w w' := by
  obtain ⟨R, hR⟩ : ∃ R, R = printI n gs := ⟨_, rfl⟩
  rw [← hR]
  have HR := Lib.hid (show R = if checkI n gs ≠ 0 then ([], checkI n gs) else if 1048576 < (TX gs ((gs.length : Nat) - 1 : Nat)).length then ([], 2) else (TX gs ((gs.length : Nat) - 1 : Nat), 0) from hR)
  obtain ⟨Post, hPost⟩ : ∃ P : Ending → World → Prop, P = fun e w' => e = .returned (.tuple #[.string ⟨R.1.toArray⟩, .int .i64 R.2]) ∧ Below w.heap.size w w' := ⟨_, rfl⟩
  rw [← hPost]
  have HP := Lib.hid (show ∀ (l : List UInt8) (k : Int) (w' : World), R = (l, k) → Below w.heap.size w w' → Post (.returned (.tuple #[.string ⟨l.toArray⟩, .int .i64 k])) w' from fun l k w' h hb => by rw [hPost, h]; exact ⟨rfl, hb⟩)
  have HC := Lib.hid hC
  clear hPost hR hC
  go_enter Tryd.func8, Tryd.ntmps8
  go_upto_region 1 with fail
  refine wp_gen ?_
  intro w1 hw1
  have S1 := Lib.hid (show w1.heap[w.heap.size]? = some (.cells #[.int .i64 n, .slice a gs.length ca] 24 (0, 0)) by rw [hw1]; exact new_one _ _)
  have HB1 := Lib.hid (show Below w.heap.size w w1 by rw [hw1]; exact below_one _ _)
  clear hw1
  have KC := xCheck n gs a ca w1 (HC.out.later HB1.out) hf hl
  have q0 := blk_cell S1.out 0 rfl
  have q1 := blk_cell S1.out 1 rfl
  obtain ⟨ck, hck⟩ : ∃ ck, ck = checkI n gs := ⟨_, rfl⟩
  rw [← hck] at KC HR
  have HCK := Lib.hid hck
  clear hck
  go_wp2_with fail
  refine KC.mono ?_
  rintro e w2 ⟨rfl, hB⟩
  have HB2 := Lib.hid (HB1.out.trans (hB.mono HB1.out.size))
  have S2 := Lib.hid ((behind_of_below hB).keep S1.out (by simp))
  clear hB KC q0 q1 S1 HB1
  by_cases h0 : ck = 0
  · have hr := Lib.hid (HR.out.trans (if_neg (by simpa using h0)))
    have e0 : (ck != 0) = false := by simp [h0]
    obtain ⟨_, hn128, hl4, hs6, hne, hok⟩ := check_ok (HCK.out.symm.trans h0)
    have HOK := Lib.hid hok
    have HL4 := Lib.hid hl4
    have HS6 := Lib.hid hs6
    have HN := Lib.hid hn128
    have HNE := Lib.hid (List.length_pos_iff.2 hne)
    have HC2 := Lib.hid (HC.out.later HB2.out)
    clear hok hl4 hs6 hn128 hne HR HCK h0 HC
    have c0 := blk_cell S2.out 0 rfl
    have c1 := blk_cell S2.out 1 rfl
    go_upto_region 6 with fail
    clear c0 c1
    obtain ⟨wm, hwm⟩ : ∃ wm, wm = w2 := ⟨_, rfl⟩
    rw [← hwm] at HB2 S2 HC2 ⊢
    clear hwm
    go_loopw [5, 6] (fun t5 t6 wr => ∃ (j : Nat) (v : Value), j ≤ gs.length ∧ t6 = .int .i64 j ∧ t5 = v ∧ Hid (RowV (inW wr) 9 1 v j (kns gs j)) ∧ Hid (∀ b ∈ rowBlk v, wm.heap.size ≤ b) ∧ Hid (Below wm.heap.size wm wr)) (fun _ t6 _ => gs.length - (intOf t6).toNat)
    case atStart => exact ⟨0, _, Nat.zero_le _, rfl, rfl, RowV.nil, (fun b hb => by simp [rowBlk] at hb), Below.refl _ _⟩
    case round =>
      obtain ⟨j, v, hj, rfl, rfl, HRW, HGE, HB⟩ := hrel
      obtain ⟨wq, hwq⟩ : ∃ wq, wq = wr := ⟨_, rfl⟩
      rw [← hwq] at HRW HB ⊢
      clear hwq
      have SQ := Lib.hid ((behind_of_below HB.out).keep S2.out (by simp))
      have HCQ := Lib.hid (HC2.out.later HB.out)
      have c0 := blk_cell SQ.out 0 rfl
      have c1 := blk_cell SQ.out 1 rfl
      obtain ⟨pk, kc, hv, hkc, hat⟩ := rowV_at2 HRW.out
      have HV := Lib.hid hv
      have HAT := Lib.hid hat
      subst hv
      clear hkc hat HV
      have hl6 := HL4.out
      by_cases hlt : j < gs.length
      · have d1 : decide ((j : Int) < (gs.length : Int)) = true := decide_eq_true (by omega)
        have d2 : decide (j < gs.length) = true := decide_eq_true hlt
        obtain ⟨g, hg⟩ : ∃ g, gs[j]? = some g := ⟨_, List.getElem?_eq_getElem hlt⟩
        have HOG := Lib.hid (HOK.out j g hg)
        have HGM := Lib.hid (Nat.le_trans (ins_size (List.mem_of_getElem? hg)) HS6.out)
        have HTX := Lib.hid (show TX gs (j : Int) = ptx gs (pcsI gs g) from TX_eq HOK.out hg)
        have HTI := Lib.hid (fun (k : Int) (hk : k ∈ g.ins) => TX_in HOK.out hg hk)
        obtain ⟨b, o, ip, ic, _, ea, k0, k1, k2, hin⟩ := HCQ.out j g hg
        have HIN := Lib.hid hin
        subst ea
        clear hg hin
        go_upto_region 10 with fail
        obtain ⟨wx, hwx⟩ : ∃ wx, wx = wq := ⟨_, rfl⟩
        have HWX := Lib.hid hwx
        clear hwx
        go_loopw [7, 8] (fun t7 t8 wy => ∃ q : Nat, q ≤ g.ins.length ∧ t8 = .int .i64 q ∧ t7 = .bool (longI gs (g.ins.take q)) ∧ wy = wq) (fun _ t8 _ => g.ins.length - (intOf t8).toNat)
        case atStart => exact ⟨0, Nat.zero_le _, rfl, rfl, rfl⟩
        case round =>
          obtain ⟨q, hq, rfl, rfl, rfl⟩ := hrel
          have hg6 := HGM.out
          by_cases hql : q < g.ins.length
          · have d3 : decide ((q : Int) < (g.ins.length : Int)) = true := decide_eq_true (by omega)
            have d4 : decide (q < g.ins.length) = true := decide_eq_true hql
            obtain ⟨x, hx⟩ : ∃ x, g.ins[q]? = some x := ⟨_, List.getElem?_eq_getElem hql⟩
            have hxr := HOG.out.ins x (List.mem_of_getElem? hx)
            obtain ⟨k, rfl⟩ : ∃ k : Nat, x = k := ⟨x.toNat, by omega⟩
            obtain ⟨b1, o1, _, eb, ky⟩ := HIN.out q _ (ints_get _ _ _ hx)
            obtain ⟨b2, o2, _, ec, kz⟩ := HAT.out k _ (kns_get gs (show k < j by omega))
            have hkj : k < j := by omega
            have HLT := Lib.hid (long_take (gs := gs) hx)
            obtain ⟨y, hy⟩ : ∃ y : ByteArray, y = ⟨(KN gs (k : Int)).toArray⟩ := ⟨_, rfl⟩
            have hke := KN_eq HOK.out (show k < gs.length by omega) hy
            obtain ⟨bk, hbk⟩ : ∃ bk, bk = decide (1048576 < (TX gs (k : Int)).length) := ⟨_, rfl⟩
            rw [← hbk] at hke HLT
            rw [← hy] at kz
            have hke2 : (y.toList == (⟨#[0]⟩ : ByteArray).toList) = bk := by rw [ba_list2, ba_list2]; exact hke
            have hke3 : (y.toList == [0]) = bk := by rw [ba_list2]; exact hke
            generalize longI gs (g.ins.take q) = b0 at *
            subst eb
            subst ec
            clear hx hxr hy hbk
            cases b0 with
            | true =>
              have H9 := Lib.hid (show longI gs (g.ins.take (q + 1)) = true by rw [HLT.out]; rfl)
              clear HLT
              go_wp2_with fail
              go_roundw
              case rel => exact ⟨q + 1, by omega, by go_num, by rw [H9.out], trivial⟩
              case measure => simp [intOf]; omega
            | false =>
              have H9 := Lib.hid (show longI gs (g.ins.take (q + 1)) = bk by rw [HLT.out]; rfl)
              clear HLT
              go_wp2_with fail
              go_roundw
              case rel => exact ⟨q + 1, by omega, by go_num, by rw [H9.out], trivial⟩
              case measure => simp [intOf]; omega
          · have d3 : decide ((q : Int) < (g.ins.length : Int)) = false := decide_eq_false (by omega)
            have d4 : decide (q < g.ins.length) = false := decide_eq_false hql
            obtain rfl : q = g.ins.length := by omega
            rw [List.take_length]
            obtain ⟨lg, hlg⟩ : ∃ lg, lg = longI gs g.ins := ⟨_, rfl⟩
            rw [← hlg]
            have HLG := Lib.hid hlg
            clear hlg hql
            go_upto_region 14 with fail
            have GE := Lib.hid k0
            have C0 := Lib.hid c0
            have C1 := Lib.hid c1
            have K0 := Lib.hid k0
            have K1 := Lib.hid k1
            have K2 := Lib.hid k2
            obtain ⟨i0, II', IZ0', IZ1', IZ2'⟩ := info_parts Tryd.infoStrP
            have II := Lib.hid II'
            have IZ0 := Lib.hid IZ0'
            have IZ1 := Lib.hid IZ1'
            have IZ2 := Lib.hid IZ2'
            clear II' IZ0' IZ1' IZ2'
            cases lg with
            | true =>
              have HLO := Lib.hid (show 1048576 < (TX gs (j : Int)).length from by
                have h := HLG.out.symm
                unfold longI at h
                rw [List.any_eq_true] at h
                obtain ⟨x, hx, hd⟩ := h
                have h1 := HTI.out x hx
                have h2 := of_decide_eq_true hd
                omega)
              obtain ⟨wk, hwk⟩ : ∃ wk, wk = wr := ⟨_, rfl⟩
              rw [← hwk] at HRW HB ⊢
              have RZ := Lib.hid HRW.out
              have HBZ := Lib.hid HB.out
              clear hwk c0 c1 k0 k1 k2
              have HKN := Lib.hid (show KN gs (j : Int) = [0] from KN_long HLO.out)
              go_wp2_with (at_builtin; refine wpList_append_row _ rfl _ _ 30 rfl 9 i0 (.string ⟨#[]⟩) 1 16 Tryd.underlying30 II.out IZ0.out IZ1.out IZ2.out rfl _ _ _ rfl (RZ.out.keep (behind_of_below ((Below.refl _ _).alloc (Nat.le_refl _) _)) (by simp)) wk.heap.size 1 1 [.string ⟨#[0]⟩] 9 rfl (heap_alloc_new wk _) rfl (by intro u hu; simp at hu; subst hu; rfl) (by omega) (by unfold maxLen; omega) (by omega) ?_)
              intro v9 w9 hr9 hB9 hn9
              have hb9 : Behind wk (rowBlk (.slice pk j kc)) w9 := ((behind_of_below ((Below.refl _ _).alloc (Nat.le_refl _) _)).mono (by simp)).trans hB9 (fun k hk => .inl hk)
              have hn9' : ∀ g ∈ rowBlk v9, g ∈ rowBlk (.slice pk j kc) ∨ wk.heap.size ≤ g := fun g hg => (hn9 g hg).imp id (fun h => by first | omega | (simp at h; omega))
              have HR9 := Lib.hid (show RowV (inW w9) 9 1 v9 (j + 1) (kns gs (j + 1)) by
                rw [kns_succ, HKN.out]
                exact hr9)
              have HG9 := Lib.hid (show ∀ b ∈ rowBlk v9, wm.heap.size ≤ b from fun b hb => (hn9' b hb).elim (HGE.out b) (fun h => Nat.le_trans HBZ.out.size h))
              have HB9 := Lib.hid (HBZ.out.trans (hb9.below_of HGE.out HBZ.out.size))
              clear hr9 hB9 hn9 hb9 hn9'
              go_wp2_with fail
              go_roundw
              case rel => exact ⟨j + 1, v9, by omega, by go_num, rfl, HR9.out, HG9.out, HB9.out⟩
              case measure => simp [intOf]; omega
            | false =>
              have KX := Lib.hid (fun (z : World) (hz : Below wr.heap.size wr z) => xWrite (n := n) (gs := gs) (g := g) (i := j) (w := z) (ip := ip) (pk := pk) (a := some ⟨b, o, none⟩) ⟨HCQ.out.later hz, (HIN.out.below hz (Nat.le_refl _)).mono hz.size, fun k hk => by
                have hkr := HOG.out.ins _ hk
                obtain ⟨b2, o2, hb2, ec, kz⟩ := HAT.out k _ (kns_get gs (show k < j by omega))
                have hnl : ¬ 1048576 < (TX gs (k : Int)).length := fun h => by
                  have h1 : longI gs g.ins = true := by unfold longI; rw [List.any_eq_true]; exact ⟨_, hk, decide_eq_true h⟩
                  rw [← HLG.out] at h1
                  cases h1
                rw [KN_short (by omega)] at kz
                exact ⟨b2, o2, Nat.lt_of_lt_of_le hb2 hz.size, ec, below_cell hz hb2 kz⟩, HOG.out, by omega, fun k hk => by
                have hnl : ¬ 1048576 < (TX gs k).length := fun h => by
                  have h1 : longI gs g.ins = true := by unfold longI; rw [List.any_eq_true]; exact ⟨_, hk, decide_eq_true h⟩
                  rw [← HLG.out] at h1
                  cases h1
                omega, HGM.out, HN.out, HL4.out⟩ ca ic kc)
              clear c0 c1 k0 k1 k2
              go_upto_region 15 with fail
              refine wp_game_tail 7 (List.replicate 9 0) [] B0 fin_B0 (has_B0 _) (by kernel_rfl) (by kernel_rfl) ?_
              simp only [List.take_succ_cons, List.take_zero]
              refine lex_quietE 7 (by kernel_rfl) (by rfl) ?_
              apply Exists.intro
              refine ⟨fun z hz => ?_, ?_⟩
              · have f0 := behind_cellXp hz C0.out (by simp)
                have f1 := behind_cellXp hz C1.out (by simp)
                have f2 := behind_cellXp hz K0.out (by simp)
                have f3 := behind_cellXp hz K1.out (by simp)
                have f4 := behind_cellXp hz K2.out (by simp)
                clear hz
                simp only [List.take_succ_cons, List.take_zero]
                unfold Cx
                repeat (go_big_quiet_step (fail))
                exact wpQuiet_nil rfl
              simp only [List.drop_succ_cons, List.drop_zero]
              refine lex_nil ?_
              intro z hz _
              have KP := KX.out z hz.below
              have HBZ := Lib.hid hz.below
              clear hz KX
              go_wp2_with fail
              refine KP.mono ?_
              rintro e w5 ⟨rfl, hb5⟩
              have HB5 := Lib.hid (HBZ.out.trans (hb5.mono HBZ.out.size))
              clear hb5 KP
              have RZ := Lib.hid (HRW.out.keep (behind_of_below HB5.out) (by simp))
              have HBZ := Lib.hid (HB.out.trans (HB5.out.mono HB.out.size))
              obtain ⟨y, hy⟩ : ∃ y : ByteArray, y = ⟨(TX gs (j : Int)).toArray⟩ := ⟨_, rfl⟩
              have hyp : (⟨(ptx gs (pcsI gs g)).toArray⟩ : ByteArray) = y := by rw [hy, HTX.out]
              rw [hyp]
              have hysz : y.size = (TX gs (j : Int)).length := by rw [hy]; exact ba_size _
              have HY := Lib.hid hy
              clear hy hyp
              obtain ⟨wk, hwk⟩ : ∃ wk, wk = w5 := ⟨_, rfl⟩
              rw [← hwk] at RZ HBZ ⊢
              clear hwk HB5
              by_cases hbig : 1048576 < (TX gs (j : Int)).length
              · have d5 : decide ((1048576 : Int) < (y.size : Int)) = true := decide_eq_true (by omega)
                have d6 : decide (1048576 < y.size) = true := decide_eq_true (by omega)
                have HLO := Lib.hid hbig
                clear hbig hysz HY
                have HKN := Lib.hid (show KN gs (j : Int) = [0] from KN_long HLO.out)
                go_wp2_with (at_builtin; refine wpList_append_row _ rfl _ _ 30 rfl 9 i0 (.string ⟨#[]⟩) 1 16 Tryd.underlying30 II.out IZ0.out IZ1.out IZ2.out rfl _ _ _ rfl (RZ.out.keep (behind_of_below ((Below.refl _ _).alloc (Nat.le_refl _) _)) (by simp)) wk.heap.size 1 1 [.string ⟨#[0]⟩] 9 rfl (heap_alloc_new wk _) rfl (by intro u hu; simp at hu; subst hu; rfl) (by omega) (by unfold maxLen; omega) (by omega) ?_)
                intro v9 w9 hr9 hB9 hn9
                have hb9 : Behind wk (rowBlk (.slice pk j kc)) w9 := ((behind_of_below ((Below.refl _ _).alloc (Nat.le_refl _) _)).mono (by simp)).trans hB9 (fun k hk => .inl hk)
                have hn9' : ∀ g ∈ rowBlk v9, g ∈ rowBlk (.slice pk j kc) ∨ wk.heap.size ≤ g := fun g hg => (hn9 g hg).imp id (fun h => by first | omega | (simp at h; omega))
                have HR9 := Lib.hid (show RowV (inW w9) 9 1 v9 (j + 1) (kns gs (j + 1)) by
                  rw [kns_succ, HKN.out]
                  exact hr9)
                have HG9 := Lib.hid (show ∀ b ∈ rowBlk v9, wm.heap.size ≤ b from fun b hb => (hn9' b hb).elim (HGE.out b) (fun h => Nat.le_trans HBZ.out.size h))
                have HB9 := Lib.hid (HBZ.out.trans (hb9.below_of HGE.out HBZ.out.size))
                clear hr9 hB9 hn9 hb9 hn9'
                go_wp2_with fail
                go_roundw
                case rel => exact ⟨j + 1, v9, by omega, by go_num, rfl, HR9.out, HG9.out, HB9.out⟩
                case measure => simp [intOf]; omega
              · have d5 : decide ((1048576 : Int) < (y.size : Int)) = false := decide_eq_false (by omega)
                have d6 : decide (1048576 < y.size) = false := decide_eq_false (by omega)
                have HYK := Lib.hid (show KN gs (j : Int) = TX gs (j : Int) from KN_short (by omega))
                clear hbig hysz
                have HKN := Lib.hid (show KN gs (j : Int) = TX gs (j : Int) from HYK.out)
                go_wp2_with (at_builtin; refine wpList_append_row _ rfl _ _ 30 rfl 9 i0 (.string ⟨#[]⟩) 1 16 Tryd.underlying30 II.out IZ0.out IZ1.out IZ2.out rfl _ _ _ rfl (RZ.out.keep (behind_of_below ((Below.refl _ _).alloc (Nat.le_refl _) _)) (by simp)) wk.heap.size 1 1 [.string y] 9 rfl (heap_alloc_new wk _) rfl (by intro u hu; simp at hu; subst hu; rfl) (by omega) (by unfold maxLen; omega) (by omega) ?_)
                intro v9 w9 hr9 hB9 hn9
                have hb9 : Behind wk (rowBlk (.slice pk j kc)) w9 := ((behind_of_below ((Below.refl _ _).alloc (Nat.le_refl _) _)).mono (by simp)).trans hB9 (fun k hk => .inl hk)
                have hn9' : ∀ g ∈ rowBlk v9, g ∈ rowBlk (.slice pk j kc) ∨ wk.heap.size ≤ g := fun g hg => (hn9 g hg).imp id (fun h => by first | omega | (simp at h; omega))
                have HR9 := Lib.hid (show RowV (inW w9) 9 1 v9 (j + 1) (kns gs (j + 1)) by
                  rw [kns_succ, HKN.out]
                  rw [← HY.out]; exact hr9)
                have HG9 := Lib.hid (show ∀ b ∈ rowBlk v9, wm.heap.size ≤ b from fun b hb => (hn9' b hb).elim (HGE.out b) (fun h => Nat.le_trans HBZ.out.size h))
                have HB9 := Lib.hid (HBZ.out.trans (hb9.below_of HGE.out HBZ.out.size))
                clear hr9 hB9 hn9 hb9 hn9'
                go_wp2_with fail
                go_roundw
                case rel => exact ⟨j + 1, v9, by omega, by go_num, rfl, HR9.out, HG9.out, HB9.out⟩
                case measure => simp [intOf]; omega
      · have d1 : decide ((j : Int) < (gs.length : Int)) = false := decide_eq_false (by omega)
        have d2 : decide (j < gs.length) = false := decide_eq_false hlt
        obtain rfl : j = gs.length := by omega
        have hpos := HNE.out
        obtain ⟨m, hm⟩ : ∃ m : Nat, gs.length = m + 1 := ⟨gs.length - 1, by omega⟩
        obtain ⟨b2, o2, _, ec, kz⟩ := HAT.out m _ (kns_get gs (show m < gs.length by omega))
        have hrr := hr.out
        rw [show ((gs.length : Nat) - 1 : Nat) = m by omega] at hrr
        obtain ⟨y, hy⟩ : ∃ y : ByteArray, y = ⟨(KN gs (m : Int)).toArray⟩ := ⟨_, rfl⟩
        have hke := KN_eq HOK.out (show m < gs.length by omega) hy
        rw [← hy] at kz
        have HY := Lib.hid hy
        have HRR := Lib.hid hrr
        have HBF := Lib.hid (HB2.out.trans (HB.out.mono HB2.out.size))
        subst ec
        have hm1 : wrap64 ((gs.length : Int) - 1) = (m : Int) := (Go.IntWalk.wrap64_in _ ⟨by omega, by omega⟩).trans (by omega)
        have hm2 : ((gs.length : Int) - 1) = (m : Int) := by omega
        have hm3 : m < gs.length := by omega
        clear hy hrr hlt hm
        by_cases hL : 1048576 < (TX gs (m : Int)).length
        · rw [decide_eq_true hL] at hke
          have hke2 : (y.toList == (⟨#[0]⟩ : ByteArray).toList) = true := by rw [ba_list2, ba_list2]; exact hke
          have hke3 : (y.toList == [0]) = true := by rw [ba_list2]; exact hke
          have HF := Lib.hid (HRR.out.trans (if_pos hL))
          clear hL HRR
          go_wp2_with fail
          exact HP.out [] 2 _ HF.out HBF.out
        · rw [decide_eq_false hL] at hke
          have hke2 : (y.toList == (⟨#[0]⟩ : ByteArray).toList) = false := by rw [ba_list2, ba_list2]; exact hke
          have hke3 : (y.toList == [0]) = false := by rw [ba_list2]; exact hke
          have HF := Lib.hid (HRR.out.trans (if_neg hL))
          have HYT := Lib.hid (show y = ⟨(TX gs (m : Int)).toArray⟩ by rw [HY.out, KN_short (by omega)])
          clear hL HRR
          go_wp2_with fail
          rw [HYT.out]
          exact HP.out _ 0 _ HF.out HBF.out
  · have hr := Lib.hid (HR.out.trans (if_pos h0))
    have e0 : (ck != 0) = true := by simp [bne, beq_no h0]
    clear HR HCK h0
    go_wp2_with fail
    exact HP.out [] ck _ hr.out HB2.out
end Go.Proofs.YtmaiofimmjedjaaDoor

/- The law: what is written is the document's text. -/
namespace Go.Proofs.YtmaiofimmjedjaaDoor
open Go.RowKit

def fewI (gs : List Gt) : Bool := decide (gs.length ≤ 40) && decide (sizeI gs ≤ 200)
set_option maxHeartbeats 1600000 in
set_option maxRecDepth 100000 in
theorem gFew (n : Int) (gs : List Gt) (a : Option Addr) (c : Nat) (w : World) (hC : CircAt w.heap.size w a gs) (hf : Fits gs) (hl : gs.length ≤ 140737488355328) : Calls Tryd.prog 5 #[.agg #[.int .i64 n, .slice a gs.length c]] w fun e w' => e = .returned (.bool (fewI gs)) ∧ Below w.heap.size w w' := by
  obtain ⟨Post, hPost⟩ : ∃ P : Ending → World → Prop, P = fun e w' => e = .returned (.bool (fewI gs)) ∧ Below w.heap.size w w' := ⟨_, rfl⟩
  rw [← hPost]
  have HP := Lib.hid (show ∀ (r : Bool) (w' : World), fewI gs = r → Below w.heap.size w w' → Post (.returned (.bool r)) w' from fun r w' h hb => by rw [hPost]; exact ⟨by rw [h], hb⟩)
  have HB1 := Lib.hid (below_one w (.cells #[.int .i64 n, .slice a gs.length c] 24 (0, 0)))
  by_cases h : gs.length ≤ 40
  · have d1 : decide ((gs.length : Int) ≤ 40) = true := decide_eq_true (by omega)
    have d2 : decide (gs.length ≤ 40) = true := decide_eq_true h
    have KS := xSize n gs a c _ (hC.later HB1.out) hf (by omega)
    obtain ⟨b, hb⟩ : ∃ b, b = decide (sizeI gs ≤ 200) := ⟨_, rfl⟩
    have HF := Lib.hid (show fewI gs = b by unfold fewI; rw [d2, hb]; rfl)
    have d3 : decide ((sizeI gs : Int) ≤ 200) = b := by rw [hb]; by_cases h : sizeI gs ≤ 200 <;> simp [h] <;> omega
    have d4 := hb.symm
    generalize sizeI gs = sz at *
    clear hPost hC hf h hb
    go_enter Tryd.func5, Tryd.ntmps5
    go_wp2_with fail
    refine KS.mono ?_
    rintro e w2 ⟨rfl, hb2⟩
    have HB2 := Lib.hid (HB1.out.trans (hb2.mono HB1.out.size))
    clear hb2 KS
    go_wp2_with fail
    exact HP.out _ _ HF.out HB2.out
  · have d1 : decide ((gs.length : Int) ≤ 40) = false := decide_eq_false (by omega)
    have d2 : decide (gs.length ≤ 40) = false := decide_eq_false h
    have HF := Lib.hid (show fewI gs = false by unfold fewI; rw [d2]; rfl)
    clear hPost hC hf h
    go_enter Tryd.func5, Tryd.ntmps5
    go_wp2_with fail
    exact HP.out _ _ HF.out HB1.out

set_option maxHeartbeats 6400000 in
set_option maxRecDepth 100000 in
theorem writes_law (n : Int) (gs : List Gt) (a : Option Addr) (c : Nat) (w : World) (hV : VarsI w) (hC : CircAt w.heap.size w a gs) (hf : Fits gs) (hl : gs.length ≤ 20000000000000) : Calls Tryd.prog 3 #[.agg #[.int .i64 n, .slice a gs.length c]] w fun e w' => e = .returned (.bool true) ∧ Below w.heap.size w w' := by
  obtain ⟨Post, hPost⟩ : ∃ P : Ending → World → Prop, P = fun e w' => e = .returned (.bool true) ∧ Below w.heap.size w w' := ⟨_, rfl⟩
  rw [← hPost]
  have HP := Lib.hid hPost
  have HV := Lib.hid hV
  have HC := Lib.hid hC
  have HF := Lib.hid hf
  have KW := Lib.hid (fun w1 (h : Below w.heap.size w w1) => gWorks w1 (hV.below h))
  clear hPost hV hC hf
  go_enter Tryd.func3, Tryd.ntmps3
  go_upto_region 1 with fail
  refine wp_gen ?_
  intro w1 hw1
  have A1 := Lib.hid (show w1.heap[w.heap.size]? = some (.cells #[.int .i64 n, .slice a gs.length c] 24 (0, 0)) by rw [hw1]; exact new_one _ _)
  have HB1 := Lib.hid (show Below w.heap.size w w1 by rw [hw1]; exact below_one _ _)
  clear hw1
  have KF := gFew n gs a c w1 (HC.out.later HB1.out) HF.out (by omega)
  have c0 := blk_cell A1.out 0 rfl
  have c1 := blk_cell A1.out 1 rfl
  generalize fewI gs = fw at *
  go_wp2_with fail
  refine KF.mono ?_
  rintro e w2 ⟨rfl, hb2⟩
  have A2 := Lib.hid ((behind_of_below hb2).keep A1.out (by simp))
  have HB2 := Lib.hid (HB1.out.trans (hb2.mono HB1.out.size))
  clear hb2 KF A1 HB1 c0 c1
  cases fw with
  | false =>
    go_wp2_with fail
    refine (KW.out w2 HB2.out).mono ?_
    rintro e w3 ⟨rfl, hb⟩
    have HB3 := Lib.hid (HB2.out.trans (hb.mono HB2.out.size))
    clear hb
    go_wp2_with fail
    rw [HP.out]
    exact ⟨rfl, HB3.out⟩
  | true =>
  have KP := gPrint n gs a c w2 (HC.out.later HB2.out) HF.out (by omega) (HV.out.below HB2.out)
  have KQ := Lib.hid (fun (z : World) (hz : Below w.heap.size w z) => xPrint n gs a c z (HC.out.later hz) HF.out (by omega))
  have c0 := blk_cell A2.out 0 rfl
  have c1 := blk_cell A2.out 1 rfl
  obtain ⟨tx, htx⟩ : ∃ tx : ByteArray, tx = ⟨(printI n gs).1.toArray⟩ := ⟨_, rfl⟩
  obtain ⟨er, her⟩ : ∃ er, er = (printI n gs).2 := ⟨_, rfl⟩
  rw [← htx, ← her] at KP KQ
  clear htx her
  go_wp2_with fail
  refine KP.mono ?_
  rintro e w3 ⟨rfl, hb3⟩
  have A3 := Lib.hid ((behind_of_below hb3).keep A2.out (by simp))
  have HB3 := Lib.hid (HB2.out.trans (hb3.mono HB2.out.size))
  clear hb3 KP A2 HB2 c0 c1
  have c0 := blk_cell A3.out 0 rfl
  have c1 := blk_cell A3.out 1 rfl
  go_wp2_with fail
  refine (KQ.out w3 HB3.out).mono ?_
  rintro e w4 ⟨rfl, hb4⟩
  have HB4 := Lib.hid (HB3.out.trans (hb4.mono HB3.out.size))
  clear hb4 KQ A3 HB3 c0 c1
  have heq : (tx.toList == tx.toList) = true := by simp
  have heq2 : (er == er) = true := by simp
  go_wp2_with fail
  refine (KW.out w4 HB4.out).mono ?_
  rintro e w5 ⟨rfl, hb⟩
  have HB5 := Lib.hid (HB4.out.trans (hb.mono HB4.out.size))
  clear hb
  go_wp2_with fail
  rw [HP.out]
  exact ⟨rfl, HB5.out⟩
end Go.Proofs.YtmaiofimmjedjaaDoor
