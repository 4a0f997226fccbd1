/- Texts of this claim, joined: HQ3, HQ4. -/
import Derived.Test.YtmaiofimmjedjaaDoorMW30
import Derived.Test.YtmaiofimmjedjaaDoorMW06
import Derived.Deep.DeepCutAuto

/- The reference's formulas: lists and chains are written. -/
namespace Go.Proofs.YtmaiofimmjedjaaDoor
open Go.RowKit

theorem btw_txt (gs : List Gt) (sep : List UInt8) (w : List (List UInt8)) (own : Nat) {l : List Int} {i : Nat} {k : Int} (h : l[i]? = some k) : ptx gs (betweenI gs sep w own (l.take (i + 1))) = ptx gs (betweenI gs sep w own (l.take i)) ++ ((if i = 0 then [] else sep) ++ (if decide (levelI (gI gs k) ≤ own) then [40] ++ TX gs k ++ [41] else TX gs k)) := by
  rw [between_take gs sep w own h]
  simp only [ptx, List.flatMap_append]
  congr 2
  · split <;> simp
  · unfold opI putI
    split <;> simp
theorem sign_k {g : Gt} {lv : Nat} (h : levelI g = lv) (h4 : 4 ≤ lv) (h6 : lv ≤ 6) : signK g.k = [32] ++ signI lv ++ [32] := by
  unfold levelI at h
  split at h
  · omega
  split at h
  · omega
  split at h
  · rename_i e; subst h; rw [e]; rfl
  split at h
  · rename_i e; subst h; rw [e]; rfl
  split at h
  · rename_i e; subst h; rw [e]; rfl
  · omega

set_option maxHeartbeats 6400000 in
set_option maxRecDepth 100000 in
theorem xWrite_list {n : Int} {gs : List Gt} {a : Option Addr} {g : Gt} {i : Nat} {ip pk : Option Addr} {w : World} (h : WrH n gs a g i ip pk w) (ca ic ck : Nat) (hk0 : g.k ≠ 0) (hk1 : g.k ≠ 1) (hk2 : g.k ≠ 2) (hk3 : g.k ≠ 3) (hk7 : g.k ≠ 7) (hlv : levelI g = 7) (hpc : pcsI gs g = .s (nameI g.k ++ [40]) [nameI g.k, [40]] :: (betweenI gs [44, 32] [[44]] 0 g.ins ++ [.s [41] [[41]]])) :
    Calls Tryd.prog 21 #[.agg #[.int .i64 n, .slice a gs.length ca], .agg #[.int .i64 g.k, .int .i64 g.lit, .slice ip g.ins.length ic], .slice pk i ck] w fun e w' => e = .returned (.string ⟨(ptx gs (pcsI gs g)).toArray⟩) ∧ Below w.heap.size w w' := by
  obtain ⟨Post, hPost⟩ : ∃ P : Ending → World → Prop, P = fun e w' => e = .returned (.string ⟨(ptx gs (pcsI gs g)).toArray⟩) ∧ Below w.heap.size w w' := ⟨_, rfl⟩
  rw [← hPost]
  have HP := Lib.hid (show ∀ (z : ByteArray) (l : List UInt8) (w' : World), z = ⟨l.toArray⟩ → ptx gs (pcsI gs g) = l → Below w.heap.size w w' → Post (.returned (.string z)) w' from fun z l w' h1 h2 hb => by rw [hPost, h1, h2]; exact ⟨rfl, hb⟩)
  have H := Lib.hid h
  have HPC := Lib.hid (show ptx gs (pcsI gs g) = ((nameI g.k ++ [40]) ++ ptx gs (betweenI gs [44, 32] [[44]] 0 g.ins)) ++ [41] by rw [hpc]; simp [ptx])
  clear hPost h hpc
  have e0 := beq_no hk0
  have e1 := beq_no hk1
  have e2 := beq_no hk2
  have e3 := beq_no hk3
  have e7 := beq_no hk7
  clear hk0 hk1 hk2 hk3 hk7
  have KLO := Lib.hid (show Gives 43 #[.agg #[.int .i64 g.k, .int .i64 g.lit, .slice ip g.ins.length ic]] (.int .i64 7) from by have h := xLevel g ip ic; rw [hlv] at h; exact h)
  clear hlv
  go_enter Tryd.func21, Tryd.ntmps21
  go_upto_region 1 with fail
  refine wp_gen ?_
  intro w1 hw1
  have A1 := Lib.hid (show w1.heap[w.heap.size]? = some (.cells #[.int .i64 n, .slice a gs.length ca] 24 (0, 0)) by rw [hw1]; exact new_two1 _ _ _)
  have G1 := Lib.hid (show w1.heap[w.heap.size + 1]? = some (.cells #[.int .i64 g.k, .int .i64 g.lit, .slice ip g.ins.length ic] 37 (0, 0)) by rw [hw1]; exact new_two2 _ _ _)
  have HB1 := Lib.hid (show Below w.heap.size w w1 by rw [hw1]; exact below_two _ _ _)
  have H1 := Lib.hid (H.out.later HB1.out)
  clear hw1
  have g0 := blk_cell G1.out 0 rfl
  go_wp2_with fail
  go_loopw [8, 9] (fun t8 t9 wr => ∃ (j : Nat) (s : ByteArray), j ≤ g.ins.length ∧ t9 = .int .i64 j ∧ t8 = .string s ∧ Hid (s = ⟨(ptx gs (betweenI gs [44, 32] [[44]] 0 (g.ins.take j))).toArray⟩) ∧ Hid ((ptx gs (betweenI gs [44, 32] [[44]] 0 (g.ins.take j))).length ≤ j * 1048600) ∧ Hid (Below w1.heap.size w1 wr)) (fun _ t9 _ => g.ins.length - (intOf t9).toNat)
  case atStart => exact ⟨0, ⟨#[]⟩, Nat.zero_le _, rfl, rfl, rfl, (show (ptx gs (betweenI gs [44, 32] [[44]] 0 (g.ins.take 0))).length ≤ 0 * 1048600 from by simp [betweenI, ptx]), Below.refl _ _⟩
  case round =>
    obtain ⟨j, s, hj, rfl, rfl, HS, HL, HB⟩ := hrel
    obtain ⟨wq, hwq⟩ : ∃ wq, wq = wr := ⟨_, rfl⟩
    rw [← hwq] at HB ⊢
    clear hwq
    have HW := Lib.hid (H1.out.later HB.out)
    have GR := Lib.hid ((behind_of_below HB.out).keep G1.out (by simp))
    have AR := Lib.hid ((behind_of_below HB.out).keep A1.out (by simp))
    have g0 := blk_cell GR.out 0 rfl
    have g1 := blk_cell GR.out 1 rfl
    have g2 := blk_cell GR.out 2 rfl
    by_cases hlt : j < g.ins.length
    · have d1 : decide ((j : Int) < (g.ins.length : Int)) = true := decide_eq_true (by omega)
      have d2 : decide (j < g.ins.length) = true := decide_eq_true hlt
      have hil := HW.out.il
      obtain ⟨x, hx⟩ : ∃ x, g.ins[j]? = some x := ⟨_, List.getElem?_eq_getElem hlt⟩
      have hxm : x ∈ g.ins := List.mem_of_getElem? hx
      have hxr := HW.out.ok.ins x hxm
      obtain ⟨k, rfl⟩ : ∃ k : Nat, x = k := ⟨x.toNat, by omega⟩
      have hki : k < gs.length := by have := HW.out.hi; omega
      have hkii : k < i := by omega
      obtain ⟨b1, o1, _, ea, ke⟩ := HW.out.ins j _ (ints_get g.ins j (k : Int) hx)
      obtain ⟨b3, o3, _, ec, kt⟩ := HW.out.kn k hxm
      have hsz := HW.out.sz (k : Int) hxm
      have hst := btw_txt gs [44, 32] [[44]] 0 hx
      have hlo : decide (levelI (gI gs (k : Int)) ≤ 0) = false := decide_eq_false (by rcases level_cases (gI gs (k : Int)) with h | h | h | h | h <;> omega)
      rw [hlo, if_neg (show ¬ (false = true) by simp)] at hst
      obtain ⟨T, hT⟩ : ∃ T : ByteArray, T = ⟨(TX gs k).toArray⟩ := ⟨_, rfl⟩
      rw [← hT] at kt
      have hll := HL.out
      subst ea
      subst ec
      by_cases hj0 : j = 0
      · have d3 : decide ((0 : Int) < (j : Int)) = false := decide_eq_false (by omega)
        have d4 : decide (0 < j) = false := decide_eq_false (by omega)
        rw [if_pos hj0, List.nil_append] at hst
        obtain ⟨z, hz, ha⟩ := add_str HS.out hT (by omega)
        rw [← hst] at hz
        have HZ := Lib.hid hz
        have HZL := Lib.hid (show (ptx gs (betweenI gs [44, 32] [[44]] 0 (g.ins.take (j + 1)))).length ≤ (j + 1) * 1048600 by rw [hst, List.length_append]; omega)
        clear hst hz hT hx hxm hxr hlo hll hj0 hsz
        go_wp2_with fail
        refine (KLO.out wq).mono ?_
        rintro e w4 ⟨rfl, hb⟩
        have HB4 := Lib.hid (HB.out.trans (hb.mono HB.out.size))
        clear hb g0 g1 g2 ke kt
        go_wp2_with fail
        go_roundw
        case rel => exact ⟨j + 1, z, by omega, by go_num, rfl, HZ.out, HZL.out, HB4.out⟩
        case measure => simp [intOf]; omega
      · have d3 : decide ((0 : Int) < (j : Int)) = true := decide_eq_true (by omega)
        have d4 : decide (0 < j) = true := decide_eq_true (by omega)
        rw [if_neg hj0] at hst
        obtain ⟨y, hy, ha1⟩ := add_str (y := ⟨#[44, 32]⟩) (ly := [44, 32]) HS.out rfl (by simp; omega)
        obtain ⟨z, hz, ha⟩ := add_str hy hT (by simp; omega)
        rw [List.append_assoc, ← hst] at hz
        have HZ := Lib.hid hz
        have HZL := Lib.hid (show (ptx gs (betweenI gs [44, 32] [[44]] 0 (g.ins.take (j + 1)))).length ≤ (j + 1) * 1048600 by rw [hst]; simp; omega)
        clear hst hz hy hT hx hxm hxr hlo hll hj0 hsz
        go_wp2_with fail
        refine (KLO.out wq).mono ?_
        rintro e w4 ⟨rfl, hb⟩
        have HB4 := Lib.hid (HB.out.trans (hb.mono HB.out.size))
        clear hb g0 g1 g2 ke kt
        go_wp2_with fail
        go_roundw
        case rel => exact ⟨j + 1, z, by omega, by go_num, rfl, HZ.out, HZL.out, HB4.out⟩
        case measure => simp [intOf]; omega
    · have d1 : decide ((j : Int) < (g.ins.length : Int)) = false := decide_eq_false (by omega)
      have d2 : decide (j < g.ins.length) = false := decide_eq_false hlt
      have hil := HW.out.il
      have hll := HL.out
      have hjl : j = g.ins.length := by omega
      have hs := HS.out
      rw [hjl, List.take_length] at hs hll
      have KNM := Lib.hid (xName g.k)
      obtain ⟨nm, hnm⟩ : ∃ nm : ByteArray, nm = ⟨(nameI g.k).toArray⟩ := ⟨_, rfl⟩
      rw [← hnm] at KNM
      have hnl : (nameI g.k).length ≤ 3 := by unfold nameI; (repeat' split) <;> decide
      obtain ⟨y1, hy1, ha1⟩ := add_str (y := ⟨#[40]⟩) (ly := [40]) hnm rfl (by simp; omega)
      obtain ⟨y2, hy2, ha2⟩ := add_str hy1 hs (by simp; omega)
      obtain ⟨y3, hy3, ha3⟩ := add_str (y := ⟨#[41]⟩) (ly := [41]) hy2 rfl (by simp; omega)
      have HY3 := Lib.hid hy3
      clear hnm hnl hy1 hy2 hy3 hs hll hjl hil hlt
      go_wp2_with fail
      refine (KLO.out wq).mono ?_
      rintro e w4 ⟨rfl, hb⟩
      have HB4 := Lib.hid (HB.out.trans (hb.mono HB.out.size))
      have GR4 := Lib.hid ((behind_of_below hb).keep GR.out (by simp))
      clear hb g0 g1 g2
      have g0 := blk_cell GR4.out 0 rfl
      go_wp2_with fail
      refine (KNM.out w4).mono ?_
      rintro e w5 ⟨rfl, hb⟩
      have HB5 := Lib.hid (HB1.out.trans ((HB4.out.trans (hb.mono HB4.out.size)).mono HB1.out.size))
      clear hb g0
      go_wp2_with fail
      exact HP.out y3 _ _ HY3.out HPC.out HB5.out

set_option maxHeartbeats 6400000 in
set_option maxRecDepth 100000 in
theorem xWrite_chain {n : Int} {gs : List Gt} {a : Option Addr} {g : Gt} {i : Nat} {ip pk : Option Addr} {w : World} (h : WrH n gs a g i ip pk w) (ca ic ck : Nat) (hk0 : g.k ≠ 0) (hk1 : g.k ≠ 1) (hk2 : g.k ≠ 2) (hk3 : g.k ≠ 3) (hk7 : g.k ≠ 7) (lv : Nat) (hlv : levelI g = lv) (h4 : 4 ≤ lv) (h6 : lv ≤ 6) (hpc : pcsI gs g = betweenI gs ([32] ++ signI lv ++ [32]) [signI lv] lv g.ins) :
    Calls Tryd.prog 21 #[.agg #[.int .i64 n, .slice a gs.length ca], .agg #[.int .i64 g.k, .int .i64 g.lit, .slice ip g.ins.length ic], .slice pk i ck] w fun e w' => e = .returned (.string ⟨(ptx gs (pcsI gs g)).toArray⟩) ∧ Below w.heap.size w w' := by
  obtain ⟨Post, hPost⟩ : ∃ P : Ending → World → Prop, P = fun e w' => e = .returned (.string ⟨(ptx gs (pcsI gs g)).toArray⟩) ∧ Below w.heap.size w w' := ⟨_, rfl⟩
  rw [← hPost]
  have HP := Lib.hid (show ∀ (z : ByteArray) (l : List UInt8) (w' : World), z = ⟨l.toArray⟩ → ptx gs (pcsI gs g) = l → Below w.heap.size w w' → Post (.returned (.string z)) w' from fun z l w' h1 h2 hb => by rw [hPost, h1, h2]; exact ⟨rfl, hb⟩)
  have H := Lib.hid h
  have HPC := Lib.hid (show ptx gs (pcsI gs g) = ptx gs (betweenI gs ([32] ++ signI lv ++ [32]) [signI lv] lv g.ins) by rw [hpc])
  clear hPost h hpc
  have e0 := beq_no hk0
  have e1 := beq_no hk1
  have e2 := beq_no hk2
  have e3 := beq_no hk3
  have e7 := beq_no hk7
  clear hk0 hk1 hk2 hk3 hk7
  have KLO := Lib.hid (show Gives 43 #[.agg #[.int .i64 g.k, .int .i64 g.lit, .slice ip g.ins.length ic]] (.int .i64 (lv : Nat)) from by have h := xLevel g ip ic; rw [hlv] at h; exact h)
  have KSG := Lib.hid (show Gives 44 #[.int .i64 g.k] (.string ⟨([32] ++ signI lv ++ [32] : List UInt8).toArray⟩) from by have h := xSign g.k; rw [sign_k hlv h4 h6] at h; exact h)
  have hsl : ([32] ++ signI lv ++ [32] : List UInt8).length ≤ 10 := by unfold signI; (repeat' split) <;> decide
  have hd7 : ((lv : Int) == 7) = false := beq_no (by omega)
  have hd8 : (lv == 7) = false := by rw [beq_eq_false_iff_ne]; omega
  clear hlv h4 h6
  obtain ⟨sp, hsp⟩ : ∃ sp : List UInt8, sp = [32] ++ signI lv ++ [32] := ⟨_, rfl⟩
  obtain ⟨sw, hsw⟩ : ∃ sw : List (List UInt8), sw = [signI lv] := ⟨_, rfl⟩
  rw [← hsp] at KSG hsl HPC
  rw [← hsw] at HPC
  clear hsp hsw
  go_enter Tryd.func21, Tryd.ntmps21
  go_upto_region 1 with fail
  refine wp_gen ?_
  intro w1 hw1
  have A1 := Lib.hid (show w1.heap[w.heap.size]? = some (.cells #[.int .i64 n, .slice a gs.length ca] 24 (0, 0)) by rw [hw1]; exact new_two1 _ _ _)
  have G1 := Lib.hid (show w1.heap[w.heap.size + 1]? = some (.cells #[.int .i64 g.k, .int .i64 g.lit, .slice ip g.ins.length ic] 37 (0, 0)) by rw [hw1]; exact new_two2 _ _ _)
  have HB1 := Lib.hid (show Below w.heap.size w w1 by rw [hw1]; exact below_two _ _ _)
  have H1 := Lib.hid (H.out.later HB1.out)
  clear hw1
  have g0 := blk_cell G1.out 0 rfl
  go_wp2_with fail
  go_loopw [8, 9] (fun t8 t9 wr => ∃ (j : Nat) (s : ByteArray), j ≤ g.ins.length ∧ t9 = .int .i64 j ∧ t8 = .string s ∧ Hid (s = ⟨(ptx gs (betweenI gs sp sw lv (g.ins.take j))).toArray⟩) ∧ Hid ((ptx gs (betweenI gs sp sw lv (g.ins.take j))).length ≤ j * 1048600) ∧ Hid (Below w1.heap.size w1 wr)) (fun _ t9 _ => g.ins.length - (intOf t9).toNat)
  case atStart => exact ⟨0, ⟨#[]⟩, Nat.zero_le _, rfl, rfl, rfl, (show (ptx gs (betweenI gs sp sw lv (g.ins.take 0))).length ≤ 0 * 1048600 from by simp [betweenI, ptx]), Below.refl _ _⟩
  case round =>
    obtain ⟨j, s, hj, rfl, rfl, HS, HL, HB⟩ := hrel
    obtain ⟨wq, hwq⟩ : ∃ wq, wq = wr := ⟨_, rfl⟩
    rw [← hwq] at HB ⊢
    clear hwq
    have HW := Lib.hid (H1.out.later HB.out)
    have GR := Lib.hid ((behind_of_below HB.out).keep G1.out (by simp))
    have AR := Lib.hid ((behind_of_below HB.out).keep A1.out (by simp))
    have g0 := blk_cell GR.out 0 rfl
    have g1 := blk_cell GR.out 1 rfl
    have g2 := blk_cell GR.out 2 rfl
    by_cases hlt : j < g.ins.length
    · have d1 : decide ((j : Int) < (g.ins.length : Int)) = true := decide_eq_true (by omega)
      have d2 : decide (j < g.ins.length) = true := decide_eq_true hlt
      have hil := HW.out.il
      obtain ⟨x, hx⟩ : ∃ x, g.ins[j]? = some x := ⟨_, List.getElem?_eq_getElem hlt⟩
      have hxm : x ∈ g.ins := List.mem_of_getElem? hx
      have hxr := HW.out.ok.ins x hxm
      obtain ⟨k, rfl⟩ : ∃ k : Nat, x = k := ⟨x.toNat, by omega⟩
      have hki : k < gs.length := by have := HW.out.hi; omega
      have hkii : k < i := by omega
      obtain ⟨b1, o1, _, ea, ke⟩ := HW.out.ins j _ (ints_get g.ins j (k : Int) hx)
      obtain ⟨b3, o3, _, ec, kt⟩ := HW.out.kn k hxm
      have hsz := HW.out.sz (k : Int) hxm
      have hst := btw_txt gs sp sw lv hx
      obtain ⟨b2, o2, q2, e2', _, eb, ka0, ka1, ka2, _⟩ := HW.out.c k _ (gI_at (gs := gs) (k := (k : Int)) (by omega) (by omega))
      obtain ⟨G, hG⟩ : ∃ G, G = gI gs (k : Int) := ⟨_, rfl⟩
      rw [← hG] at ka0 ka1 ka2 hst
      obtain ⟨T, hT⟩ : ∃ T : ByteArray, T = ⟨(TX gs k).toArray⟩ := ⟨_, rfl⟩
      rw [← hT] at kt
      have KLV := Lib.hid (xLevel G q2 e2')
      obtain ⟨lk, hlk⟩ : ∃ lk, lk = levelI G := ⟨_, rfl⟩
      rw [← hlk] at KLV hst
      obtain ⟨S0, hS0⟩ : ∃ S : ByteArray, S = ⟨sp.toArray⟩ := ⟨_, rfl⟩
      rw [← hS0] at KSG
      have hll := HL.out
      have hs := HS.out
      have C1 := Lib.hid (blk_cell AR.out 1 rfl)
      subst ea
      subst eb
      subst ec
      have KE := Lib.hid ke
      have K0 := Lib.hid ka0
      have K1 := Lib.hid ka1
      have K2 := Lib.hid ka2
      have GR0 := Lib.hid g0
      have GR1 := Lib.hid g1
      have GR2 := Lib.hid g2
      have HKT := Lib.hid kt
      obtain ⟨bb, hbb⟩ : ∃ bb, bb = decide (lk ≤ lv) := ⟨_, rfl⟩
      have d5 : decide ((lk : Int) ≤ (lv : Int)) = bb := by rw [hbb]; exact decide_eq_decide.2 (by omega)
      have d6 : decide (lk ≤ lv) = bb := hbb.symm
      rw [← hbb] at hst
      obtain ⟨P1, hP1, hp1⟩ := add_str (x := ⟨#[40]⟩) (lx := [40]) rfl hT (by simp; omega)
      obtain ⟨P2, hP2, hp2⟩ := add_str (y := ⟨#[41]⟩) (ly := [41]) hP1 rfl (by simp; omega)
      -- what is added: the sign, or nothing; the operand, or the operand in parentheses
      obtain ⟨Y, hY, ha1⟩ := add_str hs hS0 (by omega)
      obtain ⟨Z1, hZ1, ha2⟩ := add_str hs hT (by omega)
      obtain ⟨Z2, hZ2, ha3⟩ := add_str hs hP2 (by simp; omega)
      obtain ⟨Z3, hZ3, ha4⟩ := add_str hY hT (by simp; omega)
      obtain ⟨Z4, hZ4, ha5⟩ := add_str hY hP2 (by simp; omega)
      have HZL := Lib.hid (show (ptx gs (betweenI gs sp sw lv (g.ins.take (j + 1)))).length ≤ (j + 1) * 1048600 by
        rw [hst]
        have h1 : (if j = 0 then ([] : List UInt8) else sp).length ≤ 10 := by
          split
          · simp
          · exact hsl
        have h2 : (if bb = true then [40] ++ TX gs k ++ [41] else TX gs k).length ≤ 1048578 := by
          split
          · simp; omega
          · omega
        rw [List.length_append, List.length_append]
        omega)
      have R1 := Lib.hid (show j = 0 → bb = false → Z1 = ⟨(ptx gs (betweenI gs sp sw lv (g.ins.take (j + 1)))).toArray⟩ from fun h1 h2 => by rw [hst, if_pos h1, if_neg (by simp [h2]), hZ1]; rfl)
      have R2 := Lib.hid (show j = 0 → bb = true → Z2 = ⟨(ptx gs (betweenI gs sp sw lv (g.ins.take (j + 1)))).toArray⟩ from fun h1 h2 => by rw [hst, if_pos h1, if_pos h2, hZ2]; simp)
      have R3 := Lib.hid (show j ≠ 0 → bb = false → Z3 = ⟨(ptx gs (betweenI gs sp sw lv (g.ins.take (j + 1)))).toArray⟩ from fun h1 h2 => by rw [hst, if_neg h1, if_neg (by simp [h2]), hZ3, List.append_assoc])
      have R4 := Lib.hid (show j ≠ 0 → bb = true → Z4 = ⟨(ptx gs (betweenI gs sp sw lv (g.ins.take (j + 1)))).toArray⟩ from fun h1 h2 => by rw [hst, if_neg h1, if_pos h2, hZ4]; simp)
      clear hst hs hZ1 hZ2 hZ3 hZ4 hY hP1 hP2 hT hS0 hG hlk hbb hx hxm hxr hll hsz hsl ka0 ka1 ka2
      by_cases hj0 : j = 0
      · have d3 : decide ((0 : Int) < (j : Int)) = false := decide_eq_false (by omega)
        have d4 : decide (0 < j) = false := decide_eq_false (by omega)
        have HJ0 := Lib.hid hj0
        clear hj0
        go_wp2_with fail
        refine (KLO.out wq).mono ?_
        rintro e w4 ⟨rfl, hb⟩
        have hz := behind_of_below hb
        have HB4 := Lib.hid (HB.out.trans (hb.mono HB.out.size))
        have KE4 := Lib.hid (behind_cellX hz KE.out (by simp))
        have C14 := Lib.hid (behind_cellX hz C1.out (by simp))
        have K04 := Lib.hid (behind_cellX hz K0.out (by simp))
        have K14 := Lib.hid (behind_cellX hz K1.out (by simp))
        have K24 := Lib.hid (behind_cellX hz K2.out (by simp))
        have G04 := Lib.hid (behind_cellX hz GR0.out (by simp))
        have G14 := Lib.hid (behind_cellX hz GR1.out (by simp))
        have G24 := Lib.hid (behind_cellX hz GR2.out (by simp))
        clear hb hz g0 g1 g2 ke kt KE C1 K0 K1 K2 GR0 GR1 GR2 HKT
        go_upto_region 30 with fail
        refine wp_game (List.replicate 13 0) [] B0 fin_B0 (has_B0 _) (by kernel_rfl) (by kernel_rfl) ?_
        refine lex_quietE 13 (by kernel_rfl) (by rfl) ?_
        apply Exists.intro
        refine ⟨fun z hz => ?_, ?_⟩
        · have f1 := behind_cellXp hz KE4.out (by simp)
          have f2 := behind_cellXp hz C14.out (by simp)
          have f3 := behind_cellXp hz K04.out (by simp)
          have f4 := behind_cellXp hz K14.out (by simp)
          have f5 := behind_cellXp hz K24.out (by simp)
          have f6 := behind_cellXp hz G04.out (by simp)
          have f7 := behind_cellXp hz G14.out (by simp)
          have f8 := behind_cellXp hz G24.out (by simp)
          clear hz
          simp only [List.take_succ_cons, List.take_zero]
          unfold Cx
          repeat (go_big_quiet_step (first | with_reducible exact KLV.out.at _ _ | with_reducible exact KLO.out.at _ _))
          exact wpQuiet_nil rfl
        simp only [List.drop_succ_cons, List.drop_zero]
        refine lex_nil ?_
        intro z hz _
        have HB5 := Lib.hid (HB4.out.trans (hz.below.mono HB4.out.size))
        clear hz KE4 C14 K04 K14 K24 G04 G14 G24
        cases bb with
        | false =>
          have HR := Lib.hid (R1.out HJ0.out rfl)
          go_wp2_with fail
          go_roundw
          case rel => exact ⟨j + 1, Z1, by omega, by go_num, rfl, HR.out, HZL.out, HB5.out⟩
          case measure => simp [intOf]; omega
        | true =>
          have HR := Lib.hid (R2.out HJ0.out rfl)
          go_wp2_with fail
          go_roundw
          case rel => exact ⟨j + 1, Z2, by omega, by go_num, rfl, HR.out, HZL.out, HB5.out⟩
          case measure => simp [intOf]; omega
      · have d3 : decide ((0 : Int) < (j : Int)) = true := decide_eq_true (by omega)
        have d4 : decide (0 < j) = true := decide_eq_true (by omega)
        have HJ0 := Lib.hid hj0
        clear hj0
        go_wp2_with fail
        refine (KLO.out wq).mono ?_
        rintro e w4 ⟨rfl, hb⟩
        have HB4 := Lib.hid (HB.out.trans (hb.mono HB.out.size))
        have GS := Lib.hid ((behind_of_below hb).keep GR.out (by simp))
        clear g0 g1 g2 ke kt
        have g0 := blk_cell GS.out 0 rfl
        go_wp2_with fail
        refine (KSG.out w4).mono ?_
        rintro e w5 ⟨rfl, hb2⟩
        have HB5 := Lib.hid (HB4.out.trans (hb2.mono HB4.out.size))
        have hz := behind_of_below (hb.trans (hb2.mono hb.size))
        have KE4 := Lib.hid (behind_cellX hz KE.out (by simp))
        have C14 := Lib.hid (behind_cellX hz C1.out (by simp))
        have K04 := Lib.hid (behind_cellX hz K0.out (by simp))
        have K14 := Lib.hid (behind_cellX hz K1.out (by simp))
        have K24 := Lib.hid (behind_cellX hz K2.out (by simp))
        have G04 := Lib.hid (behind_cellX hz GR0.out (by simp))
        have G14 := Lib.hid (behind_cellX hz GR1.out (by simp))
        have G24 := Lib.hid (behind_cellX hz GR2.out (by simp))
        clear hb hb2 hz g0 KE C1 K0 K1 K2 GR0 GR1 GR2 HKT GS
        go_upto_region 30 with fail
        refine wp_game (List.replicate 13 0) [] B0 fin_B0 (has_B0 _) (by kernel_rfl) (by kernel_rfl) ?_
        refine lex_quietE 13 (by kernel_rfl) (by rfl) ?_
        apply Exists.intro
        refine ⟨fun z hz => ?_, ?_⟩
        · have f1 := behind_cellXp hz KE4.out (by simp)
          have f2 := behind_cellXp hz C14.out (by simp)
          have f3 := behind_cellXp hz K04.out (by simp)
          have f4 := behind_cellXp hz K14.out (by simp)
          have f5 := behind_cellXp hz K24.out (by simp)
          have f6 := behind_cellXp hz G04.out (by simp)
          have f7 := behind_cellXp hz G14.out (by simp)
          have f8 := behind_cellXp hz G24.out (by simp)
          clear hz
          simp only [List.take_succ_cons, List.take_zero]
          unfold Cx
          repeat (go_big_quiet_step (first | with_reducible exact KLV.out.at _ _ | with_reducible exact KLO.out.at _ _))
          exact wpQuiet_nil rfl
        simp only [List.drop_succ_cons, List.drop_zero]
        refine lex_nil ?_
        intro z hz _
        have HB6 := Lib.hid (HB5.out.trans (hz.below.mono HB5.out.size))
        clear hz KE4 C14 K04 K14 K24 G04 G14 G24
        cases bb with
        | false =>
          have HR := Lib.hid (R3.out HJ0.out rfl)
          go_wp2_with fail
          go_roundw
          case rel => exact ⟨j + 1, Z3, by omega, by go_num, rfl, HR.out, HZL.out, HB6.out⟩
          case measure => simp [intOf]; omega
        | true =>
          have HR := Lib.hid (R4.out HJ0.out rfl)
          go_wp2_with fail
          go_roundw
          case rel => exact ⟨j + 1, Z4, by omega, by go_num, rfl, HR.out, HZL.out, HB6.out⟩
          case measure => simp [intOf]; omega
    · have d1 : decide ((j : Int) < (g.ins.length : Int)) = false := decide_eq_false (by omega)
      have d2 : decide (j < g.ins.length) = false := decide_eq_false hlt
      have hjl : j = g.ins.length := by omega
      have hs := HS.out
      rw [hjl, List.take_length] at hs
      have HSS := Lib.hid hs
      clear hs hjl hlt
      go_wp2_with fail
      refine (KLO.out wq).mono ?_
      rintro e w4 ⟨rfl, hb⟩
      have HB5 := Lib.hid (HB1.out.trans ((HB.out.trans (hb.mono HB.out.size)).mono HB1.out.size))
      clear hb g0 g1 g2
      go_wp2_with fail
      exact HP.out s _ _ HSS.out HPC.out HB5.out

end Go.Proofs.YtmaiofimmjedjaaDoor

/- The reference's formulas: a gate of any kind is written. -/
namespace Go.Proofs.YtmaiofimmjedjaaDoor
open Go.RowKit

theorem xWrite {n : Int} {gs : List Gt} {a : Option Addr} {g : Gt} {i : Nat} {ip pk : Option Addr} {w : World} (h : WrH n gs a g i ip pk w) (ca ic ck : Nat) :
    Calls Tryd.prog 21 #[.agg #[.int .i64 n, .slice a gs.length ca], .agg #[.int .i64 g.k, .int .i64 g.lit, .slice ip g.ins.length ic], .slice pk i ck] w fun e w' => e = .returned (.string ⟨(ptx gs (pcsI gs g)).toArray⟩) ∧ Below w.heap.size w w' := by
  have hok := h.ok
  by_cases k0 : g.k = 0
  · exact xWrite_zero h ca ic ck k0 (by unfold pcsI; rw [if_pos k0]; rfl)
  by_cases k1 : g.k = 1
  · exact xWrite_one h ca ic ck k1 (by unfold pcsI; rw [if_neg k0, if_pos k1]; rfl)
  by_cases k2 : g.k = 2
  · have hl := hok.lit k2
    have hn := h.n128
    unfold litI at hl
    simp only [Bool.or_eq_true, decide_eq_true_eq] at hl
    rcases hl with hl | hl
    · obtain ⟨m, hm⟩ : ∃ m : Nat, g.lit = (m : Int) := ⟨g.lit.toNat, by omega⟩
      exact xWrite_litp h ca ic ck k2 hm (by omega) (by omega) (by unfold pcsI; rw [if_neg k0, if_neg k1, if_pos k2, if_neg (by omega), hm]; simp [ptx])
    · obtain ⟨m, hm⟩ : ∃ m : Nat, g.lit = -(m : Int) := ⟨(-g.lit).toNat, by omega⟩
      exact xWrite_litn h ca ic ck k2 hm (by omega) (by omega) (by unfold pcsI; rw [if_neg k0, if_neg k1, if_pos k2, if_pos (by omega), hm, Int.neg_neg]; simp [ptx])
  by_cases k3 : g.k = 3
  · obtain ⟨x, hx⟩ := List.length_eq_one_iff.1 (many_one hok.many k3)
    have hin := hok.ins x (by rw [hx]; simp)
    have hi := h.hi
    obtain ⟨m, rfl⟩ : ∃ m : Nat, x = m := ⟨x.toNat, by omega⟩
    refine xWrite_not h ca ic ck k3 hx (by omega) ?_
    unfold pcsI
    rw [if_neg k0, if_neg k1, if_neg k2, if_pos k3, hx]
    show ptx gs (.s [33] [[33]] :: putI (m : Int) (notParI (gI gs (m : Int)))) = _
    unfold putI
    split <;> simp [ptx]
  by_cases k7 : g.k = 7
  · obtain ⟨x, y, hx⟩ := len_two (many_two hok.many k7)
    have hin := hok.ins x (by rw [hx]; simp)
    have hin2 := hok.ins y (by rw [hx]; simp)
    have hi := h.hi
    obtain ⟨m, rfl⟩ : ∃ m : Nat, x = m := ⟨x.toNat, by omega⟩
    obtain ⟨m2, rfl⟩ : ∃ m : Nat, y = m := ⟨y.toNat, by omega⟩
    refine xWrite_iff h ca ic ck k7 hx (by omega) (by omega) ?_
    unfold pcsI
    rw [if_neg k0, if_neg k1, if_neg k2, if_neg k3, if_pos k7, hx]
    show ptx gs (putI (m : Int) false ++ .s [32, 60, 45, 62, 32] [[60, 45, 62]] :: putI (m2 : Int) (decide (levelI (gI gs (m2 : Int)) = 2))) = _
    unfold putI
    rw [if_neg (show ¬ (false = true) by simp)]
    split <;> simp [ptx]
  by_cases h7 : levelI g = 7
  · exact xWrite_list h ca ic ck k0 k1 k2 k3 k7 h7 (by unfold pcsI; rw [if_neg k0, if_neg k1, if_neg k2, if_neg k3, if_neg k7, if_pos h7])
  · have hl : 4 ≤ levelI g ∧ levelI g ≤ 6 := by
      unfold levelI at h7 ⊢
      rw [if_neg k7] at h7 ⊢
      split at h7
      · exact absurd rfl h7
      · rename_i hlen
        rw [if_neg hlen]
        split
        · omega
        split
        · omega
        split
        · omega
        · rename_i a b c; rw [if_neg a, if_neg b, if_neg c] at h7; exact absurd rfl h7
    exact xWrite_chain h ca ic ck k0 k1 k2 k3 k7 (levelI g) rfl hl.1 hl.2 (by unfold pcsI; rw [if_neg k0, if_neg k1, if_neg k2, if_neg k3, if_neg k7, if_neg h7])
end Go.Proofs.YtmaiofimmjedjaaDoor
