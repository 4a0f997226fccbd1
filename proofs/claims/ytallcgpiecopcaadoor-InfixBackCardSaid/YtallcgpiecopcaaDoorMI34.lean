/- Texts of this claim, joined: HLt, HT2, HT3. -/
import Derived.Test.YtallcgpiecopcaaDoorMI33
import Derived.Test.YtallcgpiecopcaaDoorMI28
import Derived.Deep.DeepCutAuto
import Derived.Test.YtallcgpiecopcaaDoorMI17

/- The law: what is written is true in the same sets. -/
namespace Go.Proofs.YtallcgpiecopcaaDoor
open Go.RowKit

def fewI (gs : List Gt) : Bool := decide (gs.length ≤ 40) && decide (sizeI gs ≤ 200)
set_option maxHeartbeats 1600000 in
set_option maxRecDepth 100000 in
theorem gFew (n : Int) (gs : List Gt) (a : Option Addr) (c : Nat) (w : World) (hC : CircAt w.heap.size w a gs) (hf : Fits gs) (hl : gs.length ≤ 140737488355328) : Calls Tryd.prog 10 #[.agg #[.int .i64 n, .slice a gs.length c]] w fun e w' => e = .returned (.bool (fewI gs)) ∧ Below w.heap.size w w' := by
  obtain ⟨Post, hPost⟩ : ∃ P : Ending → World → Prop, P = fun e w' => e = .returned (.bool (fewI gs)) ∧ Below w.heap.size w w' := ⟨_, rfl⟩
  rw [← hPost]
  have HP := Lib.hid (show ∀ (r : Bool) (w' : World), fewI gs = r → Below w.heap.size w w' → Post (.returned (.bool r)) w' from fun r w' h hb => by rw [hPost]; exact ⟨by rw [h], hb⟩)
  have HB1 := Lib.hid (below_one w (.cells #[.int .i64 n, .slice a gs.length c] 24 (0, 0)))
  by_cases h : gs.length ≤ 40
  · have d1 : decide ((gs.length : Int) ≤ 40) = true := decide_eq_true (by omega)
    have d2 : decide (gs.length ≤ 40) = true := decide_eq_true h
    have KS := xSize n gs a c _ (hC.later HB1.out) hf (by omega)
    obtain ⟨b, hb⟩ : ∃ b, b = decide (sizeI gs ≤ 200) := ⟨_, rfl⟩
    have HF := Lib.hid (show fewI gs = b by unfold fewI; rw [d2, hb]; rfl)
    have d3 : decide ((sizeI gs : Int) ≤ 200) = b := by rw [hb]; by_cases h : sizeI gs ≤ 200 <;> simp [h] <;> omega
    have d4 := hb.symm
    generalize sizeI gs = sz at *
    clear hPost hC hf h hb
    go_enter Tryd.func10, Tryd.ntmps10
    go_wp2_with fail
    refine KS.mono ?_
    rintro e w2 ⟨rfl, hb2⟩
    have HB2 := Lib.hid (HB1.out.trans (hb2.mono HB1.out.size))
    clear hb2 KS
    go_wp2_with fail
    exact HP.out _ _ HF.out HB2.out
  · have d1 : decide ((gs.length : Int) ≤ 40) = false := decide_eq_false (by omega)
    have d2 : decide (gs.length ≤ 40) = false := decide_eq_false h
    have HF := Lib.hid (show fewI gs = false by unfold fewI; rw [d2]; rfl)
    clear hPost hC hf h
    go_enter Tryd.func10, Tryd.ntmps10
    go_wp2_with fail
    exact HP.out _ _ HF.out HB1.out
theorem print_cases (n : Int) (gs : List Gt) : ((printI n gs).1 = [] ∧ (printI n gs).2 ≠ 0) ∨ (checkI n gs = 0 ∧ (printI n gs).2 = 0 ∧ (TX gs ((gs.length : Nat) - 1 : Nat)).length ≤ 1048576 ∧ (printI n gs).1 = TX gs ((gs.length : Nat) - 1 : Nat)) := by
  unfold printI
  by_cases h : checkI n gs = 0
  · rw [if_neg (by simpa using h)]
    by_cases h2 : 1048576 < (TX gs ((gs.length : Nat) - 1 : Nat)).length
    · rw [if_pos h2]; exact .inl ⟨rfl, by simp⟩
    · rw [if_neg h2]; exact .inr ⟨h, rfl, by omega, rfl⟩
  · rw [if_pos h]; exact .inl ⟨rfl, h⟩

set_option maxHeartbeats 6400000 in
set_option maxRecDepth 100000 in
theorem true_law (n : Int) (gs : List Gt) (a : Option Addr) (c : Nat) (a0 a1 : Nat) (w : World) (hV : VarsI w) (hC : CircAt w.heap.size w a gs) (hf : Fits gs) (hl : gs.length ≤ 20000000000000) : Calls Tryd.prog 6 #[.agg #[.int .i64 n, .slice a gs.length c], setV a0 a1] w fun e w' => e = .returned (.bool true) ∧ Below w.heap.size w w' := by
  obtain ⟨Post, hPost⟩ : ∃ P : Ending → World → Prop, P = fun e w' => e = .returned (.bool true) ∧ Below w.heap.size w w' := ⟨_, rfl⟩
  rw [← hPost]
  have HP := Lib.hid hPost
  have HV := Lib.hid hV
  have HC := Lib.hid hC
  have HF := Lib.hid hf
  have KW := Lib.hid (fun w1 (h : Below w.heap.size w w1) => gWorks w1 (hV.below h))
  have HPC := Lib.hid (print_cases n gs)
  have HEV := Lib.hid (fun (gs : List Gt) (a : Option Addr) (c : Nat) (w : World) h1 h2 h3 => xEval n gs a c a0 a1 w h1 h2 h3)
  clear hPost hV hC hf
  unfold setV at *
  go_enter Tryd.func6, Tryd.ntmps6
  go_upto_region 1 with fail
  refine wp_gen ?_
  intro w1 hw1
  have A1 := Lib.hid (show w1.heap[w.heap.size]? = some (.cells #[.int .i64 n, .slice a gs.length c] 24 (0, 0)) by rw [hw1]; exact new_two1 _ _ _)
  have B1 := Lib.hid (show w1.heap[w.heap.size + 1]? = some (.cells #[.int .u64 (a0 : Nat), .int .u64 (a1 : Nat)] 38 (0, 0)) by rw [hw1]; exact new_two2 _ _ _)
  have HB1 := Lib.hid (show Below w.heap.size w w1 by rw [hw1]; exact below_two _ _ _)
  clear hw1
  have KF := gFew n gs a c w1 (HC.out.later HB1.out) HF.out (by omega)
  have c0 := blk_cell A1.out 0 rfl
  have c1 := blk_cell A1.out 1 rfl
  generalize fewI gs = fw at *
  go_wp2_with fail
  refine KF.mono ?_
  rintro e w2 ⟨rfl, hb2⟩
  have A2 := Lib.hid ((behind_of_below hb2).keep A1.out (by simp))
  have B2 := Lib.hid ((behind_of_below hb2).keep B1.out (by simp))
  have HB2 := Lib.hid (HB1.out.trans (hb2.mono HB1.out.size))
  clear hb2 KF A1 B1 HB1 c0 c1
  cases fw with
  | false =>
    go_wp2_with fail
    refine (KW.out w2 HB2.out).mono ?_
    rintro e w3 ⟨rfl, hb⟩
    have HB3 := Lib.hid (HB2.out.trans (hb.mono HB2.out.size))
    clear hb
    go_wp2_with fail
    rw [HP.out]
    exact ⟨rfl, HB3.out⟩
  | true =>
  have KP := gPrint n gs a c w2 (HC.out.later HB2.out) HF.out (by omega) (HV.out.below HB2.out)
  have c0 := blk_cell A2.out 0 rfl
  have c1 := blk_cell A2.out 1 rfl
  obtain ⟨tx, htx⟩ : ∃ tx, tx = (printI n gs).1 := ⟨_, rfl⟩
  obtain ⟨er, her⟩ : ∃ er, er = (printI n gs).2 := ⟨_, rfl⟩
  rw [← htx, ← her] at KP HPC
  clear htx her
  go_wp2_with fail
  refine KP.mono ?_
  rintro e w3 ⟨rfl, hb3⟩
  have A3 := Lib.hid ((behind_of_below hb3).keep A2.out (by simp))
  have B3 := Lib.hid ((behind_of_below hb3).keep B2.out (by simp))
  have HB3 := Lib.hid (HB2.out.trans (hb3.mono HB2.out.size))
  clear hb3 KP A2 B2 HB2 c0 c1
  rcases HPC.out with ⟨htx, her⟩ | ⟨hck, her, hlen, htx⟩
  · have hb1 : (er != 0) = true := by simp [bne, beq_no her]
    clear her HPC htx
    go_wp2_with fail
    refine (KW.out w3 HB3.out).mono ?_
    rintro e w4 ⟨rfl, hb⟩
    have HB4 := Lib.hid (HB3.out.trans (hb.mono HB3.out.size))
    clear hb
    go_wp2_with fail
    rw [HP.out]
    exact ⟨rfl, HB4.out⟩
  · subst her
    have c0 := blk_cell A3.out 0 rfl
    have hpw := parse_written hck hlen
    have hne := (check_fits hck).2.2
    obtain ⟨h0, h128, hlen2, hsize, hne2, hok⟩ := check_ok hck
    rw [← htx] at hpw hlen
    have HEVE := Lib.hid (fun (T : List Gt) (hT : checkI n T = 0) (e : T = TR gs ((gs.length - 1 : Nat) : Int) 0) => show evalI n T a0 a1 = evalI n gs a0 a1 by
      obtain ⟨_, _, _, _, _, hok'⟩ := check_ok hT
      have e1 : evalI n T a0 a1 = if subS a0 a1 (setL (allL n) 128).1 (setL (allL n) 128).2 128 = false then false else VL (litB (bitS a0 a1)) T ((T.length - 1 : Nat) : Int) := if_neg (by simpa using hT)
      have e2 : evalI n gs a0 a1 = if subS a0 a1 (setL (allL n) 128).1 (setL (allL n) 128).2 128 = false then false else VL (litB (bitS a0 a1)) gs ((gs.length - 1 : Nat) : Int) := if_neg (by simpa using hck)
      rw [e1, e2]
      split
      · rfl
      · subst e
        exact eval_tree hok (by omega) hok')
    clear HPC hok hsize hne2
    rcases hpw with ⟨hp, hT⟩ | ⟨q, hp⟩
    · have KQ := parse_at tx n _ 0 0 hp w3 (HV.out.below HB3.out) (by omega)
      have hEE := HEVE.out _ hT rfl
      obtain ⟨T, hTT⟩ : ∃ T, T = TR gs ((gs.length - 1 : Nat) : Int) 0 := ⟨_, rfl⟩
      rw [← hTT] at KQ hT hEE
      obtain ⟨hfit, hTl, hTn⟩ := check_fits hT
      rw [if_neg hTn, show ((0 : Nat) : Int) = 0 from rfl] at KQ
      have HFT := Lib.hid hfit
      have HEE := Lib.hid hEE
      clear htx hp hTT hT hfit hEE hck HEVE
      go_wp2_with fail
      refine KQ.mono ?_
      rintro e w4 ⟨a4, d4, rfl, hC4, hb4⟩
      have HC4 := Lib.hid hC4
      have A4 := Lib.hid ((behind_of_below hb4).keep A3.out (by simp))
      have B4 := Lib.hid ((behind_of_below hb4).keep B3.out (by simp))
      have HB4 := Lib.hid (HB3.out.trans (hb4.mono HB3.out.size))
      clear hC4 hb4 KQ A3 B3 HB3 c0
      go_upto_region 7 with fail
      refine wp_gen ?_
      intro w5 hw5
      have HS5 := Lib.hid (show w5.heap[w4.heap.size]? = some (.cells #[.int .i64 n, .slice a4 T.length d4] 24 (0, 0)) by rw [hw5]; exact new_one _ _)
      have hb5 : Below w4.heap.size w4 w5 := by rw [hw5]; exact below_one _ _
      have A5 := Lib.hid ((behind_of_below hb5).keep A4.out (by simp))
      have B5 := Lib.hid ((behind_of_below hb5).keep B4.out (by simp))
      have HC5 := Lib.hid (HC4.out.later hb5)
      have HB5 := Lib.hid (HB4.out.trans (hb5.mono HB4.out.size))
      clear hw5 hb5 A4 B4 HC4 HB4
      have K1 := Lib.hid (show GivesFrom w5 17 #[.agg #[.int .i64 n, .slice a gs.length c], .agg #[.int .u64 (a0 : Nat), .int .u64 (a1 : Nat)]] (.bool (evalI n gs a0 a1)) from fun z hz => HEV.out gs a c z (HC.out.later (HB5.out.trans (hz.mono HB5.out.size))) HF.out (by omega))
      have K2 := Lib.hid (show GivesFrom w5 17 #[.agg #[.int .i64 n, .slice a4 T.length d4], .agg #[.int .u64 (a0 : Nat), .int .u64 (a1 : Nat)]] (.bool (evalI n gs a0 a1)) from fun z hz => by rw [← HEE.out]; exact HEV.out T a4 d4 z (HC5.out.later hz) HFT.out (by omega))
      have K3 := Lib.hid (show GivesFrom w5 11 #[] (.bool true) from fun z hz => KW.out z (HB5.out.trans (hz.mono HB5.out.size)))
      have C0 := Lib.hid (blk_cell A5.out 0 rfl)
      have C1 := Lib.hid (blk_cell A5.out 1 rfl)
      have D0 := Lib.hid (blk_cell HS5.out 0 rfl)
      have D1 := Lib.hid (blk_cell HS5.out 1 rfl)
      have S0 := Lib.hid (blk_cell B5.out 0 rfl)
      have S1 := Lib.hid (blk_cell B5.out 1 rfl)
      have dT : decide ((0 : Int) < (T.length : Int)) = true := decide_eq_true (by omega)
      have dT2 : decide (0 < T.length) = true := decide_eq_true (by omega)
      generalize evalI n gs a0 a1 = ev at *
      have evv : (ev == ev) = true := by simp
      clear hTn
      refine wp_game (List.replicate 25 0) [] B0 fin_B0 (has_B0 _) (by kernel_rfl) (by kernel_rfl) ?_
      refine lex_quietE 25 (by kernel_rfl) (by rfl) ?_
      apply Exists.intro
      refine ⟨fun z hz => ?_, ?_⟩
      · have e0 := behind_cellXp hz C0.out (by simp)
        have e1 := behind_cellXp hz C1.out (by simp)
        have e2 := behind_cellXp hz D0.out (by simp)
        have e3 := behind_cellXp hz D1.out (by simp)
        have e4 := behind_cellXp hz S0.out (by simp)
        have e5 := behind_cellXp hz S1.out (by simp)
        have hzb := hz.below
        clear hz
        simp only [List.take_succ_cons, List.take_zero]
        unfold Cx
        repeat (go_big_quiet_step (first | with_reducible exact K1.out.at2 hzb _ | with_reducible exact K2.out.at2 hzb _ | with_reducible exact K3.out.at2 hzb _))
        exact wpQuiet_nil rfl
      simp only [List.drop_succ_cons, List.drop_zero]
      refine lex_nil ?_
      intro z hz _
      have HBZ := Lib.hid (HB5.out.trans (hz.below.mono HB5.out.size))
      clear hz
      go_wp2_with fail
      rw [HP.out]
      exact ⟨rfl, HBZ.out⟩
    · have KQ := parse_at tx n [] q 2 hp w3 (HV.out.below HB3.out) (by omega)
      rw [show (if ([] : List Gt).length = 0 then (0 : Int) else n) = 0 from rfl, show ([] : List Gt).length = 0 from rfl] at KQ
      clear htx hp hck HEVE
      go_wp2_with fail
      refine KQ.mono ?_
      rintro e w4 ⟨a4, d4, rfl, _, hb4⟩
      have HB4 := Lib.hid (HB3.out.trans (hb4.mono HB3.out.size))
      clear hb4 KQ A3 B3 HB3 c0
      go_upto_region 7 with fail
      refine wp_gen ?_
      intro w5 hw5
      have hb5 : Below w4.heap.size w4 w5 := by rw [hw5]; exact below_one _ _
      have HB5 := Lib.hid (HB4.out.trans (hb5.mono HB4.out.size))
      clear hw5 hb5 HB4
      have K3 := Lib.hid (show GivesFrom w5 11 #[] (.bool true) from fun z hz => KW.out z (HB5.out.trans (hz.mono HB5.out.size)))
      refine wp_game (List.replicate 25 0) [] B0 fin_B0 (has_B0 _) (by kernel_rfl) (by kernel_rfl) ?_
      refine lex_quietE 25 (by kernel_rfl) (by rfl) ?_
      apply Exists.intro
      refine ⟨fun z hz => ?_, ?_⟩
      · have hzb := hz.below
        clear hz
        simp only [List.take_succ_cons, List.take_zero]
        unfold Cx
        repeat (go_big_quiet_step (with_reducible exact K3.out.at2 hzb _))
        exact wpQuiet_nil rfl
      simp only [List.drop_succ_cons, List.drop_zero]
      refine lex_nil ?_
      intro z hz _
      have HBZ := Lib.hid (HB5.out.trans (hz.below.mono HB5.out.size))
      clear hz
      go_wp2_with fail
      rw [HP.out]
      exact ⟨rfl, HBZ.out⟩
end Go.Proofs.YtallcgpiecopcaaDoor

/- The reference's tree form: grow. -/
namespace Go.Proofs.YtallcgpiecopcaaDoor
open Go.RowKit

set_option maxHeartbeats 6400000 in
set_option maxRecDepth 100000 in
theorem xGrow {N : Nat} {W : World} {n : Int} {G : List Gt} {a : Option Addr} (ca : Nat) (hok : Ok n G) (hC : CircAt N W a G) (_hGl : G.length ≤ 4096) (hGs : sizeI G ≤ 65536) :
    ∀ (i : Nat), i < G.length → ∀ (br : Nat) (E : List Nat) (v : Value) (gs : List Gt) (x : World), GR x N br E v gs → (∀ b ∈ E, b < x.heap.size) → br < x.heap.size → Below N W x → N ≤ x.heap.size → gs.length + (TR G i gs.length).length ≤ 4096 →
      Calls Tryd.prog 33 #[.agg #[.int .i64 n, .slice a G.length ca], .int .i64 (i : Int), v] x (Grew N br E v (gs ++ TR G i gs.length) x) := by
  intro i
  induction i using Nat.strongRecOn with
  | ind i ih =>
  intro hi br E v gs x hgr hE hbr hW hN hlen
  obtain ⟨g, hg⟩ : ∃ g, G[i]? = some g := ⟨_, List.getElem?_eq_getElem hi⟩
  have hgk := hok i g hg
  rw [TR_eq hok hg] at hlen ⊢
  obtain ⟨Post, hPost⟩ : ∃ P : Ending → World → Prop, P = Grew N br E v (gs ++ ((seqI (TR G) g.ins gs.length).1 ++ [⟨g.k, g.lit, (seqI (TR G) g.ins gs.length).2⟩])) x := ⟨_, rfl⟩
  rw [← hPost]
  have HP := Lib.hid hPost
  have HGR := Lib.hid hgr
  have HC := Lib.hid hC
  have HW := Lib.hid hW
  have HLEN := Lib.hid (show gs.length + (seqI (TR G) g.ins gs.length).1.length + 1 ≤ 4096 by simp only [List.length_append, List.length_singleton] at hlen; omega)
  have HGE := Lib.hid (fun b hb => (hgr.ge b hb))
  have HINS := Lib.hid (fun k hk => hgk.ins k hk)
  have HIH := Lib.hid (fun j hj => ih j hj (by omega))
  have HEE := Lib.hid hE
  obtain ⟨b, o, p, d, hb, ea, k0, k1, k2, hin⟩ := (hC.below hW (Nat.le_refl _)) i g hg
  subst ea
  obtain ⟨pv, cv, hv⟩ := hgr.slice
  subst hv
  have hgl : gs.length ≤ 4096 := by omega
  have hinl := Nat.le_trans (ins_size (List.mem_of_getElem? hg)) hGs
  obtain ⟨i0, ii, iz0, iz1, iz2⟩ := info_parts Tryd.infoIntP
  have II := Lib.hid ii
  have IZ0 := Lib.hid iz0
  have IZ1 := Lib.hid iz1
  have IZ2 := Lib.hid iz2
  obtain ⟨j0, ji, jz0, jz1, jz2⟩ := info_parts Tryd.infoGate
  have JI := Lib.hid ji
  have JZ0 := Lib.hid jz0
  have JZ1 := Lib.hid jz1
  have JZ2 := Lib.hid jz2
  have HG := Lib.hid hg
  clear hPost hgr hC hW hlen ih hgk hE hok hg hin ii iz0 iz1 iz2 ji jz0 jz1 jz2 k0 k1 k2 hb
  go_enter Tryd.func33, Tryd.ntmps33
  go_upto_region 1 with fail
  refine wp_gen ?_
  intro w1 hw1
  have A1 := Lib.hid (show w1.heap[x.heap.size]? = some (.cells #[.int .i64 n, .slice (some ⟨b, o, none⟩) G.length ca] 24 (0, 0)) by rw [hw1]; exact new_one _ _)
  have HB1 := Lib.hid (show Below x.heap.size x w1 by rw [hw1]; exact below_one _ _)
  clear hw1
  have HN1 := Lib.hid (show Below N W w1 from HW.out.trans (HB1.out.mono hN))
  obtain ⟨b', o', p', d', hb', ea, k0, k1, k2, _⟩ := (HC.out.below HN1.out (Nat.le_refl _)) i g HG.out
  cases ea
  have C1 := Lib.hid (blk_cell A1.out 1 rfl)
  have K0 := Lib.hid k0
  have K1 := Lib.hid k1
  clear k0 k1 k2 hb'
  refine wp_game [0, 0, 0, 0, 0, 0, 0, 0, 0, 0, 0, 0, 0, 3, 2] [] B0 fin_B0 (has_B0 _) (by kernel_rfl) (by kernel_rfl) ?_
  refine lex_quietE 13 (by kernel_rfl) (by rfl) ?_
  apply Exists.intro
  refine ⟨fun z hz => ?_, ?_⟩
  · have e1 := behind_cellXp hz C1.out (by simp)
    have e2 := behind_cellXp hz K0.out (by simp)
    have e3 := behind_cellXp hz K1.out (by simp)
    clear hz
    simp only [List.take_succ_cons, List.take_zero]
    unfold Cx
    repeat (go_big_quiet_step (fail))
    exact wpQuiet_nil rfl
  simp only [List.drop_succ_cons, List.drop_zero]
  refine lex_alloc (.agg #[.int .i64 0, .int .i64 0, .slice none 0 0]) (by rfl) (fun x => by kernel_rfl) (fun g7 q7 hn7 => ?_)
  unfold setSlot
  go_big_quiet_step (fail)
  refine wpQuiet_nil ?_
  refine lex_store_all g7 #[.int .i64 g.k, .int .i64 g.lit, .slice none 0 0] #[.int .i64 0, .int .i64 0, .slice none 0 0] 46 (by rfl) (by rfl) (by rfl) (Blocks.put_same _ _ _) rfl (.inr q7) (by kernel_rfl) (by simp [Value.oneCell']) ?_
  refine lex_nil ?_
  intro w2 hw2 hH
  have hlt1 := lt_of_heap A1.out
  have hltx := HGR.out.lt
  have L2 := Lib.hid (show GL N br E n G (some ⟨b, o, none⟩) ca g (.slice pv gs.length cv) x x.heap.size g7 (gs ++ (seqI (TR G) (g.ins.take 0) gs.length).1) (seqI (TR G) (g.ins.take 0) gs.length).2 (.slice pv gs.length cv) (.slice none 0 0) w2 by
    have hbx : Behind x [] w2 := (behind_of_below HB1.out).trans hw2 (by simp)
    refine ⟨?_, hw2.keep A1.out (by simp), hH g7 _ (Blocks.put_same _ _ _), .nil, by simp [rowBlk], fun hm => by have := hltx _ hm; omega, fun hm => by have := hltx _ hm; omega, by omega, Nat.le_refl _, by omega, hbx.mono (by simp), fun b hb => .inl hb⟩
    have : gs ++ (seqI (TR G) (g.ins.take 0) gs.length).1 = gs := by simp [seqI]
    rw [this]
    exact HGR.out.keep hbx (fun b hb => by simp at hb) (fun b hb => by
      rcases List.mem_cons.1 hb with rfl | hb
      · exact .inr (by omega)
      · exact .inl (by simpa [rowBlk] using hb)))
  clear hw2 hH hn7 q7 K0 K1 C1 HN1 A1 HB1 hlt1
  go_wp2_with fail
  go_loopw [8, 2] (fun t8 t2 wr => ∃ (k : Nat) (S : List Gt) (R : List Int) (v u : Value) (pq : Option Addr) (cq : Nat), k ≤ g.ins.length ∧ t8 = .int .i64 k ∧ t2 = v ∧ Hid (v = .slice pq S.length cq) ∧ Hid (S = gs ++ (seqI (TR G) (g.ins.take k) gs.length).1) ∧ Hid (R = (seqI (TR G) (g.ins.take k) gs.length).2) ∧ Hid (GL N br E n G (some ⟨b, o, none⟩) ca g (.slice pv gs.length cv) x x.heap.size g7 S R v u wr)) (fun t8 _ _ => g.ins.length - (intOf t8).toNat)
  case atStart =>
    refine ⟨0, _, _, _, _, pv, cv, Nat.zero_le _, rfl, rfl, ?_, rfl, rfl, L2.out⟩
    show Value.slice pv gs.length cv = _
    simp [seqI]
  case round =>
    obtain ⟨k, S, R, v, u, pq, cq, hk, rfl, rfl, hv, hS, hR, HL⟩ := hrel
    have hve := hv.out
    subst hve
    have hSl : S.length ≤ 4096 := by
      have h1 := hS.out
      have h2 := seqI_take_le (TR G) g.ins k gs.length
      have h3 := HLEN.out
      rw [h1, List.length_append]; omega
    have HNr := Lib.hid (show Below N W wr from HW.out.trans (HL.out.be.below_of (fun b hb => (HGE.out b hb).1) hN))
    obtain ⟨b', o', p', d', hb', ea, k0, k1, k2, hin⟩ := (HC.out.below HNr.out (Nat.le_refl _)) i g HG.out
    cases ea
    have HIN := Lib.hid hin
    have c1 := blk_cell HL.out.hc 1 rfl
    have d5 : decide ((S.length : Int) ≤ 5000) = true := decide_eq_true (by omega)
    have d6 : decide (S.length ≤ 5000) = true := decide_eq_true (by omega)
    have K2 := Lib.hid k2
    clear hin k0 k1 hb'
    by_cases hlt : k < g.ins.length
    · have hdd : decide ((k : Int) < (g.ins.length : Int)) = true := decide_eq_true (by omega)
      have hdd2 : decide (k < g.ins.length) = true := decide_eq_true hlt
      obtain ⟨y, hy⟩ : ∃ y, g.ins[k]? = some y := ⟨_, List.getElem?_eq_getElem hlt⟩
      obtain ⟨hy0, hy1⟩ := HINS.out y (List.mem_of_getElem? hy)
      obtain ⟨m, rfl⟩ : ∃ m : Nat, y = m := ⟨y.toNat, by omega⟩
      obtain ⟨b1, o1, _, eb, ky⟩ := HIN.out k _ (ints_get _ _ _ hy)
      have hsn := seqI_snoc (TR G) (m : Int) (g.ins.take k) gs.length
      rw [← take_snoc hy] at hsn
      have hle1 := seqI_take_le (TR G) g.ins (k + 1) gs.length
      have hSe : S.length = gs.length + (seqI (TR G) (g.ins.take k) gs.length).1.length := by rw [hS.out, List.length_append]
      rw [← hSe] at hsn
      have hS1 : S ++ TR G m S.length = gs ++ (seqI (TR G) (g.ins.take (k + 1)) gs.length).1 := by rw [hsn, hS.out, List.append_assoc]
      have hR1 : R ++ [((S.length + (TR G m S.length).length : Nat) : Int) - 1] = (seqI (TR G) (g.ins.take (k + 1)) gs.length).2 := by rw [hsn, hR.out]
      have hfit : S.length + (TR G m S.length).length ≤ 4096 := by
        have h1 := congrArg List.length hS1
        simp only [List.length_append] at h1
        have h3 := HLEN.out
        omega
      have hpos := TR_pos (G := G) (n := n) (i := m)
      have HS1 := Lib.hid hS1
      have HR1 := Lib.hid hR1
      have HFIT := Lib.hid hfit
      have KY := Lib.hid ky
      have C1 := Lib.hid c1
      have C0 := Lib.hid (blk_cell HL.out.hc 0 rfl)
      have hlx := lt_of_heap HL.out.hx
      have hlc := lt_of_heap HL.out.hc
      have hul := HL.out.ur.lt
      have hms : m < i := by omega
      have KGR := Lib.hid (fun (z : World) (hz : Behind wr [] z) => HIH.out m hms br (g7 :: (rowBlk u ++ E)) (.slice pq S.length cq) S z (HL.out.below hz).gr (fun b hb => by
          have hzs := hz.size
          have hxs := HL.out.be.size
          rcases List.mem_cons.1 hb with rfl | hb
          · omega
          · rcases List.mem_append.1 hb with hb | hb
            · have := hul b hb; omega
            · have := HEE.out b hb; omega) (by have := HL.out.be.size; have := hz.size; omega) (HNr.out.trans (hz.below.mono (Nat.le_trans hN HL.out.be.size))) (Nat.le_trans hN (Nat.le_trans HL.out.be.size hz.size)) HFIT.out)
      subst eb
      clear hy hsn hS1 hR1 hfit hSe ky hul hpos hle1
      go_upto_region 5 with fail
      clear c1 k2
      refine wp_game_tail 11 (List.replicate 13 0) [] B0 fin_B0 (has_B0 _) (by kernel_rfl) (by kernel_rfl) ?_
      simp only [List.take_succ_cons, List.take_zero]
      refine lex_quietE 11 (by kernel_rfl) (by rfl) ?_
      apply Exists.intro
      refine ⟨fun z hz => ?_, ?_⟩
      · have e0 := behind_cellXp hz C0.out (by simp)
        have e1 := behind_cellXp hz C1.out (by simp)
        have e2 := behind_cellXp hz K2.out (by simp)
        have e3 := behind_cellXp hz KY.out (by simp)
        clear hz
        simp only [List.take_succ_cons, List.take_zero]
        unfold Cx
        repeat (go_big_quiet_step (fail))
        exact wpQuiet_nil rfl
      simp only [List.drop_succ_cons, List.drop_zero]
      refine lex_nil ?_
      intro z hz _
      have KG := KGR.out z hz
      have LZ := Lib.hid (HL.out.below hz)
      clear hz KGR C0 C1 K2 KY
      go_wp2_with fail
      refine KG.mono ?_
      intro e w5 h5
      obtain ⟨v5, rfl, h6⟩ := LZ.out.after h5
      have L5 := Lib.hid h6
      obtain ⟨p5, c5, hv5⟩ := h6.gr.slice
      subst hv5
      have HL5 := Lib.hid (show (S ++ TR G (m : Int) S.length).length = S.length + (TR G (m : Int) S.length).length from List.length_append)
      obtain ⟨S5, hS5⟩ : ∃ S5, S5 = S ++ TR G (m : Int) S.length := ⟨_, rfl⟩
      rw [← hS5] at L5 HS1 HL5 ⊢
      have HR5 := Lib.hid (show R ++ [((S5.length : Nat) : Int) - 1] = (seqI (TR G) (g.ins.take (k + 1)) gs.length).2 by rw [HL5.out]; exact HR1.out)
      have hS5l : S5.length ≤ 4096 := by rw [HL5.out]; exact HFIT.out
      clear h5 h6 KG hS5 LZ HR1 HL5
      have x2 := blk_cell L5.out.hx 2 rfl
      have hrl : R.length ≤ 65536 := by have := seqI_len (TR G) (g.ins.take k) gs.length; rw [← hR.out, List.length_take] at this; omega
      obtain ⟨pu, cu, hu⟩ := L5.out.ur.slice
      subst hu
      have HUR := Lib.hid L5.out.ur
      go_wp2_with (at_builtin; refine wpList_append_row _ rfl _ _ 43 rfl 3 i0 (.int .i64 0) 1 8 Tryd.underlying43 II.out IZ0.out IZ1.out IZ2.out rfl _ _ _ rfl (HUR.out.keep (behind_of_below ((Below.refl _ _).alloc (Nat.le_refl _) _)) (by simp)) w5.heap.size 1 1 [.int .i64 ((S5.length : Int) - 1)] 3 rfl (heap_alloc_new w5 _) rfl (by intro u hu; simp at hu; subst hu; rfl) (by omega) (by unfold maxLen; omega) (by omega) ?_)
      intro v9 w9 hr9 hB9 hn9
      have hb9 : Behind w5 (rowBlk (.slice pu R.length cu)) w9 := ((behind_of_below ((Below.refl _ _).alloc (Nat.le_refl _) _)).mono (by simp)).trans hB9 (fun k hk => .inl hk)
      have hn9' : ∀ g ∈ rowBlk v9, g ∈ rowBlk (.slice pu R.length cu) ∨ w5.heap.size ≤ g := fun g hg => (hn9 g hg).imp id (fun h => by first | omega | (simp at h; omega))
      obtain ⟨p9, c9, rfl⟩ := hr9.slice
      have L10 := Lib.hid (L5.out.push hr9 hb9 hn9')
      have hx9 := hb9.keep L5.out.hx (fun hm => (L5.out.un _ hm).2.2.2 rfl)
      have q2 := blk_cell hx9 2 rfl
      have f2 := blk_free hx9 2
      clear hr9 hB9 hn9 hb9 hn9' hx9 x2
      go_wp2_with fail
      go_roundw
      case rel => exact ⟨k + 1, S5, _, _, _, p5, c5, by omega, by go_num, rfl, rfl, HS1.out, HR5.out, L10.out⟩
      case measure => simp [intOf]; omega
    · obtain rfl : k = g.ins.length := by omega
      have hdd : decide ((g.ins.length : Int) < (g.ins.length : Int)) = false := by simp
      have x0 := blk_cell HL.out.hx 0 rfl
      have x1 := blk_cell HL.out.hx 1 rfl
      have x2 := blk_cell HL.out.hx 2 rfl
      obtain ⟨cl, hrow, hcl⟩ := HL.out.gr.row
      have HRW := Lib.hid hrow
      have HCL := Lib.hid hcl
      have hcll := hrow.length
      have HCLL := Lib.hid hcll
      obtain ⟨pu, cu, hu⟩ := HL.out.ur.slice
      subst hu
      clear hrow hcl hcll hv K2
      go_wp2_with (at_builtin; refine wpList_append_row _ rfl _ _ 22 rfl 46 j0 (.agg #[.int .i64 0, .int .i64 0, .slice none 0 0]) 3 40 Tryd.underlying22 JI.out JZ0.out JZ1.out JZ2.out rfl _ _ _ rfl (HRW.out.keep (behind_of_below ((Below.refl _ _).alloc (Nat.le_refl _) _)) (by simp)) wr.heap.size 1 1 [.int .i64 g.k, .int .i64 g.lit, .slice pu R.length cu] 46 rfl (heap_alloc_new wr _) rfl (by intro u hu; simp at hu; rcases hu with rfl | rfl | rfl <;> rfl) (by omega) (by unfold maxLen; omega) (by omega) ?_)
      intro v9 w9 hr9 hB9 hn9
      have hb9 : Behind wr (rowBlk (.slice pq S.length cq)) w9 := ((behind_of_below ((Below.refl _ _).alloc (Nat.le_refl _) _)).mono (by simp)).trans hB9 (fun k hk => .inl hk)
      have hn9' : ∀ g ∈ rowBlk v9, g ∈ rowBlk (.slice pq S.length cq) ∨ wr.heap.size ≤ g := fun g hg => (hn9 g hg).imp id (fun h => by first | omega | (simp at h; omega))
      have HFIN := Lib.hid (HL.out.last hbr HEE.out hN rfl rfl cl HCL.out HCLL.out hb9 hr9 hn9' (fun b hb => (HL.out.gr.ge b hb).2))
      clear hr9 hB9 hn9 hb9 hn9' x0 x1 x2
      go_wp2_with fail
      rw [HP.out]
      have h := HFIN.out
      rw [hS.out, hR.out, List.take_length, List.append_assoc] at h
      exact h
end Go.Proofs.YtallcgpiecopcaaDoor

/- The reference's tree form: Tree. -/
namespace Go.Proofs.YtallcgpiecopcaaDoor
open Go.RowKit

theorem cell_has {x w' x2 : World} {b o : Nat} {u : Value} (hb : x.heap.size ≤ b) (hc : w'.cell? ⟨b, o, none⟩ = some u) (hH : Has (newB [] x w') x2) : x2.cell? ⟨b, o, none⟩ = some u ∧ b < x2.heap.size := by
  have hl := block_lt_of_cell hc
  have h1 : w'.heap[b]? = some w'.heap[b] := Array.getElem?_eq_getElem hl
  have h2 : newB [] x w' b = some w'.heap[b] := (newB_in (.inr hb)).trans h1
  have h3 := hH b _ h2
  exact ⟨(World.cell?_of_block (a := ⟨b, o, none⟩) (h3.trans h1.symm)).trans hc, lt_of_heap h3⟩
def RTree (T : List Gt) (v : Value) (B : Blocks) : Prop := ∃ p c, v = .slice p T.length c ∧ ∀ x, Has B x → CircAt x.heap.size x p T
theorem grew_has {N br : Nat} {T : List Gt} {x w' : World} {v' : Value} (hg : GR w' N br (List.range x.heap.size) v' T) (hn : ∀ b ∈ rowBlk v', x.heap.size ≤ b) : RTree T v' (newB [] x w') := by
  obtain ⟨p, c, rfl⟩ := hg.slice
  refine ⟨p, c, rfl, fun x2 hH => ?_⟩
  obtain ⟨cl, h1, h2⟩ := hg.row
  obtain ⟨a, c', e, _, hA⟩ := rowV_at2 h1
  cases e
  intro i g hgi
  obtain ⟨q, d, k1, k2, k3, k4⟩ := h2 i g hgi
  obtain ⟨b, o, b1, b2, b3⟩ := hA _ _ k1
  obtain ⟨b', o', _, e2, b4⟩ := hA _ _ k2
  obtain ⟨b'', o'', _, e3, b5⟩ := hA _ _ k3
  rw [b2] at e2 e3
  cases e2
  cases e3
  have hbx : x.heap.size ≤ b := hn b (by rw [b2]; simp [rowBlk])
  obtain ⟨c1, l1⟩ := cell_has hbx b3 hH
  obtain ⟨c2, _⟩ := cell_has hbx b4 hH
  obtain ⟨c3, _⟩ := cell_has hbx b5 hH
  refine ⟨b, o, q, d, l1, b2, c1, by rw [Nat.add_assoc]; exact c2, by rw [Nat.add_assoc]; exact c3, fun k y hk => ?_⟩
  obtain ⟨b0, o0, _, m2, m3, m4⟩ := k4 k y hk
  have hb0 : x.heap.size ≤ b0 := by
    rcases Nat.lt_or_ge b0 x.heap.size with h | h
    · exact absurd (by simp [h] : b0 ∈ br :: (rowBlk (.slice p T.length c) ++ List.range x.heap.size)) m2
    · exact h
  obtain ⟨c4, l4⟩ := cell_has hb0 m4 hH
  exact ⟨b0, o0, l4, m3, c4⟩

set_option maxHeartbeats 6400000 in
set_option maxRecDepth 100000 in
theorem xTree {n : Int} {G : List Gt} {a : Option Addr} (ca : Nat) {w : World} (hck : checkI n G = 0) (hT : checkI n (TR G ((G.length - 1 : Nat) : Int) 0) = 0) (hC : CircAt w.heap.size w a G) :
    Calls Tryd.prog 15 #[.agg #[.int .i64 n, .slice a G.length ca]] w fun e w' => ∃ p c, e = .returned (.tuple #[.agg #[.int .i64 n, .slice p (TR G ((G.length - 1 : Nat) : Int) 0).length c], .bool true]) ∧ CircAt w'.heap.size w' p (TR G ((G.length - 1 : Nat) : Int) 0) ∧ Below w.heap.size w w' := by
  obtain ⟨T, hTe⟩ : ∃ T, T = TR G ((G.length - 1 : Nat) : Int) 0 := ⟨_, rfl⟩
  rw [← hTe] at hT ⊢
  obtain ⟨Post, hPost⟩ : ∃ P : Ending → World → Prop, P = fun e w' => ∃ p c, e = .returned (.tuple #[.agg #[.int .i64 n, .slice p T.length c], .bool true]) ∧ CircAt w'.heap.size w' p T ∧ Below w.heap.size w w' := ⟨_, rfl⟩
  rw [← hPost]
  have HP := Lib.hid hPost
  obtain ⟨hfit, hGl, hG0⟩ := check_fits hck
  obtain ⟨hTfit, hTl, hT0⟩ := check_fits hT
  obtain ⟨_, _, _, hGs, _, hok⟩ := check_ok hck
  obtain ⟨m, hm⟩ : ∃ m, G.length = m + 1 := ⟨G.length - 1, by omega⟩
  have hm1 : G.length - 1 = m := by omega
  rw [hm1] at hTe
  have KC := Lib.hid (show GivesFrom w 27 #[.agg #[.int .i64 n, .slice a G.length ca]] (.int .i64 0) from fun z hz => by rw [← hck]; exact xCheck n G a ca z (hC.later hz) hfit (by omega))
  have KT := Lib.hid (fun (p : Option Addr) (c : Nat) (z : World) (h : CircAt z.heap.size z p T) => show Calls Tryd.prog 27 #[.agg #[.int .i64 n, .slice p T.length c]] z fun e w' => e = .returned (.int .i64 0) ∧ Below z.heap.size z w' from by rw [← hT]; exact xCheck n T p c z h hTfit (by omega))
  have KG := Lib.hid (fun (z : World) (hz : Below w.heap.size w z) (hlt : w.heap.size < z.heap.size) => show Calls Tryd.prog 33 #[.agg #[.int .i64 n, .slice a G.length ca], .int .i64 (m : Int), .slice none 0 0] z fun e w' => ∃ v, e = .returned v ∧ Behind z [] w' ∧ RTree T v (newB [] z w') from by
    have h := xGrow (N := w.heap.size) (W := w) (n := n) ca hok hC hGl hGs m (by omega) w.heap.size (List.range z.heap.size) (.slice none 0 0) [] z (GR.nil _ _ _ _) (fun b hb => by simpa using hb) hlt hz hz.size (by rw [List.length_nil, Nat.zero_add, ← hTe]; exact hTl)
    rw [List.nil_append, List.length_nil, ← hTe] at h
    refine h.mono ?_
    rintro e w' ⟨v', rfl, h1, h2, h3⟩
    exact ⟨v', rfl, by simpa [rowBlk] using h2, grew_has h1 (fun b hb => (h3 b hb).elim (fun e => by simp [rowBlk] at e) id)⟩)
  have d0 : ((G.length : Int) == 0) = false := beq_no (by omega)
  have d1 : (G.length == 0) = false := beq_eq_false_iff_ne.2 hG0
  have hmi : ((G.length : Int) - 1) = (m : Int) := by omega
  have HMI := Lib.hid hmi
  clear hPost hTe hC hck hT hfit hTfit hok hm hm1 hG0 hmi
  go_enter Tryd.func15, Tryd.ntmps15
  go_upto_region 1 with fail
  refine wp_gen ?_
  intro w1 hw1
  have A1 := Lib.hid (show w1.heap[w.heap.size]? = some (.cells #[.int .i64 n, .slice a G.length ca] 24 (0, 0)) by rw [hw1]; exact new_two1 _ _ _)
  have R1 := Lib.hid (show w1.heap[w.heap.size + 1]? = some (.cells #[.int .i64 0, .slice none 0 0] 24 (0, 0)) by rw [hw1]; exact new_two2 _ _ _)
  have HB1 := Lib.hid (show Below w.heap.size w w1 by rw [hw1]; exact below_two _ _ _)
  clear hw1
  have c0 := blk_cell A1.out 0 rfl
  have c1 := blk_cell A1.out 1 rfl
  go_wp2_with fail
  refine (KC.out w1 HB1.out).mono ?_
  rintro e w2 ⟨rfl, hb2⟩
  have A2 := Lib.hid ((behind_of_below hb2).keep A1.out (by simp))
  have R2 := Lib.hid ((behind_of_below hb2).keep R1.out (by simp))
  have HB2 := Lib.hid (HB1.out.trans (hb2.mono HB1.out.size))
  clear hb2 A1 R1 HB1 c0 c1
  have C0 := Lib.hid (blk_cell A2.out 0 rfl)
  have C1 := Lib.hid (blk_cell A2.out 1 rfl)
  have hlt2 := lt_of_heap R2.out
  go_upto_region 3 with fail
  have hmi := HMI.out
  refine wp_gameM [0, 0, 0, 0, 0, 0, 0, 6, 0, 3, 2] [] B0 fin_B0 (has_B0 _) (by kernel_rfl) (by kernel_rfl) ?_
  refine lexM_split 7 (by decide) (by rfl) ?_
  simp only [List.take_succ_cons, List.take_zero, List.drop_succ_cons, List.drop_zero]
  refine lex_quietE 7 (by kernel_rfl) (by rfl) ?_
  apply Exists.intro
  refine ⟨fun z hz => ?_, ?_⟩
  · have e0 := behind_cellXp hz C0.out (by simp)
    have e1 := behind_cellXp hz C1.out (by simp)
    clear hz
    simp only [List.take_succ_cons, List.take_zero]
    unfold Cx
    repeat (go_big_quiet_step (fail))
    exact wpQuiet_nil rfl
  simp only [List.drop_succ_cons, List.drop_zero]
  refine lex_nil ?_
  refine lexM_many (RTree T) (by rfl) (by simp) fin_B0 (fun g o h => by cases h) (fun x => by go_simp) (fun x hx _ => KG.out x (HB2.out.trans (hx.below.mono HB2.out.size)) (by have := hx.size; omega)) (fun u1 B1 hR1 hf1 hB1 => ?_)
  obtain ⟨p1, k1, rfl, hcirc⟩ := hR1
  have HCI := Lib.hid hcirc
  clear hcirc hmi
  unfold setSlot
  go_big_quiet_step (fail)
  refine wpQuiet_nil ?_
  refine lexM_split 3 (by decide) (by rfl) ?_
  simp only [List.take_succ_cons, List.take_zero, List.drop_succ_cons, List.drop_zero]
  refine lex_quietE 1 (by kernel_rfl) (by rfl) ?_
  apply Exists.intro
  refine ⟨fun z hz => ?_, ?_⟩
  · clear hz
    simp only [List.take_succ_cons, List.take_zero]
    unfold Cx
    repeat (go_big_quiet_step (fail))
    exact wpQuiet_nil rfl
  simp only [List.drop_succ_cons, List.drop_zero]
  refine lex_alloc (.agg #[.int .i64 0, .slice none 0 0]) (by rfl) (fun x => by kernel_rfl) (fun g4 q4 hn4 => ?_)
  unfold setSlot
  go_big_quiet_step (fail)
  refine wpQuiet_nil ?_
  refine lex_store_all g4 #[.int .i64 n, .slice p1 T.length k1] #[.int .i64 0, .slice none 0 0] 24 (by rfl) (by rfl) (by rfl) (Blocks.put_same _ _ _) rfl (.inr q4) (by kernel_rfl) (by simp [Value.oneCell']) ?_
  refine lex_nil ?_
  intro w3 hw3 hH
  have S3 := Lib.hid (hH g4 _ (Blocks.put_same _ _ _))
  have hH1 : Has B1 w3 := fun b o hb => by
    have hne : b ≠ g4 := fun e => by
      subst e
      rw [Blocks.over_some hb] at hn4
      cases hn4
    exact hH b o (by rw [Blocks.put_other _ _ hne, Blocks.put_other _ _ hne]; exact Blocks.over_some hb)
  have R3 := Lib.hid (hw3.keep R2.out (by simp))
  have HB3 := Lib.hid (HB2.out.trans (hw3.below.mono HB2.out.size))
  have KCT := Lib.hid (fun (z : World) (hz : Behind w3 [w.heap.size + 1] z) => show CircAt z.heap.size z p1 T from HCI.out z (fun b o hb => by
    refine hz.keep (hH1 b o hb) (fun hm => ?_)
    have h1 : b = w.heap.size + 1 := by simpa using hm
    have h2 := (hB1 b o hb).elim (fun e => by simp at e) id
    omega))
  have hsz3 := hw3.size
  have hg4r : g4 ≠ w.heap.size + 1 := by omega
  clear hw3 hH hH1 hn4 hB1 hf1 C0 C1 HCI A2 R2 hlt2 HB2
  have D0 := Lib.hid (blk_cell S3.out 0 rfl)
  have D1 := Lib.hid (blk_cell S3.out 1 rfl)
  have KCK := Lib.hid (fun (z : World) (hz : Behind w3 [w.heap.size + 1] z) => show GivesFrom z 27 #[.agg #[.int .i64 n, .slice p1 T.length k1]] (.int .i64 0) from fun y hy => KT.out p1 k1 y ((KCT.out z hz).later hy))
  go_upto_region 4 with fail
  refine wp_game [0, 0, 0, 0, 2, 0] [w.heap.size + 1] (B0.put (w.heap.size + 1) (.cells #[.int .i64 0, .slice none 0 0] 24 (0, 0))) (Fin.put fin_B0 _ _) (has_put (has_B0 _) R3.out) (by kernel_rfl) (by kernel_rfl) ?_
  refine lex_quietE 4 (by kernel_rfl) (by rfl) ?_
  apply Exists.intro
  refine ⟨fun z hz => ?_, ?_⟩
  · have e0 := behind_cellXp hz D0.out (by simpa using hg4r)
    have e1 := behind_cellXp hz D1.out (by simpa using hg4r)
    have KK := KCK.out z hz
    clear hz
    simp only [List.take_succ_cons, List.take_zero]
    unfold Cx
    repeat (go_big_quiet_step (with_reducible exact KK.at _))
    exact wpQuiet_nil rfl
  simp only [List.drop_succ_cons, List.drop_zero]
  refine lex_store_all (w.heap.size + 1) #[.int .i64 n, .slice p1 T.length k1] #[.int .i64 0, .slice none 0 0] 24 (by rfl) (by rfl) (by rfl) (Blocks.put_same _ _ _) rfl (.inl (by simp)) (by kernel_rfl) (by simp [Value.oneCell']) ?_
  refine lex_quietE 1 (by kernel_rfl) (by rfl) ?_
  apply Exists.intro
  refine ⟨fun z hz => ?_, ?_⟩
  · clear hz
    simp only [List.take_succ_cons, List.take_zero]
    unfold Cx
    repeat (go_big_quiet_step (fail))
    exact wpQuiet_nil rfl
  simp only [List.drop_succ_cons, List.drop_zero]
  refine lex_nil ?_
  intro w4 hw4 hH4
  have HR4 := Lib.hid (hH4 (w.heap.size + 1) _ (Blocks.put_same _ _ _))
  have HC4 := Lib.hid (KCT.out w4 hw4)
  have HB4 := Lib.hid (HB3.out.trans (hw4.below_of (b := w.heap.size) (fun k hk => by simp at hk; omega) HB3.out.size))
  clear hw4 hH4
  go_wp2_with fail
  refine bodyPost_ret (results_cell_tmp (p := 2) (q := 3) rfl _ _ (w.heap.size + 1) _ _ (0, 0) _ rfl HR4.out Tryd.underlying24 rfl Tryd.sizeCircJ _ rfl) rfl ?_
  rw [HP.out]
  exact ⟨p1, k1, rfl, HC4.out, HB4.out⟩
end Go.Proofs.YtallcgpiecopcaaDoor
