/- Texts of this claim, joined: HLb, HLa. -/
import Derived.Test.YtallcgpiecopcaaDoorMI34
import Derived.Deep.DeepCutAuto

/- The law: what is written is read as the tree form. -/
namespace Go.Proofs.YtallcgpiecopcaaDoor
open Go.RowKit

set_option maxHeartbeats 6400000 in
set_option maxRecDepth 100000 in
theorem back_law (n : Int) (gs : List Gt) (a : Option Addr) (c : Nat) (w : World) (hV : VarsI w) (hC : CircAt w.heap.size w a gs) (hf : Fits gs) (hl : gs.length ≤ 20000000000000) : Calls Tryd.prog 4 #[.agg #[.int .i64 n, .slice a gs.length c]] w fun e w' => e = .returned (.bool true) ∧ Below w.heap.size w w' := by
  obtain ⟨Post, hPost⟩ : ∃ P : Ending → World → Prop, P = fun e w' => e = .returned (.bool true) ∧ Below w.heap.size w w' := ⟨_, rfl⟩
  rw [← hPost]
  have HP := Lib.hid hPost
  have HV := Lib.hid hV
  have HC := Lib.hid hC
  have HF := Lib.hid hf
  have KW := Lib.hid (fun w1 (h : Below w.heap.size w w1) => gWorks w1 (hV.below h))
  have HPC := Lib.hid (print_cases n gs)
  clear hPost hV hC hf
  go_enter Tryd.func4, Tryd.ntmps4
  go_upto_region 1 with fail
  refine wp_gen ?_
  intro w1 hw1
  have A1 := Lib.hid (show w1.heap[w.heap.size]? = some (.cells #[.int .i64 n, .slice a gs.length c] 24 (0, 0)) by rw [hw1]; exact new_one _ _)
  have HB1 := Lib.hid (show Below w.heap.size w w1 by rw [hw1]; exact below_one _ _)
  clear hw1
  have KF := gFew n gs a c w1 (HC.out.later HB1.out) HF.out (by omega)
  have c0 := blk_cell A1.out 0 rfl
  have c1 := blk_cell A1.out 1 rfl
  generalize fewI gs = fw at *
  go_wp2_with fail
  refine KF.mono ?_
  rintro e w2 ⟨rfl, hb2⟩
  have A2 := Lib.hid ((behind_of_below hb2).keep A1.out (by simp))
  have HB2 := Lib.hid (HB1.out.trans (hb2.mono HB1.out.size))
  clear hb2 KF A1 HB1 c0 c1
  cases fw with
  | false =>
    go_wp2_with fail
    refine (KW.out w2 HB2.out).mono ?_
    rintro e w3 ⟨rfl, hb⟩
    have HB3 := Lib.hid (HB2.out.trans (hb.mono HB2.out.size))
    clear hb
    go_wp2_with fail
    rw [HP.out]
    exact ⟨rfl, HB3.out⟩
  | true =>
  have KP := gPrint n gs a c w2 (HC.out.later HB2.out) HF.out (by omega) (HV.out.below HB2.out)
  have c0 := blk_cell A2.out 0 rfl
  have c1 := blk_cell A2.out 1 rfl
  obtain ⟨tx, htx⟩ : ∃ tx, tx = (printI n gs).1 := ⟨_, rfl⟩
  obtain ⟨er, her⟩ : ∃ er, er = (printI n gs).2 := ⟨_, rfl⟩
  rw [← htx, ← her] at KP HPC
  clear htx her
  rcases HPC.out with ⟨htx, her⟩ | ⟨hck, her, hlen, htx⟩
  · have hb1 : (er != 0) = true := by simp [bne, beq_no her]
    rw [htx, show (⟨([] : List UInt8).toArray⟩ : ByteArray) = ⟨#[]⟩ from rfl] at KP
    clear her HPC htx
    go_wp2_with fail
    refine KP.mono ?_
    rintro e w3 ⟨rfl, hb3⟩
    have HB3 := Lib.hid (HB2.out.trans (hb3.mono HB2.out.size))
    clear hb3 KP A2 HB2 c0 c1
    go_wp2_with fail
    refine (KW.out w3 HB3.out).mono ?_
    rintro e w4 ⟨rfl, hb⟩
    have HB4 := Lib.hid (HB3.out.trans (hb.mono HB3.out.size))
    clear hb
    go_wp2_with fail
    rw [HP.out]
    exact ⟨rfl, HB4.out⟩
  · subst her
    have hpw := parse_written hck hlen
    rw [← htx] at hpw hlen
    have HCK := Lib.hid hck
    clear HPC hck
    go_wp2_with fail
    refine KP.mono ?_
    rintro e w3 ⟨rfl, hb3⟩
    have A3 := Lib.hid ((behind_of_below hb3).keep A2.out (by simp))
    have HB3 := Lib.hid (HB2.out.trans (hb3.mono HB2.out.size))
    clear hb3 KP A2 HB2 c0 c1
    have c0 := blk_cell A3.out 0 rfl
    rcases hpw with ⟨hp, hT⟩ | ⟨q, hp⟩
    · have KQ := parse_at tx n _ 0 0 hp w3 (HV.out.below HB3.out) (by omega)
      have KT := Lib.hid (fun (z : World) (h : CircAt z.heap.size z a gs) => xTree c HCK.out hT h)
      obtain ⟨T, hTT⟩ : ∃ T, T = TR gs ((gs.length - 1 : Nat) : Int) 0 := ⟨_, rfl⟩
      rw [← hTT] at KQ hT KT
      obtain ⟨hfit, hTl, hTn⟩ := check_fits hT
      rw [if_neg hTn, show ((0 : Nat) : Int) = 0 from rfl] at KQ
      have HFT := Lib.hid hfit
      clear htx hp hTT hT hfit
      go_wp2_with fail
      refine KQ.mono ?_
      rintro e w4 ⟨a4, d4, rfl, hC4, hb4⟩
      have HC4 := Lib.hid hC4
      have A4 := Lib.hid ((behind_of_below hb4).keep A3.out (by simp))
      have HB4 := Lib.hid (HB3.out.trans (hb4.mono HB3.out.size))
      clear hC4 hb4 KQ A3 HB3 c0
      go_upto_region 7 with fail
      refine wp_gen ?_
      intro w5 hw5
      have HS5 := Lib.hid (show w5.heap[w4.heap.size]? = some (.cells #[.int .i64 n, .slice a4 T.length d4] 24 (0, 0)) by rw [hw5]; exact new_one _ _)
      have hb5 : Below w4.heap.size w4 w5 := by rw [hw5]; exact below_one _ _
      have A5 := Lib.hid ((behind_of_below hb5).keep A4.out (by simp))
      have HC5 := Lib.hid (HC4.out.later hb5)
      have HB5 := Lib.hid (HB4.out.trans (hb5.mono HB4.out.size))
      clear hw5 hb5 A4 HC4 HB4
      have K6 := KT.out w5 (HC.out.later HB5.out)
      have c0 := blk_cell A5.out 0 rfl
      have c1 := blk_cell A5.out 1 rfl
      go_wp2_with fail
      refine K6.mono ?_
      rintro e w6 ⟨a6, d6, rfl, hC6, hb6⟩
      have HC6 := Lib.hid hC6
      have HD6 := Lib.hid (HC5.out.later hb6)
      have HS6 := Lib.hid ((behind_of_below hb6).keep HS5.out (by simp))
      have HB6 := Lib.hid (HB5.out.trans (hb6.mono HB5.out.size))
      clear hC6 hb6 K6 A5 HC5 HS5 HB5 c0 c1
      go_upto_region 10 with fail
      refine wp_gen ?_
      intro w7 hw7
      have HT7 := Lib.hid (show w7.heap[w6.heap.size]? = some (.cells #[.int .i64 n, .slice a6 T.length d6] 24 (0, 0)) by rw [hw7]; exact new_one _ _)
      have hb7 : Below w6.heap.size w6 w7 := by rw [hw7]; exact below_one _ _
      have HC7 := Lib.hid (HC6.out.later hb7)
      have HD7 := Lib.hid (HD6.out.later hb7)
      have HS7 := Lib.hid ((behind_of_below hb7).keep HS6.out (by simp))
      have HB7 := Lib.hid (HB6.out.trans (hb7.mono HB6.out.size))
      clear hw7 hb7 HC6 HD6 HS6 HB6
      have KS := xSame7 n T a4 a6 d4 d6 w7 HD7.out HC7.out HFT.out (by omega)
      have c0 := blk_cell HT7.out 0 rfl
      have c1 := blk_cell HT7.out 1 rfl
      have s0 := blk_cell HS7.out 0 rfl
      have s1 := blk_cell HS7.out 1 rfl
      go_wp2_with fail
      refine KS.mono ?_
      rintro e w8 ⟨rfl, hb8⟩
      have HB8 := Lib.hid (HB7.out.trans (hb8.mono HB7.out.size))
      clear hb8 KS c0 c1 s0 s1
      go_wp2_with fail
      refine (KW.out w8 HB8.out).mono ?_
      rintro e w9 ⟨rfl, hb⟩
      have HB9 := Lib.hid (HB8.out.trans (hb.mono HB8.out.size))
      clear hb
      go_wp2_with fail
      rw [HP.out]
      exact ⟨rfl, HB9.out⟩
    · have KQ := parse_at tx n [] q 2 hp w3 (HV.out.below HB3.out) (by omega)
      rw [show (if ([] : List Gt).length = 0 then (0 : Int) else n) = 0 from rfl, show ([] : List Gt).length = 0 from rfl] at KQ
      clear htx hp
      go_wp2_with fail
      refine KQ.mono ?_
      rintro e w4 ⟨a4, d4, rfl, _, hb4⟩
      have HB4 := Lib.hid (HB3.out.trans (hb4.mono HB3.out.size))
      clear hb4 KQ A3 HB3 c0
      go_upto_region 7 with fail
      refine wp_gen ?_
      intro w5 hw5
      have hb5 : Below w4.heap.size w4 w5 := by rw [hw5]; exact below_one _ _
      have HB5 := Lib.hid (HB4.out.trans (hb5.mono HB4.out.size))
      clear hw5 hb5 HB4
      go_wp2_with fail
      refine (KW.out w5 HB5.out).mono ?_
      rintro e w6 ⟨rfl, hb⟩
      have HB6 := Lib.hid (HB5.out.trans (hb.mono HB5.out.size))
      clear hb
      go_wp2_with fail
      rw [HP.out]
      exact ⟨rfl, HB6.out⟩
end Go.Proofs.YtallcgpiecopcaaDoor

/- The law: what is written for a circuit that was read is read as its tree form. -/
namespace Go.Proofs.YtallcgpiecopcaaDoor
open Go.RowKit

theorem print_tree {n : Int} {gs : List Gt} (hck : checkI n gs = 0) (hlen : (TX gs ((gs.length : Nat) - 1 : Nat)).length ≤ 1048576) (hT : checkI n (TR gs ((gs.length - 1 : Nat) : Int) 0) = 0) : printI n (TR gs ((gs.length - 1 : Nat) : Int) 0) = (TX gs ((gs.length : Nat) - 1 : Nat), 0) := by
  obtain ⟨_, _, _, _, hne, hok⟩ := check_ok hck
  obtain ⟨_, _, _, _, _, hok'⟩ := check_ok hT
  have h := text_tree (G := gs) (i := gs.length - 1) hok (by have := List.length_pos_iff.2 hne; omega) hok'
  unfold printI
  rw [if_neg (by simpa using hT), h, if_neg (by omega)]

set_option maxHeartbeats 6400000 in
set_option maxRecDepth 100000 in
theorem again_law (l : List UInt8) (n : Int) (w : World) (hV : VarsI w) (hl9 : l.length ≤ 9223372036854775807) : Calls Tryd.prog 5 #[.string ⟨l.toArray⟩, .int .i64 n] w fun e w' => e = .returned (.bool true) ∧ Below w.heap.size w w' := by
  obtain ⟨Post, hPost⟩ : ∃ P : Ending → World → Prop, P = fun e w' => e = .returned (.bool true) ∧ Below w.heap.size w w' := ⟨_, rfl⟩
  rw [← hPost]
  have HP := Lib.hid hPost
  have HV := Lib.hid hV
  have KW := Lib.hid (fun w1 (h : Below w.heap.size w w1) => gWorks w1 (hV.below h))
  have hsz := ba_size l
  obtain ⟨s, hs⟩ : ∃ s : ByteArray, s = ⟨l.toArray⟩ := ⟨_, rfl⟩
  rw [← hs] at hsz ⊢
  by_cases hbig : 3000 < l.length
  · have hd : decide ((3000 : Int) < (l.length : Int)) = true := decide_eq_true (by omega)
    have hd2 : decide (3000 < l.length) = true := decide_eq_true (by omega)
    clear hPost hV hs hbig
    go_enter Tryd.func5, Tryd.ntmps5
    go_wp2_with fail
    refine (KW.out w (Below.refl _ _)).mono ?_
    rintro e w1 ⟨rfl, hb⟩
    have HB := Lib.hid hb
    clear hb
    go_wp2_with fail
    rw [HP.out]
    exact ⟨rfl, HB.out⟩
  have hd : decide ((3000 : Int) < (l.length : Int)) = false := decide_eq_false (by omega)
  have hd2 : decide (3000 < l.length) = false := decide_eq_false (by omega)
  by_cases h0 : (parseI l n).2.2 = 0
  case neg =>
    have KG := parse_bad l n h0 w hV (by omega)
    rw [← hs] at KG
    obtain ⟨k, hk⟩ : ∃ k, k = (parseI l n).2.2 := ⟨_, rfl⟩
    obtain ⟨p, hp⟩ : ∃ p, p = (parseI l n).2.1 := ⟨_, rfl⟩
    rw [← hk, ← hp] at KG
    have hkb : (k != 0) = true := by rw [hk]; simp [bne, beq_no h0]
    have HK1 := Lib.hid KG
    clear KG hk hp h0 hs hPost hV
    go_enter Tryd.func5, Tryd.ntmps5
    go_wp2_with fail
    refine HK1.out.mono ?_
    rintro e w1 ⟨a1, d1, rfl, hb1⟩
    have HB1 := Lib.hid hb1
    clear hb1
    go_upto_region 4 with fail
    refine wp_gen ?_
    intro w2 hw2
    have hb2 : Below w1.heap.size w1 w2 := by rw [hw2]; exact below_one _ _
    have HB2 := Lib.hid (HB1.out.trans (hb2.mono HB1.out.size))
    clear hw2 hb2 HB1
    go_wp2_with fail
    refine (KW.out w2 HB2.out).mono ?_
    rintro e w6 ⟨rfl, hb6⟩
    have HB6 := Lib.hid (HB2.out.trans (hb6.mono HB2.out.size))
    clear hb6
    go_wp2_with fail
    rw [HP.out]
    exact ⟨rfl, HB6.out⟩
  obtain ⟨hck, KG⟩ := parse_good l n h0 w hV (by omega)
  rw [← hs] at KG
  obtain ⟨gs, hgs⟩ : ∃ gs, gs = (parseI l n).1 := ⟨_, rfl⟩
  rw [← hgs] at KG hck
  obtain ⟨hfit, hgl, hgn⟩ := check_fits hck
  have HF := Lib.hid hfit
  have HK1 := Lib.hid KG
  have hpc := print_cases n gs
  clear KG hgs h0 hs hPost hV hfit
  go_enter Tryd.func5, Tryd.ntmps5
  go_wp2_with fail
  refine HK1.out.mono ?_
  rintro e w1 ⟨a1, d1, rfl, hC1, hb1⟩
  have HC1 := Lib.hid hC1
  have HB1 := Lib.hid hb1
  clear hC1 hb1 HK1
  go_upto_region 4 with fail
  refine wp_gen ?_
  intro w2 hw2
  have A2 := Lib.hid (show w2.heap[w1.heap.size]? = some (.cells #[.int .i64 n, .slice a1 gs.length d1] 24 (0, 0)) by rw [hw2]; exact new_one _ _)
  have hb2 : Below w1.heap.size w1 w2 := by rw [hw2]; exact below_one _ _
  have HB2 := Lib.hid (HB1.out.trans (hb2.mono HB1.out.size))
  have HC2 := Lib.hid (HC1.out.later hb2)
  clear hw2 hb2 HC1 HB1
  have KP := gPrint n gs a1 d1 w2 HC2.out HF.out (by omega) (HV.out.below HB2.out)
  have c0 := blk_cell A2.out 0 rfl
  have c1 := blk_cell A2.out 1 rfl
  have her2 : (printI n gs).2 = 0 ∨ ((printI n gs).2 = 2) := by
    unfold printI
    rw [if_neg (by simpa using hck)]
    split
    · exact .inr rfl
    · exact .inl rfl
  obtain ⟨tx, htx⟩ : ∃ tx, tx = (printI n gs).1 := ⟨_, rfl⟩
  rw [← htx] at KP hpc
  rcases her2 with her | her
  case inr =>
    rw [her] at KP
    clear hpc her htx hck
    go_wp2_with fail
    refine KP.mono ?_
    rintro e w3 ⟨rfl, hb3⟩
    have HB3 := Lib.hid (HB2.out.trans (hb3.mono HB2.out.size))
    clear hb3 KP c0 c1
    go_wp2_with fail
    refine (KW.out w3 HB3.out).mono ?_
    rintro e w4 ⟨rfl, hb⟩
    have HB4 := Lib.hid (HB3.out.trans (hb.mono HB3.out.size))
    clear hb
    go_wp2_with fail
    rw [HP.out]
    exact ⟨rfl, HB4.out⟩
  rw [her] at KP hpc
  rcases hpc with ⟨_, hh⟩ | ⟨_, _, hlen, htx2⟩
  · exact absurd rfl hh
  have hpw := parse_written hck hlen
  have hpt := fun hT => print_tree hck hlen hT
  rw [← htx2] at hpw hlen hpt
  have HCK := Lib.hid hck
  have hS9 := ba_size tx
  obtain ⟨s2, hs2⟩ : ∃ s2 : ByteArray, s2 = ⟨tx.toArray⟩ := ⟨_, rfl⟩
  rw [← hs2] at KP hS9
  have HS2 := Lib.hid hs2
  have heq : (s2.toList == s2.toList) = true := by simp
  clear her htx htx2 hck hs2
  go_wp2_with fail
  refine KP.mono ?_
  rintro e w3 ⟨rfl, hb3⟩
  have A3 := Lib.hid ((behind_of_below hb3).keep A2.out (by simp))
  have HC3 := Lib.hid (HC2.out.later hb3)
  have HB3 := Lib.hid (HB2.out.trans (hb3.mono HB2.out.size))
  clear hb3 KP A2 HB2 HC2 c0 c1
  rcases hpw with ⟨hp, hT⟩ | ⟨q, hp⟩
  · have KQ := parse_at tx n _ 0 0 hp w3 (HV.out.below HB3.out) (by omega)
    have KT := Lib.hid (fun (z : World) (h : CircAt z.heap.size z a1 gs) => xTree d1 HCK.out hT h)
    have hpt2 := hpt hT
    obtain ⟨T, hTT⟩ : ∃ T, T = TR gs ((gs.length - 1 : Nat) : Int) 0 := ⟨_, rfl⟩
    rw [← hTT] at KQ hT KT hpt2
    obtain ⟨hfit, hTl, hTn⟩ := check_fits hT
    rw [if_neg hTn, show ((0 : Nat) : Int) = 0 from rfl, ← HS2.out] at KQ
    have HFT := Lib.hid hfit
    have KPT := Lib.hid (fun (p : Option Addr) (c : Nat) (z : World) (h : CircAt z.heap.size z p T) (hv : VarsI z) => show Calls Tryd.prog 12 #[.agg #[.int .i64 n, .slice p T.length c]] z fun e w' => e = .returned (.tuple #[.string s2, .int .i64 0]) ∧ Below z.heap.size z w' from by
      have h := gPrint n T p c z h HFT.out (by omega) hv
      rw [hpt2, ← HS2.out] at h
      exact h)
    clear hp hTT hT hfit hpt hpt2
    go_wp2_with fail
    refine KQ.mono ?_
    rintro e w4 ⟨a4, d4, rfl, hC4, hb4⟩
    have HC4 := Lib.hid hC4
    have HG4 := Lib.hid (HC3.out.later hb4)
    have A4 := Lib.hid ((behind_of_below hb4).keep A3.out (by simp))
    have HB4 := Lib.hid (HB3.out.trans (hb4.mono HB3.out.size))
    clear hC4 hb4 KQ A3 HB3 HC3
    go_upto_region 10 with fail
    refine wp_gen ?_
    intro w5 hw5
    have HS5 := Lib.hid (show w5.heap[w4.heap.size]? = some (.cells #[.int .i64 n, .slice a4 T.length d4] 24 (0, 0)) by rw [hw5]; exact new_one _ _)
    have hb5 : Below w4.heap.size w4 w5 := by rw [hw5]; exact below_one _ _
    have A5 := Lib.hid ((behind_of_below hb5).keep A4.out (by simp))
    have HC5 := Lib.hid (HC4.out.later hb5)
    have HG5 := Lib.hid (HG4.out.later hb5)
    have HB5 := Lib.hid (HB4.out.trans (hb5.mono HB4.out.size))
    clear hw5 hb5 A4 HC4 HB4 HG4
    have K6 := KT.out w5 HG5.out
    have c0 := blk_cell A5.out 0 rfl
    have c1 := blk_cell A5.out 1 rfl
    go_wp2_with fail
    refine K6.mono ?_
    rintro e w6 ⟨a6, d6, rfl, hC6, hb6⟩
    have HC6 := Lib.hid hC6
    have HD6 := Lib.hid (HC5.out.later hb6)
    have HS6 := Lib.hid ((behind_of_below hb6).keep HS5.out (by simp))
    have HB6 := Lib.hid (HB5.out.trans (hb6.mono HB5.out.size))
    clear hC6 hb6 K6 A5 HC5 HS5 HB5 HG5 c0 c1
    go_upto_region 13 with fail
    refine wp_gen ?_
    intro w7 hw7
    have HT7 := Lib.hid (show w7.heap[w6.heap.size]? = some (.cells #[.int .i64 n, .slice a6 T.length d6] 24 (0, 0)) by rw [hw7]; exact new_one _ _)
    have hb7 : Below w6.heap.size w6 w7 := by rw [hw7]; exact below_one _ _
    have HC7 := Lib.hid (HC6.out.later hb7)
    have HD7 := Lib.hid (HD6.out.later hb7)
    have HS7 := Lib.hid ((behind_of_below hb7).keep HS6.out (by simp))
    have HB7 := Lib.hid (HB6.out.trans (hb7.mono HB6.out.size))
    clear hw7 hb7 HC6 HD6 HS6 HB6
    have K8 := KPT.out a4 d4 w7 HD7.out (HV.out.below HB7.out)
    have s0 := blk_cell HS7.out 0 rfl
    have s1 := blk_cell HS7.out 1 rfl
    go_wp2_with fail
    refine K8.mono ?_
    rintro e w8 ⟨rfl, hb8⟩
    have HT8 := Lib.hid ((behind_of_below hb8).keep HT7.out (by simp))
    have HS8 := Lib.hid ((behind_of_below hb8).keep HS7.out (by simp))
    have HC8 := Lib.hid (HC7.out.later hb8)
    have HD8 := Lib.hid (HD7.out.later hb8)
    have HB8 := Lib.hid (HB7.out.trans (hb8.mono HB7.out.size))
    clear hb8 K8 s0 s1 HT7 HS7 HC7 HD7 HB7
    have KS := xSame7 n T a4 a6 d4 d6 w8 HD8.out HC8.out HFT.out (by omega)
    have c0 := blk_cell HT8.out 0 rfl
    have c1 := blk_cell HT8.out 1 rfl
    have s0 := blk_cell HS8.out 0 rfl
    have s1 := blk_cell HS8.out 1 rfl
    go_wp2_with fail
    refine KS.mono ?_
    rintro e w9 ⟨rfl, hb9⟩
    have HB9 := Lib.hid (HB8.out.trans (hb9.mono HB8.out.size))
    clear hb9 KS c0 c1 s0 s1
    go_wp2_with fail
    refine (KW.out w9 HB9.out).mono ?_
    rintro e w10 ⟨rfl, hb⟩
    have HB10 := Lib.hid (HB9.out.trans (hb.mono HB9.out.size))
    clear hb
    go_wp2_with fail
    rw [HP.out]
    exact ⟨rfl, HB10.out⟩
  · have KQ := parse_at tx n [] q 2 hp w3 (HV.out.below HB3.out) (by omega)
    rw [show (if ([] : List Gt).length = 0 then (0 : Int) else n) = 0 from rfl, show ([] : List Gt).length = 0 from rfl, ← HS2.out] at KQ
    clear hp hpt
    go_wp2_with fail
    refine KQ.mono ?_
    rintro e w4 ⟨a4, d4, rfl, _, hb4⟩
    have HB4 := Lib.hid (HB3.out.trans (hb4.mono HB3.out.size))
    clear hb4 KQ A3 HB3
    go_upto_region 10 with fail
    refine wp_gen ?_
    intro w5 hw5
    have hb5 : Below w4.heap.size w4 w5 := by rw [hw5]; exact below_one _ _
    have HB5 := Lib.hid (HB4.out.trans (hb5.mono HB4.out.size))
    clear hw5 hb5 HB4
    go_wp2_with fail
    refine (KW.out w5 HB5.out).mono ?_
    rintro e w6 ⟨rfl, hb⟩
    have HB6 := Lib.hid (HB5.out.trans (hb.mono HB5.out.size))
    clear hb
    go_wp2_with fail
    rw [HP.out]
    exact ⟨rfl, HB6.out⟩
end Go.Proofs.YtallcgpiecopcaaDoor
