/- Texts of this claim, joined: JF. -/
import Derived.Test.YtmaiofimmjedjaaDoorMW08
import Derived.Lib.SmallJoins
import Derived.Lib.AtoiAllCases
import Derived.Lib.AppendIntMem

/- The variable that a word is: the program's. -/
namespace Go.Proofs.YtmaiofimmjedjaaDoor
open Go.RowKit

/-! ### Words, plain -/
theorem varI_spec {n : Nat} {w : List UInt8} (h : varI n w ≠ 0) : w = 120 :: decN (varI n w) ∧ 1 ≤ varI n w ∧ varI n w ≤ n := by
  have hle := varI_le n w
  have key : (∃ i, w = 120 :: decN (i + 1) ∧ varI n w = i + 1) ∨ varI n w = 0 := by
    unfold varI
    split
    · rename_i i hi
      have := List.find?_some hi
      exact .inl ⟨i, by simpa using this, rfl⟩
    · exact .inr rfl
  rcases key with ⟨i, h1, h2⟩ | h1
  · exact ⟨by rw [h2]; exact h1, by omega, hle⟩
  · exact absurd h1 h
theorem atoi_dec : ∀ v : _root_.Fin 129, (match Lib.atoiAll (decN v.val) with | .ok u => u == (v.val : Int) | _ => false) = true := by decide +kernel
theorem atoi_decN {v : Nat} (h : v ≤ 128) : Lib.atoiAll (decN v) = .ok (v : Int) := by
  have := atoi_dec ⟨v, by omega⟩
  dsimp only at this
  split at this
  · rename_i u hu
    rw [hu]
    have e : u = (v : Int) := by simpa using this
    rw [e]
  · cases this
theorem var_no {n : Nat} {w : List UInt8} (h : Lib.hasPrefix w [120] = false) : varI n w = 0 := by
  apply Decidable.not_not.1
  intro hn
  rw [(varI_spec hn).1] at h
  simp [Lib.hasPrefix, List.isPrefixOf] at h
theorem var_bad {n : Nat} (hn : n ≤ 128) {d : List UInt8} (h : ∀ v, Lib.atoiAll d ≠ .ok v) : varI n (120 :: d) = 0 := by
  apply Decidable.not_not.1
  intro hv
  obtain ⟨h1, h2, h3⟩ := varI_spec hv
  have e : d = decN (varI n (120 :: d)) := (List.cons.inj h1).2
  exact h _ (by conv => lhs; rw [e]
                exact atoi_decN (by omega))
theorem var_ok {n : Nat} (hn : n ≤ 128) {d : List UInt8} {v : Int} (h : Lib.atoiAll d = .ok v) : ((varI n (120 :: d) : Nat) : Int) = if 1 ≤ v ∧ v ≤ n ∧ Lib.itoa v = d then v else 0 := by
  by_cases hv : varI n (120 :: d) = 0
  · rw [hv]
    split
    · rename_i hc
      obtain ⟨h1, h2, h3⟩ := hc
      obtain ⟨u, rfl⟩ := Int.eq_ofNat_of_zero_le (show 0 ≤ v by omega)
      rw [Lib.itoa_nonneg, ← decN_eq] at h3
      rw [← h3, varI_of (by omega) (by omega)] at hv
      omega
    · rfl
  · obtain ⟨h1, h2, h3⟩ := varI_spec hv
    have e : d = decN (varI n (120 :: d)) := (List.cons.inj h1).2
    have hd : Lib.atoiAll d = .ok ((varI n (120 :: d) : Nat) : Int) := by
      conv => lhs; rw [e]
      exact atoi_decN (by omega)
    rw [hd] at h
    cases h
    rw [if_pos ⟨by omega, by omega, by rw [Lib.itoa_nonneg, ← decN_eq]; exact e.symm⟩]

/-! ### What the library's functions ask of the world -/
structure VarsI (w : World) : Prop where
  syn : ∃ ev, w.cell? ⟨4, 0, none⟩ = some ev ∧ (ev = .nilIface ∨ ∃ te pe, ev = .iface te pe)
  rng : ∃ ev, w.cell? ⟨5, 0, none⟩ = some ev ∧ (ev = .nilIface ∨ ∃ te pe, ev = .iface te pe)
  tab : Lib.TabIs Tryd.prog w "internal/strconv.uint64pow10" .u64 Lib.pow10Tab
theorem VarsI.below {w w' : World} (h : VarsI w) (hb : Below w.heap.size w w') : VarsI w' := by
  obtain ⟨⟨e1, h1, k1⟩, ⟨e2, h2, k2⟩, h3⟩ := h
  refine ⟨⟨e1, below_cell hb (block_lt_of_cell h1) h1, k1⟩, ⟨e2, below_cell hb (block_lt_of_cell h2) h2, k2⟩, ?_⟩
  unfold Lib.TabIs World.var? at *
  cases hg : Tryd.prog.globalNamed "internal/strconv.uint64pow10" with
  | none => simp [hg] at h3
  | some g =>
    simp only [hg, Option.bind_some] at h3 ⊢
    have hlt : g < w.heap.size := by
      rcases Nat.lt_or_ge g w.heap.size with h' | h'
      · exact h'
      · rw [Array.getElem?_eq_none h'] at h3; simp at h3
    rw [hb.block g hlt]
    exact h3
theorem gItoa (n : Int) (h0 : -9223372036854775808 ≤ n) (h1 : n ≤ 9223372036854775807) (w : World) (ht : VarsI w) : Calls Tryd.prog 37 #[.int .i64 n] w fun e w' => e = .returned (.string ⟨(Lib.itoa n).toArray⟩) ∧ Below w.heap.size w w' := by
  refine (Tryd.strconv_Itoa n h0 h1 w ht.tab).mono ?_
  rintro e w' ⟨rfl, k, os, rfl⟩
  exact ⟨rfl, Lib.below_grow w.heap.size w (Nat.le_refl _) k os⟩
theorem gAtoi (d : List UInt8) (hl : d.length ≤ 2000000) (x : World) (hV : VarsI x) : Calls Tryd.prog 85 #[.string ⟨d.toArray⟩] x fun e x' => ∃ (v : Int) (er : Value), e = .returned (.tuple #[.int .i64 v, er]) ∧ Below x.heap.size x x' ∧ ((er = .nilIface ∧ Lib.atoiAll d = .ok v) ∨ ((∃ t p, er = .iface t p) ∧ ∀ u, Lib.atoiAll d ≠ .ok u)) := by
  have hs : (⟨d.toArray⟩ : ByteArray).size = d.length := ba_size d
  cases h : Lib.atoiAll d
  · rename_i v
    refine (Tryd.strconv_Atoi_ok ⟨d.toArray⟩ (by omega) v h x).mono ?_
    rintro e x' ⟨rfl, hx⟩
    refine ⟨v, .nilIface, rfl, ?_, .inl ⟨rfl, rfl⟩⟩
    rcases hx with rfl | ⟨t, rfl⟩
    · exact Below.refl _ _
    · exact Joins.below_bytesWorld _ x _ t (Nat.le_refl _)
  · obtain ⟨ev, h1, h2⟩ := hV.syn
    refine (Tryd.strconv_Atoi_syntax ⟨d.toArray⟩ (by omega) h ev x h1 h2).mono ?_
    rintro e x' ⟨N, rfl, _, _, hB⟩
    exact ⟨_, _, rfl, hB, .inr ⟨⟨_, _, rfl⟩, fun u hu => by cases hu⟩⟩
  · obtain ⟨ev, h1, h2⟩ := hV.rng
    refine (Tryd.strconv_Atoi_range ⟨d.toArray⟩ (by omega) h ev x h1 h2).mono ?_
    rintro e x' ⟨N, rfl, _, _, hB⟩
    exact ⟨_, _, rfl, hB, .inr ⟨⟨_, _, rfl⟩, fun u hu => by cases hu⟩⟩

set_option maxHeartbeats 1600000 in
set_option maxRecDepth 100000 in
theorem gVariable (l : List UInt8) (n : Nat) (hn : n ≤ 128) (hl : l.length ≤ 2000000) (w : World) (hV : VarsI w) : Calls Tryd.prog 73 #[.string ⟨l.toArray⟩, .int .i64 (n : Int)] w fun e w' => e = .returned (.int .i64 (varI n l : Nat)) ∧ Below w.heap.size w w' := by
  have KC := Tryd.strings_CutPrefix ⟨l.toArray⟩ ⟨#[120]⟩ w
  simp only [List.toList_toArray] at KC
  obtain ⟨Post, hPost⟩ : ∃ P : Ending → World → Prop, P = fun e w' => e = .returned (.int .i64 (varI n l : Nat)) ∧ Below w.heap.size w w' := ⟨_, rfl⟩
  rw [← hPost]
  have HP := Lib.hid hPost
  have HV := Lib.hid hV
  clear hPost hV
  cases hq : Lib.hasPrefix l [120] with
  | false =>
    have HN := Lib.hid (var_no (n := n) hq)
    have htp : Lib.trimPrefix l [120] = l := by unfold Lib.trimPrefix; rw [hq]; rfl
    rw [hq, htp] at KC
    have KA := gAtoi l hl w HV.out
    generalize (⟨l.toArray⟩ : ByteArray) = s at *
    clear hq htp
    go_enter Tryd.func73, Tryd.ntmps73
    go_wp2_with fail
    refine KC.mono ?_
    rintro e w1 ⟨rfl, rfl⟩
    go_wp2_with fail
    refine KA.mono ?_
    rintro e w2 ⟨v, er, rfl, hB, _⟩
    have HB := Lib.hid hB
    clear hB KA KC
    go_wp2_with fail
    rw [HP.out, HN.out]
    exact ⟨rfl, HB.out⟩
  | true =>
    obtain ⟨d, rfl⟩ : ∃ d, l = 120 :: d := by
      cases l with
      | nil => simp [Lib.hasPrefix] at hq
      | cons a d => simp [Lib.hasPrefix, List.isPrefixOf] at hq; exact ⟨d, by rw [hq]⟩
    have htp : Lib.trimPrefix (120 :: d) [120] = d := by unfold Lib.trimPrefix; rw [hq]; rfl
    rw [hq, htp] at KC
    have KA := gAtoi d (by simp at hl; omega) w HV.out
    have HO := Lib.hid (fun v (h : Lib.atoiAll d = .ok v) => var_ok hn h)
    have HW := Lib.hid (fun (h : ∀ v, Lib.atoiAll d ≠ .ok v) => var_bad hn h)
    have HBD := Lib.hid (fun v (h : Lib.atoiAll d = .ok v) => Lib.atoiAll_bounds h)
    obtain ⟨s, hs⟩ : ∃ s : ByteArray, s = ⟨(120 :: d).toArray⟩ := ⟨_, rfl⟩
    rw [← hs] at KC ⊢
    clear hs hq htp
    go_enter Tryd.func73, Tryd.ntmps73
    go_wp2_with fail
    refine KC.mono ?_
    rintro e w1 ⟨rfl, rfl⟩
    go_wp2_with fail
    refine KA.mono ?_
    rintro e w2 ⟨v, er, rfl, hB, hc⟩
    have HB := Lib.hid hB
    rcases hc with ⟨rfl, ha⟩ | ⟨⟨t, p, rfl⟩, ha⟩
    · have h := HO.out v ha
      obtain ⟨hb1, hb2⟩ := HBD.out v ha
      clear ha KA KC hB
      by_cases h1 : v < 1
      · rw [if_neg (by omega)] at h
        have HR := Lib.hid h
        clear h
        have hd : decide (v < 1) = true := decide_eq_true h1
        go_wp2_with fail
        rw [HP.out, HR.out]
        exact ⟨rfl, HB.out⟩
      have hd : decide (v < 1) = false := decide_eq_false h1
      by_cases h2 : (n : Int) < v
      · rw [if_neg (by omega)] at h
        have HR := Lib.hid h
        clear h
        have hd2 : decide ((n : Int) < v) = true := decide_eq_true h2
        go_wp2_with fail
        rw [HP.out, HR.out]
        exact ⟨rfl, HB.out⟩
      have hd2 : decide ((n : Int) < v) = false := decide_eq_false h2
      have KI := gItoa v hb1 hb2 w2 (HV.out.below HB.out)
      obtain ⟨b, hb⟩ : ∃ b : ByteArray, b = ⟨d.toArray⟩ := ⟨_, rfl⟩
      rw [← hb]
      by_cases h3 : Lib.itoa v = d
      · rw [if_pos ⟨by omega, by omega, h3⟩] at h
        rw [h3, ← hb] at KI
        have HR := Lib.hid h
        clear h h3 hb1 hb2 h1 h2 hb
        go_wp2_with fail
        refine KI.mono ?_
        rintro e w3 ⟨rfl, hB⟩
        have HB3 := Lib.hid (HB.out.trans (hB.mono HB.out.size))
        clear hB KI
        go_wp2_with fail
        rw [HP.out, HR.out]
        exact ⟨rfl, HB3.out⟩
      · rw [if_neg (fun hc => h3 hc.2.2)] at h
        have HR := Lib.hid h
        obtain ⟨a, ha⟩ : ∃ a : ByteArray, a = ⟨(Lib.itoa v).toArray⟩ := ⟨_, rfl⟩
        rw [← ha] at KI
        have hab : ¬ a = b := fun e => by rw [ha, hb] at e; exact h3 (ba_inj e)
        have hab2 : ¬ a.toList = b.toList := fun e => hab (by rw [ha, hb, ba_list, ba_list] at e; rw [ha, hb, e])
        have hab3 : (a.toList == b.toList) = false := beq_eq_false_iff_ne.2 hab2
        clear h h3 hb1 hb2 h1 h2 ha hb hab hab2
        go_wp2_with fail
        refine KI.mono ?_
        rintro e w3 ⟨rfl, hB⟩
        have HB3 := Lib.hid (HB.out.trans (hB.mono HB.out.size))
        clear hB KI
        go_wp2_with fail
        rw [HP.out, HR.out]
        exact ⟨rfl, HB3.out⟩
    · have HR := Lib.hid (HW.out ha)
      clear ha KA KC hB
      go_wp2_with fail
      rw [HP.out, HR.out]
      exact ⟨rfl, HB.out⟩
end Go.Proofs.YtmaiofimmjedjaaDoor
