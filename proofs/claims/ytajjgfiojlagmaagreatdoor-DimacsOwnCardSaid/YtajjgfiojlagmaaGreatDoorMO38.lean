/- Texts of this claim, joined: E3, E7, X7. -/
import Derived.Test.YtajjgfiojlagmaaGreatDoorMO26
import Derived.Test.YtajjgfiojlagmaaGreatDoorMO36
import Derived.Test.YtajjgfiojlagmaaGreatDoorMO18
import Derived.Deep.DeepCutAuto
import Derived.Test.YtajjgfiojlagmaaGreatDoorMO37

/- The program's numbers: numerals appended to a row of bytes. -/
namespace Go.Proofs.YtajjgfiojlagmaaGreatDoor
open Go.RowKit

def preN (ns : List Int) (k : Nat) : List UInt8 := (ns.take k).flatMap fun x => Lib.itoa x ++ [32]
theorem preN_all (ns : List Int) : preN ns ns.length ++ [48, 10] = lnN ns ++ [10] := by unfold preN lnN; rw [List.take_length]; simp
theorem preN_succ {ns : List Int} {k : Nat} {x : Int} (h : ns[k]? = some x) : preN ns (k + 1) = preN ns k ++ Lib.itoa x ++ [32] := by
  unfold preN
  rw [List.take_add_one, h, List.flatMap_append]
  simp
theorem preN_len {ns : List Int} (hI : ∀ z ∈ ns, -100000 < z ∧ z < 100000) : ∀ k, (preN ns k).length ≤ 7 * k
  | 0 => by simp [preN]
  | k + 1 => by
    have ih := preN_len hI k
    cases h : ns[k]? with
    | none =>
      have : preN ns (k + 1) = preN ns k := by unfold preN; rw [List.take_add_one, h]; simp
      rw [this]; omega
    | some x =>
      rw [preN_succ h, List.length_append, List.length_append]
      have hx := hI x (List.mem_of_getElem? h)
      have := itoa_le6 hx.1 hx.2
      simp only [List.length_cons, List.length_nil]
      omega

set_option maxHeartbeats 6400000 in
set_option maxRecDepth 100000 in
theorem gNumbers (B : Nat) (l : List UInt8) (sv : Value) (ns : List Int) (a : Option Addr) (c : Nat) (w : World) (hown : OwnM w B sv l.length (Lib.byteCells l)) (hBw : B ≤ w.heap.size) (hA : AtN B w a (ints ns)) (hI : ∀ z ∈ ns, -100000 < z ∧ z < 100000) (hlim : l.length + 7 * ns.length ≤ 900000000) (hTB : ∀ w', Below B w w' → TabI w') :
    Calls Tryz.prog 16 #[sv, .slice a ns.length c] w fun e w' => ∃ v', e = .returned v' ∧ OwnM w' B v' (l ++ (lnN ns ++ [10])).length (Lib.byteCells (l ++ (lnN ns ++ [10]))) ∧ Below B w w' := by
  obtain ⟨i0, hi, hz0, hz1, hz2⟩ := info_parts Tryz.infoByteE
  have HI0 := Lib.hid hi
  have HZ0 := Lib.hid hz0
  have HZ1 := Lib.hid hz1
  have HZ2 := Lib.hid hz2
  obtain ⟨Post, hPost⟩ : ∃ P : Ending → World → Prop, P = fun e w' => ∃ v', e = .returned v' ∧ OwnM w' B v' (l ++ (lnN ns ++ [10])).length (Lib.byteCells (l ++ (lnN ns ++ [10]))) ∧ Below B w w' := ⟨_, rfl⟩
  rw [← hPost]
  have HP := Lib.hid hPost
  obtain ⟨g, cap, e⟩ := hown.slice
  subst e
  have HO := Lib.hid hown
  have HA := Lib.hid hA
  have HI := Lib.hid hI
  have HTB := Lib.hid hTB
  have HPL := Lib.hid (preN_len hI)
  clear hPost hown hA hI hTB hi hz0 hz1 hz2
  go_enter Tryz.func16, Tryz.ntmps16
  go_wp2_with fail
  go_loopw [0, 9] (fun t0 t9 wr => ∃ (k : Nat) (g cap : Nat) (m : Nat), k ≤ ns.length ∧ t0 = .slice (some ⟨g, 0, none⟩) m cap ∧ t9 = .int .i64 k ∧ m ≤ l.length + 7 * k ∧ Hid (OwnM wr B (.slice (some ⟨g, 0, none⟩) m cap) m (Lib.byteCells (l ++ preN ns k))) ∧ Hid (Below B w wr)) (fun _ t9 _ => ns.length - (intOf t9).toNat)
  case atStart =>
    refine ⟨0, g, cap, l.length, Nat.zero_le _, rfl, rfl, by omega, ?_, Below.refl _ _⟩
    show OwnM _ _ _ _ _
    rw [show preN ns 0 = [] from rfl, List.append_nil]
    exact HO.out
  case round =>
    obtain ⟨k, g, cap, m, hk, rfl, rfl, hm, HOk, HB⟩ := hrel
    by_cases hlt : k < ns.length
    · have hdd : decide (k < ns.length) = true := decide_eq_true hlt
      have hxx : ns[k]? = some (ns.getD k 0) := by simp [List.getD, hlt]
      obtain ⟨b1, o1, hb1, e1, k1⟩ := HA.out k _ (ints_get _ _ _ hxx)
      subst e1
      have d1 := below_cell HB.out hb1 k1
      have hx := HI.out _ (List.mem_of_getElem? hxx)
      have hsz := HB.out.size
      have HPS := Lib.hid (preN_succ hxx)
      generalize ns.getD k 0 = x at *
      have hlen6 := itoa_le6 hx.1 hx.2
      have KA := gAppendInt B m x (by omega) (by omega) _ _ wr HOk.out (by omega) (by omega) (fun w' hw' => HTB.out w' (HB.out.trans hw'))
      clear k1 hxx
      go_wp2_with fail
      refine KA.mono ?_
      rintro e w2 ⟨v2, rfl, hO2, hB2⟩
      obtain ⟨g2, cap2, e2⟩ := hO2.slice
      subst e2
      have HO2 := Lib.hid (hO2.keep (below_one w2 (.cells #[Value.int .u8 32] 5)))
      have HB2 := Lib.hid (HB.out.trans hB2)
      have hs2 := hB2.size
      have HSR := Lib.hid (Src.ofSlice (P := Tryz.prog) (size := 1) (w2.alloc (.cells #[Value.int .u8 32] 5)) Tryz.underlying50 ⟨w2.heap.size, 0, none⟩ 1 1 [Value.int .u8 32] rfl (fun j u hj => by
        rw [Addr.add_lit, Nat.zero_add]
        exact blk_cell (new_one w2 _) j (by simpa using hj)) (by simp [Value.oneCell']))
      clear hO2 hB2 KA d1
      go_wp2_with (at_builtin; refine wpList_append_m _ rfl _ _ 50 50 rfl 5 i0 (.int .u8 0) Tryz.underlying50 HI0.out HZ0.out HZ1.out HZ2.out rfl B _ _ _ rfl HO2.out (by simp; omega) _ _ _ rfl HSR.out (by unfold maxLen; omega) (by omega) ?_)
      intro v3 w3 hO3 hB3
      obtain ⟨g3, cap3, e3⟩ := hO3.slice
      subst e3
      have HO3 := Lib.hid (show OwnM w3 B (.slice (some ⟨g3, 0, none⟩) (m + (Lib.itoa x).length + 1) cap3) (m + (Lib.itoa x).length + 1) (Lib.byteCells (l ++ preN ns (k + 1))) by
        rw [HPS.out, ← List.append_assoc, ← List.append_assoc, Lib.byteCells_append, Lib.byteCells_append, List.append_assoc (Lib.byteCells _)]
        exact hO3)
      have HB3 := Lib.hid ((HB2.out.trans ((Below.refl B w2).alloc (by omega) _)).trans hB3)
      clear hO3 hB3 HO2 HSR
      go_wp2_with fail
      go_roundw
      case rel => exact ⟨k + 1, g3, cap3, m + (Lib.itoa x).length + 1, by omega, rfl, by go_num, by omega, HO3.out, HB3.out⟩
      case measure => simp [intOf]; omega
    · obtain rfl : k = ns.length := by omega
      have hdd : decide (ns.length < ns.length) = false := by simp
      have hsz := HB.out.size
      have HSR := Lib.hid (Src.ofString (P := Tryz.prog) wr Tryz.underlying9 ⟨#[48, 10]⟩)
      go_wp2_with (at_builtin; refine wpList_append_m _ rfl _ _ 50 9 rfl 5 i0 (.int .u8 0) Tryz.underlying50 HI0.out HZ0.out HZ1.out HZ2.out rfl B _ _ _ rfl HOk.out (by omega) _ _ _ rfl HSR.out (by show m + 2 ≤ _; unfold maxLen; omega) (by show m + 2 ≤ _; omega) ?_)
      intro v3 w3 hO3 hB3
      obtain ⟨g3, cap3, e3⟩ := hO3.slice
      subst e3
      have hml : m = (l ++ preN ns ns.length).length := by
        obtain ⟨_, _, _, _, _, _, _, h5, _⟩ := HOk.out
        rw [Lib.byteCells_length] at h5
        exact h5.symm
      have HO3 := Lib.hid (show OwnM w3 B (.slice (some ⟨g3, 0, none⟩) (m + 2) cap3) (l ++ (lnN ns ++ [10])).length (Lib.byteCells (l ++ (lnN ns ++ [10]))) by
        have e1 : l ++ (lnN ns ++ [10]) = l ++ preN ns ns.length ++ [48, 10] := by rw [← preN_all, List.append_assoc]
        rw [e1, Lib.byteCells_append, List.length_append, ← hml]
        exact hO3)
      have HB3 := Lib.hid (HB.out.trans hB3)
      clear hO3 hB3 HSR hml
      go_wp2_with fail
      rw [HP.out]
      exact ⟨_, rfl, HO3.out, HB3.out⟩
end Go.Proofs.YtajjgfiojlagmaaGreatDoor

/- The program's Print. -/
namespace Go.Proofs.YtajjgfiojlagmaaGreatDoor
open Go.RowKit Num

theorem gItoaE (n : Int) (h0 : -9223372036854775808 ≤ n) (h1 : n ≤ 9223372036854775807) (w : World) (ht : TabI w) : GivesFrom w 15 #[.int .i64 n] (.string ⟨(Lib.itoa n).toArray⟩) := fun w' hw' => by
  refine (Tryz.strconv_Itoa n h0 h1 w' (ht.below hw')).mono ?_
  rintro e w2 ⟨rfl, k, os, rfl⟩
  exact ⟨rfl, rfl, rfl, rfl, by simp [World.drewN], fun j hj => (Sort.heap_grow_old (w'.drewN k) os hj).trans rfl⟩

def tx0 (n m : Int) : List UInt8 := lnP n m ++ [10]
def tx1 (n m : Int) (sh : List Int) : List UInt8 := tx0 n m ++ (if sh = [] then [] else lnS sh ++ [10])
def tx2 (n m : Int) (sh : List Int) (ws : List (Int × List UInt8)) (k : Nat) : List UInt8 := tx1 n m sh ++ (ws.take k).flatMap fun x => lnW x ++ [10]
def tx3 (n m : Int) (sh : List Int) (ws : List (Int × List UInt8)) (L : List (List Int)) (k : Nat) : List UInt8 := tx2 n m sh ws ws.length ++ (L.take k).flatMap fun c => lnN c ++ [10]
theorem tx_all (n : Int) (L : List (List Int)) (sh : List Int) (ws : List (Int × List UInt8)) : tx3 n L.length sh ws L L.length = ptB n L sh ws := by
  unfold tx3 tx2 tx1 tx0 ptB linesP
  rw [List.take_length, List.take_length, List.flatMap_cons, List.flatMap_append, List.flatMap_append, List.flatMap_map, List.flatMap_map]
  split <;> simp
theorem tx2_succ {n m : Int} {sh : List Int} {ws : List (Int × List UInt8)} {k : Nat} {x : Int × List UInt8} (h : ws[k]? = some x) : tx2 n m sh ws (k + 1) = tx2 n m sh ws k ++ (lnW x ++ [10]) := by
  unfold tx2
  rw [List.take_add_one, h, List.flatMap_append]
  simp
theorem tx3_succ {n m : Int} {sh : List Int} {ws : List (Int × List UInt8)} {L : List (List Int)} {k : Nat} {c : List Int} (h : L[k]? = some c) : tx3 n m sh ws L (k + 1) = tx3 n m sh ws L k ++ (lnN c ++ [10]) := by
  unfold tx3
  rw [List.take_add_one, h, List.flatMap_append]
  simp
theorem lnN_len {c : List Int} (h : ∀ z ∈ c, -100000 < z ∧ z < 100000) : (lnN c).length ≤ 7 * c.length + 1 := by
  have h1 := preN_len h c.length
  have h2 := congrArg List.length (preN_all c)
  simp only [List.length_append, List.length_cons, List.length_nil] at h2
  omega
theorem tx0_len {n m : Int} (hn : -100000 < n ∧ n < 100000) (hm : -100000 < m ∧ m < 100000) : (tx0 n m).length ≤ 20 ∧ 0 < (tx0 n m).length := by
  have h1 := itoa_le6 hn.1 hn.2
  have h2 := itoa_le6 hm.1 hm.2
  unfold tx0 lnP
  simp only [List.length_append, List.length_cons, List.length_nil]
  omega
theorem tx1_len {n m : Int} {sh : List Int} (hn : -100000 < n ∧ n < 100000) (hm : -100000 < m ∧ m < 100000) (hs : ∀ z ∈ sh, -100000 < z ∧ z < 100000) : (tx1 n m sh).length ≤ 40 + 7 * sh.length := by
  have h1 := (tx0_len hn hm).1
  have h2 := lnN_len hs
  unfold tx1 lnS
  split <;> (simp only [List.length_append, List.length_cons, List.length_nil]; omega)
theorem tx2_len {n m : Int} {sh : List Int} {ws : List (Int × List UInt8)} (hn : -100000 < n ∧ n < 100000) (hm : -100000 < m ∧ m < 100000) (hs : ∀ z ∈ sh, -100000 < z ∧ z < 100000) (hw : ∀ x ∈ ws, (-100000 < x.1 ∧ x.1 < 100000) ∧ x.2.length ≤ 20000) : ∀ k, (tx2 n m sh ws k).length ≤ 40 + 7 * sh.length + 20030 * k
  | 0 => by have := tx1_len hn hm hs; unfold tx2; simp; omega
  | k + 1 => by
    have ih := tx2_len hn hm hs hw k
    cases h : ws[k]? with
    | none =>
      have : tx2 n m sh ws (k + 1) = tx2 n m sh ws k := by unfold tx2; rw [List.take_add_one, h]; simp
      rw [this]; omega
    | some x =>
      rw [tx2_succ h]
      have hx := hw x (List.mem_of_getElem? h)
      have := itoa_le6 hx.1.1 hx.1.2
      unfold lnW
      simp only [List.length_append, List.length_cons, List.length_nil]
      omega
theorem tx3_len {n m : Int} {sh : List Int} {ws : List (Int × List UInt8)} {L : List (List Int)} (hn : -100000 < n ∧ n < 100000) (hm : -100000 < m ∧ m < 100000) (hs : ∀ z ∈ sh, -100000 < z ∧ z < 100000) (hw : ∀ x ∈ ws, (-100000 < x.1 ∧ x.1 < 100000) ∧ x.2.length ≤ 20000) (hL : ∀ c ∈ L, c.length ≤ 128 ∧ ∀ z ∈ c, -100000 < z ∧ z < 100000) : ∀ k, (tx3 n m sh ws L k).length ≤ 40 + 7 * sh.length + 20030 * ws.length + 1000 * k
  | 0 => by have := tx2_len hn hm hs hw ws.length; unfold tx3; simp; omega
  | k + 1 => by
    have ih := tx3_len hn hm hs hw hL k
    cases h : L[k]? with
    | none =>
      have : tx3 n m sh ws L (k + 1) = tx3 n m sh ws L k := by unfold tx3; rw [List.take_add_one, h]; simp
      rw [this]; omega
    | some c =>
      rw [tx3_succ h]
      have hx := hL c (List.mem_of_getElem? h)
      have := lnN_len hx.2
      simp only [List.length_append, List.length_cons, List.length_nil]
      omega
theorem gNumbers2 (B : Nat) (l : List UInt8) (sv : Value) (ns : List Int) (a : Option Addr) (c : Nat) (w : World) (hown : OwnM w B sv l.length (Lib.byteCells l)) (hBw : B ≤ w.heap.size) (hA : AtN B w a (ints ns)) (hI : ∀ z ∈ ns, -100000 < z ∧ z < 100000) (hlim : l.length + 7 * ns.length ≤ 900000000) (hTB : ∀ w', Below B w w' → TabI w') :
    Calls Tryz.prog 16 #[sv, .slice a ns.length c] w fun e w' => ∃ g cap m, e = .returned (.slice (some ⟨g, 0, none⟩) m cap) ∧ Hid (m = (l ++ (lnN ns ++ [10])).length) ∧ OwnM w' B (.slice (some ⟨g, 0, none⟩) m cap) m (Lib.byteCells (l ++ (lnN ns ++ [10]))) ∧ Below B w w' := by
  refine (gNumbers B l sv ns a c w hown hBw hA hI hlim hTB).mono ?_
  rintro e w' ⟨v', rfl, hO, hB⟩
  obtain ⟨g, cap, e'⟩ := hO.slice
  subst e'
  exact ⟨g, cap, _, rfl, rfl, hO, hB⟩

set_option maxHeartbeats 12800000 in
set_option maxRecDepth 100000 in
theorem gPrint (n : Int) (L : List (List Int)) (sh : List Int) (ws : List (Int × List UInt8)) (aL aS aW : Option Addr) (cL cS cW : Nat) (w : World) (hA : FileAt w.heap.size w aL aS aW L sh ws) (hv : ∀ x ∈ ws, x.2.length ≤ 20000) (hsl : sh.length ≤ 20000) (hwl : ws.length ≤ 20000) (hT : TabI w) (hM0 : ∃ m, w.cell? ⟨1, 0, none⟩ = some (.int .i64 m)) :
    Calls Tryz.prog 8 #[.agg #[.int .i64 n, .slice aL L.length cL, .slice aS sh.length cS, .slice aW ws.length cW]] w fun e w' => e = .returned (.tuple #[.string ⟨(printD rdD n L sh ws).1.toArray⟩, .int .i64 (printD rdD n L sh ws).2]) ∧ Below w.heap.size w w' := by
  obtain ⟨R, hR⟩ : ∃ R, R = printD rdD n L sh ws := ⟨_, rfl⟩
  rw [← hR]
  have HR := Lib.hid (show R = if checkD rdD n L sh ws ≠ 0 then ([], checkD rdD n L sh ws) else if 1048576 < (ptB n L sh ws).length then ([], 2) else (ptB n L sh ws, 0) from hR)
  obtain ⟨Post, hPost⟩ : ∃ P : Ending → World → Prop, P = fun e w' => e = .returned (.tuple #[.string ⟨R.1.toArray⟩, .int .i64 R.2]) ∧ Below w.heap.size w w' := ⟨_, rfl⟩
  rw [← hPost]
  have HP := Lib.hid hPost
  have HA := Lib.hid hA
  have HV := Lib.hid hv
  have HM0 := Lib.hid hM0
  have HT := Lib.hid hT
  clear hPost hR hA hM0 hT
  go_enter Tryz.func8, Tryz.ntmps8
  go_upto_region 1 with fail
  refine wp_gen ?_
  intro w1 hw1
  have S1 := Lib.hid (show w1.heap[w.heap.size]? = some (.cells #[.int .i64 n, .slice aL L.length cL, .slice aS sh.length cS, .slice aW ws.length cW] 28 (0, 0)) by rw [hw1]; exact new_one _ _)
  have HB1 := Lib.hid (show Below w.heap.size w w1 by rw [hw1]; exact below_one _ _)
  clear hw1
  have KC := gCheckF n L sh ws aL aS aW cL cS cW w1 ((HA.out.below HB1.out (Nat.le_refl _)).mono HB1.out.size) (fun x hx => by have := hv x hx; omega) (by omega) (by omega) (by obtain ⟨m, hm⟩ := HM0.out; exact ⟨m, below_cell HB1.out (block_lt_of_cell hm) hm⟩)
  have q0 := blk_cell S1.out 0 rfl
  have q1 := blk_cell S1.out 1 rfl
  have q2 := blk_cell S1.out 2 rfl
  have q3 := blk_cell S1.out 3 rfl
  go_wp2_with fail
  refine KC.mono ?_
  rintro e w2 ⟨rfl, hB⟩
  have HB2 := Lib.hid (HB1.out.trans (hB.mono HB1.out.size))
  have S2 := Lib.hid ((behind_of_below hB).keep S1.out (by simp))
  clear hB KC q0 q1 q2 q3 S1 HB1
  by_cases hck : checkD rdD n L sh ws ≠ 0
  · have hb1 : (checkD rdD n L sh ws != 0) = true := by simp [bne, beq_no hck]
    have HF := Lib.hid (HR.out.trans (if_pos hck))
    generalize checkD rdD n L sh ws = tc at *
    clear hck
    go_wp2_with fail
    rw [HP.out, HF.out]
    exact ⟨rfl, HB2.out⟩
  have hckz : checkD rdD n L sh ws = 0 := Decidable.not_not.1 hck
  have hok := checkD_ok.1 hckz
  have HR2 := Lib.hid (HR.out.trans (if_neg hck))
  rw [hckz]
  have hn5 : -100000 < n ∧ n < 100000 := by have := hok.n0; have := hok.n1; omega
  have hm5 : -100000 < ((L.length : Nat) : Int) ∧ ((L.length : Nat) : Int) < 100000 := by have := hok.l; omega
  have HS5 := Lib.hid (show ∀ z ∈ sh, -100000 < z ∧ z < 100000 from fun z hz => by have := hok.shr z hz; have := hok.n1; omega)
  have HW5 := Lib.hid (show ∀ x ∈ ws, (-100000 < x.1 ∧ x.1 < 100000) ∧ x.2.length ≤ 20000 from fun x hx => by have h1 := validD_in hok.n1 (hok.wsr x hx).1; exact ⟨by omega, hv x hx⟩)
  have HL5 := Lib.hid (show ∀ c ∈ L, c.length ≤ 128 ∧ ∀ z ∈ c, -100000 < z ∧ z < 100000 from fun c hc => ⟨(hok.cls c hc).1, fun z hz => by have h1 := validD_in hok.n1 ((hok.cls c hc).2 z hz); omega⟩)
  have hL4 : L.length ≤ 4096 := hok.l
  have HT2 := Lib.hid (HT.out.below HB2.out)
  have HTB := Lib.hid (show ∀ w', Below w2.heap.size w2 w' → TabI w' from fun w' h => HT2.out.below h)
  have KI1 := gItoaE n (by omega) (by omega) w2 HT2.out
  have KI2 := gItoaE (L.length : Nat) (by omega) (by omega) w2 HT2.out
  have hws := lt_of_heap S2.out
  clear hck hckz hok HR hv
  obtain ⟨y1, hy1⟩ : ∃ y1 : ByteArray, y1 = ⟨(Lib.itoa n).toArray⟩ := ⟨_, rfl⟩
  obtain ⟨y2, hy2⟩ : ∃ y2 : ByteArray, y2 = ⟨(Lib.itoa (L.length : Nat)).toArray⟩ := ⟨_, rfl⟩
  rw [← hy1] at KI1
  rw [← hy2] at KI2
  have hs1 : y1.size ≤ 6 := by rw [hy1, ba_size]; exact itoa_le6 hn5.1 hn5.2
  have hs2 : y2.size ≤ 6 := by rw [hy2, ba_size]; exact itoa_le6 hm5.1 hm5.2
  obtain ⟨z1, hz1⟩ : ∃ z1 : ByteArray, z1 = (⟨#[112, 32, 99, 110, 102, 32]⟩ : ByteArray) ++ y1 := ⟨_, rfl⟩
  obtain ⟨z2, hz2⟩ : ∃ z2 : ByteArray, z2 = z1 ++ ⟨#[32]⟩ := ⟨_, rfl⟩
  obtain ⟨z3, hz3⟩ : ∃ z3 : ByteArray, z3 = z2 ++ y2 := ⟨_, rfl⟩
  obtain ⟨z4, hz4⟩ : ∃ z4 : ByteArray, z4 = z3 ++ ⟨#[10]⟩ := ⟨_, rfl⟩
  have hs3 : z1.size ≤ 12 := by rw [hz1, ByteArray.size_append]; show 6 + y1.size ≤ _; omega
  have hs4 : z2.size ≤ 13 := by rw [hz2, ByteArray.size_append]; show z1.size + 1 ≤ _; omega
  have hs5 : z3.size ≤ 19 := by rw [hz3, ByteArray.size_append]; omega
  have ha1 : ∀ x, (Op.stringOp .add (⟨#[112, 32, 99, 110, 102, 32]⟩ : ByteArray) y1).run Tryz.prog x = .ok (.string z1) x := fun x => by rw [hz1]; exact run_string_add_sum x _ _ (by show 6 + y1.size ≤ _; omega)
  have ha2 : ∀ x, (Op.stringOp .add z1 ⟨#[32]⟩).run Tryz.prog x = .ok (.string z2) x := fun x => by rw [hz2]; exact run_string_add_sum x _ _ (by show z1.size + 1 ≤ _; omega)
  have ha3 : ∀ x, (Op.stringOp .add z2 y2).run Tryz.prog x = .ok (.string z3) x := fun x => by rw [hz3]; exact run_string_add_sum x _ _ (by omega)
  have ha4 : ∀ x, (Op.stringOp .add z3 ⟨#[10]⟩).run Tryz.prog x = .ok (.string z4) x := fun x => by rw [hz4]; exact run_string_add_sum x _ _ (by show z3.size + 1 ≤ _; omega)
  have HX0 := Lib.hid (show z4 = ⟨(tx0 n L.length).toArray⟩ by
    rw [hz4, hz3, hz2, hz1, hy1, hy2]
    apply ByteArray.ext
    simp [tx0, lnP])
  clear hs1 hs2 hs3 hs4 hs5 hz1 hz2 hz3 hz4
  clear hy1 hy2
  go_wp2_with fail
  refine wp_game_tail 13 [0, 0, 0, 0, 0, 0, 0, 0, 0, 0, 0, 0, 0, 0, 0] [] B0 fin_B0 (has_B0 _) (by kernel_rfl) (by kernel_rfl) ?_
  simp only [List.take_succ_cons, List.take_zero]
  refine lex_quietE 13 (by kernel_rfl) (by rfl) ?_
  apply Exists.intro
  refine ⟨fun z hz1 => ?_, ?_⟩
  · have g0 := blk_cellp (hz1.keep S2.out (by simp)) 0 rfl
    have g1 := blk_cellp (hz1.keep S2.out (by simp)) 1 rfl
    have hzb := hz1.below
    clear hz1
    simp only [List.take_succ_cons, List.take_zero]
    unfold Cx
    repeat (go_big_quiet_step (first | with_reducible exact KI1.at2 hzb _ | with_reducible exact KI2.at2 hzb _))
    exact wpQuiet_nil rfl
  simp only [List.drop_succ_cons, List.drop_zero]
  refine lex_nil ?_
  intro x2 hx2 _
  obtain ⟨v3, w3, hcv, hO3, hB3⟩ := bytes_m (P := Tryz.prog) x2 9 50 5 (tx0 n L.length) Tryz.underlying9 Tryz.underlying50 Tryz.underlying5 (by have := (tx0_len hn5 hm5).1; omega)
  rw [← HX0.out] at hcv
  obtain ⟨g3, cap3, e3⟩ := hO3.slice
  subst e3
  have S3 := Lib.hid ((behind_of_below hB3).keep (hx2.keep S2.out (by simp)) (by simp))
  have HB3 := Lib.hid (hx2.below.trans (hB3.mono hx2.size))
  have HO3 := Lib.hid (hO3.mono hx2.size)
  clear hx2 hO3 hB3 KI1 KI2 ha1 ha2 ha3 ha4 HX0
  go_upto_region 5 with fail
  clear hcv
  obtain ⟨B, hBd⟩ : ∃ B, B = w2.heap.size := ⟨_, rfl⟩
  rw [← hBd] at HO3 HB3 HTB
  obtain ⟨i0, hi, hz0, hz1, hz2⟩ := info_parts Tryz.infoByteE
  have HI0 := Lib.hid hi
  have HZ0 := Lib.hid hz0
  have HZ1 := Lib.hid hz1
  have HZ2 := Lib.hid hz2
  clear hi hz0 hz1 hz2
  have hBw : w.heap.size < B := by omega
  have HA3 := Lib.hid (show FileAt B w2 aL aS aW L sh ws from by rw [hBd]; exact (HA.out.below HB2.out (Nat.le_refl _)).mono HB2.out.size)
  have hBle : B ≤ w2.heap.size := by omega
  clear hBd
  have q2 := blk_cell S3.out 2 rfl
  obtain ⟨bs, hbs⟩ : ∃ bs, bs = decide (0 < sh.length) := ⟨_, rfl⟩
  have HBS := Lib.hid hbs
  have hd : decide (0 < sh.length) = bs := hbs.symm
  have hd2 : decide ((0 : Int) < (sh.length : Int)) = bs := by
    rw [hbs]
    by_cases h : 0 < sh.length
    · rw [decide_eq_true h, decide_eq_true (by omega)]
    · rw [decide_eq_false h, decide_eq_false (by omega)]
  clear hbs
  go_upto_if 32 with fail
  clear hd hd2
  go_cut [5] (fun t5 wx => ∃ (g cap m : Nat), t5 = .slice (some ⟨g, 0, none⟩) m cap ∧ m = (tx1 n L.length sh).length ∧ Hid (OwnM wx B (.slice (some ⟨g, 0, none⟩) m cap) m (Lib.byteCells (tx1 n L.length sh))) ∧ Hid (Below B w2 wx))
  case first =>
    by_cases h0 : sh = []
    · have hl0 : sh.length = 0 := by rw [h0]; rfl
      obtain rfl : bs = false := HBS.out.trans (decide_eq_false (by omega))
      have he : tx1 n L.length sh = tx0 n L.length := by unfold tx1; rw [if_pos h0, List.append_nil]
      have HE := Lib.hid he
      clear he h0 hl0
      go_wp2_with fail
      go_meet
      case rel => exact ⟨g3, cap3, _, rfl, by rw [HE.out], by rw [HE.out]; exact HO3.out, HB3.out⟩
    · have hl0 : 0 < sh.length := List.length_pos_iff.2 h0
      obtain rfl : bs = true := HBS.out.trans (decide_eq_true hl0)
      have he : tx1 n L.length sh = (tx0 n L.length ++ [99, 32, 112, 32, 115, 104, 111, 119, 32]) ++ (lnN sh ++ [10]) := by unfold tx1 lnS; rw [if_neg h0]; simp
      have HE := Lib.hid he
      have ht0 := tx0_len hn5 hm5
      obtain ⟨g, cap, cur, E, fr, ev, hge, hrow⟩ := HO3.out.rowM (by omega)
      cases ev
      obtain ⟨kF, hkF⟩ : ∃ kF, kF = if (tx0 n L.length).length + (⟨#[99, 32, 112, 32, 115, 104, 111, 119, 32]⟩ : ByteArray).size ≤ cap3 then 2 else 5 := ⟨_, rfl⟩
      have hkF' : kF = 2 ∨ kF = 5 := by rw [hkF]; split <;> simp
      have HKF := Lib.hid hkF
      have HRW := Lib.hid hrow
      have hgS : w.heap.size ≠ g3 := by omega
      clear he h0 hkF hrow
      go_wp2_with fail
      refine wp_game_tail 4 [0, kF, 0, 0, 0, 0] [g3] (inW w3) ⟨w3.heap.size, fun b hb => Array.getElem?_eq_none hb⟩ (fun b o h => h) (by kernel_rfl) (by rcases hkF' with h | h <;> rw [h] <;> kernel_rfl) ?_
      simp only [List.take_succ_cons, List.take_zero]
      refine lex_quietE 1 (by kernel_rfl) (by rfl) ?_
      apply Exists.intro
      refine ⟨fun z hz1 => ?_, ?_⟩
      · clear hz1
        simp only [List.take_succ_cons, List.take_zero]
        unfold Cx
        repeat (go_big_quiet_step (fail))
        exact wpQuiet_nil rfl
      simp only [List.drop_succ_cons, List.drop_zero]
      refine lex_append_strM (.tmp 33) (.const (.string ⟨#[99, 32, 112, 32, 115, 104, 111, 119, 32]⟩)) 50 9 5 i0 (.int .u8 0) Tryz.underlying50 Tryz.underlying9 HI0.out HZ0.out HZ1.out HZ2.out rfl g3 _ cap3 _ cur E fr HRW.out (by rfl) ⟨#[99, 32, 112, 32, 115, 104, 111, 119, 32]⟩ (by rfl) (by show _ + 9 ≤ _; unfold maxLen; omega) (by show _ + 9 ≤ _; omega) (.inl (by simp)) HKF.out (fun g4 cap4 cur4 E4 fr4 hr4 hg4 => ?_)
      have HR4 := Lib.hid hr4
      have HG4 := Lib.hid (show B ≤ g4 from hg4.elim (fun e => by rw [e]; exact hge) (fun e => by have := HB3.out.size; omega))
      clear hr4 hg4
      unfold setSlot
      go_big_quiet_step (fail)
      refine wpQuiet_nil ?_
      refine lex_quietE 2 (by kernel_rfl) (by rfl) ?_
      apply Exists.intro
      refine ⟨fun z hz1 => ?_, ?_⟩
      · have g2 := blk_cellp (hz1.keep S3.out (by simpa using hgS)) 2 rfl
        clear hz1
        simp only [List.take_succ_cons, List.take_zero]
        unfold Cx
        repeat (go_big_quiet_step (fail))
        exact wpQuiet_nil rfl
      simp only [List.drop_succ_cons, List.drop_zero]
      refine lex_nil ?_
      intro x4 hx4 hH4
      have hO4 : OwnM x4 B (.slice (some ⟨g4, 0, none⟩) ((tx0 n L.length).length + 9) cap4) ((tx0 n L.length).length + 9) (Lib.byteCells (tx0 n L.length ++ [99, 32, 112, 32, 115, 104, 111, 119, 32])) := by
        have h := HR4.out
        have hb4 := hH4 g4 _ h.blk
        have h5 : RowM (inW x4) g4 ((tx0 n L.length).length + 9) cap4 (Lib.byteCells (tx0 n L.length) ++ byteCells ⟨#[99, 32, 112, 32, 115, 104, 111, 119, 32]⟩) cur4 E4 fr4 := ⟨hb4, h.le, h.mx, h.sz, h.get, h.len, h.unf⟩
        rw [Lib.byteCells_append]
        exact h5.own HG4.out
      have hB4 : Below B w2 x4 := HB3.out.trans (hx4.below_of (fun k hk => by simp at hk; rw [hk]; exact hge) (by have := HB3.out.size; omega))
      have KN := gNumbers2 B (tx0 n L.length ++ [99, 32, 112, 32, 115, 104, 111, 119, 32]) _ sh aS cS x4 (by rw [List.length_append]; exact hO4) (by have := hB4.size; omega) (HA3.out.s.below hB4 (Nat.le_refl _)) HS5.out (by rw [List.length_append]; simp only [List.length_cons, List.length_nil]; omega) (fun w' hw' => HTB.out w' (hB4.trans hw'))
      have HB4 := Lib.hid hB4
      clear hx4 hH4 hO4 hB4 HR4
      go_wp2_with fail
      refine KN.mono ?_
      rintro e w5 ⟨g5, cap5, m5, rfl, hm5q, hO5, hB5⟩
      have HO5 := Lib.hid hO5
      have HB5 := Lib.hid (HB4.out.trans hB5)
      clear hO5 hB5 KN
      go_wp2_with fail
      go_meet
      case rel => exact ⟨g5, cap5, m5, rfl, by rw [HE.out]; exact hm5q.out, by rw [HE.out]; exact HO5.out, HB5.out⟩
  case rest =>
  obtain ⟨g6, cap6, m6, rfl, hm6, HO6, HB6⟩ := hcut
  obtain ⟨w6, hw6⟩ : ∃ w6, w6 = wc := ⟨_, rfl⟩
  subst hw6
  have S6 := Lib.hid ((HB6.out.block _ (by omega)).trans S2.out)
  have HM6 := Lib.hid hm6
  have hl6 := tx1_len hn5 hm5 HS5.out
  rw [← hm6] at hl6
  clear hm6 S3 HB3 HO3 HBS
  have q3 := blk_cell S6.out 3 rfl
  go_wp2_with fail
  go_loopw [5, 41] (fun t5 t41 wr => ∃ (j g cap m : Nat), j ≤ ws.length ∧ t5 = .slice (some ⟨g, 0, none⟩) m cap ∧ t41 = .int .i64 j ∧ Hid (m = (tx2 n L.length sh ws j).length) ∧ m ≤ 40 + 7 * sh.length + 20030 * j ∧ Hid (OwnM wr B (.slice (some ⟨g, 0, none⟩) m cap) m (Lib.byteCells (tx2 n L.length sh ws j))) ∧ Hid (Below B w2 wr)) (fun _ t41 _ => ws.length - (intOf t41).toNat)
  case atStart =>
    have e0 : tx2 n L.length sh ws 0 = tx1 n L.length sh := by unfold tx2; simp
    exact ⟨0, g6, cap6, m6, Nat.zero_le _, rfl, rfl, by rw [e0]; exact HM6.out, by omega, by rw [e0]; exact HO6.out, HB6.out⟩
  case round =>
    obtain ⟨j, g, cap, m, hj, rfl, rfl, HMj, hmj, HOj, HBj⟩ := hrel
    have hsz := HBj.out.size
    by_cases hlt : j < ws.length
    · have hdd : decide (j < ws.length) = true := decide_eq_true hlt
      have hxx : ws[j]? = some (ws.getD j (0, [])) := by simp [List.getD, hlt]
      obtain ⟨b1, o1, hb1, e1, k1⟩ := HA3.out.w _ _ (wts_get _ _ _ hxx).1
      subst e1
      obtain ⟨_, _, _, e2, k2⟩ := HA3.out.w _ _ (wts_get _ _ _ hxx).2
      cases e2
      rw [Nat.mul_comm] at k1
      rw [Nat.mul_comm, ← Nat.add_assoc] at k2
      have d1 := below_cell HBj.out hb1 k1
      have d2 := below_cell HBj.out hb1 k2
      have hx5 := HW5.out _ (List.mem_of_getElem? hxx)
      have HXS := Lib.hid (tx2_succ (n := n) (m := L.length) (sh := sh) hxx)
      generalize ws.getD j (0, []) = x at *
      obtain ⟨z, v⟩ := x
      simp only at d1 d2 hx5
      obtain ⟨y, hy⟩ : ∃ y : ByteArray, y = ⟨v.toArray⟩ := ⟨_, rfl⟩
      rw [← hy] at d2
      have HY := Lib.hid hy
      clear hy
      clear k1 k2 hxx
      go_upto_region 10 with fail
      refine wp_gen ?_
      intro w7 hw7
      have hb7 : Below wr.heap.size wr w7 := by rw [hw7]; exact below_one _ _
      have T7 := Lib.hid (show w7.heap[wr.heap.size]? = some (.cells #[.int .i64 z, .string y] 48 (0, 0)) by rw [hw7]; exact new_one _ _)
      have HB7 := Lib.hid (HBj.out.trans (hb7.mono (by omega)))
      have HO7 := Lib.hid (HOj.out.keep hb7)
      have hs7 := hb7.size
      clear hw7 hb7 d1 d2
      have KI := gItoaE z (by omega) (by omega) w7 (HTB.out w7 HB7.out)
      obtain ⟨y1, hy1⟩ : ∃ y1 : ByteArray, y1 = ⟨(Lib.itoa z).toArray⟩ := ⟨_, rfl⟩
      rw [← hy1] at KI
      have hs1 : y1.size ≤ 6 := by rw [hy1, ba_size]; exact itoa_le6 hx5.1.1 hx5.1.2
      have hs2 : y.size ≤ 20000 := by rw [HY.out, ba_size]; exact hx5.2
      obtain ⟨z1, hz1⟩ : ∃ z1 : ByteArray, z1 = (⟨#[99, 32, 112, 32, 119, 101, 105, 103, 104, 116, 32]⟩ : ByteArray) ++ y1 := ⟨_, rfl⟩
      obtain ⟨z2, hz2⟩ : ∃ z2 : ByteArray, z2 = z1 ++ ⟨#[32]⟩ := ⟨_, rfl⟩
      obtain ⟨z3, hz3⟩ : ∃ z3 : ByteArray, z3 = z2 ++ y := ⟨_, rfl⟩
      obtain ⟨z4, hz4⟩ : ∃ z4 : ByteArray, z4 = z3 ++ ⟨#[32, 48, 10]⟩ := ⟨_, rfl⟩
      have hs3 : z1.size ≤ 17 := by rw [hz1, ByteArray.size_append]; show 11 + y1.size ≤ _; omega
      have hs4 : z2.size ≤ 18 := by rw [hz2, ByteArray.size_append]; show z1.size + 1 ≤ _; omega
      have hs5 : z3.size ≤ 20018 := by rw [hz3, ByteArray.size_append]; omega
      have hs6 : z4.size ≤ 20021 := by rw [hz4, ByteArray.size_append]; show z3.size + 3 ≤ _; omega
      have ha1 : ∀ x, (Op.stringOp .add (⟨#[99, 32, 112, 32, 119, 101, 105, 103, 104, 116, 32]⟩ : ByteArray) y1).run Tryz.prog x = .ok (.string z1) x := fun x => by rw [hz1]; exact run_string_add_sum x _ _ (by show 11 + y1.size ≤ _; omega)
      have ha2 : ∀ x, (Op.stringOp .add z1 ⟨#[32]⟩).run Tryz.prog x = .ok (.string z2) x := fun x => by rw [hz2]; exact run_string_add_sum x _ _ (by show z1.size + 1 ≤ _; omega)
      have ha3 : ∀ x, (Op.stringOp .add z2 y).run Tryz.prog x = .ok (.string z3) x := fun x => by rw [hz3]; exact run_string_add_sum x _ _ (by omega)
      have ha4 : ∀ x, (Op.stringOp .add z3 ⟨#[32, 48, 10]⟩).run Tryz.prog x = .ok (.string z4) x := fun x => by rw [hz4]; exact run_string_add_sum x _ _ (by show z3.size + 3 ≤ _; omega)
      have hz4l : z4 = ⟨(lnW (z, v) ++ [10]).toArray⟩ := by
        rw [hz4, hz3, hz2, hz1, hy1, HY.out]
        apply ByteArray.ext
        simp [lnW]
      have HXZ := Lib.hid hz4l
      clear hs1 hs2 hs3 hs4 hs5 hz1 hz2 hz3 hz4 hy1 hz4l
      refine wp_game_tail 10 [0, 0, 0, 0, 0, 0, 0, 0, 0, 0, 0, 0] [] B0 fin_B0 (has_B0 _) (by kernel_rfl) (by kernel_rfl) ?_
      simp only [List.take_succ_cons, List.take_zero]
      refine lex_quietE 10 (by kernel_rfl) (by rfl) ?_
      apply Exists.intro
      refine ⟨fun x9 hz9 => ?_, ?_⟩
      · have g0 := blk_cellp (hz9.keep T7.out (by simp)) 0 rfl
        have g1 := blk_cellp (hz9.keep T7.out (by simp)) 1 rfl
        have hzb := hz9.below
        clear hz9
        simp only [List.take_succ_cons, List.take_zero]
        unfold Cx
        repeat (go_big_quiet_step (first | with_reducible exact KI.at2 hzb _))
        exact wpQuiet_nil rfl
      simp only [List.drop_succ_cons, List.drop_zero]
      refine lex_nil ?_
      intro x8 hx8 _
      have HO8 := Lib.hid (HO7.out.keep hx8.below)
      have HB8 := Lib.hid (HB7.out.trans (hx8.below.mono (by have := HB7.out.size; omega)))
      have hs8 := hx8.size
      have HSR := Lib.hid (Src.ofString (P := Tryz.prog) x8 Tryz.underlying9 z4)
      clear hx8 KI ha1 ha2 ha3 ha4
      go_wp2_with (at_builtin; refine wpList_append_m _ rfl _ _ 50 9 rfl 5 i0 (.int .u8 0) Tryz.underlying50 HI0.out HZ0.out HZ1.out HZ2.out rfl B _ m _ rfl HO8.out (by omega) _ _ _ rfl HSR.out (by unfold maxLen; omega) (by omega) ?_)
      intro v9 w9 hO9 hB9
      obtain ⟨g9, cap9, e9⟩ := hO9.slice
      subst e9
      obtain ⟨m9, hm9⟩ : ∃ m9, m9 = m + z4.size := ⟨_, rfl⟩
      rw [← hm9] at hO9 ⊢
      have HM9 := Lib.hid (show m9 = (tx2 n L.length sh ws (j + 1)).length by
        rw [HXS.out, List.length_append, ← HMj.out, hm9, HXZ.out, ba_size])
      have hm9l : m9 ≤ 40 + 7 * sh.length + 20030 * (j + 1) := by omega
      have HO9 := Lib.hid (show OwnM w9 B (.slice (some ⟨g9, 0, none⟩) m9 cap9) m9 (Lib.byteCells (tx2 n L.length sh ws (j + 1))) by
        rw [HXS.out, Lib.byteCells_append]
        have h := hO9
        rw [HXZ.out] at h
        exact h)
      have HB9 := Lib.hid (HB8.out.trans hB9)
      clear hO9 hB9 HO8 HSR hm9 hs6
      go_wp2_with fail
      go_roundw
      case rel => exact ⟨j + 1, g9, cap9, m9, by omega, rfl, by go_num, HM9.out, hm9l, HO9.out, HB9.out⟩
      case measure => simp [intOf]; omega
    · obtain rfl : j = ws.length := by omega
      have hdd : decide (ws.length < ws.length) = false := by simp
      obtain ⟨w10, hw10⟩ : ∃ w10, w10 = wr := ⟨_, rfl⟩
      subst hw10
      have S10 := Lib.hid ((HBj.out.block _ (by omega)).trans S2.out)
      have q1 := blk_cell S10.out 1 rfl
      go_wp2_with fail
      go_loopw [5, 61] (fun t5 t61 wr => ∃ (j g cap m : Nat), j ≤ L.length ∧ t5 = .slice (some ⟨g, 0, none⟩) m cap ∧ t61 = .int .i64 j ∧ Hid (m = (tx3 n L.length sh ws L j).length) ∧ Hid (OwnM wr B (.slice (some ⟨g, 0, none⟩) m cap) m (Lib.byteCells (tx3 n L.length sh ws L j))) ∧ Hid (Below B w2 wr)) (fun _ t61 _ => L.length - (intOf t61).toNat)
      case atStart =>
        have e0 : tx3 n L.length sh ws L 0 = tx2 n L.length sh ws ws.length := by unfold tx3; simp
        exact ⟨0, g, cap, m, Nat.zero_le _, rfl, rfl, by rw [e0]; exact HMj.out, by rw [e0]; exact HOj.out, HBj.out⟩
      case round =>
        obtain ⟨k, g, cap, m, hk, rfl, rfl, HMk, HOk, HBk⟩ := hrel
        have hszk := HBk.out.size
        by_cases hlk : k < L.length
        · have hdk : decide (k < L.length) = true := decide_eq_true hlk
          have hxx : L[k]? = some (L.getD k []) := by simp [List.getD, hlk]
          obtain ⟨b1, o1, p1, c1, hb1, e1, k1, hat⟩ := HA3.out.l k _ hxx
          subst e1
          have d1 := below_cell HBk.out hb1 k1
          have hx5 := HL5.out _ (List.mem_of_getElem? hxx)
          have HXS := Lib.hid (tx3_succ (n := n) (m := L.length) (sh := sh) (ws := ws) hxx)
          have hlen3 := tx3_len hn5 hm5 HS5.out HW5.out HL5.out k
          generalize L.getD k [] = xs at *
          have KN := gNumbers2 B (tx3 n L.length sh ws L k) _ xs p1 c1 wr (by rw [← HMk.out]; exact HOk.out) (by omega) (hat.below HBk.out (Nat.le_refl _)) hx5.2 (by omega) (fun w' hw' => HTB.out w' (HBk.out.trans hw'))
          rw [← HXS.out] at KN
          clear k1 hxx hat hlen3
          go_wp2_with fail
          refine KN.mono ?_
          rintro e w11 ⟨g11, cap11, m11, rfl, hm11, hO11, hB11⟩
          have HM11 := Lib.hid hm11.out
          have HO11 := Lib.hid hO11
          have HB11 := Lib.hid (HBk.out.trans hB11)
          clear hO11 hB11 hm11 KN d1
          go_wp2_with fail
          go_roundw
          case rel => exact ⟨k + 1, g11, cap11, m11, by omega, rfl, by go_num, HM11.out, HO11.out, HB11.out⟩
          case measure => simp [intOf]; omega
        · obtain rfl : k = L.length := by omega
          have hdk : decide (L.length < L.length) = false := by simp
          have hlen3 := tx3_len hn5 hm5 HS5.out HW5.out HL5.out L.length
          rw [← HMk.out] at hlen3
          have HMM := Lib.hid (show m = (ptB n L sh ws).length by rw [← tx_all]; exact HMk.out)
          have htx := text_m HOk.out 50 9 5 Tryz.underlying50 Tryz.underlying5 Tryz.underlying9
          rw [tx_all] at htx
          have HBF := Lib.hid (HB2.out.trans (HBk.out.mono (by omega)) |>.mono (Nat.le_refl _))
          by_cases hlong : 1048576 < m
          · have hf : decide (1048576 < m) = true := decide_eq_true hlong
            have hf2 : decide ((1048576 : Int) < (m : Int)) = true := decide_eq_true (by omega)
            have HF := Lib.hid (HR2.out.trans (if_pos (by rw [← HMM.out]; exact hlong)))
            clear htx
            go_wp2_with fail
            rw [HP.out, HF.out]
            exact ⟨rfl, HBF.out⟩
          · have hf : decide (1048576 < m) = false := decide_eq_false hlong
            have hf2 : decide ((1048576 : Int) < (m : Int)) = false := decide_eq_false (by omega)
            have HF := Lib.hid (HR2.out.trans (if_neg (by rw [← HMM.out]; exact hlong)))
            obtain ⟨txt, htt⟩ : ∃ txt : ByteArray, txt = ⟨(ptB n L sh ws).toArray⟩ := ⟨_, rfl⟩
            rw [← htt] at htx
            have HTT := Lib.hid htt
            clear htt
            go_wp2_with fail
            rw [HP.out, HF.out]
            exact ⟨by rw [HTT.out]; rfl, HBF.out⟩
end Go.Proofs.YtajjgfiojlagmaaGreatDoor

/- Rows of numbers of one's own that are being filled with zeros: what stays. -/
namespace Go.Proofs.YtajjgfiojlagmaaGreatDoor
open Go.RowKit

structure Zr (w0 : World) (U : List Nat) (w : World) : Prop where
  be : Behind w0 U w
  blk : ∀ (g : Nat) (cur : Array Value) (T : TypeId), w0.heap[g]? = some (.cells cur T (0, 0)) → ∃ cur' : Array Value, w.heap[g]? = some (.cells cur' T (0, 0)) ∧ ∀ (i : Nat) (v : Value), cur[i]? = some v → cur'[i]? = some v ∨ ((∃ z : Int, v = .int .i64 z) ∧ cur'[i]? = some (.int .i64 0))
theorem Zr.refl (w0 : World) (U : List Nat) : Zr w0 U w0 := ⟨Behind.refl _ _, fun _ cur _ h => ⟨cur, h, fun _ _ hv => .inl hv⟩⟩
theorem Zr.step {w0 w : World} {U : List Nat} (h : Zr w0 U w) {g o : Nat} {c : Array Value} {T : TypeId} {z : Int} (hg : g ∈ U) (hc : w.heap[g]? = some (.cells c T (0, 0))) (hz : c[o]? = some (.int .i64 z)) : Zr w0 U (w.setCell ⟨g, o, none⟩ (.int .i64 0)) := by
  have hb : Behind w [g] (w.setCell ⟨g, o, none⟩ (.int .i64 0)) := ⟨rfl, rfl, rfl, by simp, fun k _ hk => heap_setCell_other _ _ _ _ (by simpa using hk)⟩
  refine ⟨h.be.trans hb (fun b hb => .inl (by simp at hb; subst hb; exact hg)), fun k cur T' hk => ?_⟩
  obtain ⟨cur', h1, h2⟩ := h.blk k cur T' hk
  by_cases e : k = g
  · subst e
    rw [hc] at h1
    cases h1
    refine ⟨_, heap_setCell_any hc _, fun i v hv => ?_⟩
    by_cases ei : i = o
    · subst ei
      have hlt := (Array.getElem?_eq_some_iff.1 hz).1
      refine .inr ⟨?_, Array.getElem?_setIfInBounds_self_of_lt hlt⟩
      rcases h2 i v hv with h3 | h3
      · rw [hz] at h3; cases h3; exact ⟨z, rfl⟩
      · exact h3.1
    · rw [Array.getElem?_setIfInBounds_ne (by omega)]; exact h2 i v hv
  · exact ⟨cur', by rw [heap_setCell_other _ _ _ _ e]; exact h1, h2⟩
theorem Zr.cell {w0 w : World} {U : List Nat} (h : Zr w0 U w) {g i : Nat} {cur : Array Value} {T : TypeId} {v : Value} (hb : w0.heap[g]? = some (.cells cur T (0, 0))) (hv : cur[i]? = some v) (hn : ∀ z : Int, v ≠ .int .i64 z) : w.cell? ⟨g, i, none⟩ = some v := by
  obtain ⟨cur', h1, h2⟩ := h.blk g cur T hb
  rcases h2 i v hv with h3 | ⟨⟨z, h3⟩, _⟩
  · exact blk_cell h1 i h3
  · exact absurd h3 (hn z)
theorem Zr.int {w0 w : World} {U : List Nat} (h : Zr w0 U w) {g i : Nat} {cur : Array Value} {T : TypeId} {z : Int} (hb : w0.heap[g]? = some (.cells cur T (0, 0))) (hv : cur[i]? = some (.int .i64 z)) : ∃ (cur' : Array Value) (z' : Int), w.heap[g]? = some (.cells cur' T (0, 0)) ∧ cur'[i]? = some (.int .i64 z') := by
  obtain ⟨cur', h1, h2⟩ := h.blk g cur T hb
  rcases h2 i _ hv with h3 | ⟨_, h3⟩
  · exact ⟨cur', z, h1, h3⟩
  · exact ⟨cur', 0, h1, h3⟩
theorem RowV.open1 {w : World} {E : TypeId} {p : Option Addr} {n c : Nat} {xs : List Value} (h : RowV (inW w) E 1 (.slice p n c) n xs) {i : Nat} (hi : i < n) : ∃ (g : Nat) (cur : Array Value) (v : Value), p = some ⟨g, 0, none⟩ ∧ w.heap[g]? = some (.cells cur E (0, 0)) ∧ cur[i]? = some v ∧ xs[i]? = some v := by
  cases h with
  | nil => omega
  | @row g _ _ _ cur h =>
    have hl := h.len
    have hs := h.sz
    have hle := h.le
    have hi2 : i < cur.size := by omega
    refine ⟨g, cur, cur[i], rfl, h.blk, Array.getElem?_eq_getElem hi2, ?_⟩
    rw [← h.tk, List.getElem?_take, if_pos (by omega), Array.getElem?_toList, Array.getElem?_eq_getElem hi2]
theorem DR.clause {TW : TypeId} {w0 w7 : World} {b : Nat} {st : DS} {v : DV} (h : DR TW w0 b st v) (hB : Behind w0 [] w7) {aL : Option Addr} {cL : Nat} (eL : v.L = .slice aL st.L.length cL) {i : Nat} {xs : List Int} (hi : st.L[i]? = some xs) : ∃ (gL : Nat) (p : Option Addr) (c : Nat), aL = some ⟨gL, 0, none⟩ ∧ (∀ (U : List Nat) (w : World), Zr w7 U w → w.cell? ⟨gL, i, none⟩ = some (.slice p xs.length c)) ∧ ∀ k, k < xs.length → ∃ g, p = some ⟨g, 0, none⟩ ∧ b ≤ g ∧ g < w0.heap.size ∧ ∀ (U : List Nat) (w : World), Zr w7 U w → ∃ (cur : Array Value) (T : TypeId) (z : Int), w.heap[g]? = some (.cells cur T (0, 0)) ∧ cur[k]? = some (.int .i64 z) := by
  obtain ⟨cl, hL, hC⟩ := h.rL
  rw [eL] at hL
  have hil := (List.getElem?_eq_some_iff.1 hi).1
  obtain ⟨gL, curL, u, e1, e2, e3, e4⟩ := hL.open1 hil
  obtain ⟨hr, hg⟩ := hC i u xs e4 hi
  obtain ⟨p, c, rfl⟩ := hr.slice
  refine ⟨gL, p, c, e1, fun U w hz => hz.cell (hB.keep e2 (by simp)) e3 (fun z => by simp), fun k hk => ?_⟩
  obtain ⟨g, cur, x, f1, f2, f3, f4⟩ := hr.open1 hk
  subst f1
  have hx : ∃ z : Int, x = .int .i64 z := by
    have := ints_get xs k (xs[k]) (List.getElem?_eq_getElem hk)
    rw [this] at f4
    cases f4
    exact ⟨_, rfl⟩
  obtain ⟨z, rfl⟩ := hx
  exact ⟨g, rfl, (hg g (by simp [rowBlk])).1, lt_of_heap f2, fun U w hz => by
    obtain ⟨cur', z', h1, h2⟩ := hz.int (hB.keep f2 (by simp)) f3
    exact ⟨cur', _, z', h1, h2⟩⟩
theorem DR.show {TW : TypeId} {w0 w7 : World} {b : Nat} {st : DS} {v : DV} (h : DR TW w0 b st v) (hB : Behind w0 [] w7) {aS : Option Addr} {cS : Nat} (eS : v.S = .slice aS st.sh.length cS) {k : Nat} (hk : k < st.sh.length) : ∃ g, aS = some ⟨g, 0, none⟩ ∧ b ≤ g ∧ g < w0.heap.size ∧ ∀ (U : List Nat) (w : World), Zr w7 U w → ∃ (cur : Array Value) (T : TypeId) (z : Int), w.heap[g]? = some (.cells cur T (0, 0)) ∧ cur[k]? = some (.int .i64 z) := by
  have hr := h.rS
  rw [eS] at hr
  obtain ⟨g, cur, x, f1, f2, f3, f4⟩ := hr.open1 hk
  subst f1
  have hx : ∃ z : Int, x = .int .i64 z := by
    have := ints_get st.sh k (st.sh[k]) (List.getElem?_eq_getElem hk)
    rw [this] at f4
    cases f4
    exact ⟨_, rfl⟩
  obtain ⟨z, rfl⟩ := hx
  exact ⟨g, rfl, h.ge g (DV.mem.2 (.inr (.inl (by rw [eS]; simp [rowBlk])))), lt_of_heap f2, fun U w hz => by
    obtain ⟨cur', z', h1, h2⟩ := hz.int (hB.keep f2 (by simp)) f3
    exact ⟨cur', _, z', h1, h2⟩⟩
end Go.Proofs.YtajjgfiojlagmaaGreatDoor
