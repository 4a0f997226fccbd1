/- Texts of this claim, joined: E3. -/
import Derived.Test.YtajjgfiojlagmaaDoorMD24
import Derived.Test.YtajjgfiojlagmaaDoorMD26
import Derived.Test.YtajjgfiojlagmaaDoorMD17
import Derived.Deep.DeepCutAuto

/- The program's numbers: numerals appended to a row of bytes. -/
namespace Go.Proofs.YtajjgfiojlagmaaDoor
open Go.RowKit

def preN (ns : List Int) (k : Nat) : List UInt8 := (ns.take k).flatMap fun x => Lib.itoa x ++ [32]
theorem preN_all (ns : List Int) : preN ns ns.length ++ [48, 10] = lnN ns ++ [10] := by unfold preN lnN; rw [List.take_length]; simp
theorem preN_succ {ns : List Int} {k : Nat} {x : Int} (h : ns[k]? = some x) : preN ns (k + 1) = preN ns k ++ Lib.itoa x ++ [32] := by
  unfold preN
  rw [List.take_add_one, h, List.flatMap_append]
  simp
theorem preN_len {ns : List Int} (hI : ∀ z ∈ ns, -100000 < z ∧ z < 100000) : ∀ k, (preN ns k).length ≤ 7 * k
  | 0 => by simp [preN]
  | k + 1 => by
    have ih := preN_len hI k
    cases h : ns[k]? with
    | none =>
      have : preN ns (k + 1) = preN ns k := by unfold preN; rw [List.take_add_one, h]; simp
      rw [this]; omega
    | some x =>
      rw [preN_succ h, List.length_append, List.length_append]
      have hx := hI x (List.mem_of_getElem? h)
      have := itoa_le6 hx.1 hx.2
      simp only [List.length_cons, List.length_nil]
      omega

set_option maxHeartbeats 6400000 in
set_option maxRecDepth 100000 in
theorem gNumbers (B : Nat) (l : List UInt8) (sv : Value) (ns : List Int) (a : Option Addr) (c : Nat) (w : World) (hown : OwnM w B sv l.length (Lib.byteCells l)) (hBw : B ≤ w.heap.size) (hA : AtN B w a (ints ns)) (hI : ∀ z ∈ ns, -100000 < z ∧ z < 100000) (hlim : l.length + 7 * ns.length ≤ 900000000) (hTB : ∀ w', Below B w w' → TabI w') :
    Calls Tryd.prog 14 #[sv, .slice a ns.length c] w fun e w' => ∃ v', e = .returned v' ∧ OwnM w' B v' (l ++ (lnN ns ++ [10])).length (Lib.byteCells (l ++ (lnN ns ++ [10]))) ∧ Below B w w' := by
  obtain ⟨i0, hi, hz0, hz1, hz2⟩ := info_parts Tryd.infoByteE
  have HI0 := Lib.hid hi
  have HZ0 := Lib.hid hz0
  have HZ1 := Lib.hid hz1
  have HZ2 := Lib.hid hz2
  obtain ⟨Post, hPost⟩ : ∃ P : Ending → World → Prop, P = fun e w' => ∃ v', e = .returned v' ∧ OwnM w' B v' (l ++ (lnN ns ++ [10])).length (Lib.byteCells (l ++ (lnN ns ++ [10]))) ∧ Below B w w' := ⟨_, rfl⟩
  rw [← hPost]
  have HP := Lib.hid hPost
  obtain ⟨g, cap, e⟩ := hown.slice
  subst e
  have HO := Lib.hid hown
  have HA := Lib.hid hA
  have HI := Lib.hid hI
  have HTB := Lib.hid hTB
  have HPL := Lib.hid (preN_len hI)
  clear hPost hown hA hI hTB hi hz0 hz1 hz2
  go_enter Tryd.func14, Tryd.ntmps14
  go_wp2_with fail
  go_loopw [0, 9] (fun t0 t9 wr => ∃ (k : Nat) (g cap : Nat) (m : Nat), k ≤ ns.length ∧ t0 = .slice (some ⟨g, 0, none⟩) m cap ∧ t9 = .int .i64 k ∧ m ≤ l.length + 7 * k ∧ Hid (OwnM wr B (.slice (some ⟨g, 0, none⟩) m cap) m (Lib.byteCells (l ++ preN ns k))) ∧ Hid (Below B w wr)) (fun _ t9 _ => ns.length - (intOf t9).toNat)
  case atStart =>
    refine ⟨0, g, cap, l.length, Nat.zero_le _, rfl, rfl, by omega, ?_, Below.refl _ _⟩
    show OwnM _ _ _ _ _
    rw [show preN ns 0 = [] from rfl, List.append_nil]
    exact HO.out
  case round =>
    obtain ⟨k, g, cap, m, hk, rfl, rfl, hm, HOk, HB⟩ := hrel
    by_cases hlt : k < ns.length
    · have hdd : decide (k < ns.length) = true := decide_eq_true hlt
      have hxx : ns[k]? = some (ns.getD k 0) := by simp [List.getD, hlt]
      obtain ⟨b1, o1, hb1, e1, k1⟩ := HA.out k _ (ints_get _ _ _ hxx)
      subst e1
      have d1 := below_cell HB.out hb1 k1
      have hx := HI.out _ (List.mem_of_getElem? hxx)
      have hsz := HB.out.size
      have HPS := Lib.hid (preN_succ hxx)
      generalize ns.getD k 0 = x at *
      have hlen6 := itoa_le6 hx.1 hx.2
      have KA := gAppendInt B m x (by omega) (by omega) _ _ wr HOk.out (by omega) (by omega) (fun w' hw' => HTB.out w' (HB.out.trans hw'))
      clear k1 hxx
      go_wp2_with fail
      refine KA.mono ?_
      rintro e w2 ⟨v2, rfl, hO2, hB2⟩
      obtain ⟨g2, cap2, e2⟩ := hO2.slice
      subst e2
      have HO2 := Lib.hid (hO2.keep (below_one w2 (.cells #[Value.int .u8 32] 5)))
      have HB2 := Lib.hid (HB.out.trans hB2)
      have hs2 := hB2.size
      have HSR := Lib.hid (Src.ofSlice (P := Tryd.prog) (size := 1) (w2.alloc (.cells #[Value.int .u8 32] 5)) Tryd.underlying47 ⟨w2.heap.size, 0, none⟩ 1 1 [Value.int .u8 32] rfl (fun j u hj => by
        rw [Addr.add_lit, Nat.zero_add]
        exact blk_cell (new_one w2 _) j (by simpa using hj)) (by simp [Value.oneCell']))
      clear hO2 hB2 KA d1
      go_wp2_with (at_builtin; refine wpList_append_m _ rfl _ _ 47 47 rfl 5 i0 (.int .u8 0) Tryd.underlying47 HI0.out HZ0.out HZ1.out HZ2.out rfl B _ _ _ rfl HO2.out (by simp; omega) _ _ _ rfl HSR.out (by unfold maxLen; omega) (by omega) ?_)
      intro v3 w3 hO3 hB3
      obtain ⟨g3, cap3, e3⟩ := hO3.slice
      subst e3
      have HO3 := Lib.hid (show OwnM w3 B (.slice (some ⟨g3, 0, none⟩) (m + (Lib.itoa x).length + 1) cap3) (m + (Lib.itoa x).length + 1) (Lib.byteCells (l ++ preN ns (k + 1))) by
        rw [HPS.out, ← List.append_assoc, ← List.append_assoc, Lib.byteCells_append, Lib.byteCells_append, List.append_assoc (Lib.byteCells _)]
        exact hO3)
      have HB3 := Lib.hid ((HB2.out.trans ((Below.refl B w2).alloc (by omega) _)).trans hB3)
      clear hO3 hB3 HO2 HSR
      go_wp2_with fail
      go_roundw
      case rel => exact ⟨k + 1, g3, cap3, m + (Lib.itoa x).length + 1, by omega, rfl, by go_num, by omega, HO3.out, HB3.out⟩
      case measure => simp [intOf]; omega
    · obtain rfl : k = ns.length := by omega
      have hdd : decide (ns.length < ns.length) = false := by simp
      have hsz := HB.out.size
      have HSR := Lib.hid (Src.ofString (P := Tryd.prog) wr Tryd.underlying9 ⟨#[48, 10]⟩)
      go_wp2_with (at_builtin; refine wpList_append_m _ rfl _ _ 47 9 rfl 5 i0 (.int .u8 0) Tryd.underlying47 HI0.out HZ0.out HZ1.out HZ2.out rfl B _ _ _ rfl HOk.out (by omega) _ _ _ rfl HSR.out (by show m + 2 ≤ _; unfold maxLen; omega) (by show m + 2 ≤ _; omega) ?_)
      intro v3 w3 hO3 hB3
      obtain ⟨g3, cap3, e3⟩ := hO3.slice
      subst e3
      have hml : m = (l ++ preN ns ns.length).length := by
        obtain ⟨_, _, _, _, _, _, _, h5, _⟩ := HOk.out
        rw [Lib.byteCells_length] at h5
        exact h5.symm
      have HO3 := Lib.hid (show OwnM w3 B (.slice (some ⟨g3, 0, none⟩) (m + 2) cap3) (l ++ (lnN ns ++ [10])).length (Lib.byteCells (l ++ (lnN ns ++ [10]))) by
        have e1 : l ++ (lnN ns ++ [10]) = l ++ preN ns ns.length ++ [48, 10] := by rw [← preN_all, List.append_assoc]
        rw [e1, Lib.byteCells_append, List.length_append, ← hml]
        exact hO3)
      have HB3 := Lib.hid (HB.out.trans hB3)
      clear hO3 hB3 HSR hml
      go_wp2_with fail
      rw [HP.out]
      exact ⟨_, rfl, HO3.out, HB3.out⟩
end Go.Proofs.YtajjgfiojlagmaaDoor
