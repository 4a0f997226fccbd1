/- Cmp, Uint, Pow2. -/
import Derived.Test.YtlomlcljjidfjaaWSmall
namespace Go.Proofs.Ytlomlcljjidfjaa
open Go.RowKit Num

theorem nb_toList_ne {a b : Nat} (h : ¬ a = b) : ¬ (nb a).toList = (nb b).toList := by
  intro e
  rw [ByteArray.toList_eq, ByteArray.toList_eq] at e
  apply h
  apply nb_inj
  have : (nb a).data = (nb b).data := Array.toList_inj.1 e
  cases ha : nb a; cases hb : nb b
  rw [ha, hb] at this
  simpa using this

set_option maxHeartbeats 800000 in
theorem cmp_any (a b : Nat) (ha : nl a ≤ 1099511627776) (hb : nl b ≤ 1099511627776) (w : World) :
    Calls Try.prog 57 #[natV a, natV b] w fun e w' => e = .returned (.int .i64 (cmpI a b)) ∧ Below w.heap.size w w' := by
  have hsa := nb_size a
  have hsb := nb_size b
  unfold natV
  by_cases h0 : a = b
  · subst h0
    go_enter Try.func57, Try.ntmps57
    go_wp2_with fail
    go_ret
    exact ⟨ret_int (cmpI_eq a).symm, ((Below.refl _ _).alloc (Nat.le_refl _) _).alloc (by simp) _⟩
  · have hne := nb_toList_ne h0
    by_cases hl : nl a = nl b
    · have hlb : ((nl a : Int) != nl b) = false := by simp [hl]
      have HL := Lib.hid hl
      have H0 := Lib.hid h0
      clear hl h0
      go_enter Try.func57, Try.ntmps57
      go_wp2_with fail
      go_loopw [5] (fun i wr => ∃ k : Nat, k ≤ nl a ∧ i = .int .i64 ((k : Int) - 1) ∧ (∀ j, k ≤ j → (digitsOf 256 a).getD j 0 = (digitsOf 256 b).getD j 0) ∧
          wr.cell? ⟨w.heap.size, 0, none⟩ = some (.string (nb a)) ∧ wr.cell? ⟨w.heap.size + 1, 0, none⟩ = some (.string (nb b)) ∧ Below w.heap.size w wr)
        (fun i _ => (intOf i + 1).toNat)
      case atStart =>
        refine ⟨nl a, Nat.le_refl _, rfl, fun j hj => ?_, by simp [go_sem], by simp [go_sem], ((Below.refl _ _).alloc (Nat.le_refl _) _).alloc (by simp) _⟩
        have e1 : (digitsOf 256 a).length ≤ j := hj
        have e2 : (digitsOf 256 b).length ≤ j := by have := HL.out; unfold nl at *; omega
        simp [List.getD_eq_getElem?_getD, List.getElem?_eq_none e1, List.getElem?_eq_none e2]
      case round =>
        obtain ⟨k, hk, rfl, heq, hca, hcb, hB⟩ := hrel
        have HE := Lib.hid heq
        have HB := Lib.hid hB
        clear heq hB
        by_cases hpos : 0 < k
        · have hka : k - 1 < (nb a).size := by omega
          have hkb : k - 1 < (nb b).size := by have := HL.out; omega
          have hga := nb_get a (k - 1) hka
          have hgb := nb_get b (k - 1) hkb
          have HLT := Lib.hid (fun (h1 : (digitsOf 256 a).getD (k - 1) 0 < (digitsOf 256 b).getD (k - 1) 0) => lt_of_top HL.out (k - 1) (by omega) h1 (fun j hj => HE.out j (by omega)))
          have HGT := Lib.hid (fun (h1 : (digitsOf 256 b).getD (k - 1) 0 < (digitsOf 256 a).getD (k - 1) 0) => lt_of_top HL.out.symm (k - 1) (by have := HL.out; omega) h1 (fun j hj => (HE.out j (by omega)).symm))
          have HNX : Hid ((digitsOf 256 a).getD (k - 1) 0 = (digitsOf 256 b).getD (k - 1) 0 → ∀ j, k - 1 ≤ j → (digitsOf 256 a).getD j 0 = (digitsOf 256 b).getD j 0) := by
            intro h1 j hj
            by_cases hjk : j = k - 1
            · rw [hjk]; exact h1
            · exact HE.out j (by omega)
          generalize (digitsOf 256 a).getD (k - 1) 0 = da at *
          generalize (digitsOf 256 b).getD (k - 1) 0 = db at *
          go_wp2_with fail
          go_quiet (fail)
          by_cases h1 : da < db
          · go_wp2
            go_ret
            exact ⟨ret_int (cmpI_lt (HLT.out h1)).symm, HB.out.drewN _⟩
          · go_wp2_with fail
            go_quiet (fail)
            by_cases h2 : db < da
            · go_wp2
              go_ret
              exact ⟨ret_int (cmpI_gt (HGT.out h2)).symm, (HB.out.drewN _).drewN _⟩
            · go_wp2
              go_roundw
              case rel => exact ⟨k - 1, by omega, by go_num, HNX.out (by omega), by simpa using hca, by simpa using hcb, HB.out.drewN _⟩
              case measure => simp [intOf]; omega
        · obtain rfl : k = 0 := by omega
          exact absurd (eq_of_all HL.out (fun j => HE.out j (Nat.zero_le _))) H0.out
    · have hlb : ((nl a : Int) != nl b) = true := by simp; omega
      clear h0
      rcases Nat.lt_or_gt_of_ne hl with h1 | h1
      · have HR := Lib.hid (cmpI_lt (lt_of_nl h1))
        clear hl
        go_enter Try.func57, Try.ntmps57
        go_wp2_with fail
        go_ret
        exact ⟨ret_int HR.out.symm, ((Below.refl _ _).alloc (Nat.le_refl _) _).alloc (by simp) _⟩
      · have HR := Lib.hid (cmpI_gt (lt_of_nl h1))
        clear hl
        go_enter Try.func57, Try.ntmps57
        go_wp2_with fail
        go_ret
        exact ⟨ret_int HR.out.symm, ((Below.refl _ _).alloc (Nat.le_refl _) _).alloc (by simp) _⟩

end Go.Proofs.Ytlomlcljjidfjaa
