/- Div at whatever numbers; Gcd. -/
import Derived.Test.YtlomlcljjidfjaaWDivB
import Derived.Deep.LoopGhost
namespace Go.Proofs.Ytlomlcljjidfjaa
open Go.RowKit Num

theorem div_any (a b : Nat) (ha : nl a ≤ 536870912) (hb : nl b ≤ 536870912) (w : World) :
    Calls Try.prog 48 #[natV a, natV b] w (DivPost (a / b) (if b = 0 then 0 else a % b) (decide (b ≠ 0)) w) := by
  by_cases h0 : b = 0
  · subst h0
    rw [Nat.div_zero, if_pos rfl]
    exact div_zero a (by omega) w
  · rw [if_neg h0]
    have hd : decide (b ≠ 0) = true := by simp [h0]
    rw [hd]
    by_cases h1 : a < b
    · rw [Nat.div_eq_of_lt h1, Nat.mod_eq_of_lt h1]
      exact div_less a b (by omega) (by omega) (by omega) h1 w
    · by_cases h2 : b < 4294967296
      · exact div_one a b (by omega) (by omega) (by omega) h2 (by omega) w
      · exact div_big a b ha hb (by omega) (by omega) w

theorem div_pos (a b : Nat) (ha : nl a ≤ 536870912) (hb : nl b ≤ 536870912) (h0 : b ≠ 0) (w : World) :
    Calls Try.prog 48 #[natV a, natV b] w (DivPost (a / b) (a % b) true w) := by
  have h := div_any a b ha hb w
  rw [if_neg h0, show decide (b ≠ 0) = true by simp [h0]] at h
  exact h

set_option maxHeartbeats 800000 in
set_option maxRecDepth 100000 in
theorem gcd_any (a b : Nat) (ha : nl a ≤ 536870912) (hb : nl b ≤ 536870912) (w : World) :
    Calls Try.prog 38 #[natV a, natV b] w fun e w' => e = .returned (natV (Nat.gcd a b)) ∧ Below w.heap.size w w' := by
  unfold natV
  go_enter Try.func38, Try.ntmps38
  go_wp2_with fail
  go_loopg [] b (fun k wr => ∃ A B : Nat, B ≤ k ∧ Nat.gcd A B = Nat.gcd a b ∧ nl A ≤ 536870912 ∧ nl B ≤ 536870912 ∧ wr.cell? ⟨w.heap.size, 0, none⟩ = some (.string (nb A)) ∧ wr.frozen? ⟨w.heap.size, 0, none⟩ = false ∧
      wr.cell? ⟨w.heap.size + 1, 0, none⟩ = some (.string (nb B)) ∧ wr.frozen? ⟨w.heap.size + 1, 0, none⟩ = false ∧ wr.cell? ⟨w.heap.size + 1 + 1, 0, none⟩ = some (.string { data := #[] }) ∧ wr.frozen? ⟨w.heap.size + 1 + 1, 0, none⟩ = false ∧
      Below w.heap.size w wr ∧ w.heap.size + 3 ≤ wr.heap.size)
  case atStart =>
    exact ⟨a, b, Nat.le_refl _, rfl, ha, hb, by simp [go_sem], by simp [go_sem], by simp [go_sem], by simp [go_sem], by simp [go_sem], by simp [go_sem], (((Below.refl _ _).alloc (Nat.le_refl _) _).alloc (by simp) _).alloc (by simp; omega) _, by simp⟩
  case round =>
    obtain ⟨A, B, hBk, hg, hnA, hnB, c1, f1, c2, f2, c3, f3, hB, hsz⟩ := hrel
    have HG := Lib.hid hg
    have HB := Lib.hid hB
    have hsB := nb_size B
    clear hg hB
    by_cases h0 : B = 0
    · have HGA : Hid (A = Nat.gcd a b) := by unfold Hid; rw [← HG.out, h0, Nat.gcd_zero_right]
      have hz : nl B = 0 := nl_eq_zero.2 h0
      clear h0
      go_wp2_with fail
      exact bodyPost_ret (v := natV (Nat.gcd a b)) (by rw [← HGA.out]; simp [results, Try.results38, go_sem, natV, c3]) rfl ⟨rfl, HB.out.setCell (by simp; omega) _⟩
    · have hz : 0 < nl B := Nat.pos_of_ne_zero (fun h => h0 (nl_eq_zero.1 h))
      have H0 := Lib.hid h0
      clear h0
      go_wp2_with fail
      refine (div_pos A B hnA hnB H0.out wr).mono ?_
      rintro e w2 ⟨rfl, hB2⟩
      have d1 := below_cell hB2 (by omega) c1
      have d2 := below_cell hB2 (by omega) c2
      have d3 := below_cell hB2 (by omega) c3
      have e1 : w2.frozen? ⟨w.heap.size, 0, none⟩ = false := by rw [hB2.frozen (p := ⟨w.heap.size, 0, none⟩) (by simp; omega)]; exact f1
      have e2 : w2.frozen? ⟨w.heap.size + 1, 0, none⟩ = false := by rw [hB2.frozen (p := ⟨w.heap.size + 1, 0, none⟩) (by simp; omega)]; exact f2
      have e3 : w2.frozen? ⟨w.heap.size + 1 + 1, 0, none⟩ = false := by rw [hB2.frozen (p := ⟨w.heap.size + 1 + 1, 0, none⟩) (by simp; omega)]; exact f3
      have HB2 := Lib.hid (HB.out.trans (hB2.mono (B' := w.heap.size) (by omega)))
      have hs2 := Nat.le_trans hsz hB2.size
      clear hB2 c1 c2 c3 f1 f2 f3
      unfold natV
      go_wp2_with fail
      have hmod : A % B < B := Nat.mod_lt _ (Nat.pos_of_ne_zero H0.out)
      have hnm : nl (A % B) ≤ 536870912 := Nat.le_trans (nl_mono (Nat.le_of_lt hmod)) hnB
      have HGM : Hid (Nat.gcd B (A % B) = Nat.gcd a b) := by unfold Hid; rw [← HG.out, Nat.gcd_comm A B, Nat.gcd_rec B A, Nat.gcd_comm]
      have HB3 := Lib.hid ((HB2.out.alloc (by omega) (Obj.cells #[Value.string (nb (A / B))] 25)).alloc (by simp; omega) (Obj.cells #[Value.string (nb (A % B))] 25))
      have hs3 : w.heap.size + 3 ≤ ((w2.alloc (Obj.cells #[Value.string (nb (A / B))] 25)).alloc (Obj.cells #[Value.string (nb (A % B))] 25)).heap.size := by simp; omega
      have g0 : ((w2.alloc (Obj.cells #[Value.string (nb (A / B))] 25)).alloc (Obj.cells #[Value.string (nb (A % B))] 25)).cell? ⟨w2.heap.size + 1, 0, none⟩ = some (.string (nb (A % B))) := by simp [go_sem]
      have hB3 : Below w2.heap.size w2 ((w2.alloc (Obj.cells #[Value.string (nb (A / B))] 25)).alloc (Obj.cells #[Value.string (nb (A % B))] 25)) := ((Below.refl _ _).alloc (Nat.le_refl _) _).alloc (by simp) _
      generalize ((w2.alloc (Obj.cells #[Value.string (nb (A / B))] 25)).alloc (Obj.cells #[Value.string (nb (A % B))] 25)) = w3 at HB3 hs3 g0 hB3 ⊢
      replace d1 := below_cell hB3 (by omega) d1
      replace d2 := below_cell hB3 (by omega) d2
      replace d3 := below_cell hB3 (by omega) d3
      replace e1 : w3.frozen? ⟨w.heap.size, 0, none⟩ = false := by rw [hB3.frozen (p := ⟨w.heap.size, 0, none⟩) (by simp; omega)]; exact e1
      replace e2 : w3.frozen? ⟨w.heap.size + 1, 0, none⟩ = false := by rw [hB3.frozen (p := ⟨w.heap.size + 1, 0, none⟩) (by simp; omega)]; exact e2
      replace e3 : w3.frozen? ⟨w.heap.size + 1 + 1, 0, none⟩ = false := by rw [hB3.frozen (p := ⟨w.heap.size + 1 + 1, 0, none⟩) (by simp; omega)]; exact e3
      clear hB3
      go_region
      all_goals
        go_wp2_with fail
        go_roundg (A % B)
        case measure => omega
        case rel =>
          refine ⟨B, A % B, Nat.le_refl _, HGM.out, hnB, hnm, by simp [go_sem, d1, d2], by simp [go_sem, e1, e2], by simp [go_sem, d1, d2], by simp [go_sem, e1, e2], ?_, ?_, ?_, by simp; omega⟩
          · exact cell_setOther (cell_setOther (by simp [go_sem, d3]) (by simp; try omega)) (by simp; try omega)
          · exact frozen_setOther (frozen_setOther (by simp [go_sem, e3]) (by simp; try omega)) (by simp; try omega)
          · exact (((HB3.out.drew).setCell (by simp) _).setCell (by simp) _)
end Go.Proofs.Ytlomlcljjidfjaa
