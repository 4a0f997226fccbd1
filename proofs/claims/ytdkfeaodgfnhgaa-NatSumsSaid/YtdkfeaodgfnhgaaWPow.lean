/- Pow2, Uint. -/
import Derived.Test.YtdkfeaodgfnhgaaWGcd
namespace Go.Proofs.Ytdkfeaodgfnhgaa
open Go.RowKit Num

theorem pow_row (n : Nat) : digs W ((List.replicate (n / 32 + 1) 0).set (n / 32) (2 ^ (n % 32))) = 2 ^ n := by
  have e : (List.replicate (n / 32 + 1) 0).set (n / 32) (2 ^ (n % 32)) = List.replicate (n / 32) 0 ++ [2 ^ (n % 32)] := by
    apply List.ext_getElem
    · simp
    · intro i h1 h2
      rw [List.getElem_set, List.getElem_append]
      simp at h1 h2
      by_cases h : n / 32 = i
      · simp [h]
      · simp [h]; omega
  rw [e, digs_append, digs_zeros, List.length_replicate]
  have : n = 32 * (n / 32) + n % 32 := by omega
  conv => rhs; rw [this, Nat.pow_add, Nat.pow_mul]
  simp [digs, W]

theorem pow_lt (n : Nat) : AllLt W ((List.replicate (n / 32 + 1) 0).set (n / 32) (2 ^ (n % 32))) := by
  apply AllLt.set (AllLt.zeros (by decide) _)
  unfold W
  exact Nat.pow_lt_pow_right (by omega) (Nat.mod_lt _ (by omega))

set_option maxHeartbeats 400000 in
theorem pow2_out (n : Int) (h : n < 0 ∨ 4096 < n) (w : World) :
    Calls Try.prog 29 #[.int .i64 n] w fun e w' => e = .returned (natV 0) ∧ Below w.heap.size w w' := by
  go_enter Try.func29, Try.ntmps29
  by_cases h1 : n < 0
  · go_wp2_with fail
    exact bodyPost_ret (v := natV 0) (by simp [results, Try.results29, go_sem, natV, nb_zero2]) rfl ⟨rfl, (Below.refl _ _).alloc (Nat.le_refl _) _⟩
  · go_wp2_with fail
    exact bodyPost_ret (v := natV 0) (by simp [results, Try.results29, go_sem, natV, nb_zero2]) rfl ⟨rfl, (Below.refl _ _).alloc (Nat.le_refl _) _⟩

set_option maxHeartbeats 800000 in
theorem pow2_any (n : Nat) (h : n ≤ 4096) (w : World) :
    Calls Try.prog 29 #[.int .i64 (n : Nat)] w fun e w' => e = .returned (natV (2 ^ n)) ∧ Below w.heap.size w w' := by
  obtain ⟨i0, hi, hz0, hz1, hz2⟩ := info_parts Try.infoU32
  go_enter Try.func29, Try.ntmps29
  go_wp2_with (at_make; refine wpList_make_full _ rfl (.tmp 13) (.tmp 13) 22 rfl (w.heap.size + 1) 63 i0 (.int .u32 0) 1 Try.underlying22 hi hz0 hz1 .i64 .i64 _ _ (n / 32 + 1) rfl rfl (by omega) (by omega) (by rw [hz2]; omega) (by unfold maxLen; omega) (by simp) ?_)
  intro w3 hown hgr
  have hRo := Row.ofOwns hown
  rw [u32s_zeros] at hRo
  have l3 : w3.cell? ⟨w.heap.size, 0, none⟩ = some (.string { data := #[] }) := hgr.cell (by simp) (by simp)
  have m3 : w3.frozen? ⟨w.heap.size, 0, none⟩ = false := by
    rw [World.frozen?_of_block (hgr.block w.heap.size (by simp) (by simp))]; simp
  have HB3 := Lib.hid (((Below.refl w.heap.size w).alloc (Nat.le_refl _) _).grown hgr (by simp) (by simp))
  have hs3 : w.heap.size + 1 < w3.heap.size := hRo.lt
  clear hown hgr
  have hf := hRo.free (n / 32)
  have hc : w3.cell? ⟨w.heap.size + 1, n / 32, none⟩ = some (.int .u32 (0 : Nat)) := hRo.cell (u32s_get _ _ _ (by simp))
  have HRo := Lib.hid hRo
  clear hRo
  go_wp2_with fail
  have hv : (2 ^ (n % 32) % 4294967296 : Int) = ((2 ^ (n % 32) : Nat) : Int) := by
    have : (2 : Nat) ^ (n % 32) < 4294967296 := Nat.lt_of_lt_of_eq (Nat.pow_lt_pow_right (a := 2) (n := 32) (by decide) (Nat.mod_lt n (by decide))) (by decide)
    generalize hx : (2 : Nat) ^ (n % 32) = x at *
    have : (2 ^ (n % 32) : Int) = (x : Int) := by rw [← hx]; simp
    rw [this]; omega
  have hR := HRo.out.set (n / 32) (.int .u32 ((2 ^ (n % 32) : Nat) : Int))
  rw [u32s_set] at hR
  rw [hv]
  have HB4 := Lib.hid (HB3.out.setCell (p := ⟨w.heap.size + 1, n / 32, none⟩) (by simp) (.int .u32 ((2 ^ (n % 32) : Nat) : Int)))
  have l4 := cell_setOther (a := ⟨w.heap.size + 1, n / 32, none⟩) (v := .int .u32 ((2 ^ (n % 32) : Nat) : Int)) l3 (by simp)
  have m4 := frozen_setOther (a := ⟨w.heap.size + 1, n / 32, none⟩) (v := .int .u32 ((2 ^ (n % 32) : Nat) : Int)) m3 (by simp)
  have hs4 : w.heap.size + 1 < (w3.setCell ⟨w.heap.size + 1, n / 32, none⟩ (.int .u32 ((2 ^ (n % 32) : Nat) : Int))).heap.size := by simpa using hs3
  generalize w3.setCell ⟨w.heap.size + 1, n / 32, none⟩ (.int .u32 ((2 ^ (n % 32) : Nat) : Int)) = w4 at *
  clear hv hf hc HRo HB3 l3 m3 hs3
  refine (from_any (some ⟨w.heap.size + 1, 0, none⟩) _ (n / 32 + 1) (n / 32 + 1) (by simp) (pow_lt n) (by omega) w4 (CellsU.ofRow hR)).mono ?_
  rintro e w6 ⟨rfl, hB6⟩
  rw [pow_row]
  have hbox6 := below_cell hB6 (by omega) l4
  have hboxf6 : w6.frozen? ⟨w.heap.size, 0, none⟩ = false := by
    rw [hB6.frozen (p := ⟨w.heap.size, 0, none⟩) (by simp; omega)]; exact m4
  have HB6 := Lib.hid (HB4.out.trans (hB6.mono (B' := w.heap.size) (by omega)))
  clear hB6 hR
  unfold natV
  go_wp2_with fail
  exact bodyPost_ret (v := natV (2 ^ n)) (by simp [results, Try.results29, go_sem, natV, hbox6]) rfl ⟨rfl, HB6.out.setCell (by simp) _⟩
end Go.Proofs.Ytdkfeaodgfnhgaa
