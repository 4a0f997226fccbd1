/- Texts of this claim, joined: JD. -/
import Derived.Test.YtmaiofimmjedjaaDoorMW10
import Derived.Deep.DeepCutAuto

/- Circuits in memory; how large they are; levels. -/
namespace Go.Proofs.YtmaiofimmjedjaaDoor
open Go.RowKit

def CircAt (N : Nat) (w : World) (a : Option Addr) (gs : List Gt) : Prop := ∀ i g, gs[i]? = some g → ∃ b o p c, b < N ∧ a = some ⟨b, o, none⟩ ∧ w.cell? ⟨b, o + i * 3, none⟩ = some (.int .i64 g.k) ∧ w.cell? ⟨b, o + i * 3 + 1, none⟩ = some (.int .i64 g.lit) ∧ w.cell? ⟨b, o + i * 3 + 2, none⟩ = some (.slice p g.ins.length c) ∧ AtN N w p (ints g.ins)
theorem CircAt.below {N M : Nat} {w w' : World} {a : Option Addr} {gs : List Gt} (h : CircAt N w a gs) (hb : Below M w w') (hM : N ≤ M) : CircAt N w' a gs := fun i g hi => by
  obtain ⟨b, o, p, c, h1, h2, h3, h4, h5, h6⟩ := h i g hi
  exact ⟨b, o, p, c, h1, h2, below_cell hb (by omega) h3, below_cell hb (by omega) h4, below_cell hb (by omega) h5, h6.below hb hM⟩
theorem CircAt.mono {N M : Nat} {w : World} {a : Option Addr} {gs : List Gt} (h : CircAt N w a gs) (hM : N ≤ M) : CircAt M w a gs := fun i g hi => by
  obtain ⟨b, o, p, c, h1, h2, h3, h4, h5, h6⟩ := h i g hi
  exact ⟨b, o, p, c, by omega, h2, h3, h4, h5, h6.mono hM⟩
theorem CircAt.later {w w' : World} {a : Option Addr} {gs : List Gt} (h : CircAt w.heap.size w a gs) (hb : Below w.heap.size w w') : CircAt w'.heap.size w' a gs := (h.below hb (Nat.le_refl _)).mono hb.size
def Fits (gs : List Gt) : Prop := ∀ g ∈ gs, g.ins.length ≤ 140737488355328
theorem sizeI_snoc (gs : List Gt) (g : Gt) : sizeI (gs ++ [g]) = sizeI gs + g.ins.length := by simp [sizeI]
theorem sizeI_take {gs : List Gt} {i : Nat} {g : Gt} (h : gs[i]? = some g) : sizeI (gs.take (i + 1)) = sizeI (gs.take i) + g.ins.length := by
  obtain ⟨hi, rfl⟩ := List.getElem?_eq_some_iff.1 h
  rw [List.take_succ_eq_append_getElem hi, sizeI_snoc]
theorem sizeI_le {gs : List Gt} (hf : Fits gs) : ∀ i, i ≤ gs.length → sizeI (gs.take i) ≤ i * 140737488355328
  | 0, _ => by simp [sizeI]
  | i + 1, h => by
    have hx : gs[i]? = some gs[i] := List.getElem?_eq_getElem (by omega)
    rw [sizeI_take hx]
    have := sizeI_le hf i (by omega)
    have := hf gs[i] (List.getElem_mem _)
    omega

set_option maxHeartbeats 1600000 in
set_option maxRecDepth 100000 in
theorem gLevel (g : Gt) (p : Option Addr) (c : Nat) (w : World) : Calls Tryd.prog 36 #[.agg #[.int .i64 g.k, .int .i64 g.lit, .slice p g.ins.length c]] w fun e w' => e = .returned (.int .i64 (levelI g : Nat)) ∧ Below w.heap.size w w' := by
  have HL := Lib.hid (show levelI g = if g.k = 7 then 2 else if g.ins.length < 2 then 7 else if g.k = 5 then 4 else if g.k = 6 then 5 else if g.k = 4 then 6 else 7 from rfl)
  obtain ⟨k, lit, ins⟩ := g
  simp only at HL ⊢
  generalize levelI ⟨k, lit, ins⟩ = lv at *
  generalize ins.length = n at *
  go_enter Tryd.func36, Tryd.ntmps36
  have fin : ∀ (v : Nat) (w' : World), (v = lv) → Below w.heap.size w w' → (Ending.returned (.int .i64 (v : Nat)) = Ending.returned (.int .i64 (lv : Nat)) ∧ Below w.heap.size w w') := fun v w' h hb => by subst h; exact ⟨rfl, hb⟩
  have HF := Lib.hid fin
  clear fin
  go_upto_region 1 with fail
  refine wp_gen ?_
  intro w1 hw1
  have hB1 : Below w.heap.size w w1 := by rw [hw1]; exact below_one _ _
  have A1 := Lib.hid (show w1.heap[w.heap.size]? = some (.cells #[.int .i64 k, .int .i64 lit, .slice p n c] 37 (0, 0)) by rw [hw1]; exact new_one _ _)
  have HB1 := Lib.hid hB1
  have a0 := blk_cell A1.out 0 rfl
  have a2 := blk_cell A1.out 2 rfl
  clear hw1 hB1
  by_cases k7 : k = 7
  · subst k7
    have h := HL.out
    rw [if_pos rfl] at h
    subst h
    go_wp2_with fail
    go_ret
    exact ⟨rfl, HB1.out⟩
  have e7 : (k == 7) = false := beq_no k7
  by_cases hn : n < 2
  · have h := HL.out
    rw [if_neg k7, if_pos hn] at h
    subst h
    have hd : decide (n < 2) = true := decide_eq_true hn
    have hd2 : decide ((n : Int) < 2) = true := decide_eq_true (by omega)
    go_wp2_with fail
    go_ret
    exact ⟨rfl, HB1.out⟩
  have hd : decide (n < 2) = false := decide_eq_false hn
  have hd2 : decide ((n : Int) < 2) = false := decide_eq_false (by omega)
  by_cases k5 : k = 5
  · subst k5
    have h := HL.out
    rw [if_neg k7, if_neg hn, if_pos rfl] at h
    subst h
    go_wp2_with fail
    go_ret
    exact ⟨rfl, HB1.out⟩
  have e5 : (k == 5) = false := beq_no k5
  by_cases k6 : k = 6
  · subst k6
    have h := HL.out
    rw [if_neg k7, if_neg hn, if_neg k5, if_pos rfl] at h
    subst h
    go_wp2_with fail
    go_ret
    exact ⟨rfl, HB1.out⟩
  have e6 : (k == 6) = false := beq_no k6
  by_cases k4 : k = 4
  · subst k4
    have h := HL.out
    rw [if_neg k7, if_neg hn, if_neg k5, if_neg k6, if_pos rfl] at h
    subst h
    go_wp2_with fail
    go_ret
    exact ⟨rfl, HB1.out⟩
  have e4 : (k == 4) = false := beq_no k4
  have h := HL.out
  rw [if_neg k7, if_neg hn, if_neg k5, if_neg k6, if_neg k4] at h
  subst h
  go_wp2_with fail
  go_ret
  exact ⟨rfl, HB1.out⟩

set_option maxHeartbeats 1600000 in
set_option maxRecDepth 100000 in
theorem gSize (n : Int) (gs : List Gt) (a : Option Addr) (c : Nat) (w : World) (hC : CircAt w.heap.size w a gs) (hf : Fits gs) (hl : gs.length ≤ 4096) : Calls Tryd.prog 31 #[.agg #[.int .i64 n, .slice a gs.length c]] w fun e w' => e = .returned (.int .i64 (sizeI gs : Nat)) ∧ Below w.heap.size w w' := by
  have HC := Lib.hid hC
  have HT := Lib.hid (fun (i : Nat) (g : Gt) (h : gs[i]? = some g) => sizeI_take h)
  have HS := Lib.hid (fun i (hi : i ≤ gs.length) => sizeI_le hf i hi)
  have HN := Lib.hid (show sizeI gs = sizeI (gs.take gs.length) by rw [List.take_length])
  have H0 := Lib.hid (show sizeI (gs.take 0) = 0 from rfl)
  have HFI := Lib.hid hf
  clear hC hf
  go_enter Tryd.func31, Tryd.ntmps31
  go_upto_region 1 with fail
  refine wp_gen ?_
  intro w1 hw1
  have hB1 : Below w.heap.size w w1 := by rw [hw1]; exact below_one _ _
  have A1 := Lib.hid (show w1.heap[w.heap.size]? = some (.cells #[.int .i64 n, .slice a gs.length c] 24 (0, 0)) by rw [hw1]; exact new_one _ _)
  have HB1 := Lib.hid hB1
  have a1 := blk_cell A1.out 1 rfl
  clear hw1 hB1
  go_wp2_with fail
  go_loopw [9, 3] (fun t9 t3 wr => ∃ j : Nat, j ≤ gs.length ∧ t9 = .int .i64 j ∧ t3 = .int .i64 (sizeI (gs.take j) : Nat) ∧ Hid (Below w.heap.size w wr)) (fun t9 _ _ => gs.length - (intOf t9).toNat)
  case atStart => exact ⟨0, Nat.zero_le _, rfl, rfl, HB1.out⟩
  case round =>
    obtain ⟨j, hj, rfl, rfl, HB⟩ := hrel
    by_cases hlt : j < gs.length
    · have hdd : decide ((j : Int) < (gs.length : Int)) = true := decide_eq_true (by omega)
      have hdd2 : decide (j < gs.length) = true := decide_eq_true hlt
      obtain ⟨g, hg⟩ : ∃ g, gs[j]? = some g := ⟨_, List.getElem?_eq_getElem hlt⟩
      obtain ⟨b, o, p, d, hb, rfl, k0, k1, k2, _⟩ := (HC.out.below HB.out (Nat.le_refl _)) j g hg
      have hst := HT.out j g hg
      have hle := HS.out (j + 1) (by omega)
      have hfi := HFI.out g (List.mem_of_getElem? hg)
      obtain ⟨s, hs⟩ : ∃ s, s = sizeI (gs.take j) := ⟨_, rfl⟩
      obtain ⟨s2, hs2⟩ : ∃ s2, s2 = sizeI (gs.take (j + 1)) := ⟨_, rfl⟩
      rw [← hs, ← hs2] at hst
      rw [← hs2] at hle
      have HS2 := Lib.hid hs2
      rw [← hs]
      clear hs hs2 hg
      subst hst
      go_wp2_with fail
      go_roundw
      case rel => exact ⟨j + 1, by omega, by go_num, by rw [← HS2.out]; go_num, HB.out.trans ((below_one _ _).mono HB.out.size)⟩
      case measure => simp [intOf]; omega
    · obtain rfl : j = gs.length := by omega
      have hdd : decide ((gs.length : Int) < (gs.length : Int)) = false := by simp
      rw [← HN.out]
      go_wp2_with fail
      go_ret
      exact ⟨rfl, HB.out⟩
end Go.Proofs.YtmaiofimmjedjaaDoor
