/- Sub. -/
import Derived.Test.YtlomlcljjidfjaaWAdd
import Derived.Test.YtlomlcljjidfjaaNatF
namespace Go.Proofs.Ytlomlcljjidfjaa
open Go.RowKit Num

/-- A struct result of the package: the cell at which it lies. -/
theorem three_boxes (w : World) (s t : ByteArray) (T : TypeId) : ∃ w0, w0 = ((w.alloc (Obj.cells #[Value.string s] T)).alloc (Obj.cells #[Value.string t] T)).alloc (Obj.cells #[Value.string { data := #[] }] T) ∧
    w0.cell? ⟨w.heap.size, 0, none⟩ = some (.string s) ∧ w0.cell? ⟨w.heap.size + 1, 0, none⟩ = some (.string t) ∧ w0.cell? ⟨w.heap.size + 1 + 1, 0, none⟩ = some (.string { data := #[] }) ∧
    w0.frozen? ⟨w.heap.size + 1 + 1, 0, none⟩ = false ∧ w.heap.size + 3 ≤ w0.heap.size ∧ Hid (Below w.heap.size w w0) :=
  ⟨_, rfl, by simp [go_sem], by simp [go_sem], by simp [go_sem], by simp [go_sem], by simp, (((Below.refl _ _).alloc (Nat.le_refl _) _).alloc (by simp) _).alloc (by simp; omega) _⟩

set_option maxHeartbeats 400000 in
set_option maxRecDepth 100000 in
theorem sub_less (a b : Nat) (ha : nl a ≤ 1073741824) (hb : nl b ≤ 1073741824) (h : a < b) (w : World) :
    Calls Try.prog 56 #[natV a, natV b] w fun e w' => e = .returned (.tuple #[natV 0, .bool false]) ∧ Below w.heap.size w w' := by
  have HC := Lib.hid (cmpI_lt h)
  unfold natV
  go_enter Try.func56, Try.ntmps56
  go_wp2_with fail
  obtain ⟨w0, hw0, c1, c2, c3, f3, sz, HB⟩ := three_boxes w (nb a) (nb b) 25
  rw [← hw0]
  clear hw0
  refine (cmp_any a b (by omega) (by omega) w0).mono ?_
  rintro e w1 ⟨rfl, hB1⟩
  rw [HC.out]
  have k3 := below_cell hB1 (by omega) c3
  have e3 : w1.frozen? ⟨w.heap.size + 1 + 1, 0, none⟩ = false := by rw [hB1.frozen (p := ⟨w.heap.size + 1 + 1, 0, none⟩) (by simp; omega)]; exact f3
  have HB1 := Lib.hid (HB.out.trans (hB1.mono (B' := w.heap.size) (by omega)))
  clear c1 c2 c3 f3 hB1 HB
  go_wp2_with fail
  exact bodyPost_ret (v := .tuple #[natV 0, .bool false]) (by simp [results, Try.results56, go_sem, natV_zero, k3]) rfl ⟨rfl, HB1.out.setCell (by simp; omega) _⟩

set_option maxHeartbeats 1600000 in
set_option maxRecDepth 100000 in
theorem sub_geq (a b : Nat) (ha : nl a ≤ 1073741824) (hb : nl b ≤ 1073741824) (h : b ≤ a) (w : World) :
    Calls Try.prog 56 #[natV a, natV b] w fun e w' => e = .returned (.tuple #[natV (a - b), .bool true]) ∧ Below w.heap.size w w' := by
  have HC : Hid (0 ≤ cmpI a b ∧ cmpI a b ≤ 1) := by
    unfold Hid cmpI
    rw [if_neg (by omega)]; split <;> omega
  have HLE := Lib.hid h
  have hlyx : (digitsOf W b).length ≤ (digitsOf W a).length := length_le_of_lt_pow (by decide) _ _ (Nat.lt_of_le_of_lt h (lt_pow_length (by decide) a))
  clear h
  unfold natV
  go_enter Try.func56, Try.ntmps56
  go_wp2_with fail
  obtain ⟨wz, hw0, c1, c2, c3, f3, sz, HB⟩ := three_boxes w (nb a) (nb b) 25
  rw [← hw0]
  clear hw0
  refine (cmp_any a b (by omega) (by omega) wz).mono ?_
  rintro e w0 ⟨rfl, hB0⟩
  have hc0 := HC.out.1
  have hc1 := HC.out.2
  generalize cmpI a b = cc at *
  replace c1 := below_cell hB0 (by omega) c1
  replace c2 := below_cell hB0 (by omega) c2
  replace c3 := below_cell hB0 (by omega) c3
  have f4 : w0.frozen? ⟨w.heap.size + 1 + 1, 0, none⟩ = false := by rw [hB0.frozen (p := ⟨w.heap.size + 1 + 1, 0, none⟩) (by simp; omega)]; exact f3
  have HB := Lib.hid (HB.out.trans (hB0.mono (B' := w.heap.size) (by omega)))
  have sz := Nat.le_trans sz hB0.size
  clear hB0 f3 HC
  go_wp2_with fail
  go_region_held3 (fun w' => w'.cell? ⟨w.heap.size, 0, none⟩ = some (.string (nb a)) ∧ w'.cell? ⟨w.heap.size + 1, 0, none⟩ = some (.string (nb b)))
    (first | go_keep | exact ⟨by assumption, by assumption⟩)
    (first
      | (go_at_call 64; ((with_reducible refine (words_nb a (by omega) _).mono ?_); rintro e w1 ⟨rfl, hR1, hB1⟩; have k1 := below_cell hB1 (by simp; omega) c1; have k2 := below_cell hB1 (by simp; omega) c2))
      | (go_at_call 64; ((with_reducible refine (words_nb b (by omega) _).mono ?_); rintro e w2 ⟨rfl, hR2, hB2⟩; have j1 := below_cell hB2 (by have := hB1.size; simp at this; omega) k1; have j2 := below_cell hB2 (by have := hB1.size; simp at this; omega) k2)))
  have sz2 : w0.heap.size + 1 < w1.heap.size := by simpa using hR1.lt
  have HR1 := Lib.hid (hR1.below hB2 (by simpa using sz2))
  have HR2 := Lib.hid hR2
  have HB2 := Lib.hid (HB.out.drew.trans ((hB1.mono (B' := w.heap.size) (by simp; omega)).trans (hB2.mono (B' := w.heap.size) (by have := hB1.size; simp at this; omega))))
  have j3 := below_cell hB2 (by omega) (below_cell hB1 (by simp; omega) c3)
  have e3 : w2.frozen? ⟨w.heap.size + 1 + 1, 0, none⟩ = false := by
    rw [hB2.frozen (p := ⟨w.heap.size + 1 + 1, 0, none⟩) (by simp; omega), hB1.frozen (p := ⟨w.heap.size + 1 + 1, 0, none⟩) (by simp; omega)]; simpa using f4
  have hla := wlen_le a
  have sz3 : w1.heap.size + 1 < w2.heap.size := hR2.lt
  have hs12 := hB2.size
  clear hR1 hR2 hB1 hB2 c1 c2 c3 f4 k1 k2 HB j1 j2
  have hdrew : w0.drew.heap.size = w0.heap.size := rfl
  have HDX := Lib.hid (digitsOf_lt (B := W) (by decide) a)
  have HDY := Lib.hid (digitsOf_lt (B := W) (by decide) b)
  have HEX := Lib.hid (digs_digitsOf (B := W) (by decide) a)
  have HEY := Lib.hid (digs_digitsOf (B := W) (by decide) b)
  rw [hdrew] at HR1
  have hg1 : w.heap.size + 3 ≤ w0.heap.size + 1 ∧ w0.heap.size + 1 < w2.heap.size := by omega
  have hg2 : w.heap.size + 3 ≤ w1.heap.size + 1 ∧ w1.heap.size + 1 < w2.heap.size := by omega
  have hg12 : w0.heap.size + 1 ≠ w1.heap.size + 1 := by omega
  generalize w0.heap.size + 1 = gx at *
  generalize w1.heap.size + 1 = gy at *
  clear hdrew sz sz2 hs12
  generalize digitsOf W a = X at *
  generalize digitsOf W b = Y at *
  have hyp := padded_length Y X.length hlyx
  have HNB := Lib.hid (bl_none (B := W) (by decide) hyp.symm HDX.out (padded_lt Y X.length HDY.out) (by rw [padded_digs, HEX.out, HEY.out]; exact HLE.out))
  rw [padded_digs, HEX.out, HEY.out] at HNB
  have HPL := Lib.hid (padded_lt Y X.length HDY.out)
  have HYP : Hid (∀ i, (padded Y X.length).getD i 0 = Y.getD i 0) := by
    intro i
    unfold padded
    simp only [List.getD_eq_getElem?_getD]
    by_cases h : i < Y.length
    · rw [List.getElem?_append_left h]
    · rw [List.getElem?_append_right (by omega), List.getElem?_eq_none (show Y.length ≤ i by omega)]
      by_cases h2 : i - Y.length < X.length - Y.length
      · simp [h2]
      · rw [List.getElem?_eq_none (by simp; omega)]
  generalize padded Y X.length = YP at *
  have HBL := Lib.hid (bl_spec W)
  go_wp2_with fail
  go_loopw [8, 22] (fun r i wr => ∃ k : Nat, k ≤ X.length ∧ i = .int .i64 (k : Nat) ∧ r = .int .u64 ((bl W 0 (X.take k) (YP.take k)).2 : Nat) ∧
      Row wr gx 83 (u32s ((bl W 0 (X.take k) (YP.take k)).1 ++ X.drop k)) ∧ Row wr gy 83 (u32s Y) ∧
      wr.cell? ⟨w.heap.size + 1 + 1, 0, none⟩ = some (.string { data := #[] }) ∧ wr.frozen? ⟨w.heap.size + 1 + 1, 0, none⟩ = false ∧ Below w.heap.size w wr ∧ w2.heap.size ≤ wr.heap.size)
    (fun _ i _ => X.length - (intOf i).toNat)
  case atStart => exact ⟨0, Nat.zero_le _, rfl, by simp [bl], by simpa [bl] using HR1.out, HR2.out, j3, e3, HB2.out, Nat.le_refl _⟩
  case round =>
    obtain ⟨k, hk, rfl, rfl, hR, hRY, hbox, hboxf, hB, hsz⟩ := hrel
    clear HR1 HR2 j3 e3 HB2
    have hbs := HBL.out (X.take k) (YP.take k) 0 (by rw [List.length_take, List.length_take]; omega) (HDX.out.take k) (HPL.out.take k) (by omega)
    have hb1 := hbs.2.2
    have hclen : (bl W 0 (X.take k) (YP.take k)).1.length = k := by rw [bl_length _ _ _ _ (by rw [List.length_take, List.length_take]; omega), List.length_take]; omega
    clear hbs
    by_cases hlk : k < X.length
    · have HST := Lib.hid (bl_take_succ W 0 X YP k hyp.symm hlk)
      rw [HYP.out k] at HST
      have hc1 : wr.cell? ⟨gx, k, none⟩ = some (.int .u32 (X.getD k 0 : Nat)) :=
        hR.cell (u32s_get _ _ _ (by rw [get_done hclen (Nat.le_refl _), List.getD_eq_getElem?_getD, List.getElem?_eq_getElem (by omega)]; rfl))
      have hc2 : k < Y.length → wr.cell? ⟨gy, k, none⟩ = some (.int .u32 (Y.getD k 0 : Nat)) := fun h =>
        hRY.cell (u32s_get _ _ _ (by rw [List.getD_eq_getElem?_getD, List.getElem?_eq_getElem h]; rfl))
      have hf := hR.free k
      have hx := HDX.out.getD (by decide) k
      have hy := HDY.out.getD (by decide) k
      unfold W at hy hx
      have HD := Lib.hid (fun v => set_done (v := v) (xs := X) hclen (by omega))
      have HR := Lib.hid hR
      have HRY := Lib.hid hRY
      have HBB := Lib.hid hB
      have hy0 : ¬ k < Y.length → Y.getD k 0 = 0 := fun h => by rw [List.getD_eq_getElem?_getD, List.getElem?_eq_none (by omega)]; rfl
      clear hR hRY hB hclen
      generalize Y.getD k 0 = y at *
      generalize X.getD k 0 = x at *
      generalize bl W 0 (X.take k) (YP.take k) = cc at *
      have HSW := Lib.hid (sub_word x y cc.2 hx hy hb1)
      have HSW0 := Lib.hid (sub_word0 x cc.2 hx hb1)
      by_cases hky : k < Y.length
      case' pos =>
        have hc2 := hc2 hky
        clear hy0
      case' neg =>
        obtain rfl := hy0 hky
        clear hc2
      all_goals
        go_wp2_with fail
        go_roundw
        case rel =>
          refine ⟨k + 1, by omega, by go_num, ?_, ?_, ?_, ?_, ?_, ?_, ?_⟩
          · rw [HST.out]; first | rw [HSW.out.2] | rw [HSW0.out.2]
          · first | rw [HSW.out.1] | rw [HSW0.out.1]
            first
              | (have := HR.out.set k (.int .u32 (sb1 W cc.2 x y : Nat))
                 rw [u32s_set, HD.out] at this
                 rw [HST.out]
                 exact this)
              | (have := HR.out.set k (.int .u32 (sb1 W cc.2 x 0 : Nat))
                 rw [u32s_set, HD.out] at this
                 rw [HST.out]
                 exact this)
          · exact HRY.out.setOther _ (by simp; omega) _
          · exact cell_setOther hbox (by simp; omega)
          · exact frozen_setOther hboxf (by simp; omega)
          · exact HBB.out.setCell (by simp; omega) _
          · simpa using hsz
        case measure => simp [intOf]; omega
    · obtain rfl : k = X.length := by omega
      have htx : X.take X.length = X := List.take_of_length_le (Nat.le_refl _)
      have hty : YP.take X.length = YP := List.take_of_length_le (by omega)
      rw [htx, hty, List.drop_eq_nil_of_le (Nat.le_refl _), List.append_nil] at hR
      rw [htx, hty] at hclen ⊢
      have HCL := Lib.hid (HBL.out X YP 0 hyp.symm HDX.out HPL.out (by omega)).2.1
      have HCN := Lib.hid hclen
      have HR := Lib.hid hR
      have HBB := Lib.hid hB
      clear hR hB hRY hclen htx hty hb1
      generalize bl W 0 X YP = cc at *
      go_wp2_with (fail)
      refine (from_any (some ⟨gx, 0, none⟩) cc.1 X.length X.length HCN.out HCL.out (by omega) wr (CellsU.ofRow HR.out)).mono ?_
      rintro e w6 ⟨rfl, hB6⟩
      rw [HNB.out.2]
      have hbox6 := below_cell hB6 (by omega) hbox
      have hboxf6 : w6.frozen? ⟨w.heap.size + 1 + 1, 0, none⟩ = false := by
        rw [hB6.frozen (p := ⟨w.heap.size + 1 + 1, 0, none⟩) (by simp; omega)]; exact hboxf
      have HB6 := Lib.hid (HBB.out.trans (hB6.mono (B' := w.heap.size) (by omega)))
      clear hB6
      unfold natV
      go_wp2_with fail
      exact bodyPost_ret (v := .tuple #[natV (a - b), .bool true]) (by simp [results, Try.results56, go_sem, natV, hbox6]) rfl ⟨rfl, HB6.out.setCell (by simp; omega) _⟩
end Go.Proofs.Ytlomlcljjidfjaa
