/- Mul. -/
import Derived.Test.YtlomlcljjidfjaaWSub
import Derived.Test.YtlomlcljjidfjaaNatG
namespace Go.Proofs.Ytlomlcljjidfjaa
open Go.RowKit Num

set_option maxHeartbeats 1600000 in
set_option maxRecDepth 100000 in
theorem mul_any (a b : Nat) (ha : nl a ≤ 1073741824) (hb : nl b ≤ 1073741824) (w : World) :
    Calls Try.prog 46 #[natV a, natV b] w fun e w' => e = .returned (natV (a * b)) ∧ Below w.heap.size w w' := by
  obtain ⟨i0, hi, hz0, hz1, hz2⟩ := info_parts Try.infoU32
  have hlb := wlen_le b
  unfold natV
  go_enter Try.func46, Try.ntmps46
  go_wp2_with fail
  obtain ⟨w0, hw0, c1, c2, c3, f4, sz, HB⟩ := three_boxes w (nb a) (nb b) 25
  rw [← hw0]
  clear hw0
  go_region_held3 (fun w' => w'.cell? ⟨w.heap.size, 0, none⟩ = some (.string (nb a)) ∧ w'.cell? ⟨w.heap.size + 1, 0, none⟩ = some (.string (nb b)))
    (first | go_keep | exact ⟨by assumption, by assumption⟩)
    (first
      | (go_at_call 64; ((with_reducible refine (words_nb a (by omega) _).mono ?_); rintro e w1 ⟨rfl, hR1, hB1⟩; have k1 := below_cell hB1 (by simp; omega) c1; have k2 := below_cell hB1 (by simp; omega) c2))
      | (go_at_call 64; ((with_reducible refine (words_nb b (by omega) _).mono ?_); rintro e w2 ⟨rfl, hR2, hB2⟩; have j1 := below_cell hB2 (by have := hB1.size; simp at this; omega) k1; have j2 := below_cell hB2 (by have := hB1.size; simp at this; omega) k2)))
  have sz2 : w0.heap.size + 1 < w1.heap.size := by simpa using hR1.lt
  have HR1 := Lib.hid (hR1.below hB2 (by simpa using sz2))
  have HR2 := Lib.hid hR2
  have HB2 := Lib.hid (HB.out.drew.trans ((hB1.mono (B' := w.heap.size) (by simp; omega)).trans (hB2.mono (B' := w.heap.size) (by have := hB1.size; simp at this; omega))))
  have j3 := below_cell hB2 (by omega) (below_cell hB1 (by simp; omega) c3)
  have e3 : w2.frozen? ⟨w.heap.size + 1 + 1, 0, none⟩ = false := by
    rw [hB2.frozen (p := ⟨w.heap.size + 1 + 1, 0, none⟩) (by simp; omega), hB1.frozen (p := ⟨w.heap.size + 1 + 1, 0, none⟩) (by simp; omega)]; simpa using f4
  have hla := wlen_le a
  have sz3 : w1.heap.size + 1 < w2.heap.size := hR2.lt
  have hs12 := hB2.size
  clear hR1 hR2 hB1 hB2 c1 c2 c3 f4 k1 k2 HB j1 j2
  have hdrew : w0.drew.heap.size = w0.heap.size := rfl
  have HDX := Lib.hid (digitsOf_lt (B := W) (by decide) a)
  have HDY := Lib.hid (digitsOf_lt (B := W) (by decide) b)
  have HEX := Lib.hid (digs_digitsOf (B := W) (by decide) a)
  have HEY := Lib.hid (digs_digitsOf (B := W) (by decide) b)
  rw [hdrew] at HR1
  have hg1 : w.heap.size + 3 ≤ w0.heap.size + 1 ∧ w0.heap.size + 1 < w2.heap.size := by omega
  have hg2 : w.heap.size + 3 ≤ w1.heap.size + 1 ∧ w1.heap.size + 1 < w2.heap.size := by omega
  have hg12 : w0.heap.size + 1 ≠ w1.heap.size + 1 := by omega
  generalize w0.heap.size + 1 = gx at *
  generalize w1.heap.size + 1 = gy at *
  clear hdrew sz sz2 hs12
  generalize digitsOf W a = X at *
  generalize digitsOf W b = Y at *
  go_wp2_with (at_make; refine wpList_make_full _ rfl (.tmp 20) (.tmp 20) 80 rfl w2.heap.size 83 i0 (.int .u32 0) 1 Try.underlying80 hi hz0 hz1 .i64 .i64 _ _ (X.length + Y.length) rfl rfl (by omega) (by omega) (by rw [hz2]; omega) (by unfold maxLen; omega) (Nat.le_refl _) ?_)
  intro w3 hown hgr
  have hRo := Row.ofOwns hown
  rw [u32s_zeros] at hRo
  have HX3 := Lib.hid (HR1.out.grown hgr (by simp))
  have HY3 := Lib.hid (HR2.out.grown hgr (by simp))
  have l3 : w3.cell? ⟨w.heap.size + 1 + 1, 0, none⟩ = some (.string { data := #[] }) := hgr.cell j3 (by simp)
  have m3 : w3.frozen? ⟨w.heap.size + 1 + 1, 0, none⟩ = false := by
    rw [World.frozen?_of_block (w := w2) (hgr.block (w.heap.size + 1 + 1) (by omega) (by simp))]; exact e3
  have HB3 := Lib.hid (HB2.out.grown hgr (by omega) (by simp))
  have hs3 : w2.heap.size < w3.heap.size := hRo.lt
  clear hown hgr j3 e3 HR1 HR2 HB2
  have HRo := Lib.hid hRo
  clear hRo
  go_wp2_with fail
  go_loopw [24] (fun i wr => ∃ (k : Nat) (O : List Nat), k ≤ X.length ∧ i = .int .i64 (k : Nat) ∧ Row wr w2.heap.size 83 (u32s O) ∧ O.length = X.length + Y.length ∧ AllLt W O ∧ digs W O = digs W (X.take k) * digs W Y ∧
      digs W (O.drop (k + Y.length)) = 0 ∧ Row wr gx 83 (u32s X) ∧ Row wr gy 83 (u32s Y) ∧
      wr.cell? ⟨w.heap.size + 1 + 1, 0, none⟩ = some (.string { data := #[] }) ∧ wr.frozen? ⟨w.heap.size + 1 + 1, 0, none⟩ = false ∧ Below w.heap.size w wr ∧ w2.heap.size < wr.heap.size)
    (fun i _ => X.length - (intOf i).toNat)
  case atStart =>
    exact ⟨0, List.replicate (X.length + Y.length) 0, Nat.zero_le _, rfl, HRo.out, by simp, AllLt.zeros (by decide) _, by simp [digs_zeros, digs], by rw [List.drop_replicate, digs_zeros], HX3.out, HY3.out, l3, m3, HB3.out, hs3⟩
  case round =>
    obtain ⟨i, O, hik, rfl, hR, hOl, hOlt, hOd, hOz, hRX, hRY, hbox, hboxf, hB, hsz⟩ := hrel
    clear HRo HX3 HY3 l3 m3 HB3 hs3
    have HOd := Lib.hid hOd
    have HOlt := Lib.hid hOlt
    have HOz := Lib.hid hOz
    have HOl := Lib.hid hOl
    have HR := Lib.hid hR
    have HRX := Lib.hid hRX
    have HRY := Lib.hid hRY
    have HBB := Lib.hid hB
    clear hOd hOlt hOz hR hRX hRY hB hOl
    by_cases hlt : i < X.length
    · have hc1 : wr.cell? ⟨gx, i, none⟩ = some (.int .u32 (X.getD i 0 : Nat)) :=
        HRX.out.cell (u32s_get _ _ _ (by rw [List.getD_eq_getElem?_getD, List.getElem?_eq_getElem (by omega)]; rfl))
      have hf := HDX.out.getD (by decide) i
      have HXS := Lib.hid (digs_take_succ (B := W) X i hlt)
      have HMS := Lib.hid (mul_step O Y i (X.getD i 0) (by rw [HOl.out]; omega) HOz.out)
      have HMZ := Lib.hid (mul_zeros O Y i (X.getD i 0) (by rw [HOl.out]; omega) HOz.out)
      have HML := Lib.hid (mulO_lt O Y i (X.getD i 0) HOlt.out HDY.out hf)
      have HML2 := Lib.hid (mulM_last O Y i (X.getD i 0) (by rw [HOl.out]; omega))
      have HMST := Lib.hid (fun k => mulM_set O Y i (X.getD i 0) k (by rw [HOl.out]; omega))
      have HMG := Lib.hid (fun k => mulM_get O Y i (X.getD i 0) k (by rw [HOl.out]; omega))
      have HCS := Lib.hid (fun k (hk : k < Y.length) => cl_take_succ W 0 (mulT O Y i (X.getD i 0)) k (by rw [mulT_length O Y i _ (by rw [HOl.out]; omega)]; exact hk))
      have HTG := Lib.hid (fun k => mulT_getD O Y i (X.getD i 0) k (by rw [HOl.out]; omega))
      have HCC := Lib.hid (fun k => cl_carry W (by decide) ((mulT O Y i (X.getD i 0)).take k) 0 (by decide) (fun t ht => mulT_le O Y i _ HOlt.out HDY.out hf t (List.mem_of_mem_take ht)))
      have HTL := Lib.hid (mulT_length O Y i (X.getD i 0) (by rw [HOl.out]; omega))
      unfold W at hf
      generalize X.getD i 0 = f at *
      obtain ⟨wo, rfl⟩ : ∃ wo : World, wo = wr := ⟨_, rfl⟩
      go_wp2_with fail
      go_loopw [10, 31] (fun r kv wr => ∃ k : Nat, k ≤ Y.length ∧ kv = .int .i64 (k : Nat) ∧ r = .int .u64 ((cl W 0 ((mulT O Y i f).take k)).2 : Nat) ∧ Row wr w2.heap.size 83 (u32s (mulM O Y i f k)) ∧ Row wr gx 83 (u32s X) ∧ Row wr gy 83 (u32s Y) ∧
          wr.cell? ⟨w.heap.size + 1 + 1, 0, none⟩ = some (.string { data := #[] }) ∧ wr.frozen? ⟨w.heap.size + 1 + 1, 0, none⟩ = false ∧ Below w.heap.size w wr ∧ w2.heap.size < wr.heap.size)
        (fun _ kv _ => Y.length - (intOf kv).toNat)
      case atStart => exact ⟨0, Nat.zero_le _, rfl, rfl, by rw [mulM_zero]; exact HR.out, HRX.out, HRY.out, hbox, hboxf, HBB.out, hsz⟩
      case round =>
        obtain ⟨k, hk, rfl, rfl, hR, hRX, hRY, hbox2, hboxf2, hB, hsz2⟩ := hrel
        clear HR HRX HRY HBB hbox hboxf hsz hc1
        have hcar := HCC.out k
        unfold W at hcar
        have HR := Lib.hid hR
        have HRX := Lib.hid hRX
        have HRY := Lib.hid hRY
        have HBB := Lib.hid hB
        clear hR hRX hRY hB
        by_cases hky : k < Y.length
        · have HCS2 := Lib.hid (HCS.out k hky)
          rw [HTG.out k hky] at HCS2
          have HST := Lib.hid (HMST.out k hky)
          have hc1 : wr.cell? ⟨w2.heap.size, i + k, none⟩ = some (.int .u32 (O.getD (i + k) 0 : Nat)) := HR.out.cell (u32s_get _ _ _ (HMG.out k (by omega)))
          have hc2 : wr.cell? ⟨gy, k, none⟩ = some (.int .u32 (Y.getD k 0 : Nat)) :=
            HRY.out.cell (u32s_get _ _ _ (by rw [List.getD_eq_getElem?_getD, List.getElem?_eq_getElem (by omega)]; rfl))
          have hfr := HR.out.free (i + k)
          have ho := HOlt.out.getD (by decide) (i + k)
          have hy := HDY.out.getD (by decide) k
          unfold W at ho hy
          generalize O.getD (i + k) 0 = o at *
          generalize Y.getD k 0 = y at *
          generalize cl W 0 ((mulT O Y i f).take k) = cc at *
          obtain ⟨p, hp⟩ : ∃ p : Nat, p = f * y := ⟨_, rfl⟩
          have hpI : (f : Int) * y = p := by rw [hp]; simp
          have hp2 : p ≤ 4294967295 * 4294967295 := by rw [hp]; exact Nat.mul_le_mul (by omega) (by omega)
          rw [← hp] at HST HCS2
          clear hp
          go_wp2_with fail
          go_quiet (fail)
          go_wp2_with fail
          go_roundw
          case rel =>
            refine ⟨k + 1, by omega, by go_num, ?_, ?_, HRX.out.setOther _ (by simp; omega) _, HRY.out.setOther _ (by simp; omega) _, cell_setOther (w := wr.drewN _) hbox2 (by simp; omega), frozen_setOther (w := wr.drewN _) hboxf2 (by simp; omega), (HBB.out.drewN _).setCell (by simp; omega) _, by simpa using hsz2⟩
            · rw [HCS2.out]; simp [W]
            · have := (HR.out.drewN nq).set (i + k) (.int .u32 ((cc.2 + (o + p)) % W : Nat))
              rw [u32s_set, HST.out] at this
              simpa [W] using this
          case measure => simp [intOf]; omega
        · obtain rfl : k = Y.length := by omega
          rw [List.take_of_length_le (by rw [HTL.out]; omega)] at hcar ⊢
          have hc1 : wr.cell? ⟨w2.heap.size, i + Y.length, none⟩ = some (.int .u32 (O.getD (i + Y.length) 0 : Nat)) := HR.out.cell (u32s_get _ _ _ (HMG.out Y.length (by omega)))
          have hfr := HR.out.free (i + Y.length)
          generalize O.getD (i + Y.length) 0 = o at *
          generalize hcc : cl W 0 (mulT O Y i f) = cc at *
          have HCE := Lib.hid hcc
          clear hcc
          go_wp2_with fail
          go_roundw
          case rel =>
            refine ⟨i + 1, mulO O Y i f, by omega, by go_num, ?_, by rw [HMS.out.2]; exact HOl.out, HML.out, ?_, HMZ.out, HRX.out.setOther _ (by simp; omega) _, HRY.out.setOther _ (by simp; omega) _, cell_setOther hbox2 (by simp; omega), frozen_setOther hboxf2 (by simp; omega), HBB.out.setCell (by simp; omega) _, by simpa using hsz2⟩
            · have := HR.out.set (i + Y.length) (.int .u32 (cc.2 : Nat))
              rw [u32s_set] at this
              rw [← HML2.out]
              simpa using this
            · rw [HMS.out.1, HOd.out, HXS.out]
              generalize digs W Y = y
              generalize digs W (X.take i) = x
              generalize W ^ i = q
              grind
          case measure => simp [intOf]; omega
    · obtain rfl : i = X.length := by omega
      have hfin : digs W O = a * b := by rw [HOd.out, List.take_of_length_le (Nat.le_refl _), HEX.out, HEY.out]
      have HF := Lib.hid hfin
      clear hfin
      go_wp2_with fail
      refine (from_any (some ⟨w2.heap.size, 0, none⟩) O (X.length + Y.length) (X.length + Y.length) HOl.out HOlt.out (by omega) wr (CellsU.ofRow HR.out)).mono ?_
      rintro e w6 ⟨rfl, hB6⟩
      rw [HF.out]
      have hbox6 := below_cell hB6 (by omega) hbox
      have hboxf6 : w6.frozen? ⟨w.heap.size + 1 + 1, 0, none⟩ = false := by
        rw [hB6.frozen (p := ⟨w.heap.size + 1 + 1, 0, none⟩) (by simp; omega)]; exact hboxf
      have HB6 := Lib.hid (HBB.out.trans (hB6.mono (B' := w.heap.size) (by omega)))
      clear hB6
      unfold natV
      go_wp2_with fail
      exact bodyPost_ret (v := natV (a * b)) (by simp [results, Try.results46, go_sem, natV, hbox6]) rfl ⟨rfl, HB6.out.setCell (by simp; omega) _⟩
end Go.Proofs.Ytlomlcljjidfjaa
