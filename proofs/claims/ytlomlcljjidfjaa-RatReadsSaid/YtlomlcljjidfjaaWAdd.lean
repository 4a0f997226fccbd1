/- Add. -/
import Derived.Test.YtlomlcljjidfjaaWCmp
import Derived.Test.YtlomlcljjidfjaaNatC
import Derived.Deep.RegionHeld3
import Derived.Laws.CopyOwn
namespace Go.Proofs.Ytlomlcljjidfjaa
open Go.RowKit Num

theorem words_nb (n : Nat) (hn : nl n ≤ 1099511627776) (w : World) :
    Calls Try.prog 64 #[.agg #[.string (nb n)]] w fun e w' =>
      e = .returned (.slice (some ⟨w.heap.size + 1, 0, none⟩) (digitsOf W n).length (digitsOf W n).length) ∧ Row w' (w.heap.size + 1) 83 (u32s (digitsOf W n)) ∧ Below w.heap.size w w' := words_nat n hn w

theorem Try.sizeU32 : (Try.prog.info? 83).map (·.size) = some 1 := by kernel_rfl

theorem u32s_length (l : List Nat) : (u32s l).length = l.length := by simp [u32s]
theorem u32s_one (l : List Nat) : ∀ v ∈ u32s l, v.oneCell' = true := by
  intro v hv; obtain ⟨d, _, rfl⟩ := List.mem_map.1 hv; rfl
theorem u32s_append (a b : List Nat) : u32s (a ++ b) = u32s a ++ u32s b := by simp [u32s]

/-- The shorter number among zeros. -/
def padded (Y : List Nat) (n : Nat) : List Nat := Y ++ List.replicate (n - Y.length) 0
theorem padded_length (Y : List Nat) (n : Nat) (h : Y.length ≤ n) : (padded Y n).length = n := by simp [padded]; omega
theorem padded_digs (Y : List Nat) (n : Nat) : digs W (padded Y n) = digs W Y := by simp [padded, digs_append, digs_zeros]
theorem padded_lt (Y : List Nat) (n : Nat) (h : AllLt W Y) : AllLt W (padded Y n) := h.append (AllLt.zeros (by decide) _)
theorem splice_padded (Y : List Nat) (n : Nat) (h : Y.length ≤ n) : splice (u32s (List.replicate (n + 1) 0)) 0 (u32s Y) = u32s (padded Y n ++ [0]) := by
  unfold splice padded
  simp only [List.take_zero, List.nil_append, u32s_length, Nat.zero_add]
  rw [show List.replicate (n + 1) 0 = List.replicate Y.length 0 ++ List.replicate (n - Y.length + 1) (0 : Nat) by rw [List.replicate_append_replicate]; congr 1; omega]
  rw [u32s_append, List.drop_append_of_le_length (by simp [u32s]), List.drop_eq_nil_of_le (by simp [u32s]), List.nil_append, List.append_assoc, ← u32s_append, List.replicate_succ']

set_option maxHeartbeats 1600000 in
set_option maxRecDepth 100000 in
theorem add_any (a b : Nat) (ha : nl a ≤ 1073741824) (hb : nl b ≤ 1073741824) (w : World) :
    Calls Try.prog 45 #[natV a, natV b] w fun e w' => e = .returned (natV (a + b)) ∧ Below w.heap.size w w' := by
  unfold natV
  go_enter Try.func45, Try.ntmps45
  go_wp2_with fail
  obtain ⟨w0, hw0⟩ : ∃ w0, w0 = ((w.alloc (Obj.cells #[Value.string (nb a)] 25)).alloc (Obj.cells #[Value.string (nb b)] 25)).alloc (Obj.cells #[Value.string { data := #[] }] 25) := ⟨_, rfl⟩
  have c1 : w0.cell? ⟨w.heap.size, 0, none⟩ = some (.string (nb a)) := by rw [hw0]; simp [go_sem]
  have c2 : w0.cell? ⟨w.heap.size + 1, 0, none⟩ = some (.string (nb b)) := by rw [hw0]; simp [go_sem]
  have c3 : w0.cell? ⟨w.heap.size + 1 + 1, 0, none⟩ = some (.string { data := #[] }) := by rw [hw0]; simp [go_sem]
  have f3 : w0.frozen? ⟨w.heap.size + 1 + 1, 0, none⟩ = false := by rw [hw0]; simp [go_sem]
  have sz : w.heap.size + 3 ≤ w0.heap.size := by rw [hw0]; simp
  have HB : Hid (Below w.heap.size w w0) := by rw [hw0]; exact (((Below.refl _ _).alloc (Nat.le_refl _) _).alloc (by simp) _).alloc (by simp; omega) _
  rw [← hw0]
  clear hw0
  go_region_held3 (fun w' => w'.cell? ⟨w.heap.size, 0, none⟩ = some (.string (nb a)) ∧ w'.cell? ⟨w.heap.size + 1, 0, none⟩ = some (.string (nb b)))
    (first | go_keep | exact ⟨by assumption, by assumption⟩)
    (first
      | (go_at_call 64; ((with_reducible refine (words_nb a (by omega) _).mono ?_); rintro e w1 ⟨rfl, hR1, hB1⟩; have k1 := below_cell hB1 (by simp; omega) c1; have k2 := below_cell hB1 (by simp; omega) c2))
      | (go_at_call 64; ((with_reducible refine (words_nb b (by omega) _).mono ?_); rintro e w2 ⟨rfl, hR2, hB2⟩; have j1 := below_cell hB2 (by have := hB1.size; simp at this; omega) k1; have j2 := below_cell hB2 (by have := hB1.size; simp at this; omega) k2)))
  have sz2 : w0.heap.size + 1 < w1.heap.size := by simpa using hR1.lt
  have HR1 := Lib.hid (hR1.below hB2 (by simpa using sz2))
  have HR2 := Lib.hid hR2
  have HB2 := Lib.hid (HB.out.drew.trans ((hB1.mono (B' := w.heap.size) (by simp; omega)).trans (hB2.mono (B' := w.heap.size) (by have := hB1.size; simp at this; omega))))
  have j3 := below_cell hB2 (by omega) (below_cell hB1 (by simp; omega) c3)
  have e3 : w2.frozen? ⟨w.heap.size + 1 + 1, 0, none⟩ = false := by
    rw [hB2.frozen (p := ⟨w.heap.size + 1 + 1, 0, none⟩) (by simp; omega), hB1.frozen (p := ⟨w.heap.size + 1 + 1, 0, none⟩) (by simp; omega)]; simpa using f3
  have hla := wlen_le a
  have hlb := wlen_le b
  have sz3 : w1.heap.size + 1 < w2.heap.size := hR2.lt
  have hs12 := hB2.size
  clear hR1 hR2 hB1 hB2 c1 c2 c3 f3 k1 k2 HB
  obtain ⟨i0, hi, hz0, hz1, hz2⟩ := info_parts Try.infoU32
  have hdrew : w0.drew.heap.size = w0.heap.size := rfl
  have hda := digitsOf_lt (B := W) (by decide) a
  have hdb := digitsOf_lt (B := W) (by decide) b
  have hsum : digs W (digitsOf W a) + digs W (digitsOf W b) = a + b := by rw [digs_digitsOf (by decide), digs_digitsOf (by decide)]
  have hsum2 : digs W (digitsOf W b) + digs W (digitsOf W a) = a + b := by rw [Nat.add_comm]; exact hsum
  rw [hdrew] at HR1
  have hg1 : w.heap.size + 3 ≤ w0.heap.size + 1 ∧ w0.heap.size + 1 < w2.heap.size := by omega
  have hg2 : w.heap.size + 3 ≤ w1.heap.size + 1 ∧ w1.heap.size + 1 < w2.heap.size := by omega
  generalize w0.heap.size + 1 = ga at *
  generalize w1.heap.size + 1 = gb at *
  clear hdrew sz sz2 hs12
  by_cases hlt : (digitsOf W a).length < (digitsOf W b).length
  case pos =>
    clear hsum
    generalize digitsOf W a = Y at *
    generalize digitsOf W b = X at *
    have hXY : Y.length ≤ X.length := by omega
    have HX := HR2
    have HY := HR1
    have hgx := hg2
    have hgy := hg1
    have HDX := Lib.hid hdb
    have HDY := Lib.hid hda
    have HSM := Lib.hid hsum2
    clear HR1 HR2 hdb hda hg1 hg2 hsum2
    generalize gb = gx at *
    generalize ga = gy at *
    go_wp2_with (at_make; refine wpList_make_full _ rfl (.tmp 23) (.tmp 23) 80 rfl w2.heap.size 83 i0 (.int .u32 0) 1 Try.underlying80 hi hz0 hz1 .i64 .i64 _ _ (X.length + 1) rfl rfl (by omega) (by omega) (by rw [hz2]; omega) (by unfold maxLen; omega) (Nat.le_refl _) ?_)
    intro w3 hown hgr
    have hRo := Row.ofOwns hown
    rw [u32s_zeros] at hRo
    have HX3 := Lib.hid (HX.out.grown hgr (by simp))
    have HY3 := Lib.hid (HY.out.grown hgr (by simp))
    have l3 : w3.cell? ⟨w.heap.size + 1 + 1, 0, none⟩ = some (.string { data := #[] }) := hgr.cell j3 (by simp)
    have m3 : w3.frozen? ⟨w.heap.size + 1 + 1, 0, none⟩ = false := by
      rw [World.frozen?_of_block (w := w2) (hgr.block (w.heap.size + 1 + 1) (by omega) (by simp))]; exact e3
    have HB3 := Lib.hid (HB2.out.grown hgr (by omega) (by simp))
    have hs3 : w2.heap.size < w3.heap.size := hRo.lt
    clear hown hgr j3 e3 HX HY HB2
    have HRo := Lib.hid hRo
    clear hRo
    go_wp2_with (refine wpList_copy_splice (o := ⟨some 27, _, _, _, _, _⟩) rfl (.tmp 25) (.tmp 26) 80 80 rfl 83 Try.underlying80 Try.sizeU32 _ _ _ _ _ _ rfl rfl w2.heap.size 0 (u32s (List.replicate (X.length + 1) 0)) 83 HRo.out (u32s Y) ?_ ?_ ?_ ?_ w2.heap.size w3 (Below.refl _ _) (Nat.le_refl _) ?_)
    · rw [u32s_length]; exact (Nat.min_eq_left (by omega)).symm
    · intro _
      exact fun j v hj => HY3.out.cell hj
    · simp [u32s]; omega
    · exact u32s_one Y
    intro w4 hR4 hB4
    rw [splice_padded Y X.length hXY] at hR4
    have HX4 := Lib.hid (HX3.out.below hB4 (by omega))
    have l4 := below_cell hB4 (by omega) l3
    have m4 : w4.frozen? ⟨w.heap.size + 1 + 1, 0, none⟩ = false := by rw [hB4.frozen (p := ⟨w.heap.size + 1 + 1, 0, none⟩) (by simp; omega)]; exact m3
    have HB4 := Lib.hid (HB3.out.trans (hB4.mono (by omega)))
    have HR4 : Hid (Row w4 w2.heap.size 83 (u32s (padded Y X.length ++ [0]))) := hR4
    clear hR4 hB4 HX3 HY3 HB3 HRo l3 m3
    have hyp := padded_length Y X.length hXY
    have HTS : Hid (digs W (addL (padded Y X.length) X) = digs W X + digs W Y) := by
      unfold Hid; rw [digs_addL _ _ _ hyp, padded_digs, Nat.add_comm]
    have HPL := Lib.hid (padded_lt Y X.length HDY.out)
    have htl := addL_length (padded Y X.length) X hyp
    have HTG := Lib.hid (addL_getD (padded Y X.length) X hyp)
    have HTE := Lib.hid (addL_le (B := W) (by decide) HPL.out HDX.out)
    generalize hYP : padded Y X.length = YP at *
    clear hYP
    go_wp2_with fail
    go_loopw [8, 30] (fun r i wr => ∃ k : Nat, k ≤ X.length ∧ i = .int .i64 (k : Nat) ∧ r = .int .u64 ((cl W 0 ((addL YP X).take k)).2 : Nat) ∧
        Row wr w2.heap.size 83 (u32s ((cl W 0 ((addL YP X).take k)).1 ++ (YP ++ [0]).drop k)) ∧ Row wr gx 83 (u32s X) ∧
        wr.cell? ⟨w.heap.size + 1 + 1, 0, none⟩ = some (.string { data := #[] }) ∧ wr.frozen? ⟨w.heap.size + 1 + 1, 0, none⟩ = false ∧ Below w.heap.size w wr ∧ w2.heap.size < wr.heap.size)
      (fun _ i _ => X.length - (intOf i).toNat)
    case atStart => exact ⟨0, Nat.zero_le _, rfl, rfl, by simpa [cl] using HR4.out, HX4.out, l4, m4, HB4.out, HR4.out.lt⟩
    case round =>
      obtain ⟨k, hk, rfl, rfl, hR, hRX, hbox, hboxf, hB, hsz⟩ := hrel
      clear HR4 HX4 l4 m4 HB4
      have hcar : (cl W 0 ((addL YP X).take k)).2 < 4294967296 := cl_carry W (by decide) _ _ (by decide) (fun t ht => HTE.out t (List.mem_of_mem_take ht))
      have hclen : (cl W 0 ((addL YP X).take k)).1.length = k := by rw [cl_length, List.length_take]; omega
      by_cases hlk : k < X.length
      · have HST := Lib.hid (cl_take_succ W 0 (addL YP X) k (by omega))
        rw [HTG.out k] at HST
        have hc1 : wr.cell? ⟨w2.heap.size, k, none⟩ = some (.int .u32 (YP.getD k 0 : Nat)) :=
          hR.cell (u32s_get _ _ _ (by rw [get_done hclen (Nat.le_refl _), List.getElem?_append_left (by omega), List.getD_eq_getElem?_getD, List.getElem?_eq_getElem (by omega)]; rfl))
        have hc2 : wr.cell? ⟨gx, k, none⟩ = some (.int .u32 (X.getD k 0 : Nat)) :=
          hRX.cell (u32s_get _ _ _ (by rw [List.getD_eq_getElem?_getD, List.getElem?_eq_getElem (by omega)]; rfl))
        have hf := hR.free k
        have hy := HPL.out.getD (by decide) k
        have hx := HDX.out.getD (by decide) k
        unfold W at hy hx
        have HD := Lib.hid (fun v => set_done (v := v) (xs := YP ++ [0]) hclen (by simp; omega))
        have HR := Lib.hid hR
        have HRX := Lib.hid hRX
        have HBB := Lib.hid hB
        clear hR hRX hB hclen
        generalize YP.getD k 0 = y at *
        generalize X.getD k 0 = x at *
        generalize cl W 0 ((addL YP X).take k) = cc at *
        go_wp2_with fail
        go_quiet (fail)
        go_wp2_with fail
        go_roundw
        case rel =>
          refine ⟨k + 1, by omega, by go_num, ?_, ?_, ?_, ?_, ?_, ?_, ?_⟩
          · rw [HST.out]; simp [W]
          · have := (HR.out.drewN nq).set k (.int .u32 ((cc.2 + (y + x)) % W : Nat))
            rw [u32s_set, HD.out] at this
            rw [HST.out]
            simpa [W] using this
          · exact HRX.out.setOther _ (by simp; omega) _
          · exact cell_setOther (w := wr.drewN _) hbox (by simp; omega)
          · exact frozen_setOther (w := wr.drewN _) hboxf (by simp; omega)
          · exact (HBB.out.drewN _).setCell (by simp; omega) _
          · simpa using hsz
        case measure => simp [intOf]; omega
      · obtain rfl : k = X.length := by omega
        rw [List.take_of_length_le (by omega)] at hR hcar hclen ⊢
        have HCD := Lib.hid (cl_digs W (addL YP X) 0)
        have HCL := Lib.hid (cl_lt W (by decide) (addL YP X) 0)
        rw [HTS.out, htl, hyp, HSM.out] at HCD
        have hdr : (YP ++ [0]).drop X.length = [0] := by rw [List.drop_append_of_le_length (by omega), List.drop_eq_nil_of_le (by omega)]; rfl
        rw [hdr] at hR
        have hc1 : wr.cell? ⟨w2.heap.size, X.length, none⟩ = some (.int .u32 ((0 : Nat) : Int)) := hR.cell (u32s_get _ _ _ (by rw [List.getElem?_append_right (by omega), hclen, Nat.sub_self]; rfl))
        have hf := hR.free X.length
        have HR := Lib.hid hR
        have HBB := Lib.hid hB
        have HCN := Lib.hid hclen
        clear hR hB hRX hclen hdr
        generalize cl W 0 (addL YP X) = cc at *
        go_wp2_with (fail)
        have hR5 := HR.out.set X.length (.int .u32 (cc.2 : Nat))
        rw [u32s_set, List.set_append_right _ _ (by have := HCN.out; omega), HCN.out, Nat.sub_self] at hR5
        rw [show [0].set 0 cc.2 = [cc.2] from rfl] at hR5
        refine (from_any (some ⟨w2.heap.size, 0, none⟩) (cc.1 ++ [cc.2]) (X.length + 1) (X.length + 1) (by simp; exact HCN.out) (HCL.out.append (AllLt.cons hcar (AllLt.nil W))) (by omega) _ (CellsU.ofRow (g := w2.heap.size) (E := 83) ?_)).mono ?_
        · simpa using hR5
        rintro e w6 ⟨rfl, hB6⟩
        rw [digs_snoc, HCN.out, HCD.out, Nat.zero_add]
        have hbox6 := below_cell hB6 (by simp; omega) (cell_setOther (v := .int .u32 (cc.2 : Nat)) (a := ⟨w2.heap.size, X.length, none⟩) hbox (by simp; omega))
        have hboxf6 : w6.frozen? ⟨w.heap.size + 1 + 1, 0, none⟩ = false := by
          rw [hB6.frozen (p := ⟨w.heap.size + 1 + 1, 0, none⟩) (by simp; omega)]
          exact frozen_setOther hboxf (by simp; omega)
        have HB6 := Lib.hid ((HBB.out.setCell (p := ⟨w2.heap.size, X.length, none⟩) (by simp; omega) (.int .u32 (cc.2 : Nat))).trans (hB6.mono (by simp; omega)))
        clear hB6
        unfold natV
        go_wp2_with fail
        exact bodyPost_ret (v := natV (a + b)) (by simp [results, Try.results45, go_sem, natV, hbox6]) rfl ⟨rfl, HB6.out.setCell (by simp; omega) _⟩
  case neg =>
    clear hsum2
    generalize digitsOf W a = X at *
    generalize digitsOf W b = Y at *
    have hXY : Y.length ≤ X.length := by omega
    have HX := HR1
    have HY := HR2
    have hgx := hg1
    have hgy := hg2
    have HDX := Lib.hid hda
    have HDY := Lib.hid hdb
    have HSM := Lib.hid hsum
    clear HR1 HR2 hdb hda hg1 hg2 hsum
    generalize ga = gx at *
    generalize gb = gy at *
    go_wp2_with (at_make; refine wpList_make_full _ rfl (.tmp 23) (.tmp 23) 80 rfl w2.heap.size 83 i0 (.int .u32 0) 1 Try.underlying80 hi hz0 hz1 .i64 .i64 _ _ (X.length + 1) rfl rfl (by omega) (by omega) (by rw [hz2]; omega) (by unfold maxLen; omega) (Nat.le_refl _) ?_)
    intro w3 hown hgr
    have hRo := Row.ofOwns hown
    rw [u32s_zeros] at hRo
    have HX3 := Lib.hid (HX.out.grown hgr (by simp))
    have HY3 := Lib.hid (HY.out.grown hgr (by simp))
    have l3 : w3.cell? ⟨w.heap.size + 1 + 1, 0, none⟩ = some (.string { data := #[] }) := hgr.cell j3 (by simp)
    have m3 : w3.frozen? ⟨w.heap.size + 1 + 1, 0, none⟩ = false := by
      rw [World.frozen?_of_block (w := w2) (hgr.block (w.heap.size + 1 + 1) (by omega) (by simp))]; exact e3
    have HB3 := Lib.hid (HB2.out.grown hgr (by omega) (by simp))
    have hs3 : w2.heap.size < w3.heap.size := hRo.lt
    clear hown hgr j3 e3 HX HY HB2
    have HRo := Lib.hid hRo
    clear hRo
    go_wp2_with (refine wpList_copy_splice (o := ⟨some 27, _, _, _, _, _⟩) rfl (.tmp 25) (.tmp 26) 80 80 rfl 83 Try.underlying80 Try.sizeU32 _ _ _ _ _ _ rfl rfl w2.heap.size 0 (u32s (List.replicate (X.length + 1) 0)) 83 HRo.out (u32s Y) ?_ ?_ ?_ ?_ w2.heap.size w3 (Below.refl _ _) (Nat.le_refl _) ?_)
    · rw [u32s_length]; exact (Nat.min_eq_left (by omega)).symm
    · intro _
      exact fun j v hj => HY3.out.cell hj
    · simp [u32s]; omega
    · exact u32s_one Y
    intro w4 hR4 hB4
    rw [splice_padded Y X.length hXY] at hR4
    have HX4 := Lib.hid (HX3.out.below hB4 (by omega))
    have l4 := below_cell hB4 (by omega) l3
    have m4 : w4.frozen? ⟨w.heap.size + 1 + 1, 0, none⟩ = false := by rw [hB4.frozen (p := ⟨w.heap.size + 1 + 1, 0, none⟩) (by simp; omega)]; exact m3
    have HB4 := Lib.hid (HB3.out.trans (hB4.mono (by omega)))
    have HR4 : Hid (Row w4 w2.heap.size 83 (u32s (padded Y X.length ++ [0]))) := hR4
    clear hR4 hB4 HX3 HY3 HB3 HRo l3 m3
    have hyp := padded_length Y X.length hXY
    have HTS : Hid (digs W (addL (padded Y X.length) X) = digs W X + digs W Y) := by
      unfold Hid; rw [digs_addL _ _ _ hyp, padded_digs, Nat.add_comm]
    have HPL := Lib.hid (padded_lt Y X.length HDY.out)
    have htl := addL_length (padded Y X.length) X hyp
    have HTG := Lib.hid (addL_getD (padded Y X.length) X hyp)
    have HTE := Lib.hid (addL_le (B := W) (by decide) HPL.out HDX.out)
    generalize hYP : padded Y X.length = YP at *
    clear hYP
    go_wp2_with fail
    go_loopw [8, 30] (fun r i wr => ∃ k : Nat, k ≤ X.length ∧ i = .int .i64 (k : Nat) ∧ r = .int .u64 ((cl W 0 ((addL YP X).take k)).2 : Nat) ∧
        Row wr w2.heap.size 83 (u32s ((cl W 0 ((addL YP X).take k)).1 ++ (YP ++ [0]).drop k)) ∧ Row wr gx 83 (u32s X) ∧
        wr.cell? ⟨w.heap.size + 1 + 1, 0, none⟩ = some (.string { data := #[] }) ∧ wr.frozen? ⟨w.heap.size + 1 + 1, 0, none⟩ = false ∧ Below w.heap.size w wr ∧ w2.heap.size < wr.heap.size)
      (fun _ i _ => X.length - (intOf i).toNat)
    case atStart => exact ⟨0, Nat.zero_le _, rfl, rfl, by simpa [cl] using HR4.out, HX4.out, l4, m4, HB4.out, HR4.out.lt⟩
    case round =>
      obtain ⟨k, hk, rfl, rfl, hR, hRX, hbox, hboxf, hB, hsz⟩ := hrel
      clear HR4 HX4 l4 m4 HB4
      have hcar : (cl W 0 ((addL YP X).take k)).2 < 4294967296 := cl_carry W (by decide) _ _ (by decide) (fun t ht => HTE.out t (List.mem_of_mem_take ht))
      have hclen : (cl W 0 ((addL YP X).take k)).1.length = k := by rw [cl_length, List.length_take]; omega
      by_cases hlk : k < X.length
      · have HST := Lib.hid (cl_take_succ W 0 (addL YP X) k (by omega))
        rw [HTG.out k] at HST
        have hc1 : wr.cell? ⟨w2.heap.size, k, none⟩ = some (.int .u32 (YP.getD k 0 : Nat)) :=
          hR.cell (u32s_get _ _ _ (by rw [get_done hclen (Nat.le_refl _), List.getElem?_append_left (by omega), List.getD_eq_getElem?_getD, List.getElem?_eq_getElem (by omega)]; rfl))
        have hc2 : wr.cell? ⟨gx, k, none⟩ = some (.int .u32 (X.getD k 0 : Nat)) :=
          hRX.cell (u32s_get _ _ _ (by rw [List.getD_eq_getElem?_getD, List.getElem?_eq_getElem (by omega)]; rfl))
        have hf := hR.free k
        have hy := HPL.out.getD (by decide) k
        have hx := HDX.out.getD (by decide) k
        unfold W at hy hx
        have HD := Lib.hid (fun v => set_done (v := v) (xs := YP ++ [0]) hclen (by simp; omega))
        have HR := Lib.hid hR
        have HRX := Lib.hid hRX
        have HBB := Lib.hid hB
        clear hR hRX hB hclen
        generalize YP.getD k 0 = y at *
        generalize X.getD k 0 = x at *
        generalize cl W 0 ((addL YP X).take k) = cc at *
        go_wp2_with fail
        go_quiet (fail)
        go_wp2_with fail
        go_roundw
        case rel =>
          refine ⟨k + 1, by omega, by go_num, ?_, ?_, ?_, ?_, ?_, ?_, ?_⟩
          · rw [HST.out]; simp [W]
          · have := (HR.out.drewN nq).set k (.int .u32 ((cc.2 + (y + x)) % W : Nat))
            rw [u32s_set, HD.out] at this
            rw [HST.out]
            simpa [W] using this
          · exact HRX.out.setOther _ (by simp; omega) _
          · exact cell_setOther (w := wr.drewN _) hbox (by simp; omega)
          · exact frozen_setOther (w := wr.drewN _) hboxf (by simp; omega)
          · exact (HBB.out.drewN _).setCell (by simp; omega) _
          · simpa using hsz
        case measure => simp [intOf]; omega
      · obtain rfl : k = X.length := by omega
        rw [List.take_of_length_le (by omega)] at hR hcar hclen ⊢
        have HCD := Lib.hid (cl_digs W (addL YP X) 0)
        have HCL := Lib.hid (cl_lt W (by decide) (addL YP X) 0)
        rw [HTS.out, htl, hyp, HSM.out] at HCD
        have hdr : (YP ++ [0]).drop X.length = [0] := by rw [List.drop_append_of_le_length (by omega), List.drop_eq_nil_of_le (by omega)]; rfl
        rw [hdr] at hR
        have hc1 : wr.cell? ⟨w2.heap.size, X.length, none⟩ = some (.int .u32 ((0 : Nat) : Int)) := hR.cell (u32s_get _ _ _ (by rw [List.getElem?_append_right (by omega), hclen, Nat.sub_self]; rfl))
        have hf := hR.free X.length
        have HR := Lib.hid hR
        have HBB := Lib.hid hB
        have HCN := Lib.hid hclen
        clear hR hB hRX hclen hdr
        generalize cl W 0 (addL YP X) = cc at *
        go_wp2_with (fail)
        have hR5 := HR.out.set X.length (.int .u32 (cc.2 : Nat))
        rw [u32s_set, List.set_append_right _ _ (by have := HCN.out; omega), HCN.out, Nat.sub_self] at hR5
        rw [show [0].set 0 cc.2 = [cc.2] from rfl] at hR5
        refine (from_any (some ⟨w2.heap.size, 0, none⟩) (cc.1 ++ [cc.2]) (X.length + 1) (X.length + 1) (by simp; exact HCN.out) (HCL.out.append (AllLt.cons hcar (AllLt.nil W))) (by omega) _ (CellsU.ofRow (g := w2.heap.size) (E := 83) ?_)).mono ?_
        · simpa using hR5
        rintro e w6 ⟨rfl, hB6⟩
        rw [digs_snoc, HCN.out, HCD.out, Nat.zero_add]
        have hbox6 := below_cell hB6 (by simp; omega) (cell_setOther (v := .int .u32 (cc.2 : Nat)) (a := ⟨w2.heap.size, X.length, none⟩) hbox (by simp; omega))
        have hboxf6 : w6.frozen? ⟨w.heap.size + 1 + 1, 0, none⟩ = false := by
          rw [hB6.frozen (p := ⟨w.heap.size + 1 + 1, 0, none⟩) (by simp; omega)]
          exact frozen_setOther hboxf (by simp; omega)
        have HB6 := Lib.hid ((HBB.out.setCell (p := ⟨w2.heap.size, X.length, none⟩) (by simp; omega) (.int .u32 (cc.2 : Nat))).trans (hB6.mono (by simp; omega)))
        clear hB6
        unfold natV
        go_wp2_with fail
        exact bodyPost_ret (v := natV (a + b)) (by simp [results, Try.results45, go_sem, natV, hbox6]) rfl ⟨rfl, HB6.out.setCell (by simp; omega) _⟩
end Go.Proofs.Ytlomlcljjidfjaa
