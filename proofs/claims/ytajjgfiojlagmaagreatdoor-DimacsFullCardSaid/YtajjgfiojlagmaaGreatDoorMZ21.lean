/- Texts of this claim, joined: D8, DVl, D9, D10. -/
import Derived.Test.YtajjgfiojlagmaaGreatDoorMZ20
import Derived.Deep.DeepCutAuto
import Derived.Laws.BitsAllLaws
import Derived.Test.YtajjgfiojlagmaaGreatDoorMZ18

/- The reader's shown variables. -/
namespace Go.Proofs.YtajjgfiojlagmaaGreatDoor
open Go.RowKit

theorem Tryz.infoIntD : (Tryz.prog.info? 3).map (fun i => (i.zero, i.size, i.bytes)) = some (some (.int .i64 0), 1, 8) := by kernel_rfl
theorem numZ_in (x : List UInt8) : 0 ≤ numZ x ∧ numZ x < 100000 := by
  unfold numZ
  cases hn : numD x with
  | none => simp
  | some n => have := numD_lt hn; simp; omega
def partI (xs : List Int) (k : Nat) : Array Value := (ints (xs.take k ++ List.replicate (xs.length - k) 0)).toArray
theorem partI_all (xs : List Int) : partI xs xs.length = (ints xs).toArray := by simp [partI]
theorem partI_get {xs : List Int} {k : Nat} (h : k < xs.length) : (partI xs k)[k]? = some (.int .i64 0) := by
  unfold partI
  rw [List.getElem?_toArray]
  refine ints_get _ _ _ ?_
  rw [List.getElem?_append_right (by rw [List.length_take]; omega), List.length_take, Nat.min_eq_left (by omega), Nat.sub_self, List.getElem?_replicate, if_pos (by omega)]
theorem partI_set {xs : List Int} {k : Nat} (h : k < xs.length) : (partI xs k).setIfInBounds k (.int .i64 (xs.getD k 0)) = partI xs (k + 1) := by
  unfold partI
  rw [List.setIfInBounds_toArray, ints_set]
  congr 2
  apply List.ext_getElem?
  intro i
  have hk : (xs.take k).length = k := by simp; omega
  rw [List.getElem?_set]
  by_cases hik : k = i
  · subst hik
    rw [if_pos rfl, if_pos (by simp; omega), List.getElem?_append_left (by simp; omega), List.getElem?_take, if_pos (by omega)]
    simp [List.getD, h]
  · rw [if_neg hik]
    by_cases hi : i < k
    · rw [List.getElem?_append_left (by omega), List.getElem?_append_left (by simp; omega), List.getElem?_take, List.getElem?_take, if_pos hi, if_pos (by omega)]
    · rw [List.getElem?_append_right (by omega), List.getElem?_append_right (by simp; omega), List.getElem?_replicate, List.getElem?_replicate]
      simp only [List.length_take]
      by_cases h2 : i - min k xs.length < xs.length - k
      · rw [if_pos h2, if_pos (by omega)]
      · rw [if_neg h2, if_neg (by omega)]
theorem makeI (xs : List Int) (hn : xs.length ≤ 1100001) (x : World) : (Instr.makeSlice 25 (.int .i64 (xs.length : Int)) (.int .i64 (xs.length : Int))).run Tryz.prog x = .ok (.slice (some ⟨x.heap.size, 0, none⟩) xs.length xs.length) (x.alloc (.cells (partI xs 0) 3)) := by
  obtain ⟨i0, ii, iz0, iz1, iz2⟩ := info_parts Tryz.infoIntD
  have h := run_makeSlice (P := Tryz.prog) (w := x) 25 3 i0 _ Tryz.underlying25 ii iz0 .i64 .i64 xs.length xs.length (by omega) (by omega) (by rw [iz1]; omega) (by rw [iz2]; omega) (by omega)
  rw [iz1] at h
  have e : madeCells (Value.int .i64 0).cells ((xs.length : Int).toNat * 1) = partI xs 0 := by
    apply Array.toList_inj.1
    unfold partI
    have := ints_zeros xs.length
    rw [show (Value.int .i64 0).cells = #[Value.int .i64 0] from rfl]
    simpa using this
  rw [e] at h
  simpa using h
theorem showGo_cons (st : DS) (v : Int) (l : List Int) : showGo st (v :: l) = if v ∈ st.sh then (st, 4) else if st.n < v then (st, 6) else showGo { st with sh := st.sh ++ [v] } l := rfl

set_option maxHeartbeats 3200000 in
set_option maxRecDepth 100000 in
theorem gShow (w : World) (br ms mh b : Nat) (st : DS) (v : DV) (h : Rdr w br ms mh b st v) (r : List (List UInt8)) (hl : ∀ x ∈ r, x.length ≤ 1100000) (hr : r.length ≤ 1100001) (hsl : st.sh.length ≤ 10000000) (a : Option Addr) (c : Nat) (hA : AtN w.heap.size w a (strs r)) :
    Calls Tryz.prog 66 #[.pointer (some ⟨br, 0, none⟩), .slice a r.length c] w (RdPost w br ms mh b v (showD st r)) := by
  obtain ⟨R, hR⟩ : ∃ R : DS × Int, R = showD st r := ⟨_, rfl⟩
  rw [← hR]
  obtain ⟨Post, hPost⟩ : ∃ P : Ending → World → Prop, P = RdPost w br ms mh b v R := ⟨_, rfl⟩
  rw [← hPost]
  have HP := Lib.hid hPost
  have H := Lib.hid h
  have HA := Lib.hid hA
  have HLN := Lib.hid hl
  obtain ⟨nums, hnums⟩ : ∃ l, l = r.map numZ := ⟨_, rfl⟩
  have HNU := Lib.hid hnums
  have HR := Lib.hid (show R = if nums.contains 0 then (st, 5) else showGo st nums by rw [hR, hnums]; rfl)
  have hlen : nums.length = r.length := by rw [hnums]; simp
  have HLE := Lib.hid hlen
  have hnl : nums.length ≤ 1100001 := by omega
  rw [← hlen]
  obtain ⟨i0, ii, iz0, iz1, iz2⟩ := info_parts Tryz.infoIntD
  have II := Lib.hid ii
  have IZ0 := Lib.hid iz0
  have IZ1 := Lib.hid iz1
  have IZ2 := Lib.hid iz2
  have hbw0 := h.bw
  clear hPost h hA hl hnums hR hlen hr ii iz0 iz1 iz2
  go_enter Tryz.func66, Tryz.ntmps66
  have hmk := makeI nums hnl w
  go_upto_region 3 with fail
  refine wp_gen ?_
  intro w1 hw1
  have M1 := Lib.hid (show w1.heap[w.heap.size]? = some (.cells (partI nums 0) 3 (0, 0)) by rw [hw1]; exact new_one _ _)
  have HB1 := Lib.hid (show Below w.heap.size w w1 by rw [hw1]; exact below_one _ _)
  clear hw1 hmk
  go_loopw [16] (fun t16 wr => ∃ k : Nat, k ≤ nums.length ∧ t16 = .int .i64 k ∧ Hid (∀ x ∈ nums.take k, x ≠ 0) ∧ Hid (wr.heap[w.heap.size]? = some (.cells (partI nums k) 3 (0, 0))) ∧ Hid (Below w.heap.size w wr)) (fun t16 _ => nums.length - (intOf t16).toNat)
  case atStart => exact ⟨0, Nat.zero_le _, rfl, by simp [Hid], M1, HB1⟩
  case round =>
    obtain ⟨k, hk, rfl, HZ, M, HB⟩ := hrel
    by_cases hlt : k < nums.length
    · have hdd : decide (k < nums.length) = true := decide_eq_true hlt
      have hkr : k < r.length := by have := HLE.out; omega
      have hrk : r[k]? = some (r.getD k []) := by simp [List.getD, hkr]
      obtain ⟨b1, o1, hb1, e1, k1⟩ := HA.out k _ (strs_get r k _ hrk)
      cases e1
      have c1 := below_cell HB.out hb1 k1
      have hxk := HLN.out _ (List.mem_of_getElem? hrk)
      have KN := gNumber (r.getD k []) hxk
      have hnk : nums.getD k 0 = numZ (r.getD k []) := by
        rw [HNU.out, List.getD_eq_getElem?_getD, List.getElem?_map, hrk]; rfl
      have hz : numZ (r.getD k []) = 0 ∨ (numD (r.getD k [])).isSome = true := by
        cases hn : numD (r.getD k []) with
        | none => left; unfold numZ; rw [hn]; rfl
        | some n => right; rfl
      have hin := numZ_in (r.getD k [])
      have HM := Lib.hid (show nums.getD k 0 ∈ nums by simp [List.getD, hlt])
      have HTK := Lib.hid (show nums.take (k + 1) = nums.take k ++ [nums.getD k 0] by rw [List.take_add_one, List.getElem?_eq_getElem hlt]; simp [List.getD, hlt])
      have HST := Lib.hid (partI_set hlt)
      have HGK := Lib.hid (partI_get hlt)
      rw [hnk] at HM HTK HST
      generalize (⟨(r.getD k []).toArray⟩ : ByteArray) = y at *
      generalize numZ (r.getD k []) = z at *
      generalize (numD (r.getD k [])).isSome = ok at *
      clear k1 hrk hxk hnk
      go_wp2_with fail
      refine (KN _).mono ?_
      rintro e w2 ⟨rfl, hB⟩
      have HB2 := Lib.hid (HB.out.trans (hB.mono HB.out.size))
      have M2 := Lib.hid ((behind_of_below hB).keep M.out (by simp))
      clear hB KN c1
      by_cases hz0 : z = 0
      · have HF := Lib.hid (HR.out.trans (if_pos (by rw [List.contains_iff_mem, ← hz0]; exact HM.out)))
        subst hz0
        cases ok <;>
          (go_wp2_with fail
           rw [HP.out, HF.out]
           exact RdPost.err HB2.out (by simp))
      · obtain rfl : ok = true := by simpa [hz0] using hz
        have hzz : (z == 0) = false := beq_no hz0
        have m1 := blk_cell M2.out k HGK.out
        have m2 := blk_free M2.out k
        go_wp2_with fail
        go_roundw
        case rel => exact ⟨k + 1, by omega, by go_num, fun x hx => by
          rw [HTK.out] at hx
          rcases List.mem_append.1 hx with hx | hx
          · exact HZ.out x hx
          · rw [List.mem_singleton.1 hx]; exact hz0, by rw [← HST.out]; exact heap_setCell_same _ _ k _ _ _ M2.out, HB2.out.setCell (Nat.le_refl _) _⟩
        case measure => simp [intOf]; omega
    · obtain rfl : k = nums.length := by omega
      have hdd : decide (nums.length < nums.length) = false := by simp
      have HF := Lib.hid (HR.out.trans (if_neg (by
        rw [List.contains_iff_mem]
        intro h0
        have := HZ.out 0 (by rw [List.take_length]; exact h0)
        exact this rfl)))
      have M3 := Lib.hid (show wr.heap[w.heap.size]? = some (.cells (ints nums).toArray 3 (0, 0)) by rw [← partI_all]; exact M.out)
      have HI := Lib.hid (show ∀ x ∈ nums, 0 ≤ x ∧ x < 100000 from fun x hx => by
        rw [HNU.out] at hx
        obtain ⟨u, _, rfl⟩ := List.mem_map.1 hx
        exact numZ_in u)
      have hH3 := H.out.keepB HB.out
      have HS3 := Lib.hid hH3
      obtain ⟨w3, hw3⟩ : ∃ w3, w3 = wr := ⟨_, rfl⟩
      subst hw3
      have hw3h : w.heap.size < w3.heap.size := lt_of_heap M3.out
      clear HR HZ M hH3 M1 HB1 HA HLN HNU hk hlt
      go_wp2_with fail
      go_loopw [40] (fun t40 wr => ∃ (j : Nat) (s1 : DS) (v1 : DV), j ≤ nums.length ∧ t40 = .int .i64 j ∧ s1.sh.length ≤ 10000000 + j ∧ Hid (showGo st nums = showGo s1 (nums.drop j)) ∧ Hid (Rdr wr br ms mh b s1 v1) ∧ Hid (∀ g ∈ v1.M, g ∈ v.M ∨ w3.heap.size ≤ g) ∧ Hid (wr.heap[w.heap.size]? = some (.cells (ints nums).toArray 3 (0, 0))) ∧ Hid (Behind w (br :: ms :: mh :: v.M) wr) ∧ Hid (w3.heap.size ≤ wr.heap.size)) (fun t40 _ => nums.length - (intOf t40).toNat)
      case atStart => exact ⟨0, st, v, Nat.zero_le _, rfl, by omega, rfl, HS3, fun g hg => .inl hg, M3, (behind_of_below HB.out).mono (by simp), Nat.le_refl _⟩
      case round =>
        obtain ⟨j, s1, v1, hj, rfl, hsh, HG, HS, HV, M, HBh, HSZ⟩ := hrel
        by_cases hlt : j < nums.length
        · have hdd : decide (j < nums.length) = true := decide_eq_true hlt
          have hxx : nums[j]? = some (nums.getD j 0) := by simp [List.getD, hlt]
          have hin := HI.out _ (List.mem_of_getElem? hxx)
          have hdr : nums.drop j = nums.getD j 0 :: nums.drop (j + 1) := by
            rw [List.drop_eq_getElem_cons hlt]; simp [List.getD, hlt]
          have HG2 := Lib.hid (show R = if nums.getD j 0 ∈ s1.sh then (s1, 4) else if s1.n < nums.getD j 0 then (s1, 6) else showGo { s1 with sh := s1.sh ++ [nums.getD j 0] } (nums.drop (j + 1)) by rw [HF.out, HG.out, hdr, showGo_cons])
          have cx := blk_cell M.out j (by rw [List.getElem?_toArray]; exact ints_get _ _ _ hxx)
          generalize nums.getD j 0 = x at *
          have c8 := blk_cell HS.out.blk 8 rfl
          have c0 := blk_cell HS.out.blk 0 rfl
          have hrg := HS.out.rng
          have hx64 : -9223372036854775808 ≤ x ∧ x ≤ 9223372036854775807 := by omega
          clear hxx hdr
          by_cases hm : x ∈ s1.sh
          · have HF2 := Lib.hid (HG2.out.trans (if_pos hm))
            have hd := decide_eq_true hm
            have HL := Lib.hid (set_look HS.out.s1 x hx64)
            rw [hd] at HL
            clear hm hd HG2
            go_wp2_with (at_lookup; refine wpList_look_run _ rfl _ _ _ rfl _ _ _ rfl rfl HL.out ?_)
            go_wp2_with fail
            rw [HP.out, HF2.out]
            exact ⟨rfl, HBh.out, fun h => absurd h (by simp)⟩
          have HL := Lib.hid (set_look HS.out.s1 x hx64)
          rw [decide_eq_false hm] at HL
          by_cases hN : s1.n < x
          · have HF2 := Lib.hid (HG2.out.trans ((if_neg hm).trans (if_pos hN)))
            have hd : decide (s1.n < x) = true := decide_eq_true hN
            clear hm HG2
            go_wp2_with (at_lookup; refine wpList_look_run _ rfl _ _ _ rfl _ _ _ rfl rfl HL.out ?_)
            go_wp2_with fail
            rw [HP.out, HF2.out]
            exact ⟨rfl, HBh.out, fun h => absurd h (by simp)⟩
          have HF2 := Lib.hid (HG2.out.trans ((if_neg hm).trans (if_neg hN)))
          have hd : decide (s1.n < x) = false := decide_eq_false hN
          obtain ⟨wm, hrun, hset, hbm⟩ := set_put HS.out.s1 x hx64 hm
          have HRN := Lib.hid hrun
          have HST := Lib.hid hset
          have HBM := Lib.hid hbm
          have hord := HS.out.ord
          have hbw := HS.out.bw
          have HRW := Lib.hid (HS.out.rows.keep hbm (fun g hg => by simp at hg; omega))
          have hbk := hbm.keep HS.out.blk (by simp; omega)
          have HBK := Lib.hid hbk
          have m8 := blk_cell hbk 2 rfl
          have hwm := hbm.size
          clear hm hrun hset hbm hbk HG2
          go_wp2_with (first | (at_lookup; refine wpList_look_run _ rfl _ _ _ rfl _ _ _ rfl rfl HL.out ?_) | (at_mapUpdate; refine wpList_put_run _ wm rfl _ _ _ _ rfl _ _ _ rfl rfl rfl HRN.out ?_) | (at_builtin; refine wpList_append_row _ rfl _ _ 25 rfl 3 i0 (.int .i64 0) 1 8 Tryz.underlying25 II.out IZ0.out IZ1.out IZ2.out rfl _ _ _ rfl (HRW.out.rS.keep (behind_of_below ((Below.refl _ _).alloc (Nat.le_refl _) _)) (by simp)) wm.heap.size 1 1 [.int .i64 x] 3 rfl (heap_alloc_new wm _) rfl (by intro u hu; simp at hu; subst hu; rfl) (by omega) (by unfold maxLen; omega) (by omega) ?_))
          intro v9 w9 hr9 hB9 hn9
          have h09 : Behind wm (rowBlk v1.S) w9 := ((behind_of_below ((Below.refl _ _).alloc (Nat.le_refl _) _)).mono (by simp)).trans hB9 (fun k hk => .inl hk)
          have hn9' : ∀ g ∈ rowBlk v9, g ∈ rowBlk v1.S ∨ wm.heap.size ≤ g := fun g hg => (hn9 g hg).imp id (fun h => by first | omega | (simp at h; omega))
          have hR9 := HRW.out.appS (x := x) (by omega) h09 hr9 hn9'
          have hin9 : ∀ g ∈ rowBlk v1.S, g ∈ v1.M := fun g hg => DV.mem.2 (.inr (.inl hg))
          have hge9 : ∀ g ∈ rowBlk v1.S, b ≤ g := fun g hg => HS.out.rows.ge g (hin9 g hg)
          have hk9 := h09.keep HBK.out (fun hg => by have := hge9 br hg; omega)
          have p2 := blk_cell hk9 2 rfl
          have f2 := blk_free hk9 2
          obtain ⟨p9, c9, hv9⟩ := hr9.slice
          subst hv9
          have hS3 := (HST.out.keep h09 (fun hg => by have := hge9 ms hg; omega))
          have hS4 := ((HS.out.s2.keep HBM.out (by simp; omega)).keep h09 (fun hg => by have := hge9 mh hg; omega))
          have hwm3 : w3.heap.size ≤ wm.heap.size := Nat.le_trans HSZ.out hwm
          have hM9 := (HBM.out.keep M.out (by simp; omega))
          have hM10 := h09.keep hM9 (fun hg => (HV.out _ (hin9 _ hg)).elim (fun e => by have := H.out.rows.lt _ e; omega) (fun e => by omega))
          have hB10 := (HBh.out.trans HBM.out (fun g hg => .inl (by simp at hg; simp [hg]))).trans h09 (fun g hg => (HV.out g (hin9 g hg)).elim (fun e => .inl (by simp [e])) (fun e => .inr (by have := HB.out.size; omega)))
          have HX := Lib.hid (And.intro hR9 (And.intro hk9 (And.intro hS3 (And.intro hS4 (And.intro hM10 (And.intro hB10 (And.intro hn9' h09.size)))))))
          clear hr9 hB9 hn9 h09 hR9 hk9 hS3 hS4 hM9 hM10 hB10 hn9' hin9 hge9
          go_wp2_with fail
          go_roundw
          case rel =>
            obtain ⟨hR9, hk9, hS3, hS4, hM10, hB10, hn9, hsz9⟩ := HX.out
            refine ⟨j + 1, { s1 with sh := s1.sh ++ [x] }, { v1 with S := .slice p9 (s1.sh.length + 1) c9 }, by omega, by go_num, by simp; omega, HF.out.symm.trans HF2.out, ⟨heap_setCell_same _ br 2 _ _ _ hk9, hS3.keep behind_set (by simp; omega), hS4.keep behind_set (by simp; omega), hR9.keep behind_set (fun g hg => by simp at hg; omega), hord, by simp [World.setCell]; omega, hrg⟩, fun g hg => ?_, (heap_setCell_other _ _ _ _ (by show w.heap.size ≠ br; omega)).trans hM10, hB10.trans behind_set (fun g hg => .inl (by simp at hg; simp [hg])), ?_⟩
            · rcases DV.mem.1 hg with hg | hg | hg | hg
              · exact HV.out g (DV.mem.2 (.inl hg))
              · exact (hn9 g hg).elim (fun e => HV.out g (DV.mem.2 (.inr (.inl e)))) (fun e => .inr (by omega))
              · exact HV.out g (DV.mem.2 (.inr (.inr (.inl hg))))
              · exact HV.out g (DV.mem.2 (.inr (.inr (.inr hg))))
            · show w3.heap.size ≤ (w9.setCell _ _).heap.size
              simp [World.setCell]; omega
          case measure => simp [intOf]; omega
        · obtain rfl : j = nums.length := by omega
          have hdd : decide (nums.length < nums.length) = false := by simp
          have HF2 := Lib.hid (show R = (s1, 0) by rw [HF.out, HG.out, List.drop_length]; rfl)
          go_wp2_with fail
          rw [HP.out, HF2.out]
          exact ⟨rfl, HBh.out, fun _ => ⟨v1, HS.out, fun g hg => (HV.out g hg).imp id (fun h => by have := HB.out.size; omega)⟩⟩
end Go.Proofs.YtajjgfiojlagmaaGreatDoor

/- Which literals are literals of n variables. -/
namespace Go.Proofs.YtajjgfiojlagmaaGreatDoor
open Go.RowKit

theorem validD_iff {l n : Int} : validD l n = true ↔ l ≠ 0 ∧ -n ≤ l ∧ l ≤ n := by simp [validD]
def varI (l : Int) : Int := if 1 ≤ l ∧ l ≤ 128 then l else if l ≤ -1 ∧ -128 ≤ l then -l else 0

set_option maxHeartbeats 1600000 in
set_option maxRecDepth 100000 in
theorem gVar (l : Int) : Gives 54 #[.int .i64 l] (.int .i64 (varI l)) := by
  intro w
  by_cases h1 : 1 ≤ l
  · by_cases h2 : l ≤ 128
    · have HQ := Lib.hid (show varI l = l from if_pos ⟨h1, h2⟩)
      go_enter Tryz.func54, Tryz.ntmps54
      go_wp2_with fail
      go_ret
      exact ⟨by rw [HQ.out]; rfl, Below.refl _ _⟩
    · have HQ := Lib.hid (show varI l = 0 by unfold varI; rw [if_neg (by omega), if_neg (by omega)])
      have h3 : ¬ l ≤ -1 := by omega
      go_enter Tryz.func54, Tryz.ntmps54
      go_wp2_with fail
      go_ret
      exact ⟨by rw [HQ.out]; rfl, Below.refl _ _⟩
  · by_cases h2 : l ≤ -1
    · by_cases h3 : -128 ≤ l
      · have HQ := Lib.hid (show varI l = -l by unfold varI; rw [if_neg (by omega), if_pos ⟨h2, h3⟩])
        go_enter Tryz.func54, Tryz.ntmps54
        go_wp2_with fail
        go_ret
        exact ⟨by rw [HQ.out]; rfl, Below.refl _ _⟩
      · have HQ := Lib.hid (show varI l = 0 by unfold varI; rw [if_neg (by omega), if_neg (by omega)])
        go_enter Tryz.func54, Tryz.ntmps54
        go_wp2_with fail
        go_ret
        exact ⟨by rw [HQ.out]; rfl, Below.refl _ _⟩
    · have HQ := Lib.hid (show varI l = 0 by unfold varI; rw [if_neg (by omega), if_neg (by omega)])
      go_enter Tryz.func54, Tryz.ntmps54
      go_wp2_with fail
      go_ret
      exact ⟨by rw [HQ.out]; rfl, Below.refl _ _⟩

set_option maxHeartbeats 1600000 in
set_option maxRecDepth 100000 in
theorem gValid (l n : Int) (hn : n ≤ 128) : Gives 30 #[.int .i64 l, .int .i64 n] (.bool (validD l n)) := by
  intro w
  have KV := gVar l
  by_cases h0 : varI l = 0
  · have HQ := Lib.hid (show validD l n = false by
      rw [Bool.eq_false_iff]; intro h
      rw [validD_iff] at h
      unfold varI at h0
      split at h0
      · omega
      · split at h0 <;> omega)
    rw [h0] at KV
    clear h0
    go_enter Tryz.func30, Tryz.ntmps30
    go_wp2_with fail
    refine (KV _).mono ?_
    rintro r1 w1 ⟨rfl, hB1⟩
    have HB1 := Lib.hid hB1
    clear hB1
    go_wp2_with fail
    go_ret
    exact ⟨by rw [HQ.out]; rfl, HB1.out⟩
  · have HQ := Lib.hid (show validD l n = decide (varI l ≤ n) by
      rw [Bool.eq_iff_iff, validD_iff, decide_eq_true_eq]
      unfold varI at h0 ⊢
      split at h0
      · omega
      · split at h0 <;> omega)
    generalize varI l = v at *
    have hv : (v != 0) = true := by simp [bne, beq_no h0]
    clear h0
    go_enter Tryz.func30, Tryz.ntmps30
    go_wp2_with fail
    refine (KV _).mono ?_
    rintro r1 w1 ⟨rfl, hB1⟩
    have HB1 := Lib.hid hB1
    clear hB1
    go_wp2_with fail
    refine (KV _).mono ?_
    rintro r2 w2 ⟨rfl, hB2⟩
    have HB2 := Lib.hid (HB1.out.trans (hB2.mono HB1.out.size))
    clear hB2
    go_wp2_with fail
    go_ret
    exact ⟨by rw [HQ.out]; rfl, HB2.out⟩


set_option maxHeartbeats 1600000 in
set_option maxRecDepth 100000 in
theorem xValid (l n : Int) (h0 : 0 ≤ n) (hn : n ≤ 128) : Gives 35 #[.int .i64 l, .int .i64 n] (.bool (validD l n)) := by
  intro w
  have HQ := Lib.hid (show validD l n = (decide (l ≠ 0) && (decide (-n ≤ l) && decide (l ≤ n))) from rfl)
  by_cases h1 : l = 0
  · have hb : (l != 0) = false := by simp [h1]
    have HV := Lib.hid (show validD l n = false by rw [HQ.out, decide_eq_false (by omega)]; rfl)
    clear h1
    go_enter Tryz.func35, Tryz.ntmps35
    go_wp2_with fail
    go_ret
    exact ⟨by rw [HV.out]; rfl, Below.refl _ _⟩
  have hb : (l != 0) = true := by simp [bne, beq_no h1]
  by_cases h2 : -n ≤ l
  · have d2 : decide (-n ≤ l) = true := decide_eq_true h2
    by_cases h3 : l ≤ n
    · have d3 : decide (l ≤ n) = true := decide_eq_true h3
      have HV := Lib.hid (show validD l n = true by rw [HQ.out, decide_eq_true h1, d2, d3]; rfl)
      go_enter Tryz.func35, Tryz.ntmps35
      go_wp2_with fail
      go_ret
      exact ⟨by rw [HV.out]; rfl, Below.refl _ _⟩
    · have d3 : decide (l ≤ n) = false := decide_eq_false h3
      have HV := Lib.hid (show validD l n = false by rw [HQ.out, decide_eq_true h1, d2, d3]; rfl)
      go_enter Tryz.func35, Tryz.ntmps35
      go_wp2_with fail
      go_ret
      exact ⟨by rw [HV.out]; rfl, Below.refl _ _⟩
  · have d2 : decide (-n ≤ l) = false := decide_eq_false h2
    have HV := Lib.hid (show validD l n = false by rw [HQ.out, decide_eq_true h1, d2]; rfl)
    go_enter Tryz.func35, Tryz.ntmps35
    go_wp2_with fail
    go_ret
    exact ⟨by rw [HV.out]; rfl, Below.refl _ _⟩
end Go.Proofs.YtajjgfiojlagmaaGreatDoor

/- The reader's weight. -/
namespace Go.Proofs.YtajjgfiojlagmaaGreatDoor
open Go.RowKit Num

def rdD (x : List UInt8) : Bool := (ratRead ⟨x.toArray⟩).isSome
theorem Tryz.infoWt : (Tryz.prog.info? 48).map (fun i => (i.zero, i.size, i.bytes)) = some (some (.agg #[.int .i64 0, .string ⟨#[]⟩]), 2, 24) := by kernel_rfl
def Apart (b : Nat) (v : DV) (a : Option Addr) : Prop := ∀ g o x, a = some ⟨g, o, x⟩ → b ≤ g ∧ g ∉ v.M

set_option maxHeartbeats 3200000 in
set_option maxRecDepth 100000 in
theorem gWeight (w : World) (br ms mh b : Nat) (st : DS) (v : DV) (h : Rdr w br ms mh b st v) (r : List (List UInt8)) (hl : ∀ x ∈ r, x.length ≤ 1100000) (hr : r.length ≤ 1100001) (hsl : st.ws.length ≤ 10000000) (a : Option Addr) (c : Nat) (hA : AtN w.heap.size w a (strs r)) (hap : Apart b v a) (hM0 : ∃ m, w.cell? ⟨1, 0, none⟩ = some (.int .i64 m)) :
    Calls Tryz.prog 67 #[.pointer (some ⟨br, 0, none⟩), .slice a r.length c] w (RdPost w br ms mh b v (weightD rdD st r)) := by
  obtain ⟨i0, ii, iz0, iz1, iz2⟩ := info_parts Tryz.infoWt
  have II := Lib.hid ii
  have IZ0 := Lib.hid iz0
  have IZ1 := Lib.hid iz1
  have IZ2 := Lib.hid iz2
  clear ii iz0 iz1 iz2
  obtain ⟨R, hR⟩ : ∃ R : DS × Int, R = weightD rdD st r := ⟨_, rfl⟩
  rw [← hR]
  obtain ⟨Post, hPost⟩ : ∃ P : Ending → World → Prop, P = RdPost w br ms mh b v R := ⟨_, rfl⟩
  rw [← hPost]
  have HP := Lib.hid hPost
  clear hPost
  have H := Lib.hid h
  have HBr := Lib.hid h.blk
  have hbr : br < w.heap.size := lt_of_heap h.blk
  clear h
  by_cases h2 : r.length = 2
  case neg =>
    have HR := Lib.hid (show R = (st, 5) by rw [hR]; unfold weightD; rw [if_pos h2])
    have hq : ((r.length : Int) != 2) = true := by simp [bne, beq_no (show (r.length : Int) ≠ 2 by omega)]
    clear hR hA hl h2
    go_enter Tryz.func67, Tryz.ntmps67
    go_wp2_with fail
    rw [HP.out, HR.out]
    exact RdPost.err (Below.refl _ _) (by simp)
  obtain ⟨x0, x1, rfl⟩ : ∃ x0 x1, r = [x0, x1] := by
    match r, h2 with
    | [x0, x1], _ => exact ⟨_, _, rfl⟩
  obtain ⟨b0, o0, hb0, rfl, k0⟩ := hA 0 _ (strs_get [x0, x1] 0 x0 rfl)
  rw [Nat.add_zero] at k0
  obtain ⟨b1, o1, hb1, e1, k1⟩ := hA 1 _ (strs_get [x0, x1] 1 x1 rfl)
  cases e1
  obtain ⟨hbb, hbM⟩ := hap _ _ _ rfl
  have HBM := Lib.hid hbM
  have K1 := Lib.hid k1
  have hx0 := hl x0 (by simp)
  have hx1 := hl x1 (by simp)
  have N1 := gLiteral x0 hx0
  have N2 := gRatRead w ⟨x1.toArray⟩ (by rw [ba_size]; exact hx1) hM0
  have HR := Lib.hid (show R = if litD x0 = 0 ∨ rdD x1 = false then (st, 5) else if litD x0 ∈ st.ws.map (·.1) then (st, 4) else if validD (litD x0) st.n = false then (st, 6) else ({ st with ws := st.ws ++ [(litD x0, x1)] }, 0) by rw [hR]; unfold weightD; rw [if_neg (by simp)]; rfl)
  have hin := litD_in x0
  have HOK := Lib.hid (show (ratRead ⟨x1.toArray⟩).isSome = rdD x1 from rfl)
  unfold ratV at N2
  rw [HOK.out] at N2
  generalize litD x0 = l at *
  generalize rdD x1 = ok at *
  generalize ((ratRead ⟨x1.toArray⟩).getD (0, 0)) = q at *
  generalize (⟨x0.toArray⟩ : ByteArray) = y0 at *
  obtain ⟨y1, hy1⟩ : ∃ y1 : ByteArray, y1 = ⟨x1.toArray⟩ := ⟨_, rfl⟩
  rw [← hy1] at N2 K1
  have HY1 := Lib.hid hy1
  obtain ⟨lb, hlb⟩ : ∃ lb, lb = decide (l ≠ 0) := ⟨_, rfl⟩
  rw [← hlb] at N1
  have HLB := Lib.hid hlb
  generalize nb q.1 = q1 at *
  generalize nb q.2 = q2 at *
  clear hA hl hr h2 hR k1 hM0 hap hbM HOK hy1 hlb
  go_enter Tryz.func67, Tryz.ntmps67
  go_wp2_with fail
  refine (N1 w).mono ?_
  rintro e w1 ⟨rfl, hB⟩
  have HB1 := Lib.hid hB
  have k1 := below_cell hB hb1 K1.out
  clear hB N1 k0
  go_wp2_with fail
  refine (N2 w1 HB1.out).mono ?_
  rintro e w2 ⟨rfl, hB⟩
  have HB2 := Lib.hid (HB1.out.trans (hB.mono HB1.out.size))
  clear hB N2 k1 HB1
  go_upto_region 5 with fail
  refine wp_gen ?_
  intro w3 hw3
  have HB3 := Lib.hid (show Below w.heap.size w w3 by rw [hw3]; exact HB2.out.trans ((below_one w2 _).mono HB2.out.size))
  clear hw3
  by_cases hbad : l = 0 ∨ ok = false
  · have HF := Lib.hid (HR.out.trans (if_pos hbad))
    by_cases hl0 : l = 0
    · have hd : lb = false := HLB.out.trans (decide_eq_false (by simpa using hl0))
      subst hd
      clear hbad hl0 HR
      go_wp2_with fail
      rw [HP.out, HF.out]
      exact RdPost.err HB3.out (by simp)
    · have hd : lb = true := HLB.out.trans (decide_eq_true hl0)
      have hok : ok = false := by simpa [hl0] using hbad
      subst hok
      subst hd
      clear hbad HR
      go_wp2_with fail
      rw [HP.out, HF.out]
      exact RdPost.err HB3.out (by simp)
  obtain ⟨hl0, hok⟩ : l ≠ 0 ∧ ok = true := by simpa using hbad
  subst hok
  have hd : lb = true := HLB.out.trans (decide_eq_true hl0)
  subst hd
  have hS := H.out.keepB HB3.out
  have HS := Lib.hid hS
  have HG2 := Lib.hid (HR.out.trans (if_neg hbad))
  have c9 := blk_cell hS.blk 9 rfl
  have c0 := blk_cell hS.blk 0 rfl
  have hrg := hS.rng
  have hx64 : -9223372036854775808 ≤ l ∧ l ≤ 9223372036854775807 := by omega
  clear hS HR hbad
  by_cases hm : l ∈ st.ws.map (·.1)
  · have HF2 := Lib.hid (HG2.out.trans (if_pos hm))
    have HL := Lib.hid (set_look HS.out.s2 l hx64)
    rw [decide_eq_true hm] at HL
    clear hm HG2
    go_wp2_with (at_lookup; refine wpList_look_run _ rfl _ _ _ rfl _ _ _ rfl rfl HL.out ?_)
    go_wp2_with fail
    rw [HP.out, HF2.out]
    exact RdPost.err HB3.out (by simp)
  have HL := Lib.hid (set_look HS.out.s2 l hx64)
  rw [decide_eq_false hm] at HL
  have KV := gValid l st.n hrg.2
  cases hv : validD l st.n with
  | false =>
    have HF2 := Lib.hid (HG2.out.trans ((if_neg hm).trans (if_pos hv)))
    rw [hv] at KV
    clear hm HG2 hv
    go_wp2_with (at_lookup; refine wpList_look_run _ rfl _ _ _ rfl _ _ _ rfl rfl HL.out ?_)
    go_wp2_with fail
    refine (KV _).mono ?_
    rintro e w4 ⟨rfl, hB⟩
    have HB4 := Lib.hid (HB3.out.trans (hB.mono HB3.out.size))
    clear hB KV
    go_wp2_with fail
    rw [HP.out, HF2.out]
    exact RdPost.err HB4.out (by simp)
  | true =>
  have HF2 := Lib.hid (HG2.out.trans ((if_neg hm).trans (if_neg (by rw [hv]; simp))))
  rw [hv] at KV
  go_wp2_with (at_lookup; refine wpList_look_run _ rfl _ _ _ rfl _ _ _ rfl rfl HL.out ?_)
  go_wp2_with fail
  refine (KV _).mono ?_
  rintro e w4 ⟨rfl, hB⟩
  have HB4 := Lib.hid (HB3.out.trans (hB.mono HB3.out.size))
  have hS4 := HS.out.keepB hB
  have HS4 := Lib.hid hS4
  have c9' := blk_cell hS4.blk 9 rfl
  obtain ⟨wm, hrun, hset, hbm⟩ := set_put hS4.s2 l hx64 hm
  have HRN := Lib.hid hrun
  have HST := Lib.hid hset
  have HBm := Lib.hid hbm
  have hord := hS4.ord
  have hbw := hS4.bw
  have hwm := hbm.size
  have HRW := Lib.hid (hS4.rows.keep hbm (fun g hg => by simp at hg; omega))
  have HBK := Lib.hid (hbm.keep hS4.blk (by simp; omega))
  have K1m := Lib.hid ((World.cell?_of_block (a := ⟨b0, o0 + 1, none⟩) (hbm.block b0 (by have := HB4.out.size; omega) (by simp; omega))).trans (below_cell HB4.out hb1 K1.out))
  clear hB KV hm hv hS4 hrun hset hbm c9 c0 HG2 HL
  go_wp2_with (at_mapUpdate; refine wpList_put_run _ wm rfl _ _ _ _ rfl _ _ _ rfl rfl rfl HRN.out ?_)
  go_frame
  obtain ⟨kF1, hkF1⟩ : ∃ kF1, kF1 = kA v.W st.ws.length 1 := ⟨_, rfl⟩
  have hkF1' : kF1 = 2 ∨ kF1 = 5 := by rw [hkF1]; exact kA_or _ _ _
  have HK1 := Lib.hid hkF1
  clear hkF1
  have hWM : ∀ g ∈ rowBlk v.W, g ∈ v.M := fun g hg => DV.mem.2 (.inr (.inr (.inl hg)))
  have HWG := Lib.hid (show ∀ g ∈ rowBlk v.W, b ≤ g from fun g hg => HRW.out.ge g (hWM g hg))
  have HLT1 := Lib.hid HRW.out.rW.lt
  have HnS := Lib.hid (show br ∉ rowBlk v.W from fun hg => by have := HWG.out br hg; omega)
  have HnW := Lib.hid (show b0 ∉ rowBlk v.W from fun hg => HBM.out (hWM _ hg))
  have hb0m : b0 < wm.heap.size := by have := HB4.out.size; omega
  refine wp_game_tail 16 [0, 0, 0, 0, 0, 0, 0, 0, 0, 0, 0, 3, kF1, 0, 0, 0, 0] (rowBlk v.W) (rowB wm v.W) (fin_rowB _ _) (has_rowB _ _) (by kernel_rfl) (by rcases hkF1' with h | h <;> rw [h] <;> kernel_rfl) ?_
  simp only [List.take_succ_cons, List.take_zero]
  refine lex_quietE 11 (by kernel_rfl) (by rfl) ?_
  apply Exists.intro
  refine ⟨fun z hz1 => ?_, ?_⟩
  · have g0 := blk_cellp (hz1.keep HBK.out HnS.out) 3 rfl
    have gz := (World.cell?_of_block (a := ⟨b0, o0 + 1, none⟩) (hz1.block b0 hb0m HnW.out)).trans K1m.out
    have g2 := fun p => plus_cell gz (block_lt_of_cell gz) p
    clear hz1 gz
    simp only [List.take_succ_cons, List.take_zero]
    unfold Cx
    repeat (go_big_quiet_step (fail))
    exact wpQuiet_nil rfl
  simp only [List.drop_succ_cons, List.drop_zero]
  refine lex_slice 1 (.cells #[.int .i64 l, .string y1] 48) (by rfl) (fun x => by go_simp) (fun g21 q21 hn21 => ?_)
  unfold setSlot
  go_big_quiet_step (fail)
  refine wpQuiet_nil ?_
  have n21v : g21 ∉ rowBlk v.W := fun h => by have := HLT1.out g21 h; omega
  clear hn21
  refine lex_append_v (.tmp 60) (.tmp 66) 26 48 i0 _ 2 24 Tryz.underlying26 II.out IZ0.out IZ1.out IZ2.out (by rfl) v.W st.ws.length (wts st.ws) ((rowV_rowB HRW.out.rW).of_put n21v) (by rfl) g21 1 1 [.int .i64 l, .string y1] 48 (by rfl) (Blocks.put_same _ _ _) rfl (by simp [Value.oneCell']) (by omega) (by unfold maxLen; omega) (by omega) (fun g hg => .inl hg) HK1.out (fun g22 c22 ob22 hr22 hg22 => ?_)
  unfold setSlot
  go_big_quiet_step (fail)
  refine wpQuiet_nil ?_
  have hn22 : ∀ g ∈ rowBlk (.slice (some ⟨g22, 0, none⟩) (st.ws.length + 1) c22), g ∈ rowBlk v.W ∨ wm.heap.size ≤ g := fun g hg => by
    have : g = g22 := by simpa [rowBlk] using hg
    subst this
    exact hg22.imp id (fun h => h.1)
  clear hg22
  refine lex_quietE 3 (by kernel_rfl) (by rfl) ?_
  apply Exists.intro
  refine ⟨fun z hz1 => ?_, ?_⟩
  · clear hz1
    simp only [List.take_succ_cons, List.take_zero]
    unfold Cx
    repeat (go_big_quiet_step (fail))
    exact wpQuiet_nil rfl
  simp only [List.drop_succ_cons, List.drop_zero]
  refine lex_nil ?_
  intro x2 hx2 hH2
  have hr9 := hr22.of_has hH2
  rw [HY1.out] at hr9
  have hR9 := HRW.out.appW (x := (l, x1)) (by omega) hx2 hr9 hn22
  have hk9 := hx2.keep HBK.out HnS.out
  have p3 := blk_cell hk9 3 rfl
  have f3 := blk_free hk9 3
  have hS3 := (HS4.out.s1.keep HBm.out (by simp; omega)).keep hx2 (fun hg => by have := HWG.out ms hg; omega)
  have hS4' := HST.out.keep hx2 (fun hg => by have := HWG.out mh hg; omega)
  have hB10 := (((behind_of_below HB4.out).mono (Wr' := br :: ms :: mh :: v.M) (by simp)).trans HBm.out (fun g hg => .inl (by simp at hg; simp [hg]))).trans hx2 (fun g hg => .inl (by simp [hWM g hg]))
  have HX := Lib.hid (And.intro hR9 (And.intro hk9 (And.intro hS3 (And.intro hS4' (And.intro hB10 (And.intro hn22 hx2.size))))))
  have hs4 := HB4.out.size
  clear hx2 hH2 hr9 hR9 hk9 hS3 hS4' hB10 hn22 hr22 hWM
  go_wp2_with fail
  rw [HP.out, HF2.out]
  obtain ⟨hR9, hk9, hS3, hS4', hB10, hn9, hsz9⟩ := HX.out
  refine ⟨rfl, hB10.trans behind_set (fun g hg => .inl (by simp at hg; simp [hg])), fun _ => ⟨{ v with W := .slice (some ⟨g22, 0, none⟩) (st.ws.length + 1) c22 }, ⟨heap_setCell_same _ br 3 _ _ _ hk9, hS3.keep behind_set (by simp; omega), ?_, hR9.keep behind_set (fun g hg => by simp at hg; omega), hord, by simp [World.setCell]; omega, hrg⟩, fun g hg => ?_⟩⟩
  · rw [List.map_append]
    exact hS4'.keep behind_set (by simp; omega)
  · rcases DV.mem.1 hg with hg | hg | hg | hg
    · exact .inl (DV.mem.2 (.inl hg))
    · exact .inl (DV.mem.2 (.inr (.inl hg)))
    · exact (hn9 g hg).imp (fun e => DV.mem.2 (.inr (.inr (.inl e)))) (fun e => by omega)
    · exact .inl (DV.mem.2 (.inr (.inr (.inr hg))))
end Go.Proofs.YtajjgfiojlagmaaGreatDoor

/- The reader's comments. -/
namespace Go.Proofs.YtajjgfiojlagmaaGreatDoor
open Go.RowKit

theorem at_piece {N : Nat} {w : World} {b o : Nat} {xs : List (List UInt8)} (h : AtN N w (some ⟨b, o, none⟩) (strs xs)) (k n : Nat) : AtN N w (some ⟨b, o + k, none⟩) (strs ((xs.take n).drop k)) := fun i u hi => by
  have hi2 : (strs xs)[k + i]? = some u := by
    unfold strs at hi ⊢
    rw [List.getElem?_map, List.getElem?_drop, List.getElem?_take] at hi
    rw [List.getElem?_map]
    split at hi
    · exact hi
    · cases hi
  obtain ⟨b', o', hb, he, hc⟩ := h _ _ hi2
  cases he
  exact ⟨b, o + k, hb, rfl, by rw [Nat.add_assoc]; exact hc⟩
theorem RdPost.same {w w' : World} {br ms mh b : Nat} {v : DV} {st : DS} (h : Rdr w br ms mh b st v) (hb : Below w.heap.size w w') : RdPost w br ms mh b v (st, 0) (.returned (.int .i64 0)) w' :=
  ⟨rfl, (behind_of_below hb).mono (by simp), fun _ => ⟨v, h.keepB hb, fun g hg => .inl hg⟩⟩

set_option maxHeartbeats 3200000 in
set_option maxRecDepth 100000 in
theorem gComment (w : World) (br ms mh b : Nat) (st : DS) (v : DV) (h : Rdr w br ms mh b st v) (r : List (List UInt8)) (hl : ∀ x ∈ r, x.length ≤ 1100000) (hr : r.length ≤ 1100001) (hsl : st.sh.length ≤ 10000000) (hwl : st.ws.length ≤ 10000000) (a : Option Addr) (c : Nat) (hc : r.length ≤ c) (hcm : c ≤ maxLen) (hA : AtN w.heap.size w a (strs r)) (hap : Apart b v a) (hM0 : ∃ m, w.cell? ⟨1, 0, none⟩ = some (.int .i64 m)) :
    Calls Tryz.prog 40 #[.pointer (some ⟨br, 0, none⟩), .slice a r.length c] w (RdPost w br ms mh b v (commentD rdD st r)) := by
  obtain ⟨R, hR⟩ : ∃ R : DS × Int, R = commentD rdD st r := ⟨_, rfl⟩
  rw [← hR]
  obtain ⟨Post, hPost⟩ : ∃ P : Ending → World → Prop, P = RdPost w br ms mh b v R := ⟨_, rfl⟩
  rw [← hPost]
  have HP := Lib.hid hPost
  clear hPost
  have H := Lib.hid h
  have c4 := blk_cell h.blk 4 rfl
  by_cases h2 : r.length < 2
  · have HR := Lib.hid (show R = (st, 0) by rw [hR]; unfold commentD; rw [if_pos (.inl h2)])
    have hd : decide (r.length < 2) = true := decide_eq_true h2
    have hd2 : decide ((r.length : Int) < 2) = true := decide_eq_true (by omega)
    clear hR hA hl h2 h
    go_enter Tryz.func40, Tryz.ntmps40
    go_wp2_with fail
    rw [HP.out, HR.out]
    exact RdPost.same H.out (Below.refl _ _)
  have hd : decide (r.length < 2) = false := decide_eq_false h2
  have hd2 : decide ((r.length : Int) < 2) = false := decide_eq_false (by omega)
  have e0 : r[0]? = some (r.getD 0 []) := by simp [List.getD, show 0 < r.length by omega]
  have e1 : r[1]? = some (r.getD 1 []) := by simp [List.getD, show 1 < r.length by omega]
  have el : r[r.length - 1]? = some (r.getD (r.length - 1) []) := by simp [List.getD, show r.length - 1 < r.length by omega]
  obtain ⟨b0, o0, hb0, rfl, k0⟩ := hA 0 _ (strs_get r 0 _ e0)
  rw [Nat.add_zero] at k0
  obtain ⟨b1, o1, hb1, q1, k1⟩ := hA 1 _ (strs_get r 1 _ e1)
  cases q1
  obtain ⟨bl, ol, hbl, ql, kl⟩ := hA (r.length - 1) _ (strs_get r _ _ el)
  cases ql
  have HRD := Lib.hid (show commentD rdD st r = if r.length < 2 ∨ r.getD 0 [] ≠ [112] ∨ (r.getD 1 [] ≠ showW ∧ r.getD 1 [] ≠ weightW) then (st, 0) else if st.begun = false ∨ r.length - 1 < 2 ∨ r.getD (r.length - 1) [] ≠ [48] then (st, 5)
    else if r.getD 1 [] = showW then showD st ((r.take (r.length - 1)).drop 2) else weightD rdD st ((r.take (r.length - 1)).drop 2) from rfl)
  have hap2 : Apart b v (some ⟨b0, o0 + 2, none⟩) := fun g o x hg => by
    cases hg
    exact hap _ _ _ rfl
  have hr2 : ∀ x ∈ (r.take (r.length - 1)).drop 2, x.length ≤ 1100000 := fun x hx => hl x (List.mem_of_mem_take (List.mem_of_mem_drop hx))
  have hlen2 : ((r.take (r.length - 1)).drop 2).length = r.length - 1 - 2 := by rw [List.length_drop, List.length_take]; omega
  have KS := Lib.hid (fun c' => gShow w br ms mh b st v h ((r.take (r.length - 1)).drop 2) hr2 (by omega) hsl (some ⟨b0, o0 + 2, none⟩) c' (at_piece hA 2 _))
  have KW := Lib.hid (fun c' => gWeight w br ms mh b st v h ((r.take (r.length - 1)).drop 2) hr2 (by omega) hwl (some ⟨b0, o0 + 2, none⟩) c' (at_piece hA 2 _) hap2 hM0)
  rw [hlen2] at KS KW
  generalize showD st ((r.take (r.length - 1)).drop 2) = RS at *
  generalize weightD rdD st ((r.take (r.length - 1)).drop 2) = RW at *
  generalize r.getD 0 [] = x0 at *
  generalize r.getD 1 [] = x1 at *
  generalize r.getD (r.length - 1) [] = xl at *
  have HX0 := Lib.hid (@lit_eq x0 [112])
  have HX0n := Lib.hid (@lit_ne x0 [112])
  have HX1s := Lib.hid (@lit_eq x1 showW)
  have HX1sn := Lib.hid (@lit_ne x1 showW)
  have HX1w := Lib.hid (@lit_eq x1 weightW)
  have HX1wn := Lib.hid (@lit_ne x1 weightW)
  have HXl := Lib.hid (@lit_eq xl [48])
  have HXln := Lib.hid (@lit_ne xl [48])
  unfold showW at HX1s HX1sn
  unfold weightW at HX1w HX1wn
  generalize (⟨x0.toArray⟩ : ByteArray) = y0 at *
  generalize (⟨x1.toArray⟩ : ByteArray) = y1 at *
  generalize (⟨xl.toArray⟩ : ByteArray) = yl at *
  generalize hn : r.length = n at *
  clear hA hl hr2 hlen2 hap hap2 hM0 e0 e1 el hn
  rw [HRD.out] at hR
  by_cases hx0 : x0 = [112]
  case neg =>
    have HR := Lib.hid (hR.trans (if_pos (.inr (.inl hx0))))
    have t0 := HX0n.out hx0
    clear hR HRD
    go_enter Tryz.func40, Tryz.ntmps40
    go_wp2_with fail
    rw [HP.out, HR.out]
    exact RdPost.same H.out (Below.refl _ _)
  have t0 := HX0.out hx0
  by_cases hx1 : x1 ≠ showW ∧ x1 ≠ weightW
  · have HR := Lib.hid (hR.trans (if_pos (.inr (.inr hx1))))
    have t1 := HX1sn.out hx1.1
    have t2 := HX1wn.out hx1.2
    clear hR HRD hx1
    go_enter Tryz.func40, Tryz.ntmps40
    go_wp2_with fail
    rw [HP.out, HR.out]
    exact RdPost.same H.out (Below.refl _ _)
  have hR2 := hR.trans (if_neg (show ¬ (n < 2 ∨ x0 ≠ [112] ∨ (x1 ≠ showW ∧ x1 ≠ weightW)) by
    rintro (h' | h' | h')
    · exact h2 h'
    · exact h' hx0
    · exact hx1 h'))
  have HS1 := t0
  by_cases hxs : x1 = showW
  · have t1 := HX1s.out hxs
    cases hbg : st.begun with
    | false =>
      have HR := Lib.hid (hR2.trans (if_pos (.inl hbg)))
      rw [hbg] at c4
      clear hR hR2 HRD hbg
      go_enter Tryz.func40, Tryz.ntmps40
      go_wp2_with fail
      rw [HP.out, HR.out]
      exact RdPost.err (n := 5) (Below.refl _ _) (by simp)
    | true =>
    rw [hbg] at c4
    by_cases h3 : n = 2
    · subst h3
      clear kl
      have HR := Lib.hid (show R = (st, 5) from hR2.trans (if_pos (.inr (.inl (by omega)))))
      clear hR hR2 HRD hbg
      go_enter Tryz.func40, Tryz.ntmps40
      go_wp2_with fail
      rw [HP.out, HR.out]
      exact RdPost.err (n := 5) (Below.refl _ _) (by simp)
    obtain ⟨p, rfl⟩ : ∃ p, n = p + 3 := ⟨n - 3, by omega⟩
    have kl' : w.cell? ⟨b0, o0 + (p + 2), none⟩ = some (.string yl) := kl
    clear kl
    by_cases hxl : xl = [48]
    case neg =>
      have HR := Lib.hid (hR2.trans (if_pos (.inr (.inr hxl))))
      have t3 := HXln.out hxl
      clear hR hR2 HRD hbg
      go_enter Tryz.func40, Tryz.ntmps40
      go_wp2_with fail
      rw [HP.out, HR.out]
      exact RdPost.err (n := 5) (Below.refl _ _) (by simp)
    have t3 := HXl.out hxl
    have hcd : ¬ (st.begun = false ∨ p + 3 - 1 < 2 ∨ xl ≠ [48]) := by
      rintro (h' | h' | h')
      · rw [hbg] at h'; cases h'
      · omega
      · exact h' hxl
    have HR := Lib.hid (hR2.trans ((if_neg hcd).trans (if_pos hxs)))
    have HK := Lib.hid (KS.out (c - 2))
    rw [show p + 3 - 1 - 2 = p by omega] at HK
    clear hR hR2 HRD hbg KS KW hd hd2
    go_enter Tryz.func40, Tryz.ntmps40
    go_wp2_with fail
    refine HK.out.mono ?_
    rintro e w2 ⟨rfl, hq1, hq2⟩
    have HQ := Lib.hid (And.intro hq1 hq2)
    clear hq1 hq2 HK
    go_wp2_with fail
    rw [HP.out, HR.out]
    exact ⟨rfl, HQ.out.1, HQ.out.2⟩
  · have hxw : x1 = weightW := Decidable.not_not.1 (fun h' => hx1 ⟨hxs, h'⟩)
    have t1 := HX1sn.out hxs
    have t2 := HX1w.out hxw
    cases hbg : st.begun with
    | false =>
      have HR := Lib.hid (hR2.trans (if_pos (.inl hbg)))
      rw [hbg] at c4
      clear hR hR2 HRD hbg
      go_enter Tryz.func40, Tryz.ntmps40
      go_wp2_with fail
      rw [HP.out, HR.out]
      exact RdPost.err (n := 5) (Below.refl _ _) (by simp)
    | true =>
    rw [hbg] at c4
    by_cases h3 : n = 2
    · subst h3
      clear kl
      have HR := Lib.hid (show R = (st, 5) from hR2.trans (if_pos (.inr (.inl (by omega)))))
      clear hR hR2 HRD hbg
      go_enter Tryz.func40, Tryz.ntmps40
      go_wp2_with fail
      rw [HP.out, HR.out]
      exact RdPost.err (n := 5) (Below.refl _ _) (by simp)
    obtain ⟨p, rfl⟩ : ∃ p, n = p + 3 := ⟨n - 3, by omega⟩
    have kl' : w.cell? ⟨b0, o0 + (p + 2), none⟩ = some (.string yl) := kl
    clear kl
    by_cases hxl : xl = [48]
    case neg =>
      have HR := Lib.hid (hR2.trans (if_pos (.inr (.inr hxl))))
      have t3 := HXln.out hxl
      clear hR hR2 HRD hbg
      go_enter Tryz.func40, Tryz.ntmps40
      go_wp2_with fail
      rw [HP.out, HR.out]
      exact RdPost.err (n := 5) (Below.refl _ _) (by simp)
    have t3 := HXl.out hxl
    have hcd : ¬ (st.begun = false ∨ p + 3 - 1 < 2 ∨ xl ≠ [48]) := by
      rintro (h' | h' | h')
      · rw [hbg] at h'; cases h'
      · omega
      · exact h' hxl
    have HR := Lib.hid (hR2.trans ((if_neg hcd).trans (if_neg hxs)))
    have HK := Lib.hid (KW.out (c - 2))
    rw [show p + 3 - 1 - 2 = p by omega] at HK
    clear hR hR2 HRD hbg KS KW hd hd2
    go_enter Tryz.func40, Tryz.ntmps40
    go_wp2_with fail
    refine HK.out.mono ?_
    rintro e w2 ⟨rfl, hq1, hq2⟩
    have HQ := Lib.hid (And.intro hq1 hq2)
    clear hq1 hq2 HK
    go_wp2_with fail
    rw [HP.out, HR.out]
    exact ⟨rfl, HQ.out.1, HQ.out.2⟩
end Go.Proofs.YtajjgfiojlagmaaGreatDoor
