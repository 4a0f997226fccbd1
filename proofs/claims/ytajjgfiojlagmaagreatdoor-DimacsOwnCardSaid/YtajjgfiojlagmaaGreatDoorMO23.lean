/- Texts of this claim, joined: D11, D12. -/
import Derived.Test.YtajjgfiojlagmaaGreatDoorMO22
import Derived.Deep.DeepCutAuto
import Derived.StringKeys

/- The reader's literals. -/
namespace Go.Proofs.YtajjgfiojlagmaaGreatDoor
open Go.RowKit

theorem RowV.unique {B : Blocks} {E : TypeId} {size : Nat} {v : Value} {n : Nat} {xs ys : List Value} (h1 : RowV B E size v n xs) (h2 : RowV B E size v n ys) : xs = ys := by
  cases h1 with
  | nil =>
    cases h2 with
    | nil => rfl
  | @row g n cap xs cur h =>
    cases h2 with
    | @row _ _ _ ys cur2 h2 =>
      have e := h.blk.symm.trans h2.blk
      simp only [Option.some.injEq, Obj.cells.injEq] at e
      rw [← h.tk, ← h2.tk, e.1]
theorem Tryz.infoRow : (Tryz.prog.info? 25).map (fun i => (i.zero, i.size, i.bytes)) = some (some (.slice none 0 0), 1, 24) := by kernel_rfl
theorem litsGo_cons (st : DS) (v : Int) (l : List Int) : litsGo st (v :: l) = if v = 0 then litsGo { st with L := st.L ++ [st.cl], cl := [], op := false } l
    else if validD v st.n = false then (st, 6) else if st.cl.length = 128 then (st, 2) else litsGo { st with cl := st.cl ++ [v], op := true } l := rfl
def badL (x : List UInt8) : Bool := decide (litD x = 0) && decide (x ≠ [48])

set_option maxHeartbeats 6400000 in
set_option maxRecDepth 100000 in
theorem gLiterals (w : World) (br ms mh b : Nat) (st : DS) (v : DV) (h : Rdr w br ms mh b st v) (r : List (List UInt8)) (hl : ∀ x ∈ r, x.length ≤ 1100000) (hr : r.length ≤ 1100001) (hLl : st.L.length ≤ 10000000) (hcl : st.cl.length ≤ 128) (a : Option Addr) (c : Nat) (hA : AtN w.heap.size w a (strs r)) :
    Calls Tryz.prog 41 #[.pointer (some ⟨br, 0, none⟩), .slice a r.length c] w (RdPost w br ms mh b v (litsD st r)) := by
  obtain ⟨R, hR⟩ : ∃ R : DS × Int, R = litsD st r := ⟨_, rfl⟩
  rw [← hR]
  obtain ⟨Post, hPost⟩ : ∃ P : Ending → World → Prop, P = RdPost w br ms mh b v R := ⟨_, rfl⟩
  rw [← hPost]
  have HP := Lib.hid hPost
  have H := Lib.hid h
  have HA := Lib.hid hA
  have HLN := Lib.hid hl
  obtain ⟨nums, hnums⟩ : ∃ l, l = r.map litD := ⟨_, rfl⟩
  have HNU := Lib.hid hnums
  have HR := Lib.hid (show R = if (r.any badL) = true then (st, 5) else if st.begun = false then (st, 5) else litsGo st nums by rw [hR, hnums]; rfl)
  have hlen : nums.length = r.length := by rw [hnums]; simp
  have HLE := Lib.hid hlen
  have hnl : nums.length ≤ 1100001 := by omega
  rw [← hlen]
  obtain ⟨i0, ii, iz0, iz1, iz2⟩ := info_parts Tryz.infoIntD
  have II := Lib.hid ii
  have IZ0 := Lib.hid iz0
  have IZ1 := Lib.hid iz1
  have IZ2 := Lib.hid iz2
  obtain ⟨j0, jj, jz0, jz1, jz2⟩ := info_parts Tryz.infoRow
  have JI := Lib.hid jj
  have JZ0 := Lib.hid jz0
  have JZ1 := Lib.hid jz1
  have JZ2 := Lib.hid jz2
  have hbw0 := h.bw
  clear hPost h hA hl hnums hR hlen hr ii iz0 iz1 iz2 jj jz0 jz1 jz2
  go_enter Tryz.func41, Tryz.ntmps41
  have hmk := makeI nums hnl w
  go_upto_region 3 with fail
  refine wp_gen ?_
  intro w1 hw1
  have M1 := Lib.hid (show w1.heap[w.heap.size]? = some (.cells (partI nums 0) 3 (0, 0)) by rw [hw1]; exact new_one _ _)
  have HB1 := Lib.hid (show Below w.heap.size w w1 by rw [hw1]; exact below_one _ _)
  clear hw1 hmk
  go_loopw [16] (fun t16 wr => ∃ k : Nat, k ≤ nums.length ∧ t16 = .int .i64 k ∧ Hid (∀ x ∈ r.take k, badL x = false) ∧ Hid (wr.heap[w.heap.size]? = some (.cells (partI nums k) 3 (0, 0))) ∧ Hid (Below w.heap.size w wr)) (fun t16 _ => nums.length - (intOf t16).toNat)
  case atStart => exact ⟨0, Nat.zero_le _, rfl, by simp [Hid], M1, HB1⟩
  case round =>
    obtain ⟨k, hk, rfl, HZ, M, HB⟩ := hrel
    by_cases hlt : k < nums.length
    · have hdd : decide (k < nums.length) = true := decide_eq_true hlt
      have hkr : k < r.length := by have := HLE.out; omega
      have hrk : r[k]? = some (r.getD k []) := by simp [List.getD, hkr]
      obtain ⟨b1, o1, hb1, e1, k1⟩ := HA.out k _ (strs_get r k _ hrk)
      cases e1
      have c1 := below_cell HB.out hb1 k1
      have C1 := Lib.hid c1
      have hb1r := block_lt_of_cell c1
      have hxk := HLN.out _ (List.mem_of_getElem? hrk)
      have KN := gLiteral (r.getD k []) hxk
      have hnk : nums.getD k 0 = litD (r.getD k []) := by
        rw [HNU.out, List.getD_eq_getElem?_getD, List.getElem?_map, hrk]; rfl
      have hin := litD_in (r.getD k [])
      have HM := Lib.hid (show r.getD k [] ∈ r from List.mem_of_getElem? hrk)
      have HTK := Lib.hid (show r.take (k + 1) = r.take k ++ [r.getD k []] by rw [List.take_add_one, hrk]; rfl)
      have HST := Lib.hid (partI_set hlt)
      have HGK := Lib.hid (partI_get hlt)
      rw [hnk] at HST
      have HEQ := Lib.hid (@lit_eq (r.getD k []) [48])
      have HNE := Lib.hid (@lit_ne (r.getD k []) [48])
      have HBL := Lib.hid (show badL (r.getD k []) = (decide (litD (r.getD k []) = 0) && decide (r.getD k [] ≠ [48])) from rfl)
      generalize r.getD k [] = x at *
      generalize (⟨x.toArray⟩ : ByteArray) = y at *
      generalize litD x = z at *
      obtain ⟨zb, hzb⟩ : ∃ zb, zb = decide (z ≠ 0) := ⟨_, rfl⟩
      rw [← hzb] at KN
      have HZB := Lib.hid hzb
      clear k1 hrk hxk hnk hzb
      go_wp2_with fail
      refine (KN _).mono ?_
      rintro e w2 ⟨rfl, hB⟩
      have HB2 := Lib.hid (HB.out.trans (hB.mono HB.out.size))
      have M2 := Lib.hid ((behind_of_below hB).keep M.out (by simp))
      have c2 := below_cell hB hb1r C1.out
      clear hB KN c1
      by_cases hz0 : z = 0
      · have hq : zb = false := HZB.out.trans (decide_eq_false (by simpa using hz0))
        subst hq
        subst hz0
        by_cases hx0 : x = [48]
        · have t0 := HEQ.out hx0
          have HB9 := Lib.hid (show badL x = false by rw [HBL.out, decide_eq_false (show ¬ x ≠ [48] by simpa using hx0), Bool.and_false])
          have m1 := blk_cell M2.out k HGK.out
          have m2 := blk_free M2.out k
          go_wp2_with fail
          go_roundw
          case rel => exact ⟨k + 1, by omega, by go_num, fun u hu => by
            rw [HTK.out] at hu
            rcases List.mem_append.1 hu with hu | hu
            · exact HZ.out u hu
            · rw [List.mem_singleton.1 hu]; exact HB9.out, by rw [← HST.out]; exact heap_setCell_same _ _ k _ _ _ M2.out, HB2.out.setCell (Nat.le_refl _) _⟩
          case measure => simp [intOf]; omega
        · have t0 := HNE.out hx0
          have HF := Lib.hid (HR.out.trans (if_pos (List.any_eq_true.2 ⟨x, HM.out, by rw [HBL.out, decide_eq_true rfl, decide_eq_true (show x ≠ [48] from hx0)]; rfl⟩)))
          go_wp2_with fail
          rw [HP.out, HF.out]
          exact RdPost.err (n := 5) HB2.out (by simp)
      · have hq : zb = true := HZB.out.trans (decide_eq_true hz0)
        subst hq
        have HB9 := Lib.hid (show badL x = false by rw [HBL.out, decide_eq_false hz0, Bool.false_and])
        have m1 := blk_cell M2.out k HGK.out
        have m2 := blk_free M2.out k
        go_wp2_with fail
        go_roundw
        case rel => exact ⟨k + 1, by omega, by go_num, fun u hu => by
          rw [HTK.out] at hu
          rcases List.mem_append.1 hu with hu | hu
          · exact HZ.out u hu
          · rw [List.mem_singleton.1 hu]; exact HB9.out, by rw [← HST.out]; exact heap_setCell_same _ _ k _ _ _ M2.out, HB2.out.setCell (Nat.le_refl _) _⟩
        case measure => simp [intOf]; omega
    · obtain rfl : k = nums.length := by omega
      have hdd : decide (nums.length < nums.length) = false := by simp
      have HF := Lib.hid (HR.out.trans (if_neg (by
        rw [List.any_eq_true]
        rintro ⟨u, hu, hbu⟩
        have := HZ.out u (by rw [HLE.out, List.take_length]; exact hu)
        rw [this] at hbu; cases hbu)))
      have M3 := Lib.hid (show wr.heap[w.heap.size]? = some (.cells (ints nums).toArray 3 (0, 0)) by rw [← partI_all]; exact M.out)
      have HI := Lib.hid (show ∀ x ∈ nums, -100000 < x ∧ x < 100000 from fun x hx => by
        rw [HNU.out] at hx
        obtain ⟨u, _, rfl⟩ := List.mem_map.1 hx
        exact litD_in u)
      have hH3 := H.out.keepB HB.out
      have HS3 := Lib.hid hH3
      have q4 := blk_cell hH3.blk 4 rfl
      obtain ⟨w3, hw3⟩ : ∃ w3, w3 = wr := ⟨_, rfl⟩
      subst hw3
      have hw3h : w.heap.size < w3.heap.size := lt_of_heap M3.out
      clear HR HZ M hH3 M1 HB1 HA HLN HNU hk hlt
      cases hbg : st.begun with
      | false =>
        have HF2 := Lib.hid (HF.out.trans (if_pos hbg))
        rw [hbg] at q4
        clear hbg
        go_wp2_with fail
        rw [HP.out, HF2.out]
        exact RdPost.err (n := 5) HB.out (by simp)
      | true =>
      have HF2 := Lib.hid (HF.out.trans (if_neg (by rw [hbg]; simp)))
      rw [hbg] at q4
      clear hbg HF
      go_wp2_with fail
      go_loopw [48] (fun t48 wr => ∃ (j : Nat) (s1 : DS) (v1 : DV), j ≤ nums.length ∧ t48 = .int .i64 j ∧ s1.L.length ≤ 10000000 + j ∧ s1.cl.length ≤ 128 ∧ Hid (litsGo st nums = litsGo s1 (nums.drop j)) ∧ Hid (Rdr wr br ms mh b s1 v1) ∧ Hid (∀ g ∈ v1.M, g ∈ v.M ∨ w3.heap.size ≤ g) ∧ Hid (wr.heap[w.heap.size]? = some (.cells (ints nums).toArray 3 (0, 0))) ∧ Hid (Behind w (br :: ms :: mh :: v.M) wr) ∧ Hid (w3.heap.size ≤ wr.heap.size)) (fun t48 _ => nums.length - (intOf t48).toNat)
      case atStart => exact ⟨0, st, v, Nat.zero_le _, rfl, by omega, hcl, rfl, HS3, fun g hg => .inl hg, M3, (behind_of_below HB.out).mono (by simp), Nat.le_refl _⟩
      case round =>
        obtain ⟨j, s1, v1, hj, rfl, hLj, hcj, HG, HS, HV, M, HBh, HSZ⟩ := hrel
        by_cases hlt : j < nums.length
        · have hdd : decide (j < nums.length) = true := decide_eq_true hlt
          have hxx : nums[j]? = some (nums.getD j 0) := by simp [List.getD, hlt]
          have hin := HI.out _ (List.mem_of_getElem? hxx)
          have hdr : nums.drop j = nums.getD j 0 :: nums.drop (j + 1) := by
            rw [List.drop_eq_getElem_cons hlt]; simp [List.getD, hlt]
          have HG2 := Lib.hid (show litsGo st nums = _ from HG.out.trans (by rw [hdr, litsGo_cons]))
          have cx := blk_cell M.out j (by rw [List.getElem?_toArray]; exact ints_get _ _ _ hxx)
          generalize nums.getD j 0 = x at *
          obtain ⟨vL, vS, vW, vc⟩ := v1
          obtain ⟨pc, cc, hvc⟩ := HS.out.rows.rc.slice
          simp only at hvc
          subst hvc
          have hord := HS.out.ord
          have hbw := HS.out.bw
          have hrg := HS.out.rng
          have c0 := blk_cell HS.out.blk 0 rfl
          have c6 := blk_cell HS.out.blk 6 rfl
          have hwh : w.heap.size ≤ wr.heap.size := HBh.out.size
          clear hxx hdr
          by_cases hx0 : x = 0
          · subst hx0
            have HG3 := Lib.hid (HG2.out.trans (if_pos rfl))
            obtain ⟨cl, hcl0, _⟩ := HS.out.rows.rL
            have HCL := Lib.hid hcl0
            obtain ⟨kF1, hkF1⟩ : ∃ kF1, kF1 = kA vL s1.L.length 1 := ⟨_, rfl⟩
            have hkF1' : kF1 = 2 ∨ kF1 = 5 := by rw [hkF1]; exact kA_or _ _ _
            have HK1 := Lib.hid hkF1
            have hLM : ∀ g ∈ rowBlk vL, g ∈ (DV.mk vL vS vW (.slice pc s1.cl.length cc)).M := fun g hg => DV.mem.2 (.inl hg)
            have HWG := Lib.hid (show ∀ g ∈ rowBlk vL, b ≤ g from fun g hg => HS.out.rows.ge g (hLM g hg))
            have HLT1 := Lib.hid hcl0.lt
            have HnS := Lib.hid (show br ∉ rowBlk vL from fun hg => by have := HWG.out br hg; omega)
            clear hkF1 hcl0 HG2 c0 c6
            go_wp2_with fail
            refine wp_game_tail 17 [0, 0, 0, 0, 0, 0, 0, 0, 0, 0, 0, 3, kF1, 0, 0, 0, 0, 0] (rowBlk vL) (rowB wr vL) (fin_rowB _ _) (has_rowB _ _) (by kernel_rfl) (by rcases hkF1' with h | h <;> rw [h] <;> kernel_rfl) ?_
            simp only [List.take_succ_cons, List.take_zero]
            refine lex_quietE 11 (by kernel_rfl) (by rfl) ?_
            apply Exists.intro
            refine ⟨fun z hz1 => ?_, ?_⟩
            · have g0 := blk_cellp (hz1.keep HS.out.blk HnS.out) 1 rfl
              have g6 := blk_cellp (hz1.keep HS.out.blk HnS.out) 6 rfl
              clear hz1
              simp only [List.take_succ_cons, List.take_zero]
              unfold Cx
              repeat (go_big_quiet_step (fail))
              exact wpQuiet_nil rfl
            simp only [List.drop_succ_cons, List.drop_zero]
            refine lex_slice 1 (.cells #[.slice pc s1.cl.length cc] 25) (by rfl) (fun x => by go_simp) (fun g21 q21 hn21 => ?_)
            unfold setSlot
            go_big_quiet_step (fail)
            refine wpQuiet_nil ?_
            have n21v : g21 ∉ rowBlk vL := fun h => by have := HLT1.out g21 h; omega
            clear hn21
            refine lex_append_v (.tmp 61) (.tmp 66) 22 25 j0 _ 1 24 Tryz.underlying22 JI.out JZ0.out JZ1.out JZ2.out (by rfl) vL s1.L.length cl ((rowV_rowB HCL.out).of_put n21v) (by rfl) g21 1 1 [.slice pc s1.cl.length cc] 25 (by rfl) (Blocks.put_same _ _ _) rfl (by simp [Value.oneCell']) (by omega) (by unfold maxLen; omega) (by omega) (fun g hg => .inl hg) HK1.out (fun g22 c22 ob22 hr22 hg22 => ?_)
            unfold setSlot
            go_big_quiet_step (fail)
            refine wpQuiet_nil ?_
            have hn22 : ∀ g ∈ rowBlk (.slice (some ⟨g22, 0, none⟩) (s1.L.length + 1) c22), g ∈ rowBlk vL ∨ wr.heap.size ≤ g := fun g hg => by
              have : g = g22 := by simpa [rowBlk] using hg
              subst this
              exact hg22.imp id (fun h => h.1)
            clear hg22
            refine lex_quietE 4 (by kernel_rfl) (by rfl) ?_
            apply Exists.intro
            refine ⟨fun z hz1 => ?_, ?_⟩
            · clear hz1
              simp only [List.take_succ_cons, List.take_zero]
              unfold Cx
              repeat (go_big_quiet_step (fail))
              exact wpQuiet_nil rfl
            simp only [List.drop_succ_cons, List.drop_zero]
            refine lex_nil ?_
            intro x2 hx2 hH2
            have hr9 := hr22.of_has hH2
            have hR9 := HS.out.rows.appL (vL := .slice (some ⟨g22, 0, none⟩) (s1.L.length + 1) c22) hbw hx2 (fun cl' hcl' => by rw [RowV.unique hcl' HCL.out]; exact hr9) hn22
            have hk9 := hx2.keep HS.out.blk HnS.out
            have p1 := blk_cell hk9 1 rfl
            have p6 := blk_cell hk9 6 rfl
            have p7 := blk_cell hk9 7 rfl
            have f1 := blk_free hk9 1
            have f6 := blk_free hk9 6
            have f7 := blk_free hk9 7
            have hS3 := HS.out.s1.keep hx2 (fun hg => by have := HWG.out ms hg; omega)
            have hS4 := HS.out.s2.keep hx2 (fun hg => by have := HWG.out mh hg; omega)
            have hM10 := hx2.keep M.out (fun hg => (HV.out _ (hLM _ hg)).elim (fun e => by have := H.out.rows.lt _ e; omega) (fun e => by omega))
            have hB10 := HBh.out.trans hx2 (fun g hg => (HV.out g (hLM g hg)).elim (fun e => .inl (by simp [e])) (fun e => .inr (by have := HB.out.size; omega)))
            have HX := Lib.hid (And.intro hR9 (And.intro hk9 (And.intro hS3 (And.intro hS4 (And.intro hM10 (And.intro hB10 (And.intro hn22 hx2.size)))))))
            clear hx2 hH2 hr9 hR9 hk9 hS3 hS4 hM10 hB10 hn22 hr22 hLM
            go_wp2_with fail
            go_roundw
            case rel =>
              obtain ⟨hR9, hk9, hS3, hS4, hM10, hB10, hn9, hsz9⟩ := HX.out
              have hset : Behind x2 [br] (((x2.setCell ⟨br, 1, none⟩ (.slice (some ⟨g22, 0, none⟩) (s1.L.length + 1) c22)).setCell ⟨br, 6, none⟩ (.slice none 0 0)).setCell ⟨br, 7, none⟩ (.bool false)) := (behind_set.trans behind_set (by simp)).trans behind_set (by simp)
              refine ⟨j + 1, { s1 with L := s1.L ++ [s1.cl], cl := [], op := false }, ⟨.slice (some ⟨g22, 0, none⟩) (s1.L.length + 1) c22, vS, vW, .slice none 0 0⟩, by omega, by go_num, by simp; omega, by simp, HG3.out, ⟨heap_setCell_same _ br 7 _ _ _ (heap_setCell_same _ br 6 _ _ _ (heap_setCell_same _ br 1 _ _ _ hk9)), hS3.keep hset (by simp; omega), hS4.keep hset (by simp; omega), hR9.keep hset (fun g hg => by simp at hg; omega), hord, by have := hset.size; omega, hrg⟩, fun g hg => ?_, hset.keep hM10 (by simp; omega), hB10.trans hset (fun g hg => .inl (by simp at hg; simp [hg])), ?_⟩
              · rcases DV.mem.1 hg with hg | hg | hg | hg
                · exact (hn9 g hg).elim (fun e => HV.out g (DV.mem.2 (.inl e))) (fun e => .inr (Nat.le_trans HSZ.out e))
                · exact HV.out g (DV.mem.2 (.inr (.inl hg)))
                · exact HV.out g (DV.mem.2 (.inr (.inr (.inl hg))))
                · simp [rowBlk] at hg
              · have := hset.size; have := HSZ.out
                show w3.heap.size ≤ _
                omega
            case measure => simp [intOf]; omega
          · have HG3 := Lib.hid (HG2.out.trans (if_neg hx0))
            have hxb : (x == 0) = false := beq_no hx0
            have KV := gValid x s1.n hrg.2
            have HSB := Lib.hid (fun (w' : World) (hb : Below wr.heap.size wr w') => HS.out.keepB hb)
            cases hv : validD x s1.n with
            | false =>
              have HF3 := Lib.hid (HF2.out.trans (HG3.out.trans (if_pos hv)))
              rw [hv] at KV
              clear HG2 HG3 hv
              go_wp2_with fail
              refine (KV _).mono ?_
              rintro e w4 ⟨rfl, hB⟩
              have hBB := HBh.out.trans (behind_of_below hB) (by simp)
              have HB4 := Lib.hid hBB
              clear hB hBB KV
              go_wp2_with fail
              rw [HP.out, HF3.out]
              exact ⟨rfl, HB4.out, fun h => absurd h (by simp)⟩
            | true =>
            have HG4 := Lib.hid (HG3.out.trans (if_neg (by rw [hv]; simp)))
            rw [hv] at KV
            clear HG2 HG3 hv
            go_wp2_with fail
            refine (KV _).mono ?_
            rintro e w4 ⟨rfl, hB⟩
            have hS4 := HSB.out w4 hB
            have HS4 := Lib.hid hS4
            have q6 := blk_cell hS4.blk 6 rfl
            have HB4 := Lib.hid (HBh.out.trans (behind_of_below hB) (by simp))
            have HM4 := Lib.hid ((behind_of_below hB).keep M.out (by simp))
            have hs4 := hB.size
            clear hB KV c0 c6 HSB hS4
            by_cases h128 : s1.cl.length = 128
            · have HF3 := Lib.hid (HF2.out.trans (HG4.out.trans (if_pos h128)))
              have hq : ((s1.cl.length : Int) == 128) = true := by simp [h128]
              clear HG4 h128
              go_wp2_with fail
              rw [HP.out, HF3.out]
              exact ⟨rfl, HB4.out, fun h => absurd h (by simp)⟩
            have HG5 := Lib.hid (HG4.out.trans (if_neg h128))
            have hq : ((s1.cl.length : Int) == 128) = false := beq_no (by omega)
            clear HG4
            go_wp2_with (at_builtin; refine wpList_append_row _ rfl _ _ 25 rfl 3 i0 (.int .i64 0) 1 8 Tryz.underlying25 II.out IZ0.out IZ1.out IZ2.out rfl _ _ _ rfl (HS4.out.rows.rc.keep (behind_of_below ((Below.refl _ _).alloc (Nat.le_refl _) _)) (by simp)) w4.heap.size 1 1 [.int .i64 x] 3 rfl (heap_alloc_new w4 _) rfl (by intro u hu; simp at hu; subst hu; rfl) (by omega) (by unfold maxLen; omega) (by omega) ?_)
            intro v9 w9 hr9 hB9 hn9
            have h09 : Behind w4 (rowBlk (.slice pc s1.cl.length cc)) w9 := ((behind_of_below ((Below.refl _ _).alloc (Nat.le_refl _) _)).mono (by simp)).trans hB9 (fun k hk => .inl hk)
            have hn9' : ∀ g ∈ rowBlk v9, g ∈ rowBlk (.slice pc s1.cl.length cc) ∨ w4.heap.size ≤ g := fun g hg => (hn9 g hg).imp id (fun h => by first | omega | (simp at h; omega))
            have hR9 := HS4.out.rows.appc (x := x) (o := true) (by omega) h09 hr9 hn9'
            have hcM : ∀ g ∈ rowBlk (.slice pc s1.cl.length cc), g ∈ (DV.mk vL vS vW (.slice pc s1.cl.length cc)).M := fun g hg => DV.mem.2 (.inr (.inr (.inr hg)))
            have hge9 : ∀ g ∈ rowBlk (.slice pc s1.cl.length cc), b ≤ g := fun g hg => HS4.out.rows.ge g (hcM g hg)
            have hk9 := h09.keep HS4.out.blk (fun hg => by have := hge9 br hg; omega)
            have p6 := blk_cell hk9 6 rfl
            have p7 := blk_cell hk9 7 rfl
            have f6 := blk_free hk9 6
            have f7 := blk_free hk9 7
            obtain ⟨p9, c9, hv9⟩ := hr9.slice
            subst hv9
            have hS3 := HS4.out.s1.keep h09 (fun hg => by have := hge9 ms hg; omega)
            have hS5 := HS4.out.s2.keep h09 (fun hg => by have := hge9 mh hg; omega)
            have hM10 := h09.keep HM4.out (fun hg => (HV.out _ (hcM _ hg)).elim (fun e => by have := H.out.rows.lt _ e; omega) (fun e => by omega))
            have hB10 := HB4.out.trans h09 (fun g hg => (HV.out g (hcM g hg)).elim (fun e => .inl (by simp [e])) (fun e => .inr (by have := HB.out.size; omega)))
            have HX := Lib.hid (And.intro hR9 (And.intro hk9 (And.intro hS3 (And.intro hS5 (And.intro hM10 (And.intro hB10 (And.intro hn9' h09.size)))))))
            clear hr9 hB9 hn9 h09 hR9 hk9 hS3 hS5 hM10 hB10 hn9' hcM hge9
            go_wp2_with fail
            go_roundw
            case rel =>
              obtain ⟨hR9, hk9, hS3, hS5, hM10, hB10, hn9, hsz9⟩ := HX.out
              have hset : Behind w9 [br] ((w9.setCell ⟨br, 6, none⟩ (.slice p9 (s1.cl.length + 1) c9)).setCell ⟨br, 7, none⟩ (.bool true)) := behind_set.trans behind_set (by simp)
              refine ⟨j + 1, { s1 with cl := s1.cl ++ [x], op := true }, ⟨vL, vS, vW, .slice p9 (s1.cl.length + 1) c9⟩, by omega, by go_num, by simp; omega, by simp; omega, HG5.out, ⟨heap_setCell_same _ br 7 _ _ _ (heap_setCell_same _ br 6 _ _ _ hk9), hS3.keep hset (by simp; omega), hS5.keep hset (by simp; omega), hR9.keep hset (fun g hg => by simp at hg; omega), hord, by have := hset.size; omega, hrg⟩, fun g hg => ?_, hset.keep hM10 (by simp; omega), hB10.trans hset (fun g hg => .inl (by simp at hg; simp [hg])), ?_⟩
              · rcases DV.mem.1 hg with hg | hg | hg | hg
                · exact HV.out g (DV.mem.2 (.inl hg))
                · exact HV.out g (DV.mem.2 (.inr (.inl hg)))
                · exact HV.out g (DV.mem.2 (.inr (.inr (.inl hg))))
                · exact (hn9 g hg).elim (fun e => HV.out g (DV.mem.2 (.inr (.inr (.inr e))))) (fun e => .inr (by have := HSZ.out; omega))
              · have := hset.size; have := HSZ.out
                show w3.heap.size ≤ _
                omega
            case measure => simp [intOf]; omega
        · obtain rfl : j = nums.length := by omega
          have hdd : decide (nums.length < nums.length) = false := by simp
          have HF3 := Lib.hid (show R = (s1, 0) by rw [HF2.out, HG.out, List.drop_length]; rfl)
          go_wp2_with fail
          rw [HP.out, HF3.out]
          exact ⟨rfl, HBh.out, fun _ => ⟨v1, HS.out, fun g hg => (HV.out g hg).imp id (fun h => by have := HB.out.size; omega)⟩⟩
end Go.Proofs.YtajjgfiojlagmaaGreatDoor

/- The reader's lines: which reader reads what. -/
namespace Go.Proofs.YtajjgfiojlagmaaGreatDoor
open Go.RowKit Go.Maps

theorem Tryz.keyStr : Keyed Tryz.prog 9 := string_keyed Tryz.underlying9
theorem formP (fp : Value) (w : World) : ∃ W1, (Instr.mapUpdate 86 (.map (some w.heap.size)) (.string ⟨#[112]⟩) fp).run Tryz.prog (w.alloc (.map #[] 0)) = .ok () W1 ∧ W1.heap[w.heap.size]? = some (.map #[⟨.string ⟨#[112]⟩, fp, 0⟩] 1) ∧ Below w.heap.size w W1 := by
  have hb : (w.alloc (.map #[] 0)).heap[w.heap.size]? = some (.map #[] 0) := new_one _ _
  have hkey : keyOf Tryz.prog 9 (.string ⟨#[112]⟩) = some _ := Go.WideMaps.keyOf_string_mk Tryz.underlying9 (by decide)
  have hlt : w.heap.size < (w.alloc (.map #[] 0)).heap.size := lt_of_heap hb
  refine ⟨{ (w.alloc (.map #[] 0)) with heap := (w.alloc (.map #[] 0)).heap.setIfInBounds w.heap.size (.map #[⟨.string ⟨#[112]⟩, fp, 0⟩] 1) }, ?_, ?_, ?_⟩
  · simp [Instr.mapUpdate, run_underlying Tryz.underlying86, Go.MapKept.run_getObj_map hb, Tryz.keyStr.check _ _ hkey, Go.MapKept.run_findKey Tryz.underlying9 (show Instr.findNow .string (.string ⟨#[112]⟩) (#[] : Array MapEntry).toList 0 = some none from rfl), Go.MapKept.run_setObj_map _ hb, Result.andThen]
  · show ((w.alloc (.map #[] 0)).heap.setIfInBounds w.heap.size _)[w.heap.size]? = _
    rw [Array.getElem?_setIfInBounds_self_of_lt hlt]
  · refine ⟨rfl, rfl, rfl, by simp, fun k hk => ?_⟩
    show ((w.alloc (.map #[] 0)).heap.setIfInBounds w.heap.size _)[k]? = _
    rw [Array.getElem?_setIfInBounds_ne (by omega)]
    exact (below_one w (.map #[] 0)).block k hk
theorem formC (e1 : MapEntry) (he : e1.key = .string ⟨#[112]⟩) (fc : Value) {w : World} {g : Nat} (hb : w.heap[g]? = some (.map #[e1] 1)) : ∃ W1, (Instr.mapUpdate 86 (.map (some g)) (.string ⟨#[99]⟩) fc).run Tryz.prog w = .ok () W1 ∧ W1.heap[g]? = some (.map #[e1, ⟨.string ⟨#[99]⟩, fc, 1⟩] 2) ∧ Behind w [g] W1 := by
  have hkey : keyOf Tryz.prog 9 (.string ⟨#[99]⟩) = some _ := Go.WideMaps.keyOf_string_mk Tryz.underlying9 (by decide)
  have hlt : g < w.heap.size := lt_of_heap hb
  have hf : Instr.findNow .string (.string ⟨#[99]⟩) (#[e1] : Array MapEntry).toList 0 = some none := by
    simp only [Instr.findNow, he, Instr.sameNow]
    rfl
  refine ⟨{ w with heap := w.heap.setIfInBounds g (.map #[e1, ⟨.string ⟨#[99]⟩, fc, 1⟩] 2) }, ?_, ?_, ?_⟩
  · simp [Instr.mapUpdate, run_underlying Tryz.underlying86, Go.MapKept.run_getObj_map hb, Tryz.keyStr.check _ _ hkey, Go.MapKept.run_findKey Tryz.underlying9 hf, Go.MapKept.run_setObj_map _ hb, Result.andThen]
  · show (w.heap.setIfInBounds g _)[g]? = _
    rw [Array.getElem?_setIfInBounds_self_of_lt hlt]
  · refine ⟨rfl, rfl, rfl, by simp, fun k hk hn => ?_⟩
    have hne : g ≠ k := fun e => hn (by simp [e])
    show (w.heap.setIfInBounds g _)[k]? = _
    rw [Array.getElem?_setIfInBounds_ne hne]
theorem Tryz.zeroForm (w : World) : (zeroValue 62).run Tryz.prog w = .ok .nilFunc w := by kernel_rfl
theorem formL (fp fc : Value) (s1 s2 k : Nat) {w : World} {g : Nat} (hb : w.heap[g]? = some (.map #[⟨.string ⟨#[112]⟩, fp, s1⟩, ⟨.string ⟨#[99]⟩, fc, s2⟩] k)) (x : List UInt8) (hx : x.length ≤ 1100000) :
    (Instr.lookup 86 (.map (some g)) (.string ⟨x.toArray⟩) true).run Tryz.prog w = .ok (.tuple #[if x = [112] then fp else if x = [99] then fc else .nilFunc, .bool (decide (x = [112] ∨ x = [99]))]) w := by
  have hkey : keyOf Tryz.prog 9 (.string ⟨x.toArray⟩) = some _ := Go.WideMaps.keyOf_string_mk Tryz.underlying9 (by rw [ba_size]; unfold maxLen; omega)
  have hq : ∀ z : List UInt8, ((⟨x.toArray⟩ : ByteArray) == ⟨z.toArray⟩) = decide (x = z) := fun z => by
    have e : ((⟨x.toArray⟩ : ByteArray) == ⟨z.toArray⟩) = (x.toArray == z.toArray) := rfl
    rw [e]
    by_cases h : x = z
    · subst h; simp
    · rw [decide_eq_false h, beq_eq_false_iff_ne]
      intro e2
      exact h (by simpa using e2)
  have h1 := hq [112]
  have h2 := hq [99]
  by_cases hp : x = [112]
  · subst hp
    have hf : Instr.findNow .string (.string ⟨[112].toArray⟩) (#[⟨.string ⟨#[112]⟩, fp, s1⟩, ⟨.string ⟨#[99]⟩, fc, s2⟩] : Array MapEntry).toList 0 = some (some (0, fp)) := by
      simp only [Instr.findNow, Instr.sameNow]
      rfl
    simp [Instr.lookup, run_underlying Tryz.underlying86, Go.MapKept.run_getObj_map hb, Tryz.keyStr.check _ _ hkey, Go.MapKept.run_findKey Tryz.underlying9 hf, Result.andThen]
  · by_cases hc : x = [99]
    · subst hc
      have hf : Instr.findNow .string (.string ⟨[99].toArray⟩) (#[⟨.string ⟨#[112]⟩, fp, s1⟩, ⟨.string ⟨#[99]⟩, fc, s2⟩] : Array MapEntry).toList 0 = some (some (1, fc)) := by
        simp only [Instr.findNow, Instr.sameNow]
        rfl
      simp [Instr.lookup, run_underlying Tryz.underlying86, Go.MapKept.run_getObj_map hb, Tryz.keyStr.check _ _ hkey, Go.MapKept.run_findKey Tryz.underlying9 hf, Result.andThen]
    · have hf : Instr.findNow .string (.string ⟨x.toArray⟩) (#[⟨.string ⟨#[112]⟩, fp, s1⟩, ⟨.string ⟨#[99]⟩, fc, s2⟩] : Array MapEntry).toList 0 = some none := by
        rw [decide_eq_false hp] at h1
        rw [decide_eq_false hc] at h2
        simp only [Instr.findNow, Instr.sameNow]
        rw [show ((⟨x.toArray⟩ : ByteArray) == ⟨#[112]⟩) = false from h1, show ((⟨x.toArray⟩ : ByteArray) == ⟨#[99]⟩) = false from h2]
      simp [Instr.lookup, run_underlying Tryz.underlying86, Go.MapKept.run_getObj_map hb, Tryz.keyStr.check _ _ hkey, Go.MapKept.run_findKey Tryz.underlying9 hf, Tryz.zeroForm, Result.andThen, hp, hc]
theorem RdPost.from {w w1 w' : World} {br ms mh b : Nat} {v : DV} {r : DS × Int} {e : Ending} (hb : Below w.heap.size w w1) (h : RdPost w1 br ms mh b v r e w') : RdPost w br ms mh b v r e w' := by
  obtain ⟨h1, h2, h3⟩ := h
  refine ⟨h1, ((behind_of_below hb).mono (by simp)).trans h2 (fun g hg => .inl hg), fun h => ?_⟩
  obtain ⟨v', h4, h5⟩ := h3 h
  exact ⟨v', h4, fun g hg => (h5 g hg).imp id (fun e => Nat.le_trans hb.size e)⟩

set_option maxHeartbeats 3200000 in
set_option maxRecDepth 100000 in
theorem gLine (w : World) (br ms mh b : Nat) (st : DS) (v : DV) (h : Rdr w br ms mh b st v) (r : List (List UInt8)) (hl : ∀ x ∈ r, x.length ≤ 1100000) (hr : r.length ≤ 1100001) (hsl : st.sh.length ≤ 10000000) (hwl : st.ws.length ≤ 10000000) (hLl : st.L.length ≤ 10000000) (hcl : st.cl.length ≤ 128) (a : Option Addr) (c : Nat) (hc : r.length ≤ c) (hcm : c ≤ maxLen) (hA : AtN w.heap.size w a (strs r)) (hap : Apart b v a) (hM0 : ∃ m, w.cell? ⟨1, 0, none⟩ = some (.int .i64 m)) :
    Calls Tryz.prog 21 #[.pointer (some ⟨br, 0, none⟩), .slice a r.length c] w (RdPost w br ms mh b v (lineD rdD st r)) := by
  have hmf : ∀ (fn : Fn) (first cap : Array Value) (w : World), (Instr.makeFunc fn first cap).run Tryz.prog w = .ok (.func fn first cap) w := fun _ _ _ _ => rfl
  have hmm : ∀ (ty : TypeId) (w : World), (Instr.makeMap ty none).run Tryz.prog w = .ok (.map (some w.heap.size)) (w.alloc (.map #[] 0)) := fun _ _ => rfl
  obtain ⟨Post, hPost⟩ : ∃ P : Ending → World → Prop, P = RdPost w br ms mh b v (lineD rdD st r) := ⟨_, rfl⟩
  rw [← hPost]
  have HP := Lib.hid hPost
  clear hPost
  have H := Lib.hid h
  cases r with
  | nil =>
    go_enter Tryz.func21, Tryz.ntmps21
    go_wp2_with fail
    rw [HP.out]
    exact RdPost.same H.out (Below.refl _ _)
  | cons x0 t =>
  obtain ⟨b0, o0, hb0, rfl, k0⟩ := hA 0 _ (strs_get (x0 :: t) 0 x0 rfl)
  rw [Nat.add_zero] at k0
  have hx0 := hl x0 (by simp)
  have hgm : w.heap.size ≠ 0 := by have := lt_of_heap h.blk; omega
  obtain ⟨w1, hrun1, hm1, hB1⟩ := formP (.func (.func 39) #[.pointer (some ⟨br, 0, none⟩)] #[]) w
  obtain ⟨w2, hrun2, hm2, hB2⟩ := formC _ rfl (.func (.func 40) #[.pointer (some ⟨br, 0, none⟩)] #[]) hm1
  have hlook := formL _ _ _ _ _ hm2 x0 hx0
  have hB12 : Below w.heap.size w w2 := hB1.trans (hB2.below_of (by simp) hB1.size)
  have HB := Lib.hid hB12
  have hS2 := h.keepB hB12
  have k02 := below_cell hB12 hb0 k0
  have hbk := Nat.lt_of_lt_of_le hb0 hB12.size
  have hM2 : ∃ m, w2.cell? ⟨1, 0, none⟩ = some (.int .i64 m) := by
    obtain ⟨m, hm⟩ := hM0
    exact ⟨m, below_cell hB12 (block_lt_of_cell hm) hm⟩
  have hA2 : AtN w2.heap.size w2 (some ⟨b0, o0, none⟩) (strs (x0 :: t)) := (hA.below hB12 (Nat.le_refl _)).mono hB12.size
  have hA3 : AtN w2.heap.size w2 (some ⟨b0, o0 + 1, none⟩) (strs t) := by
    have := at_piece hA2 1 (x0 :: t).length
    rw [List.take_length] at this
    exact this
  have hap3 : Apart b v (some ⟨b0, o0 + 1, none⟩) := fun g o x hg => by
    cases hg
    exact hap _ _ _ rfl
  simp only [List.length_cons] at hr hc
  have hlt : ∀ x ∈ t, x.length ≤ 1100000 := fun x hx => hl x (List.mem_cons_of_mem _ hx)
  have KP := Lib.hid (fun c' => gProblem w2 br ms mh b st v hS2 t hlt (by omega) (some ⟨b0, o0 + 1, none⟩) c' hA3)
  have KC := Lib.hid (fun c' hc' hcm' => gComment w2 br ms mh b st v hS2 t hlt (by omega) hsl hwl (some ⟨b0, o0 + 1, none⟩) c' hc' hcm' hA3 hap3 hM2)
  have hA0 : t.length = 0 → AtN w2.heap.size w2 (some ⟨b0, o0, none⟩) (strs t) := fun h0 => by
    rw [List.length_eq_zero_iff.1 h0]
    exact fun i u hi => by simp [strs] at hi
  have KP0 := Lib.hid (fun (h0 : t.length = 0) => gProblem w2 br ms mh b st v hS2 t hlt (by omega) (some ⟨b0, o0, none⟩) 0 (hA0 h0))
  have KC0 := Lib.hid (fun (h0 : t.length = 0) => gComment w2 br ms mh b st v hS2 t hlt (by omega) hsl hwl (some ⟨b0, o0, none⟩) 0 (by omega) (by unfold maxLen; omega) (hA0 h0) hap hM2)
  have KL := Lib.hid (gLiterals w2 br ms mh b st v hS2 (x0 :: t) hl (by simp only [List.length_cons]; omega) hLl hcl (some ⟨b0, o0, none⟩) c hA2)
  have HLD := Lib.hid (show lineD rdD st (x0 :: t) = if x0 = [112] then problemD st t else if x0 = [99] then commentD rdD st t else litsD st (x0 :: t) from rfl)
  clear hA hA2 hA3 hap hap3 hM0 hM2 hS2 hm1 hm2 hB1 hB2 hB12 hlt hl hA0
  by_cases hp : x0 = [112]
  · rw [if_pos hp, decide_eq_true (Or.inl hp)] at hlook
    have HF := Lib.hid (HLD.out.trans (if_pos hp))
    generalize (⟨x0.toArray⟩ : ByteArray) = y0 at *
    clear hp
    go_enter Tryz.func21, Tryz.ntmps21
    go_wp2_with fail
    rotate_left
    · refine (KP.out (c - 1)).mono ?_
      rintro e w3 hq
      obtain ⟨rfl, hq2⟩ := hq
      have HQ := Lib.hid hq2
      clear hq2
      go_wp2_with fail
      rw [HP.out, HF.out]
      exact RdPost.from HB.out ⟨rfl, HQ.out.1, HQ.out.2⟩
    · refine (KP0.out (by omega)).mono ?_
      rintro e w3 hq
      obtain ⟨rfl, hq2⟩ := hq
      have HQ := Lib.hid hq2
      clear hq2
      go_wp2_with fail
      rw [HP.out, HF.out]
      exact RdPost.from HB.out ⟨rfl, HQ.out.1, HQ.out.2⟩
  by_cases hq : x0 = [99]
  · rw [if_neg hp, if_pos hq, decide_eq_true (Or.inr hq)] at hlook
    have HF := Lib.hid (HLD.out.trans ((if_neg hp).trans (if_pos hq)))
    generalize (⟨x0.toArray⟩ : ByteArray) = y0 at *
    clear hp hq
    go_enter Tryz.func21, Tryz.ntmps21
    go_wp2_with fail
    rotate_left
    · refine (KC.out (c - 1) (by omega) (by omega)).mono ?_
      rintro e w3 hq
      obtain ⟨rfl, hq2⟩ := hq
      have HQ := Lib.hid hq2
      clear hq2
      go_wp2_with fail
      rw [HP.out, HF.out]
      exact RdPost.from HB.out ⟨rfl, HQ.out.1, HQ.out.2⟩
    · refine (KC0.out (by omega)).mono ?_
      rintro e w3 hq
      obtain ⟨rfl, hq2⟩ := hq
      have HQ := Lib.hid hq2
      clear hq2
      go_wp2_with fail
      rw [HP.out, HF.out]
      exact RdPost.from HB.out ⟨rfl, HQ.out.1, HQ.out.2⟩
  · rw [if_neg hp, if_neg hq, decide_eq_false (show ¬ (x0 = [112] ∨ x0 = [99]) by simp [hp, hq])] at hlook
    have HF := Lib.hid (HLD.out.trans ((if_neg hp).trans (if_neg hq)))
    generalize (⟨x0.toArray⟩ : ByteArray) = y0 at *
    clear hp hq
    go_enter Tryz.func21, Tryz.ntmps21
    go_wp2_with fail
    refine KL.out.mono ?_
    rintro e w3 hq
    obtain ⟨rfl, hq2⟩ := hq
    have HQ := Lib.hid hq2
    clear hq2
    go_wp2_with fail
    rw [HP.out, HF.out]
    exact RdPost.from HB.out ⟨rfl, HQ.out.1, HQ.out.2⟩
end Go.Proofs.YtajjgfiojlagmaaGreatDoor
