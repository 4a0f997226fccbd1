/- Texts of this claim, joined: DVl, D9, D10, D5X, D26. -/
import Derived.Test.YtajjgfiojlagmaaGreatDoorMO21
import Derived.Laws.BitsAllLaws
import Derived.Test.YtajjgfiojlagmaaGreatDoorMO18
import Derived.Deep.DeepCutAuto

/- Which literals are literals of n variables. -/
namespace Go.Proofs.YtajjgfiojlagmaaGreatDoor
open Go.RowKit

theorem validD_iff {l n : Int} : validD l n = true ↔ l ≠ 0 ∧ -n ≤ l ∧ l ≤ n := by simp [validD]
def varI (l : Int) : Int := if 1 ≤ l ∧ l ≤ 128 then l else if l ≤ -1 ∧ -128 ≤ l then -l else 0

set_option maxHeartbeats 1600000 in
set_option maxRecDepth 100000 in
theorem gVar (l : Int) : Gives 54 #[.int .i64 l] (.int .i64 (varI l)) := by
  intro w
  by_cases h1 : 1 ≤ l
  · by_cases h2 : l ≤ 128
    · have HQ := Lib.hid (show varI l = l from if_pos ⟨h1, h2⟩)
      go_enter Tryz.func54, Tryz.ntmps54
      go_wp2_with fail
      go_ret
      exact ⟨by rw [HQ.out]; rfl, Below.refl _ _⟩
    · have HQ := Lib.hid (show varI l = 0 by unfold varI; rw [if_neg (by omega), if_neg (by omega)])
      have h3 : ¬ l ≤ -1 := by omega
      go_enter Tryz.func54, Tryz.ntmps54
      go_wp2_with fail
      go_ret
      exact ⟨by rw [HQ.out]; rfl, Below.refl _ _⟩
  · by_cases h2 : l ≤ -1
    · by_cases h3 : -128 ≤ l
      · have HQ := Lib.hid (show varI l = -l by unfold varI; rw [if_neg (by omega), if_pos ⟨h2, h3⟩])
        go_enter Tryz.func54, Tryz.ntmps54
        go_wp2_with fail
        go_ret
        exact ⟨by rw [HQ.out]; rfl, Below.refl _ _⟩
      · have HQ := Lib.hid (show varI l = 0 by unfold varI; rw [if_neg (by omega), if_neg (by omega)])
        go_enter Tryz.func54, Tryz.ntmps54
        go_wp2_with fail
        go_ret
        exact ⟨by rw [HQ.out]; rfl, Below.refl _ _⟩
    · have HQ := Lib.hid (show varI l = 0 by unfold varI; rw [if_neg (by omega), if_neg (by omega)])
      go_enter Tryz.func54, Tryz.ntmps54
      go_wp2_with fail
      go_ret
      exact ⟨by rw [HQ.out]; rfl, Below.refl _ _⟩

set_option maxHeartbeats 1600000 in
set_option maxRecDepth 100000 in
theorem gValid (l n : Int) (hn : n ≤ 128) : Gives 30 #[.int .i64 l, .int .i64 n] (.bool (validD l n)) := by
  intro w
  have KV := gVar l
  by_cases h0 : varI l = 0
  · have HQ := Lib.hid (show validD l n = false by
      rw [Bool.eq_false_iff]; intro h
      rw [validD_iff] at h
      unfold varI at h0
      split at h0
      · omega
      · split at h0 <;> omega)
    rw [h0] at KV
    clear h0
    go_enter Tryz.func30, Tryz.ntmps30
    go_wp2_with fail
    refine (KV _).mono ?_
    rintro r1 w1 ⟨rfl, hB1⟩
    have HB1 := Lib.hid hB1
    clear hB1
    go_wp2_with fail
    go_ret
    exact ⟨by rw [HQ.out]; rfl, HB1.out⟩
  · have HQ := Lib.hid (show validD l n = decide (varI l ≤ n) by
      rw [Bool.eq_iff_iff, validD_iff, decide_eq_true_eq]
      unfold varI at h0 ⊢
      split at h0
      · omega
      · split at h0 <;> omega)
    generalize varI l = v at *
    have hv : (v != 0) = true := by simp [bne, beq_no h0]
    clear h0
    go_enter Tryz.func30, Tryz.ntmps30
    go_wp2_with fail
    refine (KV _).mono ?_
    rintro r1 w1 ⟨rfl, hB1⟩
    have HB1 := Lib.hid hB1
    clear hB1
    go_wp2_with fail
    refine (KV _).mono ?_
    rintro r2 w2 ⟨rfl, hB2⟩
    have HB2 := Lib.hid (HB1.out.trans (hB2.mono HB1.out.size))
    clear hB2
    go_wp2_with fail
    go_ret
    exact ⟨by rw [HQ.out]; rfl, HB2.out⟩


set_option maxHeartbeats 1600000 in
set_option maxRecDepth 100000 in
theorem xValid (l n : Int) (h0 : 0 ≤ n) (hn : n ≤ 128) : Gives 35 #[.int .i64 l, .int .i64 n] (.bool (validD l n)) := by
  intro w
  have HQ := Lib.hid (show validD l n = (decide (l ≠ 0) && (decide (-n ≤ l) && decide (l ≤ n))) from rfl)
  by_cases h1 : l = 0
  · have hb : (l != 0) = false := by simp [h1]
    have HV := Lib.hid (show validD l n = false by rw [HQ.out, decide_eq_false (by omega)]; rfl)
    clear h1
    go_enter Tryz.func35, Tryz.ntmps35
    go_wp2_with fail
    go_ret
    exact ⟨by rw [HV.out]; rfl, Below.refl _ _⟩
  have hb : (l != 0) = true := by simp [bne, beq_no h1]
  by_cases h2 : -n ≤ l
  · have d2 : decide (-n ≤ l) = true := decide_eq_true h2
    by_cases h3 : l ≤ n
    · have d3 : decide (l ≤ n) = true := decide_eq_true h3
      have HV := Lib.hid (show validD l n = true by rw [HQ.out, decide_eq_true h1, d2, d3]; rfl)
      go_enter Tryz.func35, Tryz.ntmps35
      go_wp2_with fail
      go_ret
      exact ⟨by rw [HV.out]; rfl, Below.refl _ _⟩
    · have d3 : decide (l ≤ n) = false := decide_eq_false h3
      have HV := Lib.hid (show validD l n = false by rw [HQ.out, decide_eq_true h1, d2, d3]; rfl)
      go_enter Tryz.func35, Tryz.ntmps35
      go_wp2_with fail
      go_ret
      exact ⟨by rw [HV.out]; rfl, Below.refl _ _⟩
  · have d2 : decide (-n ≤ l) = false := decide_eq_false h2
    have HV := Lib.hid (show validD l n = false by rw [HQ.out, decide_eq_true h1, d2]; rfl)
    go_enter Tryz.func35, Tryz.ntmps35
    go_wp2_with fail
    go_ret
    exact ⟨by rw [HV.out]; rfl, Below.refl _ _⟩
end Go.Proofs.YtajjgfiojlagmaaGreatDoor

/- The reader's weight. -/
namespace Go.Proofs.YtajjgfiojlagmaaGreatDoor
open Go.RowKit Num

def rdD (x : List UInt8) : Bool := (ratRead ⟨x.toArray⟩).isSome
theorem Tryz.infoWt : (Tryz.prog.info? 48).map (fun i => (i.zero, i.size, i.bytes)) = some (some (.agg #[.int .i64 0, .string ⟨#[]⟩]), 2, 24) := by kernel_rfl
def Apart (b : Nat) (v : DV) (a : Option Addr) : Prop := ∀ g o x, a = some ⟨g, o, x⟩ → b ≤ g ∧ g ∉ v.M

set_option maxHeartbeats 3200000 in
set_option maxRecDepth 100000 in
theorem gWeight (w : World) (br ms mh b : Nat) (st : DS) (v : DV) (h : Rdr w br ms mh b st v) (r : List (List UInt8)) (hl : ∀ x ∈ r, x.length ≤ 1100000) (hr : r.length ≤ 1100001) (hsl : st.ws.length ≤ 10000000) (a : Option Addr) (c : Nat) (hA : AtN w.heap.size w a (strs r)) (hap : Apart b v a) (hM0 : ∃ m, w.cell? ⟨1, 0, none⟩ = some (.int .i64 m)) :
    Calls Tryz.prog 67 #[.pointer (some ⟨br, 0, none⟩), .slice a r.length c] w (RdPost w br ms mh b v (weightD rdD st r)) := by
  obtain ⟨i0, ii, iz0, iz1, iz2⟩ := info_parts Tryz.infoWt
  have II := Lib.hid ii
  have IZ0 := Lib.hid iz0
  have IZ1 := Lib.hid iz1
  have IZ2 := Lib.hid iz2
  clear ii iz0 iz1 iz2
  obtain ⟨R, hR⟩ : ∃ R : DS × Int, R = weightD rdD st r := ⟨_, rfl⟩
  rw [← hR]
  obtain ⟨Post, hPost⟩ : ∃ P : Ending → World → Prop, P = RdPost w br ms mh b v R := ⟨_, rfl⟩
  rw [← hPost]
  have HP := Lib.hid hPost
  clear hPost
  have H := Lib.hid h
  have HBr := Lib.hid h.blk
  have hbr : br < w.heap.size := lt_of_heap h.blk
  clear h
  by_cases h2 : r.length = 2
  case neg =>
    have HR := Lib.hid (show R = (st, 5) by rw [hR]; unfold weightD; rw [if_pos h2])
    have hq : ((r.length : Int) != 2) = true := by simp [bne, beq_no (show (r.length : Int) ≠ 2 by omega)]
    clear hR hA hl h2
    go_enter Tryz.func67, Tryz.ntmps67
    go_wp2_with fail
    rw [HP.out, HR.out]
    exact RdPost.err (Below.refl _ _) (by simp)
  obtain ⟨x0, x1, rfl⟩ : ∃ x0 x1, r = [x0, x1] := by
    match r, h2 with
    | [x0, x1], _ => exact ⟨_, _, rfl⟩
  obtain ⟨b0, o0, hb0, rfl, k0⟩ := hA 0 _ (strs_get [x0, x1] 0 x0 rfl)
  rw [Nat.add_zero] at k0
  obtain ⟨b1, o1, hb1, e1, k1⟩ := hA 1 _ (strs_get [x0, x1] 1 x1 rfl)
  cases e1
  obtain ⟨hbb, hbM⟩ := hap _ _ _ rfl
  have HBM := Lib.hid hbM
  have K1 := Lib.hid k1
  have hx0 := hl x0 (by simp)
  have hx1 := hl x1 (by simp)
  have N1 := gLiteral x0 hx0
  have N2 := gRatRead w ⟨x1.toArray⟩ (by rw [ba_size]; exact hx1) hM0
  have HR := Lib.hid (show R = if litD x0 = 0 ∨ rdD x1 = false then (st, 5) else if litD x0 ∈ st.ws.map (·.1) then (st, 4) else if validD (litD x0) st.n = false then (st, 6) else ({ st with ws := st.ws ++ [(litD x0, x1)] }, 0) by rw [hR]; unfold weightD; rw [if_neg (by simp)]; rfl)
  have hin := litD_in x0
  have HOK := Lib.hid (show (ratRead ⟨x1.toArray⟩).isSome = rdD x1 from rfl)
  unfold ratV at N2
  rw [HOK.out] at N2
  generalize litD x0 = l at *
  generalize rdD x1 = ok at *
  generalize ((ratRead ⟨x1.toArray⟩).getD (0, 0)) = q at *
  generalize (⟨x0.toArray⟩ : ByteArray) = y0 at *
  obtain ⟨y1, hy1⟩ : ∃ y1 : ByteArray, y1 = ⟨x1.toArray⟩ := ⟨_, rfl⟩
  rw [← hy1] at N2 K1
  have HY1 := Lib.hid hy1
  obtain ⟨lb, hlb⟩ : ∃ lb, lb = decide (l ≠ 0) := ⟨_, rfl⟩
  rw [← hlb] at N1
  have HLB := Lib.hid hlb
  generalize nb q.1 = q1 at *
  generalize nb q.2 = q2 at *
  clear hA hl hr h2 hR k1 hM0 hap hbM HOK hy1 hlb
  go_enter Tryz.func67, Tryz.ntmps67
  go_wp2_with fail
  refine (N1 w).mono ?_
  rintro e w1 ⟨rfl, hB⟩
  have HB1 := Lib.hid hB
  have k1 := below_cell hB hb1 K1.out
  clear hB N1 k0
  go_wp2_with fail
  refine (N2 w1 HB1.out).mono ?_
  rintro e w2 ⟨rfl, hB⟩
  have HB2 := Lib.hid (HB1.out.trans (hB.mono HB1.out.size))
  clear hB N2 k1 HB1
  go_upto_region 5 with fail
  refine wp_gen ?_
  intro w3 hw3
  have HB3 := Lib.hid (show Below w.heap.size w w3 by rw [hw3]; exact HB2.out.trans ((below_one w2 _).mono HB2.out.size))
  clear hw3
  by_cases hbad : l = 0 ∨ ok = false
  · have HF := Lib.hid (HR.out.trans (if_pos hbad))
    by_cases hl0 : l = 0
    · have hd : lb = false := HLB.out.trans (decide_eq_false (by simpa using hl0))
      subst hd
      clear hbad hl0 HR
      go_wp2_with fail
      rw [HP.out, HF.out]
      exact RdPost.err HB3.out (by simp)
    · have hd : lb = true := HLB.out.trans (decide_eq_true hl0)
      have hok : ok = false := by simpa [hl0] using hbad
      subst hok
      subst hd
      clear hbad HR
      go_wp2_with fail
      rw [HP.out, HF.out]
      exact RdPost.err HB3.out (by simp)
  obtain ⟨hl0, hok⟩ : l ≠ 0 ∧ ok = true := by simpa using hbad
  subst hok
  have hd : lb = true := HLB.out.trans (decide_eq_true hl0)
  subst hd
  have hS := H.out.keepB HB3.out
  have HS := Lib.hid hS
  have HG2 := Lib.hid (HR.out.trans (if_neg hbad))
  have c9 := blk_cell hS.blk 9 rfl
  have c0 := blk_cell hS.blk 0 rfl
  have hrg := hS.rng
  have hx64 : -9223372036854775808 ≤ l ∧ l ≤ 9223372036854775807 := by omega
  clear hS HR hbad
  by_cases hm : l ∈ st.ws.map (·.1)
  · have HF2 := Lib.hid (HG2.out.trans (if_pos hm))
    have HL := Lib.hid (set_look HS.out.s2 l hx64)
    rw [decide_eq_true hm] at HL
    clear hm HG2
    go_wp2_with (at_lookup; refine wpList_look_run _ rfl _ _ _ rfl _ _ _ rfl rfl HL.out ?_)
    go_wp2_with fail
    rw [HP.out, HF2.out]
    exact RdPost.err HB3.out (by simp)
  have HL := Lib.hid (set_look HS.out.s2 l hx64)
  rw [decide_eq_false hm] at HL
  have KV := gValid l st.n hrg.2
  cases hv : validD l st.n with
  | false =>
    have HF2 := Lib.hid (HG2.out.trans ((if_neg hm).trans (if_pos hv)))
    rw [hv] at KV
    clear hm HG2 hv
    go_wp2_with (at_lookup; refine wpList_look_run _ rfl _ _ _ rfl _ _ _ rfl rfl HL.out ?_)
    go_wp2_with fail
    refine (KV _).mono ?_
    rintro e w4 ⟨rfl, hB⟩
    have HB4 := Lib.hid (HB3.out.trans (hB.mono HB3.out.size))
    clear hB KV
    go_wp2_with fail
    rw [HP.out, HF2.out]
    exact RdPost.err HB4.out (by simp)
  | true =>
  have HF2 := Lib.hid (HG2.out.trans ((if_neg hm).trans (if_neg (by rw [hv]; simp))))
  rw [hv] at KV
  go_wp2_with (at_lookup; refine wpList_look_run _ rfl _ _ _ rfl _ _ _ rfl rfl HL.out ?_)
  go_wp2_with fail
  refine (KV _).mono ?_
  rintro e w4 ⟨rfl, hB⟩
  have HB4 := Lib.hid (HB3.out.trans (hB.mono HB3.out.size))
  have hS4 := HS.out.keepB hB
  have HS4 := Lib.hid hS4
  have c9' := blk_cell hS4.blk 9 rfl
  obtain ⟨wm, hrun, hset, hbm⟩ := set_put hS4.s2 l hx64 hm
  have HRN := Lib.hid hrun
  have HST := Lib.hid hset
  have HBm := Lib.hid hbm
  have hord := hS4.ord
  have hbw := hS4.bw
  have hwm := hbm.size
  have HRW := Lib.hid (hS4.rows.keep hbm (fun g hg => by simp at hg; omega))
  have HBK := Lib.hid (hbm.keep hS4.blk (by simp; omega))
  have K1m := Lib.hid ((World.cell?_of_block (a := ⟨b0, o0 + 1, none⟩) (hbm.block b0 (by have := HB4.out.size; omega) (by simp; omega))).trans (below_cell HB4.out hb1 K1.out))
  clear hB KV hm hv hS4 hrun hset hbm c9 c0 HG2 HL
  go_wp2_with (at_mapUpdate; refine wpList_put_run _ wm rfl _ _ _ _ rfl _ _ _ rfl rfl rfl HRN.out ?_)
  go_frame
  obtain ⟨kF1, hkF1⟩ : ∃ kF1, kF1 = kA v.W st.ws.length 1 := ⟨_, rfl⟩
  have hkF1' : kF1 = 2 ∨ kF1 = 5 := by rw [hkF1]; exact kA_or _ _ _
  have HK1 := Lib.hid hkF1
  clear hkF1
  have hWM : ∀ g ∈ rowBlk v.W, g ∈ v.M := fun g hg => DV.mem.2 (.inr (.inr (.inl hg)))
  have HWG := Lib.hid (show ∀ g ∈ rowBlk v.W, b ≤ g from fun g hg => HRW.out.ge g (hWM g hg))
  have HLT1 := Lib.hid HRW.out.rW.lt
  have HnS := Lib.hid (show br ∉ rowBlk v.W from fun hg => by have := HWG.out br hg; omega)
  have HnW := Lib.hid (show b0 ∉ rowBlk v.W from fun hg => HBM.out (hWM _ hg))
  have hb0m : b0 < wm.heap.size := by have := HB4.out.size; omega
  refine wp_game_tail 16 [0, 0, 0, 0, 0, 0, 0, 0, 0, 0, 0, 3, kF1, 0, 0, 0, 0] (rowBlk v.W) (rowB wm v.W) (fin_rowB _ _) (has_rowB _ _) (by kernel_rfl) (by rcases hkF1' with h | h <;> rw [h] <;> kernel_rfl) ?_
  simp only [List.take_succ_cons, List.take_zero]
  refine lex_quietE 11 (by kernel_rfl) (by rfl) ?_
  apply Exists.intro
  refine ⟨fun z hz1 => ?_, ?_⟩
  · have g0 := blk_cellp (hz1.keep HBK.out HnS.out) 3 rfl
    have gz := (World.cell?_of_block (a := ⟨b0, o0 + 1, none⟩) (hz1.block b0 hb0m HnW.out)).trans K1m.out
    have g2 := fun p => plus_cell gz (block_lt_of_cell gz) p
    clear hz1 gz
    simp only [List.take_succ_cons, List.take_zero]
    unfold Cx
    repeat (go_big_quiet_step (fail))
    exact wpQuiet_nil rfl
  simp only [List.drop_succ_cons, List.drop_zero]
  refine lex_slice 1 (.cells #[.int .i64 l, .string y1] 48) (by rfl) (fun x => by go_simp) (fun g21 q21 hn21 => ?_)
  unfold setSlot
  go_big_quiet_step (fail)
  refine wpQuiet_nil ?_
  have n21v : g21 ∉ rowBlk v.W := fun h => by have := HLT1.out g21 h; omega
  clear hn21
  refine lex_append_v (.tmp 60) (.tmp 66) 26 48 i0 _ 2 24 Tryz.underlying26 II.out IZ0.out IZ1.out IZ2.out (by rfl) v.W st.ws.length (wts st.ws) ((rowV_rowB HRW.out.rW).of_put n21v) (by rfl) g21 1 1 [.int .i64 l, .string y1] 48 (by rfl) (Blocks.put_same _ _ _) rfl (by simp [Value.oneCell']) (by omega) (by unfold maxLen; omega) (by omega) (fun g hg => .inl hg) HK1.out (fun g22 c22 ob22 hr22 hg22 => ?_)
  unfold setSlot
  go_big_quiet_step (fail)
  refine wpQuiet_nil ?_
  have hn22 : ∀ g ∈ rowBlk (.slice (some ⟨g22, 0, none⟩) (st.ws.length + 1) c22), g ∈ rowBlk v.W ∨ wm.heap.size ≤ g := fun g hg => by
    have : g = g22 := by simpa [rowBlk] using hg
    subst this
    exact hg22.imp id (fun h => h.1)
  clear hg22
  refine lex_quietE 3 (by kernel_rfl) (by rfl) ?_
  apply Exists.intro
  refine ⟨fun z hz1 => ?_, ?_⟩
  · clear hz1
    simp only [List.take_succ_cons, List.take_zero]
    unfold Cx
    repeat (go_big_quiet_step (fail))
    exact wpQuiet_nil rfl
  simp only [List.drop_succ_cons, List.drop_zero]
  refine lex_nil ?_
  intro x2 hx2 hH2
  have hr9 := hr22.of_has hH2
  rw [HY1.out] at hr9
  have hR9 := HRW.out.appW (x := (l, x1)) (by omega) hx2 hr9 hn22
  have hk9 := hx2.keep HBK.out HnS.out
  have p3 := blk_cell hk9 3 rfl
  have f3 := blk_free hk9 3
  have hS3 := (HS4.out.s1.keep HBm.out (by simp; omega)).keep hx2 (fun hg => by have := HWG.out ms hg; omega)
  have hS4' := HST.out.keep hx2 (fun hg => by have := HWG.out mh hg; omega)
  have hB10 := (((behind_of_below HB4.out).mono (Wr' := br :: ms :: mh :: v.M) (by simp)).trans HBm.out (fun g hg => .inl (by simp at hg; simp [hg]))).trans hx2 (fun g hg => .inl (by simp [hWM g hg]))
  have HX := Lib.hid (And.intro hR9 (And.intro hk9 (And.intro hS3 (And.intro hS4' (And.intro hB10 (And.intro hn22 hx2.size))))))
  have hs4 := HB4.out.size
  clear hx2 hH2 hr9 hR9 hk9 hS3 hS4' hB10 hn22 hr22 hWM
  go_wp2_with fail
  rw [HP.out, HF2.out]
  obtain ⟨hR9, hk9, hS3, hS4', hB10, hn9, hsz9⟩ := HX.out
  refine ⟨rfl, hB10.trans behind_set (fun g hg => .inl (by simp at hg; simp [hg])), fun _ => ⟨{ v with W := .slice (some ⟨g22, 0, none⟩) (st.ws.length + 1) c22 }, ⟨heap_setCell_same _ br 3 _ _ _ hk9, hS3.keep behind_set (by simp; omega), ?_, hR9.keep behind_set (fun g hg => by simp at hg; omega), hord, by simp [World.setCell]; omega, hrg⟩, fun g hg => ?_⟩⟩
  · rw [List.map_append]
    exact hS4'.keep behind_set (by simp; omega)
  · rcases DV.mem.1 hg with hg | hg | hg | hg
    · exact .inl (DV.mem.2 (.inl hg))
    · exact .inl (DV.mem.2 (.inr (.inl hg)))
    · exact (hn9 g hg).imp (fun e => DV.mem.2 (.inr (.inr (.inl e)))) (fun e => by omega)
    · exact .inl (DV.mem.2 (.inr (.inr (.inr hg))))
end Go.Proofs.YtajjgfiojlagmaaGreatDoor

/- The reader's comments. -/
namespace Go.Proofs.YtajjgfiojlagmaaGreatDoor
open Go.RowKit

theorem at_piece {N : Nat} {w : World} {b o : Nat} {xs : List (List UInt8)} (h : AtN N w (some ⟨b, o, none⟩) (strs xs)) (k n : Nat) : AtN N w (some ⟨b, o + k, none⟩) (strs ((xs.take n).drop k)) := fun i u hi => by
  have hi2 : (strs xs)[k + i]? = some u := by
    unfold strs at hi ⊢
    rw [List.getElem?_map, List.getElem?_drop, List.getElem?_take] at hi
    rw [List.getElem?_map]
    split at hi
    · exact hi
    · cases hi
  obtain ⟨b', o', hb, he, hc⟩ := h _ _ hi2
  cases he
  exact ⟨b, o + k, hb, rfl, by rw [Nat.add_assoc]; exact hc⟩
theorem RdPost.same {w w' : World} {br ms mh b : Nat} {v : DV} {st : DS} (h : Rdr w br ms mh b st v) (hb : Below w.heap.size w w') : RdPost w br ms mh b v (st, 0) (.returned (.int .i64 0)) w' :=
  ⟨rfl, (behind_of_below hb).mono (by simp), fun _ => ⟨v, h.keepB hb, fun g hg => .inl hg⟩⟩

set_option maxHeartbeats 3200000 in
set_option maxRecDepth 100000 in
theorem gComment (w : World) (br ms mh b : Nat) (st : DS) (v : DV) (h : Rdr w br ms mh b st v) (r : List (List UInt8)) (hl : ∀ x ∈ r, x.length ≤ 1100000) (hr : r.length ≤ 1100001) (hsl : st.sh.length ≤ 10000000) (hwl : st.ws.length ≤ 10000000) (a : Option Addr) (c : Nat) (hc : r.length ≤ c) (hcm : c ≤ maxLen) (hA : AtN w.heap.size w a (strs r)) (hap : Apart b v a) (hM0 : ∃ m, w.cell? ⟨1, 0, none⟩ = some (.int .i64 m)) :
    Calls Tryz.prog 40 #[.pointer (some ⟨br, 0, none⟩), .slice a r.length c] w (RdPost w br ms mh b v (commentD rdD st r)) := by
  obtain ⟨R, hR⟩ : ∃ R : DS × Int, R = commentD rdD st r := ⟨_, rfl⟩
  rw [← hR]
  obtain ⟨Post, hPost⟩ : ∃ P : Ending → World → Prop, P = RdPost w br ms mh b v R := ⟨_, rfl⟩
  rw [← hPost]
  have HP := Lib.hid hPost
  clear hPost
  have H := Lib.hid h
  have c4 := blk_cell h.blk 4 rfl
  by_cases h2 : r.length < 2
  · have HR := Lib.hid (show R = (st, 0) by rw [hR]; unfold commentD; rw [if_pos (.inl h2)])
    have hd : decide (r.length < 2) = true := decide_eq_true h2
    have hd2 : decide ((r.length : Int) < 2) = true := decide_eq_true (by omega)
    clear hR hA hl h2 h
    go_enter Tryz.func40, Tryz.ntmps40
    go_wp2_with fail
    rw [HP.out, HR.out]
    exact RdPost.same H.out (Below.refl _ _)
  have hd : decide (r.length < 2) = false := decide_eq_false h2
  have hd2 : decide ((r.length : Int) < 2) = false := decide_eq_false (by omega)
  have e0 : r[0]? = some (r.getD 0 []) := by simp [List.getD, show 0 < r.length by omega]
  have e1 : r[1]? = some (r.getD 1 []) := by simp [List.getD, show 1 < r.length by omega]
  have el : r[r.length - 1]? = some (r.getD (r.length - 1) []) := by simp [List.getD, show r.length - 1 < r.length by omega]
  obtain ⟨b0, o0, hb0, rfl, k0⟩ := hA 0 _ (strs_get r 0 _ e0)
  rw [Nat.add_zero] at k0
  obtain ⟨b1, o1, hb1, q1, k1⟩ := hA 1 _ (strs_get r 1 _ e1)
  cases q1
  obtain ⟨bl, ol, hbl, ql, kl⟩ := hA (r.length - 1) _ (strs_get r _ _ el)
  cases ql
  have HRD := Lib.hid (show commentD rdD st r = if r.length < 2 ∨ r.getD 0 [] ≠ [112] ∨ (r.getD 1 [] ≠ showW ∧ r.getD 1 [] ≠ weightW) then (st, 0) else if st.begun = false ∨ r.length - 1 < 2 ∨ r.getD (r.length - 1) [] ≠ [48] then (st, 5)
    else if r.getD 1 [] = showW then showD st ((r.take (r.length - 1)).drop 2) else weightD rdD st ((r.take (r.length - 1)).drop 2) from rfl)
  have hap2 : Apart b v (some ⟨b0, o0 + 2, none⟩) := fun g o x hg => by
    cases hg
    exact hap _ _ _ rfl
  have hr2 : ∀ x ∈ (r.take (r.length - 1)).drop 2, x.length ≤ 1100000 := fun x hx => hl x (List.mem_of_mem_take (List.mem_of_mem_drop hx))
  have hlen2 : ((r.take (r.length - 1)).drop 2).length = r.length - 1 - 2 := by rw [List.length_drop, List.length_take]; omega
  have KS := Lib.hid (fun c' => gShow w br ms mh b st v h ((r.take (r.length - 1)).drop 2) hr2 (by omega) hsl (some ⟨b0, o0 + 2, none⟩) c' (at_piece hA 2 _))
  have KW := Lib.hid (fun c' => gWeight w br ms mh b st v h ((r.take (r.length - 1)).drop 2) hr2 (by omega) hwl (some ⟨b0, o0 + 2, none⟩) c' (at_piece hA 2 _) hap2 hM0)
  rw [hlen2] at KS KW
  generalize showD st ((r.take (r.length - 1)).drop 2) = RS at *
  generalize weightD rdD st ((r.take (r.length - 1)).drop 2) = RW at *
  generalize r.getD 0 [] = x0 at *
  generalize r.getD 1 [] = x1 at *
  generalize r.getD (r.length - 1) [] = xl at *
  have HX0 := Lib.hid (@lit_eq x0 [112])
  have HX0n := Lib.hid (@lit_ne x0 [112])
  have HX1s := Lib.hid (@lit_eq x1 showW)
  have HX1sn := Lib.hid (@lit_ne x1 showW)
  have HX1w := Lib.hid (@lit_eq x1 weightW)
  have HX1wn := Lib.hid (@lit_ne x1 weightW)
  have HXl := Lib.hid (@lit_eq xl [48])
  have HXln := Lib.hid (@lit_ne xl [48])
  unfold showW at HX1s HX1sn
  unfold weightW at HX1w HX1wn
  generalize (⟨x0.toArray⟩ : ByteArray) = y0 at *
  generalize (⟨x1.toArray⟩ : ByteArray) = y1 at *
  generalize (⟨xl.toArray⟩ : ByteArray) = yl at *
  generalize hn : r.length = n at *
  clear hA hl hr2 hlen2 hap hap2 hM0 e0 e1 el hn
  rw [HRD.out] at hR
  by_cases hx0 : x0 = [112]
  case neg =>
    have HR := Lib.hid (hR.trans (if_pos (.inr (.inl hx0))))
    have t0 := HX0n.out hx0
    clear hR HRD
    go_enter Tryz.func40, Tryz.ntmps40
    go_wp2_with fail
    rw [HP.out, HR.out]
    exact RdPost.same H.out (Below.refl _ _)
  have t0 := HX0.out hx0
  by_cases hx1 : x1 ≠ showW ∧ x1 ≠ weightW
  · have HR := Lib.hid (hR.trans (if_pos (.inr (.inr hx1))))
    have t1 := HX1sn.out hx1.1
    have t2 := HX1wn.out hx1.2
    clear hR HRD hx1
    go_enter Tryz.func40, Tryz.ntmps40
    go_wp2_with fail
    rw [HP.out, HR.out]
    exact RdPost.same H.out (Below.refl _ _)
  have hR2 := hR.trans (if_neg (show ¬ (n < 2 ∨ x0 ≠ [112] ∨ (x1 ≠ showW ∧ x1 ≠ weightW)) by
    rintro (h' | h' | h')
    · exact h2 h'
    · exact h' hx0
    · exact hx1 h'))
  have HS1 := t0
  by_cases hxs : x1 = showW
  · have t1 := HX1s.out hxs
    cases hbg : st.begun with
    | false =>
      have HR := Lib.hid (hR2.trans (if_pos (.inl hbg)))
      rw [hbg] at c4
      clear hR hR2 HRD hbg
      go_enter Tryz.func40, Tryz.ntmps40
      go_wp2_with fail
      rw [HP.out, HR.out]
      exact RdPost.err (n := 5) (Below.refl _ _) (by simp)
    | true =>
    rw [hbg] at c4
    by_cases h3 : n = 2
    · subst h3
      clear kl
      have HR := Lib.hid (show R = (st, 5) from hR2.trans (if_pos (.inr (.inl (by omega)))))
      clear hR hR2 HRD hbg
      go_enter Tryz.func40, Tryz.ntmps40
      go_wp2_with fail
      rw [HP.out, HR.out]
      exact RdPost.err (n := 5) (Below.refl _ _) (by simp)
    obtain ⟨p, rfl⟩ : ∃ p, n = p + 3 := ⟨n - 3, by omega⟩
    have kl' : w.cell? ⟨b0, o0 + (p + 2), none⟩ = some (.string yl) := kl
    clear kl
    by_cases hxl : xl = [48]
    case neg =>
      have HR := Lib.hid (hR2.trans (if_pos (.inr (.inr hxl))))
      have t3 := HXln.out hxl
      clear hR hR2 HRD hbg
      go_enter Tryz.func40, Tryz.ntmps40
      go_wp2_with fail
      rw [HP.out, HR.out]
      exact RdPost.err (n := 5) (Below.refl _ _) (by simp)
    have t3 := HXl.out hxl
    have hcd : ¬ (st.begun = false ∨ p + 3 - 1 < 2 ∨ xl ≠ [48]) := by
      rintro (h' | h' | h')
      · rw [hbg] at h'; cases h'
      · omega
      · exact h' hxl
    have HR := Lib.hid (hR2.trans ((if_neg hcd).trans (if_pos hxs)))
    have HK := Lib.hid (KS.out (c - 2))
    rw [show p + 3 - 1 - 2 = p by omega] at HK
    clear hR hR2 HRD hbg KS KW hd hd2
    go_enter Tryz.func40, Tryz.ntmps40
    go_wp2_with fail
    refine HK.out.mono ?_
    rintro e w2 ⟨rfl, hq1, hq2⟩
    have HQ := Lib.hid (And.intro hq1 hq2)
    clear hq1 hq2 HK
    go_wp2_with fail
    rw [HP.out, HR.out]
    exact ⟨rfl, HQ.out.1, HQ.out.2⟩
  · have hxw : x1 = weightW := Decidable.not_not.1 (fun h' => hx1 ⟨hxs, h'⟩)
    have t1 := HX1sn.out hxs
    have t2 := HX1w.out hxw
    cases hbg : st.begun with
    | false =>
      have HR := Lib.hid (hR2.trans (if_pos (.inl hbg)))
      rw [hbg] at c4
      clear hR hR2 HRD hbg
      go_enter Tryz.func40, Tryz.ntmps40
      go_wp2_with fail
      rw [HP.out, HR.out]
      exact RdPost.err (n := 5) (Below.refl _ _) (by simp)
    | true =>
    rw [hbg] at c4
    by_cases h3 : n = 2
    · subst h3
      clear kl
      have HR := Lib.hid (show R = (st, 5) from hR2.trans (if_pos (.inr (.inl (by omega)))))
      clear hR hR2 HRD hbg
      go_enter Tryz.func40, Tryz.ntmps40
      go_wp2_with fail
      rw [HP.out, HR.out]
      exact RdPost.err (n := 5) (Below.refl _ _) (by simp)
    obtain ⟨p, rfl⟩ : ∃ p, n = p + 3 := ⟨n - 3, by omega⟩
    have kl' : w.cell? ⟨b0, o0 + (p + 2), none⟩ = some (.string yl) := kl
    clear kl
    by_cases hxl : xl = [48]
    case neg =>
      have HR := Lib.hid (hR2.trans (if_pos (.inr (.inr hxl))))
      have t3 := HXln.out hxl
      clear hR hR2 HRD hbg
      go_enter Tryz.func40, Tryz.ntmps40
      go_wp2_with fail
      rw [HP.out, HR.out]
      exact RdPost.err (n := 5) (Below.refl _ _) (by simp)
    have t3 := HXl.out hxl
    have hcd : ¬ (st.begun = false ∨ p + 3 - 1 < 2 ∨ xl ≠ [48]) := by
      rintro (h' | h' | h')
      · rw [hbg] at h'; cases h'
      · omega
      · exact h' hxl
    have HR := Lib.hid (hR2.trans ((if_neg hcd).trans (if_neg hxs)))
    have HK := Lib.hid (KW.out (c - 2))
    rw [show p + 3 - 1 - 2 = p by omega] at HK
    clear hR hR2 HRD hbg KS KW hd hd2
    go_enter Tryz.func40, Tryz.ntmps40
    go_wp2_with fail
    refine HK.out.mono ?_
    rintro e w2 ⟨rfl, hq1, hq2⟩
    have HQ := Lib.hid (And.intro hq1 hq2)
    clear hq1 hq2 HK
    go_wp2_with fail
    rw [HP.out, HR.out]
    exact ⟨rfl, HQ.out.1, HQ.out.2⟩
end Go.Proofs.YtajjgfiojlagmaaGreatDoor

/- What has been read, in memory, with a predicate for the blocks of one's own (D5X: as D5, printed out of it). -/
namespace Go.Proofs.YtajjgfiojlagmaaGreatDoor
open Go.RowKit

structure DX (TW : TypeId) (w : World) (G : Nat → Prop) (st : DS) (v : DV) : Prop where
  rL : ∃ cl, RowV (inW w) 25 1 v.L st.L.length cl ∧ ∀ (i : Nat) (u : Value) (xs : List Int), cl[i]? = some u → st.L[i]? = some xs → RowV (inW w) 3 1 u xs.length (ints xs) ∧ ∀ g ∈ rowBlk u, G g ∧ g ∉ v.M
  rS : RowV (inW w) 3 1 v.S st.sh.length (ints st.sh)
  rW : RowV (inW w) TW 2 v.W st.ws.length (wts st.ws)
  rc : RowV (inW w) 3 1 v.c st.cl.length (ints st.cl)
  ge : ∀ g ∈ v.M, G g
  nLS : ∀ g ∈ rowBlk v.L, g ∉ rowBlk v.S
  nLW : ∀ g ∈ rowBlk v.L, g ∉ rowBlk v.W
  nLc : ∀ g ∈ rowBlk v.L, g ∉ rowBlk v.c
  nSW : ∀ g ∈ rowBlk v.S, g ∉ rowBlk v.W
  nSc : ∀ g ∈ rowBlk v.S, g ∉ rowBlk v.c
  nWc : ∀ g ∈ rowBlk v.W, g ∉ rowBlk v.c

variable {TW : TypeId} {w w' : World} {G : Nat → Prop} {st : DS} {v : DV}
theorem DX.lt (h : DX TW w G st v) : ∀ g ∈ v.M, g < w.heap.size := fun g hg => by
  obtain ⟨cl, hL, _⟩ := h.rL
  rcases DV.mem.1 hg with hg | hg | hg | hg
  · exact hL.lt g hg
  · exact h.rS.lt g hg
  · exact h.rW.lt g hg
  · exact h.rc.lt g hg
theorem DX.keep {U : List Nat} (h : DX TW w G st v) (hB : Behind w U w') (hU : ∀ g ∈ U, ¬ G g ∨ w.heap.size ≤ g) : DX TW w' G st v := by
  have hM : ∀ g, G g → g < w.heap.size → g ∉ U := fun g h1 h2 hu => (hU g hu).elim (fun e => e h1) (fun e => by omega)
  have hlt := h.lt
  obtain ⟨cl, hL, hC⟩ := h.rL
  have hx : ∀ g ∈ v.M, g ∉ U := fun g hg => hM g (h.ge g hg) (hlt g hg)
  refine ⟨⟨cl, hL.keep hB (fun g hg => hx g (DV.mem.2 (.inl hg))), fun i u xs h1 h2 => ?_⟩, h.rS.keep hB (fun g hg => hx g (DV.mem.2 (.inr (.inl hg)))), h.rW.keep hB (fun g hg => hx g (DV.mem.2 (.inr (.inr (.inl hg))))), h.rc.keep hB (fun g hg => hx g (DV.mem.2 (.inr (.inr (.inr hg))))), h.ge, h.nLS, h.nLW, h.nLc, h.nSW, h.nSc, h.nWc⟩
  obtain ⟨hr, hg⟩ := hC i u xs h1 h2
  exact ⟨hr.keep hB (fun g hg' => hM g (hg g hg').1 (hr.lt g hg')), hg⟩
theorem DX.keepB (h : DX TW w G st v) (hB : Below w.heap.size w w') : DX TW w' G st v := h.keep (behind_of_below hB) (by simp)
theorem DX.mono {G' : Nat → Prop} (h : DX TW w G st v) (hb : ∀ g, G g → G' g) : DX TW w G' st v := by
  obtain ⟨cl, hL, hC⟩ := h.rL
  exact ⟨⟨cl, hL, fun i u xs h1 h2 => ⟨(hC i u xs h1 h2).1, fun g hg => ⟨hb g ((hC i u xs h1 h2).2 g hg).1, ((hC i u xs h1 h2).2 g hg).2⟩⟩⟩, h.rS, h.rW, h.rc, fun g hg => hb g (h.ge g hg), h.nLS, h.nLW, h.nLc, h.nSW, h.nSc, h.nWc⟩
theorem DX.appS {x : Int} {vS : Value} (h : DX TW w G st v) (hb : ∀ g, w.heap.size ≤ g → G g) (hB : Behind w (rowBlk v.S) w') (hr : RowV (inW w') 3 1 vS (st.sh.length + 1) (ints st.sh ++ [.int .i64 x])) (hn : ∀ g ∈ rowBlk vS, g ∈ rowBlk v.S ∨ w.heap.size ≤ g) :
    DX TW w' G { st with sh := st.sh ++ [x] } { v with S := vS } := by
  obtain ⟨cl, hL, hC⟩ := h.rL
  have hlt := h.lt
  have hr' : RowV (inW w') 3 1 vS (st.sh ++ [x]).length (ints (st.sh ++ [x])) := by
    rw [List.length_append, show ints (st.sh ++ [x]) = ints st.sh ++ [.int .i64 x] by simp [ints]]; exact hr
  have hno : ∀ g, g < w.heap.size → g ∉ rowBlk v.S → g ∉ rowBlk vS := fun g h1 h2 h3 => (hn g h3).elim h2 (fun e => by omega)
  refine ⟨⟨cl, hL.keep hB (fun g hg => h.nLS g hg), fun i u xs h1 h2 => ?_⟩, hr', h.rW.keep hB (fun g hg hm => h.nSW g hm hg), h.rc.keep hB (fun g hg hm => h.nSc g hm hg), fun g hg => ?_, fun g hg => hno g (hL.lt g hg) (h.nLS g hg), h.nLW, h.nLc, fun g hg hm => ?_, fun g hg hm => ?_, h.nWc⟩
  · obtain ⟨hr2, hg⟩ := hC i u xs h1 h2
    refine ⟨hr2.keep hB (fun g hg' hm => (hg g hg').2 (DV.mem.2 (.inr (.inl hm)))), fun g hg' => ⟨(hg g hg').1, fun hm => ?_⟩⟩
    have h9 := (hg g hg').2
    rw [DV.mem] at h9 hm
    rcases hm with hm | hm | hm | hm
    · exact h9 (.inl hm)
    · exact (hn g hm).elim (fun e => h9 (.inr (.inl e))) (fun e => by have := hr2.lt g hg'; omega)
    · exact h9 (.inr (.inr (.inl hm)))
    · exact h9 (.inr (.inr (.inr hm)))
  · rcases DV.mem.1 hg with hg | hg | hg | hg
    · exact h.ge g (DV.mem.2 (.inl hg))
    · exact (hn g hg).elim (fun e => h.ge g (DV.mem.2 (.inr (.inl e)))) (fun e => hb g e)
    · exact h.ge g (DV.mem.2 (.inr (.inr (.inl hg))))
    · exact h.ge g (DV.mem.2 (.inr (.inr (.inr hg))))
  · exact (hn g hg).elim (fun e => h.nSW g e hm) (fun e => by have := h.rW.lt g hm; omega)
  · exact (hn g hg).elim (fun e => h.nSc g e hm) (fun e => by have := h.rc.lt g hm; omega)
theorem DX.appW {x : Int × List UInt8} {vW : Value} (h : DX TW w G st v) (hb : ∀ g, w.heap.size ≤ g → G g) (hB : Behind w (rowBlk v.W) w') (hr : RowV (inW w') TW 2 vW (st.ws.length + 1) (wts st.ws ++ [.int .i64 x.1, .string ⟨x.2.toArray⟩])) (hn : ∀ g ∈ rowBlk vW, g ∈ rowBlk v.W ∨ w.heap.size ≤ g) :
    DX TW w' G { st with ws := st.ws ++ [x] } { v with W := vW } := by
  obtain ⟨cl, hL, hC⟩ := h.rL
  have hlt := h.lt
  have hr' : RowV (inW w') TW 2 vW (st.ws ++ [x]).length (wts (st.ws ++ [x])) := by
    rw [List.length_append, wts_app]; exact hr
  have hno : ∀ g, g < w.heap.size → g ∉ rowBlk v.W → g ∉ rowBlk vW := fun g h1 h2 h3 => (hn g h3).elim h2 (fun e => by omega)
  refine ⟨⟨cl, hL.keep hB (fun g hg => h.nLW g hg), fun i u xs h1 h2 => ?_⟩, h.rS.keep hB (fun g hg => h.nSW g hg), hr', h.rc.keep hB (fun g hg hm => h.nWc g hm hg), fun g hg => ?_, h.nLS, fun g hg => hno g (hL.lt g hg) (h.nLW g hg), h.nLc, fun g hg => hno g (h.rS.lt g hg) (h.nSW g hg), h.nSc, fun g hg hm => ?_⟩
  · obtain ⟨hr2, hg⟩ := hC i u xs h1 h2
    refine ⟨hr2.keep hB (fun g hg' hm => (hg g hg').2 (DV.mem.2 (.inr (.inr (.inl hm))))), fun g hg' => ⟨(hg g hg').1, fun hm => ?_⟩⟩
    have h9 := (hg g hg').2
    rw [DV.mem] at h9 hm
    rcases hm with hm | hm | hm | hm
    · exact h9 (.inl hm)
    · exact h9 (.inr (.inl hm))
    · exact (hn g hm).elim (fun e => h9 (.inr (.inr (.inl e)))) (fun e => by have := hr2.lt g hg'; omega)
    · exact h9 (.inr (.inr (.inr hm)))
  · rcases DV.mem.1 hg with hg | hg | hg | hg
    · exact h.ge g (DV.mem.2 (.inl hg))
    · exact h.ge g (DV.mem.2 (.inr (.inl hg)))
    · exact (hn g hg).elim (fun e => h.ge g (DV.mem.2 (.inr (.inr (.inl e))))) (fun e => hb g e)
    · exact h.ge g (DV.mem.2 (.inr (.inr (.inr hg))))
  · exact (hn g hg).elim (fun e => h.nWc g e hm) (fun e => by have := h.rc.lt g hm; omega)
theorem DX.appc {x : Int} {vc : Value} {o : Bool} (h : DX TW w G st v) (hb : ∀ g, w.heap.size ≤ g → G g) (hB : Behind w (rowBlk v.c) w') (hr : RowV (inW w') 3 1 vc (st.cl.length + 1) (ints st.cl ++ [.int .i64 x])) (hn : ∀ g ∈ rowBlk vc, g ∈ rowBlk v.c ∨ w.heap.size ≤ g) :
    DX TW w' G { st with cl := st.cl ++ [x], op := o } { v with c := vc } := by
  obtain ⟨cl, hL, hC⟩ := h.rL
  have hlt := h.lt
  have hr' : RowV (inW w') 3 1 vc (st.cl ++ [x]).length (ints (st.cl ++ [x])) := by
    rw [List.length_append, show ints (st.cl ++ [x]) = ints st.cl ++ [.int .i64 x] by simp [ints]]; exact hr
  have hno : ∀ g, g < w.heap.size → g ∉ rowBlk v.c → g ∉ rowBlk vc := fun g h1 h2 h3 => (hn g h3).elim h2 (fun e => by omega)
  refine ⟨⟨cl, hL.keep hB (fun g hg => h.nLc g hg), fun i u xs h1 h2 => ?_⟩, h.rS.keep hB (fun g hg => h.nSc g hg), h.rW.keep hB (fun g hg => h.nWc g hg), hr', fun g hg => ?_, h.nLS, h.nLW, fun g hg => hno g (hL.lt g hg) (h.nLc g hg), h.nSW, fun g hg => hno g (h.rS.lt g hg) (h.nSc g hg), fun g hg => hno g (h.rW.lt g hg) (h.nWc g hg)⟩
  · obtain ⟨hr2, hg⟩ := hC i u xs h1 h2
    refine ⟨hr2.keep hB (fun g hg' hm => (hg g hg').2 (DV.mem.2 (.inr (.inr (.inr hm))))), fun g hg' => ⟨(hg g hg').1, fun hm => ?_⟩⟩
    have h9 := (hg g hg').2
    rw [DV.mem] at h9 hm
    rcases hm with hm | hm | hm | hm
    · exact h9 (.inl hm)
    · exact h9 (.inr (.inl hm))
    · exact h9 (.inr (.inr (.inl hm)))
    · exact (hn g hm).elim (fun e => h9 (.inr (.inr (.inr e)))) (fun e => by have := hr2.lt g hg'; omega)
  · rcases DV.mem.1 hg with hg | hg | hg | hg
    · exact h.ge g (DV.mem.2 (.inl hg))
    · exact h.ge g (DV.mem.2 (.inr (.inl hg)))
    · exact h.ge g (DV.mem.2 (.inr (.inr (.inl hg))))
    · exact (hn g hg).elim (fun e => h.ge g (DV.mem.2 (.inr (.inr (.inr e))))) (fun e => hb g e)
theorem DX.appL {vL : Value} (h : DX TW w G st v) (hb : ∀ g, w.heap.size ≤ g → G g) (hB : Behind w (rowBlk v.L) w')
    (hr : ∀ cl, RowV (inW w) 25 1 v.L st.L.length cl → RowV (inW w') 25 1 vL (st.L.length + 1) (cl ++ [v.c])) (hn : ∀ g ∈ rowBlk vL, g ∈ rowBlk v.L ∨ w.heap.size ≤ g) :
    DX TW w' G { st with L := st.L ++ [st.cl], cl := [], op := false } { v with L := vL, c := .slice none 0 0 } := by
  obtain ⟨cl, hL, hC⟩ := h.rL
  have hlt := h.lt
  have hlen := hL.length
  have hno : ∀ g, g < w.heap.size → g ∉ rowBlk v.L → g ∉ rowBlk vL := fun g h1 h2 h3 => (hn g h3).elim h2 (fun e => by omega)
  refine ⟨⟨cl ++ [v.c], by rw [List.length_append]; exact hr cl hL, fun i u xs h1 h2 => ?_⟩, h.rS.keep hB (fun g hg hm => h.nLS g hm hg), h.rW.keep hB (fun g hg hm => h.nLW g hm hg), .nil, fun g hg => ?_, fun g hg hm => ?_, fun g hg hm => ?_, by simp [rowBlk], h.nSW, by simp [rowBlk], by simp [rowBlk]⟩
  · by_cases hi : i < cl.length
    · rw [List.getElem?_append_left hi] at h1
      rw [List.getElem?_append_left (by omega)] at h2
      obtain ⟨hr2, hg⟩ := hC i u xs h1 h2
      refine ⟨hr2.keep hB (fun g hg' hm => (hg g hg').2 (DV.mem.2 (.inl hm))), fun g hg' => ⟨(hg g hg').1, fun hm => ?_⟩⟩
      have h9 := (hg g hg').2
      rw [DV.mem] at h9 hm
      rcases hm with hm | hm | hm | hm
      · exact (hn g hm).elim (fun e => h9 (.inl e)) (fun e => by have := hr2.lt g hg'; omega)
      · exact h9 (.inr (.inl hm))
      · exact h9 (.inr (.inr (.inl hm)))
      · simp [rowBlk] at hm
    · rw [List.getElem?_append_right (by omega)] at h1
      rw [List.getElem?_append_right (by omega)] at h2
      have hi0 : i - cl.length = 0 := by
        rcases Nat.eq_zero_or_pos (i - cl.length) with h0 | h0
        · exact h0
        · rw [List.getElem?_eq_none (by simp; omega)] at h1; cases h1
      rw [hi0] at h1
      rw [show i - st.L.length = 0 by omega] at h2
      simp only [List.getElem?_cons_zero, Option.some.injEq] at h1 h2
      subst h1
      subst h2
      refine ⟨h.rc.keep hB (fun g hg hm => h.nLc g hm hg), fun g hg => ⟨h.ge g (DV.mem.2 (.inr (.inr (.inr hg)))), fun hm => ?_⟩⟩
      rw [DV.mem] at hm
      rcases hm with hm | hm | hm | hm
      · exact (hn g hm).elim (fun e => h.nLc g e hg) (fun e => by have := h.rc.lt g hg; omega)
      · exact h.nSc g hm hg
      · exact h.nWc g hm hg
      · simp [rowBlk] at hm
  · rcases DV.mem.1 hg with hg | hg | hg | hg
    · exact (hn g hg).elim (fun e => h.ge g (DV.mem.2 (.inl e))) (fun e => hb g e)
    · exact h.ge g (DV.mem.2 (.inr (.inl hg)))
    · exact h.ge g (DV.mem.2 (.inr (.inr (.inl hg))))
    · simp [rowBlk] at hg
  · exact (hn g hg).elim (fun e => h.nLS g e hm) (fun e => by have := h.rS.lt g hm; omega)
  · exact (hn g hg).elim (fun e => h.nLW g e hm) (fun e => by have := h.rW.lt g hm; omega)
theorem DX.zero (TW : TypeId) (w : World) (G : Nat → Prop) : DX TW w G .zero ⟨.slice none 0 0, .slice none 0 0, .slice none 0 0, .slice none 0 0⟩ :=
  ⟨⟨[], .nil, fun i u xs h1 => by simp at h1⟩, .nil, .nil, .nil, by simp [DV.M, rowBlk], by simp [rowBlk], by simp [rowBlk], by simp [rowBlk], by simp [rowBlk], by simp [rowBlk], by simp [rowBlk]⟩
theorem DX.same {st' : DS} (h : DX TW w G st v) (hL : st'.L = st.L) (hS : st'.sh = st.sh) (hW : st'.ws = st.ws) (hc : st'.cl = st.cl) : DX TW w G st' v := by
  obtain ⟨a1, a2, a3, a4, a5, a6, a7, a8, a9, a10, a11⟩ := h
  exact ⟨by rw [hL]; exact a1, by rw [hS]; exact a2, by rw [hW]; exact a3, by rw [hc]; exact a4, a5, a6, a7, a8, a9, a10, a11⟩
theorem DX.narrow (h : DX TW w G st v) : DX TW w (fun g => G g ∧ g < w.heap.size) st v := by
  have hlt := h.lt
  obtain ⟨cl, hL, hC⟩ := h.rL
  exact ⟨⟨cl, hL, fun i u xs h1 h2 => ⟨(hC i u xs h1 h2).1, fun g hg => ⟨⟨((hC i u xs h1 h2).2 g hg).1, (hC i u xs h1 h2).1.lt g hg⟩, ((hC i u xs h1 h2).2 g hg).2⟩⟩⟩, h.rS, h.rW, h.rc, fun g hg => ⟨h.ge g hg, hlt g hg⟩, h.nLS, h.nLW, h.nLc, h.nSW, h.nSc, h.nWc⟩
end Go.Proofs.YtajjgfiojlagmaaGreatDoor

/- A copy of a row by append to a new empty one. -/
namespace Go.Proofs.YtajjgfiojlagmaaGreatDoor
open Go.RowKit

theorem run_append_zeroD {P : Program} (w : World) (t ty e : TypeId) (i : TypeInfo) (ht : P.underlying t = some (.slice e)) (hi : P.info? e = some i) (g : Nat) (a : Option Addr) (c : Nat) :
    (Builtin.append_ #[t, t] ty #[.slice (some ⟨g, 0, none⟩) 0 0, .slice a 0 c]).run P w = .ok (.slice (some ⟨g, 0, none⟩) 0 0) w := by
  cases a with
  | none => simp [Builtin.append_, run_underlying ht, sizeOf, typeInfo, hi, Builtin.lenOf, Builtin.firstCells, storeCells]
  | some a => simp [Builtin.append_, run_underlying ht, sizeOf, typeInfo, hi, Builtin.lenOf, Builtin.firstCells, storeCells, loadCells, loadCellsFrom]
theorem wpList_append_copy {P : Program} {ops : Array Oper} {rest : List Oper} {o : Oper} {a : Act} {Q : Exit → Act → World → Prop} (w : World) (hgd : o.guard = none) (s x : Operand) (t : TypeId) (ho : o.op = .call { callee := .builtin .append, args := #[s, x], argTypes := #[t, t] })
    (E : TypeId) (i : TypeInfo) (z : Value) (bytes : Nat) (ht : P.underlying t = some (.slice E)) (hi : P.info? E = some i) (hz : i.zero = some z) (hsize : i.size = 1) (hby : i.bytes = bytes) (hzs : z.cells.size = 1)
    (g : Nat) (hs : a.eval s = .slice (some ⟨g, 0, none⟩) 0 0) (hg : w.heap[g]? = some (.cells #[] E (0, 0))) (v : Value) (m : Nat) (xs : List Value) (hx : a.eval x = v) (hrow : RowV (inW w) E 1 v m xs) (h1 : ∀ u ∈ xs, u.oneCell' = true)
    (h63 : m ≤ maxLen) (hbytes : m * bytes ≤ 140737488355328)
    (h : ∀ v' w', RowV (inW w') E 1 v' m xs → Below w.heap.size w w' → (∀ k ∈ rowBlk v', k = g ∨ w.heap.size ≤ k) → wpList P ops Q rest (a.put o.dst v') w') : wpList P ops Q (o :: rest) a w := by
  have hrs : RowV (inW w) E 1 (.slice (some ⟨g, 0, none⟩) 0 0) 0 [] := .row ⟨hg, Nat.le_refl 0, Nat.zero_le _, rfl, rfl, rfl⟩
  have zero : ∀ (ad : Option Addr) (c : Nat), v = .slice ad 0 c → m = 0 → xs = [] → wpList P ops Q (o :: rest) a w := fun ad c hv hm hxs => by
    subst hv hm hxs
    refine wpList_plain hgd fun _ hK => ?_
    have hr := run_append_zeroD (P := P) w t o.type E i ht hi g ad c
    unfold Oper.wp execOp
    simp only [ho, resolve, invoke, builtin, Sem.run_bind, Sem.run_pure, Result.andThen_ok, List.map_toArray, List.map_cons, List.map_nil, hs, hx, hr]
    exact hK _ _ (h _ _ hrs (Below.refl _ _) (fun k hk => .inl (by simpa [rowBlk] using hk)))
  cases hrow with
  | nil => exact zero none 0 rfl rfl rfl
  | @row g2 _ cap xs cur hb =>
    rcases Nat.eq_zero_or_pos m with rfl | h0
    · exact zero _ _ rfl rfl (List.length_eq_zero_iff.1 (by simpa using hb.len))
    · have hnews : ∀ j u, xs[j]? = some u → w.cell? ((⟨g2, 0, none⟩ : Addr).add j) = some u := fun j u hj => by
        have hj' : cur[j]? = some u := by
          rw [← hb.tk, List.getElem?_take] at hj
          split at hj
          · simpa using hj
          · cases hj
        rw [Addr.add_lit, Nat.zero_add]
        exact blk_cell hb.blk j hj'
      have hxl : xs.length = m := by have := hb.len; omega
      have hr := run_append_grow (P := P) w t o.type E i z ht hi hz ⟨g, 0, none⟩ 0 0 [] (by simp) (fun j v hj => by simp at hj) ⟨g2, 0, none⟩ m cap xs (by rw [hsize]; omega) hnews (by omega) (by simp only [maxLen] at h63; omega) (growslice_fits (by omega) (by rw [Nat.zero_add, hby]; exact hbytes))
      simp only [Nat.zero_add, List.nil_append] at hr
      refine wpList_plain hgd fun _ hK => ?_
      unfold Oper.wp execOp
      simp only [ho, resolve, invoke, builtin, Sem.run_bind, Sem.run_pure, Result.andThen_ok, List.map_toArray, List.map_cons, List.map_nil, hs, hx, hr]
      have hge := grownCap_ge w m 0 E
      refine hK _ _ (h _ _ (.row ⟨heap_alloc_new w.drew _, hge, grownCap_le_maxLen w m 0 E h63, ?_, ?_, by omega⟩) ((Below.refl _ w).drew.alloc (by simp) _) (fun k hk => .inr (Nat.le_of_eq (Eq.symm (by simpa [rowBlk] using hk)))))
      · simp only [Array.size_append, List.size_toArray, size_zeroCells, hzs, hxl, Nat.mul_one, Array.size_empty]
        simp
        omega
      · simp only [Array.toList_append, List.nil_append]
        rw [Nat.mul_one, ← hxl]
        simp
end Go.Proofs.YtajjgfiojlagmaaGreatDoor
