/- Texts of this claim, joined: BModE, BModF, BModS, BCodS, BCodU, BCod. -/
import Derived.Test.YtbacloneddnaeaaM34
import Derived.Test.YtbacloneddnaeaaM32
import Derived.Test.YtbacloneddnaeaaM27
import Derived.Test.YtbacloneddnaeaaM10

/- Trail, Order, Closure. -/
namespace Go.Proofs.Ytbacloneddnaeaa
open Go.RowKit Go.Shelf Num

structure PEnd (P : Int → Prop) (n : Nat) (L : List (List Int)) (ds : List Int) (S : List Int) : Prop where
  inv : PInv P n S
  all : ∀ d ∈ ds, d ∈ S
  stuck : Stuck S L

set_option maxHeartbeats 3200000 in
set_option maxRecDepth 100000 in
theorem xtrail_law {P : Int → Prop} {n : Nat} {L : List (List Int)} (hP : PCl P n L) (hn : n ≤ 128) (hLc : ∀ c ∈ L, c.length ≤ 128) (hLl : L.length ≤ 4096) (ds : List Int) (hd : ∀ d ∈ ds, P d ∧ d ≠ 0 ∧ -(n : Int) ≤ d ∧ d ≤ n) (hdl : ds.length ≤ 1000) (la da : Option Addr) (lc dc : Nat) (w : World) (hL : IndAt w.heap.size w la L) (hD : AtN w.heap.size w da (ints ds)) :
    Calls Try.prog 58 #[.agg #[.int .i64 (n : Nat), .slice la L.length lc], .slice da ds.length dc] w fun e w' => ∃ (va : Option Addr) (vc : Nat) (T : List (Int × Int × Int)), e = .returned (.tuple #[.slice va T.length vc, .int .i64 (-1), .int .i64 0]) ∧ AtN w'.heap.size w' va (steps T) ∧ PEnd P n L ds (litsOf T) ∧ Below w.heap.size w w' := by
  obtain ⟨R, hR⟩ : ∃ R : Ending → World → Prop, R = fun e w' => ∃ (va : Option Addr) (vc : Nat) (T : List (Int × Int × Int)), e = .returned (.tuple #[.slice va T.length vc, .int .i64 (-1), .int .i64 0]) ∧ AtN w'.heap.size w' va (steps T) ∧ PEnd P n L ds (litsOf T) ∧ Below w.heap.size w w' := ⟨_, rfl⟩
  rw [← hR]
  have HR := Lib.hid hR
  have HP := Lib.hid hP
  have HLC := Lib.hid hLc
  have HD0 := Lib.hid hd
  have HLv := Lib.hid (show ∀ c ∈ L, c.length ≤ 128 ∧ ∀ y ∈ c, y ≠ 0 ∧ -(n : Int) ≤ y ∧ y ≤ n from fun c hc => ⟨hLc c hc, hP.val c hc⟩)
  have HL := Lib.hid hL
  have HD := Lib.hid hD
  obtain ⟨r0, ri, rz0, rz1, rz2⟩ := info_parts Try.infoStep
  clear hR hP hLc hd hL hD
  go_enter Try.func58, Try.ntmps58
  go_wp2_with fail
  refine calls_gen fun w1 hw1 => ?_
  have hB1 : Below w.heap.size w w1 := by rw [hw1]; exact below_one _ _
  have m2 : w1.heap[w.heap.size]? = some (.cells #[.int .i64 (n : Nat), .slice la L.length lc] 43 (0, 0)) := by rw [hw1]; exact new_one _ _
  have hl2 := lt_of_heap m2
  have M2 := Lib.hid m2
  have HB1 := Lib.hid hB1
  have HL1 := Lib.hid ((HL.out.below hB1 (Nat.le_refl _)).mono hB1.size)
  have HD1 := Lib.hid ((HD.out.below hB1 (Nat.le_refl _)).mono hB1.size)
  clear hw1 m2 hB1
  refine (xcheck5_law n L la lc hn hLl HLv.out w1 HL1.out).mono ?_
  rintro r2 w2 ⟨rfl, hB2⟩
  have HB2 := Lib.hid hB2
  have m22 := (behind_of_below hB2).keep M2.out (by simp)
  have c20 := blk_cell m22 0 rfl
  clear hB2 m22
  go_wp2_with fail
  refine (xall1_law w1.heap.size ds da dc n hn (fun d h => (HD0.out d h).2) (by omega) w2 (HD1.out.below HB2.out (Nat.le_refl _)) HB2.out.size).mono ?_
  rintro r3 w3 ⟨rfl, hB3⟩
  have HB3 := Lib.hid (HB2.out.trans (hB3.mono HB2.out.size))
  have m23 := (behind_of_below HB3.out).keep M2.out (by simp)
  have c30 := blk_cell m23 0 rfl
  have c31 := blk_cell m23 1 rfl
  clear hB3 m23 c20 HB2
  go_wp2_with fail
  clear c30 c31
  refine (xprop_law HP.out hn (fun c hc => by have := HLC.out c hc; omega) (by omega) w1.heap.size [] (.slice none 0 0) 0 la lc ⟨by simp [litsOf], by simp [litsOf]⟩ w3 .nil (by simp [rowBlk]) (HL1.out.below HB3.out (Nat.le_refl _)) HB3.out.size).mono ?_
  rintro r4 w4 ⟨v4, T4, rfl, hr4, hi4, _, hs4, hg4, hb4⟩
  obtain ⟨a4, c4, rfl⟩ := hr4.slice
  have hB4 : Below w3.heap.size w3 w4 := hb4.below_of (by simp [rowBlk]) (Nat.le_refl _)
  have HB4 := Lib.hid (HB3.out.trans (hB4.mono HB3.out.size))
  have HT4 := Lib.hid hr4
  have HE4 := Lib.hid (show PEnd P n L [] (litsOf T4) from ⟨hi4, by simp, hs4⟩)
  have HG4 := Lib.hid (show ∀ g ∈ rowBlk (.slice a4 T4.length c4), w1.heap.size ≤ g from fun g hg => (hg4 g hg).elim (fun h => by simp [rowBlk] at h) (fun h => Nat.le_trans HB3.out.size h))
  clear hr4 hi4 hs4 hg4 hb4 hB4 HB3
  go_wp2_with fail
  go_loopw [7, 8, 9] (fun v t8 t9 wr => ∃ (i : Nat) (T : List (Int × Int × Int)), i ≤ ds.length ∧ t9 = .int .i64 i ∧ t8 = .int .i64 (-1) ∧ Hid (RowV (inW wr) 109 3 v T.length (steps T)) ∧ Hid (PEnd P n L (ds.take i) (litsOf T)) ∧ Hid (∀ g ∈ rowBlk v, w1.heap.size ≤ g) ∧ Hid (Below w1.heap.size w1 wr))
    (fun _ _ t9 _ => ds.length - (intOf t9).toNat)
  case atStart => exact ⟨0, T4, Nat.zero_le _, rfl, rfl, HT4.out, HE4.out, HG4.out, HB4.out⟩
  case round =>
    obtain ⟨i, T, hi, rfl, rfl, HT, HE, HG, HB⟩ := hrel
    clear HT4 HE4 HG4 HB4
    obtain ⟨a, c, rfl, hA⟩ := rowv_at HT.out
    have hTn : T.length ≤ n := by have := p_len HP.out.con HE.out.inv; simpa [litsOf] using this
    have hTl : T.length ≤ 100000 := by omega
    by_cases hlt : i < ds.length
    · have hdd : decide (i < ds.length) = true := by simpa using hlt
      obtain ⟨d, hdi⟩ : ∃ d, ds[i]? = some d := ⟨_, List.getElem?_eq_getElem hlt⟩
      obtain ⟨hd0, hd1, hd2, hd3⟩ := HD0.out d (List.mem_of_getElem? hdi)
      have HDP := Lib.hid (show P d ∧ d ≠ 0 ∧ -(n : Int) ≤ d ∧ d ≤ n from ⟨hd0, hd1, hd2, hd3⟩)
      obtain ⟨b, o, hb, rfl, k0⟩ := HD1.out _ _ (ints_get _ _ _ hdi)
      have K0 := Lib.hid k0
      have HDI := Lib.hid hdi
      have HA := Lib.hid hA
      have cd := below_cell HB.out hb k0
      have HNO := Lib.hid (show -d ∉ litsOf T from fun hm => HP.out.con d hd0 (HE.out.inv.sat _ hm).1)
      clear hdi k0 hA hd0
      go_wp2_with fail
      refine (xtrue_law wr.heap.size T a c (-d) hTl wr HA.out (Nat.le_refl _)).mono ?_
      rintro r5 w5 ⟨rfl, hB5⟩
      rw [decide_eq_false HNO.out]
      have HB5 := Lib.hid hB5
      have cd5 := below_cell (HB.out.trans (hB5.mono HB.out.size)) hb K0.out
      clear hB5 cd
      go_wp2_with fail
      refine (xopen_law wr.heap.size T a c d (by omega) hTl w5 (HA.out.below HB5.out (Nat.le_refl _)) HB5.out.size).mono ?_
      rintro r6 w6 ⟨rfl, hB6⟩
      have HB6 := Lib.hid (HB5.out.trans (hB6.mono HB5.out.size))
      have HT6 := Lib.hid (HT.out.keep (behind_of_below HB6.out) (by simp))
      have HBW6 := Lib.hid (HB.out.trans (HB6.out.mono HB.out.size))
      have m26 := (behind_of_below HBW6.out).keep M2.out (by simp)
      clear hB6 cd5 HB5
      by_cases hin : d ∈ litsOf T
      · rw [show decide (d ∉ litsOf T ∧ -d ∉ litsOf T) = false from decide_eq_false fun h => h.1 hin]
        have HIN := Lib.hid hin
        have c0 := blk_cell m26 0 rfl
        have c1 := blk_cell m26 1 rfl
        clear hin m26
        go_wp2_with fail
        clear c0 c1
        refine (xprop_law HP.out hn (fun c hc => by have := HLC.out c hc; omega) (by omega) w1.heap.size T (.slice a T.length c) _ la lc HE.out.inv w6 HT6.out HG.out (HL1.out.below HBW6.out (Nat.le_refl _)) HBW6.out.size).mono ?_
        rintro r7 w7 ⟨v7, T7, rfl, hr7, hi7, hsub7, hs7, hg7, hb7⟩
        have HT7 := Lib.hid hr7
        have HE7 := Lib.hid (show PEnd P n L (ds.take (i + 1)) (litsOf T7) from ⟨hi7, fun y hy => by
          rcases (mem_take_succ HDI.out).1 hy with h | rfl
          · exact hsub7 y (HE.out.all y h)
          · exact hsub7 _ HIN.out, hs7⟩)
        have HG7 := Lib.hid (show ∀ g ∈ rowBlk v7, w1.heap.size ≤ g from fun g hg => (hg7 g hg).elim (HG.out g) (fun h => Nat.le_trans HBW6.out.size h))
        have HB7 := Lib.hid (HBW6.out.trans (hb7.below_of (b := w1.heap.size) HG.out HBW6.out.size))
        clear hr7 hi7 hsub7 hs7 hg7 hb7
        go_wp2_with fail
        go_roundw
        case rel => exact ⟨i + 1, T7, by omega, by go_num, rfl, HT7, HE7, HG7, HB7⟩
        case measure => simp [intOf]; omega
      · rw [show decide (d ∉ litsOf T ∧ -d ∉ litsOf T) = true from decide_eq_true ⟨hin, HNO.out⟩]
        have hIS : PInv P n (litsOf T ++ [d]) := ⟨fun z hz => by
          rcases List.mem_append.1 hz with hz | hz
          · exact HE.out.inv.sat z hz
          · rw [List.mem_singleton.1 hz]; exact HDP.out, by
          rw [List.nodup_append]
          exact ⟨HE.out.inv.nd, by simp, fun x hx y hy e => by rw [List.mem_singleton.1 hy] at e; exact hin (e ▸ hx)⟩⟩
        have hTn9 : T.length + 1 ≤ n := by have := p_len HP.out.con hIS; simpa [litsOf] using this
        have cd6 := below_cell HBW6.out hb K0.out
        have HIS := Lib.hid hIS
        clear hin hIS m26
        go_wp2_with (at_builtin; refine wpList_append_row _ rfl _ _ 105 rfl 109 r0 _ 3 24 Try.underlying105 ri rz0 rz1 rz2 rfl _ _ _ rfl (HT6.out.keep (behind_of_below (below_one w6 _)) (by simp)) w6.heap.size 1 1 [.int .i64 d, .int .i64 (-1), .int .i64 ((i : Int) + 1)] 109 rfl (new_one w6 _) rfl (by intro z hz; simp at hz; rcases hz with rfl | rfl | rfl <;> rfl) (by omega) (by unfold maxLen; omega) (by omega) ?_)
        intro v9 w9 hr9 hB9 hn9
        have h49 : Behind w6 (rowBlk (.slice a T.length c)) w9 := ((behind_of_below (below_one w6 _)).mono (by simp)).trans hB9 (fun k hk => .inl hk)
        obtain ⟨T9, hT9⟩ : ∃ T9, T9 = T ++ [(d, -1, (i : Int) + 1)] := ⟨_, rfl⟩
        have e1 : T9.length = T.length + 1 := by rw [hT9]; simp
        have hr9' : RowV (inW w9) 109 3 v9 T9.length (steps T9) := by
          rw [e1, hT9, steps_snoc]; exact hr9
        have hlits : litsOf T9 = litsOf T ++ [d] := by rw [hT9]; simp [litsOf]
        obtain ⟨a9, c9, rfl⟩ := hr9'.slice
        have HR9 := Lib.hid hr9'
        have HI9 := Lib.hid (show PInv P n (litsOf T9) by rw [hlits]; exact HIS.out)
        have HG9 := Lib.hid (show ∀ g ∈ rowBlk (.slice a9 T9.length c9), w1.heap.size ≤ g from fun g hg => (hn9 g hg).elim (HG.out g) (fun h => by have := HBW6.out.size; first | omega | (simp at h; omega)))
        have HBW9 := Lib.hid (HBW6.out.trans (h49.below_of (b := w1.heap.size) HG.out HBW6.out.size))
        have HLT := Lib.hid hlits
        have m29 := (behind_of_below HBW9.out).keep M2.out (by simp)
        have c0 := blk_cell m29 0 rfl
        have c1 := blk_cell m29 1 rfl
        clear hr9 hB9 hn9 h49 hr9' hlits m29 cd6 hT9 e1
        go_wp2_with fail
        clear c0 c1
        refine (xprop_law HP.out hn (fun c hc => by have := HLC.out c hc; omega) (by omega) w1.heap.size T9 (.slice a9 T9.length c9) _ la lc HI9.out w9 HR9.out HG9.out (HL1.out.below HBW9.out (Nat.le_refl _)) HBW9.out.size).mono ?_
        rintro r7 w7 ⟨v7, T7, rfl, hr7, hi7, hsub7, hs7, hg7, hb7⟩
        have HT7 := Lib.hid hr7
        have HE7 := Lib.hid (show PEnd P n L (ds.take (i + 1)) (litsOf T7) from ⟨hi7, fun y hy => by
          rcases (mem_take_succ HDI.out).1 hy with h | rfl
          · exact hsub7 y (by rw [HLT.out]; exact List.mem_append.2 (.inl (HE.out.all y h)))
          · exact hsub7 _ (by rw [HLT.out]; simp), hs7⟩)
        have HG7 := Lib.hid (show ∀ g ∈ rowBlk v7, w1.heap.size ≤ g from fun g hg => (hg7 g hg).elim (HG9.out g) (fun h => Nat.le_trans HBW9.out.size h))
        have HB7 := Lib.hid (HBW9.out.trans (hb7.below_of (b := w1.heap.size) HG9.out HBW9.out.size))
        clear hr7 hi7 hsub7 hs7 hg7 hb7
        go_wp2_with fail
        go_roundw
        case rel => exact ⟨i + 1, T7, by omega, by go_num, rfl, HT7, HE7, HG7, HB7⟩
        case measure => simp [intOf]; omega
    · obtain rfl : i = ds.length := by omega
      have hdd : decide (ds.length < ds.length) = false := by simp
      have HEF := Lib.hid (show PEnd P n L ds (litsOf T) by
        have := HE.out
        rwa [List.take_length] at this)
      have HA := Lib.hid hA
      clear hA
      go_wp2_with fail
      refine bodyPost_ret (v := .tuple #[.slice a T.length c, .int .i64 (-1), .int .i64 0]) (by simp [results, Try.results58, go_sem]) rfl ?_
      rw [HR.out]
      exact ⟨a, c, T, rfl, HA.out, HEF.out, HB1.out.trans (HB.out.mono HB1.out.size)⟩
end Go.Proofs.Ytbacloneddnaeaa

/- Order, Closure. -/
namespace Go.Proofs.Ytbacloneddnaeaa
open Go.RowKit Go.Shelf Num

theorem OwnI.keepB {w w' : World} {b : Nat} {v : Value} {xs : List Int} (h : OwnI w b [] v xs) (hb : Below w.heap.size w w') : OwnI w' b [] v xs := ⟨h.row.keep (behind_of_below hb) (by simp), h.ge, h.out⟩

set_option maxHeartbeats 1600000 in
set_option maxRecDepth 100000 in
theorem xorder_law (N : Nat) (ys : List Int) (a : Option Addr) (c : Nat) (hl : ys.length ≤ 100000) (w : World) (hA : AtN N w a (ints ys)) (hw : N ≤ w.heap.size) :
    Calls Try.prog 59 #[.slice a ys.length c] w fun e w' => ∃ v, e = .returned v ∧ OwnI w' w.heap.size [] v (orderF ys 128) ∧ Below w.heap.size w w' := by
  obtain ⟨R, hR⟩ : ∃ R : Ending → World → Prop, R = fun e w' => ∃ v, e = .returned v ∧ OwnI w' w.heap.size [] v (orderF ys 128) ∧ Below w.heap.size w w' := ⟨_, rfl⟩
  rw [← hR]
  have HR := Lib.hid hR
  have HA := Lib.hid hA
  obtain ⟨i0, ii, iz0, iz1, iz2⟩ := info_parts Try.infoInt
  clear hR hA
  go_enter Try.func59, Try.ntmps59
  go_wp2_with fail
  go_loopw [3, 4] (fun v t4 wr => ∃ m : Nat, m ≤ 128 ∧ t4 = .int .i64 ((m : Int) + 1) ∧ Hid (OwnI wr w.heap.size [] v (orderF ys m)) ∧ Hid (Below w.heap.size w wr)) (fun _ t4 _ => 129 - (intOf t4).toNat)
  case atStart => exact ⟨0, Nat.zero_le _, rfl, ⟨.nil, by simp [rowBlk], by simp [rowBlk]⟩, Below.refl _ _⟩
  case round =>
    obtain ⟨m, hm, rfl, HO, HB⟩ := hrel
    have hol := orderF_len ys m
    by_cases hlt : m < 128
    · have hd : decide ((m : Int) + 1 ≤ 128) = true := by simp; omega
      go_wp2_with fail
      refine (xhas_law N ys a c (-((m : Int) + 1)) hl wr (HA.out.below HB.out hw) (Nat.le_trans hw HB.out.size)).mono ?_
      rintro r2 w2 ⟨rfl, hB2⟩
      replace HO := Lib.hid (HO.out.keepB hB2)
      replace HB := Lib.hid (HB.out.trans (hB2.mono HB.out.size))
      clear hB2
      by_cases hp : -((m : Int) + 1) ∈ ys
      · rw [decide_eq_true hp]
        have HPN := Lib.hid (show (if -((m + 1 : Nat) : Int) ∈ ys then [-((m + 1 : Nat) : Int)] else []) = [-((m : Int) + 1)] by rw [show -((m + 1 : Nat) : Int) = -((m : Int) + 1) by omega, if_pos hp])
        clear hp
        go_wp2_with (at_builtin; refine wpList_append_row _ rfl _ _ 30 rfl 3 i0 (.int .i64 0) 1 8 Try.underlying30 ii iz0 iz1 iz2 rfl _ _ _ rfl (HO.out.row.keep (behind_of_below (below_one w2 _)) (by simp)) w2.heap.size 1 1 [.int .i64 (-((m : Int) + 1))] 3 rfl (new_one w2 _) rfl (by intro z hz; simp at hz; subst hz; rfl) (by omega) (by unfold maxLen; omega) (by omega) ?_)
        intro v3 w3 hr9 hB9 hn9
        have h09 : Behind w2 (rowBlk u3) w3 := ((behind_of_below (below_one w2 _)).mono (by simp)).trans hB9 (fun k hk => .inl hk)
        have hr9' : RowV (inW w3) 3 1 v3 ((orderF ys m).length + 1) (ints (orderF ys m) ++ [.int .i64 (-((m : Int) + 1))]) := by
          first | exact hr9 | (simp only [List.length_append, List.length_singleton]; exact hr9)
        have hO9 := HO.out.grown HB.out.size (by simp) hr9' (fun g hg => (hn9 g hg).imp id (fun h => by first | omega | (simp at h; omega)))
        replace HB := Lib.hid (HB.out.trans (h09.below_of (b := w.heap.size) HO.out.ge HB.out.size))
        replace HO := Lib.hid hO9
        clear hr9 hr9' hB9 hn9 h09 hO9
        have hol2 : (orderF ys m ++ [-((m : Int) + 1)]).length ≤ 300 := by simp; omega
        go_wp2_with fail
        refine (xhas_law N ys a c ((m : Int) + 1) hl w3 (HA.out.below HB.out hw) (Nat.le_trans hw HB.out.size)).mono ?_
        rintro r4 w4 ⟨rfl, hB4⟩
        replace HO := Lib.hid (HO.out.keepB hB4)
        replace HB := Lib.hid (HB.out.trans (hB4.mono HB.out.size))
        clear hB4
        by_cases hq : (m : Int) + 1 ∈ ys
        · rw [decide_eq_true hq]
          have HQN := Lib.hid (show (if ((m + 1 : Nat) : Int) ∈ ys then [((m + 1 : Nat) : Int)] else []) = [(m : Int) + 1] by rw [show ((m + 1 : Nat) : Int) = (m : Int) + 1 by omega, if_pos hq])
          clear hq
          go_wp2_with (at_builtin; refine wpList_append_row _ rfl _ _ 30 rfl 3 i0 (.int .i64 0) 1 8 Try.underlying30 ii iz0 iz1 iz2 rfl _ _ _ rfl (HO.out.row.keep (behind_of_below (below_one w4 _)) (by simp)) w4.heap.size 1 1 [.int .i64 ((m : Int) + 1)] 3 rfl (new_one w4 _) rfl (by intro z hz; simp at hz; subst hz; rfl) (by omega) (by unfold maxLen; omega) (by omega) ?_)
          intro v5 w5 hr9 hB9 hn9
          have h09 : Behind w4 (rowBlk v3) w5 := ((behind_of_below (below_one w4 _)).mono (by simp)).trans hB9 (fun k hk => .inl hk)
          have hr9' : RowV (inW w5) 3 1 v5 ((orderF ys m ++ [-((m : Int) + 1)]).length + 1) (ints (orderF ys m ++ [-((m : Int) + 1)]) ++ [.int .i64 ((m : Int) + 1)]) := by
            first | exact hr9 | (simp only [List.length_append, List.length_singleton]; exact hr9)
          have hO9 := HO.out.grown HB.out.size (by simp) hr9' (fun g hg => (hn9 g hg).imp id (fun h => by first | omega | (simp at h; omega)))
          replace HB := Lib.hid (HB.out.trans (h09.below_of (b := w.heap.size) HO.out.ge HB.out.size))
          replace HO := Lib.hid hO9
          clear hr9 hr9' hB9 hn9 h09 hO9
          go_wp2_with fail
          go_roundw
          case rel => exact ⟨m + 1, by omega, by go_num, by rw [orderF_succ, HPN.out, HQN.out]; exact Lib.hid (by simpa using HO.out), HB⟩
          case measure => simp [intOf]; omega
        · rw [decide_eq_false hq]
          have HQN := Lib.hid (show (if ((m + 1 : Nat) : Int) ∈ ys then [((m + 1 : Nat) : Int)] else []) = [] by rw [show ((m + 1 : Nat) : Int) = (m : Int) + 1 by omega, if_neg hq])
          clear hq
          go_wp2_with fail
          go_roundw
          case rel => exact ⟨m + 1, by omega, by go_num, by rw [orderF_succ, HPN.out, HQN.out]; exact Lib.hid (by simpa using HO.out), HB⟩
          case measure => simp [intOf]; omega
      · rw [decide_eq_false hp]
        have HPN := Lib.hid (show (if -((m + 1 : Nat) : Int) ∈ ys then [-((m + 1 : Nat) : Int)] else []) = [] by rw [show -((m + 1 : Nat) : Int) = -((m : Int) + 1) by omega, if_neg hp])
        clear hp
        go_wp2_with fail
        refine (xhas_law N ys a c ((m : Int) + 1) hl w2 (HA.out.below HB.out hw) (Nat.le_trans hw HB.out.size)).mono ?_
        rintro r4 w4 ⟨rfl, hB4⟩
        replace HO := Lib.hid (HO.out.keepB hB4)
        replace HB := Lib.hid (HB.out.trans (hB4.mono HB.out.size))
        clear hB4
        by_cases hq : (m : Int) + 1 ∈ ys
        · rw [decide_eq_true hq]
          have HQN := Lib.hid (show (if ((m + 1 : Nat) : Int) ∈ ys then [((m + 1 : Nat) : Int)] else []) = [(m : Int) + 1] by rw [show ((m + 1 : Nat) : Int) = (m : Int) + 1 by omega, if_pos hq])
          clear hq
          go_wp2_with (at_builtin; refine wpList_append_row _ rfl _ _ 30 rfl 3 i0 (.int .i64 0) 1 8 Try.underlying30 ii iz0 iz1 iz2 rfl _ _ _ rfl (HO.out.row.keep (behind_of_below (below_one w4 _)) (by simp)) w4.heap.size 1 1 [.int .i64 ((m : Int) + 1)] 3 rfl (new_one w4 _) rfl (by intro z hz; simp at hz; subst hz; rfl) (by omega) (by unfold maxLen; omega) (by omega) ?_)
          intro v5 w5 hr9 hB9 hn9
          have h09 : Behind w4 (rowBlk u3) w5 := ((behind_of_below (below_one w4 _)).mono (by simp)).trans hB9 (fun k hk => .inl hk)
          have hr9' : RowV (inW w5) 3 1 v5 ((orderF ys m).length + 1) (ints (orderF ys m) ++ [.int .i64 ((m : Int) + 1)]) := by
            first | exact hr9 | (simp only [List.length_append, List.length_singleton]; exact hr9)
          have hO9 := HO.out.grown HB.out.size (by simp) hr9' (fun g hg => (hn9 g hg).imp id (fun h => by first | omega | (simp at h; omega)))
          replace HB := Lib.hid (HB.out.trans (h09.below_of (b := w.heap.size) HO.out.ge HB.out.size))
          replace HO := Lib.hid hO9
          clear hr9 hr9' hB9 hn9 h09 hO9
          go_wp2_with fail
          go_roundw
          case rel => exact ⟨m + 1, by omega, by go_num, by rw [orderF_succ, HPN.out, HQN.out]; exact Lib.hid (by simpa using HO.out), HB⟩
          case measure => simp [intOf]; omega
        · rw [decide_eq_false hq]
          have HQN := Lib.hid (show (if ((m + 1 : Nat) : Int) ∈ ys then [((m + 1 : Nat) : Int)] else []) = [] by rw [show ((m + 1 : Nat) : Int) = (m : Int) + 1 by omega, if_neg hq])
          clear hq
          go_wp2_with fail
          go_roundw
          case rel => exact ⟨m + 1, by omega, by go_num, by rw [orderF_succ, HPN.out, HQN.out]; exact Lib.hid (by simpa using HO.out), HB⟩
          case measure => simp [intOf]; omega
    · obtain rfl : m = 128 := by omega
      have hd : decide (((128 : Nat) : Int) + 1 ≤ 128) = false := by decide
      go_wp2_with fail
      rw [HR.out]
      exact ⟨_, rfl, HO.out, HB.out⟩

set_option maxHeartbeats 3200000 in
set_option maxRecDepth 100000 in
theorem xclosure_law {P : Int → Prop} {n : Nat} {L : List (List Int)} (hP : PCl P n L) (hn : n ≤ 128) (hLc : ∀ c ∈ L, c.length ≤ 128) (hLl : L.length ≤ 4096) (ds : List Int) (hd : ∀ d ∈ ds, P d ∧ d ≠ 0 ∧ -(n : Int) ≤ d ∧ d ≤ n) (hdl : ds.length ≤ 1000) (res : List Int) (hres : ∀ S, PEnd P n L ds S → orderF S 128 = res) (la da : Option Addr) (lc dc : Nat) (w : World) (hL : IndAt w.heap.size w la L) (hD : AtN w.heap.size w da (ints ds)) :
    Calls Try.prog 24 #[.agg #[.int .i64 (n : Nat), .slice la L.length lc], .slice da ds.length dc] w fun e w' => ∃ (va : Option Addr) (vc : Nat), e = .returned (.tuple #[.slice va res.length vc, .bool true]) ∧ AtN w'.heap.size w' va (ints res) ∧ Below w.heap.size w w' := by
  obtain ⟨R, hR⟩ : ∃ R : Ending → World → Prop, R = fun e w' => ∃ (va : Option Addr) (vc : Nat), e = .returned (.tuple #[.slice va res.length vc, .bool true]) ∧ AtN w'.heap.size w' va (ints res) ∧ Below w.heap.size w w' := ⟨_, rfl⟩
  rw [← hR]
  have HR := Lib.hid hR
  have HRES := Lib.hid hres
  have HP := Lib.hid hP
  have HLC := Lib.hid hLc
  have HD0 := Lib.hid hd
  have HL := Lib.hid hL
  have HD := Lib.hid hD
  obtain ⟨i0, ii, iz0, iz1, iz2⟩ := info_parts Try.infoInt
  clear hR hP hLc hd hL hD hres
  go_enter Try.func24, Try.ntmps24
  go_wp2_with fail
  refine calls_gen fun w1 hw1 => ?_
  have hB1 : Below w.heap.size w w1 := by rw [hw1]; exact below_one _ _
  have HB1 := Lib.hid hB1
  clear hw1
  refine (xtrail_law HP.out hn HLC.out hLl ds HD0.out hdl la da lc dc w1 ((HL.out.below hB1 (Nat.le_refl _)).mono hB1.size) ((HD.out.below hB1 (Nat.le_refl _)).mono hB1.size)).mono ?_
  rintro r2 w2 ⟨va, vc, T, rfl, hT, hE, hB2⟩
  have HT := Lib.hid hT
  have HE := Lib.hid hE
  have HB2 := Lib.hid (HB1.out.trans (hB2.mono HB1.out.size))
  have hTn : T.length ≤ n := by have := p_len HP.out.con hE.inv; simpa [litsOf] using this
  clear hB1 hT hE hB2
  go_wp2_with fail
  go_loopw [9, 10] (fun v t10 wr => ∃ j : Nat, j ≤ T.length ∧ t10 = .int .i64 j ∧ Hid (OwnI wr w2.heap.size [] v ((litsOf T).take j)) ∧ Hid (Below w2.heap.size w2 wr)) (fun _ t10 _ => T.length - (intOf t10).toNat)
  case atStart => exact ⟨0, Nat.zero_le _, rfl, ⟨.nil, by simp [rowBlk], by simp [rowBlk]⟩, Below.refl _ _⟩
  case round =>
    obtain ⟨j, hj, rfl, HO, HB⟩ := hrel
    by_cases hlt : j < T.length
    · have hdj : decide (j < T.length) = true := by simpa using hlt
      obtain ⟨t, ht⟩ : ∃ t, T[j]? = some t := ⟨_, List.getElem?_eq_getElem hlt⟩
      obtain ⟨b, o, hb, rfl, k0⟩ := HT.out _ _ (steps_get ht)
      have c0 := below_cell HB.out hb k0
      have hlt2 : (litsOf T)[j]? = some t.1 := by simp [litsOf, ht]
      have HTK := Lib.hid (take_snoc_of hlt2)
      have hll : ((litsOf T).take j).length ≤ 200 := by rw [List.length_take]; omega
      have hlj : ((litsOf T).take j).length = j := by rw [List.length_take]; simp [litsOf]; omega
      have HLJ := Lib.hid hlj
      obtain ⟨y, hy⟩ : ∃ y, y = t.1 := ⟨_, rfl⟩
      rw [← hy] at c0 HTK
      clear ht k0 hlt2 hy hlj
      go_wp2_with (at_builtin; refine wpList_append_row _ rfl _ _ 30 rfl 3 i0 (.int .i64 0) 1 8 Try.underlying30 ii iz0 iz1 iz2 rfl _ _ _ rfl (HO.out.row.keep (behind_of_below (below_one wr _)) (by simp)) wr.heap.size 1 1 [.int .i64 y] 3 rfl (new_one wr _) rfl (by intro z hz; simp at hz; subst hz; rfl) (by omega) (by unfold maxLen; omega) (by omega) ?_)
      intro v9 w9 hr9 hB9 hn9
      have h09 : Behind wr (rowBlk u9) w9 := ((behind_of_below (below_one wr _)).mono (by simp)).trans hB9 (fun k hk => .inl hk)
      have hr9' : RowV (inW w9) 3 1 v9 (((litsOf T).take j).length + 1) (ints ((litsOf T).take j) ++ [.int .i64 y]) := by
        first | exact hr9 | (rw [List.length_take]; exact hr9) | (rw [HLJ.out]; exact hr9)
      have hO9 := HO.out.grown HB.out.size (by simp) hr9' (fun g hg => (hn9 g hg).imp id (fun h => by first | omega | (simp at h; omega)))
      rw [← HTK.out] at hO9
      have HO9 := Lib.hid hO9
      have HB9 := Lib.hid (HB.out.trans (h09.below_of (b := w2.heap.size) HO.out.ge HB.out.size))
      clear hr9 hr9' hB9 hn9 h09 hO9 HO HB c0
      go_wp2_with fail
      go_roundw
      case rel => exact ⟨j + 1, by omega, by go_num, HO9, HB9⟩
      case measure => simp [intOf]; omega
    · obtain rfl : j = T.length := by omega
      have hdj : decide (T.length < T.length) = false := by simp
      have hO := HO.out
      rw [List.take_of_length_le (by simp [litsOf])] at hO
      obtain ⟨oa, oc, rfl, hOA⟩ := own_at hO
      have HOA := Lib.hid hOA
      have hll : (litsOf T).length ≤ 100000 := by simp [litsOf]; omega
      clear hO hOA HO
      go_wp2_with fail
      refine (xorder_law wr.heap.size (litsOf T) oa oc hll wr HOA.out (Nat.le_refl _)).mono ?_
      rintro r5 w5 ⟨v5, rfl, hO5, hB5⟩
      rw [HRES.out _ HE.out] at hO5
      obtain ⟨ra, rc, rfl, hRA⟩ := own_at hO5
      have HRA := Lib.hid hRA
      have HB5 := Lib.hid (HB2.out.trans ((HB.out.trans (hB5.mono HB.out.size)).mono HB2.out.size))
      clear hO5 hRA hB5
      go_wp2_with fail
      rw [HR.out]
      exact ⟨ra, rc, rfl, HRA.out, HB5.out⟩
end Go.Proofs.Ytbacloneddnaeaa

/- BayesModels: what its walk needs of terms, models and sets; plain laws. -/
namespace Go.Proofs.Ytbacloneddnaeaa
open Go.RowKit Go.Shelf Num

def termRow (l : List BV) (vs : List Nat) (i m : Nat) : List Int := (List.range m).map fun k => if k = vs.getD i 0 then ((kSum (l.take i) + k + 1 : Nat) : Int) else -((kSum (l.take i) + k + 1 : Nat) : Int)
theorem termRow_succ (l : List BV) (vs : List Nat) (i m : Nat) : termRow l vs i (m + 1) = termRow l vs i m ++ [if m = vs.getD i 0 then ((kSum (l.take i) + m + 1 : Nat) : Int) else -((kSum (l.take i) + m + 1 : Nat) : Int)] := by
  unfold termRow
  rw [List.range_succ, List.map_append]; rfl
theorem termRow_len (l : List BV) (vs : List Nat) (i m : Nat) : (termRow l vs i m).length = m := by simp [termRow]
def termF (l : List BV) (vs : List Nat) (j : Nat) : List Int := (List.range j).flatMap fun i => termRow l vs i (kAt l i)
theorem termF_succ (l : List BV) (vs : List Nat) (j : Nat) : termF l vs (j + 1) = termF l vs j ++ termRow l vs j (kAt l j) := by
  unfold termF
  rw [List.range_succ, List.flatMap_append]; simp
theorem termF_len (l : List BV) (vs : List Nat) (hk : ∀ i, kAt l i ≤ 8) : ∀ j, (termF l vs j).length ≤ 8 * j
  | 0 => by simp [termF]
  | j + 1 => by
    have := termF_len l vs hk j
    have := hk j
    rw [termF_succ, List.length_append, termRow_len]; omega

section
variable {l : List BV} (hc : checkE l = 0) (hg : Good l) {vs : List Nat} (hf : Fit l vs)
include hf

theorem term_mem {d : Int} {j : Nat} (hj : j ≤ l.length) (h : d ∈ termF l vs j) : Sat l vs d ∧ d ≠ 0 ∧ -((encOf l).N : Int) ≤ d ∧ d ≤ (encOf l).N := by
  unfold termF at h
  obtain ⟨i, hi, h2⟩ := List.mem_flatMap.1 h
  have hi := List.mem_range.1 hi
  obtain ⟨x, hx⟩ : ∃ x, l[i]? = some x := ⟨_, List.getElem?_eq_getElem (show i < l.length by omega)⟩
  unfold termRow at h2
  obtain ⟨k, hk, rfl⟩ := List.mem_map.1 h2
  have hk := List.mem_range.1 hk
  rw [kAt_of hx] at hk
  have hb := kSum_bound hx
  have ht := tru_ind hf hx hk
  rw [encOf_N]
  by_cases he : k = vs.getD i 0
  · rw [if_pos he]
    exact ⟨.inl ⟨by omega, ht.2 he⟩, by omega, by omega, by omega⟩
  · rw [if_neg he]
    exact ⟨.inr ⟨by omega, by rw [Int.neg_neg]; exact fun h => he (ht.1 h)⟩, by omega, by omega, by omega⟩

noncomputable def resF (l : List BV) (vs : List Nat) (n : Nat) : List Int := (List.range n).map fun v => @ite _ (Tru l vs ((v + 1 : Nat) : Int)) (Classical.propDecidable _) ((v + 1 : Nat) : Int) (-((v + 1 : Nat) : Int))

include hc hg
theorem order_res {S : List Int} (h : PEnd (Sat l vs) (encOf l).N (encOf l).L (termF l vs l.length) S) (hN : (encOf l).N ≤ 128) : orderF S 128 = resF l vs (encOf l).N := by
  have hdec := fun (v : Nat) (h1 : 1 ≤ v) (h2 : v ≤ (encOf l).N) => enc_done hc hg hf h.inv h.stuck (fun i x m hx hm => by
    have hi := (List.getElem?_eq_some_iff.1 hx).1
    have hmem : (if m = vs.getD i 0 then ((kSum (l.take i) + m + 1 : Nat) : Int) else -((kSum (l.take i) + m + 1 : Nat) : Int)) ∈ termF l vs l.length :=
      List.mem_flatMap.2 ⟨i, List.mem_range.2 hi, List.mem_map.2 ⟨m, List.mem_range.2 (by rw [kAt_of hx]; exact hm), rfl⟩⟩
    have := h.all _ hmem
    split at this
    · exact .inl this
    · exact .inr this) h1 h2
  have key : ∀ d m : Nat, m + d = 128 → orderF S m = resF l vs (min m (encOf l).N) := by
    intro d m
    induction m generalizing d with
    | zero => intro _; simp [orderF, resF]
    | succ m ih =>
      intro hd
      rw [orderF_succ, ih (d + 1) (by omega)]
      by_cases hm : m < (encOf l).N
      · rw [Nat.min_eq_left (by omega), Nat.min_eq_left (by omega)]
        have hr : resF l vs (m + 1) = resF l vs m ++ [@ite _ (Tru l vs ((m + 1 : Nat) : Int)) (Classical.propDecidable _) ((m + 1 : Nat) : Int) (-((m + 1 : Nat) : Int))] := by
          unfold resF
          rw [List.range_succ, List.map_append]; rfl
        rw [hr]
        by_cases ht : Tru l vs ((m + 1 : Nat) : Int)
        · have hno : -((m + 1 : Nat) : Int) ∉ S := fun hm' => by
            rcases (h.inv.sat _ hm').1 with ⟨a, _⟩ | ⟨_, b⟩
            · omega
            · rw [Int.neg_neg] at b; exact b ht
          have hyes := (hdec (m + 1) (by omega) (by omega)).resolve_right hno
          rw [if_neg hno, if_pos hyes, if_pos ht, List.append_nil]
        · have hno : ((m + 1 : Nat) : Int) ∉ S := fun hm' => by
            rcases (h.inv.sat _ hm').1 with ⟨_, b⟩ | ⟨a, _⟩
            · exact ht b
            · omega
          have hyes := (hdec (m + 1) (by omega) (by omega)).resolve_left hno
          rw [if_pos hyes, if_neg hno, if_neg ht, List.append_nil]
      · rw [Nat.min_eq_right (by omega), Nat.min_eq_right (by omega)]
        rw [if_neg (fun hm' => by have := h.inv.sat _ hm'; omega), if_neg (fun hm' => by have := h.inv.sat _ hm'; omega), List.append_nil, List.append_nil]
  have := key 0 128 rfl
  rwa [Nat.min_eq_right hN] at this

theorem eval_model {m0 m1 : Nat} (hN : (encOf l).N ≤ 128) (hb : ∀ v : Nat, v < 128 → (bitS m0 m1 ((v + 1 : Nat) : Int) = true ↔ v < (encOf l).N ∧ Tru l vs ((v + 1 : Nat) : Int))) : evalB m0 m1 (encOf l).N (encOf l).L = true := by
  unfold evalB
  rw [Bool.and_eq_true, assignB_iff, List.all_eq_true]
  refine ⟨fun v h1 h2 => ?_, fun c hcl => ?_⟩
  · rw [← Bool.not_eq_true, hb v h2]
    omega
  · obtain ⟨y, hy, hs⟩ := encOf_sat hc hg hf hcl
    have hv := (enc_pcl hc hg hf).val c hcl y hy
    rw [List.any_eq_true]
    refine ⟨y, hy, ?_⟩
    unfold litB
    rcases hs with ⟨h1, h2⟩ | ⟨h1, h2⟩
    · rw [if_pos h1]
      obtain ⟨v, rfl⟩ : ∃ v : Nat, y = ((v + 1 : Nat) : Int) := ⟨(y - 1).toNat, by omega⟩
      exact (hb v (by omega)).2 ⟨by omega, h2⟩
    · rw [if_neg (by omega)]
      obtain ⟨v, rfl⟩ : ∃ v : Nat, y = -((v + 1 : Nat) : Int) := ⟨(-y - 1).toNat, by omega⟩
      rw [Int.neg_neg] at h2 ⊢
      rw [Bool.not_eq_true', ← Bool.not_eq_true, hb v (by omega)]
      exact fun h => h2 h.2
omit hc hg hf
theorem eval_once {a0 a1 : Nat} (h : evalB a0 a1 (encOf l).N (encOf l).L = true) {i : Nat} {x : BV} (hx : l[i]? = some x) : (seqFrom (kSum (l.take i)) x.k.toNat).countP (bitS a0 a1) = 1 := by
  unfold evalB at h
  rw [Bool.and_eq_true, List.all_eq_true] at h
  exact enc_once (fun c hc => List.any_eq_true.1 (h.2 c hc)) hx
end

theorem bit_or_lo {m0 m1 u : Nat} (hu : u < 64) (v : Nat) (hv : v < 128) : bitS (m0 ||| 2 ^ u) m1 ((v + 1 : Nat) : Int) = (bitS m0 m1 ((v + 1 : Nat) : Int) || decide (v = u)) := by
  unfold bitS
  by_cases h : ((v + 1 : Nat) : Int) ≤ 64
  · rw [if_pos h, if_pos h, show (((v + 1 : Nat) : Int) - 1).toNat = v by omega, Nat.testBit_or, Nat.testBit_two_pow]
    congr 1
    by_cases e : u = v
    · subst e; simp
    · rw [decide_eq_false e, decide_eq_false (fun h => e h.symm)]
  · rw [if_neg h, if_neg h, decide_eq_false (by omega), Bool.or_false]
theorem bit_or_hi {m0 m1 u : Nat} (v : Nat) (hv : v < 128) : bitS m0 (m1 ||| 2 ^ u) ((v + 1 : Nat) : Int) = (bitS m0 m1 ((v + 1 : Nat) : Int) || decide (v = u + 64)) := by
  unfold bitS
  by_cases h : ((v + 1 : Nat) : Int) ≤ 64
  · rw [if_pos h, if_pos h, decide_eq_false (by omega), Bool.or_false]
  · rw [if_neg h, if_neg h, Nat.testBit_or, Nat.testBit_two_pow]
    congr 1
    by_cases e : v = u + 64
    · rw [decide_eq_true e, decide_eq_true (by omega)]
    · rw [decide_eq_false e, decide_eq_false (by omega)]
end Go.Proofs.Ytbacloneddnaeaa

/- What the reference's Encode has made so far, in memory. -/
namespace Go.Proofs.Ytbacloneddnaeaa
open Go.RowKit Go.Shelf Num

structure CodP where
  vL : Value
  vH : Value
  vI : Value
  cl : List Value
  ci : List Value
def CodP.M (e : CodP) (gC : Nat) : List Nat := gC :: (rowBlk e.vL ++ (rowBlk e.vH ++ rowBlk e.vI))

structure CodAt (b top gC : Nat) (e : CodP) (s : ESt) (w : World) : Prop where
  mC : w.heap[gC]? = some (.cells #[.int .i64 0, e.vL, e.vH, e.vI] 51 (0, 0))
  rC : RowV (inW w) 30 1 e.vL s.L.length e.cl
  rH : RowV (inW w) 9 1 e.vH (s.N + 1) (strs (s.high.map rtext))
  rI : RowV (inW w) 30 1 e.vI s.ind.length e.ci
  oC : ∀ (i : Nat) (v : Value) (xs : List Int), e.cl[i]? = some v → s.L[i]? = some xs → OwnI w b (e.M gC) v xs ∧ ∀ g ∈ rowBlk v, g < top
  oI : ∀ (i : Nat) (v : Value) (xs : List Int), e.ci[i]? = some v → s.ind[i]? = some xs → OwnI w b (e.M gC) v xs ∧ ∀ g ∈ rowBlk v, g < top
  ge : ∀ g ∈ e.M gC, b ≤ g
  nd : (e.M gC).Nodup

theorem CodAt.lt {b top gC : Nat} {e : CodP} {s : ESt} {w : World} (h : CodAt b top gC e s w) : ∀ g ∈ e.M gC, g < w.heap.size := by
  intro g hg
  simp only [CodP.M, List.mem_cons, List.mem_append] at hg
  rcases hg with rfl | hg | hg | hg
  · exact lt_of_heap h.mC
  · exact h.rC.lt _ hg
  · exact h.rH.lt _ hg
  · exact h.rI.lt _ hg

theorem CodAt.keep {b top gC : Nat} {e : CodP} {s : ESt} {w w' : World} {U : List Nat} (h : CodAt b top gC e s w) (hk : Behind w U w') (hU : ∀ g ∈ U, top ≤ g ∧ g ∉ e.M gC) : CodAt b top gC e s w' := by
  have hm : ∀ g ∈ e.M gC, g ∉ U := fun g hg hu => (hU g hu).2 hg
  have ho : ∀ v xs, (OwnI w b (e.M gC) v xs ∧ ∀ g ∈ rowBlk v, g < top) → OwnI w' b (e.M gC) v xs ∧ ∀ g ∈ rowBlk v, g < top := fun v xs ⟨h1, h2⟩ =>
    ⟨⟨h1.row.keep hk (fun g hg hu => by have := (hU g hu).1; have := h2 g hg; omega), h1.ge, h1.out⟩, h2⟩
  exact ⟨hk.keep h.mC (hm _ (by simp [CodP.M])), h.rC.keep hk (fun g hg => hm g (by simp [CodP.M, hg])), h.rH.keep hk (fun g hg => hm g (by simp [CodP.M, hg])), h.rI.keep hk (fun g hg => hm g (by simp [CodP.M, hg])),
    fun i v xs h1 h2 => ho v xs (h.oC i v xs h1 h2), fun i v xs h1 h2 => ho v xs (h.oI i v xs h1 h2), h.ge, h.nd⟩

theorem CodAt.lift {b top gC : Nat} {e : CodP} {s : ESt} {w : World} (h : CodAt b top gC e s w) {top' : Nat} (ht : w.heap.size ≤ top') : CodAt b top' gC e s w :=
  { h with
    oC := fun i v xs h1 h2 => ⟨(h.oC i v xs h1 h2).1, fun g hg => Nat.lt_of_lt_of_le ((h.oC i v xs h1 h2).1.row.lt g hg) ht⟩
    oI := fun i v xs h1 h2 => ⟨(h.oI i v xs h1 h2).1, fun g hg => Nat.lt_of_lt_of_le ((h.oI i v xs h1 h2).1.row.lt g hg) ht⟩ }

theorem nd3 {g0 : Nat} {A B C : List Nat} : (g0 :: (A ++ (B ++ C))).Nodup ↔ (g0 ∉ A ∧ g0 ∉ B ∧ g0 ∉ C) ∧ A.Nodup ∧ B.Nodup ∧ C.Nodup ∧ (∀ g ∈ A, g ∉ B ∧ g ∉ C) ∧ (∀ g ∈ B, g ∉ C) := by
  simp only [List.nodup_cons, List.nodup_append, List.mem_append, not_or]
  constructor
  · rintro ⟨⟨h1, h2, h3⟩, hA, ⟨hB, hC, hBC⟩, hd⟩
    exact ⟨⟨h1, h2, h3⟩, hA, hB, hC, fun g hg => ⟨fun hm => hd g hg g (.inl hm) rfl, fun hm => hd g hg g (.inr hm) rfl⟩, fun g hg hm => hBC g hg g hm rfl⟩
  · rintro ⟨⟨h1, h2, h3⟩, hA, hB, hC, hd, hBC⟩
    refine ⟨⟨h1, h2, h3⟩, hA, ⟨hB, hC, fun g hg g' hg' e => hBC g hg (e ▸ hg')⟩, fun g hg g' hg' e => ?_⟩
    subst e
    rcases hg' with hg' | hg'
    · exact (hd g hg).1 hg'
    · exact (hd g hg).2 hg'

theorem OwnI.anyM {w : World} {b : Nat} {M : List Nat} {v : Value} {xs : List Int} (h : OwnI w b M v xs) : OwnI w b [] v xs := ⟨h.row, h.ge, fun g _ hm => by simp at hm⟩
theorem RowV.pos {B : Blocks} {E : TypeId} {size : Nat} {v : Value} {n : Nat} {xs : List Value} (h : RowV B E size v n xs) (h0 : 0 < n) : ∃ g cap cur, v = .slice (some ⟨g, 0, none⟩) n cap ∧ RowB B E size g n cap xs cur := by
  cases h with
  | nil => omega
  | row h => exact ⟨_, _, _, rfl, h⟩
theorem OwnI.block {x : World} {b g : Nat} {M : List Nat} {c : List Int} (hm : x.heap[g]? = some (.cells (ints c).toArray 3 (0, 0))) (hl : c.length ≤ 1000) (hb : b ≤ g) (hM : g ∉ M) : OwnI x b M (.slice (some ⟨g, 0, none⟩) c.length c.length) c := by
  refine ⟨.row (cur := (ints c).toArray) ⟨hm, Nat.le_refl _, by unfold maxLen; omega, by simp [ints], List.take_of_length_le (by simp [ints]), by simp [ints]⟩, fun g' hg => ?_, fun g' hg hm' => ?_⟩
  · have : g' = g := by simpa [rowBlk] using hg
    omega
  · have : g' = g := by simpa [rowBlk] using hg
    exact hM (this ▸ hm')
theorem ind_of {x : World} {b : Nat} {v : Value} {cl : List Value} {L : List (List Int)} (hr : RowV (inW x) 30 1 v L.length cl) (ho : ∀ (i : Nat) (v : Value) (xs : List Int), cl[i]? = some v → L[i]? = some xs → OwnI x b [] v xs) : ∃ ia ic, v = .slice ia L.length ic ∧ IndAt x.heap.size x ia L := by
  obtain ⟨a, c, h1, h2, _⟩ := OutN.row (M := []) hr (by simp)
  have hlen : cl.length = L.length := by simpa using hr.length
  refine ⟨a, c, h1, fun i xs hi => ?_⟩
  have hl := (List.getElem?_eq_some_iff.1 hi).1
  obtain ⟨u, hu⟩ : ∃ u, cl[i]? = some u := ⟨_, List.getElem?_eq_getElem (by omega)⟩
  obtain ⟨b', o, _, e1, hc⟩ := h2 i u hu
  obtain ⟨pa, pc, rfl, hp⟩ := own_at (ho i u xs hu hi)
  exact ⟨b', o, pa, pc, block_lt_of_cell hc, e1, hc, hp⟩
theorem CodAt.out {b top gC gR : Nat} {e : CodP} {s : ESt} {w x : World} (h : CodAt b top gC e s w) (hx : Behind w [gC, gR] x) (hR : gR < b) :
    (∃ ia ic, e.vL = .slice ia s.L.length ic ∧ IndAt x.heap.size x ia s.L) ∧ (∃ ha hc, e.vH = .slice ha (s.N + 1) hc ∧ AtN x.heap.size x ha (strs (s.high.map rtext))) ∧ (∃ ia ic, e.vI = .slice ia s.ind.length ic ∧ IndAt x.heap.size x ia s.ind) := by
  obtain ⟨⟨d1, d2, d3⟩, _⟩ := nd3.1 h.nd
  have hk : ∀ g, g ∈ e.M gC → g ≠ gC → g ∉ [gC, gR] := fun g hg hn hm => by
    have := h.ge g hg
    simp at hm
    rcases hm with rfl | rfl
    · exact hn rfl
    · omega
  have ho : ∀ v xs, OwnI w b (e.M gC) v xs → OwnI x b [] v xs := fun v xs h1 => by
    refine ⟨h1.row.keep hx (fun g hg hm => ?_), h1.ge, fun g _ hm => by simp at hm⟩
    have h2 := h1.ge g hg
    have h3 := h1.out g hg
    simp at hm
    rcases hm with rfl | rfl
    · exact h3 (by simp [CodP.M])
    · omega
  refine ⟨ind_of (h.rC.keep hx (fun g hg => hk g (by simp [CodP.M, hg]) (fun e => d1 (e ▸ hg)))) (fun i v xs h1 h2 => ho v xs (h.oC i v xs h1 h2).1), ?_, ind_of (h.rI.keep hx (fun g hg => hk g (by simp [CodP.M, hg]) (fun e => d3 (e ▸ hg)))) (fun i v xs h1 h2 => ho v xs (h.oI i v xs h1 h2).1)⟩
  obtain ⟨a, c, h1, h2, _⟩ := OutN.row (M := []) (h.rH.keep hx (fun g hg => hk g (by simp [CodP.M, hg]) (fun e => d2 (e ▸ hg)))) (by simp)
  exact ⟨a, c, h1, fun i v hi => by
    obtain ⟨g, o, _, e, k⟩ := h2 i v hi
    exact ⟨g, o, block_lt_of_cell k, e, k⟩⟩
end Go.Proofs.Ytbacloneddnaeaa

/- One append to a field of the reference's code, in a fixed region. -/
namespace Go.Proofs.Ytbacloneddnaeaa
open Go.RowKit Go.Shelf Num

end Go.Proofs.Ytbacloneddnaeaa

/- censusref40.Encode: the walk. -/
namespace Go.Proofs.Ytbacloneddnaeaa
open Go.RowKit Go.Shelf Num

end Go.Proofs.Ytbacloneddnaeaa
