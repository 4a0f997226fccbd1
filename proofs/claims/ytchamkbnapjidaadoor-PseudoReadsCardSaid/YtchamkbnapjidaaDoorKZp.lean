/- The reference's Parse: it reads the same. -/
import Derived.Test.YtchamkbnapjidaaDoorKZt
import Derived.Test.YtchamkbnapjidaaDoorKZu
import Derived.Test.YtchamkbnapjidaaDoorKZw
import Derived.Test.YtchamkbnapjidaaDoorKQ
import Derived.Deep.DeepCutAuto
namespace Go.Proofs.YtchamkbnapjidaaDoor
open Go.RowKit

def r1 (w : List UInt8) (q : Option (List UInt8)) (st : RSt) : RSt := if w = [62, 61] then (match q with | some q => { st with m := numR q } | none => st) else st
def r2 (p : Option (List UInt8)) (w : List UInt8) (st : RSt) : RSt := match p with
  | none => st
  | some p => if 1 < w.length ∧ w.head? = some 120 then ⟨st.sg, st.C ++ [st.sg * numR p], st.L ++ [numR (w.drop 1)], st.m⟩ else st
def r3 (p : Option (List UInt8)) (w : List UInt8) (st : RSt) : RSt := match p with
  | none => st
  | some p => if 2 < w.length ∧ w.take 2 = [126, 120] then ⟨st.sg, st.C ++ [st.sg * numR p], st.L ++ [-numR (w.drop 2)], st.m⟩ else st
def r4 (w : List UInt8) (st : RSt) : RSt := if w = [45] then { st with sg := -1 } else st
def r5 (w : List UInt8) (st : RSt) : RSt := if w = [43] then { st with sg := 1 } else st
theorem rStep_eq (p : Option (List UInt8)) (w : List UInt8) (q : Option (List UInt8)) (st : RSt) : rStep p w q st = r5 w (r4 w (r3 p w (r2 p w (r1 w q st)))) := by cases p <;> rfl
theorem numR_in (l : List UInt8) : -10000000000 ≤ numR l ∧ numR l ≤ 10000000000 := by
  unfold numR
  generalize (if numS l then l.drop 1 else l) = x
  simp only []
  split
  · rename_i h
    rw [Bool.and_eq_true, List.all_eq_true, decide_eq_true_eq] at h
    have h1 := digs_lt (l := x) (k := x.length) (fun c hc => h.1 c (by rw [List.take_length] at hc; exact hc)) h.2
    rw [List.take_length] at h1
    split <;> omega
  · omega
/-- What the reader has read. -/
structure RS (bo : Nat) (wo w : World) (K : Nat) (st : RSt) : Prop where
  sg : st.sg = 1 ∨ st.sg = -1
  le : st.C.length ≤ K
  len : st.L.length = st.C.length
  mem : ∃ pC cC pL cL, w.heap[bo]? = some (.cells #[.slice pC st.C.length cC, .slice pL st.L.length cL, .int .i64 st.m] 24 (0, 0)) ∧ Two w (bo + 1) (.slice pC st.C.length cC) st.C (.slice pL st.L.length cL) st.L
  bel : Below bo wo w

theorem RS.keep {bo : Nat} {wo w w' : World} {K : Nat} {st : RSt} (h : RS bo wo w K st) (hb : Below w.heap.size w w') : RS bo wo w' K st := by
  obtain ⟨h1, h2, h3, ⟨pC, cC, pL, cL, h4, h5⟩, h6⟩ := h
  have hlt := lt_of_heap h4
  exact ⟨h1, h2, h3, ⟨pC, cC, pL, cL, (behind_of_below hb).keep h4 (by simp), h5.keepB hb⟩, h6.trans (hb.mono (Nat.le_of_lt hlt))⟩
theorem RS.setm {bo : Nat} {wo w : World} {K : Nat} {st : RSt} (h : RS bo wo w K st) (m : Int) : RS bo wo (w.setCell ⟨bo, 2, none⟩ (.int .i64 m)) K { st with m := m } := by
  obtain ⟨h1, h2, h3, ⟨pC, cC, pL, cL, h4, h5⟩, h6⟩ := h
  exact ⟨h1, h2, h3, ⟨pC, cC, pL, cL, heap_setCell_same _ bo 2 _ _ _ h4, h5.keepU (behind_set2 (b := bo) (Wr := [bo])) (fun g hg => by simp at hg; omega)⟩, h6.setCell (Nat.le_refl _) _⟩
theorem RS.more {bo : Nat} {wo w : World} {K K' : Nat} {st : RSt} (h : RS bo wo w K st) (hK : K ≤ K') : RS bo wo w K' st := ⟨h.sg, Nat.le_trans h.le hK, h.len, h.mem, h.bel⟩
theorem RS.sign {bo : Nat} {wo w : World} {K : Nat} {st : RSt} (h : RS bo wo w K st) {g : Int} (hg : g = 1 ∨ g = -1) : RS bo wo w K { st with sg := g } := ⟨hg, h.le, h.len, h.mem, h.bel⟩
theorem r1_sg (w : List UInt8) (q : Option (List UInt8)) (st : RSt) : (r1 w q st).sg = st.sg := by unfold r1; split <;> (try split) <;> rfl
theorem r2_sg (p : Option (List UInt8)) (w : List UInt8) (st : RSt) : (r2 p w st).sg = st.sg := by unfold r2; split <;> (try split) <;> rfl
theorem r3_sg (p : Option (List UInt8)) (w : List UInt8) (st : RSt) : (r3 p w st).sg = st.sg := by unfold r3; split <;> (try split) <;> rfl

theorem parse_long {l : List UInt8} (h : 4096 < l.length) : parseR2 l = (.zero, 5) := by
  have := parse_ref l
  rw [if_pos h] at this
  unfold parseR2; rw [← this]
theorem parse_bad {l : List UInt8} (h : ¬ (checkS (parseR l) 128 = 0 ∧ textS (parseR l) = l)) : parseR2 l = (.zero, 5) := by
  have := parse_ref l
  unfold parseR2; rw [← this]
  rw [if_neg h, ite_self]
theorem parse_good {l : List UInt8} (h0 : ¬ 4096 < l.length) (h : checkS (parseR l) 128 = 0 ∧ textS (parseR l) = l) : parseR2 l = (parseR l, 0) := by
  have := parse_ref l
  rw [if_neg h0, if_pos h] at this
  unfold parseR2; rw [← this]

set_option maxHeartbeats 4000000 in
set_option maxRecDepth 100000 in
theorem xParse (l : List UInt8) (hl : l.length ≤ 5000) (w : World) :
    Calls Tryd.prog 19 #[.string ⟨l.toArray⟩] w (SumPost w (parseR2 l).1 (parseR2 l).2) := by
  obtain ⟨Post, hPost⟩ : ∃ P : Ending → World → Prop, P = SumPost w (parseR2 l).1 (parseR2 l).2 := ⟨_, rfl⟩
  rw [← hPost]
  have HP := Lib.hid hPost
  obtain ⟨s, hs⟩ : ∃ s : ByteArray, s = ⟨l.toArray⟩ := ⟨_, rfl⟩
  have hsz : s.size = l.length := by rw [hs]; exact ba_size l
  have hsl : s.size ≤ 5000 := by omega
  by_cases h4 : 4096 < l.length
  · have hd : decide (4096 < s.size) = true := by simp; omega
    have hd2 : decide ((4096 : Int) < (s.size : Int)) = true := by simp; omega
    have HQ := Lib.hid (fun (w' : World) (hb : Below w.heap.size w w') => show Post (.returned (.tuple #[.agg #[.slice none 0 0, .slice none 0 0, .int .i64 0], .int .i64 5])) w' by
      rw [hPost, parse_long h4]; exact ⟨_, _, rfl, two_none _ _, hb⟩)
    rw [← hs]
    clear hPost HP hs hsz h4
    go_enter Tryd.func19, Tryd.ntmps19
    go_upto_region 1 with fail
    refine wp_gen ?_
    intro w1 hw1
    have HB1 := Lib.hid (show Below w.heap.size w w1 by rw [hw1]; exact below_one _ _)
    have M1 := Lib.hid (show w1.heap[w.heap.size]? = some (.cells #[.slice none 0 0, .slice none 0 0, .int .i64 0] 24 (0, 0)) by rw [hw1]; exact new_one _ _)
    clear hw1
    have c0 := blk_cell M1.out 0 rfl
    have c1 := blk_cell M1.out 1 rfl
    have c2 := blk_cell M1.out 2 rfl
    have f0 := blk_free M1.out 0
    have f1 := blk_free M1.out 1
    have f2 := blk_free M1.out 2
    go_wp2_with fail
    refine bodyPost_ret (results_cell_tmp (p := 2) (q := 3) rfl _ _ w.heap.size _ _ (0, 0) _ rfl (three_set M1.out) Tryd.underlying24 rfl Tryd.sizeSum _ rfl) rfl ?_
    exact HQ.out _ (HB1.out.trans (three_below (Nat.le_refl _)))
  have hd : decide (4096 < s.size) = false := by simp; omega
  have hd2 : decide ((4096 : Int) < (s.size : Int)) = false := by simp; omega
  have KW := xWords l hl
  have hwl := words_len l
  have HEQ := Lib.hid (show parseR l = ⟨(rLoop (wordsR l) (wordsR l).length).C, (rLoop (wordsR l) (wordsR l).length).L, (rLoop (wordsR l) (wordsR l).length).m⟩ from rfl)
  unfold WordsPost at KW
  rw [← hs] at KW
  rw [← hs]
  have HSE := Lib.hid hs
  have h4096 : l.length ≤ 4096 := by omega
  generalize hW : wordsR l = W at *
  clear hW
  obtain ⟨hW1, hW2⟩ := hwl
  have HWL := Lib.hid (show ∀ x ∈ W, x.length ≤ 4096 from fun x hx => by have := hW2 x hx; omega)
  have hWl : W.length ≤ 4097 := by omega
  obtain ⟨i0, ii, iz0, iz1, iz2⟩ := info_parts Tryd.infoInt
  have II := Lib.hid ii
  have IZ0 := Lib.hid iz0
  have IZ1 := Lib.hid iz1
  have IZ2 := Lib.hid iz2
  clear ii iz0 iz1 iz2 hPost hs hsz hW1 hW2
  go_enter Tryd.func19, Tryd.ntmps19
  go_upto_region 1 with fail
  refine wp_gen ?_
  intro w1 hw1
  have HB1 := Lib.hid (show Below w.heap.size w w1 by rw [hw1]; exact below_one _ _)
  have M1 := Lib.hid (show w1.heap[w.heap.size]? = some (.cells #[.slice none 0 0, .slice none 0 0, .int .i64 0] 24 (0, 0)) by rw [hw1]; exact new_one _ _)
  clear hw1
  go_wp2_with fail
  refine (KW w1).mono ?_
  rintro e w2 ⟨a, c, rfl, hA, hb⟩
  have HB2 := Lib.hid (HB1.out.trans (hb.mono HB1.out.size))
  have M2 := Lib.hid ((behind_of_below hb).keep M1.out (by simp))
  have hm2 : w.heap.size < w2.heap.size := lt_of_heap M2.out
  have HA := Lib.hid hA
  clear hb M1 HB1 hA KW
  go_upto_region 5 with fail
  refine wp_gen ?_
  intro wo hwo
  have HBo := Lib.hid (show Below w2.heap.size w2 wo by rw [hwo]; exact below_one w2 _)
  have Mo := Lib.hid (show wo.heap[w2.heap.size]? = some (.cells #[.slice none 0 0, .slice none 0 0, .int .i64 0] 24 (0, 0)) by rw [hwo]; exact new_one w2 _)
  obtain ⟨bo, hbo⟩ : ∃ bo, bo = w2.heap.size := ⟨_, rfl⟩
  rw [← hbo] at HBo Mo HA
  rw [← hbo]
  have hbo2 : w.heap.size < bo := by omega
  have hboo : bo < wo.heap.size := lt_of_heap Mo.out
  have HK := Lib.hid (show ∀ x : World, Below bo wo x → Below w.heap.size w x ∧ x.heap[w.heap.size]? = some (.cells #[.slice none 0 0, .slice none 0 0, .int .i64 0] 24 (0, 0)) ∧ AtN bo x a (strs W) from fun x hx =>
    ⟨HB2.out.trans ((HBo.out.mono (by omega)).trans (hx.mono (by omega))), (hx.block _ hbo2).trans ((HBo.out.block _ hbo2).trans M2.out), (HA.out.below HBo.out (Nat.le_refl _)).below hx (Nat.le_refl _)⟩)
  clear hwo hbo HBo HA M2 HB2
  go_wp2_with fail
  go_loopw [7, 6] (fun t7 t6 wr => ∃ (j : Nat) (st : RSt), j ≤ W.length ∧ t7 = .int .i64 j ∧ t6 = .int .i64 st.sg ∧ Hid (rLoop W j = st) ∧ Hid (RS bo wo wr (2 * j) st)) (fun t7 _ _ => W.length - (intOf t7).toNat)
  case atStart => exact ⟨0, ⟨1, [], [], 0⟩, Nat.zero_le _, rfl, rfl, rfl, ⟨.inl rfl, Nat.le_refl _, rfl, ⟨none, 0, none, 0, Mo.out, two_none _ _⟩, Below.refl _ _⟩⟩
  case round =>
    obtain ⟨j, st, hj, rfl, rfl, HR, HS⟩ := hrel
    by_cases hlt : j < W.length
    · have hdd : decide (j < W.length) = true := by simpa using hlt
      have hwd : W[j]? = some (W.getD j []) := by simp [List.getD, hlt]
      have HN := Lib.hid (show rLoop W (j + 1) = r5 (W.getD j []) (r4 (W.getD j []) (r3 (pvW W j) (W.getD j []) (r2 (pvW W j) (W.getD j []) (r1 (W.getD j []) W[j + 1]? st)))) by rw [rLoop_succ, HR.out, rStep_eq])
      have hdl : (W.getD j []).length ≤ 4096 := HWL.out _ (List.mem_of_getElem? hwd)
      have HAT := Lib.hid (show ∀ x, Below bo wo x → ∃ b o, b < bo ∧ a = some ⟨b, o, none⟩ ∧ x.cell? ⟨b, o + j, none⟩ = some (.string ⟨(W.getD j []).toArray⟩) from fun x hx => (HK.out x hx).2.2 _ _ (strs_get _ _ _ hwd))
      generalize hwd' : W.getD j [] = d at *
      clear hwd hwd'
      obtain ⟨y, hy⟩ : ∃ y : ByteArray, y = ⟨d.toArray⟩ := ⟨_, rfl⟩
      rw [← hy] at HAT
      have hyz : y.size = d.length := by rw [hy]; exact ba_size d
      obtain ⟨b, o, hb, rfl, k0⟩ := HAT.out _ HS.out.bel
      have HTL := Lib.hid (show y.toList = d by rw [hy, ByteArray.toList_eq])
      have HGT := Lib.hid (show ∀ h : 0 < y.size, d.head? = some y[0] from fun h => by
        subst hy
        cases d with
        | nil => simp [ba_size] at h
        | cons a l => rfl)
      have HX1 := Lib.hid (show (⟨(d.drop 1).toArray⟩ : ByteArray) = y.extract 1 y.size by
        rw [hy, ba_size]; apply ByteArray.ext; simp only [ByteArray.data_extract, List.extract_toArray, List.extract_eq_take_drop]; rw [List.take_of_length_le (by rw [List.length_drop]; omega)])
      have HX2 := Lib.hid (show (⟨(d.drop 2).toArray⟩ : ByteArray) = y.extract 2 y.size by
        rw [hy, ba_size]; apply ByteArray.ext; simp only [ByteArray.data_extract, List.extract_toArray, List.extract_eq_take_drop]; rw [List.take_of_length_le (by rw [List.length_drop]; omega)])
      have HT2 := Lib.hid (show (y.extract 0 2).toList = d.take 2 by
        rw [hy, ByteArray.toList_eq]; simp [ByteArray.data_extract, List.extract_toArray, List.extract_eq_take_drop])
      have HYZ := Lib.hid hyz
      have hyl : y.size ≤ 4096 := by omega
      have K1 := xNumber (d.drop 1) (by rw [List.length_drop]; omega)
      have K2 := xNumber (d.drop 2) (by rw [List.length_drop]; omega)
      rw [HX1.out] at K1
      rw [HX2.out] at K2
      clear hy hyz HX1 HX2
      go_upto_region 9 with fail
      go_cut [33] (fun t33 wx => t33 = .bool (decide (d = [62, 61]) && decide (j + 1 < W.length)) ∧ wr = wx)
      case first =>
        by_cases h1 : d = [62, 61]
        · have hE : (y.toList == [62, 61]) = true := by rw [HTL.out, h1]; rfl
          have hD : decide (d = [62, 61]) = true := decide_eq_true h1
          by_cases h2 : j + 1 < W.length
          · have h3 : decide (j + 1 < W.length) = true := decide_eq_true h2
            have h3' : decide ((j : Int) + 1 < (W.length : Int)) = true := by simp; omega
            go_wp2_with fail
            go_meet
            case rel => exact ⟨by rw [hD, h3]; try rfl, rfl⟩
          · have h3 : decide (j + 1 < W.length) = false := decide_eq_false h2
            have h3' : decide ((j : Int) + 1 < (W.length : Int)) = false := by simp; omega
            go_wp2_with fail
            go_meet
            case rel => exact ⟨by rw [hD, h3]; try rfl, rfl⟩
        · have hE : (y.toList == [62, 61]) = false := by rw [HTL.out]; simpa using h1
          have hD : decide (d = [62, 61]) = false := decide_eq_false h1
          go_wp2_with fail
          go_meet
          case rel => exact ⟨by rw [hD]; try rfl, rfl⟩
      case rest =>
      obtain ⟨rfl, rfl⟩ := hcut
      obtain ⟨w1, hw1⟩ : ∃ w1, w1 = wr := ⟨_, rfl⟩
      subst hw1
      obtain ⟨sg, hsg⟩ : ∃ sg, sg = st.sg := ⟨_, rfl⟩
      rw [← hsg]
      have HSGE := Lib.hid hsg
      clear hsg
      clear k0
      go_upto_if 33 with fail
      go_cut [6] (fun t6 wx => t6 = .int .i64 sg ∧ Hid (RS bo wo wx (2 * j) (r1 d W[j + 1]? st)))
      case first =>
        by_cases h1 : d = [62, 61]
        · have hD : decide (d = [62, 61]) = true := decide_eq_true h1
          by_cases h2 : j + 1 < W.length
          · have h3 : decide (j + 1 < W.length) = true := decide_eq_true h2
            have hwd : W[j + 1]? = some (W.getD (j + 1) []) := by simp [List.getD, h2]
            have HE := Lib.hid (show r1 d W[j + 1]? st = { st with m := numR (W.getD (j + 1) []) } by unfold r1; rw [if_pos h1, hwd])
            have K := xNumber (W.getD (j + 1) []) (by have := HWL.out _ (List.mem_of_getElem? hwd); omega)
            obtain ⟨b', o', hb', he', k0⟩ := (HK.out _ HS.out.bel).2.2 _ _ (strs_get _ _ _ hwd)
            cases he'
            generalize numR (W.getD (j + 1) []) = n at *
            generalize (⟨(W.getD (j + 1) []).toArray⟩ : ByteArray) = z at *
            rw [hD, h3, Bool.true_and]
            clear hwd h1
            have k0' := k0
            rw [show o + (j + 1) = o + j + 1 by omega] at k0'
            go_wp2_with fail
            refine (K _).mono ?_
            rintro e w3 ⟨rfl, hb⟩
            have HS3 := Lib.hid (HS.out.keep hb)
            clear hb K k0 k0'
            obtain ⟨pC, cC, pL, cL, hm, _⟩ := HS3.out.mem
            have f2 := blk_free hm 2
            have c2 := blk_cell hm 2 rfl
            clear hm
            go_wp2_with fail
            go_meet
            case rel => exact ⟨rfl, by rw [HE.out]; exact HS3.out.setm n⟩
          · have h3 : decide (j + 1 < W.length) = false := decide_eq_false h2
            have HE := Lib.hid (show r1 d W[j + 1]? st = st by unfold r1; rw [if_pos h1, List.getElem?_eq_none (by omega)])
            rw [hD, h3, Bool.true_and]
            go_wp2_with fail
            go_meet
            case rel => exact ⟨rfl, by rw [HE.out]; exact HS.out⟩
        · have hD : decide (d = [62, 61]) = false := decide_eq_false h1
          have HE := Lib.hid (show r1 d W[j + 1]? st = st by unfold r1; rw [if_neg h1])
          rw [hD, Bool.false_and]
          go_wp2_with fail
          go_meet
          case rel => exact ⟨rfl, by rw [HE.out]; exact HS.out⟩
      case rest =>
      have HG0 := HSGE
      obtain ⟨rfl, HS1⟩ := hcut
      obtain ⟨wr, hwr⟩ : ∃ x, x = wc := ⟨_, rfl⟩
      subst hwr
      have HG1 := Lib.hid (show sg = (r1 d W[j + 1]? st).sg from HG0.out.trans (r1_sg _ _ _).symm)
      generalize r1 d W[j + 1]? st = st1 at *
      obtain ⟨bq, oq, hbq, hqe, k0⟩ := HAT.out _ HS1.out.bel
      cases hqe
      go_upto_region 11 with fail
      go_cut [58] (fun t wx => t = .bool ((decide (0 < j) && decide (1 < y.size)) && decide (d.head? = some 120)) ∧ wr = wx)
      case first =>
        by_cases hj0 : 0 < j
        · have hA : decide (0 < j) = true := decide_eq_true hj0
          have hA' : decide ((0 : Int) < (j : Int)) = true := by simp; omega
          by_cases h1 : 1 < y.size
          · have hB : decide (1 < y.size) = true := decide_eq_true h1
            have hB' : decide ((1 : Int) < (y.size : Int)) = true := by simp; omega
            by_cases hx : d.head? = some 120
            · have hC : decide (d.head? = some 120) = true := decide_eq_true hx
              have hE : ((y[0].toNat : Int) == 120) = true := by
                have := HGT.out (by omega)
                rw [hx, Option.some.injEq] at this
                rw [← this]; rfl
              go_wp2_with fail
              go_meet
              case rel => exact ⟨by rw [hA, hB, hC]; try rfl, rfl⟩
            · have hC : decide (d.head? = some 120) = false := decide_eq_false hx
              have hE : ((y[0].toNat : Int) == 120) = false := by
                rw [beq_eq_false_iff_ne]
                intro h
                apply hx
                rw [HGT.out (by omega)]
                congr 1
                apply UInt8.toNat_inj.1
                show y[0].toNat = 120
                omega
              go_wp2_with fail
              go_meet
              case rel => exact ⟨by rw [hA, hB, hC]; try rfl, rfl⟩
          · have hB : decide (1 < y.size) = false := decide_eq_false h1
            have hB' : decide ((1 : Int) < (y.size : Int)) = false := by simp; omega
            go_wp2_with fail
            go_meet
            case rel => exact ⟨by rw [hA, hB]; try rfl, rfl⟩
        · have hA : decide (0 < j) = false := decide_eq_false hj0
          have hA' : decide ((0 : Int) < (j : Int)) = false := by simp; omega
          go_wp2_with fail
          go_meet
          case rel => exact ⟨by rw [hA]; try rfl, rfl⟩
      case rest =>
      obtain ⟨rfl, rfl⟩ := hcut
      clear k0
      go_upto_if 58 with fail
      go_cut [6] (fun t6 wx => t6 = .int .i64 sg ∧ Hid (RS bo wo wx (2 * j + 1) (r2 (pvW W j) d st1)))
      case first =>
        obtain ⟨hsg1, hle, hlen, ⟨pC, cC, pL, cL, hS0, hT0⟩, hB0⟩ := HS1.out
        by_cases hcnd : 0 < j ∧ 1 < y.size ∧ d.head? = some 120
        · obtain ⟨hj0, h1, hx⟩ := hcnd
          have hA : decide (0 < j) = true := decide_eq_true hj0
          have hB : decide (1 < y.size) = true := decide_eq_true h1
          have hC : decide (d.head? = some 120) = true := decide_eq_true hx
          rw [hA, hB, hC, Bool.true_and, Bool.true_and]
          obtain ⟨jj, rfl⟩ : ∃ jj, j = jj + 1 := ⟨j - 1, by omega⟩
          have hpd : W[jj]? = some (W.getD jj []) := by simp [List.getD, show jj < W.length by omega]
          have hpv : pvW W (jj + 1) = some (W.getD jj []) := by unfold pvW; rw [if_neg (by omega), show jj + 1 - 1 = jj by omega, hpd]
          have hyd : 1 < d.length := by have := HYZ.out; omega
          have HE2 := Lib.hid (show r2 (pvW W (jj + 1)) d st1 = ⟨st1.sg, st1.C ++ [st1.sg * numR (W.getD jj [])], st1.L ++ [numR (d.drop 1)], st1.m⟩ by rw [hpv]; exact if_pos ⟨hyd, hx⟩)
          rw [← HG1.out] at HE2 hsg1
          obtain ⟨bz, oz, hbz, hze, kz⟩ := (HK.out _ hB0).2.2 _ _ (strs_get _ _ _ hpd)
          cases hze
          have CP := Lib.hid kz
          have KA := xNumber (W.getD jj []) (by have := HWL.out _ (List.mem_of_getElem? hpd); omega)
          have KB := K1
          have hn1 := numR_in (W.getD jj [])
          have hn2 := numR_in (d.drop 1)
          generalize numR (W.getD jj []) = n1 at *
          generalize numR (d.drop 1) = n2 at *
          generalize (⟨(W.getD jj []).toArray⟩ : ByteArray) = z at *
          have HSG := Lib.hid hsg1
          have hmul : -10000000000 ≤ sg * n1 ∧ sg * n1 ≤ 10000000000 := by
            rcases hsg1 with h | h <;> rw [h] <;> omega
          have HLE := Lib.hid hlen
          have hLle : st1.L.length ≤ 2 * (jj + 1) := by omega
          have HS0 := Lib.hid hS0
          have HTT := Lib.hid hT0
          have HB := Lib.hid hB0
          have hbr : bo < wr.heap.size := lt_of_heap hS0
          generalize st1.C = C1 at *
          generalize st1.L = L1 at *
          generalize st1.m = m1 at *
          have HnS := Lib.hid (show bo ∉ rowBlk (.slice pC C1.length cC) from fun h => by have := HTT.out.o1.ge _ h; omega)
          clear hA hB hC hx hpd hpv kz hsg1 hlen hS0 hT0 hB0 K1 K2
          go_wp2_with fail
          obtain ⟨kF1, hkF1⟩ : ∃ kF1, kF1 = kA (.slice pC C1.length cC) C1.length 1 := ⟨_, rfl⟩
          have hkF1' : kF1 = 2 ∨ kF1 = 5 := by rw [hkF1]; exact kA_or _ _ _
          have HK1 := Lib.hid hkF1
          clear hkF1
          have HWG := Lib.hid (show ∀ g ∈ (rowBlk (.slice pC C1.length cC)), (bo + 1) ≤ g from fun g hg => HTT.out.o1.ge g hg)
          have HLT1 := Lib.hid HTT.out.o1.row.lt
          refine wp_game_tail 13 [0, 0, 0, 0, 0, 0, 0, 0, 0, 0, 3, kF1, 0] (rowBlk (.slice pC C1.length cC)) (rowsB wr (rowBlk (.slice pC C1.length cC))) (fin_rowsB _ _) (has_rowsB _ _) (by kernel_rfl) (by rcases hkF1' with h | h <;> rw [h] <;> kernel_rfl) ?_
          simp only [List.take_succ_cons, List.take_zero]
          refine lex_quietE 10 (by kernel_rfl) (by rfl) ?_
          apply Exists.intro
          refine ⟨fun z hz1 => ?_, ?_⟩
          · skip
            have g0 := blk_cellp (hz1.keep HS0.out HnS.out) 0 rfl
            have g2 := below_cellp (hz1.below_of (b := bo) (fun g hg => by have := HWG.out g hg; omega) (by omega)) CP.out (by omega)
            clear hz1
            simp only [List.take_succ_cons, List.take_zero]
            unfold Cx
            repeat (go_big_quiet_step (first | with_reducible exact KA.at _ _))
            exact wpQuiet_nil rfl
          simp only [List.drop_succ_cons, List.drop_zero]
          refine lex_slice 1 (.cells #[.int .i64 (sg * n1)] 3) (by rfl) (fun x => by go_simp) (fun g21 q21 hn21 => ?_)
          unfold setSlot
          go_big_quiet_step (fail)
          refine wpQuiet_nil ?_
          have n21v : g21 ∉ rowBlk (.slice pC C1.length cC) := fun h => by have := HLT1.out g21 h; omega
          clear hn21
          refine lex_append_v (.tmp 60) (.tmp 69) 22 3 i0 _ 1 8 Tryd.underlying22 II.out IZ0.out IZ1.out IZ2.out (by rfl) (.slice pC C1.length cC) C1.length (ints C1) ((rowV_rowsB HTT.out.o1.row (fun g hg => hg)).of_put n21v) (by rfl) g21 1 1 [.int .i64 (sg * n1)] 3 (by rfl) (Blocks.put_same _ _ _) rfl (by simp [Value.oneCell']) (by omega) (by unfold maxLen; omega) (by omega) (fun g hg => .inl hg) HK1.out (fun g22 c22 ob22 hr22 hg22 => ?_)
          unfold setSlot
          go_big_quiet_step (fail)
          refine wpQuiet_nil ?_
          have hn22 : ∀ g ∈ rowBlk (.slice (some ⟨g22, 0, none⟩) (C1.length + 1) c22), g ∈ rowBlk (.slice pC C1.length cC) ∨ wr.heap.size ≤ g := fun g hg => by
            have : g = g22 := by simpa [rowBlk] using hg
            subst this
            exact hg22.imp id (fun h => h.1)
          clear hg22
          refine lex_quietE 1 (by kernel_rfl) (by rfl) ?_
          apply Exists.intro
          refine ⟨fun z hz1 => ?_, ?_⟩
          · skip
            clear hz1
            simp only [List.take_succ_cons, List.take_zero]
            unfold Cx
            repeat (go_big_quiet_step (fail))
            exact wpQuiet_nil rfl
          simp only [List.drop_succ_cons, List.drop_zero]
          refine lex_nil ?_
          intro x2 hx2 hH2
          have hT2 := HTT.out.app (show (bo + 1) ≤ wr.heap.size by omega) hx2 (hr22.of_has hH2) hn22
          have T2 := Lib.hid hT2
          have X2 := Lib.hid hx2
          clear hx2 hH2 hT2 hn22 hr22 HLT1
          have hS2 := X2.out.keep HS0.out HnS.out
          have e0 := blk_cell hS2 0 rfl
          have e2 := blk_free hS2 0
          have HS8 := Lib.hid hS2
          have HB8 := Lib.hid (HB.out.trans (X2.out.below_of (b := bo) (fun g hg => by have := HWG.out g hg; omega) (by omega)))
          clear hS2 X2 HWG HnS HS0 HTT HB
          go_upto_region 13 with fail
          refine wp_gen ?_
          intro w6 hw6
          have HS0 := Lib.hid (show w6.heap[bo]? = some (.cells #[.slice (some ⟨g22, 0, none⟩) (C1.length + 1) c22, .slice pL L1.length cL, .int .i64 m1] 24 (0, 0)) by rw [hw6]; exact heap_setCell_same _ bo 0 _ _ _ HS8.out)
          have HTT := Lib.hid (show Two w6 (bo + 1) (.slice (some ⟨g22, 0, none⟩) (C1.length + 1) c22) (C1 ++ [sg * n1]) (.slice pL L1.length cL) L1 by rw [hw6]; exact T2.out.keepU (behind_set2 (b := bo) (Wr := [bo])) (fun g hg => by simp at hg; omega))
          have HB := Lib.hid (show Below bo wo w6 by rw [hw6]; exact HB8.out.setCell (Nat.le_refl _) _)
          have hbr6 : bo < w6.heap.size := lt_of_heap HS0.out
          have HnS := Lib.hid (show bo ∉ rowBlk (.slice pL L1.length cL) from fun h => by have := HTT.out.o2.ge _ h; omega)
          obtain ⟨bq, oq, hbq, hqe, kq⟩ := HAT.out _ HB.out
          cases hqe
          have CQ := Lib.hid kq
          clear hw6 HS8 HB8 T2 e0 e2 hkF1' HK1 kq
          obtain ⟨kF1, hkF1⟩ : ∃ kF1, kF1 = kA (.slice pL L1.length cL) L1.length 1 := ⟨_, rfl⟩
          have hkF1' : kF1 = 2 ∨ kF1 = 5 := by rw [hkF1]; exact kA_or _ _ _
          have HK1 := Lib.hid hkF1
          clear hkF1
          have HWG := Lib.hid (show ∀ g ∈ (rowBlk (.slice pL L1.length cL)), (bo + 1) ≤ g from fun g hg => HTT.out.sym.o1.ge g hg)
          have HLT1 := Lib.hid HTT.out.sym.o1.row.lt
          refine wp_game_tail 11 [0, 0, 0, 0, 0, 0, 0, 0, 3, kF1, 0] (rowBlk (.slice pL L1.length cL)) (rowsB w6 (rowBlk (.slice pL L1.length cL))) (fin_rowsB _ _) (has_rowsB _ _) (by kernel_rfl) (by rcases hkF1' with h | h <;> rw [h] <;> kernel_rfl) ?_
          simp only [List.take_succ_cons, List.take_zero]
          refine lex_quietE 8 (by kernel_rfl) (by rfl) ?_
          apply Exists.intro
          refine ⟨fun z hz1 => ?_, ?_⟩
          · skip
            have g0 := blk_cellp (hz1.keep HS0.out HnS.out) 1 rfl
            have g2 := below_cellp (hz1.below_of (b := bo) (fun g hg => by have := HWG.out g hg; omega) (by omega)) CQ.out (by omega)
            clear hz1
            simp only [List.take_succ_cons, List.take_zero]
            unfold Cx
            repeat (go_big_quiet_step (first | with_reducible exact KB.at _ _))
            exact wpQuiet_nil rfl
          simp only [List.drop_succ_cons, List.drop_zero]
          refine lex_slice 1 (.cells #[.int .i64 (n2)] 3) (by rfl) (fun x => by go_simp) (fun g21 q21 hn21 => ?_)
          unfold setSlot
          go_big_quiet_step (fail)
          refine wpQuiet_nil ?_
          have n21v : g21 ∉ rowBlk (.slice pL L1.length cL) := fun h => by have := HLT1.out g21 h; omega
          clear hn21
          refine lex_append_v (.tmp 73) (.tmp 80) 22 3 i0 _ 1 8 Tryd.underlying22 II.out IZ0.out IZ1.out IZ2.out (by rfl) (.slice pL L1.length cL) L1.length (ints L1) ((rowV_rowsB HTT.out.sym.o1.row (fun g hg => hg)).of_put n21v) (by rfl) g21 1 1 [.int .i64 (n2)] 3 (by rfl) (Blocks.put_same _ _ _) rfl (by simp [Value.oneCell']) (by omega) (by unfold maxLen; omega) (by omega) (fun g hg => .inl hg) HK1.out (fun g24 c24 ob22 hr22 hg24 => ?_)
          unfold setSlot
          go_big_quiet_step (fail)
          refine wpQuiet_nil ?_
          have hn22 : ∀ g ∈ rowBlk (.slice (some ⟨g24, 0, none⟩) (L1.length + 1) c24), g ∈ rowBlk (.slice pL L1.length cL) ∨ w6.heap.size ≤ g := fun g hg => by
            have : g = g24 := by simpa [rowBlk] using hg
            subst this
            exact hg24.imp id (fun h => h.1)
          clear hg24
          refine lex_quietE 1 (by kernel_rfl) (by rfl) ?_
          apply Exists.intro
          refine ⟨fun z hz1 => ?_, ?_⟩
          · skip
            clear hz1
            simp only [List.take_succ_cons, List.take_zero]
            unfold Cx
            repeat (go_big_quiet_step (fail))
            exact wpQuiet_nil rfl
          simp only [List.drop_succ_cons, List.drop_zero]
          refine lex_nil ?_
          intro x2 hx2 hH2
          have hT2 := HTT.out.sym.app (show (bo + 1) ≤ w6.heap.size by omega) hx2 (hr22.of_has hH2) hn22
          have T2 := Lib.hid hT2
          have X2 := Lib.hid hx2
          clear hx2 hH2 hT2 hn22 hr22 HLT1
          have hS2 := X2.out.keep HS0.out HnS.out
          have e1 := blk_cell hS2 1 rfl
          have e3 := blk_free hS2 1
          have HS8 := Lib.hid hS2
          have HB8 := Lib.hid (HB.out.trans (X2.out.below_of (b := bo) (fun g hg => by have := HWG.out g hg; omega) (by omega)))
          have T3 := Lib.hid T2.out.sym
          clear hS2 X2 HWG HnS HS0 HTT HB
          go_wp2_with fail
          go_meet
          case rel =>
            refine ⟨rfl, ?_⟩
            rw [HE2.out]
            exact ⟨HSG.out, by simp; omega, by simp [HLE.out], ⟨some ⟨g22, 0, none⟩, c22, some ⟨g24, 0, none⟩, c24, by simp only [List.length_append, List.length_cons, List.length_nil, Nat.zero_add]; exact heap_setCell_same _ bo 1 _ _ _ HS8.out, by simp only [List.length_append, List.length_cons, List.length_nil, Nat.zero_add]; exact T3.out.keepU (behind_set2 (b := bo) (Wr := [bo])) (fun g hg => by simp at hg; omega)⟩, HB8.out.setCell (Nat.le_refl _) _⟩
        · have hF : ((decide (0 < j) && decide (1 < y.size)) && decide (d.head? = some 120)) = false := by
            simp only [Bool.and_eq_false_iff, decide_eq_false_iff_not]
            by_cases h1 : 0 < j
            · by_cases h2 : 1 < y.size
              · exact .inr fun h => hcnd ⟨h1, h2, h⟩
              · exact .inl (.inr h2)
            · exact .inl (.inl h1)
          have HE := Lib.hid (show r2 (pvW W j) d st1 = st1 by
            unfold r2
            cases hp : pvW W j with
            | none => rfl
            | some p =>
              refine if_neg fun h => hcnd ⟨?_, by have := HYZ.out; omega, h.2⟩
              rcases Nat.eq_zero_or_pos j with h0 | h0
              · rw [h0] at hp; cases hp
              · exact h0)
          rw [hF]
          clear hsg1 hle hlen hS0 hT0 hB0
          go_wp2_with fail
          go_meet
          case rel => exact ⟨rfl, by rw [HE.out]; exact HS1.out.more (by omega)⟩
      case rest =>
      obtain ⟨rfl, HS2⟩ := hcut
      obtain ⟨wr, hwr⟩ : ∃ x, x = wc := ⟨_, rfl⟩
      subst hwr
      have HG2 := Lib.hid (show sg = (r2 (pvW W j) d st1).sg from HG1.out.trans (r2_sg _ _ _).symm)
      generalize r2 (pvW W j) d st1 = st2 at *
      obtain ⟨bq, oq, hbq, hqe, k0⟩ := HAT.out _ HS2.out.bel
      cases hqe
      go_upto_region 14 with fail
      go_cut [100] (fun t wx => t = .bool ((decide (0 < j) && decide (2 < y.size)) && decide (d.take 2 = [126, 120])) ∧ wr = wx)
      case first =>
        by_cases hj0 : 0 < j
        · have hA : decide (0 < j) = true := decide_eq_true hj0
          have hA' : decide ((0 : Int) < (j : Int)) = true := by simp; omega
          by_cases h1 : 2 < y.size
          · have hB : decide (2 < y.size) = true := decide_eq_true h1
            have hB' : decide ((2 : Int) < (y.size : Int)) = true := by simp; omega
            by_cases hx : d.take 2 = [126, 120]
            · have hC : decide (d.take 2 = [126, 120]) = true := decide_eq_true hx
              have hE : ((y.extract 0 2).toList == [126, 120]) = true := by rw [HT2.out, hx]; rfl
              go_wp2_with fail
              go_meet
              case rel => exact ⟨by rw [hA, hB, hC]; try rfl, rfl⟩
            · have hC : decide (d.take 2 = [126, 120]) = false := decide_eq_false hx
              have hE : ((y.extract 0 2).toList == [126, 120]) = false := by rw [HT2.out]; simpa using hx
              go_wp2_with fail
              go_meet
              case rel => exact ⟨by rw [hA, hB, hC]; try rfl, rfl⟩
          · have hB : decide (2 < y.size) = false := decide_eq_false h1
            have hB' : decide ((2 : Int) < (y.size : Int)) = false := by simp; omega
            go_wp2_with fail
            go_meet
            case rel => exact ⟨by rw [hA, hB]; try rfl, rfl⟩
        · have hA : decide (0 < j) = false := decide_eq_false hj0
          have hA' : decide ((0 : Int) < (j : Int)) = false := by simp; omega
          go_wp2_with fail
          go_meet
          case rel => exact ⟨by rw [hA]; try rfl, rfl⟩
      case rest =>
      obtain ⟨rfl, rfl⟩ := hcut
      clear k0
      go_upto_if 100 with fail
      go_cut [6] (fun t6 wx => t6 = .int .i64 sg ∧ Hid (RS bo wo wx (2 * j + 2) (r3 (pvW W j) d st2)))
      case first =>
        obtain ⟨hsg1, hle, hlen, ⟨pC, cC, pL, cL, hS0, hT0⟩, hB0⟩ := HS2.out
        by_cases hcnd : 0 < j ∧ 2 < y.size ∧ d.take 2 = [126, 120]
        · obtain ⟨hj0, h1, hx⟩ := hcnd
          have hA : decide (0 < j) = true := decide_eq_true hj0
          have hB : decide (2 < y.size) = true := decide_eq_true h1
          have hC : decide (d.take 2 = [126, 120]) = true := decide_eq_true hx
          rw [hA, hB, hC, Bool.true_and, Bool.true_and]
          obtain ⟨jj, rfl⟩ : ∃ jj, j = jj + 1 := ⟨j - 1, by omega⟩
          have hpd : W[jj]? = some (W.getD jj []) := by simp [List.getD, show jj < W.length by omega]
          have hpv : pvW W (jj + 1) = some (W.getD jj []) := by unfold pvW; rw [if_neg (by omega), show jj + 1 - 1 = jj by omega, hpd]
          have hyd : 2 < d.length := by have := HYZ.out; omega
          have HE3 := Lib.hid (show r3 (pvW W (jj + 1)) d st2 = ⟨st2.sg, st2.C ++ [st2.sg * numR (W.getD jj [])], st2.L ++ [-numR (d.drop 2)], st2.m⟩ by rw [hpv]; exact if_pos ⟨hyd, hx⟩)
          rw [← HG2.out] at HE3 hsg1
          obtain ⟨bz, oz, hbz, hze, kz⟩ := (HK.out _ hB0).2.2 _ _ (strs_get _ _ _ hpd)
          cases hze
          have CP := Lib.hid kz
          have KA := xNumber (W.getD jj []) (by have := HWL.out _ (List.mem_of_getElem? hpd); omega)
          have KB := K2
          have hn1 := numR_in (W.getD jj [])
          have hn2 := numR_in (d.drop 2)
          generalize numR (W.getD jj []) = n1 at *
          generalize numR (d.drop 2) = n2 at *
          generalize (⟨(W.getD jj []).toArray⟩ : ByteArray) = z at *
          have HSG := Lib.hid hsg1
          have hmul : -10000000000 ≤ sg * n1 ∧ sg * n1 ≤ 10000000000 := by
            rcases hsg1 with h | h <;> rw [h] <;> omega
          have HLE := Lib.hid hlen
          have hLle : st2.L.length ≤ 2 * (jj + 1) + 1 := by omega
          have HS0 := Lib.hid hS0
          have HTT := Lib.hid hT0
          have HB := Lib.hid hB0
          have hbr : bo < wr.heap.size := lt_of_heap hS0
          generalize st2.C = C1 at *
          generalize st2.L = L1 at *
          generalize st2.m = m1 at *
          have HnS := Lib.hid (show bo ∉ rowBlk (.slice pC C1.length cC) from fun h => by have := HTT.out.o1.ge _ h; omega)
          clear hA hB hC hx hpd hpv kz hsg1 hlen hS0 hT0 hB0 K1 K2
          go_wp2_with fail
          obtain ⟨kF1, hkF1⟩ : ∃ kF1, kF1 = kA (.slice pC C1.length cC) C1.length 1 := ⟨_, rfl⟩
          have hkF1' : kF1 = 2 ∨ kF1 = 5 := by rw [hkF1]; exact kA_or _ _ _
          have HK1 := Lib.hid hkF1
          clear hkF1
          have HWG := Lib.hid (show ∀ g ∈ (rowBlk (.slice pC C1.length cC)), (bo + 1) ≤ g from fun g hg => HTT.out.o1.ge g hg)
          have HLT1 := Lib.hid HTT.out.o1.row.lt
          refine wp_game_tail 13 [0, 0, 0, 0, 0, 0, 0, 0, 0, 0, 3, kF1, 0] (rowBlk (.slice pC C1.length cC)) (rowsB wr (rowBlk (.slice pC C1.length cC))) (fin_rowsB _ _) (has_rowsB _ _) (by kernel_rfl) (by rcases hkF1' with h | h <;> rw [h] <;> kernel_rfl) ?_
          simp only [List.take_succ_cons, List.take_zero]
          refine lex_quietE 10 (by kernel_rfl) (by rfl) ?_
          apply Exists.intro
          refine ⟨fun z hz1 => ?_, ?_⟩
          · skip
            have g0 := blk_cellp (hz1.keep HS0.out HnS.out) 0 rfl
            have g2 := below_cellp (hz1.below_of (b := bo) (fun g hg => by have := HWG.out g hg; omega) (by omega)) CP.out (by omega)
            clear hz1
            simp only [List.take_succ_cons, List.take_zero]
            unfold Cx
            repeat (go_big_quiet_step (first | with_reducible exact KA.at _ _))
            exact wpQuiet_nil rfl
          simp only [List.drop_succ_cons, List.drop_zero]
          refine lex_slice 1 (.cells #[.int .i64 (sg * n1)] 3) (by rfl) (fun x => by go_simp) (fun g21 q21 hn21 => ?_)
          unfold setSlot
          go_big_quiet_step (fail)
          refine wpQuiet_nil ?_
          have n21v : g21 ∉ rowBlk (.slice pC C1.length cC) := fun h => by have := HLT1.out g21 h; omega
          clear hn21
          refine lex_append_v (.tmp 102) (.tmp 111) 22 3 i0 _ 1 8 Tryd.underlying22 II.out IZ0.out IZ1.out IZ2.out (by rfl) (.slice pC C1.length cC) C1.length (ints C1) ((rowV_rowsB HTT.out.o1.row (fun g hg => hg)).of_put n21v) (by rfl) g21 1 1 [.int .i64 (sg * n1)] 3 (by rfl) (Blocks.put_same _ _ _) rfl (by simp [Value.oneCell']) (by omega) (by unfold maxLen; omega) (by omega) (fun g hg => .inl hg) HK1.out (fun g22 c22 ob22 hr22 hg22 => ?_)
          unfold setSlot
          go_big_quiet_step (fail)
          refine wpQuiet_nil ?_
          have hn22 : ∀ g ∈ rowBlk (.slice (some ⟨g22, 0, none⟩) (C1.length + 1) c22), g ∈ rowBlk (.slice pC C1.length cC) ∨ wr.heap.size ≤ g := fun g hg => by
            have : g = g22 := by simpa [rowBlk] using hg
            subst this
            exact hg22.imp id (fun h => h.1)
          clear hg22
          refine lex_quietE 1 (by kernel_rfl) (by rfl) ?_
          apply Exists.intro
          refine ⟨fun z hz1 => ?_, ?_⟩
          · skip
            clear hz1
            simp only [List.take_succ_cons, List.take_zero]
            unfold Cx
            repeat (go_big_quiet_step (fail))
            exact wpQuiet_nil rfl
          simp only [List.drop_succ_cons, List.drop_zero]
          refine lex_nil ?_
          intro x2 hx2 hH2
          have hT2 := HTT.out.app (show (bo + 1) ≤ wr.heap.size by omega) hx2 (hr22.of_has hH2) hn22
          have T2 := Lib.hid hT2
          have X2 := Lib.hid hx2
          clear hx2 hH2 hT2 hn22 hr22 HLT1
          have hS2 := X2.out.keep HS0.out HnS.out
          have e0 := blk_cell hS2 0 rfl
          have e2 := blk_free hS2 0
          have HS8 := Lib.hid hS2
          have HB8 := Lib.hid (HB.out.trans (X2.out.below_of (b := bo) (fun g hg => by have := HWG.out g hg; omega) (by omega)))
          clear hS2 X2 HWG HnS HS0 HTT HB
          go_upto_region 16 with fail
          refine wp_gen ?_
          intro w6 hw6
          have HS0 := Lib.hid (show w6.heap[bo]? = some (.cells #[.slice (some ⟨g22, 0, none⟩) (C1.length + 1) c22, .slice pL L1.length cL, .int .i64 m1] 24 (0, 0)) by rw [hw6]; exact heap_setCell_same _ bo 0 _ _ _ HS8.out)
          have HTT := Lib.hid (show Two w6 (bo + 1) (.slice (some ⟨g22, 0, none⟩) (C1.length + 1) c22) (C1 ++ [sg * n1]) (.slice pL L1.length cL) L1 by rw [hw6]; exact T2.out.keepU (behind_set2 (b := bo) (Wr := [bo])) (fun g hg => by simp at hg; omega))
          have HB := Lib.hid (show Below bo wo w6 by rw [hw6]; exact HB8.out.setCell (Nat.le_refl _) _)
          have hbr6 : bo < w6.heap.size := lt_of_heap HS0.out
          have HnS := Lib.hid (show bo ∉ rowBlk (.slice pL L1.length cL) from fun h => by have := HTT.out.o2.ge _ h; omega)
          obtain ⟨bq, oq, hbq, hqe, kq⟩ := HAT.out _ HB.out
          cases hqe
          have CQ := Lib.hid kq
          clear hw6 HS8 HB8 T2 e0 e2 hkF1' HK1 kq
          obtain ⟨kF1, hkF1⟩ : ∃ kF1, kF1 = kA (.slice pL L1.length cL) L1.length 1 := ⟨_, rfl⟩
          have hkF1' : kF1 = 2 ∨ kF1 = 5 := by rw [hkF1]; exact kA_or _ _ _
          have HK1 := Lib.hid hkF1
          clear hkF1
          have HWG := Lib.hid (show ∀ g ∈ (rowBlk (.slice pL L1.length cL)), (bo + 1) ≤ g from fun g hg => HTT.out.sym.o1.ge g hg)
          have HLT1 := Lib.hid HTT.out.sym.o1.row.lt
          refine wp_game_tail 12 [0, 0, 0, 0, 0, 0, 0, 0, 0, 3, kF1, 0] (rowBlk (.slice pL L1.length cL)) (rowsB w6 (rowBlk (.slice pL L1.length cL))) (fin_rowsB _ _) (has_rowsB _ _) (by kernel_rfl) (by rcases hkF1' with h | h <;> rw [h] <;> kernel_rfl) ?_
          simp only [List.take_succ_cons, List.take_zero]
          refine lex_quietE 9 (by kernel_rfl) (by rfl) ?_
          apply Exists.intro
          refine ⟨fun z hz1 => ?_, ?_⟩
          · skip
            have g0 := blk_cellp (hz1.keep HS0.out HnS.out) 1 rfl
            have g2 := below_cellp (hz1.below_of (b := bo) (fun g hg => by have := HWG.out g hg; omega) (by omega)) CQ.out (by omega)
            clear hz1
            simp only [List.take_succ_cons, List.take_zero]
            unfold Cx
            repeat (go_big_quiet_step (first | with_reducible exact KB.at _ _))
            exact wpQuiet_nil rfl
          simp only [List.drop_succ_cons, List.drop_zero]
          refine lex_slice 1 (.cells #[.int .i64 (-n2)] 3) (by rfl) (fun x => by go_simp) (fun g21 q21 hn21 => ?_)
          unfold setSlot
          go_big_quiet_step (fail)
          refine wpQuiet_nil ?_
          have n21v : g21 ∉ rowBlk (.slice pL L1.length cL) := fun h => by have := HLT1.out g21 h; omega
          clear hn21
          refine lex_append_v (.tmp 115) (.tmp 123) 22 3 i0 _ 1 8 Tryd.underlying22 II.out IZ0.out IZ1.out IZ2.out (by rfl) (.slice pL L1.length cL) L1.length (ints L1) ((rowV_rowsB HTT.out.sym.o1.row (fun g hg => hg)).of_put n21v) (by rfl) g21 1 1 [.int .i64 (-n2)] 3 (by rfl) (Blocks.put_same _ _ _) rfl (by simp [Value.oneCell']) (by omega) (by unfold maxLen; omega) (by omega) (fun g hg => .inl hg) HK1.out (fun g24 c24 ob22 hr22 hg24 => ?_)
          unfold setSlot
          go_big_quiet_step (fail)
          refine wpQuiet_nil ?_
          have hn22 : ∀ g ∈ rowBlk (.slice (some ⟨g24, 0, none⟩) (L1.length + 1) c24), g ∈ rowBlk (.slice pL L1.length cL) ∨ w6.heap.size ≤ g := fun g hg => by
            have : g = g24 := by simpa [rowBlk] using hg
            subst this
            exact hg24.imp id (fun h => h.1)
          clear hg24
          refine lex_quietE 1 (by kernel_rfl) (by rfl) ?_
          apply Exists.intro
          refine ⟨fun z hz1 => ?_, ?_⟩
          · skip
            clear hz1
            simp only [List.take_succ_cons, List.take_zero]
            unfold Cx
            repeat (go_big_quiet_step (fail))
            exact wpQuiet_nil rfl
          simp only [List.drop_succ_cons, List.drop_zero]
          refine lex_nil ?_
          intro x2 hx2 hH2
          have hT2 := HTT.out.sym.app (show (bo + 1) ≤ w6.heap.size by omega) hx2 (hr22.of_has hH2) hn22
          have T2 := Lib.hid hT2
          have X2 := Lib.hid hx2
          clear hx2 hH2 hT2 hn22 hr22 HLT1
          have hS2 := X2.out.keep HS0.out HnS.out
          have e1 := blk_cell hS2 1 rfl
          have e3 := blk_free hS2 1
          have HS8 := Lib.hid hS2
          have HB8 := Lib.hid (HB.out.trans (X2.out.below_of (b := bo) (fun g hg => by have := HWG.out g hg; omega) (by omega)))
          have T3 := Lib.hid T2.out.sym
          clear hS2 X2 HWG HnS HS0 HTT HB
          go_wp2_with fail
          go_meet
          case rel =>
            refine ⟨rfl, ?_⟩
            rw [HE3.out]
            exact ⟨HSG.out, by simp; omega, by simp [HLE.out], ⟨some ⟨g22, 0, none⟩, c22, some ⟨g24, 0, none⟩, c24, by simp only [List.length_append, List.length_cons, List.length_nil, Nat.zero_add]; exact heap_setCell_same _ bo 1 _ _ _ HS8.out, by simp only [List.length_append, List.length_cons, List.length_nil, Nat.zero_add]; exact T3.out.keepU (behind_set2 (b := bo) (Wr := [bo])) (fun g hg => by simp at hg; omega)⟩, HB8.out.setCell (Nat.le_refl _) _⟩
        · have hF : ((decide (0 < j) && decide (2 < y.size)) && decide (d.take 2 = [126, 120])) = false := by
            simp only [Bool.and_eq_false_iff, decide_eq_false_iff_not]
            by_cases h1 : 0 < j
            · by_cases h2 : 2 < y.size
              · exact .inr fun h => hcnd ⟨h1, h2, h⟩
              · exact .inl (.inr h2)
            · exact .inl (.inl h1)
          have HE := Lib.hid (show r3 (pvW W j) d st2 = st2 by
            unfold r3
            cases hp : pvW W j with
            | none => rfl
            | some p =>
              refine if_neg fun h => hcnd ⟨?_, by have := HYZ.out; omega, h.2⟩
              rcases Nat.eq_zero_or_pos j with h0 | h0
              · rw [h0] at hp; cases hp
              · exact h0)
          rw [hF]
          clear hsg1 hle hlen hS0 hT0 hB0
          go_wp2_with fail
          go_meet
          case rel => exact ⟨rfl, by rw [HE.out]; exact HS2.out.more (by omega)⟩
      case rest =>
      obtain ⟨rfl, HS3⟩ := hcut
      have HG3 := Lib.hid (show sg = (r3 (pvW W j) d st2).sg from HG2.out.trans (r3_sg _ _ _).symm)
      generalize r3 (pvW W j) d st2 = st3 at *
      obtain ⟨bq, oq, hbq, hqe, k0⟩ := HAT.out _ HS3.out.bel
      cases hqe
      by_cases hA : d = [45]
      · have h1 : (y.toList == [45]) = true := by rw [HTL.out, hA]; rfl
        have h2 : (y.toList == [43]) = false := by rw [HTL.out, hA]; rfl
        have HF := Lib.hid (HN.out.trans (show _ = { st3 with sg := -1 } by unfold r4 r5; rw [if_pos hA, if_neg (by rw [hA]; simp)]))
        clear hA
        go_wp2_with fail
        go_roundw
        case rel => exact ⟨j + 1, { st3 with sg := -1 }, by omega, by go_num, rfl, HF.out, (HS3.out.sign (.inr rfl)).more (by omega)⟩
        case measure => simp [intOf]; omega
      have h1 : (y.toList == [45]) = false := by rw [HTL.out]; simpa using hA
      by_cases hB : d = [43]
      · have h2 : (y.toList == [43]) = true := by rw [HTL.out, hB]; rfl
        have HF := Lib.hid (HN.out.trans (show _ = { st3 with sg := 1 } by unfold r4 r5; rw [if_neg hA, if_pos hB]))
        clear hA hB
        go_wp2_with fail
        go_roundw
        case rel => exact ⟨j + 1, { st3 with sg := 1 }, by omega, by go_num, rfl, HF.out, (HS3.out.sign (.inl rfl)).more (by omega)⟩
        case measure => simp [intOf]; omega
      have h2 : (y.toList == [43]) = false := by rw [HTL.out]; simpa using hB
      have HF := Lib.hid (HN.out.trans (show _ = st3 by unfold r4 r5; rw [if_neg hA, if_neg hB]))
      clear hA hB
      go_wp2_with fail
      go_roundw
      case rel => exact ⟨j + 1, st3, by omega, by go_num, by rw [HG3.out], HF.out, HS3.out.more (by omega)⟩
      case measure => simp [intOf]; omega
    · obtain rfl : j = W.length := by omega
      have hdd : decide (W.length < W.length) = false := by simp
      obtain ⟨hsg, hle, hlen, ⟨pC, cC, pL, cL, hS0, hT0⟩, hB0⟩ := HS.out
      obtain ⟨hK1, hK2, _⟩ := HK.out _ hB0
      have HPR := Lib.hid (show parseR l = ⟨st.C, st.L, st.m⟩ by rw [HEQ.out, HR.out])
      have HTO := Lib.hid (hT0.mono (show w.heap.size + 1 ≤ bo + 1 by omega))
      have HBB := Lib.hid hK1
      have M0 := Lib.hid hK2
      have HS0 := Lib.hid hS0
      obtain ⟨aC, dC, hvC, hAC⟩ := own_at hT0.o1
      obtain ⟨aL, dL, hvL, hAL⟩ := own_at hT0.o2
      cases hvC
      cases hvL
      have hlL : st.L.length ≤ 2 * W.length := by omega
      have KX := Lib.hid (xPrint wr.heap.size ⟨st.C, st.L, st.m⟩ pC pL cC cL (by show st.C.length ≤ _; omega) (by show st.L.length ≤ _; omega) wr hAC hAL (Nat.le_refl _))
      have HYQ := Lib.hid (show printS ⟨st.C, st.L, st.m⟩ = if checkS (parseR l) 128 ≠ 0 then ([], checkS (parseR l) 128) else (textS (parseR l), 0) by rw [HPR.out]; rfl)
      have HGD := Lib.hid (@parse_good l (by omega))
      have HBD := Lib.hid (@parse_bad l)
      have HTL := Lib.hid (show s.toList = l by rw [HSE.out, ByteArray.toList_eq])
      unfold sumV at KX
      simp only at KX
      rw [HYQ.out] at KX
      rw [HPR.out] at HGD HBD KX
      have HPR2 := HPR
      have b0 := blk_cell HS0.out 0 rfl
      have b1 := blk_cell HS0.out 1 rfl
      have b2 := blk_cell HS0.out 2 rfl
      have hbr : bo < wr.heap.size := lt_of_heap hS0
      clear hS0 hT0 hB0 hK1 hK2 hAC hAL hlen hle hsg HYQ HEQ
      by_cases hc : checkS ⟨st.C, st.L, st.m⟩ 128 = 0
      · rw [if_neg (by simpa using hc)] at KX
        by_cases ht : textS ⟨st.C, st.L, st.m⟩ = l
        · have HF := Lib.hid (HGD.out ⟨hc, ht⟩)
          have hne : ((⟨(textS ⟨st.C, st.L, st.m⟩).toArray⟩ : ByteArray).toList == s.toList) = true := by rw [HTL.out, ByteArray.toList_eq]; simpa using ht
          generalize (⟨(textS ⟨st.C, st.L, st.m⟩).toArray⟩ : ByteArray) = z at *
          clear hc ht HGD HBD
          go_wp2_with fail
          refine KX.out.mono ?_
          rintro e w3 ⟨rfl, hb⟩
          have HS3 := (behind_of_below hb).keep HS0.out (by simp)
          have b0 := blk_cell HS3 0 rfl
          have b1 := blk_cell HS3 1 rfl
          have b2 := blk_cell HS3 2 rfl
          have M3 := (behind_of_below hb).keep M0.out (by simp)
          have f0 := blk_free M3 0
          have f1 := blk_free M3 1
          have f2 := blk_free M3 2
          have e0 := blk_cell M3 0 rfl
          have e1 := blk_cell M3 1 rfl
          have e2 := blk_cell M3 2 rfl
          have HM3 := Lib.hid M3
          have HT3 := Lib.hid (HTO.out.keepB hb)
          have HB3 := Lib.hid (HBB.out.trans (hb.mono HBB.out.size))
          clear hb HS3 M3
          go_wp2_with fail
          refine bodyPost_ret (results_cell_tmp (p := 2) (q := 3) rfl _ _ w.heap.size _ _ (0, 0) _ rfl (three_set HM3.out) Tryd.underlying24 rfl Tryd.sizeSum _ rfl) rfl ?_
          rw [HP.out, HF.out]
          exact ⟨_, _, rfl, (HT3.out.keepU three_behind (fun g hg => by simp at hg; omega)).mono (by omega), HB3.out.trans (three_below (Nat.le_refl _))⟩
        · have HF := Lib.hid (HBD.out (fun h => ht h.2))
          have hne : ((⟨(textS ⟨st.C, st.L, st.m⟩).toArray⟩ : ByteArray).toList == s.toList) = false := by rw [HTL.out, ByteArray.toList_eq]; simpa using ht
          generalize (⟨(textS ⟨st.C, st.L, st.m⟩).toArray⟩ : ByteArray) = z at *
          clear hc ht HGD HBD
          go_wp2_with fail
          refine KX.out.mono ?_
          rintro e w3 ⟨rfl, hb⟩
          have M3 := (behind_of_below hb).keep M0.out (by simp)
          have f0 := blk_free M3 0
          have f1 := blk_free M3 1
          have f2 := blk_free M3 2
          have e0 := blk_cell M3 0 rfl
          have e1 := blk_cell M3 1 rfl
          have e2 := blk_cell M3 2 rfl
          have HM3 := Lib.hid M3
          have HB3 := Lib.hid (HBB.out.trans (hb.mono HBB.out.size))
          clear hb M3 b0 b1 b2
          go_wp2_with fail
          refine bodyPost_ret (results_cell_tmp (p := 2) (q := 3) rfl _ _ w.heap.size _ _ (0, 0) _ rfl (three_set HM3.out) Tryd.underlying24 rfl Tryd.sizeSum _ rfl) rfl ?_
          rw [HP.out, HF.out]
          exact ⟨_, _, rfl, two_none _ _, HB3.out.trans (three_below (Nat.le_refl _))⟩
      · rw [if_pos (by simpa using hc)] at KX
        have HF := Lib.hid (HBD.out (fun h => hc h.1))
        have her : (checkS ⟨st.C, st.L, st.m⟩ 128 != 0) = true := by simp [bne, beq_no hc]
        generalize checkS ⟨st.C, st.L, st.m⟩ 128 = er at *
        clear hc HGD HBD
        go_wp2_with fail
        refine KX.out.mono ?_
        rintro e w3 ⟨rfl, hb⟩
        have M3 := (behind_of_below hb).keep M0.out (by simp)
        have f0 := blk_free M3 0
        have f1 := blk_free M3 1
        have f2 := blk_free M3 2
        have e0 := blk_cell M3 0 rfl
        have e1 := blk_cell M3 1 rfl
        have e2 := blk_cell M3 2 rfl
        have HM3 := Lib.hid M3
        have HB3 := Lib.hid (HBB.out.trans (hb.mono HBB.out.size))
        clear hb M3 b0 b1 b2
        go_wp2_with fail
        refine bodyPost_ret (results_cell_tmp (p := 2) (q := 3) rfl _ _ w.heap.size _ _ (0, 0) _ rfl (three_set HM3.out) Tryd.underlying24 rfl Tryd.sizeSum _ rfl) rfl ?_
        rw [HP.out, HF.out]
        exact ⟨_, _, rfl, two_none _ _, HB3.out.trans (three_below (Nat.le_refl _))⟩
end Go.Proofs.YtchamkbnapjidaaDoor
