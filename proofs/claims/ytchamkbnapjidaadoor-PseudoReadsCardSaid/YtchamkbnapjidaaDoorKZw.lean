/- The reference's words. -/
import Derived.Test.YtchamkbnapjidaaDoorKP
import Derived.Test.YtchamkbnapjidaaDoorKZa
import Derived.Deep.DeepCutAuto
namespace Go.Proofs.YtchamkbnapjidaaDoor
open Go.RowKit

def strs (xs : List (List UInt8)) : List Value := xs.map fun b => .string ⟨b.toArray⟩
theorem strs_get (xs : List (List UInt8)) (i : Nat) (b : List UInt8) (h : xs[i]? = some b) : (strs xs)[i]? = some (.string ⟨b.toArray⟩) := by simp [strs, h]
/-- A row of strings of one's own. -/
structure OwnS (w : World) (b : Nat) (v : Value) (xs : List (List UInt8)) : Prop where
  row : RowV (inW w) 9 1 v xs.length (strs xs)
  ge : ∀ g ∈ rowBlk v, b ≤ g
theorem OwnS.keepB {w w' : World} {b : Nat} {v : Value} {xs : List (List UInt8)} (h : OwnS w b v xs) (hb : Below w.heap.size w w') : OwnS w' b v xs := ⟨h.row.keep (behind_of_below hb) (by simp), h.ge⟩
theorem OwnS.grown {w w' : World} {b : Nat} {v v' : Value} {xs : List (List UInt8)} {d : List UInt8} (h : OwnS w b v xs) (hb : b ≤ w.heap.size)
    (hr : RowV (inW w') 9 1 v' (xs.length + 1) (strs xs ++ [.string ⟨d.toArray⟩])) (hn : ∀ g ∈ rowBlk v', g ∈ rowBlk v ∨ w.heap.size ≤ g) : OwnS w' b v' (xs ++ [d]) := by
  refine ⟨?_, fun g hg => (hn g hg).elim (h.ge g) (fun e => by omega)⟩
  have e : strs (xs ++ [d]) = strs xs ++ [.string ⟨d.toArray⟩] := by simp [strs]
  rw [e, List.length_append]
  exact hr
theorem owns_at {w : World} {b : Nat} {v : Value} {xs : List (List UInt8)} (h : OwnS w b v xs) : ∃ a c, v = .slice a xs.length c ∧ AtN w.heap.size w a (strs xs) := by
  have hr := h.row
  generalize hn : xs.length = n at hr
  generalize hz : strs xs = zs at hr
  cases hr with
  | nil => exact ⟨none, 0, rfl, fun i v hi => by simp at hi⟩
  | @row g n cap ys cur hr =>
    refine ⟨some ⟨g, 0, none⟩, cap, rfl, fun i v hi => ⟨g, 0, lt_of_heap hr.blk, rfl, ?_⟩⟩
    have h2 := hr.tk
    rw [← h2, List.getElem?_take] at hi
    split at hi
    · rw [Nat.zero_add]
      exact blk_cell hr.blk i (by simpa using hi)
    · cases hi
theorem Tryd.infoStr : (Tryd.prog.info? 9).map (fun i => (i.zero, i.size, i.bytes)) = some (some (.string ⟨#[]⟩), 1, 16) := by kernel_rfl

def wSt (l : List UInt8) (j : Nat) : List (List UInt8) × List UInt8 := (l.take j).foldl wStep ([], [])
theorem wSt_succ {l : List UInt8} {j : Nat} (h : j < l.length) : wSt l (j + 1) = wStep (wSt l j) (l[j]'h) := by
  unfold wSt
  rw [List.take_add_one, List.getElem?_eq_getElem h, List.foldl_append]; rfl
theorem wSt_len (l : List UInt8) : ∀ j, (wSt l j).1.length ≤ j
  | 0 => by simp [wSt]
  | j + 1 => by
    have ih := wSt_len l j
    by_cases h : j < l.length
    · rw [wSt_succ h]
      unfold wStep
      split
      · rw [List.length_append]; simp; omega
      · simpa using Nat.le_succ_of_le ih
    · have e : wSt l (j + 1) = wSt l j := by
        unfold wSt; rw [List.take_of_length_le (by omega), List.take_of_length_le (by omega)]
      rw [e]; omega
theorem wSt_all (l : List UInt8) : ∀ j, (wSt l j).2.length ≤ j ∧ ∀ x ∈ (wSt l j).1, x.length ≤ j
  | 0 => by simp [wSt]
  | j + 1 => by
    have ih := wSt_all l j
    by_cases h : j < l.length
    · rw [wSt_succ h]
      unfold wStep
      split
      · refine ⟨by simp, fun x hx => ?_⟩
        rcases List.mem_append.1 hx with hx | hx
        · have := ih.2 x hx; omega
        · rw [List.mem_singleton.1 hx]; omega
      · refine ⟨?_, fun x hx => ?_⟩
        · rw [List.length_append]; simp; omega
        · have := ih.2 x hx; omega
    · have e : wSt l (j + 1) = wSt l j := by
        unfold wSt; rw [List.take_of_length_le (by omega), List.take_of_length_le (by omega)]
      rw [e]
      exact ⟨by omega, fun x hx => by have := ih.2 x hx; omega⟩
theorem wordsR_wSt (l : List UInt8) : wordsR l = (wSt l l.length).1 ++ [(wSt l l.length).2] := by
  unfold wordsR wSt; rw [List.take_length]
theorem words_len (l : List UInt8) : (wordsR l).length ≤ l.length + 1 ∧ ∀ x ∈ wordsR l, x.length ≤ l.length := by
  have h1 := wSt_len l l.length
  have h2 := wSt_all l l.length
  rw [wordsR_wSt]
  refine ⟨by rw [List.length_append]; simp; omega, fun x hx => ?_⟩
  rcases List.mem_append.1 hx with hx | hx
  · exact h2.2 x hx
  · rw [List.mem_singleton.1 hx]; exact h2.1

def WordsPost (w : World) (l : List UInt8) (e : Ending) (w' : World) : Prop := ∃ a c, e = .returned (.slice a (wordsR l).length c) ∧ AtN w'.heap.size w' a (strs (wordsR l)) ∧ Below w.heap.size w w'

set_option maxHeartbeats 1600000 in
set_option maxRecDepth 100000 in
theorem xWords (l : List UInt8) (hl : l.length ≤ 5000) (w : World) :
    Calls Tryd.prog 40 #[.string ⟨l.toArray⟩] w (WordsPost w l) := by
  obtain ⟨i0, ii, iz0, iz1, iz2⟩ := info_parts Tryd.infoStr
  have II := Lib.hid ii
  have IZ0 := Lib.hid iz0
  have IZ1 := Lib.hid iz1
  have IZ2 := Lib.hid iz2
  clear ii iz0 iz1 iz2
  obtain ⟨Post, hPost⟩ : ∃ P : Ending → World → Prop, P = WordsPost w l := ⟨_, rfl⟩
  rw [← hPost]
  have HP := Lib.hid hPost
  obtain ⟨s, hs⟩ : ∃ s : ByteArray, s = ⟨l.toArray⟩ := ⟨_, rfl⟩
  have hsz : s.size = l.length := by rw [hs]; exact ba_size l
  have HG := Lib.hid (show ∀ k (h : k < s.size) (h' : k < l.length), l[k] = s[k] from fun k h h' => by subst hs; rfl)
  have HX := Lib.hid (show ∀ k (h : k < s.size), s.extract k (k + 1) = ⟨[s[k]].toArray⟩ from fun k h => by
    subst hs
    rw [ba_size] at h
    apply ByteArray.ext
    simp only [ByteArray.data_extract, List.extract_toArray, List.extract_eq_take_drop]
    rw [show k + 1 - k = 1 by omega, List.drop_eq_getElem_cons h, List.take_succ_cons, List.take_zero]; rfl)
  rw [← hs]
  have HSZ := Lib.hid hsz
  have hsl : s.size ≤ 5000 := by omega
  clear hs hPost hsz
  go_enter Tryd.func40, Tryd.ntmps40
  go_wp2_with fail
  go_loopw [5, 4, 3] (fun t5 t4 t3 wr => ∃ (j : Nat) (o : List (List UInt8)) (a : List UInt8), j ≤ s.size ∧ t5 = .int .i64 j ∧ t4 = .string ⟨a.toArray⟩ ∧ o.length ≤ j ∧ a.length ≤ j ∧ Hid (wSt l j = (o, a)) ∧ Hid (OwnS wr w.heap.size t3 o) ∧ Hid (Below w.heap.size w wr)) (fun t5 _ _ _ => s.size - (intOf t5).toNat)
  case atStart => exact ⟨0, [], [], Nat.zero_le _, rfl, rfl, Nat.le_refl _, Nat.le_refl _, rfl, ⟨.nil, by simp [rowBlk]⟩, Below.refl _ _⟩
  case round =>
    obtain ⟨j, o, a, hj, rfl, rfl, ho, ha, HW, HO, HB⟩ := hrel
    by_cases hlt : j < s.size
    · have hdd : decide (j < s.size) = true := by simpa using hlt
      have hltl : j < l.length := by have := HSZ.out; omega
      have hws := wSt_succ hltl
      rw [HW.out, HG.out j hlt hltl] at hws
      by_cases h32 : s[j] = 32
      · have h4 : ((s[j].toNat : Int) == 32) = true := by simp [h32]
        have HN := Lib.hid (hws.trans (show _ = (o ++ [a], []) by unfold wStep; rw [if_pos h32]))
        clear hws h32
        go_wp2_with (at_builtin; refine wpList_append_row _ rfl _ _ 76 rfl 9 i0 (.string ⟨#[]⟩) 1 16 Tryd.underlying76 II.out IZ0.out IZ1.out IZ2.out rfl _ _ _ rfl (HO.out.row.keep (behind_of_below ((Below.refl _ _).alloc (Nat.le_refl _) _)) (by simp)) wr.heap.size 1 1 [.string ⟨a.toArray⟩] 9 rfl (heap_alloc_new wr _) rfl (by intro u hu; simp at hu; subst hu; rfl) (by omega) (by unfold maxLen; omega) (by omega) ?_)
        intro v9 w9 hr9 hB9 hn9
        have h09 : Behind wr (rowBlk u3) w9 := ((behind_of_below ((Below.refl _ _).alloc (Nat.le_refl _) _)).mono (by simp)).trans hB9 (fun k hk => .inl hk)
        have hO9 := HO.out.grown HB.out.size hr9 (fun g hg => (hn9 g hg).imp id (fun h => by first | omega | (simp at h; omega)))
        have HO9 := Lib.hid hO9
        have HB9 := Lib.hid (HB.out.trans (h09.below_of HO.out.ge HB.out.size))
        clear hO9 hr9 hB9 hn9 h09 HO HB
        go_wp2_with fail
        go_roundw
        case rel => exact ⟨j + 1, o ++ [a], [], by omega, by go_num, rfl, by simp; omega, Nat.zero_le _, HN.out, HO9.out, HB9.out⟩
        case measure => simp [intOf]; omega
      · have h4 : ((s[j].toNat : Int) == 32) = false := by
          rw [beq_eq_false_iff_ne]
          intro h; apply h32; apply UInt8.toNat_inj.1; show s[j].toNat = 32; omega
        have HN := Lib.hid (hws.trans (show _ = (o, a ++ [s[j]]) by unfold wStep; rw [if_neg h32]))
        have hxx := HX.out j hlt
        clear hws h32
        go_wp2_with fail
        go_roundw
        case rel => exact ⟨j + 1, o, a ++ [s[j]], by omega, by go_num, by rw [show ({ data := #[s[j]] } : ByteArray) = ⟨[s[j]].toArray⟩ from rfl, ba_app], by omega, by simp; omega, HN.out, HO.out, HB.out⟩
        case measure => simp [intOf]; omega
    · obtain rfl : j = s.size := by omega
      have hdd : decide (s.size < s.size) = false := by simp
      have HE := Lib.hid (show wordsR l = o ++ [a] by rw [wordsR_wSt, ← HSZ.out, HW.out])
      go_wp2_with (at_builtin; refine wpList_append_row _ rfl _ _ 76 rfl 9 i0 (.string ⟨#[]⟩) 1 16 Tryd.underlying76 II.out IZ0.out IZ1.out IZ2.out rfl _ _ _ rfl (HO.out.row.keep (behind_of_below ((Below.refl _ _).alloc (Nat.le_refl _) _)) (by simp)) wr.heap.size 1 1 [.string ⟨a.toArray⟩] 9 rfl (heap_alloc_new wr _) rfl (by intro u hu; simp at hu; subst hu; rfl) (by omega) (by unfold maxLen; omega) (by omega) ?_)
      intro v9 w9 hr9 hB9 hn9
      have h09 : Behind wr (rowBlk u3) w9 := ((behind_of_below ((Below.refl _ _).alloc (Nat.le_refl _) _)).mono (by simp)).trans hB9 (fun k hk => .inl hk)
      have hO9 := HO.out.grown HB.out.size hr9 (fun g hg => (hn9 g hg).imp id (fun h => by first | omega | (simp at h; omega)))
      obtain ⟨a9, c9, hv9, hA9⟩ := owns_at hO9
      have HA9 := Lib.hid hA9
      have HB9 := Lib.hid (HB.out.trans (h09.below_of HO.out.ge HB.out.size))
      subst hv9
      clear hO9 hr9 hB9 hn9 h09 HO HB hA9
      go_wp2_with fail
      rw [HP.out]
      unfold WordsPost
      rw [HE.out]
      exact ⟨a9, c9, rfl, HA9.out, HB9.out⟩
end Go.Proofs.YtchamkbnapjidaaDoor
