/- read, shown, works: the chapter's examples. -/
import Derived.Test.YtchamkbnapjidaaDoorKI
import Derived.Test.YtchamkbnapjidaaDoorKM
import Derived.Test.YtchamkbnapjidaaDoorKP
import Derived.Test.YtchamkbnapjidaaDoorKQ
namespace Go.Proofs.YtchamkbnapjidaaDoor
open Go.RowKit

def readS (l : List UInt8) : PS := match parseS l with
  | some s => s
  | none => ⟨[], [], 1000000000⟩
/-- A sum of one's own. -/
def OnePost (w : World) (s : PS) (e : Ending) (w' : World) : Prop :=
  ∃ vC vL, e = .returned (.agg #[vC, vL, .int .i64 s.m]) ∧ Two w' w.heap.size vC s.C vL s.L ∧ Below w.heap.size w w'
theorem three_new {w : World} {a b c : Value} {T : TypeId} : w.alloc (.cells #[a, b, c] T) = w.alloc (.cells #[a, b, c] T (0, 0)) := rfl

set_option maxHeartbeats 1600000 in
set_option maxRecDepth 100000 in
theorem gRead (l : List UInt8) (w : World) (hl : l.length ≤ 1000000) : Calls Tryd.prog 20 #[.string ⟨l.toArray⟩] w (OnePost w (readS l)) := by
  obtain ⟨Post, hPost⟩ : ∃ P : Ending → World → Prop, P = OnePost w (readS l) := ⟨_, rfl⟩
  rw [← hPost]
  have HP := Lib.hid hPost
  have K1 := Lib.hid (fun w1 => gParse l w1 hl)
  clear hPost
  cases hp : parseS l with
  | none =>
    have HR := Lib.hid (show parseR2 l = (.zero, 5) by unfold parseR2; rw [hp])
    have HS := Lib.hid (show readS l = ⟨[], [], 1000000000⟩ by unfold readS; rw [hp])
    clear hp
    go_enter Tryd.func20, Tryd.ntmps20
    go_wp2_with fail
    refine calls_gen fun w1 hw1 => ?_
    have HB1 := Lib.hid (show Below w.heap.size w w1 by rw [hw1]; exact below_one _ _)
    have M1 := Lib.hid (show w1.heap[w.heap.size]? = some (.cells #[.slice none 0 0, .slice none 0 0, .int .i64 0] 24 (0, 0)) by rw [hw1]; exact new_one _ _)
    clear hw1
    refine (K1.out w1).mono ?_
    rintro e w2 ⟨vC, vL, h, h2, h3⟩
    rw [HR.out] at h h2
    subst h
    have P1 := (behind_of_below h3).keep M1.out (by simp)
    have hbw : w.heap.size < w2.heap.size := lt_of_heap P1
    have HB2 := Lib.hid (HB1.out.trans (h3.mono HB1.out.size))
    have c0 := blk_cell P1 0 rfl
    have c1 := blk_cell P1 1 rfl
    have c2 := blk_cell P1 2 rfl
    have f0 := blk_free P1 0
    have f1 := blk_free P1 1
    have f2 := blk_free P1 2
    have HP1 := Lib.hid P1
    obtain ⟨aC, cC, hvC, _⟩ := own_at h2.o1
    obtain ⟨aL, cL, hvL, _⟩ := own_at h2.o2
    subst hvC
    subst hvL
    clear h2 h3 P1
    simp only [PS.zero]
    go_wp2_with fail
    have hs1 : w.heap.size + 1 ≤ w1.heap.size := lt_of_heap M1.out
    refine bodyPost_ret (results_cell_row (p := 2) rfl _ _ w.heap.size _ _ (0, 0) _ rfl ((heap_alloc_old _ _ (by simp; exact hbw)).trans (three_set HP1.out)) Tryd.underlying24 rfl Tryd.sizeSum) rfl ?_
    rw [HP.out, HS.out]
    exact ⟨_, _, rfl, two_none _ _, (HB2.out.trans (three_below (Nat.le_refl _))).alloc (by have := HB2.out.size; simp; omega) _⟩
  | some s =>
    have HR := Lib.hid (show parseR2 l = (s, 0) by unfold parseR2; rw [hp])
    have HS := Lib.hid (show readS l = s by unfold readS; rw [hp])
    clear hp
    go_enter Tryd.func20, Tryd.ntmps20
    go_wp2_with fail
    refine calls_gen fun w1 hw1 => ?_
    have HB1 := Lib.hid (show Below w.heap.size w w1 by rw [hw1]; exact below_one _ _)
    have M1 := Lib.hid (show w1.heap[w.heap.size]? = some (.cells #[.slice none 0 0, .slice none 0 0, .int .i64 0] 24 (0, 0)) by rw [hw1]; exact new_one _ _)
    clear hw1
    refine (K1.out w1).mono ?_
    rintro e w2 ⟨vC, vL, h, h2, h3⟩
    rw [HR.out] at h h2
    subst h
    have P1 := (behind_of_below h3).keep M1.out (by simp)
    have hbw : w.heap.size < w2.heap.size := lt_of_heap P1
    have HB2 := Lib.hid (HB1.out.trans (h3.mono HB1.out.size))
    have HT := Lib.hid h2
    have c0 := blk_cell P1 0 rfl
    have c1 := blk_cell P1 1 rfl
    have c2 := blk_cell P1 2 rfl
    have f0 := blk_free P1 0
    have f1 := blk_free P1 1
    have f2 := blk_free P1 2
    have HP1 := Lib.hid P1
    obtain ⟨C, L, m⟩ := s
    simp only at h2 HT
    obtain ⟨aC, cC, hvC, _⟩ := own_at h2.o1
    obtain ⟨aL, cL, hvL, _⟩ := own_at h2.o2
    subst hvC
    subst hvL
    clear h2 h3 P1
    simp only []
    go_wp2_with fail
    have hs1 : w.heap.size + 1 ≤ w1.heap.size := lt_of_heap M1.out
    refine bodyPost_ret (results_cell_row (p := 2) rfl _ _ w.heap.size _ _ (0, 0) _ rfl ((heap_alloc_old _ _ (by simp; exact hbw)).trans (three_set HP1.out)) Tryd.underlying24 rfl Tryd.sizeSum) rfl ?_
    rw [HP.out, HS.out]
    exact ⟨_, _, rfl, ((HT.out.keepU three_behind (fun g hg => by simp at hg; omega)).keepB (below_one _ _)).mono (by omega), (HB2.out.trans (three_below (Nat.le_refl _))).alloc (by have := HB2.out.size; simp; omega) _⟩

def shownS (s : PS) (r : Int) : List UInt8 := if r ≠ 0 ∨ (printS s).2 ≠ 0 then [] else (printS s).1
set_option maxHeartbeats 1600000 in
set_option maxRecDepth 100000 in
theorem gShown (N : Nat) (s : PS) (r : Int) (ca la : Option Addr) (cc lc : Nat) (hcl : s.C.length ≤ 100000000000000) (hll : s.L.length ≤ 100000000000000) (w : World) (hT : Tab w) (hC : AtN N w ca (ints s.C)) (hL : AtN N w la (ints s.L)) (hw : N ≤ w.heap.size) :
    Calls Tryd.prog 22 #[sumV ca cc la lc s, .int .i64 r] w fun e w' => e = .returned (.string ⟨(shownS s r).toArray⟩) ∧ Below w.heap.size w w' := by
  have KP := Lib.hid (fun (w1 : World) (hb : Below w.heap.size w w1) => gPrint N s ca la cc lc hcl hll w1 (hT.below hb) (hC.below hb hw) (hL.below hb hw) (Nat.le_trans hw hb.size))
  unfold sumV at *
  have HS := Lib.hid (show shownS s r = if r ≠ 0 ∨ (printS s).2 ≠ 0 then [] else (printS s).1 from rfl)
  generalize shownS s r = x at *
  generalize printS s = pr at *
  obtain ⟨tx, er⟩ := pr
  clear hT hC hL
  simp only at HS KP
  by_cases hr : r = 0
  · subst hr
    by_cases he : er = 0
    · subst he
      have HX := Lib.hid (show x = tx by rw [HS.out, if_neg (by simp)])
      clear HS
      go_enter Tryd.func22, Tryd.ntmps22
      go_wp2_with fail
      refine calls_gen fun w1 hw1 => ?_
      have HB1 := Lib.hid (show Below w.heap.size w w1 by rw [hw1]; exact below_one _ _)
      clear hw1
      refine (KP.out w1 HB1.out).mono ?_
      rintro e w2 ⟨rfl, hB2⟩
      have HB2 := Lib.hid (HB1.out.trans (hB2.mono HB1.out.size))
      clear hB2 HB1
      go_wp2_with fail
      go_ret
      exact ⟨by rw [HX.out]; rfl, HB2.out⟩
    · have hed : (er != 0) = true := by simp [bne, beq_no he]
      have HX := Lib.hid (show x = [] by rw [HS.out, if_pos (.inr he)])
      clear HS he
      go_enter Tryd.func22, Tryd.ntmps22
      go_wp2_with fail
      refine calls_gen fun w1 hw1 => ?_
      have HB1 := Lib.hid (show Below w.heap.size w w1 by rw [hw1]; exact below_one _ _)
      clear hw1
      refine (KP.out w1 HB1.out).mono ?_
      rintro e w2 ⟨rfl, hB2⟩
      have HB2 := Lib.hid (HB1.out.trans (hB2.mono HB1.out.size))
      clear hB2 HB1
      go_wp2_with fail
      go_ret
      exact ⟨by rw [HX.out]; rfl, HB2.out⟩
  · have hrd : (r != 0) = true := by simp [bne, beq_no hr]
    have HX := Lib.hid (show x = [] by rw [HS.out, if_pos (.inl hr)])
    clear HS hr
    go_enter Tryd.func22, Tryd.ntmps22
    go_wp2_with fail
    refine calls_gen fun w1 hw1 => ?_
    have HB1 := Lib.hid (show Below w.heap.size w w1 by rw [hw1]; exact below_one _ _)
    clear hw1
    refine (KP.out w1 HB1.out).mono ?_
    rintro e w2 ⟨rfl, hB2⟩
    have HB2 := Lib.hid (HB1.out.trans (hB2.mono HB1.out.size))
    clear hB2 HB1
    go_wp2_with fail
    go_ret
    exact ⟨by rw [HX.out]; rfl, HB2.out⟩
end Go.Proofs.YtchamkbnapjidaaDoor
