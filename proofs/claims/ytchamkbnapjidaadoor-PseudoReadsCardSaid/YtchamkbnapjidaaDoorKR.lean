/- The reader: a text that may be there, or must be there. -/
import Derived.Test.YtchamkbnapjidaaDoorKS
import Derived.Test.YtchamkbnapjidaaDoorSR
namespace Go.Proofs.YtchamkbnapjidaaDoor
open Go.RowKit

/-- The reader in block br has this text before it. -/
def Rd (br : Nat) (l : List UInt8) (w : World) : Prop := w.heap[br]? = some (.cells #[.string ⟨l.toArray⟩] 68 (0, 0))
/-- What the reader gives up with. -/
def wrongE : Ending := .panicked [{ v := .iface 75 (.agg #[]), recovered := false }]
def chop (l p : List UInt8) : List UInt8 := if Lib.hasPrefix l p then l.drop p.length else l

theorem behind_set {w : World} {b : Nat} {Wr : List Nat} {o : Nat} {v : Value} (h : b ∈ Wr) : Behind w Wr (w.setCell ⟨b, o, none⟩ v) :=
  ⟨rfl, rfl, rfl, by simp [World.setCell], fun k _ hn => heap_setCell_other w _ k v (fun e => hn (e ▸ h))⟩

set_option maxHeartbeats 1600000 in
set_option maxRecDepth 100000 in
theorem gHasR (br : Nat) (l p : List UInt8) (w : World) (hR : Rd br l w) :
    Calls Tryd.prog 51 #[.pointer (some ⟨br, 0, none⟩), .string ⟨p.toArray⟩] w fun e w' => e = .returned (.bool (Lib.hasPrefix l p)) ∧ Rd br (chop l p) w' ∧ Behind w [br] w' := by
  have c0 := blk_cell hR 0 rfl
  have f0 := blk_free hR 0
  have HR := Lib.hid hR
  have K := Tryd.strings_CutPrefix ⟨l.toArray⟩ ⟨p.toArray⟩
  simp only [List.toList_toArray] at K
  have HX := Lib.hid (show chop l p = Lib.trimPrefix l p from rfl)
  cases hq : Lib.hasPrefix l p with
  | true =>
    rw [hq] at K
    generalize Lib.trimPrefix l p = x at *
    clear hR hq
    go_enter Tryd.func51, Tryd.ntmps51
    go_wp2_with fail
    refine (K _).mono ?_
    rintro e w1 ⟨rfl, rfl⟩
    go_wp2_with fail
    go_ret
    refine ⟨rfl, ?_, behind_set (by simp)⟩
    rw [HX.out]
    exact heap_setCell_same _ br 0 _ _ _ HR.out
  | false =>
    have HY := Lib.hid (show chop l p = l by unfold chop; rw [hq]; rfl)
    rw [hq] at K
    generalize Lib.trimPrefix l p = x at *
    clear hR hq
    go_enter Tryd.func51, Tryd.ntmps51
    go_wp2_with fail
    refine (K _).mono ?_
    rintro e w1 ⟨rfl, rfl⟩
    go_wp2_with fail
    go_ret
    refine ⟨rfl, ?_, Behind.refl _ _⟩
    rw [HY.out]; exact HR.out

set_option maxHeartbeats 1600000 in
set_option maxRecDepth 100000 in
theorem gTake_yes (br : Nat) (l p : List UInt8) (w : World) (hR : Rd br l w) (h : Lib.hasPrefix l p = true) :
    Calls Tryd.prog 37 #[.pointer (some ⟨br, 0, none⟩), .string ⟨p.toArray⟩] w fun e w' => e = .returned (.tuple #[]) ∧ Rd br (l.drop p.length) w' ∧ Behind w [br] w' := by
  have K := gHasR br l p w hR
  have HX := Lib.hid (show chop l p = l.drop p.length by unfold chop; rw [h]; rfl)
  rw [h] at K
  generalize chop l p = x at *
  go_enter Tryd.func37, Tryd.ntmps37
  go_wp2_with fail
  refine K.mono ?_
  rintro e w1 ⟨rfl, h1, h2⟩
  have H1 := Lib.hid h1
  have H2 := Lib.hid h2
  clear h1 h2
  go_wp2_with fail
  go_end0
  exact ⟨rfl, by rw [← HX.out]; exact H1.out, H2.out⟩

set_option maxHeartbeats 1600000 in
set_option maxRecDepth 100000 in
theorem gTake_no (br : Nat) (l p : List UInt8) (w : World) (hR : Rd br l w) (h : Lib.hasPrefix l p = false) :
    Calls Tryd.prog 37 #[.pointer (some ⟨br, 0, none⟩), .string ⟨p.toArray⟩] w fun e w' => e = wrongE ∧ Behind w [br] w' := by
  have K := gHasR br l p w hR
  rw [h] at K
  generalize chop l p = x at *
  go_enter Tryd.func37, Tryd.ntmps37
  go_wp2_with fail
  refine K.mono ?_
  rintro e w1 ⟨rfl, h1, h2⟩
  have H1 := Lib.hid h1
  have H2 := Lib.hid h2
  clear h1 h2
  go_wp2_with fail
  exact ⟨rfl, rfl, H2.out⟩
end Go.Proofs.YtchamkbnapjidaaDoor
