/- The law on valid sums. -/
import Derived.Test.YtkhokahilkahfaaDoorKWk
namespace Go.Proofs.YtkhokahilkahfaaDoor
open Go.RowKit

def lightB (s : PS) : Bool := decide (s.C.length ≤ 80) && decide (s.L.length ≤ 80)
set_option maxHeartbeats 1600000 in
set_option maxRecDepth 100000 in
theorem gLight (s : PS) (ca la : Option Addr) (cc lc : Nat) (hcl : s.C.length ≤ 20000000000000) (hll : s.L.length ≤ 20000000000000) : Gives 16 #[sumV ca cc la lc s] (.bool (lightB s)) := by
  intro w
  unfold sumV
  have HQ := Lib.hid (show lightB s = (decide (s.C.length ≤ 80) && decide (s.L.length ≤ 80)) from rfl)
  generalize s.C.length = a at *
  generalize s.L.length = b at *
  by_cases h1 : a ≤ 80
  · have hd : decide ((a : Int) ≤ 80) = true := decide_eq_true (by omega)
    by_cases h2 : b ≤ 80
    · have hd2 : decide ((b : Int) ≤ 80) = true := decide_eq_true (by omega)
      go_enter Tryd.func16, Tryd.ntmps16
      go_wp2_with fail
      go_ret
      exact ⟨by rw [HQ.out, decide_eq_true h1, decide_eq_true h2]; rfl, below_one _ _⟩
    · have hd2 : decide ((b : Int) ≤ 80) = false := decide_eq_false (by omega)
      go_enter Tryd.func16, Tryd.ntmps16
      go_wp2_with fail
      go_ret
      exact ⟨by rw [HQ.out, decide_eq_true h1, decide_eq_false h2]; rfl, below_one _ _⟩
  · have hd : decide ((a : Int) ≤ 80) = false := decide_eq_false (by omega)
    go_enter Tryd.func16, Tryd.ntmps16
    go_wp2_with fail
    go_ret
    exact ⟨by rw [HQ.out, decide_eq_false h1]; rfl, below_one _ _⟩

theorem gWorksFrom {w : World} (hT : Tab w) : GivesFrom w 17 #[] (.bool true) := fun w' hb => gWorks w' (hT.below hb)
theorem gCheckFrom (N : Nat) (s : PS) (n : Int) (ca la : Option Addr) (cc lc : Nat) (hcl : s.C.length ≤ 100000000000000) (hll : s.L.length ≤ 100000000000000) (w : World) (hC : AtN N w ca (ints s.C)) (hL : AtN N w la (ints s.L)) (hw : N ≤ w.heap.size) :
    GivesFrom w 18 #[sumV ca cc la lc s, .int .i64 n] (.int .i64 (checkS s n)) := fun w1 hb => gCheck N s n ca la cc lc hcl hll w1 (hC.below hb hw) (hL.below hb hw) (Nat.le_trans hw hb.size)
theorem xCheckFrom (N : Nat) (s : PS) (n : Int) (ca la : Option Addr) (cc lc : Nat) (hcl : s.C.length ≤ 100000000000000) (hll : s.L.length ≤ 100000000000000) (w : World) (hC : AtN N w ca (ints s.C)) (hL : AtN N w la (ints s.L)) (hw : N ≤ w.heap.size) :
    GivesFrom w 19 #[sumV ca cc la lc s, .int .i64 n] (.int .i64 (checkS s n)) := fun w1 hb => xCheck N s n ca la cc lc hcl hll w1 (hC.below hb hw) (hL.below hb hw) (Nat.le_trans hw hb.size)
theorem GivesFrom.from {w x : World} {f : FuncId} {args : Array Value} {v : Value} (h : GivesFrom w f args v) (hb : Below w.heap.size w x) : GivesFrom x f args v := fun y hy => h y (hb.trans (hy.mono hb.size))

set_option maxHeartbeats 1600000 in
set_option maxRecDepth 100000 in
theorem checks_law (s : PS) (n : Int) (ca la : Option Addr) (cc lc : Nat) (hcl : s.C.length ≤ 20000000000000) (hll : s.L.length ≤ 20000000000000) (w : World) (hT : Tab w) (hC : AtN w.heap.size w ca (ints s.C)) (hL : AtN w.heap.size w la (ints s.L)) :
    Calls Tryd.prog 3 #[sumV ca cc la lc s, .int .i64 n] w fun e w' => e = .returned (.bool true) ∧ Below w.heap.size w w' := by
  have KL := gLight s ca la cc lc hcl hll
  have KW := Lib.hid (gWorksFrom hT)
  have KC := Lib.hid (gCheckFrom _ s n ca la cc lc (by omega) (by omega) w hC hL (Nat.le_refl _))
  have KX := Lib.hid (xCheckFrom _ s n ca la cc lc (by omega) (by omega) w hC hL (Nat.le_refl _))
  unfold sumV at *
  generalize checkS s n = r at *
  generalize lightB s = q at *
  generalize s.C.length = a at *
  generalize s.L.length = b at *
  clear hT hC hL
  cases q with
  | false =>
    go_enter Tryd.func3, Tryd.ntmps3
    go_wp2_with fail
    refine calls_gen fun w1 hw1 => ?_
    have HB1 := Lib.hid (show Below w.heap.size w w1 by rw [hw1]; exact below_one _ _)
    clear hw1
    refine (KL w1).mono ?_
    rintro e w2 ⟨rfl, hB2⟩
    have HB2 := Lib.hid (HB1.out.trans (hB2.mono HB1.out.size))
    clear hB2 HB1
    go_wp2_with fail
    refine (KW.out w2 HB2.out).mono ?_
    rintro e w3 ⟨rfl, hB3⟩
    have HB3 := Lib.hid (HB2.out.trans (hB3.mono HB2.out.size))
    clear hB3
    go_wp2_with fail
    go_ret
    exact ⟨rfl, HB3.out⟩
  | true =>
    go_enter Tryd.func3, Tryd.ntmps3
    go_wp2_with fail
    refine calls_gen fun w1 hw1 => ?_
    have HB1 := Lib.hid (show Below w.heap.size w w1 by rw [hw1]; exact below_one _ _)
    have M1 := (show w1.heap[w.heap.size]? = some (.cells #[.slice ca a cc, .slice la b lc, .int .i64 s.m] 24 (0, 0)) by rw [hw1]; exact new_one _ _)
    clear hw1
    refine (KL w1).mono ?_
    rintro e w2 ⟨rfl, hB2⟩
    have HB2 := Lib.hid (HB1.out.trans (hB2.mono HB1.out.size))
    have M2 := Lib.hid ((behind_of_below hB2).keep M1 (by simp))
    have KW2 := KW.out.from HB2.out
    have KC2 := KC.out.from HB2.out
    have KX2 := KX.out.from HB2.out
    clear hB2 HB1 M1 KW KC KX
    go_wp2_with fail
    refine wp_game (List.replicate 11 0) [] B0 fin_B0 (has_B0 _) (by kernel_rfl) (by kernel_rfl) ?_
    refine lex_quietE 11 (by kernel_rfl) (by rfl) ?_
    apply Exists.intro
    refine ⟨fun z hz1 => ?_, ?_⟩
    · have hzb := hz1.below
      have g0 := blk_cellp (hz1.keep M2.out (by simp)) 0 rfl
      have g1 := blk_cellp (hz1.keep M2.out (by simp)) 1 rfl
      have g2 := blk_cellp (hz1.keep M2.out (by simp)) 2 rfl
      clear hz1
      simp only [List.take_succ_cons, List.take_zero]
      unfold Cx
      repeat (go_big_quiet_step (first | with_reducible exact KC2.at2 hzb _ | with_reducible exact KX2.at2 hzb _ | with_reducible exact KW2.at2 hzb _))
      exact wpQuiet_nil rfl
    simp only [List.drop_succ_cons, List.drop_zero]
    refine lex_nil ?_
    intro x2 hx2 _
    have HB3 := Lib.hid (HB2.out.trans (hx2.below.mono HB2.out.size))
    clear hx2
    go_wp2_with fail
    go_ret
    exact ⟨rfl, HB3.out⟩
end Go.Proofs.YtkhokahilkahfaaDoor
