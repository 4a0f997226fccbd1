/- Texts of this claim, joined: BTexts. -/
import Derived.Test.YtbacloneddnaeaaE30
import Derived.Test.YtbacloneddnaeaaE32

/- censuslaw40.texts. -/
namespace Go.Proofs.Ytbacloneddnaeaa
open Go.RowKit Go.Shelf Num

def textsB (ps : List (Nat × Nat)) (ss : List ByteArray) : Bool := decide (ps.map rtext = ss)
theorem textsB_step {ps : List (Nat × Nat)} {ss : List ByteArray} {j : Nat} {p : Nat × Nat} {s : ByteArray} (h : (ps.take j).map rtext = ss.take j) (hp : ps[j]? = some p) (hs : ss[j]? = some s) (e : rtext p = s) : (ps.take (j + 1)).map rtext = ss.take (j + 1) := by
  rw [take_snoc_of hp, take_snoc_of hs, List.map_append, h, List.map_singleton, e]
theorem textsB_not {ps : List (Nat × Nat)} {ss : List ByteArray} {j : Nat} {p : Nat × Nat} {s : ByteArray} (hp : ps[j]? = some p) (hs : ss[j]? = some s) (e : rtext p ≠ s) : textsB ps ss = false := by
  refine decide_eq_false fun h => e ?_
  have := congrArg (fun l => l[j]?) h
  simp [hp, hs] at this
  exact this

set_option maxHeartbeats 1600000 in
set_option maxRecDepth 100000 in
theorem texts_law (N : Nat) (ps : List (Nat × Nat)) (ss : List ByteArray) (a b : Option Addr) (c d : Nat) (hps : ∀ p ∈ ps, Sm 1000000 p) (hl : ps.length ≤ 100000) (hl2 : ss.length ≤ 100000) (w : World) (hA : AtN N w a (rats ps)) (hB : AtN N w b (strs ss)) (hw : N ≤ w.heap.size) :
    Calls Try.prog 20 #[.slice a ps.length c, .slice b ss.length d] w fun e w' => e = .returned (.bool (textsB ps ss)) ∧ Below w.heap.size w w' := by
  have HA := Lib.hid hA
  have HB := Lib.hid hB
  have HP := Lib.hid hps
  have HW := Lib.hid hw
  clear hA hB hps hw
  by_cases hlen : ps.length = ss.length
  · go_enter Try.func20, Try.ntmps20
    have hlen1 : ((ps.length : Int) == (ss.length : Int)) = true := by simp [hlen]
    have HLEN := Lib.hid hlen
    rw [← hlen]
    clear hlen hl2
    go_wp2_with fail
    go_loopw [5] (fun i wr => ∃ j : Nat, j ≤ ps.length ∧ i = .int .i64 j ∧ Hid ((ps.take j).map rtext = ss.take j) ∧ Hid (Below w.heap.size w wr))
      (fun i _ => ps.length - (intOf i).toNat)
    case atStart => exact ⟨0, Nat.zero_le _, rfl, by simp [Hid], Below.refl _ _⟩
    case round =>
      obtain ⟨j, hj, rfl, HT, HBE⟩ := hrel
      by_cases hlt : j < ps.length
      · obtain ⟨p, hp⟩ : ∃ p, ps[j]? = some p := ⟨_, List.getElem?_eq_getElem hlt⟩
        obtain ⟨s, hs⟩ : ∃ s, ss[j]? = some s := ⟨_, List.getElem?_eq_getElem (by rw [← HLEN.out]; exact hlt)⟩
        obtain ⟨q1, q2⟩ := p
        have KT : Gives 16 #[.agg #[.string (nb q1), .string (nb q2)]] (.string (rtext (q1, q2))) := gRText (q1, q2) (HP.out _ (List.mem_of_getElem? hp))
        obtain ⟨b1, o1, hb1, rfl, k1⟩ := (HA.out.below HBE.out HW.out) _ _ (rats_get hp).1
        obtain ⟨_, _, _, e2, k2⟩ := (HA.out.below HBE.out HW.out) _ _ (rats_get hp).2
        cases e2
        obtain ⟨b3, o3, hb3, rfl, k3⟩ := (HB.out.below HBE.out HW.out) _ _ (strs_get hs)
        rw [← Nat.add_assoc] at k2
        have K1 := Lib.hid k1
        have K2 := Lib.hid k2
        have K3 := Lib.hid k3
        have HPJ := Lib.hid hp
        have HSJ := Lib.hid hs
        clear k1 k2 k3 hp hs
        go_wp2_with fail
        obtain ⟨u, hu⟩ : ∃ u, u = rtext (q1, q2) := ⟨_, rfl⟩
        rw [← hu] at KT
        by_cases hE : u = s
        · have HU := Lib.hid hu
          subst hE
          clear hu
          refine wp_game [0, 0, 0, 0, 0, 0, 0, 0, 0, 0] [] B0 fin_B0 (has_B0 _) (by kernel_rfl) (by kernel_rfl) ?_
          refine lex_quietE 10 (by kernel_rfl) (by rfl) ?_
          apply Exists.intro
          refine ⟨fun z hz => ?_, ?_⟩
          · have g1 := behind_cellp hz K1.out (by simp)
            have g2 := behind_cellp hz K2.out (by simp)
            have g3 := behind_cellp hz K3.out (by simp)
            clear hz
            simp only [List.take_succ_cons, List.take_zero]
            unfold Cx
            repeat (go_big_quiet_step (first | with_reducible exact KT.at _ _))
            exact wpQuiet_nil rfl
          simp only [List.drop_succ_cons, List.drop_zero]
          refine lex_nil ?_
          intro x hx _
          have hbx := HBE.out.trans (hx.below.mono (B' := w.heap.size) (by have := HBE.out.size; omega))
          have HBX := Lib.hid hbx
          have HT2 := Lib.hid (textsB_step HT.out HPJ.out HSJ.out HU.out.symm)
          clear hx hbx
          go_wp2_with fail
          go_roundw
          case rel => exact ⟨j + 1, by omega, by go_num, HT2, HBX⟩
          case measure => simp [intOf]; omega
        · have hne := toListB_ne hE
          have HF : Hid (textsB ps ss = false) := textsB_not HPJ.out HSJ.out (by rw [← hu]; exact hE)
          clear hu hE
          refine wp_game [0, 0, 0, 0, 0, 0, 0, 0, 0, 0] [] B0 fin_B0 (has_B0 _) (by kernel_rfl) (by kernel_rfl) ?_
          refine lex_quietE 10 (by kernel_rfl) (by rfl) ?_
          apply Exists.intro
          refine ⟨fun z hz => ?_, ?_⟩
          · have g1 := behind_cellp hz K1.out (by simp)
            have g2 := behind_cellp hz K2.out (by simp)
            have g3 := behind_cellp hz K3.out (by simp)
            clear hz
            simp only [List.take_succ_cons, List.take_zero]
            unfold Cx
            repeat (go_big_quiet_step (first | with_reducible exact KT.at _ _))
            exact wpQuiet_nil rfl
          simp only [List.drop_succ_cons, List.drop_zero]
          refine lex_nil ?_
          intro x hx _
          have hbx := HBE.out.trans (hx.below.mono (B' := w.heap.size) (by have := HBE.out.size; omega))
          have HBX := Lib.hid hbx
          clear hx hbx
          go_wp2_with fail
          go_ret
          exact ⟨by rw [HF.out]; rfl, HBX.out⟩
      · obtain rfl : j = ps.length := by omega
        have hT := HT.out
        rw [List.take_length, HLEN.out, List.take_length] at hT
        have HF : Hid (textsB ps ss = true) := decide_eq_true hT
        clear hT
        go_wp2_with fail
        go_ret
        exact ⟨by rw [HF.out]; rfl, HBE.out⟩
  · have hlen1 : ((ps.length : Int) == (ss.length : Int)) = false := beq_no (by omega)
    have HF : Hid (textsB ps ss = false) := decide_eq_false fun h => hlen (by rw [← h]; simp)
    go_enter Try.func20, Try.ntmps20
    go_wp2_with fail
    go_ret
    exact ⟨by rw [HF.out]; rfl, Below.refl _ _⟩
end Go.Proofs.Ytbacloneddnaeaa
