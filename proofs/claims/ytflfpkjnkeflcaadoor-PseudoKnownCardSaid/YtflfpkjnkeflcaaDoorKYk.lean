/- The law of the known texts and sums. -/
import Derived.Test.YtflfpkjnkeflcaaDoorKYo
import Derived.Test.YtflfpkjnkeflcaaDoorKYe
import Derived.Laws.MakeOwn
import Derived.Deep.DeepCutAuto
namespace Go.Proofs.YtflfpkjnkeflcaaDoor
open Go.RowKit

def kBad : List (List UInt8) := [[49, 32, 120, 49, 32, 62, 61, 32, 48, 49], [49, 32, 120, 49, 32, 43, 32, 45, 49, 32, 120, 50, 32, 62, 61, 32, 48], [49, 32, 120, 49, 50, 57, 32, 62, 61, 32, 48], [49, 32, 120, 48, 32, 62, 61, 32, 48], [], [48, 32, 62, 61, 32, 45, 48], [48, 32, 62, 61, 32, 43, 49], [32, 48, 32, 62, 61, 32, 49], [48, 32, 62, 61, 32, 49, 32], [48, 32, 62, 61, 49], [49, 32, 120, 49, 32, 62, 32, 48], [49, 120, 49, 32, 62, 61, 32, 48], [49, 32, 126, 120, 48, 49, 32, 62, 61, 32, 48], [49, 48, 48, 48, 48, 48, 48, 48, 48, 49, 32, 120, 49, 32, 62, 61, 32, 48], [48, 32, 62, 61, 32, 49, 48, 48, 48, 48, 48, 48, 48, 48, 49], [49, 48, 48, 48, 48, 48, 48, 48, 48, 48, 32, 120, 49, 32, 43, 32, 49, 32, 120, 49, 32, 62, 61, 32, 48], [120, 49, 32, 62, 61, 32, 48], [48, 32, 43, 32, 49, 32, 120, 49, 32, 62, 61, 32, 48], [45, 32, 49, 32, 120, 49, 32, 62, 61, 32, 48]]
def kGood : List (List UInt8) := [[48, 32, 62, 61, 32, 45, 51], [45, 49, 32, 120, 49, 32, 62, 61, 32, 48], [48, 32, 120, 49, 32, 43, 32, 48, 32, 126, 120, 49, 50, 56, 32, 62, 61, 32, 45, 49, 48, 48, 48, 48, 48, 48, 48, 48, 48], [49, 48, 48, 48, 48, 48, 48, 48, 48, 48, 32, 126, 120, 55, 32, 62, 61, 32, 49, 48, 48, 48, 48, 48, 48, 48, 48, 48], [49, 32, 120, 49, 32, 45, 32, 49, 32, 120, 49, 32, 62, 61, 32, 48]]
theorem kBad_all : kBad.all (fun l => decide (l.length ≤ 1000000) && (parseS l).isNone) = true := by kernel_rfl
theorem kGood_all : kGood.all (fun l => decide (l.length ≤ 1000000) && (parseS l).isSome) = true := by kernel_rfl
theorem kBad_at {l : List UInt8} (h : l ∈ kBad) : l.length ≤ 1000000 ∧ parseR2 l = (.zero, 5) := by
  have := List.all_eq_true.1 kBad_all l h
  rw [Bool.and_eq_true, decide_eq_true_eq, Option.isNone_iff_eq_none] at this
  exact ⟨this.1, by unfold parseR2; rw [this.2]⟩
theorem kGood_at {l : List UInt8} (h : l ∈ kGood) : ∃ s, l.length ≤ 1000000 ∧ parseS l = some s := by
  have := List.all_eq_true.1 kGood_all l h
  rw [Bool.and_eq_true, decide_eq_true_eq, Option.isSome_iff_exists] at this
  obtain ⟨h1, s, h2⟩ := this
  exact ⟨s, h1, h2⟩
theorem q1 : parseS [49, 32, 120, 49, 32, 45, 32, 49, 32, 120, 49, 32, 62, 61, 32, 48] = some ⟨[1, -1], [1, 1], 0⟩ := by kernel_rfl
theorem q2 : parseS [49, 32, 120, 49, 32, 62, 61, 32, 50] = some ⟨[1], [1], 2⟩ := by kernel_rfl
theorem q3 : parseS [49, 32, 120, 51, 32, 62, 61, 32, 48] = some ⟨[1], [3], 0⟩ := by kernel_rfl
theorem q4 : parseS [48, 32, 62, 61, 32, 48] = some ⟨[], [], 0⟩ := by kernel_rfl
theorem q5 : parseS [48, 32, 62, 61, 32, 49] = some ⟨[], [], 1⟩ := by kernel_rfl
theorem m1k : normS ⟨[1, -1], [1, 1], 0⟩ 1 = (⟨[], [], 0⟩, 0) := by kernel_rfl
theorem m2k : normS ⟨[1], [1], 2⟩ 1 = (⟨[], [], 1⟩, 0) := by kernel_rfl
theorem ck1 : checkS ⟨[1], [3], 0⟩ 2 = 1 := by kernel_rfl
theorem ck2 : checkS ⟨[1, 2], [1], 0⟩ 2 = 1 := by kernel_rfl
theorem ck3 : checkS ⟨List.replicate 65 0, List.replicate 65 0, 0⟩ 3 = 2 := by kernel_rfl
theorem ck4 : checkS ⟨List.replicate 65 0, List.replicate 65 0, 0⟩ 129 = 6 := by kernel_rfl
theorem ek1 : evalS ⟨List.replicate 65 0, List.replicate 65 0, 0⟩ (litB (bitS 0 0)) = false := by kernel_rfl
theorem ek2 : evalS ⟨[], [], 0⟩ (litB (bitS 9 9)) = true := by kernel_rfl
theorem make65 (x : World) : (Instr.makeSlice 22 (.int .i64 65) (.int .i64 65)).run Tryd.prog x = .ok (.slice (some ⟨x.heap.size, 0, none⟩) 65 65) (x.alloc (.cells (Array.replicate 65 (.int .i64 0)) 3)) := by
  obtain ⟨i0, ii, iz0, iz1, iz2⟩ := info_parts Tryd.infoInt
  have h := run_makeSlice (P := Tryd.prog) (w := x) 22 3 i0 _ Tryd.underlying22 ii iz0 .i64 .i64 65 65 (by omega) (by omega) (by rw [iz1]; decide) (by rw [iz2]; decide) (by omega)
  rw [iz1] at h
  rw [show madeCells (Value.int .i64 0).cells ((65 : Int).toNat * 1) = Array.replicate 65 (.int .i64 0) by kernel_rfl] at h
  exact h
theorem ints65 : Array.replicate 65 (Value.int .i64 0) = (ints (List.replicate 65 0)).toArray := by kernel_rfl
theorem at65 {w : World} {g : Nat} (h : w.heap[g]? = some (.cells (Array.replicate 65 (.int .i64 0)) 3 (0, 0))) : AtN w.heap.size w (some ⟨g, 0, none⟩) (ints (List.replicate 65 0)) := fun i v hi => by
  rw [ints65] at h
  exact ⟨g, 0, lt_of_heap h, rfl, by rw [Nat.zero_add]; exact blk_cell h i (by simpa using hi)⟩
def txtV (l : List UInt8) : Value := .string ⟨l.toArray⟩

set_option maxHeartbeats 6400000 in
set_option maxRecDepth 100000 in
theorem known_law (w : World) (hT : Tab w) : Calls Tryd.prog 6 #[] w fun e w' => e = .returned (.bool true) ∧ Below w.heap.size w w' := by
  have HT := Lib.hid hT
  have KW := Lib.hid (gWorksFrom hT)
  clear hT
  go_enter Tryd.func6, Tryd.ntmps6
  go_wp2_with fail
  refine wp_gen ?_
  intro w1 hw1
  have HB1 := Lib.hid (show Below w.heap.size w w1 by rw [hw1]; exact below_one _ _)
  have M1 := Lib.hid (show w1.heap[w.heap.size]? = some (.cells (kBad.map txtV).toArray 9 (0, 0)) by rw [hw1]; exact new_one _ _)
  have hm1 := lt_of_heap M1.out
  clear hw1
  go_loopw [10] (fun t10 wr => ∃ i : Nat, i ≤ 19 ∧ t10 = .int .i64 i ∧ Hid (Below w1.heap.size w1 wr)) (fun t10 _ => 19 - (intOf t10).toNat)
  case atStart => exact ⟨0, by omega, rfl, Below.refl _ _⟩
  case round =>
    obtain ⟨i, hi, rfl, HB⟩ := hrel
    have hsr := HB.out.size
    by_cases hlt : i < 19
    · have hdd : decide (i < 19) = true := by simpa using hlt
      have MR := (behind_of_below HB.out).keep M1.out (by simp)
      obtain ⟨l, hl⟩ : ∃ l, kBad[i]? = some l := ⟨_, List.getElem?_eq_getElem (show i < kBad.length from hlt)⟩
      obtain ⟨h1, h2⟩ := kBad_at (List.mem_of_getElem? hl)
      have c0 := blk_cell MR i (v := .string ⟨l.toArray⟩) (by simp [hl, txtV])
      have KP := gParse l wr h1
      rw [h2] at KP
      clear h2 hl MR
      go_wp2_with fail
      refine KP.mono ?_
      rintro e w2 ⟨vC, vL, rfl, h2, h3⟩
      have HB2 := Lib.hid (HB.out.trans (h3.mono HB.out.size))
      obtain ⟨aC, cC, hvC, _⟩ := own_at h2.o1
      obtain ⟨aL, cL, hvL, _⟩ := own_at h2.o2
      subst hvC
      subst hvL
      clear h2 h3 KP c0
      simp only [PS.zero, List.length_nil]
      go_wp2_with fail
      go_roundw
      case rel => exact ⟨i + 1, by omega, by go_num, HB2.out.alloc HB2.out.size _⟩
      case measure => simp [intOf]; omega
    · obtain rfl : i = 19 := by omega
      have hdd : decide (19 < 19) = false := by simp
      have HBx := Lib.hid (HB1.out.trans (HB.out.mono HB1.out.size))
      go_wp2_with fail
      rw [show ((19 : Nat) : Int) = 19 from rfl]
      refine wp_gen ?_
      intro w3 hw3
      have HB3 := Lib.hid (show Below w.heap.size w w3 by rw [hw3]; exact HBx.out.alloc HBx.out.size _)
      have M3 := Lib.hid (show w3.heap[wr.heap.size]? = some (.cells (kGood.map txtV).toArray 9 (0, 0)) by rw [hw3]; exact new_one _ _)
      have hm3 := lt_of_heap M3.out
      clear hw3 HBx HB1 M1 HB
      obtain ⟨w0, hw0⟩ : ∃ w0, w0 = wr := ⟨_, rfl⟩
      subst hw0
      go_loopw [35] (fun t35 wr => ∃ i : Nat, i ≤ 5 ∧ t35 = .int .i64 i ∧ Hid (Below w3.heap.size w3 wr)) (fun t35 _ => 5 - (intOf t35).toNat)
      case atStart => exact ⟨0, by omega, rfl, Below.refl _ _⟩
      case round =>
        obtain ⟨i, hi, rfl, HB⟩ := hrel
        have hsr := HB.out.size
        by_cases hlt : i < 5
        · have hdd : decide (i < 5) = true := by simpa using hlt
          have MR := (behind_of_below HB.out).keep M3.out (by simp)
          obtain ⟨l, hl⟩ : ∃ l, kGood[i]? = some l := ⟨_, List.getElem?_eq_getElem (show i < kGood.length from hlt)⟩
          obtain ⟨s, h1, hs⟩ := kGood_at (List.mem_of_getElem? hl)
          have c0 := blk_cell MR i (v := .string ⟨l.toArray⟩) (by simp [hl, txtV])
          have KP := gParse l wr h1
          rw [show parseR2 l = (s, 0) by unfold parseR2; rw [hs]] at KP
          have hok := (text_parse hs).2
          have hsl := hok.l64
          have hsm : s.L.length ≤ 64 := by have := hok.len; omega
          have hsh := shown_of hs
          have hq := eq_self l
          clear hl MR hs hok
          go_wp2_with fail
          refine KP.mono ?_
          rintro e w4 ⟨vC, vL, rfl, h2, h3⟩
          have HB4 := Lib.hid (HB.out.trans (h3.mono HB.out.size))
          obtain ⟨aC, cC, hvC, hAC⟩ := own_at h2.o1
          obtain ⟨aL, cL, hvL, hAL⟩ := own_at h2.o2
          subst hvC
          subst hvL
          have KS := gShown w4.heap.size s 0 aC aL cC cL (by omega) (by omega) w4 (HT.out.below (HB3.out.trans (HB4.out.mono HB3.out.size))) hAC hAL (Nat.le_refl _)
          rw [hsh] at KS
          unfold sumV at KS
          clear h2 h3 KP c0 hAC hAL hsh
          go_wp2_with fail
          refine KS.mono ?_
          rintro e w5 ⟨rfl, hb⟩
          have HB5 := Lib.hid (HB4.out.trans (hb.mono HB4.out.size))
          clear hb KS
          go_wp2_with fail
          go_roundw
          case rel => exact ⟨i + 1, by omega, by go_num, HB5.out⟩
          case measure => simp [intOf]; omega
        · obtain rfl : i = 5 := by omega
          have hdd : decide (5 < 5) = false := by simp
          have HBa := Lib.hid (HB3.out.trans (HB.out.mono HB3.out.size))
          have K1 := Lib.hid (fun w1 => gRead [49, 32, 120, 49, 32, 45, 32, 49, 32, 120, 49, 32, 62, 61, 32, 48] w1 (by decide))
          have K2 := Lib.hid (fun w1 => gRead [49, 32, 120, 49, 32, 62, 61, 32, 50] w1 (by decide))
          have K3 := Lib.hid (fun w1 => gRead [49, 32, 120, 51, 32, 62, 61, 32, 48] w1 (by decide))
          rw [read_of q1] at K1
          rw [read_of q2] at K2
          rw [read_of q3] at K3
          clear HB3 M3 HB
          go_wp2_with fail
          refine (K1.out wr).mono ?_
          rintro e w4 ⟨vC, vL, rfl, h2, h3⟩
          have B4 := Lib.hid (HBa.out.trans (h3.mono HBa.out.size))
          obtain ⟨aC, cC, hvC, hAC⟩ := own_at h2.o1
          obtain ⟨aL, cL, hvL, hAL⟩ := own_at h2.o2
          subst hvC
          subst hvL
          have KN := gNormal w4.heap.size ⟨[1, -1], [1, 1], 0⟩ 1 aC aL cC cL (by decide) (by decide) w4 hAC hAL (Nat.le_refl _)
          rw [m1k] at KN
          have KN1 := Lib.hid KN
          clear KN h2 h3 hAC hAL K1 HBa
          simp only []
          go_wp2_with fail
          refine (KN1.out).mono ?_
          rintro e w5 ⟨vC, vL, rfl, h2, h3⟩
          have B5 := Lib.hid (B4.out.trans (h3.mono B4.out.size))
          obtain ⟨bC, dC, hvC, hAC⟩ := own_at h2.o1
          obtain ⟨bL, dL, hvL, hAL⟩ := own_at h2.o2
          subst hvC
          subst hvL
          have KS := gShown w5.heap.size ⟨[], [], 0⟩ 0 bC bL dC dL (by decide) (by decide) w5 (HT.out.below B5.out) hAC hAL (Nat.le_refl _)
          rw [shown_of q4] at KS
          have KS1 := Lib.hid KS
          clear KS h2 h3 hAC hAL KN1 B4
          simp only []
          go_wp2_with fail
          refine (KS1.out).mono ?_
          rintro e w6 ⟨rfl, hb⟩
          have B6 := Lib.hid (B5.out.trans (hb.mono B5.out.size))
          clear hb KS1 B5
          go_wp2_with fail
          refine (K2.out w6).mono ?_
          rintro e w7 ⟨vC, vL, rfl, h2, h3⟩
          have B7 := Lib.hid (B6.out.trans (h3.mono B6.out.size))
          obtain ⟨aC, cC, hvC, hAC⟩ := own_at h2.o1
          obtain ⟨aL, cL, hvL, hAL⟩ := own_at h2.o2
          subst hvC
          subst hvL
          have KN := gNormal w7.heap.size ⟨[1], [1], 2⟩ 1 aC aL cC cL (by decide) (by decide) w7 hAC hAL (Nat.le_refl _)
          rw [m2k] at KN
          have KN1 := Lib.hid KN
          clear KN h2 h3 hAC hAL K2 B6
          simp only []
          go_wp2_with fail
          refine (KN1.out).mono ?_
          rintro e w8 ⟨vC, vL, rfl, h2, h3⟩
          have B8 := Lib.hid (B7.out.trans (h3.mono B7.out.size))
          obtain ⟨bC, dC, hvC, hAC⟩ := own_at h2.o1
          obtain ⟨bL, dL, hvL, hAL⟩ := own_at h2.o2
          subst hvC
          subst hvL
          have KS := gShown w8.heap.size ⟨[], [], 1⟩ 0 bC bL dC dL (by decide) (by decide) w8 (HT.out.below B8.out) hAC hAL (Nat.le_refl _)
          rw [shown_of q5] at KS
          have KS1 := Lib.hid KS
          clear KS h2 h3 hAC hAL KN1 B7
          simp only []
          go_wp2_with fail
          refine (KS1.out).mono ?_
          rintro e w9 ⟨rfl, hb⟩
          have B9 := Lib.hid (B8.out.trans (hb.mono B8.out.size))
          clear hb KS1 B8
          go_wp2_with fail
          refine (K3.out w9).mono ?_
          rintro e wA ⟨vC, vL, rfl, h2, h3⟩
          have BA := Lib.hid (B9.out.trans (h3.mono B9.out.size))
          obtain ⟨aC, cC, hvC, hAC⟩ := own_at h2.o1
          obtain ⟨aL, cL, hvL, hAL⟩ := own_at h2.o2
          subst hvC
          subst hvL
          have KC := gCheck wA.heap.size ⟨[1], [3], 0⟩ 2 aC aL cC cL (by decide) (by decide) wA hAC hAL (Nat.le_refl _)
          rw [ck1] at KC
          have KC1 := Lib.hid KC
          clear KC h2 h3 hAC hAL K3 B9
          simp only []
          go_wp2_with fail
          refine (KC1.out).mono ?_
          rintro e wB ⟨rfl, hb⟩
          have BB := Lib.hid (BA.out.trans (hb.mono BA.out.size))
          clear hb KC1 BA
          go_wp2_with fail
          refine calls_gen fun wC hwC => ?_
          have BC := Lib.hid (show Below w.heap.size w wC by rw [hwC]; exact (BB.out.alloc BB.out.size _).alloc (by have := BB.out.size; simp; omega) _)
          have N1 := (show wC.heap[wB.heap.size]? = some (.cells #[.int .i64 1, .int .i64 2] 3 (0, 0)) by rw [hwC]; exact new_two1 _ _ _)
          have N2 := (show wC.heap[wB.heap.size + 1]? = some (.cells #[.int .i64 1] 3 (0, 0)) by rw [hwC]; exact new_two2 _ _ _)
          clear hwC
          have hA1 : AtN wC.heap.size wC (some ⟨wB.heap.size, 0, none⟩) (ints [1, 2]) := fun i v hi => ⟨wB.heap.size, 0, lt_of_heap N1, rfl, by rw [Nat.zero_add]; exact blk_cell N1 i (by simpa [ints] using hi)⟩
          have hA2 : AtN wC.heap.size wC (some ⟨wB.heap.size + 1, 0, none⟩) (ints [1]) := fun i v hi => ⟨wB.heap.size + 1, 0, lt_of_heap N2, rfl, by rw [Nat.zero_add]; exact blk_cell N2 i (by simpa [ints] using hi)⟩
          have KC := gCheck wC.heap.size ⟨[1, 2], [1], 0⟩ 2 (some ⟨wB.heap.size, 0, none⟩) (some ⟨wB.heap.size + 1, 0, none⟩) 2 1 (by decide) (by decide) wC hA1 hA2 (Nat.le_refl _)
          rw [ck2] at KC
          refine KC.mono ?_
          rintro e wD ⟨rfl, hb⟩
          have BD := Lib.hid (BC.out.trans (hb.mono BC.out.size))
          clear hb KC hA1 hA2 N1 N2 BC BB
          go_upto_region 16 with fail
          refine wp_game [3, 3, 0, 3, 2] [] B0 fin_B0 (has_B0 _) (by kernel_rfl) (by kernel_rfl) ?_
          refine lex_slice 65 (.cells (Array.replicate 65 (.int .i64 0)) 3) (by rfl) (fun x => by go_simp; rw [make65]; rfl) (fun g1 q1 hn1 => ?_)
          unfold setSlot
          go_big_quiet_step (fail)
          refine wpQuiet_nil ?_
          refine lex_slice 65 (.cells (Array.replicate 65 (.int .i64 0)) 3) (by rfl) (fun x => by go_simp; rw [make65]; rfl) (fun g2 q2 hn2 => ?_)
          unfold setSlot
          go_big_quiet_step (fail)
          refine wpQuiet_nil ?_
          refine lex_quietE 1 (by kernel_rfl) (by rfl) ?_
          apply Exists.intro
          refine ⟨fun z hz => ?_, ?_⟩
          · clear hz
            simp only [List.take_succ_cons, List.take_zero]
            unfold Cx
            repeat (go_big_quiet_step (fail))
            exact wpQuiet_nil rfl
          simp only [List.drop_succ_cons, List.drop_zero]
          refine lex_alloc (.agg #[.slice none 0 0, .slice none 0 0, .int .i64 0]) (by rfl) (fun x => by go_simp) (fun g3 q3 hn3 => ?_)
          unfold setSlot
          go_big_quiet_step (fail)
          refine wpQuiet_nil ?_
          refine lex_store_all g3 #[.slice (some ⟨g1, 0, none⟩) 65 65, .slice (some ⟨g2, 0, none⟩) 65 65, .int .i64 0] _ _ (by rfl) (by rfl) (by rfl) (Blocks.put_same _ _ _) (by rfl) (.inr q3) (by kernel_rfl) (by simp [Value.oneCell']) ?_
          refine lex_nil ?_
          intro wE hxE hH
          have n21 : g2 ≠ g1 := ne_of_put hn2
          have n32 : g3 ≠ g2 := ne_of_put hn3
          have n31 : g3 ≠ g1 := ne_of_put (none_of_put hn3)
          have N3 := Lib.hid (hH g3 _ (Blocks.put_same _ _ _))
          have N2 := (hH g2 _ ((Blocks.put_other _ _ (Ne.symm n32)).trans ((Blocks.put_other _ _ (Ne.symm n32)).trans (Blocks.put_same _ _ _))))
          have N1 := (hH g1 _ ((Blocks.put_other _ _ (Ne.symm n31)).trans ((Blocks.put_other _ _ (Ne.symm n31)).trans ((Blocks.put_other _ _ (Ne.symm n21)).trans (Blocks.put_same _ _ _)))))
          have BE := Lib.hid (BD.out.trans (hxE.below.mono BD.out.size))
          have hA1 := at65 N1
          have hA2 := at65 N2
          have KC1 := Lib.hid (gCheckFrom wE.heap.size ⟨List.replicate 65 0, List.replicate 65 0, 0⟩ 3 _ _ 65 65 (by decide) (by decide) wE hA1 hA2 (Nat.le_refl _))
          have KC2 := Lib.hid (gCheckFrom wE.heap.size ⟨List.replicate 65 0, List.replicate 65 0, 0⟩ 129 _ _ 65 65 (by decide) (by decide) wE hA1 hA2 (Nat.le_refl _))
          have KE1 := Lib.hid (gEvalFrom wE.heap.size ⟨List.replicate 65 0, List.replicate 65 0, 0⟩ 0 0 (by omega) (by omega) _ _ 65 65 (by decide) (by decide) wE hA1 hA2 (Nat.le_refl _))
          have KE2 := Lib.hid (gEvalFrom wE.heap.size ⟨[], [], 0⟩ 9 9 (by omega) (by omega) none none 0 0 (by decide) (by decide) wE (fun i v hi => by simp [ints] at hi) (fun i v hi => by simp [ints] at hi) (Nat.le_refl _))
          rw [ck3] at KC1
          rw [ck4] at KC2
          rw [ek1] at KE1
          rw [ek2] at KE2
          unfold sumV at KC1 KC2
          unfold sumV setV at KE1 KE2
          simp only [List.length_replicate, List.length_nil] at KC1 KC2 KE1 KE2
          clear hxE hH N1 N2 hA1 hA2 BD hn2 hn3 hn1
          have c0 := blk_cell N3.out 0 rfl
          have c1 := blk_cell N3.out 1 rfl
          have c2 := blk_cell N3.out 2 rfl
          go_wp2_with fail
          refine (KC1.out wE (Below.refl _ _)).mono ?_
          rintro e wF ⟨rfl, hb⟩
          have BF := Lib.hid hb
          have N4 := Lib.hid ((behind_of_below hb).keep N3.out (by simp))
          clear hb c0 c1 c2
          have c0 := blk_cell N4.out 0 rfl
          have c1 := blk_cell N4.out 1 rfl
          have c2 := blk_cell N4.out 2 rfl
          go_wp2_with fail
          refine (KC2.out wF BF.out).mono ?_
          rintro e wG ⟨rfl, hb⟩
          have BG := Lib.hid (BF.out.trans (hb.mono BF.out.size))
          have N5 := Lib.hid ((behind_of_below hb).keep N4.out (by simp))
          clear hb c0 c1 c2
          have c0 := blk_cell N5.out 0 rfl
          have c1 := blk_cell N5.out 1 rfl
          have c2 := blk_cell N5.out 2 rfl
          go_wp2_with fail
          refine (KE1.out wG BG.out).mono ?_
          rintro e wH ⟨rfl, hb⟩
          have BH := Lib.hid (BG.out.trans (hb.mono BG.out.size))
          clear hb c0 c1 c2
          go_wp2_with fail
          refine (KE2.out wH BH.out).mono ?_
          rintro e wI ⟨rfl, hb⟩
          have BI := Lib.hid (BE.out.trans ((BH.out.trans (hb.mono BH.out.size)).mono BE.out.size))
          clear hb
          go_wp2_with fail
          refine (KW.out wI BI.out).mono ?_
          rintro e wJ ⟨rfl, hb⟩
          have BJ := Lib.hid (BI.out.trans (hb.mono BI.out.size))
          clear hb
          go_wp2_with fail
          go_ret
          exact ⟨rfl, BJ.out⟩
end Go.Proofs.YtflfpkjnkeflcaaDoor
