/- Texts of this claim, joined: HX, HLp, HLk. -/
import Derived.Test.YtallcgpiecopcaaGreatDoorMB26
import Derived.Test.YtallcgpiecopcaaGreatDoorMB06
import Derived.Deep.DeepCutAuto
import Derived.Test.YtallcgpiecopcaaGreatDoorShelf
import Derived.Lib.Replace
import Derived.Lib.SplitLaws
import Derived.Lib.IndexBytes

/- works: the chapter's examples. -/
namespace Go.Proofs.YtallcgpiecopcaaGreatDoor
open Go.RowKit

def w1L : List UInt8 := [120, 49, 32, 38, 32, 33, 120, 50, 32, 124, 32, 120, 51]
def w2L : List UInt8 := [105, 102, 40, 120, 49, 44, 32, 120, 50, 41]
def wantG : List Gt := [⟨2, 1, []⟩, ⟨2, -2, []⟩, ⟨4, 0, [0, 1]⟩, ⟨2, 3, []⟩, ⟨5, 0, [2, 3]⟩]
theorem pw1 : parseI w1L 9 = (wantG, 0, 0) := by kernel_rfl
theorem pw2 : parseI w2L 9 = ([], 9, 5) := by kernel_rfl
theorem prw : printI 9 wantG = (w1L, 0) := by kernel_rfl
theorem fits_want : Fits wantG := fun g hg => by
  simp [wantG] at hg
  rcases hg with rfl | rfl | rfl | rfl | rfl <;> decide
theorem parse_at (l : List UInt8) (n : Int) (gs : List Gt) (q : Nat) (e : Int) (h : parseI l n = (gs, q, e)) (w : World) (hV : VarsI w) (hl : l.length ≤ 140737488355328) :
    Calls Tryz.prog 5 #[.string ⟨l.toArray⟩, .int .i64 n] w fun en w' => ∃ a d, en = .returned (.tuple #[.agg #[.int .i64 (if gs.length = 0 then 0 else n), .slice a gs.length d], .int .i64 (q : Nat), .int .i64 e]) ∧ CircAt w'.heap.size w' a gs ∧ Below w.heap.size w w' := by
  have := gParse l n w hV hl
  unfold ParseP at this
  rw [h] at this
  exact this
theorem four_at (w : World) (b1 b2 b3 b4 : Obj) : ((((w.alloc b1).alloc b2).alloc b3).alloc b4).heap[w.heap.size]? = some b1 ∧ ((((w.alloc b1).alloc b2).alloc b3).alloc b4).heap[w.heap.size + 1]? = some b2 ∧ ((((w.alloc b1).alloc b2).alloc b3).alloc b4).heap[w.heap.size + 1 + 1]? = some b3 ∧ ((((w.alloc b1).alloc b2).alloc b3).alloc b4).heap[w.heap.size + 1 + 1 + 1]? = some b4 ∧ Below w.heap.size w ((((w.alloc b1).alloc b2).alloc b3).alloc b4) := by
  obtain ⟨h1, h2, h3⟩ := three_at w b1 b2 b3
  have hs : (((w.alloc b1).alloc b2).alloc b3).heap.size = w.heap.size + 1 + 1 + 1 := by simp
  have hb := below_one (((w.alloc b1).alloc b2).alloc b3) b4
  have k := fun (g : Nat) (o : Obj) (h : (((w.alloc b1).alloc b2).alloc b3).heap[g]? = some o) => (behind_of_below hb).keep h (by simp)
  refine ⟨k _ _ h1, k _ _ h2, k _ _ h3, ?_, (three_below w b1 b2 b3).trans (hb.mono (by rw [hs]; omega))⟩
  have := new_one (((w.alloc b1).alloc b2).alloc b3) b4
  rwa [hs] at this

theorem at_nil {N : Nat} {w : World} {a : Option Addr} : AtN N w a (ints []) := fun i v hi => by simp [ints] at hi
theorem at_two {w : World} {g : Nat} {x y : Int} (h : w.heap[g]? = some (.cells #[.int .i64 x, .int .i64 y] 3 (0, 0))) : AtN w.heap.size w (some ⟨g, 0, none⟩) (ints [x, y]) := fun i v hi => by
  match i, hi with
  | 0, hi => simp [ints] at hi; subst hi; exact ⟨g, 0, lt_of_heap h, rfl, blk_cell h 0 rfl⟩
  | 1, hi => simp [ints] at hi; subst hi; exact ⟨g, 0, lt_of_heap h, rfl, blk_cell h 1 rfl⟩
  | i + 2, hi => simp [ints] at hi
theorem want_at {x : World} {g1 g2 g3 : Nat} (h1 : x.heap[g1]? = some (.cells #[.int .i64 0, .int .i64 1] 3 (0, 0))) (h2 : x.heap[g2]? = some (.cells #[.int .i64 2, .int .i64 3] 3 (0, 0)))
    (h3 : x.heap[g3]? = some (.cells #[.int .i64 2, .int .i64 1, .slice none 0 0, .int .i64 2, .int .i64 (-2), .slice none 0 0, .int .i64 4, .int .i64 0, .slice (some ⟨g1, 0, none⟩) 2 2, .int .i64 2, .int .i64 3, .slice none 0 0, .int .i64 5, .int .i64 0, .slice (some ⟨g2, 0, none⟩) 2 2] 34 (0, 0))) :
    CircAt x.heap.size x (some ⟨g3, 0, none⟩) wantG := fun i g hi => by
  have hl := lt_of_heap h3
  match i, hi with
  | 0, hi => simp [wantG] at hi; subst hi; exact ⟨g3, 0, none, 0, hl, rfl, blk_cell h3 0 rfl, blk_cell h3 1 rfl, blk_cell h3 2 rfl, at_nil⟩
  | 1, hi => simp [wantG] at hi; subst hi; exact ⟨g3, 0, none, 0, hl, rfl, blk_cell h3 3 rfl, blk_cell h3 4 rfl, blk_cell h3 5 rfl, at_nil⟩
  | 2, hi => simp [wantG] at hi; subst hi; exact ⟨g3, 0, some ⟨g1, 0, none⟩, 2, hl, rfl, blk_cell h3 6 rfl, blk_cell h3 7 rfl, blk_cell h3 8 rfl, at_two h1⟩
  | 3, hi => simp [wantG] at hi; subst hi; exact ⟨g3, 0, none, 0, hl, rfl, blk_cell h3 9 rfl, blk_cell h3 10 rfl, blk_cell h3 11 rfl, at_nil⟩
  | 4, hi => simp [wantG] at hi; subst hi; exact ⟨g3, 0, some ⟨g2, 0, none⟩, 2, hl, rfl, blk_cell h3 12 rfl, blk_cell h3 13 rfl, blk_cell h3 14 rfl, at_two h2⟩
  | i + 5, hi => simp [wantG] at hi

set_option maxHeartbeats 6400000 in
set_option maxRecDepth 100000 in
theorem gWorks (w : World) (hV : VarsI w) : Calls Tryz.prog 4 #[] w fun e w' => e = .returned (.bool true) ∧ Below w.heap.size w w' := by
  obtain ⟨Post, hPost⟩ : ∃ P : Ending → World → Prop, P = fun e w' => e = .returned (.bool true) ∧ Below w.heap.size w w' := ⟨_, rfl⟩
  rw [← hPost]
  have HP := Lib.hid hPost
  have HV := Lib.hid hV
  have K1 := parse_at w1L 9 wantG 0 0 pw1 w hV (by decide)
  rw [show (if wantG.length = 0 then (0 : Int) else 9) = 9 from rfl, show wantG.length = 5 from rfl, show (⟨w1L.toArray⟩ : ByteArray) = ⟨#[120, 49, 32, 38, 32, 33, 120, 50, 32, 124, 32, 120, 51]⟩ from rfl, show ((0 : Nat) : Int) = 0 from rfl] at K1
  clear hPost hV
  go_enter Tryz.func4, Tryz.ntmps4
  go_wp2_with fail
  refine K1.mono ?_
  rintro e w1 ⟨a1, d1, rfl, h1, h2⟩
  have HC1 := Lib.hid h1
  have HB1 := Lib.hid h2
  clear h1 h2 K1
  go_upto_region 2 with fail
  refine wp_gen ?_
  intro w2 hw2
  have HS2 := Lib.hid (show w2.heap[w1.heap.size]? = some (.cells #[.int .i64 9, .slice a1 5 d1] 25 (0, 0)) by rw [hw2]; exact new_one _ _)
  have hb2 : Below w1.heap.size w1 w2 := by rw [hw2]; exact below_one _ _
  have HB2 := Lib.hid (HB1.out.trans (hb2.mono HB1.out.size))
  have HC2 := Lib.hid (HC1.out.later hb2)
  clear hw2 hb2 HC1 HB1
  go_upto_region 3 with fail
  refine wp_gen ?_
  intro w3 hw3
  obtain ⟨e1, e2, e3, e4, hb3⟩ := four_at w2 (.cells #[.int .i64 0, .int .i64 1] 3 (0, 0)) (.cells #[.int .i64 2, .int .i64 3] 3 (0, 0)) (.cells #[.int .i64 2, .int .i64 1, .slice none 0 0, .int .i64 2, .int .i64 (-2), .slice none 0 0, .int .i64 4, .int .i64 0, .slice (some ⟨w2.heap.size, 0, none⟩) 2 2, .int .i64 2, .int .i64 3, .slice none 0 0, .int .i64 5, .int .i64 0, .slice (some ⟨w2.heap.size + 1, 0, none⟩) 2 2] 34 (0, 0)) (.cells #[.int .i64 9, .slice (some ⟨w2.heap.size + 1 + 1, 0, none⟩) 5 5] 25 (0, 0))
  rw [← hw3] at e1 e2 e3 e4 hb3
  have HW3 := Lib.hid (want_at e1 e2 e3)
  have HX3 := Lib.hid e4
  have HS3 := Lib.hid ((behind_of_below hb3).keep HS2.out (by simp))
  have HC3 := Lib.hid (HC2.out.later hb3)
  have HB3 := Lib.hid (HB2.out.trans (hb3.mono HB2.out.size))
  clear hw3 e1 e2 e3 e4 hb3 HC2 HS2 HB2
  have KP := gPrint 9 wantG (some ⟨w2.heap.size + 1 + 1, 0, none⟩) 5 w3 HW3.out fits_want (by decide) (HV.out.below HB3.out)
  rw [prw, show wantG.length = 5 from rfl] at KP
  have c0 := blk_cell HX3.out 0 rfl
  have c1 := blk_cell HX3.out 1 rfl
  go_wp2_with fail
  refine KP.mono ?_
  rintro e w4 ⟨rfl, hb4⟩
  have HW4 := Lib.hid (HW3.out.later hb4)
  have HX4 := Lib.hid ((behind_of_below hb4).keep HX3.out (by simp))
  have HS4 := Lib.hid ((behind_of_below hb4).keep HS3.out (by simp))
  have HC4 := Lib.hid (HC3.out.later hb4)
  have HB4 := Lib.hid (HB3.out.trans (hb4.mono HB3.out.size))
  clear hb4 KP c0 c1 HW3 HX3 HS3 HC3 HB3
  have K2 := parse_at w2L 9 [] 9 5 pw2 w4 (HV.out.below HB4.out) (by decide)
  rw [show (if ([] : List Gt).length = 0 then (0 : Int) else 9) = 0 from rfl, show ([] : List Gt).length = 0 from rfl, show (⟨w2L.toArray⟩ : ByteArray) = ⟨#[105, 102, 40, 120, 49, 44, 32, 120, 50, 41]⟩ from rfl, show ((9 : Nat) : Int) = 9 from rfl] at K2
  simp only []
  go_wp2_with fail
  refine K2.mono ?_
  rintro e w5 ⟨a5, d5, rfl, _, hb5⟩
  have HW5 := Lib.hid (HW4.out.later hb5)
  have HX5 := Lib.hid ((behind_of_below hb5).keep HX4.out (by simp))
  have HS5 := Lib.hid ((behind_of_below hb5).keep HS4.out (by simp))
  have HC5 := Lib.hid (HC4.out.later hb5)
  have HB5 := Lib.hid (HB4.out.trans (hb5.mono HB4.out.size))
  clear hb5 K2 HW4 HX4 HS4 HC4 HB4
  go_upto_region 5 with fail
  refine wp_gen ?_
  intro w6 hw6
  have hb6 : Below w5.heap.size w5 w6 := by rw [hw6]; exact below_one _ _
  have HW6 := Lib.hid (HW5.out.later hb6)
  have HX6 := Lib.hid ((behind_of_below hb6).keep HX5.out (by simp))
  have HS6 := Lib.hid ((behind_of_below hb6).keep HS5.out (by simp))
  have HC6 := Lib.hid (HC5.out.later hb6)
  have HB6 := Lib.hid (HB5.out.trans (hb6.mono HB5.out.size))
  clear hw6 hb6 HW5 HX5 HS5 HC5 HB5
  have KS := xSame7 9 wantG a1 (some ⟨w2.heap.size + 1 + 1, 0, none⟩) d1 5 w6 HC6.out HW6.out fits_want (by decide)
  rw [show wantG.length = 5 from rfl] at KS
  have c0 := blk_cell HX6.out 0 rfl
  have c1 := blk_cell HX6.out 1 rfl
  have s0 := blk_cell HS6.out 0 rfl
  have s1 := blk_cell HS6.out 1 rfl
  go_wp2_with fail
  refine KS.mono ?_
  rintro e w7 ⟨rfl, hb7⟩
  have HB7 := Lib.hid (HB6.out.trans (hb7.mono HB6.out.size))
  clear hb7 KS c0 c1 s0 s1
  go_wp2_with fail
  rw [HP.out]
  exact ⟨rfl, HB7.out⟩
end Go.Proofs.YtallcgpiecopcaaGreatDoor

/- The law: parentheses around a text. -/
namespace Go.Proofs.YtallcgpiecopcaaGreatDoor
open Go.RowKit

theorem parse_cases (l : List UInt8) (n : Int) : ((parseI l n).1 = [] ∧ (parseI l n).2.2 ≠ 0) ∨ ((parseI l n).2.1 = 0 ∧ (parseI l n).2.2 = 0 ∧ checkI n (parseI l n).1 = 0) := by
  unfold parseI
  split
  · exact .inl ⟨rfl, by simp⟩
  split
  · exact .inl ⟨rfl, by simp⟩
  split
  · rename_i r e he
    exact .inl ⟨rfl, readI_nz _ _ _ _ _ _ r e he⟩
  · split
    · exact .inl ⟨rfl, by simp⟩
    split
    · rename_i h; exact .inr ⟨rfl, rfl, h⟩
    · exact .inl ⟨rfl, by simp⟩
theorem check_fits {n : Int} {gs : List Gt} (h : checkI n gs = 0) : Fits gs ∧ gs.length ≤ 4096 ∧ gs.length ≠ 0 := by
  obtain ⟨_, _, h1, h2, h3, _⟩ := check_ok h
  exact ⟨fun g hg => by have := ins_size hg; omega, h1, fun e => h3 (List.length_eq_zero_iff.1 e)⟩
end Go.Proofs.YtallcgpiecopcaaGreatDoor

/- The law: more blanks. -/
namespace Go.Proofs.YtallcgpiecopcaaGreatDoor
open Go.RowKit

theorem index_one_ge (l : List UInt8) (c : UInt8) (h : 0 < l.count c) : ∃ i : Nat, Lib.index l [c] = i := Lib.index_of_count (by rw [Lib.count_one]; exact h)
theorem replK : ∀ (l : List UInt8), Lib.replaceK [32] [32, 32, 32] (l.count 32) l = repI l
  | [] => rfl
  | b :: l => by
    rw [repI_cons]
    by_cases hb : b = 32
    · subst hb
      rw [List.count_cons_self, Lib.replaceK_hit [32] [32, 32, 32] _ _ 0 (by rw [Lib.index_one]; rfl), if_pos rfl]
      simp only [List.take_zero, List.nil_append, List.length_singleton, Nat.zero_add, List.drop_succ_cons, List.drop_zero]
      rw [replK l]
    · rw [List.count_cons_of_ne (by simpa using hb), if_neg hb]
      have ih := replK l
      by_cases hc : 0 < l.count 32
      · obtain ⟨i, hi⟩ := index_one_ge l 32 hc
        obtain ⟨k, hk⟩ : ∃ k, l.count 32 = k + 1 := ⟨l.count 32 - 1, by omega⟩
        rw [hk] at ih ⊢
        have hi2 : Lib.index (b :: l) [32] = ((i + 1 : Nat) : Int) := by
          rw [Lib.index_one] at hi ⊢
          rw [Lib.indexByte, if_neg (by simpa using hb), hi, if_neg (by simp <;> omega)]
          first | done | omega | rfl
        rw [Lib.replaceK_hit _ _ _ _ _ hi2, ← ih, Lib.replaceK_hit _ _ _ _ _ hi]
        simp [Nat.add_right_comm]
      · rw [show l.count 32 = 0 by omega] at ih ⊢
        rw [← ih]
        rfl
theorem repl_all (l : List UInt8) : Lib.replaceAll l [32] [32, 32, 32] = repI l := by
  unfold Lib.replaceAll Lib.replace Lib.replaceNum
  rw [if_neg (by decide), if_pos (.inl (by decide)), Lib.count_one, replK]
theorem countB_one (l : List UInt8) : Lib.countB ⟨l.toArray⟩ ⟨#[32]⟩ ≤ l.length := by
  have h : Lib.countB ⟨l.toArray⟩ ⟨#[32]⟩ = Lib.count l [32] := rfl
  rw [h, Lib.count_one]
  exact List.count_le_length

set_option maxHeartbeats 6400000 in
set_option maxRecDepth 100000 in
theorem blanks_law (l : List UInt8) (n : Int) (w : World) (hV : VarsI w) (hM : ∃ m, w.cell? ⟨0, 0, none⟩ = some (.int .i64 m)) (hl9 : l.length ≤ 9223372036854775807) : Calls Tryz.prog 3 #[.string ⟨l.toArray⟩, .int .i64 n] w fun e w' => e = .returned (.bool true) ∧ Below w.heap.size w w' := by
  obtain ⟨Post, hPost⟩ : ∃ P : Ending → World → Prop, P = fun e w' => e = .returned (.bool true) ∧ Below w.heap.size w w' := ⟨_, rfl⟩
  rw [← hPost]
  have HP := Lib.hid hPost
  have HV := Lib.hid hV
  have KW := Lib.hid (fun w1 (h : Below w.heap.size w w1) => gWorks w1 (hV.below h))
  have hsz := ba_size l
  obtain ⟨m, hm⟩ := hM
  have hm0 := block_lt_of_cell hm
  have HM := Lib.hid (fun w1 (h : Below w.heap.size w w1) => show w1.cell? ⟨0, 0, none⟩ = some (.int .i64 m) from below_cell h hm0 hm)
  clear hm hm0
  have hr := repl_all l
  have hrl : (repI l).length ≤ 3 * l.length := by
    have h5 : ∀ x : List UInt8, (repI x).length ≤ 3 * x.length := fun x => by
      induction x with
      | nil => simp [repI]
      | cons d x ih => rw [repI_cons]; split <;> simp <;> omega
    exact h5 l
  by_cases hbig : 3000 < l.length
  · obtain ⟨s, hs⟩ : ∃ s : ByteArray, s = ⟨l.toArray⟩ := ⟨_, rfl⟩
    rw [← hs] at hsz ⊢
    have hd : decide ((3000 : Int) < (l.length : Int)) = true := decide_eq_true (by omega)
    have hd2 : decide (3000 < l.length) = true := decide_eq_true (by omega)
    clear hPost hV hs hbig hr hrl
    go_enter Tryz.func3, Tryz.ntmps3
    go_wp2_with fail
    refine (KW.out w (Below.refl _ _)).mono ?_
    rintro e w1 ⟨rfl, hb⟩
    have HB := Lib.hid hb
    clear hb
    go_wp2_with fail
    rw [HP.out]
    exact ⟨rfl, HB.out⟩
  have hd : decide ((3000 : Int) < (l.length : Int)) = false := decide_eq_false (by omega)
  have hd2 : decide (3000 < l.length) = false := decide_eq_false (by omega)
  have KR := Lib.hid (show ∀ w1 : World, Below w.heap.size w w1 → Calls Tryz.prog 6 #[.string ⟨l.toArray⟩, .string ⟨#[32]⟩, .string ⟨#[32, 32, 32]⟩] w1 fun e w' => e = .returned (.string ⟨(repI l).toArray⟩) ∧ Below w1.heap.size w1 w' from fun w1 h => by
    refine (Tryz.strings_ReplaceAll ⟨l.toArray⟩ ⟨#[32]⟩ ⟨#[32, 32, 32]⟩ m w1 (by rw [hsz]; omega) (HM.out w1 h) (by decide) (by
      have := countB_one l
      rw [hsz]
      show l.length + Lib.countB ⟨l.toArray⟩ ⟨#[32]⟩ * 3 ≤ _
      omega)).mono ?_
    rintro e w' ⟨rfl, hb⟩
    refine ⟨?_, hb⟩
    show Ending.returned (.string ⟨(Lib.replaceAll l [32] [32, 32, 32]).toArray⟩) = _
    rw [hr])
  obtain ⟨s, hs⟩ : ∃ s : ByteArray, s = ⟨l.toArray⟩ := ⟨_, rfl⟩
  obtain ⟨r, hrr⟩ : ∃ s : ByteArray, s = ⟨(repI l).toArray⟩ := ⟨_, rfl⟩
  have hrs : r.size = (repI l).length := by rw [hrr]; exact ba_size _
  obtain ⟨z1, hz1⟩ : ∃ z : ByteArray, z = (⟨#[32, 32]⟩ : ByteArray) ++ r := ⟨_, rfl⟩
  obtain ⟨z2, hz2⟩ : ∃ z : ByteArray, z = z1 ++ (⟨#[32]⟩ : ByteArray) := ⟨_, rfl⟩
  have hzs : z1.size = 2 + r.size := by rw [hz1, ByteArray.size_append]; rfl
  have ha1 : ∀ x, (Op.stringOp .add (⟨#[32, 32]⟩ : ByteArray) r).run Tryz.prog x = .ok (.string z1) x := fun x => by rw [hz1]; exact run_string_add_sum x _ _ (by show 2 + r.size ≤ _; omega)
  have ha2 : ∀ x, (Op.stringOp .add z1 ⟨#[32]⟩).run Tryz.prog x = .ok (.string z2) x := fun x => by rw [hz2]; exact run_string_add_sum x _ _ (by show z1.size + 1 ≤ _; omega)
  have hZ2 : z2 = ⟨([32, 32] ++ repI l ++ [32]).toArray⟩ := by
    rw [hz2, hz1, hrr]
    rw [show (⟨#[32, 32]⟩ : ByteArray) = ⟨([32, 32] : List UInt8).toArray⟩ from rfl, show (⟨#[32]⟩ : ByteArray) = ⟨([32] : List UInt8).toArray⟩ from rfl, ba_app, ba_app]
  have hzl : ([32, 32] ++ repI l ++ [32]).length ≤ 140737488355328 := by simp; omega
  have hpb := parse_blanks l n (by omega)
  have hpc := parse_cases l n
  have K1 := gParse l n w hV (by omega)
  have K2 := fun w1 (h : Below w.heap.size w w1) => gParse ([32, 32] ++ repI l ++ [32]) n w1 (HV.out.below h) hzl
  unfold ParseP at K1 K2
  rw [hpb.1, hpb.2] at K2
  rw [← hs] at K1 KR hsz ⊢
  rw [← hZ2] at K2
  rw [← hrr] at KR
  have HFI := Lib.hid (show Fits (parseI l n).1 ∧ (parseI l n).1.length ≤ 4096 from hpc.elim (fun h => by rw [h.1]; exact ⟨fun g hg => by simp at hg, by simp⟩) (fun h => ⟨(check_fits h.2.2).1, (check_fits h.2.2).2.1⟩))
  have HK1 := Lib.hid K1
  have HK2 := Lib.hid K2
  clear K1 K2 hZ2 hz1 hz2 hzs hrr hrs hs hpb hpc hPost hV hr hrl hzl hbig
  generalize (parseI l n).1 = gs at *
  generalize (parseI l n).2.1 = q at *
  generalize (parseI l n).2.2 = er at *
  generalize (parseI ([32, 32] ++ repI l ++ [32]) n).2.1 = q2 at *
  generalize (if gs.length = 0 then (0 : Int) else n) = n' at *
  go_enter Tryz.func3, Tryz.ntmps3
  go_wp2_with fail
  refine HK1.out.mono ?_
  rintro e w1 ⟨a1, d1, rfl, hC1, hb1⟩
  have HC1 := Lib.hid hC1
  have HB1 := Lib.hid hb1
  clear hC1 hb1
  go_upto_region 4 with fail
  refine wp_gen ?_
  intro w2 hw2
  have HS2 := Lib.hid (show w2.heap[w1.heap.size]? = some (.cells #[.int .i64 n', .slice a1 gs.length d1] 25 (0, 0)) by rw [hw2]; exact new_one _ _)
  have hb2 : Below w1.heap.size w1 w2 := by rw [hw2]; exact below_one _ _
  have HB2 := Lib.hid (HB1.out.trans (hb2.mono HB1.out.size))
  have HC2 := Lib.hid (HC1.out.later hb2)
  clear hw2 hb2 HC1 HB1
  go_wp2_with fail
  refine (KR.out w2 HB2.out).mono ?_
  rintro e w3 ⟨rfl, hb3⟩
  have HA3 := Lib.hid (HC2.out.later hb3)
  have HS3 := Lib.hid ((behind_of_below hb3).keep HS2.out (by simp))
  have HB3 := Lib.hid (HB2.out.trans (hb3.mono HB2.out.size))
  clear hb3 HC2 HS2 HB2
  go_wp2_with fail
  refine (HK2.out w3 HB3.out).mono ?_
  rintro e w4 ⟨a4, d4, rfl, hC4, hb4⟩
  have HC4 := Lib.hid hC4
  have HA4 := Lib.hid (HA3.out.later hb4)
  have HS4 := Lib.hid ((behind_of_below hb4).keep HS3.out (by simp))
  have HB4 := Lib.hid (HB3.out.trans (hb4.mono HB3.out.size))
  clear hC4 hb4 HA3 HS3 HB3
  go_upto_region 5 with fail
  refine wp_gen ?_
  intro w5 hw5
  have HT5 := Lib.hid (show w5.heap[w4.heap.size]? = some (.cells #[.int .i64 n', .slice a4 gs.length d4] 25 (0, 0)) by rw [hw5]; exact new_one _ _)
  have hb5 : Below w4.heap.size w4 w5 := by rw [hw5]; exact below_one _ _
  have HA5 := Lib.hid (HA4.out.later hb5)
  have HC5 := Lib.hid (HC4.out.later hb5)
  have HS5 := Lib.hid ((behind_of_below hb5).keep HS4.out (by simp))
  have HB5 := Lib.hid (HB4.out.trans (hb5.mono HB4.out.size))
  clear hw5 hb5 HA4 HC4 HS4 HB4
  have KS := xSame7 n' gs a1 a4 d1 d4 w5 HA5.out HC5.out HFI.out.1 (by have := HFI.out.2; omega)
  have c0 := blk_cell HT5.out 0 rfl
  have c1 := blk_cell HT5.out 1 rfl
  have s0 := blk_cell HS5.out 0 rfl
  have s1 := blk_cell HS5.out 1 rfl
  go_wp2_with fail
  refine KS.mono ?_
  rintro e w6 ⟨rfl, hb6⟩
  have HB6 := Lib.hid (HB5.out.trans (hb6.mono HB5.out.size))
  clear hb6 KS c0 c1 s0 s1
  go_wp2_with fail
  refine (KW.out w6 HB6.out).mono ?_
  rintro e w7 ⟨rfl, hb7⟩
  have HB7 := Lib.hid (HB6.out.trans (hb7.mono HB6.out.size))
  clear hb7
  go_wp2_with fail
  rw [HP.out]
  exact ⟨rfl, HB7.out⟩
end Go.Proofs.YtallcgpiecopcaaGreatDoor
