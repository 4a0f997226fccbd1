/- Texts of this claim, joined: HX, HLp, HLo, HR1. -/
import Derived.Test.YtallcgpiecopcaaDoorMI27
import Derived.Test.YtallcgpiecopcaaDoorMI09
import Derived.Deep.DeepCutAuto

/- works: the chapter's examples. -/
namespace Go.Proofs.YtallcgpiecopcaaDoor
open Go.RowKit

def w1L : List UInt8 := [120, 49, 32, 38, 32, 33, 120, 50, 32, 124, 32, 120, 51]
def w2L : List UInt8 := [105, 102, 40, 120, 49, 44, 32, 120, 50, 41]
def wantG : List Gt := [⟨2, 1, []⟩, ⟨2, -2, []⟩, ⟨4, 0, [0, 1]⟩, ⟨2, 3, []⟩, ⟨5, 0, [2, 3]⟩]
theorem pw1 : parseI w1L 9 = (wantG, 0, 0) := by kernel_rfl
theorem pw2 : parseI w2L 9 = ([], 9, 5) := by kernel_rfl
theorem prw : printI 9 wantG = (w1L, 0) := by kernel_rfl
theorem fits_want : Fits wantG := fun g hg => by
  simp [wantG] at hg
  rcases hg with rfl | rfl | rfl | rfl | rfl <;> decide
theorem parse_at (l : List UInt8) (n : Int) (gs : List Gt) (q : Nat) (e : Int) (h : parseI l n = (gs, q, e)) (w : World) (hV : VarsI w) (hl : l.length ≤ 140737488355328) :
    Calls Tryd.prog 14 #[.string ⟨l.toArray⟩, .int .i64 n] w fun en w' => ∃ a d, en = .returned (.tuple #[.agg #[.int .i64 (if gs.length = 0 then 0 else n), .slice a gs.length d], .int .i64 (q : Nat), .int .i64 e]) ∧ CircAt w'.heap.size w' a gs ∧ Below w.heap.size w w' := by
  have := gParse l n w hV hl
  unfold ParseP at this
  rw [h] at this
  exact this
theorem four_at (w : World) (b1 b2 b3 b4 : Obj) : ((((w.alloc b1).alloc b2).alloc b3).alloc b4).heap[w.heap.size]? = some b1 ∧ ((((w.alloc b1).alloc b2).alloc b3).alloc b4).heap[w.heap.size + 1]? = some b2 ∧ ((((w.alloc b1).alloc b2).alloc b3).alloc b4).heap[w.heap.size + 1 + 1]? = some b3 ∧ ((((w.alloc b1).alloc b2).alloc b3).alloc b4).heap[w.heap.size + 1 + 1 + 1]? = some b4 ∧ Below w.heap.size w ((((w.alloc b1).alloc b2).alloc b3).alloc b4) := by
  obtain ⟨h1, h2, h3⟩ := three_at w b1 b2 b3
  have hs : (((w.alloc b1).alloc b2).alloc b3).heap.size = w.heap.size + 1 + 1 + 1 := by simp
  have hb := below_one (((w.alloc b1).alloc b2).alloc b3) b4
  have k := fun (g : Nat) (o : Obj) (h : (((w.alloc b1).alloc b2).alloc b3).heap[g]? = some o) => (behind_of_below hb).keep h (by simp)
  refine ⟨k _ _ h1, k _ _ h2, k _ _ h3, ?_, (three_below w b1 b2 b3).trans (hb.mono (by rw [hs]; omega))⟩
  have := new_one (((w.alloc b1).alloc b2).alloc b3) b4
  rwa [hs] at this

theorem at_nil {N : Nat} {w : World} {a : Option Addr} : AtN N w a (ints []) := fun i v hi => by simp [ints] at hi
theorem at_two {w : World} {g : Nat} {x y : Int} (h : w.heap[g]? = some (.cells #[.int .i64 x, .int .i64 y] 3 (0, 0))) : AtN w.heap.size w (some ⟨g, 0, none⟩) (ints [x, y]) := fun i v hi => by
  match i, hi with
  | 0, hi => simp [ints] at hi; subst hi; exact ⟨g, 0, lt_of_heap h, rfl, blk_cell h 0 rfl⟩
  | 1, hi => simp [ints] at hi; subst hi; exact ⟨g, 0, lt_of_heap h, rfl, blk_cell h 1 rfl⟩
  | i + 2, hi => simp [ints] at hi
theorem want_at {x : World} {g1 g2 g3 : Nat} (h1 : x.heap[g1]? = some (.cells #[.int .i64 0, .int .i64 1] 3 (0, 0))) (h2 : x.heap[g2]? = some (.cells #[.int .i64 2, .int .i64 3] 3 (0, 0)))
    (h3 : x.heap[g3]? = some (.cells #[.int .i64 2, .int .i64 1, .slice none 0 0, .int .i64 2, .int .i64 (-2), .slice none 0 0, .int .i64 4, .int .i64 0, .slice (some ⟨g1, 0, none⟩) 2 2, .int .i64 2, .int .i64 3, .slice none 0 0, .int .i64 5, .int .i64 0, .slice (some ⟨g2, 0, none⟩) 2 2] 46 (0, 0))) :
    CircAt x.heap.size x (some ⟨g3, 0, none⟩) wantG := fun i g hi => by
  have hl := lt_of_heap h3
  match i, hi with
  | 0, hi => simp [wantG] at hi; subst hi; exact ⟨g3, 0, none, 0, hl, rfl, blk_cell h3 0 rfl, blk_cell h3 1 rfl, blk_cell h3 2 rfl, at_nil⟩
  | 1, hi => simp [wantG] at hi; subst hi; exact ⟨g3, 0, none, 0, hl, rfl, blk_cell h3 3 rfl, blk_cell h3 4 rfl, blk_cell h3 5 rfl, at_nil⟩
  | 2, hi => simp [wantG] at hi; subst hi; exact ⟨g3, 0, some ⟨g1, 0, none⟩, 2, hl, rfl, blk_cell h3 6 rfl, blk_cell h3 7 rfl, blk_cell h3 8 rfl, at_two h1⟩
  | 3, hi => simp [wantG] at hi; subst hi; exact ⟨g3, 0, none, 0, hl, rfl, blk_cell h3 9 rfl, blk_cell h3 10 rfl, blk_cell h3 11 rfl, at_nil⟩
  | 4, hi => simp [wantG] at hi; subst hi; exact ⟨g3, 0, some ⟨g2, 0, none⟩, 2, hl, rfl, blk_cell h3 12 rfl, blk_cell h3 13 rfl, blk_cell h3 14 rfl, at_two h2⟩
  | i + 5, hi => simp [wantG] at hi

set_option maxHeartbeats 6400000 in
set_option maxRecDepth 100000 in
theorem gWorks (w : World) (hV : VarsI w) : Calls Tryd.prog 11 #[] w fun e w' => e = .returned (.bool true) ∧ Below w.heap.size w w' := by
  obtain ⟨Post, hPost⟩ : ∃ P : Ending → World → Prop, P = fun e w' => e = .returned (.bool true) ∧ Below w.heap.size w w' := ⟨_, rfl⟩
  rw [← hPost]
  have HP := Lib.hid hPost
  have HV := Lib.hid hV
  have K1 := parse_at w1L 9 wantG 0 0 pw1 w hV (by decide)
  rw [show (if wantG.length = 0 then (0 : Int) else 9) = 9 from rfl, show wantG.length = 5 from rfl, show (⟨w1L.toArray⟩ : ByteArray) = ⟨#[120, 49, 32, 38, 32, 33, 120, 50, 32, 124, 32, 120, 51]⟩ from rfl, show ((0 : Nat) : Int) = 0 from rfl] at K1
  clear hPost hV
  go_enter Tryd.func11, Tryd.ntmps11
  go_wp2_with fail
  refine K1.mono ?_
  rintro e w1 ⟨a1, d1, rfl, h1, h2⟩
  have HC1 := Lib.hid h1
  have HB1 := Lib.hid h2
  clear h1 h2 K1
  go_upto_region 2 with fail
  refine wp_gen ?_
  intro w2 hw2
  have HS2 := Lib.hid (show w2.heap[w1.heap.size]? = some (.cells #[.int .i64 9, .slice a1 5 d1] 24 (0, 0)) by rw [hw2]; exact new_one _ _)
  have hb2 : Below w1.heap.size w1 w2 := by rw [hw2]; exact below_one _ _
  have HB2 := Lib.hid (HB1.out.trans (hb2.mono HB1.out.size))
  have HC2 := Lib.hid (HC1.out.later hb2)
  clear hw2 hb2 HC1 HB1
  go_upto_region 3 with fail
  refine wp_gen ?_
  intro w3 hw3
  obtain ⟨e1, e2, e3, e4, hb3⟩ := four_at w2 (.cells #[.int .i64 0, .int .i64 1] 3 (0, 0)) (.cells #[.int .i64 2, .int .i64 3] 3 (0, 0)) (.cells #[.int .i64 2, .int .i64 1, .slice none 0 0, .int .i64 2, .int .i64 (-2), .slice none 0 0, .int .i64 4, .int .i64 0, .slice (some ⟨w2.heap.size, 0, none⟩) 2 2, .int .i64 2, .int .i64 3, .slice none 0 0, .int .i64 5, .int .i64 0, .slice (some ⟨w2.heap.size + 1, 0, none⟩) 2 2] 46 (0, 0)) (.cells #[.int .i64 9, .slice (some ⟨w2.heap.size + 1 + 1, 0, none⟩) 5 5] 24 (0, 0))
  rw [← hw3] at e1 e2 e3 e4 hb3
  have HW3 := Lib.hid (want_at e1 e2 e3)
  have HX3 := Lib.hid e4
  have HS3 := Lib.hid ((behind_of_below hb3).keep HS2.out (by simp))
  have HC3 := Lib.hid (HC2.out.later hb3)
  have HB3 := Lib.hid (HB2.out.trans (hb3.mono HB2.out.size))
  clear hw3 e1 e2 e3 e4 hb3 HC2 HS2 HB2
  have KP := gPrint 9 wantG (some ⟨w2.heap.size + 1 + 1, 0, none⟩) 5 w3 HW3.out fits_want (by decide) (HV.out.below HB3.out)
  rw [prw, show wantG.length = 5 from rfl] at KP
  have c0 := blk_cell HX3.out 0 rfl
  have c1 := blk_cell HX3.out 1 rfl
  go_wp2_with fail
  refine KP.mono ?_
  rintro e w4 ⟨rfl, hb4⟩
  have HW4 := Lib.hid (HW3.out.later hb4)
  have HX4 := Lib.hid ((behind_of_below hb4).keep HX3.out (by simp))
  have HS4 := Lib.hid ((behind_of_below hb4).keep HS3.out (by simp))
  have HC4 := Lib.hid (HC3.out.later hb4)
  have HB4 := Lib.hid (HB3.out.trans (hb4.mono HB3.out.size))
  clear hb4 KP c0 c1 HW3 HX3 HS3 HC3 HB3
  have K2 := parse_at w2L 9 [] 9 5 pw2 w4 (HV.out.below HB4.out) (by decide)
  rw [show (if ([] : List Gt).length = 0 then (0 : Int) else 9) = 0 from rfl, show ([] : List Gt).length = 0 from rfl, show (⟨w2L.toArray⟩ : ByteArray) = ⟨#[105, 102, 40, 120, 49, 44, 32, 120, 50, 41]⟩ from rfl, show ((9 : Nat) : Int) = 9 from rfl] at K2
  simp only []
  go_wp2_with fail
  refine K2.mono ?_
  rintro e w5 ⟨a5, d5, rfl, _, hb5⟩
  have HW5 := Lib.hid (HW4.out.later hb5)
  have HX5 := Lib.hid ((behind_of_below hb5).keep HX4.out (by simp))
  have HS5 := Lib.hid ((behind_of_below hb5).keep HS4.out (by simp))
  have HC5 := Lib.hid (HC4.out.later hb5)
  have HB5 := Lib.hid (HB4.out.trans (hb5.mono HB4.out.size))
  clear hb5 K2 HW4 HX4 HS4 HC4 HB4
  go_upto_region 5 with fail
  refine wp_gen ?_
  intro w6 hw6
  have hb6 : Below w5.heap.size w5 w6 := by rw [hw6]; exact below_one _ _
  have HW6 := Lib.hid (HW5.out.later hb6)
  have HX6 := Lib.hid ((behind_of_below hb6).keep HX5.out (by simp))
  have HS6 := Lib.hid ((behind_of_below hb6).keep HS5.out (by simp))
  have HC6 := Lib.hid (HC5.out.later hb6)
  have HB6 := Lib.hid (HB5.out.trans (hb6.mono HB5.out.size))
  clear hw6 hb6 HW5 HX5 HS5 HC5 HB5
  have KS := xSame7 9 wantG a1 (some ⟨w2.heap.size + 1 + 1, 0, none⟩) d1 5 w6 HC6.out HW6.out fits_want (by decide)
  rw [show wantG.length = 5 from rfl] at KS
  have c0 := blk_cell HX6.out 0 rfl
  have c1 := blk_cell HX6.out 1 rfl
  have s0 := blk_cell HS6.out 0 rfl
  have s1 := blk_cell HS6.out 1 rfl
  go_wp2_with fail
  refine KS.mono ?_
  rintro e w7 ⟨rfl, hb7⟩
  have HB7 := Lib.hid (HB6.out.trans (hb7.mono HB6.out.size))
  clear hb7 KS c0 c1 s0 s1
  go_wp2_with fail
  rw [HP.out]
  exact ⟨rfl, HB7.out⟩
end Go.Proofs.YtallcgpiecopcaaDoor

/- The law: parentheses around a text. -/
namespace Go.Proofs.YtallcgpiecopcaaDoor
open Go.RowKit

theorem parse_cases (l : List UInt8) (n : Int) : ((parseI l n).1 = [] ∧ (parseI l n).2.2 ≠ 0) ∨ ((parseI l n).2.1 = 0 ∧ (parseI l n).2.2 = 0 ∧ checkI n (parseI l n).1 = 0) := by
  unfold parseI
  split
  · exact .inl ⟨rfl, by simp⟩
  split
  · exact .inl ⟨rfl, by simp⟩
  split
  · rename_i r e he
    exact .inl ⟨rfl, readI_nz _ _ _ _ _ _ r e he⟩
  · split
    · exact .inl ⟨rfl, by simp⟩
    split
    · rename_i h; exact .inr ⟨rfl, rfl, h⟩
    · exact .inl ⟨rfl, by simp⟩
theorem check_fits {n : Int} {gs : List Gt} (h : checkI n gs = 0) : Fits gs ∧ gs.length ≤ 4096 ∧ gs.length ≠ 0 := by
  obtain ⟨_, _, h1, h2, h3, _⟩ := check_ok h
  exact ⟨fun g hg => by have := ins_size hg; omega, h1, fun e => h3 (List.length_eq_zero_iff.1 e)⟩
theorem parse_bad (l : List UInt8) (n : Int) (h : (parseI l n).2.2 ≠ 0) (w : World) (hV : VarsI w) (hl : l.length ≤ 140737488355328) :
    Calls Tryd.prog 14 #[.string ⟨l.toArray⟩, .int .i64 n] w fun en w' => ∃ a d, en = .returned (.tuple #[.agg #[.int .i64 0, .slice a 0 d], .int .i64 (parseI l n).2.1, .int .i64 (parseI l n).2.2]) ∧ Below w.heap.size w w' := by
  have hc := parse_cases l n
  have he : (parseI l n).1 = [] := hc.elim (fun h => h.1) (fun k => absurd k.2.1 h)
  refine (gParse l n w hV hl).mono ?_
  rintro e w' ⟨a, d, rfl, _, hb⟩
  rw [he]
  exact ⟨a, d, rfl, hb⟩
theorem parse_good (l : List UInt8) (n : Int) (h : (parseI l n).2.2 = 0) (w : World) (hV : VarsI w) (hl : l.length ≤ 140737488355328) :
    checkI n (parseI l n).1 = 0 ∧ Calls Tryd.prog 14 #[.string ⟨l.toArray⟩, .int .i64 n] w fun en w' => ∃ a d, en = .returned (.tuple #[.agg #[.int .i64 n, .slice a (parseI l n).1.length d], .int .i64 0, .int .i64 0]) ∧ CircAt w'.heap.size w' a (parseI l n).1 ∧ Below w.heap.size w w' := by
  have hc := parse_cases l n
  obtain ⟨h1, h2, h3⟩ : (parseI l n).2.1 = 0 ∧ (parseI l n).2.2 = 0 ∧ checkI n (parseI l n).1 = 0 := hc.elim (fun k => absurd h k.2) id
  refine ⟨h3, (gParse l n w hV hl).mono ?_⟩
  rintro e w' ⟨a, d, rfl, hC, hb⟩
  rw [if_neg (check_fits h3).2.2, h1, h2]
  exact ⟨a, d, rfl, hC, hb⟩

set_option maxHeartbeats 6400000 in
set_option maxRecDepth 100000 in
theorem parens_law (l : List UInt8) (n : Int) (w : World) (hV : VarsI w) (hl9 : l.length ≤ 9223372036854775807) : Calls Tryd.prog 7 #[.string ⟨l.toArray⟩, .int .i64 n] w fun e w' => e = .returned (.bool true) ∧ Below w.heap.size w w' := by
  obtain ⟨Post, hPost⟩ : ∃ P : Ending → World → Prop, P = fun e w' => e = .returned (.bool true) ∧ Below w.heap.size w w' := ⟨_, rfl⟩
  rw [← hPost]
  have HP := Lib.hid hPost
  have HV := Lib.hid hV
  have KW := Lib.hid (fun w1 (h : Below w.heap.size w w1) => gWorks w1 (hV.below h))
  have hsz := ba_size l
  obtain ⟨s, hs⟩ : ∃ s : ByteArray, s = ⟨l.toArray⟩ := ⟨_, rfl⟩
  rw [← hs] at hsz ⊢
  by_cases hbig : 3000 < l.length
  · have hd : decide ((3000 : Int) < (l.length : Int)) = true := decide_eq_true (by omega)
    have hd2 : decide (3000 < l.length) = true := decide_eq_true (by omega)
    clear hPost hV hs hbig
    go_enter Tryd.func7, Tryd.ntmps7
    go_wp2_with fail
    refine (KW.out w (Below.refl _ _)).mono ?_
    rintro e w1 ⟨rfl, hb⟩
    have HB := Lib.hid hb
    clear hb
    go_wp2_with fail
    rw [HP.out]
    exact ⟨rfl, HB.out⟩
  have hd : decide ((3000 : Int) < (l.length : Int)) = false := decide_eq_false (by omega)
  have hd2 : decide (3000 < l.length) = false := decide_eq_false (by omega)
  obtain ⟨z1, hz1⟩ : ∃ z : ByteArray, z = (⟨#[40]⟩ : ByteArray) ++ s := ⟨_, rfl⟩
  obtain ⟨z2, hz2⟩ : ∃ z : ByteArray, z = z1 ++ (⟨#[41]⟩ : ByteArray) := ⟨_, rfl⟩
  have hzs : z1.size = 1 + s.size := by rw [hz1, ByteArray.size_append]; rfl
  have ha1 : ∀ x, (Op.stringOp .add (⟨#[40]⟩ : ByteArray) s).run Tryd.prog x = .ok (.string z1) x := fun x => by rw [hz1]; exact run_string_add_sum x _ _ (by show 1 + s.size ≤ _; omega)
  have ha2 : ∀ x, (Op.stringOp .add z1 ⟨#[41]⟩).run Tryd.prog x = .ok (.string z2) x := fun x => by rw [hz2]; exact run_string_add_sum x _ _ (by show z1.size + 1 ≤ _; omega)
  have hZ2 : z2 = ⟨([40] ++ l ++ [41]).toArray⟩ := by
    rw [hz2, hz1, hs]
    rw [show (⟨#[40]⟩ : ByteArray) = ⟨([40] : List UInt8).toArray⟩ from rfl, show (⟨#[41]⟩ : ByteArray) = ⟨([41] : List UInt8).toArray⟩ from rfl, ba_app, ba_app]
  have hpp := parse_parens l n (by omega)
  have hzl : ([40] ++ l ++ [41]).length ≤ 140737488355328 := by simp; omega
  by_cases h0 : (parseI l n).2.2 = 0
  · have KG := parse_good l n h0
    rw [← hs] at KG
    have hpp2 := hpp (parseI l n).1 (parseI l n).2.1 (by rw [← h0])
    have hchk := (KG w hV (by omega)).1
    obtain ⟨hfit, hlen, _⟩ := check_fits hchk
    have HK1 := Lib.hid ((KG w hV (by omega)).2)
    have HF := Lib.hid hfit
    obtain ⟨g, hg⟩ : ∃ g, g = (parseI l n).1 := ⟨_, rfl⟩
    rw [← hg] at HK1 HF hpp2 hlen
    clear KG hpp hchk hfit hg hzs hz1 hz2 hs
    have HZ2 := Lib.hid hZ2
    rcases hpp2 with hq | ⟨q, hq⟩
    · have h0' : (parseI ([40] ++ l ++ [41]) n).2.2 = 0 := by rw [hq]
      have K2 := fun w1 (h : Below w.heap.size w w1) => (parse_good _ n h0' w1 (HV.out.below h) hzl).2
      rw [hq, ← hZ2] at K2
      have HK2 := Lib.hid K2
      clear K2 hq h0' hZ2 hPost hV h0
      go_enter Tryd.func7, Tryd.ntmps7
      go_wp2_with fail
      refine HK1.out.mono ?_
      rintro e w1 ⟨a1, d1, rfl, hC1, hb1⟩
      have HC1 := Lib.hid hC1
      have HB1 := Lib.hid hb1
      clear hC1 hb1
      go_upto_region 4 with fail
      refine wp_gen ?_
      intro w2 hw2
      have HS2 := Lib.hid (show w2.heap[w1.heap.size]? = some (.cells #[.int .i64 n, .slice a1 g.length d1] 24 (0, 0)) by rw [hw2]; exact new_one _ _)
      have hb2 : Below w1.heap.size w1 w2 := by rw [hw2]; exact below_one _ _
      have HB2 := Lib.hid (HB1.out.trans (hb2.mono HB1.out.size))
      have HC2 := Lib.hid (HC1.out.later hb2)
      clear hw2 hb2 HC1 HB1
      go_wp2_with fail
      refine (HK2.out w2 HB2.out).mono ?_
      rintro e w3 ⟨a3, d3, rfl, hC3, hb3⟩
      have HC3 := Lib.hid hC3
      have HA3 := Lib.hid (HC2.out.later hb3)
      have HS3 := Lib.hid ((behind_of_below hb3).keep HS2.out (by simp))
      have HB3 := Lib.hid (HB2.out.trans (hb3.mono HB2.out.size))
      clear hC3 hb3 HC2 HS2 HB2
      go_upto_region 5 with fail
      refine wp_gen ?_
      intro w4 hw4
      have HT4 := Lib.hid (show w4.heap[w3.heap.size]? = some (.cells #[.int .i64 n, .slice a3 g.length d3] 24 (0, 0)) by rw [hw4]; exact new_one _ _)
      have hb4 : Below w3.heap.size w3 w4 := by rw [hw4]; exact below_one _ _
      have HA4 := Lib.hid (HA3.out.later hb4)
      have HC4 := Lib.hid (HC3.out.later hb4)
      have HS4 := Lib.hid ((behind_of_below hb4).keep HS3.out (by simp))
      have HB4 := Lib.hid (HB3.out.trans (hb4.mono HB3.out.size))
      clear hw4 hb4 HA3 HC3 HS3 HB3
      have KS := xSame7 n g a1 a3 d1 d3 w4 HA4.out HC4.out HF.out (by omega)
      have c0 := blk_cell HT4.out 0 rfl
      have c1 := blk_cell HT4.out 1 rfl
      have s0 := blk_cell HS4.out 0 rfl
      have s1 := blk_cell HS4.out 1 rfl
      go_wp2_with fail
      refine KS.mono ?_
      rintro e w5 ⟨rfl, hb5⟩
      have HB5 := Lib.hid (HB4.out.trans (hb5.mono HB4.out.size))
      clear hb5 KS c0 c1 s0 s1
      go_wp2_with fail
      refine (KW.out w5 HB5.out).mono ?_
      rintro e w6 ⟨rfl, hb6⟩
      have HB6 := Lib.hid (HB5.out.trans (hb6.mono HB5.out.size))
      clear hb6
      go_wp2_with fail
      rw [HP.out]
      exact ⟨rfl, HB6.out⟩
    · have h0' : (parseI ([40] ++ l ++ [41]) n).2.2 ≠ 0 := by rw [hq]; simp
      have K2 := fun w1 (h : Below w.heap.size w w1) => parse_bad _ n h0' w1 (HV.out.below h) hzl
      rw [hq, ← hZ2] at K2
      have HK2 := Lib.hid K2
      clear K2 hq h0' hZ2 hPost hV h0
      go_enter Tryd.func7, Tryd.ntmps7
      go_wp2_with fail
      refine HK1.out.mono ?_
      rintro e w1 ⟨a1, d1, rfl, hC1, hb1⟩
      have HB1 := Lib.hid hb1
      clear hC1 hb1
      go_upto_region 4 with fail
      refine wp_gen ?_
      intro w2 hw2
      have hb2 : Below w1.heap.size w1 w2 := by rw [hw2]; exact below_one _ _
      have HB2 := Lib.hid (HB1.out.trans (hb2.mono HB1.out.size))
      clear hw2 hb2 HB1
      go_wp2_with fail
      refine (HK2.out w2 HB2.out).mono ?_
      rintro e w3 ⟨a3, d3, rfl, hb3⟩
      have HB3 := Lib.hid (HB2.out.trans (hb3.mono HB2.out.size))
      clear hb3 HB2
      go_upto_region 5 with fail
      refine wp_gen ?_
      intro w4 hw4
      have hb4 : Below w3.heap.size w3 w4 := by rw [hw4]; exact below_one _ _
      have HB4 := Lib.hid (HB3.out.trans (hb4.mono HB3.out.size))
      clear hw4 hb4 HB3
      go_wp2_with fail
      refine (KW.out w4 HB4.out).mono ?_
      rintro e w6 ⟨rfl, hb6⟩
      have HB6 := Lib.hid (HB4.out.trans (hb6.mono HB4.out.size))
      clear hb6
      go_wp2_with fail
      rw [HP.out]
      exact ⟨rfl, HB6.out⟩
  · have KG := parse_bad l n h0 w hV (by omega)
    rw [← hs] at KG
    obtain ⟨k, hk⟩ : ∃ k, k = (parseI l n).2.2 := ⟨_, rfl⟩
    obtain ⟨p, hp⟩ : ∃ p, p = (parseI l n).2.1 := ⟨_, rfl⟩
    rw [← hk, ← hp] at KG
    have hkb : (k != 0) = true := by rw [hk]; simp [bne, beq_no h0]
    have HK1 := Lib.hid KG
    have K2 := fun w1 (h : Below w.heap.size w w1) => gParse ([40] ++ l ++ [41]) n w1 (HV.out.below h) hzl
    rw [← hZ2] at K2
    have HK2 := Lib.hid K2
    clear K2 KG hpp hk hp h0 hZ2 hzs hz1 hz2 hs hPost hV
    go_enter Tryd.func7, Tryd.ntmps7
    go_wp2_with fail
    refine HK1.out.mono ?_
    rintro e w1 ⟨a1, d1, rfl, hb1⟩
    have HB1 := Lib.hid hb1
    clear hb1
    go_upto_region 4 with fail
    refine wp_gen ?_
    intro w2 hw2
    have hb2 : Below w1.heap.size w1 w2 := by rw [hw2]; exact below_one _ _
    have HB2 := Lib.hid (HB1.out.trans (hb2.mono HB1.out.size))
    clear hw2 hb2 HB1
    go_wp2_with fail
    refine (HK2.out w2 HB2.out).mono ?_
    rintro e w3 ⟨a3, d3, rfl, _, hb3⟩
    have HB3 := Lib.hid (HB2.out.trans (hb3.mono HB2.out.size))
    clear hb3 HB2
    generalize (parseI ([40] ++ l ++ [41]) n).1.length = gl at *
    generalize (parseI ([40] ++ l ++ [41]) n).2.1 = gq at *
    generalize (parseI ([40] ++ l ++ [41]) n).2.2 = ge at *
    generalize (if gl = 0 then (0 : Int) else n) = gn at *
    go_upto_region 5 with fail
    refine wp_gen ?_
    intro w4 hw4
    have hb4 : Below w3.heap.size w3 w4 := by rw [hw4]; exact below_one _ _
    have HB4 := Lib.hid (HB3.out.trans (hb4.mono HB3.out.size))
    clear hw4 hb4 HB3
    go_wp2_with fail
    refine (KW.out w4 HB4.out).mono ?_
    rintro e w6 ⟨rfl, hb6⟩
    have HB6 := Lib.hid (HB4.out.trans (hb6.mono HB4.out.size))
    clear hb6
    go_wp2_with fail
    rw [HP.out]
    exact ⟨rfl, HB6.out⟩
end Go.Proofs.YtallcgpiecopcaaDoor

/- The law: how many tokens may be open. -/
namespace Go.Proofs.YtallcgpiecopcaaDoor
open Go.RowKit

def sgI : List UInt8 → Nat → List (Nat × Tk)
  | [], _ => []
  | c :: u, p => (p, some [c]) :: sgI u (p + 1)
theorem sgI_len : ∀ (u : List UInt8) (p : Nat), (sgI u p).length = u.length
  | [], _ => rfl
  | c :: u, p => by simp [sgI, sgI_len u]
theorem sgI_get : ∀ (u : List UInt8) (p i : Nat) (x : Nat × Tk), (sgI u p)[i]? = some x → x.1 = p + i
  | [], _, _, _, h => by simp [sgI] at h
  | c :: u, p, 0, x, h => by simp [sgI] at h; subst h; rfl
  | c :: u, p, i + 1, x, h => by
    have := sgI_get u (p + 1) i x (by simpa [sgI] using h)
    omega
theorem sgI_snd : ∀ (u : List UInt8) (p : Nat), (sgI u p).map (·.2) = u.map fun c => some [c]
  | [], _ => rfl
  | c :: u, p => by simp [sgI, sgI_snd u]
theorem lexI_one (f : Nat) (c : UInt8) (hc : c = 33 ∨ c = 40 ∨ c = 41) (r : List UInt8) (p : Nat) : lexI (f + 1) (c :: r) p = (p, some [c]) :: lexI f r (p + 1) := by
  have hb : blI (c :: r) = 0 := by rcases hc with rfl | rfl | rfl <;> rfl
  have ht : tokI (c :: r) = some [c] := by rcases hc with rfl | rfl | rfl <;> rfl
  rw [lexI, hb, List.drop_zero, ht]
  rfl
theorem lexI_sg : ∀ (u : List UInt8), (∀ c ∈ u, c = 33 ∨ c = 40 ∨ c = 41) → ∀ (f : Nat) (r : List UInt8) (p : Nat), lexI (u.length + f) (u ++ r) p = sgI u p ++ lexI f r (p + u.length)
  | [], _, f, r, p => by simp [sgI]
  | c :: u, h, f, r, p => by
    rw [List.length_cons, show u.length + 1 + f = (u.length + f) + 1 by omega, List.cons_append, lexI_one _ c (h c (by simp)), lexI_sg u (fun c hc => h c (by simp [hc])) f r (p + 1), sgI, List.cons_append, show p + 1 + u.length = p + (u.length + 1) by omega]
theorem lexI_digit (f : Nat) (r : List UInt8) (hr : ∀ c, r.head? = some c → c = 41) (p : Nat) : lexI (f + 1) (49 :: r) p = (p, some [49]) :: lexI f r (p + 1) := by
  have hb : blI (49 :: r) = 0 := rfl
  have ht : tokI (49 :: r) = some [49] := by
    cases r with
    | nil => rfl
    | cons c r => rw [hr c rfl]; rfl
  rw [lexI, hb, List.drop_zero, ht]
  rfl
def openL (k m : Nat) : List UInt8 := ((List.replicate k 40 ++ List.replicate m 33) ++ [49]) ++ List.replicate k 41
theorem openL_len (k m : Nat) : (openL k m).length = 2 * k + m + 1 := by simp [openL]; omega
theorem openL_lex (k m : Nat) : lexI ((openL k m).length + 1) (openL k m) 0 = sgI (List.replicate k 40 ++ List.replicate m 33) 0 ++ ((k + m, some [49]) :: (sgI (List.replicate k 41) (k + m + 1) ++ [(2 * k + m + 1, some [])])) := by
  have h1 : ∀ c ∈ List.replicate k (40 : UInt8) ++ List.replicate m 33, c = 33 ∨ c = 40 ∨ c = 41 := fun c hc => by
    rcases List.mem_append.1 hc with hc | hc
    · exact .inr (.inl (List.eq_of_mem_replicate hc))
    · exact .inl (List.eq_of_mem_replicate hc)
  have h2 : ∀ c ∈ List.replicate k (41 : UInt8), c = 33 ∨ c = 40 ∨ c = 41 := fun c hc => .inr (.inr (List.eq_of_mem_replicate hc))
  have hl : (List.replicate k (40 : UInt8) ++ List.replicate m 33).length = k + m := by simp
  have hl2 : (List.replicate k (41 : UInt8)).length = k := by simp
  rw [openL_len, show openL k m = (List.replicate k 40 ++ List.replicate m 33) ++ (49 :: List.replicate k 41) by simp [openL],
    show 2 * k + m + 1 + 1 = (List.replicate k (40 : UInt8) ++ List.replicate m 33).length + ((k + 1) + 1) by rw [hl]; omega, lexI_sg _ h1, hl, Nat.zero_add, lexI_digit _ _ (fun c hc => by
      have : c ∈ List.replicate k (41 : UInt8) := List.mem_of_mem_head? hc
      exact List.eq_of_mem_replicate this)]
  have := lexI_sg (List.replicate k (41 : UInt8)) h2 1 [] (k + m + 1)
  rw [hl2, List.append_nil] at this
  rw [this]
  have e : lexI 1 [] (k + m + 1 + k) = [(k + m + 1 + k, some [])] := rfl
  rw [e, show k + m + 1 + k = 2 * k + m + 1 by omega]
theorem openL_toks (k m : Nat) : lexS (openL k m) = manyT (some [40]) k ++ (manyT (some [33]) m ++ some [49] :: (manyT (some [41]) k ++ [some []])) := by
  unfold lexS
  rw [openL_lex]
  simp [sgI_snd, manyT]
theorem open_check {m : Nat} {g : List Gt} (hm : m < 250) (hl : g.length = m + 1) (hg : ∀ (i : Nat) x, g[i]? = some x → x = (if i = 0 then ⟨1, 0, []⟩ else ⟨3, 0, [((i - 1 : Nat) : Int)]⟩)) : checkI 0 g = 0 := by
  have h1 : ∀ x ∈ g, x.ins.length ≤ 1 := fun x hx => by
    obtain ⟨i, hi⟩ := List.mem_iff_getElem?.1 hx
    rw [hg i x hi]
    split <;> simp
  have hs : ∀ l : List Gt, (∀ x ∈ l, x.ins.length ≤ 1) → sizeI l ≤ l.length := fun l => by
    induction l with
    | nil => intro _; simp [sizeI]
    | cons a l ih =>
      intro h
      have h2 := ih (fun x hx => h x (by simp [hx]))
      have h3 := h a (by simp)
      simp only [sizeI, List.map_cons, List.sum_cons, List.length_cons] at h2 ⊢
      omega
  have h2 := hs g h1
  unfold checkI
  rw [if_neg (by omega), if_neg (by omega), if_neg (fun e => by rw [e] at hl; simp at hl), if_pos ((allGoodI_iff g 0).2 fun i x hx => ?_)]
  rw [Nat.zero_add, hg i x hx]
  by_cases h0 : i = 0
  · rw [if_pos h0]; rfl
  · rw [if_neg h0]
    unfold goodI
    simp only [manyI, List.length_singleton, List.all_cons, List.all_nil, Bool.and_true]
    simp
    omega
theorem parse_open (k m : Nat) (hk : k < 250) (hm : m < 250) : (k + m ≤ 200 → ∃ g, parseI (openL k m) 0 = (g, 0, 0) ∧ g.length = m + 1) ∧ (200 < k + m → parseI (openL k m) 0 = ([], 200, 2)) := by
  have hst : stopI 2 [some []] := stop_of (fun _ => by decide) (fun _ => by decide) (fun ℓ _ _ _ => sign_no (by decide) ℓ)
  obtain ⟨i1, i2⟩ := opens 0 m k 0 [some []] hst
  rw [parseI_eq (by omega) (by omega) (by rw [openL_len]; omega), show (0 : Int).toNat = 0 from rfl, openL_toks]
  refine ⟨fun h => ?_, fun h => ?_⟩
  · obtain ⟨g, h1, h2, h3⟩ := i1 (by omega)
    rw [h1]
    unfold finI
    simp only []
    rw [if_neg (by simp), if_pos (open_check hm h2 h3)]
    exact ⟨g, rfl, h2⟩
  · rw [i2 (by omega) (by omega)]
    unfold finI
    simp only []
    congr 2
    unfold posI
    rw [openL_lex]
    have hl : (sgI (List.replicate k 40 ++ List.replicate m 33) 0).length = k + m := by rw [sgI_len]; simp
    have hl2 : (sgI (List.replicate k 41) (k + m + 1)).length = k := by rw [sgI_len]; simp
    have e : ∀ L : List (Nat × Tk), L.length = 2 * k + m + 2 → L.length - (k + m - (200 - 0) + 1 + k + ([some []] : List Tk).length) = 200 := fun L hL => by rw [hL]; simp; omega
    rw [e _ (by simp only [List.length_append, List.length_cons, hl, hl2, List.length_nil]; omega)]
    rw [List.headD_eq_head?_getD, List.head?_drop]
    rw [List.getElem?_append_left (by omega)]
    obtain ⟨x, hx⟩ : ∃ x, (sgI (List.replicate k 40 ++ List.replicate m 33) 0)[200]? = some x := ⟨_, List.getElem?_eq_getElem (by omega)⟩
    rw [hx]
    have := sgI_get _ _ _ _ hx
    simpa using this

theorem rep_one (c : UInt8) : ∀ k, Lib.repeatL [c] k = List.replicate k c
  | 0 => rfl
  | k + 1 => by
    show c :: Lib.repeatL [c] k = _
    rw [rep_one c k, List.replicate_succ]
theorem gRep (c : UInt8) (k : Nat) (hk : k < 250) (w : World) : Calls Tryd.prog 18 #[.string ⟨#[c]⟩, .int .i64 (k : Int)] w fun e w' => e = .returned (.string ⟨(List.replicate k c).toArray⟩) ∧ Below w.heap.size w w' := by
  have h := Tryd.strings_Repeat ⟨#[c]⟩ k w (by omega) (by show 1 * k ≤ _; omega)
  have e := rep_one c k
  refine h.mono ?_
  rintro en w' ⟨rfl, hb⟩
  refine ⟨?_, hb⟩
  show Ending.returned (.string ⟨(Lib.repeatL [c] k).toArray⟩) = _
  rw [e]

set_option maxHeartbeats 6400000 in
set_option maxRecDepth 100000 in
theorem open_law (a b : Nat) (ha : a < 256) (hb : b < 256) (w : World) (hV : VarsI w) : Calls Tryd.prog 8 #[.int .u8 (a : Int), .int .u8 (b : Int)] w fun e w' => e = .returned (.bool true) ∧ Below w.heap.size w w' := by
  obtain ⟨Post, hPost⟩ : ∃ P : Ending → World → Prop, P = fun e w' => e = .returned (.bool true) ∧ Below w.heap.size w w' := ⟨_, rfl⟩
  rw [← hPost]
  have HP := Lib.hid hPost
  have HV := Lib.hid hV
  have KW := Lib.hid (fun w1 (h : Below w.heap.size w w1) => gWorks w1 (hV.below h))
  obtain ⟨k, hk⟩ : ∃ k : Nat, a % 250 = k := ⟨_, rfl⟩
  obtain ⟨m, hm⟩ : ∃ m : Nat, b % 250 = m := ⟨_, rfl⟩
  have hk2 : k < 250 := by rw [← hk]; exact Nat.mod_lt _ (by omega)
  have hm2 : m < 250 := by rw [← hm]; exact Nat.mod_lt _ (by omega)
  have hka : (a : Int).tmod 250 = (k : Int) := by rw [← hk]; rfl
  have hma : (b : Int).tmod 250 = (m : Int) := by rw [← hm]; rfl
  have hka2 : (a : Int) % 250 = (k : Int) := by rw [← hk]; rfl
  have hma2 : (b : Int) % 250 = (m : Int) := by rw [← hm]; rfl
  have PO := Lib.hid (parse_open k m hk2 hm2)
  have K1 := gRep 40 k hk2
  have K2 := gRep 33 m hm2
  have K3 := gRep 41 k hk2
  clear hPost hV hk hm
  go_enter Tryd.func8, Tryd.ntmps8
  go_upto_region 2 with fail
  clear hka hma hka2 hma2
  have hA := fun (k : Nat) (c : UInt8) => ba_size (List.replicate k c)
  obtain ⟨s1, hs1⟩ : ∃ s : ByteArray, s = ⟨(List.replicate k (40 : UInt8)).toArray⟩ := ⟨_, rfl⟩
  obtain ⟨s2, hs2⟩ : ∃ s : ByteArray, s = ⟨(List.replicate m (33 : UInt8)).toArray⟩ := ⟨_, rfl⟩
  obtain ⟨s3, hs3⟩ : ∃ s : ByteArray, s = ⟨(List.replicate k (41 : UInt8)).toArray⟩ := ⟨_, rfl⟩
  have hz1 : s1.size = k := by rw [hs1, hA]; simp
  have hz2 : s2.size = m := by rw [hs2, hA]; simp
  have hz3 : s3.size = k := by rw [hs3, hA]; simp
  obtain ⟨u1, hu1⟩ : ∃ z : ByteArray, z = s1 ++ s2 := ⟨_, rfl⟩
  obtain ⟨u2, hu2⟩ : ∃ z : ByteArray, z = u1 ++ (⟨#[49]⟩ : ByteArray) := ⟨_, rfl⟩
  obtain ⟨u3, hu3⟩ : ∃ z : ByteArray, z = u2 ++ s3 := ⟨_, rfl⟩
  have hy1 : u1.size = k + m := by rw [hu1, ByteArray.size_append, hz1, hz2]
  have hy2 : u2.size = k + m + 1 := by rw [hu2, ByteArray.size_append, hy1]; rfl
  have ha1 : ∀ x, (Op.stringOp .add s1 s2).run Tryd.prog x = .ok (.string u1) x := fun x => by rw [hu1]; exact run_string_add_sum x _ _ (by omega)
  have ha2 : ∀ x, (Op.stringOp .add u1 ⟨#[49]⟩).run Tryd.prog x = .ok (.string u2) x := fun x => by rw [hu2]; exact run_string_add_sum x _ _ (by show u1.size + 1 ≤ _; omega)
  have ha3 : ∀ x, (Op.stringOp .add u2 s3).run Tryd.prog x = .ok (.string u3) x := fun x => by rw [hu3]; exact run_string_add_sum x _ _ (by omega)
  have HU := Lib.hid (show u3 = ⟨(openL k m).toArray⟩ by
    rw [hu3, hu2, hu1, hs1, hs2, hs3, ba_app, show (⟨#[49]⟩ : ByteArray) = ⟨([49] : List UInt8).toArray⟩ from rfl, ba_app, ba_app]; rfl)
  rw [← hs1] at K1
  rw [← hs2] at K2
  rw [← hs3] at K3
  clear hs1 hs2 hs3 hu1 hu2 hu3 hz1 hz2 hz3 hy1 hy2 hA
  go_wp2_with fail
  refine (K1 w).mono ?_
  rintro e w1 ⟨rfl, hb⟩
  have HB1 := Lib.hid hb
  clear hb K1
  go_wp2_with fail
  refine (K2 w1).mono ?_
  rintro e w2 ⟨rfl, hb⟩
  have HB2 := Lib.hid (HB1.out.trans (hb.mono HB1.out.size))
  clear hb K2 HB1
  go_wp2_with fail
  refine (K3 w2).mono ?_
  rintro e w3 ⟨rfl, hb⟩
  have HB3 := Lib.hid (HB2.out.trans (hb.mono HB2.out.size))
  clear hb K3 HB2
  by_cases hbig : 200 < k + m
  · have hd : decide ((200 : Int) < (k : Int) + (m : Int)) = true := decide_eq_true (by omega)
    have hd2 : decide (200 < k + m) = true := decide_eq_true hbig
    have KP := parse_at (openL k m) 0 [] 200 2 (PO.out.2 hbig) w3 (HV.out.below HB3.out) (by rw [openL_len]; omega)
    rw [← HU.out, show (if ([] : List Gt).length = 0 then (0 : Int) else 0) = 0 from rfl, show ([] : List Gt).length = 0 from rfl, show ((200 : Nat) : Int) = 200 from rfl] at KP
    clear hbig
    go_wp2_with fail
    refine KP.mono ?_
    rintro e w4 ⟨a1, d1, rfl, _, hb⟩
    have HB4 := Lib.hid (HB3.out.trans (hb.mono HB3.out.size))
    clear hb KP HB3
    go_upto_region 4 with fail
    refine wp_gen ?_
    intro w5 hw5
    have HS5 := Lib.hid (show w5.heap[w4.heap.size]? = some (.cells #[.int .i64 0, .slice a1 0 d1] 24 (0, 0)) by rw [hw5]; exact new_one _ _)
    have HB5 := Lib.hid (HB4.out.trans ((show Below w4.heap.size w4 w5 by rw [hw5]; exact below_one _ _).mono HB4.out.size))
    clear hw5 HB4
    have s1 := blk_cell HS5.out 1 rfl
    go_wp2_with fail
    refine (KW.out w5 HB5.out).mono ?_
    rintro e w6 ⟨rfl, hb⟩
    have HB6 := Lib.hid (HB5.out.trans (hb.mono HB5.out.size))
    clear hb
    go_wp2_with fail
    rw [HP.out]
    exact ⟨rfl, HB6.out⟩
  · have hd : decide ((200 : Int) < (k : Int) + (m : Int)) = false := decide_eq_false (by omega)
    have hd2 : decide (200 < k + m) = false := decide_eq_false hbig
    obtain ⟨g, hg1, hg2⟩ := PO.out.1 (by omega)
    have KP := parse_at (openL k m) 0 g 0 0 hg1 w3 (HV.out.below HB3.out) (by rw [openL_len]; omega)
    rw [← HU.out, show (if g.length = 0 then (0 : Int) else 0) = 0 by split <;> rfl, hg2, show ((0 : Nat) : Int) = 0 from rfl] at KP
    have hq : (((m + 1 : Nat) : Int) == (m : Int) + 1) = true := by simp
    clear hbig hg1 hg2
    go_wp2_with fail
    refine KP.mono ?_
    rintro e w4 ⟨a1, d1, rfl, _, hb⟩
    have HB4 := Lib.hid (HB3.out.trans (hb.mono HB3.out.size))
    clear hb KP HB3
    go_upto_region 4 with fail
    refine wp_gen ?_
    intro w5 hw5
    have HS5 := Lib.hid (show w5.heap[w4.heap.size]? = some (.cells #[.int .i64 0, .slice a1 (m + 1) d1] 24 (0, 0)) by rw [hw5]; exact new_one _ _)
    have HB5 := Lib.hid (HB4.out.trans ((show Below w4.heap.size w4 w5 by rw [hw5]; exact below_one _ _).mono HB4.out.size))
    clear hw5 HB4
    have s1 := blk_cell HS5.out 1 rfl
    go_wp2_with fail
    refine (KW.out w5 HB5.out).mono ?_
    rintro e w6 ⟨rfl, hb⟩
    have HB6 := Lib.hid (HB5.out.trans (hb.mono HB5.out.size))
    clear hb
    go_wp2_with fail
    rw [HP.out]
    exact ⟨rfl, HB6.out⟩
end Go.Proofs.YtallcgpiecopcaaDoor

/- The reference's circuits: Size, Check. -/
namespace Go.Proofs.YtallcgpiecopcaaDoor
open Go.RowKit

set_option maxHeartbeats 1600000 in
set_option maxRecDepth 100000 in
theorem xSize (n : Int) (gs : List Gt) (a : Option Addr) (c : Nat) (w : World) (hC : CircAt w.heap.size w a gs) (hf : Fits gs) (hl : gs.length ≤ 4096) : Calls Tryd.prog 19 #[.agg #[.int .i64 n, .slice a gs.length c]] w fun e w' => e = .returned (.int .i64 (sizeI gs : Nat)) ∧ Below w.heap.size w w' := by
  obtain ⟨Post, hPost⟩ : ∃ P : Ending → World → Prop, P = fun e w' => e = .returned (.int .i64 (sizeI gs : Nat)) ∧ Below w.heap.size w w' := ⟨_, rfl⟩
  rw [← hPost]
  have HP := Lib.hid hPost
  have HC := Lib.hid hC
  have HT := Lib.hid (fun (i : Nat) (g : Gt) (h : gs[i]? = some g) => sizeI_take h)
  have HS := Lib.hid (fun i (hi : i ≤ gs.length) => sizeI_le hf i hi)
  have HN := Lib.hid (show sizeI gs = sizeI (gs.take gs.length) by rw [List.take_length])
  have HFI := Lib.hid hf
  clear hC hf hPost
  go_enter Tryd.func19, Tryd.ntmps19
  go_upto_region 1 with fail
  refine wp_gen ?_
  intro w1 hw1
  have hB1 : Below w.heap.size w w1 := by rw [hw1]; exact below_one _ _
  have A1 := Lib.hid (show w1.heap[w.heap.size]? = some (.cells #[.int .i64 n, .slice a gs.length c] 24 (0, 0)) by rw [hw1]; exact new_one _ _)
  have HB1 := Lib.hid hB1
  have a1 := blk_cell A1.out 1 rfl
  clear hw1 hB1
  go_wp2_with fail
  go_loopw [4, 3] (fun t4 t3 wr => ∃ j : Nat, j ≤ gs.length ∧ t4 = .int .i64 j ∧ t3 = .int .i64 (sizeI (gs.take j) : Nat) ∧ wr = w1) (fun t4 _ _ => gs.length - (intOf t4).toNat)
  case atStart => exact ⟨0, Nat.zero_le _, rfl, rfl, rfl⟩
  case round =>
    obtain ⟨j, hj, rfl, rfl, rfl⟩ := hrel
    by_cases hlt : j < gs.length
    · have hdd : decide ((j : Int) < (gs.length : Int)) = true := decide_eq_true (by omega)
      have hdd2 : decide (j < gs.length) = true := decide_eq_true hlt
      obtain ⟨g, hg⟩ : ∃ g, gs[j]? = some g := ⟨_, List.getElem?_eq_getElem hlt⟩
      obtain ⟨b, o, p, d, hb, rfl, k0, k1, k2, _⟩ := (HC.out.below HB1.out (Nat.le_refl _)) j g hg
      have hst := HT.out j g hg
      have hle := HS.out (j + 1) (by omega)
      have hfi := HFI.out g (List.mem_of_getElem? hg)
      obtain ⟨s, hs⟩ : ∃ s, s = sizeI (gs.take j) := ⟨_, rfl⟩
      obtain ⟨s2, hs2⟩ : ∃ s2, s2 = sizeI (gs.take (j + 1)) := ⟨_, rfl⟩
      rw [← hs, ← hs2] at hst
      rw [← hs2] at hle
      have HS2 := Lib.hid hs2
      rw [← hs]
      clear hs hs2 hg
      subst hst
      go_wp2_with fail
      go_roundw
      case rel => exact ⟨j + 1, by omega, by go_num, by rw [← HS2.out]; go_num, trivial⟩
      case measure => simp [intOf]; omega
    · obtain rfl : j = gs.length := by omega
      have hdd : decide ((gs.length : Int) < (gs.length : Int)) = false := by simp
      rw [← HN.out]
      go_wp2_with fail
      rw [HP.out]
      exact ⟨rfl, HB1.out⟩
theorem beqN (m c : Nat) : ((m : Int) == (c : Int)) = decide (m = c) := by by_cases h : m = c <;> simp [h]; omega

set_option maxHeartbeats 3200000 in
set_option maxRecDepth 100000 in
theorem xAllowed (k : Int) (m : Nat) : Gives 51 #[.int .i64 k, .int .i64 (m : Int)] (.bool (manyI k m)) := by
  intro w
  have HM := Lib.hid (show ∀ r, manyI k m = r → (Ending.returned (.bool r) = Ending.returned (.bool (manyI k m)) ∧ Below w.heap.size w w) from fun r h => ⟨by rw [h], Below.refl _ _⟩)
  obtain ⟨z0, hz0⟩ : ∃ b, b = decide (m = 0) := ⟨_, rfl⟩
  obtain ⟨z1, hz1⟩ : ∃ b, b = decide (m = 1) := ⟨_, rfl⟩
  obtain ⟨z2, hz2⟩ : ∃ b, b = decide (m = 2) := ⟨_, rfl⟩
  obtain ⟨z3, hz3⟩ : ∃ b, b = decide (m = 3) := ⟨_, rfl⟩
  have y0 : ((m : Int) == 0) = z0 := by rw [hz0]; exact beqN m 0
  have y1 : ((m : Int) == 1) = z1 := by rw [hz1]; exact beqN m 1
  have y2 : ((m : Int) == 2) = z2 := by rw [hz2]; exact beqN m 2
  have y3 : ((m : Int) == 3) = z3 := by rw [hz3]; exact beqN m 3
  have x0 : (m == 0) = z0 := by rw [hz0]; by_cases h : m = 0 <;> simp [h]
  have x1 : (m == 1) = z1 := by rw [hz1]; by_cases h : m = 1 <;> simp [h]
  have x2 : (m == 2) = z2 := by rw [hz2]; by_cases h : m = 2 <;> simp [h]
  have x3 : (m == 3) = z3 := by rw [hz3]; by_cases h : m = 3 <;> simp [h]
  have H0 := Lib.hid hz0
  have H1 := Lib.hid hz1
  have H2 := Lib.hid hz2
  have H3 := Lib.hid hz3
  clear hz0 hz1 hz2 hz3
  have HN := Lib.hid (show k ≠ 0 → k ≠ 1 → k ≠ 2 → k ≠ 3 → k ≠ 7 → k ≠ 8 → manyI k m = decide (k = 4 ∨ k = 5 ∨ k = 6) from fun h0 h1 h2 h3 h7 h8 => by unfold manyI; rw [if_neg (by omega), if_neg h3, if_neg h7, if_neg h8])
  by_cases k0 : k = 0
  · subst k0
    have HV := Lib.hid (show manyI 0 m = decide (m = 0) from rfl)
    go_enter Tryd.func51, Tryd.ntmps51
    go_wp2_with fail
    go_ret
    exact HM.out _ (HV.out.trans H0.out.symm)
  have b0 : (k == 0) = false := beq_no k0
  by_cases k1 : k = 1
  · subst k1
    have HV := Lib.hid (show manyI 1 m = decide (m = 0) from rfl)
    go_enter Tryd.func51, Tryd.ntmps51
    go_wp2_with fail
    go_ret
    exact HM.out _ (HV.out.trans H0.out.symm)
  have b1 : (k == 1) = false := beq_no k1
  by_cases k2 : k = 2
  · subst k2
    have HV := Lib.hid (show manyI 2 m = decide (m = 0) from rfl)
    go_enter Tryd.func51, Tryd.ntmps51
    go_wp2_with fail
    go_ret
    exact HM.out _ (HV.out.trans H0.out.symm)
  have b2 : (k == 2) = false := beq_no k2
  by_cases k3 : k = 3
  · subst k3
    have HV := Lib.hid (show manyI 3 m = decide (m = 1) from rfl)
    go_enter Tryd.func51, Tryd.ntmps51
    go_wp2_with fail
    go_ret
    exact HM.out _ (HV.out.trans H1.out.symm)
  have b3 : (k == 3) = false := beq_no k3
  by_cases k7 : k = 7
  · subst k7
    have HV := Lib.hid (show manyI 7 m = decide (m = 2) from rfl)
    go_enter Tryd.func51, Tryd.ntmps51
    go_wp2_with fail
    go_ret
    exact HM.out _ (HV.out.trans H2.out.symm)
  have b7 : (k == 7) = false := beq_no k7
  by_cases k8 : k = 8
  · subst k8
    have HV := Lib.hid (show manyI 8 m = decide (m = 3) from rfl)
    go_enter Tryd.func51, Tryd.ntmps51
    go_wp2_with fail
    go_ret
    exact HM.out _ (HV.out.trans H3.out.symm)
  have b8 : (k == 8) = false := beq_no k8
  have hn := Lib.hid (HN.out k0 k1 k2 k3 k7 k8)
  clear HN
  by_cases k4 : k = 4
  · have hv := Lib.hid (show manyI k m = true by rw [hn.out]; exact decide_eq_true (.inl k4))
    have b4 : (k == 4) = true := by simp [k4]
    clear k0 k1 k2 k3 k7 k8 k4
    go_enter Tryd.func51, Tryd.ntmps51
    go_wp2_with fail
    go_ret
    exact HM.out _ hv.out
  have b4 : (k == 4) = false := beq_no k4
  by_cases k5 : k = 5
  · have hv := Lib.hid (show manyI k m = true by rw [hn.out]; exact decide_eq_true (.inr (.inl k5)))
    have b5 : (k == 5) = true := by simp [k5]
    clear k0 k1 k2 k3 k7 k8 k4 k5
    go_enter Tryd.func51, Tryd.ntmps51
    go_wp2_with fail
    go_ret
    exact HM.out _ hv.out
  have b5 : (k == 5) = false := beq_no k5
  obtain ⟨b, hb⟩ : ∃ b, b = decide (k = 6) := ⟨_, rfl⟩
  have b6 : (k == 6) = b := by rw [hb]; by_cases h : k = 6 <;> simp [h]
  have hv := Lib.hid (show manyI k m = b by rw [hn.out, hb]; by_cases h : k = 6 <;> simp [h, k4, k5])
  clear k0 k1 k2 k3 k7 k8 k4 k5 hb
  go_enter Tryd.func51, Tryd.ntmps51
  go_wp2_with fail
  go_ret
  exact HM.out _ hv.out

set_option maxHeartbeats 3200000 in
set_option maxRecDepth 100000 in
theorem xLiteral (l n : Int) (h0 : 0 ≤ n) (h1 : n ≤ 128) : Gives 52 #[.int .i64 l, .int .i64 n] (.bool (litI l n)) := by
  intro w
  have HM := Lib.hid (show ∀ r, litI l n = r → (Ending.returned (.bool r) = Ending.returned (.bool (litI l n)) ∧ Below w.heap.size w w) from fun r h => ⟨by rw [h], Below.refl _ _⟩)
  by_cases h2 : 1 ≤ l
  · have d1 : decide (1 ≤ l) = true := decide_eq_true h2
    by_cases h3 : l ≤ n
    · have d2 : decide (l ≤ n) = true := decide_eq_true h3
      have hv := Lib.hid (show litI l n = true by unfold litI; rw [decide_eq_true ⟨h2, h3⟩]; rfl)
      go_enter Tryd.func52, Tryd.ntmps52
      go_wp2_with fail
      go_ret
      exact HM.out _ hv.out
    · have d2 : decide (l ≤ n) = false := decide_eq_false h3
      have d3 : decide (l ≤ -1) = false := decide_eq_false (by omega)
      have hv := Lib.hid (show litI l n = false by unfold litI; rw [decide_eq_false (fun h => h3 h.2), decide_eq_false (fun h => by omega)]; rfl)
      go_enter Tryd.func52, Tryd.ntmps52
      go_wp2_with fail
      go_ret
      exact HM.out _ hv.out
  · have d1 : decide (1 ≤ l) = false := decide_eq_false h2
    by_cases h4 : l ≤ -1
    · have d3 : decide (l ≤ -1) = true := decide_eq_true h4
      obtain ⟨b, hb⟩ : ∃ b, b = decide (-n ≤ l) := ⟨_, rfl⟩
      have hv := Lib.hid (show litI l n = b by unfold litI; rw [decide_eq_false (fun h => h2 h.1), hb]; by_cases h : -n ≤ l <;> simp [h, h4])
      have d4 := hb.symm
      clear hb
      go_enter Tryd.func52, Tryd.ntmps52
      go_wp2_with fail
      go_ret
      exact HM.out _ hv.out
    · have d3 : decide (l ≤ -1) = false := decide_eq_false h4
      have hv := Lib.hid (show litI l n = false by unfold litI; rw [decide_eq_false (fun h => h2 h.1), decide_eq_false (fun h => h4 h.1)]; rfl)
      go_enter Tryd.func52, Tryd.ntmps52
      go_wp2_with fail
      go_ret
      exact HM.out _ hv.out
end Go.Proofs.YtallcgpiecopcaaDoor
