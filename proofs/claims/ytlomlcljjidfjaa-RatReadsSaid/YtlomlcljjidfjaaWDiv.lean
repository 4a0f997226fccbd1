/- Div. -/
import Derived.Test.YtlomlcljjidfjaaWLong
import Derived.Test.YtlomlcljjidfjaaWShrink
import Derived.Test.YtlomlcljjidfjaaWRead
namespace Go.Proofs.Ytlomlcljjidfjaa
open Go.RowKit Num

theorem four_boxes (w : World) (s t : ByteArray) (T : TypeId) : ∃ w0, w0 = (((w.alloc (Obj.cells #[Value.string s] T)).alloc (Obj.cells #[Value.string t] T)).alloc (Obj.cells #[Value.string { data := #[] }] T)).alloc (Obj.cells #[Value.string { data := #[] }] T) ∧
    w0.cell? ⟨w.heap.size, 0, none⟩ = some (.string s) ∧ w0.cell? ⟨w.heap.size + 1, 0, none⟩ = some (.string t) ∧ w0.cell? ⟨w.heap.size + 1 + 1, 0, none⟩ = some (.string { data := #[] }) ∧
    w0.frozen? ⟨w.heap.size + 1 + 1, 0, none⟩ = false ∧ w0.cell? ⟨w.heap.size + 1 + 1 + 1, 0, none⟩ = some (.string { data := #[] }) ∧
    w0.frozen? ⟨w.heap.size + 1 + 1 + 1, 0, none⟩ = false ∧ w.heap.size + 4 ≤ w0.heap.size ∧ Hid (Below w.heap.size w w0) :=
  ⟨_, rfl, by simp [go_sem], by simp [go_sem], by simp [go_sem], by simp [go_sem], by simp [go_sem], by simp [go_sem], by simp, ((((Below.refl _ _).alloc (Nat.le_refl _) _).alloc (by simp) _).alloc (by simp; omega) _).alloc (by simp; omega) _⟩

theorem nb_zero2 : nb 0 = { data := #[] } := rfl

/-- The two result boxes of Div. -/
structure Boxes (w wx : World) : Prop where
  c1 : wx.cell? ⟨w.heap.size + 1 + 1, 0, none⟩ = some (.string { data := #[] })
  f1 : wx.frozen? ⟨w.heap.size + 1 + 1, 0, none⟩ = false
  c2 : wx.cell? ⟨w.heap.size + 1 + 1 + 1, 0, none⟩ = some (.string { data := #[] })
  f2 : wx.frozen? ⟨w.heap.size + 1 + 1 + 1, 0, none⟩ = false
  below : Below w.heap.size w wx
  size : w.heap.size + 4 ≤ wx.heap.size

theorem Boxes.on {w wx wy : World} (h : Boxes w wx) {B : Nat} (hB : w.heap.size + 4 ≤ B) (hb : Below B wx wy) : Boxes w wy :=
  ⟨below_cell hb (by omega) h.c1, by rw [hb.frozen (p := ⟨w.heap.size + 1 + 1, 0, none⟩) (by simp; omega)]; exact h.f1,
   below_cell hb (by omega) h.c2, by rw [hb.frozen (p := ⟨w.heap.size + 1 + 1 + 1, 0, none⟩) (by simp; omega)]; exact h.f2,
   h.below.trans (hb.mono (by omega)), Nat.le_trans h.size hb.size⟩
theorem Boxes.drew {w wx : World} (h : Boxes w wx) : Boxes w wx.drew := h.on (Nat.le_refl _) (Below.refl _ _).drew

/-- What comes before the cases of Div: the words of both numbers. -/
structure DivStart (a b : Nat) (w wx : World) (gx gy : Nat) : Prop where
  rx : Row wx gx 83 (u32s (digitsOf W a))
  ry : Row wx gy 83 (u32s (digitsOf W b))
  gx1 : w.heap.size + 4 ≤ gx
  gy1 : w.heap.size + 4 ≤ gy
  ne : gx ≠ gy
  ca : wx.cell? ⟨w.heap.size, 0, none⟩ = some (.string (nb a))
  cb : wx.cell? ⟨w.heap.size + 1, 0, none⟩ = some (.string (nb b))
  boxes : Boxes w wx

/-- What Div hands back. -/
def DivPost (q r : Nat) (ok : Bool) (w : World) (e : Ending) (w' : World) : Prop :=
  e = .returned (.tuple #[natV q, natV r, .bool ok]) ∧ Below w.heap.size w w'

set_option maxHeartbeats 1600000 in
set_option maxRecDepth 100000 in
theorem div_zero (a : Nat) (ha : nl a ≤ 1073741824) (w : World) :
    Calls Try.prog 48 #[natV a, natV 0] w (DivPost 0 0 false w) := by
  have hb : nl 0 ≤ 1073741824 := by decide
  unfold natV
  go_enter Try.func48, Try.ntmps48
  go_wp2_with fail
  obtain ⟨w0, hw0, c1, c2, c3, f3, c4, f4, sz, HB⟩ := four_boxes w (nb a) (nb 0) 25
  rw [← hw0]
  clear hw0
  have HBX : Hid (Boxes w w0) := ⟨c3, f3, c4, f4, HB.out, sz⟩
  clear c3 f3 c4 f4 HB
  go_region_held3 (fun w' => w'.cell? ⟨w.heap.size, 0, none⟩ = some (.string (nb a)) ∧ w'.cell? ⟨w.heap.size + 1, 0, none⟩ = some (.string (nb 0)))
    (first | go_keep | exact ⟨by assumption, by assumption⟩)
    (first
      | (go_at_call 64; ((with_reducible refine (words_nb a (by omega) _).mono ?_); rintro e w1 ⟨rfl, hR1, hB1⟩; have k1 := below_cell hB1 (by simp; omega) c1; have k2 := below_cell hB1 (by simp; omega) c2))
      | (go_at_call 64; ((with_reducible refine (words_nb 0 (by omega) _).mono ?_); rintro e w2 ⟨rfl, hR2, hB2⟩; have j1 := below_cell hB2 (by have := hB1.size; simp at this; omega) k1; have j2 := below_cell hB2 (by have := hB1.size; simp at this; omega) k2)))
  have sz2 : w0.heap.size + 1 < w1.heap.size := by simpa using hR1.lt
  have HBX2 := Lib.hid ((HBX.out.drew.on (B := w0.heap.size) sz hB1).on (B := w1.heap.size) (by omega) hB2)
  have bc1 := HBX2.out.c1
  have bf1 := HBX2.out.f1
  have bc2 := HBX2.out.c2
  have bf2 := HBX2.out.f2
  clear hR1 hR2 hB1 hB2 c1 c2 k1 k2 HBX j1 j2
  rw [digitsOf_zero]
  go_wp2_with fail
  exact bodyPost_ret (v := .tuple #[natV 0, natV 0, .bool false]) (by simp [results, Try.results48, go_sem, natV_zero, bc1, bc2]) rfl ⟨rfl, (HBX2.out.below.setCell (by simp; omega) _).setCell (by simp; omega) _⟩

set_option maxHeartbeats 1600000 in
set_option maxRecDepth 100000 in
theorem div_less (a b : Nat) (ha : nl a ≤ 1073741824) (hb : nl b ≤ 1073741824) (hb0 : 0 < b) (hab : a < b) (w : World) :
    Calls Try.prog 48 #[natV a, natV b] w (DivPost 0 a true w) := by
  have HC := Lib.hid (cmpI_lt hab)
  have hpos : 0 < (digitsOf W b).length := List.length_pos_iff.2 (fun h => by have := (digitsOf_eq_nil (B := W) (by decide)).1 h; omega)
  have hwl := wlen_le b
  clear hab hb0
  unfold natV
  go_enter Try.func48, Try.ntmps48
  go_wp2_with fail
  obtain ⟨w0, hw0, c1, c2, c3, f3, c4, f4, sz, HB⟩ := four_boxes w (nb a) (nb b) 25
  rw [← hw0]
  clear hw0
  have HBX : Hid (Boxes w w0) := ⟨c3, f3, c4, f4, HB.out, sz⟩
  clear c3 f3 c4 f4 HB
  go_region_held3 (fun w' => w'.cell? ⟨w.heap.size, 0, none⟩ = some (.string (nb a)) ∧ w'.cell? ⟨w.heap.size + 1, 0, none⟩ = some (.string (nb b)))
    (first | go_keep | exact ⟨by assumption, by assumption⟩)
    (first
      | (go_at_call 64; ((with_reducible refine (words_nb a (by omega) _).mono ?_); rintro e w1 ⟨rfl, hR1, hB1⟩; have k1 := below_cell hB1 (by simp; omega) c1; have k2 := below_cell hB1 (by simp; omega) c2))
      | (go_at_call 64; ((with_reducible refine (words_nb b (by omega) _).mono ?_); rintro e w2 ⟨rfl, hR2, hB2⟩; have j1 := below_cell hB2 (by have := hB1.size; simp at this; omega) k1; have j2 := below_cell hB2 (by have := hB1.size; simp at this; omega) k2)))
  have sz2 : w0.heap.size + 1 < w1.heap.size := by simpa using hR1.lt
  have HBX2 := Lib.hid ((HBX.out.drew.on (B := w0.heap.size) sz hB1).on (B := w1.heap.size) (by omega) hB2)
  have hs2 := HBX2.out.size
  clear hR1 hR2 hB1 hB2 c1 c2 k1 k2 HBX
  have hne : (((digitsOf W b).length : Int) == 0) = false := beq_no (by omega)
  go_wp2_with fail
  refine (cmp_any a b (by omega) (by omega) w2).mono ?_
  rintro e w3 ⟨rfl, hB3⟩
  rw [HC.out]
  have i1 := below_cell hB3 (by omega) j1
  have HBX3 := Lib.hid (HBX2.out.on (B := w2.heap.size) hs2 hB3)
  have bc1 := HBX3.out.c1
  have bf1 := HBX3.out.f1
  have bc2 := HBX3.out.c2
  have bf2 := HBX3.out.f2
  clear hB3 HBX2 j1 j2
  go_wp2_with fail
  go_region
  all_goals
    go_wp2_with fail
    exact bodyPost_ret (v := .tuple #[natV 0, natV a, .bool true]) (by simp [results, Try.results48, go_sem, natV, nb_zero2, bc1, bc2]) rfl ⟨rfl, (HBX3.out.below.drew.setCell (by simp; omega) _).setCell (by simp; omega) _⟩

/-- A whole row as a slice of the call's own. -/
theorem Row.toOwns {w : World} {base g n : Nat} {E : TypeId} {xs : List Value} (h : Row w g E xs) (hb : base ≤ g) (hn : xs.length = n) (hm : n ≤ maxLen) :
    w.ownsRow base E 1 (.slice (some ⟨g, 0, none⟩) n n) n xs :=
  ⟨by omega, .inr ⟨g, n, xs.toArray, rfl, hb, h, Nat.le_refl _, hm, by simp [hn], by rw [Nat.mul_one, List.take_of_length_le]; simp [hn]⟩⟩

set_option maxHeartbeats 1600000 in
set_option maxRecDepth 100000 in
theorem div_one (a b : Nat) (ha : nl a ≤ 1073741824) (hb : nl b ≤ 1073741824) (hb0 : 0 < b) (hb1 : b < 4294967296) (hab : b ≤ a) (w : World) :
    Calls Try.prog 48 #[natV a, natV b] w (DivPost (a / b) (a % b) true w) := by
  have HC : Hid (0 ≤ cmpI a b ∧ cmpI a b ≤ 1) := by
    unfold Hid cmpI
    rw [if_neg (by omega)]; split <;> omega
  have HYB : Hid (digitsOf W b = [b]) := by
    unfold Hid
    rw [digitsOf_pos (by decide) hb0, Nat.mod_eq_of_lt hb1, Nat.div_eq_of_lt hb1, digitsOf_zero]
  have hpos : 0 < (digitsOf W b).length := by rw [HYB.out]; exact Nat.one_pos
  have hwl := wlen_le b
  have hwa := wlen_le a
  unfold natV
  go_enter Try.func48, Try.ntmps48
  go_wp2_with fail
  obtain ⟨w0, hw0, c1, c2, c3, f3, c4, f4, sz, HB⟩ := four_boxes w (nb a) (nb b) 25
  rw [← hw0]
  clear hw0
  have HBX : Hid (Boxes w w0) := ⟨c3, f3, c4, f4, HB.out, sz⟩
  clear c3 f3 c4 f4 HB
  go_region_held3 (fun w' => w'.cell? ⟨w.heap.size, 0, none⟩ = some (.string (nb a)) ∧ w'.cell? ⟨w.heap.size + 1, 0, none⟩ = some (.string (nb b)))
    (first | go_keep | exact ⟨by assumption, by assumption⟩)
    (first
      | (go_at_call 64; ((with_reducible refine (words_nb a (by omega) _).mono ?_); rintro e w1 ⟨rfl, hR1, hB1⟩; have k1 := below_cell hB1 (by simp; omega) c1; have k2 := below_cell hB1 (by simp; omega) c2))
      | (go_at_call 64; ((with_reducible refine (words_nb b (by omega) _).mono ?_); rintro e w2 ⟨rfl, hR2, hB2⟩; have j1 := below_cell hB2 (by have := hB1.size; simp at this; omega) k1; have j2 := below_cell hB2 (by have := hB1.size; simp at this; omega) k2)))
  have sz2 : w0.heap.size + 1 < w1.heap.size := by simpa using hR1.lt
  have HBX2 := Lib.hid ((HBX.out.drew.on (B := w0.heap.size) sz hB1).on (B := w1.heap.size) (by omega) hB2)
  have hs2 := HBX2.out.size
  have hRX : Row w2 (w0.heap.size + 1) 83 (u32s (digitsOf W a)) := hR1.below hB2 sz2
  have hRY := hR2
  clear hR1 hR2 hB1 hB2 c1 c2 k1 k2 HBX
  have hne : (((digitsOf W b).length : Int) == 0) = false := beq_no (by omega)
  have HRX := Lib.hid hRX
  have HRY := Lib.hid hRY
  clear hRX hRY
  rw [HYB.out] at HRY hne ⊢
  go_wp2_with fail
  refine (cmp_any a b (by omega) (by omega) w2).mono ?_
  rintro e w3 ⟨rfl, hB3⟩
  have hc0 := HC.out.1
  have hc1 := HC.out.2
  generalize cmpI a b = cc at *
  have HBX3 := Lib.hid (HBX2.out.on (B := w2.heap.size) hs2 hB3)
  have hsx := HRX.out.lt
  have HRX3 := Lib.hid (HRX.out.below hB3 HRX.out.lt)
  have HRY3 := HRY.out.below hB3 HRY.out.lt
  have hcy : w3.cell? ⟨w1.heap.size + 1, 0, none⟩ = some (.int .u32 (b : Nat)) := HRY3.cell (u32s_get [b] 0 b rfl)
  clear hB3 HBX2 j1 j2 HRX HRY HRY3 HC
  go_wp2_with fail
  have hXl := digitsOf_lt (B := W) (by decide) a
  have HS := Lib.hid (shr_digs W b hb0 (digitsOf W a))
  rw [digs_digitsOf (by decide)] at HS
  have HSL := Lib.hid (shr_lt W b hb0 (digitsOf W a) hXl)
  have HSN := Lib.hid (shr_length W b (digitsOf W a))
  have HSU : Hid (shrunk (digitsOf W a) (digitsOf W a).length b 0 = (shr W b (digitsOf W a)).1) := by
    unfold Hid shrunk
    rw [List.take_zero, List.nil_append, List.take_of_length_le (Nat.le_refl _), List.drop_zero, List.drop_eq_nil_of_le (Nat.le_refl _), List.append_nil]
  refine (shrink_any (w0.heap.size + 1) 83 (digitsOf W a).length (digitsOf W a).length b (digitsOf W a) (Nat.le_refl _) hXl hb0 hb1 (by omega) w3 HRX3.out).mono ?_
  rintro e w4 ⟨rfl, hR4, hg4⟩
  rw [List.take_of_length_le (Nat.le_refl _), digs_digitsOf (by decide)]
  rw [HSU.out] at hR4
  have hs3 := HBX3.out.size
  have HBX4 := Lib.hid (HBX3.out.on (B := w.heap.size + 4) (Nat.le_refl _) (grown_below hg4 (by omega) (by simp; omega)))
  have HR4 := Lib.hid hR4
  have hmod : a % b < 4294967296 := Nat.lt_trans (Nat.mod_lt _ hb0) hb1
  clear hR4 hg4 HBX3 HRX3 hcy HSU
  generalize (shr W b (digitsOf W a)).1 = Q at *
  generalize ha2 : a % b = r at *
  generalize ha3 : a / b = q at *
  have HQE := Lib.hid ha2
  have HQE2 := Lib.hid ha3
  clear ha2 ha3
  generalize (digitsOf W a).length = nx at *
  go_wp2_with fail
  refine (from_any (some ⟨w0.heap.size + 1, 0, none⟩) Q nx nx HSN.out HSL.out (by omega) w4 (CellsU.ofRow HR4.out)).mono ?_
  rintro e w5 ⟨rfl, hB5⟩
  rw [HS.out.1]
  have HBX5 := Lib.hid (HBX4.out.on (B := w4.heap.size) HBX4.out.size hB5)
  clear hB5 HBX4 HR4
  unfold natV
  go_wp2_with fail
  refine (of_any r (by omega) w5).mono ?_
  rintro e w6 ⟨rfl, hB6⟩
  have HBX6 := Lib.hid (HBX5.out.on (B := w5.heap.size) HBX5.out.size hB6)
  have bc1 := HBX6.out.c1
  have bf1 := HBX6.out.f1
  have bc2 := HBX6.out.c2
  have bf2 := HBX6.out.f2
  clear hB6 HBX5
  unfold natV
  go_wp2_with fail
  exact bodyPost_ret (v := .tuple #[natV q, natV r, .bool true]) (by simp [results, Try.results48, go_sem, natV, bc1, bc2]) rfl ⟨rfl, (HBX6.out.below.setCell (by simp; omega) _).setCell (by simp; omega) _⟩
end Go.Proofs.Ytlomlcljjidfjaa
