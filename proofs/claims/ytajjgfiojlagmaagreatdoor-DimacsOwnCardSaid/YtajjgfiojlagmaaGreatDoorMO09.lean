/- Texts of this claim, joined: WDiv, WDivB, WGcd. -/
import Derived.Test.YtajjgfiojlagmaaGreatDoorMO08
import Derived.Test.YtajjgfiojlagmaaGreatDoorMO05
import Derived.Deep.LoopGhost

/- Div. -/
namespace Go.Proofs.YtajjgfiojlagmaaGreatDoor
open Go.RowKit Num

theorem four_boxes (w : World) (s t : ByteArray) (T : TypeId) : ∃ w0, w0 = (((w.alloc (Obj.cells #[Value.string s] T)).alloc (Obj.cells #[Value.string t] T)).alloc (Obj.cells #[Value.string { data := #[] }] T)).alloc (Obj.cells #[Value.string { data := #[] }] T) ∧
    w0.cell? ⟨w.heap.size, 0, none⟩ = some (.string s) ∧ w0.cell? ⟨w.heap.size + 1, 0, none⟩ = some (.string t) ∧ w0.cell? ⟨w.heap.size + 1 + 1, 0, none⟩ = some (.string { data := #[] }) ∧
    w0.frozen? ⟨w.heap.size + 1 + 1, 0, none⟩ = false ∧ w0.cell? ⟨w.heap.size + 1 + 1 + 1, 0, none⟩ = some (.string { data := #[] }) ∧
    w0.frozen? ⟨w.heap.size + 1 + 1 + 1, 0, none⟩ = false ∧ w.heap.size + 4 ≤ w0.heap.size ∧ Hid (Below w.heap.size w w0) :=
  ⟨_, rfl, by simp [go_sem], by simp [go_sem], by simp [go_sem], by simp [go_sem], by simp [go_sem], by simp [go_sem], by simp, ((((Below.refl _ _).alloc (Nat.le_refl _) _).alloc (by simp) _).alloc (by simp; omega) _).alloc (by simp; omega) _⟩

theorem nb_zero2 : nb 0 = { data := #[] } := rfl

structure Boxes (w wx : World) : Prop where
  c1 : wx.cell? ⟨w.heap.size + 1 + 1, 0, none⟩ = some (.string { data := #[] })
  f1 : wx.frozen? ⟨w.heap.size + 1 + 1, 0, none⟩ = false
  c2 : wx.cell? ⟨w.heap.size + 1 + 1 + 1, 0, none⟩ = some (.string { data := #[] })
  f2 : wx.frozen? ⟨w.heap.size + 1 + 1 + 1, 0, none⟩ = false
  below : Below w.heap.size w wx
  size : w.heap.size + 4 ≤ wx.heap.size

theorem Boxes.on {w wx wy : World} (h : Boxes w wx) {B : Nat} (hB : w.heap.size + 4 ≤ B) (hb : Below B wx wy) : Boxes w wy :=
  ⟨below_cell hb (by omega) h.c1, by rw [hb.frozen (p := ⟨w.heap.size + 1 + 1, 0, none⟩) (by simp; omega)]; exact h.f1,
   below_cell hb (by omega) h.c2, by rw [hb.frozen (p := ⟨w.heap.size + 1 + 1 + 1, 0, none⟩) (by simp; omega)]; exact h.f2,
   h.below.trans (hb.mono (by omega)), Nat.le_trans h.size hb.size⟩
theorem Boxes.drew {w wx : World} (h : Boxes w wx) : Boxes w wx.drew := h.on (Nat.le_refl _) (Below.refl _ _).drew

def DivPost (q r : Nat) (ok : Bool) (w : World) (e : Ending) (w' : World) : Prop :=
  e = .returned (.tuple #[natV q, natV r, .bool ok]) ∧ Below w.heap.size w w'

set_option maxHeartbeats 1600000 in
set_option maxRecDepth 100000 in
theorem div_zero (a : Nat) (ha : nl a ≤ 1073741824) (w : World) :
    Calls Tryz.prog 76 #[natV a, natV 0] w (DivPost 0 0 false w) := by
  have hb : nl 0 ≤ 1073741824 := by decide
  unfold natV
  go_enter Tryz.func76, Tryz.ntmps76
  go_wp2_with fail
  obtain ⟨w0, hw0, c1, c2, c3, f3, c4, f4, sz, HB⟩ := four_boxes w (nb a) (nb 0) 72
  rw [← hw0]
  clear hw0
  have HBX : Hid (Boxes w w0) := ⟨c3, f3, c4, f4, HB.out, sz⟩
  clear c3 f3 c4 f4 HB
  go_region_held3 (fun w' => w'.cell? ⟨w.heap.size, 0, none⟩ = some (.string (nb a)) ∧ w'.cell? ⟨w.heap.size + 1, 0, none⟩ = some (.string (nb 0)))
    (first | go_keep | exact ⟨by assumption, by assumption⟩)
    (first
      | (go_at_call 92; ((with_reducible refine (words_nb a (by omega) _).mono ?_); rintro e w1 ⟨rfl, hR1, hB1⟩; have k1 := below_cell hB1 (by simp; omega) c1; have k2 := below_cell hB1 (by simp; omega) c2))
      | (go_at_call 92; ((with_reducible refine (words_nb 0 (by omega) _).mono ?_); rintro e w2 ⟨rfl, hR2, hB2⟩; have j1 := below_cell hB2 (by have := hB1.size; simp at this; omega) k1; have j2 := below_cell hB2 (by have := hB1.size; simp at this; omega) k2)))
  have sz2 : w0.heap.size + 1 < w1.heap.size := by simpa using hR1.lt
  have HBX2 := Lib.hid ((HBX.out.drew.on (B := w0.heap.size) sz hB1).on (B := w1.heap.size) (by omega) hB2)
  have bc1 := HBX2.out.c1
  have bf1 := HBX2.out.f1
  have bc2 := HBX2.out.c2
  have bf2 := HBX2.out.f2
  clear hR1 hR2 hB1 hB2 c1 c2 k1 k2 HBX j1 j2
  rw [digitsOf_zero]
  go_wp2_with fail
  exact bodyPost_ret (v := .tuple #[natV 0, natV 0, .bool false]) (by simp [results, Tryz.results76, go_sem, natV_zero, bc1, bc2]) rfl ⟨rfl, (HBX2.out.below.setCell (by simp; omega) _).setCell (by simp; omega) _⟩

set_option maxHeartbeats 1600000 in
set_option maxRecDepth 100000 in
theorem div_less (a b : Nat) (ha : nl a ≤ 1073741824) (hb : nl b ≤ 1073741824) (hb0 : 0 < b) (hab : a < b) (w : World) :
    Calls Tryz.prog 76 #[natV a, natV b] w (DivPost 0 a true w) := by
  have HC := Lib.hid (cmpI_lt hab)
  have hpos : 0 < (digitsOf W b).length := List.length_pos_iff.2 (fun h => by have := (digitsOf_eq_nil (B := W) (by decide)).1 h; omega)
  have hwl := wlen_le b
  clear hab hb0
  unfold natV
  go_enter Tryz.func76, Tryz.ntmps76
  go_wp2_with fail
  obtain ⟨w0, hw0, c1, c2, c3, f3, c4, f4, sz, HB⟩ := four_boxes w (nb a) (nb b) 72
  rw [← hw0]
  clear hw0
  have HBX : Hid (Boxes w w0) := ⟨c3, f3, c4, f4, HB.out, sz⟩
  clear c3 f3 c4 f4 HB
  go_region_held3 (fun w' => w'.cell? ⟨w.heap.size, 0, none⟩ = some (.string (nb a)) ∧ w'.cell? ⟨w.heap.size + 1, 0, none⟩ = some (.string (nb b)))
    (first | go_keep | exact ⟨by assumption, by assumption⟩)
    (first
      | (go_at_call 92; ((with_reducible refine (words_nb a (by omega) _).mono ?_); rintro e w1 ⟨rfl, hR1, hB1⟩; have k1 := below_cell hB1 (by simp; omega) c1; have k2 := below_cell hB1 (by simp; omega) c2))
      | (go_at_call 92; ((with_reducible refine (words_nb b (by omega) _).mono ?_); rintro e w2 ⟨rfl, hR2, hB2⟩; have j1 := below_cell hB2 (by have := hB1.size; simp at this; omega) k1; have j2 := below_cell hB2 (by have := hB1.size; simp at this; omega) k2)))
  have sz2 : w0.heap.size + 1 < w1.heap.size := by simpa using hR1.lt
  have HBX2 := Lib.hid ((HBX.out.drew.on (B := w0.heap.size) sz hB1).on (B := w1.heap.size) (by omega) hB2)
  have hs2 := HBX2.out.size
  clear hR1 hR2 hB1 hB2 c1 c2 k1 k2 HBX
  have hne : (((digitsOf W b).length : Int) == 0) = false := beq_no (by omega)
  go_wp2_with fail
  refine (cmp_any a b (by omega) (by omega) w2).mono ?_
  rintro e w3 ⟨rfl, hB3⟩
  rw [HC.out]
  have i1 := below_cell hB3 (by omega) j1
  have HBX3 := Lib.hid (HBX2.out.on (B := w2.heap.size) hs2 hB3)
  have bc1 := HBX3.out.c1
  have bf1 := HBX3.out.f1
  have bc2 := HBX3.out.c2
  have bf2 := HBX3.out.f2
  clear hB3 HBX2 j1 j2
  go_wp2_with fail
  go_region
  all_goals
    go_wp2_with fail
    exact bodyPost_ret (v := .tuple #[natV 0, natV a, .bool true]) (by simp [results, Tryz.results76, go_sem, natV, nb_zero2, bc1, bc2]) rfl ⟨rfl, (HBX3.out.below.drew.setCell (by simp; omega) _).setCell (by simp; omega) _⟩

theorem Row.toOwns {w : World} {base g n : Nat} {E : TypeId} {xs : List Value} (h : Row w g E xs) (hb : base ≤ g) (hn : xs.length = n) (hm : n ≤ maxLen) :
    w.ownsRow base E 1 (.slice (some ⟨g, 0, none⟩) n n) n xs :=
  ⟨by omega, .inr ⟨g, n, xs.toArray, rfl, hb, h, Nat.le_refl _, hm, by simp [hn], by rw [Nat.mul_one, List.take_of_length_le]; simp [hn]⟩⟩

set_option maxHeartbeats 1600000 in
set_option maxRecDepth 100000 in
theorem div_one (a b : Nat) (ha : nl a ≤ 1073741824) (hb : nl b ≤ 1073741824) (hb0 : 0 < b) (hb1 : b < 4294967296) (hab : b ≤ a) (w : World) :
    Calls Tryz.prog 76 #[natV a, natV b] w (DivPost (a / b) (a % b) true w) := by
  have HC : Hid (0 ≤ cmpI a b ∧ cmpI a b ≤ 1) := by
    unfold Hid cmpI
    rw [if_neg (by omega)]; split <;> omega
  have HYB : Hid (digitsOf W b = [b]) := by
    unfold Hid
    rw [digitsOf_pos (by decide) hb0, Nat.mod_eq_of_lt hb1, Nat.div_eq_of_lt hb1, digitsOf_zero]
  have hpos : 0 < (digitsOf W b).length := by rw [HYB.out]; exact Nat.one_pos
  have hwl := wlen_le b
  have hwa := wlen_le a
  unfold natV
  go_enter Tryz.func76, Tryz.ntmps76
  go_wp2_with fail
  obtain ⟨w0, hw0, c1, c2, c3, f3, c4, f4, sz, HB⟩ := four_boxes w (nb a) (nb b) 72
  rw [← hw0]
  clear hw0
  have HBX : Hid (Boxes w w0) := ⟨c3, f3, c4, f4, HB.out, sz⟩
  clear c3 f3 c4 f4 HB
  go_region_held3 (fun w' => w'.cell? ⟨w.heap.size, 0, none⟩ = some (.string (nb a)) ∧ w'.cell? ⟨w.heap.size + 1, 0, none⟩ = some (.string (nb b)))
    (first | go_keep | exact ⟨by assumption, by assumption⟩)
    (first
      | (go_at_call 92; ((with_reducible refine (words_nb a (by omega) _).mono ?_); rintro e w1 ⟨rfl, hR1, hB1⟩; have k1 := below_cell hB1 (by simp; omega) c1; have k2 := below_cell hB1 (by simp; omega) c2))
      | (go_at_call 92; ((with_reducible refine (words_nb b (by omega) _).mono ?_); rintro e w2 ⟨rfl, hR2, hB2⟩; have j1 := below_cell hB2 (by have := hB1.size; simp at this; omega) k1; have j2 := below_cell hB2 (by have := hB1.size; simp at this; omega) k2)))
  have sz2 : w0.heap.size + 1 < w1.heap.size := by simpa using hR1.lt
  have HBX2 := Lib.hid ((HBX.out.drew.on (B := w0.heap.size) sz hB1).on (B := w1.heap.size) (by omega) hB2)
  have hs2 := HBX2.out.size
  have hRX : Row w2 (w0.heap.size + 1) 116 (u32s (digitsOf W a)) := hR1.below hB2 sz2
  have hRY := hR2
  clear hR1 hR2 hB1 hB2 c1 c2 k1 k2 HBX
  have hne : (((digitsOf W b).length : Int) == 0) = false := beq_no (by omega)
  have HRX := Lib.hid hRX
  have HRY := Lib.hid hRY
  clear hRX hRY
  rw [HYB.out] at HRY hne ⊢
  go_wp2_with fail
  refine (cmp_any a b (by omega) (by omega) w2).mono ?_
  rintro e w3 ⟨rfl, hB3⟩
  have hc0 := HC.out.1
  have hc1 := HC.out.2
  generalize cmpI a b = cc at *
  have HBX3 := Lib.hid (HBX2.out.on (B := w2.heap.size) hs2 hB3)
  have hsx := HRX.out.lt
  have HRX3 := Lib.hid (HRX.out.below hB3 HRX.out.lt)
  have HRY3 := HRY.out.below hB3 HRY.out.lt
  have hcy : w3.cell? ⟨w1.heap.size + 1, 0, none⟩ = some (.int .u32 (b : Nat)) := HRY3.cell (u32s_get [b] 0 b rfl)
  clear hB3 HBX2 j1 j2 HRX HRY HRY3 HC
  go_wp2_with fail
  have hXl := digitsOf_lt (B := W) (by decide) a
  have HS := Lib.hid (shr_digs W b hb0 (digitsOf W a))
  rw [digs_digitsOf (by decide)] at HS
  have HSL := Lib.hid (shr_lt W b hb0 (digitsOf W a) hXl)
  have HSN := Lib.hid (shr_length W b (digitsOf W a))
  have HSU : Hid (shrunk (digitsOf W a) (digitsOf W a).length b 0 = (shr W b (digitsOf W a)).1) := by
    unfold Hid shrunk
    rw [List.take_zero, List.nil_append, List.take_of_length_le (Nat.le_refl _), List.drop_zero, List.drop_eq_nil_of_le (Nat.le_refl _), List.append_nil]
  refine (shrink_any (w0.heap.size + 1) 116 (digitsOf W a).length (digitsOf W a).length b (digitsOf W a) (Nat.le_refl _) hXl hb0 hb1 (by omega) w3 HRX3.out).mono ?_
  rintro e w4 ⟨rfl, hR4, hg4⟩
  rw [List.take_of_length_le (Nat.le_refl _), digs_digitsOf (by decide)]
  rw [HSU.out] at hR4
  have hs3 := HBX3.out.size
  have HBX4 := Lib.hid (HBX3.out.on (B := w.heap.size + 4) (Nat.le_refl _) (grown_below hg4 (by omega) (by simp; omega)))
  have HR4 := Lib.hid hR4
  have hmod : a % b < 4294967296 := Nat.lt_trans (Nat.mod_lt _ hb0) hb1
  clear hR4 hg4 HBX3 HRX3 hcy HSU
  generalize (shr W b (digitsOf W a)).1 = Q at *
  generalize ha2 : a % b = r at *
  generalize ha3 : a / b = q at *
  have HQE := Lib.hid ha2
  have HQE2 := Lib.hid ha3
  clear ha2 ha3
  generalize (digitsOf W a).length = nx at *
  go_wp2_with fail
  refine (from_any (some ⟨w0.heap.size + 1, 0, none⟩) Q nx nx HSN.out HSL.out (by omega) w4 (CellsU.ofRow HR4.out)).mono ?_
  rintro e w5 ⟨rfl, hB5⟩
  rw [HS.out.1]
  have HBX5 := Lib.hid (HBX4.out.on (B := w4.heap.size) HBX4.out.size hB5)
  clear hB5 HBX4 HR4
  unfold natV
  go_wp2_with fail
  refine (of_any r (by omega) w5).mono ?_
  rintro e w6 ⟨rfl, hB6⟩
  have HBX6 := Lib.hid (HBX5.out.on (B := w5.heap.size) HBX5.out.size hB6)
  have bc1 := HBX6.out.c1
  have bf1 := HBX6.out.f1
  have bc2 := HBX6.out.c2
  have bf2 := HBX6.out.f2
  clear hB6 HBX5
  unfold natV
  go_wp2_with fail
  exact bodyPost_ret (v := .tuple #[natV q, natV r, .bool true]) (by simp [results, Tryz.results76, go_sem, natV, bc1, bc2]) rfl ⟨rfl, (HBX6.out.below.setCell (by simp; omega) _).setCell (by simp; omega) _⟩
end Go.Proofs.YtajjgfiojlagmaaGreatDoor

/- Div: the long way. -/
namespace Go.Proofs.YtajjgfiojlagmaaGreatDoor
open Go.RowKit Num

theorem CellsU.take {w : World} {a : Option Addr} {l : List Nat} (h : CellsU w a l) (n : Nat) : CellsU w a (l.take n) := by
  intro i d hd
  rw [List.getElem?_take] at hd
  split at hd
  · exact h i d hd
  · cases hd

theorem CellsU.on {w w' : World} {g B : Nat} {l : List Nat} (h : CellsU w (some ⟨g, 0, none⟩) l) (hb : Below B w w') (hg : g < B) : CellsU w' (some ⟨g, 0, none⟩) l := by
  intro i d hd
  obtain ⟨b, o, e, hc⟩ := h i d hd
  simp only [Option.some.injEq, Addr.mk.injEq, and_true] at e
  refine ⟨b, o, by rw [e.1, e.2], below_cell hb (by omega) hc⟩

set_option maxHeartbeats 3200000 in
set_option maxRecDepth 100000 in
theorem div_big (a b : Nat) (ha : nl a ≤ 536870912) (hb : nl b ≤ 536870912) (hb1 : 4294967296 ≤ b) (hab : b ≤ a) (w : World) :
    Calls Tryz.prog 76 #[natV a, natV b] w (DivPost (a / b) (a % b) true w) := by
  obtain ⟨i0, hi, hz0, hz1, hz2⟩ := info_parts Tryz.infoU32
  have HC : Hid (0 ≤ cmpI a b ∧ cmpI a b ≤ 1) := by
    unfold Hid cmpI
    rw [if_neg (by omega)]; split <;> omega
  have hn2 : 2 ≤ (digitsOf W b).length := by
    rcases Nat.lt_or_ge (digitsOf W b).length 2 with h | h
    · exfalso
      have h1 := lt_pow_length (B := W) (by decide) b
      have h2 : W ^ (digitsOf W b).length ≤ W ^ 1 := Nat.pow_le_pow_right (by decide) (by omega)
      have h3 : W ^ 1 = 4294967296 := by decide
      omega
    · exact h
  have hpos : 0 < (digitsOf W b).length := by omega
  have hlyx : (digitsOf W b).length ≤ (digitsOf W a).length := length_le_of_lt_pow (by decide) _ _ (Nat.lt_of_le_of_lt hab (lt_pow_length (by decide) a))
  have hwl := wlen_le b
  have hwa := wlen_le a
  unfold natV
  go_enter Tryz.func76, Tryz.ntmps76
  go_wp2_with fail
  obtain ⟨w0, hw0, c1, c2, c3, f3, c4, f4, sz, HB⟩ := four_boxes w (nb a) (nb b) 72
  rw [← hw0]
  clear hw0
  have HBX : Hid (Boxes w w0) := ⟨c3, f3, c4, f4, HB.out, sz⟩
  clear c3 f3 c4 f4 HB
  go_region_held3 (fun w' => w'.cell? ⟨w.heap.size, 0, none⟩ = some (.string (nb a)) ∧ w'.cell? ⟨w.heap.size + 1, 0, none⟩ = some (.string (nb b)))
    (first | go_keep | exact ⟨by assumption, by assumption⟩)
    (first
      | (go_at_call 92; ((with_reducible refine (words_nb a (by omega) _).mono ?_); rintro e w1 ⟨rfl, hR1, hB1⟩; have k1 := below_cell hB1 (by simp; omega) c1; have k2 := below_cell hB1 (by simp; omega) c2))
      | (go_at_call 92; ((with_reducible refine (words_nb b (by omega) _).mono ?_); rintro e w2 ⟨rfl, hR2, hB2⟩; have j1 := below_cell hB2 (by have := hB1.size; simp at this; omega) k1; have j2 := below_cell hB2 (by have := hB1.size; simp at this; omega) k2)))
  have sz2 : w0.heap.size + 1 < w1.heap.size := by simpa using hR1.lt
  have HBX2 := Lib.hid ((HBX.out.drew.on (B := w0.heap.size) sz hB1).on (B := w1.heap.size) (by omega) hB2)
  have hs2 := HBX2.out.size
  have hRX : Row w2 (w0.heap.size + 1) 116 (u32s (digitsOf W a)) := hR1.below hB2 sz2
  have hRY := hR2
  clear hR1 hR2 hB1 hB2 c1 c2 k1 k2 HBX
  have hne : (((digitsOf W b).length : Int) == 0) = false := beq_no (by omega)
  have HRX := Lib.hid hRX
  have HRY := Lib.hid hRY
  clear hRX hRY
  go_wp2_with fail
  refine (cmp_any a b (by omega) (by omega) w2).mono ?_
  rintro e w3 ⟨rfl, hB3⟩
  have hc0 := HC.out.1
  have hc1 := HC.out.2
  generalize cmpI a b = cc at *
  have HBX3 := Lib.hid (HBX2.out.on (B := w2.heap.size) hs2 hB3)
  have HRX3 := Lib.hid (HRX.out.below hB3 HRX.out.lt)
  have HRY3 := Lib.hid (HRY.out.below hB3 HRY.out.lt)
  have HXL := Lib.hid (digitsOf_lt (B := W) (by decide) a)
  have HYL := Lib.hid (digitsOf_lt (B := W) (by decide) b)
  have HXE := Lib.hid (digs_digitsOf (B := W) (by decide) a)
  have HYE := Lib.hid (digs_digitsOf (B := W) (by decide) b)
  have hcan := digitsOf_canon (B := W) (by decide) b
  have hs3 := Nat.le_trans hs2 hB3.size
  have hgx3 : w0.heap.size + 1 < w3.heap.size := HRX3.out.lt
  have hgy3 : w1.heap.size + 1 < w3.heap.size := HRY3.out.lt
  have hgne : w0.heap.size + 1 ≠ w1.heap.size + 1 := by omega
  have hgx4 : w.heap.size + 4 ≤ w0.heap.size + 1 := by omega
  have hgy4 : w.heap.size + 4 ≤ w1.heap.size + 1 := by omega
  clear hB3 HBX2 j1 j2 HRX HRY HC
  obtain ⟨Y0, y, hYy⟩ : ∃ Y0 y, digitsOf W b = Y0 ++ [y] := by
    rcases List.eq_nil_or_concat (digitsOf W b) with h | ⟨l, x, h⟩
    · rw [h] at hpos; simp at hpos
    · exact ⟨l, x, by simpa using h⟩
  rw [hYy] at hn2 hpos hlyx hwl hne HRY3 HYL HYE hcan ⊢
  clear hYy
  have hy0 : y ≠ 0 := by
    unfold Canon at hcan
    rw [List.getLast?_append] at hcan
    simpa using hcan
  have hyW : y < 4294967296 := HYL.out y (by simp)
  have hY0l : AllLt W Y0 := fun z hz => HYL.out z (by simp [hz])
  have HY0 := Lib.hid hY0l
  have HBL : Hid (Lib.bitLen y = blen y) := bitLen_eq y (by omega)
  have hbl1 : y < 2 ^ blen y := lt_pow_length (by omega) y
  have hbl2 : blen y ≤ 32 := length_le_of_lt_pow (by omega) 32 y (by simpa using hyW)
  have hbl0 : 0 < blen y := Nat.pos_of_ne_zero (fun h => hy0 ((digitsOf_eq_nil (B := 2) (by omega)).1 (List.eq_nil_of_length_eq_zero h)))
  have hbl3 : 2 ^ (blen y - 1) ≤ y := pow_le_of_length (by omega) y _ (by unfold blen at hbl0 ⊢; omega)
  obtain ⟨s, hs⟩ : ∃ s, s = 32 - blen y := ⟨_, rfl⟩
  have hs31 : s ≤ 31 := by omega
  have hsI : (32 : Int) - (blen y : Nat) = (s : Nat) := by omega
  rw [show blen y = 32 - s by omega] at hbl1
  rw [show blen y - 1 = 31 - s by omega] at hbl3
  have HSY := Lib.hid (shl_y Y0 y s hs31 hY0l hbl1 hbl3)
  have HSX := Lib.hid (shl_x (digitsOf W a) s hs31 HXL.out)
  rw [HXE.out] at HSX
  rw [HYE.out] at HSY
  have HSI := Lib.hid hsI
  have hyl : (Y0 ++ [y]).length = Y0.length + 1 := by simp
  rw [hyl] at hn2 hpos hlyx hwl hne ⊢
  clear hcan hY0l hbl1 hbl2 hbl0 hbl3 hs hsI hy0 hyl
  have hcy : w3.cell? ⟨w1.heap.size + 1, Y0.length, none⟩ = some (.int .u32 (y : Nat)) :=
    HRY3.out.cell (u32s_get _ _ _ (by rw [List.getElem?_append_right (Nat.le_refl _), Nat.sub_self]; rfl))
  generalize w0.heap.size + 1 = gx at *
  generalize w1.heap.size + 1 = gy at *
  generalize digitsOf W a = X at *
  have hxl : X.length < X.length + 1 := Nat.lt_succ_self _
  have hyx : (((Y0.length + 1 : Nat) : Int) == 1) = false := beq_no (by omega)
  go_wp2_with fail
  refine (Tryz.bits_LeadingZeros32 y _ (by omega) (by omega)).mono ?_
  rintro e w3' ⟨rfl, hw3⟩
  rw [hw3, Int.toNat_natCast, HBL.out, HSI.out]
  clear hw3 hcy w3' HBL HSI
  have HO3 := Lib.hid (Row.toOwns (base := w.heap.size + 4) HRX3.out hgx4 (by simp [u32s]) (show X.length ≤ maxLen by unfold maxLen; omega))
  go_wp2_with (at_builtin; refine wpList_append_own _ rfl _ _ 114 rfl (w.heap.size + 4) 116 i0 (.int .u32 0) 1 4 Tryz.underlying114 hi hz0 hz1 hz2 rfl (by decide) _ _ _ rfl (HO3.out.alloc _) ⟨w3.heap.size, 0, none⟩ 1 1 [.int .u32 0] rfl rfl ?_ ?_ ?_ ?_ ?_ ?_)
  · exact cell_one_new _ _ _
  · intro u hu; simp at hu; subst hu; rfl
  · unfold maxLen; omega
  · omega
  · simp; omega
  intro v4 w4 hown4 hgr4 _
  have hB4 : Below (w.heap.size + 4) w3 w4 := ((Below.refl _ _).alloc (by omega) _).grown hgr4 (by simp; omega) (fun i hi => by have := (HO3.out.lt i hi).1; omega)
  have HBX4 := Lib.hid (HBX3.out.on (Nat.le_refl _) hB4)
  have HRY4 := Lib.hid ((HRY3.out.alloc (.cells #[.int .u32 0] 116)).grown hgr4 (by simp [Value.ownBlock]; exact hgne))
  have hS4 : SlW (w.heap.size + 4) 116 (X ++ [0]) v4 w4 := SlW.of (by
    have e : u32s (X ++ [0]) = u32s X ++ [Value.int IntKind.u32 0] := by simp [u32s]
    rw [e]; simpa using hown4)
  obtain ⟨a4, cap4, rfl, hO4⟩ := hS4
  have HO4 := Lib.hid hO4
  have hs4 : w3.heap.size ≤ w4.heap.size := hB4.size
  clear hown4 hgr4 hB4 HO3 HRX3 HRY3 HBX3 hO4
  have hxl1 : (X ++ [0]).length = X.length + 1 := by simp
  rw [hxl1] at HO4 ⊢
  clear hxl1
  have HXL1 : Hid (AllLt W (X ++ [0])) := HXL.out.append (AllLt.cons (by decide) (AllLt.nil W))
  go_wp2_with fail
  refine (shifted_any a4 (X.length + 1) cap4 s (X ++ [0]) (by simp) HXL1.out hs31 (by omega) w4 (CellsU.ofOwns HO4.out)).mono ?_
  rintro e w5 ⟨rfl, hR5, hB5⟩
  have HBX5 := Lib.hid (HBX4.out.on HBX4.out.size hB5)
  have HRY5 := Lib.hid (HRY4.out.below hB5 HRY4.out.lt)
  have HR5 := Lib.hid hR5
  have hs5 : w4.heap.size < w5.heap.size := hR5.lt
  clear hR5 hB5 HBX4 HRY4 HO4
  go_wp2_with fail
  refine (shifted_any (some ⟨gy, 0, none⟩) (Y0.length + 1) (Y0.length + 1) s (Y0 ++ [y]) (by simp) HYL.out hs31 (by omega) w5 (CellsU.ofRow HRY5.out)).mono ?_
  rintro e w6 ⟨rfl, hR6, hB6⟩
  have HBX6 := Lib.hid (HBX5.out.on HBX5.out.size hB6)
  have HR5' := Lib.hid (HR5.out.below hB6 hs5)
  have HR6 := Lib.hid hR6
  have hs6 : w5.heap.size < w6.heap.size := hR6.lt
  have hbs4 : w.heap.size + 4 ≤ w4.heap.size := by omega
  clear hR6 hB6 HBX5 HRY5 HR5
  have HSXL := Lib.hid (shl_length (X ++ [0]) s)
  have HSYL := Lib.hid (shl_length (Y0 ++ [y]) s)
  have HSXT := Lib.hid (shl_lt (X ++ [0]) s)
  have HSYT := Lib.hid (shl_lt (Y0 ++ [y]) s)
  have hyt := HSY.out.2
  have hless : digs W ((shl (X ++ [0]) s).drop (X.length + 1 - (Y0.length + 1))) < digs W (shl (Y0 ++ [y]) s) := by
    have l1 : (shl (X ++ [0]) s).length = X.length + 1 := by rw [HSXL.out]; simp
    have l2 : (shl (Y0 ++ [y]) s).length = Y0.length + 1 := by rw [HSYL.out]; simp
    refine digs_lt_of_top (by decide) (HSXT.out.drop _) (by rw [List.length_drop, l1, l2]; omega) Y0.length (by rw [List.length_drop, l1]; omega) ?_ (fun j hj => ?_)
    · rw [getD_drop, show X.length + 1 - (Y0.length + 1) + Y0.length = X.length by omega]
      have h1 := HSX.out.2
      have h2 : (2 : Nat) ^ s ≤ 2 ^ 31 := Nat.pow_le_pow_right (by omega) hs31
      have h3 : (2 : Nat) ^ 31 = 2147483648 := by decide
      omega
    · rw [List.getD_eq_getElem?_getD, List.getElem?_eq_none (by rw [List.length_drop, l1]; omega), List.getD_eq_getElem?_getD, List.getElem?_eq_none (by rw [l2]; omega)]
  have HLS := Lib.hid hless
  have hSX1 := HSX.out.1
  have hSY1 := HSY.out.1
  have HSX1 := Lib.hid hSX1
  have HSY1 := Lib.hid hSY1
  have hlX : (shl (X ++ [0]) s).length = X.length + 1 := by rw [HSXL.out]; simp
  have hlY : (shl (Y0 ++ [y]) s).length = Y0.length + 1 := by rw [HSYL.out]; simp
  have HLX := Lib.hid hlX
  have HLY := Lib.hid hlY
  clear hless hSX1 hSY1 HSXL HSYL HSX HSY hlX hlY
  generalize shl (X ++ [0]) s = SX at *
  generalize shl (Y0 ++ [y]) s = SY at *
  have HYT := Lib.hid hyt
  clear hyt
  go_wp2_with fail
  refine (long_any w4.heap.size w5.heap.size 116 (X.length + 1) (Y0.length + 1) (X.length + 1) (Y0.length + 1) SX SY HLX.out HSXT.out HLY.out hn2 HSYT.out HYT.out (by omega) (Nat.le_refl _) (Nat.le_refl _) (by omega) (by omega) HLS.out (by omega) w6 HR5'.out HR6.out).mono ?_
  rintro e w7 ⟨rfl, hg7, R, Q, hRx7, hRq7, hI7⟩
  rw [HLY.out]
  have HBX7 := Lib.hid (HBX6.out.on (Nat.le_refl _) (grown_below hg7 (by omega) (by simp; omega)))
  have HRx7 := Lib.hid hRx7
  have HRq7 := Lib.hid hRq7
  have HEND := Lib.hid (long_end hI7)
  rw [HSX1.out, HSY1.out] at HEND
  have HQL := Lib.hid hI7.ql
  have HRL := Lib.hid hI7.xl
  have HRT := Lib.hid hI7.xlt
  have HQT := Lib.hid hI7.qlt
  rw [HLY.out] at HQL
  have hs7 : w6.heap.size < w7.heap.size := hRq7.lt
  have hRv : digs W R < digs W SY := by have := hI7.less; rwa [List.drop_zero] at this
  have HRV := Lib.hid hRv
  clear hg7 hRx7 hRq7 hI7 hRv HBX6 HR5' HR6 HLS
  as_aux_lemma =>
    go_wp2_with fail
    have HSTEP := Lib.hid (srT_set s (Y0.length + 1) R (by rw [HRL.out]; omega))
    have HGET := Lib.hid (srT_get s (Y0.length + 1) R (by rw [HRL.out]; omega))
    have HFULL := Lib.hid (srT_full s (Y0.length + 1) R (by rw [HRL.out]; omega))
    go_loopw [65] (fun iv wr => ∃ k : Nat, k ≤ Y0.length + 1 ∧ iv = .int .i64 (k : Nat) ∧ Row wr w4.heap.size 116 (u32s (srT s (Y0.length + 1) R k)) ∧ Row wr w6.heap.size 116 (u32s Q) ∧ Boxes w wr)
      (fun iv _ => Y0.length + 1 - (intOf iv).toNat)
    case atStart => exact ⟨0, Nat.zero_le _, rfl, by rw [srT_zero]; exact HRx7.out, HRq7.out, HBX7.out⟩
    case round =>
     as_aux_lemma =>
      obtain ⟨k, hk, rfl, hR, hRq, hbx⟩ := hrel
      clear HRx7 HRq7 HBX7
      have HR := Lib.hid hR
      have HRq := Lib.hid hRq
      have HBX := Lib.hid hbx
      clear hR hRq hbx
      by_cases hlk : k < Y0.length + 1
      · have hc := HR.out.cell (u32s_get _ _ _ (HGET.out k k hk (Nat.le_refl _) (by rw [HRL.out]; omega)))
        have hf := HR.out.free k
        have hst := HSTEP.out k hlk
        have hx := HRT.out.getD (by decide) k
        unfold W at hx
        have hc2 : k + 1 < Y0.length + 1 → wr.cell? ⟨w4.heap.size, k + 1, none⟩ = some (.int .u32 (R.getD (k + 1) 0 : Nat)) := fun h => HR.out.cell (u32s_get _ _ _ (HGET.out k (k + 1) hk (by omega) (by rw [HRL.out]; omega)))
        have hnx : k + 1 < Y0.length + 1 → (R.take (Y0.length + 1)).getD (k + 1) 0 = R.getD (k + 1) 0 := fun h => by rw [getD_take, if_pos h]
        have hnx0 : ¬ k + 1 < Y0.length + 1 → (R.take (Y0.length + 1)).getD (k + 1) 0 = 0 := fun h => by rw [getD_take, if_neg h]
        generalize (R.take (Y0.length + 1)).getD (k + 1) 0 = nx at *
        generalize R.getD (k + 1) 0 = x1 at *
        generalize R.getD k 0 = x at *
        have HST := Lib.hid hst
        clear hst
        by_cases hb2 : k + 1 < Y0.length + 1
        · have hc2 := hc2 hb2
          have hnx := hnx hb2
          clear hnx0
          by_cases hs0 : 0 < s
          · as_aux_lemma =>
            have HW := Lib.hid (srw_word s x x1 hs0 hs31 hx)
            rw [hnx] at HST
            clear hnx
            go_wp2_with fail
            refine wp_region_tail 13 (by kernel_rfl) (by kernel_rfl) ?_
            simp only [List.take_succ_cons, List.take_zero, List.drop_succ_cons, List.drop_zero]
            repeat (go_big_quiet_step (fail))
            refine wpQuiet_nil ?_
            rw [HW.out]
            go_wp2_with fail
            go_roundw
            case rel =>
              refine ⟨k + 1, by omega, by go_num, ?_, (HRq.out.setOther _ (by simp; omega) _).setOther _ (by simp; omega) _, (HBX.out.on (Nat.le_refl _) (((Below.refl _ _).setCell (p := ⟨w4.heap.size, k, none⟩) hbs4 _).setCell (p := ⟨w4.heap.size, k, none⟩) hbs4 _)).drew⟩
              have := (HR.out.set k (.int .u32 ((x : Int) / 2 ^ s))).set k (.int .u32 (srw s x x1 : Nat))
              rw [List.set_set, u32s_set, HST.out] at this
              exact this
            case measure => simp [intOf]; omega
          · as_aux_lemma =>
            have hs00 : s = 0 := by omega
            have HV : Hid ((x : Int) / 2 ^ s = (srw s x nx : Nat)) := by unfold Hid; rw [hs00, srw_zero]; simp
            clear hs00 hnx
            go_wp2_with fail
            go_roundw
            case rel =>
              refine ⟨k + 1, by omega, by go_num, ?_, HRq.out.setOther _ (by simp; omega) _, HBX.out.on (Nat.le_refl _) ((Below.refl _ _).setCell (p := ⟨w4.heap.size, k, none⟩) hbs4 _)⟩
              rw [HV.out]
              have := HR.out.set k (.int .u32 (srw s x nx : Nat))
              rw [u32s_set, HST.out] at this
              exact this
            case measure => simp [intOf]; omega
        · as_aux_lemma =>
          have hn0 := hnx0 hb2
          have HV : Hid ((x : Int) / 2 ^ s = (srw s x nx : Nat)) := by unfold Hid; rw [hn0, srw_last]; simp
          clear hnx hnx0 hc2 hn0
          go_wp2_with fail
          go_roundw
          case rel =>
            refine ⟨k + 1, by omega, by go_num, ?_, HRq.out.setOther _ (by simp; omega) _, HBX.out.on (Nat.le_refl _) ((Below.refl _ _).setCell (p := ⟨w4.heap.size, k, none⟩) hbs4 _)⟩
            rw [HV.out]
            have := HR.out.set k (.int .u32 (srw s x nx : Nat))
            rw [u32s_set, HST.out] at this
            exact this
          case measure => simp [intOf]; omega
      · as_aux_lemma =>
        obtain rfl : k = Y0.length + 1 := by omega
        clear HSTEP HGET
        have hslen := sr_take_length s (Y0.length + 1) R (by rw [HRL.out]; omega)
        have hR2 := HR.out
        rw [HFULL.out] at hR2
        have hpre : (sr s (R.take (Y0.length + 1)) ++ R.drop (Y0.length + 1)).take (Y0.length + 1) = sr s (R.take (Y0.length + 1)) := by
          rw [List.take_append_of_le_length (by omega), List.take_of_length_le (by omega)]
        have hCx := (CellsU.ofRow hR2).take (Y0.length + 1)
        rw [hpre] at hCx
        have hde := div_end a b s (Y0.length + 1) R Q SY (by omega) (by rw [HRL.out]; omega) HLY.out HSYT.out HRV.out HEND.out.2 HEND.out.1
        have hval := hde.1
        have hvq := hde.2
        clear hde
        have hsrt : AllLt W (sr s (R.take (Y0.length + 1))) := sr_lt s (by omega) _ (HRT.out.take _)
        have HCX := Lib.hid hCx
        have HVL := Lib.hid hval
        have HVQ := Lib.hid hvq
        have HSRT := Lib.hid hsrt
        have HSRL := Lib.hid hslen
        clear hCx hval hvq hsrt hslen hpre hR2 HR
        generalize sr s (R.take (Y0.length + 1)) = SR at *
        have hbs := HBX.out.size
        have hrlt : w6.heap.size < wr.heap.size := HRq.out.lt
        have hr4 : w4.heap.size < wr.heap.size := by omega
        have bc1 := HBX.out.c1
        have bf1 := HBX.out.f1
        have bc2 := HBX.out.c2
        have bf2 := HBX.out.f2
        have HB := Lib.hid HBX.out.below
        have hqc := CellsU.ofRow HRq.out
        have HQC := Lib.hid hqc
        clear hqc HBX HRq
        have HQL2 : Hid (Q.length = X.length - Y0.length) := by have := HQL.out; unfold Hid; omega
        go_wp2_with fail
        go_region_with (first
          | (go_at_call_of 73 (Value.slice (some ⟨w6.heap.size, 0, none⟩) (X.length - Y0.length) (X.length - Y0.length)); refine (from_any (some ⟨w6.heap.size, 0, none⟩) Q (X.length - Y0.length) (X.length - Y0.length) HQL2.out HQT.out (by omega) wr.drew HQC.out).mono ?_; rintro e w8 ⟨rfl, hB8⟩; rw [HVQ.out]; unfold natV)
          | (go_at_call 73; (refine (from_any (some ⟨w4.heap.size, 0, none⟩) SR (Y0.length + 1) (X.length + 1) HSRL.out HSRT.out (by omega) w8 (CellsU.on (w := wr.drew) HCX.out hB8 (by simp; omega))).mono ?_; rintro e w9 ⟨rfl, hB9⟩; rw [HVL.out]; unfold natV; have kc1 := below_cell hB9 (by have := hB8.size; simp at this; omega) (below_cell hB8 (by simp; omega) bc1); have kf1 : w9.frozen? ⟨w.heap.size + 1 + 1, 0, none⟩ = false := (by rw [hB9.frozen (p := ⟨w.heap.size + 1 + 1, 0, none⟩) (by have := hB8.size; simp at this ⊢; omega), hB8.frozen (p := ⟨w.heap.size + 1 + 1, 0, none⟩) (by simp; omega)]; simpa using bf1); have kc2 := below_cell hB9 (by have := hB8.size; simp at this; omega) (below_cell hB8 (by simp; omega) bc2); have kf2 : w9.frozen? ⟨w.heap.size + 1 + 1 + 1, 0, none⟩ = false := (by rw [hB9.frozen (p := ⟨w.heap.size + 1 + 1 + 1, 0, none⟩) (by have := hB8.size; simp at this ⊢; omega), hB8.frozen (p := ⟨w.heap.size + 1 + 1 + 1, 0, none⟩) (by simp; omega)]; simpa using bf2))))
        all_goals
          have HB9 := Lib.hid ((HB.out.drew.trans (hB8.mono (B' := w.heap.size) (by simp; omega))).trans (hB9.mono (B' := w.heap.size) (by have := hB8.size; simp at this; omega)))
          clear hB8 hB9
          go_wp2_with fail
          exact bodyPost_ret (v := .tuple #[natV (a / b), natV (a % b), .bool true]) (by simp [results, Tryz.results76, go_sem, natV, kc1, kc2]) rfl ⟨rfl, (HB9.out.setCell (by simp; omega) _).setCell (by simp; omega) _⟩
end Go.Proofs.YtajjgfiojlagmaaGreatDoor

/- Div at whatever numbers; Gcd. -/
namespace Go.Proofs.YtajjgfiojlagmaaGreatDoor
open Go.RowKit Num

theorem div_any (a b : Nat) (ha : nl a ≤ 536870912) (hb : nl b ≤ 536870912) (w : World) :
    Calls Tryz.prog 76 #[natV a, natV b] w (DivPost (a / b) (if b = 0 then 0 else a % b) (decide (b ≠ 0)) w) := by
  by_cases h0 : b = 0
  · subst h0
    rw [Nat.div_zero, if_pos rfl]
    exact div_zero a (by omega) w
  · rw [if_neg h0]
    have hd : decide (b ≠ 0) = true := by simp [h0]
    rw [hd]
    by_cases h1 : a < b
    · rw [Nat.div_eq_of_lt h1, Nat.mod_eq_of_lt h1]
      exact div_less a b (by omega) (by omega) (by omega) h1 w
    · by_cases h2 : b < 4294967296
      · exact div_one a b (by omega) (by omega) (by omega) h2 (by omega) w
      · exact div_big a b ha hb (by omega) (by omega) w

theorem div_pos (a b : Nat) (ha : nl a ≤ 536870912) (hb : nl b ≤ 536870912) (h0 : b ≠ 0) (w : World) :
    Calls Tryz.prog 76 #[natV a, natV b] w (DivPost (a / b) (a % b) true w) := by
  have h := div_any a b ha hb w
  rw [if_neg h0, show decide (b ≠ 0) = true by simp [h0]] at h
  exact h

set_option maxHeartbeats 800000 in
set_option maxRecDepth 100000 in
theorem gcd_any (a b : Nat) (ha : nl a ≤ 536870912) (hb : nl b ≤ 536870912) (w : World) :
    Calls Tryz.prog 75 #[natV a, natV b] w fun e w' => e = .returned (natV (Nat.gcd a b)) ∧ Below w.heap.size w w' := by
  unfold natV
  go_enter Tryz.func75, Tryz.ntmps75
  go_wp2_with fail
  go_loopg [] b (fun k wr => ∃ A B : Nat, B ≤ k ∧ Nat.gcd A B = Nat.gcd a b ∧ nl A ≤ 536870912 ∧ nl B ≤ 536870912 ∧ wr.cell? ⟨w.heap.size, 0, none⟩ = some (.string (nb A)) ∧ wr.frozen? ⟨w.heap.size, 0, none⟩ = false ∧
      wr.cell? ⟨w.heap.size + 1, 0, none⟩ = some (.string (nb B)) ∧ wr.frozen? ⟨w.heap.size + 1, 0, none⟩ = false ∧ wr.cell? ⟨w.heap.size + 1 + 1, 0, none⟩ = some (.string { data := #[] }) ∧ wr.frozen? ⟨w.heap.size + 1 + 1, 0, none⟩ = false ∧
      Below w.heap.size w wr ∧ w.heap.size + 3 ≤ wr.heap.size)
  case atStart =>
    exact ⟨a, b, Nat.le_refl _, rfl, ha, hb, by simp [go_sem], by simp [go_sem], by simp [go_sem], by simp [go_sem], by simp [go_sem], by simp [go_sem], (((Below.refl _ _).alloc (Nat.le_refl _) _).alloc (by simp) _).alloc (by simp; omega) _, by simp⟩
  case round =>
    obtain ⟨A, B, hBk, hg, hnA, hnB, c1, f1, c2, f2, c3, f3, hB, hsz⟩ := hrel
    have HG := Lib.hid hg
    have HB := Lib.hid hB
    have hsB := nb_size B
    clear hg hB
    by_cases h0 : B = 0
    · have HGA : Hid (A = Nat.gcd a b) := by unfold Hid; rw [← HG.out, h0, Nat.gcd_zero_right]
      have hz : nl B = 0 := nl_eq_zero.2 h0
      clear h0
      go_wp2_with fail
      exact bodyPost_ret (v := natV (Nat.gcd a b)) (by rw [← HGA.out]; simp [results, Tryz.results75, go_sem, natV, c3]) rfl ⟨rfl, HB.out.setCell (by simp; omega) _⟩
    · have hz : 0 < nl B := Nat.pos_of_ne_zero (fun h => h0 (nl_eq_zero.1 h))
      have H0 := Lib.hid h0
      clear h0
      go_wp2_with fail
      refine (div_pos A B hnA hnB H0.out wr).mono ?_
      rintro e w2 ⟨rfl, hB2⟩
      have d1 := below_cell hB2 (by omega) c1
      have d2 := below_cell hB2 (by omega) c2
      have d3 := below_cell hB2 (by omega) c3
      have e1 : w2.frozen? ⟨w.heap.size, 0, none⟩ = false := by rw [hB2.frozen (p := ⟨w.heap.size, 0, none⟩) (by simp; omega)]; exact f1
      have e2 : w2.frozen? ⟨w.heap.size + 1, 0, none⟩ = false := by rw [hB2.frozen (p := ⟨w.heap.size + 1, 0, none⟩) (by simp; omega)]; exact f2
      have e3 : w2.frozen? ⟨w.heap.size + 1 + 1, 0, none⟩ = false := by rw [hB2.frozen (p := ⟨w.heap.size + 1 + 1, 0, none⟩) (by simp; omega)]; exact f3
      have HB2 := Lib.hid (HB.out.trans (hB2.mono (B' := w.heap.size) (by omega)))
      have hs2 := Nat.le_trans hsz hB2.size
      clear hB2 c1 c2 c3 f1 f2 f3
      unfold natV
      go_wp2_with fail
      have hmod : A % B < B := Nat.mod_lt _ (Nat.pos_of_ne_zero H0.out)
      have hnm : nl (A % B) ≤ 536870912 := Nat.le_trans (nl_mono (Nat.le_of_lt hmod)) hnB
      have HGM : Hid (Nat.gcd B (A % B) = Nat.gcd a b) := by unfold Hid; rw [← HG.out, Nat.gcd_comm A B, Nat.gcd_rec B A, Nat.gcd_comm]
      have HB3 := Lib.hid ((HB2.out.alloc (by omega) (Obj.cells #[Value.string (nb (A / B))] 72)).alloc (by simp; omega) (Obj.cells #[Value.string (nb (A % B))] 72))
      have hs3 : w.heap.size + 3 ≤ ((w2.alloc (Obj.cells #[Value.string (nb (A / B))] 72)).alloc (Obj.cells #[Value.string (nb (A % B))] 72)).heap.size := by simp; omega
      have g0 : ((w2.alloc (Obj.cells #[Value.string (nb (A / B))] 72)).alloc (Obj.cells #[Value.string (nb (A % B))] 72)).cell? ⟨w2.heap.size + 1, 0, none⟩ = some (.string (nb (A % B))) := by simp [go_sem]
      have hB3 : Below w2.heap.size w2 ((w2.alloc (Obj.cells #[Value.string (nb (A / B))] 72)).alloc (Obj.cells #[Value.string (nb (A % B))] 72)) := ((Below.refl _ _).alloc (Nat.le_refl _) _).alloc (by simp) _
      generalize ((w2.alloc (Obj.cells #[Value.string (nb (A / B))] 72)).alloc (Obj.cells #[Value.string (nb (A % B))] 72)) = w3 at HB3 hs3 g0 hB3 ⊢
      replace d1 := below_cell hB3 (by omega) d1
      replace d2 := below_cell hB3 (by omega) d2
      replace d3 := below_cell hB3 (by omega) d3
      replace e1 : w3.frozen? ⟨w.heap.size, 0, none⟩ = false := by rw [hB3.frozen (p := ⟨w.heap.size, 0, none⟩) (by simp; omega)]; exact e1
      replace e2 : w3.frozen? ⟨w.heap.size + 1, 0, none⟩ = false := by rw [hB3.frozen (p := ⟨w.heap.size + 1, 0, none⟩) (by simp; omega)]; exact e2
      replace e3 : w3.frozen? ⟨w.heap.size + 1 + 1, 0, none⟩ = false := by rw [hB3.frozen (p := ⟨w.heap.size + 1 + 1, 0, none⟩) (by simp; omega)]; exact e3
      clear hB3
      go_region
      all_goals
        go_wp2_with fail
        go_roundg (A % B)
        case measure => omega
        case rel =>
          refine ⟨B, A % B, Nat.le_refl _, HGM.out, hnB, hnm, by simp [go_sem, d1], by simp [go_sem, e1], by simp [go_sem, d2], by simp [go_sem, e2], ?_, ?_, ?_, by simp; omega⟩
          · exact cell_setOther (cell_setOther (by simp [go_sem, d3]) (by simp; try omega)) (by simp; try omega)
          · exact frozen_setOther (frozen_setOther (by simp [go_sem, e3]) (by simp; try omega)) (by simp; try omega)
          · exact (((HB3.out.drew).setCell (by simp) _).setCell (by simp) _)
end Go.Proofs.YtajjgfiojlagmaaGreatDoor
