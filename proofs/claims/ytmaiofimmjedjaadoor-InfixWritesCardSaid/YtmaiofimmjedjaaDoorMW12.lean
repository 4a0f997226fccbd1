/- Texts of this claim, joined: JG, JH, JI, JJ. -/
import Derived.Test.YtmaiofimmjedjaaDoorMW09
import Derived.Test.YtmaiofimmjedjaaDoorMW11
import Derived.Deep.DeepCutAuto
import Derived.Test.YtmaiofimmjedjaaDoorMW06
import Derived.Deep.LoopGhost

/- The reader in memory; one gate more. -/
namespace Go.Proofs.YtmaiofimmjedjaaDoor
open Go.RowKit

theorem Tryd.infoGate : (Tryd.prog.info? 37).map (fun i => (i.zero, i.size, i.bytes)) = some (some (.agg #[.int .i64 0, .int .i64 0, .slice none 0 0]), 3, 40) := by kernel_rfl
def Rd (br : Nat) (l : List UInt8) (n nx o : Nat) (v : Value) (w : World) : Prop := w.heap[br]? = some (.cells #[.string ⟨l.toArray⟩, .int .i64 (n : Int), .int .i64 (nx : Int), .int .i64 (o : Int), v] 57 (0, 0))
def InsAt (w : World) (X : List Nat) (p : Option Addr) (xs : List Int) : Prop := ∀ k x, (ints xs)[k]? = some x → ∃ b o, b < w.heap.size ∧ b ∉ X ∧ p = some ⟨b, o, none⟩ ∧ w.cell? ⟨b, o + k, none⟩ = some x
theorem InsAt.keep {w w' : World} {X Y U : List Nat} {p : Option Addr} {xs : List Int} (h : InsAt w X p xs) (hB : Behind w U w') (hU : ∀ g ∈ U, g ∈ X ∨ w.heap.size ≤ g) (hY : ∀ g ∈ Y, g ∈ X ∨ w.heap.size ≤ g) : InsAt w' Y p xs := fun k x hk => by
  obtain ⟨b, o, h1, h2, h3, h4⟩ := h k x hk
  exact ⟨b, o, Nat.lt_of_lt_of_le h1 hB.size, fun hy => (hY b hy).elim h2 (fun e => by omega), h3, behind_cellX hB h4 (fun hu => (hU b hu).elim h2 (fun e => by omega))⟩
theorem InsAt.at {w : World} {X : List Nat} {p : Option Addr} {xs : List Int} (h : InsAt w X p xs) : AtN w.heap.size w p (ints xs) := fun k x hk => by
  obtain ⟨b, o, h1, _, h3, h4⟩ := h k x hk
  exact ⟨b, o, h1, h3, h4⟩
theorem InsAt.nil (w : World) (X : List Nat) (p : Option Addr) : InsAt w X p [] := fun k x hk => by simp [ints] at hk
structure GR (w : World) (base br : Nat) (E : List Nat) (v : Value) (gs : List Gt) : Prop where
  row : ∃ cl, RowV (inW w) 37 3 v gs.length cl ∧ ∀ (i : Nat) (g : Gt), gs[i]? = some g → ∃ p c, cl[i * 3]? = some (.int .i64 g.k) ∧ cl[i * 3 + 1]? = some (.int .i64 g.lit) ∧ cl[i * 3 + 2]? = some (.slice p g.ins.length c) ∧ InsAt w (br :: (rowBlk v ++ E)) p g.ins
  ge : ∀ g ∈ rowBlk v, base ≤ g ∧ g ≠ br
theorem GR.nil (w : World) (base br : Nat) (E : List Nat) : GR w base br E (.slice none 0 0) [] := ⟨⟨[], .nil, fun i g h => by simp at h⟩, fun g hg => by simp [rowBlk] at hg⟩
theorem GR.lt {w : World} {base br : Nat} {E : List Nat} {v : Value} {gs : List Gt} (h : GR w base br E v gs) : ∀ g ∈ rowBlk v, g < w.heap.size := by
  obtain ⟨cl, h1, _⟩ := h.row
  exact h1.lt
theorem GR.slice {w : World} {base br : Nat} {E : List Nat} {v : Value} {gs : List Gt} (h : GR w base br E v gs) : ∃ p c, v = .slice p gs.length c := by
  obtain ⟨cl, h1, _⟩ := h.row
  exact h1.slice
theorem GR.keep {w w' : World} {base br : Nat} {E E' : List Nat} {v : Value} {gs : List Gt} {U : List Nat} (h : GR w base br E v gs) (hB : Behind w U w') (hU : ∀ g ∈ U, g ∉ rowBlk v ∧ (g = br ∨ w.heap.size ≤ g ∨ g ∈ E)) (hE : ∀ g ∈ E', g ∈ E ∨ w.heap.size ≤ g) : GR w' base br E' v gs := by
  obtain ⟨cl, h1, h2⟩ := h.row
  refine ⟨⟨cl, h1.keep hB (fun g hg hu => (hU g hu).1 hg), fun i g hg => ?_⟩, h.ge⟩
  obtain ⟨p, c, k1, k2, k3, k4⟩ := h2 i g hg
  refine ⟨p, c, k1, k2, k3, k4.keep hB (fun g hg => ?_) (fun g hg => ?_)⟩
  · rcases (hU g hg).2 with rfl | h | h
    · exact .inl (by simp)
    · exact .inr h
    · exact .inl (by simp [h])
  · rcases List.mem_cons.1 hg with rfl | hg
    · exact .inl (by simp)
    · rcases List.mem_append.1 hg with hg | hg
      · exact .inl (by simp [hg])
      · exact (hE g hg).imp (fun e => by simp [e]) id
theorem GR.circ {w : World} {base br : Nat} {E : List Nat} {p : Option Addr} {m c : Nat} {gs : List Gt} (h : GR w base br E (.slice p m c) gs) : CircAt w.heap.size w p gs := by
  obtain ⟨cl, h1, h2⟩ := h.row
  obtain ⟨a, c', e, _, hA⟩ := rowV_at2 h1
  cases e
  intro i g hg
  obtain ⟨q, d, k1, k2, k3, k4⟩ := h2 i g hg
  obtain ⟨b, o, b1, b2, b3⟩ := hA _ _ k1
  obtain ⟨b', o', _, e2, b4⟩ := hA _ _ k2
  obtain ⟨b'', o'', _, e3, b5⟩ := hA _ _ k3
  rw [b2] at e2 e3
  cases e2
  cases e3
  exact ⟨b, o, q, d, b1, b2, b3, by rw [Nat.add_assoc]; exact b4, by rw [Nat.add_assoc]; exact b5, k4.at⟩

theorem GR.app {w w' : World} {base br : Nat} {E : List Nat} {v v' : Value} {gs : List Gt} {cl : List Value} {g : Gt} {p : Option Addr} {c : Nat} (h : GR w base br E v gs) (hcl : ∀ (i : Nat) (g : Gt), gs[i]? = some g → ∃ p c, cl[i * 3]? = some (.int .i64 g.k) ∧ cl[i * 3 + 1]? = some (.int .i64 g.lit) ∧ cl[i * 3 + 2]? = some (.slice p g.ins.length c) ∧ InsAt w (br :: (rowBlk v ++ E)) p g.ins)
    (hB : Behind w (br :: rowBlk v) w') (hlen : cl.length = gs.length * 3) (hr : RowV (inW w') 37 3 v' (gs.length + 1) (cl ++ [.int .i64 g.k, .int .i64 g.lit, .slice p g.ins.length c])) (hn : ∀ g ∈ rowBlk v', g ∈ rowBlk v ∨ w.heap.size ≤ g) (hI : InsAt w (br :: (rowBlk v ++ E)) p g.ins) (hb : base ≤ w.heap.size) (hbr : br < w.heap.size) : GR w' base br E v' (gs ++ [g]) := by
  have hU : ∀ x ∈ br :: rowBlk v, x ∈ br :: (rowBlk v ++ E) ∨ w.heap.size ≤ x := fun x hx => .inl (by
    rcases List.mem_cons.1 hx with rfl | hx
    · simp
    · simp [hx])
  have hY : ∀ x ∈ br :: (rowBlk v' ++ E), x ∈ br :: (rowBlk v ++ E) ∨ w.heap.size ≤ x := fun x hx => by
    rcases List.mem_cons.1 hx with rfl | hx
    · exact .inl (by simp)
    · rcases List.mem_append.1 hx with hx | hx
      · exact (hn x hx).imp (fun e => by simp [e]) id
      · exact .inl (by simp [hx])
  refine ⟨⟨_, by rw [List.length_append]; exact hr, fun i x hx => ?_⟩, fun x hx => (hn x hx).elim (h.ge x) (fun e => ⟨by omega, by omega⟩)⟩
  by_cases hi : i < gs.length
  · rw [List.getElem?_append_left hi] at hx
    obtain ⟨q, d, k1, k2, k3, k4⟩ := hcl i x hx
    refine ⟨q, d, ?_, ?_, ?_, k4.keep hB hU hY⟩
    · rw [List.getElem?_append_left (by omega)]; exact k1
    · rw [List.getElem?_append_left (by omega)]; exact k2
    · rw [List.getElem?_append_left (by omega)]; exact k3
  · have hl := (List.getElem?_eq_some_iff.1 hx).1
    have e : i = gs.length := by simp at hl; omega
    subst e
    rw [List.getElem?_append_right (Nat.le_refl _), Nat.sub_self] at hx
    have e2 : g = x := by simpa using hx
    subst e2
    refine ⟨p, c, ?_, ?_, ?_, hI.keep hB hU hY⟩
    · rw [List.getElem?_append_right (by omega), hlen, Nat.sub_self]; rfl
    · rw [List.getElem?_append_right (by omega), hlen, show gs.length * 3 + 1 - gs.length * 3 = 1 by omega]; rfl
    · rw [List.getElem?_append_right (by omega), hlen, show gs.length * 3 + 2 - gs.length * 3 = 2 by omega]; rfl

set_option maxHeartbeats 3200000 in
set_option maxRecDepth 100000 in
theorem gAdd (base br : Nat) (E : List Nat) (l : List UInt8) (n nx o : Nat) (v : Value) (gs : List Gt) (g : Gt) (p : Option Addr) (c : Nat) (w : World) (hR : Rd br l n nx o v w) (hG : GR w base br E v gs) (hI : InsAt w (br :: (rowBlk v ++ E)) p g.ins) (hb : base ≤ w.heap.size) (hl : gs.length ≤ 1000000000) :
    Calls Tryd.prog 48 #[.pointer (some ⟨br, 0, none⟩), .int .i64 g.k, .int .i64 g.lit, .slice p g.ins.length c] w fun e w' => ∃ v', e = .returned (.int .i64 (gs.length : Nat)) ∧ Rd br l n nx o v' w' ∧ GR w' base br E v' (gs ++ [g]) ∧ Behind w (br :: rowBlk v) w' ∧ ∀ g ∈ rowBlk v', g ∈ rowBlk v ∨ w.heap.size ≤ g := by
  obtain ⟨Post, hPost⟩ : ∃ P : Ending → World → Prop, P = fun e w' => ∃ v', e = .returned (.int .i64 (gs.length : Nat)) ∧ Rd br l n nx o v' w' ∧ GR w' base br E v' (gs ++ [g]) ∧ Behind w (br :: rowBlk v) w' ∧ ∀ g ∈ rowBlk v', g ∈ rowBlk v ∨ w.heap.size ≤ g := ⟨_, rfl⟩
  rw [← hPost]
  have HP := Lib.hid hPost
  obtain ⟨i0, ii, iz0, iz1, iz2⟩ := info_parts Tryd.infoGate
  have II := Lib.hid ii
  have IZ0 := Lib.hid iz0
  have IZ1 := Lib.hid iz1
  have IZ2 := Lib.hid iz2
  have c4 := blk_cell hR 4 rfl
  have f4 := blk_free hR 4
  have HR := Lib.hid hR
  have HG := Lib.hid hG
  have HI := Lib.hid hI
  have hbr := lt_of_heap hR
  obtain ⟨cl, hrow, hcl⟩ := hG.row
  have HRW := Lib.hid hrow
  have HCL := Lib.hid hcl
  have hcll := hrow.length
  have HCLL := Lib.hid hcll
  obtain ⟨pv, cv, hv⟩ := hG.slice
  have HV := Lib.hid hv
  obtain ⟨k, lit, ins⟩ := g
  simp only at HI ⊢
  subst hv
  clear hPost ii iz0 iz1 iz2 hR hG hI hrow hcl hcll
  go_enter Tryd.func48, Tryd.ntmps48
  go_wp2_with (at_builtin; refine wpList_append_row _ rfl _ _ 22 rfl 37 i0 (.agg #[.int .i64 0, .int .i64 0, .slice none 0 0]) 3 40 Tryd.underlying22 II.out IZ0.out IZ1.out IZ2.out rfl _ _ _ rfl (HRW.out.keep (behind_of_below ((Below.refl _ _).alloc (Nat.le_refl _) _)) (by simp)) w.heap.size 1 1 [.int .i64 k, .int .i64 lit, .slice p ins.length c] 37 rfl (heap_alloc_new w _) rfl (by intro u hu; simp at hu; rcases hu with rfl | rfl | rfl <;> rfl) (by omega) (by unfold maxLen; omega) (by omega) ?_)
  intro v9 w9 hr9 hB9 hn9
  have h09 : Behind w (rowBlk (.slice pv gs.length cv)) w9 := ((behind_of_below ((Below.refl _ _).alloc (Nat.le_refl _) _)).mono (by simp)).trans hB9 (fun k hk => .inl hk)
  have hno : br ∉ rowBlk (.slice pv gs.length cv) := fun h => (HG.out.ge br h).2 rfl
  have R9 := h09.keep HR.out hno
  have hn9' : ∀ g ∈ rowBlk v9, g ∈ rowBlk (.slice pv gs.length cv) ∨ w.heap.size ≤ g := fun g hg => (hn9 g hg).imp id (fun h => by omega)
  have hno9 : br ∉ rowBlk v9 := fun h => (hn9 br h).elim hno (fun e => by omega)
  obtain ⟨p9, c9, rfl⟩ := hr9.slice
  have hb9 : Behind w9 [br] (w9.setCell ⟨br, 4, none⟩ (.slice p9 (gs.length + 1) c9)) := ⟨rfl, rfl, rfl, by simp, fun k _ hk => heap_setCell_other _ _ _ _ (by simpa using hk)⟩
  have HB10 := Lib.hid (show Behind w (br :: rowBlk (.slice pv gs.length cv)) (w9.setCell ⟨br, 4, none⟩ (.slice p9 (gs.length + 1) c9)) from (h09.mono (fun k hk => List.mem_cons_of_mem _ hk)).trans hb9 (fun k hk => .inl (by simp at hk; rw [hk]; simp)))
  have HR10 := Lib.hid (show Rd br l n nx o (.slice p9 (gs.length + 1) c9) (w9.setCell ⟨br, 4, none⟩ (.slice p9 (gs.length + 1) c9)) from heap_setCell_same _ br 4 _ _ _ R9)
  have HG10 := Lib.hid (HG.out.app (g := ⟨k, lit, ins⟩) HCL.out HB10.out HCLL.out (hr9.keep hb9 (fun g hg h => by simp at h; rw [h] at hg; exact hno9 hg)) hn9' HI.out hb hbr)
  have HN10 := Lib.hid hn9'
  have q4 := blk_cell R9 4 rfl
  have g4 := blk_free R9 4
  have z4 := blk_cell HR10.out 4 rfl
  clear h09 R9 hr9 hB9 hn9 hn9' hb9 c4 f4
  go_wp2_with fail
  rw [HP.out]
  exact ⟨_, by go_num, HR10.out, HG10.out, HB10.out, HN10.out⟩
end Go.Proofs.YtmaiofimmjedjaaDoor

/- Signs: taken, needed. -/
namespace Go.Proofs.YtmaiofimmjedjaaDoor
open Go.RowKit

theorem tok_gives {l : List UInt8} {p : Nat} (hp : p ≤ l.length) (hl : l.length ≤ 1048576) {t : List UInt8} (h : tokI (l.drop (nxtI l p)) = some t) (w : World) : Calls Tryd.prog 24 #[.string ⟨l.toArray⟩, .int .i64 (p : Int)] w fun e w' => e = .returned (.tuple #[.string ⟨t.toArray⟩, .int .i64 (nxtI l p : Nat)]) ∧ Below w.heap.size w w' := by
  have := gToken l p hp hl w
  unfold tokE at this
  rw [h] at this
  exact this
theorem tok_dies {l : List UInt8} {p : Nat} (hp : p ≤ l.length) (hl : l.length ≤ 1048576) (h : tokI (l.drop (nxtI l p)) = none) (w : World) : Calls Tryd.prog 24 #[.string ⟨l.toArray⟩, .int .i64 (p : Int)] w fun e w' => e = wrongE (nxtI l p) 5 ∧ Below w.heap.size w w' := by
  have := gToken l p hp hl w
  unfold tokE at this
  rw [h] at this
  exact this

theorem behind_set1 {w : World} {b o : Nat} {v : Value} : Behind w [b] (w.setCell ⟨b, o, none⟩ v) := ⟨rfl, rfl, rfl, by simp, fun k _ hk => heap_setCell_other _ _ _ _ (by simpa using hk)⟩

set_option maxHeartbeats 3200000 in
set_option maxRecDepth 100000 in
theorem gFail (br : Nat) (l : List UInt8) (n nx o : Nat) (v : Value) (w : World) (hR : Rd br l n nx o v w) (hp : nx ≤ l.length) (hl : l.length ≤ 1048576) : Calls Tryd.prog 25 #[.pointer (some ⟨br, 0, none⟩)] w fun e w' => e = wrongE (nxtI l nx) 5 ∧ Below w.heap.size w w' := by
  have c0 := blk_cell hR 0 rfl
  have c2 := blk_cell hR 2 rfl
  have HR := Lib.hid hR
  obtain ⟨Post, hPost⟩ : ∃ P : Ending → World → Prop, P = fun e w' => e = wrongE (nxtI l nx) 5 ∧ Below w.heap.size w w' := ⟨_, rfl⟩
  rw [← hPost]
  have HP := Lib.hid hPost
  clear hPost hR
  cases ht : tokI (l.drop (nxtI l nx)) with
  | none =>
    have KT := Lib.hid (fun x => tok_dies hp hl ht x)
    clear ht
    generalize (⟨l.toArray⟩ : ByteArray) = s at *
    have HC0 := Lib.hid c0
    have HC2 := Lib.hid c2
    clear c0 c2
    go_enter Tryd.func25, Tryd.ntmps25
    go_wp2_with fail
    refine wp_dies (List.replicate 14 0) 8 (by kernel_rfl) (by kernel_rfl) ?_
    simp only [List.take_succ_cons, List.take_zero]
    refine lex_quietE 8 (by kernel_rfl) (by rfl) ?_
    apply Exists.intro
    refine ⟨fun z hz => ?_, ?_⟩
    · have g0 := behind_cellXp hz HC0.out (by simp)
      have g2 := behind_cellXp hz HC2.out (by simp)
      clear hz
      simp only [List.take_succ_cons, List.take_zero]
      unfold Cx
      repeat (go_big_quiet_step (fail))
      exact wpQuiet_nil rfl
    simp only [List.drop_succ_cons, List.drop_zero]
    refine lex_nil ?_
    refine ⟨_, by rfl, by rfl, fun x hx => ⟨_, _, by go_simp, (KT.out x).mono ?_⟩⟩
    rintro e w2 ⟨rfl, hB⟩
    have HB := Lib.hid (hx.below.trans (hB.mono hx.size))
    refine ⟨_, rfl, fun a2 ha2 => ?_⟩
    refine ⟨ha2, ?_⟩
    rw [HP.out]
    exact ⟨rfl, HB.out⟩
  | some t =>
    have KT := Lib.hid (fun x => tok_gives hp hl ht x)
    generalize (⟨t.toArray⟩ : ByteArray) = t1 at *
    clear ht
    generalize (⟨l.toArray⟩ : ByteArray) = s at *
    have KG := Lib.hid (show ∀ z, GivesFrom z 24 #[.string s, .int .i64 (nx : Int)] (.tuple #[.string t1, .int .i64 (nxtI l nx : Nat)]) from fun z w' hb => KT.out w')
    have HC0 := Lib.hid c0
    have HC2 := Lib.hid c2
    clear c0 c2
    generalize nxtI l nx = q at *
    go_enter Tryd.func25, Tryd.ntmps25
    go_wp2_with fail
    refine wp_game (List.replicate 14 0) [] B0 fin_B0 (has_B0 _) (by kernel_rfl) (by kernel_rfl) ?_
    refine lex_quietE 14 (by kernel_rfl) (by rfl) ?_
    apply Exists.intro
    refine ⟨fun z hz => ?_, ?_⟩
    · have g0 := behind_cellXp hz HC0.out (by simp)
      have g2 := behind_cellXp hz HC2.out (by simp)
      have KTz := KG.out z
      clear hz
      simp only [List.take_succ_cons, List.take_zero]
      unfold Cx
      repeat (go_big_quiet_step (with_reducible exact KTz.at _))
      exact wpQuiet_nil rfl
    simp only [List.drop_succ_cons, List.drop_zero]
    refine lex_nil ?_
    intro x2 hx2 _
    have HX := Lib.hid hx2.below
    clear hx2
    go_wp2_with fail
    refine ⟨rfl, ?_⟩
    rw [HP.out]
    exact ⟨rfl, HX.out⟩

set_option maxHeartbeats 3200000 in
set_option maxRecDepth 100000 in
theorem gTake_none (br : Nat) (l : List UInt8) (n nx o : Nat) (v : Value) (sg : List UInt8) (w : World) (hR : Rd br l n nx o v w) (hp : nx ≤ l.length) (hl : l.length ≤ 1048576) (ht : tokI (l.drop (nxtI l nx)) = none) : Calls Tryd.prog 47 #[.pointer (some ⟨br, 0, none⟩), .string ⟨sg.toArray⟩] w fun e w' => e = wrongE (nxtI l nx) 5 ∧ Below w.heap.size w w' := by
  have c0 := blk_cell hR 0 rfl
  have c2 := blk_cell hR 2 rfl
  have HR := Lib.hid hR
  obtain ⟨Post, hPost⟩ : ∃ P : Ending → World → Prop, P = fun e w' => e = wrongE (nxtI l nx) 5 ∧ Below w.heap.size w w' := ⟨_, rfl⟩
  rw [← hPost]
  have HP := Lib.hid hPost
  clear hPost hR
  have KT := Lib.hid (fun x => tok_dies hp hl ht x)
  clear ht
  generalize (⟨l.toArray⟩ : ByteArray) = s at *
  generalize (⟨sg.toArray⟩ : ByteArray) = s3 at *
  have HC0 := Lib.hid c0
  have HC2 := Lib.hid c2
  clear c0 c2
  go_enter Tryd.func47, Tryd.ntmps47
  go_wp2_with fail
  refine wp_dies (List.replicate 14 0) 8 (by kernel_rfl) (by kernel_rfl) ?_
  simp only [List.take_succ_cons, List.take_zero]
  refine lex_quietE 8 (by kernel_rfl) (by rfl) ?_
  apply Exists.intro
  refine ⟨fun z hz => ?_, ?_⟩
  · have g0 := behind_cellXp hz HC0.out (by simp)
    have g2 := behind_cellXp hz HC2.out (by simp)
    clear hz
    simp only [List.take_succ_cons, List.take_zero]
    unfold Cx
    repeat (go_big_quiet_step (fail))
    exact wpQuiet_nil rfl
  simp only [List.drop_succ_cons, List.drop_zero]
  refine lex_nil ?_
  refine ⟨_, by rfl, by rfl, fun x hx => ⟨_, _, by go_simp, (KT.out x).mono ?_⟩⟩
  rintro e w2 ⟨rfl, hB⟩
  have HB := Lib.hid (hx.below.trans (hB.mono hx.size))
  refine ⟨_, rfl, fun a2 ha2 => ?_⟩
  refine ⟨ha2, ?_⟩
  rw [HP.out]
  exact ⟨rfl, HB.out⟩

set_option maxHeartbeats 3200000 in
set_option maxRecDepth 100000 in
theorem gTake_yes (br : Nat) (l : List UInt8) (n nx o : Nat) (v : Value) (sg : List UInt8) (w : World) (hR : Rd br l n nx o v w) (hp : nx ≤ l.length) (hl : l.length ≤ 1048576) (ht : tokI (l.drop (nxtI l nx)) = some sg) : Calls Tryd.prog 47 #[.pointer (some ⟨br, 0, none⟩), .string ⟨sg.toArray⟩] w fun e w' => e = .returned (.bool true) ∧ Rd br l n (nxtI l nx + sg.length) o v w' ∧ Behind w [br] w' := by
  have c0 := blk_cell hR 0 rfl
  have c2 := blk_cell hR 2 rfl
  have HR := Lib.hid hR
  obtain ⟨Post, hPost⟩ : ∃ P : Ending → World → Prop, P = fun e w' => e = .returned (.bool true) ∧ Rd br l n (nxtI l nx + sg.length) o v w' ∧ Behind w [br] w' := ⟨_, rfl⟩
  rw [← hPost]
  have HP := Lib.hid hPost
  clear hPost hR
  have KT := Lib.hid (fun x => tok_gives hp hl ht x)
  have hqb : nxtI l nx ≤ 1048576 := Nat.le_trans (nxt_le hp) hl
  have htb := tok_le ht
  rw [List.length_drop] at htb
  obtain ⟨t1, ht1⟩ : ∃ t1 : ByteArray, t1 = ⟨sg.toArray⟩ := ⟨_, rfl⟩
  have hz1 : t1.size = sg.length := by rw [ht1]; exact ba_size sg
  rw [← ht1] at KT ⊢
  clear ht1
  clear ht
  generalize (⟨l.toArray⟩ : ByteArray) = s at *
  have KG := Lib.hid (show ∀ z, GivesFrom z 24 #[.string s, .int .i64 (nx : Int)] (.tuple #[.string t1, .int .i64 (nxtI l nx : Nat)]) from fun z w' hb => KT.out w')
  have HC0 := Lib.hid c0
  have HC2 := Lib.hid c2
  clear c0 c2
  obtain ⟨q, hq⟩ : ∃ q, q = nxtI l nx := ⟨_, rfl⟩
  rw [← hq] at KG
  have HQ := Lib.hid hq
  clear hq KT
  go_enter Tryd.func47, Tryd.ntmps47
  go_wp2_with fail
  refine wp_game (List.replicate 14 0) [] B0 fin_B0 (has_B0 _) (by kernel_rfl) (by kernel_rfl) ?_
  refine lex_quietE 14 (by kernel_rfl) (by rfl) ?_
  apply Exists.intro
  refine ⟨fun z hz => ?_, ?_⟩
  · have g0 := behind_cellXp hz HC0.out (by simp)
    have g2 := behind_cellXp hz HC2.out (by simp)
    have KTz := KG.out z
    clear hz
    simp only [List.take_succ_cons, List.take_zero]
    unfold Cx
    repeat (go_big_quiet_step (with_reducible exact KTz.at _))
    exact wpQuiet_nil rfl
  simp only [List.drop_succ_cons, List.drop_zero]
  refine lex_nil ?_
  intro x2 hx2 _
  have HX := Lib.hid hx2
  have R2 := Lib.hid (hx2.keep HR.out (by simp))
  have e2 := blk_cell R2.out 2 rfl
  have f2 := blk_free R2.out 2
  clear hx2
  have hz2 : t1.size ≤ 1048576 := by omega
  have hq2 : q ≤ 1048576 := by rw [HQ.out]; exact hqb
  obtain ⟨m, hm⟩ : ∃ m, m = sg.length := ⟨_, rfl⟩
  rw [← hm] at hz1
  have HM := Lib.hid hm
  clear hm hqb htb
  go_wp2_with fail
  rw [HP.out]
  refine ⟨rfl, ?_, (HX.out.mono (by simp)).trans behind_set1 (fun k hk => .inl hk)⟩
  rw [← HQ.out, ← HM.out]
  have h9 := heap_setCell_same _ br 2 _ _ (.int .i64 ((q + m : Nat) : Int)) R2.out
  rw [show ((q : Int) + (m : Int)) = ((q + m : Nat) : Int) by omega]
  exact h9

set_option maxHeartbeats 3200000 in
set_option maxRecDepth 100000 in
theorem gTake_no (br : Nat) (l : List UInt8) (n nx o : Nat) (v : Value) (sg t : List UInt8) (w : World) (hR : Rd br l n nx o v w) (hp : nx ≤ l.length) (hl : l.length ≤ 1048576) (ht : tokI (l.drop (nxtI l nx)) = some t) (hne : t ≠ sg) : Calls Tryd.prog 47 #[.pointer (some ⟨br, 0, none⟩), .string ⟨sg.toArray⟩] w fun e w' => e = .returned (.bool false) ∧ Below w.heap.size w w' := by
  have c0 := blk_cell hR 0 rfl
  have c2 := blk_cell hR 2 rfl
  have HR := Lib.hid hR
  obtain ⟨Post, hPost⟩ : ∃ P : Ending → World → Prop, P = fun e w' => e = .returned (.bool false) ∧ Below w.heap.size w w' := ⟨_, rfl⟩
  rw [← hPost]
  have HP := Lib.hid hPost
  clear hPost hR
  have KT := Lib.hid (fun x => tok_gives hp hl ht x)
  obtain ⟨t1, ht1⟩ : ∃ t1 : ByteArray, t1 = ⟨t.toArray⟩ := ⟨_, rfl⟩
  obtain ⟨t3, ht3⟩ : ∃ t3 : ByteArray, t3 = ⟨sg.toArray⟩ := ⟨_, rfl⟩
  have hab : (t1.toList == t3.toList) = false := beq_eq_false_iff_ne.2 (by rw [ht1, ht3, ba_list, ba_list]; exact hne)
  rw [← ht1] at KT
  rw [← ht3]
  clear ht1 ht3 hne
  clear ht
  generalize (⟨l.toArray⟩ : ByteArray) = s at *
  have KG := Lib.hid (show ∀ z, GivesFrom z 24 #[.string s, .int .i64 (nx : Int)] (.tuple #[.string t1, .int .i64 (nxtI l nx : Nat)]) from fun z w' hb => KT.out w')
  have HC0 := Lib.hid c0
  have HC2 := Lib.hid c2
  clear c0 c2
  obtain ⟨q, hq⟩ : ∃ q, q = nxtI l nx := ⟨_, rfl⟩
  rw [← hq] at KG
  have HQ := Lib.hid hq
  clear hq KT
  go_enter Tryd.func47, Tryd.ntmps47
  go_wp2_with fail
  refine wp_game (List.replicate 14 0) [] B0 fin_B0 (has_B0 _) (by kernel_rfl) (by kernel_rfl) ?_
  refine lex_quietE 14 (by kernel_rfl) (by rfl) ?_
  apply Exists.intro
  refine ⟨fun z hz => ?_, ?_⟩
  · have g0 := behind_cellXp hz HC0.out (by simp)
    have g2 := behind_cellXp hz HC2.out (by simp)
    have KTz := KG.out z
    clear hz
    simp only [List.take_succ_cons, List.take_zero]
    unfold Cx
    repeat (go_big_quiet_step (with_reducible exact KTz.at _))
    exact wpQuiet_nil rfl
  simp only [List.drop_succ_cons, List.drop_zero]
  refine lex_nil ?_
  intro x2 hx2 _
  have HX := Lib.hid hx2.below
  clear hx2
  go_wp2_with fail
  rw [HP.out]
  exact ⟨rfl, HX.out⟩

set_option maxHeartbeats 3200000 in
set_option maxRecDepth 100000 in
theorem gNeed_yes (br : Nat) (l : List UInt8) (n nx o : Nat) (v : Value) (sg : List UInt8) (w : World) (hR : Rd br l n nx o v w) (hp : nx ≤ l.length) (hl : l.length ≤ 1048576) (ht : tokI (l.drop (nxtI l nx)) = some sg) : Calls Tryd.prog 77 #[.pointer (some ⟨br, 0, none⟩), .string ⟨sg.toArray⟩] w fun e w' => e = .returned (.tuple #[]) ∧ Rd br l n (nxtI l nx + sg.length) o v w' ∧ Behind w [br] w' := by
  have K := gTake_yes br l n nx o v sg w hR hp hl ht
  generalize (⟨sg.toArray⟩ : ByteArray) = s at *
  clear hR ht
  go_enter Tryd.func77, Tryd.ntmps77
  go_wp2_with fail
  refine K.mono ?_
  rintro e w1 ⟨rfl, h1, h2⟩
  have H1 := Lib.hid h1
  have H2 := Lib.hid h2
  clear h1 h2 K
  go_wp2_with fail
  go_end0
  exact ⟨rfl, H1.out, H2.out⟩

set_option maxHeartbeats 3200000 in
set_option maxRecDepth 100000 in
theorem gNeed_no (br : Nat) (l : List UInt8) (n nx o : Nat) (v : Value) (sg : List UInt8) (w : World) (hR : Rd br l n nx o v w) (hp : nx ≤ l.length) (hl : l.length ≤ 1048576) (ht : tokI (l.drop (nxtI l nx)) ≠ some sg) : Calls Tryd.prog 77 #[.pointer (some ⟨br, 0, none⟩), .string ⟨sg.toArray⟩] w fun e w' => e = wrongE (nxtI l nx) 5 ∧ Below w.heap.size w w' := by
  obtain ⟨Post, hPost⟩ : ∃ P : Ending → World → Prop, P = fun e w' => e = wrongE (nxtI l nx) 5 ∧ Below w.heap.size w w' := ⟨_, rfl⟩
  rw [← hPost]
  have HP := Lib.hid hPost
  clear hPost
  cases h : tokI (l.drop (nxtI l nx)) with
  | none =>
    have K := gTake_none br l n nx o v sg w hR hp hl h
    generalize (⟨sg.toArray⟩ : ByteArray) = s at *
    clear hR ht h
    go_enter Tryd.func77, Tryd.ntmps77
    go_wp2_with fail
    refine K.mono ?_
    rintro e w1 ⟨rfl, h2⟩
    refine ⟨rfl, ?_⟩
    rw [HP.out]
    exact ⟨rfl, h2⟩
  | some t =>
    have K := gTake_no br l n nx o v sg t w hR hp hl h (fun e => ht (by rw [h, e]))
    have KF := Lib.hid (fun (x : World) (hx : Below w.heap.size w x) => gFail br l n nx o v x ((behind_of_below hx).keep hR (by simp)) hp hl)
    generalize (⟨sg.toArray⟩ : ByteArray) = s at *
    clear hR ht h
    go_enter Tryd.func77, Tryd.ntmps77
    go_wp2_with fail
    refine K.mono ?_
    rintro e w1 ⟨rfl, h2⟩
    have H2 := Lib.hid h2
    have KF1 := KF.out w1 h2
    clear h2 K
    go_wp2_with fail
    refine KF1.mono ?_
    rintro e w2 ⟨rfl, h3⟩
    refine ⟨rfl, ?_⟩
    rw [HP.out]
    exact ⟨rfl, H2.out.trans (h3.mono H2.out.size)⟩
end Go.Proofs.YtmaiofimmjedjaaDoor

/- The reader's state, what its functions leave behind, and what is read inside. -/
namespace Go.Proofs.YtmaiofimmjedjaaDoor
open Go.RowKit

structure Cf where
  w0 : World
  br : Nat
  l : List UInt8
  n : Nat
structure Cf.Ok (c : Cf) : Prop where
  vars : VarsI c.w0
  br : c.w0.heap.size ≤ c.br
  l : c.l.length ≤ 1048576
  n : c.n ≤ 128
structure St (c : Cf) (E : List Nat) (w : World) (nx o : Nat) (v : Value) (gs : List Gt) : Prop where
  rd : Rd c.br c.l c.n nx o v w
  gr : GR w c.w0.heap.size c.br E v gs
  ex : ∀ g ∈ E, g < w.heap.size ∧ g ∉ c.br :: rowBlk v
  pl : Pl c.l nx
  be : Below c.w0.heap.size c.w0 w
  cnt : gs.length + 3 * (TS c.l nx).length ≤ 10000000
structure Gw (c : Cf) (w : World) (v : Value) (w' : World) (v' : Value) : Prop where
  be : Behind w (c.br :: rowBlk v) w'
  new : ∀ g ∈ rowBlk v', g ∈ rowBlk v ∨ w.heap.size ≤ g
theorem Gw.refl (c : Cf) (w : World) (v : Value) : Gw c w v w v := ⟨Behind.refl _ _, fun g hg => .inl hg⟩
theorem Gw.trans {c : Cf} {w w1 w2 : World} {v v1 v2 : Value} (h : Gw c w v w1 v1) (k : Gw c w1 v1 w2 v2) : Gw c w v w2 v2 := by
  refine ⟨h.be.trans k.be (fun b hb => ?_), fun g hg => ?_⟩
  · rcases List.mem_cons.1 hb with rfl | hb
    · exact .inl (by simp)
    · exact (h.new b hb).imp (fun e => List.mem_cons_of_mem _ e) id
  · rcases k.new g hg with h1 | h1
    · exact h.new g h1
    · exact .inr (Nat.le_trans h.be.size h1)
theorem Gw.of_br {c : Cf} {w w' : World} {v : Value} (h : Behind w [c.br] w') : Gw c w v w' v := ⟨h.mono (fun k hk => by simp at hk; subst hk; simp), fun g hg => .inl hg⟩
theorem Gw.of_below {c : Cf} {w w' : World} {v : Value} (h : Below w.heap.size w w') : Gw c w v w' v := ⟨(behind_of_below h).mono (by simp), fun g hg => .inl hg⟩
theorem St.below {c : Cf} (hc : c.Ok) {E : List Nat} {w w' : World} {nx o : Nat} {v v' : Value} {gs : List Gt} (h : St c E w nx o v gs) (hg : Gw c w v w' v') : Below c.w0.heap.size c.w0 w' :=
  h.be.trans (hg.be.below_of (fun k hk => by
    rcases List.mem_cons.1 hk with rfl | hk
    · exact hc.br
    · exact (h.gr.ge k hk).1) h.be.size)
theorem St.vars {c : Cf} (hc : c.Ok) {E : List Nat} {w : World} {nx o : Nat} {v : Value} {gs : List Gt} (h : St c E w nx o v gs) : VarsI w := hc.vars.below h.be
theorem St.later {c : Cf} (hc : c.Ok) {E : List Nat} {w w' : World} {nx o : Nat} {v : Value} {gs : List Gt} (h : St c E w nx o v gs) (hB : Below w.heap.size w w') : St c E w' nx o v gs :=
  ⟨(behind_of_below hB).keep h.rd (by simp), h.gr.keep (behind_of_below hB) (by simp) (fun g hg => .inl hg), fun g hg => ⟨Nat.lt_of_lt_of_le (h.ex g hg).1 hB.size, (h.ex g hg).2⟩, h.pl, h.below hc (Gw.of_below (v := v) hB), h.cnt⟩
theorem St.move {c : Cf} (hc : c.Ok) {E : List Nat} {w w' : World} {nx nx' o o' : Nat} {v : Value} {gs : List Gt} (h : St c E w nx o v gs) (hR : Rd c.br c.l c.n nx' o' v w') (hB : Behind w [c.br] w') (hp : Pl c.l nx') (hl : (TS c.l nx').length ≤ (TS c.l nx).length) : St c E w' nx' o' v gs :=
  ⟨hR, h.gr.keep hB (fun g hg => by simp at hg; subst hg; exact ⟨fun e => (h.gr.ge _ e).2 rfl, .inl rfl⟩) (fun g hg => .inl hg), fun g hg => ⟨Nat.lt_of_lt_of_le (h.ex g hg).1 hB.size, (h.ex g hg).2⟩, hp, h.below hc (Gw.of_br (v := v) hB), by have := h.cnt; omega⟩
theorem TS_less {l : List UInt8} {p : Nat} {t : List UInt8} (h : tokI (l.drop (nxtI l p)) = some t) (ht : t ≠ []) : (TS l (nxtI l p + t.length)).length + 1 = (TS l p).length := by
  rw [TS_eq l p, h]
  cases t with
  | nil => exact absurd rfl ht
  | cons c t => simp
def OkP (c : Cf) (E : List Nat) (w : World) (v : Value) (o : Nat) (r : PR) (e : Ending) (w' : World) : Prop := match r with
  | .ok lst ts gs => ∃ k nx v', lst = [k] ∧ e = .returned (.int .i64 k) ∧ ts = TS c.l nx ∧ St c E w' nx o v' gs ∧ Gw c w v w' v'
  | .err q en => e = wrongE (posI c.l q) en ∧ Behind w (c.br :: rowBlk v) w'
theorem OkP.after {c : Cf} {E : List Nat} {w w1 : World} {v v1 : Value} {o : Nat} {r : PR} {e : Ending} {w' : World} (hg : Gw c w v w1 v1) (h : OkP c E w1 v1 o r e w') : OkP c E w v o r e w' := by
  cases r with
  | ok lst ts gs =>
    obtain ⟨k, nx, v', h1, h2, h3, h4, h5⟩ := h
    exact ⟨k, nx, v', h1, h2, h3, h4, hg.trans h5⟩
  | err q en =>
    obtain ⟨h1, h2⟩ := h
    exact ⟨h1, (hg.trans (v2 := v1) ⟨h2, fun g hg => .inl hg⟩).be⟩
def fnM : Md → FuncId
  | .form => 23
  | .impl => 46
  | .chain _ => 62
  | _ => 68
def argM (c : Cf) : Md → Array Value
  | .chain lv => #[.pointer (some ⟨c.br, 0, none⟩), .int .i64 (lv : Nat)]
  | _ => #[.pointer (some ⟨c.br, 0, none⟩)]
def oneM : Md → Bool
  | .form => true
  | .impl => true
  | .chain lv => decide (4 ≤ lv ∧ lv ≤ 7)
  | .atom => true
  | _ => false
def Con (c : Cf) (m : Md) (ts : List Tk) : Prop := ∀ (E : List Nat) (nx o : Nat) (v : Value) (gs : List Gt) (w : World), TS c.l nx = ts → St c E w nx o v gs → o ≤ 200 → Calls Tryd.prog (fnM m) (argM c m) w (OkP c E w v o (RI c.n m ts o gs))
def Less (c : Cf) (m : Md) (ts : List Tk) : Prop := ∀ m' ts', oneM m' = true → bdI m' ts' < bdI m ts → Con c m' ts'
end Go.Proofs.YtmaiofimmjedjaaDoor

/- The reader: formulas. -/
namespace Go.Proofs.YtmaiofimmjedjaaDoor
open Go.RowKit

theorem next_TS {l : List UInt8} {p : Nat} {f : List UInt8 → PR} : nextI (TS l p) f = match tokI (l.drop (nxtI l p)) with | none => .err (TS l p).length 5 | some t => f t := by
  unfold nextI
  rw [TS_head]
  cases tokI (l.drop (nxtI l p)) <;> rfl
theorem ok_less {n : Nat} {m : Md} {ts : List Tk} {o : Nat} {gs : List Gt} {a : List Int} {b : List Tk} {d : List Gt} (h : RI n m ts o gs = .ok a b d) (hm : loopM m = false) : b.length + 1 ≤ ts.length := by
  have := RI_len h
  rw [hm] at this
  simpa using this

theorem ints_new {w : World} {X : List Nat} (xs : List Int) (hX : ∀ g ∈ X, g < w.heap.size) : InsAt (w.alloc (.cells (ints xs).toArray 3 (0, 0))) X (some ⟨w.heap.size, 0, none⟩) xs := fun k x hk =>
  ⟨w.heap.size, 0, by simp, fun h => by have := hX _ h; omega, rfl, by rw [Nat.zero_add]; exact blk_cell (heap_alloc_new w _) k (by simpa using hk)⟩
theorem St.X {c : Cf} {E : List Nat} {w : World} {nx o : Nat} {v : Value} {gs : List Gt} (h : St c E w nx o v gs) : ∀ g ∈ c.br :: (rowBlk v ++ E), g < w.heap.size := fun g hg => by
  rcases List.mem_cons.1 hg with rfl | hg
  · exact lt_of_heap h.rd
  · rcases List.mem_append.1 hg with hg | hg
    · exact h.gr.lt g hg
    · exact (h.ex g hg).1
theorem St.added {c : Cf} (hc : c.Ok) {E : List Nat} {w w' : World} {nx o : Nat} {v v' : Value} {gs : List Gt} {g : Gt} (h : St c E w nx o v gs) (hR : Rd c.br c.l c.n nx o v' w') (hG : GR w' c.w0.heap.size c.br E v' (gs ++ [g])) (hg : Gw c w v w' v') (hn : gs.length + 1 + 3 * (TS c.l nx).length ≤ 10000000) : St c E w' nx o v' (gs ++ [g]) :=
  ⟨hR, hG, fun x hx => ⟨Nat.lt_of_lt_of_le (h.ex x hx).1 hg.be.size, fun hm => by
    rcases List.mem_cons.1 hm with rfl | hm
    · exact (h.ex _ hx).2 (by simp)
    · rcases hg.new x hm with h1 | h1
      · exact (h.ex x hx).2 (by simp [h1])
      · have := (h.ex x hx).1; omega⟩, h.pl, h.below hc hg, by rw [List.length_append]; exact hn⟩
theorem kAdd (c : Cf) (hc : c.Ok) {E : List Nat} {w : World} {nx o : Nat} {v : Value} {gs : List Gt} (g : Gt) (p : Option Addr) (d : Nat) (h : St c E w nx o v gs) (hI : InsAt w (c.br :: (rowBlk v ++ E)) p g.ins) (hn : gs.length + 1 + 3 * (TS c.l nx).length ≤ 10000000) :
    Calls Tryd.prog 48 #[.pointer (some ⟨c.br, 0, none⟩), .int .i64 g.k, .int .i64 g.lit, .slice p g.ins.length d] w fun e w' => ∃ v', e = .returned (.int .i64 (gs.length : Nat)) ∧ St c E w' nx o v' (gs ++ [g]) ∧ Gw c w v w' v' := by
  refine (gAdd c.w0.heap.size c.br E c.l c.n nx o v gs g p d w h.rd h.gr hI h.be.size (by have := h.cnt; omega)).mono ?_
  rintro e w' ⟨v', rfl, h1, h2, h3, h4⟩
  exact ⟨v', rfl, h.added hc h1 h2 ⟨h3, h4⟩ hn, ⟨h3, h4⟩⟩

set_option maxHeartbeats 6400000 in
set_option maxRecDepth 100000 in
theorem step_form (c : Cf) (hc : c.Ok) (ts : List Tk) (hL : Less c .form ts) : Con c .form ts := by
  intro E nx o v gs w hts hS ho
  subst hts
  have KI0 := hL .impl (TS c.l nx) rfl (by simp [bdI, rkI]) E nx o v gs w rfl hS ho
  have HLS := Lib.hid hL
  obtain ⟨Post, hPost⟩ : ∃ P : Ending → World → Prop, P = OkP c E w v o (RI c.n .form (TS c.l nx) o gs) := ⟨_, rfl⟩
  rw [← hPost]
  rw [RI_form] at hPost
  have HP := Lib.hid hPost
  clear hPost hL hS
  show Calls Tryd.prog 23 #[.pointer (some ⟨c.br, 0, none⟩)] w Post
  have KI : Calls Tryd.prog 46 #[.pointer (some ⟨c.br, 0, none⟩)] w (OkP c E w v o (RI c.n .impl (TS c.l nx) o gs)) := KI0
  clear KI0
  have HLEN := Lib.hid (fun a b d (h : RI c.n .impl (TS c.l nx) o gs = .ok a b d) => ok_less h rfl)
  obtain ⟨R1, hR1⟩ : ∃ R1, R1 = RI c.n .impl (TS c.l nx) o gs := ⟨_, rfl⟩
  rw [← hR1] at KI HP HLEN
  clear hR1
  go_enter Tryd.func23, Tryd.ntmps23
  go_wp2_with fail
  refine KI.mono ?_
  intro e w1 h1
  cases R1 with
  | err q en =>
    obtain ⟨rfl, h1⟩ := h1
    refine ⟨rfl, ?_⟩
    rw [HP.out]
    exact ⟨rfl, h1⟩
  | ok lst ts1 gs1 =>
    obtain ⟨k, nx1, v1, rfl, rfl, rfl, hS1, hG1⟩ := h1
    have hlen1 := HLEN.out _ _ _ rfl
    have HS1 := Lib.hid hS1
    have HG1 := Lib.hid hG1
    have HPR := Lib.hid (show Post = OkP c E w v o (RI c.n (.formL k) (TS c.l nx1) o gs1) from HP.out)
    clear hS1 hG1 KI HP HLEN
    go_wp2_with fail
    go_loopg [3] (TS c.l nx1).length (fun kk t3 wr => ∃ (nx2 : Nat) (v2 : Value) (gs2 : List Gt) (k2 : Int), (TS c.l nx2).length ≤ kk ∧ t3 = .int .i64 k2 ∧ (TS c.l nx2).length + 1 ≤ (TS c.l nx).length ∧ Hid (St c E wr nx2 o v2 gs2) ∧ Hid (Gw c w v wr v2) ∧ Hid (Post = OkP c E w v o (RI c.n (.formL k2) (TS c.l nx2) o gs2)))
    case atStart => exact ⟨nx1, v1, gs1, k, Nat.le_refl _, rfl, hlen1, HS1.out, HG1.out, HPR.out⟩
    case round =>
      obtain ⟨nx2, v2, gs2, k2, hkk, rfl, hlen2, HS2, HG2, HP2⟩ := hrel
      have hp2 := HS2.out.pl.le
      have hfm := HP2.out
      rw [RI_formL, next_TS] at hfm
      cases ht : tokI (c.l.drop (nxtI c.l nx2)) with
      | none =>
        rw [ht] at hfm
        have HF := Lib.hid hfm
        have KT := gTake_none c.br c.l c.n nx2 o v2 [60, 45, 62] wr HS2.out.rd hp2 hc.l ht
        clear hfm ht hp2
        go_wp2_with fail
        refine KT.mono ?_
        rintro e w2 ⟨rfl, hB⟩
        refine ⟨rfl, ?_⟩
        rw [HF.out]
        exact ⟨by rw [HS2.out.pl.pos]; rfl, (HG2.out.trans (Gw.of_below (v := v2) hB)).be⟩
      | some t =>
        rw [ht] at hfm
        by_cases hteq : t = [60, 45, 62]
        · subst hteq
          have hfm2 : Post = OkP c E w v o ((RI c.n .impl (TS c.l nx2).tail o gs2).bind fun l ts gs => RI c.n (.formL (gs.length : Nat)) ts o (gs ++ [⟨7, 0, [k2, headI l]⟩])) := by rw [hfm]; simp
          rw [TS_tail ht (by simp)] at hfm2
          have HF := Lib.hid hfm2
          have hless := TS_less ht (by simp)
          have HPL := Lib.hid (HS2.out.pl.next ht (by simp))
          have KT := gTake_yes c.br c.l c.n nx2 o v2 [60, 45, 62] wr HS2.out.rd hp2 hc.l ht
          obtain ⟨nx3, hnx3⟩ : ∃ nx3, nx3 = nxtI c.l nx2 + ([60, 45, 62] : List UInt8).length := ⟨_, rfl⟩
          rw [← hnx3] at KT HF HPL hless
          clear hfm hfm2 ht hp2 hnx3
          go_wp2_with fail
          refine KT.mono ?_
          rintro e w2 ⟨rfl, hR, hB⟩
          have HS3 := Lib.hid (HS2.out.move hc hR hB HPL.out (by omega))
          have HG3 := Lib.hid (HG2.out.trans (Gw.of_br (v := v2) hB))
          have KI2 : Calls Tryd.prog 46 #[.pointer (some ⟨c.br, 0, none⟩)] w2 (OkP c E w2 v2 o (RI c.n .impl (TS c.l nx3) o gs2)) := HLS.out .impl (TS c.l nx3) rfl (bd_lt (by omega)) E nx3 o v2 gs2 w2 rfl HS3.out ho
          have HLEN := Lib.hid (fun a b d (h : RI c.n .impl (TS c.l nx3) o gs2 = .ok a b d) => ok_less h rfl)
          have HGS := Lib.hid (fun a b d (h : RI c.n .impl (TS c.l nx3) o gs2 = .ok a b d) => (RI_gs (by trivial) h).1)
          obtain ⟨R2, hR2⟩ : ∃ R2, R2 = RI c.n .impl (TS c.l nx3) o gs2 := ⟨_, rfl⟩
          rw [← hR2] at KI2 HF HLEN HGS
          clear hR2 hR hB KT
          go_wp2_with fail
          refine KI2.mono ?_
          intro e w3 h3
          cases R2 with
          | err q en =>
            obtain ⟨rfl, h3⟩ := h3
            refine ⟨rfl, ?_⟩
            rw [HF.out]
            exact ⟨rfl, (HG3.out.trans (v2 := v2) ⟨h3, fun g hg => .inl hg⟩).be⟩
          | ok lst ts4 gs4 =>
            obtain ⟨k4, nx4, v4, rfl, rfl, rfl, hS4, hG4⟩ := h3
            have hlen4 := HLEN.out _ _ _ rfl
            have hgs4 := HGS.out _ _ _ rfl
            have hcnt := HS3.out.cnt
            have HS5 := Lib.hid (hS4.later hc (below_one w3 (.cells #[.int .i64 k2, .int .i64 k4] 3 (0, 0))))
            have HG5 := Lib.hid ((HG3.out.trans hG4).trans (Gw.of_below (v := v4) (below_one w3 (.cells #[.int .i64 k2, .int .i64 k4] 3 (0, 0)))))
            have hI : InsAt (w3.alloc (.cells #[.int .i64 k2, .int .i64 k4] 3 (0, 0))) (c.br :: (rowBlk v4 ++ E)) (some ⟨w3.heap.size, 0, none⟩) [k2, k4] := ints_new [k2, k4] hS4.X
            have KA := kAdd c hc ⟨7, 0, [k2, k4]⟩ (some ⟨w3.heap.size, 0, none⟩) 2 HS5.out hI (by simp [loopM, moreM] at hgs4; omega)
            simp only [List.length_cons, List.length_nil] at KA
            have HFP := Lib.hid (show Post = OkP c E w v o (RI c.n (.formL (gs4.length : Nat)) (TS c.l nx4) o (gs4 ++ [⟨7, 0, [k2, k4]⟩])) from HF.out)
            clear hS4 hG4 KI2 HLEN HGS hI HF
            go_wp2_with fail
            refine KA.mono ?_
            rintro e w5 ⟨v5, rfl, hS6, hG6⟩
            have HS6 := Lib.hid hS6
            have HG6 := Lib.hid (HG5.out.trans hG6)
            clear hS6 hG6 KA
            go_wp2_with fail
            go_roundg (TS c.l nx4).length
            case measure => omega
            case rel => exact ⟨nx4, v5, _, _, Nat.le_refl _, rfl, by omega, HS6.out, HG6.out, HFP.out⟩
        · have hfm2 : Post = OkP c E w v o (.ok [k2] (TS c.l nx2) gs2) := by rw [hfm]; simp [hteq]
          have HF := Lib.hid hfm2
          have KT := gTake_no c.br c.l c.n nx2 o v2 [60, 45, 62] t wr HS2.out.rd hp2 hc.l ht hteq
          clear hfm hfm2 ht hp2 hteq
          go_wp2_with fail
          refine KT.mono ?_
          rintro e w2 ⟨rfl, hB⟩
          have HB := Lib.hid hB
          clear hB KT
          go_wp2_with fail
          rw [HF.out]
          exact ⟨k2, nx2, v2, rfl, rfl, rfl, HS2.out.later hc HB.out, HG2.out.trans (Gw.of_below HB.out)⟩
end Go.Proofs.YtmaiofimmjedjaaDoor
