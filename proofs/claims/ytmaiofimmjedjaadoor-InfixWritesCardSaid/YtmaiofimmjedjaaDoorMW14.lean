/- Texts of this claim, joined: JN. -/
import Derived.Test.YtmaiofimmjedjaaDoorMW13
import Derived.Deep.DeepCutAuto

/- The reader: what is read while a token is open. -/
namespace Go.Proofs.YtmaiofimmjedjaaDoor
open Go.RowKit

set_option maxHeartbeats 3200000 in
set_option maxRecDepth 100000 in
theorem step_chain7 (c : Cf) (_hc : c.Ok) (ts : List Tk) (hL : Less c (.chain 7) ts) : Con c (.chain 7) ts := by
  intro E nx o v gs w hts hS ho
  have KA : Calls Tryd.prog 68 #[.pointer (some ⟨c.br, 0, none⟩)] w (OkP c E w v o (RI c.n .atom ts o gs)) := hL .atom ts rfl (by simp [bdI, rkI]) E nx o v gs w hts hS ho
  obtain ⟨Post, hPost⟩ : ∃ P : Ending → World → Prop, P = OkP c E w v o (RI c.n (.chain 7) ts o gs) := ⟨_, rfl⟩
  rw [← hPost]
  rw [RI_chain7] at hPost
  have HP := Lib.hid hPost
  clear hPost hL hS
  show Calls Tryd.prog 62 #[.pointer (some ⟨c.br, 0, none⟩), .int .i64 7] w Post
  obtain ⟨R1, hR1⟩ : ∃ R1, R1 = RI c.n .atom ts o gs := ⟨_, rfl⟩
  rw [← hR1] at KA HP
  clear hR1
  go_enter Tryd.func62, Tryd.ntmps62
  go_wp2_with fail
  refine KA.mono ?_
  intro e w1 h1
  cases R1 with
  | err q en =>
    obtain ⟨rfl, h1⟩ := h1
    refine ⟨rfl, ?_⟩
    rw [HP.out]
    exact ⟨rfl, h1⟩
  | ok lst ts1 gs1 =>
    obtain ⟨k, nx1, v1, rfl, rfl, rfl, hS1, hG1⟩ := h1
    have HS1 := Lib.hid hS1
    have HG1 := Lib.hid hG1
    clear hS1 hG1 KA
    go_wp2_with fail
    rw [HP.out]
    exact ⟨k, nx1, v1, rfl, rfl, rfl, HS1.out, HG1.out⟩

def ReadP (c : Cf) (o : Nat) (Q1 : Nat → Value → List Gt → World → Prop) (Q2 : List PanicEntry → World → Prop) (e : Ending) (w2 : World) : Prop := (∃ nx2 v2 gs2, e = .returned (.tuple #[]) ∧ Rd c.br c.l c.n nx2 (o + 1) v2 w2 ∧ Q1 nx2 v2 gs2 w2) ∨ ∃ ps, e = .panicked ps ∧ Q2 ps w2

def ReadP2 (c : Cf) (o : Nat) (w : World) (Q1 : World → Nat → Value → List Gt → World → Prop) (Q2 : World → List PanicEntry → World → Prop) (S1 : World → Prop) (e : Ending) (w' : World) : Prop := ∃ w1, Behind w [c.br] w1 ∧ S1 w1 ∧ ((∃ nx2 v2 gs2 w2, e = .returned (.tuple #[]) ∧ Rd c.br c.l c.n nx2 (o + 1) v2 w2 ∧ Q1 w1 nx2 v2 gs2 w2 ∧ w' = w2.setCell ⟨c.br, 3, none⟩ (.int .i64 (o : Nat))) ∨ ∃ ps, e = .panicked ps ∧ Q2 w1 ps w')

set_option maxHeartbeats 3200000 in
set_option maxRecDepth 100000 in
theorem gInsideN_no (c : Cf) (hc : c.Ok) (E : List Nat) (nx o : Nat) (v : Value) (gs : List Gt) (w : World) (h : St c E w nx o v gs) (sg : List UInt8) (lb : Array Value) (ht : tokI (c.l.drop (nxtI c.l nx)) ≠ some sg) :
    Calls Tryd.prog 75 #[.pointer (some ⟨c.br, 0, none⟩), .string ⟨sg.toArray⟩, .func (.func 86) #[] lb] w fun e w' => e = wrongE (nxtI c.l nx) 5 ∧ Below w.heap.size w w' := by
  obtain ⟨Post, hPost⟩ : ∃ P : Ending → World → Prop, P = fun e w' => e = wrongE (nxtI c.l nx) 5 ∧ Below w.heap.size w w' := ⟨_, rfl⟩
  rw [← hPost]
  have HP := Lib.hid hPost
  have hp := h.pl.le
  have HR := Lib.hid h.rd
  have HC0 := Lib.hid (blk_cell h.rd 0 rfl)
  have HC2 := Lib.hid (blk_cell h.rd 2 rfl)
  clear hPost
  cases h2 : tokI (c.l.drop (nxtI c.l nx)) with
  | none =>
    have KT := Lib.hid (fun x => tok_dies hp hc.l h2 x)
    generalize (⟨sg.toArray⟩ : ByteArray) = s1 at *
    generalize (⟨c.l.toArray⟩ : ByteArray) = s at *
    clear ht h2 h
    go_enter Tryd.func75, Tryd.ntmps75
    go_wp2_with fail
    refine wp_dies (List.replicate 14 0) 8 (by kernel_rfl) (by kernel_rfl) ?_
    simp only [List.take_succ_cons, List.take_zero]
    refine lex_quietE 8 (by kernel_rfl) (by rfl) ?_
    apply Exists.intro
    refine ⟨fun z hz => ?_, ?_⟩
    · have g0 := behind_cellXp hz HC0.out (by simp)
      have g2 := behind_cellXp hz HC2.out (by simp)
      clear hz
      simp only [List.take_succ_cons, List.take_zero]
      unfold Cx
      repeat (go_big_quiet_step (fail))
      exact wpQuiet_nil rfl
    simp only [List.drop_succ_cons, List.drop_zero]
    refine lex_nil ?_
    refine ⟨_, by rfl, by rfl, fun x hx => ⟨_, _, by go_simp, (KT.out x).mono ?_⟩⟩
    rintro e w2 ⟨rfl, hB⟩
    have HB := Lib.hid (hx.below.trans (hB.mono hx.size))
    refine ⟨_, rfl, fun a2 ha2 => ?_⟩
    refine ⟨ha2, ?_⟩
    rw [HP.out]
    exact ⟨rfl, HB.out⟩
  | some t =>
    have KT := Lib.hid (fun x => tok_gives hp hc.l h2 x)
    have KN := Lib.hid (fun (x : World) (hx : Below w.heap.size w x) => gNeed_no c.br c.l c.n nx o v sg x ((behind_of_below hx).keep HR.out (by simp)) hp hc.l ht)
    generalize (⟨sg.toArray⟩ : ByteArray) = s1 at *
    generalize (⟨t.toArray⟩ : ByteArray) = t1 at *
    generalize (⟨c.l.toArray⟩ : ByteArray) = s at *
    have KG := Lib.hid (show ∀ z, GivesFrom z 24 #[.string s, .int .i64 (nx : Int)] (.tuple #[.string t1, .int .i64 (nxtI c.l nx : Nat)]) from fun z w' hb => KT.out w')
    clear ht h2 h
    go_enter Tryd.func75, Tryd.ntmps75
    go_wp2_with fail
    refine wp_game (List.replicate 14 0) [] B0 fin_B0 (has_B0 _) (by kernel_rfl) (by kernel_rfl) ?_
    refine lex_quietE 14 (by kernel_rfl) (by rfl) ?_
    apply Exists.intro
    refine ⟨fun z hz => ?_, ?_⟩
    · have g0 := behind_cellXp hz HC0.out (by simp)
      have g2 := behind_cellXp hz HC2.out (by simp)
      have KTz := KG.out z
      clear hz
      simp only [List.take_succ_cons, List.take_zero]
      unfold Cx
      repeat (go_big_quiet_step (with_reducible exact KTz.at _))
      exact wpQuiet_nil rfl
    simp only [List.drop_succ_cons, List.drop_zero]
    refine lex_nil ?_
    intro x2 hx2 _
    have HX := Lib.hid hx2.below
    have KN2 := KN.out x2 HX.out
    clear hx2
    go_wp2_with fail
    refine KN2.mono ?_
    rintro e w3 ⟨rfl, hB⟩
    refine ⟨rfl, ?_⟩
    rw [HP.out]
    exact ⟨rfl, HX.out.trans (hB.mono HX.out.size)⟩

set_option maxHeartbeats 3200000 in
set_option maxRecDepth 100000 in
theorem gInsideN_long (c : Cf) (hc : c.Ok) (E : List Nat) (nx o : Nat) (v : Value) (gs : List Gt) (w : World) (h : St c E w nx o v gs) (sg : List UInt8) (lb : Array Value) (hsg : sg ≠ []) (ht : tokI (c.l.drop (nxtI c.l nx)) = some sg) (ho : 200 ≤ o) :
    Calls Tryd.prog 75 #[.pointer (some ⟨c.br, 0, none⟩), .string ⟨sg.toArray⟩, .func (.func 86) #[] lb] w fun e w' => e = wrongE (nxtI c.l nx) 2 ∧ Behind w [c.br] w' := by
  obtain ⟨Post, hPost⟩ : ∃ P : Ending → World → Prop, P = fun e w' => e = wrongE (nxtI c.l nx) 2 ∧ Behind w [c.br] w' := ⟨_, rfl⟩
  rw [← hPost]
  have HP := Lib.hid hPost
  have hp := h.pl.le
  have HR := Lib.hid h.rd
  have HC0 := Lib.hid (blk_cell h.rd 0 rfl)
  have HC2 := Lib.hid (blk_cell h.rd 2 rfl)
  clear hPost
  have KT := Lib.hid (fun x => tok_gives hp hc.l ht x)
  have KN := Lib.hid (fun (x : World) (hx : Below w.heap.size w x) => gNeed_yes c.br c.l c.n nx o v sg x ((behind_of_below hx).keep HR.out (by simp)) hp hc.l ht)
  have HH := Lib.hid h
  have HPL := Lib.hid (h.pl.next ht hsg)
  have hless := TS_less ht hsg
  obtain ⟨nx1, hnx1⟩ : ∃ nx1, nx1 = nxtI c.l nx + sg.length := ⟨_, rfl⟩
  rw [← hnx1] at KN HPL hless
  obtain ⟨q, hq⟩ : ∃ q, q = nxtI c.l nx := ⟨_, rfl⟩
  generalize (⟨sg.toArray⟩ : ByteArray) = s1 at *
  obtain ⟨s, hs⟩ : ∃ s : ByteArray, s = ⟨c.l.toArray⟩ := ⟨_, rfl⟩
  rw [← hs] at KT HC0
  rw [← hq] at KT
  have HQ := Lib.hid hq
  have KG := Lib.hid (show ∀ z, GivesFrom z 24 #[.string s, .int .i64 (nx : Int)] (.tuple #[.string s1, .int .i64 (q : Nat)]) from fun z w' hb => KT.out w')
  clear ht h hs hq hnx1
  go_enter Tryd.func75, Tryd.ntmps75
  go_wp2_with fail
  refine wp_game (List.replicate 14 0) [] B0 fin_B0 (has_B0 _) (by kernel_rfl) (by kernel_rfl) ?_
  refine lex_quietE 14 (by kernel_rfl) (by rfl) ?_
  apply Exists.intro
  refine ⟨fun z hz => ?_, ?_⟩
  · have g0 := behind_cellXp hz HC0.out (by simp)
    have g2 := behind_cellXp hz HC2.out (by simp)
    have KTz := KG.out z
    clear hz
    simp only [List.take_succ_cons, List.take_zero]
    unfold Cx
    repeat (go_big_quiet_step (with_reducible exact KTz.at _))
    exact wpQuiet_nil rfl
  simp only [List.drop_succ_cons, List.drop_zero]
  refine lex_nil ?_
  intro x2 hx2 _
  have HX := Lib.hid hx2.below
  have KN2 := KN.out x2 HX.out
  clear hx2
  go_wp2_with fail
  refine KN2.mono ?_
  rintro e w3 ⟨rfl, hR3, hB3⟩
  have hB03 : Behind w [c.br] w3 := ((behind_of_below HX.out).mono (by simp)).trans hB3 (fun k hk => .inl hk)
  have HS3 := Lib.hid (HH.out.move hc hR3 hB03 HPL.out (by omega))
  have HB03 := Lib.hid hB03
  have c3 := blk_cell HS3.out.rd 3 rfl
  have f3 := blk_free HS3.out.rd 3
  clear hR3 hB3 hB03 KN2
  have hd : decide ((200 : Int) ≤ (o : Int)) = true := decide_eq_true (by omega)
  have hd2 : decide (200 ≤ o) = true := decide_eq_true ho
  go_wp2_with fail
  refine ⟨rfl, ?_⟩
  rw [HP.out, ← HQ.out]
  exact ⟨rfl, HB03.out⟩

set_option maxHeartbeats 3200000 in
set_option maxRecDepth 100000 in
theorem gInsideN_ok (c : Cf) (hc : c.Ok) (E : List Nat) (nx o : Nat) (v : Value) (gs : List Gt) (w : World) (h : St c E w nx o v gs) (sg : List UInt8) (lb : Array Value) (hsg : sg ≠ []) (ht : tokI (c.l.drop (nxtI c.l nx)) = some sg) (ho : o < 200) (Q1 : World → Nat → Value → List Gt → World → Prop) (Q2 : World → List PanicEntry → World → Prop) (hread : ∀ w1, Behind w [c.br] w1 → St c E w1 (nxtI c.l nx + sg.length) (o + 1) v gs → Calls Tryd.prog 86 lb w1 (ReadP c o (Q1 w1) (Q2 w1))) :
    Calls Tryd.prog 75 #[.pointer (some ⟨c.br, 0, none⟩), .string ⟨sg.toArray⟩, .func (.func 86) #[] lb] w fun e w' => ReadP2 c o w Q1 Q2 (fun w1 => St c E w1 (nxtI c.l nx + sg.length) (o + 1) v gs) e w' := by
  obtain ⟨Post, hPost⟩ : ∃ P : Ending → World → Prop, P = fun e w' => ReadP2 c o w Q1 Q2 (fun w1 => St c E w1 (nxtI c.l nx + sg.length) (o + 1) v gs) e w' := ⟨_, rfl⟩
  rw [← hPost]
  have HP := Lib.hid hPost
  have hp := h.pl.le
  have HR := Lib.hid h.rd
  have HC0 := Lib.hid (blk_cell h.rd 0 rfl)
  have HC2 := Lib.hid (blk_cell h.rd 2 rfl)
  clear hPost
  have KT := Lib.hid (fun x => tok_gives hp hc.l ht x)
  have KN := Lib.hid (fun (x : World) (hx : Below w.heap.size w x) => gNeed_yes c.br c.l c.n nx o v sg x ((behind_of_below hx).keep HR.out (by simp)) hp hc.l ht)
  have HRD := Lib.hid hread
  have HH := Lib.hid h
  have HPL := Lib.hid (h.pl.next ht hsg)
  have hless := TS_less ht hsg
  obtain ⟨nx1, hnx1⟩ : ∃ nx1, nx1 = nxtI c.l nx + sg.length := ⟨_, rfl⟩
  rw [← hnx1] at KN HPL hless HRD HP
  obtain ⟨q, hq⟩ : ∃ q, q = nxtI c.l nx := ⟨_, rfl⟩
  generalize (⟨sg.toArray⟩ : ByteArray) = s1 at *
  obtain ⟨s, hs⟩ : ∃ s : ByteArray, s = ⟨c.l.toArray⟩ := ⟨_, rfl⟩
  rw [← hs] at KT HC0
  rw [← hq] at KT
  have HQ := Lib.hid hq
  have KG := Lib.hid (show ∀ z, GivesFrom z 24 #[.string s, .int .i64 (nx : Int)] (.tuple #[.string s1, .int .i64 (q : Nat)]) from fun z w' hb => KT.out w')
  clear ht h hread hs hq hnx1
  go_enter Tryd.func75, Tryd.ntmps75
  go_wp2_with fail
  refine wp_game (List.replicate 14 0) [] B0 fin_B0 (has_B0 _) (by kernel_rfl) (by kernel_rfl) ?_
  refine lex_quietE 14 (by kernel_rfl) (by rfl) ?_
  apply Exists.intro
  refine ⟨fun z hz => ?_, ?_⟩
  · have g0 := behind_cellXp hz HC0.out (by simp)
    have g2 := behind_cellXp hz HC2.out (by simp)
    have KTz := KG.out z
    clear hz
    simp only [List.take_succ_cons, List.take_zero]
    unfold Cx
    repeat (go_big_quiet_step (with_reducible exact KTz.at _))
    exact wpQuiet_nil rfl
  simp only [List.drop_succ_cons, List.drop_zero]
  refine lex_nil ?_
  intro x2 hx2 _
  have HX := Lib.hid hx2.below
  have KN2 := KN.out x2 HX.out
  clear hx2
  go_wp2_with fail
  refine KN2.mono ?_
  rintro e w3 ⟨rfl, hR3, hB3⟩
  have hB03 : Behind w [c.br] w3 := ((behind_of_below HX.out).mono (by simp)).trans hB3 (fun k hk => .inl hk)
  have HS3 := Lib.hid (HH.out.move hc hR3 hB03 HPL.out (by omega))
  have HB03 := Lib.hid hB03
  have c3 := blk_cell HS3.out.rd 3 rfl
  have f3 := blk_free HS3.out.rd 3
  clear hR3 hB3 hB03 KN2
  have hd : decide ((200 : Int) ≤ (o : Int)) = false := decide_eq_false (by omega)
  have hd2 : decide (200 ≤ o) = false := decide_eq_false (by omega)
  go_wp2_with fail
  rw [show ((o : Int) + 1) = ((o + 1 : Nat) : Int) by omega]
  have hR4 : Rd c.br c.l c.n nx1 (o + 1) v (w3.setCell ⟨c.br, 3, none⟩ (.int .i64 ((o + 1 : Nat) : Int))) := heap_setCell_same _ c.br 3 _ _ _ HS3.out.rd
  have HS4 := Lib.hid (HS3.out.move hc hR4 behind_set1 HS3.out.pl (Nat.le_refl _))
  have HB4 := Lib.hid (HB03.out.trans (behind_set1 (b := c.br) (o := 3) (v := .int .i64 ((o + 1 : Nat) : Int))) (fun k hk => .inl hk))
  clear hR4 c3 f3
  refine (HRD.out _ HB4.out HS4.out).mono ?_
  intro e w5 h5
  rcases h5 with ⟨nx2, v2, gs2, rfl, hR5, hQ⟩ | ⟨ps, rfl, hQ⟩
  · have c5 := blk_cell hR5 3 rfl
    have f5 := blk_free hR5 3
    have HR5 := Lib.hid hR5
    have HQ5 := Lib.hid hQ
    clear hR5 hQ
    go_wp2_with fail
    go_end0
    rw [HP.out]
    exact ⟨_, HB4.out, HS4.out, .inl ⟨nx2, v2, gs2, w5, rfl, HR5.out, HQ5.out, by first | rfl | (congr 2; omega)⟩⟩
  · refine ⟨rfl, ?_⟩
    rw [HP.out]
    exact ⟨_, HB4.out, HS4.out, .inr ⟨ps, rfl, hQ⟩⟩

set_option maxHeartbeats 3200000 in
set_option maxRecDepth 100000 in
theorem gInsideL_no (c : Cf) (hc : c.Ok) (E : List Nat) (nx o : Nat) (v : Value) (gs : List Gt) (w : World) (h : St c E w nx o v gs) (sg : List UInt8) (lb : Array Value) (ht : tokI (c.l.drop (nxtI c.l nx)) ≠ some sg) :
    Calls Tryd.prog 75 #[.pointer (some ⟨c.br, 0, none⟩), .string ⟨sg.toArray⟩, .func (.func 87) #[] lb] w fun e w' => e = wrongE (nxtI c.l nx) 5 ∧ Below w.heap.size w w' := by
  obtain ⟨Post, hPost⟩ : ∃ P : Ending → World → Prop, P = fun e w' => e = wrongE (nxtI c.l nx) 5 ∧ Below w.heap.size w w' := ⟨_, rfl⟩
  rw [← hPost]
  have HP := Lib.hid hPost
  have hp := h.pl.le
  have HR := Lib.hid h.rd
  have HC0 := Lib.hid (blk_cell h.rd 0 rfl)
  have HC2 := Lib.hid (blk_cell h.rd 2 rfl)
  clear hPost
  cases h2 : tokI (c.l.drop (nxtI c.l nx)) with
  | none =>
    have KT := Lib.hid (fun x => tok_dies hp hc.l h2 x)
    generalize (⟨sg.toArray⟩ : ByteArray) = s1 at *
    generalize (⟨c.l.toArray⟩ : ByteArray) = s at *
    clear ht h2 h
    go_enter Tryd.func75, Tryd.ntmps75
    go_wp2_with fail
    refine wp_dies (List.replicate 14 0) 8 (by kernel_rfl) (by kernel_rfl) ?_
    simp only [List.take_succ_cons, List.take_zero]
    refine lex_quietE 8 (by kernel_rfl) (by rfl) ?_
    apply Exists.intro
    refine ⟨fun z hz => ?_, ?_⟩
    · have g0 := behind_cellXp hz HC0.out (by simp)
      have g2 := behind_cellXp hz HC2.out (by simp)
      clear hz
      simp only [List.take_succ_cons, List.take_zero]
      unfold Cx
      repeat (go_big_quiet_step (fail))
      exact wpQuiet_nil rfl
    simp only [List.drop_succ_cons, List.drop_zero]
    refine lex_nil ?_
    refine ⟨_, by rfl, by rfl, fun x hx => ⟨_, _, by go_simp, (KT.out x).mono ?_⟩⟩
    rintro e w2 ⟨rfl, hB⟩
    have HB := Lib.hid (hx.below.trans (hB.mono hx.size))
    refine ⟨_, rfl, fun a2 ha2 => ?_⟩
    refine ⟨ha2, ?_⟩
    rw [HP.out]
    exact ⟨rfl, HB.out⟩
  | some t =>
    have KT := Lib.hid (fun x => tok_gives hp hc.l h2 x)
    have KN := Lib.hid (fun (x : World) (hx : Below w.heap.size w x) => gNeed_no c.br c.l c.n nx o v sg x ((behind_of_below hx).keep HR.out (by simp)) hp hc.l ht)
    generalize (⟨sg.toArray⟩ : ByteArray) = s1 at *
    generalize (⟨t.toArray⟩ : ByteArray) = t1 at *
    generalize (⟨c.l.toArray⟩ : ByteArray) = s at *
    have KG := Lib.hid (show ∀ z, GivesFrom z 24 #[.string s, .int .i64 (nx : Int)] (.tuple #[.string t1, .int .i64 (nxtI c.l nx : Nat)]) from fun z w' hb => KT.out w')
    clear ht h2 h
    go_enter Tryd.func75, Tryd.ntmps75
    go_wp2_with fail
    refine wp_game (List.replicate 14 0) [] B0 fin_B0 (has_B0 _) (by kernel_rfl) (by kernel_rfl) ?_
    refine lex_quietE 14 (by kernel_rfl) (by rfl) ?_
    apply Exists.intro
    refine ⟨fun z hz => ?_, ?_⟩
    · have g0 := behind_cellXp hz HC0.out (by simp)
      have g2 := behind_cellXp hz HC2.out (by simp)
      have KTz := KG.out z
      clear hz
      simp only [List.take_succ_cons, List.take_zero]
      unfold Cx
      repeat (go_big_quiet_step (with_reducible exact KTz.at _))
      exact wpQuiet_nil rfl
    simp only [List.drop_succ_cons, List.drop_zero]
    refine lex_nil ?_
    intro x2 hx2 _
    have HX := Lib.hid hx2.below
    have KN2 := KN.out x2 HX.out
    clear hx2
    go_wp2_with fail
    refine KN2.mono ?_
    rintro e w3 ⟨rfl, hB⟩
    refine ⟨rfl, ?_⟩
    rw [HP.out]
    exact ⟨rfl, HX.out.trans (hB.mono HX.out.size)⟩

set_option maxHeartbeats 3200000 in
set_option maxRecDepth 100000 in
theorem gInsideL_long (c : Cf) (hc : c.Ok) (E : List Nat) (nx o : Nat) (v : Value) (gs : List Gt) (w : World) (h : St c E w nx o v gs) (sg : List UInt8) (lb : Array Value) (hsg : sg ≠ []) (ht : tokI (c.l.drop (nxtI c.l nx)) = some sg) (ho : 200 ≤ o) :
    Calls Tryd.prog 75 #[.pointer (some ⟨c.br, 0, none⟩), .string ⟨sg.toArray⟩, .func (.func 87) #[] lb] w fun e w' => e = wrongE (nxtI c.l nx) 2 ∧ Behind w [c.br] w' := by
  obtain ⟨Post, hPost⟩ : ∃ P : Ending → World → Prop, P = fun e w' => e = wrongE (nxtI c.l nx) 2 ∧ Behind w [c.br] w' := ⟨_, rfl⟩
  rw [← hPost]
  have HP := Lib.hid hPost
  have hp := h.pl.le
  have HR := Lib.hid h.rd
  have HC0 := Lib.hid (blk_cell h.rd 0 rfl)
  have HC2 := Lib.hid (blk_cell h.rd 2 rfl)
  clear hPost
  have KT := Lib.hid (fun x => tok_gives hp hc.l ht x)
  have KN := Lib.hid (fun (x : World) (hx : Below w.heap.size w x) => gNeed_yes c.br c.l c.n nx o v sg x ((behind_of_below hx).keep HR.out (by simp)) hp hc.l ht)
  have HH := Lib.hid h
  have HPL := Lib.hid (h.pl.next ht hsg)
  have hless := TS_less ht hsg
  obtain ⟨nx1, hnx1⟩ : ∃ nx1, nx1 = nxtI c.l nx + sg.length := ⟨_, rfl⟩
  rw [← hnx1] at KN HPL hless
  obtain ⟨q, hq⟩ : ∃ q, q = nxtI c.l nx := ⟨_, rfl⟩
  generalize (⟨sg.toArray⟩ : ByteArray) = s1 at *
  obtain ⟨s, hs⟩ : ∃ s : ByteArray, s = ⟨c.l.toArray⟩ := ⟨_, rfl⟩
  rw [← hs] at KT HC0
  rw [← hq] at KT
  have HQ := Lib.hid hq
  have KG := Lib.hid (show ∀ z, GivesFrom z 24 #[.string s, .int .i64 (nx : Int)] (.tuple #[.string s1, .int .i64 (q : Nat)]) from fun z w' hb => KT.out w')
  clear ht h hs hq hnx1
  go_enter Tryd.func75, Tryd.ntmps75
  go_wp2_with fail
  refine wp_game (List.replicate 14 0) [] B0 fin_B0 (has_B0 _) (by kernel_rfl) (by kernel_rfl) ?_
  refine lex_quietE 14 (by kernel_rfl) (by rfl) ?_
  apply Exists.intro
  refine ⟨fun z hz => ?_, ?_⟩
  · have g0 := behind_cellXp hz HC0.out (by simp)
    have g2 := behind_cellXp hz HC2.out (by simp)
    have KTz := KG.out z
    clear hz
    simp only [List.take_succ_cons, List.take_zero]
    unfold Cx
    repeat (go_big_quiet_step (with_reducible exact KTz.at _))
    exact wpQuiet_nil rfl
  simp only [List.drop_succ_cons, List.drop_zero]
  refine lex_nil ?_
  intro x2 hx2 _
  have HX := Lib.hid hx2.below
  have KN2 := KN.out x2 HX.out
  clear hx2
  go_wp2_with fail
  refine KN2.mono ?_
  rintro e w3 ⟨rfl, hR3, hB3⟩
  have hB03 : Behind w [c.br] w3 := ((behind_of_below HX.out).mono (by simp)).trans hB3 (fun k hk => .inl hk)
  have HS3 := Lib.hid (HH.out.move hc hR3 hB03 HPL.out (by omega))
  have HB03 := Lib.hid hB03
  have c3 := blk_cell HS3.out.rd 3 rfl
  have f3 := blk_free HS3.out.rd 3
  clear hR3 hB3 hB03 KN2
  have hd : decide ((200 : Int) ≤ (o : Int)) = true := decide_eq_true (by omega)
  have hd2 : decide (200 ≤ o) = true := decide_eq_true ho
  go_wp2_with fail
  refine ⟨rfl, ?_⟩
  rw [HP.out, ← HQ.out]
  exact ⟨rfl, HB03.out⟩

set_option maxHeartbeats 3200000 in
set_option maxRecDepth 100000 in
theorem gInsideL_ok (c : Cf) (hc : c.Ok) (E : List Nat) (nx o : Nat) (v : Value) (gs : List Gt) (w : World) (h : St c E w nx o v gs) (sg : List UInt8) (lb : Array Value) (hsg : sg ≠ []) (ht : tokI (c.l.drop (nxtI c.l nx)) = some sg) (ho : o < 200) (Q1 : World → Nat → Value → List Gt → World → Prop) (Q2 : World → List PanicEntry → World → Prop) (hread : ∀ w1, Behind w [c.br] w1 → St c E w1 (nxtI c.l nx + sg.length) (o + 1) v gs → Calls Tryd.prog 87 lb w1 (ReadP c o (Q1 w1) (Q2 w1))) :
    Calls Tryd.prog 75 #[.pointer (some ⟨c.br, 0, none⟩), .string ⟨sg.toArray⟩, .func (.func 87) #[] lb] w fun e w' => ReadP2 c o w Q1 Q2 (fun w1 => St c E w1 (nxtI c.l nx + sg.length) (o + 1) v gs) e w' := by
  obtain ⟨Post, hPost⟩ : ∃ P : Ending → World → Prop, P = fun e w' => ReadP2 c o w Q1 Q2 (fun w1 => St c E w1 (nxtI c.l nx + sg.length) (o + 1) v gs) e w' := ⟨_, rfl⟩
  rw [← hPost]
  have HP := Lib.hid hPost
  have hp := h.pl.le
  have HR := Lib.hid h.rd
  have HC0 := Lib.hid (blk_cell h.rd 0 rfl)
  have HC2 := Lib.hid (blk_cell h.rd 2 rfl)
  clear hPost
  have KT := Lib.hid (fun x => tok_gives hp hc.l ht x)
  have KN := Lib.hid (fun (x : World) (hx : Below w.heap.size w x) => gNeed_yes c.br c.l c.n nx o v sg x ((behind_of_below hx).keep HR.out (by simp)) hp hc.l ht)
  have HRD := Lib.hid hread
  have HH := Lib.hid h
  have HPL := Lib.hid (h.pl.next ht hsg)
  have hless := TS_less ht hsg
  obtain ⟨nx1, hnx1⟩ : ∃ nx1, nx1 = nxtI c.l nx + sg.length := ⟨_, rfl⟩
  rw [← hnx1] at KN HPL hless HRD HP
  obtain ⟨q, hq⟩ : ∃ q, q = nxtI c.l nx := ⟨_, rfl⟩
  generalize (⟨sg.toArray⟩ : ByteArray) = s1 at *
  obtain ⟨s, hs⟩ : ∃ s : ByteArray, s = ⟨c.l.toArray⟩ := ⟨_, rfl⟩
  rw [← hs] at KT HC0
  rw [← hq] at KT
  have HQ := Lib.hid hq
  have KG := Lib.hid (show ∀ z, GivesFrom z 24 #[.string s, .int .i64 (nx : Int)] (.tuple #[.string s1, .int .i64 (q : Nat)]) from fun z w' hb => KT.out w')
  clear ht h hread hs hq hnx1
  go_enter Tryd.func75, Tryd.ntmps75
  go_wp2_with fail
  refine wp_game (List.replicate 14 0) [] B0 fin_B0 (has_B0 _) (by kernel_rfl) (by kernel_rfl) ?_
  refine lex_quietE 14 (by kernel_rfl) (by rfl) ?_
  apply Exists.intro
  refine ⟨fun z hz => ?_, ?_⟩
  · have g0 := behind_cellXp hz HC0.out (by simp)
    have g2 := behind_cellXp hz HC2.out (by simp)
    have KTz := KG.out z
    clear hz
    simp only [List.take_succ_cons, List.take_zero]
    unfold Cx
    repeat (go_big_quiet_step (with_reducible exact KTz.at _))
    exact wpQuiet_nil rfl
  simp only [List.drop_succ_cons, List.drop_zero]
  refine lex_nil ?_
  intro x2 hx2 _
  have HX := Lib.hid hx2.below
  have KN2 := KN.out x2 HX.out
  clear hx2
  go_wp2_with fail
  refine KN2.mono ?_
  rintro e w3 ⟨rfl, hR3, hB3⟩
  have hB03 : Behind w [c.br] w3 := ((behind_of_below HX.out).mono (by simp)).trans hB3 (fun k hk => .inl hk)
  have HS3 := Lib.hid (HH.out.move hc hR3 hB03 HPL.out (by omega))
  have HB03 := Lib.hid hB03
  have c3 := blk_cell HS3.out.rd 3 rfl
  have f3 := blk_free HS3.out.rd 3
  clear hR3 hB3 hB03 KN2
  have hd : decide ((200 : Int) ≤ (o : Int)) = false := decide_eq_false (by omega)
  have hd2 : decide (200 ≤ o) = false := decide_eq_false (by omega)
  go_wp2_with fail
  rw [show ((o : Int) + 1) = ((o + 1 : Nat) : Int) by omega]
  have hR4 : Rd c.br c.l c.n nx1 (o + 1) v (w3.setCell ⟨c.br, 3, none⟩ (.int .i64 ((o + 1 : Nat) : Int))) := heap_setCell_same _ c.br 3 _ _ _ HS3.out.rd
  have HS4 := Lib.hid (HS3.out.move hc hR4 behind_set1 HS3.out.pl (Nat.le_refl _))
  have HB4 := Lib.hid (HB03.out.trans (behind_set1 (b := c.br) (o := 3) (v := .int .i64 ((o + 1 : Nat) : Int))) (fun k hk => .inl hk))
  clear hR4 c3 f3
  refine (HRD.out _ HB4.out HS4.out).mono ?_
  intro e w5 h5
  rcases h5 with ⟨nx2, v2, gs2, rfl, hR5, hQ⟩ | ⟨ps, rfl, hQ⟩
  · have c5 := blk_cell hR5 3 rfl
    have f5 := blk_free hR5 3
    have HR5 := Lib.hid hR5
    have HQ5 := Lib.hid hQ
    clear hR5 hQ
    go_wp2_with fail
    go_end0
    rw [HP.out]
    exact ⟨_, HB4.out, HS4.out, .inl ⟨nx2, v2, gs2, w5, rfl, HR5.out, HQ5.out, by first | rfl | (congr 2; omega)⟩⟩
  · refine ⟨rfl, ?_⟩
    rw [HP.out]
    exact ⟨_, HB4.out, HS4.out, .inr ⟨ps, rfl, hQ⟩⟩

set_option maxHeartbeats 3200000 in
set_option maxRecDepth 100000 in
theorem gInsideA_no (c : Cf) (hc : c.Ok) (E : List Nat) (nx o : Nat) (v : Value) (gs : List Gt) (w : World) (h : St c E w nx o v gs) (sg : List UInt8) (lb : Array Value) (ht : tokI (c.l.drop (nxtI c.l nx)) ≠ some sg) :
    Calls Tryd.prog 75 #[.pointer (some ⟨c.br, 0, none⟩), .string ⟨sg.toArray⟩, .func (.func 76) #[] lb] w fun e w' => e = wrongE (nxtI c.l nx) 5 ∧ Below w.heap.size w w' := by
  obtain ⟨Post, hPost⟩ : ∃ P : Ending → World → Prop, P = fun e w' => e = wrongE (nxtI c.l nx) 5 ∧ Below w.heap.size w w' := ⟨_, rfl⟩
  rw [← hPost]
  have HP := Lib.hid hPost
  have hp := h.pl.le
  have HR := Lib.hid h.rd
  have HC0 := Lib.hid (blk_cell h.rd 0 rfl)
  have HC2 := Lib.hid (blk_cell h.rd 2 rfl)
  clear hPost
  cases h2 : tokI (c.l.drop (nxtI c.l nx)) with
  | none =>
    have KT := Lib.hid (fun x => tok_dies hp hc.l h2 x)
    generalize (⟨sg.toArray⟩ : ByteArray) = s1 at *
    generalize (⟨c.l.toArray⟩ : ByteArray) = s at *
    clear ht h2 h
    go_enter Tryd.func75, Tryd.ntmps75
    go_wp2_with fail
    refine wp_dies (List.replicate 14 0) 8 (by kernel_rfl) (by kernel_rfl) ?_
    simp only [List.take_succ_cons, List.take_zero]
    refine lex_quietE 8 (by kernel_rfl) (by rfl) ?_
    apply Exists.intro
    refine ⟨fun z hz => ?_, ?_⟩
    · have g0 := behind_cellXp hz HC0.out (by simp)
      have g2 := behind_cellXp hz HC2.out (by simp)
      clear hz
      simp only [List.take_succ_cons, List.take_zero]
      unfold Cx
      repeat (go_big_quiet_step (fail))
      exact wpQuiet_nil rfl
    simp only [List.drop_succ_cons, List.drop_zero]
    refine lex_nil ?_
    refine ⟨_, by rfl, by rfl, fun x hx => ⟨_, _, by go_simp, (KT.out x).mono ?_⟩⟩
    rintro e w2 ⟨rfl, hB⟩
    have HB := Lib.hid (hx.below.trans (hB.mono hx.size))
    refine ⟨_, rfl, fun a2 ha2 => ?_⟩
    refine ⟨ha2, ?_⟩
    rw [HP.out]
    exact ⟨rfl, HB.out⟩
  | some t =>
    have KT := Lib.hid (fun x => tok_gives hp hc.l h2 x)
    have KN := Lib.hid (fun (x : World) (hx : Below w.heap.size w x) => gNeed_no c.br c.l c.n nx o v sg x ((behind_of_below hx).keep HR.out (by simp)) hp hc.l ht)
    generalize (⟨sg.toArray⟩ : ByteArray) = s1 at *
    generalize (⟨t.toArray⟩ : ByteArray) = t1 at *
    generalize (⟨c.l.toArray⟩ : ByteArray) = s at *
    have KG := Lib.hid (show ∀ z, GivesFrom z 24 #[.string s, .int .i64 (nx : Int)] (.tuple #[.string t1, .int .i64 (nxtI c.l nx : Nat)]) from fun z w' hb => KT.out w')
    clear ht h2 h
    go_enter Tryd.func75, Tryd.ntmps75
    go_wp2_with fail
    refine wp_game (List.replicate 14 0) [] B0 fin_B0 (has_B0 _) (by kernel_rfl) (by kernel_rfl) ?_
    refine lex_quietE 14 (by kernel_rfl) (by rfl) ?_
    apply Exists.intro
    refine ⟨fun z hz => ?_, ?_⟩
    · have g0 := behind_cellXp hz HC0.out (by simp)
      have g2 := behind_cellXp hz HC2.out (by simp)
      have KTz := KG.out z
      clear hz
      simp only [List.take_succ_cons, List.take_zero]
      unfold Cx
      repeat (go_big_quiet_step (with_reducible exact KTz.at _))
      exact wpQuiet_nil rfl
    simp only [List.drop_succ_cons, List.drop_zero]
    refine lex_nil ?_
    intro x2 hx2 _
    have HX := Lib.hid hx2.below
    have KN2 := KN.out x2 HX.out
    clear hx2
    go_wp2_with fail
    refine KN2.mono ?_
    rintro e w3 ⟨rfl, hB⟩
    refine ⟨rfl, ?_⟩
    rw [HP.out]
    exact ⟨rfl, HX.out.trans (hB.mono HX.out.size)⟩

set_option maxHeartbeats 3200000 in
set_option maxRecDepth 100000 in
theorem gInsideA_long (c : Cf) (hc : c.Ok) (E : List Nat) (nx o : Nat) (v : Value) (gs : List Gt) (w : World) (h : St c E w nx o v gs) (sg : List UInt8) (lb : Array Value) (hsg : sg ≠ []) (ht : tokI (c.l.drop (nxtI c.l nx)) = some sg) (ho : 200 ≤ o) :
    Calls Tryd.prog 75 #[.pointer (some ⟨c.br, 0, none⟩), .string ⟨sg.toArray⟩, .func (.func 76) #[] lb] w fun e w' => e = wrongE (nxtI c.l nx) 2 ∧ Behind w [c.br] w' := by
  obtain ⟨Post, hPost⟩ : ∃ P : Ending → World → Prop, P = fun e w' => e = wrongE (nxtI c.l nx) 2 ∧ Behind w [c.br] w' := ⟨_, rfl⟩
  rw [← hPost]
  have HP := Lib.hid hPost
  have hp := h.pl.le
  have HR := Lib.hid h.rd
  have HC0 := Lib.hid (blk_cell h.rd 0 rfl)
  have HC2 := Lib.hid (blk_cell h.rd 2 rfl)
  clear hPost
  have KT := Lib.hid (fun x => tok_gives hp hc.l ht x)
  have KN := Lib.hid (fun (x : World) (hx : Below w.heap.size w x) => gNeed_yes c.br c.l c.n nx o v sg x ((behind_of_below hx).keep HR.out (by simp)) hp hc.l ht)
  have HH := Lib.hid h
  have HPL := Lib.hid (h.pl.next ht hsg)
  have hless := TS_less ht hsg
  obtain ⟨nx1, hnx1⟩ : ∃ nx1, nx1 = nxtI c.l nx + sg.length := ⟨_, rfl⟩
  rw [← hnx1] at KN HPL hless
  obtain ⟨q, hq⟩ : ∃ q, q = nxtI c.l nx := ⟨_, rfl⟩
  generalize (⟨sg.toArray⟩ : ByteArray) = s1 at *
  obtain ⟨s, hs⟩ : ∃ s : ByteArray, s = ⟨c.l.toArray⟩ := ⟨_, rfl⟩
  rw [← hs] at KT HC0
  rw [← hq] at KT
  have HQ := Lib.hid hq
  have KG := Lib.hid (show ∀ z, GivesFrom z 24 #[.string s, .int .i64 (nx : Int)] (.tuple #[.string s1, .int .i64 (q : Nat)]) from fun z w' hb => KT.out w')
  clear ht h hs hq hnx1
  go_enter Tryd.func75, Tryd.ntmps75
  go_wp2_with fail
  refine wp_game (List.replicate 14 0) [] B0 fin_B0 (has_B0 _) (by kernel_rfl) (by kernel_rfl) ?_
  refine lex_quietE 14 (by kernel_rfl) (by rfl) ?_
  apply Exists.intro
  refine ⟨fun z hz => ?_, ?_⟩
  · have g0 := behind_cellXp hz HC0.out (by simp)
    have g2 := behind_cellXp hz HC2.out (by simp)
    have KTz := KG.out z
    clear hz
    simp only [List.take_succ_cons, List.take_zero]
    unfold Cx
    repeat (go_big_quiet_step (with_reducible exact KTz.at _))
    exact wpQuiet_nil rfl
  simp only [List.drop_succ_cons, List.drop_zero]
  refine lex_nil ?_
  intro x2 hx2 _
  have HX := Lib.hid hx2.below
  have KN2 := KN.out x2 HX.out
  clear hx2
  go_wp2_with fail
  refine KN2.mono ?_
  rintro e w3 ⟨rfl, hR3, hB3⟩
  have hB03 : Behind w [c.br] w3 := ((behind_of_below HX.out).mono (by simp)).trans hB3 (fun k hk => .inl hk)
  have HS3 := Lib.hid (HH.out.move hc hR3 hB03 HPL.out (by omega))
  have HB03 := Lib.hid hB03
  have c3 := blk_cell HS3.out.rd 3 rfl
  have f3 := blk_free HS3.out.rd 3
  clear hR3 hB3 hB03 KN2
  have hd : decide ((200 : Int) ≤ (o : Int)) = true := decide_eq_true (by omega)
  have hd2 : decide (200 ≤ o) = true := decide_eq_true ho
  go_wp2_with fail
  refine ⟨rfl, ?_⟩
  rw [HP.out, ← HQ.out]
  exact ⟨rfl, HB03.out⟩

set_option maxHeartbeats 3200000 in
set_option maxRecDepth 100000 in
theorem gInsideA_ok (c : Cf) (hc : c.Ok) (E : List Nat) (nx o : Nat) (v : Value) (gs : List Gt) (w : World) (h : St c E w nx o v gs) (sg : List UInt8) (lb : Array Value) (hsg : sg ≠ []) (ht : tokI (c.l.drop (nxtI c.l nx)) = some sg) (ho : o < 200) (Q1 : World → Nat → Value → List Gt → World → Prop) (Q2 : World → List PanicEntry → World → Prop) (hread : ∀ w1, Behind w [c.br] w1 → St c E w1 (nxtI c.l nx + sg.length) (o + 1) v gs → Calls Tryd.prog 76 lb w1 (ReadP c o (Q1 w1) (Q2 w1))) :
    Calls Tryd.prog 75 #[.pointer (some ⟨c.br, 0, none⟩), .string ⟨sg.toArray⟩, .func (.func 76) #[] lb] w fun e w' => ReadP2 c o w Q1 Q2 (fun w1 => St c E w1 (nxtI c.l nx + sg.length) (o + 1) v gs) e w' := by
  obtain ⟨Post, hPost⟩ : ∃ P : Ending → World → Prop, P = fun e w' => ReadP2 c o w Q1 Q2 (fun w1 => St c E w1 (nxtI c.l nx + sg.length) (o + 1) v gs) e w' := ⟨_, rfl⟩
  rw [← hPost]
  have HP := Lib.hid hPost
  have hp := h.pl.le
  have HR := Lib.hid h.rd
  have HC0 := Lib.hid (blk_cell h.rd 0 rfl)
  have HC2 := Lib.hid (blk_cell h.rd 2 rfl)
  clear hPost
  have KT := Lib.hid (fun x => tok_gives hp hc.l ht x)
  have KN := Lib.hid (fun (x : World) (hx : Below w.heap.size w x) => gNeed_yes c.br c.l c.n nx o v sg x ((behind_of_below hx).keep HR.out (by simp)) hp hc.l ht)
  have HRD := Lib.hid hread
  have HH := Lib.hid h
  have HPL := Lib.hid (h.pl.next ht hsg)
  have hless := TS_less ht hsg
  obtain ⟨nx1, hnx1⟩ : ∃ nx1, nx1 = nxtI c.l nx + sg.length := ⟨_, rfl⟩
  rw [← hnx1] at KN HPL hless HRD HP
  obtain ⟨q, hq⟩ : ∃ q, q = nxtI c.l nx := ⟨_, rfl⟩
  generalize (⟨sg.toArray⟩ : ByteArray) = s1 at *
  obtain ⟨s, hs⟩ : ∃ s : ByteArray, s = ⟨c.l.toArray⟩ := ⟨_, rfl⟩
  rw [← hs] at KT HC0
  rw [← hq] at KT
  have HQ := Lib.hid hq
  have KG := Lib.hid (show ∀ z, GivesFrom z 24 #[.string s, .int .i64 (nx : Int)] (.tuple #[.string s1, .int .i64 (q : Nat)]) from fun z w' hb => KT.out w')
  clear ht h hread hs hq hnx1
  go_enter Tryd.func75, Tryd.ntmps75
  go_wp2_with fail
  refine wp_game (List.replicate 14 0) [] B0 fin_B0 (has_B0 _) (by kernel_rfl) (by kernel_rfl) ?_
  refine lex_quietE 14 (by kernel_rfl) (by rfl) ?_
  apply Exists.intro
  refine ⟨fun z hz => ?_, ?_⟩
  · have g0 := behind_cellXp hz HC0.out (by simp)
    have g2 := behind_cellXp hz HC2.out (by simp)
    have KTz := KG.out z
    clear hz
    simp only [List.take_succ_cons, List.take_zero]
    unfold Cx
    repeat (go_big_quiet_step (with_reducible exact KTz.at _))
    exact wpQuiet_nil rfl
  simp only [List.drop_succ_cons, List.drop_zero]
  refine lex_nil ?_
  intro x2 hx2 _
  have HX := Lib.hid hx2.below
  have KN2 := KN.out x2 HX.out
  clear hx2
  go_wp2_with fail
  refine KN2.mono ?_
  rintro e w3 ⟨rfl, hR3, hB3⟩
  have hB03 : Behind w [c.br] w3 := ((behind_of_below HX.out).mono (by simp)).trans hB3 (fun k hk => .inl hk)
  have HS3 := Lib.hid (HH.out.move hc hR3 hB03 HPL.out (by omega))
  have HB03 := Lib.hid hB03
  have c3 := blk_cell HS3.out.rd 3 rfl
  have f3 := blk_free HS3.out.rd 3
  clear hR3 hB3 hB03 KN2
  have hd : decide ((200 : Int) ≤ (o : Int)) = false := decide_eq_false (by omega)
  have hd2 : decide (200 ≤ o) = false := decide_eq_false (by omega)
  go_wp2_with fail
  rw [show ((o : Int) + 1) = ((o + 1 : Nat) : Int) by omega]
  have hR4 : Rd c.br c.l c.n nx1 (o + 1) v (w3.setCell ⟨c.br, 3, none⟩ (.int .i64 ((o + 1 : Nat) : Int))) := heap_setCell_same _ c.br 3 _ _ _ HS3.out.rd
  have HS4 := Lib.hid (HS3.out.move hc hR4 behind_set1 HS3.out.pl (Nat.le_refl _))
  have HB4 := Lib.hid (HB03.out.trans (behind_set1 (b := c.br) (o := 3) (v := .int .i64 ((o + 1 : Nat) : Int))) (fun k hk => .inl hk))
  clear hR4 c3 f3
  refine (HRD.out _ HB4.out HS4.out).mono ?_
  intro e w5 h5
  rcases h5 with ⟨nx2, v2, gs2, rfl, hR5, hQ⟩ | ⟨ps, rfl, hQ⟩
  · have c5 := blk_cell hR5 3 rfl
    have f5 := blk_free hR5 3
    have HR5 := Lib.hid hR5
    have HQ5 := Lib.hid hQ
    clear hR5 hQ
    go_wp2_with fail
    go_end0
    rw [HP.out]
    exact ⟨_, HB4.out, HS4.out, .inl ⟨nx2, v2, gs2, w5, rfl, HR5.out, HQ5.out, by first | rfl | (congr 2; omega)⟩⟩
  · refine ⟨rfl, ?_⟩
    rw [HP.out]
    exact ⟨_, HB4.out, HS4.out, .inr ⟨ps, rfl, hQ⟩⟩
end Go.Proofs.YtmaiofimmjedjaaDoor
