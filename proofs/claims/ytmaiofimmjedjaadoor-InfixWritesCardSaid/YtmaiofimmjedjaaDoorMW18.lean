/- Texts of this claim, joined: JW, JX. -/
import Derived.Test.YtmaiofimmjedjaaDoorMW17

/- The reader: atom, case by case. -/
namespace Go.Proofs.YtmaiofimmjedjaaDoor
open Go.RowKit

theorem OkP.put {c : Cf} (hc : c.Ok) {E : List Nat} {w w1 : World} {v v1 : Value} {nx o : Nat} {gs : List Gt} (k : Int) (hS : St c (w.heap.size :: (w.heap.size + 1) :: E) w1 nx o v1 gs) (hG : Gw c w v w1 v1) (hw : c.w0.heap.size ≤ w.heap.size) : OkP c E w v o (.ok [k] (TS c.l nx) gs) (.returned (.int .i64 k)) (w1.setCell ⟨w.heap.size + 1, 0, none⟩ (.int .i64 k)) := by
  have hb : Behind w1 [w.heap.size + 1] (w1.setCell ⟨w.heap.size + 1, 0, none⟩ (.int .i64 k)) := behind_set1
  exact ⟨k, nx, v1, rfl, rfl, rfl, (hS.wrote hc hb (fun g hg => by simp at hg; subst hg; exact ⟨by simp, by omega⟩)).apart hc (Below.refl _ _) (fun g hg => .inl (by simp [hg])), ⟨hG.be.trans hb (fun b hb => .inr (by simp at hb; omega)), hG.new⟩⟩
structure At0 (c : Cf) (E : List Nat) (w x : World) (nx o : Nat) (v : Value) (gs : List Gt) : Prop where
  st : St c (w.heap.size :: (w.heap.size + 1) :: E) x nx o v gs
  kb : x.heap[w.heap.size]? = some (.cells #[.pointer (some ⟨c.br, 0, none⟩)] 55 (0, 0))
  cb : x.heap[w.heap.size + 1]? = some (.cells #[.int .i64 0] 3 (0, 0))
  be : Below w.heap.size w x
theorem At0.new {c : Cf} (hc : c.Ok) {E : List Nat} {w : World} {nx o : Nat} {v : Value} {gs : List Gt} (h : St c E w nx o v gs) : At0 c E w ((w.alloc (.cells #[.pointer (some ⟨c.br, 0, none⟩)] 55 (0, 0))).alloc (.cells #[.int .i64 0] 3 (0, 0))) nx o v gs :=
  ⟨h.two hc _ _, (behind_of_below (below_one _ _)).keep (heap_alloc_new w _) (by simp), by
    have := heap_alloc_new (w.alloc (.cells #[.pointer (some ⟨c.br, 0, none⟩)] 55 (0, 0))) (.cells #[.int .i64 0] 3 (0, 0))
    simpa using this, (below_one w _).trans ((below_one _ _).mono (by simp))⟩
theorem At0.later {c : Cf} (hc : c.Ok) {E : List Nat} {w x y : World} {nx o : Nat} {v : Value} {gs : List Gt} (h : At0 c E w x nx o v gs) (hB : Below x.heap.size x y) : At0 c E w y nx o v gs :=
  ⟨h.st.later hc hB, (behind_of_below hB).keep h.kb (by simp), (behind_of_below hB).keep h.cb (by simp), h.be.trans (hB.mono h.be.size)⟩

set_option maxHeartbeats 6400000 in
set_option maxRecDepth 100000 in
theorem atom_none (c : Cf) (hc : c.Ok) (E : List Nat) (nx o : Nat) (v : Value) (gs : List Gt) (w : World) (hS : St c E w nx o v gs) (ho : o ≤ 200)  (h2 : tokI (c.l.drop (nxtI c.l nx)) = none) :
    Calls Tryd.prog 68 #[.pointer (some ⟨c.br, 0, none⟩)] w (OkP c E w v o (.err (TS c.l nx).length 5)) := by
  obtain ⟨Post, hPost⟩ : ∃ P : Ending → World → Prop, P = OkP c E w v o (.err (TS c.l nx).length 5) := ⟨_, rfl⟩
  rw [← hPost]
  have HP := Lib.hid hPost
  have hp := hS.pl.le
  have hl := hc.l
  have hw0 := hS.be.size
  have hbr : c.br < w.heap.size := hS.X c.br (by simp)
  have HA := Lib.hid (At0.new hc hS)
  have HPL := Lib.hid hS.pl
  have HCN := Lib.hid hS.cnt
  have HH2 := Lib.hid h2
  clear hPost hS
  have KT := Lib.hid (fun x => tok_dies hp hl h2 x)
  obtain ⟨s, hs⟩ : ∃ s : ByteArray, s = ⟨c.l.toArray⟩ := ⟨_, rfl⟩
  rw [← hs] at KT
  have HSS := Lib.hid hs
  clear h2 hs
  go_enter Tryd.func68, Tryd.ntmps68
  go_wp2_with fail
  refine wp_gen ?_
  intro x1 hx1
  rw [← hx1] at HA
  clear hx1
  have HC0 := Lib.hid (show x1.cell? ⟨c.br, 0, none⟩ = some (.string s) by rw [HSS.out]; exact blk_cell HA.out.st.rd 0 rfl)
  have HC1 := Lib.hid (blk_cell HA.out.st.rd 1 rfl)
  have HC2 := Lib.hid (blk_cell HA.out.st.rd 2 rfl)
  have HK0 := Lib.hid (blk_cell HA.out.kb 0 rfl)
  refine wp_dies (List.replicate 14 0) 8 (by kernel_rfl) (by kernel_rfl) ?_
  simp only [List.take_succ_cons, List.take_zero]
  refine lex_quietE 8 (by kernel_rfl) (by rfl) ?_
  apply Exists.intro
  refine ⟨fun z hz => ?_, ?_⟩
  · have g0 := behind_cellXp hz HC0.out (by simp)
    have g2 := behind_cellXp hz HC2.out (by simp)
    have gk := behind_cellXp hz HK0.out (by simp)
    clear hz
    simp only [List.take_succ_cons, List.take_zero]
    unfold Cx
    repeat (go_big_quiet_step (fail))
    exact wpQuiet_nil rfl
  simp only [List.drop_succ_cons, List.drop_zero]
  refine lex_nil ?_
  refine ⟨_, by rfl, by rfl, fun x hx => ⟨_, _, by go_simp, (KT.out x).mono ?_⟩⟩
  rintro e w2 ⟨rfl, hB⟩
  have HB := Lib.hid (HA.out.be.trans ((hx.below.trans (hB.mono hx.size)).mono HA.out.be.size))
  refine ⟨_, rfl, fun a2 ha2 => ?_⟩
  refine ⟨ha2, ?_⟩
  rw [HP.out]
  exact ⟨by rw [HPL.out.pos]; rfl, (behind_of_below HB.out).mono (by simp)⟩

set_option maxHeartbeats 6400000 in
set_option maxRecDepth 100000 in
theorem atom_neg (c : Cf) (hc : c.Ok) (E : List Nat) (nx o : Nat) (v : Value) (gs : List Gt) (w : World) (hS : St c E w nx o v gs) (ho : o ≤ 200) (hv0 : varI c.n [33] = 0) (hL : Less c .atom (TS c.l nx)) (h2 : tokI (c.l.drop (nxtI c.l nx)) = some [33]) :
    Calls Tryd.prog 68 #[.pointer (some ⟨c.br, 0, none⟩)] w (OkP c E w v o (openI [33] (TS c.l nx) o (negR c (o + 1) gs))) := by
  obtain ⟨Post, hPost⟩ : ∃ P : Ending → World → Prop, P = OkP c E w v o (openI [33] (TS c.l nx) o (negR c (o + 1) gs)) := ⟨_, rfl⟩
  rw [← hPost]
  have HP := Lib.hid hPost
  have hp := hS.pl.le
  have hl := hc.l
  have hw0 := hS.be.size
  have hbr : c.br < w.heap.size := hS.X c.br (by simp)
  have HA := Lib.hid (At0.new hc hS)
  have HPL := Lib.hid hS.pl
  have HCN := Lib.hid hS.cnt
  have HH2 := Lib.hid h2
  clear hPost hS
  have hless := TS_less h2 (by simp)
  have KL := Lib.hid (hL .atom (TS c.l (nxtI c.l nx + ([33] : List UInt8).length)) rfl (bd_lt (by omega)))
  clear hless hL
  have KT := Lib.hid (fun x => tok_gives hp hl h2 x)
  have hqb : nxtI c.l nx ≤ 1048576 := Nat.le_trans (nxt_le hp) hl
  have htb := tok_le h2
  rw [List.length_drop] at htb
  have KV := Lib.hid (fun (x : World) (hx : VarsI x) => gVariable [33] c.n hc.n (by first | omega | simp) x hx)
  have hvb := varI_le c.n [33]
  have hn := hc.n
  obtain ⟨s, hs⟩ : ∃ s : ByteArray, s = ⟨c.l.toArray⟩ := ⟨_, rfl⟩
  rw [← hs] at KT
  have HSS := Lib.hid hs
  obtain ⟨q, hq⟩ : ∃ q, q = nxtI c.l nx := ⟨_, rfl⟩
  rw [← hq] at KT
  have HQ := Lib.hid hq
  have KG := Lib.hid (show ∀ z, GivesFrom z 24 #[.string s, .int .i64 (nx : Int)] (.tuple #[.string ⟨#[33]⟩, .int .i64 (q : Nat)]) from fun z w' hb => KT.out w')
  have KV := Lib.hid (show ∀ x, VarsI x → Calls Tryd.prog 73 #[.string ⟨#[33]⟩, .int .i64 (c.n : Int)] x fun e w' => e = .returned (.int .i64 0) ∧ Below x.heap.size x w' from fun x hx => by
    have h := KV.out x hx
    rw [hv0] at h
    exact h)
  have hq2 : q ≤ 1048576 := by rw [hq]; exact hqb
  clear h2 hs hq hqb htb KT hvb
  go_enter Tryd.func68, Tryd.ntmps68
  go_wp2_with fail
  refine wp_gen ?_
  intro x1 hx1
  rw [← hx1] at HA
  clear hx1
  have HC0 := Lib.hid (show x1.cell? ⟨c.br, 0, none⟩ = some (.string s) by rw [HSS.out]; exact blk_cell HA.out.st.rd 0 rfl)
  have HC1 := Lib.hid (blk_cell HA.out.st.rd 1 rfl)
  have HC2 := Lib.hid (blk_cell HA.out.st.rd 2 rfl)
  have HK0 := Lib.hid (blk_cell HA.out.kb 0 rfl)
  refine wp_game (List.replicate 14 0) [] B0 fin_B0 (has_B0 _) (by kernel_rfl) (by kernel_rfl) ?_
  refine lex_quietE 14 (by kernel_rfl) (by rfl) ?_
  apply Exists.intro
  refine ⟨fun z hz => ?_, ?_⟩
  · have g0 := behind_cellXp hz HC0.out (by simp)
    have g2 := behind_cellXp hz HC2.out (by simp)
    have gk := behind_cellXp hz HK0.out (by simp)
    have KTz := KG.out z
    clear hz
    simp only [List.take_succ_cons, List.take_zero]
    unfold Cx
    repeat (go_big_quiet_step (with_reducible exact KTz.at _))
    exact wpQuiet_nil rfl
  simp only [List.drop_succ_cons, List.drop_zero]
  refine lex_nil ?_
  intro x2 hx2 _
  have HA2 := Lib.hid (HA.out.later hc hx2.below)
  have KV2 := KV.out x2 (HA2.out.st.vars hc)
  have gk := blk_cell HA2.out.kb 0 rfl
  have g1 := blk_cell HA2.out.st.rd 1 rfl
  clear hx2
  go_wp2_with fail
  refine KV2.mono ?_
  rintro e x3 ⟨rfl, hB3⟩
  have HA3 := Lib.hid (HA2.out.later hc hB3)
  have gk3 := blk_cell HA3.out.kb 0 rfl
  clear hB3 KV2 gk g1
  have KN := gNegated c hc _ nx o v gs x3 HA3.out.st (fun _ _ => KL.out)
  obtain ⟨R, hR⟩ : ∃ R, R = openI [33] (TS c.l nx) o (negR c (o + 1) gs) := ⟨_, rfl⟩
  rw [← hR] at KN HP
  clear hR
  go_wp2_with fail
  refine KN.mono ?_
  intro e x5 h5
  cases R with
  | err q5 en =>
    obtain ⟨rfl, h5⟩ := h5
    refine ⟨rfl, ?_⟩
    rw [HP.out]
    exact OkP.err_after (Gw.of_below HA3.out.be) h5
  | ok lst ts5 gs5 =>
    obtain ⟨k5, nx5, v5, rfl, rfl, rfl, hS5, hG5⟩ := h5
    have HS5 := Lib.hid hS5
    have HG5 := Lib.hid ((Gw.of_below (c := c) (v := v) HA3.out.be).trans hG5)
    have HC5 := Lib.hid (hG5.be.keep HA3.out.cb (HA3.out.st.ex (w.heap.size + 1) (by simp)).2)
    have c5 := blk_cell HC5.out 0 rfl
    have f5 := blk_free HC5.out 0
    clear hS5 hG5 KN
    go_wp2_with fail
    refine bodyPost_ret (results_cell_one (p := 2) rfl _ _ (w.heap.size + 1) _ _ rfl (blk_cell (heap_setCell_same _ (w.heap.size + 1) 0 _ _ _ HC5.out) 0 rfl) Tryd.underlying3 rfl) rfl ?_
    rw [HP.out]
    exact OkP.put hc _ HS5.out HG5.out hw0

set_option maxHeartbeats 6400000 in
set_option maxRecDepth 100000 in
theorem atom_par (c : Cf) (hc : c.Ok) (E : List Nat) (nx o : Nat) (v : Value) (gs : List Gt) (w : World) (hS : St c E w nx o v gs) (ho : o ≤ 200) (hv0 : varI c.n [40] = 0) (hL : Less c .atom (TS c.l nx)) (h2 : tokI (c.l.drop (nxtI c.l nx)) = some [40]) :
    Calls Tryd.prog 68 #[.pointer (some ⟨c.br, 0, none⟩)] w (OkP c E w v o (openI [40] (TS c.l nx) o (parR c (o + 1) gs))) := by
  obtain ⟨Post, hPost⟩ : ∃ P : Ending → World → Prop, P = OkP c E w v o (openI [40] (TS c.l nx) o (parR c (o + 1) gs)) := ⟨_, rfl⟩
  rw [← hPost]
  have HP := Lib.hid hPost
  have hp := hS.pl.le
  have hl := hc.l
  have hw0 := hS.be.size
  have hbr : c.br < w.heap.size := hS.X c.br (by simp)
  have HA := Lib.hid (At0.new hc hS)
  have HPL := Lib.hid hS.pl
  have HCN := Lib.hid hS.cnt
  have HH2 := Lib.hid h2
  clear hPost hS
  have hless := TS_less h2 (by simp)
  have KL := Lib.hid (hL .form (TS c.l (nxtI c.l nx + ([40] : List UInt8).length)) rfl (bd_lt (by omega)))
  clear hless hL
  have KT := Lib.hid (fun x => tok_gives hp hl h2 x)
  have hqb : nxtI c.l nx ≤ 1048576 := Nat.le_trans (nxt_le hp) hl
  have htb := tok_le h2
  rw [List.length_drop] at htb
  have KV := Lib.hid (fun (x : World) (hx : VarsI x) => gVariable [40] c.n hc.n (by first | omega | simp) x hx)
  have hvb := varI_le c.n [40]
  have hn := hc.n
  obtain ⟨s, hs⟩ : ∃ s : ByteArray, s = ⟨c.l.toArray⟩ := ⟨_, rfl⟩
  rw [← hs] at KT
  have HSS := Lib.hid hs
  obtain ⟨q, hq⟩ : ∃ q, q = nxtI c.l nx := ⟨_, rfl⟩
  rw [← hq] at KT
  have HQ := Lib.hid hq
  have KG := Lib.hid (show ∀ z, GivesFrom z 24 #[.string s, .int .i64 (nx : Int)] (.tuple #[.string ⟨#[40]⟩, .int .i64 (q : Nat)]) from fun z w' hb => KT.out w')
  have KV := Lib.hid (show ∀ x, VarsI x → Calls Tryd.prog 73 #[.string ⟨#[40]⟩, .int .i64 (c.n : Int)] x fun e w' => e = .returned (.int .i64 0) ∧ Below x.heap.size x w' from fun x hx => by
    have h := KV.out x hx
    rw [hv0] at h
    exact h)
  have hq2 : q ≤ 1048576 := by rw [hq]; exact hqb
  clear h2 hs hq hqb htb KT hvb
  go_enter Tryd.func68, Tryd.ntmps68
  go_wp2_with fail
  refine wp_gen ?_
  intro x1 hx1
  rw [← hx1] at HA
  clear hx1
  have HC0 := Lib.hid (show x1.cell? ⟨c.br, 0, none⟩ = some (.string s) by rw [HSS.out]; exact blk_cell HA.out.st.rd 0 rfl)
  have HC1 := Lib.hid (blk_cell HA.out.st.rd 1 rfl)
  have HC2 := Lib.hid (blk_cell HA.out.st.rd 2 rfl)
  have HK0 := Lib.hid (blk_cell HA.out.kb 0 rfl)
  refine wp_game (List.replicate 14 0) [] B0 fin_B0 (has_B0 _) (by kernel_rfl) (by kernel_rfl) ?_
  refine lex_quietE 14 (by kernel_rfl) (by rfl) ?_
  apply Exists.intro
  refine ⟨fun z hz => ?_, ?_⟩
  · have g0 := behind_cellXp hz HC0.out (by simp)
    have g2 := behind_cellXp hz HC2.out (by simp)
    have gk := behind_cellXp hz HK0.out (by simp)
    have KTz := KG.out z
    clear hz
    simp only [List.take_succ_cons, List.take_zero]
    unfold Cx
    repeat (go_big_quiet_step (with_reducible exact KTz.at _))
    exact wpQuiet_nil rfl
  simp only [List.drop_succ_cons, List.drop_zero]
  refine lex_nil ?_
  intro x2 hx2 _
  have HA2 := Lib.hid (HA.out.later hc hx2.below)
  have KV2 := KV.out x2 (HA2.out.st.vars hc)
  have gk := blk_cell HA2.out.kb 0 rfl
  have g1 := blk_cell HA2.out.st.rd 1 rfl
  clear hx2
  go_wp2_with fail
  refine KV2.mono ?_
  rintro e x3 ⟨rfl, hB3⟩
  have HA3 := Lib.hid (HA2.out.later hc hB3)
  have gk3 := blk_cell HA3.out.kb 0 rfl
  clear hB3 KV2 gk g1
  have KN := insideA c hc _ nx o v gs x3 HA3.out.st [40] #[.pointer (some ⟨w.heap.size, 0, none⟩), .pointer (some ⟨w.heap.size + 1, 0, none⟩)] (by simp) [w.heap.size + 1] (F1 (w.heap.size + 1)) (F1.later (by omega)) (parR c (o + 1) gs)
    (fun w1 ho hB1 ht hS1 => atom1 c hc _ w.heap.size (w.heap.size + 1) _ (o + 1) v gs w1 hS1 (by omega) (by simp) (by simp) (by omega) (by omega) (hB1.keep HA3.out.kb (by simp; omega)) (hB1.keep HA3.out.cb (by simp; omega)) KL.out)
  obtain ⟨R, hR⟩ : ∃ R, R = openI [40] (TS c.l nx) o (parR c (o + 1) gs) := ⟨_, rfl⟩
  rw [← hR] at KN HP
  clear hR
  go_wp2_with fail
  refine KN.mono ?_
  intro e x5 h5
  cases R with
  | err q5 en =>
    obtain ⟨rfl, h5⟩ := h5
    refine ⟨rfl, ?_⟩
    rw [HP.out]
    exact ⟨rfl, drop_err h5 HA3.out.be (fun g hg => by simp at hg; omega)⟩
  | ok lst ts5 gs5 =>
    obtain ⟨nx5, v5, rfl, rfl, hS5, hG5, k5, rfl, hC5⟩ := h5
    have HS5 := Lib.hid hS5
    have HG5 := Lib.hid (hG5.drop HA3.out.be (fun g hg => by simp at hg; omega))
    have HC5 := Lib.hid hC5
    have c5 := blk_cell HC5.out 0 rfl
    have f5 := blk_free HC5.out 0
    clear hS5 hG5 hC5 KN
    go_wp2_with fail
    refine bodyPost_ret (results_cell_one (p := 2) rfl _ _ (w.heap.size + 1) _ _ rfl (blk_cell (heap_setCell_same _ (w.heap.size + 1) 0 _ _ _ HC5.out) 0 rfl) Tryd.underlying3 rfl) rfl ?_
    rw [HP.out]
    exact OkP.put hc _ HS5.out HG5.out hw0
end Go.Proofs.YtmaiofimmjedjaaDoor

/- The reader: atom, a variable, and what begins no formula. -/
namespace Go.Proofs.YtmaiofimmjedjaaDoor
open Go.RowKit

set_option maxHeartbeats 6400000 in
set_option maxRecDepth 100000 in
theorem atom_var (c : Cf) (hc : c.Ok) (E : List Nat) (nx o : Nat) (v : Value) (gs : List Gt) (w : World) (hS : St c E w nx o v gs) (ho : o ≤ 200) (t : List UInt8) (hv0 : varI c.n t ≠ 0) (h2 : tokI (c.l.drop (nxtI c.l nx)) = some t) :
    Calls Tryd.prog 68 #[.pointer (some ⟨c.br, 0, none⟩)] w (OkP c E w v o (.ok [(gs.length : Nat)] (TS c.l nx).tail (gs ++ [⟨2, varI c.n t, []⟩]))) := by
  obtain ⟨Post, hPost⟩ : ∃ P : Ending → World → Prop, P = OkP c E w v o (.ok [(gs.length : Nat)] (TS c.l nx).tail (gs ++ [⟨2, varI c.n t, []⟩])) := ⟨_, rfl⟩
  rw [← hPost]
  have HP := Lib.hid hPost
  have hp := hS.pl.le
  have hl := hc.l
  have hw0 := hS.be.size
  have hbr : c.br < w.heap.size := hS.X c.br (by simp)
  have HA := Lib.hid (At0.new hc hS)
  have HPL := Lib.hid hS.pl
  have HCN := Lib.hid hS.cnt
  have HH2 := Lib.hid h2
  clear hPost hS
  have KT := Lib.hid (fun x => tok_gives hp hl h2 x)
  have hqb : nxtI c.l nx ≤ 1048576 := Nat.le_trans (nxt_le hp) hl
  have htb := tok_le h2
  rw [List.length_drop] at htb
  have KV := Lib.hid (fun (x : World) (hx : VarsI x) => gVariable t c.n hc.n (by first | omega | simp) x hx)
  have hvb := varI_le c.n t
  have hn := hc.n
  have hnt : t ≠ [] := fun e => hv0 (by rw [e]; exact varI_nil c.n)
  have HNT := Lib.hid hnt
  obtain ⟨vi, hvi⟩ : ∃ vi, vi = varI c.n t := ⟨_, rfl⟩
  rw [← hvi] at KV HP hv0 hvb
  clear hvi hnt
  obtain ⟨t1, ht1⟩ : ∃ t1 : ByteArray, t1 = ⟨t.toArray⟩ := ⟨_, rfl⟩
  have hz1 : t1.size = t.length := by rw [ht1]; exact ba_size t
  rw [← ht1] at KT KV
  have HT1 := Lib.hid ht1
  obtain ⟨s, hs⟩ : ∃ s : ByteArray, s = ⟨c.l.toArray⟩ := ⟨_, rfl⟩
  rw [← hs] at KT
  have HSS := Lib.hid hs
  obtain ⟨q, hq⟩ : ∃ q, q = nxtI c.l nx := ⟨_, rfl⟩
  rw [← hq] at KT
  have HQ := Lib.hid hq
  have KG := Lib.hid (show ∀ z, GivesFrom z 24 #[.string s, .int .i64 (nx : Int)] (.tuple #[.string t1, .int .i64 (q : Nat)]) from fun z w' hb => KT.out w')
  have hz2 : t1.size ≤ 1048576 := by omega
  have hq2 : q ≤ 1048576 := by rw [hq]; exact hqb
  clear h2 hs hq ht1 hqb htb KT
  go_enter Tryd.func68, Tryd.ntmps68
  go_wp2_with fail
  refine wp_gen ?_
  intro x1 hx1
  rw [← hx1] at HA
  clear hx1
  have HC0 := Lib.hid (show x1.cell? ⟨c.br, 0, none⟩ = some (.string s) by rw [HSS.out]; exact blk_cell HA.out.st.rd 0 rfl)
  have HC1 := Lib.hid (blk_cell HA.out.st.rd 1 rfl)
  have HC2 := Lib.hid (blk_cell HA.out.st.rd 2 rfl)
  have HK0 := Lib.hid (blk_cell HA.out.kb 0 rfl)
  refine wp_game (List.replicate 14 0) [] B0 fin_B0 (has_B0 _) (by kernel_rfl) (by kernel_rfl) ?_
  refine lex_quietE 14 (by kernel_rfl) (by rfl) ?_
  apply Exists.intro
  refine ⟨fun z hz => ?_, ?_⟩
  · have g0 := behind_cellXp hz HC0.out (by simp)
    have g2 := behind_cellXp hz HC2.out (by simp)
    have gk := behind_cellXp hz HK0.out (by simp)
    have KTz := KG.out z
    clear hz
    simp only [List.take_succ_cons, List.take_zero]
    unfold Cx
    repeat (go_big_quiet_step (with_reducible exact KTz.at _))
    exact wpQuiet_nil rfl
  simp only [List.drop_succ_cons, List.drop_zero]
  refine lex_nil ?_
  intro x2 hx2 _
  have HA2 := Lib.hid (HA.out.later hc hx2.below)
  have KV2 := KV.out x2 (HA2.out.st.vars hc)
  have gk := blk_cell HA2.out.kb 0 rfl
  have g1 := blk_cell HA2.out.st.rd 1 rfl
  clear hx2
  go_wp2_with fail
  refine KV2.mono ?_
  rintro e x3 ⟨rfl, hB3⟩
  have HA3 := Lib.hid (HA2.out.later hc hB3)
  have gk3 := blk_cell HA3.out.kb 0 rfl
  clear hB3 KV2 gk g1
  have hd : decide ((0 : Int) < (vi : Int)) = true := decide_eq_true (by omega)
  have e2 := blk_cell HA3.out.st.rd 2 rfl
  have f2 := blk_free HA3.out.st.rd 2
  have hkbr : ¬ w.heap.size = c.br := by omega
  obtain ⟨m, hm⟩ : ∃ m, m = t.length := ⟨_, rfl⟩
  rw [← hm] at hz1
  have HM := Lib.hid hm
  clear hm
  go_wp2_with fail
  rw [show ((q : Int) + (m : Int)) = ((q + m : Nat) : Int) by omega]
  have hR4 : Rd c.br c.l c.n (q + m) o v (x3.setCell ⟨c.br, 2, none⟩ (.int .i64 ((q + m : Nat) : Int))) := heap_setCell_same _ c.br 2 _ _ _ HA3.out.st.rd
  have hPl := HPL.out.next HH2.out HNT.out
  have hless := TS_less HH2.out HNT.out
  have htl := TS_tail HH2.out HNT.out
  rw [← HQ.out, ← HM.out] at hPl hless htl
  have hb4 : Behind x3 [c.br] (x3.setCell ⟨c.br, 2, none⟩ (.int .i64 ((q + m : Nat) : Int))) := behind_set1
  have HS4 := Lib.hid (HA3.out.st.move hc hR4 hb4 hPl (by omega))
  have HG4 := Lib.hid ((Gw.of_below (c := c) (v := v) HA3.out.be).trans (Gw.of_br (v := v) hb4))
  have HC4 := Lib.hid (hb4.keep HA3.out.cb (by simp; omega))
  have hcnt := HCN.out
  have KA := kAdd c hc ⟨2, (vi : Int), []⟩ none 0 HS4.out (InsAt.nil _ _ _) (by omega)
  simp only [List.length_nil] at KA
  have HTL := Lib.hid htl
  clear hR4 hPl hless htl hcnt e2 f2 gk3 hb4
  refine KA.mono ?_
  rintro e w5 ⟨v5, rfl, hS5, hG5⟩
  · have HS5 := Lib.hid hS5
    have HC5 := Lib.hid (hG5.be.keep HC4.out (HS4.out.ex (w.heap.size + 1) (by simp)).2)
    have HG5 := Lib.hid (HG4.out.trans hG5)
    have c5 := blk_cell HC5.out 0 rfl
    have f5 := blk_free HC5.out 0
    clear hS5 hG5 KA
    go_wp2_with fail
    refine bodyPost_ret (results_cell_one (p := 2) rfl _ _ (w.heap.size + 1) _ _ rfl (blk_cell (heap_setCell_same _ (w.heap.size + 1) 0 _ _ _ HC5.out) 0 rfl) Tryd.underlying3 rfl) rfl ?_
    rw [HP.out, HTL.out]
    exact OkP.put hc _ HS5.out HG5.out hw0

set_option maxHeartbeats 6400000 in
set_option maxRecDepth 100000 in
theorem atom_bad (c : Cf) (hc : c.Ok) (E : List Nat) (nx o : Nat) (v : Value) (gs : List Gt) (w : World) (hS : St c E w nx o v gs) (ho : o ≤ 200) (t : List UInt8) (hv0 : varI c.n t = 0) (hno : t ≠ [33] ∧ t ≠ [40] ∧ t ≠ [48] ∧ t ≠ [49] ∧ t ≠ [97, 110, 100] ∧ t ≠ [111, 114] ∧ t ≠ [120, 111, 114] ∧ t ≠ [105, 102]) (h2 : tokI (c.l.drop (nxtI c.l nx)) = some t) :
    Calls Tryd.prog 68 #[.pointer (some ⟨c.br, 0, none⟩)] w (OkP c E w v o (.err (TS c.l nx).length 5)) := by
  obtain ⟨Post, hPost⟩ : ∃ P : Ending → World → Prop, P = OkP c E w v o (.err (TS c.l nx).length 5) := ⟨_, rfl⟩
  rw [← hPost]
  have HP := Lib.hid hPost
  have hp := hS.pl.le
  have hl := hc.l
  have hw0 := hS.be.size
  have hbr : c.br < w.heap.size := hS.X c.br (by simp)
  have HA := Lib.hid (At0.new hc hS)
  have HPL := Lib.hid hS.pl
  have HCN := Lib.hid hS.cnt
  have HH2 := Lib.hid h2
  clear hPost hS
  have KT := Lib.hid (fun x => tok_gives hp hl h2 x)
  have hqb : nxtI c.l nx ≤ 1048576 := Nat.le_trans (nxt_le hp) hl
  have htb := tok_le h2
  rw [List.length_drop] at htb
  have KV := Lib.hid (fun (x : World) (hx : VarsI x) => gVariable t c.n hc.n (by first | omega | simp) x hx)
  have hvb := varI_le c.n t
  have hn := hc.n
  rw [hv0] at KV
  clear hv0 hvb
  have hnn : ∀ x : List UInt8, t ≠ x → ((⟨t.toArray⟩ : ByteArray).toList == x) = false := fun x hx => by rw [ba_list]; exact beq_eq_false_iff_ne.2 hx
  obtain ⟨n1, n2, n3, n4, n5, n6, n7, n8⟩ := hno
  have n1 := hnn _ n1
  have n2 := hnn _ n2
  have n3 := hnn _ n3
  have n4 := hnn _ n4
  have n5 := hnn _ n5
  have n6 := hnn _ n6
  have n7 := hnn _ n7
  have n8 := hnn _ n8
  clear hnn
  obtain ⟨t1, ht1⟩ : ∃ t1 : ByteArray, t1 = ⟨t.toArray⟩ := ⟨_, rfl⟩
  have hz1 : t1.size = t.length := by rw [ht1]; exact ba_size t
  rw [← ht1] at KT KV n1 n2 n3 n4 n5 n6 n7 n8
  have HT1 := Lib.hid ht1
  obtain ⟨s, hs⟩ : ∃ s : ByteArray, s = ⟨c.l.toArray⟩ := ⟨_, rfl⟩
  rw [← hs] at KT
  have HSS := Lib.hid hs
  obtain ⟨q, hq⟩ : ∃ q, q = nxtI c.l nx := ⟨_, rfl⟩
  rw [← hq] at KT
  have HQ := Lib.hid hq
  have KG := Lib.hid (show ∀ z, GivesFrom z 24 #[.string s, .int .i64 (nx : Int)] (.tuple #[.string t1, .int .i64 (q : Nat)]) from fun z w' hb => KT.out w')
  have hz2 : t1.size ≤ 1048576 := by omega
  have hq2 : q ≤ 1048576 := by rw [hq]; exact hqb
  clear h2 hs hq ht1 hqb htb KT
  go_enter Tryd.func68, Tryd.ntmps68
  go_wp2_with fail
  refine wp_gen ?_
  intro x1 hx1
  rw [← hx1] at HA
  clear hx1
  have HC0 := Lib.hid (show x1.cell? ⟨c.br, 0, none⟩ = some (.string s) by rw [HSS.out]; exact blk_cell HA.out.st.rd 0 rfl)
  have HC1 := Lib.hid (blk_cell HA.out.st.rd 1 rfl)
  have HC2 := Lib.hid (blk_cell HA.out.st.rd 2 rfl)
  have HK0 := Lib.hid (blk_cell HA.out.kb 0 rfl)
  refine wp_game (List.replicate 14 0) [] B0 fin_B0 (has_B0 _) (by kernel_rfl) (by kernel_rfl) ?_
  refine lex_quietE 14 (by kernel_rfl) (by rfl) ?_
  apply Exists.intro
  refine ⟨fun z hz => ?_, ?_⟩
  · have g0 := behind_cellXp hz HC0.out (by simp)
    have g2 := behind_cellXp hz HC2.out (by simp)
    have gk := behind_cellXp hz HK0.out (by simp)
    have KTz := KG.out z
    clear hz
    simp only [List.take_succ_cons, List.take_zero]
    unfold Cx
    repeat (go_big_quiet_step (with_reducible exact KTz.at _))
    exact wpQuiet_nil rfl
  simp only [List.drop_succ_cons, List.drop_zero]
  refine lex_nil ?_
  intro x2 hx2 _
  have HA2 := Lib.hid (HA.out.later hc hx2.below)
  have KV2 := KV.out x2 (HA2.out.st.vars hc)
  have gk := blk_cell HA2.out.kb 0 rfl
  have g1 := blk_cell HA2.out.st.rd 1 rfl
  clear hx2
  go_wp2_with fail
  refine KV2.mono ?_
  rintro e x3 ⟨rfl, hB3⟩
  have HA3 := Lib.hid (HA2.out.later hc hB3)
  have gk3 := blk_cell HA3.out.kb 0 rfl
  clear hB3 KV2 gk g1
  have KF := gFail c.br c.l c.n nx o v x3 HA3.out.st.rd hp hl
  go_wp2_with fail
  refine KF.mono ?_
  rintro e w4 ⟨rfl, hB⟩
  refine ⟨rfl, ?_⟩
  rw [HP.out, ← HPL.out.pos]
  exact ⟨rfl, (behind_of_below (HA3.out.be.trans (hB.mono HA3.out.be.size))).mono (by simp)⟩
end Go.Proofs.YtmaiofimmjedjaaDoor
