/- Texts of this claim, joined: JY. -/
import Derived.Test.YtmaiofimmjedjaaDoorMW18

/- The reader: atom, words, 0 and 1. -/
namespace Go.Proofs.YtmaiofimmjedjaaDoor
open Go.RowKit Go.Maps Go.MapKept

theorem Tryd.keyStrJ : Keyed Tryd.prog 9 := string_keyed Tryd.underlying9
theorem map_look_s {T V : TypeId} (hT : Tryd.prog.underlying T = some (.map 9 V)) {w : World} {g : Nat} {es : Array MapEntry} {clock : Nat} (hb : w.heap[g]? = some (.map es clock)) (x : ByteArray) (hx : x.size ≤ 1000) {j : Nat} {v : Value} (hf : Instr.findNow .string (.string x) es.toList 0 = some (some (j, v))) : (Instr.lookup T (.map (some g)) (.string x) false).run Tryd.prog w = .ok v w := by
  have hkey : keyOf Tryd.prog 9 (.string x) = some (.string x.data.toList) := Go.WideMaps.keyOf_string_mk Tryd.underlying9 (by unfold maxLen; omega)
  simp [Instr.lookup, run_underlying hT, Go.MapKept.run_getObj_map hb, Tryd.keyStrJ.check w _ hkey, run_findKey Tryd.underlying9 hf, Result.andThen]
theorem map_put_s {T V : TypeId} (hT : Tryd.prog.underlying T = some (.map 9 V)) {w : World} {g : Nat} {es : Array MapEntry} {clock : Nat} (hb : w.heap[g]? = some (.map es clock)) (x : ByteArray) (v : Value) (hx : x.size ≤ 1000) (hf : Instr.findNow .string (.string x) es.toList 0 = some none) : ∃ w', (Instr.mapUpdate T (.map (some g)) (.string x) v).run Tryd.prog w = .ok () w' ∧ w'.heap[g]? = some (.map (es.push ⟨.string x, v, clock⟩) (clock + 1)) ∧ Behind w [g] w' := by
  have hkey : keyOf Tryd.prog 9 (.string x) = some (.string x.data.toList) := Go.WideMaps.keyOf_string_mk Tryd.underlying9 (by unfold maxLen; omega)
  have hlt : g < w.heap.size := lt_of_heap hb
  refine ⟨{ w with heap := w.heap.setIfInBounds g (.map (es.push ⟨.string x, v, clock⟩) (clock + 1)) }, ?_, ?_, rfl, rfl, rfl, by simp, fun k hk' hn' => ?_⟩
  · simp [Instr.mapUpdate, run_underlying hT, Go.MapKept.run_getObj_map hb, Tryd.keyStrJ.check w _ hkey, run_findKey Tryd.underlying9 hf, Go.MapKept.run_setObj_map _ hb, Result.andThen]
  · simp [hlt]
  · have hne : g ≠ k := fun e => hn' (by simp [e])
    show (w.heap.setIfInBounds g _)[k]? = _
    rw [Array.getElem?_setIfInBounds_ne hne]

set_option maxHeartbeats 6400000 in
set_option maxRecDepth 100000 in
theorem atom_and (c : Cf) (hc : c.Ok) (E : List Nat) (nx o : Nat) (v : Value) (gs : List Gt) (w : World) (hS : St c E w nx o v gs) (ho : o ≤ 200) (hv0 : varI c.n [97, 110, 100] = 0) (hL : Less c .atom (TS c.l nx)) (h2 : tokI (c.l.drop (nxtI c.l nx)) = some [97, 110, 100]) :
    Calls Tryd.prog 68 #[.pointer (some ⟨c.br, 0, none⟩)] w (OkP c E w v o ((RI c.n .args (TS c.l nx).tail o gs).bind fun l ts gs => .ok [(gs.length : Nat)] ts (gs ++ [⟨4, 0, l⟩]))) := by
  obtain ⟨Post, hPost⟩ : ∃ P : Ending → World → Prop, P = OkP c E w v o ((RI c.n .args (TS c.l nx).tail o gs).bind fun l ts gs => .ok [(gs.length : Nat)] ts (gs ++ [⟨4, 0, l⟩])) := ⟨_, rfl⟩
  rw [← hPost]
  have HP := Lib.hid hPost
  have hp := hS.pl.le
  have hl := hc.l
  have hw0 := hS.be.size
  have hbr : c.br < w.heap.size := hS.X c.br (by simp)
  have HA := Lib.hid (At0.new hc hS)
  have HPL := Lib.hid hS.pl
  have HCN := Lib.hid hS.cnt
  have HH2 := Lib.hid h2
  clear hPost hS
  have KL := Lib.hid (fun ts (h : ts.length < (TS c.l nx).length) => hL .form ts rfl (bd_lt h))
  clear hL
  have KT := Lib.hid (fun x => tok_gives hp hl h2 x)
  have hqb : nxtI c.l nx ≤ 1048576 := Nat.le_trans (nxt_le hp) hl
  have htb := tok_le h2
  rw [List.length_drop] at htb
  have KV := Lib.hid (fun (x : World) (hx : VarsI x) => gVariable [97, 110, 100] c.n hc.n (by first | omega | simp) x hx)
  have hvb := varI_le c.n [97, 110, 100]
  have hn := hc.n
  obtain ⟨s, hs⟩ : ∃ s : ByteArray, s = ⟨c.l.toArray⟩ := ⟨_, rfl⟩
  rw [← hs] at KT
  have HSS := Lib.hid hs
  obtain ⟨q, hq⟩ : ∃ q, q = nxtI c.l nx := ⟨_, rfl⟩
  rw [← hq] at KT
  have HQ := Lib.hid hq
  have KG := Lib.hid (show ∀ z, GivesFrom z 24 #[.string s, .int .i64 (nx : Int)] (.tuple #[.string ⟨#[97, 110, 100]⟩, .int .i64 (q : Nat)]) from fun z w' hb => KT.out w')
  have KV := Lib.hid (show ∀ x, VarsI x → Calls Tryd.prog 73 #[.string ⟨#[97, 110, 100]⟩, .int .i64 (c.n : Int)] x fun e w' => e = .returned (.int .i64 0) ∧ Below x.heap.size x w' from fun x hx => by
    have h := KV.out x hx
    rw [hv0] at h
    exact h)
  have hq2 : q ≤ 1048576 := by rw [hq]; exact hqb
  clear h2 hs hq hqb htb KT hvb
  go_enter Tryd.func68, Tryd.ntmps68
  go_wp2_with fail
  refine wp_gen ?_
  intro x1 hx1
  rw [← hx1] at HA
  clear hx1
  have HC0 := Lib.hid (show x1.cell? ⟨c.br, 0, none⟩ = some (.string s) by rw [HSS.out]; exact blk_cell HA.out.st.rd 0 rfl)
  have HC1 := Lib.hid (blk_cell HA.out.st.rd 1 rfl)
  have HC2 := Lib.hid (blk_cell HA.out.st.rd 2 rfl)
  have HK0 := Lib.hid (blk_cell HA.out.kb 0 rfl)
  refine wp_game (List.replicate 14 0) [] B0 fin_B0 (has_B0 _) (by kernel_rfl) (by kernel_rfl) ?_
  refine lex_quietE 14 (by kernel_rfl) (by rfl) ?_
  apply Exists.intro
  refine ⟨fun z hz => ?_, ?_⟩
  · have g0 := behind_cellXp hz HC0.out (by simp)
    have g2 := behind_cellXp hz HC2.out (by simp)
    have gk := behind_cellXp hz HK0.out (by simp)
    have KTz := KG.out z
    clear hz
    simp only [List.take_succ_cons, List.take_zero]
    unfold Cx
    repeat (go_big_quiet_step (with_reducible exact KTz.at _))
    exact wpQuiet_nil rfl
  simp only [List.drop_succ_cons, List.drop_zero]
  refine lex_nil ?_
  intro x2 hx2 _
  have HA2 := Lib.hid (HA.out.later hc hx2.below)
  have KV2 := KV.out x2 (HA2.out.st.vars hc)
  have gk := blk_cell HA2.out.kb 0 rfl
  have g1 := blk_cell HA2.out.st.rd 1 rfl
  clear hx2
  go_wp2_with fail
  refine KV2.mono ?_
  rintro e x3 ⟨rfl, hB3⟩
  have HA3 := Lib.hid (HA2.out.later hc hB3)
  have gk3 := blk_cell HA3.out.kb 0 rfl
  clear hB3 KV2 gk g1
  have e2 := blk_cell HA3.out.st.rd 2 rfl
  have f2 := blk_free HA3.out.st.rd 2
  have hkbr : ¬ w.heap.size = c.br := by omega
  have hR4 : Rd c.br c.l c.n (q + 3) o v (x3.setCell ⟨c.br, 2, none⟩ (.int .i64 ((q + 3 : Nat) : Int))) := heap_setCell_same _ c.br 2 _ _ _ HA3.out.st.rd
  have hPl := HPL.out.next HH2.out (by simp)
  have hless := TS_less HH2.out (by simp)
  have htl := TS_tail HH2.out (by simp)
  rw [← HQ.out] at hPl hless htl
  have hb4 : Behind x3 [c.br] (x3.setCell ⟨c.br, 2, none⟩ (.int .i64 ((q + 3 : Nat) : Int))) := behind_set1
  have HS4 := Lib.hid (show St c (w.heap.size :: (w.heap.size + 1) :: E) (x3.setCell ⟨c.br, 2, none⟩ (.int .i64 ((q + 3 : Nat) : Int))) (q + 3) o v gs from HA3.out.st.move hc hR4 hb4 hPl (by have : (TS c.l (q + 3)).length + 1 = (TS c.l nx).length := hless; omega))
  have HLS := Lib.hid (show (TS c.l (q + 3)).length + 1 = (TS c.l nx).length from hless)
  have HTL := Lib.hid (show (TS c.l nx).tail = TS c.l (q + 3) from htl)
  have HG4 := Lib.hid ((Gw.of_below (c := c) (v := v) HA3.out.be).trans (Gw.of_br (v := v) hb4))
  have HC4 := Lib.hid (hb4.keep HA3.out.cb (by simp; omega))
  have HK4 := Lib.hid (hb4.keep HA3.out.kb (by simp; omega))
  clear hR4 hPl hless htl hb4
  rw [show ((q + 3 : Nat) : Int) = (q : Int) + 3 by omega] at HS4 HG4 HC4 HK4
  go_wp2_with fail
  refine wp_seq 4 (fun y => y.heap[w.heap.size]? = some (.cells #[.pointer (some ⟨c.br, 0, none⟩)] 55 (0, 0))) (by kernel_rfl) (by kernel_rfl) (fun c d v a w h => by cases d <;> exact h) ?_
  intro x4 hx4
  have HS5 := Lib.hid (HS4.out.later hc hx4.below)
  have HK5 := Lib.hid (hx4.keep HK4.out (by simp))
  have HC5 := Lib.hid (hx4.keep HC4.out (by simp))
  have HG5 := Lib.hid (HG4.out.trans (Gw.of_below (v := v) hx4.below))
  clear hx4 e2 f2 gk3
  simp only [List.take_succ_cons, List.take_zero, List.drop_succ_cons, List.drop_zero]
  refine ⟨.pointer (some ⟨c.br, 0, none⟩), ⟨by rfl, fun y hy => by have := blk_cell hy 0 rfl; clear hy; go_simp⟩, ?_⟩
  refine ⟨.int .i64 4, ⟨by rfl, fun y hy => by clear hy; go_simp⟩, ?_⟩
  refine ⟨.pointer (some ⟨c.br, 0, none⟩), ⟨by rfl, fun y hy => by have := blk_cell hy 0 rfl; clear hy; go_simp⟩, ?_⟩
  refine ⟨.int .i64 (-1), ⟨by rfl, fun y hy => by clear hy; go_simp⟩, ?_⟩
  show SeqW Tryd.prog _ _ _ _ _ _ _
  refine SeqW.step (by rfl) HK5.out ?_
  have KN := gListA c hc _ (q + 3) o v gs x4 HS5.out (fun ts hts => KL.out ts (by have := HLS.out; omega))
  have HGS := Lib.hid (fun a b d (h : RI c.n .args (TS c.l (q + 3)) o gs = .ok a b d) => (RI_gs (by trivial) h).1)
  rw [HTL.out] at HP
  obtain ⟨R1, hR1⟩ : ∃ R1, R1 = RI c.n .args (TS c.l (q + 3)) o gs := ⟨_, rfl⟩
  rw [← hR1] at KN HP HGS
  clear hR1
  go_wp2_with fail
  refine KN.mono ?_
  intro e w5 h5
  cases R1 with
  | err q5 en =>
    obtain ⟨rfl, h5⟩ := h5
    refine ⟨rfl, ?_⟩
    rw [HP.out]
    exact OkP.err_after HG5.out h5
  | ok lst ts5 gs5 =>
    obtain ⟨nx5, v5, p5, d5, rfl, rfl, hS5, hG5, hI5⟩ := h5
    have hgs5 := HGS.out _ _ _ rfl
    simp [loopM, moreM] at hgs5
    have hcnt := HCN.out
    have hls := HLS.out
    have KA := kAdd c hc ⟨4, 0, lst⟩ p5 d5 hS5 hI5 (by omega)
    have HG6 := Lib.hid (HG5.out.trans hG5)
    have HK6 := Lib.hid (hG5.be.keep HK5.out (HS5.out.ex w.heap.size (by simp)).2)
    have HC6 := Lib.hid (hG5.be.keep HC5.out (HS5.out.ex (w.heap.size + 1) (by simp)).2)
    have HS6 := Lib.hid hS5
    have HFP := Lib.hid (show Post = OkP c E w v o (.ok [(gs5.length : Nat)] (TS c.l nx5) (gs5 ++ [⟨4, 0, lst⟩])) from HP.out)
    clear hS5 hG5 hI5 KN hgs5 hcnt hls HGS
    go_wp2_with fail
    show SeqW Tryd.prog _ _ _ _ _ _ _
    refine SeqW.step (by rfl) HK6.out ?_
    go_wp2_with fail
    refine KA.mono ?_
    rintro e w7 ⟨v7, rfl, hS7, hG7⟩
    have HS7 := Lib.hid hS7
    have HG7 := Lib.hid (HG6.out.trans hG7)
    have HK7 := Lib.hid (hG7.be.keep HK6.out (HS6.out.ex w.heap.size (by simp)).2)
    have HC5 := Lib.hid (hG7.be.keep HC6.out (HS6.out.ex (w.heap.size + 1) (by simp)).2)
    have c5 := blk_cell HC5.out 0 rfl
    have f5 := blk_free HC5.out 0
    clear hS7 hG7 KA
    go_wp2_with fail
    show SeqW Tryd.prog _ _ _ _ _ _ _
    refine SeqW.step (by rfl) HK7.out ?_
    go_wp2_with fail
    refine SQ.done ?_
    go_wp2_with fail
    refine bodyPost_ret (results_cell_one (p := 2) rfl _ _ (w.heap.size + 1) _ _ rfl (blk_cell (heap_setCell_same _ (w.heap.size + 1) 0 _ _ _ HC5.out) 0 rfl) Tryd.underlying3 rfl) rfl ?_
    rw [HFP.out]
    exact OkP.put hc _ HS7.out HG7.out hw0

set_option maxHeartbeats 6400000 in
set_option maxRecDepth 100000 in
theorem atom_or (c : Cf) (hc : c.Ok) (E : List Nat) (nx o : Nat) (v : Value) (gs : List Gt) (w : World) (hS : St c E w nx o v gs) (ho : o ≤ 200) (hv0 : varI c.n [111, 114] = 0) (hL : Less c .atom (TS c.l nx)) (h2 : tokI (c.l.drop (nxtI c.l nx)) = some [111, 114]) :
    Calls Tryd.prog 68 #[.pointer (some ⟨c.br, 0, none⟩)] w (OkP c E w v o ((RI c.n .args (TS c.l nx).tail o gs).bind fun l ts gs => .ok [(gs.length : Nat)] ts (gs ++ [⟨5, 0, l⟩]))) := by
  obtain ⟨Post, hPost⟩ : ∃ P : Ending → World → Prop, P = OkP c E w v o ((RI c.n .args (TS c.l nx).tail o gs).bind fun l ts gs => .ok [(gs.length : Nat)] ts (gs ++ [⟨5, 0, l⟩])) := ⟨_, rfl⟩
  rw [← hPost]
  have HP := Lib.hid hPost
  have hp := hS.pl.le
  have hl := hc.l
  have hw0 := hS.be.size
  have hbr : c.br < w.heap.size := hS.X c.br (by simp)
  have HA := Lib.hid (At0.new hc hS)
  have HPL := Lib.hid hS.pl
  have HCN := Lib.hid hS.cnt
  have HH2 := Lib.hid h2
  clear hPost hS
  have KL := Lib.hid (fun ts (h : ts.length < (TS c.l nx).length) => hL .form ts rfl (bd_lt h))
  clear hL
  have KT := Lib.hid (fun x => tok_gives hp hl h2 x)
  have hqb : nxtI c.l nx ≤ 1048576 := Nat.le_trans (nxt_le hp) hl
  have htb := tok_le h2
  rw [List.length_drop] at htb
  have KV := Lib.hid (fun (x : World) (hx : VarsI x) => gVariable [111, 114] c.n hc.n (by first | omega | simp) x hx)
  have hvb := varI_le c.n [111, 114]
  have hn := hc.n
  obtain ⟨s, hs⟩ : ∃ s : ByteArray, s = ⟨c.l.toArray⟩ := ⟨_, rfl⟩
  rw [← hs] at KT
  have HSS := Lib.hid hs
  obtain ⟨q, hq⟩ : ∃ q, q = nxtI c.l nx := ⟨_, rfl⟩
  rw [← hq] at KT
  have HQ := Lib.hid hq
  have KG := Lib.hid (show ∀ z, GivesFrom z 24 #[.string s, .int .i64 (nx : Int)] (.tuple #[.string ⟨#[111, 114]⟩, .int .i64 (q : Nat)]) from fun z w' hb => KT.out w')
  have KV := Lib.hid (show ∀ x, VarsI x → Calls Tryd.prog 73 #[.string ⟨#[111, 114]⟩, .int .i64 (c.n : Int)] x fun e w' => e = .returned (.int .i64 0) ∧ Below x.heap.size x w' from fun x hx => by
    have h := KV.out x hx
    rw [hv0] at h
    exact h)
  have hq2 : q ≤ 1048576 := by rw [hq]; exact hqb
  clear h2 hs hq hqb htb KT hvb
  go_enter Tryd.func68, Tryd.ntmps68
  go_wp2_with fail
  refine wp_gen ?_
  intro x1 hx1
  rw [← hx1] at HA
  clear hx1
  have HC0 := Lib.hid (show x1.cell? ⟨c.br, 0, none⟩ = some (.string s) by rw [HSS.out]; exact blk_cell HA.out.st.rd 0 rfl)
  have HC1 := Lib.hid (blk_cell HA.out.st.rd 1 rfl)
  have HC2 := Lib.hid (blk_cell HA.out.st.rd 2 rfl)
  have HK0 := Lib.hid (blk_cell HA.out.kb 0 rfl)
  refine wp_game (List.replicate 14 0) [] B0 fin_B0 (has_B0 _) (by kernel_rfl) (by kernel_rfl) ?_
  refine lex_quietE 14 (by kernel_rfl) (by rfl) ?_
  apply Exists.intro
  refine ⟨fun z hz => ?_, ?_⟩
  · have g0 := behind_cellXp hz HC0.out (by simp)
    have g2 := behind_cellXp hz HC2.out (by simp)
    have gk := behind_cellXp hz HK0.out (by simp)
    have KTz := KG.out z
    clear hz
    simp only [List.take_succ_cons, List.take_zero]
    unfold Cx
    repeat (go_big_quiet_step (with_reducible exact KTz.at _))
    exact wpQuiet_nil rfl
  simp only [List.drop_succ_cons, List.drop_zero]
  refine lex_nil ?_
  intro x2 hx2 _
  have HA2 := Lib.hid (HA.out.later hc hx2.below)
  have KV2 := KV.out x2 (HA2.out.st.vars hc)
  have gk := blk_cell HA2.out.kb 0 rfl
  have g1 := blk_cell HA2.out.st.rd 1 rfl
  clear hx2
  go_wp2_with fail
  refine KV2.mono ?_
  rintro e x3 ⟨rfl, hB3⟩
  have HA3 := Lib.hid (HA2.out.later hc hB3)
  have gk3 := blk_cell HA3.out.kb 0 rfl
  clear hB3 KV2 gk g1
  have e2 := blk_cell HA3.out.st.rd 2 rfl
  have f2 := blk_free HA3.out.st.rd 2
  have hkbr : ¬ w.heap.size = c.br := by omega
  have hR4 : Rd c.br c.l c.n (q + 2) o v (x3.setCell ⟨c.br, 2, none⟩ (.int .i64 ((q + 2 : Nat) : Int))) := heap_setCell_same _ c.br 2 _ _ _ HA3.out.st.rd
  have hPl := HPL.out.next HH2.out (by simp)
  have hless := TS_less HH2.out (by simp)
  have htl := TS_tail HH2.out (by simp)
  rw [← HQ.out] at hPl hless htl
  have hb4 : Behind x3 [c.br] (x3.setCell ⟨c.br, 2, none⟩ (.int .i64 ((q + 2 : Nat) : Int))) := behind_set1
  have HS4 := Lib.hid (show St c (w.heap.size :: (w.heap.size + 1) :: E) (x3.setCell ⟨c.br, 2, none⟩ (.int .i64 ((q + 2 : Nat) : Int))) (q + 2) o v gs from HA3.out.st.move hc hR4 hb4 hPl (by have : (TS c.l (q + 2)).length + 1 = (TS c.l nx).length := hless; omega))
  have HLS := Lib.hid (show (TS c.l (q + 2)).length + 1 = (TS c.l nx).length from hless)
  have HTL := Lib.hid (show (TS c.l nx).tail = TS c.l (q + 2) from htl)
  have HG4 := Lib.hid ((Gw.of_below (c := c) (v := v) HA3.out.be).trans (Gw.of_br (v := v) hb4))
  have HC4 := Lib.hid (hb4.keep HA3.out.cb (by simp; omega))
  have HK4 := Lib.hid (hb4.keep HA3.out.kb (by simp; omega))
  clear hR4 hPl hless htl hb4
  rw [show ((q + 2 : Nat) : Int) = (q : Int) + 2 by omega] at HS4 HG4 HC4 HK4
  go_wp2_with fail
  refine wp_seq 4 (fun y => y.heap[w.heap.size]? = some (.cells #[.pointer (some ⟨c.br, 0, none⟩)] 55 (0, 0))) (by kernel_rfl) (by kernel_rfl) (fun c d v a w h => by cases d <;> exact h) ?_
  intro x4 hx4
  have HS5 := Lib.hid (HS4.out.later hc hx4.below)
  have HK5 := Lib.hid (hx4.keep HK4.out (by simp))
  have HC5 := Lib.hid (hx4.keep HC4.out (by simp))
  have HG5 := Lib.hid (HG4.out.trans (Gw.of_below (v := v) hx4.below))
  clear hx4 e2 f2 gk3
  simp only [List.take_succ_cons, List.take_zero, List.drop_succ_cons, List.drop_zero]
  refine ⟨.pointer (some ⟨c.br, 0, none⟩), ⟨by rfl, fun y hy => by have := blk_cell hy 0 rfl; clear hy; go_simp⟩, ?_⟩
  refine ⟨.int .i64 5, ⟨by rfl, fun y hy => by clear hy; go_simp⟩, ?_⟩
  refine ⟨.pointer (some ⟨c.br, 0, none⟩), ⟨by rfl, fun y hy => by have := blk_cell hy 0 rfl; clear hy; go_simp⟩, ?_⟩
  refine ⟨.int .i64 (-1), ⟨by rfl, fun y hy => by clear hy; go_simp⟩, ?_⟩
  show SeqW Tryd.prog _ _ _ _ _ _ _
  refine SeqW.step (by rfl) HK5.out ?_
  have KN := gListA c hc _ (q + 2) o v gs x4 HS5.out (fun ts hts => KL.out ts (by have := HLS.out; omega))
  have HGS := Lib.hid (fun a b d (h : RI c.n .args (TS c.l (q + 2)) o gs = .ok a b d) => (RI_gs (by trivial) h).1)
  rw [HTL.out] at HP
  obtain ⟨R1, hR1⟩ : ∃ R1, R1 = RI c.n .args (TS c.l (q + 2)) o gs := ⟨_, rfl⟩
  rw [← hR1] at KN HP HGS
  clear hR1
  go_wp2_with fail
  refine KN.mono ?_
  intro e w5 h5
  cases R1 with
  | err q5 en =>
    obtain ⟨rfl, h5⟩ := h5
    refine ⟨rfl, ?_⟩
    rw [HP.out]
    exact OkP.err_after HG5.out h5
  | ok lst ts5 gs5 =>
    obtain ⟨nx5, v5, p5, d5, rfl, rfl, hS5, hG5, hI5⟩ := h5
    have hgs5 := HGS.out _ _ _ rfl
    simp [loopM, moreM] at hgs5
    have hcnt := HCN.out
    have hls := HLS.out
    have KA := kAdd c hc ⟨5, 0, lst⟩ p5 d5 hS5 hI5 (by omega)
    have HG6 := Lib.hid (HG5.out.trans hG5)
    have HK6 := Lib.hid (hG5.be.keep HK5.out (HS5.out.ex w.heap.size (by simp)).2)
    have HC6 := Lib.hid (hG5.be.keep HC5.out (HS5.out.ex (w.heap.size + 1) (by simp)).2)
    have HS6 := Lib.hid hS5
    have HFP := Lib.hid (show Post = OkP c E w v o (.ok [(gs5.length : Nat)] (TS c.l nx5) (gs5 ++ [⟨5, 0, lst⟩])) from HP.out)
    clear hS5 hG5 hI5 KN hgs5 hcnt hls HGS
    go_wp2_with fail
    show SeqW Tryd.prog _ _ _ _ _ _ _
    refine SeqW.step (by rfl) HK6.out ?_
    go_wp2_with fail
    refine KA.mono ?_
    rintro e w7 ⟨v7, rfl, hS7, hG7⟩
    have HS7 := Lib.hid hS7
    have HG7 := Lib.hid (HG6.out.trans hG7)
    have HK7 := Lib.hid (hG7.be.keep HK6.out (HS6.out.ex w.heap.size (by simp)).2)
    have HC5 := Lib.hid (hG7.be.keep HC6.out (HS6.out.ex (w.heap.size + 1) (by simp)).2)
    have c5 := blk_cell HC5.out 0 rfl
    have f5 := blk_free HC5.out 0
    clear hS7 hG7 KA
    go_wp2_with fail
    show SeqW Tryd.prog _ _ _ _ _ _ _
    refine SeqW.step (by rfl) HK7.out ?_
    go_wp2_with fail
    refine SQ.done ?_
    go_wp2_with fail
    refine bodyPost_ret (results_cell_one (p := 2) rfl _ _ (w.heap.size + 1) _ _ rfl (blk_cell (heap_setCell_same _ (w.heap.size + 1) 0 _ _ _ HC5.out) 0 rfl) Tryd.underlying3 rfl) rfl ?_
    rw [HFP.out]
    exact OkP.put hc _ HS7.out HG7.out hw0

set_option maxHeartbeats 6400000 in
set_option maxRecDepth 100000 in
theorem atom_xor (c : Cf) (hc : c.Ok) (E : List Nat) (nx o : Nat) (v : Value) (gs : List Gt) (w : World) (hS : St c E w nx o v gs) (ho : o ≤ 200) (hv0 : varI c.n [120, 111, 114] = 0) (hL : Less c .atom (TS c.l nx)) (h2 : tokI (c.l.drop (nxtI c.l nx)) = some [120, 111, 114]) :
    Calls Tryd.prog 68 #[.pointer (some ⟨c.br, 0, none⟩)] w (OkP c E w v o ((RI c.n .args (TS c.l nx).tail o gs).bind fun l ts gs => .ok [(gs.length : Nat)] ts (gs ++ [⟨6, 0, l⟩]))) := by
  obtain ⟨Post, hPost⟩ : ∃ P : Ending → World → Prop, P = OkP c E w v o ((RI c.n .args (TS c.l nx).tail o gs).bind fun l ts gs => .ok [(gs.length : Nat)] ts (gs ++ [⟨6, 0, l⟩])) := ⟨_, rfl⟩
  rw [← hPost]
  have HP := Lib.hid hPost
  have hp := hS.pl.le
  have hl := hc.l
  have hw0 := hS.be.size
  have hbr : c.br < w.heap.size := hS.X c.br (by simp)
  have HA := Lib.hid (At0.new hc hS)
  have HPL := Lib.hid hS.pl
  have HCN := Lib.hid hS.cnt
  have HH2 := Lib.hid h2
  clear hPost hS
  have KL := Lib.hid (fun ts (h : ts.length < (TS c.l nx).length) => hL .form ts rfl (bd_lt h))
  clear hL
  have KT := Lib.hid (fun x => tok_gives hp hl h2 x)
  have hqb : nxtI c.l nx ≤ 1048576 := Nat.le_trans (nxt_le hp) hl
  have htb := tok_le h2
  rw [List.length_drop] at htb
  have KV := Lib.hid (fun (x : World) (hx : VarsI x) => gVariable [120, 111, 114] c.n hc.n (by first | omega | simp) x hx)
  have hvb := varI_le c.n [120, 111, 114]
  have hn := hc.n
  obtain ⟨s, hs⟩ : ∃ s : ByteArray, s = ⟨c.l.toArray⟩ := ⟨_, rfl⟩
  rw [← hs] at KT
  have HSS := Lib.hid hs
  obtain ⟨q, hq⟩ : ∃ q, q = nxtI c.l nx := ⟨_, rfl⟩
  rw [← hq] at KT
  have HQ := Lib.hid hq
  have KG := Lib.hid (show ∀ z, GivesFrom z 24 #[.string s, .int .i64 (nx : Int)] (.tuple #[.string ⟨#[120, 111, 114]⟩, .int .i64 (q : Nat)]) from fun z w' hb => KT.out w')
  have KV := Lib.hid (show ∀ x, VarsI x → Calls Tryd.prog 73 #[.string ⟨#[120, 111, 114]⟩, .int .i64 (c.n : Int)] x fun e w' => e = .returned (.int .i64 0) ∧ Below x.heap.size x w' from fun x hx => by
    have h := KV.out x hx
    rw [hv0] at h
    exact h)
  have hq2 : q ≤ 1048576 := by rw [hq]; exact hqb
  clear h2 hs hq hqb htb KT hvb
  go_enter Tryd.func68, Tryd.ntmps68
  go_wp2_with fail
  refine wp_gen ?_
  intro x1 hx1
  rw [← hx1] at HA
  clear hx1
  have HC0 := Lib.hid (show x1.cell? ⟨c.br, 0, none⟩ = some (.string s) by rw [HSS.out]; exact blk_cell HA.out.st.rd 0 rfl)
  have HC1 := Lib.hid (blk_cell HA.out.st.rd 1 rfl)
  have HC2 := Lib.hid (blk_cell HA.out.st.rd 2 rfl)
  have HK0 := Lib.hid (blk_cell HA.out.kb 0 rfl)
  refine wp_game (List.replicate 14 0) [] B0 fin_B0 (has_B0 _) (by kernel_rfl) (by kernel_rfl) ?_
  refine lex_quietE 14 (by kernel_rfl) (by rfl) ?_
  apply Exists.intro
  refine ⟨fun z hz => ?_, ?_⟩
  · have g0 := behind_cellXp hz HC0.out (by simp)
    have g2 := behind_cellXp hz HC2.out (by simp)
    have gk := behind_cellXp hz HK0.out (by simp)
    have KTz := KG.out z
    clear hz
    simp only [List.take_succ_cons, List.take_zero]
    unfold Cx
    repeat (go_big_quiet_step (with_reducible exact KTz.at _))
    exact wpQuiet_nil rfl
  simp only [List.drop_succ_cons, List.drop_zero]
  refine lex_nil ?_
  intro x2 hx2 _
  have HA2 := Lib.hid (HA.out.later hc hx2.below)
  have KV2 := KV.out x2 (HA2.out.st.vars hc)
  have gk := blk_cell HA2.out.kb 0 rfl
  have g1 := blk_cell HA2.out.st.rd 1 rfl
  clear hx2
  go_wp2_with fail
  refine KV2.mono ?_
  rintro e x3 ⟨rfl, hB3⟩
  have HA3 := Lib.hid (HA2.out.later hc hB3)
  have gk3 := blk_cell HA3.out.kb 0 rfl
  clear hB3 KV2 gk g1
  have e2 := blk_cell HA3.out.st.rd 2 rfl
  have f2 := blk_free HA3.out.st.rd 2
  have hkbr : ¬ w.heap.size = c.br := by omega
  have hR4 : Rd c.br c.l c.n (q + 3) o v (x3.setCell ⟨c.br, 2, none⟩ (.int .i64 ((q + 3 : Nat) : Int))) := heap_setCell_same _ c.br 2 _ _ _ HA3.out.st.rd
  have hPl := HPL.out.next HH2.out (by simp)
  have hless := TS_less HH2.out (by simp)
  have htl := TS_tail HH2.out (by simp)
  rw [← HQ.out] at hPl hless htl
  have hb4 : Behind x3 [c.br] (x3.setCell ⟨c.br, 2, none⟩ (.int .i64 ((q + 3 : Nat) : Int))) := behind_set1
  have HS4 := Lib.hid (show St c (w.heap.size :: (w.heap.size + 1) :: E) (x3.setCell ⟨c.br, 2, none⟩ (.int .i64 ((q + 3 : Nat) : Int))) (q + 3) o v gs from HA3.out.st.move hc hR4 hb4 hPl (by have : (TS c.l (q + 3)).length + 1 = (TS c.l nx).length := hless; omega))
  have HLS := Lib.hid (show (TS c.l (q + 3)).length + 1 = (TS c.l nx).length from hless)
  have HTL := Lib.hid (show (TS c.l nx).tail = TS c.l (q + 3) from htl)
  have HG4 := Lib.hid ((Gw.of_below (c := c) (v := v) HA3.out.be).trans (Gw.of_br (v := v) hb4))
  have HC4 := Lib.hid (hb4.keep HA3.out.cb (by simp; omega))
  have HK4 := Lib.hid (hb4.keep HA3.out.kb (by simp; omega))
  clear hR4 hPl hless htl hb4
  rw [show ((q + 3 : Nat) : Int) = (q : Int) + 3 by omega] at HS4 HG4 HC4 HK4
  go_wp2_with fail
  refine wp_seq 4 (fun y => y.heap[w.heap.size]? = some (.cells #[.pointer (some ⟨c.br, 0, none⟩)] 55 (0, 0))) (by kernel_rfl) (by kernel_rfl) (fun c d v a w h => by cases d <;> exact h) ?_
  intro x4 hx4
  have HS5 := Lib.hid (HS4.out.later hc hx4.below)
  have HK5 := Lib.hid (hx4.keep HK4.out (by simp))
  have HC5 := Lib.hid (hx4.keep HC4.out (by simp))
  have HG5 := Lib.hid (HG4.out.trans (Gw.of_below (v := v) hx4.below))
  clear hx4 e2 f2 gk3
  simp only [List.take_succ_cons, List.take_zero, List.drop_succ_cons, List.drop_zero]
  refine ⟨.pointer (some ⟨c.br, 0, none⟩), ⟨by rfl, fun y hy => by have := blk_cell hy 0 rfl; clear hy; go_simp⟩, ?_⟩
  refine ⟨.int .i64 6, ⟨by rfl, fun y hy => by clear hy; go_simp⟩, ?_⟩
  refine ⟨.pointer (some ⟨c.br, 0, none⟩), ⟨by rfl, fun y hy => by have := blk_cell hy 0 rfl; clear hy; go_simp⟩, ?_⟩
  refine ⟨.int .i64 (-1), ⟨by rfl, fun y hy => by clear hy; go_simp⟩, ?_⟩
  show SeqW Tryd.prog _ _ _ _ _ _ _
  refine SeqW.step (by rfl) HK5.out ?_
  have KN := gListA c hc _ (q + 3) o v gs x4 HS5.out (fun ts hts => KL.out ts (by have := HLS.out; omega))
  have HGS := Lib.hid (fun a b d (h : RI c.n .args (TS c.l (q + 3)) o gs = .ok a b d) => (RI_gs (by trivial) h).1)
  rw [HTL.out] at HP
  obtain ⟨R1, hR1⟩ : ∃ R1, R1 = RI c.n .args (TS c.l (q + 3)) o gs := ⟨_, rfl⟩
  rw [← hR1] at KN HP HGS
  clear hR1
  go_wp2_with fail
  refine KN.mono ?_
  intro e w5 h5
  cases R1 with
  | err q5 en =>
    obtain ⟨rfl, h5⟩ := h5
    refine ⟨rfl, ?_⟩
    rw [HP.out]
    exact OkP.err_after HG5.out h5
  | ok lst ts5 gs5 =>
    obtain ⟨nx5, v5, p5, d5, rfl, rfl, hS5, hG5, hI5⟩ := h5
    have hgs5 := HGS.out _ _ _ rfl
    simp [loopM, moreM] at hgs5
    have hcnt := HCN.out
    have hls := HLS.out
    have KA := kAdd c hc ⟨6, 0, lst⟩ p5 d5 hS5 hI5 (by omega)
    have HG6 := Lib.hid (HG5.out.trans hG5)
    have HK6 := Lib.hid (hG5.be.keep HK5.out (HS5.out.ex w.heap.size (by simp)).2)
    have HC6 := Lib.hid (hG5.be.keep HC5.out (HS5.out.ex (w.heap.size + 1) (by simp)).2)
    have HS6 := Lib.hid hS5
    have HFP := Lib.hid (show Post = OkP c E w v o (.ok [(gs5.length : Nat)] (TS c.l nx5) (gs5 ++ [⟨6, 0, lst⟩])) from HP.out)
    clear hS5 hG5 hI5 KN hgs5 hcnt hls HGS
    go_wp2_with fail
    show SeqW Tryd.prog _ _ _ _ _ _ _
    refine SeqW.step (by rfl) HK6.out ?_
    go_wp2_with fail
    refine KA.mono ?_
    rintro e w7 ⟨v7, rfl, hS7, hG7⟩
    have HS7 := Lib.hid hS7
    have HG7 := Lib.hid (HG6.out.trans hG7)
    have HK7 := Lib.hid (hG7.be.keep HK6.out (HS6.out.ex w.heap.size (by simp)).2)
    have HC5 := Lib.hid (hG7.be.keep HC6.out (HS6.out.ex (w.heap.size + 1) (by simp)).2)
    have c5 := blk_cell HC5.out 0 rfl
    have f5 := blk_free HC5.out 0
    clear hS7 hG7 KA
    go_wp2_with fail
    show SeqW Tryd.prog _ _ _ _ _ _ _
    refine SeqW.step (by rfl) HK7.out ?_
    go_wp2_with fail
    refine SQ.done ?_
    go_wp2_with fail
    refine bodyPost_ret (results_cell_one (p := 2) rfl _ _ (w.heap.size + 1) _ _ rfl (blk_cell (heap_setCell_same _ (w.heap.size + 1) 0 _ _ _ HC5.out) 0 rfl) Tryd.underlying3 rfl) rfl ?_
    rw [HFP.out]
    exact OkP.put hc _ HS7.out HG7.out hw0

set_option maxHeartbeats 6400000 in
set_option maxRecDepth 100000 in
theorem atom_if (c : Cf) (hc : c.Ok) (E : List Nat) (nx o : Nat) (v : Value) (gs : List Gt) (w : World) (hS : St c E w nx o v gs) (ho : o ≤ 200) (hv0 : varI c.n [105, 102] = 0) (hL : Less c .atom (TS c.l nx)) (h2 : tokI (c.l.drop (nxtI c.l nx)) = some [105, 102]) :
    Calls Tryd.prog 68 #[.pointer (some ⟨c.br, 0, none⟩)] w (OkP c E w v o ((RI c.n .three (TS c.l nx).tail o gs).bind fun l ts gs => .ok [(gs.length : Nat)] ts (gs ++ [⟨8, 0, l⟩]))) := by
  obtain ⟨Post, hPost⟩ : ∃ P : Ending → World → Prop, P = OkP c E w v o ((RI c.n .three (TS c.l nx).tail o gs).bind fun l ts gs => .ok [(gs.length : Nat)] ts (gs ++ [⟨8, 0, l⟩])) := ⟨_, rfl⟩
  rw [← hPost]
  have HP := Lib.hid hPost
  have hp := hS.pl.le
  have hl := hc.l
  have hw0 := hS.be.size
  have hbr : c.br < w.heap.size := hS.X c.br (by simp)
  have HA := Lib.hid (At0.new hc hS)
  have HPL := Lib.hid hS.pl
  have HCN := Lib.hid hS.cnt
  have HH2 := Lib.hid h2
  clear hPost hS
  have KL := Lib.hid (fun ts (h : ts.length < (TS c.l nx).length) => hL .form ts rfl (bd_lt h))
  clear hL
  have KT := Lib.hid (fun x => tok_gives hp hl h2 x)
  have hqb : nxtI c.l nx ≤ 1048576 := Nat.le_trans (nxt_le hp) hl
  have htb := tok_le h2
  rw [List.length_drop] at htb
  have KV := Lib.hid (fun (x : World) (hx : VarsI x) => gVariable [105, 102] c.n hc.n (by first | omega | simp) x hx)
  have hvb := varI_le c.n [105, 102]
  have hn := hc.n
  obtain ⟨s, hs⟩ : ∃ s : ByteArray, s = ⟨c.l.toArray⟩ := ⟨_, rfl⟩
  rw [← hs] at KT
  have HSS := Lib.hid hs
  obtain ⟨q, hq⟩ : ∃ q, q = nxtI c.l nx := ⟨_, rfl⟩
  rw [← hq] at KT
  have HQ := Lib.hid hq
  have KG := Lib.hid (show ∀ z, GivesFrom z 24 #[.string s, .int .i64 (nx : Int)] (.tuple #[.string ⟨#[105, 102]⟩, .int .i64 (q : Nat)]) from fun z w' hb => KT.out w')
  have KV := Lib.hid (show ∀ x, VarsI x → Calls Tryd.prog 73 #[.string ⟨#[105, 102]⟩, .int .i64 (c.n : Int)] x fun e w' => e = .returned (.int .i64 0) ∧ Below x.heap.size x w' from fun x hx => by
    have h := KV.out x hx
    rw [hv0] at h
    exact h)
  have hq2 : q ≤ 1048576 := by rw [hq]; exact hqb
  clear h2 hs hq hqb htb KT hvb
  go_enter Tryd.func68, Tryd.ntmps68
  go_wp2_with fail
  refine wp_gen ?_
  intro x1 hx1
  rw [← hx1] at HA
  clear hx1
  have HC0 := Lib.hid (show x1.cell? ⟨c.br, 0, none⟩ = some (.string s) by rw [HSS.out]; exact blk_cell HA.out.st.rd 0 rfl)
  have HC1 := Lib.hid (blk_cell HA.out.st.rd 1 rfl)
  have HC2 := Lib.hid (blk_cell HA.out.st.rd 2 rfl)
  have HK0 := Lib.hid (blk_cell HA.out.kb 0 rfl)
  refine wp_game (List.replicate 14 0) [] B0 fin_B0 (has_B0 _) (by kernel_rfl) (by kernel_rfl) ?_
  refine lex_quietE 14 (by kernel_rfl) (by rfl) ?_
  apply Exists.intro
  refine ⟨fun z hz => ?_, ?_⟩
  · have g0 := behind_cellXp hz HC0.out (by simp)
    have g2 := behind_cellXp hz HC2.out (by simp)
    have gk := behind_cellXp hz HK0.out (by simp)
    have KTz := KG.out z
    clear hz
    simp only [List.take_succ_cons, List.take_zero]
    unfold Cx
    repeat (go_big_quiet_step (with_reducible exact KTz.at _))
    exact wpQuiet_nil rfl
  simp only [List.drop_succ_cons, List.drop_zero]
  refine lex_nil ?_
  intro x2 hx2 _
  have HA2 := Lib.hid (HA.out.later hc hx2.below)
  have KV2 := KV.out x2 (HA2.out.st.vars hc)
  have gk := blk_cell HA2.out.kb 0 rfl
  have g1 := blk_cell HA2.out.st.rd 1 rfl
  clear hx2
  go_wp2_with fail
  refine KV2.mono ?_
  rintro e x3 ⟨rfl, hB3⟩
  have HA3 := Lib.hid (HA2.out.later hc hB3)
  have gk3 := blk_cell HA3.out.kb 0 rfl
  clear hB3 KV2 gk g1
  have e2 := blk_cell HA3.out.st.rd 2 rfl
  have f2 := blk_free HA3.out.st.rd 2
  have hkbr : ¬ w.heap.size = c.br := by omega
  have hR4 : Rd c.br c.l c.n (q + 2) o v (x3.setCell ⟨c.br, 2, none⟩ (.int .i64 ((q + 2 : Nat) : Int))) := heap_setCell_same _ c.br 2 _ _ _ HA3.out.st.rd
  have hPl := HPL.out.next HH2.out (by simp)
  have hless := TS_less HH2.out (by simp)
  have htl := TS_tail HH2.out (by simp)
  rw [← HQ.out] at hPl hless htl
  have hb4 : Behind x3 [c.br] (x3.setCell ⟨c.br, 2, none⟩ (.int .i64 ((q + 2 : Nat) : Int))) := behind_set1
  have HS4 := Lib.hid (show St c (w.heap.size :: (w.heap.size + 1) :: E) (x3.setCell ⟨c.br, 2, none⟩ (.int .i64 ((q + 2 : Nat) : Int))) (q + 2) o v gs from HA3.out.st.move hc hR4 hb4 hPl (by have : (TS c.l (q + 2)).length + 1 = (TS c.l nx).length := hless; omega))
  have HLS := Lib.hid (show (TS c.l (q + 2)).length + 1 = (TS c.l nx).length from hless)
  have HTL := Lib.hid (show (TS c.l nx).tail = TS c.l (q + 2) from htl)
  have HG4 := Lib.hid ((Gw.of_below (c := c) (v := v) HA3.out.be).trans (Gw.of_br (v := v) hb4))
  have HC4 := Lib.hid (hb4.keep HA3.out.cb (by simp; omega))
  have HK4 := Lib.hid (hb4.keep HA3.out.kb (by simp; omega))
  clear hR4 hPl hless htl hb4
  rw [show ((q + 2 : Nat) : Int) = (q : Int) + 2 by omega] at HS4 HG4 HC4 HK4
  go_wp2_with fail
  refine wp_seq 4 (fun y => y.heap[w.heap.size]? = some (.cells #[.pointer (some ⟨c.br, 0, none⟩)] 55 (0, 0))) (by kernel_rfl) (by kernel_rfl) (fun c d v a w h => by cases d <;> exact h) ?_
  intro x4 hx4
  have HS5 := Lib.hid (HS4.out.later hc hx4.below)
  have HK5 := Lib.hid (hx4.keep HK4.out (by simp))
  have HC5 := Lib.hid (hx4.keep HC4.out (by simp))
  have HG5 := Lib.hid (HG4.out.trans (Gw.of_below (v := v) hx4.below))
  clear hx4 e2 f2 gk3
  simp only [List.take_succ_cons, List.take_zero, List.drop_succ_cons, List.drop_zero]
  refine ⟨.pointer (some ⟨c.br, 0, none⟩), ⟨by rfl, fun y hy => by have := blk_cell hy 0 rfl; clear hy; go_simp⟩, ?_⟩
  refine ⟨.int .i64 8, ⟨by rfl, fun y hy => by clear hy; go_simp⟩, ?_⟩
  refine ⟨.pointer (some ⟨c.br, 0, none⟩), ⟨by rfl, fun y hy => by have := blk_cell hy 0 rfl; clear hy; go_simp⟩, ?_⟩
  refine ⟨.int .i64 3, ⟨by rfl, fun y hy => by clear hy; go_simp⟩, ?_⟩
  show SeqW Tryd.prog _ _ _ _ _ _ _
  refine SeqW.step (by rfl) HK5.out ?_
  have KN := gListT c hc _ (q + 2) o v gs x4 HS5.out (fun ts hts => KL.out ts (by have := HLS.out; omega))
  have HGS := Lib.hid (fun a b d (h : RI c.n .three (TS c.l (q + 2)) o gs = .ok a b d) => (RI_gs (by trivial) h).1)
  rw [HTL.out] at HP
  obtain ⟨R1, hR1⟩ : ∃ R1, R1 = RI c.n .three (TS c.l (q + 2)) o gs := ⟨_, rfl⟩
  rw [← hR1] at KN HP HGS
  clear hR1
  go_wp2_with fail
  refine KN.mono ?_
  intro e w5 h5
  cases R1 with
  | err q5 en =>
    obtain ⟨rfl, h5⟩ := h5
    refine ⟨rfl, ?_⟩
    rw [HP.out]
    exact OkP.err_after HG5.out h5
  | ok lst ts5 gs5 =>
    obtain ⟨nx5, v5, p5, d5, rfl, rfl, hS5, hG5, hI5⟩ := h5
    have hgs5 := HGS.out _ _ _ rfl
    simp [loopM, moreM] at hgs5
    have hcnt := HCN.out
    have hls := HLS.out
    have KA := kAdd c hc ⟨8, 0, lst⟩ p5 d5 hS5 hI5 (by omega)
    have HG6 := Lib.hid (HG5.out.trans hG5)
    have HK6 := Lib.hid (hG5.be.keep HK5.out (HS5.out.ex w.heap.size (by simp)).2)
    have HC6 := Lib.hid (hG5.be.keep HC5.out (HS5.out.ex (w.heap.size + 1) (by simp)).2)
    have HS6 := Lib.hid hS5
    have HFP := Lib.hid (show Post = OkP c E w v o (.ok [(gs5.length : Nat)] (TS c.l nx5) (gs5 ++ [⟨8, 0, lst⟩])) from HP.out)
    clear hS5 hG5 hI5 KN hgs5 hcnt hls HGS
    go_wp2_with fail
    show SeqW Tryd.prog _ _ _ _ _ _ _
    refine SeqW.step (by rfl) HK6.out ?_
    go_wp2_with fail
    refine KA.mono ?_
    rintro e w7 ⟨v7, rfl, hS7, hG7⟩
    have HS7 := Lib.hid hS7
    have HG7 := Lib.hid (HG6.out.trans hG7)
    have HK7 := Lib.hid (hG7.be.keep HK6.out (HS6.out.ex w.heap.size (by simp)).2)
    have HC5 := Lib.hid (hG7.be.keep HC6.out (HS6.out.ex (w.heap.size + 1) (by simp)).2)
    have c5 := blk_cell HC5.out 0 rfl
    have f5 := blk_free HC5.out 0
    clear hS7 hG7 KA
    go_wp2_with fail
    show SeqW Tryd.prog _ _ _ _ _ _ _
    refine SeqW.step (by rfl) HK7.out ?_
    go_wp2_with fail
    refine SQ.done ?_
    go_wp2_with fail
    refine bodyPost_ret (results_cell_one (p := 2) rfl _ _ (w.heap.size + 1) _ _ rfl (blk_cell (heap_setCell_same _ (w.heap.size + 1) 0 _ _ _ HC5.out) 0 rfl) Tryd.underlying3 rfl) rfl ?_
    rw [HFP.out]
    exact OkP.put hc _ HS7.out HG7.out hw0

set_option maxHeartbeats 6400000 in
set_option maxRecDepth 100000 in
theorem atom_zero (c : Cf) (hc : c.Ok) (E : List Nat) (nx o : Nat) (v : Value) (gs : List Gt) (w : World) (hS : St c E w nx o v gs) (ho : o ≤ 200) (hv0 : varI c.n [48] = 0) (h2 : tokI (c.l.drop (nxtI c.l nx)) = some [48]) :
    Calls Tryd.prog 68 #[.pointer (some ⟨c.br, 0, none⟩)] w (OkP c E w v o (.ok [(gs.length : Nat)] (TS c.l nx).tail (gs ++ [⟨0, 0, []⟩]))) := by
  obtain ⟨Post, hPost⟩ : ∃ P : Ending → World → Prop, P = OkP c E w v o (.ok [(gs.length : Nat)] (TS c.l nx).tail (gs ++ [⟨0, 0, []⟩])) := ⟨_, rfl⟩
  rw [← hPost]
  have HP := Lib.hid hPost
  have hp := hS.pl.le
  have hl := hc.l
  have hw0 := hS.be.size
  have hbr : c.br < w.heap.size := hS.X c.br (by simp)
  have HA := Lib.hid (At0.new hc hS)
  have HPL := Lib.hid hS.pl
  have HCN := Lib.hid hS.cnt
  have HH2 := Lib.hid h2
  clear hPost hS
  have KT := Lib.hid (fun x => tok_gives hp hl h2 x)
  have hqb : nxtI c.l nx ≤ 1048576 := Nat.le_trans (nxt_le hp) hl
  have htb := tok_le h2
  rw [List.length_drop] at htb
  have KV := Lib.hid (fun (x : World) (hx : VarsI x) => gVariable [48] c.n hc.n (by first | omega | simp) x hx)
  have hvb := varI_le c.n [48]
  have hn := hc.n
  obtain ⟨s, hs⟩ : ∃ s : ByteArray, s = ⟨c.l.toArray⟩ := ⟨_, rfl⟩
  rw [← hs] at KT
  have HSS := Lib.hid hs
  obtain ⟨q, hq⟩ : ∃ q, q = nxtI c.l nx := ⟨_, rfl⟩
  rw [← hq] at KT
  have HQ := Lib.hid hq
  have KG := Lib.hid (show ∀ z, GivesFrom z 24 #[.string s, .int .i64 (nx : Int)] (.tuple #[.string ⟨#[48]⟩, .int .i64 (q : Nat)]) from fun z w' hb => KT.out w')
  have KV := Lib.hid (show ∀ x, VarsI x → Calls Tryd.prog 73 #[.string ⟨#[48]⟩, .int .i64 (c.n : Int)] x fun e w' => e = .returned (.int .i64 0) ∧ Below x.heap.size x w' from fun x hx => by
    have h := KV.out x hx
    rw [hv0] at h
    exact h)
  have hq2 : q ≤ 1048576 := by rw [hq]; exact hqb
  clear h2 hs hq hqb htb KT hvb
  go_enter Tryd.func68, Tryd.ntmps68
  go_wp2_with fail
  refine wp_gen ?_
  intro x1 hx1
  rw [← hx1] at HA
  clear hx1
  have HC0 := Lib.hid (show x1.cell? ⟨c.br, 0, none⟩ = some (.string s) by rw [HSS.out]; exact blk_cell HA.out.st.rd 0 rfl)
  have HC1 := Lib.hid (blk_cell HA.out.st.rd 1 rfl)
  have HC2 := Lib.hid (blk_cell HA.out.st.rd 2 rfl)
  have HK0 := Lib.hid (blk_cell HA.out.kb 0 rfl)
  refine wp_game (List.replicate 14 0) [] B0 fin_B0 (has_B0 _) (by kernel_rfl) (by kernel_rfl) ?_
  refine lex_quietE 14 (by kernel_rfl) (by rfl) ?_
  apply Exists.intro
  refine ⟨fun z hz => ?_, ?_⟩
  · have g0 := behind_cellXp hz HC0.out (by simp)
    have g2 := behind_cellXp hz HC2.out (by simp)
    have gk := behind_cellXp hz HK0.out (by simp)
    have KTz := KG.out z
    clear hz
    simp only [List.take_succ_cons, List.take_zero]
    unfold Cx
    repeat (go_big_quiet_step (with_reducible exact KTz.at _))
    exact wpQuiet_nil rfl
  simp only [List.drop_succ_cons, List.drop_zero]
  refine lex_nil ?_
  intro x2 hx2 _
  have HA2 := Lib.hid (HA.out.later hc hx2.below)
  have KV2 := KV.out x2 (HA2.out.st.vars hc)
  have gk := blk_cell HA2.out.kb 0 rfl
  have g1 := blk_cell HA2.out.st.rd 1 rfl
  clear hx2
  go_wp2_with fail
  refine KV2.mono ?_
  rintro e x3 ⟨rfl, hB3⟩
  have HA3 := Lib.hid (HA2.out.later hc hB3)
  have gk3 := blk_cell HA3.out.kb 0 rfl
  clear hB3 KV2 gk g1
  have e2 := blk_cell HA3.out.st.rd 2 rfl
  have f2 := blk_free HA3.out.st.rd 2
  have hkbr : ¬ w.heap.size = c.br := by omega
  have hR4 : Rd c.br c.l c.n (q + 1) o v (x3.setCell ⟨c.br, 2, none⟩ (.int .i64 ((q + 1 : Nat) : Int))) := heap_setCell_same _ c.br 2 _ _ _ HA3.out.st.rd
  have hPl := HPL.out.next HH2.out (by simp)
  have hless := TS_less HH2.out (by simp)
  have htl := TS_tail HH2.out (by simp)
  rw [← HQ.out] at hPl hless htl
  have hb4 : Behind x3 [c.br] (x3.setCell ⟨c.br, 2, none⟩ (.int .i64 ((q + 1 : Nat) : Int))) := behind_set1
  have HS4 := Lib.hid (show St c (w.heap.size :: (w.heap.size + 1) :: E) (x3.setCell ⟨c.br, 2, none⟩ (.int .i64 ((q + 1 : Nat) : Int))) (q + 1) o v gs from HA3.out.st.move hc hR4 hb4 hPl (by have : (TS c.l (q + 1)).length + 1 = (TS c.l nx).length := hless; omega))
  have HLS := Lib.hid (show (TS c.l (q + 1)).length + 1 = (TS c.l nx).length from hless)
  have HTL := Lib.hid (show (TS c.l nx).tail = TS c.l (q + 1) from htl)
  have HG4 := Lib.hid ((Gw.of_below (c := c) (v := v) HA3.out.be).trans (Gw.of_br (v := v) hb4))
  have HC4 := Lib.hid (hb4.keep HA3.out.cb (by simp; omega))
  have HK4 := Lib.hid (hb4.keep HA3.out.kb (by simp; omega))
  clear hR4 hPl hless htl hb4
  rw [show ((q + 1 : Nat) : Int) = (q : Int) + 1 by omega] at HS4 HG4 HC4 HK4
  obtain ⟨x4, hx4⟩ : ∃ x4, x4 = x3.setCell ⟨c.br, 2, none⟩ (.int .i64 ((q : Int) + 1)) := ⟨_, rfl⟩
  rw [← hx4] at HS4 HG4 HC4 HK4
  have hmm : ∀ (ty : TypeId) (w : World), (Instr.makeMap ty none).run Tryd.prog w = .ok (.map (some w.heap.size)) (w.alloc (.map #[] 0)) := fun _ _ => rfl
  have h0 : (x4.alloc (.map #[] 0)).heap[x4.heap.size]? = some (.map #[] 0) := heap_alloc_new x4 _
  obtain ⟨w1, r1, h1, b1⟩ := map_put_s Tryd.underlying105 h0 ⟨#[48]⟩ (.int .i64 0) (by decide) (by rfl)
  obtain ⟨w2, r2, h2, b2⟩ := map_put_s Tryd.underlying105 h1 ⟨#[49]⟩ (.int .i64 1) (by decide) (by rfl)
  have r3 := map_look_s Tryd.underlying105 h2 ⟨#[48]⟩ (by decide) (j := 0) (v := .int .i64 0) (by rfl)
  have hb0 := below_one x4 (.map #[] 0)
  have hB := (show Below x4.heap.size x4 w2 from hb0.trans (Below.trans (b1.below_of (b := x4.heap.size) (fun k hk => by simp at hk; omega) hb0.size) (b2.below_of (b := x4.heap.size) (fun k hk => by simp at hk; omega) (by have := b1.size; have := hb0.size; omega))))
  have HS6 := Lib.hid (HS4.out.later hc hB)
  have HG6 := Lib.hid (HG4.out.trans (Gw.of_below (v := v) hB))
  have HC6 := Lib.hid ((behind_of_below hB).keep HC4.out (by simp))
  have gk4 := blk_cell HK4.out 0 rfl
  have hcnt := HCN.out
  have hls := HLS.out
  have KA := kAdd c hc ⟨0, 0, []⟩ none 0 HS6.out (InsAt.nil _ _ _) (by omega)
  simp only [List.length_nil] at KA
  clear h0 h1 h2 b1 b2 hb0 hB hcnt hls
  go_upto_region 18 with fail
  refine wp_gen ?_
  intro x5 hx5
  rw [← hx4] at hx5
  subst hx5
  clear hx4 e2 f2 gk3
  go_wp2_with fail
  refine KA.mono ?_
  rintro e w7 ⟨v7, rfl, hS7, hG7⟩
  · have HS7 := Lib.hid hS7
    have HG7 := Lib.hid (HG6.out.trans hG7)
    have HC5 := Lib.hid (hG7.be.keep HC6.out (HS6.out.ex (w.heap.size + 1) (by simp)).2)
    have c5 := blk_cell HC5.out 0 rfl
    have f5 := blk_free HC5.out 0
    clear hS7 hG7 KA
    go_wp2_with fail
    refine bodyPost_ret (results_cell_one (p := 2) rfl _ _ (w.heap.size + 1) _ _ rfl (blk_cell (heap_setCell_same _ (w.heap.size + 1) 0 _ _ _ HC5.out) 0 rfl) Tryd.underlying3 rfl) rfl ?_
    rw [HP.out, HTL.out]
    exact OkP.put hc _ HS7.out HG7.out hw0

set_option maxHeartbeats 6400000 in
set_option maxRecDepth 100000 in
theorem atom_one (c : Cf) (hc : c.Ok) (E : List Nat) (nx o : Nat) (v : Value) (gs : List Gt) (w : World) (hS : St c E w nx o v gs) (ho : o ≤ 200) (hv0 : varI c.n [49] = 0) (h2 : tokI (c.l.drop (nxtI c.l nx)) = some [49]) :
    Calls Tryd.prog 68 #[.pointer (some ⟨c.br, 0, none⟩)] w (OkP c E w v o (.ok [(gs.length : Nat)] (TS c.l nx).tail (gs ++ [⟨1, 0, []⟩]))) := by
  obtain ⟨Post, hPost⟩ : ∃ P : Ending → World → Prop, P = OkP c E w v o (.ok [(gs.length : Nat)] (TS c.l nx).tail (gs ++ [⟨1, 0, []⟩])) := ⟨_, rfl⟩
  rw [← hPost]
  have HP := Lib.hid hPost
  have hp := hS.pl.le
  have hl := hc.l
  have hw0 := hS.be.size
  have hbr : c.br < w.heap.size := hS.X c.br (by simp)
  have HA := Lib.hid (At0.new hc hS)
  have HPL := Lib.hid hS.pl
  have HCN := Lib.hid hS.cnt
  have HH2 := Lib.hid h2
  clear hPost hS
  have KT := Lib.hid (fun x => tok_gives hp hl h2 x)
  have hqb : nxtI c.l nx ≤ 1048576 := Nat.le_trans (nxt_le hp) hl
  have htb := tok_le h2
  rw [List.length_drop] at htb
  have KV := Lib.hid (fun (x : World) (hx : VarsI x) => gVariable [49] c.n hc.n (by first | omega | simp) x hx)
  have hvb := varI_le c.n [49]
  have hn := hc.n
  obtain ⟨s, hs⟩ : ∃ s : ByteArray, s = ⟨c.l.toArray⟩ := ⟨_, rfl⟩
  rw [← hs] at KT
  have HSS := Lib.hid hs
  obtain ⟨q, hq⟩ : ∃ q, q = nxtI c.l nx := ⟨_, rfl⟩
  rw [← hq] at KT
  have HQ := Lib.hid hq
  have KG := Lib.hid (show ∀ z, GivesFrom z 24 #[.string s, .int .i64 (nx : Int)] (.tuple #[.string ⟨#[49]⟩, .int .i64 (q : Nat)]) from fun z w' hb => KT.out w')
  have KV := Lib.hid (show ∀ x, VarsI x → Calls Tryd.prog 73 #[.string ⟨#[49]⟩, .int .i64 (c.n : Int)] x fun e w' => e = .returned (.int .i64 0) ∧ Below x.heap.size x w' from fun x hx => by
    have h := KV.out x hx
    rw [hv0] at h
    exact h)
  have hq2 : q ≤ 1048576 := by rw [hq]; exact hqb
  clear h2 hs hq hqb htb KT hvb
  go_enter Tryd.func68, Tryd.ntmps68
  go_wp2_with fail
  refine wp_gen ?_
  intro x1 hx1
  rw [← hx1] at HA
  clear hx1
  have HC0 := Lib.hid (show x1.cell? ⟨c.br, 0, none⟩ = some (.string s) by rw [HSS.out]; exact blk_cell HA.out.st.rd 0 rfl)
  have HC1 := Lib.hid (blk_cell HA.out.st.rd 1 rfl)
  have HC2 := Lib.hid (blk_cell HA.out.st.rd 2 rfl)
  have HK0 := Lib.hid (blk_cell HA.out.kb 0 rfl)
  refine wp_game (List.replicate 14 0) [] B0 fin_B0 (has_B0 _) (by kernel_rfl) (by kernel_rfl) ?_
  refine lex_quietE 14 (by kernel_rfl) (by rfl) ?_
  apply Exists.intro
  refine ⟨fun z hz => ?_, ?_⟩
  · have g0 := behind_cellXp hz HC0.out (by simp)
    have g2 := behind_cellXp hz HC2.out (by simp)
    have gk := behind_cellXp hz HK0.out (by simp)
    have KTz := KG.out z
    clear hz
    simp only [List.take_succ_cons, List.take_zero]
    unfold Cx
    repeat (go_big_quiet_step (with_reducible exact KTz.at _))
    exact wpQuiet_nil rfl
  simp only [List.drop_succ_cons, List.drop_zero]
  refine lex_nil ?_
  intro x2 hx2 _
  have HA2 := Lib.hid (HA.out.later hc hx2.below)
  have KV2 := KV.out x2 (HA2.out.st.vars hc)
  have gk := blk_cell HA2.out.kb 0 rfl
  have g1 := blk_cell HA2.out.st.rd 1 rfl
  clear hx2
  go_wp2_with fail
  refine KV2.mono ?_
  rintro e x3 ⟨rfl, hB3⟩
  have HA3 := Lib.hid (HA2.out.later hc hB3)
  have gk3 := blk_cell HA3.out.kb 0 rfl
  clear hB3 KV2 gk g1
  have e2 := blk_cell HA3.out.st.rd 2 rfl
  have f2 := blk_free HA3.out.st.rd 2
  have hkbr : ¬ w.heap.size = c.br := by omega
  have hR4 : Rd c.br c.l c.n (q + 1) o v (x3.setCell ⟨c.br, 2, none⟩ (.int .i64 ((q + 1 : Nat) : Int))) := heap_setCell_same _ c.br 2 _ _ _ HA3.out.st.rd
  have hPl := HPL.out.next HH2.out (by simp)
  have hless := TS_less HH2.out (by simp)
  have htl := TS_tail HH2.out (by simp)
  rw [← HQ.out] at hPl hless htl
  have hb4 : Behind x3 [c.br] (x3.setCell ⟨c.br, 2, none⟩ (.int .i64 ((q + 1 : Nat) : Int))) := behind_set1
  have HS4 := Lib.hid (show St c (w.heap.size :: (w.heap.size + 1) :: E) (x3.setCell ⟨c.br, 2, none⟩ (.int .i64 ((q + 1 : Nat) : Int))) (q + 1) o v gs from HA3.out.st.move hc hR4 hb4 hPl (by have : (TS c.l (q + 1)).length + 1 = (TS c.l nx).length := hless; omega))
  have HLS := Lib.hid (show (TS c.l (q + 1)).length + 1 = (TS c.l nx).length from hless)
  have HTL := Lib.hid (show (TS c.l nx).tail = TS c.l (q + 1) from htl)
  have HG4 := Lib.hid ((Gw.of_below (c := c) (v := v) HA3.out.be).trans (Gw.of_br (v := v) hb4))
  have HC4 := Lib.hid (hb4.keep HA3.out.cb (by simp; omega))
  have HK4 := Lib.hid (hb4.keep HA3.out.kb (by simp; omega))
  clear hR4 hPl hless htl hb4
  rw [show ((q + 1 : Nat) : Int) = (q : Int) + 1 by omega] at HS4 HG4 HC4 HK4
  obtain ⟨x4, hx4⟩ : ∃ x4, x4 = x3.setCell ⟨c.br, 2, none⟩ (.int .i64 ((q : Int) + 1)) := ⟨_, rfl⟩
  rw [← hx4] at HS4 HG4 HC4 HK4
  have hmm : ∀ (ty : TypeId) (w : World), (Instr.makeMap ty none).run Tryd.prog w = .ok (.map (some w.heap.size)) (w.alloc (.map #[] 0)) := fun _ _ => rfl
  have h0 : (x4.alloc (.map #[] 0)).heap[x4.heap.size]? = some (.map #[] 0) := heap_alloc_new x4 _
  obtain ⟨w1, r1, h1, b1⟩ := map_put_s Tryd.underlying105 h0 ⟨#[48]⟩ (.int .i64 0) (by decide) (by rfl)
  obtain ⟨w2, r2, h2, b2⟩ := map_put_s Tryd.underlying105 h1 ⟨#[49]⟩ (.int .i64 1) (by decide) (by rfl)
  have r3 := map_look_s Tryd.underlying105 h2 ⟨#[49]⟩ (by decide) (j := 1) (v := .int .i64 1) (by rfl)
  have hb0 := below_one x4 (.map #[] 0)
  have hB := (show Below x4.heap.size x4 w2 from hb0.trans (Below.trans (b1.below_of (b := x4.heap.size) (fun k hk => by simp at hk; omega) hb0.size) (b2.below_of (b := x4.heap.size) (fun k hk => by simp at hk; omega) (by have := b1.size; have := hb0.size; omega))))
  have HS6 := Lib.hid (HS4.out.later hc hB)
  have HG6 := Lib.hid (HG4.out.trans (Gw.of_below (v := v) hB))
  have HC6 := Lib.hid ((behind_of_below hB).keep HC4.out (by simp))
  have gk4 := blk_cell HK4.out 0 rfl
  have hcnt := HCN.out
  have hls := HLS.out
  have KA := kAdd c hc ⟨1, 0, []⟩ none 0 HS6.out (InsAt.nil _ _ _) (by omega)
  simp only [List.length_nil] at KA
  clear h0 h1 h2 b1 b2 hb0 hB hcnt hls
  go_upto_region 18 with fail
  refine wp_gen ?_
  intro x5 hx5
  rw [← hx4] at hx5
  subst hx5
  clear hx4 e2 f2 gk3
  go_wp2_with fail
  refine KA.mono ?_
  rintro e w7 ⟨v7, rfl, hS7, hG7⟩
  · have HS7 := Lib.hid hS7
    have HG7 := Lib.hid (HG6.out.trans hG7)
    have HC5 := Lib.hid (hG7.be.keep HC6.out (HS6.out.ex (w.heap.size + 1) (by simp)).2)
    have c5 := blk_cell HC5.out 0 rfl
    have f5 := blk_free HC5.out 0
    clear hS7 hG7 KA
    go_wp2_with fail
    refine bodyPost_ret (results_cell_one (p := 2) rfl _ _ (w.heap.size + 1) _ _ rfl (blk_cell (heap_setCell_same _ (w.heap.size + 1) 0 _ _ _ HC5.out) 0 rfl) Tryd.underlying3 rfl) rfl ?_
    rw [HP.out, HTL.out]
    exact OkP.put hc _ HS7.out HG7.out hw0
end Go.Proofs.YtmaiofimmjedjaaDoor
