/- Texts of this claim, joined: D30, D31. -/
import Derived.Test.YtfleacdnkpckbaaDoorMP33
import Derived.Test.YtfleacdnkpckbaaDoorMP27
import Derived.Test.YtfleacdnkpckbaaDoorMP34
import Derived.Test.YtfleacdnkpckbaaDoorMP32
import Derived.Deep.DeepCutAuto

/- Files in memory, of the program's Parse and of the reference's. -/
namespace Go.Proofs.YtfleacdnkpckbaaDoor
open Go.RowKit

theorem rowV_atx {x : World} {E : TypeId} {size : Nat} {p : Option Addr} {n m c : Nat} {xs : List Value} (h : RowV (inW x) E size (.slice p m c) n xs) : AtN x.heap.size x p xs := by
  obtain ⟨a, c', e, _, hA⟩ := rowV_at2 h
  cases e
  exact hA
theorem rows_cls {w : World} {vL : Value} {L : List (List Int)} {cl : List Value} (hL : RowV (inW w) 26 1 vL L.length cl) (hC : ∀ (i : Nat) (u : Value) (xs : List Int), cl[i]? = some u → L[i]? = some xs → RowV (inW w) 3 1 u xs.length (ints xs)) : ∃ aL cL, vL = .slice aL L.length cL ∧ ClsAt w.heap.size w aL L := by
  obtain ⟨a, c, e, _, hA⟩ := rowV_at2 hL
  refine ⟨a, c, e, fun i xs hi => ?_⟩
  have hlen := hL.length
  have hil : i < cl.length := by
    have := (List.getElem?_eq_some_iff.1 hi).1
    omega
  obtain ⟨b, o, hb, ea, hc⟩ := hA i _ (List.getElem?_eq_getElem hil)
  have hr := hC i _ xs (List.getElem?_eq_getElem hil) hi
  obtain ⟨p, c2, e2, _, hA2⟩ := rowV_at2 hr
  rw [e2] at hc
  exact ⟨b, o, p, c2, hb, ea, hc, hA2⟩
theorem DR.file {TW : TypeId} {w : World} {b : Nat} {st : DS} {v : DV} (h : DR TW w b st v) : ∃ aL cL aS cS aW cW, v.L = .slice aL st.L.length cL ∧ v.S = .slice aS st.sh.length cS ∧ v.W = .slice aW st.ws.length cW ∧ FileAt w.heap.size w aL aS aW st.L st.sh st.ws := by
  obtain ⟨cl, hL, hC⟩ := h.rL
  obtain ⟨aL, cL, e1, h1⟩ := rows_cls hL (fun i u xs a b => (hC i u xs a b).1)
  obtain ⟨aS, cS, e2, _, h2⟩ := rowV_at2 h.rS
  obtain ⟨aW, cW, e3, _, h3⟩ := rowV_at2 h.rW
  exact ⟨aL, cL, aS, cS, aW, cW, e1, e2, e3, h1, h2, h3⟩
theorem DX.file {TW : TypeId} {w : World} {G : Nat → Prop} {st : DS} {v : DV} (h : DX TW w G st v) : ∃ aL cL aS cS aW cW, v.L = .slice aL st.L.length cL ∧ v.S = .slice aS st.sh.length cS ∧ v.W = .slice aW st.ws.length cW ∧ FileAt w.heap.size w aL aS aW st.L st.sh st.ws := by
  obtain ⟨cl, hL, hC⟩ := h.rL
  obtain ⟨aL, cL, e1, h1⟩ := rows_cls hL (fun i u xs a b => (hC i u xs a b).1)
  obtain ⟨aS, cS, e2, _, h2⟩ := rowV_at2 h.rS
  obtain ⟨aW, cW, e3, _, h3⟩ := rowV_at2 h.rW
  exact ⟨aL, cL, aS, cS, aW, cW, e1, e2, e3, h1, h2, h3⟩

def RGiven (n : Int) (vL vS : Value) (ws : List (Int × List UInt8)) (v : Value) (Bn : Blocks) : Prop := ∃ p c, v = .agg #[.int .i64 n, vL, vS, .slice p ws.length c] ∧ RowV Bn 61 2 (.slice p ws.length c) ws.length (wts ws)
theorem given_call (n : Int) (vL vS : Value) (hvL : ∃ p m c, vL = .slice p m c) (hvS : ∃ p m c, vS = .slice p m c) (ws : List (Int × List UInt8)) (hws : ws.length ≤ 10000000) {w : World} (a : Option Addr) (c : Nat) (hA : AtN w.heap.size w a (wts ws)) (x : World) (hx : Behind w [] x) :
    Calls Tryd.prog 10 #[.agg #[.int .i64 n, vL, vS, .slice a ws.length c]] x fun e w' => ∃ v, e = .returned v ∧ Behind x [] w' ∧ RGiven n vL vS ws v (newB [] x w') := by
  refine (gGiven n vL vS hvL hvS ws hws x a c ((hA.below hx.below (Nat.le_refl _)).mono hx.size)).mono ?_
  rintro e w' ⟨vW, rfl, ⟨hr, hge⟩, hB⟩
  obtain ⟨p, c', e2⟩ := hr.slice
  subst e2
  exact ⟨_, rfl, behind_of_below hB, p, c', rfl, hr.moved (fun g hg o ho => by rw [newB_in (.inr (hge g hg))]; exact ho)⟩
theorem true_call {f : FuncId} {vs : Array Value} {x : World} (h : Calls Tryd.prog f vs x fun e w' => e = .returned (.bool true) ∧ Below x.heap.size x w') : Calls Tryd.prog f vs x fun e w' => ∃ v, e = .returned v ∧ Behind x [] w' ∧ v = .bool true :=
  h.mono fun e w' ⟨he, hB⟩ => ⟨_, he, behind_of_below hB, rfl⟩
theorem same_call (n : Int) (L : List (List Int)) (sh : List Int) (ws : List (Int × List UInt8)) (aL aS bL bS bW : Option Addr) (cL cS dL dS dW : Nat) (hl : L.length ≤ 100000000) (hll : ∀ xs ∈ L, xs.length ≤ 100000000) (hsl : sh.length ≤ 100000000) (hwl : ws.length ≤ 100000000) {w : World} (hA : ClsAt w.heap.size w aL L ∧ AtN w.heap.size w aS (ints sh)) (hB : FileAt w.heap.size w bL bS bW L sh ws)
    {Bn : Blocks} {p : Option Addr} {c : Nat} (hp : RowV Bn 61 2 (.slice p ws.length c) ws.length (wts ws)) (x : World) (hx : Behind w [] x) (hBx : Has Bn x) :
    Calls Tryd.prog 9 #[.agg #[.int .i64 n, .slice aL L.length cL, .slice aS sh.length cS, .slice p ws.length c], .agg #[.int .i64 n, .slice bL L.length dL, .slice bS sh.length dS, .slice bW ws.length dW]] x fun e w' => ∃ v, e = .returned v ∧ Behind x [] w' ∧ v = .bool true :=
  true_call (xSame n L sh ws aL aS p bL bS bW cL cS c dL dS dW hl hll hsl hwl x ⟨(hA.1.below hx.below (Nat.le_refl _)).mono hx.size, (hA.2.below hx.below (Nat.le_refl _)).mono hx.size, rowV_atx (hp.of_has hBx)⟩ ((hB.below hx.below (Nat.le_refl _)).mono hx.size))
end Go.Proofs.YtfleacdnkpckbaaDoor

/- The law: texts are read, or refused, as the document says. -/
namespace Go.Proofs.YtfleacdnkpckbaaDoor
open Go.RowKit

set_option maxHeartbeats 6400000 in
set_option maxRecDepth 100000 in
theorem parses_law (l : List UInt8) (hl : l.length ≤ 9223372036854775807) (w : World) (hM0 : ∃ m, w.cell? ⟨0, 0, none⟩ = some (.int .i64 m)) : Calls Tryd.prog 3 #[.string ⟨l.toArray⟩] w fun e w' => e = .returned (.bool true) ∧ Below w.heap.size w w' := by
  obtain ⟨Post, hPost⟩ : ∃ P : Ending → World → Prop, P = fun e w' => e = .returned (.bool true) ∧ Below w.heap.size w w' := ⟨_, rfl⟩
  rw [← hPost]
  have HP := Lib.hid hPost
  have HM0 := Lib.hid hM0
  have KW := Lib.hid (fun (x : World) (hx : Below w.heap.size w x) => gWorks x (by obtain ⟨m, hm⟩ := hM0; exact ⟨m, below_cell hx (block_lt_of_cell hm) hm⟩))
  by_cases hbig : 20000 < l.length
  · have KW1 := KW.out w (Below.refl _ _)
    obtain ⟨s, hs⟩ : ∃ s : ByteArray, s = ⟨l.toArray⟩ := ⟨_, rfl⟩
    have hsz : s.size = l.length := by rw [hs]; exact ba_size l
    rw [← hs]
    have hd : decide (20000 < s.size) = true := decide_eq_true (by omega)
    have hd2 : decide ((20000 : Int) < (s.size : Int)) = true := decide_eq_true (by omega)
    clear hPost hM0 hs hsz hbig
    go_enter Tryd.func3, Tryd.ntmps3
    go_wp2_with fail
    refine KW1.mono ?_
    rintro e w2 ⟨rfl, hB⟩
    have HB := Lib.hid hB
    clear hB KW1
    go_wp2_with fail
    rw [HP.out]
    exact ⟨rfl, HB.out⟩
  have KP := gParse l (by omega) w hM0
  have KX := Lib.hid (fun (x : World) => xParse l (by omega) x)
  have HSZ := Lib.hid (parseD_sz (rd := rdD) l)
  obtain ⟨R, hR⟩ : ∃ R, R = parseD rdD l := ⟨_, rfl⟩
  rw [← hR] at KP KX HSZ
  obtain ⟨s, hs⟩ : ∃ s : ByteArray, s = ⟨l.toArray⟩ := ⟨_, rfl⟩
  have hsz : s.size = l.length := by rw [hs]; exact ba_size l
  rw [← hs] at KP KX ⊢
  have hd : decide (20000 < s.size) = false := decide_eq_false (by omega)
  have hd2 : decide ((20000 : Int) < (s.size : Int)) = false := decide_eq_false (by omega)
  have hlen : l.length ≤ 20000 := by omega
  clear hPost hM0 hs hsz hbig hR
  go_enter Tryd.func3, Tryd.ntmps3
  go_wp2_with fail
  refine KP.mono ?_
  rintro e w2 ⟨v, rfl, hD, hB⟩
  obtain ⟨aL, cL, aS, cS, aW, cW, e1, e2, e3, hF⟩ := hD.file
  rw [e1, e2, e3]
  have HF2 := Lib.hid hF
  have HB2 := Lib.hid hB
  clear hD hB KP e1 e2 e3 hF
  obtain ⟨st, ln, en⟩ := R
  simp only at *
  go_upto_region 4 with fail
  refine wp_gen ?_
  intro w3 hw3
  have hB23 : Below w2.heap.size w2 w3 := by
    rw [hw3]
    exact below_one w2 _
  have A3 := Lib.hid (show w3.heap[w2.heap.size]? = some (.cells #[.int .i64 st.n, .slice aL st.L.length cL, .slice aS st.sh.length cS, .slice aW st.ws.length cW] 29 (0, 0)) by rw [hw3]; exact new_one w2 _)
  have HB3 := Lib.hid (HB2.out.trans (hB23.mono HB2.out.size))
  have HF3 := Lib.hid ((HF2.out.below hB23 (Nat.le_refl _)).mono hB23.size)
  clear hw3 hB23 HF2
  have KX3 := KX.out w3
  go_wp2_with fail
  refine KX3.mono ?_
  rintro e w4 ⟨v4, rfl, hD, hB⟩
  obtain ⟨bL, dL, bS, dS, bW, dW, e1, e2, e3, hF⟩ := hD.file
  simp only at e1 e2 e3 hF ⊢
  rw [e1, e2, e3]
  have HF4 := Lib.hid hF
  have HB4 := Lib.hid (HB3.out.trans (hB.mono HB3.out.size))
  have HG4 := Lib.hid ((HF3.out.below hB (Nat.le_refl _)).mono hB.size)
  have A4 := Lib.hid ((behind_of_below hB).keep A3.out (by simp))
  clear hD hB KX3 KX e1 e2 e3 hF HF3 A3
  go_upto_region 5 with fail
  refine wp_gen ?_
  intro w5 hw5
  have hB45 : Below w4.heap.size w4 w5 := by
    rw [hw5]
    exact below_one w4 _
  have A5 := Lib.hid ((behind_of_below hB45).keep A4.out (by simp))
  have B5 := Lib.hid (show w5.heap[w4.heap.size]? = some (.cells #[.int .i64 st.n, .slice bL st.L.length dL, .slice bS st.sh.length dS, .slice bW st.ws.length dW] 35 (0, 0)) by rw [hw5]; exact new_one w4 _)
  have HB5 := Lib.hid (HB4.out.trans (hB45.mono HB4.out.size))
  have HF5 := Lib.hid ((HF4.out.below hB45 (Nat.le_refl _)).mono hB45.size)
  have HG5 := Lib.hid ((HG4.out.below hB45 (Nat.le_refl _)).mono hB45.size)
  clear hw5 hB45 A4 HF4 HG4
  have HSZ2 := Lib.hid (show st.sh.length ≤ l.length ∧ st.ws.length ≤ l.length ∧ st.L.length ≤ l.length ∧ ∀ c ∈ st.L, c.length ≤ 128 from HSZ.out)
  clear HSZ
  have hee : (en == en) = true := by simp
  have hnn : ((ln : Int) == (ln : Int)) = true := by simp
  go_wp2_with fail
  refine wp_gameM [0, 0, 0, 0, 0, 0, 0, 0, 0, 0, 6, 0, 6, 0, 0, 6, 0, 0] [] (keptB [] w5) (fin_keptB _) (has_keptB _) (by kernel_rfl) (by kernel_rfl) ?_
  refine lexM_split 10 (by decide) (by rfl) ?_
  simp only [List.take_succ_cons, List.take_zero, List.drop_succ_cons, List.drop_zero]
  refine lex_quietE 10 (by kernel_rfl) (by rfl) ?_
  apply Exists.intro
  refine ⟨fun z hz1 => ?_, ?_⟩
  · have hzA := hz1.keep A5.out (by simp)
    have g0 := blk_cellp hzA 0 rfl
    have g1 := blk_cellp hzA 1 rfl
    have g2 := blk_cellp hzA 2 rfl
    have g3 := blk_cellp hzA 3 rfl
    clear hz1 hzA
    simp only [List.take_succ_cons, List.take_zero]
    unfold Cx
    repeat (go_big_quiet_step (fail))
    exact wpQuiet_nil rfl
  simp only [List.drop_succ_cons, List.drop_zero]
  refine lex_nil ?_
  refine lexM_manyG (RGiven st.n (.slice aL st.L.length cL) (.slice aS st.sh.length cS) st.ws) (by rfl) (by rfl) (by simp) (fin_keptB _) (fun g o h => keptB_wr h) (fun x => by go_simp) (fun x hx _ => given_call st.n _ _ ⟨_, _, _, rfl⟩ ⟨_, _, _, rfl⟩ st.ws (by have := HSZ2.out.2.1; omega) aW cW HG5.out.w x hx) (fun u1 B1 hR1 hf1 hB1 => ?_)
  obtain ⟨p1, c1, rfl, hr1⟩ := hR1
  have HR1 := Lib.hid hr1
  have HF1 := Lib.hid (Fin.over (fin_keptB (Wr := []) w5) hf1)
  have HN1 := Lib.hid hB1
  clear hr1 hf1 hB1
  unfold setSlot
  go_big_quiet_step (fail)
  refine wpQuiet_nil ?_
  refine lexM_split 1 (by decide) (by rfl) ?_
  simp only [List.take_succ_cons, List.take_zero, List.drop_succ_cons, List.drop_zero]
  refine lex_quietE 1 (by kernel_rfl) (by rfl) ?_
  apply Exists.intro
  refine ⟨fun z hz1 => ?_, ?_⟩
  · have hzA := hz1.keep B5.out (by simp)
    have g0 := blk_cellp hzA 0 rfl
    have g1 := blk_cellp hzA 1 rfl
    have g2 := blk_cellp hzA 2 rfl
    have g3 := blk_cellp hzA 3 rfl
    clear hz1 hzA
    simp only [List.take_succ_cons, List.take_zero]
    unfold Cx
    repeat (go_big_quiet_step (fail))
    exact wpQuiet_nil rfl
  simp only [List.drop_succ_cons, List.drop_zero]
  refine lex_nil ?_
  refine lexM_manyG (fun v _ => v = .bool true) (by rfl) (by rfl) (by simp) HF1.out (fun g o h => by
    by_cases hb : B1 g = none
    · rw [Blocks.over_none hb] at h; exact keptB_wr h
    · obtain ⟨o', ho'⟩ := Option.ne_none_iff_exists'.1 hb
      exact HN1.out g o' ho') (fun x => by go_simp) (fun x hx hBx => same_call st.n st.L st.sh st.ws aL aS bL bS bW cL cS dL dS dW (by have := HSZ2.out.2.2.1; omega) (fun xs hxs => by have := HSZ2.out.2.2.2 xs hxs; omega) (by have := HSZ2.out.1; omega) (by have := HSZ2.out.2.1; omega) ⟨HG5.out.l, HG5.out.s⟩ HF5.out HR1.out x hx (has_over hBx)) (fun u2 B2 hR2 hf2 hB2 => ?_)
  subst hR2
  have HF2 := Lib.hid (Fin.over HF1.out hf2)
  have HN2 := Lib.hid hB2
  clear hf2 hB2
  unfold setSlot
  go_big_quiet_step (fail)
  refine wpQuiet_nil ?_
  refine lexM_split 2 (by decide) (by rfl) ?_
  simp only [List.take_succ_cons, List.take_zero, List.drop_succ_cons, List.drop_zero]
  refine lex_quietE 2 (by kernel_rfl) (by rfl) ?_
  apply Exists.intro
  refine ⟨fun z hz1 => ?_, ?_⟩
  · clear hz1
    simp only [List.take_succ_cons, List.take_zero]
    unfold Cx
    repeat (go_big_quiet_step (fail))
    exact wpQuiet_nil rfl
  simp only [List.drop_succ_cons, List.drop_zero]
  refine lex_nil ?_
  refine lexM_manyG (fun v _ => v = .bool true) (by rfl) (by rfl) (by simp) HF2.out (fun g o h => by
    by_cases hb : B2 g = none
    · rw [Blocks.over_none hb] at h
      by_cases hb1 : B1 g = none
      · rw [Blocks.over_none hb1] at h; exact keptB_wr h
      · obtain ⟨o', ho'⟩ := Option.ne_none_iff_exists'.1 hb1
        exact HN1.out g o' ho'
    · obtain ⟨o', ho'⟩ := Option.ne_none_iff_exists'.1 hb
      exact HN2.out g o' ho') (fun x => by go_simp) (fun x hx _ => true_call (KW.out x (HB5.out.trans (hx.below.mono HB5.out.size)))) (fun u3 B3 hR3 hf3 hB3 => ?_)
  subst hR3
  clear hf3 hB3
  unfold setSlot
  go_big_quiet_step (fail)
  refine wpQuiet_nil ?_
  refine lexM_split 2 (by decide) (by rfl) ?_
  simp only [List.take_succ_cons, List.take_zero, List.drop_succ_cons, List.drop_zero]
  refine lex_quietE 2 (by kernel_rfl) (by rfl) ?_
  apply Exists.intro
  refine ⟨fun z hz1 => ?_, ?_⟩
  · clear hz1
    simp only [List.take_succ_cons, List.take_zero]
    unfold Cx
    repeat (go_big_quiet_step (fail))
    exact wpQuiet_nil rfl
  simp only [List.drop_succ_cons, List.drop_zero]
  refine lex_nil ?_
  intro x2 hx2 _
  have HX2 := Lib.hid hx2
  clear hx2
  go_wp2_with fail
  rw [HP.out]
  exact ⟨rfl, HB5.out.trans (HX2.out.below.mono HB5.out.size)⟩
end Go.Proofs.YtfleacdnkpckbaaDoor
