/- Parse: a sum read from its text. -/
import Derived.Test.YtchamkbnapjidaaDoorKT
import Derived.Test.YtchamkbnapjidaaDoorKC
import Derived.Recover
import Derived.Tactics2
import Derived.Laws.Pointers
namespace Go.Proofs.YtchamkbnapjidaaDoor
open Go.RowKit

abbrev entryU (r : Bool) : PanicEntry := { v := .iface 75 (.agg #[]), recovered := r }
set_option maxRecDepth 100000 in
theorem catch_wrong (bs be : Nat) (w : World) (a b c x : Value) (h1 : w.heap[bs]? = some (.cells #[a, b, c] 24 (0, 0))) (h2 : w.heap[be]? = some (.cells #[x] 28 (0, 0))) (hne : be ≠ bs) :
    CallsD Tryd.prog 35 #[.pointer (some ⟨bs, 0, none⟩), .pointer (some ⟨be, 0, none⟩)] (.panicking [entryU false]) w fun e u' w' =>
      e = .returned (.tuple #[]) ∧ u' = .panicking [entryU true] ∧ w' = ((((w.setCell ⟨bs, 0, none⟩ (.slice none 0 0)).setCell ⟨bs, 1, none⟩ (.slice none 0 0)).setCell ⟨bs, 2, none⟩ (.int .i64 0)).setCell ⟨be, 0, none⟩ (.int .i64 5)) := by
  have c0 := blk_cell h1 0 rfl
  have c1 := blk_cell h1 1 rfl
  have c2 := blk_cell h1 2 rfl
  have f0 := blk_free h1 0
  have f1 := blk_free h1 1
  have f2 := blk_free h1 2
  have d0 := blk_cell h2 0 rfl
  have g0 := blk_free h2 0
  refine callsD_of_wpS Tryd.func35 rfl fun c₀ cs hu => ?_
  apply wpS_seq
  apply wpS_region
  simp [wpOpsS, go_sem, recoverD, hu, Tryd.ntmps35, Exit.thenS]
  refine wpS_cond (t := true) (by simp [Act.eval, Array.replicate]) ?_
  simp only [if_true]
  apply wpS_region
  simp [wpOpsS, go_sem, c0, c1, c2, f0, f1, f2, d0, g0, hne, Ne.symm hne, bodyPostS, results, Tryd.results35]
  trace_state

set_option maxRecDepth 100000 in
theorem catch_idle (bs be : Nat) (w : World) :
    CallsD Tryd.prog 35 #[.pointer (some ⟨bs, 0, none⟩), .pointer (some ⟨be, 0, none⟩)] .returning w fun e u' w' => e = .returned (.tuple #[]) ∧ u' = .returning ∧ w' = w := by
  refine callsD_of_wpS Tryd.func35 rfl fun c₀ cs hu => ?_
  apply wpS_seq
  apply wpS_region
  simp [wpOpsS, go_sem, recoverD, hu, Tryd.ntmps35, Exit.thenS]
  refine wpS_cond (t := false) (by simp [Act.eval, Array.replicate]) ?_
  simp only [Bool.false_eq_true, if_false]
  refine wpS_of_wp (wp_skip ?_)
  cases c₀
  simp_all [bodyPostS, results, Tryd.results35]

theorem terms_len : ∀ (k : Nat) (fst : Bool) (sg : Int) (l : List UInt8) (ts : List (Int × Int)) (r : List UInt8), termsP k fst sg l = some (ts, r) → ts.length ≤ k
  | 0, _, _, _, _, _, h => by cases h
  | k + 1, fst, sg, l, ts, r, h => by
    rw [termsP] at h
    cases ht : termP fst l with
    | none => rw [ht] at h; cases h
    | some x =>
      obtain ⟨c, v, l3⟩ := x
      rw [ht] at h
      simp only [] at h
      split at h
      · cases h
      · split at h
        · cases hq : termsP k false 1 (l3.drop 3) with
          | none => rw [hq] at h; cases h
          | some y =>
            rw [hq] at h
            cases h
            have := terms_len k _ _ _ _ _ hq
            simp; omega
        · split at h
          · split at h
            · cases h
            · cases hq : termsP k false (-1) (l3.drop 3) with
              | none => rw [hq] at h; cases h
              | some y =>
                rw [hq] at h
                cases h
                have := terms_len k _ _ _ _ _ hq
                simp; omega
          · cases h; simp
theorem head_len {l r : List UInt8} {ts : List (Int × Int)} (h : headP l = some (ts, r)) : ts.length ≤ 65 := by
  unfold headP at h
  split at h
  · cases h; simp
  · exact terms_len _ _ _ _ _ _ h
def parseR2 (l : List UInt8) : PS × Int := match parseS l with
  | some s => (s, 0)
  | none => (.zero, 5)

theorem run_load_one {P : Program} (w : World) (ty : TypeId) (b o : Nat) (v : Value) (ha : (isAgg ty).run P w = .ok false w) (hc : w.cell? ⟨b, o, none⟩ = some v) : (loadVar ty ⟨b, o, none⟩).run P w = .ok v w := by
  simp [loadVar, Sem.run_bind, ha, hc]
theorem results_cell_cell {P : Program} {fn : Func} {p q : Tmp} {ty tq : TypeId} (h : fn.results = #[.cell p ty, .cell q tq]) (tmps : Array Value) (w : World) (g k : Nat) (t : TypeId) (cs : Array Value) (fr : Nat × Nat) (d : TypeDesc)
    (hp : tmps.getD p undef = .pointer (some ⟨g, 0, none⟩)) (hg : w.heap[g]? = some (.cells cs t fr))
    (hu : P.underlying ty = some d) (hd : (match d with | .struct _ | .array _ _ => true | _ => false) = true) (hi : (P.info? ty).map (·.size) = some cs.size) (v : Value) (hv : tmps.getD q undef = .pointer (some ⟨k, 0, none⟩)) (ha : (isAgg tq).run P w = .ok false w) (hc : w.cell? ⟨k, 0, none⟩ = some v) :
    (results fn tmps).run P w = .ok (.tuple #[.agg cs, v]) w := by
  have hp' : tmps[p]?.getD undef = .pointer (some ⟨g, 0, none⟩) := by simpa using hp
  have hv' : tmps[q]?.getD undef = .pointer (some ⟨k, 0, none⟩) := by simpa using hv
  have e1 := run_loadVar_row (P := P) w g t ty cs fr d hg hu hd hi
  have e2 := run_load_one (P := P) w tq k 0 v ha hc
  simp [results, h, hp', hv', asAddr, e1, e2]

set_option maxRecDepth 100000 in
theorem parse_ends (bs be : Nat) (T : Array Value) (R : Ending → World → Prop) (x : World) (cs : Array Value) (y : Value) (hs : cs.size = 3) (t2 : T.getD 2 undef = .pointer (some ⟨bs, 0, none⟩)) (t3 : T.getD 3 undef = .pointer (some ⟨be, 0, none⟩))
    (h1 : x.heap[bs]? = some (.cells cs 24 (0, 0))) (h2 : x.heap[be]? = some (.cells #[y] 28 (0, 0)))
    (hR : R (.returned (.tuple #[.agg cs, y])) x) :
    bodyPostD Tryd.prog Tryd.f18 R Exit.ret { tmps := T, defers := [{ target := Target.fn (Fn.func 35) #[.pointer (some ⟨bs, 0, none⟩), .pointer (some ⟨be, 0, none⟩)], args := #[] }] } x := by
  refine leaves_cons (f := 35) (args := #[.pointer (some ⟨bs, 0, none⟩), .pointer (some ⟨be, 0, none⟩)]) (by simp) (by simp [go_sem]) ?_
  refine (catch_idle bs be x).mono ?_
  rintro e u' w'' ⟨rfl, rfl, rfl⟩
  exact ⟨_, results_cell_cell (p := 2) (q := 3) rfl _ _ bs be _ _ (0, 0) _ t2 h1 Tryd.underlying24 rfl (Tryd.sizeSum.trans (by rw [hs])) y t3 (Tryd.isAgg28 _) (blk_cell h2 0 rfl), hR⟩

set_option maxRecDepth 100000 in
theorem parse_fails (bs be : Nat) (T : Array Value) (R : Ending → World → Prop) (x : World) (a b c y : Value) (t2 : T.getD 2 undef = .pointer (some ⟨bs, 0, none⟩)) (t3 : T.getD 3 undef = .pointer (some ⟨be, 0, none⟩))
    (h1 : x.heap[bs]? = some (.cells #[a, b, c] 24 (0, 0))) (h2 : x.heap[be]? = some (.cells #[y] 28 (0, 0))) (hne : be ≠ bs)
    (hR : R (.returned (.tuple #[.agg #[.slice none 0 0, .slice none 0 0, .int .i64 0], .int .i64 5])) ((((x.setCell ⟨bs, 0, none⟩ (.slice none 0 0)).setCell ⟨bs, 1, none⟩ (.slice none 0 0)).setCell ⟨bs, 2, none⟩ (.int .i64 0)).setCell ⟨be, 0, none⟩ (.int .i64 5))) :
    bodyPostD Tryd.prog Tryd.f18 R (Exit.panic [entryU false]) { tmps := T, defers := [{ target := Target.fn (Fn.func 35) #[.pointer (some ⟨bs, 0, none⟩), .pointer (some ⟨be, 0, none⟩)], args := #[] }] } x := by
  refine leaves_cons (f := 35) (args := #[.pointer (some ⟨bs, 0, none⟩), .pointer (some ⟨be, 0, none⟩)]) (by simp) (by simp [go_sem]) ?_
  refine (catch_wrong bs be x a b c y h1 h2 hne).mono ?_
  rintro e u' w'' ⟨rfl, rfl, rfl⟩
  refine ⟨_, results_cell_cell (p := 2) (q := 3) rfl _ _ bs be _ _ (0, 0) _ t2 ((heap_setCell_other _ _ bs _ (Ne.symm hne)).trans (three_set h1)) Tryd.underlying24 rfl Tryd.sizeSum (.int .i64 5) t3 (Tryd.isAgg28 _) ?_, hR⟩
  exact blk_cell (heap_setCell_same _ be 0 _ _ (.int .i64 5) (three_behind.keep h2 (by simp; exact hne))) 0 rfl

set_option maxHeartbeats 4000000 in
set_option maxRecDepth 100000 in
theorem gParse (l : List UInt8) (w : World) (hl : l.length ≤ 1000000) :
    Calls Tryd.prog 18 #[.string ⟨l.toArray⟩] w (SumPost w (parseR2 l).1 (parseR2 l).2) := by
  have hmf : ∀ (fn : Fn) (first cap : Array Value) (w : World), (Instr.makeFunc fn first cap).run Tryd.prog w = .ok (.func fn first cap) w := fun _ _ _ _ => rfl
  obtain ⟨Post, hPost⟩ : ∃ P : Ending → World → Prop, P = SumPost w (parseR2 l).1 (parseR2 l).2 := ⟨_, rfl⟩
  rw [← hPost]
  have HP := Lib.hid hPost
  have KH := Tryd.strings_HasPrefix ⟨l.toArray⟩ ⟨#[48, 32, 62, 61, 32]⟩
  simp only [List.toList_toArray] at KH
  clear hPost
  go_enter_defers Tryd.func18, Tryd.ntmps18
  go_wp2_with fail
  refine calls_gen fun w1 hw1 => ?_
  have HB1 := Lib.hid (show Below w.heap.size w w1 by rw [hw1]; exact (below_two w _ _).alloc (by simp; omega) _)
  have S1 := Lib.hid (show w1.heap[w.heap.size]? = some (.cells #[.slice none 0 0, .slice none 0 0, .int .i64 0] 24 (0, 0)) by rw [hw1]; exact (heap_alloc_old _ _ (by simp; omega)).trans (new_two1 _ _ _))
  have E1 := Lib.hid (show w1.heap[w.heap.size + 1]? = some (.cells #[.int .i64 0] 28 (0, 0)) by rw [hw1]; exact (heap_alloc_old _ _ (by simp)).trans (new_two2 _ _ _))
  have R1 := Lib.hid (show Rd (w.heap.size + 1 + 1) l w1 by rw [hw1]; have := new_one ((w.alloc (.cells #[.slice none 0 0, .slice none 0 0, .int .i64 0] 24 (0, 0))).alloc (.cells #[.int .i64 0] 28 (0, 0))) (.cells #[.string ⟨l.toArray⟩] 68 (0, 0)); simpa [Rd] using this)
  clear hw1
  refine (KH w1).mono ?_
  rintro e w2 ⟨rfl, hw2⟩
  subst hw2
  clear KH
  have HFAIL := Lib.hid (fun (x : World) (a b c y : Value) (hb : Below w.heap.size w x) (h1 : x.heap[w.heap.size]? = some (.cells #[a, b, c] 24 (0, 0))) (h2 : x.heap[w.heap.size + 1]? = some (.cells #[y] 28 (0, 0))) (hn : parseS l = none) (T : Array Value) (t2 : T.getD 2 undef = .pointer (some ⟨w.heap.size, 0, none⟩)) (t3 : T.getD 3 undef = .pointer (some ⟨w.heap.size + 1, 0, none⟩)) =>
    parse_fails w.heap.size (w.heap.size + 1) T Post x a b c y t2 t3 h1 h2 (by omega) (by
      rw [HP.out, show parseR2 l = (.zero, 5) by unfold parseR2; rw [hn]]
      exact ⟨_, _, rfl, two_none _ _, (hb.trans (three_below (Nat.le_refl _))).setCell (by show w.heap.size ≤ w.heap.size + 1; omega) _⟩))
  have hs1 : w.heap.size + 3 ≤ w2.heap.size := by have := lt_of_heap R1.out; omega
  generalize hq : Lib.hasPrefix l [48, 32, 62, 61, 32] = q at *
  go_upto_if 10 with fail
  go_cut [] from 9 to 14 (fun wx => ∃ ts r vC vL, Hid (headP l = some (ts, r)) ∧ r.length ≤ l.length ∧ Hid (Rd (w.heap.size + 1 + 1) r wx) ∧ Hid (wx.heap[w.heap.size]? = some (.cells #[vC, vL, .int .i64 0] 24 (0, 0))) ∧ Hid (wx.heap[w.heap.size + 1]? = some (.cells #[.int .i64 0] 28 (0, 0))) ∧
    Hid (Two wx (w.heap.size + 3) vC (ts.map (·.1)) vL (ts.map (·.2))) ∧ Hid (Behind w2 [w.heap.size + 1 + 1, w.heap.size] wx))
  case first =>
    cases q with
    | true =>
      have HT := gTake_yes (w.heap.size + 1 + 1) l [48] w2 R1.out (by
        obtain ⟨r, rfl⟩ : ∃ r, l = [48, 32, 62, 61, 32] ++ r := ⟨_, prefix_split hq⟩
        rfl)
      have HH := Lib.hid (show headP l = some ([], l.drop 1) by unfold headP; rw [if_pos hq])
      clear hq
      go_wp2_with fail
      refine HT.mono ?_
      rintro e w3 ⟨rfl, h3, h4⟩
      have H3 := Lib.hid h3
      have H4 := Lib.hid h4
      clear h3 h4 HT
      go_wp2_with fail
      go_meet
      case rel => exact ⟨[], l.drop 1, _, _, HH.out, by rw [List.length_drop]; omega, H3.out, H4.out.keep S1.out (by simp; omega), H4.out.keep E1.out (by simp), two_none _ _, H4.out.mono (by simp)⟩
    | false =>
      have HT := gTerms (w.heap.size + 1 + 1) w.heap.size l w2 R1.out S1.out (by omega) hl
      have HH := Lib.hid (show headP l = termsP 65 true 1 l by unfold headP; rw [hq]; rfl)
      clear hq
      go_wp2_with fail
      refine HT.mono ?_
      intro e w3 hp
      rcases hp with ⟨ts, r, vC, vL, h1, rfl, h2, h3, h4, h5, h6⟩ | ⟨h1, rfl, h6, a, b, c, h7⟩
      · have H1 := Lib.hid (HH.out.trans h1)
        have H2 := Lib.hid h2
        have H4 := Lib.hid h4
        have H5 := Lib.hid (h5.mono hs1)
        have H6 := Lib.hid h6
        clear h1 h2 h4 h5 h6 HT
        go_wp2_with fail
        go_meet
        case rel => exact ⟨ts, r, vC, vL, H1.out, h3, H2.out, H4.out, H6.out.keep E1.out (by simp), H5.out, H6.out⟩
      · have HN := Lib.hid (show parseS l = none by unfold parseS; rw [HH.out, h1])
        refine HFAIL.out w3 a b c (.int .i64 0) (HB1.out.trans (h6.below_of (fun g hg => by simp at hg; omega) HB1.out.size)) h7 (h6.keep E1.out (by simp)) HN.out _ rfl rfl
  case rest =>
  obtain ⟨ts, r, vC, vL, HH, hr, RC, SC, EC, TC, BC⟩ := hcut
  obtain ⟨C, hCC⟩ : ∃ C, C = ts.map (·.1) := ⟨_, rfl⟩
  obtain ⟨L, hLL⟩ : ∃ L, L = ts.map (·.2) := ⟨_, rfl⟩
  have HPS := Lib.hid (fun (m : Int) (r2 : List UInt8) (hp : Lib.hasPrefix r [32, 62, 61, 32] = true) (hn : numP true (r.drop 4) = some (m, r2)) => (show parseS l = if r2 ≠ [] ∨ checkS ⟨C, L, m⟩ 128 ≠ 0 then none else some ⟨C, L, m⟩ by
    unfold parseS; rw [HH.out]; simp only []; rw [if_neg (by rw [hp]; simp), hn, hCC, hLL]))
  have hCl : C.length ≤ 65 := by rw [hCC, List.length_map]; exact head_len HH.out
  have hLl : L.length ≤ 65 := by rw [hLL, List.length_map]; exact head_len HH.out
  rw [← hCC, ← hLL] at TC
  clear hCC hLL
  have HBC := Lib.hid (HB1.out.trans (BC.out.below_of (fun g hg => by simp at hg; omega) HB1.out.size))
  clear BC HB1 R1 S1 E1 hq
  obtain ⟨w3, hw3⟩ : ∃ w3, w3 = wc := ⟨_, rfl⟩
  subst hw3
  apply_assumption
  cases hp : Lib.hasPrefix r [32, 62, 61, 32] with
  | false =>
    have HN := Lib.hid (show parseS l = none by unfold parseS; rw [HH.out]; simp only []; rw [if_pos hp])
    have KT := gTake_no (w.heap.size + 1 + 1) r [32, 62, 61, 32] w3 RC.out hp
    clear hp
    go_wp2_with fail
    refine KT.mono ?_
    rintro e w4 ⟨rfl, h4⟩
    exact HFAIL.out w4 vC vL _ _ (HBC.out.trans (h4.below_of (fun g hg => by simp at hg; omega) HBC.out.size)) (h4.keep SC.out (by simp; omega)) (h4.keep EC.out (by simp)) HN.out _ rfl rfl
  | true =>
  have KT := gTake_yes (w.heap.size + 1 + 1) r [32, 62, 61, 32] w3 RC.out hp
  have HPP := Lib.hid hp
  clear hp
  go_wp2_with fail
  refine KT.mono ?_
  rintro e w4 ⟨rfl, h3, h4⟩
  have R4 := Lib.hid h3
  have S4 := Lib.hid (h4.keep SC.out (by simp; omega))
  have E4 := Lib.hid (h4.keep EC.out (by simp))
  have T4 := Lib.hid (TC.out.keepU h4 (fun g hg => by simp at hg; omega))
  have HB4 := Lib.hid (HBC.out.trans (h4.below_of (fun g hg => by simp at hg; omega) HBC.out.size))
  clear h3 h4 KT RC SC EC TC HBC
  go_wp2_with fail
  have KN := gNum (w.heap.size + 1 + 1) true (r.drop 4) w4 R4.out (by rw [List.length_drop]; omega)
  refine KN.mono ?_
  intro e w5 hp5
  rcases hp5 with ⟨m, r2, hn, rfl, h3, h4⟩ | ⟨hn, rfl, h4⟩
  case inr =>
    have HN := Lib.hid (show parseS l = none by unfold parseS; rw [HH.out]; simp only []; rw [if_neg (by rw [HPP.out]; simp), hn])
    exact HFAIL.out w5 vC vL _ _ (HB4.out.trans (h4.below_of (fun g hg => by simp at hg; omega) HB4.out.size)) (h4.keep S4.out (by simp; omega)) (h4.keep E4.out (by simp)) HN.out _ rfl rfl
  have HNM := Lib.hid hn
  have hmb := numP_bound hn
  have R5 := Lib.hid h3
  have S5 := Lib.hid (h4.keep S4.out (by simp; omega))
  have E5 := Lib.hid (h4.keep E4.out (by simp))
  have T5 := Lib.hid (T4.out.keepU h4 (fun g hg => by simp at hg; omega))
  have HB5 := Lib.hid (HB4.out.trans (h4.below_of (fun g hg => by simp at hg; omega) HB4.out.size))
  have b2 := blk_cell S5.out 2 rfl
  have b2f := blk_free S5.out 2
  have rb : ∀ o v, (w5.setCell ⟨w.heap.size, o, none⟩ v).cell? ⟨w.heap.size + 1 + 1, 0, none⟩ = some (.string ⟨r2.toArray⟩) := fun o v => blk_cell ((behind_set2 (b := w.heap.size) (Wr := [w.heap.size])).keep R5.out (by simp; omega)) 0 rfl
  clear h3 h4 KN R4 S4 E4 T4 HB4 hn
  have HPR := Lib.hid (HPS.out m r2 HPP.out HNM.out)
  clear HPS HNM HPP HH
  have S6 := Lib.hid (show (w5.setCell ⟨w.heap.size, 2, none⟩ (.int .i64 m)).heap[w.heap.size]? = some (.cells #[vC, vL, .int .i64 m] 24 (0, 0)) from heap_setCell_same _ _ 2 _ _ _ S5.out)
  have hbe := behind_set2 (w := w5) (b := w.heap.size) (o := 2) (v := .int .i64 m) (Wr := [w.heap.size])
  have E6 := Lib.hid (hbe.keep E5.out (by simp))
  have T6 := Lib.hid (T5.out.keepU hbe (fun g hg => by simp at hg; omega))
  have HB6 := Lib.hid (show Below w.heap.size w (w5.setCell ⟨w.heap.size, 2, none⟩ (.int .i64 m)) from HB5.out.setCell (Nat.le_refl _) _)
  by_cases hr2 : r2 = []
  case neg =>
    have HN := Lib.hid (show parseS l = none by rw [HPR.out, if_pos (.inl hr2)])
    have hE : r2.isEmpty = false := by simpa using hr2
    clear hbe
    go_wp2_with fail
    exact HFAIL.out _ vC vL (.int .i64 m) (.int .i64 0) HB6.out S6.out E6.out HN.out _ rfl rfl
  subst hr2
  obtain ⟨aC, cC, hvC, hAC⟩ := own_at T6.out.o1
  obtain ⟨aL, cL, hvL, hAL⟩ := own_at T6.out.o2
  subst hvC
  subst hvL
  have b0 := blk_cell S5.out 0 rfl
  have b1 := blk_cell S5.out 1 rfl
  have KC := gCheck _ ⟨C, L, m⟩ 128 aC aL cC cL (by simp only []; omega) (by simp only []; omega) _ hAC hAL (Nat.le_refl _)
  unfold sumV at KC
  simp only at KC
  generalize hck : checkS ⟨C, L, m⟩ 128 = ck at *
  clear hbe hAC hAL
  by_cases hk : ck = 0
  case neg =>
    have HN := Lib.hid (show parseS l = none by rw [HPR.out, if_pos (.inr hk)])
    have hkd : (ck != 0) = true := by simp [bne, beq_no hk]
    clear hck HPR
    go_wp2_with fail
    refine KC.mono ?_
    rintro e w7 ⟨rfl, hB7⟩
    have S7 := Lib.hid ((behind_of_below hB7).keep S6.out (by simp))
    have E7 := Lib.hid ((behind_of_below hB7).keep E6.out (by simp))
    have HB7 := Lib.hid (HB6.out.trans (hB7.mono HB6.out.size))
    clear hB7
    go_wp2_with fail
    exact HFAIL.out _ _ _ (.int .i64 m) (.int .i64 0) HB7.out S7.out E7.out HN.out _ rfl rfl
  subst hk
  have HN := Lib.hid (show parseS l = some ⟨C, L, m⟩ by rw [HPR.out, if_neg (by simp)])
  clear hck HPR HFAIL
  go_wp2_with fail
  refine KC.mono ?_
  rintro e w7 ⟨rfl, hB7⟩
  have S7 := (behind_of_below hB7).keep S6.out (by simp)
  have E7 := (behind_of_below hB7).keep E6.out (by simp)
  have HB7 := Lib.hid (HB6.out.trans (hB7.mono HB6.out.size))
  have T7 := Lib.hid (T6.out.keepB hB7)
  have c0 := blk_cell S7 0 rfl
  have c1 := blk_cell S7 1 rfl
  have c2 := blk_cell S7 2 rfl
  have f0 := blk_free S7 0
  have f1 := blk_free S7 1
  have f2 := blk_free S7 2
  have d0 := blk_cell E7 0 rfl
  have dz := blk_free E7 0
  have HS7 := Lib.hid S7
  have HE7 := Lib.hid E7
  clear hB7 S7 E7 KC S5 E5 T5 HB5 b0 b1 b2 b2f rb S6 E6 T6 HB6
  go_wp2_with fail
  refine parse_ends w.heap.size (w.heap.size + 1) _ Post _ _ (.int .i64 0) rfl rfl rfl ((heap_setCell_other _ _ _ _ (by show w.heap.size ≠ w.heap.size + 1; omega)).trans (three_set HS7.out)) (heap_setCell_same _ _ 0 _ _ _ (three_behind.keep HE7.out (by simp))) ?_
  rw [HP.out, show parseR2 l = (⟨C, L, m⟩, 0) by unfold parseR2; rw [HN.out]]
  exact ⟨_, _, rfl, ((T7.out.keepU three_behind (fun g hg => by simp at hg; omega)).keepU (behind_set2 (b := w.heap.size + 1) (Wr := [w.heap.size + 1])) (fun g hg => by simp at hg; omega)).mono (by omega), (HB7.out.trans (three_below (Nat.le_refl _))).setCell (by show w.heap.size ≤ w.heap.size + 1; omega) _⟩
end Go.Proofs.YtchamkbnapjidaaDoor
