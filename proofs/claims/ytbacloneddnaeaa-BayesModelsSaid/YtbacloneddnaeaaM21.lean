/- Texts of this claim, joined: BNext, BAdd, BEncS. -/
import Derived.Test.YtbacloneddnaeaaM03
import Derived.Test.YtbacloneddnaeaaM15
import Derived.Test.YtbacloneddnaeaaM20

/- The closure of bayes.Encode that makes a variable. -/
namespace Go.Proofs.Ytbacloneddnaeaa
open Go.RowKit Num

theorem Try.infoRat2 : (Try.prog.info? 34).map (fun i => (i.zero, i.size, i.bytes)) = some (some (.agg #[.string { data := #[] }, .string { data := #[] }]), 2, 32) := by kernel_rfl

def inW (w : World) : Blocks := fun g => w.heap[g]?

theorem RowB.of {B B' : Blocks} {E : TypeId} {size g n cap : Nat} {xs : List Value} {cur : Array Value} (h : RowB B E size g n cap xs cur) (hb : B' g = some (.cells cur E (0, 0))) : RowB B' E size g n cap xs cur := ⟨hb, h.le, h.mx, h.sz, h.tk, h.len⟩

set_option maxHeartbeats 1600000 in
set_option maxRecDepth 100000 in
theorem next_law (a1 a2 p1 p2 : ByteArray) (KO : Gives 45 #[] (.agg #[.string a1, .string a2])) (gW gT gL gH n capL capH : Nat) (N : Nat) (vL : Value) (xs ys : List Value) (curL curH : Array Value) (hn : n ≤ 100000) (hN : N ≤ 100000) (w : World)
    (mW : w.heap[gW]? = some (.cells #[.slice (some ⟨gL, 0, none⟩) n capL, .slice (some ⟨gH, 0, none⟩) n capH] 46 (0, 0))) (mT : w.heap[gT]? = some (.cells #[.int .i64 N, vL] 43 (0, 0)))
    (rL : RowB (inW w) 34 2 gL n capL xs curL) (rH : RowB (inW w) 34 2 gH n capH ys curH) (d1 : gL ≠ gH) (d2 : gW ≠ gL) (d3 : gW ≠ gH) (d4 : gT ≠ gL) (d5 : gT ≠ gH) (d6 : gW ≠ gT) :
    Calls Try.prog 46 #[.agg #[.string p1, .string p2], .pointer (some ⟨gW, 0, none⟩), .pointer (some ⟨gT, 0, none⟩)] w fun e w' => e = .returned (.int .i64 (N + 1)) ∧
      ∃ gL' gH' capL' capH' curL' curH', w'.heap[gW]? = some (.cells #[.slice (some ⟨gL', 0, none⟩) (n + 1) capL', .slice (some ⟨gH', 0, none⟩) (n + 1) capH'] 46 (0, 0)) ∧ w'.heap[gT]? = some (.cells #[.int .i64 (N + 1), vL] 43 (0, 0)) ∧
        RowB (inW w') 34 2 gL' (n + 1) capL' (xs ++ [.string a1, .string a2]) curL' ∧ RowB (inW w') 34 2 gH' (n + 1) capH' (ys ++ [.string p1, .string p2]) curH' ∧
        gL' ≠ gH' ∧ (gL' = gL ∨ w.heap.size ≤ gL') ∧ (gH' = gH ∨ w.heap.size ≤ gH') ∧ Behind w [gW, gT, gL, gH] w' := by
  obtain ⟨i0, hi, hz0, hz1, hz2⟩ := info_parts Try.infoRat2
  obtain ⟨w1, hw1, m3, sz1, hB1⟩ := one_cells w #[.string p1, .string p2] 34
  have lW := lt_of_heap mW
  have lT := lt_of_heap mT
  have lL := lt_of_heap (show w.heap[gL]? = _ from rL.blk)
  have lH := lt_of_heap (show w.heap[gH]? = _ from rH.blk)
  have mW1 := (hB1.block _ lW).trans mW
  have mT1 := (hB1.block _ lT).trans mT
  have mL1 := (hB1.block _ lL).trans rL.blk
  have mH1 := (hB1.block _ lH).trans rH.blk
  have HB1 := Lib.hid hB1
  obtain ⟨k1, hk1⟩ : ∃ k1, k1 = if n + 1 ≤ capL then 2 else 5 := ⟨_, rfl⟩
  obtain ⟨k2, hk2⟩ : ∃ k2, k2 = if n + 1 ≤ capH then 2 else 5 := ⟨_, rfl⟩
  have hk1' : k1 = 2 ∨ k1 = 5 := by rw [hk1]; split <;> simp
  have hk2' : k2 = 2 ∨ k2 = 5 := by rw [hk2]; split <;> simp
  have HK1 := Lib.hid hk1
  have HK2 := Lib.hid hk2
  clear hB1 mW mT hk1 hk2
  go_enter Try.func46, Try.ntmps46
  go_wp2_with fail
  rw [← hw1]
  clear hw1
  have HM3 := Lib.hid m3
  have HMW := Lib.hid mW1
  have HMT := Lib.hid mT1
  have HRL := Lib.hid rL
  have HRH := Lib.hid rH
  have HL1 := Lib.hid mL1
  have HH1 := Lib.hid mH1
  clear m3 mW1 mT1 rL rH mL1 mH1
  refine wp_game_tail 11 [0, 0, 0, 3, k1, 0, 0, 0, 3, k2, 0] [gL, gH] _ (Fin.put (Fin.put fin_B0 _ _) _ _) (has_put (has_put (has_B0 _) HL1.out) HH1.out) (by kernel_rfl) (by rcases hk1' with h | h <;> rcases hk2' with h' | h' <;> rw [h, h'] <;> kernel_rfl) ?_
  clear hk1' hk2'
  refine lex_quietE 3 (by kernel_rfl) (by rfl) ?_
  apply Exists.intro
  refine ⟨fun z hz => ?_, ?_⟩
  · have g0 := blk_cellp (hz.keep HMW.out (by simp [d2, d3])) 0 rfl
    clear hz
    simp only [List.take_succ_cons, List.take_zero]
    unfold Cx
    repeat (go_big_quiet_step (first | with_reducible exact KO.at _ _))
    exact wpQuiet_nil rfl
  simp only [List.drop_succ_cons, List.drop_zero]
  refine lex_slice 1 (.cells #[.string a1, .string a2] 34) (by rfl) (fun x => by go_simp) (fun g8 q8 hn8 => ?_)
  unfold setSlot
  go_big_quiet_step (fail)
  refine wpQuiet_nil ?_
  have n8L : g8 ≠ gL := by omega
  have n8H : g8 ≠ gH := by omega
  clear hn8
  refine lex_append (.tmp 6) (.tmp 8) 44 34 i0 _ 2 32 Try.underlying44 hi hz0 hz1 hz2 (by rfl) gL n capL xs curL (HRL.out.of ((Blocks.put_other _ _ (Ne.symm n8L)).trans ((Blocks.put_other _ _ d1).trans (Blocks.put_same _ _ _)))) (by rfl) g8 1 1 [.string a1, .string a2] 34 (by rfl) (Blocks.put_same _ _ _) rfl (by simp [Value.oneCell'])
    (by unfold maxLen; omega) (by omega) (.inl (by simp)) HK1.out (fun gL' capL' curL' hrL hgL => ?_)
  unfold setSlot
  go_big_quiet_step (fail)
  refine wpQuiet_nil ?_
  have n8L' : g8 ≠ gL' := by
    rcases hgL with rfl | ⟨_, h⟩
    · exact n8L
    · exact Ne.symm (ne_of_put h)
  have nLH' : gL' ≠ gH := by
    rcases hgL with rfl | ⟨h, _⟩
    · exact d1
    · omega
  refine lex_quietE 3 (by kernel_rfl) (by rfl) ?_
  apply Exists.intro
  refine ⟨fun z hz => ?_, ?_⟩
  · have g0 := blk_cellp (hz.keep HMW.out (by simp [d2, d3])) 1 rfl
    have g1 := blk_cellp (hz.keep HM3.out (by simp; omega)) 0 rfl
    have g2 := blk_cellp (hz.keep HM3.out (by simp; omega)) 1 rfl
    clear hz
    simp only [List.take_succ_cons, List.take_zero]
    unfold Cx
    repeat (go_big_quiet_step (fail))
    exact wpQuiet_nil rfl
  simp only [List.drop_succ_cons, List.drop_zero]
  refine lex_slice 1 (.cells #[.string p1, .string p2] 34) (by rfl) (fun x => by go_simp) (fun g13 q13 hn13 => ?_)
  unfold setSlot
  go_big_quiet_step (fail)
  refine wpQuiet_nil ?_
  have n13H : g13 ≠ gH := by omega
  have n13L' : g13 ≠ gL' := ne_of_put hn13
  have n13W : g13 ≠ gW := by omega
  clear hn13
  refine lex_append (.tmp 11) (.tmp 13) 44 34 i0 _ 2 32 Try.underlying44 hi hz0 hz1 hz2 (by rfl) gH n capH ys curH (HRH.out.of ((Blocks.put_other _ _ (Ne.symm n13H)).trans ((Blocks.put_other _ _ (Ne.symm nLH')).trans ((Blocks.put_other _ _ (Ne.symm n8H)).trans (Blocks.put_same _ _ _))))) (by rfl) g13 1 1 [.string p1, .string p2] 34 (by rfl) (Blocks.put_same _ _ _) rfl (by simp [Value.oneCell'])
    (by unfold maxLen; omega) (by omega) (.inl (by simp)) HK2.out (fun gH' capH' curH' hrH hgH => ?_)
  unfold setSlot
  go_big_quiet_step (fail)
  refine wpQuiet_nil ?_
  have nLH2 : gL' ≠ gH' := by
    rcases hgH with rfl | ⟨_, h⟩
    · exact nLH'
    · exact Ne.symm (ne_of_put (none_of_put h))
  refine lex_quietE 1 (by kernel_rfl) (by rfl) ?_
  apply Exists.intro
  refine ⟨fun z hz => ?_, ?_⟩
  · clear hz
    simp only [List.take_succ_cons, List.take_zero]
    unfold Cx
    repeat (go_big_quiet_step (fail))
    exact wpQuiet_nil rfl
  simp only [List.drop_succ_cons, List.drop_zero]
  refine lex_nil ?_
  intro x hx hH
  have bL := hH gL' _ ((Blocks.put_other _ _ nLH2).trans ((Blocks.put_other _ _ (Ne.symm n13L')).trans (Blocks.put_same _ _ _)))
  have bH := hH gH' _ (Blocks.put_same _ _ _)
  have bW := hx.keep HMW.out (by simp [d2, d3])
  have bT := hx.keep HMT.out (by simp [d4, d5])
  have cT := blk_cell bT 0 rfl
  have fT := blk_free bT 0
  have cW0 := blk_cell bW 0 rfl
  have cW1 := blk_cell bW 1 rfl
  have fW0 := blk_free bW 0
  have fW1 := blk_free bW 1
  have hr1 := wrote_cell (o := 0) (.slice (some ⟨gL', 0, none⟩) (n + 1) capL') bW
  have hr2 := wrote_cell (o := 1) (.slice (some ⟨gH', 0, none⟩) (n + 1) capH') hr1.here
  have bT2 := (hr2.block gT (by have := lt_of_heap bT; have := hr1.size; omega) (Ne.symm d6)).trans ((hr1.block gT (lt_of_heap bT) (Ne.symm d6)).trans bT)
  have hr3 := wrote_cell (o := 0) (.int .i64 (N + 1)) bT2
  have hbe : Behind w1 [gW, gT, gL, gH] _ := (((hx.mono (Wr' := [gW, gT, gL, gH]) (by simp)).wrote hr1 (.inl (by simp))).wrote hr2 (.inl (by simp))).wrote hr3 (.inl (by simp))
  have gLn : gL' = gL ∨ w1.heap.size ≤ gL' := hgL.imp id fun h => h.1
  have gHn : gH' = gH ∨ w1.heap.size ≤ gH' := hgH.imp id fun h => h.1
  have eL : gL' ≠ gW ∧ gL' ≠ gT := by rcases gLn with rfl | h <;> constructor <;> first | exact Ne.symm d2 | exact Ne.symm d4 | omega
  have eH : gH' ≠ gW ∧ gH' ≠ gT := by rcases gHn with rfl | h <;> constructor <;> first | exact Ne.symm d3 | exact Ne.symm d5 | omega
  have lb : ∀ (g : Nat) (ob : Obj), x.heap[g]? = some ob → g ≠ gW → g ≠ gT → ((((x.setCell ⟨gW, 0, none⟩ (.slice (some ⟨gL', 0, none⟩) (n + 1) capL')).setCell ⟨gW, 1, none⟩ (.slice (some ⟨gH', 0, none⟩) (n + 1) capH')).setCell ⟨gT, 0, none⟩ (.int .i64 (N + 1)))).heap[g]? = some ob := fun g ob hg h1 h2 => by
    have l0 := lt_of_heap hg
    have s1 := hr1.size
    have s2 := hr2.size
    exact (hr3.block g (by omega) h2).trans ((hr2.block g (by omega) h1).trans ((hr1.block g l0 h1).trans hg))
  have FL := Lib.hid (hrL.of (B' := inW _) (lb gL' _ bL eL.1 eL.2))
  have FH := Lib.hid (hrH.of (B' := inW _) (lb gH' _ bH eH.1 eH.2))
  have FT := Lib.hid hr3.here
  have FW := Lib.hid ((hr3.block gW (by have := lt_of_heap bW; have := hr1.size; have := hr2.size; omega) d6).trans hr2.here)
  have FB := Lib.hid (((behind_of_below HB1.out).mono (Wr' := [gW, gT, gL, gH]) (by simp)).trans hbe (fun k hk => .inl hk))
  have hN2 : (N : Int) ≤ 100000 := by omega
  clear hr1 hr2 hr3 hbe lb hx hH bL bH bW bT bT2 hrL hrH hgL hgH
  go_wp2_with fail
  exact bodyPost_ret (v := .int .i64 (N + 1)) (by simp [results, Try.results46, go_sem]) rfl ⟨rfl, gL', gH', capL', capH', curL', curH', by simpa using FW.out, by simpa using FT.out, FL.out, FH.out, nLH2, gLn.imp id (fun h => by omega), gHn.imp id (fun h => by omega), FB.out⟩
end Go.Proofs.Ytbacloneddnaeaa

/- The closure of bayes.Encode that adds a clause. -/
namespace Go.Proofs.Ytbacloneddnaeaa
open Go.RowKit Num

theorem Try.infoInts : (Try.prog.info? 30).map (fun i => (i.zero, i.size, i.bytes)) = some (some (.slice none 0 0), 1, 24) := by kernel_rfl

set_option maxHeartbeats 1600000 in
set_option maxRecDepth 100000 in
theorem add_law (gT n : Nat) (N : Int) (vL : Value) (pc : Option Addr) (nc cc : Nat) (xs : List Value) (hn : n ≤ 1000000) (w : World)
    (mT : w.heap[gT]? = some (.cells #[.int .i64 N, vL] 43 (0, 0))) (rL : RowV (inW w) 30 1 vL n xs) (d1 : gT ∉ rowBlk vL) :
    Calls Try.prog 47 #[.slice pc nc cc, .pointer (some ⟨gT, 0, none⟩)] w fun e w' => e = .returned (.tuple #[]) ∧
      ∃ vL', w'.heap[gT]? = some (.cells #[.int .i64 N, vL'] 43 (0, 0)) ∧ RowV (inW w') 30 1 vL' (n + 1) (xs ++ [.slice pc nc cc]) ∧ (∀ g ∈ rowBlk vL', g ∈ rowBlk vL ∨ w.heap.size ≤ g) ∧ Behind w (gT :: rowBlk vL) w' := by
  obtain ⟨i0, hi, hz0, hz1, hz2⟩ := info_parts Try.infoInts
  have HMT := Lib.hid mT
  have lT := lt_of_heap mT
  cases rL with
  | nil =>
    go_enter Try.func47, Try.ntmps47
    clear mT
    go_wp2_with (with_reducible refine wpList_from 3 [0, 1, 0, 3, 5, 0, 2] [gT] _ (has_put (has_B0 _) HMT.out) ?_)
    refine lex_quietE 1 (by kernel_rfl) (by rfl) ?_
    apply Exists.intro
    refine ⟨fun z hz => ?_, ?_⟩
    · clear hz
      simp only [List.take_succ_cons, List.take_zero]
      unfold Cx
      repeat (go_big_quiet_step (fail))
      exact wpQuiet_nil rfl
    simp only [List.drop_succ_cons, List.drop_zero]
    refine lex_readE 1 w (Behind.refl _ _) (has_put (has_B0 _) HMT.out) (by kernel_rfl) (by rfl) ?_
    apply Exists.intro
    refine ⟨fun z hz hB => ?_, ?_⟩
    · have g0 := blk_cellp (hB gT _ (Blocks.put_same _ _ _)) 1 rfl
      clear hz hB
      simp only [List.take_succ_cons, List.take_zero]
      unfold Cx
      repeat (go_big_quiet_step (fail))
      exact wpQuiet_nil rfl
    simp only [List.drop_succ_cons, List.drop_zero]
    refine lex_quietE 1 (by kernel_rfl) (by rfl) ?_
    apply Exists.intro
    refine ⟨fun z hz => ?_, ?_⟩
    · clear hz
      simp only [List.take_succ_cons, List.take_zero]
      unfold Cx
      repeat (go_big_quiet_step (fail))
      exact wpQuiet_nil rfl
    simp only [List.drop_succ_cons, List.drop_zero]
    refine lex_slice 1 (.cells #[.slice pc nc cc] 30) (by rfl) (fun x => by go_simp) (fun g6 q6 hn6 => ?_)
    unfold setSlot
    go_big_quiet_step (fail)
    refine wpQuiet_nil ?_
    have n6T : g6 ≠ gT := by omega
    clear hn6
    refine lex_append_nil (.tmp 4) (.tmp 6) 41 30 i0 _ 1 24 Try.underlying41 hi hz0 hz1 hz2 (by rfl) (by rfl) g6 1 1 [.slice pc nc cc] 30 (by rfl) (Blocks.put_same _ _ _) rfl (by decide)
      (by unfold maxLen; omega) (by omega) (by rfl) (fun gL capL curL hrL hgL hgN => ?_)
    unfold setSlot
    go_big_quiet_step (fail)
    refine wpQuiet_nil ?_
    have nL6 : gL ≠ g6 := fun e => by rw [e, Blocks.put_same] at hgN; cases hgN
    have nLT : gL ≠ gT := by omega
    refine lex_quietE 1 (by kernel_rfl) (by rfl) ?_
    apply Exists.intro
    refine ⟨fun z hz => ?_, ?_⟩
    · clear hz
      simp only [List.take_succ_cons, List.take_zero]
      unfold Cx
      repeat (go_big_quiet_step (fail))
      exact wpQuiet_nil rfl
    simp only [List.drop_succ_cons, List.drop_zero]
    refine lex_store_part gT 1 (.slice (some ⟨gL, 0, none⟩) 1 capL) #[.int .i64 N, .slice none 0 0] #[.int .i64 N, .slice (some ⟨gL, 0, none⟩) 1 capL] 43 (by rfl) (by rfl) (by rfl) ((Blocks.put_other _ _ (Ne.symm nLT)).trans ((Blocks.put_other _ _ (Ne.symm n6T)).trans (Blocks.put_same _ _ _))) (by simp [Value.cells]) rfl (fun i hi => by
      have : i = 0 ∨ i = 1 := by simp at hi; omega
      rcases this with rfl | rfl <;> rfl) (Or.inl (by simp)) (by kernel_rfl) (by simp [Value.oneCell', Value.cells]) ?_
    refine lex_nil ?_
    intro x hx hH
    have bT := hH gT _ (Blocks.put_same _ _ _)
    have bL := hH gL _ ((Blocks.put_other _ _ nLT).trans (Blocks.put_same _ _ _))
    exact bodyPost_end (v := .tuple #[]) (by simp [results, Try.results47, go_sem]) rfl ⟨rfl, _, bT, .row (hrL.of (B' := inW _) bL), fun g hg => .inr (by simp [rowBlk] at hg; omega), hx.mono (by simp)⟩
  | @row g _ cap _ cur h =>
    go_enter Try.func47, Try.ntmps47
    have lg := lt_of_heap (show w.heap[g]? = _ from h.blk)
    have d2 : gT ≠ g := by simpa [rowBlk] using d1
    have HR := Lib.hid h
    have hm := h.blk
    obtain ⟨k1, hk1⟩ : ∃ k1, k1 = if n + 1 ≤ cap then 2 else 5 := ⟨_, rfl⟩
    have hk1' : k1 = 2 ∨ k1 = 5 := by rw [hk1]; split <;> simp
    have HK1 := Lib.hid hk1
    have HM := Lib.hid hm
    clear mT h hm d1 hk1
    go_wp2_with (with_reducible refine wpList_from 3 [0, 1, 0, 3, k1, 0, 2] [gT, g] _ (has_put (has_put (has_B0 _) HM.out) HMT.out) ?_)
    refine lex_quietE 1 (by kernel_rfl) (by rfl) ?_
    apply Exists.intro
    refine ⟨fun z hz => ?_, ?_⟩
    · clear hz
      simp only [List.take_succ_cons, List.take_zero]
      unfold Cx
      repeat (go_big_quiet_step (fail))
      exact wpQuiet_nil rfl
    simp only [List.drop_succ_cons, List.drop_zero]
    refine lex_readE 1 w (Behind.refl _ _) (has_put (has_put (has_B0 _) HM.out) HMT.out) (by kernel_rfl) (by rfl) ?_
    apply Exists.intro
    refine ⟨fun z hz hB => ?_, ?_⟩
    · have g0 := blk_cellp (hB gT _ (Blocks.put_same _ _ _)) 1 rfl
      clear hz hB
      simp only [List.take_succ_cons, List.take_zero]
      unfold Cx
      repeat (go_big_quiet_step (fail))
      exact wpQuiet_nil rfl
    simp only [List.drop_succ_cons, List.drop_zero]
    refine lex_quietE 1 (by kernel_rfl) (by rfl) ?_
    apply Exists.intro
    refine ⟨fun z hz => ?_, ?_⟩
    · clear hz
      simp only [List.take_succ_cons, List.take_zero]
      unfold Cx
      repeat (go_big_quiet_step (fail))
      exact wpQuiet_nil rfl
    simp only [List.drop_succ_cons, List.drop_zero]
    refine lex_slice 1 (.cells #[.slice pc nc cc] 30) (by rfl) (fun x => by go_simp) (fun g6 q6 hn6 => ?_)
    unfold setSlot
    go_big_quiet_step (fail)
    refine wpQuiet_nil ?_
    have n6T : g6 ≠ gT := by omega
    have n6g : g6 ≠ g := by omega
    clear hn6
    refine lex_append (.tmp 4) (.tmp 6) 41 30 i0 _ 1 24 Try.underlying41 hi hz0 hz1 hz2 (by rfl) g n cap xs cur (HR.out.of ((Blocks.put_other _ _ (Ne.symm n6g)).trans ((Blocks.put_other _ _ (Ne.symm d2)).trans (Blocks.put_same _ _ _)))) (by rfl) g6 1 1 [.slice pc nc cc] 30 (by rfl) (Blocks.put_same _ _ _) rfl (by simp [Value.oneCell'])
      (by unfold maxLen; omega) (by omega) (.inl (by simp)) HK1.out (fun gL capL curL hrL hgL => ?_)
    unfold setSlot
    go_big_quiet_step (fail)
    refine wpQuiet_nil ?_
    have nLT : gL ≠ gT := by
      rcases hgL with rfl | ⟨h, _⟩
      · exact Ne.symm d2
      · omega
    refine lex_quietE 1 (by kernel_rfl) (by rfl) ?_
    apply Exists.intro
    refine ⟨fun z hz => ?_, ?_⟩
    · clear hz
      simp only [List.take_succ_cons, List.take_zero]
      unfold Cx
      repeat (go_big_quiet_step (fail))
      exact wpQuiet_nil rfl
    simp only [List.drop_succ_cons, List.drop_zero]
    refine lex_store_part gT 1 (.slice (some ⟨gL, 0, none⟩) (n + 1) capL) #[.int .i64 N, .slice (some ⟨g, 0, none⟩) n cap] #[.int .i64 N, .slice (some ⟨gL, 0, none⟩) (n + 1) capL] 43 (by rfl) (by rfl) (by rfl) ((Blocks.put_other _ _ (Ne.symm nLT)).trans ((Blocks.put_other _ _ (Ne.symm n6T)).trans (Blocks.put_same _ _ _))) (by simp [Value.cells]) rfl (fun i hi => by
      have : i = 0 ∨ i = 1 := by simp at hi; omega
      rcases this with rfl | rfl <;> rfl) (Or.inl (by simp)) (by kernel_rfl) (by simp [Value.oneCell', Value.cells]) ?_
    refine lex_nil ?_
    intro x hx hH
    have bT := hH gT _ (Blocks.put_same _ _ _)
    have bL := hH gL _ ((Blocks.put_other _ _ nLT).trans (Blocks.put_same _ _ _))
    exact bodyPost_end (v := .tuple #[]) (by simp [results, Try.results47, go_sem]) rfl ⟨rfl, _, bT, .row (hrL.of (B' := inW _) bL), fun g' hg => by
      obtain rfl : g' = gL := by simpa [rowBlk] using hg
      exact hgL.imp (fun e => by simp [rowBlk, e]) (fun e => e.1), hx.mono (by simp [rowBlk])⟩
end Go.Proofs.Ytbacloneddnaeaa

/- What bayes.Encode has made so far. -/
namespace Go.Proofs.Ytbacloneddnaeaa
open Go.RowKit Num

structure ESt where
  N : Nat
  low : List (Nat × Nat)
  high : List (Nat × Nat)
  L : List (List Int)
  ind : List (List Int)

def ESt.next (s : ESt) (p : Nat × Nat) : ESt := { s with N := s.N + 1, low := s.low ++ [(1, 1)], high := s.high ++ [p] }
def ESt.add (s : ESt) (c : List Int) : ESt := { s with L := s.L ++ [c] }
def ESt.know (s : ESt) (c : List Int) : ESt := { s with ind := s.ind ++ [c] }

theorem RowV.own {w : World} {base : Nat} {E : TypeId} {size : Nat} {v : Value} {n : Nat} {xs : List Value} (h : RowV (inW w) E size v n xs) (hb : ∀ g ∈ rowBlk v, base ≤ g) : w.ownsRow base E size v n xs := by
  cases h with
  | nil => exact ⟨by simp, .inl ⟨rfl, rfl⟩⟩
  | row h => exact ⟨h.len, .inr ⟨_, _, _, rfl, hb _ (by simp [rowBlk]), h.blk, h.le, h.mx, h.sz, h.tk⟩⟩

theorem RowV.of_own {w : World} {base : Nat} {E : TypeId} {size : Nat} {v : Value} {n : Nat} {xs : List Value} (h : w.ownsRow base E size v n xs) : RowV (inW w) E size v n xs ∧ ∀ g ∈ rowBlk v, base ≤ g := by
  obtain ⟨h0, ⟨rfl, rfl⟩ | ⟨g, cap, cur, rfl, h1, h2, h3, h4, h5, h6⟩⟩ := h
  · obtain rfl : xs = [] := by simpa using h0
    exact ⟨.nil, by simp [rowBlk]⟩
  · exact ⟨.row ⟨h2, h3, h4, h5, h6, h0⟩, by simpa [rowBlk] using h1⟩

theorem RowV.keep {w w' : World} {E : TypeId} {size : Nat} {v : Value} {n : Nat} {xs : List Value} {M : List Nat} (h : RowV (inW w) E size v n xs) (hb : Behind w M w') (hd : ∀ g ∈ rowBlk v, g ∉ M) : RowV (inW w') E size v n xs := by
  cases h with
  | nil => exact .nil
  | row h => exact .row (h.of (B' := inW w') (hb.keep h.blk (hd _ (by simp [rowBlk]))))
theorem RowV.lt {w : World} {E : TypeId} {size : Nat} {v : Value} {n : Nat} {xs : List Value} (h : RowV (inW w) E size v n xs) : ∀ g ∈ rowBlk v, g < w.heap.size := by
  cases h with
  | nil => simp [rowBlk]
  | row h =>
    intro g hg
    obtain rfl : g = _ := by simpa [rowBlk] using hg
    exact lt_of_heap (show w.heap[_]? = _ from h.blk)
theorem RowV.slice {B : Blocks} {E : TypeId} {size : Nat} {v : Value} {n : Nat} {xs : List Value} (h : RowV B E size v n xs) : ∃ p c, v = .slice p n c := by
  cases h with
  | nil => exact ⟨_, _, rfl⟩
  | row h => exact ⟨_, _, rfl⟩
theorem RowV.length {B : Blocks} {E : TypeId} {size : Nat} {v : Value} {n : Nat} {xs : List Value} (h : RowV B E size v n xs) : xs.length = n * size := by
  cases h with
  | nil => simp
  | row h => exact h.len

structure OwnI (w : World) (b : Nat) (M : List Nat) (v : Value) (xs : List Int) : Prop where
  row : RowV (inW w) 3 1 v xs.length (ints xs)
  ge : ∀ g ∈ rowBlk v, b ≤ g
  out : ∀ g ∈ rowBlk v, g ∉ M

structure Step (M : List Nat) (w : World) (M' : List Nat) (w' : World) : Prop where
  beh : Behind w M w'
  new : ∀ g ∈ M', g ∈ M ∨ w.heap.size ≤ g

theorem Step.refl (M : List Nat) (w : World) : Step M w M w := ⟨Behind.refl _ _, fun _ h => .inl h⟩
theorem Step.trans {M M' M'' : List Nat} {w w' w'' : World} (h : Step M w M' w') (k : Step M' w' M'' w'') : Step M w M'' w'' :=
  ⟨h.beh.trans k.beh h.new, fun g hg => (k.new g hg).elim (h.new g) (fun e => .inr (Nat.le_trans h.beh.size e))⟩
theorem Step.keep {M M' : List Nat} {w w' : World} (h : Step M w M' w') {g : Nat} {o : Obj} (hg : w.heap[g]? = some o) (hn : g ∉ M) : w'.heap[g]? = some o := h.beh.keep hg hn
theorem Step.out {M M' : List Nat} {w w' : World} (h : Step M w M' w') {g : Nat} (hg : g < w.heap.size) (hn : g ∉ M) : g ∉ M' := fun hm => (h.new g hm).elim hn (fun e => by omega)
theorem Step.below {M M' : List Nat} {w w' : World} (h : Step M w M' w') {b : Nat} (hM : ∀ g ∈ M, b ≤ g) (hb : b ≤ w.heap.size) : Below b w w' := h.beh.below_of hM hb

theorem OwnI.step {M M' : List Nat} {w w' : World} {b : Nat} {v : Value} {xs : List Int} (h : OwnI w b M v xs) (k : Step M w M' w') : OwnI w' b M' v xs :=
  ⟨h.row.keep k.beh h.out, h.ge, fun g hg => k.out (h.row.lt g hg) (h.out g hg)⟩

structure EncP where
  gL : Nat
  gH : Nat
  capL : Nat
  capH : Nat
  vL : Value
  vI : Value
  cl : List Value
  ind : List Value
  curL : Array Value
  curH : Array Value

def EncP.M (e : EncP) (gT gW gI : Nat) : List Nat := gT :: gW :: gI :: e.gL :: e.gH :: (rowBlk e.vL ++ rowBlk e.vI)

structure EncAt (b top gT gW gI : Nat) (e : EncP) (s : ESt) (w : World) : Prop where
  mT : w.heap[gT]? = some (.cells #[.int .i64 (s.N : Nat), e.vL] 43 (0, 0))
  mW : w.heap[gW]? = some (.cells #[.slice (some ⟨e.gL, 0, none⟩) s.low.length e.capL, .slice (some ⟨e.gH, 0, none⟩) s.low.length e.capH] 46 (0, 0))
  mI : w.heap[gI]? = some (.cells #[e.vI] 41 (0, 0))
  rL : RowB (inW w) 34 2 e.gL s.low.length e.capL (rats s.low) e.curL
  rH : RowB (inW w) 34 2 e.gH s.low.length e.capH (rats s.high) e.curH
  rC : RowV (inW w) 30 1 e.vL s.L.length e.cl
  rI : RowV (inW w) 30 1 e.vI s.ind.length e.ind
  lw : s.low.length = s.N + 1
  oC : ∀ (i : Nat) (v : Value) (xs : List Int), e.cl[i]? = some v → s.L[i]? = some xs → OwnI w b (e.M gT gW gI) v xs ∧ ∀ g ∈ rowBlk v, g < top
  oI : ∀ (i : Nat) (v : Value) (xs : List Int), e.ind[i]? = some v → s.ind[i]? = some xs → OwnI w b (e.M gT gW gI) v xs ∧ ∀ g ∈ rowBlk v, g < top
  ge : ∀ g ∈ e.M gT gW gI, b ≤ g
  nd : (e.M gT gW gI).Nodup

theorem EncAt.lt {b top gT gW gI : Nat} {e : EncP} {s : ESt} {w : World} (h : EncAt b top gT gW gI e s w) : ∀ g ∈ e.M gT gW gI, g < w.heap.size := by
  intro g hg
  simp only [EncP.M, List.mem_cons, List.mem_append] at hg
  rcases hg with rfl | rfl | rfl | rfl | rfl | hg | hg
  · exact lt_of_heap h.mT
  · exact lt_of_heap h.mW
  · exact lt_of_heap h.mI
  · exact lt_of_heap (show w.heap[_]? = _ from h.rL.blk)
  · exact lt_of_heap (show w.heap[_]? = _ from h.rH.blk)
  · exact h.rC.lt _ hg
  · exact h.rI.lt _ hg

theorem EncAt.keep {b top gT gW gI : Nat} {e : EncP} {s : ESt} {w w' : World} {U : List Nat} (h : EncAt b top gT gW gI e s w) (hk : Behind w U w') (hU : ∀ g ∈ U, top ≤ g ∧ g ∉ e.M gT gW gI) : EncAt b top gT gW gI e s w' := by
  have hm : ∀ g ∈ e.M gT gW gI, g ∉ U := fun g hg hu => (hU g hu).2 hg
  have mC : ∀ g ∈ rowBlk e.vL, g ∉ U := fun g hg => hm g (by simp [EncP.M, hg])
  have mI : ∀ g ∈ rowBlk e.vI, g ∉ U := fun g hg => hm g (by simp [EncP.M, hg])
  have ho : ∀ v xs, (OwnI w b (e.M gT gW gI) v xs ∧ ∀ g ∈ rowBlk v, g < top) → OwnI w' b (e.M gT gW gI) v xs ∧ ∀ g ∈ rowBlk v, g < top := fun v xs ⟨h1, h2⟩ =>
    ⟨⟨h1.row.keep hk (fun g hg hu => by have := (hU g hu).1; have := h2 g hg; omega), h1.ge, h1.out⟩, h2⟩
  exact ⟨hk.keep h.mT (hm _ (by simp [EncP.M])), hk.keep h.mW (hm _ (by simp [EncP.M])), hk.keep h.mI (hm _ (by simp [EncP.M])), h.rL.of (B' := inW w') (hk.keep h.rL.blk (hm _ (by simp [EncP.M]))), h.rH.of (B' := inW w') (hk.keep h.rH.blk (hm _ (by simp [EncP.M]))), h.rC.keep hk mC, h.rI.keep hk mI, h.lw,
    fun i v xs h1 h2 => ho v xs (h.oC i v xs h1 h2), fun i v xs h1 h2 => ho v xs (h.oI i v xs h1 h2), h.ge, h.nd⟩

theorem EncAt.lift {b top gT gW gI : Nat} {e : EncP} {s : ESt} {w : World} (h : EncAt b top gT gW gI e s w) {top' : Nat} (ht : w.heap.size ≤ top') : EncAt b top' gT gW gI e s w :=
  { h with
    oC := fun i v xs h1 h2 => ⟨(h.oC i v xs h1 h2).1, fun g hg => Nat.lt_of_lt_of_le ((h.oC i v xs h1 h2).1.row.lt g hg) ht⟩
    oI := fun i v xs h1 h2 => ⟨(h.oI i v xs h1 h2).1, fun g hg => Nat.lt_of_lt_of_le ((h.oI i v xs h1 h2).1.row.lt g hg) ht⟩ }

theorem rats_one (q : Nat × Nat) : rats [q] = [.string (nb q.1), .string (nb q.2)] := rfl
theorem rats_append (l m : List (Nat × Nat)) : rats (l ++ m) = rats l ++ rats m := by simp [rats]

theorem next_enc {b top gT gW gI : Nat} {e : EncP} {s : ESt} {w : World} (KO : Gives 45 #[] (ratV (1, 1))) (h : EncAt b top gT gW gI e s w) (hN : s.N ≤ 90000) (hb : b ≤ w.heap.size) (p : Nat × Nat) :
    Calls Try.prog 46 #[ratV p, .pointer (some ⟨gW, 0, none⟩), .pointer (some ⟨gT, 0, none⟩)] w fun r w' => r = .returned (.int .i64 ((s.N : Int) + 1)) ∧
      ∃ e', EncAt b top gT gW gI e' (s.next p) w' ∧ Step (e.M gT gW gI) w (e'.M gT gW gI) w' := by
  have hnd := h.nd
  have hlt := h.lt
  simp only [EncP.M, List.nodup_cons, List.mem_cons, List.mem_append, not_or] at hnd
  obtain ⟨⟨t1, t2, t3, t4, t5, t6⟩, ⟨u1, u2, u3, u4, u5⟩, ⟨i1, i2, i3, i4⟩, ⟨l1, l2, l3⟩, ⟨j1, j2⟩, nd2⟩ := hnd
  have lT := hlt gT (by simp [EncP.M])
  have lW := hlt gW (by simp [EncP.M])
  have lI := hlt gI (by simp [EncP.M])
  have lL := hlt e.gL (by simp [EncP.M])
  have lH := hlt e.gH (by simp [EncP.M])
  have lw := h.lw
  refine (next_law (nb 1) (nb 1) (nb p.1) (nb p.2) KO gW gT e.gL e.gH s.low.length e.capL e.capH s.N e.vL (rats s.low) (rats s.high) e.curL e.curH (by omega) (by omega) w h.mW h.mT h.rL h.rH l1 u2 u3 t3 t4 (Ne.symm t1)).mono ?_
  rintro r w' ⟨rfl, gL', gH', capL', capH', curL', curH', mW', mT', rL', rH', d1, hL, hH, hB⟩
  refine ⟨rfl, { e with gL := gL', gH := gH', capL := capL', capH := capH', curL := curL', curH := curH' }, ?_⟩
  have hBM : Behind w (e.M gT gW gI) w' := hB.mono (by simp [EncP.M])
  have st : Step (e.M gT gW gI) w (EncP.M { e with gL := gL', gH := gH', capL := capL', capH := capH', curL := curL', curH := curH' } gT gW gI) w' := by
    refine ⟨hBM, fun g hg => ?_⟩
    simp only [EncP.M, List.mem_cons, List.mem_append] at hg ⊢
    rcases hg with rfl | rfl | rfl | rfl | rfl | hg | hg
    · simp
    · simp
    · simp
    · rcases hL with rfl | hL
      · simp
      · exact .inr hL
    · rcases hH with rfl | hH
      · simp
      · exact .inr hH
    · simp [hg]
    · simp [hg]
  have nL : ∀ g, g < w.heap.size → e.gL ≠ g → gL' ≠ g := fun g hg hn => by rcases hL with rfl | hL; exact hn; omega
  have nH : ∀ g, g < w.heap.size → e.gH ≠ g → gH' ≠ g := fun g hg hn => by rcases hH with rfl | hH; exact hn; omega
  have oL : ∀ g ∈ rowBlk e.vL, g ∉ [gW, gT, e.gL, e.gH] := fun g hg hm => by
    simp only [List.mem_cons, List.not_mem_nil, or_false] at hm
    rcases hm with rfl | rfl | rfl | rfl
    · exact u4 hg
    · exact t5 hg
    · exact l2 hg
    · exact j1 hg
  have oI : ∀ g ∈ rowBlk e.vI, g ∉ [gW, gT, e.gL, e.gH] := fun g hg hm => by
    simp only [List.mem_cons, List.not_mem_nil, or_false] at hm
    rcases hm with rfl | rfl | rfl | rfl
    · exact u5 hg
    · exact t6 hg
    · exact l3 hg
    · exact j2 hg
  refine ⟨⟨?_, ?_, hB.keep h.mI (by simp; exact ⟨Ne.symm u1, Ne.symm t2, i1, i2⟩), ?_, ?_, h.rC.keep hB oL, h.rI.keep hB oI, by simp [ESt.next, lw], fun i v xs h1 h2 => ⟨(h.oC i v xs h1 h2).1.step st, (h.oC i v xs h1 h2).2⟩, fun i v xs h1 h2 => ⟨(h.oI i v xs h1 h2).1.step st, (h.oI i v xs h1 h2).2⟩, fun g hg => (st.new g hg).elim (h.ge g) (fun e => by omega), ?_⟩, st⟩
  · simpa [ESt.next] using mT'
  · simpa [ESt.next] using mW'
  · simpa [ESt.next, rats_append, rats_one] using rL'
  · simpa [ESt.next, rats_append, rats_one] using rH'
  · simp only [EncP.M, List.nodup_cons, List.mem_cons, List.mem_append, not_or]
    refine ⟨⟨t1, t2, Ne.symm (nL gT lT (Ne.symm t3)), Ne.symm (nH gT lT (Ne.symm t4)), t5, t6⟩, ⟨u1, Ne.symm (nL gW lW (Ne.symm u2)), Ne.symm (nH gW lW (Ne.symm u3)), u4, u5⟩, ⟨Ne.symm (nL gI lI (Ne.symm i1)), Ne.symm (nH gI lI (Ne.symm i2)), i3, i4⟩,
      ⟨d1, fun hm => nL gL' (h.rC.lt _ hm) (fun e => l2 (e ▸ hm)) rfl, fun hm => nL gL' (h.rI.lt _ hm) (fun e => l3 (e ▸ hm)) rfl⟩, ⟨fun hm => nH gH' (h.rC.lt _ hm) (fun e => j1 (e ▸ hm)) rfl, fun hm => nH gH' (h.rI.lt _ hm) (fun e => j2 (e ▸ hm)) rfl⟩, nd2⟩

theorem get_append_one {α : Type} {l : List α} {x y : α} {i : Nat} (h : (l ++ [x])[i]? = some y) : l[i]? = some y ∨ (i = l.length ∧ y = x) := by
  rcases Nat.lt_trichotomy i l.length with hi | hi | hi
  · rw [List.getElem?_append_left hi] at h; exact .inl h
  · subst hi; simp at h; exact .inr ⟨rfl, h.symm⟩
  · rw [List.getElem?_eq_none (by simp; omega)] at h; cases h

theorem add_enc {b top gT gW gI : Nat} {e : EncP} {s : ESt} {w : World} {v : Value} {c : List Int} (h : EncAt b top gT gW gI e s w) (hc : OwnI w b (e.M gT gW gI) v c) (ht : ∀ g ∈ rowBlk v, g < top) (hN : s.L.length ≤ 900000) (hb : b ≤ w.heap.size) :
    Calls Try.prog 47 #[v, .pointer (some ⟨gT, 0, none⟩)] w fun r w' => r = .returned (.tuple #[]) ∧
      ∃ e', EncAt b top gT gW gI e' (s.add c) w' ∧ Step (e.M gT gW gI) w (e'.M gT gW gI) w' := by
  have hnd := h.nd
  have hlt := h.lt
  simp only [EncP.M, List.nodup_cons, List.mem_cons, List.mem_append, not_or] at hnd
  obtain ⟨⟨t1, t2, t3, t4, t5, t6⟩, ⟨u1, u2, u3, u4, u5⟩, ⟨i1, i2, i3, i4⟩, ⟨l1, l2, l3⟩, ⟨j1, j2⟩, nd2⟩ := hnd
  have lT := hlt gT (by simp [EncP.M])
  have lW := hlt gW (by simp [EncP.M])
  have lI := hlt gI (by simp [EncP.M])
  have lL := hlt e.gL (by simp [EncP.M])
  have lH := hlt e.gH (by simp [EncP.M])
  obtain ⟨p, cc, rfl⟩ := hc.row.slice
  refine (add_law gT s.L.length s.N e.vL p c.length cc e.cl (by omega) w h.mT h.rC t5).mono ?_
  rintro r w' ⟨rfl, vL', mT', rL', hL, hB⟩
  refine ⟨rfl, { e with vL := vL', cl := e.cl ++ [.slice p c.length cc] }, ?_⟩
  have hBM : Behind w (e.M gT gW gI) w' := hB.mono (by simp only [EncP.M, List.mem_cons, List.mem_append]; rintro k (rfl | hk); simp; simp [hk])
  have st : Step (e.M gT gW gI) w (EncP.M { e with vL := vL', cl := e.cl ++ [.slice p c.length cc] } gT gW gI) w' := by
    refine ⟨hBM, fun g hg => ?_⟩
    simp only [EncP.M, List.mem_cons, List.mem_append] at hg ⊢
    rcases hg with rfl | rfl | rfl | rfl | rfl | hg | hg
    · simp
    · simp
    · simp
    · simp
    · simp
    · rcases hL g hg with hg | hg
      · simp [hg]
      · exact .inr hg
    · simp [hg]
  have nL : ∀ g, g < w.heap.size → g ∉ rowBlk e.vL → g ∉ rowBlk vL' := fun g hg hn hm => by rcases hL g hm with hm | hm; exact hn hm; omega
  have oO : ∀ g, g ≠ gT → g ∉ rowBlk e.vL → g ∉ gT :: rowBlk e.vL := fun g h1 h2 => by simp only [List.mem_cons, not_or]; exact ⟨h1, h2⟩
  have ndL : (rowBlk vL').Nodup := by
    have := rL'
    cases vL' <;> simp [rowBlk]
    split <;> simp
  have ndI : (rowBlk e.vI).Nodup := (List.nodup_append.1 nd2).2.1
  refine ⟨⟨by simpa [ESt.add] using mT', hB.keep h.mW (oO _ (Ne.symm t1) u4), hB.keep h.mI (oO _ (Ne.symm t2) i3), h.rL.of (B' := inW w') (hB.keep h.rL.blk (oO _ (Ne.symm t3) l2)), h.rH.of (B' := inW w') (hB.keep h.rH.blk (oO _ (Ne.symm t4) j1)),
    by simpa [ESt.add] using rL', h.rI.keep hB (fun g hg => oO _ (fun e => t6 (e ▸ hg)) (fun hm => (List.nodup_append.1 nd2).2.2 g hm g hg rfl)), h.lw, fun i v xs h1 h2 => ?_, fun i v xs h1 h2 => ⟨(h.oI i v xs h1 h2).1.step st, (h.oI i v xs h1 h2).2⟩, fun g hg => (st.new g hg).elim (h.ge g) (fun e => by omega), ?_⟩, st⟩
  · have hlen : e.cl.length = s.L.length := by simpa using h.rC.length
    rcases get_append_one h1 with k1 | ⟨e1, rfl⟩
    · rcases get_append_one h2 with k2 | ⟨e2, rfl⟩
      · exact ⟨(h.oC i v xs k1 k2).1.step st, (h.oC i v xs k1 k2).2⟩
      · rw [e2, ← hlen, List.getElem?_eq_none (Nat.le_refl _)] at k1; cases k1
    · rcases get_append_one h2 with k2 | ⟨_, rfl⟩
      · rw [e1, hlen, List.getElem?_eq_none (Nat.le_refl _)] at k2; cases k2
      · exact ⟨hc.step st, ht⟩
  · simp only [EncP.M, List.nodup_cons, List.mem_cons, List.mem_append, not_or]
    refine ⟨⟨t1, t2, t3, t4, nL gT lT t5, t6⟩, ⟨u1, u2, u3, nL gW lW u4, u5⟩, ⟨i1, i2, nL gI lI i3, i4⟩, ⟨l1, nL e.gL lL l2, l3⟩, ⟨nL e.gH lH j1, j2⟩, ?_⟩
    refine List.nodup_append.2 ⟨ndL, ndI, fun x hx y hy hxy => ?_⟩
    subst hxy
    exact nL x (h.rI.lt x hy) (fun hm => (List.nodup_append.1 nd2).2.2 x hm x hy rfl) hx
end Go.Proofs.Ytbacloneddnaeaa
