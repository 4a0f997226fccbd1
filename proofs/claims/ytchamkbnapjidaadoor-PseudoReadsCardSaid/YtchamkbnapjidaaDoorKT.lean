/- The reader: terms. -/
import Derived.Test.YtchamkbnapjidaaDoorKN
import Derived.Test.YtchamkbnapjidaaDoorKH
import Derived.RegionDies
namespace Go.Proofs.YtchamkbnapjidaaDoor
open Go.RowKit


theorem num_wrote {br : Nat} {signed : Bool} {l r : List UInt8} {n : Int} (h : numP signed l = some (n, r)) (hl : l.length ≤ 1000000) (x : World) (hx : Rd br l x) :
    Calls Tryd.prog 39 #[.pointer (some ⟨br, 0, none⟩), .bool signed] x fun e w' => e = .returned (.int .i64 n) ∧ Wrote br (.cells #[.string ⟨r.toArray⟩] 68 (0, 0)) x w' := by
  refine (gNum br signed l x hx hl).mono ?_
  intro e w' hp
  rcases hp with ⟨n', r', h1, h2, h3, h4⟩ | ⟨h1, _⟩
  · rw [h] at h1
    cases h1
    exact ⟨h2, wrote_of_behind h4 h3⟩
  · rw [h] at h1; cases h1
theorem num_fails {br : Nat} {signed : Bool} {l : List UInt8} (h : numP signed l = none) (hl : l.length ≤ 1000000) (x : World) (hx : Rd br l x) :
    Calls Tryd.prog 39 #[.pointer (some ⟨br, 0, none⟩), .bool signed] x fun e w' => e = wrongE ∧ Behind x [br] w' := by
  refine (gNum br signed l x hx hl).mono ?_
  intro e w' hp
  rcases hp with ⟨n', r', h1, _⟩ | ⟨_, h2, h3⟩
  · rw [h] at h1; cases h1
  · exact ⟨h2, h3⟩
theorem num_len {signed : Bool} {l r : List UInt8} {n : Int} (h : numP signed l = some (n, r)) : r.length ≤ l.length := by
  obtain ⟨e, _⟩ := itoa_of_num h
  rw [e, List.length_append]; omega
theorem chop_len (l p : List UInt8) : (chop l p).length ≤ l.length := by
  unfold chop; split
  · rw [List.length_drop]; omega
  · omega

theorem term_none1 {fst : Bool} {l : List UInt8} (h : numP fst l = none) : termP fst l = none := by unfold termP; rw [h]
theorem term_none2 {fst : Bool} {l l1 : List UInt8} {c : Int} (h : numP fst l = some (c, l1)) (h2 : wayP l1 = none) : termP fst l = none := by
  unfold termP; rw [h]; simp only []; rw [h2]
theorem term_none3 {fst : Bool} {l l1 l2 : List UInt8} {c wy : Int} (h : numP fst l = some (c, l1)) (h2 : wayP l1 = some (wy, l2)) (h3 : numP false l2 = none) : termP fst l = none := by
  unfold termP; rw [h]; simp only []; rw [h2]; simp only []; rw [h3]
theorem term_some {fst : Bool} {l l1 l2 l3 : List UInt8} {c wy v : Int} (h : numP fst l = some (c, l1)) (h2 : wayP l1 = some (wy, l2)) (h3 : numP false l2 = some (v, l3)) : termP fst l = some (c, wy * v, l3) := by
  unfold termP; rw [h]; simp only []; rw [h2]; simp only []; rw [h3]
theorem terms_none {k : Nat} {fst : Bool} {sg : Int} {l : List UInt8} (h : termP fst l = none) : termsP k fst sg l = none := by
  cases k with
  | zero => rfl
  | succ k => unfold termsP; rw [h]
theorem behind_drew {w x : World} {Wr : List Nat} (h : Behind w Wr x) : Behind w Wr x.drew := ⟨h.os, h.tape, h.output, h.size, h.block⟩
theorem Two.app2 {w w' : World} {b : Nat} {U : List Nat} {v1 v2 v1' : Value} {X Y : List Int} {y : Int} (h : Two w b v1 X v2 Y) (hb : b ≤ w.heap.size) (hB : Behind w U w') (hU : ∀ g ∈ U, g ∈ rowBlk v1 ∨ g < b)
    (hr : RowV (inW w') 3 1 v1' (X.length + 1) (ints X ++ [.int .i64 y])) (hn : ∀ g ∈ rowBlk v1', g ∈ rowBlk v1 ∨ w.heap.size ≤ g) : Two w' b v1' (X ++ [y]) v2 Y :=
  ⟨h.o1.grown hb (by simp) hr hn, ⟨h.o2.row.keep hB (fun g hg hm => (hU g hm).elim (fun e => h.dis g e hg) (fun e => by have := h.o2.ge g hg; omega)), h.o2.ge, by simp⟩,
    fun g hg hm => (hn g hg).elim (fun e => h.dis g e hm) (fun e => by have := h.o2.row.lt g hm; omega)⟩

theorem terms_last {fst : Bool} {sg c v : Int} {l l3 : List UInt8} (h : termP fst l = some (c, v, l3)) : termsP (0 + 1) fst sg l = none := by
  unfold termsP; rw [h]; rfl
theorem terms_plus {fst : Bool} {sg c v : Int} {l l3 : List UInt8} {k : Nat} (h : termP fst l = some (c, v, l3)) (hk : k ≠ 0) (hp : Lib.hasPrefix l3 [32, 43, 32] = true) : termsP (k + 1) fst sg l = (termsP k false 1 (l3.drop 3)).map fun x => ((sg * c, v) :: x.1, x.2) := by
  rw [termsP, h]; simp only []; rw [if_neg hk, if_pos hp]
theorem terms_end {fst : Bool} {sg c v : Int} {l l3 : List UInt8} {k : Nat} (h : termP fst l = some (c, v, l3)) (hk : k ≠ 0) (hp : Lib.hasPrefix l3 [32, 43, 32] = false) (hq : Lib.hasPrefix l3 [32, 45, 32] = false) : termsP (k + 1) fst sg l = some ([(sg * c, v)], l3) := by
  rw [termsP, h]; simp only []; rw [if_neg hk, hp, hq]; rfl
theorem terms_minus {fst : Bool} {sg c v : Int} {l l3 : List UInt8} {k : Nat} (h : termP fst l = some (c, v, l3)) (hk : k ≠ 0) (hp : Lib.hasPrefix l3 [32, 43, 32] = false) (hq : Lib.hasPrefix l3 [32, 45, 32] = true) : termsP (k + 1) fst sg l = if Lib.hasPrefix (l3.drop 3) [48] then none else (termsP k false (-1) (l3.drop 3)).map fun x => ((sg * c, v) :: x.1, x.2) := by
  rw [termsP, h]; simp only []; rw [if_neg hk, hp, if_pos hq]; rfl

/-- What terms leaves. -/
def TermsPost (br bs : Nat) (l : List UInt8) (w : World) (e : Ending) (w' : World) : Prop :=
  (∃ ts r vC vL, termsP 65 true 1 l = some (ts, r) ∧ e = .returned (.tuple #[]) ∧ Rd br r w' ∧ r.length ≤ l.length ∧ w'.heap[bs]? = some (.cells #[vC, vL, .int .i64 0] 24 (0, 0)) ∧
    Two w' w.heap.size vC (ts.map (·.1)) vL (ts.map (·.2)) ∧ Behind w [br, bs] w') ∨
  (termsP 65 true 1 l = none ∧ e = wrongE ∧ Behind w [br, bs] w' ∧ ∃ a b c, w'.heap[bs]? = some (.cells #[a, b, c] 24 (0, 0)))

/-- The loop's state: what is still to be read, and what it will be. -/
structure TInv (br bs : Nat) (l : List UInt8) (w : World) (k : Nat) (sg : Int) (C L : List Int) (l' : List UInt8) (vC vL : Value) (wr : World) : Prop where
  rd : Rd br l' wr
  sm : wr.heap[bs]? = some (.cells #[vC, vL, .int .i64 0] 24 (0, 0))
  two : Two wr w.heap.size vC C vL L
  be : Behind w [br, bs] wr
  len : C.length = L.length
  left : C.length + k = 65
  pos : 1 ≤ k
  short : l'.length ≤ l.length
  eq : termsP 65 true 1 l = (termsP k (decide (C.length = 0)) sg l').map fun x => (C.zip L ++ x.1, x.2)

set_option maxHeartbeats 1600000 in
set_option maxRecDepth 100000 in
theorem gTerms (br bs : Nat) (l : List UInt8) (w : World) (hR : Rd br l w) (hS : w.heap[bs]? = some (.cells #[.slice none 0 0, .slice none 0 0, .int .i64 0] 24 (0, 0))) (hne : br ≠ bs) (hl : l.length ≤ 1000000) :
    Calls Tryd.prog 38 #[.pointer (some ⟨br, 0, none⟩), .pointer (some ⟨bs, 0, none⟩)] w (TermsPost br bs l w) := by
  obtain ⟨i0, ii, iz0, iz1, iz2⟩ := info_parts Tryd.infoInt
  have II := Lib.hid ii
  have IZ0 := Lib.hid iz0
  have IZ1 := Lib.hid iz1
  have IZ2 := Lib.hid iz2
  have HS := Lib.hid hS
  have HR := Lib.hid hR
  have HNE := Lib.hid hne
  have hbr : br < w.heap.size := lt_of_heap hR
  have hbs : bs < w.heap.size := lt_of_heap hS
  have HL := Lib.hid hl
  obtain ⟨Post, hPost⟩ : ∃ P : Ending → World → Prop, P = TermsPost br bs l w := ⟨_, rfl⟩
  rw [← hPost]
  have HOK := Lib.hid (fun (ts : List (Int × Int)) (r : List UInt8) (vC vL : Value) (w' : World) (h1 : termsP 65 true 1 l = some (ts, r)) (h2 : Rd br r w') (h3 : r.length ≤ l.length) (h4 : w'.heap[bs]? = some (.cells #[vC, vL, .int .i64 0] 24 (0, 0))) (h5 : Two w' w.heap.size vC (ts.map (·.1)) vL (ts.map (·.2))) (h6 : Behind w [br, bs] w') => (show Post (.returned (.tuple #[])) w' by rw [hPost]; exact .inl ⟨ts, r, vC, vL, h1, rfl, h2, h3, h4, h5, h6⟩))
  have HNO := Lib.hid (fun (w' : World) (h1 : termsP 65 true 1 l = none) (h6 : Behind w [br, bs] w') (h7 : ∃ a b c, w'.heap[bs]? = some (.cells #[a, b, c] 24 (0, 0))) => (show Post wrongE w' by rw [hPost]; exact .inr ⟨h1, rfl, h6, h7⟩))
  clear hPost hR hS hne hl ii iz0 iz1 iz2
  go_enter Tryd.func38, Tryd.ntmps38
  go_wp2_with fail
  go_loopg [4] 65 (fun k u wr => ∃ sg C L l' vC vL, u = .int .i64 sg ∧ (sg = 1 ∨ sg = -1) ∧ Hid (TInv br bs l w k sg C L l' vC vL wr))
  case atStart =>
    refine ⟨1, [], [], l, .slice none 0 0, .slice none 0 0, rfl, .inl rfl, HR.out, HS.out, ⟨⟨.nil, by simp [rowBlk], by simp [rowBlk]⟩, ⟨.nil, by simp [rowBlk], by simp [rowBlk]⟩, by simp [rowBlk]⟩, Behind.refl _ _, rfl, rfl, by omega, Nat.le_refl _, ?_⟩
    have he : ∀ o : Option (List (Int × Int) × List UInt8), o = o.map fun x => ([] ++ x.1, x.2) := by rintro (_ | ⟨a, b⟩) <;> rfl
    exact he _
  case round =>
    obtain ⟨sg, C, L, l', vC, vL, rfl, hsg, HI⟩ := hrel
    have hl' : l'.length ≤ 1000000 := Nat.le_trans HI.out.short HL.out
    have hlen : L.length ≤ C.length := by have := HI.out.len; omega
    have hleft := HI.out.left
    have hpos := HI.out.pos
    obtain ⟨pC, cC, hvC⟩ := HI.out.two.o1.row.slice
    obtain ⟨pL, cL, hvL⟩ := HI.out.two.o2.row.slice
    subst hvC
    subst hvL
    have HRd := Lib.hid HI.out.rd
    have HSm := Lib.hid HI.out.sm
    have HTw := Lib.hid HI.out.two
    have HBe := Lib.hid HI.out.be
    have HE := Lib.hid HI.out.eq
    have HLen := Lib.hid HI.out.len
    have HSh := Lib.hid HI.out.short
    have hbw : w.heap.size ≤ wr.heap.size := HBe.out.size
    have hz : ((C.length : Int) == 0) = decide (C.length = 0) := by
      by_cases h : C.length = 0
      · simp [h]
      · rw [decide_eq_false h]; exact beq_no (by omega)
    have hC65 : C.length ≤ 64 := by omega
    have hL65 : L.length ≤ 64 := by omega
    clear HI
    generalize decide (C.length = 0) = fst at *
    cases hn : numP fst l' with
    | none =>
      have HT := Lib.hid (show termsP 65 true 1 l = none by rw [HE.out, terms_none (term_none1 hn)]; rfl)
      have c0 := blk_cell HSm.out 0 rfl
      go_wp2_with fail
      go_region_dies
      all_goals
        refine (num_fails hn hl' wr.drew (show Rd br l' wr.drew from HRd.out)).mono ?_
        rintro e w1 ⟨rfl, hB⟩
        exact ⟨rfl, HNO.out _ HT.out ((behind_drew HBe.out).trans hB (by simp)) ⟨_, _, _, hB.keep (show wr.drew.heap[bs]? = _ from HSm.out) (show bs ∉ [br] from fun h => HNE.out (List.mem_singleton.1 h).symm)⟩⟩
    | some cl =>
    obtain ⟨c, l1⟩ := cl
    have hl1 : l1.length ≤ l'.length := num_len hn
    have hcb := numP_bound hn
    have hw64 : wrap64 (sg * c) = sg * c := by rcases hsg with rfl | rfl <;> (unfold wrap64; omega)
    have HN1 := Lib.hid hn
    have KN := Lib.hid (fun x hx => num_wrote (br := br) hn hl' x hx)
    clear hn
    go_upto_region 1 with fail
    go_cut [] (fun wx => ∃ pC2 cC2, Hid (Rd br l1 wx) ∧ Hid (wx.heap[bs]? = some (.cells #[.slice pC2 (C.length + 1) cC2, .slice pL L.length cL, .int .i64 0] 24 (0, 0))) ∧ Hid (Two wx w.heap.size (.slice pC2 (C.length + 1) cC2) (C ++ [sg * c]) (.slice pL L.length cL) L) ∧ Hid (Behind w [br, bs] wx))
    case first =>
      obtain ⟨kF, hkF⟩ : ∃ kF, kF = kA (.slice pC C.length cC) C.length 1 := ⟨_, rfl⟩
      have hkF' : kF = 2 ∨ kF = 5 := by rw [hkF]; exact kA_or _ _ _
      have HKF := Lib.hid hkF
      clear hkF
      have hge := HTw.out.o1.ge
      have hnR : br ∉ rowBlk (.slice pC C.length cC) := fun h => by have := hge br h; omega
      have hnS : bs ∉ br :: rowBlk (.slice pC C.length cC) := fun h => by
        rcases List.mem_cons.1 h with h | h
        · exact HNE.out h.symm
        · have := hge bs h; omega
      have HnR := Lib.hid hnR
      have HnS := Lib.hid hnS
      have HGE := Lib.hid hge
      clear hnR hnS hge
      refine wp_game_tail 19 [0, 0, 0, 0, 0, 0, 0, 0, 0, 0, 0, 0, 0, 2, 0, 3, kF, 0, 0, 0] (br :: rowBlk (.slice pC C.length cC)) ((rowB wr (.slice pC C.length cC)).put br (.cells #[.string ⟨l'.toArray⟩] 68 (0, 0))) (Fin.put (fin_rowB _ _) _ _) (has_put (has_rowB _ _) HRd.out) (by kernel_rfl) (by rcases hkF' with h | h <;> rw [h] <;> kernel_rfl) ?_
      simp only [List.take_succ_cons, List.take_zero]
      refine lex_quietE 13 (by kernel_rfl) (by rfl) ?_
      apply Exists.intro
      refine ⟨fun z hz1 => ?_, ?_⟩
      · have g0 := blk_cellp (hz1.keep HSm.out HnS.out) 0 rfl
        clear hz1
        simp only [List.take_succ_cons, List.take_zero]
        unfold Cx
        repeat (go_big_quiet_step (fail))
        exact wpQuiet_nil rfl
      simp only [List.drop_succ_cons, List.drop_zero]
      refine lex_callw (v := .int .i64 c) br (.cells #[.string ⟨l1.toArray⟩] 68 (0, 0)) (Blocks.put_same _ _ _) (by rfl) (fun x => by go_simp) (Or.inl (by simp)) (fun x hx => KN.out x hx) ?_
      unfold setSlot
      go_big_quiet_step (fail)
      refine wpQuiet_nil ?_
      refine lex_quietE 1 (by kernel_rfl) (by rfl) ?_
      apply Exists.intro
      refine ⟨fun z hz1 => ?_, ?_⟩
      · clear hz1
        simp only [List.take_succ_cons, List.take_zero]
        unfold Cx
        repeat (go_big_quiet_step (fail))
        exact wpQuiet_nil rfl
      simp only [List.drop_succ_cons, List.drop_zero]
      refine lex_slice 1 (.cells #[.int .i64 (sg * c)] 3) (by rfl) (fun x => by go_simp) (fun g21 q21 hn21 => ?_)
      unfold setSlot
      go_big_quiet_step (fail)
      refine wpQuiet_nil ?_
      have n21r : g21 ≠ br := by omega
      have n21v : g21 ∉ rowBlk (.slice pC C.length cC) := fun h => by have := HTw.out.o1.row.lt g21 h; omega
      clear hn21
      refine lex_append_v (.tmp 10) (.tmp 21) 22 3 i0 _ 1 8 Tryd.underlying22 II.out IZ0.out IZ1.out IZ2.out (by rfl) (.slice pC C.length cC) C.length (ints C) ((((rowV_rowB HTw.out.o1.row).of_put HnR.out).of_put HnR.out).of_put n21v) (by rfl) g21 1 1 [.int .i64 (sg * c)] 3 (by rfl) (Blocks.put_same _ _ _) rfl (by simp [Value.oneCell']) (by omega) (by unfold maxLen; omega) (by omega) (fun g hg => .inl (by simp [hg])) HKF.out (fun g22 c22 ob22 hr22 hg22 => ?_)
      unfold setSlot
      go_big_quiet_step (fail)
      refine wpQuiet_nil ?_
      have n22r : br ≠ g22 := fun e => by
        rcases hg22 with h | h
        · exact HnR.out (e ▸ h)
        · omega
      have hn22 : ∀ g ∈ rowBlk (.slice (some ⟨g22, 0, none⟩) (C.length + 1) c22), g ∈ rowBlk (.slice pC C.length cC) ∨ wr.heap.size ≤ g := fun g hg => by
        have : g = g22 := by simpa [rowBlk] using hg
        subst this
        exact hg22.imp id (fun h => h.1)
      clear hg22
      refine lex_quietE 2 (by kernel_rfl) (by rfl) ?_
      apply Exists.intro
      refine ⟨fun z hz1 => ?_, ?_⟩
      · clear hz1
        simp only [List.take_succ_cons, List.take_zero]
        unfold Cx
        repeat (go_big_quiet_step (fail))
        exact wpQuiet_nil rfl
      simp only [List.drop_succ_cons, List.drop_zero]
      refine lex_nil ?_
      intro x2 hx2 hH2
      have R2 := Lib.hid (show Rd br l1 x2 from hH2 br _ ((Blocks.put_other _ _ n22r).trans ((Blocks.put_other _ _ (Ne.symm n21r)).trans (Blocks.put_same _ _ _))))
      have hT2 := Two.app2 HTw.out hbw hx2 (fun g hg => (List.mem_cons.1 hg).elim (fun e => .inr (by omega)) (fun e => .inl e)) (hr22.of_has hH2) hn22
      have T2 := Lib.hid hT2
      have hS2 := hx2.keep HSm.out HnS.out
      have S2 := Lib.hid hS2
      have B2 := Lib.hid (HBe.out.trans hx2 (fun g hg => (List.mem_cons.1 hg).elim (fun e => .inl (by simp [e])) (fun e => .inr (HGE.out g e))))
      have c0 := blk_cell hS2 0 rfl
      have f0 := blk_free hS2 0
      clear hx2 hH2 hT2 hS2 hn22 hr22
      go_wp2_with fail
      go_meet
      case rel =>
        refine ⟨some ⟨g22, 0, none⟩, c22, ?_, heap_setCell_same _ bs 0 _ _ _ S2.out, T2.out.keepU (behind_set (Wr := [bs]) (by simp)) (fun g hg => by simp at hg; omega), B2.out.chain (behind_set (by simp))⟩
        exact (heap_setCell_other _ _ br _ (fun e => HNE.out e)).trans R2.out
    case rest =>
    obtain ⟨pC2, cC2, R1, S1, T1, B1⟩ := hcut
    clear HRd HSm HTw HBe KN hz
    obtain ⟨x1, hx1⟩ : ∃ x1, x1 = wc := ⟨_, rfl⟩
    subst hx1
    have hl1' : l1.length ≤ 1000000 := by omega
    -- the way
    go_upto_region 3 with fail
    go_cut [26] (fun t26 wx => t26 = .bool (Lib.hasPrefix l1 [32, 126, 120]) ∧ Hid (Rd br (chop l1 [32, 126, 120]) wx) ∧ Hid (Behind x1 [br] wx))
    case first =>
      go_wp2_with fail
      refine (gHasR br l1 [32, 126, 120] x1 R1.out).mono ?_
      rintro e w1 ⟨rfl, h1, h2⟩
      have H1 := Lib.hid h1
      have H2 := Lib.hid h2
      clear h1 h2
      go_wp2_with fail
      go_meet
      case rel => exact ⟨rfl, H1.out, H2.out⟩
    case rest =>
    obtain ⟨rfl, R2, B2⟩ := hcut
    obtain ⟨x2, hx2⟩ : ∃ x2, x2 = wc := ⟨_, rfl⟩
    subst hx2
    go_upto_if 26 with fail
    go_cut [5] (fun t5 wx => ∃ wy l2, t5 = .int .i64 wy ∧ (wy = 1 ∨ wy = -1) ∧ l2.length ≤ l1.length ∧ Hid (wayP l1 = some (wy, l2)) ∧ Hid (Rd br l2 wx) ∧ Hid (Behind x1 [br] wx))
    case first =>
      cases h1 : Lib.hasPrefix l1 [32, 126, 120] with
      | true =>
        have HW := Lib.hid (show wayP l1 = some (-1, l1.drop 3) by unfold wayP; rw [if_pos h1])
        have HC := Lib.hid (show chop l1 [32, 126, 120] = l1.drop 3 by unfold chop; rw [if_pos h1]; rfl)
        clear h1
        go_wp2_with fail
        go_meet
        case rel => exact ⟨-1, l1.drop 3, rfl, .inr rfl, by rw [List.length_drop]; omega, HW.out, by rw [← HC.out]; exact R2.out, B2.out⟩
      | false =>
        have hC := (show chop l1 [32, 126, 120] = l1 by unfold chop; rw [h1]; rfl)
        rw [hC] at R2
        clear hC
        cases h2 : Lib.hasPrefix l1 [32, 120] with
        | true =>
          have HW := Lib.hid (show wayP l1 = some (1, l1.drop 2) by unfold wayP; rw [h1, if_pos h2]; rfl)
          have KT := gTake_yes br l1 [32, 120] x2 R2.out h2
          clear h1 h2
          go_wp2_with fail
          refine KT.mono ?_
          rintro e w1 ⟨rfl, h3, h4⟩
          have H3 := Lib.hid h3
          have H4 := Lib.hid (B2.out.chain h4)
          clear h3 h4 KT
          go_wp2_with fail
          go_meet
          case rel => exact ⟨1, l1.drop 2, rfl, .inl rfl, by rw [List.length_drop]; omega, HW.out, H3.out, H4.out⟩
        | false =>
          have hW := (show wayP l1 = none by unfold wayP; rw [h1, h2]; rfl)
          have HT := Lib.hid (show termsP 65 true 1 l = none by rw [HE.out, terms_none (term_none2 HN1.out hW)]; rfl)
          have KT := gTake_no br l1 [32, 120] x2 R2.out h2
          clear h1 h2 hW
          go_wp2_with fail
          refine KT.mono ?_
          rintro e w1 ⟨rfl, h4⟩
          exact ⟨rfl, HNO.out _ HT.out ((B1.out.trans B2.out (by simp)).trans h4 (by simp)) ⟨_, _, _, h4.keep (B2.out.keep S1.out (show bs ∉ [br] from fun h => HNE.out (List.mem_singleton.1 h).symm)) (show bs ∉ [br] from fun h => HNE.out (List.mem_singleton.1 h).symm)⟩⟩
    case rest =>
    obtain ⟨wy, l2, rfl, hwy, hl2, HW, R3, B3⟩ := hcut
    clear R2 B2
    obtain ⟨x3, hx3⟩ : ∃ x3, x3 = wc := ⟨_, rfl⟩
    subst hx3
    have hl2' : l2.length ≤ 1000000 := by omega
    have S3 := Lib.hid (B3.out.keep S1.out (show bs ∉ [br] from fun h => HNE.out (List.mem_singleton.1 h).symm))
    have T3 := Lib.hid ((T1.out.keepU B3.out (fun g hg => by simp at hg; omega)).sym)
    have BE3 := Lib.hid (B1.out.trans B3.out (by simp))
    have hbw3 : w.heap.size ≤ x3.heap.size := BE3.out.size
    clear S1 T1 B1 R1 B3
    cases hm : numP false l2 with
    | none =>
      have HT := Lib.hid (show termsP 65 true 1 l = none by rw [HE.out, terms_none (term_none3 HN1.out HW.out hm)]; rfl)
      have c0 := blk_cell S3.out 1 rfl
      go_wp2_with fail
      go_region_dies
      all_goals
        refine (num_fails hm hl2' x3.drew (show Rd br l2 x3.drew from R3.out)).mono ?_
        rintro e w1 ⟨rfl, hB⟩
        exact ⟨rfl, HNO.out _ HT.out ((behind_drew BE3.out).trans hB (by simp)) ⟨_, _, _, hB.keep (show x3.drew.heap[bs]? = _ from S3.out) (show bs ∉ [br] from fun h => HNE.out (List.mem_singleton.1 h).symm)⟩⟩
    | some vl =>
    obtain ⟨v, l3⟩ := vl
    have hl3 : l3.length ≤ l2.length := num_len hm
    have hvb := numP_bound hm
    have hw64b : wrap64 (wy * v) = wy * v := by rcases hwy with rfl | rfl <;> (unfold wrap64; omega)
    have HTm := Lib.hid (term_some HN1.out HW.out hm)
    have KN := Lib.hid (fun x hx => num_wrote (br := br) hm hl2' x hx)
    clear hm HN1 HW
    go_upto_region 6 with fail
    go_cut [] (fun wx => ∃ pL2 cL2, Hid (Rd br l3 wx) ∧ Hid (wx.heap[bs]? = some (.cells #[.slice pC2 (C.length + 1) cC2, .slice pL2 (L.length + 1) cL2, .int .i64 0] 24 (0, 0))) ∧ Hid (Two wx w.heap.size (.slice pL2 (L.length + 1) cL2) (L ++ [wy * v]) (.slice pC2 (C.length + 1) cC2) (C ++ [sg * c])) ∧ Hid (Behind w [br, bs] wx))
    case first =>
      obtain ⟨kF, hkF⟩ : ∃ kF, kF = kA (.slice pL L.length cL) L.length 1 := ⟨_, rfl⟩
      have hkF' : kF = 2 ∨ kF = 5 := by rw [hkF]; exact kA_or _ _ _
      have HKF := Lib.hid hkF
      clear hkF
      have hge := T3.out.o1.ge
      have hnR : br ∉ rowBlk (.slice pL L.length cL) := fun h => by have := hge br h; omega
      have hnS : bs ∉ br :: rowBlk (.slice pL L.length cL) := fun h => by
        rcases List.mem_cons.1 h with h | h
        · exact HNE.out h.symm
        · have := hge bs h; omega
      have HnR := Lib.hid hnR
      have HnS := Lib.hid hnS
      have HGE := Lib.hid hge
      clear hnR hnS hge
      refine wp_game_tail 13 [0, 0, 0, 0, 0, 0, 0, 2, 0, 3, kF, 0, 0, 0] (br :: rowBlk (.slice pL L.length cL)) ((rowB x3 (.slice pL L.length cL)).put br (.cells #[.string ⟨l2.toArray⟩] 68 (0, 0))) (Fin.put (fin_rowB _ _) _ _) (has_put (has_rowB _ _) R3.out) (by kernel_rfl) (by rcases hkF' with h | h <;> rw [h] <;> kernel_rfl) ?_
      simp only [List.take_succ_cons, List.take_zero]
      refine lex_quietE 7 (by kernel_rfl) (by rfl) ?_
      apply Exists.intro
      refine ⟨fun z hz1 => ?_, ?_⟩
      · have g0 := blk_cellp (hz1.keep S3.out HnS.out) 1 rfl
        clear hz1
        simp only [List.take_succ_cons, List.take_zero]
        unfold Cx
        repeat (go_big_quiet_step (fail))
        exact wpQuiet_nil rfl
      simp only [List.drop_succ_cons, List.drop_zero]
      refine lex_callw (v := .int .i64 v) br (.cells #[.string ⟨l3.toArray⟩] 68 (0, 0)) (Blocks.put_same _ _ _) (by rfl) (fun x => by go_simp) (Or.inl (by simp)) (fun x hx => KN.out x hx) ?_
      unfold setSlot
      go_big_quiet_step (fail)
      refine wpQuiet_nil ?_
      refine lex_quietE 1 (by kernel_rfl) (by rfl) ?_
      apply Exists.intro
      refine ⟨fun z hz1 => ?_, ?_⟩
      · clear hz1
        simp only [List.take_succ_cons, List.take_zero]
        unfold Cx
        repeat (go_big_quiet_step (fail))
        exact wpQuiet_nil rfl
      simp only [List.drop_succ_cons, List.drop_zero]
      refine lex_slice 1 (.cells #[.int .i64 (wy * v)] 3) (by rfl) (fun x => by go_simp) (fun g21 q21 hn21 => ?_)
      unfold setSlot
      go_big_quiet_step (fail)
      refine wpQuiet_nil ?_
      have n21r : g21 ≠ br := by omega
      have n21v : g21 ∉ rowBlk (.slice pL L.length cL) := fun h => by have := T3.out.o1.row.lt g21 h; omega
      clear hn21
      refine lex_append_v (.tmp 33) (.tmp 38) 22 3 i0 _ 1 8 Tryd.underlying22 II.out IZ0.out IZ1.out IZ2.out (by rfl) (.slice pL L.length cL) L.length (ints L) ((((rowV_rowB T3.out.o1.row).of_put HnR.out).of_put HnR.out).of_put n21v) (by rfl) g21 1 1 [.int .i64 (wy * v)] 3 (by rfl) (Blocks.put_same _ _ _) rfl (by simp [Value.oneCell']) (by omega) (by unfold maxLen; omega) (by omega) (fun g hg => .inl (by simp [hg])) HKF.out (fun g22 c22 ob22 hr22 hg22 => ?_)
      unfold setSlot
      go_big_quiet_step (fail)
      refine wpQuiet_nil ?_
      have n22r : br ≠ g22 := fun e => by
        rcases hg22 with h | h
        · exact HnR.out (e ▸ h)
        · omega
      have hn22 : ∀ g ∈ rowBlk (.slice (some ⟨g22, 0, none⟩) (L.length + 1) c22), g ∈ rowBlk (.slice pL L.length cL) ∨ x3.heap.size ≤ g := fun g hg => by
        have : g = g22 := by simpa [rowBlk] using hg
        subst this
        exact hg22.imp id (fun h => h.1)
      clear hg22
      refine lex_quietE 2 (by kernel_rfl) (by rfl) ?_
      apply Exists.intro
      refine ⟨fun z hz1 => ?_, ?_⟩
      · clear hz1
        simp only [List.take_succ_cons, List.take_zero]
        unfold Cx
        repeat (go_big_quiet_step (fail))
        exact wpQuiet_nil rfl
      simp only [List.drop_succ_cons, List.drop_zero]
      refine lex_nil ?_
      intro x4 hx4 hH4
      have R4 := Lib.hid (show Rd br l3 x4 from hH4 br _ ((Blocks.put_other _ _ n22r).trans ((Blocks.put_other _ _ (Ne.symm n21r)).trans (Blocks.put_same _ _ _))))
      have hT4 := Two.app2 T3.out hbw3 hx4 (fun g hg => (List.mem_cons.1 hg).elim (fun e => .inr (by omega)) (fun e => .inl e)) (hr22.of_has hH4) hn22
      have T4 := Lib.hid hT4
      have hS4 := hx4.keep S3.out HnS.out
      have S4 := Lib.hid hS4
      have B4 := Lib.hid (BE3.out.trans hx4 (fun g hg => (List.mem_cons.1 hg).elim (fun e => .inl (by simp [e])) (fun e => .inr (HGE.out g e))))
      have c1 := blk_cell hS4 1 rfl
      have f1 := blk_free hS4 1
      clear hx4 hH4 hT4 hS4 hn22 hr22
      go_wp2_with fail
      go_meet
      case rel =>
        refine ⟨some ⟨g22, 0, none⟩, c22, ?_, heap_setCell_same _ bs 1 _ _ _ S4.out, T4.out.keepU (behind_set (Wr := [bs]) (by simp)) (fun g hg => by simp at hg; omega), B4.out.chain (behind_set (by simp))⟩
        exact (heap_setCell_other _ _ br _ (fun e => HNE.out e)).trans R4.out
    case rest =>
    obtain ⟨pL2, cL2, R4, S4, T4, B4⟩ := hcut
    clear KN R3 S3 T3 BE3
    obtain ⟨x4, hx4⟩ : ∃ x4, x4 = wc := ⟨_, rfl⟩
    subst hx4
    obtain ⟨k', rfl⟩ : ∃ k', gk = k' + 1 := ⟨gk - 1, by omega⟩
    have c1 := blk_cell S4.out 1 rfl
    by_cases hk0 : k' = 0
    · have HT := Lib.hid (show termsP 65 true 1 l = none by rw [HE.out, hk0, terms_last HTm.out]; rfl)
      have h64 : 64 < L.length + 1 := by have := HLen.out; omega
      have hd64 : decide ((64 : Int) < (L.length : Int) + 1) = true := by simp; omega
      clear hk0
      go_wp2_with fail
      exact ⟨rfl, HNO.out _ HT.out B4.out ⟨_, _, _, S4.out⟩⟩
    have h64 : ¬ 64 < L.length + 1 := by omega
    have hd64 : decide ((64 : Int) < (L.length : Int) + 1) = false := by simp; omega
    have HK0 := Lib.hid hk0
    clear hk0
    go_upto_region 9 with fail
    go_cut [51] (fun t51 wx => t51 = .bool (Lib.hasPrefix l3 [32, 43, 32]) ∧ Hid (Rd br (chop l3 [32, 43, 32]) wx) ∧ Hid (Behind x4 [br] wx))
    case first =>
      go_wp2_with fail
      refine (gHasR br l3 [32, 43, 32] x4 R4.out).mono ?_
      rintro e w1 ⟨rfl, h1, h2⟩
      have H1 := Lib.hid h1
      have H2 := Lib.hid h2
      clear h1 h2
      go_wp2_with fail
      go_meet
      case rel => exact ⟨rfl, H1.out, H2.out⟩
    case rest =>
    obtain ⟨rfl, R5, B5⟩ := hcut
    have HNX := Lib.hid (fun (s' : Int) (l4 : List UInt8) (x : World) (hs : s' = 1 ∨ s' = -1) (hl4 : l4.length ≤ l3.length) (he : termsP (k' + 1) fst sg l' = (termsP k' false s' l4).map fun x => ((sg * c, wy * v) :: x.1, x.2)) (hr : Rd br l4 x) (hb : Behind x4 [br] x) => (show TInv br bs l w k' s' (C ++ [sg * c]) (L ++ [wy * v]) l4 (.slice pC2 (C.length + 1) cC2) (.slice pL2 (L.length + 1) cL2) x from
      ⟨hr, hb.keep S4.out (fun h => HNE.out (List.mem_singleton.1 h).symm), (T4.out.keepU hb (fun g hg => by simp at hg; omega)).sym, B4.out.trans hb (by simp), by simp [HLen.out], by simp; omega, by have := HK0.out; omega, Nat.le_trans hl4 (by have := HSh.out; omega), by
        rw [HE.out, he, List.zip_append HLen.out, show decide ((C ++ [sg * c]).length = 0) = false by simp]
        cases termsP k' false s' l4 <;> simp⟩))
    cases hp : Lib.hasPrefix l3 [32, 43, 32] with
    | true =>
      have HI2 := Lib.hid (HNX.out 1 (l3.drop 3) wc (.inl rfl) (by rw [List.length_drop]; omega) (terms_plus HTm.out HK0.out hp) (by have := R5.out; unfold chop at this; rw [if_pos hp] at this; exact this) B5.out)
      clear hp
      go_wp2_with fail
      go_roundg k'
      case measure => omega
      case rel => exact ⟨1, _, _, _, _, _, rfl, .inl rfl, HI2.out⟩
    | false =>
    have hC := (show chop l3 [32, 43, 32] = l3 by unfold chop; rw [hp]; rfl)
    rw [hC] at R5
    clear hC
    obtain ⟨x5, hx5⟩ : ∃ x5, x5 = wc := ⟨_, rfl⟩
    subst hx5
    have HP := Lib.hid hp
    clear hp
    go_upto_region 11 with fail
    go_cut [54] (fun t54 wx => t54 = .bool (Lib.hasPrefix l3 [32, 45, 32]) ∧ Hid (Rd br (chop l3 [32, 45, 32]) wx) ∧ Hid (Behind x5 [br] wx))
    case first =>
      go_wp2_with fail
      refine (gHasR br l3 [32, 45, 32] x5 R5.out).mono ?_
      rintro e w1 ⟨rfl, h1, h2⟩
      have H1 := Lib.hid h1
      have H2 := Lib.hid h2
      clear h1 h2
      go_wp2_with fail
      go_meet
      case rel => exact ⟨rfl, H1.out, H2.out⟩
    case rest =>
    obtain ⟨rfl, R6, B6⟩ := hcut
    obtain ⟨x6, hx6⟩ : ∃ x6, x6 = wc := ⟨_, rfl⟩
    subst hx6
    have B56 := Lib.hid (B5.out.chain B6.out)
    cases hq : Lib.hasPrefix l3 [32, 45, 32] with
    | false =>
      have HF := Lib.hid (show termsP 65 true 1 l = some ((C ++ [sg * c]).zip (L ++ [wy * v]), l3) by
        rw [HE.out, terms_end HTm.out HK0.out HP.out hq, List.zip_append HLen.out]; rfl)
      have hC := (show chop l3 [32, 45, 32] = l3 by unfold chop; rw [hq]; rfl)
      rw [hC] at R6
      clear hC hq
      go_wp2_with fail
      go_end0
      refine HOK.out _ _ _ _ _ HF.out R6.out (by have := HSh.out; omega) (B56.out.keep S4.out (fun h => HNE.out (List.mem_singleton.1 h).symm)) ?_ (B4.out.trans B56.out (by simp))
      rw [zip_fst _ _ (by simp [HLen.out]), zip_snd _ _ (by simp [HLen.out])]
      exact (T4.out.keepU B56.out (fun g hg => by simp at hg; omega)).sym
    | true =>
      have hC := (show chop l3 [32, 45, 32] = l3.drop 3 by unfold chop; rw [if_pos hq]; rfl)
      rw [hC] at R6
      clear hC
      have HMI := Lib.hid (terms_minus (sg := sg) HTm.out HK0.out HP.out hq)
      have hl4 : (l3.drop 3).length ≤ l3.length := by rw [List.length_drop]; omega
      clear hq
      generalize l3.drop 3 = l4 at *
      have h4 : l4.length ≤ 1000000 := by omega
      obtain ⟨s, hs⟩ : ∃ s : ByteArray, s = ⟨l4.toArray⟩ := ⟨_, rfl⟩
      have M6 := Lib.hid (show x6.heap[br]? = some (.cells #[.string s] 68 (0, 0)) by rw [hs]; exact R6.out)
      obtain ⟨m, hm1, hm2, hm3⟩ : ∃ m : Nat, min (1 : Int) (s.size : Int) = (m : Int) ∧ m ≤ s.size ∧ ((s.extract 0 m).toList == [48]) = Lib.hasPrefix l4 [48] := by
        subst hs
        cases l4 with
        | nil => exact ⟨0, rfl, Nat.le_refl _, by rw [ByteArray.toList_eq]; rfl⟩
        | cons a r =>
          refine ⟨1, by rw [ba_size, List.length_cons]; omega, by rw [ba_size, List.length_cons]; omega, ?_⟩
          rw [show ((⟨(a :: r).toArray⟩ : ByteArray).extract 0 1) = ⟨#[a]⟩ by apply ByteArray.ext; simp [List.extract], ByteArray.toList_eq]
          show ([a] == [48]) = _
          by_cases ha : a = 48
          · subst ha; rfl
          · rw [show ([a] == [48]) = false from beq_eq_false_iff_ne.2 (fun e => ha (by simpa using e)), show Lib.hasPrefix (a :: r) [48] = (48 == a && true) from rfl, show (48 == a) = false from beq_eq_false_iff_ne.2 (Ne.symm ha)]
            rfl
      have hsz : s.size ≤ 1000000 := by rw [hs, ba_size]; exact h4
      clear hs
      generalize hqq : Lib.hasPrefix l4 [48] = q at *
      clear hqq
      go_wp2_with fail
      refine wp_game [0, 0, 0, 0, 0, 0, 0, 0, 0, 0, 0, 0] [] B0 fin_B0 (has_B0 _) (by kernel_rfl) (by kernel_rfl) ?_
      refine lex_quietE 12 (by kernel_rfl) (by rfl) ?_
      apply Exists.intro
      refine ⟨fun z hz1 => ?_, ?_⟩
      · have g0 := blk_cellp (hz1.keep M6.out (by simp)) 0 rfl
        clear hz1
        simp only [List.take_succ_cons, List.take_zero]
        unfold Cx
        repeat (go_big_quiet_step (fail))
        exact wpQuiet_nil rfl
      simp only [List.drop_succ_cons, List.drop_zero]
      refine lex_nil ?_
      intro x7 hx7 _
      have HX7 := Lib.hid (hx7.mono (Wr' := [br]) (by simp))
      have R7 := Lib.hid (show Rd br l4 x7 from hx7.keep R6.out (by simp))
      have B57 := Lib.hid (B56.out.chain HX7.out)
      clear hx7 hm1
      cases q with
      | true =>
        have HT := Lib.hid (show termsP 65 true 1 l = none by rw [HE.out, HMI.out]; rfl)
        clear HMI
        go_wp2_with fail
        exact ⟨rfl, HNO.out _ HT.out (B4.out.trans B57.out (by simp)) ⟨_, _, _, B57.out.keep S4.out (show bs ∉ [br] from fun h => HNE.out (List.mem_singleton.1 h).symm)⟩⟩
      | false =>
        have HI2 := Lib.hid (HNX.out (-1) l4 x7 (.inr rfl) hl4 (by rw [HMI.out]; rfl) R7.out B57.out)
        clear HMI
        go_wp2_with fail
        go_roundg k'
        case measure => omega
        case rel => exact ⟨-1, _, _, _, _, _, rfl, .inr rfl, HI2.out⟩
end Go.Proofs.YtchamkbnapjidaaDoor
