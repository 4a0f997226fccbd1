/- Texts of this claim, joined: BNxt, BAsk, BAskW. -/
import Derived.Test.YtbacloneddnaeaaGreatP40

/- censusref40.Next and agrees. -/
namespace Go.Proofs.YtbacloneddnaeaaGreat
open Go.RowKit Go.Shelf Num

def natsI (vs : List Nat) : List Value := ints (vs.map Int.ofNat)
theorem natsI_get {vs : List Nat} {i v : Nat} (h : vs[i]? = some v) : (natsI vs).toArray[i]? = some (.int .i64 (v : Int)) := by
  rw [List.getElem?_toArray]
  exact ints_get _ _ _ (by rw [List.getElem?_map, h]; rfl)
theorem natsI_set (vs : List Nat) (i v : Nat) : (natsI vs).toArray.setIfInBounds i (.int .i64 (v : Int)) = (natsI (vs.set i v)).toArray := by
  simp [natsI, ints, List.map_set]
def padV (vs : List Nat) (n r : Nat) : List Nat := vs.take r ++ List.replicate (n - r) 0
theorem padV_get {vs : List Nat} {n s v : Nat} (h : vs[s]? = some v) : (padV vs n (s + 1))[s]? = some v := by
  unfold padV
  have hs := (List.getElem?_eq_some_iff.1 h).1
  rw [List.getElem?_append_left (by simp; omega), List.getElem?_take, if_pos (by omega), h]
theorem padV_set {vs : List Nat} {n s v : Nat} (h : vs[s]? = some v) (u : Nat) : (padV vs n (s + 1)).set s u = vs.take s ++ u :: List.replicate (n - (s + 1)) 0 := by
  unfold padV
  have hs := (List.getElem?_eq_some_iff.1 h).1
  have e : (vs.take s).length = s := by simp; omega
  rw [take_snoc_of h, List.append_assoc, List.set_append_right _ _ (by omega), e, Nat.sub_self]
  rfl
theorem padV_zero {vs : List Nat} {n s u : Nat} (hs : s < vs.length) (hn : s < n) : (vs.take s ++ u :: List.replicate (n - (s + 1)) 0).set s 0 = padV vs n s := by
  unfold padV
  have e : (vs.take s).length = s := by simp; omega
  rw [List.set_append_right _ _ (by omega), e, Nat.sub_self, show n - s = (n - (s + 1)) + 1 by omega, List.replicate_succ]
  rfl
theorem drop_cons {α : Type} {l : List α} {i : Nat} {x : α} (h : l[i]? = some x) : l.drop i = x :: l.drop (i + 1) := by
  obtain ⟨hi, e⟩ := List.getElem?_eq_some_iff.1 h
  rw [List.drop_eq_getElem_cons hi, e]
theorem next_yes {ks vs : List Nat} {s k v : Nat} (hlen : ks.length = vs.length) (hk : ks[s]? = some k) (hv : vs[s]? = some v) (hn : nextV (ks.drop (s + 1)) (vs.drop (s + 1)) = none) (h : v + 1 < k) : nextV ks vs = some (vs.take s ++ (v + 1) :: List.replicate (vs.length - (s + 1)) 0) := by
  have hs := (List.getElem?_eq_some_iff.1 hv).1
  have h1 : nextV (ks.drop s) (vs.drop s) = some ((v + 1) :: List.replicate (vs.length - (s + 1)) 0) := by
    rw [drop_cons hk, drop_cons hv, nextV_cons_none hn, if_pos h, List.length_drop]
  have := nextV_pre (ks.take s) (vs.take s) _ _ (by simp; omega) _ h1
  rwa [List.take_append_drop, List.take_append_drop] at this
theorem next_no {ks vs : List Nat} {s k v : Nat} (hk : ks[s]? = some k) (hv : vs[s]? = some v) (hn : nextV (ks.drop (s + 1)) (vs.drop (s + 1)) = none) (h : ¬ v + 1 < k) : nextV (ks.drop s) (vs.drop s) = none := by
  rw [drop_cons hk, drop_cons hv, nextV_cons_none hn, if_neg h]

def ksR (l : List RV) : List Nat := l.map fun x => x.k.toNat
theorem ksR_of (l : List RV) : ksR l = ksOf (gnet l) := by simp [ksR, ksOf, gnet, gvar]

set_option maxHeartbeats 3200000 in
set_option maxRecDepth 100000 in
theorem xnext_law (N : Nat) (l : List RV) (vs : List Nat) (a : Option Addr) (c g vc : Nat) (hl : l.length ≤ 100) (hlen : vs.length = l.length) (hlt : ∀ (i : Nat) (x : RV) (v : Nat), l[i]? = some x → vs[i]? = some v → (v : Int) < x.k ∧ x.k ≤ 8) (w : World) (hN : RefAt N w a l) (hw : N ≤ w.heap.size) (hg : N ≤ g) (m : w.heap[g]? = some (.cells (natsI vs).toArray 3 (0, 0))) :
    Calls Tryz.prog 52 #[.slice a l.length c, .slice (some ⟨g, 0, none⟩) vs.length vc] w fun e w' => e = .returned (.bool (nextV (ksR l) vs).isSome) ∧ w'.heap[g]? = some (.cells (natsI ((nextV (ksR l) vs).getD (List.replicate l.length 0))).toArray 3 (0, 0)) ∧ Behind w [g] w' := by
  have HN := Lib.hid hN
  have HLT := Lib.hid hlt
  have HLEN := Lib.hid hlen
  have hks : (ksR l).length = vs.length := by simp [ksR, hlen]
  have HKS := Lib.hid hks
  clear hN hlt hlen hks
  go_enter Tryz.func52, Tryz.ntmps52
  go_wp2_with fail
  go_loopw [5] (fun i wr => ∃ r : Nat, r ≤ l.length ∧ i = .int .i64 ((r : Int) - 1) ∧ Hid (nextV ((ksR l).drop r) (vs.drop r) = none) ∧ wr.heap[g]? = some (.cells (natsI (padV vs l.length r)).toArray 3 (0, 0)) ∧ Hid (Behind w [g] wr))
    (fun i _ => (intOf i + 1).toNat)
  case atStart =>
    refine ⟨l.length, Nat.le_refl _, rfl, ?_, ?_, Behind.refl _ _⟩
    · unfold Hid
      rw [List.drop_eq_nil_of_le (by simp [ksR])]; rfl
    · unfold padV
      rw [← HLEN.out, List.take_length, Nat.sub_self, List.replicate_zero, List.append_nil]; exact m
  case round =>
    obtain ⟨r, hr, rfl, HX, m1, HB⟩ := hrel
    clear m
    cases r with
    | zero =>
      rw [show ((0 : Nat) : Int) - 1 = -1 by omega]
      go_wp2_with fail
      go_ret
      have hx : nextV (ksR l) vs = none := HX.out
      refine ⟨by rw [hx]; rfl, ?_, HB.out⟩
      rw [hx]
      exact m1
    | succ s =>
      rw [show ((s + 1 : Nat) : Int) - 1 = (s : Int) by omega]
      obtain ⟨x, hx⟩ : ∃ x, l[s]? = some x := ⟨_, List.getElem?_eq_getElem (by omega)⟩
      obtain ⟨v, hv⟩ : ∃ v, vs[s]? = some v := ⟨_, List.getElem?_eq_getElem (by have := HLEN.out; omega)⟩
      obtain ⟨h1, h8⟩ := HLT.out s x v hx hv
      obtain ⟨b, o, pa, pc, ta, tc, hb, rfl, n0, _⟩ := HN.out s x hx
      have hkx : (ksR l)[s]? = some x.k.toNat := by simp [ksR, hx]
      have HKX := Lib.hid hkx
      have HV := Lib.hid hv
      have N0 := Lib.hid n0
      have c0 := blk_cell m1 s (natsI_get (padV_get (n := l.length) hv))
      have f0 := blk_free m1 s
      have hwr := wrote_cell (o := s) (.int .i64 ((v + 1 : Nat) : Int)) m1
      rw [natsI_set, padV_set hv] at hwr
      have hsv : s < vs.length := (List.getElem?_eq_some_iff.1 hv).1
      have hd : decide (0 ≤ (s : Int)) = true := by simp
      obtain ⟨K, hK⟩ : ∃ K : Nat, x.k = K := ⟨x.k.toNat, by omega⟩
      rw [hK] at N0 h1 h8 HKX
      rw [Int.toNat_natCast] at HKX
      have hsg : s < vs.length := hsv
      have HB0 := Lib.hid hb
      obtain ⟨W1, hW1⟩ : ∃ W1, W1 = wr.setCell ⟨g, s, none⟩ (.int .i64 ((v + 1 : Nat) : Int)) := ⟨_, rfl⟩
      rw [← hW1] at hwr
      have HW1 := Lib.hid hwr.here
      have HBW := Lib.hid ((HB.out.wrote hwr (.inl (by simp))))
      have hvI : ((v : Int) + 1) = ((v + 1 : Nat) : Int) := by omega
      have HVI := Lib.hid hvI
      clear hx hv n0 hkx hb hwr hvI HB hK
      go_wp2_with fail
      rw [HVI.out, ← hW1]
      clear c0 f0 m1 hW1
      refine wp_game [0, 0, 0, 0, 0, 0, 0, 0, 0, 0] [] B0 fin_B0 (has_B0 _) (by kernel_rfl) (by kernel_rfl) ?_
      refine lex_quietE 10 (by kernel_rfl) (by rfl) ?_
      apply Exists.intro
      refine ⟨fun z hz => ?_, ?_⟩
      · have hwz : Behind w [g] z := HBW.out.trans (hz.mono (by simp)) (fun k hk => .inl hk)
        have g0 := fun pp => below_cellp (hwz.below_of (b := N) (by simp; exact hg) hw) N0.out HB0.out pp
        have g1 := blk_cellp (hz.keep HW1.out (by simp)) s (v := .int .i64 ((v + 1 : Nat) : Int)) (by
          refine natsI_get ?_
          have e : (vs.take s).length = s := by simp; omega
          simp [e])
        clear hz hwz
        simp only [List.take_succ_cons, List.take_zero]
        unfold Cx
        repeat (go_big_quiet_step (fail))
        exact wpQuiet_nil rfl
      simp only [List.drop_succ_cons, List.drop_zero]
      refine lex_nil ?_
      intro x7 hx7 _
      have m7 := hx7.keep HW1.out (by simp)
      have HB7 := Lib.hid (HBW.out.trans (hx7.mono (by simp)) (fun k hk => .inl hk))
      clear hx7
      by_cases hlt : v + 1 < K
      · have hd2 : decide ((v : Int) + 1 < (K : Int)) = true := by simp; omega
        have hnx := next_yes HKS.out HKX.out HV.out HX.out hlt
        have HNX := Lib.hid hnx
        clear hnx
        go_wp2_with fail
        go_ret
        refine ⟨by rw [HNX.out]; rfl, ?_, HB7.out⟩
        rw [HNX.out, Option.getD_some, HLEN.out]
        exact m7
      · have hd2 : decide ((v : Int) + 1 < (K : Int)) = false := by simp; omega
        have HNX := Lib.hid (next_no HKX.out HV.out HX.out hlt)
        have hwr := wrote_cell (o := s) (.int .i64 ((0 : Nat) : Int)) m7
        rw [natsI_set, padV_zero hsv (by omega)] at hwr
        have f7 := blk_free m7 s
        have e7 : (vs.take s).length = s := by simp; omega
        have c7 := blk_cell m7 s (natsI_get (v := v + 1) (by simp [e7]))
        clear e7
        have HW2 := Lib.hid hwr.here
        have HBW2 := Lib.hid ((HB7.out.wrote hwr (.inl (by simp))))
        rw [show ((0 : Nat) : Int) = 0 from rfl] at HW2 HBW2
        clear hwr
        go_wp2_with fail
        go_roundw
        case rel => exact ⟨s, by omega, by go_num, HNX, HW2.out, HBW2⟩
        case measure => simp [intOf]

theorem agree_no {vs : List Nat} {ev : List Int} {j v : Nat} {e : Int} (hv : vs[j]? = some v) (he : ev[j]? = some e) (h : ¬ (e < 0 ∨ e = (v : Int))) : agreesB vs ev = false := by
  rw [← Bool.not_eq_true, agreesB_iff]
  intro k
  have := k j v hv
  rw [List.getD_eq_getElem?_getD, he] at this
  exact h this
theorem agree_all {vs : List Nat} {ev : List Int} (h : ∀ (i v : Nat) (e : Int), i < vs.length → vs[i]? = some v → ev[i]? = some e → e < 0 ∨ e = (v : Int)) (hl : ev.length = vs.length) : agreesB vs ev = true := by
  rw [agreesB_iff]
  intro i v hv
  have hi := (List.getElem?_eq_some_iff.1 hv).1
  have he : ev[i]? = some ev[i] := List.getElem?_eq_getElem (by omega)
  rw [List.getD_eq_getElem?_getD, he]
  exact h i v _ hi hv he

set_option maxHeartbeats 3200000 in
set_option maxRecDepth 100000 in
theorem xagrees_law (N : Nat) (vs : List Nat) (ev : List Int) (a ea : Option Addr) (c ec : Nat) (hl : vs.length ≤ 100) (hlen : ev.length = vs.length) (w : World) (hV : AtN N w a (natsI vs)) (hE : AtN N w ea (ints ev)) (hw : N ≤ w.heap.size) :
    Calls Tryz.prog 53 #[.slice a vs.length c, .slice ea ev.length ec] w fun e w' => e = .returned (.bool (agreesB vs ev)) ∧ Below w.heap.size w w' := by
  have HV := Lib.hid hV
  have HE := Lib.hid hE
  have HLEN := Lib.hid hlen
  clear hV hE hlen
  go_enter Tryz.func53, Tryz.ntmps53
  go_wp2_with fail
  go_loopw [5] (fun i wr => ∃ j : Nat, j ≤ vs.length ∧ i = .int .i64 j ∧ Hid (∀ (i v : Nat) (e : Int), i < j → vs[i]? = some v → ev[i]? = some e → e < 0 ∨ e = (v : Int)) ∧ Hid (Below w.heap.size w wr))
    (fun i _ => vs.length - (intOf i).toNat)
  case atStart => exact ⟨0, Nat.zero_le _, rfl, fun i v e h => by omega, Below.refl _ _⟩
  case round =>
    obtain ⟨j, hj, rfl, HO, HB⟩ := hrel
    by_cases hlt : j < vs.length
    · have hd : decide (j < vs.length) = true := by simpa using hlt
      obtain ⟨v, hv⟩ : ∃ v, vs[j]? = some v := ⟨_, List.getElem?_eq_getElem hlt⟩
      obtain ⟨e, he⟩ : ∃ e, ev[j]? = some e := ⟨_, List.getElem?_eq_getElem (by rw [HLEN.out]; exact hlt)⟩
      obtain ⟨b, o, hb, rfl, k0⟩ := HV.out j (.int .i64 (v : Int)) (by have := natsI_get hv; rwa [List.getElem?_toArray] at this)
      obtain ⟨eb, eo, heb, rfl, k1⟩ := HE.out j _ (ints_get _ _ _ he)
      have K0 := Lib.hid k0
      have K1 := Lib.hid k1
      have HVJ := Lib.hid hv
      have HEJ := Lib.hid he
      have hbw : b < w.heap.size := by omega
      have hebw : eb < w.heap.size := by omega
      have hjl : j < ev.length := by rw [HLEN.out]; exact hlt
      have hno : ¬ (e < 0 ∨ e = (v : Int)) → Hid (agreesB vs ev = false) := fun h => agree_no HVJ.out HEJ.out h
      have hyes : (e < 0 ∨ e = (v : Int)) → Hid (∀ (i v : Nat) (e : Int), i < j + 1 → vs[i]? = some v → ev[i]? = some e → e < 0 ∨ e = (v : Int)) := fun h i u d hi hu hde => by
        rcases Nat.lt_or_ge i j with h1 | h1
        · exact HO.out i u d h1 hu hde
        · obtain rfl : i = j := by omega
          have e1 := HVJ.out
          have e2 := HEJ.out
          rw [hu] at e1; rw [hde] at e2
          cases e1; cases e2
          exact h
      clear hv he k0 k1
      have key : (e < 0 ∧ e < 0) ∨ (¬ e < 0 ∧ e = (v : Int)) ∨ (¬ e < 0 ∧ e ≠ (v : Int)) := by omega
      rcases key with ⟨h0, _⟩ | ⟨h0, h1⟩ | ⟨h0, h1⟩
      · have HY := hyes (.inl h0)
        have hd2 : decide (0 ≤ e) = false := by simp; omega
        clear hyes hno
        go_wp2_with fail
        refine wp_game [0, 0, 0, 0, 0, 0, 0, 0, 0, 0, 0, 0, 0, 0, 0, 0] [] B0 fin_B0 (has_B0 _) (by kernel_rfl) (by kernel_rfl) ?_
        refine lex_quietE 16 (by kernel_rfl) (by rfl) ?_
        apply Exists.intro
        refine ⟨fun z hz => ?_, ?_⟩
        · have hwz := HB.out.trans (hz.below_of (b := w.heap.size) (by simp) HB.out.size)
          have g0 := below_cellp hwz K0.out hbw
          have g1 := below_cellp hwz K1.out hebw
          clear hz hwz
          simp only [List.take_succ_cons, List.take_zero]
          unfold Cx
          repeat (go_big_quiet_step (fail))
          exact wpQuiet_nil rfl
        simp only [List.drop_succ_cons, List.drop_zero]
        refine lex_nil ?_
        intro x7 hx7 _
        have HB7 := Lib.hid (HB.out.trans (hx7.below_of (b := w.heap.size) (by simp) HB.out.size))
        clear hx7 HB K0 K1
        go_wp2_with fail
        go_roundw
        case rel => exact ⟨j + 1, by omega, by go_num, HY, HB7⟩
        case measure => simp [intOf]; omega
      · have HY := hyes (.inr h1)
        subst h1
        have hd2 : decide (0 ≤ (v : Int)) = true := by simp
        clear hyes hno h0
        go_wp2_with fail
        refine wp_game [0, 0, 0, 0, 0, 0, 0, 0, 0, 0, 0, 0, 0, 0, 0, 0] [] B0 fin_B0 (has_B0 _) (by kernel_rfl) (by kernel_rfl) ?_
        refine lex_quietE 16 (by kernel_rfl) (by rfl) ?_
        apply Exists.intro
        refine ⟨fun z hz => ?_, ?_⟩
        · have hwz := HB.out.trans (hz.below_of (b := w.heap.size) (by simp) HB.out.size)
          have g0 := below_cellp hwz K0.out hbw
          have g1 := below_cellp hwz K1.out hebw
          clear hz hwz
          simp only [List.take_succ_cons, List.take_zero]
          unfold Cx
          repeat (go_big_quiet_step (fail))
          exact wpQuiet_nil rfl
        simp only [List.drop_succ_cons, List.drop_zero]
        refine lex_nil ?_
        intro x7 hx7 _
        have HB7 := Lib.hid (HB.out.trans (hx7.below_of (b := w.heap.size) (by simp) HB.out.size))
        clear hx7 HB K0 K1
        go_wp2_with fail
        go_roundw
        case rel => exact ⟨j + 1, by omega, by go_num, HY, HB7⟩
        case measure => simp [intOf]; omega
      · have HF := hno (by omega)
        have hd2 : decide (0 ≤ e) = true := by simp; omega
        have hd3 : ((v : Int) == e) = false := beq_no (fun k => h1 k.symm)
        have hd4 : ((v : Int) != e) = true := by simp [bne, hd3]
        clear hyes hno h1
        go_wp2_with fail
        refine wp_game [0, 0, 0, 0, 0, 0, 0, 0, 0, 0, 0, 0, 0, 0, 0, 0] [] B0 fin_B0 (has_B0 _) (by kernel_rfl) (by kernel_rfl) ?_
        refine lex_quietE 16 (by kernel_rfl) (by rfl) ?_
        apply Exists.intro
        refine ⟨fun z hz => ?_, ?_⟩
        · have hwz := HB.out.trans (hz.below_of (b := w.heap.size) (by simp) HB.out.size)
          have g0 := below_cellp hwz K0.out hbw
          have g1 := below_cellp hwz K1.out hebw
          clear hz hwz
          simp only [List.take_succ_cons, List.take_zero]
          unfold Cx
          repeat (go_big_quiet_step (fail))
          exact wpQuiet_nil rfl
        simp only [List.drop_succ_cons, List.drop_zero]
        refine lex_nil ?_
        intro x7 hx7 _
        have HB7 := Lib.hid (HB.out.trans (hx7.below_of (b := w.heap.size) (by simp) HB.out.size))
        clear hx7 HB K0 K1
        go_wp2_with fail
        go_ret
        exact ⟨by rw [HF.out]; rfl, HB7.out⟩
    · obtain rfl : j = vs.length := by omega
      have HA := Lib.hid (agree_all HO.out HLEN.out)
      go_wp2_with fail
      go_ret
      exact ⟨by rw [HA.out]; rfl, HB.out⟩
end Go.Proofs.YtbacloneddnaeaaGreat

/- censusref40.ask and Ask. -/
namespace Go.Proofs.YtbacloneddnaeaaGreat
open Go.RowKit Go.Shelf Num

theorem sm_dec3 {p : Nat × Nat} (h : Sm 200000 p) : (dec p.1).size ≤ 600000 ∧ (dec p.2).size ≤ 600000 := ⟨dec_nl _ 200000 (by omega) h.1, dec_nl _ 200000 (by omega) h.2⟩
section
variable (p q : Nat × Nat) (hp : Sm 200000 p) (hq : Sm 200000 q)
include hp hq
theorem gOver3 : Gives 65 #[xratV p, xratV q] (.tuple #[.string (dec (p.1 * q.2)), .string (dec (q.1 * p.2)), .string (dec (p.2 * q.2))]) := by
  obtain ⟨h1, h2⟩ := sm_dec3 hp
  obtain ⟨h3, h4⟩ := sm_dec3 hq
  exact w_over _ _ _ _ _ _ _ (gXMul _ _ (by omega) (by omega)) (gXMul _ _ (by omega) (by omega)) (gXMul _ _ (by omega) (by omega))
theorem gXAdd3 (lp : Q.Low p) (lq : Q.Low q) : Gives 34 #[xratV p, xratV q] (xratV (Q.add p q)) := by
  have s1 := gOver3 p q hp hq
  obtain ⟨h1, h2⟩ := hp
  obtain ⟨h3, h4⟩ := hq
  have e1 := nl_mul p.1 q.2
  have e2 := nl_mul q.1 p.2
  have e3 := nl_mul p.2 q.2
  have e4 := nl_add (p.1 * q.2) (q.1 * p.2)
  have s2 := dec_nl (p.1 * q.2) 400000 (by omega) (by omega)
  have s3 := dec_nl (q.1 * p.2) 400000 (by omega) (by omega)
  exact w_xadd _ _ _ _ _ _ _ _ _ _ true s1 (gXAdd _ _ (by omega) (by omega)) (gXNew _ _ (by omega) (by omega) (Nat.mul_pos lp.1 lq.1))
end

theorem RefAt.mono {N M : Nat} {w : World} {a : Option Addr} {l : List RV} (h : RefAt N w a l) (hM : N ≤ M) : RefAt M w a l := fun i x hi => by
  obtain ⟨b, o, pa, pc, ta, tc, hb, ha, n0, n1, n2, hpa, hta⟩ := h i x hi
  exact ⟨b, o, pa, pc, ta, tc, by omega, ha, n0, n1, n2, hpa.mono hM, hta.mono hM⟩

theorem natsI_cells {w : World} {g : Nat} {vs : List Nat} {T : TypeId} (h : w.heap[g]? = some (.cells (natsI vs).toArray T (0, 0))) : AtN w.heap.size w (some ⟨g, 0, none⟩) (ints (vs.map Int.ofNat)) := by
  have := atN_cells h
  rwa [List.toList_toArray] at this

set_option maxHeartbeats 1000000 in
set_option maxRecDepth 100000 in
theorem xask_law (N : Nat) (l : List RV) (ev : List Int) (a ea : Option Addr) (c ec : Nat) (hl : Lit l) (hg : Good (gnet l)) (hev : ev.length = l.length) (hct : (allV (ksOf (gnet l))).length ≤ 300) (w : World) (hN : RefAt N w a l) (hE : AtN N w ea (ints ev)) (hw : N ≤ w.heap.size) :
    Calls Tryz.prog 25 #[.slice a l.length c, .slice ea ev.length ec] w fun e w' => e = .returned (.agg #[.string (dec (askV (gnet l) ev (allV (ksOf (gnet l)))).1), .string (dec (askV (gnet l) ev (allV (ksOf (gnet l)))).2)]) ∧ Below w.heap.size w w' := by
  obtain ⟨i0, hi, hz0, hz1, hz2⟩ := info_parts Tryz.infoInt
  have hlen : l.length ≤ 16 := by have := hg.len; simpa [gnet] using this
  have HL := Lib.hid hl
  have HG := Lib.hid hg
  have HN := Lib.hid (hN.mono hw)
  have HE := Lib.hid (hE.mono hw)
  have HEV := Lib.hid hev
  have HCT := Lib.hid hct
  have KO : Gives 33 #[] (.agg #[.string (dec 0), .string (dec 1)]) := gXZero
  have hhd : (allV (ksOf (gnet l))).head? = some (List.replicate l.length 0) := by
    rw [allV_head _ (ksOf_pos hg)]; simp [ksOf, gnet]
  obtain ⟨rest0, hal⟩ : ∃ rest0, allV (ksOf (gnet l)) = List.replicate l.length 0 :: rest0 := by
    cases hA : allV (ksOf (gnet l)) with
    | nil => rw [hA] at hhd; cases hhd
    | cons m M => rw [hA] at hhd; simp at hhd; subst hhd; exact ⟨M, rfl⟩
  have HAL := Lib.hid hal
  have HPATH := Lib.hid (allV_path _ (ksOf_pos hg))
  have HFIT := Lib.hid (fun vs (h : vs ∈ allV (ksOf (gnet l))) => allV_fit hg h)
  have HSM := Lib.hid (fun done (h : done.length ≤ 300) => askV_sm hg ev done)
  have HPR := Lib.hid (fun vs => prodV_low hg vs l.length)
  obtain ⟨A, hA⟩ : ∃ A, A = allV (ksOf (gnet l)) := ⟨_, rfl⟩
  have HRES := Lib.hid (congrArg (askV (gnet l) ev) hA)
  rw [← hA] at HPATH HCT HAL HFIT ⊢
  clear hl hg hN hE hw hhd hal hev hct hA
  go_enter Tryz.func25, Tryz.ntmps25
  go_wp2_with fail
  refine calls_gen fun u1 hu => ?_
  have m4 : ∃ s1 s2, u1.heap[w.heap.size]? = some (.cells #[s1, s2] 69 (0, 0)) := ⟨_, _, by rw [hu]; exact World.alloc_heap_new w _⟩
  have hb1 : Below w.heap.size w u1 := by rw [hu]; exact (Below.refl _ _).alloc (Nat.le_refl _) _
  clear hu
  refine (KO _).mono ?_
  rintro r3 w3 ⟨rfl, hB3⟩
  obtain ⟨s1, s2, m4⟩ := m4
  have m43 := (behind_of_below hB3).keep m4 (by simp)
  have HB3 := Lib.hid (hb1.trans (hB3.mono hb1.size))
  have hl4 := lt_of_heap m43
  have M43 := Lib.hid m43
  clear m4 hb1 hB3 m43
  go_wp2_with (at_make; refine wpList_make_full _ rfl (.tmp 10) (.tmp 10) 23 rfl (w3.heap.size + 1) 3 i0 (.int .i64 0) 1 Tryz.underlying23 hi hz0 hz1 .i64 .i64 _ _ l.length rfl rfl (by omega) (by omega) (by rw [hz2]; omega) (by unfold maxLen; omega) (by simp) ?_)
  intro w4 hown hgr
  have hR := Row.ofOwns hown
  rw [ints_zeros] at hR
  obtain ⟨u4, hu4⟩ : ∃ u4, u4 = w3.alloc (.cells #[.string (dec 0), .string (dec 1)] 69 (0, 0)) := ⟨_, rfl⟩
  rw [← hu4] at hgr
  have m5u : u4.heap[w3.heap.size]? = some (.cells #[.string (dec 0), .string (dec 1)] 69 (0, 0)) := by rw [hu4]; exact heap_alloc_new w3 _
  have hb4 : Below w3.heap.size w3 u4 := by rw [hu4]; exact (Below.refl _ _).alloc (Nat.le_refl _) _
  have hsz4 : u4.heap.size = w3.heap.size + 1 := by rw [hu4]; simp
  have hgb := grown_below hgr (Nat.le_refl _) (by rw [hsz4]; simp)
  have M5 := Lib.hid ((behind_of_below hgb).keep m5u (by simp))
  have M4 := Lib.hid ((behind_of_below hgb).keep ((behind_of_below hb4).keep M43.out (by simp)) (by simp))
  have HB4 := Lib.hid (HB3.out.trans ((hb4.trans (hgb.mono hb4.size)).mono HB3.out.size))
  have MV := Lib.hid (show w4.heap[w3.heap.size + 1]? = some (.cells (natsI (List.replicate l.length 0)).toArray 3 (0, 0)) by
    have := hR
    unfold natsI
    rw [List.map_replicate]
    exact this)
  obtain ⟨gV, hgV⟩ : ∃ gV, gV = w3.heap.size + 1 := ⟨_, rfl⟩
  obtain ⟨gS, hgS⟩ : ∃ gS, gS = w3.heap.size := ⟨_, rfl⟩
  rw [← hgV] at MV ⊢
  rw [← hgS] at M5 ⊢
  have hSV : gS ≠ gV := by omega
  have hS4 : w.heap.size ≠ gS := by omega
  have hV4 : w.heap.size ≠ gV := by omega
  have hlS : w.heap.size ≤ gS := by omega
  have hlV : w.heap.size ≤ gV := by omega
  clear hown hgr hR hu4 m5u hb4 hsz4 hgb M43 hl4 hgV hgS
  go_wp2_with fail
  go_loopg [7] A.length (fun k u wr => ∃ (done todo : List (List Nat)), Hid (A = done ++ todo) ∧ todo.length ≤ k ∧ ((∃ vs rest, Hid (todo = vs :: rest) ∧ u = .bool true ∧ Hid (wr.heap[gV]? = some (.cells (natsI vs).toArray 3 (0, 0)))) ∨ (Hid (todo = []) ∧ u = .bool false)) ∧ Hid (wr.heap[gS]? = some (.cells #[.string (dec (askV (gnet l) ev done).1), .string (dec (askV (gnet l) ev done).2)] 69 (0, 0))) ∧ Hid (wr.heap[w.heap.size]? = some (.cells #[s1, s2] 69 (0, 0))) ∧ Hid (Below w.heap.size w wr))
  case atStart => exact ⟨[], A, rfl, Nat.le_refl _, .inl ⟨_, _, HAL, rfl, MV⟩, by rw [askV_nil]; exact M5, M4, HB4⟩
  case round =>
    obtain ⟨done, todo, HD, hk, HU, H5, H4, HB⟩ := hrel
    clear MV M5 M4 HB4 HB3
    rcases HU with ⟨vs, rest, HTD, rfl, HV⟩ | ⟨HTD, rfl⟩
    · have hdl : done.length + 1 ≤ 300 := by
        have h1 := HCT.out
        rw [HD.out, HTD.out] at h1
        simp at h1; omega
      have hmem : vs ∈ A := by rw [HD.out, HTD.out]; simp
      have hfit := HFIT.out vs hmem
      have hnx := path_at done vs rest (by rw [← HTD.out, ← HD.out]; exact HPATH.out)
      have hvl : vs.length = l.length := by have := hfit.len; simpa [gnet] using this
      have HFT := Lib.hid hfit
      have HNX := Lib.hid hnx
      have HVL := Lib.hid hvl
      have hvl16 : vs.length ≤ 100 := by omega
      have HVK := Lib.hid (show ∀ (i : Nat) (x : RV) (v : Nat), l[i]? = some x → vs[i]? = some v → (v : Int) < x.k ∧ x.k ≤ 8 from fun i x v hx hv => ⟨hfit.lt i (gvar x) v (gnet_get hx) hv, (HG.out.kb i (gvar x) (gnet_get hx)).2⟩)
      have hA2 : A = (done ++ [vs]) ++ rest := by rw [HD.out, HTD.out]; simp
      have HA2 := Lib.hid hA2
      have hlv : l.length = vs.length := hvl.symm
      have HLV := Lib.hid hlv
      have hkr := hk
      rw [HTD.out, List.length_cons] at hkr
      clear hmem hfit hnx hvl hA2 hlv HD hk
      go_wp2_with fail
      rw [HLV.out]
      have h1 : ev.length = vs.length := by rw [HEV.out, HLV.out]
      have h2 : AtN wr.heap.size wr ea (ints ev) := ((HE.out.below HB.out (Nat.le_refl _)).mono HB.out.size)
      have h3 : AtN wr.heap.size wr (some ⟨gV, 0, none⟩) (natsI vs) := natsI_cells HV.out
      refine (xagrees_law wr.heap.size vs ev (some ⟨gV, 0, none⟩) ea vs.length ec hvl16 h1 wr h3 h2 (Nat.le_refl _)).mono ?_
      rintro r6 w6 ⟨rfl, hB6⟩
      have HV6 := Lib.hid ((behind_of_below hB6).keep HV.out (by simp))
      have H56 := Lib.hid ((behind_of_below hB6).keep H5.out (by simp))
      have H46 := Lib.hid ((behind_of_below hB6).keep H4.out (by simp))
      have HB6 := Lib.hid (HB.out.trans (hB6.mono HB.out.size))
      clear h1 h2 h3 hB6 HV H5 H4 HB
      cases hag : agreesB vs ev with
      | false =>
        have HAS := Lib.hid (askV_no (l := gnet l) (vss := done) hag)
        clear hag
        go_wp2_with fail
        rw [← HLV.out]
        have h1 : l.length ≤ 100 := by omega
        have KN := xnext_law w.heap.size l vs a c gV l.length h1 HVL.out HVK.out w6 (HN.out.below HB6.out (Nat.le_refl _)) HB6.out.size hlV HV6.out
        rw [HVL.out] at KN
        refine KN.mono ?_
        rintro r8 w8 ⟨rfl, hv8, hx8⟩
        have M58 := Lib.hid (hx8.keep H56.out (by simp; omega))
        have M48 := Lib.hid (hx8.keep H46.out (by simp; omega))
        have HB8 := Lib.hid (HB6.out.trans (hx8.below_of (b := w.heap.size) (by intro k hk; rw [List.mem_singleton.1 hk]; exact hlV) HB6.out.size))
        rw [ksR_of, HNX.out] at hv8 ⊢
        have HV8 := Lib.hid hv8
        clear h1 KN hx8 hv8 HV6 H56 H46 HB6
        cases rest with
        | nil =>
          go_wp2_with fail
          go_roundg 0
          case measure => omega
          case rel => exact ⟨done ++ [vs], [], HA2, by simp, .inr ⟨rfl, rfl⟩, by rw [HAS.out]; exact M58, M48, HB8⟩
        | cons u rest =>
          go_wp2_with fail
          go_roundg (rest.length + 1)
          case measure => rw [List.length_cons] at hkr; omega
          case rel => exact ⟨done ++ [vs], u :: rest, HA2, by simp, .inl ⟨u, rest, rfl, rfl, HV8⟩, by rw [HAS.out]; exact M58, M48, HB8⟩

      | true =>
        have HAS := Lib.hid (askV_yes (l := gnet l) (vss := done) hag)
        obtain ⟨hlow, hsm⟩ := HSM.out done (by omega)
        obtain ⟨hlow2, hsm2⟩ := HPR.out vs
        have KA : Gives 34 #[.agg #[.string (dec (askV (gnet l) ev done).1), .string (dec (askV (gnet l) ev done).2)], .agg #[.string (dec (prodV (gnet l) vs l.length).1), .string (dec (prodV (gnet l) vs l.length).2)]] (.agg #[.string (dec (Q.add (askV (gnet l) ev done) (prodV (gnet l) vs l.length)).1), .string (dec (Q.add (askV (gnet l) ev done) (prodV (gnet l) vs l.length)).2)]) := gXAdd3 _ _ (hsm.mono (by omega)) (hsm2.mono (by omega)) hlow hlow2
        have KP : ∀ z : World, Below w.heap.size w z → z.heap[gV]? = some (.cells (natsI vs).toArray 3 (0, 0)) → GivesFrom z 54 #[.slice a l.length c, .slice (some ⟨gV, 0, none⟩) vs.length vs.length] (.agg #[.string (dec (prodV (gnet l) vs l.length).1), .string (dec (prodV (gnet l) vs l.length).2)]) := fun z hz mz w' hb =>
          xproduct_law z.heap.size l vs a (some ⟨gV, 0, none⟩) c vs.length HL.out HG.out HFT.out w' (((HN.out.below hz (Nat.le_refl _)).mono hz.size).below hb (Nat.le_refl _)) ((natsI_cells mz).below hb (Nat.le_refl _)) hb.size
        have hgSl : gS < w6.heap.size := lt_of_heap H56.out
        rw [show (gnet l).length = l.length by simp [gnet]] at HAS
        generalize hP : prodV (gnet l) vs l.length = P at *
        generalize hSS : askV (gnet l) ev done = S at *
        generalize hS2 : Q.add S P = S2 at *
        clear hag hlow hsm hlow2 hsm2 hP hSS
        rw [HLV.out] at KP
        go_wp2_with fail
        refine wp_game [1, 0, 0, 0, 0, 2] [gS] _ (Fin.put fin_B0 _ _) (has_put (has_B0 _) H56.out) (by kernel_rfl) (by kernel_rfl) ?_
        refine lex_readE 1 w6 (Behind.refl _ _) (has_put (has_B0 _) H56.out) (by kernel_rfl) (by rfl) ?_
        apply Exists.intro
        refine ⟨fun z hz hB => ?_, ?_⟩
        · have g0 := blk_cellp (hB gS _ (Blocks.put_same _ _ _)) 0 rfl
          have g1 := blk_cellp (hB gS _ (Blocks.put_same _ _ _)) 1 rfl
          clear hz hB
          simp only [List.take_succ_cons, List.take_zero]
          unfold Cx
          repeat (go_big_quiet_step (fail))
          exact wpQuiet_nil rfl
        simp only [List.drop_succ_cons, List.drop_zero]
        refine lex_quietE 4 (by kernel_rfl) (by rfl) ?_
        apply Exists.intro
        refine ⟨fun z hz => ?_, ?_⟩
        · have hwz := HB6.out.trans (hz.below_of (b := w.heap.size) (by intro k hk; rw [List.mem_singleton.1 hk]; exact hlS) HB6.out.size)
          have hmz := hz.keep HV6.out (by simp; omega)
          have KPz := KP z hwz hmz
          clear hz
          simp only [List.take_succ_cons, List.take_zero]
          unfold Cx
          repeat (go_big_quiet_step (first | with_reducible exact KPz.at _ | with_reducible exact KA.at _ _))
          exact wpQuiet_nil rfl
        simp only [List.drop_succ_cons, List.drop_zero]
        refine lex_store_all gS #[.string (dec S2.1), .string (dec S2.2)] _ _ (by rfl) (by rfl) (by rfl) (Blocks.put_same _ _ _) (by rfl) (.inl (by simp)) (by kernel_rfl) (by simp [Value.oneCell']) ?_
        refine lex_nil ?_
        intro x7 hx7 hH7
        have m57 := hH7 gS _ (Blocks.put_same _ _ _)
        have M57 := Lib.hid m57
        have MV7 := Lib.hid (hx7.keep HV6.out (by simp; omega))
        have M47 := Lib.hid (hx7.keep H46.out (by simp; omega))
        have HB7 := Lib.hid (HB6.out.trans (hx7.below_of (b := w.heap.size) (by intro k hk; rw [List.mem_singleton.1 hk]; exact hlS) HB6.out.size))
        clear hx7 hH7 m57 H56 H46 HB6 HV6 KA KP
        go_wp2_with fail
        rw [← HLV.out]
        have h1 : l.length ≤ 100 := by omega
        have KN := xnext_law w.heap.size l vs a c gV l.length h1 HVL.out HVK.out x7 (HN.out.below HB7.out (Nat.le_refl _)) HB7.out.size hlV MV7.out
        rw [HVL.out] at KN
        refine KN.mono ?_
        rintro r8 w8 ⟨rfl, hv8, hx8⟩
        have M58 := Lib.hid (hx8.keep M57.out (by simp; omega))
        have M48 := Lib.hid (hx8.keep M47.out (by simp; omega))
        have HB8 := Lib.hid (HB7.out.trans (hx8.below_of (b := w.heap.size) (by intro k hk; rw [List.mem_singleton.1 hk]; exact hlV) HB7.out.size))
        rw [ksR_of, HNX.out] at hv8 ⊢
        have HV8 := Lib.hid hv8
        clear h1 KN hx8 hv8 MV7 M57 M47 HB7
        cases rest with
        | nil =>
          go_wp2_with fail
          go_roundg 0
          case measure => omega
          case rel => exact ⟨done ++ [vs], [], HA2, by simp, .inr ⟨rfl, rfl⟩, by rw [HAS.out]; exact M58, M48, HB8⟩
        | cons u rest =>
          go_wp2_with fail
          go_roundg (rest.length + 1)
          case measure => rw [List.length_cons] at hkr; omega
          case rel => exact ⟨done ++ [vs], u :: rest, HA2, by simp, .inl ⟨u, rest, rfl, rfl, HV8⟩, by rw [HAS.out]; exact M58, M48, HB8⟩

    · have hAd : done = A := by rw [HD.out, HTD.out]; simp
      subst hAd
      have c50 := blk_cell H5.out 0 rfl
      have c51 := blk_cell H5.out 1 rfl
      have c40 := blk_cell H4.out 0 rfl
      have c41 := blk_cell H4.out 1 rfl
      have f40 := blk_free H4.out 0
      have f41 := blk_free H4.out 1
      obtain ⟨S, hS⟩ : ∃ S, S = askV (gnet l) ev done := ⟨_, rfl⟩
      rw [← hS] at c50 c51
      have HS := Lib.hid hS
      clear hS
      have hw1 := wrote_cell (o := 0) (.string (dec S.1)) H4.out
      have hw2 := wrote_cell (o := 1) (.string (dec S.2)) hw1.here
      have HW2 := Lib.hid hw2
      have HW1 := Lib.hid hw1
      have hbx : w.heap.size ≤ wr.heap.size := HB.out.size
      clear hw1 hw2
      go_wp2_with fail
      have m9 := HW2.out.here
      have c90 := blk_cell m9 0 (v := .string (dec S.1)) (by simp)
      have c91 := blk_cell m9 1 (v := .string (dec S.2)) (by simp)
      have HB9 := HB.out.trans ((((Behind.refl wr [w.heap.size]).wrote HW1.out (.inl (by simp))).wrote HW2.out (.inl (by simp))).below_of (b := w.heap.size) (by intro k hk; rw [List.mem_singleton.1 hk]; exact Nat.le_refl _) hbx)
      exact bodyPost_ret (v := .agg #[.string (dec S.1), .string (dec S.2)]) (by simp [results, Tryz.results25, go_sem, c90, c91]) rfl ⟨by rw [HS.out], HB9⟩
end Go.Proofs.YtbacloneddnaeaaGreat

/- censusref40.Ask; BayesAsks: the walk. -/
namespace Go.Proofs.YtbacloneddnaeaaGreat
open Go.RowKit Go.Shelf Num

theorem Kn.mk0 {w0 W : World} (h : Below w0.heap.size w0 W) : Kn w0 [] [] [] W := ⟨h, by simp, by simp, by simp⟩

theorem Kn.keepN {w0 : World} {ns : List (Option Addr × List BV)} {bs : List (Nat × Obj)} {ls : List (Option Addr × List Value)} {W : World} {a : Option Addr} {l : List RV} (h : Kn w0 ns bs ls W) (hN : RefAt w0.heap.size w0 a l) : RefAt W.heap.size W a l := (hN.below h.be (Nat.le_refl _)).mono h.be.size

end Go.Proofs.YtbacloneddnaeaaGreat
