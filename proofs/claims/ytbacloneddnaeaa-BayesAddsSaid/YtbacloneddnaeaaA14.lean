/- Texts of this claim, joined: LGive, XRead, XFns, BFns. -/
import Derived.Test.YtbacloneddnaeaaA12
import Derived.Test.YtbacloneddnaeaaA13
import Derived.Test.YtbacloneddnaeaaA08
import Derived.Test.YtbacloneddnaeaaA01
import Derived.Test.YtbacloneddnaeaaA03

/- The contracts in one spelling. -/
namespace Go.Proofs.Ytbacloneddnaeaa
open Go.RowKit Num

/-- From whatever world: this value; nothing old is written. -/
def Gives (f : FuncId) (args : Array Value) (v : Value) : Prop := ∀ w : World, Calls Try.prog f args w fun e w' => e = .returned v ∧ Below w.heap.size w w'

theorem Gives.at {f : FuncId} {args : Array Value} {v : Value} (h : Gives f args v) (w : World) (p : Extra) : Calls Try.prog f args (plus w p) fun e w'' => e = .returned v ∧ ∃ q, w'' = plus w q := calls_plus (h _)

/-- The same from the worlds behind this one. -/
def GivesFrom (w : World) (f : FuncId) (args : Array Value) (v : Value) : Prop := ∀ w' : World, Below w.heap.size w w' → Calls Try.prog f args w' fun e w2 => e = .returned v ∧ Below w'.heap.size w' w2

theorem GivesFrom.at {w : World} {f : FuncId} {args : Array Value} {v : Value} (h : GivesFrom w f args v) (p : Extra) : Calls Try.prog f args (plus w p) fun e w'' => e = .returned v ∧ ∃ q, w'' = plus w q := calls_plus (h _ (below_plus w p))

theorem GivesFrom.at2 {w x : World} {f : FuncId} {args : Array Value} {v : Value} (h : GivesFrom w f args v) (hb : Below w.heap.size w x) (p : Extra) : Calls Try.prog f args (plus x p) fun e w'' => e = .returned v ∧ ∃ q, w'' = plus x q :=
  calls_plus (h _ (hb.trans ((below_plus x p).mono hb.size)))

theorem gOf (n : Nat) (h : n < 18446744073709551616) : Gives 43 #[.int .u64 (n : Nat)] (natV n) := of_any n h
theorem gDiv (a b : Nat) (ha : nl a ≤ 536870912) (hb : nl b ≤ 536870912) (h0 : b ≠ 0) : Gives 95 #[natV a, natV b] (.tuple #[natV (a / b), natV (a % b), .bool true]) := div_pos a b ha hb h0
theorem gDivZ (a : Nat) (ha : nl a ≤ 536870912) : Gives 95 #[natV a, natV 0] (.tuple #[natV 0, natV 0, .bool false]) := div_zero a (by omega)
theorem gMul (a b : Nat) (ha : nl a ≤ 1073741824) (hb : nl b ≤ 1073741824) : Gives 61 #[natV a, natV b] (natV (a * b)) := mul_any a b ha hb
theorem gAdd (a b : Nat) (ha : nl a ≤ 1073741824) (hb : nl b ≤ 1073741824) : Gives 66 #[natV a, natV b] (natV (a + b)) := add_any a b ha hb
theorem gGcd (a b : Nat) (ha : nl a ≤ 536870912) (hb : nl b ≤ 536870912) : Gives 94 #[natV a, natV b] (natV (Nat.gcd a b)) := gcd_any a b ha hb
theorem gCmp (a b : Nat) (ha : nl a ≤ 1099511627776) (hb : nl b ≤ 1099511627776) : Gives 41 #[natV a, natV b] (.int .i64 (cmpI a b)) := cmp_any a b ha hb
theorem gText (a : Nat) (ha : nl a ≤ 1073741824) : Gives 44 #[natV a] (.string (dec a)) := text_any a ha
theorem gRead (s : ByteArray) (h : s.size ≤ 1099511627776) : Gives 69 #[.string s] (.tuple #[natV ((readN (bts s)).getD 0), .bool (readN (bts s)).isSome]) := read_any s h

theorem nb_ne {a b : Nat} (h : a ≠ b) : nb a ≠ nb b := fun e => h (nb_inj e)

theorem boxes1 (w : World) (x : ByteArray) : ∃ w', w' = w.alloc (Obj.cells #[Value.string x] 32) ∧
    w'.cell? ⟨w.heap.size, 0, none⟩ = some (.string x) ∧ w'.heap.size = w.heap.size + 1 ∧ Below w.heap.size w w' :=
  ⟨_, rfl, by simp [go_sem], by simp, (Below.refl _ w).alloc (Nat.le_refl _) _⟩

theorem boxes2 (w : World) (x y : ByteArray) : ∃ w', w' = (w.alloc (Obj.cells #[Value.string x] 32)).alloc (Obj.cells #[Value.string y] 32) ∧
    w'.cell? ⟨w.heap.size, 0, none⟩ = some (.string x) ∧ w'.cell? ⟨w.heap.size + 1, 0, none⟩ = some (.string y) ∧ w'.heap.size = w.heap.size + 2 ∧ Below w.heap.size w w' :=
  ⟨_, rfl, by simp [go_sem], by simp [go_sem], by simp, ((Below.refl _ w).alloc (Nat.le_refl _) _).alloc (by simp) _⟩

theorem boxes3 (w : World) (x y z : ByteArray) : ∃ w', w' = ((w.alloc (Obj.cells #[Value.string x] 32)).alloc (Obj.cells #[Value.string y] 32)).alloc (Obj.cells #[Value.string z] 32) ∧
    w'.cell? ⟨w.heap.size, 0, none⟩ = some (.string x) ∧ w'.cell? ⟨w.heap.size + 1, 0, none⟩ = some (.string y) ∧ w'.cell? ⟨w.heap.size + 1 + 1, 0, none⟩ = some (.string z) ∧ w'.heap.size = w.heap.size + 3 ∧ Below w.heap.size w w' :=
  ⟨_, rfl, by simp [go_sem], by simp [go_sem], by simp [go_sem], by simp, (((Below.refl _ w).alloc (Nat.le_refl _) _).alloc (by simp) _).alloc (by simp; omega) _⟩

end Go.Proofs.Ytbacloneddnaeaa

/- The reference's Read (chapter 01). -/
namespace Go.Proofs.Ytbacloneddnaeaa
open Go.RowKit Num

def XReadPost (s : ByteArray) (w : World) (e : Ending) (w' : World) : Prop :=
  e = .returned (.tuple #[.string (if decOk (bts s) then s else { data := #[48] }), .bool (decOk (bts s))]) ∧ w = w'

theorem xread_no {s : ByteArray} {w : World} (h : decOk (bts s) = false) : XReadPost s w (.returned (.tuple #[.string { data := #[48] }, .bool false])) w :=
  ⟨by rw [h]; rfl, rfl⟩
theorem xread_yes {s : ByteArray} {w : World} (h : decOk (bts s) = true) : XReadPost s w (.returned (.tuple #[.string s, .bool true])) w :=
  ⟨by rw [h]; rfl, rfl⟩

set_option maxHeartbeats 400000 in
set_option maxRecDepth 100000 in
theorem xread_bad1 (s : ByteArray) (hs : s.size = 0 ∨ 2000 < s.size) (hs2 : s.size ≤ 9223372036854775807) (w : World) :
    Calls Try.prog 106 #[.string s] w (XReadPost s w) := by
  have HP : Hid (decOk (bts s) = false) := by
    have hsz := bts_length s
    rcases hs with h | h
    · rw [List.eq_nil_of_length_eq_zero (hsz.trans h)]; rfl
    · exact decOk_long (by omega)
  rcases hs with h | h
  · have hb : ((s.size : Int) == 0) = true := beq_yes (by omega)
    clear h
    go_enter Try.func106, Try.ntmps106
    go_wp2_with fail
    go_ret2
    exact xread_no HP.out
  · have hb : ((s.size : Int) == 0) = false := beq_no (by omega)
    go_enter Try.func106, Try.ntmps106
    go_wp2_with fail
    go_ret2
    exact xread_no HP.out

set_option maxHeartbeats 400000 in
set_option maxRecDepth 100000 in
theorem xread_bad2 (s : ByteArray) (hs : 1 < s.size) (hs2 : s.size ≤ 2000) (h0 : s[0].toNat = 48) (w : World) :
    Calls Try.prog 106 #[.string s] w (XReadPost s w) := by
  have HP : Hid (decOk (bts s) = false) := decOk_zero (by rw [bts_length]; exact hs) (by rw [bts_getD s 0 (by omega)]; exact h0)
  have hb : ((s.size : Int) == 0) = false := beq_no (by omega)
  have hz : ((s[0].toNat : Int) == 48) = true := by simp [h0]
  clear h0
  go_enter Try.func106, Try.ntmps106
  go_wp2_with fail
  go_ret2
  exact xread_no HP.out

set_option maxHeartbeats 1600000 in
set_option maxRecDepth 100000 in
theorem xread_loop (s : ByteArray) (hs : 0 < s.size) (hs2 : s.size ≤ 2000) (h0 : s.size ≤ 1 ∨ s[0].toNat ≠ 48) (w : World) :
    Calls Try.prog 106 #[.string s] w (XReadPost s w) := by
  have hsz := bts_length s
  have hb : ((s.size : Int) == 0) = false := beq_no (by omega)
  have hz : 1 < s.size → ((s[0].toNat : Int) == 48) = false := read_test s hs h0
  have HOK := Lib.hid (fun (h4 : ∀ j, j < (bts s).length → 48 ≤ (bts s).getD j 0 ∧ (bts s).getD j 0 ≤ 57) =>
    decOk_all (l := bts s) (by intro e; rw [e] at hsz; simp at hsz; omega) (by omega) (by rw [hsz, bts_getD s 0 hs]; exact h0) h4)
  clear h0
  go_enter Try.func106, Try.ntmps106
  by_cases h1 : 1 < s.size
  all_goals
    first
      | (have hz := hz h1)
      | (clear hz)
    go_wp2_with fail
    go_loop [4] (fun i => ∃ k : Nat, k ≤ s.size ∧ i = .int .i64 (k : Nat) ∧ Hid (∀ j, j < k → 48 ≤ (bts s).getD j 0 ∧ (bts s).getD j 0 ≤ 57))
      (fun i => s.size - (intOf i).toNat)
    case atStart => exact ⟨0, Nat.zero_le _, rfl, fun j hj => by omega⟩
    case round =>
      obtain ⟨k, hk, rfl, HD⟩ := hrel
      by_cases hlt : k < s.size
      · have hc := bts_getD s k hlt
        have HCH := Lib.hid (fun h => decOk_char (l := bts s) (k := k) (by omega) h)
        have HDG : Hid (48 ≤ (bts s).getD k 0 ∧ (bts s).getD k 0 ≤ 57 → ∀ j, j < k + 1 → 48 ≤ (bts s).getD j 0 ∧ (bts s).getD j 0 ≤ 57) := by
          intro h j hj
          by_cases hjk : j = k
          · rw [hjk]; exact h
          · exact HD.out j (by omega)
        rw [hc] at HCH HDG
        clear hc
        by_cases hbad : s[k].toNat < 48 ∨ 57 < s[k].toNat
        · have HP : Hid (decOk (bts s) = false) := HCH.out hbad
          clear HCH
          rcases hbad with hbad | hbad
          all_goals
            go_wp2_with fail
            go_ret2
            exact xread_no HP.out
        · clear HCH
          have hlo : 48 ≤ s[k].toNat := by omega
          have hhi : s[k].toNat ≤ 57 := by omega
          clear hbad
          go_wp2_with fail
          go_round
          case rel => exact ⟨k + 1, by omega, by go_num, HDG.out ⟨hlo, hhi⟩⟩
          case measure => simp [intOf]; omega
      · obtain rfl : k = s.size := by omega
        have HP : Hid (decOk (bts s) = true) := HOK.out (fun j hj => HD.out j (by omega))
        go_wp2_with fail
        go_ret2
        exact xread_yes HP.out

theorem gXRead (s : ByteArray) (hs : s.size ≤ 9223372036854775807) : Gives 106 #[.string s] (.tuple #[.string (if decOk (bts s) then s else { data := #[48] }), .bool (decOk (bts s))]) := fun w => by
  have h : Calls Try.prog 106 #[.string s] w (XReadPost s w) := by
    by_cases h0 : s.size = 0 ∨ 2000 < s.size
    · exact xread_bad1 s h0 hs w
    · by_cases h1 : 1 < s.size
      · by_cases h2 : s[0].toNat = 48
        · exact xread_bad2 s h1 (by omega) h2 w
        · exact xread_loop s (by omega) (by omega) (.inr h2) w
      · exact xread_loop s (by omega) (by omega) (.inl (by omega)) w
  exact h.mono fun e w' ⟨h1, h2⟩ => ⟨h1, h2 ▸ Below.refl _ _⟩

end Go.Proofs.Ytbacloneddnaeaa

/- The walks of the laws' own functions (chapter 02). -/
namespace Go.Proofs.Ytbacloneddnaeaa
open Go.RowKit Num

end Go.Proofs.Ytbacloneddnaeaa

/- Small functions of chapter 40. -/
namespace Go.Proofs.Ytbacloneddnaeaa
open Go.RowKit Num

set_option maxHeartbeats 1600000 in
set_option maxRecDepth 100000 in
theorem w_bone (a1 a2 : ByteArray) (ok : Bool) (KO : Gives 25 #[.int .u64 1, .int .u64 1] (.tuple #[.agg #[.string a1, .string a2], .bool ok])) : Gives 45 #[] (.agg #[.string a1, .string a2]) := by
  intro w
  have HB0 := Lib.hid (Below.refl w.heap.size w)
  go_enter Try.func45, Try.ntmps45
  go_wp2_with (with_reducible refine wpList_from 0 [3] [] B0 (has_B0 _) ?_)
  refine lex_alloc (.agg #[.string ByteArray.empty, .string ByteArray.empty]) (by rfl) (fun x => by kernel_rfl) (fun g0 q0 hn0 => ?_)
  unfold setSlot
  go_big_quiet_step (fail)
  refine wpQuiet_nil ?_
  clear hn0
  refine lex_nil ?_
  intro w1 hx hH
  have m0 := hH g0 _ (Blocks.put_same _ _ _)
  have HB1 := Lib.hid (HB0.out.trans (hx.below_of (b := w.heap.size) (by simp) HB0.out.size))
  replace q0 := Nat.le_trans HB0.out.size q0
  clear hx hH HB0
  go_wp2_with (with_reducible refine wpList_from 4 [0, 0, 0, 0, 3, 2, 0] [] B0 (has_B0 _) ?_)
  refine lex_quietE 4 (by kernel_rfl) (by rfl) ?_
  apply Exists.intro
  refine ⟨fun x hx => ?_, ?_⟩
  · have hwx := HB1.out.trans (hx.below_of (b := w.heap.size) (by simp) HB1.out.size)
    clear hx
    simp only [List.take_succ_cons, List.take_zero]
    unfold Cx
    repeat (go_big_quiet_step (first | with_reducible exact KO.at _ _))
    exact wpQuiet_nil rfl
  simp only [List.drop_succ_cons, List.drop_zero]
  refine lex_alloc (.agg #[.string ByteArray.empty, .string ByteArray.empty]) (by rfl) (fun x => by kernel_rfl) (fun g1 q1 hn1 => ?_)
  unfold setSlot
  go_big_quiet_step (fail)
  refine wpQuiet_nil ?_
  clear hn1
  have n1_0 : g1 ≠ g0 := Nat.ne_of_gt (Nat.lt_of_lt_of_le (lt_of_heap m0) q1)
  refine lex_store_all g1 _ _ _ (by rfl) (by rfl) (by rfl) (Blocks.put_same _ _ _) (by rfl) (Or.inr q1) (by kernel_rfl) (by simp [Value.oneCell']) ?_
  refine lex_quietE 1 (by kernel_rfl) (by rfl) ?_
  apply Exists.intro
  refine ⟨fun x hx => ?_, ?_⟩
  · have hwx := HB1.out.trans (hx.below_of (b := w.heap.size) (by simp) HB1.out.size)
    clear hx
    simp only [List.take_succ_cons, List.take_zero]
    unfold Cx
    repeat (go_big_quiet_step (first | with_reducible exact KO.at _ _))
    exact wpQuiet_nil rfl
  simp only [List.drop_succ_cons, List.drop_zero]
  refine lex_nil ?_
  intro w2 hx hH
  have m1 := hH g1 _ (Blocks.put_same _ _ _)
  replace m0 := hx.keep m0 (by simp)
  have HB2 := Lib.hid (HB1.out.trans (hx.below_of (b := w.heap.size) (by simp) HB1.out.size))
  replace q1 := Nat.le_trans HB1.out.size q1
  clear hx hH HB1
  go_wp2_with (with_reducible refine wpList_from 7 [0, 2] [g0] _ (has_put (has_B0 _) m0) ?_)
  refine lex_quietE 1 (by kernel_rfl) (by rfl) ?_
  apply Exists.intro
  refine ⟨fun x hx => ?_, ?_⟩
  · have hwx := HB2.out.trans (hx.below_of (b := w.heap.size) (by simp [q0]) HB2.out.size)
    have e1_0 := blk_cellp (hx.keep m1 (by simp [n1_0])) 0 rfl
    have e1_1 := blk_cellp (hx.keep m1 (by simp [n1_0])) 1 rfl
    clear hx
    simp only [List.take_succ_cons, List.take_zero]
    unfold Cx
    repeat (go_big_quiet_step (fail))
    exact wpQuiet_nil rfl
  simp only [List.drop_succ_cons, List.drop_zero]
  refine lex_store_all g0 _ _ _ (by rfl) (by rfl) (by rfl) (Blocks.put_same _ _ _) (by rfl) (Or.inl (by simp)) (by kernel_rfl) (by simp [Value.oneCell']) ?_
  refine lex_nil ?_
  intro w3 hx hH
  replace m0 := hH g0 _ (Blocks.put_same _ _ _)
  have HB3 := Lib.hid (HB2.out.trans (hx.below_of (b := w.heap.size) (by simp [q0]) HB2.out.size))
  clear hx hH HB2 m1 q1
  have c0_0 := blk_cell m0 0 rfl
  have c0_1 := blk_cell m0 1 rfl
  go_wp2_with fail
  exact bodyPost_ret (v := .agg #[.string a1, .string a2]) (by simp [results, Try.results45, go_sem, c0_0, c0_1]) rfl ⟨rfl, HB3.out⟩

set_option maxHeartbeats 1600000 in
set_option maxRecDepth 100000 in
theorem w_xnum_y (s a1 a2 : ByteArray) (KR : Gives 86 #[.string s] (.tuple #[.agg #[.string a1, .string a2], .bool true])) : Gives 51 #[.string s] (.agg #[.string a1, .string a2]) := by
  intro w
  have HB0 := Lib.hid (Below.refl w.heap.size w)
  go_enter Try.func51, Try.ntmps51
  go_wp2_with (with_reducible refine wpList_from 2 [3] [] B0 (has_B0 _) ?_)
  refine lex_alloc (.agg #[.string ByteArray.empty, .string ByteArray.empty]) (by rfl) (fun x => by kernel_rfl) (fun g2 q2 hn2 => ?_)
  unfold setSlot
  go_big_quiet_step (fail)
  refine wpQuiet_nil ?_
  clear hn2
  refine lex_nil ?_
  intro w1 hx hH
  have m2 := hH g2 _ (Blocks.put_same _ _ _)
  have HB1 := Lib.hid (HB0.out.trans (hx.below_of (b := w.heap.size) (by simp) HB0.out.size))
  replace q2 := Nat.le_trans HB0.out.size q2
  clear hx hH HB0
  go_wp2_with (with_reducible refine wpList_from 7 [0, 0, 0, 0, 3, 2, 0] [] B0 (has_B0 _) ?_)
  refine lex_quietE 4 (by kernel_rfl) (by rfl) ?_
  apply Exists.intro
  refine ⟨fun x hx => ?_, ?_⟩
  · have hwx := HB1.out.trans (hx.below_of (b := w.heap.size) (by simp) HB1.out.size)
    clear hx
    simp only [List.take_succ_cons, List.take_zero]
    unfold Cx
    repeat (go_big_quiet_step (first | with_reducible exact KR.at _ _))
    exact wpQuiet_nil rfl
  simp only [List.drop_succ_cons, List.drop_zero]
  refine lex_alloc (.agg #[.string ByteArray.empty, .string ByteArray.empty]) (by rfl) (fun x => by kernel_rfl) (fun g3 q3 hn3 => ?_)
  unfold setSlot
  go_big_quiet_step (fail)
  refine wpQuiet_nil ?_
  clear hn3
  have n3_2 : g3 ≠ g2 := Nat.ne_of_gt (Nat.lt_of_lt_of_le (lt_of_heap m2) q3)
  refine lex_store_all g3 _ _ _ (by rfl) (by rfl) (by rfl) (Blocks.put_same _ _ _) (by rfl) (Or.inr q3) (by kernel_rfl) (by simp [Value.oneCell']) ?_
  refine lex_quietE 1 (by kernel_rfl) (by rfl) ?_
  apply Exists.intro
  refine ⟨fun x hx => ?_, ?_⟩
  · have hwx := HB1.out.trans (hx.below_of (b := w.heap.size) (by simp) HB1.out.size)
    clear hx
    simp only [List.take_succ_cons, List.take_zero]
    unfold Cx
    repeat (go_big_quiet_step (first | with_reducible exact KR.at _ _))
    exact wpQuiet_nil rfl
  simp only [List.drop_succ_cons, List.drop_zero]
  refine lex_nil ?_
  intro w2 hx hH
  have m3 := hH g3 _ (Blocks.put_same _ _ _)
  replace m2 := hx.keep m2 (by simp)
  have HB2 := Lib.hid (HB1.out.trans (hx.below_of (b := w.heap.size) (by simp) HB1.out.size))
  replace q3 := Nat.le_trans HB1.out.size q3
  clear hx hH HB1
  go_wp2_with (with_reducible refine wpList_from 13 [0, 2] [g2] _ (has_put (has_B0 _) m2) ?_)
  refine lex_quietE 1 (by kernel_rfl) (by rfl) ?_
  apply Exists.intro
  refine ⟨fun x hx => ?_, ?_⟩
  · have hwx := HB2.out.trans (hx.below_of (b := w.heap.size) (by simp [q2]) HB2.out.size)
    have e3_0 := blk_cellp (hx.keep m3 (by simp [n3_2])) 0 rfl
    have e3_1 := blk_cellp (hx.keep m3 (by simp [n3_2])) 1 rfl
    clear hx
    simp only [List.take_succ_cons, List.take_zero]
    unfold Cx
    repeat (go_big_quiet_step (fail))
    exact wpQuiet_nil rfl
  simp only [List.drop_succ_cons, List.drop_zero]
  refine lex_store_all g2 _ _ _ (by rfl) (by rfl) (by rfl) (Blocks.put_same _ _ _) (by rfl) (Or.inl (by simp)) (by kernel_rfl) (by simp [Value.oneCell']) ?_
  refine lex_nil ?_
  intro w3 hx hH
  replace m2 := hH g2 _ (Blocks.put_same _ _ _)
  have HB3 := Lib.hid (HB2.out.trans (hx.below_of (b := w.heap.size) (by simp [q2]) HB2.out.size))
  clear hx hH HB2 m3 q3
  have c2_0 := blk_cell m2 0 rfl
  have c2_1 := blk_cell m2 1 rfl
  go_wp2_with fail
  exact bodyPost_ret (v := .agg #[.string a1, .string a2]) (by simp [results, Try.results51, go_sem, c2_0, c2_1]) rfl ⟨rfl, HB3.out⟩

set_option maxHeartbeats 1600000 in
set_option maxRecDepth 100000 in
theorem w_xnum_n (s a1 a2 : ByteArray) (KR : Gives 86 #[.string s] (.tuple #[.agg #[.string a1, .string a2], .bool false])) (KZ : Gives 70 #[] (.agg #[.string { data := #[48] }, .string { data := #[49] }])) : Gives 51 #[.string s] (.agg #[.string { data := #[48] }, .string { data := #[49] }]) := by
  intro w
  have HB0 := Lib.hid (Below.refl w.heap.size w)
  go_enter Try.func51, Try.ntmps51
  go_wp2_with (with_reducible refine wpList_from 2 [3] [] B0 (has_B0 _) ?_)
  refine lex_alloc (.agg #[.string ByteArray.empty, .string ByteArray.empty]) (by rfl) (fun x => by kernel_rfl) (fun g2 q2 hn2 => ?_)
  unfold setSlot
  go_big_quiet_step (fail)
  refine wpQuiet_nil ?_
  clear hn2
  refine lex_nil ?_
  intro w1 hx hH
  have m2 := hH g2 _ (Blocks.put_same _ _ _)
  have HB1 := Lib.hid (HB0.out.trans (hx.below_of (b := w.heap.size) (by simp) HB0.out.size))
  replace q2 := Nat.le_trans HB0.out.size q2
  clear hx hH HB0
  go_wp2_with (with_reducible refine wpList_from 7 [0, 0, 0, 0, 3, 2, 0] [] B0 (has_B0 _) ?_)
  refine lex_quietE 4 (by kernel_rfl) (by rfl) ?_
  apply Exists.intro
  refine ⟨fun x hx => ?_, ?_⟩
  · have hwx := HB1.out.trans (hx.below_of (b := w.heap.size) (by simp) HB1.out.size)
    clear hx
    simp only [List.take_succ_cons, List.take_zero]
    unfold Cx
    repeat (go_big_quiet_step (first | with_reducible exact KR.at _ _))
    exact wpQuiet_nil rfl
  simp only [List.drop_succ_cons, List.drop_zero]
  refine lex_alloc (.agg #[.string ByteArray.empty, .string ByteArray.empty]) (by rfl) (fun x => by kernel_rfl) (fun g3 q3 hn3 => ?_)
  unfold setSlot
  go_big_quiet_step (fail)
  refine wpQuiet_nil ?_
  clear hn3
  have n3_2 : g3 ≠ g2 := Nat.ne_of_gt (Nat.lt_of_lt_of_le (lt_of_heap m2) q3)
  refine lex_store_all g3 _ _ _ (by rfl) (by rfl) (by rfl) (Blocks.put_same _ _ _) (by rfl) (Or.inr q3) (by kernel_rfl) (by simp [Value.oneCell']) ?_
  refine lex_quietE 1 (by kernel_rfl) (by rfl) ?_
  apply Exists.intro
  refine ⟨fun x hx => ?_, ?_⟩
  · have hwx := HB1.out.trans (hx.below_of (b := w.heap.size) (by simp) HB1.out.size)
    clear hx
    simp only [List.take_succ_cons, List.take_zero]
    unfold Cx
    repeat (go_big_quiet_step (first | with_reducible exact KR.at _ _))
    exact wpQuiet_nil rfl
  simp only [List.drop_succ_cons, List.drop_zero]
  refine lex_nil ?_
  intro w2 hx hH
  have m3 := hH g3 _ (Blocks.put_same _ _ _)
  replace m2 := hx.keep m2 (by simp)
  have HB2 := Lib.hid (HB1.out.trans (hx.below_of (b := w.heap.size) (by simp) HB1.out.size))
  replace q3 := Nat.le_trans HB1.out.size q3
  clear hx hH HB1
  go_wp2_with (with_reducible refine wpList_from 12 [0, 2] [g2] _ (has_put (has_B0 _) m2) ?_)
  refine lex_quietE 1 (by kernel_rfl) (by rfl) ?_
  apply Exists.intro
  refine ⟨fun x hx => ?_, ?_⟩
  · have hwx := HB2.out.trans (hx.below_of (b := w.heap.size) (by simp [q2]) HB2.out.size)
    clear hx
    simp only [List.take_succ_cons, List.take_zero]
    unfold Cx
    repeat (go_big_quiet_step (first | with_reducible exact KZ.at _ _))
    exact wpQuiet_nil rfl
  simp only [List.drop_succ_cons, List.drop_zero]
  refine lex_store_all g2 _ _ _ (by rfl) (by rfl) (by rfl) (Blocks.put_same _ _ _) (by rfl) (Or.inl (by simp)) (by kernel_rfl) (by simp [Value.oneCell']) ?_
  refine lex_nil ?_
  intro w3 hx hH
  replace m2 := hH g2 _ (Blocks.put_same _ _ _)
  have HB3 := Lib.hid (HB2.out.trans (hx.below_of (b := w.heap.size) (by simp [q2]) HB2.out.size))
  clear hx hH HB2 m3 q3
  have c2_0 := blk_cell m2 0 rfl
  have c2_1 := blk_cell m2 1 rfl
  go_wp2_with fail
  exact bodyPost_ret (v := .agg #[.string { data := #[48] }, .string { data := #[49] }]) (by simp [results, Try.results51, go_sem, c2_0, c2_1]) rfl ⟨rfl, HB3.out⟩

set_option maxHeartbeats 1600000 in
set_option maxRecDepth 100000 in
theorem w_xone (a1 a2 : ByteArray) (KN : Gives 51 #[.string { data := #[49] }] (.agg #[.string a1, .string a2])) : Gives 73 #[] (.agg #[.string a1, .string a2]) := by
  intro w
  have HB0 := Lib.hid (Below.refl w.heap.size w)
  go_enter Try.func73, Try.ntmps73
  go_wp2_with (with_reducible refine wpList_from 0 [3] [] B0 (has_B0 _) ?_)
  refine lex_alloc (.agg #[.string ByteArray.empty, .string ByteArray.empty]) (by rfl) (fun x => by kernel_rfl) (fun g0 q0 hn0 => ?_)
  unfold setSlot
  go_big_quiet_step (fail)
  refine wpQuiet_nil ?_
  clear hn0
  refine lex_nil ?_
  intro w1 hx hH
  have m0 := hH g0 _ (Blocks.put_same _ _ _)
  have HB1 := Lib.hid (HB0.out.trans (hx.below_of (b := w.heap.size) (by simp) HB0.out.size))
  replace q0 := Nat.le_trans HB0.out.size q0
  clear hx hH HB0
  go_wp2_with (with_reducible refine wpList_from 1 [0, 2] [g0] _ (has_put (has_B0 _) m0) ?_)
  refine lex_quietE 1 (by kernel_rfl) (by rfl) ?_
  apply Exists.intro
  refine ⟨fun x hx => ?_, ?_⟩
  · have hwx := HB1.out.trans (hx.below_of (b := w.heap.size) (by simp [q0]) HB1.out.size)
    clear hx
    simp only [List.take_succ_cons, List.take_zero]
    unfold Cx
    repeat (go_big_quiet_step (first | with_reducible exact KN.at _ _))
    exact wpQuiet_nil rfl
  simp only [List.drop_succ_cons, List.drop_zero]
  refine lex_store_all g0 _ _ _ (by rfl) (by rfl) (by rfl) (Blocks.put_same _ _ _) (by rfl) (Or.inl (by simp)) (by kernel_rfl) (by simp [Value.oneCell']) ?_
  refine lex_nil ?_
  intro w2 hx hH
  replace m0 := hH g0 _ (Blocks.put_same _ _ _)
  have HB2 := Lib.hid (HB1.out.trans (hx.below_of (b := w.heap.size) (by simp [q0]) HB1.out.size))
  clear hx hH HB1
  have c0_0 := blk_cell m0 0 rfl
  have c0_1 := blk_cell m0 1 rfl
  go_wp2_with fail
  exact bodyPost_ret (v := .agg #[.string a1, .string a2]) (by simp [results, Try.results73, go_sem, c0_0, c0_1]) rfl ⟨rfl, HB2.out⟩

end Go.Proofs.Ytbacloneddnaeaa
