/- Texts of this claim, joined: X4, X5. -/
import Derived.Test.YtajjgfiojlagmaaGreatDoorMZ34
import Derived.Test.YtajjgfiojlagmaaGreatDoorMZ35
import Derived.Deep.DeepCutAuto
import Derived.Test.YtajjgfiojlagmaaGreatDoorMZ32
import Derived.Test.YtajjgfiojlagmaaGreatDoorMZ23

/- The reference's Print. -/
namespace Go.Proofs.YtajjgfiojlagmaaGreatDoor
open Go.RowKit

section
variable {P : Program}
theorem append_nilm (w : World) (t tx ty E : TypeId) (i : TypeInfo) (z : Value) (ht : P.underlying t = some (.slice E)) (hi : P.info? E = some i) (hz : i.zero = some z) (hsize : i.size = 1) (hby : i.bytes = 1) (hzs : z.cells.size = 1)
    (b : Nat) (hb : b ≤ w.heap.size) (x : Value) (m : Nat) (news : List Value) (hs : Src P 1 tx x m news w) (h0 : 0 < m) (h63 : m ≤ maxLen) (hbytes : m ≤ 140737488355328) :
    ∃ v' w', (Builtin.append_ #[t, tx] ty #[.slice none 0 0, x]).run P w = .ok v' w' ∧ OwnM w' b v' m news ∧ Below b w w' := by
  have hnl : news.length = m := by have := hs.newsLen; omega
  have hs' : Src P i.size tx x m news w := by rw [hsize]; exact hs
  have hold : (Builtin.firstCells i.size 0 (.slice none 0 0)).run P w.drew = .ok ([] : List Value).toArray w.drew := by rfl
  have hr := run_append_grow_src (P := P) w t tx ty E i z ht hi hz none 0 0 [] hold x m news hs' (by omega) (by simp only [maxLen] at h63; omega) (growslice_fits (by omega) (by rw [hby, Nat.mul_one]; omega))
  rw [Nat.zero_add, List.nil_append] at hr
  have hge := grownCap_ge w m 0 E
  have hnew : (w.drew.alloc (.cells (news.toArray ++ Builtin.zeroCells z.cells (grownCap w m 0 E - m)) E)).heap[w.heap.size]? = some (.cells (news.toArray ++ Builtin.zeroCells z.cells (grownCap w m 0 E - m)) E (0, 0)) := heap_alloc_new w.drew _
  have hsz : (news.toArray ++ Builtin.zeroCells z.cells (grownCap w m 0 E - m)).size = grownCap w m 0 E := by
    simp only [Array.size_append, List.size_toArray, size_zeroCells, hzs, hnl]
    omega
  refine ⟨_, _, hr, ⟨w.heap.size, _, rfl, hb, by simp, hge, grownCap_le_maxLen w m 0 E h63, hnl, fun j u hj => ?_, fun j hj => ⟨?_, blk_free hnew j⟩⟩, (Below.refl b w).drew.alloc hb _⟩
  · refine blk_cell hnew j ?_
    rw [Array.getElem?_append_left (by have := (List.getElem?_eq_some_iff.1 hj).1; simpa using this)]
    simpa using hj
  · rw [blk_cell hnew j (Array.getElem?_eq_getElem (by rw [hsz]; exact hj))]; rfl
theorem wpList_append_nilm {ops : Array Oper} {rest : List Oper} {o : Oper} {a : Act} {Q : Exit → Act → World → Prop} (w : World) (hgd : o.guard = none) (s x : Operand) (t tx : TypeId) (ho : o.op = .call { callee := .builtin .append, args := #[s, x], argTypes := #[t, tx] })
    (E : TypeId) (i : TypeInfo) (z : Value) (ht : P.underlying t = some (.slice E)) (hi : P.info? E = some i) (hz : i.zero = some z) (hsize : i.size = 1) (hby : i.bytes = 1) (hzs : z.cells.size = 1)
    (b : Nat) (hsv : a.eval s = .slice none 0 0) (hb : b ≤ w.heap.size) (xv : Value) (m : Nat) (news : List Value) (hx : a.eval x = xv) (hs : Src P 1 tx xv m news w) (h0 : 0 < m) (h63 : m ≤ maxLen) (hbytes : m ≤ 140737488355328)
    (h : ∀ v' w', OwnM w' b v' m news → Below b w w' → wpList P ops Q rest (a.put o.dst v') w') : wpList P ops Q (o :: rest) a w := by
  refine wpList_plain hgd fun _ hK => ?_
  obtain ⟨v', w', hr, h2, h3⟩ := append_nilm (P := P) w t tx o.type E i z ht hi hz hsize hby hzs b hb xv m news hs h0 h63 hbytes
  unfold Oper.wp execOp
  simp only [ho, resolve, invoke, builtin, Sem.run_bind, Sem.run_pure, Result.andThen_ok, List.map_toArray, List.map_cons, List.map_nil, hsv, hx, hr]
  exact hK _ _ (h v' w' h2 h3)
end

set_option maxHeartbeats 6400000 in
set_option maxRecDepth 100000 in
theorem xPrint (n : Int) (L : List (List Int)) (sh : List Int) (ws : List (Int × List UInt8)) (aL aS aW : Option Addr) (cL cS cW : Nat) (w : World) (hA : FileAt w.heap.size w aL aS aW L sh ws) (hv : ∀ x ∈ ws, x.2.length ≤ 20000) (hsl : sh.length ≤ 20000) (hwl : ws.length ≤ 20000) (hcS : sh.length ≤ cS) (hcW : ws.length ≤ cW) :
    Calls Tryz.prog 9 #[.agg #[.int .i64 n, .slice aL L.length cL, .slice aS sh.length cS, .slice aW ws.length cW]] w fun e w' => e = .returned (.tuple #[.string ⟨(printD rdD n L sh ws).1.toArray⟩, .int .i64 (printD rdD n L sh ws).2]) ∧ Below w.heap.size w w' := by
  obtain ⟨R, hR⟩ : ∃ R, R = printD rdD n L sh ws := ⟨_, rfl⟩
  rw [← hR]
  have HR := Lib.hid (show R = if checkD rdD n L sh ws ≠ 0 then ([], checkD rdD n L sh ws) else if 1048576 < (ptB n L sh ws).length then ([], 2) else (ptB n L sh ws, 0) from hR)
  obtain ⟨Post, hPost⟩ : ∃ P : Ending → World → Prop, P = fun e w' => e = .returned (.tuple #[.string ⟨R.1.toArray⟩, .int .i64 R.2]) ∧ Below w.heap.size w w' := ⟨_, rfl⟩
  rw [← hPost]
  have HP := Lib.hid hPost
  have HA := Lib.hid hA
  have HV := Lib.hid hv
  clear hPost hR hA
  go_enter Tryz.func9, Tryz.ntmps9
  go_upto_region 1 with fail
  refine wp_gen ?_
  intro w1 hw1
  have S1 := Lib.hid (show w1.heap[w.heap.size]? = some (.cells #[.int .i64 n, .slice aL L.length cL, .slice aS sh.length cS, .slice aW ws.length cW] 37 (0, 0)) by rw [hw1]; exact new_one _ _)
  have HB1 := Lib.hid (show Below w.heap.size w w1 by rw [hw1]; exact below_one _ _)
  clear hw1
  have KC := xCheckF n L sh ws aL aS aW cL cS cW w1 ((HA.out.below HB1.out (Nat.le_refl _)).mono HB1.out.size) (fun x hx => by have := hv x hx; omega) (by omega) (by omega) hcS hcW
  have q0 := blk_cell S1.out 0 rfl
  have q1 := blk_cell S1.out 1 rfl
  have q2 := blk_cell S1.out 2 rfl
  have q3 := blk_cell S1.out 3 rfl
  go_wp2_with fail
  refine KC.mono ?_
  rintro e w2 ⟨rfl, hB⟩
  have HB2 := Lib.hid (HB1.out.trans (hB.mono HB1.out.size))
  have S2 := Lib.hid ((behind_of_below hB).keep S1.out (by simp))
  clear hB KC q0 q1 q2 q3 S1 HB1
  by_cases hck : checkD rdD n L sh ws ≠ 0
  · have hb1 : (checkD rdD n L sh ws != 0) = true := by simp [bne, beq_no hck]
    have HF := Lib.hid (HR.out.trans (if_pos hck))
    generalize checkD rdD n L sh ws = tc at *
    clear hck
    go_wp2_with fail
    rw [HP.out, HF.out]
    exact ⟨rfl, HB2.out⟩
  have hckz : checkD rdD n L sh ws = 0 := Decidable.not_not.1 hck
  have hok := checkD_ok.1 hckz
  have HR2 := Lib.hid (HR.out.trans (if_neg hck))
  rw [hckz]
  have hn5 : -100000 < n ∧ n < 100000 := by have := hok.n0; have := hok.n1; omega
  have hm5 : -100000 < ((L.length : Nat) : Int) ∧ ((L.length : Nat) : Int) < 100000 := by have := hok.l; omega
  have HS5 := Lib.hid (show ∀ z ∈ sh, -100000 < z ∧ z < 100000 from fun z hz => by have := hok.shr z hz; have := hok.n1; omega)
  have HW5 := Lib.hid (show ∀ x ∈ ws, (-100000 < x.1 ∧ x.1 < 100000) ∧ x.2.length ≤ 20000 from fun x hx => by have h1 := validD_in hok.n1 (hok.wsr x hx).1; exact ⟨by omega, hv x hx⟩)
  have HL5 := Lib.hid (show ∀ c ∈ L, c.length ≤ 128 ∧ ∀ z ∈ c, -100000 < z ∧ z < 100000 from fun c hc => ⟨(hok.cls c hc).1, fun z hz => by have h1 := validD_in hok.n1 ((hok.cls c hc).2 z hz); omega⟩)
  have hL4 : L.length ≤ 4096 := hok.l
  have KI1 := xDec n hn5.1 hn5.2
  have KI2 := xDec (L.length : Nat) hm5.1 hm5.2
  have hws := lt_of_heap S2.out
  clear hck hckz hok HR hv
  obtain ⟨y1, hy1⟩ : ∃ y1 : ByteArray, y1 = ⟨(Lib.itoa n).toArray⟩ := ⟨_, rfl⟩
  obtain ⟨y2, hy2⟩ : ∃ y2 : ByteArray, y2 = ⟨(Lib.itoa (L.length : Nat)).toArray⟩ := ⟨_, rfl⟩
  rw [← hy1] at KI1
  rw [← hy2] at KI2
  have hs1 : y1.size ≤ 6 := by rw [hy1, ba_size]; exact itoa_le6 hn5.1 hn5.2
  have hs2 : y2.size ≤ 6 := by rw [hy2, ba_size]; exact itoa_le6 hm5.1 hm5.2
  obtain ⟨z1, hz1⟩ : ∃ z1 : ByteArray, z1 = (⟨#[112, 32, 99, 110, 102, 32]⟩ : ByteArray) ++ y1 := ⟨_, rfl⟩
  obtain ⟨z2, hz2⟩ : ∃ z2 : ByteArray, z2 = z1 ++ ⟨#[32]⟩ := ⟨_, rfl⟩
  obtain ⟨z3, hz3⟩ : ∃ z3 : ByteArray, z3 = z2 ++ y2 := ⟨_, rfl⟩
  obtain ⟨z4, hz4⟩ : ∃ z4 : ByteArray, z4 = z3 ++ ⟨#[10]⟩ := ⟨_, rfl⟩
  have hs3 : z1.size ≤ 12 := by rw [hz1, ByteArray.size_append]; show 6 + y1.size ≤ _; omega
  have hs4 : z2.size ≤ 13 := by rw [hz2, ByteArray.size_append]; show z1.size + 1 ≤ _; omega
  have hs5 : z3.size ≤ 19 := by rw [hz3, ByteArray.size_append]; omega
  have ha1 : ∀ x, (Op.stringOp .add (⟨#[112, 32, 99, 110, 102, 32]⟩ : ByteArray) y1).run Tryz.prog x = .ok (.string z1) x := fun x => by rw [hz1]; exact run_string_add_sum x _ _ (by show 6 + y1.size ≤ _; omega)
  have ha2 : ∀ x, (Op.stringOp .add z1 ⟨#[32]⟩).run Tryz.prog x = .ok (.string z2) x := fun x => by rw [hz2]; exact run_string_add_sum x _ _ (by show z1.size + 1 ≤ _; omega)
  have ha3 : ∀ x, (Op.stringOp .add z2 y2).run Tryz.prog x = .ok (.string z3) x := fun x => by rw [hz3]; exact run_string_add_sum x _ _ (by omega)
  have ha4 : ∀ x, (Op.stringOp .add z3 ⟨#[10]⟩).run Tryz.prog x = .ok (.string z4) x := fun x => by rw [hz4]; exact run_string_add_sum x _ _ (by show z3.size + 1 ≤ _; omega)
  have HX0 := Lib.hid (show z4 = ⟨(tx0 n L.length).toArray⟩ by
    rw [hz4, hz3, hz2, hz1, hy1, hy2]
    apply ByteArray.ext
    simp [tx0, lnP])
  clear hs1 hs2 hs3 hs4 hs5 hz1 hz2 hz3 hz4
  clear hy1 hy2
  obtain ⟨i0, hi, hz0, hz1, hz2⟩ := info_parts Tryz.infoByteE
  have HI0 := Lib.hid hi
  have HZ0 := Lib.hid hz0
  have HZ1 := Lib.hid hz1
  have HZ2 := Lib.hid hz2
  clear hi hz0 hz1 hz2
  obtain ⟨B, hBd⟩ : ∃ B, B = w2.heap.size := ⟨_, rfl⟩
  have hBw : w.heap.size < B := by omega
  have HA3 := Lib.hid (show FileAt B w2 aL aS aW L sh ws from by rw [hBd]; exact (HA.out.below HB2.out (Nat.le_refl _)).mono HB2.out.size)
  have hBle : B ≤ w2.heap.size := by omega
  have HBB := Lib.hid hBd
  have HBr := Lib.hid (show Below B w2 w2 from Below.refl _ _)
  clear hBd
  go_wp2_with fail
  refine wp_game_tail 14 [0, 0, 0, 0, 0, 0, 0, 0, 0, 0, 0, 0, 0, 0, 0, 0] [] B0 fin_B0 (has_B0 _) (by kernel_rfl) (by kernel_rfl) ?_
  simp only [List.take_succ_cons, List.take_zero]
  refine lex_quietE 14 (by kernel_rfl) (by rfl) ?_
  apply Exists.intro
  refine ⟨fun z hz1 => ?_, ?_⟩
  · have g0 := blk_cellp (hz1.keep S2.out (by simp)) 0 rfl
    have g1 := blk_cellp (hz1.keep S2.out (by simp)) 1 rfl
    clear hz1
    simp only [List.take_succ_cons, List.take_zero]
    unfold Cx
    repeat (go_big_quiet_step (first | with_reducible exact KI1.at _ _ | with_reducible exact KI2.at _ _))
    exact wpQuiet_nil rfl
  simp only [List.drop_succ_cons, List.drop_zero]
  refine lex_nil ?_
  intro x2 hx2 _
  have hs4 : z4.size = (tx0 n L.length).length := by rw [HX0.out, ba_size]
  have ht0 := tx0_len hn5 hm5
  have HSR := Lib.hid (Src.ofString (P := Tryz.prog) x2 Tryz.underlying9 z4)
  have HB3 := Lib.hid (show Below B w2 x2 by rw [HBB.out]; exact hx2.below)
  clear hx2 KI1 KI2 ha1 ha2 ha3 ha4
  refine wpList_append_nilm _ rfl _ _ 50 9 rfl 5 i0 (.int .u8 0) Tryz.underlying50 HI0.out HZ0.out HZ1.out HZ2.out rfl B rfl (by have := HB3.out.size; omega) _ _ _ rfl HSR.out (by omega) (by unfold maxLen; omega) (by omega) ?_
  intro v3 w3 hO3 hB3
  obtain ⟨g3, cap3, e3⟩ := hO3.slice
  subst e3
  rw [hs4] at hO3 ⊢
  have HO3 := Lib.hid (show OwnM w3 B (.slice (some ⟨g3, 0, none⟩) (tx0 n L.length).length cap3) (tx0 n L.length).length (Lib.byteCells (tx0 n L.length)) by
    have h := hO3
    rw [HX0.out] at h
    exact h)
  have HB3 := Lib.hid (HB3.out.trans hB3)
  have S3 := Lib.hid ((HB3.out.block _ (by omega)).trans S2.out)
  clear hO3 hB3 HSR HX0 hs4
  have q2 := blk_cell S3.out 2 rfl
  obtain ⟨bs, hbs⟩ : ∃ bs, bs = decide (0 < sh.length) := ⟨_, rfl⟩
  have HBS := Lib.hid hbs
  have hd : decide (0 < sh.length) = bs := hbs.symm
  have hd2 : decide ((0 : Int) < (sh.length : Int)) = bs := by
    rw [hbs]
    by_cases h : 0 < sh.length
    · rw [decide_eq_true h, decide_eq_true (by omega)]
    · rw [decide_eq_false h, decide_eq_false (by omega)]
  clear hbs
  go_upto_if 31 with fail
  clear hd hd2
  go_cut [5] (fun t5 wx => ∃ (g cap m : Nat), t5 = .slice (some ⟨g, 0, none⟩) m cap ∧ m = (tx1 n L.length sh).length ∧ Hid (OwnM wx B (.slice (some ⟨g, 0, none⟩) m cap) m (Lib.byteCells (tx1 n L.length sh))) ∧ Hid (Below B w2 wx))
  case first =>
    by_cases h0 : sh = []
    · have hl0 : sh.length = 0 := by rw [h0]; rfl
      obtain rfl : bs = false := HBS.out.trans (decide_eq_false (by omega))
      have he : tx1 n L.length sh = tx0 n L.length := by unfold tx1; rw [if_pos h0, List.append_nil]
      have HE := Lib.hid he
      clear he h0 hl0
      go_wp2_with fail
      go_meet
      case rel => exact ⟨g3, cap3, _, rfl, by rw [HE.out], by rw [HE.out]; exact HO3.out, HB3.out⟩
    · have hl0 : 0 < sh.length := List.length_pos_iff.2 h0
      obtain rfl : bs = true := HBS.out.trans (decide_eq_true hl0)
      have he : tx1 n L.length sh = tx0 n L.length ++ ([99, 32, 112, 32, 115, 104, 111, 119, 32] ++ (lnN sh ++ [10])) := by unfold tx1 lnS; rw [if_neg h0]; simp
      have HE := Lib.hid he
      have KN := xNumbers sh aS cS w3 ((HA3.out.s.below HB3.out (Nat.le_refl _)).mono (by have := HB3.out.size; omega)) HS5.out (by omega)
      have hln : (lnN sh ++ [10]).length ≤ 7 * sh.length + 2 := by
        have h1 := numsP_len (l := sh) HS5.out
        unfold numsP at h1
        unfold lnN
        simp only [List.length_append, List.length_cons, List.length_nil]
        omega
      obtain ⟨y, hy⟩ : ∃ y : ByteArray, y = ⟨(lnN sh ++ [10]).toArray⟩ := ⟨_, rfl⟩
      rw [← hy] at KN
      have hys : y.size ≤ 7 * sh.length + 2 := by rw [hy, ba_size]; exact hln
      obtain ⟨y2, hy2⟩ : ∃ y2 : ByteArray, y2 = (⟨#[99, 32, 112, 32, 115, 104, 111, 119, 32]⟩ : ByteArray) ++ y := ⟨_, rfl⟩
      have HY2 := Lib.hid (show y2 = ⟨([99, 32, 112, 32, 115, 104, 111, 119, 32] ++ (lnN sh ++ [10])).toArray⟩ by rw [hy2, hy]; apply ByteArray.ext; simp)
      have hy2s : y2.size ≤ 7 * sh.length + 11 := by rw [hy2, ByteArray.size_append]; show 9 + y.size ≤ _; omega
      have HY3 := Lib.hid hy2
      have HYE := Lib.hid (show y2.size = 9 + y.size by rw [hy2, ByteArray.size_append]; rfl)
      clear he h0 hln hy hy2
      go_wp2_with fail
      refine KN.mono ?_
      rintro e w4 ⟨rfl, hB⟩
      have HB4 := Lib.hid (HB3.out.trans (hB.mono (by have := HB3.out.size; omega)))
      have HO4 := Lib.hid (HO3.out.keep hB)
      have HSR := Lib.hid (Src.ofString (P := Tryz.prog) w4 Tryz.underlying9 y2)
      clear hB KN
      rw [HY3.out] at HSR
      go_wp2_with (at_builtin; refine wpList_append_m _ rfl _ _ 50 9 rfl 5 i0 (.int .u8 0) Tryz.underlying50 HI0.out HZ0.out HZ1.out HZ2.out rfl B _ _ _ rfl HO4.out (by have := HB4.out.size; omega) _ _ _ rfl HSR.out (by rw [← HY3.out]; unfold maxLen; omega) (by rw [← HY3.out]; omega) ?_)
      intro v5 w5 hO5 hB5
      rw [← HY3.out] at hO5 ⊢
      obtain ⟨g5, cap5, e5⟩ := hO5.slice
      subst e5
      obtain ⟨m5, hm5q⟩ : ∃ m5, m5 = (tx0 n L.length).length + (9 + y.size) := ⟨_, rfl⟩
      rw [← hm5q] at hO5 ⊢
      have HM5 := Lib.hid (show m5 = (tx1 n L.length sh).length by rw [HE.out, List.length_append, hm5q, ← HYE.out, HY2.out, ba_size])
      have HO5 := Lib.hid (show OwnM w5 B (.slice (some ⟨g5, 0, none⟩) m5 cap5) m5 (Lib.byteCells (tx1 n L.length sh)) by
        rw [HE.out, Lib.byteCells_append]
        have h := hO5
        rw [HY2.out] at h
        exact h)
      have HB5 := Lib.hid (HB4.out.trans hB5)
      clear hO5 hB5 HO4 HSR hm5q hy2s hys
      go_wp2_with fail
      go_meet
      case rel => exact ⟨g5, cap5, m5, rfl, HM5.out, HO5.out, HB5.out⟩
  case rest =>
  obtain ⟨g6, cap6, m6, rfl, hm6, HO6, HB6⟩ := hcut
  obtain ⟨w6, hw6⟩ : ∃ w6, w6 = wc := ⟨_, rfl⟩
  subst hw6
  have S6 := Lib.hid ((HB6.out.block _ (by omega)).trans S2.out)
  have HM6 := Lib.hid hm6
  have hl6 := tx1_len hn5 hm5 HS5.out
  rw [← hm6] at hl6
  clear hm6 S3 HB3 HO3 HBS
  have q3 := blk_cell S6.out 3 rfl
  go_wp2_with fail
  go_loopw [5, 6] (fun t5 t6 wr => ∃ (j g cap m : Nat), j ≤ ws.length ∧ t5 = .slice (some ⟨g, 0, none⟩) m cap ∧ t6 = .int .i64 j ∧ Hid (m = (tx2 n L.length sh ws j).length) ∧ m ≤ 40 + 7 * sh.length + 20030 * j ∧ Hid (OwnM wr B (.slice (some ⟨g, 0, none⟩) m cap) m (Lib.byteCells (tx2 n L.length sh ws j))) ∧ Hid (Below B w2 wr)) (fun _ t6 _ => ws.length - (intOf t6).toNat)
  case atStart =>
    have e0 : tx2 n L.length sh ws 0 = tx1 n L.length sh := by unfold tx2; simp
    exact ⟨0, g6, cap6, m6, Nat.zero_le _, rfl, rfl, by rw [e0]; exact HM6.out, by omega, by rw [e0]; exact HO6.out, HB6.out⟩
  case round =>
    obtain ⟨j, g, cap, m, hj, rfl, rfl, HMj, hmj, HOj, HBj⟩ := hrel
    have hsz := HBj.out.size
    have SJ := Lib.hid ((HBj.out.block _ (by omega)).trans S2.out)
    have q3 := blk_cell SJ.out 3 rfl
    by_cases hlt : j < ws.length
    · have hdd : decide (j < ws.length) = true := decide_eq_true hlt
      have hxx : ws[j]? = some (ws.getD j (0, [])) := by simp [List.getD, hlt]
      obtain ⟨b1, o1, hb1, e1, k1⟩ := HA3.out.w _ _ (wts_get _ _ _ hxx).1
      subst e1
      obtain ⟨_, _, _, e2, k2⟩ := HA3.out.w _ _ (wts_get _ _ _ hxx).2
      cases e2
      rw [Nat.mul_comm] at k1
      rw [Nat.mul_comm, ← Nat.add_assoc] at k2
      have d1 := below_cell HBj.out hb1 k1
      have d2 := below_cell HBj.out hb1 k2
      have hx5 := HW5.out _ (List.mem_of_getElem? hxx)
      have HXS := Lib.hid (tx2_succ (n := n) (m := L.length) (sh := sh) hxx)
      generalize ws.getD j (0, []) = x at *
      obtain ⟨z, v⟩ := x
      simp only at d1 d2 hx5
      obtain ⟨y, hy⟩ : ∃ y : ByteArray, y = ⟨v.toArray⟩ := ⟨_, rfl⟩
      rw [← hy] at d2
      have HY := Lib.hid hy
      clear hy
      have D1 := Lib.hid d1
      have D2 := Lib.hid d2
      clear k1 k2 hxx
      have KI := xDec z (by omega) (by omega)
      obtain ⟨y1, hy1⟩ : ∃ y1 : ByteArray, y1 = ⟨(Lib.itoa z).toArray⟩ := ⟨_, rfl⟩
      rw [← hy1] at KI
      have hs1 : y1.size ≤ 6 := by rw [hy1, ba_size]; exact itoa_le6 hx5.1.1 hx5.1.2
      have hs2 : y.size ≤ 20000 := by rw [HY.out, ba_size]; exact hx5.2
      obtain ⟨z1, hz1⟩ : ∃ z1 : ByteArray, z1 = (⟨#[99, 32, 112, 32, 119, 101, 105, 103, 104, 116, 32]⟩ : ByteArray) ++ y1 := ⟨_, rfl⟩
      obtain ⟨z2, hz2⟩ : ∃ z2 : ByteArray, z2 = z1 ++ ⟨#[32]⟩ := ⟨_, rfl⟩
      obtain ⟨z3, hz3⟩ : ∃ z3 : ByteArray, z3 = z2 ++ y := ⟨_, rfl⟩
      obtain ⟨z4, hz4⟩ : ∃ z4 : ByteArray, z4 = z3 ++ ⟨#[32, 48, 10]⟩ := ⟨_, rfl⟩
      have hs3 : z1.size ≤ 17 := by rw [hz1, ByteArray.size_append]; show 11 + y1.size ≤ _; omega
      have hs4 : z2.size ≤ 18 := by rw [hz2, ByteArray.size_append]; show z1.size + 1 ≤ _; omega
      have hs5 : z3.size ≤ 20018 := by rw [hz3, ByteArray.size_append]; omega
      have hs6 : z4.size ≤ 20021 := by rw [hz4, ByteArray.size_append]; show z3.size + 3 ≤ _; omega
      have ha1 : ∀ x, (Op.stringOp .add (⟨#[99, 32, 112, 32, 119, 101, 105, 103, 104, 116, 32]⟩ : ByteArray) y1).run Tryz.prog x = .ok (.string z1) x := fun x => by rw [hz1]; exact run_string_add_sum x _ _ (by show 11 + y1.size ≤ _; omega)
      have ha2 : ∀ x, (Op.stringOp .add z1 ⟨#[32]⟩).run Tryz.prog x = .ok (.string z2) x := fun x => by rw [hz2]; exact run_string_add_sum x _ _ (by show z1.size + 1 ≤ _; omega)
      have ha3 : ∀ x, (Op.stringOp .add z2 y).run Tryz.prog x = .ok (.string z3) x := fun x => by rw [hz3]; exact run_string_add_sum x _ _ (by omega)
      have ha4 : ∀ x, (Op.stringOp .add z3 ⟨#[32, 48, 10]⟩).run Tryz.prog x = .ok (.string z4) x := fun x => by rw [hz4]; exact run_string_add_sum x _ _ (by show z3.size + 3 ≤ _; omega)
      have hz4l : z4 = ⟨(lnW (z, v) ++ [10]).toArray⟩ := by
        rw [hz4, hz3, hz2, hz1, hy1, HY.out]
        apply ByteArray.ext
        simp [lnW]
      have HXZ := Lib.hid hz4l
      clear hs1 hs2 hs3 hs4 hs5 hz1 hz2 hz3 hz4 hy1 hz4l
      go_wp2_with fail
      refine wp_game_tail 18 [0, 0, 0, 0, 0, 0, 0, 0, 0, 0, 0, 0, 0, 0, 0, 0, 0, 0, 0, 0] [] B0 fin_B0 (has_B0 _) (by kernel_rfl) (by kernel_rfl) ?_
      simp only [List.take_succ_cons, List.take_zero]
      refine lex_quietE 18 (by kernel_rfl) (by rfl) ?_
      apply Exists.intro
      refine ⟨fun x9 hz9 => ?_, ?_⟩
      · have g0 := blk_cellp (hz9.keep SJ.out (by simp)) 3 rfl
        have g1 := behind_cellXp hz9 D1.out (by simp)
        have g2 := behind_cellXp hz9 D2.out (by simp)
        clear hz9
        simp only [List.take_succ_cons, List.take_zero]
        unfold Cx
        repeat (go_big_quiet_step (first | with_reducible exact KI.at _ _))
        exact wpQuiet_nil rfl
      simp only [List.drop_succ_cons, List.drop_zero]
      refine lex_nil ?_
      intro x8 hx8 _
      have HO8 := Lib.hid (HOj.out.keep hx8.below)
      have HB8 := Lib.hid (HBj.out.trans (hx8.below.mono (by omega)))
      have hs8 := hx8.size
      have HSR := Lib.hid (Src.ofString (P := Tryz.prog) x8 Tryz.underlying9 z4)
      clear hx8 KI ha1 ha2 ha3 ha4 d1 d2
      go_wp2_with (at_builtin; refine wpList_append_m _ rfl _ _ 50 9 rfl 5 i0 (.int .u8 0) Tryz.underlying50 HI0.out HZ0.out HZ1.out HZ2.out rfl B _ m _ rfl HO8.out (by omega) _ _ _ rfl HSR.out (by unfold maxLen; omega) (by omega) ?_)
      intro v9 w9 hO9 hB9
      obtain ⟨g9, cap9, e9⟩ := hO9.slice
      subst e9
      obtain ⟨m9, hm9⟩ : ∃ m9, m9 = m + z4.size := ⟨_, rfl⟩
      rw [← hm9] at hO9 ⊢
      have HM9 := Lib.hid (show m9 = (tx2 n L.length sh ws (j + 1)).length by
        rw [HXS.out, List.length_append, ← HMj.out, hm9, HXZ.out, ba_size])
      have hm9l : m9 ≤ 40 + 7 * sh.length + 20030 * (j + 1) := by omega
      have HO9 := Lib.hid (show OwnM w9 B (.slice (some ⟨g9, 0, none⟩) m9 cap9) m9 (Lib.byteCells (tx2 n L.length sh ws (j + 1))) by
        rw [HXS.out, Lib.byteCells_append]
        have h := hO9
        rw [HXZ.out] at h
        exact h)
      have HB9 := Lib.hid (HB8.out.trans hB9)
      clear hO9 hB9 HO8 HSR hm9 hs6
      go_wp2_with fail
      go_roundw
      case rel => exact ⟨j + 1, g9, cap9, m9, by omega, rfl, by go_num, HM9.out, hm9l, HO9.out, HB9.out⟩
      case measure => simp [intOf]; omega
    · obtain rfl : j = ws.length := by omega
      have hdd : decide (ws.length < ws.length) = false := by simp
      obtain ⟨w10, hw10⟩ : ∃ w10, w10 = wr := ⟨_, rfl⟩
      subst hw10
      have S10 := Lib.hid ((HBj.out.block _ (by omega)).trans S2.out)
      have q1 := blk_cell S10.out 1 rfl
      go_wp2_with fail
      go_loopw [5, 7] (fun t5 t7 wr => ∃ (j g cap m : Nat), j ≤ L.length ∧ t5 = .slice (some ⟨g, 0, none⟩) m cap ∧ t7 = .int .i64 j ∧ Hid (m = (tx3 n L.length sh ws L j).length) ∧ Hid (OwnM wr B (.slice (some ⟨g, 0, none⟩) m cap) m (Lib.byteCells (tx3 n L.length sh ws L j))) ∧ Hid (Below B w2 wr)) (fun _ t7 _ => L.length - (intOf t7).toNat)
      case atStart =>
        have e0 : tx3 n L.length sh ws L 0 = tx2 n L.length sh ws ws.length := by unfold tx3; simp
        exact ⟨0, g, cap, m, Nat.zero_le _, rfl, rfl, by rw [e0]; exact HMj.out, by rw [e0]; exact HOj.out, HBj.out⟩
      case round =>
        obtain ⟨k, g, cap, m, hk, rfl, rfl, HMk, HOk, HBk⟩ := hrel
        have hszk := HBk.out.size
        have SK := Lib.hid ((HBk.out.block _ (by omega)).trans S2.out)
        have q1 := blk_cell SK.out 1 rfl
        by_cases hlk : k < L.length
        · have hdk : decide (k < L.length) = true := decide_eq_true hlk
          have hxx : L[k]? = some (L.getD k []) := by simp [List.getD, hlk]
          obtain ⟨b1, o1, p1, c1, hb1, e1, k1, hat⟩ := HA3.out.l k _ hxx
          subst e1
          have d1 := below_cell HBk.out hb1 k1
          have hx5 := HL5.out _ (List.mem_of_getElem? hxx)
          have HXS := Lib.hid (tx3_succ (n := n) (m := L.length) (sh := sh) (ws := ws) hxx)
          have hlen3 := tx3_len hn5 hm5 HS5.out HW5.out HL5.out k
          generalize L.getD k [] = xs at *
          have KN := xNumbers xs p1 c1 wr ((hat.below HBk.out (Nat.le_refl _)).mono (by omega)) hx5.2 (by omega)
          have hln : (lnN xs ++ [10]).length ≤ 7 * xs.length + 2 := by
            have h1 := numsP_len (l := xs) hx5.2
            unfold numsP at h1
            unfold lnN
            simp only [List.length_append, List.length_cons, List.length_nil]
            omega
          obtain ⟨y, hy⟩ : ∃ y : ByteArray, y = ⟨(lnN xs ++ [10]).toArray⟩ := ⟨_, rfl⟩
          rw [← hy] at KN
          have hys : y.size ≤ 7 * xs.length + 2 := by rw [hy, ba_size]; exact hln
          have HY := Lib.hid hy
          rw [← HMk.out] at hlen3
          clear k1 hxx hat hln hy
          go_wp2_with fail
          refine KN.mono ?_
          rintro e w11 ⟨rfl, hB⟩
          have HB11 := Lib.hid (HBk.out.trans (hB.mono (by omega)))
          have HO11 := Lib.hid (HOk.out.keep hB)
          have HSR := Lib.hid (Src.ofString (P := Tryz.prog) w11 Tryz.underlying9 y)
          clear hB KN d1
          go_wp2_with (at_builtin; refine wpList_append_m _ rfl _ _ 50 9 rfl 5 i0 (.int .u8 0) Tryz.underlying50 HI0.out HZ0.out HZ1.out HZ2.out rfl B _ _ _ rfl HO11.out (by have := HB11.out.size; omega) _ _ _ rfl HSR.out (by unfold maxLen; omega) (by omega) ?_)
          intro v9 w9 hO9 hB9
          obtain ⟨g9, cap9, e9⟩ := hO9.slice
          subst e9
          obtain ⟨m9, hm9⟩ : ∃ m9, m9 = m + y.size := ⟨_, rfl⟩
          rw [← hm9] at hO9 ⊢
          have HM9 := Lib.hid (show m9 = (tx3 n L.length sh ws L (k + 1)).length by rw [HXS.out, List.length_append, ← HMk.out, hm9, HY.out, ba_size])
          have HO9 := Lib.hid (show OwnM w9 B (.slice (some ⟨g9, 0, none⟩) m9 cap9) m9 (Lib.byteCells (tx3 n L.length sh ws L (k + 1))) by
            rw [HXS.out, Lib.byteCells_append]
            have h := hO9
            rw [HY.out] at h
            exact h)
          have HB9 := Lib.hid (HB11.out.trans hB9)
          clear hO9 hB9 HO11 HSR hm9
          go_wp2_with fail
          go_roundw
          case rel => exact ⟨k + 1, g9, cap9, m9, by omega, rfl, by go_num, HM9.out, HO9.out, HB9.out⟩
          case measure => simp [intOf]; omega
        · obtain rfl : k = L.length := by omega
          have hdk : decide (L.length < L.length) = false := by simp
          have hlen3 := tx3_len hn5 hm5 HS5.out HW5.out HL5.out L.length
          rw [← HMk.out] at hlen3
          have HMM := Lib.hid (show m = (ptB n L sh ws).length by rw [← tx_all]; exact HMk.out)
          have htx := text_m HOk.out 50 9 5 Tryz.underlying50 Tryz.underlying5 Tryz.underlying9
          rw [tx_all] at htx
          have HBF := Lib.hid (HB2.out.trans (HBk.out.mono (by omega)) |>.mono (Nat.le_refl _))
          by_cases hlong : 1048576 < m
          · have hf : decide (1048576 < m) = true := decide_eq_true hlong
            have hf2 : decide ((1048576 : Int) < (m : Int)) = true := decide_eq_true (by omega)
            have HF := Lib.hid (HR2.out.trans (if_pos (by rw [← HMM.out]; exact hlong)))
            clear htx
            go_wp2_with fail
            rw [HP.out, HF.out]
            exact ⟨rfl, HBF.out⟩
          · have hf : decide (1048576 < m) = false := decide_eq_false hlong
            have hf2 : decide ((1048576 : Int) < (m : Int)) = false := decide_eq_false (by omega)
            have HF := Lib.hid (HR2.out.trans (if_neg (by rw [← HMM.out]; exact hlong)))
            obtain ⟨txt, htt⟩ : ∃ txt : ByteArray, txt = ⟨(ptB n L sh ws).toArray⟩ := ⟨_, rfl⟩
            rw [← htt] at htx
            have HTT := Lib.hid htt
            clear htt
            go_wp2_with fail
            rw [HP.out, HF.out]
            exact ⟨by rw [HTT.out]; rfl, HBF.out⟩
end Go.Proofs.YtajjgfiojlagmaaGreatDoor

/- The law: files are written, or refused, as the document says. -/
namespace Go.Proofs.YtajjgfiojlagmaaGreatDoor
open Go.RowKit

set_option maxHeartbeats 6400000 in
set_option maxRecDepth 100000 in
theorem prints_law (n : Int) (L : List (List Int)) (sh : List Int) (ws : List (Int × List UInt8)) (aL aS aW : Option Addr) (cL cS cW : Nat) (w : World) (hA : FileAt w.heap.size w aL aS aW L sh ws) (hcS : sh.length ≤ cS) (hM0 : ∃ m, w.cell? ⟨1, 0, none⟩ = some (.int .i64 m)) (hT : TabI w) :
    Calls Tryz.prog 3 #[.agg #[.int .i64 n, .slice aL L.length cL, .slice aS sh.length cS, .slice aW ws.length cW]] w fun e w' => e = .returned (.bool true) ∧ Below w.heap.size w w' := by
  obtain ⟨Post, hPost⟩ : ∃ P : Ending → World → Prop, P = fun e w' => e = .returned (.bool true) ∧ Below w.heap.size w w' := ⟨_, rfl⟩
  rw [← hPost]
  have HP := Lib.hid hPost
  have HM := Lib.hid (show ∀ x, Below w.heap.size w x → ∃ m, x.cell? ⟨1, 0, none⟩ = some (.int .i64 m) from fun x hx => by obtain ⟨m, hm⟩ := hM0; exact ⟨m, below_cell hx (block_lt_of_cell hm) hm⟩)
  have KW := Lib.hid (fun (x : World) (hx : Below w.heap.size w x) => gWorks x (HM.out x hx))
  have HT := Lib.hid hT
  have HA := Lib.hid hA
  clear hPost hM0 hT hA
  go_enter Tryz.func3, Tryz.ntmps3
  go_upto_region 1 with fail
  refine wp_gen ?_
  intro w1 hw1
  have A1 := Lib.hid (show w1.heap[w.heap.size]? = some (.cells #[.int .i64 n, .slice aL L.length cL, .slice aS sh.length cS, .slice aW ws.length cW] 28 (0, 0)) by rw [hw1]; exact new_one _ _)
  have HB1 := Lib.hid (show Below w.heap.size w w1 by rw [hw1]; exact below_one _ _)
  clear hw1
  have HF1 := Lib.hid ((HA.out.below HB1.out (Nat.le_refl _)).mono HB1.out.size)
  have KF := gFew n L sh ws aL aS aW cL cS cW w1 HF1.out
  obtain ⟨fw, hfw⟩ : ∃ fw, fw = fewD L sh ws := ⟨_, rfl⟩
  rw [← hfw] at KF
  have HFW := Lib.hid hfw
  clear hfw
  have a0 := blk_cell A1.out 0 rfl
  have a1 := blk_cell A1.out 1 rfl
  have a2 := blk_cell A1.out 2 rfl
  have a3 := blk_cell A1.out 3 rfl
  go_wp2_with fail
  refine KF.mono ?_
  rintro e w2 ⟨rfl, hB⟩
  have HB2 := Lib.hid (HB1.out.trans (hB.mono HB1.out.size))
  have A2 := Lib.hid ((behind_of_below hB).keep A1.out (by simp))
  have HF2 := Lib.hid ((HF1.out.below hB (Nat.le_refl _)).mono hB.size)
  clear hB KF a0 a1 a2 a3 A1 HF1
  cases fw with
  | false =>
    have KW1 := KW.out w2 HB2.out
    go_wp2_with fail
    refine KW1.mono ?_
    rintro e w3 ⟨rfl, hB⟩
    have HB := Lib.hid (HB2.out.trans (hB.mono HB2.out.size))
    clear hB KW1
    go_wp2_with fail
    rw [HP.out]
    exact ⟨rfl, HB.out⟩
  | true =>
  have hfew := fewD_yes.1 HFW.out.symm
  have KPR := gPrint n L sh ws aL aS aW cL cS cW w2 HF2.out (fun x hx => by have := hfew.2.2.2.2 x hx; omega) (by omega) (by omega) (HT.out.below HB2.out) (HM.out w2 HB2.out)
  have KX := Lib.hid (fun (p : Option Addr) (c : Nat) (hc : ws.length ≤ c) (x : World) (hF : FileAt x.heap.size x aL aS p L sh ws) => xPrint n L sh ws aL aS p cL cS c x hF (fun x hx => by have := hfew.2.2.2.2 x hx; omega) (by omega) (by omega) hcS hc)
  have HFE := Lib.hid hfew
  have a0 := blk_cell A2.out 0 rfl
  have a1 := blk_cell A2.out 1 rfl
  have a2 := blk_cell A2.out 2 rfl
  have a3 := blk_cell A2.out 3 rfl
  clear hfew
  generalize (printD rdD n L sh ws).2 = en at *
  generalize (⟨(printD rdD n L sh ws).1.toArray⟩ : ByteArray) = tx at *
  go_wp2_with fail
  refine KPR.mono ?_
  rintro e w3 ⟨rfl, hB⟩
  have HB3 := Lib.hid (HB2.out.trans (hB.mono HB2.out.size))
  have A3 := Lib.hid ((behind_of_below hB).keep A2.out (by simp))
  have HF3 := Lib.hid ((HF2.out.below hB (Nat.le_refl _)).mono hB.size)
  clear hB KPR a0 a1 a2 a3 A2 HF2
  have KG := gGiven n (.slice aL L.length cL) (.slice aS sh.length cS) ⟨_, _, _, rfl⟩ ⟨_, _, _, rfl⟩ ws (by have := HFE.out.2.2.1; omega) w3 aW cW HF3.out.w
  have a0 := blk_cell A3.out 0 rfl
  have a1 := blk_cell A3.out 1 rfl
  have a2 := blk_cell A3.out 2 rfl
  have a3 := blk_cell A3.out 3 rfl
  go_wp2_with fail
  refine KG.mono ?_
  rintro e w4 ⟨vW, rfl, hO, hB⟩
  obtain ⟨p4, c4, rfl, hc4, hAt⟩ := rowV_at2 hO.1
  have HB4 := Lib.hid (HB3.out.trans (hB.mono HB3.out.size))
  have hF4 := (HF3.out.below hB (Nat.le_refl _)).mono hB.size
  have KX4 := KX.out p4 c4 hc4 w4 ⟨hF4.l, hF4.s, hAt⟩
  clear hB KG a0 a1 a2 a3 A3 HF3 hF4 hO hAt KX
  go_wp2_with fail
  refine KX4.mono ?_
  rintro e w5 ⟨rfl, hB⟩
  have HB5 := Lib.hid (HB4.out.trans (hB.mono HB4.out.size))
  have KW1 := KW.out w5 HB5.out
  have hee : (en == en) = true := by simp
  clear hB KX4
  go_wp2_with fail
  refine KW1.mono ?_
  rintro e w6 ⟨rfl, hB⟩
  have HB := Lib.hid (HB5.out.trans (hB.mono HB5.out.size))
  clear hB KW1
  go_wp2_with fail
  rw [HP.out]
  exact ⟨rfl, HB.out⟩
end Go.Proofs.YtajjgfiojlagmaaGreatDoor
