/- Texts of this claim, joined: BEnc7, BEnc5. -/
import Derived.Test.YtbacloneddnaeaaM23
import Derived.Test.YtbacloneddnaeaaM22
import Derived.Test.YtbacloneddnaeaaShelf

/- bayes.Encode: the range over the parents, from the last one on. -/
-- slots 194
namespace Go.Proofs.Ytbacloneddnaeaa
open Go.RowKit Go.Shelf Num
attribute [local go_sem] Oper.semAt_some

def rangesIn : Code → List Code
  | .seq a b => rangesIn a ++ rangesIn b
  | .cond _ a b => rangesIn a ++ rangesIn b
  | .block _ a => rangesIn a
  | .loop a => rangesIn a
  | .rangeFunc f p a b => .rangeFunc f p a b :: (rangesIn a ++ rangesIn b)
  | .scope a => rangesIn a
  | _ => []
def rangeNo (f : Func) (n : Nat) : Code := (f.body.map fun c => (rangesIn c).getD n .skip).getD .skip

theorem behind_cellp {w x : World} {Wr : List Nat} (h : Behind w Wr x) {b o : Nat} {v : Value} (hc : w.cell? ⟨b, o, none⟩ = some v) (hn : b ∉ Wr) (p : Extra) : (plus x p).cell? ⟨b, o, none⟩ = some v := by
  have e : x.cell? ⟨b, o, none⟩ = some v := (World.cell?_of_block (a := ⟨b, o, none⟩) (h.block b (block_lt_of_cell hc) hn)).trans hc
  exact plus_cell e (block_lt_of_cell e) p

theorem OwnI.rowB {w : World} {b : Nat} {M : List Nat} {v : Value} {xs : List Int} (h : OwnI w b M v xs) (h0 : xs ≠ []) : ∃ (g cap : Nat) (cur : Array Value), v = .slice (some ⟨g, 0, none⟩) xs.length cap ∧ RowB (inW w) 3 1 g xs.length cap (ints xs) cur ∧ g ∉ M ∧ b ≤ g := by
  have hr := h.row
  generalize hn : xs.length = n at hr
  generalize hz : ints xs = zs at hr
  cases hr with
  | nil => exact absurd (List.length_eq_zero_iff.1 hn) h0
  | @row g n cap ys cur hr => exact ⟨g, cap, cur, rfl, hr, h.out g (by simp [rowBlk]), h.ge g (by simp [rowBlk])⟩

set_option maxHeartbeats 3200000 in
set_option maxRecDepth 100000 in
theorem enc_range {t0 t2 t3 t5 t6 t7 t8 t9 t10 t11 t12 t13 t14 t15 t16 t17 t19 t21 t22 t23 t24 t25 t26 t27 t28 t29 t30 t31 t32 t33 t34 t35 t36 t37 t38 t39 t40 t41 t42 t43 t44 t45 t46 t47 t48 t49 t50 t51 t52 t53 t54 t55 t56 t57 t58 t59 t60 t61 t62 t63 t64 t65 t66 t67 t68 t69 t70 t71 t72 t73 t74 t75 t76 t77 t78 t79 t80 t81 t82 t83 t84 t85 t86 t87 t88 t89 t90 t91 t92 t93 t94 t95 t96 t97 t98 t99 t100 t101 t102 t103 t104 t105 t106 t107 t108 t109 t110 t111 t112 t113 t114 t115 t116 t117 t118 t119 t120 t121 t122 t123 t124 t125 t126 t128 t129 t130 t131 t132 t133 t134 t135 t136 t137 t138 t139 t140 t141 t142 t143 t144 t145 t146 t147 t148 t149 t150 t151 t152 t153 t154 t155 t156 t157 t158 t159 t160 t161 t162 t163 t164 t165 t166 t167 t168 t169 t170 t171 t172 t173 t174 t175 t176 t177 t178 t179 t180 t181 t182 t183 t184 t185 t186 t187 t188 t189 t190 t191 t192 t193 : Value} {ds : List Deferred} (Q : Exit → Act → World → Prop) (b top gT gW gI : Nat) (e : EncP) (s : ESt) (M0 : List Nat) (w0 w : World) (N gN nb no cp : Nat) (l : List BV) (g18 g20 g127 b2 g19 : Nat) (c19 : Array Value) (T19 : TypeId) (aps : Option Addr) (pc : Nat) (ps : List Int) (x0 : List Int × Nat)
    (hRI : RI b top gT gW gI e s M0 w0 [g18, g20, g127, b2, g19] g18 g20 g19 c19 T19 l ps x0 w.heap.size [] w) (htop : top ≤ w.heap.size) (hw0t : w0.heap.size ≤ top) (hg18 : top ≤ g18 ∧ g18 ∉ e.M gT gW gI) (hg20 : top ≤ g20 ∧ g20 ∉ e.M gT gW gI) (hgNt : gN < top) (hNt : N ≤ top) (hw0 : w0.heap.size ≤ w.heap.size) (hps : ps.length ≤ 16) (h127 : SliceBox w g127 30 aps ps.length pc) (hnum : NumsAt w b2 aps ps) (hb2 : b2 < w.heap.size)
    (hne : g18 ≠ g20 ∧ g18 ≠ g127 ∧ g20 ≠ g127 ∧ g18 ≠ b2 ∧ g20 ≠ b2) (h19 : g19 ≠ g18 ∧ g19 ≠ g20)
    (mN : w0.heap[gN]? = some (.cells #[.slice (some ⟨nb, no, none⟩) l.length cp] 26 (0, 0))) (hgN : gN ∉ M0) (hNet : NetAt N w0 (some ⟨nb, no, none⟩) l) (hM0 : ∀ g ∈ M0, N ≤ g) (hN0 : N ≤ w0.heap.size) (hl16 : l.length ≤ 16) (hpar : ∀ p ∈ ps, 0 ≤ p ∧ p.toNat < l.length)
    (hind : ∀ (i : Nat) (x : BV), l[i]? = some x → ∃ xs, s.ind[i]? = some xs ∧ (xs.length : Int) = x.k ∧ 2 ≤ xs.length ∧ xs.length ≤ 8) (hil : s.ind.length ≤ 16) (hx0 : x0.1 ≠ [] ∧ x0.1.length ≤ 2 ∧ x0.2 ≤ 100000)
    (hQ : ∀ (D : Nat) (ys : List (_root_.Fin ps.length)) (W : World), w.heap.size ≤ D → W.heap[D]? = some (.deferred (some [])) → ys.map (·.1) = downTo ps.length 0 → RI b top gT gW gI e s M0 w0 [g18, g20, g127, b2, g19] g18 g20 g19 c19 T19 l ps x0 w.heap.size ys W →
      Q .normal { tmps := List.toArray (t0 :: .pointer (some ⟨gN, 0, none⟩) :: t2 :: t3 :: .pointer (some ⟨gI, 0, none⟩) :: t5 :: t6 :: t7 :: t8 :: t9 :: t10 :: t11 :: t12 :: t13 :: t14 :: t15 :: t16 :: t17 :: .pointer (some ⟨g18, 0, none⟩) :: t19 :: .pointer (some ⟨g20, 0, none⟩) :: t21 :: t22 :: t23 :: t24 :: t25 :: t26 :: t27 :: t28 :: t29 :: t30 :: t31 :: t32 :: t33 :: t34 :: t35 :: t36 :: t37 :: t38 :: t39 :: t40 :: t41 :: t42 :: t43 :: t44 :: t45 :: t46 :: t47 :: t48 :: t49 :: t50 :: t51 :: t52 :: t53 :: t54 :: t55 :: t56 :: t57 :: t58 :: t59 :: t60 :: t61 :: t62 :: t63 :: t64 :: t65 :: t66 :: t67 :: t68 :: t69 :: t70 :: t71 :: t72 :: t73 :: t74 :: t75 :: t76 :: t77 :: t78 :: t79 :: t80 :: t81 :: t82 :: t83 :: t84 :: t85 :: t86 :: t87 :: t88 :: t89 :: t90 :: t91 :: t92 :: t93 :: t94 :: t95 :: t96 :: t97 :: t98 :: t99 :: t100 :: t101 :: t102 :: t103 :: t104 :: t105 :: t106 :: t107 :: t108 :: t109 :: t110 :: t111 :: t112 :: t113 :: t114 :: t115 :: t116 :: t117 :: t118 :: t119 :: t120 :: t121 :: t122 :: t123 :: t124 :: t125 :: t126 :: .func (.func 85) #[] #[.pointer (some ⟨g127, 0, none⟩)] :: t128 :: t129 :: t130 :: t131 :: t132 :: t133 :: t134 :: t135 :: t136 :: t137 :: t138 :: t139 :: t140 :: t141 :: t142 :: t143 :: t144 :: t145 :: t146 :: t147 :: t148 :: t149 :: t150 :: t151 :: t152 :: t153 :: t154 :: t155 :: t156 :: t157 :: t158 :: t159 :: t160 :: t161 :: t162 :: t163 :: t164 :: t165 :: t166 :: t167 :: t168 :: t169 :: t170 :: t171 :: t172 :: t173 :: t174 :: t175 :: t176 :: t177 :: t178 :: t179 :: t180 :: t181 :: t182 :: t183 :: t184 :: t185 :: t186 :: t187 :: t188 :: t189 :: t190 :: t191 :: t192 :: t193 :: []), defers := { target := .collected D, args := #[] } :: ds } W) :
    (rangeNo Try.f17 0).wp Try.prog Q { tmps := List.toArray (t0 :: .pointer (some ⟨gN, 0, none⟩) :: t2 :: t3 :: .pointer (some ⟨gI, 0, none⟩) :: t5 :: t6 :: t7 :: t8 :: t9 :: t10 :: t11 :: t12 :: t13 :: t14 :: t15 :: t16 :: t17 :: .pointer (some ⟨g18, 0, none⟩) :: t19 :: .pointer (some ⟨g20, 0, none⟩) :: t21 :: t22 :: t23 :: t24 :: t25 :: t26 :: t27 :: t28 :: t29 :: t30 :: t31 :: t32 :: t33 :: t34 :: t35 :: t36 :: t37 :: t38 :: t39 :: t40 :: t41 :: t42 :: t43 :: t44 :: t45 :: t46 :: t47 :: t48 :: t49 :: t50 :: t51 :: t52 :: t53 :: t54 :: t55 :: t56 :: t57 :: t58 :: t59 :: t60 :: t61 :: t62 :: t63 :: t64 :: t65 :: t66 :: t67 :: t68 :: t69 :: t70 :: t71 :: t72 :: t73 :: t74 :: t75 :: t76 :: t77 :: t78 :: t79 :: t80 :: t81 :: t82 :: t83 :: t84 :: t85 :: t86 :: t87 :: t88 :: t89 :: t90 :: t91 :: t92 :: t93 :: t94 :: t95 :: t96 :: t97 :: t98 :: t99 :: t100 :: t101 :: t102 :: t103 :: t104 :: t105 :: t106 :: t107 :: t108 :: t109 :: t110 :: t111 :: t112 :: t113 :: t114 :: t115 :: t116 :: t117 :: t118 :: t119 :: t120 :: t121 :: t122 :: t123 :: t124 :: t125 :: t126 :: .func (.func 85) #[] #[.pointer (some ⟨g127, 0, none⟩)] :: t128 :: t129 :: t130 :: t131 :: t132 :: t133 :: t134 :: t135 :: t136 :: t137 :: t138 :: t139 :: t140 :: t141 :: t142 :: t143 :: t144 :: t145 :: t146 :: t147 :: t148 :: t149 :: t150 :: t151 :: t152 :: t153 :: t154 :: t155 :: t156 :: t157 :: t158 :: t159 :: t160 :: t161 :: t162 :: t163 :: t164 :: t165 :: t166 :: t167 :: t168 :: t169 :: t170 :: t171 :: t172 :: t173 :: t174 :: t175 :: t176 :: t177 :: t178 :: t179 :: t180 :: t181 :: t182 :: t183 :: t184 :: t185 :: t186 :: t187 :: t188 :: t189 :: t190 :: t191 :: t192 :: t193 :: []), defers := ds } w := by
  show Code.wp Try.prog (Code.rangeFunc _ _ _ _) Q _ w
  have HQ := Lib.hid hQ
  have HRI := Lib.hid hRI
  have hl127 := lt_of_heap h127
  clear hQ hRI
  refine (wpIn_wide (n := 5)).1 ?_
  refine' wpIn_rangeFunc_ownG (F := Fence.wide) (n := 5) rfl (by omega) (gf := 85) rfl trivial (enters_of Try.func85 (by kernel_rfl) rfl)
    (back_stops 4 (by omega) g127 b2 aps pc ps (by omega) w hl127 hb2 h127 hnum) KeepsTwo.trans ?kb (Below.refl _ _) (fun _ => rfl)
    (RI b top gT gW gI e s M0 w0 [g18, g20, g127, b2, g19] g18 g20 g19 c19 T19 l ps x0 w.heap.size) (fun _ _ _ => False) (ri_own htop hw0) (fun _ _ _ _ _ h _ _ => h) HRI.out _ ?assign ?body ?done ?stop
  case assign =>
    intro l x W K hK
    gi_wp2
    exact hK
  case kb =>
    intro W l o o' hl hW _ _
    exact ⟨World.putObj_heap_other (by omega), World.putObj_heap_other (by omega)⟩
  case stop => exact fun _ _ _ _ _ _ h _ => h.elim
  case done =>
    rintro D ys W hD hys hI hKd
    exact HQ.out D ys W hD hKd hys hI
  case body =>
    rintro lr pre ⟨j, hj⟩ W hI hlen2
    have HI0 := Lib.hid hI
    obtain ⟨p, hp⟩ : ∃ p, ps[j]? = some p := ⟨_, List.getElem?_eq_getElem hj⟩
    obtain ⟨hp0, hpl⟩ := hpar p (List.mem_of_getElem? hp)
    obtain ⟨pn, rfl⟩ : ∃ pn : Nat, p = pn := ⟨p.toNat, by omega⟩
    have hpl' : pn < l.length := by omega
    obtain ⟨x, hx⟩ : ∃ x, l[pn]? = some x := ⟨_, List.getElem?_eq_getElem hpl'⟩
    obtain ⟨xs, hxs, hxk, hx2, hx8⟩ := hind pn x hx
    have hbe : Below N w0 W := hI.stp.below hM0 hN0
    obtain ⟨nb', no', pa, pc', ta, tc, hnb, he, n0, _⟩ := (hNet.below hbe (Nat.le_refl _)) pn x hx
    cases he
    have hgd : ps.getD j 0 = pn := by rw [List.getD_eq_getElem?_getD, hp]; rfl
    rw [← hxk] at n0
    have mNW := hI.stp.keep mN hgN
    obtain ⟨gi, cap, curI, gx, capx, curX, hvI, mi, ci, mx, cx, hgx, hgxM, hgi, hil2⟩ := hI.enc.ind_at hxs (by intro e; rw [e] at hx2; simp at hx2)
    have mI := hI.enc.mI
    rw [hvI] at mI
    have m18 := hI.m18
    obtain ⟨v, m20, hO, hKv⟩ := hI.ex
    have hrlen : (digsAt l s.ind ps x0 (pre.map (·.1))).2 ≤ 100000 ∧ (digsAt l s.ind ps x0 (pre.map (·.1))).1 ≠ [] ∧ (digsAt l s.ind ps x0 (pre.map (·.1))).1.length ≤ 100 := by
      obtain ⟨k1, k2⟩ := digsAt_bounds l s.ind ps (pre.map (·.1)) x0
      have k3 := List.length_pos_iff.2 hx0.1
      rw [List.length_map] at k2
      refine ⟨by omega, fun h => ?_, by omega⟩
      rw [h, List.length_nil] at k2
      omega
    have HKA : Hid (kAt l pn = xs.length) := by
      unfold Hid kAt
      rw [hx]
      show x.k.toNat = _
      omega
    have HXS := Lib.hid hxs
    have HPJ := Lib.hid hp
    have HKV := Lib.hid hKv
    generalize hX : digsAt l s.ind ps x0 (pre.map (·.1)) = X at *
    obtain ⟨st, r⟩ := X
    have HXX := Lib.hid hX
    obtain ⟨hr, hst0, hst⟩ := hrlen
    dsimp only at *
    obtain ⟨gv, cv, curv, rfl, hrb, hgvM, hgv⟩ := hO.rowB hst0
    obtain ⟨d, hd⟩ : ∃ d, xs[r % xs.length]? = some d := ⟨_, List.getElem?_eq_getElem (Nat.mod_lt _ (by omega))⟩
    have cd := cx _ _ hd
    have hv20 : g20 ≠ gv := fun e => hKv g20 (by simp) (by simp [rowBlk, e])
    have hv18 : g18 ≠ gv := fun e => hKv g18 (by simp) (by simp [rowBlk, e])
    have mv : W.heap[gv]? = some (.cells curv 3 (0, 0)) := hrb.blk
    obtain ⟨k1, hk1⟩ : ∃ k1, k1 = if st.length + 1 ≤ cv then 2 else 5 := ⟨_, rfl⟩
    have hk1' : k1 = 2 ∨ k1 = 5 := by rw [hk1]; split <;> simp
    have hgi20 : gi ≠ g20 ∧ gi ≠ gv := ⟨fun h => hg20.2 (h ▸ hgi), fun h => hgvM (h ▸ hgi)⟩
    have hgx20 : gx ≠ g20 ∧ gx ≠ gv := ⟨by omega, by omega⟩
    have hgIM : gI ∈ e.M gT gW gI := by simp [EncP.M]
    have hgI20 : gI ≠ g20 ∧ gI ≠ gv := ⟨fun h => hg20.2 (h ▸ hgIM), fun h => hgvM (h ▸ hgIM)⟩
    have hgN20 : gN ≠ g20 ∧ gN ≠ gv := ⟨by omega, by omega⟩
    have hnb20 : nb ≠ g20 ∧ nb ≠ gv := ⟨by omega, by omega⟩
    have HRB := Lib.hid hrb
    have HK1 := Lib.hid hk1
    have HDD := Lib.hid hd
    have HMV := Lib.hid mv
    have HM20 := Lib.hid m20
    have HM18 := Lib.hid m18
    have HMI := Lib.hid mI
    have HMi := Lib.hid mi
    have HCi := Lib.hid ci
    have HMx := Lib.hid mx
    have HCD := Lib.hid cd
    have HMN := Lib.hid mNW
    have HN0 := Lib.hid n0
    have hgd3 : ps[j] = (pn : Int) := by rw [List.getElem?_eq_getElem hj] at hp; exact Option.some.inj hp
    have hrk : r % xs.length < xs.length := Nat.mod_lt _ (by omega)
    have hk3 : (xs.length : Int) ≠ 0 := by omega
    clear hI HRI hrb hk1 mv m20 m18 mI mi ci mx cx cd mNW n0 hX hKv hO hd hvI hxk hp hbe hx hxs hgd
    refine wpIn_block ?_
    refine wpIn_seq ?_
    refine wpIn_game [1, 0, 0, 0, 0, 0, 0, 0, 0, 0, 0, 0, 0, 0, 3, k1, 2] [g20, gv] _ (Fin.put (Fin.put fin_B0 _ _) _ _) (has_put (has_put (has_B0 _) HMV.out) HM20.out) (by kernel_rfl) (by rcases hk1' with h | h <;> rw [h] <;> kernel_rfl) (by kernel_rfl) ?_
    refine lex_readE 1 W (Behind.refl _ _) (has_put (has_put (has_B0 _) HMV.out) HM20.out) (by kernel_rfl) (by rfl) ?_
    apply Exists.intro
    refine ⟨fun z hz hB => ?_, ?_⟩
    · have g0 := blk_cellp (hB g20 _ (Blocks.put_same _ _ _)) 0 rfl
      clear hz hB
      simp only [List.take_succ_cons, List.take_zero]
      unfold Cx
      repeat (go_big_quiet_step (fail))
      exact wpQuiet_nil rfl
    simp only [List.drop_succ_cons, List.drop_zero]
    refine lex_quietE 13 (by kernel_rfl) (by rfl) ?_
    apply Exists.intro
    refine ⟨fun z hz => ?_, ?_⟩
    · have c1 := blk_cellp (hz.keep HMI.out (by simp [hgI20])) 0 rfl
      have c2 := blk_cellp (hz.keep HMi.out (by simp [hgi20])) pn HCi.out
      have c3 := blk_cellp (hz.keep HM18.out (by simp [hne, hv18])) 0 rfl
      have c4 := blk_cellp (hz.keep HMN.out (by simp [hgN20])) 0 rfl
      have c5 := blk_cellp (hz.keep HMx.out (by simp [hgx20])) (r % xs.length) HCD.out
      have c6 := behind_cellp hz HN0.out (by simp [hnb20])
      clear hz
      simp only [List.take_succ_cons, List.take_zero]
      unfold Cx
      repeat (go_big_quiet_step (fail))
      exact wpQuiet_nil rfl
    simp only [List.drop_succ_cons, List.drop_zero]
    obtain ⟨i0, ii, iz0, iz1, iz2⟩ := info_parts Try.infoInt
    refine lex_slice 1 (.cells #[.int .i64 d] 3) (by rfl) (fun x => by go_simp) (fun g144 q144 hn144 => ?_)
    unfold setSlot
    go_big_quiet_step (fail)
    refine wpQuiet_nil ?_
    have n20 : g144 ≠ g20 := ne_of_put hn144
    have nv : g144 ≠ gv := ne_of_put (none_of_put hn144)
    refine lex_append (.tmp 130) (.tmp 144) 30 3 i0 _ 1 8 Try.underlying30 ii iz0 iz1 iz2 (by rfl) gv st.length cv (ints st) curv (HRB.out.of ((Blocks.put_other _ _ (Ne.symm nv)).trans ((Blocks.put_other _ _ (Ne.symm hv20)).trans (Blocks.put_same _ _ _)))) (by rfl) g144 1 1 [.int .i64 d] 3 (by rfl) (Blocks.put_same _ _ _) rfl (by simp [Value.oneCell'])
      (by unfold maxLen; omega) (by omega) (.inl (by simp)) HK1.out (fun g' cv' cur' hr' hg' => ?_)
    unfold setSlot
    go_big_quiet_step (fail)
    refine wpQuiet_nil ?_
    have n20' : g20 ≠ g' := by
      rcases hg' with rfl | ⟨_, h⟩
      · exact hv20
      · exact Ne.symm (ne_of_put (none_of_put h))
    refine lex_store_one g20 (.slice (some ⟨g', 0, none⟩) (st.length + 1) cv') (.slice (some ⟨gv, 0, none⟩) st.length cv) _ (by rfl) (by rfl) (by rfl) ((Blocks.put_other _ _ n20').trans ((Blocks.put_other _ _ (Ne.symm n20)).trans (Blocks.put_same _ _ _))) (by rfl) (Or.inl (by simp)) (by kernel_rfl) (by simp [Value.oneCell']) ?_
    refine lex_nil ?_
    intro W2 hx2 hH2
    have HX2 := Lib.hid hx2
    have m20' := hH2 g20 _ (Blocks.put_same _ _ _)
    have mg' := hH2 g' _ ((Blocks.put_other _ _ (Ne.symm n20')).trans (Blocks.put_same _ _ _))
    have hr18 := hx2.keep HM18.out (by simp [hne, hv18])
    have hrN := hx2.keep HMN.out (by simp [hgN20])
    have hrc : W2.cell? ⟨nb, no + pn * 3, none⟩ = some (.int .i64 (xs.length : Nat)) := (World.cell?_of_block (a := ⟨nb, no + pn * 3, none⟩) (hx2.block nb (block_lt_of_cell HN0.out) (by simp [hnb20]))).trans HN0.out
    have HRC := Lib.hid hrc
    have hgN18 : gN ≠ g18 := by omega
    have hnb18 : nb ≠ g18 := by omega
    clear hx2 hH2 hrc
    obtain ⟨q, hq⟩ : ∃ q, r / xs.length = q := ⟨_, rfl⟩
    have hqi : (r : Int) / (xs.length : Int) = q := by rw [← hq]; simp
    have hqb : q ≤ 100000 := by rw [← hq]; exact Nat.le_trans (Nat.div_le_self _ _) hr
    have HQQ := Lib.hid hq
    clear hq
    refine wpIn_game [1, 0, 0, 0, 0, 0, 0, 2] [g18] _ (Fin.put fin_B0 _ _) (has_put (has_B0 _) hr18) (by kernel_rfl) (by kernel_rfl) (by kernel_rfl) ?_
    refine lex_readE 1 W2 (Behind.refl _ _) (has_put (has_B0 _) hr18) (by kernel_rfl) (by rfl) ?_
    apply Exists.intro
    refine ⟨fun z hz hB => ?_, ?_⟩
    · have g0 := blk_cellp (hB g18 _ (Blocks.put_same _ _ _)) 0 rfl
      clear hz hB
      simp only [List.take_succ_cons, List.take_zero]
      unfold Cx
      repeat (go_big_quiet_step (fail))
      exact wpQuiet_nil rfl
    simp only [List.drop_succ_cons, List.drop_zero]
    refine lex_quietE 6 (by kernel_rfl) (by rfl) ?_
    apply Exists.intro
    refine ⟨fun z hz => ?_, ?_⟩
    · have c1 := blk_cellp (hz.keep hrN (by simp [hgN18])) 0 rfl
      have c6 := behind_cellp hz HRC.out (by simp [hnb18])
      clear hz
      simp only [List.take_succ_cons, List.take_zero]
      unfold Cx
      repeat (go_big_quiet_step (fail))
      exact wpQuiet_nil rfl
    simp only [List.drop_succ_cons, List.drop_zero]
    refine lex_store_one g18 (.int .i64 q) (.int .i64 r) _ (by rfl) (by rfl) (by rfl) (Blocks.put_same _ _ _) (by rfl) (Or.inl (by simp)) (by kernel_rfl) (by simp [Value.oneCell']) ?_
    refine lex_nil ?_
    intro W3 hx3 hH3
    have m18' := hH3 g18 _ (Blocks.put_same _ _ _)
    have hI := HI0.out
    have hl18 := lt_of_heap HM18.out
    have hl20 := lt_of_heap HM20.out
    have hgs : g' = gv ∨ W.heap.size ≤ g' := hg'.imp id (fun h => h.1)
    have hng : ∀ k, k ≠ gv → k < W.heap.size → g' ≠ k := fun k h1 h2 h3 => by rcases hgs with h | h <;> omega
    have mg3 := hx3.keep mg' (by simpa using hng g18 hv18 hl18)
    have m203 := hx3.keep m20' (by simpa using Ne.symm hne.1)
    have hbe2 : Behind W [g20, gv, g18] W3 := (HX2.out.mono (by simp)).trans hx3 (by simp)
    have hv127 : g127 ≠ gv := fun e => HKV.out g127 (by simp) (by simp [rowBlk, e])
    have hvb2 : b2 ≠ gv := fun e => HKV.out b2 (by simp) (by simp [rowBlk, e])
    have hv19 : g19 ≠ gv := fun e => HKV.out g19 (by simp) (by simp [rowBlk, e])
    have hSz := hI.sz
    have hdn := digs_next HXX.out HPJ.out HXS.out HKA.out HDD.out HQQ.out
    refine ⟨keepsFrom_behind hbe2 (fun k hk => ?_) _, ⟨hbe2.block _ (by omega) ?_, hbe2.block _ (by omega) ?_⟩, ?_⟩
    · simp only [List.mem_cons, List.not_mem_nil, or_false] at hk
      rcases hk with rfl | rfl | rfl
      · exact ⟨_, _, HM20.out⟩
      · exact ⟨_, _, HMV.out⟩
      · exact ⟨_, _, HM18.out⟩
    · simp only [List.mem_cons, List.not_mem_nil, or_false, not_or]
      exact ⟨Ne.symm hne.2.2.1, hv127, Ne.symm hne.2.1⟩
    · simp only [List.mem_cons, List.not_mem_nil, or_false, not_or]
      exact ⟨Ne.symm hne.2.2.2.2, hvb2, Ne.symm hne.2.2.2.1⟩
    · refine ⟨hI.enc.keep hbe2 (fun k hk => ?_), ⟨hI.stp.beh.trans hbe2 (fun k hk => .inr ?_), hI.stp.new⟩, ?_, ?_, Nat.le_trans hI.sz hbe2.size, hbe2.keep hI.m19 ?_⟩
      · simp only [List.mem_cons, List.not_mem_nil, or_false] at hk
        rcases hk with rfl | rfl | rfl
        · exact hg20
        · exact ⟨hgv, hgvM⟩
        · exact hg18
      · simp only [List.mem_cons, List.not_mem_nil, or_false] at hk
        rcases hk with rfl | rfl | rfl <;> omega
      · rw [List.map_append, List.map_singleton, hdn]
        simpa using m18'
      · rw [List.map_append, List.map_singleton, hdn]
        have hlts : (st ++ [d]).length = st.length + 1 := by simp
        refine ⟨_, m203, ⟨?_, fun k hk => ?_, fun k hk hm => ?_⟩, fun k hk hm => ?_⟩
        · rw [hlts, show ints (st ++ [d]) = ints st ++ [.int .i64 d] by simp [ints]]
          exact .row (hr'.of mg3)
        · have : k = g' := by simpa [rowBlk] using hk
          omega
        · have : k = g' := by simpa [rowBlk] using hk
          subst this
          rcases hgs with h | h
          · exact hgvM (h ▸ hm)
          · have := hI.enc.lt _ hm; omega
        · have hkk : k = g' := by simpa [rowBlk] using hm
          have hk2 : k ≠ gv ∧ k < W.heap.size := by
            simp only [List.mem_cons, List.not_mem_nil, or_false] at hk
            rcases hk with h | h | h | h | h <;> rw [h]
            · exact ⟨hv18, hl18⟩
            · exact ⟨hv20, hl20⟩
            · exact ⟨hv127, by omega⟩
            · exact ⟨hvb2, by omega⟩
            · exact ⟨hv19, lt_of_heap hI.m19⟩
          exact hng k hk2.1 hk2.2 hkk.symm
      · simp only [List.mem_cons, List.not_mem_nil, or_false, not_or]
        exact ⟨h19.2, hv19, h19.1⟩
end Go.Proofs.Ytbacloneddnaeaa

/- bayes.Encode: the indicators of all variables. -/
-- slots 194
namespace Go.Proofs.Ytbacloneddnaeaa
open Go.RowKit Go.Shelf Num

def ESt.var (s : ESt) (k : Nat) : ESt := ((((s.nexts k).know (seqFrom s.N k)).add (seqFrom s.N k)).adds (pairsAt (seqFrom s.N k) k))
def ESt.vars (s : ESt) (l : List BV) : ESt := l.foldl (fun s x => s.var x.k.toNat) s
theorem ESt.vars_snoc (s : ESt) (l : List BV) (x : BV) : s.vars (l ++ [x]) = (s.vars l).var x.k.toNat := by simp [ESt.vars]

theorem ESt.nexts_ind (s : ESt) : ∀ k, (s.nexts k).ind = s.ind
  | 0 => rfl
  | k + 1 => ESt.nexts_ind s k
theorem ESt.nexts_L (s : ESt) : ∀ k, (s.nexts k).L = s.L
  | 0 => rfl
  | k + 1 => ESt.nexts_L s k

theorem seqFrom_mem {N k : Nat} {y : Int} (h : y ∈ seqFrom N k) : 0 ≤ y ∧ y ≤ N + k := by
  obtain ⟨j, hj, rfl⟩ := List.mem_map.1 h
  have := List.mem_range.1 hj
  omega

set_option maxHeartbeats 1600000 in
set_option maxRecDepth 100000 in
theorem enc_loop1 {t0 t1 t2 t3 t5 t6 t9 t10 t11 t12 t13 t14 t15 t16 t17 t18 t19 t20 t21 t22 t23 t24 t25 t26 t27 t28 t29 t30 t31 t32 t33 t34 t35 t36 t37 t38 t39 t40 t41 t42 t43 t47 t48 t49 t50 t51 t52 t53 t54 t55 t56 t57 t58 t59 t60 t61 t62 t63 t64 t65 t66 t67 t68 t69 t70 t71 t72 t73 t74 t75 t76 t77 t78 t79 t80 t81 t82 t83 t84 t85 t86 t87 t88 t89 t90 t91 t92 t93 t94 t95 t96 t97 t98 t99 t100 t101 t102 t103 t104 t105 t106 t107 t108 t109 t110 t111 t112 t113 t114 t115 t116 t117 t118 t119 t120 t121 t122 t123 t124 t125 t126 t127 t128 t129 t130 t131 t132 t133 t134 t135 t136 t137 t138 t139 t140 t141 t142 t143 t144 t145 t146 t147 t148 t149 t150 t151 t152 t153 t154 t155 t156 t157 t158 t159 t160 t161 t162 t163 t164 t165 t166 t167 t168 t169 t170 t171 t172 t173 t174 t175 t176 t177 t178 t179 t180 t181 t182 t183 t184 t185 t186 t187 t188 t189 t190 t191 t192 t193 : Value} {ds : List Deferred} (Q : Exit → Act → World → Prop) (b top gT gW gI : Nat) (e : EncP) (s : ESt) (w : World) (N : Nat) (l : List BV) (a : Option Addr) (cp : Nat) (KO : Gives 45 #[] (ratV (1, 1))) (h : EncAt b top gT gW gI e s w) (hb : b ≤ w.heap.size) (hN : NetAt N w a l) (hNb : N ≤ b)
    (hl : l.length ≤ 16) (hk : ∀ (i : Nat) (x : BV), l[i]? = some x → 2 ≤ x.k ∧ x.k ≤ 8) (hs1 : ∀ j, (s.vars (l.take j)).N ≤ 900) (hs2 : ∀ j, (s.vars (l.take j)).L.length ≤ 10000) (hs3 : ∀ j, (s.vars (l.take j)).ind.length ≤ 1000)
    (hQ : ∀ (y10 y11 y12 y13 y15 y47 y48 y49 y50 y51 y52 y53 y54 y55 y56 y57 y58 y59 y60 y61 y62 y63 y64 y65 y66 y67 y68 y69 y70 y71 y72 y73 y74 y75 y76 y77 y78 y79 y80 y81 y82 y83 y84 y85 y86 y87 y88 y89 y90 y91 y92 y93 y94 : Value) (e' : EncP) (w' : World), EncAt b w'.heap.size gT gW gI e' (s.vars l) w' → Step (e.M gT gW gI) w (e'.M gT gW gI) w' → Q (.exit 0) { tmps := List.toArray (t0 :: t1 :: t2 :: t3 :: .pointer (some ⟨gI, 0, none⟩) :: t5 :: t6 :: .func (.func 46) #[] #[.pointer (some ⟨gW, 0, none⟩), .pointer (some ⟨gT, 0, none⟩)] :: .func (.func 47) #[] #[.pointer (some ⟨gT, 0, none⟩)] :: t9 :: y10 :: y11 :: y12 :: y13 :: t14 :: y15 :: t16 :: t17 :: t18 :: t19 :: t20 :: t21 :: t22 :: t23 :: t24 :: t25 :: t26 :: t27 :: t28 :: t29 :: t30 :: t31 :: t32 :: t33 :: t34 :: t35 :: t36 :: t37 :: t38 :: t39 :: t40 :: t41 :: t42 :: t43 :: .slice a l.length cp :: .int .i64 l.length :: .int .i64 l.length :: y47 :: y48 :: y49 :: y50 :: y51 :: y52 :: y53 :: y54 :: y55 :: y56 :: y57 :: y58 :: y59 :: y60 :: y61 :: y62 :: y63 :: y64 :: y65 :: y66 :: y67 :: y68 :: y69 :: y70 :: y71 :: y72 :: y73 :: y74 :: y75 :: y76 :: y77 :: y78 :: y79 :: y80 :: y81 :: y82 :: y83 :: y84 :: y85 :: y86 :: y87 :: y88 :: y89 :: y90 :: y91 :: y92 :: y93 :: y94 :: t95 :: t96 :: t97 :: t98 :: t99 :: t100 :: t101 :: t102 :: t103 :: t104 :: t105 :: t106 :: t107 :: t108 :: t109 :: t110 :: t111 :: t112 :: t113 :: t114 :: t115 :: t116 :: t117 :: t118 :: t119 :: t120 :: t121 :: t122 :: t123 :: t124 :: t125 :: t126 :: t127 :: t128 :: t129 :: t130 :: t131 :: t132 :: t133 :: t134 :: t135 :: t136 :: t137 :: t138 :: t139 :: t140 :: t141 :: t142 :: t143 :: t144 :: t145 :: t146 :: t147 :: t148 :: t149 :: t150 :: t151 :: t152 :: t153 :: t154 :: t155 :: t156 :: t157 :: t158 :: t159 :: t160 :: t161 :: t162 :: t163 :: t164 :: t165 :: t166 :: t167 :: t168 :: t169 :: t170 :: t171 :: t172 :: t173 :: t174 :: t175 :: t176 :: t177 :: t178 :: t179 :: t180 :: t181 :: t182 :: t183 :: t184 :: t185 :: t186 :: t187 :: t188 :: t189 :: t190 :: t191 :: t192 :: t193 :: []), defers := ds } w') :
    (loopNo Try.f17 0).wp Try.prog Q { tmps := List.toArray (t0 :: t1 :: t2 :: t3 :: .pointer (some ⟨gI, 0, none⟩) :: t5 :: t6 :: .func (.func 46) #[] #[.pointer (some ⟨gW, 0, none⟩), .pointer (some ⟨gT, 0, none⟩)] :: .func (.func 47) #[] #[.pointer (some ⟨gT, 0, none⟩)] :: t9 :: t10 :: t11 :: t12 :: t13 :: t14 :: t15 :: t16 :: t17 :: t18 :: t19 :: t20 :: t21 :: t22 :: t23 :: t24 :: t25 :: t26 :: t27 :: t28 :: t29 :: t30 :: t31 :: t32 :: t33 :: t34 :: t35 :: t36 :: t37 :: t38 :: t39 :: t40 :: t41 :: t42 :: t43 :: .slice a l.length cp :: .int .i64 l.length :: .int .i64 0 :: t47 :: t48 :: t49 :: t50 :: t51 :: t52 :: t53 :: t54 :: t55 :: t56 :: t57 :: t58 :: t59 :: t60 :: t61 :: t62 :: t63 :: t64 :: t65 :: t66 :: t67 :: t68 :: t69 :: t70 :: t71 :: t72 :: t73 :: t74 :: t75 :: t76 :: t77 :: t78 :: t79 :: t80 :: t81 :: t82 :: t83 :: t84 :: t85 :: t86 :: t87 :: t88 :: t89 :: t90 :: t91 :: t92 :: t93 :: t94 :: t95 :: t96 :: t97 :: t98 :: t99 :: t100 :: t101 :: t102 :: t103 :: t104 :: t105 :: t106 :: t107 :: t108 :: t109 :: t110 :: t111 :: t112 :: t113 :: t114 :: t115 :: t116 :: t117 :: t118 :: t119 :: t120 :: t121 :: t122 :: t123 :: t124 :: t125 :: t126 :: t127 :: t128 :: t129 :: t130 :: t131 :: t132 :: t133 :: t134 :: t135 :: t136 :: t137 :: t138 :: t139 :: t140 :: t141 :: t142 :: t143 :: t144 :: t145 :: t146 :: t147 :: t148 :: t149 :: t150 :: t151 :: t152 :: t153 :: t154 :: t155 :: t156 :: t157 :: t158 :: t159 :: t160 :: t161 :: t162 :: t163 :: t164 :: t165 :: t166 :: t167 :: t168 :: t169 :: t170 :: t171 :: t172 :: t173 :: t174 :: t175 :: t176 :: t177 :: t178 :: t179 :: t180 :: t181 :: t182 :: t183 :: t184 :: t185 :: t186 :: t187 :: t188 :: t189 :: t190 :: t191 :: t192 :: t193 :: []), defers := ds } w := by
  show Code.wp Try.prog (Code.loop _) Q _ w
  have HQ := Lib.hid hQ
  have HH := Lib.hid h
  have HB := Lib.hid hb
  have HN := Lib.hid hN
  have HNB := Lib.hid hNb
  have HK := Lib.hid hk
  have HS1 := Lib.hid hs1
  have HS2 := Lib.hid hs2
  have HS3 := Lib.hid hs3
  obtain ⟨i1, gi, gz0, gz1, gz2⟩ := info_parts Try.infoInts
  clear hQ h hb hN hNb hk hs1 hs2 hs3
  go_loopw [46] (fun i wr => ∃ (j : Nat) (e' : EncP), j ≤ l.length ∧ i = .int .i64 j ∧ Hid (EncAt b wr.heap.size gT gW gI e' (s.vars (l.take j)) wr) ∧ Hid (Step (e.M gT gW gI) w (e'.M gT gW gI) wr))
    (fun i _ => l.length - (intOf i).toNat)
  case atStart => exact ⟨0, e, Nat.zero_le _, rfl, HH.out.lift (Nat.le_refl _), Step.refl _ _⟩
  case round =>
    obtain ⟨j, e', hj, rfl, HE, HS⟩ := hrel
    by_cases hlt : j < l.length
    · have hd : decide (j < l.length) = true := by simpa using hlt
      obtain ⟨x, hx⟩ : ∃ x, l[j]? = some x := ⟨_, List.getElem?_eq_getElem hlt⟩
      have HX := Lib.hid hx
      have hkx := HK.out j x hx
      have hbr : b ≤ wr.heap.size := Nat.le_trans HB.out HS.out.beh.size
      have hbe : Below b w wr := HS.out.below HH.out.ge HB.out
      obtain ⟨nb, no, pa, pc, ta, tc, hnb, rfl, n0, n1, n2, _⟩ := (HN.out.below hbe HNB.out) j x hx
      obtain ⟨k, hkk⟩ : ∃ k : Nat, x.k = k := ⟨x.k.toNat, by omega⟩
      rw [hkk] at n0 hkx
      have HKK := Lib.hid hkk
      have hk2 : 2 ≤ k := by omega
      have hk8 : k ≤ 8 := by omega
      clear hx hkk hkx hbe
      go_wp2_with fail
      obtain ⟨w1, hw1⟩ : ∃ w1, w1 = wr.alloc (Obj.cells #[Value.int IntKind.i64 k, Value.slice pa x.ps.length pc, Value.slice ta x.tab.length tc] 78) := ⟨_, rfl⟩
      have hA : Behind wr [] w1 := by rw [hw1]; exact behind_of_below ((Below.refl _ _).alloc (Nat.le_refl _) _)
      rw [← hw1]
      have hE1 := HE.out.keep hA (by simp)
      have hS1 : Step (e'.M gT gW gI) wr (e'.M gT gW gI) w1 := ⟨hA.mono (by simp), fun _ h => .inl h⟩
      have hb1 : b ≤ w1.heap.size := Nat.le_trans hbr hA.size
      have hNj := HS1.out j
      have hLj := HS2.out j
      have hIj := HS3.out j
      have HS1' := Lib.hid (HS.out.trans hS1)
      clear hw1 hA hS1 n0 n1 n2 HE HS hbr
      refine wp_code (c' := loopNo Try.f17 1) (by kernel_rfl) ?_
      refine enc_loop2 _ b _ gT gW gI e' (s.vars (l.take j)) w1 k KO hE1 (by omega) hb1 ?_
      intro y53 y54 y55 y56 y57 y58 y59 y60 v e2 w2 hE2 hS2 hO2
      have HV : Hid (s.vars (l.take (j + 1)) = ((((s.vars (l.take j)).nexts k).know (seqFrom (s.vars (l.take j)).N k)).add (seqFrom (s.vars (l.take j)).N k)).adds (pairsAt (seqFrom (s.vars (l.take j)).N k) k)) := by
        unfold Hid
        rw [take_snoc_of HX.out, ESt.vars_snoc, HKK.out]; rfl
      have hxl := seqFrom_length (s.vars (l.take j)).N k
      have hxm : ∀ y ∈ seqFrom (s.vars (l.take j)).N k, 0 ≤ y ∧ y ≤ 100000 := fun y hy => by have := seqFrom_mem hy; omega
      have hIn : ((s.vars (l.take j)).nexts k).ind.length ≤ 1000 := by rw [ESt.nexts_ind]; exact hIj
      have hLn : ((s.vars (l.take j)).nexts k).L.length ≤ 10000 := by rw [ESt.nexts_L]; exact hLj
      have HS2' := Lib.hid (HS1'.out.trans hS2)
      clear hE1 hS2 HS1' hNj hLj hIj
      generalize (s.vars (l.take j)).nexts k = s2 at *
      generalize seqFrom (s.vars (l.take j)).N k = xs at *
      have hb2 : b ≤ w2.heap.size := Nat.le_trans HB.out HS2'.out.beh.size
      have hx8 : xs.length ≤ 8 := by omega
      obtain ⟨g, cap, rfl, hrow, hgM, hge, hcap, hcap2⟩ := hO2.rowI (by intro h; rw [h] at hxl; simp at hxl; omega)
      have HXL := Lib.hid hxl
      have HE2 := Lib.hid hE2
      have HO2 := Lib.hid (hO2.mono (b' := b) hb1)
      have HROW := Lib.hid hrow
      have HGM := Lib.hid hgM
      have HXM := Lib.hid hxm
      have cI := blk_cell hE2.mI 0 rfl
      clear hxl hE2 hO2 hrow hgM hxm
      go_wp2_with (at_builtin; refine wpList_append_row _ rfl _ _ 41 rfl 30 i1 (.slice none 0 0) 1 24 Try.underlying41 gi gz0 gz1 gz2 rfl _ _ _ rfl (HE2.out.rI.keep (behind_of_below ((Below.refl _ _).alloc (Nat.le_refl _) _)) (by simp)) w2.heap.size 1 1 [.slice (some ⟨g, 0, none⟩) xs.length cap] 30 rfl (heap_alloc_new w2 _) rfl (by intro u hu; simp at hu; subst hu; rfl) (by omega) (by unfold maxLen; omega) (by omega) ?_)
      intro v3 w3 hr3 hB3 hn3
      obtain ⟨p3, c3, rfl⟩ := hr3.slice
      obtain ⟨e3, hE3, hS3, hO3⟩ := know_enc HE2.out HO2.out hb2 hB3 hr3 hn3
      have mI3 : w3.heap[gI]? = some (.cells #[e2.vI] 41 (0, 0)) := by
        have h0 : Behind w2 (rowBlk e2.vI) w3 := ((behind_of_below ((Below.refl _ _).alloc (Nat.le_refl _) _)).mono (by simp)).trans hB3 (fun k hk => .inl hk)
        refine h0.keep HE2.out.mI ?_
        have hnd := HE2.out.nd
        simp only [EncP.M, List.nodup_cons, List.mem_cons, List.mem_append, not_or] at hnd
        exact hnd.2.2.1.2.2.2
      have cI3 := blk_cell mI3 0 rfl
      have fI3 := blk_free mI3 0
      have HR4 := Lib.hid (HROW.out.step hS3 HGM.out)
      have HG4 := Lib.hid (hS3.out HROW.out.lt HGM.out)
      have HS4 := Lib.hid (HS2'.out.trans hS3)
      have HE4 := Lib.hid hE3
      clear hr3 hB3 hn3 hE3 hS3 hO3 mI3 cI HE2 HO2 HS2' HROW HGM
      go_wp2_with fail
      have hb4 : b ≤ (w3.setCell ⟨gI, 0, none⟩ (.slice p3 (s2.ind.length + 1) c3)).heap.size := Nat.le_trans HB.out HS4.out.beh.size
      generalize w3.setCell ⟨gI, 0, none⟩ (.slice p3 (s2.ind.length + 1) c3) = w4 at *
      refine (Try.slices_Clone_int g 0 xs.length cap xs w4 (Nat.le_refl _) (by omega) (fun i hi => HR4.out.cell (by simp [List.getElem?_eq_getElem hi]))).mono ?_
      rintro r5 w5 ⟨vc, rfl, hown5, _, hB5⟩
      rw [List.take_length] at hown5
      obtain ⟨hrow5, hge5⟩ := RowV.of_own hown5
      have hS5 : Step (e3.M gT gW gI) w4 (e3.M gT gW gI) w5 := ⟨(behind_of_below hB5).mono (by simp), fun _ h => .inl h⟩
      have hO5 : OwnI w5 b (e3.M gT gW gI) vc xs := ⟨hrow5, fun g hg => Nat.le_trans hb4 (hge5 g hg), fun g hg hm => by have := hge5 g hg; have := HE4.out.lt g hm; omega⟩
      have hE5 := (HE4.out.keep (behind_of_below hB5) (by simp)).lift (top' := w5.heap.size) (Nat.le_refl _)
      have HR5 := Lib.hid (HR4.out.step hS5 HG4.out)
      have hb5 : b ≤ w5.heap.size := Nat.le_trans hb4 hB5.size
      have HE5 := Lib.hid hE5
      have HO5 := Lib.hid hO5
      have HS5 := Lib.hid (HS4.out.trans hS5)
      clear hown5 hrow5 hge5 hS5 hO5 hE5 hB5 HE4 HS4 HR4 cI3 fI3
      go_wp2_with fail
      refine (add_enc HE5.out HO5.out (fun g hg => HO5.out.row.lt g hg) (by simp [ESt.know]; omega) hb5).mono ?_
      rintro r6 w6 ⟨rfl, e6, hE6, hS6⟩
      have HR6 := Lib.hid (HR5.out.step hS6 HG4.out)
      have HG6 := Lib.hid (hS6.out HR5.out.lt HG4.out)
      have HE6 := Lib.hid hE6
      have HS6 := Lib.hid (HS5.out.trans hS6)
      have hb6 : b ≤ w6.heap.size := Nat.le_trans hb5 hS6.beh.size
      clear hE6 hS6 HE5 HO5 HS5 HR5 HG4
      go_wp2_with fail
      refine wp_code (c' := loopNo Try.f17 2) (by kernel_rfl) ?_
      refine enc_loop3 _ b _ gT gW gI e6 ((s2.know xs).add xs) w6 xs g cap HE6.out hb6 HR6.out HG6.out HXM.out (by omega) hcap hcap2 (by simp [ESt.know, ESt.add]; omega) ?_
      intro y12 y13 y15 y72 y73 y74 y75 y76 y77 y78 y79 y80 y81 y82 y83 y84 y85 y86 y87 y88 y89 y90 y91 y92 y93 e7 w7 hE7 hS7
      rw [HXL.out, ← HV.out] at hE7
      have HE7 := Lib.hid hE7
      have HS7 := Lib.hid (HS6.out.trans hS7)
      clear hE7 hS7 HE6 HS6 HR6 HG6 HXM HV
      go_wp2_with fail
      go_roundw
      case rel => exact ⟨j + 1, e7, by omega, by go_num, HE7, HS7⟩
      case measure => simp [intOf]; omega
    · obtain rfl : j = l.length := by omega
      go_wp2_with fail
      have hE := HE.out
      rw [List.take_length] at hE
      exact HQ.out _ _ _ _ _ _ _ _ _ _ _ _ _ _ _ _ _ _ _ _ _ _ _ _ _ _ _ _ _ _ _ _ _ _ _ _ _ _ _ _ _ _ _ _ _ _ _ _ _ _ _ _ _ e' _ hE HS.out
end Go.Proofs.Ytbacloneddnaeaa
