/- Texts of this claim, joined: BEnc6, BEncR, BEncT, BEnc2, BEnc4. -/
import Derived.Test.YtbacloneddnaeaaM22
import Derived.Test.YtbacloneddnaeaaM20
import Derived.Test.YtbacloneddnaeaaM18

/- bayes.Encode: a row of a table: its first digit. -/
-- slots 194
namespace Go.Proofs.Ytbacloneddnaeaa
open Go.RowKit Go.Shelf Num

def regionsIn : Code → List Code
  | .seq a b => regionsIn a ++ regionsIn b
  | .cond _ a b => regionsIn a ++ regionsIn b
  | .block _ a => regionsIn a
  | .loop a => regionsIn a
  | .rangeFunc _ _ a b => regionsIn a ++ regionsIn b
  | .scope a => regionsIn a
  | .region i o d => [.region i o d]
  | _ => []
def regionNo (f : Func) (n : Nat) : Code := (f.body.map fun c => (regionsIn c).getD n .skip).getD .skip

theorem EncAt.ind_at {b top gT gW gI : Nat} {e : EncP} {s : ESt} {w : World} (h : EncAt b top gT gW gI e s w) {i : Nat} {xs : List Int} (hi : s.ind[i]? = some xs) (h0 : xs ≠ []) :
    ∃ (gi cap : Nat) (curI : Array Value) (gx capx : Nat) (curX : Array Value), e.vI = .slice (some ⟨gi, 0, none⟩) s.ind.length cap ∧ w.heap[gi]? = some (.cells curI 30 (0, 0)) ∧ curI[i]? = some (.slice (some ⟨gx, 0, none⟩) xs.length capx) ∧
      w.heap[gx]? = some (.cells curX 3 (0, 0)) ∧ (∀ (j : Nat) (y : Int), xs[j]? = some y → curX[j]? = some (Value.int .i64 y)) ∧ gx < top ∧ gx ∉ e.M gT gW gI ∧ gi ∈ e.M gT gW gI ∧ i < s.ind.length := by
  have hil : i < s.ind.length := (List.getElem?_eq_some_iff.1 hi).1
  have hlen : e.ind.length = s.ind.length := by simpa using h.rI.length
  obtain ⟨v, hv⟩ : ∃ v, e.ind[i]? = some v := ⟨_, List.getElem?_eq_getElem (by omega)⟩
  obtain ⟨ho, ht⟩ := h.oI i v xs hv hi
  obtain ⟨gx, capx, rfl, ⟨curX, hx, hxs⟩, hxM, _⟩ := ho.rowI h0
  have hr := h.rI
  have hm : ∀ g ∈ rowBlk e.vI, g ∈ e.M gT gW gI := fun g hg => by simp [EncP.M, hg]
  generalize e.vI = vI at hr hm
  generalize hn : s.ind.length = n at hr hil
  generalize hz : e.ind = zs at hr hv
  cases hr with
  | nil => simp at hv
  | @row gi _ cap _ curI hr =>
    refine ⟨gi, cap, curI, gx, capx, curX, rfl, hr.blk, ?_, hx, fun j y hj => by simpa using hxs j y hj, ht gx (by simp [rowBlk]), hxM, hm gi (by simp [rowBlk]), hil⟩
    have h2 := hr.tk
    rw [← h2, List.getElem?_take] at hv
    split at hv
    · simpa using hv
    · cases hv

set_option maxHeartbeats 1600000 in
set_option maxRecDepth 100000 in
theorem enc_reg33 {t0 t1 t2 t3 t5 t6 t7 t8 t9 t10 t11 t12 t13 t14 t15 t19 t20 t21 t22 t23 t24 t25 t26 t27 t28 t29 t30 t31 t32 t33 t34 t35 t36 t37 t38 t39 t40 t41 t42 t43 t44 t45 t46 t47 t48 t49 t50 t51 t52 t53 t54 t55 t56 t57 t58 t59 t60 t61 t62 t63 t64 t65 t66 t67 t68 t69 t70 t71 t72 t73 t74 t75 t76 t77 t78 t79 t80 t81 t82 t83 t84 t85 t86 t87 t88 t89 t90 t91 t92 t93 t94 t95 t96 t97 t98 t99 t100 t101 t102 t103 t104 t105 t106 t107 t108 t109 t110 t111 t112 t113 t114 t115 t116 t117 t118 t119 t120 t121 t122 t123 t124 t125 t126 t127 t128 t129 t130 t131 t132 t133 t134 t135 t136 t137 t138 t139 t140 t141 t142 t143 t144 t145 t146 t147 t148 t149 t150 t151 t152 t153 t154 t155 t156 t157 t158 t159 t160 t161 t162 t163 t164 t165 t166 t167 t168 t169 t170 t171 t172 t173 t174 t175 t176 t177 t178 t179 t180 t181 t182 t183 t184 t185 t186 t187 t188 t189 t190 t191 t192 t193 : Value} {ds : List Deferred} (Q : Exit → Act → World → Prop) (b top gT gW gI : Nat) (e : EncP) (s : ESt) (w : World) (i r k g17 g18 : Nat) (v1 v2 : Value) (xs : List Int) (d : Int) (h : EncAt b top gT gW gI e s w) (hi : s.ind[i]? = some xs) (hk : xs.length = k) (hk0 : 0 < k) (hr : r ≤ 100000) (hk8 : k ≤ 8) (hi16 : i ≤ 16) (hil : s.ind.length ≤ 16)
    (hd : xs[r % k]? = some d) (m17 : w.heap[g17]? = some (.cells #[.int .i64 k, v1, v2] 78 (0, 0))) (m18 : w.heap[g18]? = some (.cells #[.int .i64 r] 3 (0, 0)))
    (hQ : ∀ (y110 y111 y112 y113 y114 y115 y116 y117 y118 y119 y120 : Value) (g20 g120 : Nat) (w' : World), Behind w [] w' → w.heap.size ≤ g20 → w.heap.size ≤ g120 → g20 ≠ g120 → w'.heap[g20]? = some (.cells #[.slice (some ⟨g120, 0, none⟩) 1 1] 30 (0, 0)) → w'.heap[g120]? = some (.cells #[.int .i64 d] 3 (0, 0)) →
      Q .normal { tmps := List.toArray (t0 :: t1 :: t2 :: t3 :: .pointer (some ⟨gI, 0, none⟩) :: t5 :: t6 :: t7 :: t8 :: t9 :: t10 :: t11 :: t12 :: t13 :: t14 :: t15 :: .int .i64 i :: .pointer (some ⟨g17, 0, none⟩) :: .pointer (some ⟨g18, 0, none⟩) :: t19 :: .pointer (some ⟨g20, 0, none⟩) :: t21 :: t22 :: t23 :: t24 :: t25 :: t26 :: t27 :: t28 :: t29 :: t30 :: t31 :: t32 :: t33 :: t34 :: t35 :: t36 :: t37 :: t38 :: t39 :: t40 :: t41 :: t42 :: t43 :: t44 :: t45 :: t46 :: t47 :: t48 :: t49 :: t50 :: t51 :: t52 :: t53 :: t54 :: t55 :: t56 :: t57 :: t58 :: t59 :: t60 :: t61 :: t62 :: t63 :: t64 :: t65 :: t66 :: t67 :: t68 :: t69 :: t70 :: t71 :: t72 :: t73 :: t74 :: t75 :: t76 :: t77 :: t78 :: t79 :: t80 :: t81 :: t82 :: t83 :: t84 :: t85 :: t86 :: t87 :: t88 :: t89 :: t90 :: t91 :: t92 :: t93 :: t94 :: t95 :: t96 :: t97 :: t98 :: t99 :: t100 :: t101 :: t102 :: t103 :: t104 :: t105 :: t106 :: t107 :: t108 :: t109 :: y110 :: y111 :: y112 :: y113 :: y114 :: y115 :: y116 :: y117 :: y118 :: y119 :: y120 :: t121 :: t122 :: t123 :: t124 :: t125 :: t126 :: t127 :: t128 :: t129 :: t130 :: t131 :: t132 :: t133 :: t134 :: t135 :: t136 :: t137 :: t138 :: t139 :: t140 :: t141 :: t142 :: t143 :: t144 :: t145 :: t146 :: t147 :: t148 :: t149 :: t150 :: t151 :: t152 :: t153 :: t154 :: t155 :: t156 :: t157 :: t158 :: t159 :: t160 :: t161 :: t162 :: t163 :: t164 :: t165 :: t166 :: t167 :: t168 :: t169 :: t170 :: t171 :: t172 :: t173 :: t174 :: t175 :: t176 :: t177 :: t178 :: t179 :: t180 :: t181 :: t182 :: t183 :: t184 :: t185 :: t186 :: t187 :: t188 :: t189 :: t190 :: t191 :: t192 :: t193 :: []), defers := ds } w') :
    (regionNo Try.f17 33).wp Try.prog Q { tmps := List.toArray (t0 :: t1 :: t2 :: t3 :: .pointer (some ⟨gI, 0, none⟩) :: t5 :: t6 :: t7 :: t8 :: t9 :: t10 :: t11 :: t12 :: t13 :: t14 :: t15 :: .int .i64 i :: .pointer (some ⟨g17, 0, none⟩) :: .pointer (some ⟨g18, 0, none⟩) :: t19 :: t20 :: t21 :: t22 :: t23 :: t24 :: t25 :: t26 :: t27 :: t28 :: t29 :: t30 :: t31 :: t32 :: t33 :: t34 :: t35 :: t36 :: t37 :: t38 :: t39 :: t40 :: t41 :: t42 :: t43 :: t44 :: t45 :: t46 :: t47 :: t48 :: t49 :: t50 :: t51 :: t52 :: t53 :: t54 :: t55 :: t56 :: t57 :: t58 :: t59 :: t60 :: t61 :: t62 :: t63 :: t64 :: t65 :: t66 :: t67 :: t68 :: t69 :: t70 :: t71 :: t72 :: t73 :: t74 :: t75 :: t76 :: t77 :: t78 :: t79 :: t80 :: t81 :: t82 :: t83 :: t84 :: t85 :: t86 :: t87 :: t88 :: t89 :: t90 :: t91 :: t92 :: t93 :: t94 :: t95 :: t96 :: t97 :: t98 :: t99 :: t100 :: t101 :: t102 :: t103 :: t104 :: t105 :: t106 :: t107 :: t108 :: t109 :: t110 :: t111 :: t112 :: t113 :: t114 :: t115 :: t116 :: t117 :: t118 :: t119 :: t120 :: t121 :: t122 :: t123 :: t124 :: t125 :: t126 :: t127 :: t128 :: t129 :: t130 :: t131 :: t132 :: t133 :: t134 :: t135 :: t136 :: t137 :: t138 :: t139 :: t140 :: t141 :: t142 :: t143 :: t144 :: t145 :: t146 :: t147 :: t148 :: t149 :: t150 :: t151 :: t152 :: t153 :: t154 :: t155 :: t156 :: t157 :: t158 :: t159 :: t160 :: t161 :: t162 :: t163 :: t164 :: t165 :: t166 :: t167 :: t168 :: t169 :: t170 :: t171 :: t172 :: t173 :: t174 :: t175 :: t176 :: t177 :: t178 :: t179 :: t180 :: t181 :: t182 :: t183 :: t184 :: t185 :: t186 :: t187 :: t188 :: t189 :: t190 :: t191 :: t192 :: t193 :: []), defers := ds } w := by
  show Code.wp Try.prog (Code.region _ _ _) Q _ w
  obtain ⟨gi, cap, curI, gx, capx, curX, hvI, mi, ci, mx, cx, _, _, _, hil2⟩ := h.ind_at hi (by intro e; rw [e] at hk; simp at hk; omega)
  have mI := h.mI
  rw [hvI] at mI
  have cd := cx _ _ hd
  have HMI := Lib.hid mI
  have HMi := Lib.hid mi
  have HCi := Lib.hid ci
  have HMx := Lib.hid mx
  have HCD := Lib.hid cd
  have HM17 := Lib.hid m17
  have HM18 := Lib.hid m18
  have HQ := Lib.hid hQ
  have hrk : r % k < k := Nat.mod_lt _ hk0
  have hk1 : ((k : Int) == 0) = false := beq_no (by omega)
  have hk3 : (k : Int) ≠ 0 := by omega
  clear h hi hd m17 m18 hQ hvI mi ci mx cx mI cd
  refine wp_game [0, 0, 0, 0, 0, 0, 0, 0, 0, 0, 3, 3, 2] [] B0 fin_B0 (has_B0 _) (by kernel_rfl) (by kernel_rfl) ?_
  refine lex_quietE 10 (by kernel_rfl) (by rfl) ?_
  apply Exists.intro
  refine ⟨fun z hz => ?_, ?_⟩
  · have c1 := blk_cellp (hz.keep HMI.out (by simp)) 0 rfl
    have c2 := blk_cellp (hz.keep HMi.out (by simp)) i HCi.out
    have c3 := blk_cellp (hz.keep HM18.out (by simp)) 0 rfl
    have c4 := blk_cellp (hz.keep HM17.out (by simp)) 0 rfl
    have c5 := blk_cellp (hz.keep HMx.out (by simp)) (r % k) HCD.out
    clear hz
    simp only [List.take_succ_cons, List.take_zero]
    unfold Cx
    repeat (go_big_quiet_step (fail))
    exact wpQuiet_nil rfl
  simp only [List.drop_succ_cons, List.drop_zero]
  refine lex_slice 1 (.cells #[.int .i64 d] 3) (by rfl) (fun x => by go_simp) (fun g120 q120 hn120 => ?_)
  unfold setSlot
  go_big_quiet_step (fail)
  refine wpQuiet_nil ?_
  refine lex_alloc (.slice none 0 0) (by rfl) (fun x => by kernel_rfl) (fun g20 q20 hn20 => ?_)
  unfold setSlot
  go_big_quiet_step (fail)
  refine wpQuiet_nil ?_
  have hne : g20 ≠ g120 := fun e => by rw [e, Blocks.put_same] at hn20; cases hn20
  clear hn20 hn120
  refine lex_store_one g20 (.slice (some ⟨g120, 0, none⟩) 1 1) (.slice none 0 0) _ (by rfl) (by rfl) (by rfl) (Blocks.put_same _ _ _) (by rfl) (Or.inr q20) (by kernel_rfl) (by simp [Value.oneCell']) ?_
  refine lex_nil ?_
  intro x hx hH
  exact HQ.out _ _ _ _ _ _ _ _ _ _ _ g20 g120 x hx q20 q120 hne (hH g20 _ (Blocks.put_same _ _ _)) (hH g120 _ ((Blocks.put_other _ _ (Ne.symm hne)).trans ((Blocks.put_other _ _ (Ne.symm hne)).trans (Blocks.put_same _ _ _))))
end Go.Proofs.Ytbacloneddnaeaa

/- bayes.Encode: the digits of a row, parent after parent, from the last one on. -/
namespace Go.Proofs.Ytbacloneddnaeaa
open Go.RowKit Go.Shelf Num

theorem RowV.cells {w : World} {E : TypeId} {size : Nat} {v : Value} {n : Nat} {xs : List Value} (h : RowV (inW w) E size v n xs) : ∀ g ∈ rowBlk v, ∃ cur, w.heap[g]? = some (.cells cur E (0, 0)) := by
  cases h with
  | nil => simp [rowBlk]
  | row h =>
    intro g hg
    obtain rfl : g = _ := by simpa [rowBlk] using hg
    exact ⟨_, h.blk⟩

theorem EncAt.cells {b top gT gW gI : Nat} {e : EncP} {s : ESt} {w : World} (h : EncAt b top gT gW gI e s w) : ∀ g ∈ e.M gT gW gI, ∃ cur T, w.heap[g]? = some (.cells cur T (0, 0)) := by
  intro g hg
  simp only [EncP.M, List.mem_cons, List.mem_append] at hg
  rcases hg with rfl | rfl | rfl | rfl | rfl | hg | hg
  · exact ⟨_, _, h.mT⟩
  · exact ⟨_, _, h.mW⟩
  · exact ⟨_, _, h.mI⟩
  · exact ⟨_, _, h.rL.blk⟩
  · exact ⟨_, _, h.rH.blk⟩
  · obtain ⟨c, hc⟩ := h.rC.cells g hg
    exact ⟨_, _, hc⟩
  · obtain ⟨c, hc⟩ := h.rI.cells g hg
    exact ⟨_, _, hc⟩

theorem behind_of_own {W W' : World} {row : Option Nat} (hg : W.grownBy W' row) : Behind W row.toList W' :=
  ⟨hg.os, hg.tape, hg.output, hg.size, fun k hk hn => hg.block k hk (fun e => hn (by rw [← e]; simp))⟩

theorem not_cells {W : World} {r : Nat} {o : Obj} (ho : W.heap[r]? = some o) (hc : o.isCells = false) {cur : Array Value} {T : TypeId} (h : W.heap[r]? = some (.cells cur T (0, 0))) : False := by
  rw [h] at ho
  cases ho
  simp [Obj.isCells] at hc

def digStep (l : List BV) (ind : List (List Int)) (x : List Int × Nat) (p : Int) : List Int × Nat := (x.1 ++ [(ind.getD p.toNat []).getD (x.2 % kAt l p.toNat) 0], x.2 / kAt l p.toNat)
def digsAt (l : List BV) (ind : List (List Int)) (ps : List Int) (x : List Int × Nat) (is : List Nat) : List Int × Nat := is.foldl (fun x i => digStep l ind x (ps.getD i 0)) x

theorem digsAt_snoc (l : List BV) (ind : List (List Int)) (ps : List Int) (x : List Int × Nat) (is : List Nat) (i : Nat) : digsAt l ind ps x (is ++ [i]) = digStep l ind (digsAt l ind ps x is) (ps.getD i 0) := by simp [digsAt]
theorem digsAt_bounds (l : List BV) (ind : List (List Int)) (ps : List Int) : ∀ (is : List Nat) (x : List Int × Nat), (digsAt l ind ps x is).2 ≤ x.2 ∧ (digsAt l ind ps x is).1.length = x.1.length + is.length
  | [], x => by simp [digsAt]
  | i :: is, x => by
    obtain ⟨h1, h2⟩ := digsAt_bounds l ind ps is (digStep l ind x (ps.getD i 0))
    rw [show digsAt l ind ps x (i :: is) = digsAt l ind ps (digStep l ind x (ps.getD i 0)) is from rfl]
    refine ⟨Nat.le_trans h1 (Nat.div_le_self _ _), ?_⟩
    rw [h2]
    simp [digStep]; omega

structure RI (b top gT gW gI : Nat) (e : EncP) (s : ESt) (M0 : List Nat) (w0 : World) (K : List Nat) (g18 g20 g19 : Nat) (c19 : Array Value) (T19 : TypeId) (l : List BV) (ps : List Int) (x0 : List Int × Nat) (S0 : Nat) (pre : List (_root_.Fin ps.length)) (W : World) : Prop where
  enc : EncAt b top gT gW gI e s W
  stp : Step M0 w0 (e.M gT gW gI) W
  m18 : W.heap[g18]? = some (.cells #[.int .i64 ((digsAt l s.ind ps x0 (pre.map (·.1))).2 : Nat)] 3 (0, 0))
  ex : ∃ v, W.heap[g20]? = some (.cells #[v] 30 (0, 0)) ∧ OwnI W top (e.M gT gW gI) v (digsAt l s.ind ps x0 (pre.map (·.1))).1 ∧ ∀ g ∈ K, g ∉ rowBlk v
  sz : S0 ≤ W.heap.size
  m19 : W.heap[g19]? = some (.cells c19 T19 (0, 0))

theorem ri_own {b top gT gW gI : Nat} {e : EncP} {s : ESt} {M0 : List Nat} {w0 : World} {K : List Nat} {g18 g20 g19 : Nat} {c19 : Array Value} {T19 : TypeId} {l : List BV} {ps : List Int} {x0 : List Int × Nat} {S0 B : Nat} (hB : top ≤ B) (hw : w0.heap.size ≤ B) :
    OwnFrom B (RI b top gT gW gI e s M0 w0 K g18 g20 g19 c19 T19 l ps x0 S0) := fun _ W W' row h hg hr => by
  have hb := behind_of_own hg
  have hU : ∀ g ∈ row.toList, top ≤ g ∧ g ∉ e.M gT gW gI := fun g hgr => by
    obtain ⟨h1, o, ho, hc⟩ := hr g (by simpa using hgr)
    exact ⟨by omega, fun hm => by obtain ⟨c, T, h2⟩ := h.enc.cells g hm; exact not_cells ho hc h2⟩
  have hcell : ∀ {g : Nat} {cur : Array Value} {T : TypeId}, W.heap[g]? = some (.cells cur T (0, 0)) → g ∉ row.toList := fun {g cur T} h2 hgr => by
    obtain ⟨_, o, ho, hc⟩ := hr g (by simpa using hgr)
    exact not_cells ho hc h2
  obtain ⟨v, h1, h2, h3⟩ := h.ex
  exact ⟨h.enc.keep hb hU, ⟨h.stp.beh.trans hb (fun g hgr => .inr (Nat.le_trans hw (hr g (by simpa using hgr)).1)), h.stp.new⟩, hb.keep h.m18 (hcell h.m18),
    ⟨v, hb.keep h1 (hcell h1), ⟨h2.row.keep hb (fun g hgv => by obtain ⟨c, hc⟩ := h2.row.cells g hgv; exact hcell hc), h2.ge, h2.out⟩, h3⟩, Nat.le_trans h.sz hg.size, hb.keep h.m19 (hcell h.m19)⟩
end Go.Proofs.Ytbacloneddnaeaa

/- bayes.Encode: rows of a table, marks, a row turned round. -/
namespace Go.Proofs.Ytbacloneddnaeaa
open Go.RowKit Go.Shelf Num

def rowIs (l : List BV) (ind : List (List Int)) (i : Nat) (x : BV) (r : Nat) : List Int := (digsAt l ind x.ps ([(ind.getD i []).getD (r % x.k.toNat) 0], r / x.k.toNat) (downTo x.ps.length 0)).1.reverse
def ESt.row (s : ESt) (l : List BV) (i : Nat) (x : BV) (r : Nat) (p : Nat × Nat) : ESt :=
  ((s.next p).add ((rowIs l s.ind i x r).map (fun y => -y) ++ [(s.N : Int) + 1])).adds ((rowIs l s.ind i x r).map fun y => [-((s.N : Int) + 1), y])
def ESt.rows (s : ESt) (l : List BV) (i : Nat) (x : BV) (j : Nat) : ESt := (List.range j).foldl (fun s r => s.row l i x r (x.tab.getD r (0, 1))) s
def ESt.tables (s : ESt) (l : List BV) (j : Nat) : ESt := (List.range j).foldl (fun s i => match l[i]? with | some x => s.rows l i x x.tab.length | none => s) s

theorem ESt.rows_succ (s : ESt) (l : List BV) (i : Nat) (x : BV) (j : Nat) : s.rows l i x (j + 1) = (s.rows l i x j).row l i x j (x.tab.getD j (0, 1)) := by simp [ESt.rows, List.range_succ]
theorem ESt.tables_succ (s : ESt) (l : List BV) (j : Nat) (x : BV) (h : l[j]? = some x) : s.tables l (j + 1) = (s.tables l j).rows l j x x.tab.length := by simp [ESt.tables, List.range_succ, h]

theorem ESt.adds_ind (s : ESt) : ∀ cs : List (List Int), (s.adds cs).ind = s.ind
  | [] => rfl
  | c :: cs => ESt.adds_ind (s.add c) cs
theorem ESt.row_ind (s : ESt) (l : List BV) (i : Nat) (x : BV) (r : Nat) (p : Nat × Nat) : (s.row l i x r p).ind = s.ind := by unfold ESt.row; rw [ESt.adds_ind]; rfl
theorem ESt.row_N (s : ESt) (l : List BV) (i : Nat) (x : BV) (r : Nat) (p : Nat × Nat) : (s.row l i x r p).N = s.N + 1 := by unfold ESt.row; rw [ESt.adds_N]; rfl
theorem rowIs_length (l : List BV) (ind : List (List Int)) (i : Nat) (x : BV) (r : Nat) : (rowIs l ind i x r).length = x.ps.length + 1 := by
  unfold rowIs
  rw [List.length_reverse, (digsAt_bounds l ind x.ps _ _).2, downTo_length]
  simp; omega
theorem ESt.row_L (s : ESt) (l : List BV) (i : Nat) (x : BV) (r : Nat) (p : Nat × Nat) : (s.row l i x r p).L.length = s.L.length + (x.ps.length + 2) := by
  unfold ESt.row
  rw [ESt.adds_len, List.length_map, rowIs_length]
  simp [ESt.add, ESt.next]; omega
theorem ESt.rows_ind (s : ESt) (l : List BV) (i : Nat) (x : BV) : ∀ j, (s.rows l i x j).ind = s.ind
  | 0 => rfl
  | j + 1 => by rw [ESt.rows_succ, ESt.row_ind, ESt.rows_ind s l i x j]
theorem ESt.rows_N (s : ESt) (l : List BV) (i : Nat) (x : BV) : ∀ j, (s.rows l i x j).N = s.N + j
  | 0 => rfl
  | j + 1 => by rw [ESt.rows_succ, ESt.row_N, ESt.rows_N s l i x j]; omega
theorem ESt.rows_L (s : ESt) (l : List BV) (i : Nat) (x : BV) : ∀ j, (s.rows l i x j).L.length = s.L.length + j * (x.ps.length + 2)
  | 0 => by simp [ESt.rows]
  | j + 1 => by rw [ESt.rows_succ, ESt.row_L, ESt.rows_L s l i x j, Nat.add_mul]; omega

theorem digsAt_mem {l : List BV} {ind : List (List Int)} {ps : List Int} {P : Int → Prop} (h0 : P 0) (hi : ∀ xs ∈ ind, ∀ y ∈ xs, P y) : ∀ (is : List Nat) (x : List Int × Nat), (∀ y ∈ x.1, P y) → ∀ y ∈ (digsAt l ind ps x is).1, P y
  | [], _, h => h
  | i :: is, x, h => by
    rw [show digsAt l ind ps x (i :: is) = digsAt l ind ps (digStep l ind x (ps.getD i 0)) is from rfl]
    refine digsAt_mem h0 hi is _ (fun y hy => ?_)
    simp only [digStep, List.mem_append, List.mem_singleton] at hy
    rcases hy with hy | rfl
    · exact h y hy
    · rw [List.getD_eq_getElem?_getD, List.getD_eq_getElem?_getD]
      cases h1 : ind[(ps.getD i 0).toNat]? with
      | none => simpa using h0
      | some xs =>
        simp only [Option.getD_some]
        cases h2 : xs[x.2 % kAt l (ps.getD i 0).toNat]? with
        | none => simpa using h0
        | some y => exact hi xs (List.mem_of_getElem? h1) y (List.mem_of_getElem? h2)
theorem rowIs_mem {l : List BV} {ind : List (List Int)} {P : Int → Prop} (h0 : P 0) (hi : ∀ xs ∈ ind, ∀ y ∈ xs, P y) (i : Nat) (x : BV) (r : Nat) : ∀ y ∈ rowIs l ind i x r, P y := by
  intro y hy
  refine digsAt_mem h0 hi _ _ (fun y hy => ?_) y (List.mem_reverse.1 hy)
  have hy : y = (ind.getD i []).getD (r % x.k.toNat) 0 := List.mem_singleton.1 hy
  subst hy
  rw [List.getD_eq_getElem?_getD, List.getD_eq_getElem?_getD]
  cases h1 : ind[i]? with
  | none => simpa using h0
  | some xs =>
    simp only [Option.getD_some]
    cases h2 : xs[r % x.k.toNat]? with
    | none => simpa using h0
    | some y => exact hi xs (List.mem_of_getElem? h1) y (List.mem_of_getElem? h2)

theorem digs_next {l : List BV} {ind : List (List Int)} {ps : List Int} {x0 : List Int × Nat} {is : List Nat} {st : List Int} {r j pn q : Nat} {xs : List Int} {d : Int} (hX : digsAt l ind ps x0 is = (st, r)) (hj : ps[j]? = some (pn : Int)) (hxs : ind[pn]? = some xs) (hk : kAt l pn = xs.length)
    (hd : xs[r % xs.length]? = some d) (hq : r / xs.length = q) : digsAt l ind ps x0 (is ++ [j]) = (st ++ [d], q) := by
  have e : ps.getD j 0 = (pn : Int) := by rw [List.getD_eq_getElem?_getD, hj]; rfl
  rw [digsAt_snoc, hX, digStep, e, Int.toNat_natCast, hk, List.getD_eq_getElem?_getD, List.getD_eq_getElem?_getD, hxs, hq]
  simp [hd]

def Marks (b0 : Nat) (ds : List Deferred) (w : World) : Prop := ∃ Ds : List Nat, ds = Ds.map (fun D => { target := .collected D, args := #[] }) ∧ Ds.Nodup ∧ ∀ D ∈ Ds, b0 ≤ D ∧ w.heap[D]? = some (.deferred (some []))
theorem Marks.nil (b0 : Nat) (w : World) : Marks b0 [] w := ⟨[], rfl, List.nodup_nil, by simp⟩
theorem Marks.behind {b0 : Nat} {ds : List Deferred} {w w' : World} {U : List Nat} (h : Marks b0 ds w) (hb : Behind w U w') (hU : ∀ g ∈ U, (∃ cur T, w.heap[g]? = some (.cells cur T (0, 0))) ∨ w.heap.size ≤ g) : Marks b0 ds w' := by
  obtain ⟨Ds, h1, h2, h3⟩ := h
  refine ⟨Ds, h1, h2, fun D hD => ⟨(h3 D hD).1, hb.keep (h3 D hD).2 (fun hm => ?_)⟩⟩
  rcases hU D hm with ⟨cur, T, hc⟩ | hc
  · rw [(h3 D hD).2] at hc; cases hc
  · have := lt_of_heap (h3 D hD).2; omega
theorem Marks.step {b0 : Nat} {ds : List Deferred} {b top gT gW gI : Nat} {e : EncP} {s : ESt} {M' : List Nat} {w w' : World} (h : Marks b0 ds w) (hE : EncAt b top gT gW gI e s w) (hS : Step (e.M gT gW gI) w M' w') : Marks b0 ds w' :=
  h.behind hS.beh (fun g hg => .inl (hE.cells g hg))
theorem Marks.cons {b0 : Nat} {ds : List Deferred} {w w0 : World} {D : Nat} (h : Marks b0 ds w) (h0 : Marks b0 ds w0) (hD : w0.heap.size ≤ D) (hb : b0 ≤ w0.heap.size) (hm : w.heap[D]? = some (.deferred (some []))) : Marks b0 ({ target := .collected D, args := #[] } :: ds) w := by
  obtain ⟨Ds, h1, h2, h3⟩ := h
  obtain ⟨Ds0, k1, _, k3⟩ := h0
  have e : Ds = Ds0 := by
    have := h1.symm.trans k1
    exact (List.map_inj_right (f := fun D => ({ target := .collected D, args := #[] } : Deferred)) (by intro x y hxy; simpa using hxy)).1 this
  subst e
  refine ⟨D :: Ds, by rw [h1]; rfl, List.nodup_cons.2 ⟨fun hm => ?_, h2⟩, fun D' hD' => ?_⟩
  · have := lt_of_heap (k3 D hm).2; omega
  · rcases List.mem_cons.1 hD' with rfl | hD'
    · exact ⟨by omega, hm⟩
    · exact h3 D' hD'

theorem reverse_own {b top gT gW gI : Nat} {e : EncP} {s : ESt} {w : World} {v : Value} {xs : List Int} (hE : EncAt b top gT gW gI e s w) (hO : OwnI w top (e.M gT gW gI) v xs) (h0 : xs ≠ []) (hl : xs.length ≤ 1000) :
    Calls Try.prog 50 #[v] w fun r w' => r = .returned (.tuple #[]) ∧ EncAt b top gT gW gI e s w' ∧ ∃ g cap, v = .slice (some ⟨g, 0, none⟩) xs.reverse.length cap ∧ RowI w' g 0 xs.reverse ∧ g ∉ e.M gT gW gI ∧ top ≤ g ∧ Behind w [g] w' ∧ ∃ cur T, w.heap[g]? = some (.cells cur T (0, 0)) := by
  have hr := hO.row
  have hge := hO.ge
  have hout := hO.out
  generalize hn : xs.length = n at hr
  generalize hz : ints xs = zs at hr
  cases hr with
  | nil => exact absurd (List.length_eq_zero_iff.1 hn) h0
  | @row g n cap ys cur hr =>
    subst hz
    have hb : w.heap[g]? = some (.cells cur 3 (0, 0)) := hr.blk
    have hc : ∀ j, j < xs.length → w.cell? ⟨g, 0 + j, none⟩ = some (.int .i64 (xs.getD j 0)) := fun j hj => by
      rw [Nat.zero_add]
      refine blk_cell hb j ?_
      have h2 := hr.tk
      have hi' : (ints xs)[j]? = some (.int .i64 (xs.getD j 0)) := ints_get _ _ _ (by simp [List.getElem?_eq_getElem hj])
      rw [← h2, List.getElem?_take] at hi'
      split at hi'
      · simpa using hi'
      · cases hi'
    refine (Try.slices_Reverse_int_cells g 0 n cap xs w (by omega) (by omega) hc (fun j _ => blk_free hb _)).mono ?_
    rintro r w' ⟨rfl, q, rfl⟩
    have hsz := hr.sz
    have hle := hr.le
    rw [Nat.mul_one] at hsz
    have hbq : (w.drewN q).heap[g]? = some (.cells cur 3 (0, 0)) := by simpa using hb
    obtain ⟨ys', h1, h2, _, h4, _⟩ := wrote_cells ((xs.take n).reverse.map (Value.int .i64)) 0 (w.drewN q) cur hbq (by simp; omega)
    have hB : Behind w [g] ((w.drewN q).setCells g 0 ((xs.take n).reverse.map (Value.int .i64))) := by
      have h0 : Behind w [g] (w.drewN q) := ⟨by first | rfl | simp, by first | rfl | simp, by first | rfl | simp, by simp, fun k _ _ => rfl⟩
      exact h0.wrote h1 (.inl (by simp))
    refine ⟨rfl, hE.keep hB (fun k hk => ?_), g, cap, by rw [List.length_reverse, hn], ⟨ys', h1.here, fun i y hi => ?_⟩, hout g (by simp [rowBlk]), hge g (by simp [rowBlk]), hB, cur, _, hb⟩
    · have : k = g := by simpa using hk
      subst this
      exact ⟨hge _ (by simp [rowBlk]), hout _ (by simp [rowBlk])⟩
    · have hi' := (List.getElem?_eq_some_iff.1 hi).1
      rw [h4 i (by simp at hi' ⊢; omega), List.getElem?_map, List.take_of_length_le (by omega), hi]
      rfl
theorem reverse_owned {b top gT gW gI : Nat} {e : EncP} {s : ESt} {w : World} {p : Option Addr} {n c : Nat} {xs : List Int} (hE : EncAt b top gT gW gI e s w) (hO : OwnI w top (e.M gT gW gI) (.slice p n c) xs) (hn : xs.length = n) (h0 : 0 < n) (hl : n ≤ 1000) :
    Calls Try.prog 50 #[.slice p n c] w fun r w' => r = .returned (.tuple #[]) ∧ EncAt b top gT gW gI e s w' ∧ ∃ g, p = some ⟨g, 0, none⟩ ∧ RowI w' g 0 xs.reverse ∧ g ∉ e.M gT gW gI ∧ top ≤ g ∧ Behind w [g] w' ∧ ∃ cur T, w.heap[g]? = some (.cells cur T (0, 0)) := by
  refine (reverse_own hE hO (by intro h; rw [h] at hn; simp at hn; omega) (by omega)).mono ?_
  rintro r w' ⟨hr, h1, g, cap, hv, h2⟩
  simp only [Value.slice.injEq] at hv
  exact ⟨hr, h1, g, hv.1, h2⟩

theorem ri_start {b top gT gW gI : Nat} {e : EncP} {s : ESt} {M0 : List Nat} {w0 w : World} {K : List Nat} {g18 g20 g120 q g19 : Nat} {c19 : Array Value} {T19 : TypeId} {l : List BV} {ps : List Int} {d : Int} (hE : EncAt b top gT gW gI e s w) (hS : Step M0 w0 (e.M gT gW gI) w)
    (m18 : w.heap[g18]? = some (.cells #[.int .i64 (q : Nat)] 3 (0, 0))) (m20 : w.heap[g20]? = some (.cells #[.slice (some ⟨g120, 0, none⟩) 1 1] 30 (0, 0))) (m120 : w.heap[g120]? = some (.cells #[.int .i64 d] 3 (0, 0))) (h1 : top ≤ g120) (h2 : g120 ∉ e.M gT gW gI) (hK : ∀ g ∈ K, g ≠ g120) (m19 : w.heap[g19]? = some (.cells c19 T19 (0, 0))) :
    RI b top gT gW gI e s M0 w0 K g18 g20 g19 c19 T19 l ps ([d], q) w.heap.size [] w := by
  have hr : rowBlk (.slice (some ⟨g120, 0, none⟩) 1 1) = [g120] := rfl
  refine ⟨hE, hS, by simpa [digsAt] using m18, ⟨_, m20, ⟨?_, ?_, ?_⟩, ?_⟩, Nat.le_refl _, m19⟩
  · refine .row (cur := #[.int .i64 d]) ⟨m120, by simp [digsAt], by simp [maxLen], by simp, ?_, by simp [digsAt, ints]⟩
    simp [digsAt, ints]
  · intro g hg
    rw [hr, List.mem_singleton] at hg
    omega
  · intro g hg
    rw [hr, List.mem_singleton] at hg
    rw [hg]; exact h2
  · intro g hg hm
    rw [hr, List.mem_singleton] at hm
    exact hK g hg hm

theorem wp_gen {P : Program} {c : Code} {Q : Exit → Act → World → Prop} {a : Act} {w : World} (h : ∀ w1, w1 = w → c.wp P Q a w1) : c.wp P Q a w := h _ rfl
theorem nums_of {N : Nat} {w : World} {a : Option Addr} {ps : List Int} {gN : Nat} (h : AtN N w a (ints ps)) : ∃ b2, (b2 < N ∨ b2 = gN) ∧ NumsAt w b2 a ps := by
  cases ps with
  | nil => exact ⟨gN, .inr rfl, fun i v hi => by simp at hi⟩
  | cons p ps =>
    obtain ⟨b2, o, hb, rfl, hc⟩ := h.base (by simp [ints])
    exact ⟨b2, .inl hb, fun i v hi => ⟨o, rfl, hc i _ (ints_get _ _ _ hi)⟩⟩
end Go.Proofs.Ytbacloneddnaeaa

/- bayes.Encode: pairs of clauses. -/
-- slots 194
namespace Go.Proofs.Ytbacloneddnaeaa
open Go.RowKit Go.Shelf Num

set_option maxHeartbeats 1600000 in
set_option maxRecDepth 100000 in
theorem enc_loop4 {t0 t1 t2 t3 t4 t5 t6 t7 t9 t10 t11 t12 t14 t15 t16 t17 t18 t19 t20 t21 t22 t23 t24 t25 t26 t27 t28 t29 t30 t31 t32 t33 t34 t35 t36 t37 t38 t39 t40 t41 t42 t43 t44 t45 t46 t47 t48 t49 t50 t51 t52 t53 t54 t55 t56 t57 t58 t59 t60 t61 t62 t63 t64 t65 t66 t67 t68 t69 t70 t71 t72 t73 t74 t75 t76 t77 t78 t82 t83 t84 t85 t86 t87 t88 t89 t90 t91 t92 t93 t94 t95 t96 t97 t98 t99 t100 t101 t102 t103 t104 t105 t106 t107 t108 t109 t110 t111 t112 t113 t114 t115 t116 t117 t118 t119 t120 t121 t122 t123 t124 t125 t126 t127 t128 t129 t130 t131 t132 t133 t134 t135 t136 t137 t138 t139 t140 t141 t142 t143 t144 t145 t146 t147 t148 t149 t150 t151 t152 t153 t154 t155 t156 t157 t158 t159 t160 t161 t162 t163 t164 t165 t166 t167 t168 t169 t170 t171 t172 t173 t174 t175 t176 t177 t178 t179 t180 t181 t182 t183 t184 t185 t186 t187 t188 t189 t190 t191 t192 t193 : Value} {ds : List Deferred} (Q : Exit → Act → World → Prop) (b top gT gW gI : Nat) (e : EncP) (s : ESt) (w : World) (x : Int) (ys : List Int) (g o cap : Nat) (h : EncAt b top gT gW gI e s w) (hb : b ≤ w.heap.size) (hrow : RowI w g o ys) (hg : g ∉ e.M gT gW gI)
    (hx : 0 ≤ x ∧ x ≤ 100000) (hys : ∀ y ∈ ys, 0 ≤ y ∧ y ≤ 100000) (hl : ys.length ≤ 1000) (hL : s.L.length + ys.length ≤ 900000)
    (hQ : ∀ (y15 y82 y83 y84 y85 y86 y87 y88 y89 y90 y91 y92 : Value) (e' : EncP) (w' : World), EncAt b w'.heap.size gT gW gI e' (s.adds (ys.map fun y => [-x, -y])) w' → Step (e.M gT gW gI) w (e'.M gT gW gI) w' →
      Q (.exit 6) { tmps := List.toArray (t0 :: t1 :: t2 :: t3 :: t4 :: t5 :: t6 :: t7 :: .func (.func 47) #[] #[.pointer (some ⟨gT, 0, none⟩)] :: t9 :: t10 :: t11 :: t12 :: .int .i64 x :: t14 :: y15 :: t16 :: t17 :: t18 :: t19 :: t20 :: t21 :: t22 :: t23 :: t24 :: t25 :: t26 :: t27 :: t28 :: t29 :: t30 :: t31 :: t32 :: t33 :: t34 :: t35 :: t36 :: t37 :: t38 :: t39 :: t40 :: t41 :: t42 :: t43 :: t44 :: t45 :: t46 :: t47 :: t48 :: t49 :: t50 :: t51 :: t52 :: t53 :: t54 :: t55 :: t56 :: t57 :: t58 :: t59 :: t60 :: t61 :: t62 :: t63 :: t64 :: t65 :: t66 :: t67 :: t68 :: t69 :: t70 :: t71 :: t72 :: t73 :: t74 :: t75 :: t76 :: t77 :: t78 :: .slice (some ⟨g, o, none⟩) ys.length cap :: .int .i64 ys.length :: .int .i64 ys.length :: y82 :: y83 :: y84 :: y85 :: y86 :: y87 :: y88 :: y89 :: y90 :: y91 :: y92 :: t93 :: t94 :: t95 :: t96 :: t97 :: t98 :: t99 :: t100 :: t101 :: t102 :: t103 :: t104 :: t105 :: t106 :: t107 :: t108 :: t109 :: t110 :: t111 :: t112 :: t113 :: t114 :: t115 :: t116 :: t117 :: t118 :: t119 :: t120 :: t121 :: t122 :: t123 :: t124 :: t125 :: t126 :: t127 :: t128 :: t129 :: t130 :: t131 :: t132 :: t133 :: t134 :: t135 :: t136 :: t137 :: t138 :: t139 :: t140 :: t141 :: t142 :: t143 :: t144 :: t145 :: t146 :: t147 :: t148 :: t149 :: t150 :: t151 :: t152 :: t153 :: t154 :: t155 :: t156 :: t157 :: t158 :: t159 :: t160 :: t161 :: t162 :: t163 :: t164 :: t165 :: t166 :: t167 :: t168 :: t169 :: t170 :: t171 :: t172 :: t173 :: t174 :: t175 :: t176 :: t177 :: t178 :: t179 :: t180 :: t181 :: t182 :: t183 :: t184 :: t185 :: t186 :: t187 :: t188 :: t189 :: t190 :: t191 :: t192 :: t193 :: []), defers := ds } w') :
    (loopNo Try.f17 3).wp Try.prog Q { tmps := List.toArray (t0 :: t1 :: t2 :: t3 :: t4 :: t5 :: t6 :: t7 :: .func (.func 47) #[] #[.pointer (some ⟨gT, 0, none⟩)] :: t9 :: t10 :: t11 :: t12 :: .int .i64 x :: t14 :: t15 :: t16 :: t17 :: t18 :: t19 :: t20 :: t21 :: t22 :: t23 :: t24 :: t25 :: t26 :: t27 :: t28 :: t29 :: t30 :: t31 :: t32 :: t33 :: t34 :: t35 :: t36 :: t37 :: t38 :: t39 :: t40 :: t41 :: t42 :: t43 :: t44 :: t45 :: t46 :: t47 :: t48 :: t49 :: t50 :: t51 :: t52 :: t53 :: t54 :: t55 :: t56 :: t57 :: t58 :: t59 :: t60 :: t61 :: t62 :: t63 :: t64 :: t65 :: t66 :: t67 :: t68 :: t69 :: t70 :: t71 :: t72 :: t73 :: t74 :: t75 :: t76 :: t77 :: t78 :: .slice (some ⟨g, o, none⟩) ys.length cap :: .int .i64 ys.length :: .int .i64 0 :: t82 :: t83 :: t84 :: t85 :: t86 :: t87 :: t88 :: t89 :: t90 :: t91 :: t92 :: t93 :: t94 :: t95 :: t96 :: t97 :: t98 :: t99 :: t100 :: t101 :: t102 :: t103 :: t104 :: t105 :: t106 :: t107 :: t108 :: t109 :: t110 :: t111 :: t112 :: t113 :: t114 :: t115 :: t116 :: t117 :: t118 :: t119 :: t120 :: t121 :: t122 :: t123 :: t124 :: t125 :: t126 :: t127 :: t128 :: t129 :: t130 :: t131 :: t132 :: t133 :: t134 :: t135 :: t136 :: t137 :: t138 :: t139 :: t140 :: t141 :: t142 :: t143 :: t144 :: t145 :: t146 :: t147 :: t148 :: t149 :: t150 :: t151 :: t152 :: t153 :: t154 :: t155 :: t156 :: t157 :: t158 :: t159 :: t160 :: t161 :: t162 :: t163 :: t164 :: t165 :: t166 :: t167 :: t168 :: t169 :: t170 :: t171 :: t172 :: t173 :: t174 :: t175 :: t176 :: t177 :: t178 :: t179 :: t180 :: t181 :: t182 :: t183 :: t184 :: t185 :: t186 :: t187 :: t188 :: t189 :: t190 :: t191 :: t192 :: t193 :: []), defers := ds } w := by
  show Code.wp Try.prog (Code.loop _) Q _ w
  have HQ := Lib.hid hQ
  have HH := Lib.hid h
  have HB := Lib.hid hb
  have HR := Lib.hid hrow
  have HG := Lib.hid hg
  have HY := Lib.hid hys
  clear hQ h hb hrow hg hys
  go_loopw [81] (fun i wr => ∃ (j : Nat) (e' : EncP), j ≤ ys.length ∧ i = .int .i64 j ∧ Hid (EncAt b wr.heap.size gT gW gI e' (s.adds ((ys.take j).map fun y => [-x, -y])) wr) ∧ Hid (Step (e.M gT gW gI) w (e'.M gT gW gI) wr))
    (fun i _ => ys.length - (intOf i).toNat)
  case atStart => exact ⟨0, e, Nat.zero_le _, rfl, HH.out.lift (Nat.le_refl _), Step.refl _ _⟩
  case round =>
    obtain ⟨j, e', hj, rfl, HE, HS⟩ := hrel
    by_cases hlt : j < ys.length
    · have hd : decide (j < ys.length) = true := by simpa using hlt
      obtain ⟨y, hy⟩ : ∃ y, ys[j]? = some y := ⟨_, List.getElem?_eq_getElem hlt⟩
      have hyb := HY.out y (List.mem_of_getElem? hy)
      have hc := (HR.out.step HS.out HG.out).cell hy
      have hbr : b ≤ wr.heap.size := Nat.le_trans HB.out HS.out.beh.size
      have hLj : (s.adds ((ys.take j).map fun y => [-x, -y])).L.length ≤ 900000 := by rw [ESt.adds_len]; simp; omega
      have HT : Hid (s.adds ((ys.take (j + 1)).map fun y => [-x, -y]) = (s.adds ((ys.take j).map fun y => [-x, -y])).add [-x, -y]) := by
        unfold Hid
        rw [take_snoc_of hy, List.map_append, List.map_singleton, ESt.adds_snoc]
      clear hy
      go_wp2_with fail
      refine (add_new [-x, -y] rfl HE.out (by simp) hLj hbr).mono ?_
      rintro r2 w2 ⟨rfl, e2, hE2, hS2⟩
      rw [← HT.out] at hE2
      have HE2 := Lib.hid hE2
      have HS2 := Lib.hid (HS.out.trans hS2)
      clear hE2 hS2 HT hLj hc HE HS hbr
      go_wp2_with fail
      go_roundw
      case rel => exact ⟨j + 1, e2, by omega, by go_num, HE2, HS2⟩
      case measure => simp [intOf]; omega
    · obtain rfl : j = ys.length := by omega
      go_wp2_with fail
      have hE := HE.out
      rw [List.take_length] at hE
      exact HQ.out _ _ _ _ _ _ _ _ _ _ _ _ e' _ hE HS.out
end Go.Proofs.Ytbacloneddnaeaa

/- bayes.Encode: all pairs of an indicator. -/
-- slots 194
namespace Go.Proofs.Ytbacloneddnaeaa
open Go.RowKit Go.Shelf Num

theorem wp_code {P : Program} {c c' : Code} {Q : Exit → Act → World → Prop} {a : Act} {w : World} (h : c = c') (k : c'.wp P Q a w) : c.wp P Q a w := h ▸ k

def pairsAt (xs : List Int) (j : Nat) : List (List Int) := (List.range j).flatMap fun i => (xs.drop (i + 1)).map fun y => [-(xs.getD i 0), -y]
theorem pairsAt_succ (xs : List Int) (j : Nat) : pairsAt xs (j + 1) = pairsAt xs j ++ (xs.drop (j + 1)).map fun y => [-(xs.getD j 0), -y] := by simp [pairsAt, List.range_succ]
theorem pairsAt_length (xs : List Int) : ∀ j, (pairsAt xs j).length ≤ j * xs.length
  | 0 => by simp [pairsAt]
  | j + 1 => by
    have := pairsAt_length xs j
    rw [pairsAt_succ, List.length_append, List.length_map, List.length_drop, Nat.add_mul]
    omega

set_option maxHeartbeats 1600000 in
set_option maxRecDepth 100000 in
theorem enc_loop3 {t0 t1 t2 t3 t4 t5 t6 t7 t9 t10 t12 t13 t14 t15 t16 t17 t18 t19 t20 t21 t22 t23 t24 t25 t26 t27 t28 t29 t30 t31 t32 t33 t34 t35 t36 t37 t38 t39 t40 t41 t42 t43 t44 t45 t46 t47 t48 t49 t50 t51 t52 t53 t54 t55 t56 t57 t58 t59 t60 t61 t62 t63 t64 t65 t66 t67 t68 t72 t73 t74 t75 t76 t77 t78 t79 t80 t81 t82 t83 t84 t85 t86 t87 t88 t89 t90 t91 t92 t93 t94 t95 t96 t97 t98 t99 t100 t101 t102 t103 t104 t105 t106 t107 t108 t109 t110 t111 t112 t113 t114 t115 t116 t117 t118 t119 t120 t121 t122 t123 t124 t125 t126 t127 t128 t129 t130 t131 t132 t133 t134 t135 t136 t137 t138 t139 t140 t141 t142 t143 t144 t145 t146 t147 t148 t149 t150 t151 t152 t153 t154 t155 t156 t157 t158 t159 t160 t161 t162 t163 t164 t165 t166 t167 t168 t169 t170 t171 t172 t173 t174 t175 t176 t177 t178 t179 t180 t181 t182 t183 t184 t185 t186 t187 t188 t189 t190 t191 t192 t193 : Value} {ds : List Deferred} (Q : Exit → Act → World → Prop) (b top gT gW gI : Nat) (e : EncP) (s : ESt) (w : World) (xs : List Int) (g cap : Nat) (h : EncAt b top gT gW gI e s w) (hb : b ≤ w.heap.size) (hrow : RowI w g 0 xs) (hg : g ∉ e.M gT gW gI)
    (hxs : ∀ y ∈ xs, 0 ≤ y ∧ y ≤ 100000) (hl : xs.length ≤ 100) (hcap : xs.length ≤ cap) (hcap2 : cap ≤ maxLen) (hL : s.L.length ≤ 800000)
    (hQ : ∀ (y12 y13 y15 y72 y73 y74 y75 y76 y77 y78 y79 y80 y81 y82 y83 y84 y85 y86 y87 y88 y89 y90 y91 y92 y93 : Value) (e' : EncP) (w' : World), EncAt b w'.heap.size gT gW gI e' (s.adds (pairsAt xs xs.length)) w' → Step (e.M gT gW gI) w (e'.M gT gW gI) w' →
      Q (.exit 4) { tmps := List.toArray (t0 :: t1 :: t2 :: t3 :: t4 :: t5 :: t6 :: t7 :: .func (.func 47) #[] #[.pointer (some ⟨gT, 0, none⟩)] :: t9 :: t10 :: .slice (some ⟨g, 0, none⟩) xs.length cap :: y12 :: y13 :: t14 :: y15 :: t16 :: t17 :: t18 :: t19 :: t20 :: t21 :: t22 :: t23 :: t24 :: t25 :: t26 :: t27 :: t28 :: t29 :: t30 :: t31 :: t32 :: t33 :: t34 :: t35 :: t36 :: t37 :: t38 :: t39 :: t40 :: t41 :: t42 :: t43 :: t44 :: t45 :: t46 :: t47 :: t48 :: t49 :: t50 :: t51 :: t52 :: t53 :: t54 :: t55 :: t56 :: t57 :: t58 :: t59 :: t60 :: t61 :: t62 :: t63 :: t64 :: t65 :: t66 :: t67 :: t68 :: .slice (some ⟨g, 0, none⟩) xs.length cap :: .int .i64 xs.length :: .int .i64 xs.length :: y72 :: y73 :: y74 :: y75 :: y76 :: y77 :: y78 :: y79 :: y80 :: y81 :: y82 :: y83 :: y84 :: y85 :: y86 :: y87 :: y88 :: y89 :: y90 :: y91 :: y92 :: y93 :: t94 :: t95 :: t96 :: t97 :: t98 :: t99 :: t100 :: t101 :: t102 :: t103 :: t104 :: t105 :: t106 :: t107 :: t108 :: t109 :: t110 :: t111 :: t112 :: t113 :: t114 :: t115 :: t116 :: t117 :: t118 :: t119 :: t120 :: t121 :: t122 :: t123 :: t124 :: t125 :: t126 :: t127 :: t128 :: t129 :: t130 :: t131 :: t132 :: t133 :: t134 :: t135 :: t136 :: t137 :: t138 :: t139 :: t140 :: t141 :: t142 :: t143 :: t144 :: t145 :: t146 :: t147 :: t148 :: t149 :: t150 :: t151 :: t152 :: t153 :: t154 :: t155 :: t156 :: t157 :: t158 :: t159 :: t160 :: t161 :: t162 :: t163 :: t164 :: t165 :: t166 :: t167 :: t168 :: t169 :: t170 :: t171 :: t172 :: t173 :: t174 :: t175 :: t176 :: t177 :: t178 :: t179 :: t180 :: t181 :: t182 :: t183 :: t184 :: t185 :: t186 :: t187 :: t188 :: t189 :: t190 :: t191 :: t192 :: t193 :: []), defers := ds } w') :
    (loopNo Try.f17 2).wp Try.prog Q { tmps := List.toArray (t0 :: t1 :: t2 :: t3 :: t4 :: t5 :: t6 :: t7 :: .func (.func 47) #[] #[.pointer (some ⟨gT, 0, none⟩)] :: t9 :: t10 :: .slice (some ⟨g, 0, none⟩) xs.length cap :: t12 :: t13 :: t14 :: t15 :: t16 :: t17 :: t18 :: t19 :: t20 :: t21 :: t22 :: t23 :: t24 :: t25 :: t26 :: t27 :: t28 :: t29 :: t30 :: t31 :: t32 :: t33 :: t34 :: t35 :: t36 :: t37 :: t38 :: t39 :: t40 :: t41 :: t42 :: t43 :: t44 :: t45 :: t46 :: t47 :: t48 :: t49 :: t50 :: t51 :: t52 :: t53 :: t54 :: t55 :: t56 :: t57 :: t58 :: t59 :: t60 :: t61 :: t62 :: t63 :: t64 :: t65 :: t66 :: t67 :: t68 :: .slice (some ⟨g, 0, none⟩) xs.length cap :: .int .i64 xs.length :: .int .i64 0 :: t72 :: t73 :: t74 :: t75 :: t76 :: t77 :: t78 :: t79 :: t80 :: t81 :: t82 :: t83 :: t84 :: t85 :: t86 :: t87 :: t88 :: t89 :: t90 :: t91 :: t92 :: t93 :: t94 :: t95 :: t96 :: t97 :: t98 :: t99 :: t100 :: t101 :: t102 :: t103 :: t104 :: t105 :: t106 :: t107 :: t108 :: t109 :: t110 :: t111 :: t112 :: t113 :: t114 :: t115 :: t116 :: t117 :: t118 :: t119 :: t120 :: t121 :: t122 :: t123 :: t124 :: t125 :: t126 :: t127 :: t128 :: t129 :: t130 :: t131 :: t132 :: t133 :: t134 :: t135 :: t136 :: t137 :: t138 :: t139 :: t140 :: t141 :: t142 :: t143 :: t144 :: t145 :: t146 :: t147 :: t148 :: t149 :: t150 :: t151 :: t152 :: t153 :: t154 :: t155 :: t156 :: t157 :: t158 :: t159 :: t160 :: t161 :: t162 :: t163 :: t164 :: t165 :: t166 :: t167 :: t168 :: t169 :: t170 :: t171 :: t172 :: t173 :: t174 :: t175 :: t176 :: t177 :: t178 :: t179 :: t180 :: t181 :: t182 :: t183 :: t184 :: t185 :: t186 :: t187 :: t188 :: t189 :: t190 :: t191 :: t192 :: t193 :: []), defers := ds } w := by
  show Code.wp Try.prog (Code.loop _) Q _ w
  have HQ := Lib.hid hQ
  have HH := Lib.hid h
  have HB := Lib.hid hb
  have HR := Lib.hid hrow
  have HG := Lib.hid hg
  have HY := Lib.hid hxs
  unfold maxLen at hcap2
  clear hQ h hb hrow hg hxs
  go_loopw [71] (fun i wr => ∃ (j : Nat) (e' : EncP), j ≤ xs.length ∧ i = .int .i64 j ∧ Hid (EncAt b wr.heap.size gT gW gI e' (s.adds (pairsAt xs j)) wr) ∧ Hid (Step (e.M gT gW gI) w (e'.M gT gW gI) wr))
    (fun i _ => xs.length - (intOf i).toNat)
  case atStart => exact ⟨0, e, Nat.zero_le _, rfl, HH.out.lift (Nat.le_refl _), Step.refl _ _⟩
  case round =>
    obtain ⟨j, e', hj, rfl, HE, HS⟩ := hrel
    by_cases hlt : j < xs.length
    · have hd : decide (j < xs.length) = true := by simpa using hlt
      obtain ⟨y, hy⟩ : ∃ y, xs[j]? = some y := ⟨_, List.getElem?_eq_getElem hlt⟩
      have hyb := HY.out y (List.mem_of_getElem? hy)
      have HR1 := Lib.hid (HR.out.step HS.out HG.out)
      have hc := HR1.out.cell hy
      rw [Nat.zero_add] at hc
      have HYJ : Hid (xs.getD j 0 = y) := by unfold Hid; rw [List.getD_eq_getElem?_getD, hy]; rfl
      have hg1 : g ∉ e'.M gT gW gI := HS.out.out HR.out.lt HG.out
      have hbr : b ≤ wr.heap.size := Nat.le_trans HB.out HS.out.beh.size
      obtain ⟨ys, hys⟩ : ∃ ys, ys = xs.drop (j + 1) := ⟨_, rfl⟩
      have hdl : ys.length = xs.length - (j + 1) := by rw [hys, List.length_drop]
      have HYS := Lib.hid (fun z (hz : z ∈ ys) => HY.out z (by rw [hys] at hz; exact List.mem_of_mem_drop hz))
      have hrow1 : Hid (RowI wr g (0 + (j + 1)) ys) := by unfold Hid; rw [hys]; exact HR1.out.drop (j + 1)
      have hLj : (s.adds (pairsAt xs j)).L.length + ys.length ≤ 900000 := by
        have h1 := pairsAt_length xs j
        have h2 := Nat.mul_le_mul hj hl
        have h3 : j * xs.length ≤ 100 * 100 := Nat.mul_le_mul (by omega) hl
        rw [ESt.adds_len]; omega
      have HT : Hid (pairsAt xs (j + 1) = pairsAt xs j ++ ys.map fun z => [-y, -z]) := by unfold Hid; rw [pairsAt_succ, HYJ.out, hys]
      have hys0 : cap = j + 1 → ys = [] := fun h => List.length_eq_zero_iff.1 (by omega)
      clear hy hys HYJ
      rcases Decidable.em (cap = j + 1) with hc1 | hc1
      · have hy0 := hys0 hc1
        have hrow2 : RowI wr g 0 ys := by rw [hy0]; obtain ⟨cur, h1, _⟩ := HR1.out; exact ⟨cur, h1, fun i y h => by simp at h⟩
        have HR2 := Lib.hid hrow2
        clear hrow2 hys0 hrow1
        subst hc1
        subst hy0
        go_wp2_with fail
        refine wp_code (c' := loopNo Try.f17 3) (by kernel_rfl) ?_
        refine enc_loop4 _ b wr.heap.size gT gW gI e' (s.adds (pairsAt xs j)) wr y [] g 0 _ HE.out hbr HR2.out hg1 hyb HYS.out (by omega) hLj ?_
        intro y15 y82 y83 y84 y85 y86 y87 y88 y89 y90 y91 y92 e2 w2 hE2 hS2
        rw [← ESt.adds_append, ← HT.out] at hE2
        have HE2 := Lib.hid hE2
        have HS2 := Lib.hid (HS.out.trans hS2)
        clear hE2 hS2 HE HS hLj hg1 hbr HT HYS
        go_wp2_with fail
        go_roundw
        case rel => exact ⟨j + 1, e2, by omega, by go_num, HE2, HS2⟩
        case measure => simp [intOf]; omega
      · clear hys0
        rw [Nat.zero_add] at hrow1
        go_wp2_with fail
        rw [← hdl]
        refine wp_code (c' := loopNo Try.f17 3) (by kernel_rfl) ?_
        refine enc_loop4 _ b wr.heap.size gT gW gI e' (s.adds (pairsAt xs j)) wr y ys g (j + 1) _ HE.out hbr hrow1.out hg1 hyb HYS.out (by omega) hLj ?_
        intro y15 y82 y83 y84 y85 y86 y87 y88 y89 y90 y91 y92 e2 w2 hE2 hS2
        rw [← ESt.adds_append, ← HT.out] at hE2
        have HE2 := Lib.hid hE2
        have HS2 := Lib.hid (HS.out.trans hS2)
        clear hE2 hS2 HE HS hLj hg1 hbr HT HYS
        go_wp2_with fail
        go_roundw
        case rel => exact ⟨j + 1, e2, by omega, by go_num, HE2, HS2⟩
        case measure => simp [intOf]; omega
    · obtain rfl : j = xs.length := by omega
      go_wp2_with fail
      exact HQ.out _ _ _ _ _ _ _ _ _ _ _ _ _ _ _ _ _ _ _ _ _ _ _ _ _ e' _ HE.out HS.out
end Go.Proofs.Ytbacloneddnaeaa
