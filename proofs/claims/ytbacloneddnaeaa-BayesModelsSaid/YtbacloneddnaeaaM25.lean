/- Texts of this claim, joined: BEnc8, BEnc9. -/
import Derived.Test.YtbacloneddnaeaaM24
import Derived.Test.YtbacloneddnaeaaM23

/- bayes.Encode: the rows of a variable's table. -/
-- slots 194
namespace Go.Proofs.Ytbacloneddnaeaa
open Go.RowKit Go.Shelf Num

set_option maxHeartbeats 6400000 in
set_option maxRecDepth 100000 in
theorem enc_loop6 {t0 t2 t3 t5 t6 t9 t10 t11 t12 t13 t14 t15 t18 t19 t20 t21 t22 t23 t24 t25 t26 t27 t28 t29 t30 t31 t32 t33 t34 t35 t36 t37 t38 t39 t40 t41 t42 t43 t44 t45 t46 t47 t48 t49 t50 t51 t52 t53 t54 t55 t56 t57 t58 t59 t60 t61 t62 t63 t64 t65 t66 t67 t68 t69 t70 t71 t72 t73 t74 t75 t76 t77 t78 t79 t80 t81 t82 t83 t84 t85 t86 t87 t88 t89 t90 t91 t92 t93 t94 t95 t96 t97 t98 t99 t100 t101 t102 t106 t107 t108 t109 t110 t111 t112 t113 t114 t115 t116 t117 t118 t119 t120 t121 t122 t123 t124 t125 t126 t127 t128 t129 t130 t131 t132 t133 t134 t135 t136 t137 t138 t139 t140 t141 t142 t143 t144 t145 t146 t147 t148 t149 t150 t151 t152 t153 t154 t155 t156 t157 t158 t159 t160 t161 t162 t163 t164 t165 t166 t167 t168 t169 t170 t171 t172 t173 t174 t175 t176 t177 t178 t179 t180 t181 t182 t183 t184 t185 t186 t187 t188 t189 t190 t191 t192 t193 : Value} {ds : List Deferred} (Q : Exit → Act → World → Prop) (b top gT gW gI : Nat) (e : EncP) (s : ESt) (w : World) (N gN nb no cp : Nat) (l : List BV) (i k : Nat) (x : BV) (g17 : Nat) (pa ta : Option Addr) (pc tc : Nat)
    (KO : Gives 45 #[] (ratV (1, 1))) (h : EncAt b top gT gW gI e s w) (hb : b ≤ w.heap.size) (hMk : Marks b ds w)
    (mN : w.heap[gN]? = some (.cells #[.slice (some ⟨nb, no, none⟩) l.length cp] 26 (0, 0))) (hgN : gN < b) (hNet : NetAt N w (some ⟨nb, no, none⟩) l) (hNb : N ≤ b) (hl16 : l.length ≤ 16) (hx : l[i]? = some x) (hk : x.k = k)
    (m17 : w.heap[g17]? = some (.cells #[.int .i64 k, .slice pa x.ps.length pc, .slice ta x.tab.length tc] 78 (0, 0))) (hg17 : g17 ∉ e.M gT gW gI) (hpa : AtN N w pa (ints x.ps)) (hta : AtN N w ta (rats x.tab)) (hps : x.ps.length ≤ 16) (hpar : ∀ p ∈ x.ps, 0 ≤ p ∧ p.toNat < l.length)
    (hind : ∀ (i : Nat) (x : BV), l[i]? = some x → ∃ xs, s.ind[i]? = some xs ∧ (xs.length : Int) = x.k ∧ 2 ≤ xs.length ∧ xs.length ≤ 8) (hil : s.ind.length ≤ 16) (him : ∀ xs ∈ s.ind, ∀ y ∈ xs, 0 ≤ y ∧ y ≤ 100000) (htab : x.tab.length ≤ 1000) (hN1 : s.N + x.tab.length ≤ 1000) (hL1 : s.L.length + x.tab.length * (x.ps.length + 2) ≤ 100000)
    (hQ : ∀ (y18 y19 y20 y23 y24 y26 y28 y106 y107 y108 y109 y110 y111 y112 y113 y114 y115 y116 y117 y118 y119 y120 y121 y122 y123 y124 y125 y126 y127 y153 y154 y155 y156 y157 y158 y159 y160 y161 y162 y163 y164 y165 y166 y167 y168 y169 y170 y171 y172 y173 y174 y175 y176 y177 y178 y179 y180 y181 y182 y183 y184 y185 y186 y187 y188 y189 : Value) (ds' : List Deferred) (e' : EncP) (w' : World), EncAt b w'.heap.size gT gW gI e' (s.rows l i x x.tab.length) w' → Step (e.M gT gW gI) w (e'.M gT gW gI) w' → Marks b ds' w' →
      Q (.exit 10) { tmps := List.toArray (t0 :: .pointer (some ⟨gN, 0, none⟩) :: t2 :: t3 :: .pointer (some ⟨gI, 0, none⟩) :: t5 :: t6 :: .func (.func 46) #[] #[.pointer (some ⟨gW, 0, none⟩), .pointer (some ⟨gT, 0, none⟩)] :: .func (.func 47) #[] #[.pointer (some ⟨gT, 0, none⟩)] :: t9 :: t10 :: t11 :: t12 :: t13 :: t14 :: t15 :: .int .i64 i :: .pointer (some ⟨g17, 0, none⟩) :: y18 :: y19 :: y20 :: t21 :: t22 :: y23 :: y24 :: t25 :: y26 :: t27 :: y28 :: t29 :: t30 :: t31 :: t32 :: t33 :: t34 :: t35 :: t36 :: t37 :: t38 :: t39 :: t40 :: t41 :: t42 :: t43 :: t44 :: t45 :: t46 :: t47 :: t48 :: t49 :: t50 :: t51 :: t52 :: t53 :: t54 :: t55 :: t56 :: t57 :: t58 :: t59 :: t60 :: t61 :: t62 :: t63 :: t64 :: t65 :: t66 :: t67 :: t68 :: t69 :: t70 :: t71 :: t72 :: t73 :: t74 :: t75 :: t76 :: t77 :: t78 :: t79 :: t80 :: t81 :: t82 :: t83 :: t84 :: t85 :: t86 :: t87 :: t88 :: t89 :: t90 :: t91 :: t92 :: t93 :: t94 :: t95 :: t96 :: t97 :: t98 :: t99 :: t100 :: t101 :: t102 :: .slice ta x.tab.length tc :: .int .i64 x.tab.length :: .int .i64 x.tab.length :: y106 :: y107 :: y108 :: y109 :: y110 :: y111 :: y112 :: y113 :: y114 :: y115 :: y116 :: y117 :: y118 :: y119 :: y120 :: y121 :: y122 :: y123 :: y124 :: y125 :: y126 :: y127 :: t128 :: t129 :: t130 :: t131 :: t132 :: t133 :: t134 :: t135 :: t136 :: t137 :: t138 :: t139 :: t140 :: t141 :: t142 :: t143 :: t144 :: t145 :: t146 :: t147 :: t148 :: t149 :: t150 :: t151 :: t152 :: y153 :: y154 :: y155 :: y156 :: y157 :: y158 :: y159 :: y160 :: y161 :: y162 :: y163 :: y164 :: y165 :: y166 :: y167 :: y168 :: y169 :: y170 :: y171 :: y172 :: y173 :: y174 :: y175 :: y176 :: y177 :: y178 :: y179 :: y180 :: y181 :: y182 :: y183 :: y184 :: y185 :: y186 :: y187 :: y188 :: y189 :: t190 :: t191 :: t192 :: t193 :: []), defers := ds' } w') :
    (loopNo Try.f17 5).wp Try.prog Q { tmps := List.toArray (t0 :: .pointer (some ⟨gN, 0, none⟩) :: t2 :: t3 :: .pointer (some ⟨gI, 0, none⟩) :: t5 :: t6 :: .func (.func 46) #[] #[.pointer (some ⟨gW, 0, none⟩), .pointer (some ⟨gT, 0, none⟩)] :: .func (.func 47) #[] #[.pointer (some ⟨gT, 0, none⟩)] :: t9 :: t10 :: t11 :: t12 :: t13 :: t14 :: t15 :: .int .i64 i :: .pointer (some ⟨g17, 0, none⟩) :: t18 :: t19 :: t20 :: t21 :: t22 :: t23 :: t24 :: t25 :: t26 :: t27 :: t28 :: t29 :: t30 :: t31 :: t32 :: t33 :: t34 :: t35 :: t36 :: t37 :: t38 :: t39 :: t40 :: t41 :: t42 :: t43 :: t44 :: t45 :: t46 :: t47 :: t48 :: t49 :: t50 :: t51 :: t52 :: t53 :: t54 :: t55 :: t56 :: t57 :: t58 :: t59 :: t60 :: t61 :: t62 :: t63 :: t64 :: t65 :: t66 :: t67 :: t68 :: t69 :: t70 :: t71 :: t72 :: t73 :: t74 :: t75 :: t76 :: t77 :: t78 :: t79 :: t80 :: t81 :: t82 :: t83 :: t84 :: t85 :: t86 :: t87 :: t88 :: t89 :: t90 :: t91 :: t92 :: t93 :: t94 :: t95 :: t96 :: t97 :: t98 :: t99 :: t100 :: t101 :: t102 :: .slice ta x.tab.length tc :: .int .i64 x.tab.length :: .int .i64 0 :: t106 :: t107 :: t108 :: t109 :: t110 :: t111 :: t112 :: t113 :: t114 :: t115 :: t116 :: t117 :: t118 :: t119 :: t120 :: t121 :: t122 :: t123 :: t124 :: t125 :: t126 :: t127 :: t128 :: t129 :: t130 :: t131 :: t132 :: t133 :: t134 :: t135 :: t136 :: t137 :: t138 :: t139 :: t140 :: t141 :: t142 :: t143 :: t144 :: t145 :: t146 :: t147 :: t148 :: t149 :: t150 :: t151 :: t152 :: t153 :: t154 :: t155 :: t156 :: t157 :: t158 :: t159 :: t160 :: t161 :: t162 :: t163 :: t164 :: t165 :: t166 :: t167 :: t168 :: t169 :: t170 :: t171 :: t172 :: t173 :: t174 :: t175 :: t176 :: t177 :: t178 :: t179 :: t180 :: t181 :: t182 :: t183 :: t184 :: t185 :: t186 :: t187 :: t188 :: t189 :: t190 :: t191 :: t192 :: t193 :: []), defers := ds } w := by
  show Code.wp Try.prog (Code.loop _) Q _ w
  obtain ⟨i0, ii, iz0, iz1, iz2⟩ := info_parts Try.infoInt
  have HQ := Lib.hid hQ
  have HH := Lib.hid h
  have HB := Lib.hid hb
  have HMK := Lib.hid hMk
  have HMN := Lib.hid mN
  have HGN := Lib.hid hgN
  have HNET := Lib.hid hNet
  have HNB := Lib.hid hNb
  have HX := Lib.hid hx
  have HM17 := Lib.hid m17
  have HG17 := Lib.hid hg17
  have HPA := Lib.hid hpa
  have HTA := Lib.hid hta
  have HPAR := Lib.hid hpar
  have HIND := Lib.hid hind
  have HIM := Lib.hid him
  have HKK := Lib.hid hk
  obtain ⟨xs0, hxs0, hxk0, hk2, hk8⟩ := hind i x hx
  rw [hk] at hxk0
  have hxk : xs0.length = k := by omega
  have HXS := Lib.hid hxs0
  rw [hxk] at hk2 hk8
  have hi16 : i < 16 := Nat.lt_of_lt_of_le (List.getElem?_eq_some_iff.1 hx).1 hl16
  have HXK := Lib.hid hxk
  clear hQ h hb hMk mN hgN hNet hNb hx m17 hg17 hpa hta hpar hind him hk hxs0 hxk0 hxk
  refine wp_loop (fun a' wr => ∀ C : Prop, (∀ (u18 u19 u20 u23 u24 u26 u28 u105 u106 u107 u108 u109 u110 u111 u112 u113 u114 u115 u116 u117 u118 u119 u120 u121 u122 u123 u124 u125 u126 u127 u153 u154 u155 u156 u157 u158 u159 u160 u161 u162 u163 u164 u165 u166 u167 u168 u169 u170 u171 u172 u173 u174 u175 u176 u177 u178 u179 u180 u181 u182 u183 u184 u185 u186 u187 u188 u189 : Value) (ds' : List Deferred) (j : Nat) (e' : EncP), j ≤ x.tab.length → u105 = .int .i64 j → Hid (EncAt b wr.heap.size gT gW gI e' (s.rows l i x j) wr) → Hid (Step (e.M gT gW gI) w (e'.M gT gW gI) wr) → Hid (Marks b ds' wr) → a' = { tmps := List.toArray (t0 :: .pointer (some ⟨gN, 0, none⟩) :: t2 :: t3 :: .pointer (some ⟨gI, 0, none⟩) :: t5 :: t6 :: .func (.func 46) #[] #[.pointer (some ⟨gW, 0, none⟩), .pointer (some ⟨gT, 0, none⟩)] :: .func (.func 47) #[] #[.pointer (some ⟨gT, 0, none⟩)] :: t9 :: t10 :: t11 :: t12 :: t13 :: t14 :: t15 :: .int .i64 i :: .pointer (some ⟨g17, 0, none⟩) :: u18 :: u19 :: u20 :: t21 :: t22 :: u23 :: u24 :: t25 :: u26 :: t27 :: u28 :: t29 :: t30 :: t31 :: t32 :: t33 :: t34 :: t35 :: t36 :: t37 :: t38 :: t39 :: t40 :: t41 :: t42 :: t43 :: t44 :: t45 :: t46 :: t47 :: t48 :: t49 :: t50 :: t51 :: t52 :: t53 :: t54 :: t55 :: t56 :: t57 :: t58 :: t59 :: t60 :: t61 :: t62 :: t63 :: t64 :: t65 :: t66 :: t67 :: t68 :: t69 :: t70 :: t71 :: t72 :: t73 :: t74 :: t75 :: t76 :: t77 :: t78 :: t79 :: t80 :: t81 :: t82 :: t83 :: t84 :: t85 :: t86 :: t87 :: t88 :: t89 :: t90 :: t91 :: t92 :: t93 :: t94 :: t95 :: t96 :: t97 :: t98 :: t99 :: t100 :: t101 :: t102 :: .slice ta x.tab.length tc :: .int .i64 x.tab.length :: u105 :: u106 :: u107 :: u108 :: u109 :: u110 :: u111 :: u112 :: u113 :: u114 :: u115 :: u116 :: u117 :: u118 :: u119 :: u120 :: u121 :: u122 :: u123 :: u124 :: u125 :: u126 :: u127 :: t128 :: t129 :: t130 :: t131 :: t132 :: t133 :: t134 :: t135 :: t136 :: t137 :: t138 :: t139 :: t140 :: t141 :: t142 :: t143 :: t144 :: t145 :: t146 :: t147 :: t148 :: t149 :: t150 :: t151 :: t152 :: u153 :: u154 :: u155 :: u156 :: u157 :: u158 :: u159 :: u160 :: u161 :: u162 :: u163 :: u164 :: u165 :: u166 :: u167 :: u168 :: u169 :: u170 :: u171 :: u172 :: u173 :: u174 :: u175 :: u176 :: u177 :: u178 :: u179 :: u180 :: u181 :: u182 :: u183 :: u184 :: u185 :: u186 :: u187 :: u188 :: u189 :: t190 :: t191 :: t192 :: t193 :: []), defers := ds' } → C) → C)
    (fun a' _ => x.tab.length - (intOf (a'.tmps.getD 105 undef)).toNat) ?start ?round
  case start =>
    intro C hC
    exact hC _ _ _ _ _ _ _ _ _ _ _ _ _ _ _ _ _ _ _ _ _ _ _ _ _ _ _ _ _ _ _ _ _ _ _ _ _ _ _ _ _ _ _ _ _ _ _ _ _ _ _ _ _ _ _ _ _ _ _ _ _ _ _ _ _ _ _ ds 0 e (Nat.zero_le _) rfl (HH.out.lift (Nat.le_refl _)) (Step.refl _ _) HMK.out rfl
  case round =>
    intro _ wr hinv
    refine hinv _ ?_
    intro u18 u19 u20 u23 u24 u26 u28 u105 u106 u107 u108 u109 u110 u111 u112 u113 u114 u115 u116 u117 u118 u119 u120 u121 u122 u123 u124 u125 u126 u127 u153 u154 u155 u156 u157 u158 u159 u160 u161 u162 u163 u164 u165 u166 u167 u168 u169 u170 u171 u172 u173 u174 u175 u176 u177 u178 u179 u180 u181 u182 u183 u184 u185 u186 u187 u188 u189 ds' j e' hj h105 HE HS HM ha
    subst h105 ha
    dsimp only
    clear hinv
    by_cases hlt : j < x.tab.length
    · have hd : decide (j < x.tab.length) = true := by simpa using hlt
      obtain ⟨q, hq⟩ : ∃ q, x.tab[j]? = some q := ⟨_, List.getElem?_eq_getElem hlt⟩
      have hbr : b ≤ wr.heap.size := Nat.le_trans HB.out HS.out.beh.size
      have hbe : Below b w wr := HS.out.below HH.out.ge HB.out
      obtain ⟨tb, to, htb, rfl, hct⟩ := (HTA.out.below hbe HNB.out).base (by rw [rats_length]; omega)
      have t1 := hct _ _ (rats_get hq).1
      have t2 := hct _ _ (rats_get hq).2
      rw [← Nat.add_assoc] at t2
      have HQX := Lib.hid hq
      have HBE := Lib.hid hbe
      clear hq hct hbe
      obtain ⟨sj, hsj⟩ : ∃ sj, sj = s.rows l i x j := ⟨_, rfl⟩
      have hsi : sj.ind = s.ind := by rw [hsj, ESt.rows_ind]
      have hsN : sj.N = s.N + j := by rw [hsj, ESt.rows_N]
      have hsL : sj.L.length ≤ 100000 := by
        rw [hsj, ESt.rows_L]
        have := Nat.mul_le_mul_right (x.ps.length + 2) hj
        omega
      have hsNb : sj.N ≤ 1000 := by omega
      have HSJ := Lib.hid hsj
      have HSI := Lib.hid hsi
      rw [← hsj] at HE
      obtain ⟨d, hdx⟩ : ∃ d, xs0[j % k]? = some d := ⟨_, List.getElem?_eq_getElem (by rw [HXK.out]; exact Nat.mod_lt _ (by omega))⟩
      have HDX := Lib.hid hdx
      obtain ⟨jq, hjq⟩ : ∃ jq, j / k = jq := ⟨_, rfl⟩
      have hjqi : (j : Int) / (k : Int) = jq := by rw [← hjq]; simp
      have hjqb : jq ≤ 1000 := by rw [← hjq]; exact Nat.le_trans (Nat.div_le_self _ _) (by omega)
      have HJQ := Lib.hid hjq
      clear hsj hsi hdx hjq hsN
      go_wp2_with fail
      refine wp_gen ?_
      intro w1 hw1
      have hA : Behind wr [] w1 := by rw [hw1]; exact behind_of_below (((Below.refl _ _).alloc (Nat.le_refl _) _).alloc (by simp) _)
      have m18 : w1.heap[wr.heap.size]? = some (.cells #[.int .i64 j] 3 (0, 0)) := by rw [hw1]; exact (Below.heap_alloc _ _ _ (by simp)).trans (heap_alloc_new wr _)
      have m19 : w1.heap[wr.heap.size + 1]? = some (.cells #[.string (Num.nb q.1), .string (Num.nb q.2)] 34 (0, 0)) := by rw [hw1]; have := heap_alloc_new (wr.alloc (Obj.cells #[Value.int IntKind.i64 j] 3)) (Obj.cells #[.string (Num.nb q.1), .string (Num.nb q.2)] 34); rwa [World.size_alloc] at this
      have hs1 : w1.heap.size = wr.heap.size + 2 := by rw [hw1]; simp
      have hgM : gN ∉ e.M gT gW gI := fun hm => by have := HH.out.ge _ hm; have := HGN.out; omega
      have m17w := HS.out.keep HM17.out HG17.out
      have mNw := HS.out.keep HMN.out hgM
      have hl17 := lt_of_heap m17w
      have hlN := lt_of_heap mNw
      have m17 := hA.keep m17w (by simp)
      have hE1 := HE.out.keep hA (by simp)
      clear hw1 t1 t2 hgM hd
      refine wp_code (c' := regionNo Try.f17 33) (by kernel_rfl) ?_
      refine enc_reg33 _ b wr.heap.size gT gW gI e' sj w1 i j k g17 wr.heap.size _ _ xs0 d hE1 (by rw [HSI.out]; exact HXS.out) HXK.out (by omega) (by omega) hk8 (by omega) (by rw [HSI.out]; exact hil) HDX.out m17 m18 ?_
      intro y110 y111 y112 y113 y114 y115 y116 y117 y118 y119 y120 g20 g120 w2 hB2 hg20 hg120 hne m20 m120
      have m17' := hB2.keep m17 (by simp)
      have m18' := hB2.keep m18 (by simp)
      have m19' := hB2.keep m19 (by simp)
      have HM17' := Lib.hid m17'
      have HM18' := Lib.hid m18'
      have HM19' := Lib.hid m19'
      have HM20' := Lib.hid m20
      have HM120' := Lib.hid m120
      have c17 := blk_cell m17' 0 rfl
      have c17b := blk_cell m17' 1 rfl
      have c18 := blk_cell m18' 0 rfl
      have f18 := blk_free m18' 0
      have hA2 := Lib.hid (hA.trans hB2 (by simp))
      have hk3 : (k : Int) ≠ 0 := by omega
      have hk1 : ((k : Int) == 0) = false := beq_no (by omega)
      clear m17 m18 m19 m17' m18' m19' m20 m120 hE1 hA hB2
      go_wp2_with fail
      obtain ⟨W2, hW2⟩ : ∃ W2, W2 = w2.setCell ⟨wr.heap.size, 0, none⟩ (.int .i64 jq) := ⟨_, rfl⟩
      rw [← hW2]
      have hwr2 : Wrote wr.heap.size (.cells #[.int .i64 jq] 3 (0, 0)) w2 W2 := by rw [hW2]; simpa using wrote_cell (o := 0) (.int .i64 jq) HM18'.out
      have hB2' : Behind wr [] W2 := hA2.out.wrote hwr2 (.inr (Nat.le_refl _))
      refine (back_law _ _ _ _).mono ?_
      rintro r5 w5 ⟨rfl, h127, hB5, hsz5⟩
      have hA5 : Behind wr [] w5 := hB2'.trans (behind_of_below hB5) (by simp)
      have k5 : ∀ {g : Nat} {o : Obj}, W2.heap[g]? = some o → w5.heap[g]? = some o := fun h => (behind_of_below hB5).keep h (by simp)
      have k2 : ∀ {g : Nat} {o : Obj}, w2.heap[g]? = some o → g ≠ wr.heap.size → W2.heap[g]? = some o := fun h hn => (hwr2.block _ (lt_of_heap h) hn).trans h
      have HM18 := Lib.hid (k5 hwr2.here)
      have HM17 := Lib.hid (k5 (k2 HM17'.out (by omega)))
      have HM19 := Lib.hid (k5 (k2 HM19'.out (by omega)))
      have HM20 := Lib.hid (k5 (k2 HM20'.out (by omega)))
      have HM120 := Lib.hid (k5 (k2 HM120'.out (by omega)))
      have hgb := HGN.out
      have hnbb := HNB.out
      obtain ⟨b2, hb2, hnum0⟩ := nums_of (gN := gN) HPA.out
      have hb2b : b2 < b := by omega
      have hnum : NumsAt w5 b2 pa x.ps := hnum0.kept ((hA5.block b2 (by omega) (by simp)).trans (HBE.out.block b2 hb2b))
      have hE5 := HE.out.keep hA5 (by simp)
      have hS5 : Step (e'.M gT gW gI) wr (e'.M gT gW gI) w5 := ⟨hA5.mono (by simp), fun _ h => .inl h⟩
      have hout : ∀ g, wr.heap.size ≤ g → g ∉ e'.M gT gW gI := fun g hg hm => by have := HE.out.lt g hm; omega
      have hl20 := lt_of_heap HM20'.out
      have hl20w : g20 < W2.heap.size := Nat.lt_of_lt_of_le hl20 hwr2.size
      have hl120w : g120 < W2.heap.size := Nat.lt_of_lt_of_le (lt_of_heap HM120'.out) hwr2.size
      have hs5 := hA5.size
      have hRI := ri_start (l := l) (ps := x.ps) (K := [wr.heap.size, g20, W2.heap.size, b2, wr.heap.size + 1]) hE5 hS5 HM18.out HM20.out HM120.out (by omega) (hout g120 (by omega)) (by
        intro g hg
        simp only [List.mem_cons, List.not_mem_nil, or_false] at hg
        rcases hg with rfl | rfl | rfl | rfl | rfl
        · omega
        · exact hne
        · omega
        · omega
        · omega) HM19.out
      have hgM' : gN ∉ e'.M gT gW gI := fun hm => by have := HE.out.ge _ hm; omega
      have hM0 : ∀ g ∈ e'.M gT gW gI, N ≤ g := fun g hm => Nat.le_trans hnbb (HE.out.ge g hm)
      have HNET5 := Lib.hid (HNET.out.below HBE.out hnbb)
      clear hwr2 hB2' hW2 hB5 k5 k2 hnum0 HM17' HM18' HM19' HM20' HM120' c17 c17b c18 f18 hA2 hE5 hS5
      go_wp2_with fail
      refine wp_code (c' := rangeNo Try.f17 0) (by kernel_rfl) ?_
      refine enc_range _ b wr.heap.size gT gW gI e' sj (e'.M gT gW gI) wr w5 N gN nb no cp l wr.heap.size g20 W2.heap.size b2 (wr.heap.size + 1) _ _ pa pc x.ps ([d], jq) hRI hs5 (Nat.le_refl _) ⟨Nat.le_refl _, hout _ (Nat.le_refl _)⟩ ⟨by omega, hout _ (by omega)⟩ hlN (by omega) hs5 hps h127 hnum (by omega) ⟨by omega, by omega, by omega, by omega, by omega⟩ ⟨by omega, by omega⟩ mNw hgM' HNET5.out hM0 (by omega) hl16 HPAR.out
        (by rw [HSI.out]; exact HIND.out) (by rw [HSI.out]; exact hil) ⟨by simp, by simp, by simpa using (by omega : jq ≤ 100000)⟩ ?_
      intro D ys W6 hD hmD hys hRI6
      have hS6 := hRI6.stp
      have hE6 := hRI6.enc
      have m19 := hRI6.m19
      obtain ⟨v, m20, hO, hKv⟩ := hRI6.ex
      obtain ⟨rs, hrs⟩ : ∃ rs, rs = rowIs l s.ind i x j := ⟨_, rfl⟩
      have hdr : (digsAt l sj.ind x.ps ([d], jq) (ys.map (·.1))).1.reverse = rs := by
        rw [hys, HSI.out, hrs]
        have e1 : s.ind.getD i [] = xs0 := by rw [List.getD_eq_getElem?_getD, HXS.out]; rfl
        have e2 : xs0.getD (j % k) 0 = d := by rw [List.getD_eq_getElem?_getD, HDX.out]; rfl
        unfold rowIs
        rw [HKK.out, Int.toNat_natCast, HJQ.out, e1, e2]
      have hrl : rs.length ≤ 17 ∧ 0 < rs.length := by rw [hrs, rowIs_length]; omega
      have hrm : ∀ y ∈ rs, 0 ≤ y ∧ y ≤ 100000 := by rw [hrs]; exact rowIs_mem (P := fun y => 0 ≤ y ∧ y ≤ 100000) (by omega) HIM.out i x j
      have HRS := Lib.hid hrs
      generalize (digsAt l sj.ind x.ps ([d], jq) (ys.map (·.1))).1 = ds0 at hO hdr
      have hlen : ds0.length = rs.length := by rw [← hdr, List.length_reverse]
      have hM6 : Marks b ds' W6 := HM.out.step HE.out hS6
      obtain ⟨pv, cv, rfl⟩ := hO.row.slice
      rw [hlen] at m20 hO
      have HLEN := Lib.hid hlen
      have c20 := blk_cell m20 0 rfl
      have HDR := Lib.hid hdr
      clear hRI hRI6 hrs hys mNw hM0 hnum h127 hlen hdr
      go_wp2_with fail
      refine (reverse_owned hE6 hO HLEN.out hrl.2 (by omega)).mono ?_
      rintro r7 w7 ⟨rfl, hE7, g, rfl, hrow7, hgM7, hge7, hB7, cur7, T7, hcur7⟩
      rw [HDR.out] at hrow7
      have hgK : ∀ k ∈ [wr.heap.size, g20, W2.heap.size, b2, wr.heap.size + 1], k ≠ g := fun k hk hkg => hKv k hk (by rw [hkg]; simp [rowBlk])
      have hm20 := hB7.keep m20 (by simpa using hgK g20 (by simp))
      have m19' := hB7.keep m19 (by simpa using hgK (wr.heap.size + 1) (by simp))
      have hmD7 := hB7.keep hmD (by
        intro hm
        have : D = g := by simpa using hm
        subst this
        rw [hmD] at hcur7; cases hcur7)
      have hkg : ∀ k, k ∈ [g] → k = g := fun k hk => by simpa using hk
      have HM7 := Lib.hid (Marks.cons (hM6.behind hB7 (fun k hk => .inl ⟨cur7, T7, (hkg k hk).symm ▸ hcur7⟩)) HM.out (by omega) hbr hmD7)
      have hS7 : Step (e'.M gT gW gI) wr (e'.M gT gW gI) w7 := ⟨hS6.beh.trans hB7 (fun k hk => .inr ((hkg k hk).symm ▸ hge7)), hS6.new⟩
      have HS7 := Lib.hid (HS.out.trans hS7)
      have HE7 := Lib.hid hE7
      have HR7 := Lib.hid hrow7
      have HG7 := Lib.hid hgM7
      have HM20 := Lib.hid hm20
      have HRM := Lib.hid hrm
      have hg20M := hout g20 (by omega)
      have hb7 : b ≤ w7.heap.size := Nat.le_trans hbr hS7.beh.size
      have c19a := blk_cell m19' 0 rfl
      have c19b := blk_cell m19' 1 rfl
      clear c20 m20 m19 m19' hO hKv hB7 hcur7 hmD7 hmD hS6 hE6 hM6 hS7 hE7 hrow7 hgM7 hm20 hrm hgK
      go_wp2_with fail
      refine (next_enc KO HE7.out (by omega) hb7 q).mono ?_
      rintro r8 w8 ⟨rfl, e8, hE8, hS8⟩
      have hm20 := hS8.keep HM20.out hg20M
      have HM20' := Lib.hid hm20
      have HG20 := Lib.hid (hS8.out (lt_of_heap HM20.out) hg20M)
      have HR8 := Lib.hid (HR7.out.step hS8 HG7.out)
      have HG8 := Lib.hid (hS8.out HR7.out.lt HG7.out)
      have HE8 := Lib.hid hE8
      have HS8 := Lib.hid hS8
      have hb8 : b ≤ w8.heap.size := Nat.le_trans hb7 hS8.beh.size
      have c20 := blk_cell hm20 0 rfl
      clear hm20 hE8 hS8 c19a c19b hg20M HM20
      go_wp2_with fail
      refine wp_code (c' := loopNo Try.f17 6) (by kernel_rfl) ?_
      refine enc_loop7 _ b _ gT gW gI e8 (sj.next q) w8 rs g cv HE8.out HR8.out HG8.out HRM.out (by omega) ?_
      intro y26 y161 y162 y163 y164 y165 y166 y167 y168 y169 v9 w9 hE9 hS9 hO9
      have hl9 : (rs.map fun y => -y).length = rs.length := List.length_map _
      have hw9 : w8.heap.size ≤ w9.heap.size := hS9.beh.size
      have HE9 := Lib.hid hE9
      have HO9 := Lib.hid hO9
      have HS9 := Lib.hid hS9
      clear hE9 hO9 hS9 c20
      go_wp2_with (at_builtin; refine wpList_append_row _ rfl _ _ 30 rfl 3 i0 (.int .i64 0) 1 8 Try.underlying30 ii iz0 iz1 iz2 rfl _ _ _ rfl (HO9.out.row.keep (behind_of_below ((Below.refl _ _).alloc (Nat.le_refl _) _)) (by simp)) w9.heap.size 1 1 [.int .i64 ((sj.N : Int) + 1)] 3 rfl (heap_alloc_new w9 _) rfl (by intro u hu; simp at hu; subst hu; rfl) (by omega) (by unfold maxLen; omega) (by omega) ?_)
      intro v10 w10 hr10 hB10 hn10
      rw [← hl9] at hr10
      obtain ⟨hE10, hO10, hS10⟩ := enc_grown HE9.out HO9.out HS9.out (Nat.le_refl _) hw9 hB10 hr10 (by simpa using hn10)
      have hw10 : w9.heap.size ≤ w10.heap.size := Nat.le_trans (by simp) hB10.size
      have HO10 := Lib.hid (hO10.mono (b' := b) hb8)
      have HE10 := Lib.hid (hE10.lift (top' := w10.heap.size) (by omega))
      have HS10 := Lib.hid hS10
      have hb10 : b ≤ w10.heap.size := by omega
      clear hE10 hO10 hS10 hr10 hB10 hn10 HE9 HO9 HS9
      go_wp2_with fail
      refine (add_enc HE10.out HO10.out (fun k hk => HO10.out.row.lt k hk) (by simp [ESt.next]; omega) hb10).mono ?_
      rintro r11 w11 ⟨rfl, e11, hE11, hS11⟩
      have hS11' := HS10.out.trans hS11
      have HE11 := Lib.hid (hE11.lift (top' := w11.heap.size) (Nat.le_refl _))
      have hm20 := hS11'.keep HM20'.out HG20.out
      have HR11 := Lib.hid (HR8.out.step hS11' HG8.out)
      have HG11 := Lib.hid (hS11'.out HR8.out.lt HG8.out)
      have HS11 := Lib.hid hS11'
      have hb11 : b ≤ w11.heap.size := Nat.le_trans hb8 hS11'.beh.size
      have c20 := blk_cell hm20 0 rfl
      clear hm20 hE11 hS11 hS11' HE10 HO10 HS10
      go_wp2_with fail
      refine wp_code (c' := loopNo Try.f17 7) (by kernel_rfl) ?_
      refine enc_loop8 _ b _ gT gW gI e11 _ w11 ((sj.N : Int) + 1) rs g 0 cv HE11.out hb11 HR11.out HG11.out (by omega) HRM.out (by omega) (by simp [ESt.add, ESt.next]; omega) ?_
      intro y28 y179 y180 y181 y182 y183 y184 y185 y186 y187 y188 e12 w12 hE12 hS12
      have hst : s.rows l i x (j + 1) = ((sj.next q).add ((rs.map fun y => -y) ++ [(sj.N : Int) + 1])).adds (rs.map fun y => [-((sj.N : Int) + 1), y]) := by
        have hqd : x.tab.getD j (0, 1) = q := by rw [List.getD_eq_getElem?_getD, HQX.out]; rfl
        rw [ESt.rows_succ, ← HSJ.out, hqd]
        unfold ESt.row
        rw [HSI.out, ← HRS.out]
      rw [← hst] at hE12
      have hS12' : Step (e'.M gT gW gI) w7 (e12.M gT gW gI) w12 := (HS8.out.trans HS11.out).trans hS12
      have HM12 := Lib.hid (HM7.out.step HE7.out hS12')
      have HS12 := Lib.hid (HS7.out.trans hS12')
      have HE12 := Lib.hid hE12
      clear hE12 hS12 hS12' c20
      go_wp2_with fail
      refine ⟨fun C hC => hC _ _ _ _ _ _ _ _ _ _ _ _ _ _ _ _ _ _ _ _ _ _ _ _ _ _ _ _ _ _ _ _ _ _ _ _ _ _ _ _ _ _ _ _ _ _ _ _ _ _ _ _ _ _ _ _ _ _ _ _ _ _ _ _ _ _ _ _ (j + 1) e12 (by omega) (by go_num) HE12 HS12 HM12 rfl, ?measure⟩
      case measure => simp [intOf]; omega
    · obtain rfl : j = x.tab.length := by omega
      go_wp2_with fail
      exact HQ.out _ _ _ _ _ _ _ _ _ _ _ _ _ _ _ _ _ _ _ _ _ _ _ _ _ _ _ _ _ _ _ _ _ _ _ _ _ _ _ _ _ _ _ _ _ _ _ _ _ _ _ _ _ _ _ _ _ _ _ _ _ _ _ _ _ _ ds' e' _ HE.out HS.out HM.out
end Go.Proofs.Ytbacloneddnaeaa

/- bayes.Encode: the tables of all variables. -/
-- slots 194
namespace Go.Proofs.Ytbacloneddnaeaa
open Go.RowKit Go.Shelf Num

theorem ESt.tables_ind (s : ESt) (l : List BV) : ∀ j, (s.tables l j).ind = s.ind
  | 0 => rfl
  | j + 1 => by
    cases h : l[j]? with
    | none => simp only [ESt.tables, List.range_succ, List.foldl_append, List.foldl_cons, List.foldl_nil, h]; exact ESt.tables_ind s l j
    | some x => rw [ESt.tables_succ s l j x h, ESt.rows_ind, ESt.tables_ind s l j]

set_option maxHeartbeats 6400000 in
set_option maxRecDepth 100000 in
theorem enc_loop5 {t0 t2 t3 t5 t6 t9 t10 t11 t12 t13 t14 t15 t16 t17 t18 t19 t20 t21 t22 t23 t24 t25 t26 t27 t28 t29 t30 t31 t32 t33 t34 t35 t36 t37 t38 t39 t40 t41 t42 t43 t44 t45 t46 t47 t48 t49 t50 t51 t52 t53 t54 t55 t56 t57 t58 t59 t60 t61 t62 t63 t64 t65 t66 t67 t68 t69 t70 t71 t72 t73 t74 t75 t76 t77 t78 t79 t80 t81 t82 t83 t84 t85 t86 t87 t88 t89 t90 t91 t92 t93 t94 t98 t99 t100 t101 t102 t103 t104 t105 t106 t107 t108 t109 t110 t111 t112 t113 t114 t115 t116 t117 t118 t119 t120 t121 t122 t123 t124 t125 t126 t127 t128 t129 t130 t131 t132 t133 t134 t135 t136 t137 t138 t139 t140 t141 t142 t143 t144 t145 t146 t147 t148 t149 t150 t151 t152 t153 t154 t155 t156 t157 t158 t159 t160 t161 t162 t163 t164 t165 t166 t167 t168 t169 t170 t171 t172 t173 t174 t175 t176 t177 t178 t179 t180 t181 t182 t183 t184 t185 t186 t187 t188 t189 t190 t191 t192 t193 : Value} {ds : List Deferred} (Q : Exit → Act → World → Prop) (b top gT gW gI : Nat) (e : EncP) (s : ESt) (w : World) (N gN : Nat) (a : Option Addr) (cp : Nat) (l : List BV)
    (KO : Gives 45 #[] (ratV (1, 1))) (h : EncAt b top gT gW gI e s w) (hb : b ≤ w.heap.size) (hMk : Marks b ds w)
    (mN : w.heap[gN]? = some (.cells #[.slice a l.length cp] 26 (0, 0))) (hgN : gN < b) (hNet : NetAt N w a l) (hNb : N ≤ b) (hl16 : l.length ≤ 16)
    (hk : ∀ (i : Nat) (x : BV), l[i]? = some x → 2 ≤ x.k ∧ x.k ≤ 8) (hps : ∀ (i : Nat) (x : BV), l[i]? = some x → x.ps.length ≤ 16 ∧ ∀ p ∈ x.ps, 0 ≤ p ∧ p.toNat < l.length)
    (hind : ∀ (i : Nat) (x : BV), l[i]? = some x → ∃ xs, s.ind[i]? = some xs ∧ (xs.length : Int) = x.k ∧ 2 ≤ xs.length ∧ xs.length ≤ 8) (hil : s.ind.length ≤ 16) (him : ∀ xs ∈ s.ind, ∀ y ∈ xs, 0 ≤ y ∧ y ≤ 100000)
    (htab : ∀ (i : Nat) (x : BV), l[i]? = some x → x.tab.length ≤ 1000 ∧ (s.tables l i).N + x.tab.length ≤ 1000 ∧ (s.tables l i).L.length + x.tab.length * (x.ps.length + 2) ≤ 100000)
    (hQ : ∀ (y16 y17 y18 y19 y20 y23 y24 y26 y28 y98 y99 y100 y101 y102 y103 y104 y105 y106 y107 y108 y109 y110 y111 y112 y113 y114 y115 y116 y117 y118 y119 y120 y121 y122 y123 y124 y125 y126 y127 y153 y154 y155 y156 y157 y158 y159 y160 y161 y162 y163 y164 y165 y166 y167 y168 y169 y170 y171 y172 y173 y174 y175 y176 y177 y178 y179 y180 y181 y182 y183 y184 y185 y186 y187 y188 y189 y190 : Value) (ds' : List Deferred) (e' : EncP) (w' : World), EncAt b w'.heap.size gT gW gI e' (s.tables l l.length) w' → Step (e.M gT gW gI) w (e'.M gT gW gI) w' → Marks b ds' w' →
      Q (.exit 8) { tmps := List.toArray (t0 :: .pointer (some ⟨gN, 0, none⟩) :: t2 :: t3 :: .pointer (some ⟨gI, 0, none⟩) :: t5 :: t6 :: .func (.func 46) #[] #[.pointer (some ⟨gW, 0, none⟩), .pointer (some ⟨gT, 0, none⟩)] :: .func (.func 47) #[] #[.pointer (some ⟨gT, 0, none⟩)] :: t9 :: t10 :: t11 :: t12 :: t13 :: t14 :: t15 :: y16 :: y17 :: y18 :: y19 :: y20 :: t21 :: t22 :: y23 :: y24 :: t25 :: y26 :: t27 :: y28 :: t29 :: t30 :: t31 :: t32 :: t33 :: t34 :: t35 :: t36 :: t37 :: t38 :: t39 :: t40 :: t41 :: t42 :: t43 :: t44 :: t45 :: t46 :: t47 :: t48 :: t49 :: t50 :: t51 :: t52 :: t53 :: t54 :: t55 :: t56 :: t57 :: t58 :: t59 :: t60 :: t61 :: t62 :: t63 :: t64 :: t65 :: t66 :: t67 :: t68 :: t69 :: t70 :: t71 :: t72 :: t73 :: t74 :: t75 :: t76 :: t77 :: t78 :: t79 :: t80 :: t81 :: t82 :: t83 :: t84 :: t85 :: t86 :: t87 :: t88 :: t89 :: t90 :: t91 :: t92 :: t93 :: t94 :: .slice a l.length cp :: .int .i64 l.length :: .int .i64 l.length :: y98 :: y99 :: y100 :: y101 :: y102 :: y103 :: y104 :: y105 :: y106 :: y107 :: y108 :: y109 :: y110 :: y111 :: y112 :: y113 :: y114 :: y115 :: y116 :: y117 :: y118 :: y119 :: y120 :: y121 :: y122 :: y123 :: y124 :: y125 :: y126 :: y127 :: t128 :: t129 :: t130 :: t131 :: t132 :: t133 :: t134 :: t135 :: t136 :: t137 :: t138 :: t139 :: t140 :: t141 :: t142 :: t143 :: t144 :: t145 :: t146 :: t147 :: t148 :: t149 :: t150 :: t151 :: t152 :: y153 :: y154 :: y155 :: y156 :: y157 :: y158 :: y159 :: y160 :: y161 :: y162 :: y163 :: y164 :: y165 :: y166 :: y167 :: y168 :: y169 :: y170 :: y171 :: y172 :: y173 :: y174 :: y175 :: y176 :: y177 :: y178 :: y179 :: y180 :: y181 :: y182 :: y183 :: y184 :: y185 :: y186 :: y187 :: y188 :: y189 :: y190 :: t191 :: t192 :: t193 :: []), defers := ds' } w') :
    (loopNo Try.f17 4).wp Try.prog Q { tmps := List.toArray (t0 :: .pointer (some ⟨gN, 0, none⟩) :: t2 :: t3 :: .pointer (some ⟨gI, 0, none⟩) :: t5 :: t6 :: .func (.func 46) #[] #[.pointer (some ⟨gW, 0, none⟩), .pointer (some ⟨gT, 0, none⟩)] :: .func (.func 47) #[] #[.pointer (some ⟨gT, 0, none⟩)] :: t9 :: t10 :: t11 :: t12 :: t13 :: t14 :: t15 :: t16 :: t17 :: t18 :: t19 :: t20 :: t21 :: t22 :: t23 :: t24 :: t25 :: t26 :: t27 :: t28 :: t29 :: t30 :: t31 :: t32 :: t33 :: t34 :: t35 :: t36 :: t37 :: t38 :: t39 :: t40 :: t41 :: t42 :: t43 :: t44 :: t45 :: t46 :: t47 :: t48 :: t49 :: t50 :: t51 :: t52 :: t53 :: t54 :: t55 :: t56 :: t57 :: t58 :: t59 :: t60 :: t61 :: t62 :: t63 :: t64 :: t65 :: t66 :: t67 :: t68 :: t69 :: t70 :: t71 :: t72 :: t73 :: t74 :: t75 :: t76 :: t77 :: t78 :: t79 :: t80 :: t81 :: t82 :: t83 :: t84 :: t85 :: t86 :: t87 :: t88 :: t89 :: t90 :: t91 :: t92 :: t93 :: t94 :: .slice a l.length cp :: .int .i64 l.length :: .int .i64 0 :: t98 :: t99 :: t100 :: t101 :: t102 :: t103 :: t104 :: t105 :: t106 :: t107 :: t108 :: t109 :: t110 :: t111 :: t112 :: t113 :: t114 :: t115 :: t116 :: t117 :: t118 :: t119 :: t120 :: t121 :: t122 :: t123 :: t124 :: t125 :: t126 :: t127 :: t128 :: t129 :: t130 :: t131 :: t132 :: t133 :: t134 :: t135 :: t136 :: t137 :: t138 :: t139 :: t140 :: t141 :: t142 :: t143 :: t144 :: t145 :: t146 :: t147 :: t148 :: t149 :: t150 :: t151 :: t152 :: t153 :: t154 :: t155 :: t156 :: t157 :: t158 :: t159 :: t160 :: t161 :: t162 :: t163 :: t164 :: t165 :: t166 :: t167 :: t168 :: t169 :: t170 :: t171 :: t172 :: t173 :: t174 :: t175 :: t176 :: t177 :: t178 :: t179 :: t180 :: t181 :: t182 :: t183 :: t184 :: t185 :: t186 :: t187 :: t188 :: t189 :: t190 :: t191 :: t192 :: t193 :: []), defers := ds } w := by
  show Code.wp Try.prog (Code.loop _) Q _ w
  have HQ := Lib.hid hQ
  have HH := Lib.hid h
  have HB := Lib.hid hb
  have HMK := Lib.hid hMk
  have HMN := Lib.hid mN
  have HGN := Lib.hid hgN
  have HNET := Lib.hid hNet
  have HNB := Lib.hid hNb
  have HK := Lib.hid hk
  have HPS := Lib.hid hps
  have HIND := Lib.hid hind
  have HIM := Lib.hid him
  have HTAB := Lib.hid htab
  clear hQ h hb hMk mN hgN hNet hNb hk hps hind him htab
  refine wp_loop (fun a' wr => ∀ C : Prop, (∀ (u16 u17 u18 u19 u20 u23 u24 u26 u28 u97 u98 u99 u100 u101 u102 u103 u104 u105 u106 u107 u108 u109 u110 u111 u112 u113 u114 u115 u116 u117 u118 u119 u120 u121 u122 u123 u124 u125 u126 u127 u153 u154 u155 u156 u157 u158 u159 u160 u161 u162 u163 u164 u165 u166 u167 u168 u169 u170 u171 u172 u173 u174 u175 u176 u177 u178 u179 u180 u181 u182 u183 u184 u185 u186 u187 u188 u189 u190 : Value) (ds' : List Deferred) (j : Nat) (e' : EncP), j ≤ l.length → u97 = .int .i64 j → Hid (EncAt b wr.heap.size gT gW gI e' (s.tables l j) wr) → Hid (Step (e.M gT gW gI) w (e'.M gT gW gI) wr) → Hid (Marks b ds' wr) → a' = { tmps := List.toArray (t0 :: .pointer (some ⟨gN, 0, none⟩) :: t2 :: t3 :: .pointer (some ⟨gI, 0, none⟩) :: t5 :: t6 :: .func (.func 46) #[] #[.pointer (some ⟨gW, 0, none⟩), .pointer (some ⟨gT, 0, none⟩)] :: .func (.func 47) #[] #[.pointer (some ⟨gT, 0, none⟩)] :: t9 :: t10 :: t11 :: t12 :: t13 :: t14 :: t15 :: u16 :: u17 :: u18 :: u19 :: u20 :: t21 :: t22 :: u23 :: u24 :: t25 :: u26 :: t27 :: u28 :: t29 :: t30 :: t31 :: t32 :: t33 :: t34 :: t35 :: t36 :: t37 :: t38 :: t39 :: t40 :: t41 :: t42 :: t43 :: t44 :: t45 :: t46 :: t47 :: t48 :: t49 :: t50 :: t51 :: t52 :: t53 :: t54 :: t55 :: t56 :: t57 :: t58 :: t59 :: t60 :: t61 :: t62 :: t63 :: t64 :: t65 :: t66 :: t67 :: t68 :: t69 :: t70 :: t71 :: t72 :: t73 :: t74 :: t75 :: t76 :: t77 :: t78 :: t79 :: t80 :: t81 :: t82 :: t83 :: t84 :: t85 :: t86 :: t87 :: t88 :: t89 :: t90 :: t91 :: t92 :: t93 :: t94 :: .slice a l.length cp :: .int .i64 l.length :: u97 :: u98 :: u99 :: u100 :: u101 :: u102 :: u103 :: u104 :: u105 :: u106 :: u107 :: u108 :: u109 :: u110 :: u111 :: u112 :: u113 :: u114 :: u115 :: u116 :: u117 :: u118 :: u119 :: u120 :: u121 :: u122 :: u123 :: u124 :: u125 :: u126 :: u127 :: t128 :: t129 :: t130 :: t131 :: t132 :: t133 :: t134 :: t135 :: t136 :: t137 :: t138 :: t139 :: t140 :: t141 :: t142 :: t143 :: t144 :: t145 :: t146 :: t147 :: t148 :: t149 :: t150 :: t151 :: t152 :: u153 :: u154 :: u155 :: u156 :: u157 :: u158 :: u159 :: u160 :: u161 :: u162 :: u163 :: u164 :: u165 :: u166 :: u167 :: u168 :: u169 :: u170 :: u171 :: u172 :: u173 :: u174 :: u175 :: u176 :: u177 :: u178 :: u179 :: u180 :: u181 :: u182 :: u183 :: u184 :: u185 :: u186 :: u187 :: u188 :: u189 :: u190 :: t191 :: t192 :: t193 :: []), defers := ds' } → C) → C)
    (fun a' _ => l.length - (intOf (a'.tmps.getD 97 undef)).toNat) ?start ?round
  case start =>
    intro C hC
    exact hC _ _ _ _ _ _ _ _ _ _ _ _ _ _ _ _ _ _ _ _ _ _ _ _ _ _ _ _ _ _ _ _ _ _ _ _ _ _ _ _ _ _ _ _ _ _ _ _ _ _ _ _ _ _ _ _ _ _ _ _ _ _ _ _ _ _ _ _ _ _ _ _ _ _ _ _ _ _ ds 0 e (Nat.zero_le _) rfl (HH.out.lift (Nat.le_refl _)) (Step.refl _ _) HMK.out rfl
  case round =>
    intro _ wr hinv
    refine hinv _ ?_
    intro u16 u17 u18 u19 u20 u23 u24 u26 u28 u97 u98 u99 u100 u101 u102 u103 u104 u105 u106 u107 u108 u109 u110 u111 u112 u113 u114 u115 u116 u117 u118 u119 u120 u121 u122 u123 u124 u125 u126 u127 u153 u154 u155 u156 u157 u158 u159 u160 u161 u162 u163 u164 u165 u166 u167 u168 u169 u170 u171 u172 u173 u174 u175 u176 u177 u178 u179 u180 u181 u182 u183 u184 u185 u186 u187 u188 u189 u190 ds' j e' hj h97 HE HS HM ha
    subst h97 ha
    dsimp only
    clear hinv
    by_cases hlt : j < l.length
    · have hd : decide (j < l.length) = true := by simpa using hlt
      obtain ⟨x, hx⟩ : ∃ x, l[j]? = some x := ⟨_, List.getElem?_eq_getElem hlt⟩
      have HX := Lib.hid hx
      have hkx := HK.out j x hx
      have hbr : b ≤ wr.heap.size := Nat.le_trans HB.out HS.out.beh.size
      have hbe : Below b w wr := HS.out.below HH.out.ge HB.out
      obtain ⟨nb, no, pa, pc, ta, tc, hnb, rfl, n0, n1, n2, hpa, hta, _⟩ := (HNET.out.below hbe HNB.out) j x hx
      obtain ⟨k, hkk⟩ : ∃ k : Nat, x.k = k := ⟨x.k.toNat, by omega⟩
      rw [hkk] at n0 hkx
      have HKK := Lib.hid hkk
      have HPA := Lib.hid hpa
      have HTA := Lib.hid hta
      have HBE := Lib.hid hbe
      have hk2 : 2 ≤ k := by omega
      have hk8 : k ≤ 8 := by omega
      clear hx hkk hkx hbe hpa hta
      go_wp2_with fail
      refine wp_gen ?_
      intro w1 hw1
      have hA : Behind wr [] w1 := by rw [hw1]; exact behind_of_below ((Below.refl _ _).alloc (Nat.le_refl _) _)
      have m17 : w1.heap[wr.heap.size]? = some (.cells #[.int .i64 k, .slice pa x.ps.length pc, .slice ta x.tab.length tc] 78 (0, 0)) := by rw [hw1]; exact heap_alloc_new wr _
      have hE1 := HE.out.keep hA (by simp)
      have hS1 : Step (e'.M gT gW gI) wr (e'.M gT gW gI) w1 := ⟨hA.mono (by simp), fun _ h => .inl h⟩
      have hb1 : b ≤ w1.heap.size := Nat.le_trans hbr hA.size
      have hM1 : Marks b ds' w1 := HM.out.behind hA (by simp)
      have hg17 : wr.heap.size ∉ e'.M gT gW gI := fun hm => by have := HE.out.lt _ hm; omega
      have hS1' := HS.out.trans hS1
      have hbe1 : Below b w w1 := hS1'.below HH.out.ge HB.out
      have hgM : gN ∉ e.M gT gW gI := fun hm => by have := HH.out.ge _ hm; have := HGN.out; omega
      have mN1 := hS1'.keep HMN.out hgM
      have hti := ESt.tables_ind s l j
      obtain ⟨ht1, ht2, ht3⟩ := HTAB.out j x HX.out
      obtain ⟨hp1, hp2⟩ := HPS.out j x HX.out
      have hbw : Below wr.heap.size wr w1 := hA.below
      clear hw1 hA hS1 n0 n1 n2 hgM hd
      refine wp_code (c' := loopNo Try.f17 5) (by kernel_rfl) ?_
      refine enc_loop6 _ b _ gT gW gI e' (s.tables l j) w1 N gN nb no cp l j k x wr.heap.size pa ta pc tc KO hE1 hb1 hM1 mN1 HGN.out (HNET.out.below hbe1 HNB.out) HNB.out hl16 HX.out HKK.out m17 hg17 (HPA.out.below hbw (by have := HNB.out; omega)) (HTA.out.below hbw (by have := HNB.out; omega)) hp1 hp2
        (by rw [hti]; exact HIND.out) (by rw [hti]; exact hil) (by rw [hti]; exact HIM.out) ht1 ht2 ht3 ?_
      intro y18 y19 y20 y23 y24 y26 y28 y106 y107 y108 y109 y110 y111 y112 y113 y114 y115 y116 y117 y118 y119 y120 y121 y122 y123 y124 y125 y126 y127 y153 y154 y155 y156 y157 y158 y159 y160 y161 y162 y163 y164 y165 y166 y167 y168 y169 y170 y171 y172 y173 y174 y175 y176 y177 y178 y179 y180 y181 y182 y183 y184 y185 y186 y187 y188 y189 ds2 e2 w2 hE2 hS2 hM2
      rw [← ESt.tables_succ s l j x HX.out] at hE2
      have HE2 := Lib.hid hE2
      have HM2 := Lib.hid hM2
      have HS2 := Lib.hid (hS1'.trans hS2)
      clear hE2 hM2 hS2 hS1' hE1 hM1 mN1 m17 hbe1 hti hp2 HE HS HM
      go_wp2_with fail
      refine ⟨fun C hC => hC _ _ _ _ _ _ _ _ _ _ _ _ _ _ _ _ _ _ _ _ _ _ _ _ _ _ _ _ _ _ _ _ _ _ _ _ _ _ _ _ _ _ _ _ _ _ _ _ _ _ _ _ _ _ _ _ _ _ _ _ _ _ _ _ _ _ _ _ _ _ _ _ _ _ _ _ _ _ ds2 (j + 1) e2 (by omega) (by go_num) HE2 HS2 HM2 rfl, ?measure⟩
      case measure => simp [intOf]; omega
    · obtain rfl : j = l.length := by omega
      go_wp2_with fail
      exact HQ.out _ _ _ _ _ _ _ _ _ _ _ _ _ _ _ _ _ _ _ _ _ _ _ _ _ _ _ _ _ _ _ _ _ _ _ _ _ _ _ _ _ _ _ _ _ _ _ _ _ _ _ _ _ _ _ _ _ _ _ _ _ _ _ _ _ _ _ _ _ _ _ _ _ _ _ _ _ ds' e' _ HE.out HS.out HM.out
end Go.Proofs.Ytbacloneddnaeaa
