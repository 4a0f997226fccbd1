/- Texts of this claim, joined: BApp, BEnc1, BEnc3, BKnow. -/
import Derived.Test.YtbacloneddnaeaaM21
import Derived.Test.YtbacloneddnaeaaM18

/- append to a row, in a fixed region: the old block or a new one. -/
namespace Go.Proofs.Ytbacloneddnaeaa
open Go.RowKit Num

theorem run_append_row {P : Program} (w : World) (t ty E : TypeId) (i : TypeInfo) (z : Value) (size bytes : Nat) (ht : P.underlying t = some (.slice E)) (hi : P.info? E = some i) (hz : i.zero = some z) (hsize : i.size = size) (hby : i.bytes = bytes) (hzs : z.cells.size = size)
    (v : Value) (n : Nat) (xs : List Value) (hrow : RowV (inW w) E size v n xs) (g2 m c2 : Nat) (news : List Value) (E2 : TypeId) (hn2 : w.heap[g2]? = some (.cells news.toArray E2 (0, 0))) (hl : news.length = m * size) (h1 : ∀ u ∈ news, u.oneCell' = true) (h0 : 0 < m)
    (h63 : n + m ≤ maxLen) (hbytes : (n + m) * bytes ≤ 140737488355328) :
    ∃ v' w', (Builtin.append_ #[t, t] ty #[v, .slice (some ⟨g2, 0, none⟩) m c2]).run P w = .ok v' w' ∧ RowV (inW w') E size v' (n + m) (xs ++ news) ∧ Behind w (rowBlk v) w' ∧ ∀ g ∈ rowBlk v', g ∈ rowBlk v ∨ w.heap.size ≤ g := by
  subst hsize hby
  have hnews : ∀ j u, news[j]? = some u → w.cell? ((⟨g2, 0, none⟩ : Addr).add j) = some u := fun j u hj => by
    rw [Addr.add_lit, Nat.zero_add]
    exact blk_cell hn2 j (v := u) (by simpa using hj)
  cases hrow with
  | nil =>
    have hr := run_append_nil (P := P) w t ty E i z ht hi hz ⟨g2, 0, none⟩ m c2 news hl hnews h0 (by simp only [maxLen] at h63; omega) (by rw [Nat.zero_add] at hbytes; omega)
    have hge := grownCap_ge w m 0 E
    simp only [Nat.zero_add, List.nil_append] at *
    refine ⟨_, _, hr, .row ⟨heap_alloc_new w.drew _, hge, grownCap_le_maxLen w m 0 E h63, ?_, ?_, hl⟩, behind_of_below ((Below.refl _ w).drew.alloc (by simp) _), fun g hg => .inr ?_⟩
    · simp only [Array.size_append, List.size_toArray, size_zeroCells, hzs, hl, ← Nat.add_mul]
      congr 1
      omega
    · simp only [Array.toList_append]
      rw [← hl]
      exact List.take_left
    · have : g = w.heap.size := by simpa [rowBlk] using hg
      omega
  | @row g n cap xs cur hrow =>
    have hb := hrow.blk
    have holds : ∀ j u, xs[j]? = some u → w.cell? ((⟨g, 0, none⟩ : Addr).add j) = some u := fun j u hj => by
      have hj' : cur[j]? = some u := by
        rw [← hrow.tk, List.getElem?_take] at hj
        split at hj
        · simpa using hj
        · cases hj
      rw [Addr.add_lit, Nat.zero_add]
      exact blk_cell hb j hj'
    have hlen : (xs ++ news).length = (n + m) * i.size := by rw [List.length_append, hrow.len, hl, Nat.add_mul]
    by_cases hroom : n + m ≤ cap
    · have hfit : n * i.size + news.length ≤ cur.size := by rw [hl, hrow.sz, ← Nat.add_mul]; exact Nat.mul_le_mul_right _ hroom
      have hr := run_append_room (P := P) w t ty E i ht hi g n cap cur hb ⟨g2, 0, none⟩ m c2 news hl hnews h1 hroom hfit
      refine ⟨_, _, hr, .row ⟨setRow_heap w g cur _ E _ hb, hroom, hrow.mx, ?_, ?_, hlen⟩, ⟨rfl, rfl, rfl, by simp, fun k' _ hk' => setRow_other w g k' _ (by simpa [rowBlk] using hk')⟩, fun g' hg => .inl (by simpa [rowBlk] using hg)⟩
      · simp only [List.size_toArray, List.length_append, List.length_take, List.length_drop, Array.length_toList]
        have := hrow.sz
        omega
      · simp only [List.toList_toArray]
        rw [hrow.tk, ← hlen]
        exact List.take_left
    · have hr := run_append_grow (P := P) w t ty E i z ht hi hz ⟨g, 0, none⟩ n cap xs hrow.len holds ⟨g2, 0, none⟩ m c2 news hl hnews (by omega) (by simp only [maxLen] at h63; omega) (growslice_fits (by omega) hbytes)
      refine ⟨_, _, hr, .row ⟨heap_alloc_new w.drew _, grownCap_ge w (n + m) cap E, grownCap_le_maxLen w (n + m) cap E h63, ?_, ?_, hlen⟩, (behind_of_below ((Below.refl _ w).drew.alloc (by simp) _)).mono (by simp), fun g' hg => .inr ?_⟩
      · have := grownCap_ge w (n + m) cap E
        simp only [Array.size_append, List.size_toArray, size_zeroCells, hzs, hrow.len, hl, ← Nat.add_mul]
        congr 1
        omega
      · simp only [Array.toList_append, List.append_assoc]
        rw [← List.append_assoc, ← hlen]
        exact List.take_left
      · have : g' = w.heap.size := by simpa [rowBlk] using hg
        omega

theorem wpList_append_row {P : Program} {ops : Array Oper} {rest : List Oper} {o : Oper} {a : Act} {Q : Exit → Act → World → Prop} (w : World) (hgd : o.guard = none) (s x : Operand) (t : TypeId) (ho : o.op = .call { callee := .builtin .append, args := #[s, x], argTypes := #[t, t] })
    (E : TypeId) (i : TypeInfo) (z : Value) (size bytes : Nat) (ht : P.underlying t = some (.slice E)) (hi : P.info? E = some i) (hz : i.zero = some z) (hsize : i.size = size) (hby : i.bytes = bytes) (hzs : z.cells.size = size)
    (v : Value) (n : Nat) (xs : List Value) (hs : a.eval s = v) (hrow : RowV (inW w) E size v n xs) (g2 m c2 : Nat) (news : List Value) (E2 : TypeId) (hx : a.eval x = .slice (some ⟨g2, 0, none⟩) m c2) (hn2 : w.heap[g2]? = some (.cells news.toArray E2 (0, 0))) (hl : news.length = m * size) (h1 : ∀ u ∈ news, u.oneCell' = true) (h0 : 0 < m)
    (h63 : n + m ≤ maxLen) (hbytes : (n + m) * bytes ≤ 140737488355328)
    (h : ∀ v' w', RowV (inW w') E size v' (n + m) (xs ++ news) → Behind w (rowBlk v) w' → (∀ g ∈ rowBlk v', g ∈ rowBlk v ∨ w.heap.size ≤ g) → wpList P ops Q rest (a.put o.dst v') w') : wpList P ops Q (o :: rest) a w := by
  refine wpList_plain hgd fun _ hK => ?_
  obtain ⟨v', w', hr, h2, h3, h4⟩ := run_append_row (P := P) w t o.type E i z size bytes ht hi hz hsize hby hzs v n xs hrow g2 m c2 news E2 hn2 hl h1 h0 h63 hbytes
  unfold Oper.wp execOp
  simp only [ho, resolve, invoke, builtin, Sem.run_bind, Sem.run_pure, Result.andThen_ok, List.map_toArray, List.map_cons, List.map_nil, hs, hx, hr]
  exact hK _ _ (h v' w' h2 h3 h4)

theorem OwnI.mono {w : World} {b b' : Nat} {M : List Nat} {v : Value} {xs : List Int} (h : OwnI w b M v xs) (hb : b' ≤ b) : OwnI w b' M v xs := ⟨h.row, fun g hg => Nat.le_trans hb (h.ge g hg), h.out⟩

theorem OwnI.grown {w w' : World} {b : Nat} {M : List Nat} {v v' : Value} {xs : List Int} {d : Int} (h : OwnI w b M v xs) (hb : b ≤ w.heap.size) (hM : ∀ g ∈ M, g < w.heap.size)
    (hr : RowV (inW w') 3 1 v' (xs.length + 1) (ints xs ++ [.int .i64 d])) (hn : ∀ g ∈ rowBlk v', g ∈ rowBlk v ∨ w.heap.size ≤ g) : OwnI w' b M v' (xs ++ [d]) := by
  refine ⟨?_, fun g hg => (hn g hg).elim (h.ge g) (fun e => by omega), fun g hg hm => (hn g hg).elim (fun e => h.out g e hm) (fun e => by have := hM g hm; omega)⟩
  have e : ints (xs ++ [d]) = ints xs ++ [.int .i64 d] := by simp [ints]
  rw [e, List.length_append]
  exact hr
theorem enc_grown {b top gT gW gI : Nat} {e : EncP} {s : ESt} {M0 : List Nat} {w w6 w7 : World} {v v' : Value} {xs : List Int} {d : Int} {ob : Obj} (HE : EncAt b top gT gW gI e s w6) (HO : OwnI w6 top (e.M gT gW gI) v xs) (HS : Step M0 w (e.M gT gW gI) w6) (hw : w.heap.size ≤ top) (ht : top ≤ w6.heap.size)
    (hB : Behind (w6.alloc ob) (rowBlk v) w7) (hr : RowV (inW w7) 3 1 v' (xs.length + 1) (ints xs ++ [.int .i64 d])) (hn : ∀ g ∈ rowBlk v', g ∈ rowBlk v ∨ w6.heap.size + 1 ≤ g) :
    EncAt b top gT gW gI e s w7 ∧ OwnI w7 top (e.M gT gW gI) v' (xs ++ [d]) ∧ Step M0 w (e.M gT gW gI) w7 := by
  have h0 : Behind w6 (rowBlk v) w7 := ((behind_of_below ((Below.refl _ _).alloc (Nat.le_refl _) ob)).mono (by simp)).trans hB (fun k hk => .inl hk)
  exact ⟨HE.keep h0 (fun g hg => ⟨HO.ge g hg, HO.out g hg⟩), HO.grown ht HE.lt hr (fun g hg => (hn g hg).imp id (fun h => by omega)),
    ⟨HS.beh.trans h0 (fun k hk => .inr (by have := HO.ge k hk; omega)), HS.new⟩⟩
theorem OwnI.new {w : World} {b : Nat} {M : List Nat} (xs : List Int) (hb : b ≤ w.heap.size) (hM : ∀ g ∈ M, g < w.heap.size) (hl : xs.length ≤ 1000) :
    OwnI (w.alloc (.cells (ints xs).toArray 3 (0, 0))) b M (.slice (some ⟨w.heap.size, 0, none⟩) xs.length xs.length) xs := by
  refine ⟨.row (cur := (ints xs).toArray) ⟨heap_alloc_new w _, Nat.le_refl _, by unfold maxLen; omega, by simp [ints], List.take_of_length_le (by simp [ints]), by simp [ints]⟩, fun g hg => ?_, fun g hg hm => ?_⟩
  · have : g = w.heap.size := by simpa [rowBlk] using hg
    omega
  · have h1 : g = w.heap.size := by simpa [rowBlk] using hg
    have := hM g hm
    omega

def ESt.adds (s : ESt) (cs : List (List Int)) : ESt := cs.foldl ESt.add s
theorem ESt.adds_snoc (s : ESt) (cs : List (List Int)) (c : List Int) : s.adds (cs ++ [c]) = (s.adds cs).add c := by simp [ESt.adds]
theorem ESt.adds_append (s : ESt) (cs ds : List (List Int)) : s.adds (cs ++ ds) = (s.adds cs).adds ds := by simp [ESt.adds]
theorem ESt.adds_len (s : ESt) : ∀ cs : List (List Int), (s.adds cs).L.length = s.L.length + cs.length
  | [] => rfl
  | c :: cs => by
    have := ESt.adds_len (s.add c) cs
    rw [show s.adds (c :: cs) = (s.add c).adds cs from rfl, this]
    simp only [ESt.add, List.length_append, List.length_cons, List.length_nil]; omega
theorem ESt.adds_N (s : ESt) : ∀ cs : List (List Int), (s.adds cs).N = s.N
  | [] => rfl
  | c :: cs => ESt.adds_N (s.add c) cs

def RowI (w : World) (g o : Nat) (ys : List Int) : Prop := ∃ cur, w.heap[g]? = some (.cells cur 3 (0, 0)) ∧ ∀ i y, ys[i]? = some y → cur[o + i]? = some (.int .i64 y)
theorem RowI.lt {w : World} {g o : Nat} {ys : List Int} (h : RowI w g o ys) : g < w.heap.size := by
  obtain ⟨_, h, _⟩ := h
  exact lt_of_heap h
theorem RowI.step {M M' : List Nat} {w w' : World} {g o : Nat} {ys : List Int} (h : RowI w g o ys) (k : Step M w M' w') (hn : g ∉ M) : RowI w' g o ys := by
  obtain ⟨cur, h1, h2⟩ := h
  exact ⟨cur, k.keep h1 hn, h2⟩
theorem RowI.cell {w : World} {g o : Nat} {ys : List Int} (h : RowI w g o ys) {i : Nat} {y : Int} (hi : ys[i]? = some y) : w.cell? ⟨g, o + i, none⟩ = some (.int .i64 y) := by
  obtain ⟨cur, h1, h2⟩ := h
  exact blk_cell h1 _ (h2 i y hi)
theorem RowI.drop {w : World} {g o : Nat} {ys : List Int} (h : RowI w g o ys) (k : Nat) : RowI w g (o + k) (ys.drop k) := by
  obtain ⟨cur, h1, h2⟩ := h
  refine ⟨cur, h1, fun i y hi => ?_⟩
  rw [List.getElem?_drop] at hi
  rw [Nat.add_assoc]
  exact h2 _ _ hi
theorem OwnI.rowI {w : World} {b : Nat} {M : List Nat} {v : Value} {xs : List Int} (h : OwnI w b M v xs) (h0 : xs ≠ []) : ∃ g cap, v = .slice (some ⟨g, 0, none⟩) xs.length cap ∧ RowI w g 0 xs ∧ g ∉ M ∧ b ≤ g ∧ xs.length ≤ cap ∧ cap ≤ maxLen := by
  have hr := h.row
  generalize hn : xs.length = n at hr
  generalize hz : ints xs = zs at hr
  cases hr with
  | nil => exact absurd (List.length_eq_zero_iff.1 hn) h0
  | @row g n cap ys cur hr =>
    refine ⟨g, cap, rfl, ⟨cur, hr.blk, fun i y hi => ?_⟩, h.out g (by simp [rowBlk]), h.ge g (by simp [rowBlk]), hr.le, hr.mx⟩
    have h2 := hr.tk
    have hi' : (ints xs)[i]? = some (.int .i64 y) := ints_get _ _ _ hi
    rw [hz, ← h2, List.getElem?_take] at hi'
    split at hi'
    · rw [Nat.zero_add]; simpa using hi'
    · cases hi'
theorem add_new {b top gT gW gI : Nat} {e : EncP} {s : ESt} {w : World} (c : List Int) {cs : Array Value} (hcs : cs = (ints c).toArray) (h : EncAt b top gT gW gI e s w) (hc : c.length ≤ 1000) (hN : s.L.length ≤ 900000) (hb : b ≤ w.heap.size) :
    Calls Try.prog 47 #[.slice (some ⟨w.heap.size, 0, none⟩) c.length c.length, .pointer (some ⟨gT, 0, none⟩)] (w.alloc (.cells cs 3 (0, 0))) fun r w' => r = .returned (.tuple #[]) ∧
      ∃ e', EncAt b w'.heap.size gT gW gI e' (s.add c) w' ∧ Step (e.M gT gW gI) w (e'.M gT gW gI) w' := by
  subst hcs
  have hA : Behind w [] (w.alloc (.cells (ints c).toArray 3 (0, 0))) := behind_of_below ((Below.refl _ _).alloc (Nat.le_refl _) _)
  have hE1 := (h.keep hA (by simp)).lift (top' := (w.alloc (.cells (ints c).toArray 3 (0, 0))).heap.size) (Nat.le_refl _)
  have hO1 := OwnI.new (w := w) (b := b) (M := e.M gT gW gI) c hb h.lt hc
  refine (add_enc hE1 hO1 (fun g hg => hO1.row.lt g hg) hN (by simp; omega)).mono ?_
  rintro r w' ⟨rfl, e', hE', hS'⟩
  exact ⟨rfl, e', hE'.lift (Nat.le_refl _), Step.trans ⟨hA.mono (by simp), fun _ h => .inl h⟩ hS'⟩
end Go.Proofs.Ytbacloneddnaeaa

/- bayes.Encode: its loops, one by one. -/
-- slots 194
namespace Go.Proofs.Ytbacloneddnaeaa
open Go.RowKit Go.Shelf Num

def loopsIn : Code → List Code
  | .seq a b => loopsIn a ++ loopsIn b
  | .cond _ a b => loopsIn a ++ loopsIn b
  | .block _ a => loopsIn a
  | .loop a => .loop a :: loopsIn a
  | .rangeFunc _ _ a b => loopsIn a ++ loopsIn b
  | .scope a => loopsIn a
  | _ => []
def loopNo (f : Func) (n : Nat) : Code := (f.body.map fun c => (loopsIn c).getD n .skip).getD .skip

def ESt.nexts (s : ESt) : Nat → ESt
  | 0 => s
  | k + 1 => (s.nexts k).next (1, 1)
theorem ESt.nexts_N (s : ESt) : ∀ k, (s.nexts k).N = s.N + k
  | 0 => rfl
  | k + 1 => by simp [ESt.nexts, ESt.next, ESt.nexts_N s k]; omega
def seqFrom (N k : Nat) : List Int := (List.range k).map fun j => (N : Int) + 1 + (j : Nat)
theorem seqFrom_succ (N k : Nat) : seqFrom N (k + 1) = seqFrom N k ++ [(N : Int) + k + 1] := by
  simp [seqFrom, List.range_succ]; omega
theorem seqFrom_length (N k : Nat) : (seqFrom N k).length = k := by simp [seqFrom]


set_option maxHeartbeats 1600000 in
set_option maxRecDepth 100000 in
theorem enc_loop2 {t0 t1 t2 t3 t4 t5 t6 t8 t9 t10 t12 t13 t14 t15 t16 t17 t18 t19 t20 t21 t22 t23 t24 t25 t26 t27 t28 t29 t30 t31 t32 t33 t34 t35 t36 t37 t38 t39 t40 t41 t42 t43 t44 t45 t46 t47 t48 t49 t50 t53 t54 t55 t56 t57 t58 t59 t60 t61 t62 t63 t64 t65 t66 t67 t68 t69 t70 t71 t72 t73 t74 t75 t76 t77 t78 t79 t80 t81 t82 t83 t84 t85 t86 t87 t88 t89 t90 t91 t92 t93 t94 t95 t96 t97 t98 t99 t100 t101 t102 t103 t104 t105 t106 t107 t108 t109 t110 t111 t112 t113 t114 t115 t116 t117 t118 t119 t120 t121 t122 t123 t124 t125 t126 t127 t128 t129 t130 t131 t132 t133 t134 t135 t136 t137 t138 t139 t140 t141 t142 t143 t144 t145 t146 t147 t148 t149 t150 t151 t152 t153 t154 t155 t156 t157 t158 t159 t160 t161 t162 t163 t164 t165 t166 t167 t168 t169 t170 t171 t172 t173 t174 t175 t176 t177 t178 t179 t180 t181 t182 t183 t184 t185 t186 t187 t188 t189 t190 t191 t192 t193 : Value} {ds : List Deferred} (Q : Exit → Act → World → Prop) (b top gT gW gI : Nat) (e : EncP) (s : ESt) (w : World) (k : Nat) (KO : Gives 45 #[] (ratV (1, 1))) (h : EncAt b top gT gW gI e s w) (hN : s.N + k ≤ 1000) (hb : b ≤ w.heap.size)
    (hQ : ∀ (y53 y54 y55 y56 y57 y58 y59 y60 v : Value) (e' : EncP) (w' : World), EncAt b w.heap.size gT gW gI e' (s.nexts k) w' → Step (e.M gT gW gI) w (e'.M gT gW gI) w' → OwnI w' w.heap.size (e'.M gT gW gI) v (seqFrom s.N k) →
      Q (.exit 2) { tmps := List.toArray (t0 :: t1 :: t2 :: t3 :: t4 :: t5 :: t6 :: .func (.func 46) #[] #[.pointer (some ⟨gW, 0, none⟩), .pointer (some ⟨gT, 0, none⟩)] :: t8 :: t9 :: t10 :: v :: t12 :: t13 :: t14 :: t15 :: t16 :: t17 :: t18 :: t19 :: t20 :: t21 :: t22 :: t23 :: t24 :: t25 :: t26 :: t27 :: t28 :: t29 :: t30 :: t31 :: t32 :: t33 :: t34 :: t35 :: t36 :: t37 :: t38 :: t39 :: t40 :: t41 :: t42 :: t43 :: t44 :: t45 :: t46 :: t47 :: t48 :: t49 :: t50 :: .int .i64 k :: .int .i64 k :: y53 :: y54 :: y55 :: y56 :: y57 :: y58 :: y59 :: y60 :: t61 :: t62 :: t63 :: t64 :: t65 :: t66 :: t67 :: t68 :: t69 :: t70 :: t71 :: t72 :: t73 :: t74 :: t75 :: t76 :: t77 :: t78 :: t79 :: t80 :: t81 :: t82 :: t83 :: t84 :: t85 :: t86 :: t87 :: t88 :: t89 :: t90 :: t91 :: t92 :: t93 :: t94 :: t95 :: t96 :: t97 :: t98 :: t99 :: t100 :: t101 :: t102 :: t103 :: t104 :: t105 :: t106 :: t107 :: t108 :: t109 :: t110 :: t111 :: t112 :: t113 :: t114 :: t115 :: t116 :: t117 :: t118 :: t119 :: t120 :: t121 :: t122 :: t123 :: t124 :: t125 :: t126 :: t127 :: t128 :: t129 :: t130 :: t131 :: t132 :: t133 :: t134 :: t135 :: t136 :: t137 :: t138 :: t139 :: t140 :: t141 :: t142 :: t143 :: t144 :: t145 :: t146 :: t147 :: t148 :: t149 :: t150 :: t151 :: t152 :: t153 :: t154 :: t155 :: t156 :: t157 :: t158 :: t159 :: t160 :: t161 :: t162 :: t163 :: t164 :: t165 :: t166 :: t167 :: t168 :: t169 :: t170 :: t171 :: t172 :: t173 :: t174 :: t175 :: t176 :: t177 :: t178 :: t179 :: t180 :: t181 :: t182 :: t183 :: t184 :: t185 :: t186 :: t187 :: t188 :: t189 :: t190 :: t191 :: t192 :: t193 :: []), defers := ds } w') :
    (loopNo Try.f17 1).wp Try.prog Q { tmps := List.toArray (t0 :: t1 :: t2 :: t3 :: t4 :: t5 :: t6 :: .func (.func 46) #[] #[.pointer (some ⟨gW, 0, none⟩), .pointer (some ⟨gT, 0, none⟩)] :: t8 :: t9 :: t10 :: .slice none 0 0 :: t12 :: t13 :: t14 :: t15 :: t16 :: t17 :: t18 :: t19 :: t20 :: t21 :: t22 :: t23 :: t24 :: t25 :: t26 :: t27 :: t28 :: t29 :: t30 :: t31 :: t32 :: t33 :: t34 :: t35 :: t36 :: t37 :: t38 :: t39 :: t40 :: t41 :: t42 :: t43 :: t44 :: t45 :: t46 :: t47 :: t48 :: t49 :: t50 :: .int .i64 k :: .int .i64 0 :: t53 :: t54 :: t55 :: t56 :: t57 :: t58 :: t59 :: t60 :: t61 :: t62 :: t63 :: t64 :: t65 :: t66 :: t67 :: t68 :: t69 :: t70 :: t71 :: t72 :: t73 :: t74 :: t75 :: t76 :: t77 :: t78 :: t79 :: t80 :: t81 :: t82 :: t83 :: t84 :: t85 :: t86 :: t87 :: t88 :: t89 :: t90 :: t91 :: t92 :: t93 :: t94 :: t95 :: t96 :: t97 :: t98 :: t99 :: t100 :: t101 :: t102 :: t103 :: t104 :: t105 :: t106 :: t107 :: t108 :: t109 :: t110 :: t111 :: t112 :: t113 :: t114 :: t115 :: t116 :: t117 :: t118 :: t119 :: t120 :: t121 :: t122 :: t123 :: t124 :: t125 :: t126 :: t127 :: t128 :: t129 :: t130 :: t131 :: t132 :: t133 :: t134 :: t135 :: t136 :: t137 :: t138 :: t139 :: t140 :: t141 :: t142 :: t143 :: t144 :: t145 :: t146 :: t147 :: t148 :: t149 :: t150 :: t151 :: t152 :: t153 :: t154 :: t155 :: t156 :: t157 :: t158 :: t159 :: t160 :: t161 :: t162 :: t163 :: t164 :: t165 :: t166 :: t167 :: t168 :: t169 :: t170 :: t171 :: t172 :: t173 :: t174 :: t175 :: t176 :: t177 :: t178 :: t179 :: t180 :: t181 :: t182 :: t183 :: t184 :: t185 :: t186 :: t187 :: t188 :: t189 :: t190 :: t191 :: t192 :: t193 :: []), defers := ds } w := by
  show Code.wp Try.prog (Code.loop _) Q _ w
  obtain ⟨i0, hi, hz0, hz1, hz2⟩ := info_parts Try.infoInt
  have HQ := Lib.hid hQ
  have HH := Lib.hid h
  have HB := Lib.hid hb
  have hk : k ≤ 1000 := by omega
  clear hQ h hb
  go_loopw [11, 52] (fun v i wr => ∃ (j : Nat) (e' : EncP), j ≤ k ∧ i = .int .i64 j ∧ Hid (EncAt b w.heap.size gT gW gI e' (s.nexts j) wr) ∧ Hid (Step (e.M gT gW gI) w (e'.M gT gW gI) wr) ∧ Hid (OwnI wr w.heap.size (e'.M gT gW gI) v (seqFrom s.N j)))
    (fun _ i _ => k - (intOf i).toNat)
  case atStart => exact ⟨0, e, Nat.zero_le _, rfl, HH.out.lift (Nat.le_refl _), Step.refl _ _, ⟨.nil, by simp [rowBlk], by simp [rowBlk]⟩⟩
  case round =>
    obtain ⟨j, e', hj, rfl, HE, HS, HO⟩ := hrel
    by_cases hlt : j < k
    · have hd : decide (j < k) = true := by simpa using hlt
      have hNj : (s.nexts j).N ≤ 90000 := by rw [ESt.nexts_N]; omega
      have hbr : b ≤ wr.heap.size := Nat.le_trans HB.out HS.out.beh.size
      go_wp2_with fail
      refine (KO _).mono ?_
      rintro r5 w5 ⟨rfl, hB5⟩
      have h5 := HE.out.keep (U := []) (behind_of_below hB5) (by simp)
      have hb5 : b ≤ w5.heap.size := Nat.le_trans hbr hB5.size
      have hS5 : Step (e'.M gT gW gI) wr (e'.M gT gW gI) w5 := ⟨(behind_of_below hB5).mono (by simp), fun _ h => .inl h⟩
      have HO5 := Lib.hid (HO.out.step hS5)
      have HS5 := Lib.hid (HS.out.trans hS5)
      go_wp2_with fail
      refine (next_enc KO h5 hNj hb5 (1, 1)).mono ?_
      rintro r6 w6 ⟨rfl, e6, hE6, hS6⟩
      have HO6 := Lib.hid (HO5.out.step hS6)
      have HS6 := Lib.hid (HS5.out.trans hS6)
      have HE6 := Lib.hid hE6
      have hw6 : w.heap.size ≤ w6.heap.size := HS6.out.beh.size
      have hNj1 : (((s.nexts j).N : Nat) : Int) + 1 = ((s.N : Int) + j + 1) := by rw [ESt.nexts_N]; omega
      have hln := seqFrom_length s.N j
      rw [hNj1]
      clear h5 hE6 hS6 hS5 hB5 HO5 HS5 HE HS HO hNj
      go_wp2_with (at_builtin; refine wpList_append_row _ rfl _ _ 30 rfl 3 i0 (.int .i64 0) 1 8 Try.underlying30 hi hz0 hz1 hz2 rfl _ _ _ rfl (HO6.out.row.keep (behind_of_below ((Below.refl _ _).alloc (Nat.le_refl _) _)) (by simp)) w6.heap.size 1 1 [.int .i64 ((s.N : Int) + j + 1)] 3 rfl (heap_alloc_new w6 _) rfl (by intro u hu; simp at hu; subst hu; rfl) (by omega) (by unfold maxLen; omega) (by omega) ?_)
      intro v' w7 hr7 hB7 hn7
      rw [show j + 1 = (seqFrom s.N j).length + 1 by rw [hln]] at hr7
      obtain ⟨hE7, hO7, hS7⟩ := enc_grown HE6.out HO6.out HS6.out (Nat.le_refl _) hw6 hB7 hr7 (by simpa using hn7)
      rw [← seqFrom_succ] at hO7
      have HE7 := Lib.hid hE7
      have HO7 := Lib.hid hO7
      have HS7 := Lib.hid hS7
      clear hE7 hO7 hS7 hr7 hB7 hn7 HE6 HO6 HS6 hln hNj1 hw6 hb5
      go_wp2_with fail
      go_roundw
      case rel => exact ⟨j + 1, e6, by omega, by go_num, HE7, HS7, HO7⟩
      case measure => simp [intOf]; omega
    · obtain rfl : j = k := by omega
      go_wp2_with fail
      exact HQ.out _ _ _ _ _ _ _ _ _ e' _ HE.out HS.out HO.out
end Go.Proofs.Ytbacloneddnaeaa

/- bayes.Encode: the clauses of a row. -/
-- slots 194
namespace Go.Proofs.Ytbacloneddnaeaa
open Go.RowKit Go.Shelf Num

set_option maxHeartbeats 1600000 in
set_option maxRecDepth 100000 in
theorem enc_loop8 {t0 t1 t2 t3 t4 t5 t6 t7 t9 t10 t11 t12 t13 t14 t15 t16 t17 t18 t19 t20 t21 t22 t24 t25 t26 t27 t28 t29 t30 t31 t32 t33 t34 t35 t36 t37 t38 t39 t40 t41 t42 t43 t44 t45 t46 t47 t48 t49 t50 t51 t52 t53 t54 t55 t56 t57 t58 t59 t60 t61 t62 t63 t64 t65 t66 t67 t68 t69 t70 t71 t72 t73 t74 t75 t76 t77 t78 t79 t80 t81 t82 t83 t84 t85 t86 t87 t88 t89 t90 t91 t92 t93 t94 t95 t96 t97 t98 t99 t100 t101 t102 t103 t104 t105 t106 t107 t108 t109 t110 t111 t112 t113 t114 t115 t116 t117 t118 t119 t120 t121 t122 t123 t124 t125 t126 t127 t128 t129 t130 t131 t132 t133 t134 t135 t136 t137 t138 t139 t140 t141 t142 t143 t144 t145 t146 t147 t148 t149 t150 t151 t152 t153 t154 t155 t156 t157 t158 t159 t160 t161 t162 t163 t164 t165 t166 t167 t168 t169 t170 t171 t172 t173 t174 t175 t179 t180 t181 t182 t183 t184 t185 t186 t187 t188 t189 t190 t191 t192 t193 : Value} {ds : List Deferred} (Q : Exit → Act → World → Prop) (b top gT gW gI : Nat) (e : EncP) (s : ESt) (w : World) (x : Int) (ys : List Int) (g o cap : Nat) (h : EncAt b top gT gW gI e s w) (hb : b ≤ w.heap.size) (hrow : RowI w g o ys) (hg : g ∉ e.M gT gW gI)
    (hx : 0 ≤ x ∧ x ≤ 100000) (hys : ∀ y ∈ ys, 0 ≤ y ∧ y ≤ 100000) (hl : ys.length ≤ 1000) (hL : s.L.length + ys.length ≤ 900000)
    (hQ : ∀ (y28 y179 y180 y181 y182 y183 y184 y185 y186 y187 y188 : Value) (e' : EncP) (w' : World), EncAt b w'.heap.size gT gW gI e' (s.adds (ys.map fun y => [-x, y])) w' → Step (e.M gT gW gI) w (e'.M gT gW gI) w' →
      Q (.exit 16) { tmps := List.toArray (t0 :: t1 :: t2 :: t3 :: t4 :: t5 :: t6 :: t7 :: .func (.func 47) #[] #[.pointer (some ⟨gT, 0, none⟩)] :: t9 :: t10 :: t11 :: t12 :: t13 :: t14 :: t15 :: t16 :: t17 :: t18 :: t19 :: t20 :: t21 :: t22 :: .int .i64 x :: t24 :: t25 :: t26 :: t27 :: y28 :: t29 :: t30 :: t31 :: t32 :: t33 :: t34 :: t35 :: t36 :: t37 :: t38 :: t39 :: t40 :: t41 :: t42 :: t43 :: t44 :: t45 :: t46 :: t47 :: t48 :: t49 :: t50 :: t51 :: t52 :: t53 :: t54 :: t55 :: t56 :: t57 :: t58 :: t59 :: t60 :: t61 :: t62 :: t63 :: t64 :: t65 :: t66 :: t67 :: t68 :: t69 :: t70 :: t71 :: t72 :: t73 :: t74 :: t75 :: t76 :: t77 :: t78 :: t79 :: t80 :: t81 :: t82 :: t83 :: t84 :: t85 :: t86 :: t87 :: t88 :: t89 :: t90 :: t91 :: t92 :: t93 :: t94 :: t95 :: t96 :: t97 :: t98 :: t99 :: t100 :: t101 :: t102 :: t103 :: t104 :: t105 :: t106 :: t107 :: t108 :: t109 :: t110 :: t111 :: t112 :: t113 :: t114 :: t115 :: t116 :: t117 :: t118 :: t119 :: t120 :: t121 :: t122 :: t123 :: t124 :: t125 :: t126 :: t127 :: t128 :: t129 :: t130 :: t131 :: t132 :: t133 :: t134 :: t135 :: t136 :: t137 :: t138 :: t139 :: t140 :: t141 :: t142 :: t143 :: t144 :: t145 :: t146 :: t147 :: t148 :: t149 :: t150 :: t151 :: t152 :: t153 :: t154 :: t155 :: t156 :: t157 :: t158 :: t159 :: t160 :: t161 :: t162 :: t163 :: t164 :: t165 :: t166 :: t167 :: t168 :: t169 :: t170 :: t171 :: t172 :: t173 :: t174 :: t175 :: .slice (some ⟨g, o, none⟩) ys.length cap :: .int .i64 ys.length :: .int .i64 ys.length :: y179 :: y180 :: y181 :: y182 :: y183 :: y184 :: y185 :: y186 :: y187 :: y188 :: t189 :: t190 :: t191 :: t192 :: t193 :: []), defers := ds } w') :
    (loopNo Try.f17 7).wp Try.prog Q { tmps := List.toArray (t0 :: t1 :: t2 :: t3 :: t4 :: t5 :: t6 :: t7 :: .func (.func 47) #[] #[.pointer (some ⟨gT, 0, none⟩)] :: t9 :: t10 :: t11 :: t12 :: t13 :: t14 :: t15 :: t16 :: t17 :: t18 :: t19 :: t20 :: t21 :: t22 :: .int .i64 x :: t24 :: t25 :: t26 :: t27 :: t28 :: t29 :: t30 :: t31 :: t32 :: t33 :: t34 :: t35 :: t36 :: t37 :: t38 :: t39 :: t40 :: t41 :: t42 :: t43 :: t44 :: t45 :: t46 :: t47 :: t48 :: t49 :: t50 :: t51 :: t52 :: t53 :: t54 :: t55 :: t56 :: t57 :: t58 :: t59 :: t60 :: t61 :: t62 :: t63 :: t64 :: t65 :: t66 :: t67 :: t68 :: t69 :: t70 :: t71 :: t72 :: t73 :: t74 :: t75 :: t76 :: t77 :: t78 :: t79 :: t80 :: t81 :: t82 :: t83 :: t84 :: t85 :: t86 :: t87 :: t88 :: t89 :: t90 :: t91 :: t92 :: t93 :: t94 :: t95 :: t96 :: t97 :: t98 :: t99 :: t100 :: t101 :: t102 :: t103 :: t104 :: t105 :: t106 :: t107 :: t108 :: t109 :: t110 :: t111 :: t112 :: t113 :: t114 :: t115 :: t116 :: t117 :: t118 :: t119 :: t120 :: t121 :: t122 :: t123 :: t124 :: t125 :: t126 :: t127 :: t128 :: t129 :: t130 :: t131 :: t132 :: t133 :: t134 :: t135 :: t136 :: t137 :: t138 :: t139 :: t140 :: t141 :: t142 :: t143 :: t144 :: t145 :: t146 :: t147 :: t148 :: t149 :: t150 :: t151 :: t152 :: t153 :: t154 :: t155 :: t156 :: t157 :: t158 :: t159 :: t160 :: t161 :: t162 :: t163 :: t164 :: t165 :: t166 :: t167 :: t168 :: t169 :: t170 :: t171 :: t172 :: t173 :: t174 :: t175 :: .slice (some ⟨g, o, none⟩) ys.length cap :: .int .i64 ys.length :: .int .i64 0 :: t179 :: t180 :: t181 :: t182 :: t183 :: t184 :: t185 :: t186 :: t187 :: t188 :: t189 :: t190 :: t191 :: t192 :: t193 :: []), defers := ds } w := by
  show Code.wp Try.prog (Code.loop _) Q _ w
  have HQ := Lib.hid hQ
  have HH := Lib.hid h
  have HB := Lib.hid hb
  have HR := Lib.hid hrow
  have HG := Lib.hid hg
  have HY := Lib.hid hys
  clear hQ h hb hrow hg hys
  go_loopw [178] (fun i wr => ∃ (j : Nat) (e' : EncP), j ≤ ys.length ∧ i = .int .i64 j ∧ Hid (EncAt b wr.heap.size gT gW gI e' (s.adds ((ys.take j).map fun y => [-x, y])) wr) ∧ Hid (Step (e.M gT gW gI) w (e'.M gT gW gI) wr))
    (fun i _ => ys.length - (intOf i).toNat)
  case atStart => exact ⟨0, e, Nat.zero_le _, rfl, HH.out.lift (Nat.le_refl _), Step.refl _ _⟩
  case round =>
    obtain ⟨j, e', hj, rfl, HE, HS⟩ := hrel
    by_cases hlt : j < ys.length
    · have hd : decide (j < ys.length) = true := by simpa using hlt
      obtain ⟨y, hy⟩ : ∃ y, ys[j]? = some y := ⟨_, List.getElem?_eq_getElem hlt⟩
      have hyb := HY.out y (List.mem_of_getElem? hy)
      have hc := (HR.out.step HS.out HG.out).cell hy
      have hbr : b ≤ wr.heap.size := Nat.le_trans HB.out HS.out.beh.size
      have hLj : (s.adds ((ys.take j).map fun y => [-x, y])).L.length ≤ 900000 := by rw [ESt.adds_len]; simp; omega
      have HT : Hid (s.adds ((ys.take (j + 1)).map fun y => [-x, y]) = (s.adds ((ys.take j).map fun y => [-x, y])).add [-x, y]) := by
        unfold Hid
        rw [take_snoc_of hy, List.map_append, List.map_singleton, ESt.adds_snoc]
      clear hy
      go_wp2_with fail
      refine (add_new [-x, y] rfl HE.out (by simp) hLj hbr).mono ?_
      rintro r2 w2 ⟨rfl, e2, hE2, hS2⟩
      rw [← HT.out] at hE2
      have HE2 := Lib.hid hE2
      have HS2 := Lib.hid (HS.out.trans hS2)
      clear hE2 hS2 HT hLj hc HE HS hbr
      go_wp2_with fail
      go_roundw
      case rel => exact ⟨j + 1, e2, by omega, by go_num, HE2, HS2⟩
      case measure => simp [intOf]; omega
    · obtain rfl : j = ys.length := by omega
      go_wp2_with fail
      have hE := HE.out
      rw [List.take_length] at hE
      exact HQ.out _ _ _ _ _ _ _ _ _ _ _ e' _ hE HS.out

set_option maxHeartbeats 1600000 in
set_option maxRecDepth 100000 in
theorem enc_loop7 {t0 t1 t2 t3 t4 t5 t6 t7 t8 t9 t10 t11 t12 t13 t14 t15 t16 t17 t18 t19 t20 t21 t22 t23 t25 t26 t27 t28 t29 t30 t31 t32 t33 t34 t35 t36 t37 t38 t39 t40 t41 t42 t43 t44 t45 t46 t47 t48 t49 t50 t51 t52 t53 t54 t55 t56 t57 t58 t59 t60 t61 t62 t63 t64 t65 t66 t67 t68 t69 t70 t71 t72 t73 t74 t75 t76 t77 t78 t79 t80 t81 t82 t83 t84 t85 t86 t87 t88 t89 t90 t91 t92 t93 t94 t95 t96 t97 t98 t99 t100 t101 t102 t103 t104 t105 t106 t107 t108 t109 t110 t111 t112 t113 t114 t115 t116 t117 t118 t119 t120 t121 t122 t123 t124 t125 t126 t127 t128 t129 t130 t131 t132 t133 t134 t135 t136 t137 t138 t139 t140 t141 t142 t143 t144 t145 t146 t147 t148 t149 t150 t151 t152 t153 t154 t155 t156 t157 t161 t162 t163 t164 t165 t166 t167 t168 t169 t170 t171 t172 t173 t174 t175 t176 t177 t178 t179 t180 t181 t182 t183 t184 t185 t186 t187 t188 t189 t190 t191 t192 t193 : Value} {ds : List Deferred} (Q : Exit → Act → World → Prop) (b top gT gW gI : Nat) (e : EncP) (s : ESt) (w : World) (ys : List Int) (g cap : Nat) (h : EncAt b top gT gW gI e s w) (hrow : RowI w g 0 ys) (hg : g ∉ e.M gT gW gI)
    (hys : ∀ y ∈ ys, 0 ≤ y ∧ y ≤ 100000) (hl : ys.length ≤ 1000)
    (hQ : ∀ (y26 y161 y162 y163 y164 y165 y166 y167 y168 y169 v : Value) (w' : World), EncAt b w.heap.size gT gW gI e s w' → Step (e.M gT gW gI) w (e.M gT gW gI) w' → OwnI w' w.heap.size (e.M gT gW gI) v (ys.map fun y => -y) →
      Q (.exit 14) { tmps := List.toArray (t0 :: t1 :: t2 :: t3 :: t4 :: t5 :: t6 :: t7 :: t8 :: t9 :: t10 :: t11 :: t12 :: t13 :: t14 :: t15 :: t16 :: t17 :: t18 :: t19 :: t20 :: t21 :: t22 :: t23 :: v :: t25 :: y26 :: t27 :: t28 :: t29 :: t30 :: t31 :: t32 :: t33 :: t34 :: t35 :: t36 :: t37 :: t38 :: t39 :: t40 :: t41 :: t42 :: t43 :: t44 :: t45 :: t46 :: t47 :: t48 :: t49 :: t50 :: t51 :: t52 :: t53 :: t54 :: t55 :: t56 :: t57 :: t58 :: t59 :: t60 :: t61 :: t62 :: t63 :: t64 :: t65 :: t66 :: t67 :: t68 :: t69 :: t70 :: t71 :: t72 :: t73 :: t74 :: t75 :: t76 :: t77 :: t78 :: t79 :: t80 :: t81 :: t82 :: t83 :: t84 :: t85 :: t86 :: t87 :: t88 :: t89 :: t90 :: t91 :: t92 :: t93 :: t94 :: t95 :: t96 :: t97 :: t98 :: t99 :: t100 :: t101 :: t102 :: t103 :: t104 :: t105 :: t106 :: t107 :: t108 :: t109 :: t110 :: t111 :: t112 :: t113 :: t114 :: t115 :: t116 :: t117 :: t118 :: t119 :: t120 :: t121 :: t122 :: t123 :: t124 :: t125 :: t126 :: t127 :: t128 :: t129 :: t130 :: t131 :: t132 :: t133 :: t134 :: t135 :: t136 :: t137 :: t138 :: t139 :: t140 :: t141 :: t142 :: t143 :: t144 :: t145 :: t146 :: t147 :: t148 :: t149 :: t150 :: t151 :: t152 :: t153 :: t154 :: t155 :: t156 :: t157 :: .slice (some ⟨g, 0, none⟩) ys.length cap :: .int .i64 ys.length :: .int .i64 ys.length :: y161 :: y162 :: y163 :: y164 :: y165 :: y166 :: y167 :: y168 :: y169 :: t170 :: t171 :: t172 :: t173 :: t174 :: t175 :: t176 :: t177 :: t178 :: t179 :: t180 :: t181 :: t182 :: t183 :: t184 :: t185 :: t186 :: t187 :: t188 :: t189 :: t190 :: t191 :: t192 :: t193 :: []), defers := ds } w') :
    (loopNo Try.f17 6).wp Try.prog Q { tmps := List.toArray (t0 :: t1 :: t2 :: t3 :: t4 :: t5 :: t6 :: t7 :: t8 :: t9 :: t10 :: t11 :: t12 :: t13 :: t14 :: t15 :: t16 :: t17 :: t18 :: t19 :: t20 :: t21 :: t22 :: t23 :: .slice none 0 0 :: t25 :: t26 :: t27 :: t28 :: t29 :: t30 :: t31 :: t32 :: t33 :: t34 :: t35 :: t36 :: t37 :: t38 :: t39 :: t40 :: t41 :: t42 :: t43 :: t44 :: t45 :: t46 :: t47 :: t48 :: t49 :: t50 :: t51 :: t52 :: t53 :: t54 :: t55 :: t56 :: t57 :: t58 :: t59 :: t60 :: t61 :: t62 :: t63 :: t64 :: t65 :: t66 :: t67 :: t68 :: t69 :: t70 :: t71 :: t72 :: t73 :: t74 :: t75 :: t76 :: t77 :: t78 :: t79 :: t80 :: t81 :: t82 :: t83 :: t84 :: t85 :: t86 :: t87 :: t88 :: t89 :: t90 :: t91 :: t92 :: t93 :: t94 :: t95 :: t96 :: t97 :: t98 :: t99 :: t100 :: t101 :: t102 :: t103 :: t104 :: t105 :: t106 :: t107 :: t108 :: t109 :: t110 :: t111 :: t112 :: t113 :: t114 :: t115 :: t116 :: t117 :: t118 :: t119 :: t120 :: t121 :: t122 :: t123 :: t124 :: t125 :: t126 :: t127 :: t128 :: t129 :: t130 :: t131 :: t132 :: t133 :: t134 :: t135 :: t136 :: t137 :: t138 :: t139 :: t140 :: t141 :: t142 :: t143 :: t144 :: t145 :: t146 :: t147 :: t148 :: t149 :: t150 :: t151 :: t152 :: t153 :: t154 :: t155 :: t156 :: t157 :: .slice (some ⟨g, 0, none⟩) ys.length cap :: .int .i64 ys.length :: .int .i64 0 :: t161 :: t162 :: t163 :: t164 :: t165 :: t166 :: t167 :: t168 :: t169 :: t170 :: t171 :: t172 :: t173 :: t174 :: t175 :: t176 :: t177 :: t178 :: t179 :: t180 :: t181 :: t182 :: t183 :: t184 :: t185 :: t186 :: t187 :: t188 :: t189 :: t190 :: t191 :: t192 :: t193 :: []), defers := ds } w := by
  show Code.wp Try.prog (Code.loop _) Q _ w
  obtain ⟨i0, hi, hz0, hz1, hz2⟩ := info_parts Try.infoInt
  have HQ := Lib.hid hQ
  have HH := Lib.hid h
  have HR := Lib.hid hrow
  have HG := Lib.hid hg
  have HY := Lib.hid hys
  clear hQ h hrow hg hys
  go_loopw [24, 160] (fun v i wr => ∃ j : Nat, j ≤ ys.length ∧ i = .int .i64 j ∧ Hid (EncAt b w.heap.size gT gW gI e s wr) ∧ Hid (Step (e.M gT gW gI) w (e.M gT gW gI) wr) ∧ Hid (OwnI wr w.heap.size (e.M gT gW gI) v ((ys.take j).map fun y => -y)))
    (fun _ i _ => ys.length - (intOf i).toNat)
  case atStart => exact ⟨0, Nat.zero_le _, rfl, HH.out.lift (Nat.le_refl _), Step.refl _ _, ⟨.nil, by simp [rowBlk], by simp [rowBlk]⟩⟩
  case round =>
    obtain ⟨j, hj, rfl, HE, HS, HO⟩ := hrel
    by_cases hlt : j < ys.length
    · have hd : decide (j < ys.length) = true := by simpa using hlt
      obtain ⟨y, hy⟩ : ∃ y, ys[j]? = some y := ⟨_, List.getElem?_eq_getElem hlt⟩
      have hyb := HY.out y (List.mem_of_getElem? hy)
      have hc := (HR.out.step HS.out HG.out).cell hy
      rw [Nat.zero_add] at hc
      have hwr : w.heap.size ≤ wr.heap.size := HS.out.beh.size
      have HT : Hid ((ys.take (j + 1)).map (fun y => -y) = (ys.take j).map (fun y => -y) ++ [-y]) := by
        unfold Hid
        rw [take_snoc_of hy, List.map_append, List.map_singleton]
      have hln : ((ys.take j).map fun y => -y).length = j := by simp; omega
      clear hy
      go_wp2_with (at_builtin; refine wpList_append_row _ rfl _ _ 30 rfl 3 i0 (.int .i64 0) 1 8 Try.underlying30 hi hz0 hz1 hz2 rfl _ _ _ rfl (HO.out.row.keep (behind_of_below ((Below.refl _ _).alloc (Nat.le_refl _) _)) (by simp)) wr.heap.size 1 1 [.int .i64 (-y)] 3 rfl (heap_alloc_new wr _) rfl (by intro u hu; simp at hu; subst hu; rfl) (by omega) (by unfold maxLen; omega) (by omega) ?_)
      intro v' w7 hr7 hB7 hn7
      rw [← List.map_take] at hr7
      rw [show j + 1 = ((ys.take j).map fun y => -y).length + 1 by rw [hln]] at hr7
      obtain ⟨hE7, hO7, hS7⟩ := enc_grown HE.out HO.out HS.out (Nat.le_refl _) hwr hB7 hr7 (by simpa using hn7)
      rw [← HT.out] at hO7
      have HE7 := Lib.hid hE7
      have HO7 := Lib.hid hO7
      have HS7 := Lib.hid hS7
      clear hE7 hO7 hS7 hr7 hB7 hn7 HE HO HS hln hwr HT hc
      go_wp2_with fail
      go_roundw
      case rel => exact ⟨j + 1, by omega, by go_num, HE7, HS7, HO7⟩
      case measure => simp [intOf]; omega
    · obtain rfl : j = ys.length := by omega
      go_wp2_with fail
      have hO := HO.out
      rw [List.take_length] at hO
      exact HQ.out _ _ _ _ _ _ _ _ _ _ _ _ HE.out HS.out hO
end Go.Proofs.Ytbacloneddnaeaa

/- bayes.Encode: an indicator more. -/
namespace Go.Proofs.Ytbacloneddnaeaa
open Go.RowKit Num

theorem know_enc {b top gT gW gI : Nat} {e : EncP} {s : ESt} {w w2 : World} {v vI' : Value} {c : List Int} {ob : Obj} (h : EncAt b top gT gW gI e s w) (hc : OwnI w b (e.M gT gW gI) v c) (hb : b ≤ w.heap.size)
    (hB2 : Behind (w.alloc ob) (rowBlk e.vI) w2) (hr : RowV (inW w2) 30 1 vI' (s.ind.length + 1) (e.ind ++ [v])) (hI : ∀ g ∈ rowBlk vI', g ∈ rowBlk e.vI ∨ w.heap.size + 1 ≤ g) :
    ∃ e', EncAt b (w2.setCell ⟨gI, 0, none⟩ vI').heap.size gT gW gI e' (s.know c) (w2.setCell ⟨gI, 0, none⟩ vI') ∧ Step (e.M gT gW gI) w (e'.M gT gW gI) (w2.setCell ⟨gI, 0, none⟩ vI') ∧ OwnI (w2.setCell ⟨gI, 0, none⟩ vI') b (e'.M gT gW gI) v c := by
  have hnd := h.nd
  have hlt := h.lt
  simp only [EncP.M, List.nodup_cons, List.mem_cons, List.mem_append, not_or] at hnd
  obtain ⟨⟨t1, t2, t3, t4, t5, t6⟩, ⟨u1, u2, u3, u4, u5⟩, ⟨i1, i2, i3, i4⟩, ⟨l1, l2, l3⟩, ⟨j1, j2⟩, nd2⟩ := hnd
  have lT := hlt gT (by simp [EncP.M])
  have lW := hlt gW (by simp [EncP.M])
  have lI := hlt gI (by simp [EncP.M])
  have lL := hlt e.gL (by simp [EncP.M])
  have lH := hlt e.gH (by simp [EncP.M])
  have h0 : Behind w (rowBlk e.vI) w2 := ((behind_of_below ((Below.refl _ _).alloc (Nat.le_refl _) ob)).mono (by simp)).trans hB2 (fun k hk => .inl hk)
  have mI2 := h0.keep h.mI i4
  have hw3 := wrote_cell (o := 0) vI' mI2
  generalize hw : w2.setCell ⟨gI, 0, none⟩ vI' = w' at *
  have hB : Behind w (gI :: rowBlk e.vI) w' := (h0.mono (by simp; intro k hk; simp [hk])).wrote hw3 (.inl (by simp))
  have mI' : w'.heap[gI]? = some (.cells #[vI'] 41 (0, 0)) := by simpa using hw3.here
  have hni : gI ∉ rowBlk vI' := fun hm => (hI gI hm).elim i4 (fun e => by omega)
  have hrI : RowV (inW w') 30 1 vI' (s.ind.length + 1) (e.ind ++ [v]) := hr.keep (M := [gI]) ⟨hw3.os, hw3.tape, hw3.output, hw3.size, fun k hk hn => hw3.block k hk (by simpa using hn)⟩ (fun g hg hm => hni (by simp at hm; exact hm ▸ hg))
  refine ⟨{ e with vI := vI', ind := e.ind ++ [v] }, ?_⟩
  have hBM : Behind w (e.M gT gW gI) w' := hB.mono (by simp only [EncP.M, List.mem_cons, List.mem_append]; rintro k (rfl | hk); simp; simp [hk])
  have st : Step (e.M gT gW gI) w (EncP.M { e with vI := vI', ind := e.ind ++ [v] } gT gW gI) w' := by
    refine ⟨hBM, fun g hg => ?_⟩
    simp only [EncP.M, List.mem_cons, List.mem_append] at hg ⊢
    rcases hg with rfl | rfl | rfl | rfl | rfl | hg | hg
    · simp
    · simp
    · simp
    · simp
    · simp
    · simp [hg]
    · rcases hI g hg with hg | hg
      · simp [hg]
      · exact .inr (by omega)
  have nI : ∀ g, g < w.heap.size → g ∉ rowBlk e.vI → g ∉ rowBlk vI' := fun g hg hn hm => by rcases hI g hm with hm | hm; exact hn hm; omega
  have oO : ∀ g, g ≠ gI → g ∉ rowBlk e.vI → g ∉ gI :: rowBlk e.vI := fun g h1 h2 => by simp only [List.mem_cons, not_or]; exact ⟨h1, h2⟩
  have ndI : (rowBlk vI').Nodup := by
    cases vI' <;> simp [rowBlk]
    split <;> simp
  have ndL : (rowBlk e.vL).Nodup := (List.nodup_append.1 nd2).1
  have hcs := hc.step st
  refine ⟨⟨hB.keep h.mT (oO _ t2 t6), hB.keep h.mW (oO _ u1 u5), mI', h.rL.of (B' := inW w') (hB.keep h.rL.blk (oO _ (Ne.symm i1) l3)), h.rH.of (B' := inW w') (hB.keep h.rH.blk (oO _ (Ne.symm i2) j2)),
    h.rC.keep hB (fun g hg => oO _ (fun e => i3 (e ▸ hg)) (fun hm => (List.nodup_append.1 nd2).2.2 g hg g hm rfl)), by simpa [ESt.know] using hrI, h.lw, fun i v xs h1 h2 => ⟨(h.oC i v xs h1 h2).1.step st, fun g hg => ((h.oC i v xs h1 h2).1.step st).row.lt g hg⟩, fun i v' xs h1 h2 => ?_, fun g hg => (st.new g hg).elim (h.ge g) (fun e => by omega), ?_⟩, st, hcs⟩
  · have hlen : e.ind.length = s.ind.length := by simpa using h.rI.length
    rcases get_append_one h1 with k1 | ⟨e1, rfl⟩
    · rcases get_append_one h2 with k2 | ⟨e2, rfl⟩
      · exact ⟨(h.oI i v' xs k1 k2).1.step st, fun g hg => ((h.oI i v' xs k1 k2).1.step st).row.lt g hg⟩
      · rw [e2, ← hlen, List.getElem?_eq_none (Nat.le_refl _)] at k1; cases k1
    · rcases get_append_one h2 with k2 | ⟨_, rfl⟩
      · rw [e1, hlen, List.getElem?_eq_none (Nat.le_refl _)] at k2; cases k2
      · exact ⟨hcs, fun g hg => hcs.row.lt g hg⟩
  · simp only [EncP.M, List.nodup_cons, List.mem_cons, List.mem_append, not_or]
    refine ⟨⟨t1, t2, t3, t4, t5, nI gT lT t6⟩, ⟨u1, u2, u3, u4, nI gW lW u5⟩, ⟨i1, i2, i3, hni⟩, ⟨l1, l2, nI e.gL lL l3⟩, ⟨j1, nI e.gH lH j2⟩, ?_⟩
    refine List.nodup_append.2 ⟨ndL, ndI, fun x hx y hy hxy => ?_⟩
    subst hxy
    exact nI x (h.rC.lt x hx) (fun hm => (List.nodup_append.1 nd2).2.2 x hx x hm rfl) hy
end Go.Proofs.Ytbacloneddnaeaa
