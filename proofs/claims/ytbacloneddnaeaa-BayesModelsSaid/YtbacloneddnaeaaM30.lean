/- Texts of this claim, joined: BGivS, BFew, BGiven. -/
import Derived.Test.YtbacloneddnaeaaM27
import Derived.Test.YtbacloneddnaeaaM03
import Derived.Test.YtbacloneddnaeaaM29

/- The networks of the document in memory; what Given makes of them; appends of old memory. -/
namespace Go.Proofs.Ytbacloneddnaeaa
open Go.RowKit Go.Shelf Num

structure RV where
  k : Int
  ps : List Int
  ts : List ByteArray

def strs (l : List ByteArray) : List Value := l.map Value.string
theorem strs_get {l : List ByteArray} {i : Nat} {s : ByteArray} (h : l[i]? = some s) : (strs l)[i]? = some (.string s) := by simp [strs, h]

def RefAt (N : Nat) (w : World) (a : Option Addr) (l : List RV) : Prop := ∀ i x, l[i]? = some x → ∃ b o pa pc ta tc, b < N ∧ a = some ⟨b, o, none⟩ ∧
  w.cell? ⟨b, o + i * 3, none⟩ = some (.int .i64 x.k) ∧ w.cell? ⟨b, o + i * 3 + 1, none⟩ = some (.slice pa x.ps.length pc) ∧ w.cell? ⟨b, o + i * 3 + 2, none⟩ = some (.slice ta x.ts.length tc) ∧
  AtN N w pa (ints x.ps) ∧ AtN N w ta (strs x.ts)
theorem RefAt.below {N M : Nat} {w w' : World} {a : Option Addr} {l : List RV} (h : RefAt N w a l) (hb : Below M w w') (hM : N ≤ M) : RefAt N w' a l := fun i x hi => by
  obtain ⟨b, o, pa, pc, ta, tc, h1, ha, h2, h3, h4, h5, h6⟩ := h i x hi
  exact ⟨b, o, pa, pc, ta, tc, h1, ha, below_cell hb (by omega) h2, below_cell hb (by omega) h3, below_cell hb (by omega) h4, h5.below hb hM, h6.below hb hM⟩

def rawOf (s : ByteArray) : Nat × Nat := (ratRead s).getD (0, 0)
def gvar (x : RV) : BV := { k := x.k, ps := x.ps, tab := x.ts.map rawOf }
def gnet (l : List RV) : List BV := l.map gvar

structure Lit (l : List RV) : Prop where
  len : l.length ≤ 20
  ps : ∀ x ∈ l, x.ps.length ≤ 20
  ts : ∀ x ∈ l, x.ts.length ≤ 1000 ∧ ∀ s ∈ x.ts, s.size ≤ 9

def OutN (M : List Nat) (w : World) (a : Option Addr) (xs : List Value) : Prop := ∀ i v, xs[i]? = some v → ∃ b o, b ∉ M ∧ a = some ⟨b, o, none⟩ ∧ w.cell? ⟨b, o + i, none⟩ = some v
theorem OutN.keep {M M' U : List Nat} {w w' : World} {a : Option Addr} {xs : List Value} (h : OutN M w a xs) (hb : Behind w U w') (hU : ∀ g ∈ U, g ∈ M ∨ w.heap.size ≤ g) (hM : ∀ g ∈ M', g ∈ M ∨ w.heap.size ≤ g) : OutN M' w' a xs := fun i v hi => by
  obtain ⟨b, o, h1, h2, h3⟩ := h i v hi
  have hl : b < w.heap.size := block_lt_of_cell h3
  refine ⟨b, o, fun hm => (hM b hm).elim h1 (fun e => by omega), h2, (World.cell?_of_block (a := ⟨b, o + i, none⟩) (hb.block b hl (fun hm => (hU b hm).elim h1 (fun e => by omega)))).trans h3⟩
theorem OutN.nil (M : List Nat) (w : World) (a : Option Addr) : OutN M w a [] := fun i v h => by simp at h
theorem OutN.row {E : TypeId} {size : Nat} {M : List Nat} {w : World} {v : Value} {n : Nat} {xs : List Value} (h : RowV (inW w) E size v n xs) (hM : ∀ g ∈ rowBlk v, g ∉ M) : ∃ a c, v = .slice a n c ∧ OutN M w a xs ∧ n ≤ c ∧ c ≤ maxLen := by
  cases h with
  | nil => exact ⟨none, 0, rfl, OutN.nil _ _ _, Nat.le_refl _, by simp [maxLen]⟩
  | @row g n cap xs cur h =>
    refine ⟨_, _, rfl, fun i u hi => ⟨g, 0, hM g (by simp [rowBlk]), rfl, ?_⟩, h.le, h.mx⟩
    rw [Nat.zero_add]
    refine blk_cell (show w.heap[g]? = _ from h.blk) i ?_
    have h2 := h.tk
    rw [← h2, List.getElem?_take] at hi
    split at hi
    · simpa using hi
    · cases hi

theorem behind_cell {w x : World} {Wr : List Nat} (h : Behind w Wr x) {b o : Nat} {v : Value} (hc : w.cell? ⟨b, o, none⟩ = some v) (hn : b ∉ Wr) : x.cell? ⟨b, o, none⟩ = some v :=
  (World.cell?_of_block (a := ⟨b, o, none⟩) (h.block b (block_lt_of_cell hc) hn)).trans hc

structure GAt (b : Nat) (ls : List BV) (v : Value) (cs : List Value) (w : World) : Prop where
  row : RowV (inW w) 78 3 v ls.length cs
  at' : ∀ (i : Nat) (x : BV), ls[i]? = some x → ∃ pa pc ta tc, cs[i * 3]? = some (.int .i64 x.k) ∧ cs[i * 3 + 1]? = some (.slice pa x.ps.length pc) ∧ cs[i * 3 + 2]? = some (.slice ta x.tab.length tc) ∧
    OutN (rowBlk v) w pa (ints x.ps) ∧ OutN (rowBlk v) w ta (rats x.tab) ∧ x.tab.length ≤ tc ∧ tc ≤ maxLen
  ge : ∀ g ∈ rowBlk v, b ≤ g
theorem GAt.nil (b : Nat) (w : World) : GAt b [] (.slice none 0 0) [] w := ⟨.nil, fun i x h => by simp at h, fun g hg => by simp [rowBlk] at hg⟩
theorem GAt.keep {b : Nat} {ls : List BV} {v : Value} {cs : List Value} {w w' : World} (h : GAt b ls v cs w) (hb : Behind w [] w') : GAt b ls v cs w' :=
  ⟨h.row.keep hb (by simp), fun i x hi => by
    obtain ⟨pa, pc, ta, tc, h1, h2, h3, h4, h5, h6⟩ := h.at' i x hi
    exact ⟨pa, pc, ta, tc, h1, h2, h3, h4.keep hb (by simp) (fun g hg => .inl hg), h5.keep hb (by simp) (fun g hg => .inl hg), h6⟩, h.ge⟩
theorem GAt.snoc {b : Nat} {ls : List BV} {v v' : Value} {cs : List Value} {w w' : World} {x : BV} {pa ta : Option Addr} {pc tc : Nat} (h : GAt b ls v cs w) (hr : RowV (inW w') 78 3 v' (ls.length + 1) (cs ++ [.int .i64 x.k, .slice pa x.ps.length pc, .slice ta x.tab.length tc]))
    (hb : Behind w (rowBlk v) w') (hn : ∀ g ∈ rowBlk v', g ∈ rowBlk v ∨ w.heap.size ≤ g) (hbs : b ≤ w.heap.size) (hp : OutN (rowBlk v) w pa (ints x.ps)) (ht : OutN (rowBlk v) w ta (rats x.tab)) (hc : x.tab.length ≤ tc ∧ tc ≤ maxLen) :
    GAt b (ls ++ [x]) v' (cs ++ [.int .i64 x.k, .slice pa x.ps.length pc, .slice ta x.tab.length tc]) w' := by
  have hl : cs.length = ls.length * 3 := h.row.length
  refine ⟨by rw [List.length_append]; exact hr, fun i y hi => ?_, fun g hg => (hn g hg).elim (h.ge g) (fun e => by omega)⟩
  rcases get_append_one hi with hi | ⟨rfl, rfl⟩
  · have hil := (List.getElem?_eq_some_iff.1 hi).1
    obtain ⟨pa', pc', ta', tc', h1, h2, h3, h4, h5, h6⟩ := h.at' i y hi
    refine ⟨pa', pc', ta', tc', ?_, ?_, ?_, h4.keep hb (fun g hg => .inl hg) hn, h5.keep hb (fun g hg => .inl hg) hn, h6⟩
    · rw [List.getElem?_append_left (by omega)]; exact h1
    · rw [List.getElem?_append_left (by omega)]; exact h2
    · rw [List.getElem?_append_left (by omega)]; exact h3
  · refine ⟨pa, pc, ta, tc, ?_, ?_, ?_, hp.keep hb (fun g hg => .inl hg) hn, ht.keep hb (fun g hg => .inl hg) hn, hc⟩
    · rw [← hl]; simp
    · rw [← hl, List.getElem?_append_right (by omega)]; simp
    · rw [← hl, List.getElem?_append_right (by omega)]; simp
theorem GAt.net {b : Nat} {ls : List BV} {a : Option Addr} {n c : Nat} {cs : List Value} {w : World} (h : GAt b ls (.slice a n c) cs w) : NetAt w.heap.size w a ls := by
  intro i x hi
  obtain ⟨pa, pc, ta, tc, h1, h2, h3, h4, h5, h6, h7⟩ := h.at' i x hi
  obtain ⟨a', c', hv, hO, _⟩ := OutN.row (M := []) h.row (by simp)
  simp only [Value.slice.injEq] at hv
  obtain ⟨rfl, _, rfl⟩ := hv
  obtain ⟨g, o, _, rfl, k1⟩ := hO _ _ h1
  obtain ⟨g2, o2, _, e2, k2⟩ := hO _ _ h2
  obtain ⟨g3, o3, _, e3, k3⟩ := hO _ _ h3
  cases e2; cases e3
  rw [← Nat.add_assoc] at k2 k3
  have hA : ∀ {a : Option Addr} {xs : List Value}, OutN (rowBlk (.slice (some ⟨g, o, none⟩) n c)) w a xs → AtN w.heap.size w a xs := fun h j u hj => by
    obtain ⟨g, o, _, e, k⟩ := h j u hj
    exact ⟨g, o, block_lt_of_cell k, e, k⟩
  exact ⟨g, o, pa, pc, ta, tc, block_lt_of_cell k1, rfl, k1, k2, k3, hA h4, hA h5, h6, h7⟩

section
variable {P : Program} {ops : Array Oper} {w : World} {Wr : List Nat}
theorem lex_append_old {kd : Nat → Nat} {Q : Act → Blocks → Prop} {B : Blocks} {rest : List Oper} {k d : Nat} {ty : TypeId} {pos : String} {after : Array Edge} {a : Act} (s y : Operand) (t E : TypeId) (i : TypeInfo) (z : Value) (size bytes : Nat)
    (ht : P.underlying t = some (.slice E)) (hi : P.info? E = some i) (hz : i.zero = some z) (hsize : i.size = size) (hby : i.bytes = bytes) (hzs : z.cells.size = size)
    (g : Nat) (hs : a.eval s = .slice (some ⟨g, 0, none⟩) 0 0)
    (ad : Addr) (m c2 : Nat) (news : List Value) (hy : a.eval y = .slice (some ad) m c2) (hnews : ∀ x, Behind w Wr x → ∀ j u, news[j]? = some u → x.cell? (ad.add j) = some u) (hl : news.length = m * size) (h0 : 0 < m)
    (h63 : m ≤ maxLen) (hbytes : m * bytes ≤ 140737488355328) (hk : kd k = 5)
    (h : ∀ (g' cap' : Nat) (cur' : Array Value), RowB (B.put g' (.cells cur' E (0, 0))) E size g' m cap' news cur' → w.heap.size ≤ g' → B g' = none →
      setSlot P ops d ty pos (.slice (some ⟨g', 0, none⟩) m cap') (fun a' => wpLex P ops w Wr kd Q rest (k + 1) a' (B.put g' (.cells cur' E (0, 0)))) a) :
    wpLex P ops w Wr kd Q (⟨some d, .call { callee := .builtin .append, args := #[s, y], argTypes := #[t, t] }, ty, pos, after, none⟩ :: rest) k a B := by
  subst hsize hby
  have hexec : ∀ x r x', (Builtin.append_ #[t, t] ty #[.slice (some ⟨g, 0, none⟩) 0 0, .slice (some ad) m c2]).run P x = .ok r x' →
      (execOp a.eval ⟨some d, .call { callee := .builtin .append, args := #[s, y], argTypes := #[t, t] }, ty, pos, after, none⟩).run P x = .ok (.value r) x' := fun x r x' hr => by
    unfold execOp
    simp only [resolve, invoke, builtin, Sem.run_bind, Sem.run_pure, Result.andThen_ok, List.map_toArray, List.map_cons, List.map_nil, hs, hy, hr]
  have gs : GStep P ops w Wr ⟨some d, .call { callee := .builtin .append, args := #[s, y], argTypes := #[t, t] }, ty, pos, after, none⟩ a (kd k) B
      (fun v' B' => ∃ g' c, w.heap.size ≤ g' ∧ B g' = none ∧ (m ≤ c ∧ c ≤ maxLen) ∧ v' = .slice (some ⟨g', 0, none⟩) m c ∧ B' = B.put g' (.cells (news.toArray ++ Builtin.zeroCells z.cells (c - m)) E (0, 0))) := by
    rw [hk]
    refine .grow B (fun g' c => .slice (some ⟨g', 0, none⟩) m c) (fun c => .cells (news.toArray ++ Builtin.zeroCells z.cells (c - m)) E (0, 0)) _ ⟨m, Nat.le_refl _, h63⟩ rfl fun x hx hB => ?_
    have hr := run_append_grow (P := P) x t ty E i z ht hi hz ⟨g, 0, none⟩ 0 0 [] (by simp) (fun j v hj => by simp at hj) ad m c2 news hl (hnews x hx) (by omega) (by simp only [maxLen] at h63; omega) (growslice_fits (by omega) (by rw [Nat.zero_add]; exact hbytes))
    simp only [Nat.zero_add] at hr
    rw [hexec x _ _ hr]
    exact ⟨x.heap.size, _, Nat.le_refl _, ⟨by have := grownCap_ge x m 0 E; omega, grownCap_le_maxLen x m 0 E h63⟩, rfl, (Below.refl _ x).drew.alloc (by simp) _, by simpa using heap_alloc_new x.drew _⟩
  refine ⟨_, gs, fun v' B' hO => ?_⟩
  obtain ⟨g', c, e1, e2, ⟨e3, e4⟩, rfl, rfl⟩ := hO
  refine of_setSlot (h g' c _ ⟨Blocks.put_same _ _ _, e3, e4, ?_, ?_, hl⟩ e1 e2)
  · simp only [Array.size_append, List.size_toArray, size_zeroCells, hzs, hl, ← Nat.add_mul]
    congr 1
    omega
  · simp only [Array.toList_append]
    rw [← hl]
    exact List.take_left

theorem lex_append_none {kd : Nat → Nat} {Q : Act → Blocks → Prop} {B : Blocks} {rest : List Oper} {k d : Nat} {ty : TypeId} {pos : String} {after : Array Edge} {a : Act} (s y : Operand) (t E : TypeId) (i : TypeInfo)
    (ht : P.underlying t = some (.slice E)) (hi : P.info? E = some i) (g : Nat) (hs : a.eval s = .slice (some ⟨g, 0, none⟩) 0 0) (ao : Option Addr) (c2 : Nat) (hy : a.eval y = .slice ao 0 c2) (hk : kd k = 0)
    (h : setSlot P ops d ty pos (.slice (some ⟨g, 0, none⟩) 0 0) (fun a' => wpLex P ops w Wr kd Q rest (k + 1) a' B) a) :
    wpLex P ops w Wr kd Q (⟨some d, .call { callee := .builtin .append, args := #[s, y], argTypes := #[t, t] }, ty, pos, after, none⟩ :: rest) k a B := by
  have hr : ∀ x, (Builtin.append_ #[t, t] ty #[.slice (some ⟨g, 0, none⟩) 0 0, .slice ao 0 c2]).run P x = .ok (.slice (some ⟨g, 0, none⟩) 0 0) x := fun x => by
    cases ao <;> simp [Builtin.append_, run_underlying ht, sizeOf, typeInfo, hi, storeCells, loadCells, loadCellsFrom, Builtin.lenOf, Builtin.firstCells]
  have hexec : ∀ x, (execOp a.eval ⟨some d, .call { callee := .builtin .append, args := #[s, y], argTypes := #[t, t] }, ty, pos, after, none⟩).run P x = .ok (.value (.slice (some ⟨g, 0, none⟩) 0 0)) x := fun x => by
    unfold execOp
    simp only [resolve, invoke, builtin, Sem.run_bind, Sem.run_pure, Result.andThen_ok, List.map_toArray, List.map_cons, List.map_nil, hs, hy, hr]
  have gs : GStep P ops w Wr ⟨some d, .call { callee := .builtin .append, args := #[s, y], argTypes := #[t, t] }, ty, pos, after, none⟩ a (kd k) B (fun v' B' => v' = .slice (some ⟨g, 0, none⟩) 0 0 ∧ B' = B) := by
    rw [hk]
    refine .quiet B _ rfl (fun x hx => ?_)
    unfold Oper.quietAt
    rw [hexec x]
    exact ⟨rfl, rfl⟩
  refine ⟨_, gs, fun v' B' hO => ?_⟩
  obtain ⟨rfl, rfl⟩ := hO
  exact of_setSlot h

theorem lex_append_copy {kd : Nat → Nat} {Q : Act → Blocks → Prop} {B : Blocks} {rest : List Oper} {k d : Nat} {ty : TypeId} {pos : String} {after : Array Edge} {a : Act} (s y : Operand) (t E : TypeId) (i : TypeInfo) (z : Value) (size bytes : Nat)
    (ht : P.underlying t = some (.slice E)) (hi : P.info? E = some i) (hz : i.zero = some z) (hsize : i.size = size) (hby : i.bytes = bytes) (hzs : z.cells.size = size)
    (g : Nat) (hs : a.eval s = .slice (some ⟨g, 0, none⟩) 0 0)
    (ao : Option Addr) (m c2 : Nat) (news : List Value) (hy : a.eval y = .slice ao m c2) (hnews : ∀ x, Behind w Wr x → ∀ j u, news[j]? = some u → ∃ b o, ao = some ⟨b, o, none⟩ ∧ x.cell? ⟨b, o + j, none⟩ = some u) (hl : news.length = m * size) (hsz : 0 < size)
    (h63 : m ≤ maxLen) (hbytes : m * bytes ≤ 140737488355328) (hk : kd k = if m = 0 then 0 else 5)
    (h : ∀ (p : Option Addr) (c : Nat) (B' : Blocks), (∀ b o, B b = some o → B' b = some o) → (m = 0 ∨ ∃ g' cur', p = some ⟨g', 0, none⟩ ∧ RowB B' E size g' m c news cur' ∧ w.heap.size ≤ g' ∧ B g' = none) →
      setSlot P ops d ty pos (.slice p m c) (fun a' => wpLex P ops w Wr kd Q rest (k + 1) a' B') a) :
    wpLex P ops w Wr kd Q (⟨some d, .call { callee := .builtin .append, args := #[s, y], argTypes := #[t, t] }, ty, pos, after, none⟩ :: rest) k a B := by
  by_cases hm : m = 0
  · subst hm
    exact lex_append_none s y t E i ht hi g hs ao c2 hy (by simpa using hk) (h _ _ B (fun _ _ h => h) (.inl rfl))
  · have hm0 : 0 < m := by omega
    have hne : 0 < news.length := by rw [hl]; exact Nat.mul_pos hm0 hsz
    obtain ⟨b, o, rfl, _⟩ := hnews w (Behind.refl _ _) 0 news[0] (List.getElem?_eq_getElem hne)
    refine lex_append_old s y t E i z size bytes ht hi hz hsize hby hzs g hs ⟨b, o, none⟩ m c2 news hy (fun x hx j u hj => ?_) hl hm0 h63 hbytes (by simpa [hm] using hk) (fun g' c' cur' hr h1 h2 => ?_)
    · obtain ⟨b', o', e, hc⟩ := hnews x hx j u hj
      cases e
      rw [Addr.add_lit]; exact hc
    · refine h (some ⟨g', 0, none⟩) c' (B.put g' (.cells cur' E (0, 0))) (fun b o hb => ?_) (.inr ⟨g', cur', rfl, hr, h1, h2⟩)
      rw [Blocks.put_other _ _ (fun e => by rw [e, h2] at hb; cases hb)]
      exact hb
end
end Go.Proofs.Ytbacloneddnaeaa

/- censuslaw40.Few. -/
namespace Go.Proofs.Ytbacloneddnaeaa
open Go.RowKit Go.Shelf Num

def stepJ (j : Nat) (x : RV) : Nat := if 2 ≤ x.k ∧ x.k ≤ 8 then j * x.k.toNat else j
def fewJ (l : List RV) : Nat := l.foldl stepJ 1
def fewT (l : List RV) : Nat := l.foldl (fun n x => n + x.ts.length) 0
theorem fewJ_snoc (l : List RV) (x : RV) : fewJ (l ++ [x]) = stepJ (fewJ l) x := by simp [fewJ]
theorem fewT_snoc (l : List RV) (x : RV) : fewT (l ++ [x]) = fewT l + x.ts.length := by simp [fewT]

structure FewP (l : List RV) : Prop where
  len : l.length ≤ 20
  el : ∀ x ∈ l, x.ps.length ≤ 20 ∧ ∀ t ∈ x.ts, t.size ≤ 9
  j : fewJ l ≤ 300
  t : fewT l ≤ 300

set_option maxHeartbeats 3200000 in
set_option maxRecDepth 100000 in
theorem few_law (N : Nat) (l : List RV) (a : Option Addr) (c : Nat) (hts : ∀ x ∈ l, x.ts.length ≤ 20000000000000 ∧ x.ps.length ≤ 20000000000000) (hll : l.length ≤ 20000000000000) (w : World) (hN : RefAt N w a l) (hw : N ≤ w.heap.size) :
    Calls Try.prog 9 #[.slice a l.length c] w fun e w' => ∃ b : Bool, e = .returned (.bool b) ∧ (b = true → FewP l) ∧ Below w.heap.size w w' := by
  obtain ⟨R, hR⟩ : ∃ R : Ending → World → Prop, R = fun e w' => ∃ b : Bool, e = .returned (.bool b) ∧ (b = true → FewP l) ∧ Below w.heap.size w w' := ⟨_, rfl⟩
  rw [← hR]
  have HR := Lib.hid hR
  have HN := Lib.hid hN
  have HTS := Lib.hid hts
  clear hN hts hR
  by_cases h20 : 20 < l.length
  · go_enter Try.func9, Try.ntmps9
    go_wp2_with fail
    rw [HR.out]
    exact ⟨false, rfl, (fun h => by cases h), Below.refl _ _⟩
  have h20' : l.length ≤ 20 := by omega
  clear h20
  go_enter Try.func9, Try.ntmps9
  go_wp2_with fail
  go_loopw [3, 4, 5] (fun jt nt i wr => ∃ j J T : Nat, j ≤ l.length ∧ i = .int .i64 j ∧ jt = .int .i64 J ∧ nt = .int .i64 T ∧ J ≤ 300 ∧ T ≤ 300 ∧ Hid (J = fewJ (l.take j)) ∧ Hid (T = fewT (l.take j)) ∧ Hid (∀ x ∈ l.take j, x.ps.length ≤ 20 ∧ ∀ t ∈ x.ts, t.size ≤ 9) ∧ wr = w)
    (fun _ _ i _ => l.length - (intOf i).toNat)
  case atStart => exact ⟨0, 1, 0, Nat.zero_le _, rfl, rfl, rfl, by omega, by omega, rfl, rfl, by intro x hx; simp at hx, rfl⟩
  case round =>
    obtain ⟨j, J, T, hj, rfl, rfl, rfl, hJ, hT, HJ, HT, HE, rfl⟩ := hrel
    obtain ⟨w1, rfl⟩ : ∃ w1, w1 = wr := ⟨_, rfl⟩
    by_cases hlt : j < l.length
    · have hd : decide (j < l.length) = true := by simpa using hlt
      obtain ⟨x, hx⟩ : ∃ x, l[j]? = some x := ⟨_, List.getElem?_eq_getElem hlt⟩
      have HX := Lib.hid hx
      obtain ⟨htl, hpl⟩ := HTS.out x (List.mem_of_getElem? hx)
      obtain ⟨b, o, pa, pc, ta, tc, hb, rfl, n0, n1, n2, hpa, hta⟩ := HN.out j x hx
      have HTA := Lib.hid hta
      clear hx hpa hta
      obtain ⟨J', hJ'⟩ : ∃ J', J' = stepJ J x := ⟨_, rfl⟩
      have HJ' := Lib.hid hJ'
      have hJb : J' ≤ 2400 := by
        rw [hJ']
        unfold stepJ
        split
        · rename_i hk
          have := Nat.mul_le_mul hJ (show x.k.toNat ≤ 8 by omega)
          omega
        · omega
      by_cases hk2 : x.k < 2
      · have hJJ : J' = J := by rw [hJ']; unfold stepJ; rw [if_neg (by omega)]
        rw [hJJ] at HJ' hJb
        clear hJ'
        go_wp2_with fail
        go_loopw [6] (fun i w2 => ∃ m : Nat, m ≤ x.ts.length ∧ i = .int .i64 m ∧ Hid (∀ t ∈ x.ts.take m, t.size ≤ 9) ∧ w2 = w1)
          (fun i _ => x.ts.length - (intOf i).toNat)
        case atStart => exact ⟨0, Nat.zero_le _, rfl, by intro t ht; simp at ht, rfl⟩
        case round =>
          obtain ⟨m, hm, rfl, HM, rfl⟩ := hrel
          by_cases hmt : m < x.ts.length
          · obtain ⟨t, ht⟩ : ∃ t, x.ts[m]? = some t := ⟨_, List.getElem?_eq_getElem hmt⟩
            obtain ⟨tb, to, htb, rfl, kt⟩ := HTA.out _ _ (strs_get ht)
            have HT9 := Lib.hid ht
            clear ht
            by_cases h9 : 9 < t.size
            · go_wp2_with fail
              rw [HR.out]
              exact ⟨false, rfl, (fun h => by cases h), Below.refl _ _⟩
            · have h9' : t.size ≤ 9 := by omega
              have HM2 : Hid (∀ t ∈ x.ts.take (m + 1), t.size ≤ 9) := fun u hu => by
                rw [take_snoc_of HT9.out, List.mem_append] at hu
                rcases hu with hu | hu
                · exact HM.out u hu
                · rw [List.mem_singleton.1 hu]; exact h9'
              clear h9 HM
              go_wp2_with fail
              go_roundw
              case rel => exact ⟨m + 1, by omega, by go_num, HM2, trivial⟩
              case measure => simp [intOf]; omega
          · obtain rfl : m = x.ts.length := by omega
            have hTS := HM.out
            rw [List.take_length] at hTS
            have HTS2 := Lib.hid hTS
            clear hTS HM
            by_cases hJ3 : 300 < J
            · exact absurd hJ3 (by omega)
            have hJ3' : J ≤ 300 := by omega
            by_cases hT3 : 300 < T + x.ts.length
            · clear hJ3
              go_wp2_with fail
              rw [HR.out]
              exact ⟨false, rfl, (fun h => by cases h), Below.refl _ _⟩
            have hT3' : T + x.ts.length ≤ 300 := by omega
            by_cases hP3 : 20 < x.ps.length
            · clear hJ3 hT3
              go_wp2_with fail
              rw [HR.out]
              exact ⟨false, rfl, (fun h => by cases h), Below.refl _ _⟩
            have hP3' : x.ps.length ≤ 20 := by omega
            have HJ4 : Hid (J = fewJ (l.take (j + 1))) := by unfold Hid; rw [take_snoc_of HX.out, fewJ_snoc, ← HJ.out, ← HJ'.out]
            have HT4 : Hid (T + x.ts.length = fewT (l.take (j + 1))) := by unfold Hid; rw [take_snoc_of HX.out, fewT_snoc, ← HT.out]
            have HE4 : Hid (∀ x ∈ l.take (j + 1), x.ps.length ≤ 20 ∧ ∀ t ∈ x.ts, t.size ≤ 9) := fun y hy => by
              rw [take_snoc_of HX.out, List.mem_append] at hy
              rcases hy with hy | hy
              · exact HE.out y hy
              · rw [List.mem_singleton.1 hy]; exact ⟨hP3', HTS2.out⟩
            clear hJ3 hT3 hP3 HJ HT HE HJ' HTS2
            go_wp2_with fail
            go_roundw
            case rel => exact ⟨j + 1, J, T + x.ts.length, by omega, by go_num, rfl, by go_num, hJ3', hT3', HJ4, HT4, HE4, trivial⟩
            case measure => simp [intOf]; omega
      by_cases hk8 : 8 < x.k
      · have hJJ : J' = J := by rw [hJ']; unfold stepJ; rw [if_neg (by omega)]
        rw [hJJ] at HJ' hJb
        have hk2' : 2 ≤ x.k := by omega
        clear hJ' hk2
        go_wp2_with fail
        go_loopw [6] (fun i w2 => ∃ m : Nat, m ≤ x.ts.length ∧ i = .int .i64 m ∧ Hid (∀ t ∈ x.ts.take m, t.size ≤ 9) ∧ w2 = w1)
          (fun i _ => x.ts.length - (intOf i).toNat)
        case atStart => exact ⟨0, Nat.zero_le _, rfl, by intro t ht; simp at ht, rfl⟩
        case round =>
          obtain ⟨m, hm, rfl, HM, rfl⟩ := hrel
          by_cases hmt : m < x.ts.length
          · obtain ⟨t, ht⟩ : ∃ t, x.ts[m]? = some t := ⟨_, List.getElem?_eq_getElem hmt⟩
            obtain ⟨tb, to, htb, rfl, kt⟩ := HTA.out _ _ (strs_get ht)
            have HT9 := Lib.hid ht
            clear ht
            by_cases h9 : 9 < t.size
            · go_wp2_with fail
              rw [HR.out]
              exact ⟨false, rfl, (fun h => by cases h), Below.refl _ _⟩
            · have h9' : t.size ≤ 9 := by omega
              have HM2 : Hid (∀ t ∈ x.ts.take (m + 1), t.size ≤ 9) := fun u hu => by
                rw [take_snoc_of HT9.out, List.mem_append] at hu
                rcases hu with hu | hu
                · exact HM.out u hu
                · rw [List.mem_singleton.1 hu]; exact h9'
              clear h9 HM
              go_wp2_with fail
              go_roundw
              case rel => exact ⟨m + 1, by omega, by go_num, HM2, trivial⟩
              case measure => simp [intOf]; omega
          · obtain rfl : m = x.ts.length := by omega
            have hTS := HM.out
            rw [List.take_length] at hTS
            have HTS2 := Lib.hid hTS
            clear hTS HM
            by_cases hJ3 : 300 < J
            · exact absurd hJ3 (by omega)
            have hJ3' : J ≤ 300 := by omega
            by_cases hT3 : 300 < T + x.ts.length
            · clear hJ3
              go_wp2_with fail
              rw [HR.out]
              exact ⟨false, rfl, (fun h => by cases h), Below.refl _ _⟩
            have hT3' : T + x.ts.length ≤ 300 := by omega
            by_cases hP3 : 20 < x.ps.length
            · clear hJ3 hT3
              go_wp2_with fail
              rw [HR.out]
              exact ⟨false, rfl, (fun h => by cases h), Below.refl _ _⟩
            have hP3' : x.ps.length ≤ 20 := by omega
            have HJ4 : Hid (J = fewJ (l.take (j + 1))) := by unfold Hid; rw [take_snoc_of HX.out, fewJ_snoc, ← HJ.out, ← HJ'.out]
            have HT4 : Hid (T + x.ts.length = fewT (l.take (j + 1))) := by unfold Hid; rw [take_snoc_of HX.out, fewT_snoc, ← HT.out]
            have HE4 : Hid (∀ x ∈ l.take (j + 1), x.ps.length ≤ 20 ∧ ∀ t ∈ x.ts, t.size ≤ 9) := fun y hy => by
              rw [take_snoc_of HX.out, List.mem_append] at hy
              rcases hy with hy | hy
              · exact HE.out y hy
              · rw [List.mem_singleton.1 hy]; exact ⟨hP3', HTS2.out⟩
            clear hJ3 hT3 hP3 HJ HT HE HJ' HTS2
            go_wp2_with fail
            go_roundw
            case rel => exact ⟨j + 1, J, T + x.ts.length, by omega, by go_num, rfl, by go_num, hJ3', hT3', HJ4, HT4, HE4, trivial⟩
            case measure => simp [intOf]; omega
      · obtain ⟨kn, hkn⟩ : ∃ kn : Nat, x.k = kn := ⟨x.k.toNat, by omega⟩
        have hmul : (J : Int) * (kn : Int) = (J' : Int) := by
          rw [hJ']
          unfold stepJ
          rw [if_pos ⟨by omega, by omega⟩, hkn, Int.toNat_natCast, Int.natCast_mul]
        rw [hkn] at n0 hk2 hk8
        have hk2' : 2 ≤ kn := by omega
        have hk8' : kn ≤ 8 := by omega
        clear hk2 hk8 hJ' hkn
        go_wp2_with fail
        go_loopw [6] (fun i w2 => ∃ m : Nat, m ≤ x.ts.length ∧ i = .int .i64 m ∧ Hid (∀ t ∈ x.ts.take m, t.size ≤ 9) ∧ w2 = w1)
          (fun i _ => x.ts.length - (intOf i).toNat)
        case atStart => exact ⟨0, Nat.zero_le _, rfl, by intro t ht; simp at ht, rfl⟩
        case round =>
          obtain ⟨m, hm, rfl, HM, rfl⟩ := hrel
          by_cases hmt : m < x.ts.length
          · obtain ⟨t, ht⟩ : ∃ t, x.ts[m]? = some t := ⟨_, List.getElem?_eq_getElem hmt⟩
            obtain ⟨tb, to, htb, rfl, kt⟩ := HTA.out _ _ (strs_get ht)
            have HT9 := Lib.hid ht
            clear ht
            by_cases h9 : 9 < t.size
            · go_wp2_with fail
              rw [HR.out]
              exact ⟨false, rfl, (fun h => by cases h), Below.refl _ _⟩
            · have h9' : t.size ≤ 9 := by omega
              have HM2 : Hid (∀ t ∈ x.ts.take (m + 1), t.size ≤ 9) := fun u hu => by
                rw [take_snoc_of HT9.out, List.mem_append] at hu
                rcases hu with hu | hu
                · exact HM.out u hu
                · rw [List.mem_singleton.1 hu]; exact h9'
              clear h9 HM
              go_wp2_with fail
              go_roundw
              case rel => exact ⟨m + 1, by omega, by go_num, HM2, trivial⟩
              case measure => simp [intOf]; omega
          · obtain rfl : m = x.ts.length := by omega
            have hTS := HM.out
            rw [List.take_length] at hTS
            have HTS2 := Lib.hid hTS
            clear hTS HM
            by_cases hJ3 : 300 < J'
            · go_wp2_with fail
              rw [HR.out]
              exact ⟨false, rfl, (fun h => by cases h), Below.refl _ _⟩
            have hJ3' : J' ≤ 300 := by omega
            by_cases hT3 : 300 < T + x.ts.length
            · clear hJ3
              go_wp2_with fail
              rw [HR.out]
              exact ⟨false, rfl, (fun h => by cases h), Below.refl _ _⟩
            have hT3' : T + x.ts.length ≤ 300 := by omega
            by_cases hP3 : 20 < x.ps.length
            · clear hJ3 hT3
              go_wp2_with fail
              rw [HR.out]
              exact ⟨false, rfl, (fun h => by cases h), Below.refl _ _⟩
            have hP3' : x.ps.length ≤ 20 := by omega
            have HJ4 : Hid (J' = fewJ (l.take (j + 1))) := by unfold Hid; rw [take_snoc_of HX.out, fewJ_snoc, ← HJ.out, ← HJ'.out]
            have HT4 : Hid (T + x.ts.length = fewT (l.take (j + 1))) := by unfold Hid; rw [take_snoc_of HX.out, fewT_snoc, ← HT.out]
            have HE4 : Hid (∀ x ∈ l.take (j + 1), x.ps.length ≤ 20 ∧ ∀ t ∈ x.ts, t.size ≤ 9) := fun y hy => by
              rw [take_snoc_of HX.out, List.mem_append] at hy
              rcases hy with hy | hy
              · exact HE.out y hy
              · rw [List.mem_singleton.1 hy]; exact ⟨hP3', HTS2.out⟩
            clear hJ3 hT3 hP3 HJ HT HE HJ' HTS2
            go_wp2_with fail
            go_roundw
            case rel => exact ⟨j + 1, J', T + x.ts.length, by omega, by go_num, rfl, by go_num, hJ3', hT3', HJ4, HT4, HE4, trivial⟩
            case measure => simp [intOf]; omega
    · obtain rfl : j = l.length := by omega
      go_wp2_with fail
      rw [HR.out]
      refine ⟨true, rfl, fun _ => ⟨h20', ?_, ?_, ?_⟩, Below.refl _ _⟩
      · have h := HE.out; rwa [List.take_length] at h
      · have h := HJ.out; rw [List.take_length] at h; omega
      · have h := HT.out; rw [List.take_length] at h; omega
end Go.Proofs.Ytbacloneddnaeaa

/- censuslaw40.Given. -/
namespace Go.Proofs.Ytbacloneddnaeaa
open Go.RowKit Go.Shelf Num

theorem Try.infoVar : (Try.prog.info? 78).map (fun i => (i.zero, i.size, i.bytes)) = some (some (.agg #[.int .i64 0, .slice none 0 0, .slice none 0 0]), 3, 56) := by kernel_rfl

set_option maxHeartbeats 3200000 in
set_option maxRecDepth 100000 in
theorem given_law (N : Nat) (l : List RV) (a : Option Addr) (c : Nat) (hL : Lit l) (w : World) (hN : RefAt N w a l) (hw : N ≤ w.heap.size) (hM : ∃ m, w.cell? ⟨0, 0, none⟩ = some (.int .i64 m)) :
    Calls Try.prog 11 #[.slice a l.length c] w fun e w' => ∃ v cs, e = .returned v ∧ GAt w.heap.size (gnet l) v cs w' ∧ Below w.heap.size w w' := by
  have HN := Lib.hid hN
  have HW := Lib.hid hw
  have HM := Lib.hid hM
  have HL := Lib.hid hL
  have hl := hL.len
  obtain ⟨i0, ii, iz0, iz1, iz2⟩ := info_parts Try.infoInt
  obtain ⟨r0, ri, rz0, rz1, rz2⟩ := info_parts Try.infoRat2
  obtain ⟨v0, vi, vz0, vz1, vz2⟩ := info_parts Try.infoVar
  clear hN hw hM hL
  go_enter Try.func11, Try.ntmps11
  go_wp2_with fail
  go_loopw [3, 4] (fun v i wr => ∃ (j : Nat) (cs : List Value), j ≤ l.length ∧ i = .int .i64 j ∧ Hid (GAt w.heap.size (gnet (l.take j)) v cs wr) ∧ Hid (Below w.heap.size w wr))
    (fun _ i _ => l.length - (intOf i).toNat)
  case atStart => exact ⟨0, [], Nat.zero_le _, rfl, GAt.nil _ _, Below.refl _ _⟩
  case round =>
    obtain ⟨j, cs, hj, rfl, HG, HB⟩ := hrel
    by_cases hlt : j < l.length
    · have hd : decide (j < l.length) = true := by simpa using hlt
      obtain ⟨x, hx⟩ : ∃ x, l[j]? = some x := ⟨_, List.getElem?_eq_getElem hlt⟩
      have HX := Lib.hid hx
      have hxm := List.mem_of_getElem? hx
      have hps := HL.out.ps x hxm
      obtain ⟨hts, hss⟩ := HL.out.ts x hxm
      have HSS := Lib.hid hss
      obtain ⟨b, o, pa, pc, ta, tc, hb, rfl, n0, n1, n2, hpa, hta⟩ := (HN.out.below HB.out HW.out) j x hx
      have HPA := Lib.hid hpa
      have HTA := Lib.hid hta
      have N0 := Lib.hid n0
      have N1 := Lib.hid n1
      have N2 := Lib.hid n2
      have hwr : w.heap.size ≤ wr.heap.size := HB.out.size
      have hN := HW.out
      clear hx hpa hta hss n0 n1 n2
      go_wp2_with fail
      obtain ⟨k1, hk1⟩ : ∃ k1, k1 = if x.ps.length = 0 then 0 else 5 := ⟨_, rfl⟩
      have hk1' : k1 = 0 ∨ k1 = 5 := by rw [hk1]; split <;> simp
      have HK1 := Lib.hid hk1
      clear hk1
      refine wp_game [0, 0, 0, 0, 0, 3, 0, 0, 0, 0, 0, k1, 0, 3, 2] [] B0 fin_B0 (has_B0 _) (by kernel_rfl) (by rcases hk1' with h | h <;> rw [h] <;> kernel_rfl) ?_
      refine lex_quietE 5 (by kernel_rfl) (by rfl) ?_
      apply Exists.intro
      refine ⟨fun z hz => ?_, ?_⟩
      · have c0 := behind_cellp hz N0.out (by simp)
        clear hz
        simp only [List.take_succ_cons, List.take_zero]
        unfold Cx
        repeat (go_big_quiet_step (fail))
        exact wpQuiet_nil rfl
      simp only [List.drop_succ_cons, List.drop_zero]
      refine lex_slice 0 (.cells #[] 3) (by rfl) (fun x => by go_simp) (fun g20 q20 hn20 => ?_)
      unfold setSlot
      go_big_quiet_step (fail)
      refine wpQuiet_nil ?_
      refine lex_quietE 5 (by kernel_rfl) (by rfl) ?_
      apply Exists.intro
      refine ⟨fun z hz => ?_, ?_⟩
      · have c1 := behind_cellp hz N1.out (by simp)
        clear hz
        simp only [List.take_succ_cons, List.take_zero]
        unfold Cx
        repeat (go_big_quiet_step (fail))
        exact wpQuiet_nil rfl
      simp only [List.drop_succ_cons, List.drop_zero]
      refine lex_append_copy (.tmp 20) (.tmp 25) 30 3 i0 _ 1 8 Try.underlying30 ii iz0 iz1 iz2 (by rfl) g20 (by rfl) pa x.ps.length pc (ints x.ps) (by rfl) (fun z hz j u hj => ?_) (by simp [ints]) (by omega) (by unfold maxLen; omega) (by omega) HK1.out (fun pp pcp B1 hext hrow => ?_)
      · obtain ⟨b', o', hb', e', hc'⟩ := HPA.out j u hj
        exact ⟨b', o', e', (World.cell?_of_block (a := ⟨b', o' + j, none⟩) (hz.block b' (block_lt_of_cell hc') (by simp))).trans hc'⟩
      unfold setSlot
      go_big_quiet_step (fail)
      refine wpQuiet_nil ?_
      refine lex_quietE 1 (by kernel_rfl) (by rfl) ?_
      apply Exists.intro
      refine ⟨fun z hz => ?_, ?_⟩
      · clear hz
        simp only [List.take_succ_cons, List.take_zero]
        unfold Cx
        repeat (go_big_quiet_step (fail))
        exact wpQuiet_nil rfl
      simp only [List.drop_succ_cons, List.drop_zero]
      refine lex_alloc (.agg #[.int .i64 0, .slice none 0 0, .slice none 0 0]) (by rfl) (fun x => by kernel_rfl) (fun g5 q5 hn5 => ?_)
      unfold setSlot
      go_big_quiet_step (fail)
      refine wpQuiet_nil ?_
      refine lex_store_all g5 #[.int .i64 x.k, .slice pp x.ps.length pcp, .slice none 0 0] _ _ (by rfl) (by rfl) (by rfl) (Blocks.put_same _ _ _) (by rfl) (.inr q5) (by kernel_rfl) (by simp [Value.oneCell']) ?_
      refine lex_nil ?_
      intro x1 hx1 hH1
      have m5 := hH1 g5 _ (Blocks.put_same _ _ _)
      have hlv : ∀ g ∈ rowBlk u3, g < wr.heap.size := HG.out.row.lt
      have hPP : OutN (g5 :: rowBlk u3) x1 pp (ints x.ps) := by
        rcases hrow with h0 | ⟨g', cur', rfl, hr, hge, _⟩
        · rw [List.length_eq_zero_iff.1 h0]; exact OutN.nil _ _ _
        · have hb' := hr.blk
          have hne : g5 ≠ g' := fun e => by rw [← e, hn5] at hb'; cases hb'
          have hx' := hr.of (B' := inW x1) (hH1 g' _ ((Blocks.put_other _ _ (Ne.symm hne)).trans ((Blocks.put_other _ _ (Ne.symm hne)).trans hb')))
          obtain ⟨_, _, hv, hO, _⟩ := OutN.row (M := g5 :: rowBlk u3) (RowV.row hx') (by
            intro g hg
            have hg : g = g' := by simpa [rowBlk] using hg
            rw [hg, List.mem_cons, not_or]
            exact ⟨Ne.symm hne, fun hm => by have := hlv _ hm; omega⟩)
          simp only [Value.slice.injEq] at hv
          rw [hv.1]; exact hO
      have hl5 := lt_of_heap m5
      have M5 := Lib.hid m5
      have HX1 := Lib.hid hx1
      have HPP := Lib.hid hPP
      have HLV := Lib.hid hlv
      have hBx : Below w.heap.size w x1 := HB.out.trans (hx1.below.mono (by omega))
      have HBX := Lib.hid hBx
      have hn5v : g5 ∉ rowBlk u3 := fun hm => by have := hlv _ hm; omega
      clear m5 hH1 hrow hext hn5 hn20 hx1 hPP hlv hBx hd HK1 hk1'
      go_wp2_with fail
      obtain ⟨w1, rfl⟩ : ∃ w1, w1 = wr := ⟨_, rfl⟩
      go_loopw [6] (fun i w2 => ∃ (m : Nat) (vT : Value), m ≤ x.ts.length ∧ i = .int .i64 m ∧ Hid (w2.heap[g5]? = some (.cells #[.int .i64 x.k, .slice pp x.ps.length pcp, vT] 78 (0, 0))) ∧
        Hid (RowV (inW w2) 34 2 vT m (rats ((x.ts.map rawOf).take m))) ∧ Hid (∀ g ∈ rowBlk vT, x1.heap.size ≤ g) ∧ Hid (Behind x1 [g5] w2))
        (fun i _ => x.ts.length - (intOf i).toNat)
      case atStart => exact ⟨0, .slice none 0 0, Nat.zero_le _, rfl, M5.out, .nil, by intro g hg; simp [rowBlk] at hg, Behind.refl _ _⟩
      case round =>
        obtain ⟨m, vT, hm, rfl, H5, HR, HGE, HB2⟩ := hrel
        have hBW : Behind w1 [] wr := HX1.out.trans HB2.out (by intro k hk; have : k = g5 := by simpa using hk
                                                                right; omega)
        have HBW := Lib.hid hBW
        have d2 := behind_cell hBW N2.out (by simp)
        have hl5w := lt_of_heap H5.out
        clear hBW
        by_cases hmt : m < x.ts.length
        · have hd : decide (j < l.length) = true := by simpa using hlt
          obtain ⟨t, ht⟩ : ∃ t, x.ts[m]? = some t := ⟨_, List.getElem?_eq_getElem hmt⟩
          obtain ⟨tb, to, htb, rfl, kt⟩ := HTA.out _ _ (strs_get ht)
          have dt := behind_cell HBW.out kt (by simp)
          have hts9 := HSS.out t (List.mem_of_getElem? ht)
          have KR : GivesFrom w 33 #[.string t] (.tuple #[.agg #[.string (nb (rawOf t).1), .string (nb (rawOf t).2)], .bool (ratRead t).isSome]) := gRatRead w t (by omega) HM.out
          have HTM := Lib.hid ht
          have hbw2 : Below w.heap.size w wr := HB.out.trans (HBW.out.below.mono (by omega))
          have HBW2 := Lib.hid hbw2
          have hTk : Hid (rats ((x.ts.map rawOf).take (m + 1)) = rats ((x.ts.map rawOf).take m) ++ [.string (nb (rawOf t).1), .string (nb (rawOf t).2)]) := by
            unfold Hid
            rw [take_snoc_of (show (x.ts.map rawOf)[m]? = some (rawOf t) by simp [ht]), rats_append]; rfl
          generalize rawOf t = q at *
          generalize (ratRead t).isSome = bq at *
          clear ht kt hbw2
          go_wp2_with fail
          refine (KR _ HBW2.out).mono ?_
          rintro r3 w3 ⟨rfl, hB3⟩
          have hb3 := behind_of_below hB3
          have m53 := hb3.keep H5.out (by simp)
          have HR3 := Lib.hid (HR.out.keep hb3 (by simp))
          have HM53 := Lib.hid m53
          have HB3 := Lib.hid (HB2.out.trans hb3 (by simp))
          have c52 := blk_cell m53 2 rfl
          have hl53 := lt_of_heap m53
          have hx3 : x1.heap.size ≤ w3.heap.size := HB3.out.size
          clear hB3 hb3 m53 HR H5 HB2 KR
          go_wp2_with (at_builtin; refine wpList_append_row _ rfl _ _ 44 rfl 34 r0 _ 2 32 Try.underlying44 ri rz0 rz1 rz2 rfl _ _ _ rfl (HR3.out.keep (behind_of_below (((Below.refl _ _).alloc (Nat.le_refl _) _).alloc (by simp) _)) (by simp)) (w3.heap.size + 1) 1 1 [.string (nb q.1), .string (nb q.2)] 34 rfl (by have := heap_alloc_new (w3.alloc (Obj.cells #[.string (nb q.1), .string (nb q.2)] 34)) (Obj.cells #[.string (nb q.1), .string (nb q.2)] 34); simpa using this) rfl (by intro u hu; simp at hu; rcases hu with rfl | rfl <;> rfl) (by omega) (by unfold maxLen; omega) (by omega) ?_)
          intro v7 w7 hr7 hB7 hn7
          obtain ⟨p7, c7, rfl⟩ := hr7.slice
          rw [← hTk.out] at hr7
          have h37 : Behind w3 (rowBlk vT) w7 := ((behind_of_below (((Below.refl _ _).alloc (Nat.le_refl _) _).alloc (by simp) _)).mono (by simp)).trans hB7 (fun k hk => .inl hk)
          have hnv : g5 ∉ rowBlk vT := fun h => by have := HGE.out _ h; omega
          have m57 := h37.keep HM53.out hnv
          have f52 := blk_free m57 2
          have c52' := blk_cell m57 2 rfl
          have hw8 := wrote_cell (o := 2) (.slice p7 (m + 1) c7) m57
          have hn7' : ∀ g ∈ rowBlk (.slice p7 (m + 1) c7), x1.heap.size ≤ g ∧ g ≠ g5 := fun g hg => by
            rcases hn7 g hg with h | h
            · exact ⟨HGE.out g h, fun e => hnv (e ▸ h)⟩
            · first | omega | (simp at h; omega)
          have H8 := Lib.hid (show (w7.setCell ⟨g5, 2, none⟩ (.slice p7 (m + 1) c7)).heap[g5]? = some (.cells #[.int .i64 x.k, .slice pp x.ps.length pcp, .slice p7 (m + 1) c7] 78 (0, 0)) by simpa using hw8.here)
          have HB8 := Lib.hid ((HB3.out.trans h37 (fun g hg => .inr (HGE.out g hg))).wrote hw8 (.inl (by simp)))
          have HR8 := Lib.hid (hr7.keep (M := [g5]) ((Behind.refl w7 [g5]).wrote hw8 (.inl (by simp))) (fun g hg => by simpa using (hn7' g hg).2))
          have HGE8 := Lib.hid (fun g hg => (hn7' g hg).1)
          clear hr7 hB7 hn7 h37 m57 hw8 hn7' HM53 HR3 c52 dt d2
          go_wp2_with fail
          go_roundw
          case rel => exact ⟨m + 1, _, by omega, by go_num, H8, HR8, HGE8, HB8⟩
          case measure => simp [intOf]; omega
        · obtain rfl : m = x.ts.length := by omega
          have hd : decide (j < l.length) = true := by simpa using hlt
          have hRV := HR.out
          rw [List.take_of_length_le (by simp)] at hRV
          obtain ⟨pT, cT, rfl, hOT, hcT, hcT2⟩ := OutN.row (M := rowBlk u3) hRV (fun g hg hm => by have := HGE.out g hg; have := HLV.out g hm; have := HX1.out.size; omega)
          have HOT := Lib.hid hOT
          have HRV := Lib.hid hRV
          have c50 := blk_cell H5.out 0 rfl
          have c51 := blk_cell H5.out 1 rfl
          have c52 := blk_cell H5.out 2 rfl
          have hGW := HG.out.keep HBW.out
          have HGW := Lib.hid hGW
          have hPW := HPP.out.keep (M' := rowBlk u3) HB2.out (fun g hg => .inl (by simp at hg; simp [hg])) (fun g hg => .inl (by simp [hg]))
          have HPW := Lib.hid hPW
          have hgl : (gnet (l.take j)).length ≤ 20 := by simp [gnet]; omega
          have hsw : w.heap.size ≤ wr.heap.size := Nat.le_trans hwr HBW.out.size
          clear hOT hRV hGW hPW
          go_wp2_with (at_builtin; refine wpList_append_row _ rfl _ _ 26 rfl 78 v0 _ 3 56 Try.underlying26 vi vz0 vz1 vz2 rfl _ _ _ rfl (HGW.out.row.keep (behind_of_below ((Below.refl _ _).alloc (Nat.le_refl _) _)) (by simp)) wr.heap.size 1 1 [.int .i64 x.k, .slice pp x.ps.length pcp, .slice pT x.ts.length cT] 78 rfl (heap_alloc_new wr _) rfl (by intro u hu; simp at hu; rcases hu with rfl | rfl | rfl <;> rfl) (by omega) (by unfold maxLen; omega) (by omega) ?_)
          intro v9 w9 hr9 hB9 hn9
          have h09 : Behind wr (rowBlk u3) w9 := ((behind_of_below ((Below.refl _ _).alloc (Nat.le_refl _) _)).mono (by simp)).trans hB9 (fun k hk => .inl hk)
          have hG9 := GAt.snoc (x := gvar x) (pa := pp) (ta := pT) (pc := pcp) (tc := cT) HGW.out (by simpa [gvar] using hr9) h09 (fun g hg => (hn9 g hg).imp id (fun h => by first | omega | (simp at h; omega))) hsw HPW.out HOT.out ⟨by simpa [gvar] using hcT, hcT2⟩
          have hgs : gnet (l.take (j + 1)) = gnet (l.take j) ++ [gvar x] := by rw [take_snoc_of HX.out]; simp [gnet]
          rw [← hgs] at hG9
          have HG9 := Lib.hid hG9
          have HB9 := Lib.hid ((HB.out.trans (HBW.out.below.mono (by omega))).trans (h09.below_of HG.out.ge (by omega)))
          clear hG9 hr9 hB9 hn9 h09 c50 c51 c52 d2
          go_wp2_with fail
          go_roundw
          case rel => exact ⟨j + 1, _, by omega, by go_num, HG9, HB9⟩
          case measure => simp [intOf]; omega
    · obtain rfl : j = l.length := by omega
      have hG := HG.out
      rw [List.take_length] at hG
      have HG2 := Lib.hid hG
      clear hG HG
      go_wp2_with fail
      go_ret
      exact ⟨_, cs, rfl, HG2.out, HB.out⟩
end Go.Proofs.Ytbacloneddnaeaa
