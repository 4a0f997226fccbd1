/- Texts of this claim, joined: BGivS, BFew, BRefR. -/
import Derived.Test.YtbacloneddnaeaaJ28
import Derived.Test.YtbacloneddnaeaaJ03
import Derived.Test.YtbacloneddnaeaaJ30
import Derived.Test.YtbacloneddnaeaaJ21
import Derived.Test.YtbacloneddnaeaaJ27

/- The networks of the document in memory; what Given makes of them; appends of old memory. -/
namespace Go.Proofs.Ytbacloneddnaeaa
open Go.RowKit Go.Shelf Num

/-- A variable of the document's network: its number of values, its parents, the texts of its table. -/
structure RV where
  k : Int
  ps : List Int
  ts : List ByteArray

def strs (l : List ByteArray) : List Value := l.map Value.string
theorem strs_get {l : List ByteArray} {i : Nat} {s : ByteArray} (h : l[i]? = some s) : (strs l)[i]? = some (.string s) := by simp [strs, h]

def RefAt (N : Nat) (w : World) (a : Option Addr) (l : List RV) : Prop := ∀ i x, l[i]? = some x → ∃ b o pa pc ta tc, b < N ∧ a = some ⟨b, o, none⟩ ∧
  w.cell? ⟨b, o + i * 3, none⟩ = some (.int .i64 x.k) ∧ w.cell? ⟨b, o + i * 3 + 1, none⟩ = some (.slice pa x.ps.length pc) ∧ w.cell? ⟨b, o + i * 3 + 2, none⟩ = some (.slice ta x.ts.length tc) ∧
  AtN N w pa (ints x.ps) ∧ AtN N w ta (strs x.ts)
theorem RefAt.below {N M : Nat} {w w' : World} {a : Option Addr} {l : List RV} (h : RefAt N w a l) (hb : Below M w w') (hM : N ≤ M) : RefAt N w' a l := fun i x hi => by
  obtain ⟨b, o, pa, pc, ta, tc, h1, ha, h2, h3, h4, h5, h6⟩ := h i x hi
  exact ⟨b, o, pa, pc, ta, tc, h1, ha, below_cell hb (by omega) h2, below_cell hb (by omega) h3, below_cell hb (by omega) h4, h5.below hb hM, h6.below hb hM⟩

/-- The number that the program reads. -/
def rawOf (s : ByteArray) : Nat × Nat := (ratRead s).getD (0, 0)
def gvar (x : RV) : BV := { k := x.k, ps := x.ps, tab := x.ts.map rawOf }
def gnet (l : List RV) : List BV := l.map gvar

/-- Not too large. -/
structure Lit (l : List RV) : Prop where
  len : l.length ≤ 20
  ps : ∀ x ∈ l, x.ps.length ≤ 20
  ts : ∀ x ∈ l, x.ts.length ≤ 1000 ∧ ∀ s ∈ x.ts, s.size ≤ 9

/-- Values that lie in blocks other than these. -/
def OutN (M : List Nat) (w : World) (a : Option Addr) (xs : List Value) : Prop := ∀ i v, xs[i]? = some v → ∃ b o, b ∉ M ∧ a = some ⟨b, o, none⟩ ∧ w.cell? ⟨b, o + i, none⟩ = some v
theorem OutN.keep {M M' U : List Nat} {w w' : World} {a : Option Addr} {xs : List Value} (h : OutN M w a xs) (hb : Behind w U w') (hU : ∀ g ∈ U, g ∈ M ∨ w.heap.size ≤ g) (hM : ∀ g ∈ M', g ∈ M ∨ w.heap.size ≤ g) : OutN M' w' a xs := fun i v hi => by
  obtain ⟨b, o, h1, h2, h3⟩ := h i v hi
  have hl : b < w.heap.size := block_lt_of_cell h3
  refine ⟨b, o, fun hm => (hM b hm).elim h1 (fun e => by omega), h2, (World.cell?_of_block (a := ⟨b, o + i, none⟩) (hb.block b hl (fun hm => (hU b hm).elim h1 (fun e => by omega)))).trans h3⟩
theorem OutN.nil (M : List Nat) (w : World) (a : Option Addr) : OutN M w a [] := fun i v h => by simp at h
theorem OutN.row {E : TypeId} {size : Nat} {M : List Nat} {w : World} {v : Value} {n : Nat} {xs : List Value} (h : RowV (inW w) E size v n xs) (hM : ∀ g ∈ rowBlk v, g ∉ M) : ∃ a c, v = .slice a n c ∧ OutN M w a xs ∧ n ≤ c ∧ c ≤ maxLen := by
  cases h with
  | nil => exact ⟨none, 0, rfl, OutN.nil _ _ _, Nat.le_refl _, by simp [maxLen]⟩
  | @row g n cap xs cur h =>
    refine ⟨_, _, rfl, fun i u hi => ⟨g, 0, hM g (by simp [rowBlk]), rfl, ?_⟩, h.le, h.mx⟩
    rw [Nat.zero_add]
    refine blk_cell (show w.heap[g]? = _ from h.blk) i ?_
    have h2 := h.tk
    rw [← h2, List.getElem?_take] at hi
    split at hi
    · simpa using hi
    · cases hi

theorem behind_cell {w x : World} {Wr : List Nat} (h : Behind w Wr x) {b o : Nat} {v : Value} (hc : w.cell? ⟨b, o, none⟩ = some v) (hn : b ∉ Wr) : x.cell? ⟨b, o, none⟩ = some v :=
  (World.cell?_of_block (a := ⟨b, o, none⟩) (h.block b (block_lt_of_cell hc) hn)).trans hc

/-- What Given has made so far. -/
structure GAt (b : Nat) (ls : List BV) (v : Value) (cs : List Value) (w : World) : Prop where
  row : RowV (inW w) 78 3 v ls.length cs
  at' : ∀ (i : Nat) (x : BV), ls[i]? = some x → ∃ pa pc ta tc, cs[i * 3]? = some (.int .i64 x.k) ∧ cs[i * 3 + 1]? = some (.slice pa x.ps.length pc) ∧ cs[i * 3 + 2]? = some (.slice ta x.tab.length tc) ∧
    OutN (rowBlk v) w pa (ints x.ps) ∧ OutN (rowBlk v) w ta (rats x.tab) ∧ x.tab.length ≤ tc ∧ tc ≤ maxLen
  ge : ∀ g ∈ rowBlk v, b ≤ g
theorem GAt.nil (b : Nat) (w : World) : GAt b [] (.slice none 0 0) [] w := ⟨.nil, fun i x h => by simp at h, fun g hg => by simp [rowBlk] at hg⟩
theorem GAt.keep {b : Nat} {ls : List BV} {v : Value} {cs : List Value} {w w' : World} (h : GAt b ls v cs w) (hb : Behind w [] w') : GAt b ls v cs w' :=
  ⟨h.row.keep hb (by simp), fun i x hi => by
    obtain ⟨pa, pc, ta, tc, h1, h2, h3, h4, h5, h6⟩ := h.at' i x hi
    exact ⟨pa, pc, ta, tc, h1, h2, h3, h4.keep hb (by simp) (fun g hg => .inl hg), h5.keep hb (by simp) (fun g hg => .inl hg), h6⟩, h.ge⟩
theorem GAt.snoc {b : Nat} {ls : List BV} {v v' : Value} {cs : List Value} {w w' : World} {x : BV} {pa ta : Option Addr} {pc tc : Nat} (h : GAt b ls v cs w) (hr : RowV (inW w') 78 3 v' (ls.length + 1) (cs ++ [.int .i64 x.k, .slice pa x.ps.length pc, .slice ta x.tab.length tc]))
    (hb : Behind w (rowBlk v) w') (hn : ∀ g ∈ rowBlk v', g ∈ rowBlk v ∨ w.heap.size ≤ g) (hbs : b ≤ w.heap.size) (hp : OutN (rowBlk v) w pa (ints x.ps)) (ht : OutN (rowBlk v) w ta (rats x.tab)) (hc : x.tab.length ≤ tc ∧ tc ≤ maxLen) :
    GAt b (ls ++ [x]) v' (cs ++ [.int .i64 x.k, .slice pa x.ps.length pc, .slice ta x.tab.length tc]) w' := by
  have hl : cs.length = ls.length * 3 := h.row.length
  refine ⟨by rw [List.length_append]; exact hr, fun i y hi => ?_, fun g hg => (hn g hg).elim (h.ge g) (fun e => by omega)⟩
  rcases get_append_one hi with hi | ⟨rfl, rfl⟩
  · have hil := (List.getElem?_eq_some_iff.1 hi).1
    obtain ⟨pa', pc', ta', tc', h1, h2, h3, h4, h5, h6⟩ := h.at' i y hi
    refine ⟨pa', pc', ta', tc', ?_, ?_, ?_, h4.keep hb (fun g hg => .inl hg) hn, h5.keep hb (fun g hg => .inl hg) hn, h6⟩
    · rw [List.getElem?_append_left (by omega)]; exact h1
    · rw [List.getElem?_append_left (by omega)]; exact h2
    · rw [List.getElem?_append_left (by omega)]; exact h3
  · refine ⟨pa, pc, ta, tc, ?_, ?_, ?_, hp.keep hb (fun g hg => .inl hg) hn, ht.keep hb (fun g hg => .inl hg) hn, hc⟩
    · rw [← hl]; simp
    · rw [← hl, List.getElem?_append_right (by omega)]; simp
    · rw [← hl, List.getElem?_append_right (by omega)]; simp
/-- What is made is a network in memory. -/
theorem GAt.net {b : Nat} {ls : List BV} {a : Option Addr} {n c : Nat} {cs : List Value} {w : World} (h : GAt b ls (.slice a n c) cs w) : NetAt w.heap.size w a ls := by
  intro i x hi
  obtain ⟨pa, pc, ta, tc, h1, h2, h3, h4, h5, h6, h7⟩ := h.at' i x hi
  obtain ⟨a', c', hv, hO, _⟩ := OutN.row (M := []) h.row (by simp)
  simp only [Value.slice.injEq] at hv
  obtain ⟨rfl, _, rfl⟩ := hv
  obtain ⟨g, o, _, rfl, k1⟩ := hO _ _ h1
  obtain ⟨g2, o2, _, e2, k2⟩ := hO _ _ h2
  obtain ⟨g3, o3, _, e3, k3⟩ := hO _ _ h3
  cases e2; cases e3
  rw [← Nat.add_assoc] at k2 k3
  have hA : ∀ {a : Option Addr} {xs : List Value}, OutN (rowBlk (.slice (some ⟨g, o, none⟩) n c)) w a xs → AtN w.heap.size w a xs := fun h j u hj => by
    obtain ⟨g, o, _, e, k⟩ := h j u hj
    exact ⟨g, o, block_lt_of_cell k, e, k⟩
  exact ⟨g, o, pa, pc, ta, tc, block_lt_of_cell k1, rfl, k1, k2, k3, hA h4, hA h5, h6, h7⟩

section
variable {P : Program} {ops : Array Oper} {w : World} {Wr : List Nat}
/-- Old memory is appended to a new empty slice. -/
theorem lex_append_old {kd : Nat → Nat} {Q : Act → Blocks → Prop} {B : Blocks} {rest : List Oper} {k d : Nat} {ty : TypeId} {pos : String} {after : Array Edge} {a : Act} (s y : Operand) (t E : TypeId) (i : TypeInfo) (z : Value) (size bytes : Nat)
    (ht : P.underlying t = some (.slice E)) (hi : P.info? E = some i) (hz : i.zero = some z) (hsize : i.size = size) (hby : i.bytes = bytes) (hzs : z.cells.size = size)
    (g : Nat) (hs : a.eval s = .slice (some ⟨g, 0, none⟩) 0 0)
    (ad : Addr) (m c2 : Nat) (news : List Value) (hy : a.eval y = .slice (some ad) m c2) (hnews : ∀ x, Behind w Wr x → ∀ j u, news[j]? = some u → x.cell? (ad.add j) = some u) (hl : news.length = m * size) (h0 : 0 < m)
    (h63 : m ≤ maxLen) (hbytes : m * bytes ≤ 140737488355328) (hk : kd k = 5)
    (h : ∀ (g' cap' : Nat) (cur' : Array Value), RowB (B.put g' (.cells cur' E (0, 0))) E size g' m cap' news cur' → w.heap.size ≤ g' → B g' = none →
      setSlot P ops d ty pos (.slice (some ⟨g', 0, none⟩) m cap') (fun a' => wpLex P ops w Wr kd Q rest (k + 1) a' (B.put g' (.cells cur' E (0, 0)))) a) :
    wpLex P ops w Wr kd Q (⟨some d, .call { callee := .builtin .append, args := #[s, y], argTypes := #[t, t] }, ty, pos, after, none⟩ :: rest) k a B := by
  subst hsize hby
  have hexec : ∀ x r x', (Builtin.append_ #[t, t] ty #[.slice (some ⟨g, 0, none⟩) 0 0, .slice (some ad) m c2]).run P x = .ok r x' →
      (execOp a.eval ⟨some d, .call { callee := .builtin .append, args := #[s, y], argTypes := #[t, t] }, ty, pos, after, none⟩).run P x = .ok (.value r) x' := fun x r x' hr => by
    unfold execOp
    simp only [resolve, invoke, builtin, Sem.run_bind, Sem.run_pure, Result.andThen_ok, List.map_toArray, List.map_cons, List.map_nil, hs, hy, hr]
  have gs : GStep P ops w Wr ⟨some d, .call { callee := .builtin .append, args := #[s, y], argTypes := #[t, t] }, ty, pos, after, none⟩ a (kd k) B
      (fun v' B' => ∃ g' c, w.heap.size ≤ g' ∧ B g' = none ∧ (m ≤ c ∧ c ≤ maxLen) ∧ v' = .slice (some ⟨g', 0, none⟩) m c ∧ B' = B.put g' (.cells (news.toArray ++ Builtin.zeroCells z.cells (c - m)) E (0, 0))) := by
    rw [hk]
    refine .grow B (fun g' c => .slice (some ⟨g', 0, none⟩) m c) (fun c => .cells (news.toArray ++ Builtin.zeroCells z.cells (c - m)) E (0, 0)) _ ⟨m, Nat.le_refl _, h63⟩ rfl fun x hx hB => ?_
    have hr := run_append_grow (P := P) x t ty E i z ht hi hz ⟨g, 0, none⟩ 0 0 [] (by simp) (fun j v hj => by simp at hj) ad m c2 news hl (hnews x hx) (by omega) (by simp only [maxLen] at h63; omega) (growslice_fits (by omega) (by rw [Nat.zero_add]; exact hbytes))
    simp only [Nat.zero_add] at hr
    rw [hexec x _ _ hr]
    exact ⟨x.heap.size, _, Nat.le_refl _, ⟨by have := grownCap_ge x m 0 E; omega, grownCap_le_maxLen x m 0 E h63⟩, rfl, (Below.refl _ x).drew.alloc (by simp) _, by simpa using heap_alloc_new x.drew _⟩
  refine ⟨_, gs, fun v' B' hO => ?_⟩
  obtain ⟨g', c, e1, e2, ⟨e3, e4⟩, rfl, rfl⟩ := hO
  refine of_setSlot (h g' c _ ⟨Blocks.put_same _ _ _, e3, e4, ?_, ?_, hl⟩ e1 e2)
  · simp only [Array.size_append, List.size_toArray, size_zeroCells, hzs, hl, ← Nat.add_mul]
    congr 1
    omega
  · simp only [Array.toList_append]
    rw [← hl]
    exact List.take_left

/-- Nothing is appended. -/
theorem lex_append_none {kd : Nat → Nat} {Q : Act → Blocks → Prop} {B : Blocks} {rest : List Oper} {k d : Nat} {ty : TypeId} {pos : String} {after : Array Edge} {a : Act} (s y : Operand) (t E : TypeId) (i : TypeInfo)
    (ht : P.underlying t = some (.slice E)) (hi : P.info? E = some i) (g : Nat) (hs : a.eval s = .slice (some ⟨g, 0, none⟩) 0 0) (ao : Option Addr) (c2 : Nat) (hy : a.eval y = .slice ao 0 c2) (hk : kd k = 0)
    (h : setSlot P ops d ty pos (.slice (some ⟨g, 0, none⟩) 0 0) (fun a' => wpLex P ops w Wr kd Q rest (k + 1) a' B) a) :
    wpLex P ops w Wr kd Q (⟨some d, .call { callee := .builtin .append, args := #[s, y], argTypes := #[t, t] }, ty, pos, after, none⟩ :: rest) k a B := by
  have hr : ∀ x, (Builtin.append_ #[t, t] ty #[.slice (some ⟨g, 0, none⟩) 0 0, .slice ao 0 c2]).run P x = .ok (.slice (some ⟨g, 0, none⟩) 0 0) x := fun x => by
    cases ao <;> simp [Builtin.append_, run_underlying ht, sizeOf, typeInfo, hi, storeCells, loadCells, loadCellsFrom, Builtin.lenOf, Builtin.firstCells]
  have hexec : ∀ x, (execOp a.eval ⟨some d, .call { callee := .builtin .append, args := #[s, y], argTypes := #[t, t] }, ty, pos, after, none⟩).run P x = .ok (.value (.slice (some ⟨g, 0, none⟩) 0 0)) x := fun x => by
    unfold execOp
    simp only [resolve, invoke, builtin, Sem.run_bind, Sem.run_pure, Result.andThen_ok, List.map_toArray, List.map_cons, List.map_nil, hs, hy, hr]
  have gs : GStep P ops w Wr ⟨some d, .call { callee := .builtin .append, args := #[s, y], argTypes := #[t, t] }, ty, pos, after, none⟩ a (kd k) B (fun v' B' => v' = .slice (some ⟨g, 0, none⟩) 0 0 ∧ B' = B) := by
    rw [hk]
    refine .quiet B _ rfl (fun x hx => ?_)
    unfold Oper.quietAt
    rw [hexec x]
    exact ⟨rfl, rfl⟩
  refine ⟨_, gs, fun v' B' hO => ?_⟩
  obtain ⟨rfl, rfl⟩ := hO
  exact of_setSlot h

/-- Old memory, perhaps none of it, is appended to a new empty slice. -/
theorem lex_append_copy {kd : Nat → Nat} {Q : Act → Blocks → Prop} {B : Blocks} {rest : List Oper} {k d : Nat} {ty : TypeId} {pos : String} {after : Array Edge} {a : Act} (s y : Operand) (t E : TypeId) (i : TypeInfo) (z : Value) (size bytes : Nat)
    (ht : P.underlying t = some (.slice E)) (hi : P.info? E = some i) (hz : i.zero = some z) (hsize : i.size = size) (hby : i.bytes = bytes) (hzs : z.cells.size = size)
    (g : Nat) (hs : a.eval s = .slice (some ⟨g, 0, none⟩) 0 0)
    (ao : Option Addr) (m c2 : Nat) (news : List Value) (hy : a.eval y = .slice ao m c2) (hnews : ∀ x, Behind w Wr x → ∀ j u, news[j]? = some u → ∃ b o, ao = some ⟨b, o, none⟩ ∧ x.cell? ⟨b, o + j, none⟩ = some u) (hl : news.length = m * size) (hsz : 0 < size)
    (h63 : m ≤ maxLen) (hbytes : m * bytes ≤ 140737488355328) (hk : kd k = if m = 0 then 0 else 5)
    (h : ∀ (p : Option Addr) (c : Nat) (B' : Blocks), (∀ b o, B b = some o → B' b = some o) → (m = 0 ∨ ∃ g' cur', p = some ⟨g', 0, none⟩ ∧ RowB B' E size g' m c news cur' ∧ w.heap.size ≤ g' ∧ B g' = none) →
      setSlot P ops d ty pos (.slice p m c) (fun a' => wpLex P ops w Wr kd Q rest (k + 1) a' B') a) :
    wpLex P ops w Wr kd Q (⟨some d, .call { callee := .builtin .append, args := #[s, y], argTypes := #[t, t] }, ty, pos, after, none⟩ :: rest) k a B := by
  by_cases hm : m = 0
  · subst hm
    exact lex_append_none s y t E i ht hi g hs ao c2 hy (by simpa using hk) (h _ _ B (fun _ _ h => h) (.inl rfl))
  · have hm0 : 0 < m := by omega
    have hne : 0 < news.length := by rw [hl]; exact Nat.mul_pos hm0 hsz
    obtain ⟨b, o, rfl, _⟩ := hnews w (Behind.refl _ _) 0 news[0] (List.getElem?_eq_getElem hne)
    refine lex_append_old s y t E i z size bytes ht hi hz hsize hby hzs g hs ⟨b, o, none⟩ m c2 news hy (fun x hx j u hj => ?_) hl hm0 h63 hbytes (by simpa [hm] using hk) (fun g' c' cur' hr h1 h2 => ?_)
    · obtain ⟨b', o', e, hc⟩ := hnews x hx j u hj
      cases e
      rw [Addr.add_lit]; exact hc
    · refine h (some ⟨g', 0, none⟩) c' (B.put g' (.cells cur' E (0, 0))) (fun b o hb => ?_) (.inr ⟨g', cur', rfl, hr, h1, h2⟩)
      rw [Blocks.put_other _ _ (fun e => by rw [e, h2] at hb; cases hb)]
      exact hb
end
end Go.Proofs.Ytbacloneddnaeaa

/- censuslaw40.Few. -/
namespace Go.Proofs.Ytbacloneddnaeaa
open Go.RowKit Go.Shelf Num

def stepJ (j : Nat) (x : RV) : Nat := if 2 ≤ x.k ∧ x.k ≤ 8 then j * x.k.toNat else j
def fewJ (l : List RV) : Nat := l.foldl stepJ 1
def fewT (l : List RV) : Nat := l.foldl (fun n x => n + x.ts.length) 0
theorem fewJ_snoc (l : List RV) (x : RV) : fewJ (l ++ [x]) = stepJ (fewJ l) x := by simp [fewJ]
theorem fewT_snoc (l : List RV) (x : RV) : fewT (l ++ [x]) = fewT l + x.ts.length := by simp [fewT]

/-- What is looked at. -/
structure FewP (l : List RV) : Prop where
  len : l.length ≤ 20
  el : ∀ x ∈ l, x.ps.length ≤ 20 ∧ ∀ t ∈ x.ts, t.size ≤ 9
  j : fewJ l ≤ 300
  t : fewT l ≤ 300

set_option maxHeartbeats 3200000 in
set_option maxRecDepth 100000 in
theorem few_law (N : Nat) (l : List RV) (a : Option Addr) (c : Nat) (hts : ∀ x ∈ l, x.ts.length ≤ 20000000000000 ∧ x.ps.length ≤ 20000000000000) (hll : l.length ≤ 20000000000000) (w : World) (hN : RefAt N w a l) (hw : N ≤ w.heap.size) :
    Calls Try.prog 9 #[.slice a l.length c] w fun e w' => ∃ b : Bool, e = .returned (.bool b) ∧ (b = true → FewP l) ∧ Below w.heap.size w w' := by
  obtain ⟨R, hR⟩ : ∃ R : Ending → World → Prop, R = fun e w' => ∃ b : Bool, e = .returned (.bool b) ∧ (b = true → FewP l) ∧ Below w.heap.size w w' := ⟨_, rfl⟩
  rw [← hR]
  have HR := Lib.hid hR
  have HN := Lib.hid hN
  have HTS := Lib.hid hts
  clear hN hts hR
  by_cases h20 : 20 < l.length
  · go_enter Try.func9, Try.ntmps9
    go_wp2_with fail
    rw [HR.out]
    exact ⟨false, rfl, (fun h => by cases h), Below.refl _ _⟩
  have h20' : l.length ≤ 20 := by omega
  clear h20
  go_enter Try.func9, Try.ntmps9
  go_wp2_with fail
  go_loopw [3, 4, 5] (fun jt nt i wr => ∃ j J T : Nat, j ≤ l.length ∧ i = .int .i64 j ∧ jt = .int .i64 J ∧ nt = .int .i64 T ∧ J ≤ 300 ∧ T ≤ 300 ∧ Hid (J = fewJ (l.take j)) ∧ Hid (T = fewT (l.take j)) ∧ Hid (∀ x ∈ l.take j, x.ps.length ≤ 20 ∧ ∀ t ∈ x.ts, t.size ≤ 9) ∧ wr = w)
    (fun _ _ i _ => l.length - (intOf i).toNat)
  case atStart => exact ⟨0, 1, 0, Nat.zero_le _, rfl, rfl, rfl, by omega, by omega, rfl, rfl, by intro x hx; simp at hx, rfl⟩
  case round =>
    obtain ⟨j, J, T, hj, rfl, rfl, rfl, hJ, hT, HJ, HT, HE, rfl⟩ := hrel
    obtain ⟨w1, rfl⟩ : ∃ w1, w1 = wr := ⟨_, rfl⟩
    by_cases hlt : j < l.length
    · have hd : decide (j < l.length) = true := by simpa using hlt
      obtain ⟨x, hx⟩ : ∃ x, l[j]? = some x := ⟨_, List.getElem?_eq_getElem hlt⟩
      have HX := Lib.hid hx
      obtain ⟨htl, hpl⟩ := HTS.out x (List.mem_of_getElem? hx)
      obtain ⟨b, o, pa, pc, ta, tc, hb, rfl, n0, n1, n2, hpa, hta⟩ := HN.out j x hx
      have HTA := Lib.hid hta
      clear hx hpa hta
      obtain ⟨J', hJ'⟩ : ∃ J', J' = stepJ J x := ⟨_, rfl⟩
      have HJ' := Lib.hid hJ'
      have hJb : J' ≤ 2400 := by
        rw [hJ']
        unfold stepJ
        split
        · rename_i hk
          have := Nat.mul_le_mul hJ (show x.k.toNat ≤ 8 by omega)
          omega
        · omega
      by_cases hk2 : x.k < 2
      · have hJJ : J' = J := by rw [hJ']; unfold stepJ; rw [if_neg (by omega)]
        rw [hJJ] at HJ' hJb
        clear hJ'
        go_wp2_with fail
        go_loopw [6] (fun i w2 => ∃ m : Nat, m ≤ x.ts.length ∧ i = .int .i64 m ∧ Hid (∀ t ∈ x.ts.take m, t.size ≤ 9) ∧ w2 = w1)
          (fun i _ => x.ts.length - (intOf i).toNat)
        case atStart => exact ⟨0, Nat.zero_le _, rfl, by intro t ht; simp at ht, rfl⟩
        case round =>
          obtain ⟨m, hm, rfl, HM, rfl⟩ := hrel
          by_cases hmt : m < x.ts.length
          · obtain ⟨t, ht⟩ : ∃ t, x.ts[m]? = some t := ⟨_, List.getElem?_eq_getElem hmt⟩
            obtain ⟨tb, to, htb, rfl, kt⟩ := HTA.out _ _ (strs_get ht)
            have HT9 := Lib.hid ht
            clear ht
            by_cases h9 : 9 < t.size
            · go_wp2_with fail
              rw [HR.out]
              exact ⟨false, rfl, (fun h => by cases h), Below.refl _ _⟩
            · have h9' : t.size ≤ 9 := by omega
              have HM2 : Hid (∀ t ∈ x.ts.take (m + 1), t.size ≤ 9) := fun u hu => by
                rw [take_snoc_of HT9.out, List.mem_append] at hu
                rcases hu with hu | hu
                · exact HM.out u hu
                · rw [List.mem_singleton.1 hu]; exact h9'
              clear h9 HM
              go_wp2_with fail
              go_roundw
              case rel => exact ⟨m + 1, by omega, by go_num, HM2, trivial⟩
              case measure => simp [intOf]; omega
          · obtain rfl : m = x.ts.length := by omega
            have hTS := HM.out
            rw [List.take_length] at hTS
            have HTS2 := Lib.hid hTS
            clear hTS HM
            by_cases hJ3 : 300 < J
            · exact absurd hJ3 (by omega)
            have hJ3' : J ≤ 300 := by omega
            by_cases hT3 : 300 < T + x.ts.length
            · clear hJ3
              go_wp2_with fail
              rw [HR.out]
              exact ⟨false, rfl, (fun h => by cases h), Below.refl _ _⟩
            have hT3' : T + x.ts.length ≤ 300 := by omega
            by_cases hP3 : 20 < x.ps.length
            · clear hJ3 hT3
              go_wp2_with fail
              rw [HR.out]
              exact ⟨false, rfl, (fun h => by cases h), Below.refl _ _⟩
            have hP3' : x.ps.length ≤ 20 := by omega
            have HJ4 : Hid (J = fewJ (l.take (j + 1))) := by unfold Hid; rw [take_snoc_of HX.out, fewJ_snoc, ← HJ.out, ← HJ'.out]
            have HT4 : Hid (T + x.ts.length = fewT (l.take (j + 1))) := by unfold Hid; rw [take_snoc_of HX.out, fewT_snoc, ← HT.out]
            have HE4 : Hid (∀ x ∈ l.take (j + 1), x.ps.length ≤ 20 ∧ ∀ t ∈ x.ts, t.size ≤ 9) := fun y hy => by
              rw [take_snoc_of HX.out, List.mem_append] at hy
              rcases hy with hy | hy
              · exact HE.out y hy
              · rw [List.mem_singleton.1 hy]; exact ⟨hP3', HTS2.out⟩
            clear hJ3 hT3 hP3 HJ HT HE HJ' HTS2
            go_wp2_with fail
            go_roundw
            case rel => exact ⟨j + 1, J, T + x.ts.length, by omega, by go_num, rfl, by go_num, hJ3', hT3', HJ4, HT4, HE4, trivial⟩
            case measure => simp [intOf]; omega
      by_cases hk8 : 8 < x.k
      · have hJJ : J' = J := by rw [hJ']; unfold stepJ; rw [if_neg (by omega)]
        rw [hJJ] at HJ' hJb
        have hk2' : 2 ≤ x.k := by omega
        clear hJ' hk2
        go_wp2_with fail
        go_loopw [6] (fun i w2 => ∃ m : Nat, m ≤ x.ts.length ∧ i = .int .i64 m ∧ Hid (∀ t ∈ x.ts.take m, t.size ≤ 9) ∧ w2 = w1)
          (fun i _ => x.ts.length - (intOf i).toNat)
        case atStart => exact ⟨0, Nat.zero_le _, rfl, by intro t ht; simp at ht, rfl⟩
        case round =>
          obtain ⟨m, hm, rfl, HM, rfl⟩ := hrel
          by_cases hmt : m < x.ts.length
          · obtain ⟨t, ht⟩ : ∃ t, x.ts[m]? = some t := ⟨_, List.getElem?_eq_getElem hmt⟩
            obtain ⟨tb, to, htb, rfl, kt⟩ := HTA.out _ _ (strs_get ht)
            have HT9 := Lib.hid ht
            clear ht
            by_cases h9 : 9 < t.size
            · go_wp2_with fail
              rw [HR.out]
              exact ⟨false, rfl, (fun h => by cases h), Below.refl _ _⟩
            · have h9' : t.size ≤ 9 := by omega
              have HM2 : Hid (∀ t ∈ x.ts.take (m + 1), t.size ≤ 9) := fun u hu => by
                rw [take_snoc_of HT9.out, List.mem_append] at hu
                rcases hu with hu | hu
                · exact HM.out u hu
                · rw [List.mem_singleton.1 hu]; exact h9'
              clear h9 HM
              go_wp2_with fail
              go_roundw
              case rel => exact ⟨m + 1, by omega, by go_num, HM2, trivial⟩
              case measure => simp [intOf]; omega
          · obtain rfl : m = x.ts.length := by omega
            have hTS := HM.out
            rw [List.take_length] at hTS
            have HTS2 := Lib.hid hTS
            clear hTS HM
            by_cases hJ3 : 300 < J
            · exact absurd hJ3 (by omega)
            have hJ3' : J ≤ 300 := by omega
            by_cases hT3 : 300 < T + x.ts.length
            · clear hJ3
              go_wp2_with fail
              rw [HR.out]
              exact ⟨false, rfl, (fun h => by cases h), Below.refl _ _⟩
            have hT3' : T + x.ts.length ≤ 300 := by omega
            by_cases hP3 : 20 < x.ps.length
            · clear hJ3 hT3
              go_wp2_with fail
              rw [HR.out]
              exact ⟨false, rfl, (fun h => by cases h), Below.refl _ _⟩
            have hP3' : x.ps.length ≤ 20 := by omega
            have HJ4 : Hid (J = fewJ (l.take (j + 1))) := by unfold Hid; rw [take_snoc_of HX.out, fewJ_snoc, ← HJ.out, ← HJ'.out]
            have HT4 : Hid (T + x.ts.length = fewT (l.take (j + 1))) := by unfold Hid; rw [take_snoc_of HX.out, fewT_snoc, ← HT.out]
            have HE4 : Hid (∀ x ∈ l.take (j + 1), x.ps.length ≤ 20 ∧ ∀ t ∈ x.ts, t.size ≤ 9) := fun y hy => by
              rw [take_snoc_of HX.out, List.mem_append] at hy
              rcases hy with hy | hy
              · exact HE.out y hy
              · rw [List.mem_singleton.1 hy]; exact ⟨hP3', HTS2.out⟩
            clear hJ3 hT3 hP3 HJ HT HE HJ' HTS2
            go_wp2_with fail
            go_roundw
            case rel => exact ⟨j + 1, J, T + x.ts.length, by omega, by go_num, rfl, by go_num, hJ3', hT3', HJ4, HT4, HE4, trivial⟩
            case measure => simp [intOf]; omega
      · obtain ⟨kn, hkn⟩ : ∃ kn : Nat, x.k = kn := ⟨x.k.toNat, by omega⟩
        have hmul : (J : Int) * (kn : Int) = (J' : Int) := by
          rw [hJ']
          unfold stepJ
          rw [if_pos ⟨by omega, by omega⟩, hkn, Int.toNat_natCast, Int.natCast_mul]
        rw [hkn] at n0 hk2 hk8
        have hk2' : 2 ≤ kn := by omega
        have hk8' : kn ≤ 8 := by omega
        clear hk2 hk8 hJ' hkn
        go_wp2_with fail
        go_loopw [6] (fun i w2 => ∃ m : Nat, m ≤ x.ts.length ∧ i = .int .i64 m ∧ Hid (∀ t ∈ x.ts.take m, t.size ≤ 9) ∧ w2 = w1)
          (fun i _ => x.ts.length - (intOf i).toNat)
        case atStart => exact ⟨0, Nat.zero_le _, rfl, by intro t ht; simp at ht, rfl⟩
        case round =>
          obtain ⟨m, hm, rfl, HM, rfl⟩ := hrel
          by_cases hmt : m < x.ts.length
          · obtain ⟨t, ht⟩ : ∃ t, x.ts[m]? = some t := ⟨_, List.getElem?_eq_getElem hmt⟩
            obtain ⟨tb, to, htb, rfl, kt⟩ := HTA.out _ _ (strs_get ht)
            have HT9 := Lib.hid ht
            clear ht
            by_cases h9 : 9 < t.size
            · go_wp2_with fail
              rw [HR.out]
              exact ⟨false, rfl, (fun h => by cases h), Below.refl _ _⟩
            · have h9' : t.size ≤ 9 := by omega
              have HM2 : Hid (∀ t ∈ x.ts.take (m + 1), t.size ≤ 9) := fun u hu => by
                rw [take_snoc_of HT9.out, List.mem_append] at hu
                rcases hu with hu | hu
                · exact HM.out u hu
                · rw [List.mem_singleton.1 hu]; exact h9'
              clear h9 HM
              go_wp2_with fail
              go_roundw
              case rel => exact ⟨m + 1, by omega, by go_num, HM2, trivial⟩
              case measure => simp [intOf]; omega
          · obtain rfl : m = x.ts.length := by omega
            have hTS := HM.out
            rw [List.take_length] at hTS
            have HTS2 := Lib.hid hTS
            clear hTS HM
            by_cases hJ3 : 300 < J'
            · go_wp2_with fail
              rw [HR.out]
              exact ⟨false, rfl, (fun h => by cases h), Below.refl _ _⟩
            have hJ3' : J' ≤ 300 := by omega
            by_cases hT3 : 300 < T + x.ts.length
            · clear hJ3
              go_wp2_with fail
              rw [HR.out]
              exact ⟨false, rfl, (fun h => by cases h), Below.refl _ _⟩
            have hT3' : T + x.ts.length ≤ 300 := by omega
            by_cases hP3 : 20 < x.ps.length
            · clear hJ3 hT3
              go_wp2_with fail
              rw [HR.out]
              exact ⟨false, rfl, (fun h => by cases h), Below.refl _ _⟩
            have hP3' : x.ps.length ≤ 20 := by omega
            have HJ4 : Hid (J' = fewJ (l.take (j + 1))) := by unfold Hid; rw [take_snoc_of HX.out, fewJ_snoc, ← HJ.out, ← HJ'.out]
            have HT4 : Hid (T + x.ts.length = fewT (l.take (j + 1))) := by unfold Hid; rw [take_snoc_of HX.out, fewT_snoc, ← HT.out]
            have HE4 : Hid (∀ x ∈ l.take (j + 1), x.ps.length ≤ 20 ∧ ∀ t ∈ x.ts, t.size ≤ 9) := fun y hy => by
              rw [take_snoc_of HX.out, List.mem_append] at hy
              rcases hy with hy | hy
              · exact HE.out y hy
              · rw [List.mem_singleton.1 hy]; exact ⟨hP3', HTS2.out⟩
            clear hJ3 hT3 hP3 HJ HT HE HJ' HTS2
            go_wp2_with fail
            go_roundw
            case rel => exact ⟨j + 1, J', T + x.ts.length, by omega, by go_num, rfl, by go_num, hJ3', hT3', HJ4, HT4, HE4, trivial⟩
            case measure => simp [intOf]; omega
    · obtain rfl : j = l.length := by omega
      go_wp2_with fail
      rw [HR.out]
      refine ⟨true, rfl, fun _ => ⟨h20', ?_, ?_, ?_⟩, Below.refl _ _⟩
      · have h := HE.out; rwa [List.take_length] at h
      · have h := HJ.out; rw [List.take_length] at h; omega
      · have h := HT.out; rw [List.take_length] at h; omega
end Go.Proofs.Ytbacloneddnaeaa

/- censusref40.rows. -/
namespace Go.Proofs.Ytbacloneddnaeaa
open Go.RowKit Go.Shelf Num

/-- A variable's table has this many rows. -/
def Shape (l : List BV) (i : Nat) (x : RV) (r : Nat) : Prop := 2 ≤ x.k ∧ x.k ≤ 8 ∧ okPar l i x.ts.length x.ps none 1 = some r ∧ r * x.k.toNat = x.ts.length
/-- What is known ahead of parent j: the rows so far are n, or there are too many. -/
def Cum (l : List BV) (i : Nat) (x : RV) (j n : Nat) : Prop :=
  (n ≤ x.ts.length ∧ okPar l i x.ts.length x.ps none 1 = okPar l i x.ts.length (x.ps.drop j) (prevOf x.ps j) n) ∨ (x.ts.length < n ∧ ∀ r, ¬ Shape l i x r)

theorem okPar_pos {l : List BV} {i tn : Nat} (hk : ∀ (j : Nat) (y : BV), j < i → l[j]? = some y → 1 ≤ y.k ∧ y.k ≤ 8) (hi : i ≤ l.length) : ∀ (ps : List Int) (prev : Option Int) (r0 r : Nat), okPar l i tn ps prev r0 = some r → 1 ≤ r0 → 1 ≤ r
  | [], _, r0, r, h, h0 => by cases h; exact h0
  | p :: ps, prev, r0, r, h, h0 => by
    unfold okPar at h
    split at h
    · cases h
    · rename_i hc
      split at h
      · cases h
      · refine okPar_pos hk hi ps _ _ r h ?_
        have hp0 : 0 ≤ p := Int.not_lt.1 fun h => hc (.inl h)
        have hp1 : p < i := Int.not_le.1 fun h => hc (.inr (.inl h))
        obtain ⟨y, hy⟩ : ∃ y, l[p.toNat]? = some y := ⟨_, List.getElem?_eq_getElem (by omega)⟩
        have := hk p.toNat y (by omega) hy
        rw [kAt_of hy]
        exact Nat.mul_pos h0 (by omega)

theorem cum_start {l : List BV} {i : Nat} {x : RV} (hk : ∀ (j : Nat) (y : BV), j < i → l[j]? = some y → 1 ≤ y.k ∧ y.k ≤ 8) (hi : i ≤ l.length) : Cum l i x 0 1 := by
  by_cases h : 1 ≤ x.ts.length
  · exact .inl ⟨h, rfl⟩
  · refine .inr ⟨by omega, fun r hs => ?_⟩
    have h1 := okPar_pos hk hi _ _ _ r hs.2.2.1 (Nat.le_refl _)
    have h2 := Nat.mul_le_mul h1 (show 1 ≤ x.k.toNat by have := hs.1; omega)
    have := hs.2.2.2
    omega

/-- A parent that may not be. -/
theorem cum_bad {l : List BV} {i : Nat} {x : RV} {j n : Nat} {p : Int} (h : Cum l i x j n) (hp : x.ps[j]? = some p) (hb : p < 0 ∨ (i : Int) ≤ p ∨ (∃ q, prevOf x.ps j = some q ∧ p ≤ q)) : ∀ r, ¬ Shape l i x r := by
  rcases h with ⟨_, h⟩ | ⟨_, h⟩
  · intro r hs
    have h2 := okPar_step (l := l) (i := i) (tn := x.ts.length) (r := n) hp
    rw [if_pos hb] at h2
    rw [h2] at h
    have h3 := hs.2.2.1
    rw [h] at h3
    cases h3
  · exact h
/-- A parent more. -/
theorem cum_mul {l : List BV} {i : Nat} {x : RV} {j n : Nat} {p : Int} (h : Cum l i x j n) (hn : n ≤ x.ts.length) (hp : x.ps[j]? = some p) (hb : ¬ (p < 0 ∨ (i : Int) ≤ p ∨ (∃ q, prevOf x.ps j = some q ∧ p ≤ q))) : Cum l i x (j + 1) (n * kAt l p.toNat) := by
  rcases h with ⟨_, h⟩ | ⟨h1, _⟩
  · have h2 := okPar_step (l := l) (i := i) (tn := x.ts.length) (r := n) hp
    rw [if_neg hb, ← h] at h2
    by_cases hm : x.ts.length < n * kAt l p.toNat
    · rw [if_pos hm] at h2
      refine .inr ⟨hm, fun r hs => ?_⟩
      have h3 := hs.2.2.1
      rw [h2] at h3
      cases h3
    · rw [if_neg hm] at h2
      exact .inl ⟨by omega, h2⟩
  · omega
theorem cum_keep {l : List BV} {i : Nat} {x : RV} {j n : Nat} (h : Cum l i x j n) (hn : x.ts.length < n) : Cum l i x (j + 1) n := by
  rcases h with ⟨h1, _⟩ | h
  · omega
  · exact .inr h

theorem gnet_get {l : List RV} {i : Nat} {x : RV} (h : l[i]? = some x) : (gnet l)[i]? = some (gvar x) := by simp [gnet, h]

set_option maxHeartbeats 3200000 in
set_option maxRecDepth 100000 in
theorem rows_law (N : Nat) (l : List RV) (a : Option Addr) (c i : Nat) (x : RV) (hx : l[i]? = some x) (hP : Pre (gnet l) i) (hl : l.length ≤ 16) (htl : x.ts.length ≤ 1000) (hpl : x.ps.length ≤ 100000) (w : World) (hN : RefAt N w a l) (hw : N ≤ w.heap.size) :
    Calls Try.prog 34 #[.slice a l.length c, .int .i64 i] w fun e w' => ∃ v : Int, e = .returned (.int .i64 v) ∧ ((∃ r : Nat, v = r ∧ Shape (gnet l) i x r) ∨ (v = -1 ∧ ∀ r, ¬ Shape (gnet l) i x r)) ∧ Below w.heap.size w w' := by
  obtain ⟨R, hR⟩ : ∃ R : Ending → World → Prop, R = fun e w' => ∃ v : Int, e = .returned (.int .i64 v) ∧ ((∃ r : Nat, v = r ∧ Shape (gnet l) i x r) ∨ (v = -1 ∧ ∀ r, ¬ Shape (gnet l) i x r)) ∧ Below w.heap.size w w' := ⟨_, rfl⟩
  rw [← hR]
  have HR := Lib.hid hR
  clear hR
  have hi : i < l.length := (List.getElem?_eq_some_iff.1 hx).1
  have HX := Lib.hid hx
  have HN := Lib.hid hN
  have HP := Lib.hid hP
  obtain ⟨b, o, pa, pc, ta, tc, hb, rfl, c0, c1, c2, hpa, hta⟩ := hN i x hx
  have HPA := Lib.hid hpa
  have hbN := hb
  clear hx hN hP hpa hta
  by_cases hk2 : x.k < 2
  · go_enter Try.func34, Try.ntmps34
    go_wp2_with fail
    rw [HR.out]
    exact ⟨-1, rfl, .inr ⟨rfl, fun r h => by have := h.1; omega⟩, (Below.refl _ _).alloc (Nat.le_refl _) _⟩
  have hk2' : 2 ≤ x.k := by omega
  by_cases hk8 : 8 < x.k
  · clear hk2
    go_enter Try.func34, Try.ntmps34
    go_wp2_with fail
    rw [HR.out]
    exact ⟨-1, rfl, .inr ⟨rfl, fun r h => by have := h.2.1; omega⟩, (Below.refl _ _).alloc (Nat.le_refl _) _⟩
  have hk8' : x.k ≤ 8 := by omega
  obtain ⟨K, hK⟩ : ∃ K : Nat, x.k = K := ⟨x.k.toNat, by omega⟩
  have HK := Lib.hid hK
  rw [hK] at c0
  have hK2 : 2 ≤ K := by omega
  have hK8 : K ≤ 8 := by omega
  clear hk2 hk8 hk2' hk8' hK
  by_cases h16 : 16 < x.ps.length
  · go_enter Try.func34, Try.ntmps34
    go_wp2_with fail
    rw [HR.out]
    refine ⟨-1, rfl, .inr ⟨rfl, fun r h => ?_⟩, (Below.refl _ _).alloc (Nat.le_refl _) _⟩
    have := (okPar_spec _ _ _ _ _ _ _ h.2.2.1 (by intro q hq; cases hq)).2.1
    simp only [prevN] at this
    omega
  have h16' : x.ps.length ≤ 16 := by omega
  clear h16 hpl
  go_enter Try.func34, Try.ntmps34
  go_wp2_with fail
  refine wp_gen ?_
  intro w1 hw1
  have m5 : w1.heap[w.heap.size]? = some (.cells #[.int .i64 K, .slice pa x.ps.length pc, .slice ta x.ts.length tc] 62 (0, 0)) := by rw [hw1]; exact heap_alloc_new w _
  have hB1 : Below w.heap.size w w1 := by rw [hw1]; exact (Below.refl _ _).alloc (Nat.le_refl _) _
  have k0 := blk_cell m5 0 rfl
  have k1 := blk_cell m5 1 rfl
  have k2 := blk_cell m5 2 rfl
  have HB1 := Lib.hid hB1
  have HPA1 := Lib.hid (HPA.out.below hB1 hw)
  have HN1 := Lib.hid (HN.out.below hB1 hw)
  clear hw1 m5 hB1 c0 c1 c2 HN HPA
  go_loopw [6, 7] (fun n jv wr => ∃ j nn : Nat, j ≤ x.ps.length ∧ jv = .int .i64 j ∧ n = .int .i64 nn ∧ nn ≤ 8000 ∧ 1 ≤ nn ∧ Hid (Cum (gnet l) i x j nn) ∧ wr = w1)
    (fun _ j _ => x.ps.length - (intOf j).toNat)
  case atStart => exact ⟨0, 1, Nat.zero_le _, rfl, rfl, by omega, by omega, cum_start (fun j y hj hy => HP.out.kb j y hj hy) (by simp [gnet]; omega), rfl⟩
  case round =>
    obtain ⟨j, nn, hj, rfl, rfl, hn8, hn1, HC, rfl⟩ := hrel
    by_cases hlt : j < x.ps.length
    · have hd : decide (j < x.ps.length) = true := by simpa using hlt
      obtain ⟨p, hp⟩ : ∃ p, x.ps[j]? = some p := ⟨_, List.getElem?_eq_getElem hlt⟩
      have HPJ := Lib.hid hp
      obtain ⟨pb, po, hpb, rfl, e1⟩ := HPA1.out j _ (ints_get _ _ _ hp)
      have hbad := fun h => cum_bad HC.out hp h
      have HBAD := Lib.hid hbad
      clear hp hbad
      by_cases hp0 : p < 0
      · have HF := HBAD.out (.inl hp0)
        have HF2 := Lib.hid HF
        clear HF
        go_wp2_with fail
        rw [HR.out]
        exact ⟨-1, rfl, .inr ⟨rfl, HF2.out⟩, HB1.out⟩
      have hp0' : 0 ≤ p := by omega
      by_cases hpi : (i : Int) ≤ p
      · have HF2 := Lib.hid (HBAD.out (.inr (.inl hpi)))
        clear hp0
        go_wp2_with fail
        rw [HR.out]
        exact ⟨-1, rfl, .inr ⟨rfl, HF2.out⟩, HB1.out⟩
      have hpi' : p < (i : Int) := by omega
      obtain ⟨pn, rfl⟩ : ∃ pn : Nat, p = pn := ⟨p.toNat, by omega⟩
      have hpn : pn < i := by omega
      obtain ⟨y, hy⟩ : ∃ y, l[pn]? = some y := ⟨_, List.getElem?_eq_getElem (by omega)⟩
      obtain ⟨hy1, hy8⟩ := HP.out.kb pn (gvar y) hpn (gnet_get hy)
      obtain ⟨Y, hY⟩ : ∃ Y : Nat, y.k = Y := ⟨y.k.toNat, by simp [gvar] at hy1; omega⟩
      have hY1 : 1 ≤ Y := by simp [gvar] at hy1; omega
      have hY8 : Y ≤ 8 := by simp [gvar] at hy8; omega
      have hkY : kAt (gnet l) pn = Y := by rw [kAt_of (gnet_get hy)]; simp [gvar, hY]
      obtain ⟨_, _, _, _, _, _, _, e2, e3, _⟩ := HN1.out pn y hy
      cases e2
      rw [hY] at e3
      have hpnl : pn < l.length := by omega
      have HKY := Lib.hid hkY
      clear hy hy1 hy8 hY hkY hp0 hpi hp0' hpi'
      have hn1' : ¬ (pn : Int) < 0 := by omega
      have hn2' : ¬ (i : Int) ≤ pn := by omega
      by_cases hj0 : j = 0
      · have hg0 : decide (0 < j) = false := by simp; omega
        have hg1 : j ≤ 0 := by omega
        have HNB : Hid (¬ ((pn : Int) < 0 ∨ (i : Int) ≤ pn ∨ (∃ q, prevOf x.ps j = some q ∧ (pn : Int) ≤ q))) := fun h => h.elim hn1' fun h => h.elim hn2' fun ⟨q, h, _⟩ => by rw [hj0] at h; cases h
        clear hj0 hn1' hn2'
        by_cases hnt : nn ≤ x.ts.length
        · have hm := Nat.mul_le_mul (show nn ≤ 1000 by omega) hY8
          obtain ⟨hm2, hm3⟩ := mulI (A := nn) (K := Y) (by omega)
          have HC2 := Lib.hid (cum_mul HC.out hnt HPJ.out HNB.out)
          rw [Int.toNat_natCast, HKY.out] at HC2
          have hY3 : 1 ≤ nn * Y := Nat.mul_le_mul hn1 hY1
          clear HC HBAD HNB
          go_wp2_with fail
          go_roundw
          case rel => exact ⟨j + 1, nn * Y, by omega, by go_num, by rw [Int.natCast_mul], by omega, hY3, HC2, trivial⟩
          case measure => simp [intOf]; omega
        · have HC2 := Lib.hid (cum_keep HC.out (by omega))
          have hnt2 : x.ts.length < nn := by omega
          clear HC HBAD HNB hnt
          go_wp2_with fail
          go_roundw
          case rel => exact ⟨j + 1, nn, by omega, by go_num, rfl, hn8, hn1, HC2, trivial⟩
          case measure => simp [intOf]; omega
      · obtain ⟨q, hq⟩ : ∃ q, x.ps[j - 1]? = some q := ⟨_, List.getElem?_eq_getElem (by omega)⟩
        have hpr : prevOf x.ps j = some q := by
          cases j with
          | zero => exact absurd rfl hj0
          | succ j => simpa [prevOf] using hq
        obtain ⟨pb', po', _, he, e4⟩ := HPA1.out (j - 1) _ (ints_get _ _ _ hq)
        cases he
        have hg0 : decide (0 < j) = true := by simp; omega
        have hg1 : 0 < j := by omega
        have HPR := Lib.hid hpr
        clear hq hpr hj0
        by_cases hle : (pn : Int) ≤ q
        · have HF2 := Lib.hid (HBAD.out (.inr (.inr ⟨q, HPR.out, hle⟩)))
          clear hn1' hn2' HBAD
          go_wp2_with fail
          rw [HR.out]
          exact ⟨-1, rfl, .inr ⟨rfl, HF2.out⟩, HB1.out⟩
        · have hle2 : q < (pn : Int) := by omega
          have HNB : Hid (¬ ((pn : Int) < 0 ∨ (i : Int) ≤ pn ∨ (∃ q, prevOf x.ps j = some q ∧ (pn : Int) ≤ q))) := fun h => h.elim hn1' fun h => h.elim hn2' fun ⟨q', h, h2⟩ => by rw [HPR.out] at h; cases h; exact hle h2
          clear hle hn1' hn2'
          by_cases hnt : nn ≤ x.ts.length
          · have hm := Nat.mul_le_mul (show nn ≤ 1000 by omega) hY8
            obtain ⟨hm2, hm3⟩ := mulI (A := nn) (K := Y) (by omega)
            have HC2 := Lib.hid (cum_mul HC.out hnt HPJ.out HNB.out)
            rw [Int.toNat_natCast, HKY.out] at HC2
            have hY3 : 1 ≤ nn * Y := Nat.mul_le_mul hn1 hY1
            clear HC HBAD HNB
            go_wp2_with fail
            go_roundw
            case rel => exact ⟨j + 1, nn * Y, by omega, by go_num, by rw [Int.natCast_mul], by omega, hY3, HC2, trivial⟩
            case measure => simp [intOf]; omega
          · have HC2 := Lib.hid (cum_keep HC.out (by omega))
            have hnt2 : x.ts.length < nn := by omega
            clear HC HBAD HNB hnt
            go_wp2_with fail
            go_roundw
            case rel => exact ⟨j + 1, nn, by omega, by go_num, rfl, hn8, hn1, HC2, trivial⟩
            case measure => simp [intOf]; omega
    · obtain rfl : j = x.ps.length := by omega
      by_cases hnt : x.ts.length < nn
      · have HF : Hid (∀ r, ¬ Shape (gnet l) i x r) := by
          rcases HC.out with ⟨h, _⟩ | ⟨_, h⟩
          · omega
          · exact h
        clear HC
        go_wp2_with fail
        rw [HR.out]
        exact ⟨-1, rfl, .inr ⟨rfl, HF.out⟩, HB1.out⟩
      · have hnt' : nn ≤ x.ts.length := by omega
        have HO : Hid (okPar (gnet l) i x.ts.length x.ps none 1 = some nn) := by
          rcases HC.out with ⟨_, h⟩ | ⟨h, _⟩
          · rw [List.drop_of_length_le (Nat.le_refl _)] at h; exact h
          · omega
        have hm := Nat.mul_le_mul (show nn ≤ 1000 by omega) hK8
        obtain ⟨hm2, hm3⟩ := mulI (A := nn) (K := K) (by omega)
        clear HC hnt
        by_cases he : nn * K = x.ts.length
        · have he1 := mulE he
          have he2 := mulE2 he
          go_wp2_with fail
          rw [HR.out]
          refine ⟨nn, rfl, .inl ⟨nn, rfl, ?_, ?_, HO.out, ?_⟩, HB1.out⟩
          · rw [HK.out]; omega
          · rw [HK.out]; omega
          · rw [HK.out, Int.toNat_natCast]; exact he
        · have he1 := mulN he
          have he2 := mulN2 he
          go_wp2_with fail
          rw [HR.out]
          refine ⟨-1, rfl, .inr ⟨rfl, fun r hs => ?_⟩, HB1.out⟩
          have h1 := hs.2.2.1
          rw [HO.out] at h1
          cases h1
          have h2 := hs.2.2.2
          rw [HK.out, Int.toNat_natCast] at h2
          exact he h2
end Go.Proofs.Ytbacloneddnaeaa
