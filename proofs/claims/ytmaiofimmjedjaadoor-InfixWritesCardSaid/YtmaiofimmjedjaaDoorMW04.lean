/- Texts of this claim, joined: KB, KG, JB. -/
import Derived.Test.YtmaiofimmjedjaaDoorChecked
import Derived.Test.YtmaiofimmjedjaaDoorMW03
import Derived.Lib.Hide
import Derived.Handy
import Derived.Deep.LoopGhost
import Derived.WalkLawsBesides
import Derived.WalkSpells

/- The ground for the chapter on sums: contracts, lists in memory, rows of one's own. -/
namespace Go.Proofs.YtmaiofimmjedjaaDoor
open Go.RowKit

def Gives (f : FuncId) (args : Array Value) (v : Value) : Prop := ∀ w : World, Calls Tryd.prog f args w fun e w' => e = .returned v ∧ Below w.heap.size w w'
theorem Gives.at {f : FuncId} {args : Array Value} {v : Value} (h : Gives f args v) (w : World) (p : Extra) : Calls Tryd.prog f args (plus w p) fun e w'' => e = .returned v ∧ ∃ q, w'' = plus w q := calls_plus (h _)
def GivesFrom (w : World) (f : FuncId) (args : Array Value) (v : Value) : Prop := ∀ w' : World, Below w.heap.size w w' → Calls Tryd.prog f args w' fun e w2 => e = .returned v ∧ Below w'.heap.size w' w2
theorem GivesFrom.at {w : World} {f : FuncId} {args : Array Value} {v : Value} (h : GivesFrom w f args v) (p : Extra) : Calls Tryd.prog f args (plus w p) fun e w'' => e = .returned v ∧ ∃ q, w'' = plus w q := calls_plus (h _ (below_plus w p))
theorem GivesFrom.at2 {w x : World} {f : FuncId} {args : Array Value} {v : Value} (h : GivesFrom w f args v) (hb : Below w.heap.size w x) (p : Extra) : Calls Tryd.prog f args (plus x p) fun e w'' => e = .returned v ∧ ∃ q, w'' = plus x q :=
  calls_plus (h _ (hb.trans ((below_plus x p).mono hb.size)))
def AtN (N : Nat) (w : World) (a : Option Addr) (xs : List Value) : Prop := ∀ i v, xs[i]? = some v → ∃ b o, b < N ∧ a = some ⟨b, o, none⟩ ∧ w.cell? ⟨b, o + i, none⟩ = some v
theorem AtN.below {N M : Nat} {w w' : World} {a : Option Addr} {xs : List Value} (h : AtN N w a xs) (hb : Below M w w') (hM : N ≤ M) : AtN N w' a xs := fun i v hi => by
  obtain ⟨b, o, h1, ha, hc⟩ := h i v hi
  exact ⟨b, o, h1, ha, below_cell hb (by omega) hc⟩
theorem AtN.mono {N M : Nat} {w : World} {a : Option Addr} {xs : List Value} (h : AtN N w a xs) (hM : N ≤ M) : AtN M w a xs := fun i v hi => by
  obtain ⟨b, o, h1, ha, hc⟩ := h i v hi
  exact ⟨b, o, by omega, ha, hc⟩
theorem AtN.base {N : Nat} {w : World} {a : Option Addr} {xs : List Value} (h : AtN N w a xs) (h0 : 0 < xs.length) : ∃ b o, b < N ∧ a = some ⟨b, o, none⟩ ∧ ∀ i v, xs[i]? = some v → w.cell? ⟨b, o + i, none⟩ = some v := by
  obtain ⟨b, o, h1, ha, _⟩ := h 0 xs[0] (List.getElem?_eq_getElem h0)
  refine ⟨b, o, h1, ha, fun i v hi => ?_⟩
  obtain ⟨b', o', _, ha', hc⟩ := h i v hi
  rw [ha] at ha'
  cases ha'
  exact hc
def inW (w : World) : Blocks := fun g => w.heap[g]?
theorem RowB.of {B B' : Blocks} {E : TypeId} {size g n cap : Nat} {xs : List Value} {cur : Array Value} (h : RowB B E size g n cap xs cur) (hb : B' g = some (.cells cur E (0, 0))) : RowB B' E size g n cap xs cur := ⟨hb, h.le, h.mx, h.sz, h.tk, h.len⟩
theorem behind_of_below {w x : World} (h : Below w.heap.size w x) : Behind w [] x := ⟨h.os, h.tape, h.output, h.size, fun k hk _ => h.block k hk⟩
theorem Behind.mono {w x : World} {Wr Wr' : List Nat} (h : Behind w Wr x) (hW : ∀ k ∈ Wr, k ∈ Wr') : Behind w Wr' x := ⟨h.os, h.tape, h.output, h.size, fun k hk hn => h.block k hk fun hm => hn (hW k hm)⟩
theorem RowV.own {w : World} {base : Nat} {E : TypeId} {size : Nat} {v : Value} {n : Nat} {xs : List Value} (h : RowV (inW w) E size v n xs) (hb : ∀ g ∈ rowBlk v, base ≤ g) : w.ownsRow base E size v n xs := by
  cases h with
  | nil => exact ⟨by simp, .inl ⟨rfl, rfl⟩⟩
  | row h => exact ⟨h.len, .inr ⟨_, _, _, rfl, hb _ (by simp [rowBlk]), h.blk, h.le, h.mx, h.sz, h.tk⟩⟩
theorem RowV.of_own {w : World} {base : Nat} {E : TypeId} {size : Nat} {v : Value} {n : Nat} {xs : List Value} (h : w.ownsRow base E size v n xs) : RowV (inW w) E size v n xs ∧ ∀ g ∈ rowBlk v, base ≤ g := by
  obtain ⟨h0, ⟨rfl, rfl⟩ | ⟨g, cap, cur, rfl, h1, h2, h3, h4, h5, h6⟩⟩ := h
  · obtain rfl : xs = [] := by simpa using h0
    exact ⟨.nil, by simp [rowBlk]⟩
  · exact ⟨.row ⟨h2, h3, h4, h5, h6, h0⟩, by simpa [rowBlk] using h1⟩
theorem RowV.keep {w w' : World} {E : TypeId} {size : Nat} {v : Value} {n : Nat} {xs : List Value} {M : List Nat} (h : RowV (inW w) E size v n xs) (hb : Behind w M w') (hd : ∀ g ∈ rowBlk v, g ∉ M) : RowV (inW w') E size v n xs := by
  cases h with
  | nil => exact .nil
  | row h => exact .row (h.of (B' := inW w') (hb.keep h.blk (hd _ (by simp [rowBlk]))))
theorem RowV.lt {w : World} {E : TypeId} {size : Nat} {v : Value} {n : Nat} {xs : List Value} (h : RowV (inW w) E size v n xs) : ∀ g ∈ rowBlk v, g < w.heap.size := by
  cases h with
  | nil => simp [rowBlk]
  | row h =>
    intro g hg
    obtain rfl : g = _ := by simpa [rowBlk] using hg
    exact lt_of_heap (show w.heap[_]? = _ from h.blk)
theorem RowV.slice {B : Blocks} {E : TypeId} {size : Nat} {v : Value} {n : Nat} {xs : List Value} (h : RowV B E size v n xs) : ∃ p c, v = .slice p n c := by
  cases h with
  | nil => exact ⟨_, _, rfl⟩
  | row h => exact ⟨_, _, rfl⟩
theorem RowV.length {B : Blocks} {E : TypeId} {size : Nat} {v : Value} {n : Nat} {xs : List Value} (h : RowV B E size v n xs) : xs.length = n * size := by
  cases h with
  | nil => simp
  | row h => exact h.len
structure OwnI (w : World) (b : Nat) (M : List Nat) (v : Value) (xs : List Int) : Prop where
  row : RowV (inW w) 3 1 v xs.length (ints xs)
  ge : ∀ g ∈ rowBlk v, b ≤ g
  out : ∀ g ∈ rowBlk v, g ∉ M
structure Step (M : List Nat) (w : World) (M' : List Nat) (w' : World) : Prop where
  beh : Behind w M w'
  new : ∀ g ∈ M', g ∈ M ∨ w.heap.size ≤ g
theorem Step.refl (M : List Nat) (w : World) : Step M w M w := ⟨Behind.refl _ _, fun _ h => .inl h⟩
theorem Step.trans {M M' M'' : List Nat} {w w' w'' : World} (h : Step M w M' w') (k : Step M' w' M'' w'') : Step M w M'' w'' :=
  ⟨h.beh.trans k.beh h.new, fun g hg => (k.new g hg).elim (h.new g) (fun e => .inr (Nat.le_trans h.beh.size e))⟩
theorem Step.keep {M M' : List Nat} {w w' : World} (h : Step M w M' w') {g : Nat} {o : Obj} (hg : w.heap[g]? = some o) (hn : g ∉ M) : w'.heap[g]? = some o := h.beh.keep hg hn
theorem Step.out {M M' : List Nat} {w w' : World} (h : Step M w M' w') {g : Nat} (hg : g < w.heap.size) (hn : g ∉ M) : g ∉ M' := fun hm => (h.new g hm).elim hn (fun e => by omega)
theorem Step.below {M M' : List Nat} {w w' : World} (h : Step M w M' w') {b : Nat} (hM : ∀ g ∈ M, b ≤ g) (hb : b ≤ w.heap.size) : Below b w w' := h.beh.below_of hM hb
theorem OwnI.step {M M' : List Nat} {w w' : World} {b : Nat} {v : Value} {xs : List Int} (h : OwnI w b M v xs) (k : Step M w M' w') : OwnI w' b M' v xs :=
  ⟨h.row.keep k.beh h.out, h.ge, fun g hg => k.out (h.row.lt g hg) (h.out g hg)⟩
theorem run_append_row {P : Program} (w : World) (t ty E : TypeId) (i : TypeInfo) (z : Value) (size bytes : Nat) (ht : P.underlying t = some (.slice E)) (hi : P.info? E = some i) (hz : i.zero = some z) (hsize : i.size = size) (hby : i.bytes = bytes) (hzs : z.cells.size = size)
    (v : Value) (n : Nat) (xs : List Value) (hrow : RowV (inW w) E size v n xs) (g2 m c2 : Nat) (news : List Value) (E2 : TypeId) (hn2 : w.heap[g2]? = some (.cells news.toArray E2 (0, 0))) (hl : news.length = m * size) (h1 : ∀ u ∈ news, u.oneCell' = true) (h0 : 0 < m)
    (h63 : n + m ≤ maxLen) (hbytes : (n + m) * bytes ≤ 140737488355328) :
    ∃ v' w', (Builtin.append_ #[t, t] ty #[v, .slice (some ⟨g2, 0, none⟩) m c2]).run P w = .ok v' w' ∧ RowV (inW w') E size v' (n + m) (xs ++ news) ∧ Behind w (rowBlk v) w' ∧ ∀ g ∈ rowBlk v', g ∈ rowBlk v ∨ w.heap.size ≤ g := by
  subst hsize hby
  have hnews : ∀ j u, news[j]? = some u → w.cell? ((⟨g2, 0, none⟩ : Addr).add j) = some u := fun j u hj => by
    rw [Addr.add_lit, Nat.zero_add]
    exact blk_cell hn2 j (v := u) (by simpa using hj)
  cases hrow with
  | nil =>
    have hr := run_append_nil (P := P) w t ty E i z ht hi hz ⟨g2, 0, none⟩ m c2 news hl hnews h0 (by simp only [maxLen] at h63; omega) (by rw [Nat.zero_add] at hbytes; omega)
    have hge := grownCap_ge w m 0 E
    simp only [Nat.zero_add, List.nil_append] at *
    refine ⟨_, _, hr, .row ⟨heap_alloc_new w.drew _, hge, grownCap_le_maxLen w m 0 E h63, ?_, ?_, hl⟩, behind_of_below ((Below.refl _ w).drew.alloc (by simp) _), fun g hg => .inr ?_⟩
    · simp only [Array.size_append, List.size_toArray, size_zeroCells, hzs, hl, ← Nat.add_mul]
      congr 1
      omega
    · simp only [Array.toList_append]
      rw [← hl]
      exact List.take_left
    · have : g = w.heap.size := by simpa [rowBlk] using hg
      omega
  | @row g n cap xs cur hrow =>
    have hb := hrow.blk
    have holds : ∀ j u, xs[j]? = some u → w.cell? ((⟨g, 0, none⟩ : Addr).add j) = some u := fun j u hj => by
      have hj' : cur[j]? = some u := by
        rw [← hrow.tk, List.getElem?_take] at hj
        split at hj
        · simpa using hj
        · cases hj
      rw [Addr.add_lit, Nat.zero_add]
      exact blk_cell hb j hj'
    have hlen : (xs ++ news).length = (n + m) * i.size := by rw [List.length_append, hrow.len, hl, Nat.add_mul]
    by_cases hroom : n + m ≤ cap
    · have hfit : n * i.size + news.length ≤ cur.size := by rw [hl, hrow.sz, ← Nat.add_mul]; exact Nat.mul_le_mul_right _ hroom
      have hr := run_append_room (P := P) w t ty E i ht hi g n cap cur hb ⟨g2, 0, none⟩ m c2 news hl hnews h1 hroom hfit
      refine ⟨_, _, hr, .row ⟨setRow_heap w g cur _ E _ hb, hroom, hrow.mx, ?_, ?_, hlen⟩, ⟨rfl, rfl, rfl, by simp, fun k' _ hk' => setRow_other w g k' _ (by simpa [rowBlk] using hk')⟩, fun g' hg => .inl (by simpa [rowBlk] using hg)⟩
      · simp only [List.size_toArray, List.length_append, List.length_take, List.length_drop, Array.length_toList]
        have := hrow.sz
        omega
      · simp only [List.toList_toArray]
        rw [hrow.tk, ← hlen]
        exact List.take_left
    · have hr := run_append_grow (P := P) w t ty E i z ht hi hz ⟨g, 0, none⟩ n cap xs hrow.len holds ⟨g2, 0, none⟩ m c2 news hl hnews (by omega) (by simp only [maxLen] at h63; omega) (growslice_fits (by omega) hbytes)
      refine ⟨_, _, hr, .row ⟨heap_alloc_new w.drew _, grownCap_ge w (n + m) cap E, grownCap_le_maxLen w (n + m) cap E h63, ?_, ?_, hlen⟩, (behind_of_below ((Below.refl _ w).drew.alloc (by simp) _)).mono (by simp), fun g' hg => .inr ?_⟩
      · have := grownCap_ge w (n + m) cap E
        simp only [Array.size_append, List.size_toArray, size_zeroCells, hzs, hrow.len, hl, ← Nat.add_mul]
        congr 1
        omega
      · simp only [Array.toList_append, List.append_assoc]
        rw [← List.append_assoc, ← hlen]
        exact List.take_left
      · have : g' = w.heap.size := by simpa [rowBlk] using hg
        omega
theorem wpList_append_row {P : Program} {ops : Array Oper} {rest : List Oper} {o : Oper} {a : Act} {Q : Exit → Act → World → Prop} (w : World) (hgd : o.guard = none) (s x : Operand) (t : TypeId) (ho : o.op = .call { callee := .builtin .append, args := #[s, x], argTypes := #[t, t] })
    (E : TypeId) (i : TypeInfo) (z : Value) (size bytes : Nat) (ht : P.underlying t = some (.slice E)) (hi : P.info? E = some i) (hz : i.zero = some z) (hsize : i.size = size) (hby : i.bytes = bytes) (hzs : z.cells.size = size)
    (v : Value) (n : Nat) (xs : List Value) (hs : a.eval s = v) (hrow : RowV (inW w) E size v n xs) (g2 m c2 : Nat) (news : List Value) (E2 : TypeId) (hx : a.eval x = .slice (some ⟨g2, 0, none⟩) m c2) (hn2 : w.heap[g2]? = some (.cells news.toArray E2 (0, 0))) (hl : news.length = m * size) (h1 : ∀ u ∈ news, u.oneCell' = true) (h0 : 0 < m)
    (h63 : n + m ≤ maxLen) (hbytes : (n + m) * bytes ≤ 140737488355328)
    (h : ∀ v' w', RowV (inW w') E size v' (n + m) (xs ++ news) → Behind w (rowBlk v) w' → (∀ g ∈ rowBlk v', g ∈ rowBlk v ∨ w.heap.size ≤ g) → wpList P ops Q rest (a.put o.dst v') w') : wpList P ops Q (o :: rest) a w := by
  refine wpList_plain hgd fun _ hK => ?_
  obtain ⟨v', w', hr, h2, h3, h4⟩ := run_append_row (P := P) w t o.type E i z size bytes ht hi hz hsize hby hzs v n xs hrow g2 m c2 news E2 hn2 hl h1 h0 h63 hbytes
  unfold Oper.wp execOp
  simp only [ho, resolve, invoke, builtin, Sem.run_bind, Sem.run_pure, Result.andThen_ok, List.map_toArray, List.map_cons, List.map_nil, hs, hx, hr]
  exact hK _ _ (h v' w' h2 h3 h4)
theorem OwnI.mono {w : World} {b b' : Nat} {M : List Nat} {v : Value} {xs : List Int} (h : OwnI w b M v xs) (hb : b' ≤ b) : OwnI w b' M v xs := ⟨h.row, fun g hg => Nat.le_trans hb (h.ge g hg), h.out⟩
theorem OwnI.grown {w w' : World} {b : Nat} {M : List Nat} {v v' : Value} {xs : List Int} {d : Int} (h : OwnI w b M v xs) (hb : b ≤ w.heap.size) (hM : ∀ g ∈ M, g < w.heap.size)
    (hr : RowV (inW w') 3 1 v' (xs.length + 1) (ints xs ++ [.int .i64 d])) (hn : ∀ g ∈ rowBlk v', g ∈ rowBlk v ∨ w.heap.size ≤ g) : OwnI w' b M v' (xs ++ [d]) := by
  refine ⟨?_, fun g hg => (hn g hg).elim (h.ge g) (fun e => by omega), fun g hg hm => (hn g hg).elim (fun e => h.out g e hm) (fun e => by have := hM g hm; omega)⟩
  have e : ints (xs ++ [d]) = ints xs ++ [.int .i64 d] := by simp [ints]
  rw [e, List.length_append]
  exact hr
theorem OwnI.new {w : World} {b : Nat} {M : List Nat} (xs : List Int) (hb : b ≤ w.heap.size) (hM : ∀ g ∈ M, g < w.heap.size) (hl : xs.length ≤ 1000) :
    OwnI (w.alloc (.cells (ints xs).toArray 3 (0, 0))) b M (.slice (some ⟨w.heap.size, 0, none⟩) xs.length xs.length) xs := by
  refine ⟨.row (cur := (ints xs).toArray) ⟨heap_alloc_new w _, Nat.le_refl _, by unfold maxLen; omega, by simp [ints], List.take_of_length_le (by simp [ints]), by simp [ints]⟩, fun g hg => ?_, fun g hg hm => ?_⟩
  · have : g = w.heap.size := by simpa [rowBlk] using hg
    omega
  · have h1 : g = w.heap.size := by simpa [rowBlk] using hg
    have := hM g hm
    omega
def RowI (w : World) (g o : Nat) (ys : List Int) : Prop := ∃ cur, w.heap[g]? = some (.cells cur 3 (0, 0)) ∧ ∀ i y, ys[i]? = some y → cur[o + i]? = some (.int .i64 y)
theorem RowI.lt {w : World} {g o : Nat} {ys : List Int} (h : RowI w g o ys) : g < w.heap.size := by
  obtain ⟨_, h, _⟩ := h
  exact lt_of_heap h
theorem RowI.step {M M' : List Nat} {w w' : World} {g o : Nat} {ys : List Int} (h : RowI w g o ys) (k : Step M w M' w') (hn : g ∉ M) : RowI w' g o ys := by
  obtain ⟨cur, h1, h2⟩ := h
  exact ⟨cur, k.keep h1 hn, h2⟩
theorem RowI.cell {w : World} {g o : Nat} {ys : List Int} (h : RowI w g o ys) {i : Nat} {y : Int} (hi : ys[i]? = some y) : w.cell? ⟨g, o + i, none⟩ = some (.int .i64 y) := by
  obtain ⟨cur, h1, h2⟩ := h
  exact blk_cell h1 _ (h2 i y hi)
theorem RowI.drop {w : World} {g o : Nat} {ys : List Int} (h : RowI w g o ys) (k : Nat) : RowI w g (o + k) (ys.drop k) := by
  obtain ⟨cur, h1, h2⟩ := h
  refine ⟨cur, h1, fun i y hi => ?_⟩
  rw [List.getElem?_drop] at hi
  rw [Nat.add_assoc]
  exact h2 _ _ hi
structure Two (w : World) (b : Nat) (v1 : Value) (X : List Int) (v2 : Value) (Y : List Int) : Prop where
  o1 : OwnI w b [] v1 X
  o2 : OwnI w b [] v2 Y
  dis : ∀ g ∈ rowBlk v1, g ∉ rowBlk v2
theorem Two.app {w w' : World} {b : Nat} {v1 v2 v1' : Value} {X Y : List Int} {y : Int} (h : Two w b v1 X v2 Y) (hb : b ≤ w.heap.size) (hB : Behind w (rowBlk v1) w')
    (hr : RowV (inW w') 3 1 v1' (X.length + 1) (ints X ++ [.int .i64 y])) (hn : ∀ g ∈ rowBlk v1', g ∈ rowBlk v1 ∨ w.heap.size ≤ g) : Two w' b v1' (X ++ [y]) v2 Y :=
  ⟨h.o1.grown hb (by simp) hr hn, ⟨h.o2.row.keep hB (fun g hg hm => h.dis g hm hg), h.o2.ge, by simp⟩,
    fun g hg hm => (hn g hg).elim (fun e => h.dis g e hm) (fun e => by have := h.o2.row.lt g hm; omega)⟩
theorem calls_gen {P : Program} {f : FuncId} {args : Array Value} {w : World} {Q : Ending → World → Prop} (h : ∀ w1, w1 = w → Calls P f args w1 Q) : Calls P f args w Q := h _ rfl
theorem wp_gen {P : Program} {c : Code} {Q : Exit → Act → World → Prop} {a : Act} {w : World} (h : ∀ w1, w1 = w → c.wp P Q a w1) : c.wp P Q a w := h _ rfl
theorem below_one (w : World) (o : Obj) : Below w.heap.size w (w.alloc o) := (Below.refl _ _).alloc (Nat.le_refl _) _
theorem below_two (w : World) (o u : Obj) : Below w.heap.size w ((w.alloc o).alloc u) := ((Below.refl _ _).alloc (Nat.le_refl _) _).alloc (by simp) _
theorem new_one (w : World) (o : Obj) : (w.alloc o).heap[w.heap.size]? = some o := heap_alloc_new w o
theorem new_two1 (w : World) (o u : Obj) : ((w.alloc o).alloc u).heap[w.heap.size]? = some o := (heap_alloc_old _ _ (by simp)).trans (heap_alloc_new w o)
theorem new_two2 (w : World) (o u : Obj) : ((w.alloc o).alloc u).heap[w.heap.size + 1]? = some u := by
  have := heap_alloc_new (w.alloc o) u
  simpa using this
end Go.Proofs.YtmaiofimmjedjaaDoor

/- append in a region that draws its order, whatever the row. -/
namespace Go.Proofs.YtmaiofimmjedjaaDoor
open Go.RowKit

theorem RowV.of_put {B : Blocks} {E : TypeId} {size : Nat} {v : Value} {n : Nat} {xs : List Value} {b : Nat} {ob : Obj} (h : RowV B E size v n xs) (hb : b ∉ rowBlk v) : RowV (B.put b ob) E size v n xs := by
  cases h with
  | nil => exact .nil
  | @row g n cap xs cur h => exact .row (h.of ((Blocks.put_other _ _ (fun e => hb (by simp [rowBlk, e]))).trans h.blk))
section
variable {P : Program} {ops : Array Oper} {w : World} {Wr : List Nat}
end
end Go.Proofs.YtmaiofimmjedjaaDoor

/- Ground of chapter 08: bytes, rows. -/
namespace Go.Proofs.YtmaiofimmjedjaaDoor
open Go.RowKit

theorem ba_app (a b : List UInt8) : (⟨a.toArray⟩ : ByteArray) ++ ⟨b.toArray⟩ = ⟨(a ++ b).toArray⟩ := by
  apply ByteArray.ext
  simp
theorem ba_inj {a b : List UInt8} (h : (⟨a.toArray⟩ : ByteArray) = ⟨b.toArray⟩) : a = b := by
  have := congrArg (fun s => s.data.toList) h
  simpa using this
theorem ba_size (a : List UInt8) : (⟨a.toArray⟩ : ByteArray).size = a.length := by simp [ByteArray.size]
theorem ba_list (a : List UInt8) : (⟨a.toArray⟩ : ByteArray).toList = a := by rw [ByteArray.toList_eq]
theorem ba_facts {x : List UInt8} {y : ByteArray} (hy : y = ⟨x.toArray⟩) : y.size = x.length ∧ (∀ k (h : k < y.size), x[k]? = some y[k]) ∧ (∀ h : 0 < y.size, x.head? = some y[0]) ∧ (∀ k, (⟨(x.drop k).toArray⟩ : ByteArray) = y.extract k y.size) := by
  subst hy
  refine ⟨ba_size x, fun k h => ?_, fun h => ?_, fun k => ?_⟩
  · rw [List.getElem?_eq_getElem (by rw [ba_size] at h; exact h)]; rfl
  · cases x with
    | nil => simp [ba_size] at h
    | cons a l => rfl
  · rw [ba_size]; apply ByteArray.ext; simp only [ByteArray.data_extract, List.extract_toArray, List.extract_eq_take_drop]; rw [List.take_of_length_le (by rw [List.length_drop]; omega)]
theorem byte_no {b : UInt8} {n : Nat} (h : ¬ b = UInt8.ofNat n) (hn : n < 256) : ((b.toNat : Int) == (n : Int)) = false := by
  rw [beq_eq_false_iff_ne]
  intro e
  apply h
  apply UInt8.toNat_inj.1
  rw [UInt8.toNat_ofNat']
  omega
theorem ext_list {l : List UInt8} {s : ByteArray} (hs : s = ⟨l.toArray⟩) : ∀ a b, a ≤ b → b ≤ s.size → s.extract a b = ⟨((l.take b).drop a).toArray⟩ := by
  subst hs
  intro a b _ _
  apply ByteArray.ext
  simp only [ByteArray.data_extract, List.extract_toArray, List.extract_eq_take_drop]
  rw [List.drop_take]
theorem rowV_at2 {w : World} {E : TypeId} {size : Nat} {v : Value} {n : Nat} {xs : List Value} (hr : RowV (inW w) E size v n xs) : ∃ a c, v = .slice a n c ∧ n ≤ c ∧ AtN w.heap.size w a xs := by
  cases hr with
  | nil => exact ⟨none, 0, rfl, Nat.le_refl _, fun i v hi => by simp at hi⟩
  | @row g n cap ys cur hr =>
    refine ⟨some ⟨g, 0, none⟩, cap, rfl, hr.le, fun i v hi => ⟨g, 0, lt_of_heap hr.blk, rfl, ?_⟩⟩
    have h2 := hr.tk
    rw [← h2, List.getElem?_take] at hi
    split at hi
    · rw [Nat.zero_add]
      exact blk_cell hr.blk i (by simpa using hi)
    · cases hi
theorem behind_cellX {w x : World} {Wr : List Nat} (h : Behind w Wr x) {b o : Nat} {v : Value} (hc : w.cell? ⟨b, o, none⟩ = some v) (hn : b ∉ Wr) : x.cell? ⟨b, o, none⟩ = some v :=
  (World.cell?_of_block (a := ⟨b, o, none⟩) (h.block b (block_lt_of_cell hc) hn)).trans hc
theorem behind_cellXp {w x : World} {Wr : List Nat} (h : Behind w Wr x) {b o : Nat} {v : Value} (hc : w.cell? ⟨b, o, none⟩ = some v) (hn : b ∉ Wr) (p : Extra) : (plus x p).cell? ⟨b, o, none⟩ = some v :=
  plus_cell (behind_cellX h hc hn) (block_lt_of_cell (behind_cellX h hc hn)) p
end Go.Proofs.YtmaiofimmjedjaaDoor
