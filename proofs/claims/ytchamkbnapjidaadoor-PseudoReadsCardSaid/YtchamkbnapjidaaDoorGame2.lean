/- The game's steps for boxes and whole stores; what is known of blocks. -/
import Derived.Test.YtchamkbnapjidaaDoorGame
import Derived.Deep.MidRow
namespace Go.Proofs.YtchamkbnapjidaaDoor
open Go.RowKit

section
variable {P : Program} {ops : Array Oper} {w : World} {Wr : List Nat}

theorem lex_box {kd : Nat → Nat} {Q : Act → Blocks → Prop} {B : Blocks} {rest : List Oper} {k d : Nat} {T ty : TypeId} {y : Operand} {pos : String} {after : Array Edge} {a : Act} (v : Value) (hv : a.eval y = v) (hk : kd k = 3)
    (h : ∀ g, w.heap.size ≤ g → B g = none → setSlot P ops d ty pos (.pointer (some ⟨g, 0, none⟩)) (fun a' => wpLex P ops w Wr kd Q rest (k + 1) a' (B.put g (.cells v.cells T))) a) :
    wpLex P ops w Wr kd Q (⟨some d, .box T y, ty, pos, after, none⟩ :: rest) k a B := by
  have key : ∀ x, Behind w Wr x → (execOp a.eval ⟨some d, .box T y, ty, pos, after, none⟩).run P x = .ok (.value (.pointer (some ⟨x.heap.size, 0, none⟩))) (x.alloc (.cells v.cells T)) := fun x _ => by
    subst hv
    simp [execOp, Instr.box, newVar, go_sem]
  have g : GStep P ops w Wr ⟨some d, .box T y, ty, pos, after, none⟩ a (kd k) B (fun v' B' => ∃ g, w.heap.size ≤ g ∧ B g = none ∧ v' = .pointer (some ⟨g, 0, none⟩) ∧ B' = B.put g (.cells v.cells T)) := by rw [hk]; exact .alloc B none (.cells v.cells T) rfl key
  refine ⟨_, g, fun v' B' hO => ?_⟩
  obtain ⟨g, h1, h2, rfl, rfl⟩ := hO
  exact of_setSlot (h g h1 h2)

theorem lex_box_agg {kd : Nat → Nat} {Q : Act → Blocks → Prop} {B : Blocks} {rest : List Oper} {k d : Nat} {T ty : TypeId} {y : Operand} {pos : String} {after : Array Edge} {a : Act} (cs : Array Value) (hv : a.eval y = .agg cs) (hk : kd k = 3)
    (h : ∀ g, w.heap.size ≤ g → B g = none → setSlot P ops d ty pos (.pointer (some ⟨g, 0, none⟩)) (fun a' => wpLex P ops w Wr kd Q rest (k + 1) a' (B.put g (.cells cs T))) a) :
    wpLex P ops w Wr kd Q (⟨some d, .box T y, ty, pos, after, none⟩ :: rest) k a B := lex_box (.agg cs) hv hk h

theorem wrote_cells {b : Nat} {T : TypeId} : ∀ (vs : List Value) (o : Nat) (x : World) (xs : Array Value), x.heap[b]? = some (.cells xs T (0, 0)) → o + vs.length ≤ xs.size →
    ∃ ys : Array Value, Wrote b (.cells ys T (0, 0)) x (x.setCells b o vs) ∧ ys.size = xs.size ∧ (∀ i, i < o → ys[i]? = xs[i]?) ∧ (∀ i, i < vs.length → ys[o + i]? = vs[i]?) ∧ (∀ i, o + vs.length ≤ i → ys[i]? = xs[i]?)
  | [], o, x, xs, h, _ => ⟨xs, ⟨rfl, rfl, rfl, Nat.le_refl _, h, fun _ _ _ => rfl⟩, rfl, fun _ _ => rfl, fun i hi => by simp at hi, fun _ _ => rfl⟩
  | v :: r, o, x, xs, h, hl => by
    simp only [List.length_cons] at hl
    have hw := wrote_cell (o := o) v h
    obtain ⟨ys, h1, h2, h3, h4, h5⟩ := wrote_cells r (o + 1) (x.setCell ⟨b, o, none⟩ v) _ hw.here (by simp; omega)
    refine ⟨ys, ⟨h1.os.trans hw.os, h1.tape.trans hw.tape, h1.output.trans hw.output, Nat.le_trans hw.size h1.size, h1.here, fun k hl hk => (h1.block k (Nat.lt_of_lt_of_le hl hw.size) hk).trans (hw.block k hl hk)⟩, by rw [h2]; simp, fun i hi => ?_, fun i hi => ?_, fun i hi => ?_⟩
    · rw [h3 i (by omega), Array.getElem?_setIfInBounds_ne (by omega)]
    · cases i with
      | zero => rw [Nat.add_zero, h3 o (by omega), Array.getElem?_setIfInBounds_self_of_lt (by omega)]; rfl
      | succ i => rw [show o + (i + 1) = o + 1 + i by omega, h4 i (by simp at hi; omega)]; rfl
    · simp only [List.length_cons] at hi
      rw [h5 i (by omega), Array.getElem?_setIfInBounds_ne (by omega)]

theorem there_of_block {x : World} {b : Nat} {xs : Array Value} {T : TypeId} (h : x.heap[b]? = some (.cells xs T (0, 0))) (o n : Nat) (hn : o + n ≤ xs.size) : x.there b o n := fun j hj => by
  refine ⟨?_, frozen_of_row x b (o + j) xs T h⟩
  rw [cell_of_row x b (o + j) xs T (0, 0) h, Array.getElem?_eq_getElem (by omega)]; rfl

/-- A value of n cells is stored over the whole of a block of n cells. -/
theorem lex_store_all {kd : Nat → Nat} {Q : Act → Blocks → Prop} {B : Blocks} {rest : List Oper} {k : Nat} {T ty : TypeId} {p v : Operand} {pos : String} {after : Array Edge} {a : Act} (b : Nat) (cs : Array Value) (xs : Array Value) (E : TypeId) (hk : kd k = 2) (hp : a.eval p = .pointer (some ⟨b, 0, none⟩)) (hv : a.eval v = .agg cs)
    (hB : B b = some (.cells xs E (0, 0))) (hsz : xs.size = cs.size) (hW : b ∈ Wr ∨ w.heap.size ≤ b) (hi : (P.info? T).map (·.size) = some cs.size) (h1 : cs.all (·.oneCell') = true)
    (h : wpLex P ops w Wr kd Q rest (k + 1) a (B.put b (.cells cs E (0, 0)))) :
    wpLex P ops w Wr kd Q (⟨none, .store T p v, ty, pos, after, none⟩ :: rest) k a B := by
  refine lex_store b (.cells cs E (0, 0)) hk (by rw [hB]; rfl) hW (fun x hx => ?_) h
  have hb := hx b _ hB
  obtain ⟨ys, g1, g2, _, g4, _⟩ := wrote_cells cs.toList 0 x xs hb (by simp; omega)
  have e : ys = cs := by
    apply Array.ext_getElem?
    intro i
    by_cases hi : i < cs.size
    · have := g4 i (by simpa using hi)
      rw [Nat.zero_add] at this
      rw [this]; simp
    · rw [Array.getElem?_eq_none (by omega), Array.getElem?_eq_none (by omega)]
  subst e
  have hrun : (execOp a.eval ⟨none, .store T p v, ty, pos, after, none⟩).run P x = .ok .skip (x.setCells b 0 ys.toList) := by
    have := run_storeAt_mid (P := P) x b 0 T ys (there_of_block hb 0 _ (by omega)) hi h1
    simp only [execOp, hp, hv]
    simp [this]
  rw [hrun]
  exact ⟨rfl, g1⟩

theorem run_storeAt_any (x : World) (b o : Nat) (ty : TypeId) (v : Value) (ht : x.there b o v.cells.size) (hi : (P.info? ty).map (·.size) = some v.cells.size) (h1 : v.cells.all (·.oneCell') = true) :
    (Instr.storeAt ty (.pointer (some ⟨b, o, none⟩)) v).run P x = .ok () (x.setCells b o v.cells.toList) := by
  have := run_storeCells_cells (P := P) b o v.cells.toList 0 x (fun j hj => by simpa using (ht j (by simpa using hj)).1) (fun j hj => by simpa using (ht j (by simpa using hj)).2)
    (fun v hv => (Array.all_eq_true_iff_forall_mem.1 h1) v (by simpa using hv))
  cases hq : P.info? ty with
  | none => simp [hq] at hi
  | some i =>
    have hs : v.cells.size = i.size := by simp [hq] at hi; omega
    simp only [Nat.add_zero] at this
    simp only [Instr.storeAt, Instr.sureAddr, Sem.run_bind, Sem.run_pure, Result.andThen_ok]
    simp [storeVar, sizeOf, typeInfo, hq, hs, this]

/-- A value is stored over a part of a block, or the whole. -/
theorem lex_store_part {kd : Nat → Nat} {Q : Act → Blocks → Prop} {B : Blocks} {rest : List Oper} {k : Nat} {T ty : TypeId} {p v : Operand} {pos : String} {after : Array Edge} {a : Act} (b o : Nat) (val : Value) (xs ys : Array Value) (E : TypeId) (hk : kd k = 2) (hp : a.eval p = .pointer (some ⟨b, o, none⟩)) (hv : a.eval v = val)
    (hB : B b = some (.cells xs E (0, 0))) (hsz : o + val.cells.size ≤ xs.size) (hy : ys.size = xs.size) (hys : ∀ i, i < ys.size → ys[i]? = if o ≤ i ∧ i < o + val.cells.size then val.cells[i - o]? else xs[i]?) (hW : b ∈ Wr ∨ w.heap.size ≤ b) (hi : (P.info? T).map (·.size) = some val.cells.size) (h1 : val.cells.all (·.oneCell') = true)
    (h : wpLex P ops w Wr kd Q rest (k + 1) a (B.put b (.cells ys E (0, 0)))) :
    wpLex P ops w Wr kd Q (⟨none, .store T p v, ty, pos, after, none⟩ :: rest) k a B := by
  refine lex_store b (.cells ys E (0, 0)) hk (by rw [hB]; rfl) hW (fun x hx => ?_) h
  have hb := hx b _ hB
  obtain ⟨zs, g1, g2, g3, g4, g5⟩ := wrote_cells val.cells.toList o x xs hb (by simpa using hsz)
  have e : zs = ys := by
    apply Array.ext_getElem?
    intro i
    by_cases hi : i < ys.size
    · rw [hys i hi]
      split
      · rename_i h2
        have := g4 (i - o) (by simp; omega)
        rw [show o + (i - o) = i by omega] at this
        rw [this]; simp
      · rename_i h2
        by_cases h3 : i < o
        · exact g3 i h3
        · exact g5 i (by simp; omega)
    · rw [Array.getElem?_eq_none (by omega), Array.getElem?_eq_none (by omega)]
  subst e
  have hrun : (execOp a.eval ⟨none, .store T p v, ty, pos, after, none⟩).run P x = .ok .skip (x.setCells b o val.cells.toList) := by
    have := run_storeAt_any (P := P) x b o T val (there_of_block hb o _ hsz) hi h1
    simp only [execOp, hp, hv]
    simp [this]
  rw [hrun]
  exact ⟨rfl, g1⟩

/-- A value of one cell over a block of one cell. -/
theorem lex_store_one {kd : Nat → Nat} {Q : Act → Blocks → Prop} {B : Blocks} {rest : List Oper} {k : Nat} {T ty : TypeId} {p v : Operand} {pos : String} {after : Array Edge} {a : Act} (b : Nat) (val x0 : Value) (E : TypeId) (hk : kd k = 2) (hp : a.eval p = .pointer (some ⟨b, 0, none⟩)) (hv : a.eval v = val)
    (hB : B b = some (.cells #[x0] E (0, 0))) (hc : val.cells = #[val]) (hW : b ∈ Wr ∨ w.heap.size ≤ b) (hi : (P.info? T).map (·.size) = some 1) (h1 : val.oneCell' = true)
    (h : wpLex P ops w Wr kd Q rest (k + 1) a (B.put b (.cells #[val] E (0, 0)))) :
    wpLex P ops w Wr kd Q (⟨none, .store T p v, ty, pos, after, none⟩ :: rest) k a B :=
  lex_store_part b 0 val #[x0] #[val] E hk hp hv hB (by rw [hc]; simp) rfl (fun i hi => by
    have : i = 0 := by simpa using hi
    subst this; simp [hc]) hW (by rw [hc]; exact hi) (by rw [hc]; simp [h1]) h

/-! ### What is known of blocks -/

theorem blk_cell {x : World} {g : Nat} {cs : Array Value} {T : TypeId} (h : x.heap[g]? = some (.cells cs T (0, 0))) (i : Nat) {v : Value} (hv : cs[i]? = some v) : x.cell? ⟨g, i, none⟩ = some v := by
  rw [cell_of_row x g i cs T (0, 0) h, hv]
theorem blk_free {x : World} {g : Nat} {cs : Array Value} {T : TypeId} (h : x.heap[g]? = some (.cells cs T (0, 0))) (i : Nat) : x.frozen? ⟨g, i, none⟩ = false := frozen_of_row x g i cs T h
theorem blk_cellp {x : World} {g : Nat} {cs : Array Value} {T : TypeId} (h : x.heap[g]? = some (.cells cs T (0, 0))) (i : Nat) {v : Value} (hv : cs[i]? = some v) (p : Extra) : (plus x p).cell? ⟨g, i, none⟩ = some v :=
  plus_cell (blk_cell h i hv) (lt_of_heap h) p
theorem Behind.keep {x : World} (h : Behind w Wr x) {g : Nat} {o : Obj} (hg : w.heap[g]? = some o) (hn : g ∉ Wr) : x.heap[g]? = some o := by
  rw [h.block g (lt_of_heap hg) hn]; exact hg
theorem Behind.trans {x y : World} {W2 : List Nat} (h : Behind w Wr x) (h2 : Behind x W2 y) (hW : ∀ b ∈ W2, b ∈ Wr ∨ w.heap.size ≤ b) : Behind w Wr y :=
  ⟨h2.os.trans h.os, h2.tape.trans h.tape, h2.output.trans h.output, Nat.le_trans h.size h2.size, fun k hk hn => (h2.block k (Nat.lt_of_lt_of_le hk h.size) fun hm => by rcases hW k hm with h3 | h3; exact hn h3; omega).trans (h.block k hk hn)⟩
theorem wrote_of_behind {x : World} {g : Nat} {ob : Obj} (h : Behind w [g] x) (hg : x.heap[g]? = some ob) : Wrote g ob w x := ⟨h.os, h.tape, h.output, h.size, hg, fun k hk hn => h.block k hk (by simpa using hn)⟩
theorem Behind.below_of {x : World} (h : Behind w Wr x) {b : Nat} (hW : ∀ k ∈ Wr, b ≤ k) (hb : b ≤ w.heap.size) : Below b w x :=
  ⟨h.os, h.tape, h.output, h.size, fun k hk => h.block k (by omega) fun hm => by have := hW k hm; omega⟩
theorem Below.heap {b : Nat} {x y : World} (h : Below b x y) {g : Nat} {o : Obj} (hg : x.heap[g]? = some o) (hb : g < b) : y.heap[g]? = some o := by rw [h.block g hb]; exact hg
theorem has_put {B : Blocks} {x : World} (h : Has B x) {g : Nat} {o : Obj} (hg : x.heap[g]? = some o) : Has (B.put g o) x := fun k p hk => by
  by_cases e : k = g
  · subst e; rw [Blocks.put_same] at hk; cases hk; exact hg
  · rw [Blocks.put_other _ _ e] at hk; exact h k p hk
theorem ne_of_put {B : Blocks} {g k : Nat} {o : Obj} (h : B.put g o k = none) : k ≠ g := fun e => by subst e; rw [Blocks.put_same] at h; cases h
theorem none_of_put {B : Blocks} {g k : Nat} {o : Obj} (h : B.put g o k = none) : B k = none := by rwa [Blocks.put_other _ _ (ne_of_put h)] at h

theorem lex_readE {kd : Nat → Nat} {Q : Act → Blocks → Prop} {B : Blocks} {l : List Oper} {k : Nat} {a : Act} (n : Nat) (x0 : World) (hx0 : Behind w Wr x0) (hB0 : Has B x0) (h1 : ssaB (l.take n) a.tmps.size = true) (h2 : ((List.range n).all fun j => kd (k + j) == 1) = true)
    (h : ∃ a1, (∀ x, Behind w Wr x → Has B x → wpQuiet P ops (Cx x) (fun a' => a' = a1) (l.take n) a) ∧ wpLex P ops w Wr kd Q (l.drop n) (k + n) a1 B) : wpLex P ops w Wr kd Q l k a B :=
  let ⟨a1, h3, h4⟩ := h
  lex_read a1 x0 hx0 hB0 n l k a h1 h2 h3 h4

/-- A fixed list of operations, from the one that writes slot d on. -/
theorem wpList_from {Q : Exit → Act → World → Prop} {a : Act} {op : Op} {ty : TypeId} {pos : String} {after : Array Edge} {g : Option (Nat × Bool)} {rest : List Oper} (d : Nat) (kinds : List Nat) (Wr : List Nat) (B : Blocks) (hB : Has B w)
    (h : wpLex P ops w Wr (fun k => kinds.getD k 0) (fun a' B' => ∀ x, Behind w Wr x → Has B' x → Q .normal a' x) (⟨some d, op, ty, pos, after, g⟩ :: rest) 0 a B) : wpList P ops Q (⟨some d, op, ty, pos, after, g⟩ :: rest) a w :=
  wpList_fixed kinds Wr B hB h

theorem lex_quietE {kd : Nat → Nat} {Q : Act → Blocks → Prop} {B : Blocks} {l : List Oper} {k : Nat} {a : Act} (n : Nat) (h1 : ssaB (l.take n) a.tmps.size = true) (h2 : ((List.range n).all fun j => kd (k + j) == 0) = true)
    (h : ∃ a1, (∀ x, Behind w Wr x → wpQuiet P ops (Cx x) (fun a' => a' = a1) (l.take n) a) ∧ wpLex P ops w Wr kd Q (l.drop n) (k + n) a1 B) : wpLex P ops w Wr kd Q l k a B :=
  let ⟨a1, h3, h4⟩ := h
  lex_quiet a1 n l k a h1 h2 h3 h4

def B0 : Blocks := fun _ => none
theorem fin_B0 : Fin B0 := ⟨0, fun _ _ => rfl⟩
theorem has_B0 (x : World) : Has B0 x := fun _ _ h => by cases h
end
end Go.Proofs.YtchamkbnapjidaaDoor
