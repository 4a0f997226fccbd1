/- Ground for walks that make a sum: the result, the table of pairs, two rows that grow. -/
import Derived.Test.YtchamkbnapjidaaDoorKE
import Derived.Test.YtchamkbnapjidaaDoorKG
import Derived.Test.YtchamkbnapjidaaDoorSM
namespace Go.Proofs.YtchamkbnapjidaaDoor
open Go.RowKit
theorem Tryd.infoPair : (Tryd.prog.info? 48).map (fun i => i.size) = some 2 := by kernel_rfl
theorem extract_two {PA : Array Value} {k : Nat} {x y : Value} (h0 : PA[k]? = some x) (h1 : PA[k + 1]? = some y) : PA.extract k (k + 2) = #[x, y] := by
  have a0 := (Array.getElem?_eq_some_iff.1 h0)
  have a1 := (Array.getElem?_eq_some_iff.1 h1)
  obtain ⟨b0, e0⟩ := a0
  obtain ⟨b1, e1⟩ := a1
  apply Array.ext_getElem?
  intro i
  rw [Array.getElem?_extract]
  by_cases hi0 : i = 0
  · subst hi0; rw [if_pos (by omega), Nat.add_zero, h0]; rfl
  · by_cases hi1 : i = 1
    · subst hi1; rw [if_pos (by omega), h1]; rfl
    · rw [if_neg (by omega)]
      symm; apply Array.getElem?_eq_none
      show 2 ≤ i
      omega
theorem index_pair (PA : Array Value) (v : Nat) (hv : v < 129) (x y : Value) (h0 : PA[v * 2]? = some x) (h1 : PA[v * 2 + 1]? = some y) : ∀ w : World, (Instr.index 49 (.agg PA) (.int .i64 (v : Int))).run Tryd.prog w = .ok (.agg #[x, y]) w := fun w => by
  have he := extract_two h0 h1
  obtain ⟨i, hi, hs⟩ : ∃ i, Tryd.prog.info? 48 = some i ∧ i.size = 2 := by
    have := Tryd.infoPair
    cases hq : Tryd.prog.info? 48 with
    | none => rw [hq] at this; cases this
    | some i => rw [hq] at this; exact ⟨i, rfl, by simpa using this⟩
  have hag : (isAgg 48).run Tryd.prog w = .ok true w := by unfold isAgg; rw [Sem.run_bind, run_underlying Tryd.underlying48 w]; rfl
  have hv' : (v : Int) < 129 := by omega
  simp [Instr.index, asIntOf, Sem.run_bind, run_underlying Tryd.underlying49 w, hv', sizeOf, typeInfo, hi, hs, part, hag, he]
  exact fun h => absurd h (by omega)

theorem Tryd.infoInt : (Tryd.prog.info? 3).map (fun i => (i.zero, i.size, i.bytes)) = some (some (.int .i64 0), 1, 8) := by kernel_rfl
/-- The blocks of some rows, as they stand in a world. -/
def rowsB (w : World) (bs : List Nat) : Blocks := fun g => if g ∈ bs then w.heap[g]? else none
theorem has_rowsB (w : World) (bs : List Nat) : Has (rowsB w bs) w := fun b o h => by
  unfold rowsB at h
  split at h
  · exact h
  · cases h
theorem fin_rowsB (w : World) (bs : List Nat) : Fin (rowsB w bs) := ⟨w.heap.size, fun b hb => by
  unfold rowsB
  split
  · exact Array.getElem?_eq_none hb
  · rfl⟩
theorem rowV_rowsB {w : World} {bs : List Nat} {E : TypeId} {size : Nat} {v : Value} {n : Nat} {xs : List Value} (h : RowV (inW w) E size v n xs) (hs : ∀ g ∈ rowBlk v, g ∈ bs) : RowV (rowsB w bs) E size v n xs := by
  cases h with
  | nil => exact .nil
  | @row g n cap xs cur h => exact .row (h.of (by unfold rowsB; rw [if_pos (hs g (by simp [rowBlk]))]; exact h.blk))
theorem RowV.has_blk {B : Blocks} {E : TypeId} {size g n cap : Nat} {xs : List Value} (h : RowV B E size (.slice (some ⟨g, 0, none⟩) n cap) n xs) : ∃ o, B g = some o := by
  cases h with
  | row h => exact ⟨_, h.blk⟩
theorem Two.both {w w' : World} {b : Nat} {v1 v2 v1' v2' : Value} {X Y : List Int} {x y : Int} (h : Two w b v1 X v2 Y) (hb : b ≤ w.heap.size)
    (r1 : RowV (inW w') 3 1 v1' (X.length + 1) (ints X ++ [.int .i64 x])) (n1 : ∀ g ∈ rowBlk v1', g ∈ rowBlk v1 ∨ w.heap.size ≤ g)
    (r2 : RowV (inW w') 3 1 v2' (Y.length + 1) (ints Y ++ [.int .i64 y])) (n2 : ∀ g ∈ rowBlk v2', g ∈ rowBlk v2 ∨ w.heap.size ≤ g) (hd : ∀ g ∈ rowBlk v1', g ∉ rowBlk v2') : Two w' b v1' (X ++ [x]) v2' (Y ++ [y]) :=
  ⟨h.o1.grown hb (by simp) r1 n1, h.o2.grown hb (by simp) r2 n2, hd⟩
theorem nLoop_succ (s : PS) (v : Nat) : nLoop s (List.range (v + 1)) = nStep s (nLoop s (List.range v)) v := by
  unfold nLoop
  rw [List.range_succ, List.foldl_append]; rfl
/-- A sum of one's own, and an error. -/
def SumPost (w : World) (s : PS) (r : Int) (e : Ending) (w' : World) : Prop :=
  ∃ vC vL, e = .returned (.tuple #[.agg #[vC, vL, .int .i64 s.m], .int .i64 r]) ∧ Two w' w.heap.size vC s.C vL s.L ∧ Below w.heap.size w w'
theorem two_none (w : World) (b : Nat) : Two w b (.slice none 0 0) [] (.slice none 0 0) [] := ⟨⟨.nil, by simp [rowBlk], by simp [rowBlk]⟩, ⟨.nil, by simp [rowBlk], by simp [rowBlk]⟩, by simp [rowBlk]⟩

theorem results_cell_tmp {P : Program} {fn : Func} {p q : Tmp} {ty : TypeId} (h : fn.results = #[.cell p ty, .tmp q]) (tmps : Array Value) (w : World) (g : Nat) (t : TypeId) (cs : Array Value) (fr : Nat × Nat) (d : TypeDesc)
    (hp : tmps.getD p undef = .pointer (some ⟨g, 0, none⟩)) (hg : w.heap[g]? = some (.cells cs t fr))
    (hu : P.underlying ty = some d) (hd : (match d with | .struct _ | .array _ _ => true | _ => false) = true) (hi : (P.info? ty).map (·.size) = some cs.size) (v : Value) (hv : tmps.getD q undef = v) :
    (results fn tmps).run P w = .ok (.tuple #[.agg cs, v]) w := by
  have hp' : tmps[p]?.getD undef = .pointer (some ⟨g, 0, none⟩) := by simpa using hp
  have hv' : tmps[q]?.getD undef = v := by simpa using hv
  simp [results, h, hp', hv', asAddr, run_loadVar_row w g t ty cs fr d hg hu hd hi]
theorem Tryd.sizeSum : (Tryd.prog.info? 24).map (·.size) = some 3 := by kernel_rfl
theorem Tryd.sizePairs : (Tryd.prog.info? 49).map (·.size) = some 258 := by kernel_rfl
theorem three_set {w : World} {g : Nat} {a b c x y z : Value} {T : TypeId} (h : w.heap[g]? = some (.cells #[a, b, c] T (0, 0))) : (((w.setCell ⟨g, 0, none⟩ x).setCell ⟨g, 1, none⟩ y).setCell ⟨g, 2, none⟩ z).heap[g]? = some (.cells #[x, y, z] T (0, 0)) :=
  heap_setCell_same _ g 2 _ _ _ (heap_setCell_same _ g 1 _ _ _ (heap_setCell_same _ g 0 _ _ _ h))
theorem three_below {w : World} {g B : Nat} {x y z : Value} (h : B ≤ g) : Below B w (((w.setCell ⟨g, 0, none⟩ x).setCell ⟨g, 1, none⟩ y).setCell ⟨g, 2, none⟩ z) :=
  (((Below.refl _ w).setCell (by exact h) _).setCell (by exact h) _).setCell (by exact h) _

/-- The table of the pairs behind j terms. -/
def pv (s : PS) (j i : Nat) : Int := ofS s (if i % 2 = 0 then ((i / 2 : Nat) : Int) else -((i / 2 : Nat) : Int)) j
def pairA (s : PS) (j : Nat) : Array Value := ((List.range 258).map fun i => Value.int .i64 (pv s j i)).toArray
theorem pairA_get (s : PS) (j : Nat) {i : Nat} (hi : i < 258) : (pairA s j)[i]? = some (.int .i64 (pv s j i)) := by
  unfold pairA
  simp [List.getElem?_range hi]
set_option maxRecDepth 100000 in
theorem pairA_zero (s : PS) : pairA s 0 = Tryd.zeroCells49 := by
  have h : pairA s 0 = ((List.range 258).map fun _ => Value.int .i64 0).toArray := rfl
  exact h.trans rfl
theorem pairA_size (s : PS) (j : Nat) : (pairA s j).size = 258 := by simp [pairA]
theorem pairA_set {s : PS} {j k : Nat} (hk : k < 258) (h : ∀ i, i < 258 → pv s (j + 1) i = if i = k then pv s j k + s.C.getD j 0 else pv s j i) : pairA s (j + 1) = (pairA s j).setIfInBounds k (.int .i64 (pv s j k + s.C.getD j 0)) := by
  apply Array.ext_getElem?
  intro i
  by_cases hi : i < 258
  · rw [pairA_get s (j + 1) hi, h i hi]
    by_cases hik : i = k
    · subst hik
      rw [if_pos rfl, Array.getElem?_setIfInBounds_self_of_lt (by rw [pairA_size]; exact hk)]
    · rw [if_neg hik, Array.getElem?_setIfInBounds_ne (Ne.symm hik), pairA_get s j hi]
  · rw [Array.getElem?_eq_none (by rw [pairA_size]; omega), Array.getElem?_eq_none (by rw [Array.size_setIfInBounds, pairA_size]; omega)]
theorem ofS_succ (s : PS) (x : Int) (j : Nat) : ofS s x (j + 1) = if s.L.getD j 0 = x then ofS s x j + s.C.getD j 0 else ofS s x j := by
  unfold ofS; rw [valS_succ]
  by_cases h : s.L.getD j 0 = x <;> simp [h]
theorem pair_yes {s : PS} {j : Nat} (u : Nat) (h : s.L.getD j 0 = (u : Int)) (h0 : 0 < u) (h1 : u ≤ 128) : pairA s (j + 1) = (pairA s j).setIfInBounds (u * 2) (.int .i64 (pv s j (u * 2) + s.C.getD j 0)) :=
  pairA_set (by omega) fun i hi => by
    unfold pv
    rw [ofS_succ, h]
    by_cases e : i = u * 2
    · subst e
      rw [if_pos rfl, if_pos (by omega), if_pos (by omega)]
    · rw [if_neg e, if_neg (by split <;> omega)]
theorem pair_no {s : PS} {j : Nat} (u : Nat) (h : s.L.getD j 0 = -(u : Int)) (h0 : 0 < u) (h1 : u ≤ 128) : pairA s (j + 1) = (pairA s j).setIfInBounds (u * 2 + 1) (.int .i64 (pv s j (u * 2 + 1) + s.C.getD j 0)) :=
  pairA_set (by omega) fun i hi => by
    unfold pv
    rw [ofS_succ, h]
    by_cases e : i = u * 2 + 1
    · subst e
      rw [if_pos rfl, if_neg (show ¬ (u * 2 + 1) % 2 = 0 by omega), if_pos (by omega)]
    · rw [if_neg e, if_neg (by split <;> omega)]
theorem ofS_in {s : PS} {n : Int} (h : s.Ok n) (x : Int) {j : Nat} (hj : j ≤ s.L.length) : -1000000000 ≤ ofS s x j ∧ ofS s x j ≤ 1000000000 := val_in h _ hj
theorem pv_in {s : PS} {n : Int} (h : s.Ok n) (i : Nat) {j : Nat} (hj : j ≤ s.L.length) : -1000000000 ≤ pv s j i ∧ pv s j i ≤ 1000000000 := ofS_in h _ hj

theorem behind_set2 {w : World} {b : Nat} {Wr : List Nat} {o : Nat} {v : Value} (h : b ∈ Wr := by simp) : Behind w Wr (w.setCell ⟨b, o, none⟩ v) :=
  ⟨rfl, rfl, rfl, by simp [World.setCell], fun k _ hn => heap_setCell_other w _ k v (fun e => hn (e ▸ h))⟩
/-- A row of which nothing is written. -/
theorem Two.keepU {w w' : World} {b : Nat} {U : List Nat} {v1 v2 : Value} {X Y : List Int} (h : Two w b v1 X v2 Y) (hB : Behind w U w') (hU : ∀ g ∈ U, g < b) : Two w' b v1 X v2 Y :=
  ⟨⟨h.o1.row.keep hB (fun g hg hm => by have := h.o1.ge g hg; have := hU g hm; omega), h.o1.ge, h.o1.out⟩, ⟨h.o2.row.keep hB (fun g hg hm => by have := h.o2.ge g hg; have := hU g hm; omega), h.o2.ge, h.o2.out⟩, h.dis⟩
theorem three_behind {w : World} {g : Nat} {x y z : Value} : Behind w [g] (((w.setCell ⟨g, 0, none⟩ x).setCell ⟨g, 1, none⟩ y).setCell ⟨g, 2, none⟩ z) :=
  ((behind_set2 (b := g) (Wr := [g])).trans (behind_set2 (b := g) (Wr := [g])) (by simp)).trans (behind_set2 (b := g) (Wr := [g])) (by simp)
/-- One number of a row is written. -/
theorem RowV.setI {w : World} {g n cap i : Nat} {xs : List Int} {y : Int} (h : RowV (inW w) 3 1 (.slice (some ⟨g, 0, none⟩) n cap) n (ints xs)) : RowV (inW (w.setCell ⟨g, i, none⟩ (.int .i64 y))) 3 1 (.slice (some ⟨g, 0, none⟩) n cap) n (ints (xs.set i y)) := by
  cases h with
  | @row _ _ _ _ cur h =>
    refine .row (cur := cur.setIfInBounds i (.int .i64 y)) ⟨heap_setCell_same w g i cur 3 _ h.blk, h.le, h.mx, by rw [Array.size_setIfInBounds]; exact h.sz, ?_, by simp [ints]; simpa [ints] using h.len⟩
    have e := h.tk
    rw [Array.toList_setIfInBounds]
    have e2 : ints (xs.set i y) = (ints xs).set i (.int .i64 y) := by simp [ints, List.map_set]
    rw [e2, List.take_set, e]
theorem Two.set1 {w : World} {b g n cap i : Nat} {v2 : Value} {X Y : List Int} {y : Int} (h : Two w b (.slice (some ⟨g, 0, none⟩) n cap) X v2 Y) (hn : X.length = n) : Two (w.setCell ⟨g, i, none⟩ (.int .i64 y)) b (.slice (some ⟨g, 0, none⟩) n cap) (X.set i y) v2 Y := by
  have hg : g ∈ rowBlk (.slice (some ⟨g, 0, none⟩) n cap) := by simp [rowBlk]
  refine ⟨⟨?_, h.o1.ge, by simp⟩, ⟨h.o2.row.keep (behind_set2 (b := g) (Wr := [g])) (fun k hk hm => ?_), h.o2.ge, by simp⟩, h.dis⟩
  · have := h.o1.row
    rw [hn] at this
    rw [List.length_set, hn]
    exact this.setI
  · rw [List.mem_singleton] at hm
    subst hm
    exact h.dis _ hg hk
theorem Two.mono {w : World} {b b' : Nat} {v1 v2 : Value} {X Y : List Int} (h : Two w b v1 X v2 Y) (hb : b' ≤ b) : Two w b' v1 X v2 Y := ⟨h.o1.mono hb, h.o2.mono hb, h.dis⟩
theorem Two.first {w : World} {b n cap : Nat} {p : Option Addr} {v2 : Value} {X Y : List Int} (h : Two w b (.slice p n cap) X v2 Y) (h0 : 0 < X.length) : ∃ g, p = some ⟨g, 0, none⟩ ∧ b ≤ g ∧ n = X.length ∧ g < w.heap.size ∧ (∀ i, w.frozen? ⟨g, i, none⟩ = false) ∧ ∀ i y, X[i]? = some y → w.cell? ⟨g, i, none⟩ = some (.int .i64 y) := by
  have hr := h.o1.row
  generalize hl : X.length = l at hr
  generalize hv : Value.slice p n cap = v at hr
  generalize hz : ints X = zs at hr
  cases hr with
  | nil => omega
  | @row g l cap' zs cur hr =>
    cases hv
    refine ⟨g, rfl, h.o1.ge g (by simp [rowBlk]), rfl, lt_of_heap hr.blk, fun i => blk_free hr.blk i, fun i y hi => ?_⟩
    have h2 := hr.tk
    have hi' : (ints X)[i]? = some (.int .i64 y) := ints_get _ _ _ hi
    rw [hz, ← h2, List.getElem?_take] at hi'
    split at hi'
    · exact blk_cell hr.blk i (by simpa using hi')
    · cases hi'
/-- The first j numbers cut down to m. -/
def clipL (C : List Int) (m : Int) (j : Nat) : List Int := (C.take j).map (fun c => min c m) ++ C.drop j
theorem clipL_zero (C : List Int) (m : Int) : clipL C m 0 = C := by simp [clipL]
theorem clipL_all (C : List Int) (m : Int) : clipL C m C.length = C.map fun c => min c m := by simp [clipL]
theorem clipL_len (C : List Int) (m : Int) (j : Nat) : (clipL C m j).length = C.length := by simp [clipL]; omega
theorem clipL_get {C : List Int} {m : Int} {j : Nat} (h : j < C.length) : (clipL C m j)[j]? = some (C.getD j 0) := by
  unfold clipL
  rw [List.getElem?_append_right (by simp; omega)]
  simp [List.getD, h, Nat.min_eq_left (Nat.le_of_lt h)]
theorem clipL_succ {C : List Int} {m : Int} {j : Nat} (h : j < C.length) : clipL C m (j + 1) = (clipL C m j).set j (min (C.getD j 0) m) := by
  apply List.ext_getElem?
  intro i
  unfold clipL
  by_cases hij : i = j
  · subst hij
    rw [List.getElem?_set_self (by simp; omega), List.getElem?_append_left (by simp; omega)]
    simp [List.getElem?_take, List.getD, h]
  · rw [List.getElem?_set_ne (Ne.symm hij)]
    by_cases hi : i < j
    · rw [List.getElem?_append_left (by simp; omega), List.getElem?_append_left (by simp; omega)]
      simp [List.getElem?_take, hi, show i < j + 1 by omega]
    · rw [List.getElem?_append_right (by simp; omega), List.getElem?_append_right (by simp; omega)]
      simp only [List.length_map, List.length_take, List.getElem?_drop]
      congr 1
      omega
end Go.Proofs.YtchamkbnapjidaaDoor
