/- append in a region that draws its order, whatever the row. -/
import Derived.Test.YtchamkbnapjidaaDoorKB
namespace Go.Proofs.YtchamkbnapjidaaDoor
open Go.RowKit

/-- The kind of an append in the game. -/
def kA (v : Value) (n m : Nat) : Nat := match v with
  | .slice (some _) _ cap => if n + m ≤ cap then 2 else 5
  | _ => 5
theorem kA_or (v : Value) (n m : Nat) : kA v n m = 2 ∨ kA v n m = 5 := by
  unfold kA
  split
  · split
    · exact .inl rfl
    · exact .inr rfl
  · exact .inr rfl
/-- The block of a row, as it stands in a world. -/
def rowB (w : World) (v : Value) : Blocks := fun g => if g ∈ rowBlk v then w.heap[g]? else none
theorem has_rowB (w : World) (v : Value) : Has (rowB w v) w := fun b o h => by
  unfold rowB at h
  split at h
  · exact h
  · cases h
theorem fin_rowB (w : World) (v : Value) : Fin (rowB w v) := ⟨w.heap.size, fun b hb => by
  unfold rowB
  split
  · exact Array.getElem?_eq_none hb
  · rfl⟩
theorem rowB_out {w : World} {v : Value} {g : Nat} (h : g ∉ rowBlk v) : rowB w v g = none := if_neg h
theorem rowV_rowB {w : World} {E : TypeId} {size : Nat} {v : Value} {n : Nat} {xs : List Value} (h : RowV (inW w) E size v n xs) : RowV (rowB w v) E size v n xs := by
  cases h with
  | nil => exact .nil
  | @row g n cap xs cur h => exact .row (h.of (by unfold rowB; rw [if_pos (by simp [rowBlk])]; exact h.blk))
theorem RowV.of_put {B : Blocks} {E : TypeId} {size : Nat} {v : Value} {n : Nat} {xs : List Value} {b : Nat} {ob : Obj} (h : RowV B E size v n xs) (hb : b ∉ rowBlk v) : RowV (B.put b ob) E size v n xs := by
  cases h with
  | nil => exact .nil
  | @row g n cap xs cur h => exact .row (h.of ((Blocks.put_other _ _ (fun e => hb (by simp [rowBlk, e]))).trans h.blk))
theorem RowV.of_has {B : Blocks} {x : World} {E : TypeId} {size : Nat} {v : Value} {n : Nat} {xs : List Value} (h : RowV B E size v n xs) (hx : Has B x) : RowV (inW x) E size v n xs := by
  cases h with
  | nil => exact .nil
  | @row g n cap xs cur h => exact .row (h.of (hx _ _ h.blk))

section
variable {P : Program} {ops : Array Oper} {w : World} {Wr : List Nat}
theorem lex_append_v {kd : Nat → Nat} {Q : Act → Blocks → Prop} {B : Blocks} {rest : List Oper} {k d : Nat} {ty : TypeId} {pos : String} {after : Array Edge} {a : Act} (s y : Operand) (t E : TypeId) (i : TypeInfo) (z : Value) (size bytes : Nat)
    (ht : P.underlying t = some (.slice E)) (hi : P.info? E = some i) (hz : i.zero = some z) (hsize : i.size = size) (hby : i.bytes = bytes) (hzs : z.cells.size = size)
    (v : Value) (n : Nat) (xs : List Value) (hrow : RowV B E size v n xs) (hs : a.eval s = v)
    (g2 m c2 : Nat) (news : List Value) (E2 : TypeId) (hy : a.eval y = .slice (some ⟨g2, 0, none⟩) m c2) (hn2 : B g2 = some (.cells news.toArray E2 (0, 0))) (hl : news.length = m * size) (h1 : ∀ u ∈ news, u.oneCell' = true) (h0 : 0 < m)
    (h63 : n + m ≤ maxLen) (hbytes : (n + m) * bytes ≤ 140737488355328) (hW : ∀ g ∈ rowBlk v, g ∈ Wr ∨ w.heap.size ≤ g) (hk : kd k = kA v n m)
    (h : ∀ (g' cap' : Nat) (ob : Obj), RowV (B.put g' ob) E size (.slice (some ⟨g', 0, none⟩) (n + m) cap') (n + m) (xs ++ news) → (g' ∈ rowBlk v ∨ (w.heap.size ≤ g' ∧ B g' = none)) →
      setSlot P ops d ty pos (.slice (some ⟨g', 0, none⟩) (n + m) cap') (fun a' => wpLex P ops w Wr kd Q rest (k + 1) a' (B.put g' ob)) a) :
    wpLex P ops w Wr kd Q (⟨some d, .call { callee := .builtin .append, args := #[s, y], argTypes := #[t, t] }, ty, pos, after, none⟩ :: rest) k a B := by
  cases hrow with
  | nil =>
    refine lex_append_nil s y t E i z size bytes ht hi hz hsize hby hzs hs g2 m c2 news E2 hy hn2 hl h0 (by omega) (by rw [Nat.zero_add] at hbytes; exact hbytes) hk (fun g' cap' cur' hr hg hn => ?_)
    have := h g' cap' (.cells cur' E (0, 0)) (by rw [Nat.zero_add, List.nil_append]; exact .row hr) (.inr ⟨hg, hn⟩)
    rw [Nat.zero_add] at this
    exact this
  | @row g n cap xs cur hr =>
    refine lex_append s y t E i z size bytes ht hi hz hsize hby hzs g n cap xs cur hr hs g2 m c2 news E2 hy hn2 hl h1 h63 hbytes (hW g (by simp [rowBlk])) hk (fun g' cap' cur' hr' hg => ?_)
    exact h g' cap' (.cells cur' E (0, 0)) (.row hr') (hg.imp (fun e => by simp [rowBlk, e]) id)
end
end Go.Proofs.YtchamkbnapjidaaDoor
