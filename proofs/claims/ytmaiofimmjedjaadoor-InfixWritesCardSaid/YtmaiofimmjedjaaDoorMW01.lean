/- Texts of this claim, joined: Base, Plus. -/
import Derived.WalkKit
import Derived.StillTailTactics
import Derived.Deep.QuietTactic
import Derived.BigQuiet
import Derived.Deep.Quiet
import Derived.StillTail

/- Small laws on worlds, rows of cells and slices. -/
namespace Go.Proofs.YtmaiofimmjedjaaDoor
open Go.RowKit

def Row (w : World) (g : Nat) (E : TypeId) (xs : List Value) : Prop := w.heap[g]? = some (.cells xs.toArray E (0, 0))

theorem Row.lt {w : World} {g : Nat} {E : TypeId} {xs : List Value} (h : Row w g E xs) : g < w.heap.size := (Array.getElem?_eq_some_iff.1 h).1

theorem Row.cell? {w : World} {g : Nat} {E : TypeId} {xs : List Value} (h : Row w g E xs) (i : Nat) : w.cell? ⟨g, i, none⟩ = xs[i]? := by
  rw [cell_of_row w g i xs.toArray E (0, 0) h]; simp

theorem Row.cell {w : World} {g : Nat} {E : TypeId} {xs : List Value} (h : Row w g E xs) {i : Nat} {v : Value} (hi : xs[i]? = some v) : w.cell? ⟨g, i, none⟩ = some v := by
  rw [h.cell?, hi]

theorem Row.free {w : World} {g : Nat} {E : TypeId} {xs : List Value} (h : Row w g E xs) (i : Nat) : w.frozen? ⟨g, i, none⟩ = false :=
  frozen_of_row w g i xs.toArray E h

theorem Row.set {w : World} {g : Nat} {E : TypeId} {xs : List Value} (h : Row w g E xs) (i : Nat) (v : Value) : Row (w.setCell ⟨g, i, none⟩ v) g E (xs.set i v) := by
  unfold Row at *
  rw [heap_setCell_same w g i xs.toArray E v h]; simp

theorem Row.alloc {w : World} {g : Nat} {E : TypeId} {xs : List Value} (h : Row w g E xs) (o : Obj) : Row (w.alloc o) g E xs := by
  have := h.lt
  unfold Row at *
  rw [heap_alloc_old w o this]; exact h

theorem Row.drew {w : World} {g : Nat} {E : TypeId} {xs : List Value} (h : Row w g E xs) : Row w.drew g E xs := h

theorem Row.below {w w' : World} {g B : Nat} {E : TypeId} {xs : List Value} (h : Row w g E xs) (hb : Below B w w') (hg : g < B) : Row w' g E xs := by
  unfold Row at *
  rw [hb.block g hg]; exact h

theorem Row.grown {w w' : World} {g : Nat} {r : Option Nat} {E : TypeId} {xs : List Value} (h : Row w g E xs) (hb : w.grownBy w' r) (hg : r ≠ some g) : Row w' g E xs := by
  have := h.lt
  unfold Row at *
  rw [hb.block g this (fun e => hg e.symm)]; exact h

theorem Row.new (w : World) (E : TypeId) (xs : List Value) : Row (w.alloc (.cells xs.toArray E)) w.heap.size E xs := heap_alloc_new w _

theorem below_cell {B : Nat} {w w' : World} (h : Below B w w') {b o : Nat} {v : Value} (hb : b < B) (hv : w.cell? ⟨b, o, none⟩ = some v) : w'.cell? ⟨b, o, none⟩ = some v := by
  rw [h.cell (p := ⟨b, o, none⟩) hb]; exact hv

theorem beq_no {a b : Int} (h : a ≠ b) : (a == b) = false := beq_eq_false_iff_ne.2 h
def ints (l : List Int) : List Value := l.map fun d => .int .i64 d

theorem ints_get (l : List Int) (i : Nat) (d : Int) (h : l[i]? = some d) : (ints l)[i]? = some (.int .i64 d) := by simp [ints, h]
/-! ### Regions that draw their order -/

end Go.Proofs.YtmaiofimmjedjaaDoor

/- Regions that draw their order, whose operations read and whose callees lay blocks of their own: one walk serves every order. -/
namespace Go.Proofs.YtmaiofimmjedjaaDoor
open Go.RowKit

section
variable {P : Program} {ops : Array Oper} {md : Region.Mode} {C : World → Prop}

def HeadQ (P : Program) (md : Region.Mode) (ops : Array Oper) (C : World → Prop) (n : Nat) (L : Array Bool → Act → Prop) : Nat → Array Bool → Act → Prop
  | 0, s, a => L s a
  | f + 1, s, a => Region.ready md ops s ≠ [] ∧ ∀ i ∈ Region.ready md ops s, i < n ∧ qOp P ops C i (HeadQ P md ops C n L f (s.setIfInBounds i true)) a

theorem HeadQ.any {n g : Nat} {L : Array Bool → Act → Prop} {Q' : Exit → Act → World → Prop} (hL : ∀ s a w, C w → L s a → wpAny P md ops Q' g s a w) :
    ∀ (f : Nat) (s : Array Bool) (a : Act) (w : World), C w → HeadQ P md ops C n L f s a → wpAny P md ops Q' (f + g) s a w
  | 0, s, a, w, hw, h => by rw [Nat.zero_add]; exact hL _ _ _ hw h
  | f + 1, s, a, w, hw, h => by
    rw [show f + 1 + g = (f + g) + 1 by omega]
    exact ⟨fun h0 => absurd h0 h.1, fun i hi => wpOp_of_qOp hw (fun a' w' hw' h' => HeadQ.any hL f _ a' w' hw' h') (h.2 i hi).2⟩

theorem HeadQ.first {n i : Nat} {oi : Oper} {v : Value} {L : Array Bool → Act → Prop} (hi : ops[i]? = some oi) (hsel : ∀ (j : Nat) (o : Oper) cs b, ops[j]? = some o → o.op ≠ .select cs b)
    (hs : Region.sinkB md ops n = true) (hc : Region.chainB md ops n = true) (hn : n < ops.size) (hin : i < n) (hdone : ∀ s a, L s a → ∀ j ∈ Region.ready md ops s, n ≤ j) (f : Nat) :
    ∀ (s : Array Bool) (a : Act), HeadInv md ops n s →
      (∀ j oj, ops[j]? = some oj → j ≠ i → s.getD j true = false → (∀ e ∈ oj.after, Region.binds md e = true → e.on ≠ i) → oi.apart ops oj = true) →
      i ∈ Region.ready md ops s → YieldsIn P ops C oi v a → HeadQ P md ops C n L f (s.setIfInBounds i true) (a.put oi.dst v) → HeadQ P md ops C n L (f + 1) s a := by
  induction f with
  | zero =>
    intro s a inv _ hr hy H
    refine ⟨List.ne_nil_of_mem hr, fun j hj => ?_⟩
    have hjn : j < n := Nat.lt_of_not_le fun h => tail_waits hs hc hn inv _ i rfl hin (mem_ready.1 hr).1 j h hj
    refine ⟨hjn, ?_⟩
    rcases Decidable.em (j = i) with rfl | hji
    · exact hy.qOp hi H
    · exact absurd (hdone _ _ H j (ready_mono hj hji)) (by omega)
  | succ f ih =>
    intro s a inv hfree hr hy H
    have hun := (mem_ready.1 hr).1
    refine ⟨List.ne_nil_of_mem hr, fun j hj => ?_⟩
    have hjn : j < n := Nat.lt_of_not_le fun h => tail_waits hs hc hn inv _ i rfl hin hun j h hj
    refine ⟨hjn, ?_⟩
    rcases Decidable.em (j = i) with rfl | hji
    · exact hy.qOp hi H
    · obtain ⟨hjun, oj, hoj, hall⟩ := mem_ready.1 hj
      have hnot : ∀ e ∈ oj.after, Region.binds md e = true → e.on ≠ i := fun e he hb heq => by
        have := hall e he hb
        rw [heq, getD_both hun] at this
        cases this
      have h2 := qOp_put hoj (hfree j oj hoj hji hjun hnot) (fun cs b => hsel i oi cs b hi) (fun cs b => hsel j oj cs b hoj) hy (H.2 j (ready_mono hj hji)).2
      refine qOp_mono (fun a' h3 => ih (s.setIfInBounds j true) a' (inv.set hj hjn) (fun k ok hk hki hu hno => hfree k ok hk hki ?_ hno) (ready_mono hr (Ne.symm hji)) h3.1 ?_) h2
      · rcases Decidable.em (j = k) with rfl | hjk
        · exact hjun
        · rwa [getD_set_ne true hjk] at hu
      · rw [Array.setIfInBounds_comm _ _ hji]; exact h3.2

theorem HeadQ.lex {n g : Nat} {Lq : Act → Prop} (hsel : Region.noSelect ops = true) (hs : Region.sinkB md ops n = true) (hc : Region.chainB md ops n = true) (hn : n < ops.size) :
    ∀ (l : List Oper) (k : Nat) (s : Array Bool) (a : Act), (∀ j, j < l.length → l[j]? = ops[k + j]?) → k + l.length = n → HeadInv md ops n s → Region.lexHead md ops g l.length k s = true →
    wpQuiet P ops C Lq l a → HeadQ P md ops C n (fun s' a' => Region.seqB md ops g n s' = true ∧ Lq a') l.length s a
  | [], k, s, a, _, hk, _, hB, h => by
    obtain rfl : k = n := by simpa using hk
    exact ⟨by simpa [Region.lexHead] using hB, h⟩
  | o :: l, k, s, a, hl, hk, inv, hB, h => by
    have h0 : ops[k]? = some o := by simpa using (hl 0 (by simp)).symm
    simp only [List.length_cons, Region.lexHead, Bool.and_eq_true] at hB
    have hkn : k < n := by simp only [List.length_cons] at hk; omega
    have hr' : k ∈ Region.ready md ops s := by simpa using hB.1.1
    obtain ⟨v, hy, hK⟩ := yieldsIn_of_qOp h0 (show qOp P ops C k (wpQuiet P ops C Lq l) a by unfold qOp; simp only [h0]; exact h)
    exact HeadQ.first h0 (Region.noSelect_spec hsel) hs hc hn hkn (fun _ _ hL => seqB_ready hL.1) l.length s a inv (Region.free_spec h0 hB.1.2) hr' hy
      (HeadQ.lex hsel hs hc hn l (k + 1) _ _ (fun j hj => by have := hl (j + 1) (by simp; omega); simpa [Nat.add_assoc, Nat.add_comm 1 j] using this) (by simp only [List.length_cons] at hk; omega) (inv.set hr' hkn) hB.2 hK)

end

structure Extra where
  blocks : Array Obj
  drawn : Nat
  deriving Inhabited

def plus (w : World) (p : Extra) : World := { w with heap := w.heap ++ p.blocks, drawn := p.drawn }

theorem plus_of_below {w w' : World} (h : Below w.heap.size w w') : ∃ p, w' = plus w p := by
  refine ⟨⟨w'.heap.extract w.heap.size, w'.drawn⟩, ?_⟩
  obtain ⟨h1, h2, h3, h4, h5⟩ := h
  cases w' with
  | mk heap tape drawn os output =>
    simp only at h1 h2 h3 h4 h5
    subst h1 h2 h3
    unfold plus
    congr
    apply Array.ext_getElem?
    intro i
    rcases Nat.lt_or_ge i w.heap.size with hi | hi
    · rw [Array.getElem?_append_left hi]; exact h5 i hi
    · rw [Array.getElem?_append_right hi, Array.getElem?_extract]
      rcases Nat.lt_or_ge i heap.size with hj | hj
      · rw [if_pos (by simp; omega)]; congr 1; omega
      · rw [if_neg (by simp; omega)]; exact Array.getElem?_eq_none hj

theorem below_plus (w : World) (p : Extra) : Below w.heap.size w (plus w p) :=
  ⟨rfl, rfl, rfl, by simp [plus], fun k hk => by simp only [plus]; exact Array.getElem?_append_left hk⟩

theorem plus_size (w : World) (p : Extra) : w.heap.size ≤ (plus w p).heap.size := (below_plus w p).size

theorem plus_cell {w : World} {b o : Nat} {v : Value} (h : w.cell? ⟨b, o, none⟩ = some v) (hb : b < w.heap.size) (p : Extra) : (plus w p).cell? ⟨b, o, none⟩ = some v := below_cell (below_plus w p) hb h

theorem calls_plus {P : Program} {f : FuncId} {args : Array Value} {w : World} {p : Extra} {v : Value} (h : Calls P f args (plus w p) fun e w' => e = .returned v ∧ Below (plus w p).heap.size (plus w p) w') :
    Calls P f args (plus w p) fun e w'' => e = .returned v ∧ ∃ q, w'' = plus w q :=
  h.mono fun _ _ ⟨he, hb⟩ => ⟨he, plus_of_below ((below_plus w p).trans (hb.mono (plus_size w p)))⟩

end Go.Proofs.YtmaiofimmjedjaaDoor
