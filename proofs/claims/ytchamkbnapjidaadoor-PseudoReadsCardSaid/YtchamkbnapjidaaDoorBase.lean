/- Small laws on worlds, rows of cells and slices. -/
import Derived.WalkKit
import Derived.StillTailTactics
import Derived.Deep.QuietTactic
import Derived.BigQuiet
namespace Go.Proofs.YtchamkbnapjidaaDoor
open Go.RowKit

/-- Block g of the world is the row of cells xs, of element type E; none of it is frozen. -/
def Row (w : World) (g : Nat) (E : TypeId) (xs : List Value) : Prop := w.heap[g]? = some (.cells xs.toArray E (0, 0))

theorem Row.lt {w : World} {g : Nat} {E : TypeId} {xs : List Value} (h : Row w g E xs) : g < w.heap.size := (Array.getElem?_eq_some_iff.1 h).1

theorem Row.cell? {w : World} {g : Nat} {E : TypeId} {xs : List Value} (h : Row w g E xs) (i : Nat) : w.cell? ⟨g, i, none⟩ = xs[i]? := by
  rw [cell_of_row w g i xs.toArray E (0, 0) h]; simp

theorem Row.cell {w : World} {g : Nat} {E : TypeId} {xs : List Value} (h : Row w g E xs) {i : Nat} {v : Value} (hi : xs[i]? = some v) : w.cell? ⟨g, i, none⟩ = some v := by
  rw [h.cell?, hi]

theorem Row.free {w : World} {g : Nat} {E : TypeId} {xs : List Value} (h : Row w g E xs) (i : Nat) : w.frozen? ⟨g, i, none⟩ = false :=
  frozen_of_row w g i xs.toArray E h

theorem Row.set {w : World} {g : Nat} {E : TypeId} {xs : List Value} (h : Row w g E xs) (i : Nat) (v : Value) : Row (w.setCell ⟨g, i, none⟩ v) g E (xs.set i v) := by
  unfold Row at *
  rw [heap_setCell_same w g i xs.toArray E v h]; simp

theorem Row.setOther {w : World} {g : Nat} {E : TypeId} {xs : List Value} (h : Row w g E xs) (a : Addr) (ha : a.block ≠ g) (v : Value) : Row (w.setCell a v) g E xs := by
  unfold Row at *
  rw [heap_setCell_other w a g v (by omega)]; exact h

theorem Row.alloc {w : World} {g : Nat} {E : TypeId} {xs : List Value} (h : Row w g E xs) (o : Obj) : Row (w.alloc o) g E xs := by
  have := h.lt
  unfold Row at *
  rw [heap_alloc_old w o this]; exact h

theorem Row.drew {w : World} {g : Nat} {E : TypeId} {xs : List Value} (h : Row w g E xs) : Row w.drew g E xs := h

theorem Row.drewN {w : World} {g : Nat} {E : TypeId} {xs : List Value} (h : Row w g E xs) (n : Nat) : Row (w.drewN n) g E xs := h

theorem Row.below {w w' : World} {g B : Nat} {E : TypeId} {xs : List Value} (h : Row w g E xs) (hb : Below B w w') (hg : g < B) : Row w' g E xs := by
  unfold Row at *
  rw [hb.block g hg]; exact h

theorem Row.grown {w w' : World} {g : Nat} {r : Option Nat} {E : TypeId} {xs : List Value} (h : Row w g E xs) (hb : w.grownBy w' r) (hg : r ≠ some g) : Row w' g E xs := by
  have := h.lt
  unfold Row at *
  rw [hb.block g this (fun e => hg e.symm)]; exact h

theorem Row.new (w : World) (E : TypeId) (xs : List Value) : Row (w.alloc (.cells xs.toArray E)) w.heap.size E xs := heap_alloc_new w _

theorem Row.newA (w : World) (E : TypeId) (xs : Array Value) : Row (w.alloc (.cells xs E)) w.heap.size E xs.toList := heap_alloc_new w _

/-- What 'make' has laid, with the length for its capacity, is a whole row. -/
theorem Row.ofOwns {w : World} {base g n : Nat} {E : TypeId} {xs : List Value} (h : w.ownsRow base E 1 (.slice (some ⟨g, 0, none⟩) n n) n xs) : Row w g E xs := by
  rcases h.2 with ⟨h', _⟩ | ⟨g', cap', cur, h', _, hg, _, _, hs, htake⟩
  · simp at h'
  · simp only [Value.slice.injEq, Option.some.injEq, Addr.mk.injEq, and_true, true_and] at h'
    obtain ⟨rfl, rfl⟩ := h'
    have : cur.toList = xs := by
      rw [← htake, List.take_of_length_le]
      simp; omega
    subst this
    simpa [Row] using hg

theorem below_cell {B : Nat} {w w' : World} (h : Below B w w') {b o : Nat} {v : Value} (hb : b < B) (hv : w.cell? ⟨b, o, none⟩ = some v) : w'.cell? ⟨b, o, none⟩ = some v := by
  rw [h.cell (p := ⟨b, o, none⟩) hb]; exact hv

theorem cell_setOther {w : World} {a b : Addr} {v x : Value} (hb : w.cell? b = some x) (h : b.block ≠ a.block) : (w.setCell a v).cell? b = some x := by
  rw [← hb]
  exact World.cell?_of_block (w := w) (Below.heap_setCell w a v b.block h)

theorem frozen_setOther {w : World} {a b : Addr} {v : Value} {x : Bool} (hb : w.frozen? b = x) (h : b.block ≠ a.block) : (w.setCell a v).frozen? b = x := by
  rw [← hb]
  exact World.frozen?_of_block (w := w) (Below.heap_setCell w a v b.block h)

theorem _root_.Go.RowKit.Below.drewN {B : Nat} {a w : World} (h : Below B a w) (n : Nat) : Below B a (w.drewN n) := ⟨h.os, h.tape, h.output, h.size, h.block⟩

theorem grown_below {w w' : World} {r : Option Nat} {B : Nat} (h : w.grownBy w' r) (hB : B ≤ w.heap.size) (hr : ∀ k, r = some k → B ≤ k) : Below B w w' :=
  (Below.refl B w).grown h hB hr

theorem beq_no {a b : Int} (h : a ≠ b) : (a == b) = false := beq_eq_false_iff_ne.2 h
theorem beq_yes {a b : Int} (h : a = b) : (a == b) = true := beq_iff_eq.2 h

theorem ret_int {k : IntKind} {a b : Int} (h : a = b) : Ending.returned (.int k a) = .returned (.int k b) := by rw [h]
theorem ret_bool {a b : Bool} (h : a = b) : Ending.returned (.bool a) = .returned (.bool b) := by rw [h]
theorem ret_str {a b : ByteArray} (h : a = b) : Ending.returned (.string a) = .returned (.string b) := by rw [h]

/-- Numbers as bytes in memory. -/
def u8s (l : List Nat) : List Value := l.map fun d => .int .u8 (d : Nat)
def u32s (l : List Nat) : List Value := l.map fun d => .int .u32 (d : Nat)
def ints (l : List Int) : List Value := l.map fun d => .int .i64 d

theorem u8s_get (l : List Nat) (i d : Nat) (h : l[i]? = some d) : (u8s l)[i]? = some (.int .u8 (d : Nat)) := by simp [u8s, h]
theorem u8s_set (l : List Nat) (i d : Nat) : (u8s l).set i (.int .u8 (d : Nat)) = u8s (l.set i d) := by simp [u8s, List.map_set]
theorem u32s_get (l : List Nat) (i d : Nat) (h : l[i]? = some d) : (u32s l)[i]? = some (.int .u32 (d : Nat)) := by simp [u32s, h]
theorem u32s_set (l : List Nat) (i d : Nat) : (u32s l).set i (.int .u32 (d : Nat)) = u32s (l.set i d) := by simp [u32s, List.map_set]
theorem ints_get (l : List Int) (i : Nat) (d : Int) (h : l[i]? = some d) : (ints l)[i]? = some (.int .i64 d) := by simp [ints, h]
theorem ints_set (l : List Int) (i : Nat) (d : Int) : (ints l).set i (.int .i64 d) = ints (l.set i d) := by simp [ints, List.map_set]
theorem made_one (z : Value) (n : Nat) : (madeCells #[z] n).toList = List.replicate n z := by
  apply List.ext_getElem
  · simp [madeCells]
  · intro i h1 h2; simp [madeCells, Nat.mod_one]
theorem u32s_zeros (n : Nat) : (madeCells #[Value.int .u32 0] n).toList = u32s (List.replicate n 0) := by
  rw [made_one]; simp [u32s, List.map_replicate]
theorem u8s_zeros (n : Nat) : (madeCells #[Value.int .u8 0] n).toList = u8s (List.replicate n 0) := by
  rw [made_one]; simp [u8s, List.map_replicate]
theorem ints_zeros (n : Nat) : (madeCells #[Value.int .i64 0] n).toList = ints (List.replicate n 0) := by
  rw [made_one]; simp [ints, List.map_replicate]

/-- A string of bytes. -/
def mkStr (l : List Nat) : ByteArray := ⟨(l.map UInt8.ofNat).toArray⟩

theorem mkStr_size (l : List Nat) : (mkStr l).size = l.length := by simp [mkStr, ByteArray.size]

theorem run_string_of_row {P : Program} {w : World} {g : Nat} {E : TypeId} {xs : List Nat} (hR : Row w g E (u8s xs)) (src e dst n cap : Nat) (hn : n ≤ xs.length)
    (hs : P.underlying src = some (.slice e)) (he : P.underlying e = some (.int .u8)) (hd : P.underlying dst = some .string) :
    (convert src dst (.slice (some ⟨g, 0, none⟩) n cap)).run P w = .ok (.string (mkStr (xs.take n))) w := by
  have h := run_convert_bytes_arg (P := P) w src e hs he g 0 n cap ((xs.take n).map Int.ofNat) (by simp; omega) (fun i hi => by
    rw [Nat.zero_add]
    have he : ((xs.take n).map Int.ofNat).getD i 0 = ((xs[i]'(by omega) : Nat) : Int) := by
      simp [List.getD_eq_getElem?_getD, hi, show i < xs.length by omega]
    rw [he]
    exact hR.cell (u8s_get xs i _ (List.getElem?_eq_getElem (by omega)))) dst hd
  rw [h]
  congr 2
  simp [strOfNums, mkStr, Function.comp_def]

/-! ### Regions that draw their order -/

theorem still_of_quiet {P : Program} {ops : Array Oper} {w : World} {Q : Act → Prop} : ∀ (l : List Oper) (a : Act),
    wpQuiet P ops (fun w' => w' = w) Q l a → wpStill P ops w Q l a
  | [], _, h => h
  | o :: rest, a, h => by
    unfold wpQuiet at h
    unfold wpStill
    by_cases hw : Region.wanted o (yielded ops a.tmps) = true
    · simp only [hw, if_true] at h ⊢
      obtain ⟨v, h1, h2⟩ := h
      have h3 := h1 w rfl
      have h4 := still_of_quiet rest _ h2
      unfold Oper.quietAt at h3
      unfold Oper.still
      generalize (execOp a.eval o).run P w = r at *
      cases r with
      | ok n w' =>
        cases n <;> simp only [Oper.quietUpon] at h3 <;> simp only [Oper.stillUpon]
        case value u => obtain ⟨e1, e2⟩ := h3; subst e1; subst e2; exact ⟨rfl, h4⟩
        case skip => obtain ⟨e1, e2⟩ := h3; subst e1; subst e2; exact ⟨rfl, h4⟩
        case enter f args => obtain ⟨e1, hc⟩ := h3; subst e1; exact ⟨rfl, v, hc, h4⟩
      | halt x w' => simp only [Oper.quietUpon] at h3
    · simp only [Bool.not_eq_true] at hw
      simp only [hw, Bool.false_eq_true, if_false] at h ⊢
      exact still_of_quiet rest _ h

/-- A region that draws its order: n operations that only read, then a forced tail. -/
theorem wp_region_tail {P : Program} {id : Nat} {Q : Exit → Act → World → Prop} {a : Act} {w : World} {l : List Oper} (n : Nat) (hm : P.follows .mixedOrders = true) (hB : Region.lexTailB .any l.toArray n = true)
    (h : wpQuiet P l.toArray (fun w' => w' = w.drew) (fun a' => wpList P l.toArray Q (l.drop n) a' w.drew) (l.take n) a) : (Code.region id l.toArray true).wp P Q a w :=
  wp_region_still_tail n hm hB (still_of_quiet _ _ h)

end Go.Proofs.YtchamkbnapjidaaDoor
