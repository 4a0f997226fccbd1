/- Texts of this claim, joined: Base, NatA, Plus. -/
import Derived.WalkKit
import Derived.StillTailTactics
import Derived.Deep.QuietTactic
import Derived.BigQuiet
import Derived.Test.YtajjgfiojlagmaaGreatDoorMO01
import Derived.Deep.Quiet
import Derived.StillTail

/- Small laws on worlds, rows of cells and slices. -/
namespace Go.Proofs.YtajjgfiojlagmaaGreatDoor
open Go.RowKit

def Row (w : World) (g : Nat) (E : TypeId) (xs : List Value) : Prop := w.heap[g]? = some (.cells xs.toArray E (0, 0))

theorem Row.lt {w : World} {g : Nat} {E : TypeId} {xs : List Value} (h : Row w g E xs) : g < w.heap.size := (Array.getElem?_eq_some_iff.1 h).1

theorem Row.cell? {w : World} {g : Nat} {E : TypeId} {xs : List Value} (h : Row w g E xs) (i : Nat) : w.cell? ⟨g, i, none⟩ = xs[i]? := by
  rw [cell_of_row w g i xs.toArray E (0, 0) h]; simp

theorem Row.cell {w : World} {g : Nat} {E : TypeId} {xs : List Value} (h : Row w g E xs) {i : Nat} {v : Value} (hi : xs[i]? = some v) : w.cell? ⟨g, i, none⟩ = some v := by
  rw [h.cell?, hi]

theorem Row.free {w : World} {g : Nat} {E : TypeId} {xs : List Value} (h : Row w g E xs) (i : Nat) : w.frozen? ⟨g, i, none⟩ = false :=
  frozen_of_row w g i xs.toArray E h

theorem Row.set {w : World} {g : Nat} {E : TypeId} {xs : List Value} (h : Row w g E xs) (i : Nat) (v : Value) : Row (w.setCell ⟨g, i, none⟩ v) g E (xs.set i v) := by
  unfold Row at *
  rw [heap_setCell_same w g i xs.toArray E v h]; simp

theorem Row.setOther {w : World} {g : Nat} {E : TypeId} {xs : List Value} (h : Row w g E xs) (a : Addr) (ha : a.block ≠ g) (v : Value) : Row (w.setCell a v) g E xs := by
  unfold Row at *
  rw [heap_setCell_other w a g v (by omega)]; exact h

theorem Row.alloc {w : World} {g : Nat} {E : TypeId} {xs : List Value} (h : Row w g E xs) (o : Obj) : Row (w.alloc o) g E xs := by
  have := h.lt
  unfold Row at *
  rw [heap_alloc_old w o this]; exact h

theorem Row.drew {w : World} {g : Nat} {E : TypeId} {xs : List Value} (h : Row w g E xs) : Row w.drew g E xs := h

theorem Row.drewN {w : World} {g : Nat} {E : TypeId} {xs : List Value} (h : Row w g E xs) (n : Nat) : Row (w.drewN n) g E xs := h

theorem Row.below {w w' : World} {g B : Nat} {E : TypeId} {xs : List Value} (h : Row w g E xs) (hb : Below B w w') (hg : g < B) : Row w' g E xs := by
  unfold Row at *
  rw [hb.block g hg]; exact h

theorem Row.grown {w w' : World} {g : Nat} {r : Option Nat} {E : TypeId} {xs : List Value} (h : Row w g E xs) (hb : w.grownBy w' r) (hg : r ≠ some g) : Row w' g E xs := by
  have := h.lt
  unfold Row at *
  rw [hb.block g this (fun e => hg e.symm)]; exact h

theorem Row.new (w : World) (E : TypeId) (xs : List Value) : Row (w.alloc (.cells xs.toArray E)) w.heap.size E xs := heap_alloc_new w _

theorem Row.ofOwns {w : World} {base g n : Nat} {E : TypeId} {xs : List Value} (h : w.ownsRow base E 1 (.slice (some ⟨g, 0, none⟩) n n) n xs) : Row w g E xs := by
  rcases h.2 with ⟨h', _⟩ | ⟨g', cap', cur, h', _, hg, _, _, hs, htake⟩
  · simp at h'
  · simp only [Value.slice.injEq, Option.some.injEq, Addr.mk.injEq, and_true, true_and] at h'
    obtain ⟨rfl, rfl⟩ := h'
    have : cur.toList = xs := by
      rw [← htake, List.take_of_length_le]
      simp; omega
    subst this
    simpa [Row] using hg

theorem below_cell {B : Nat} {w w' : World} (h : Below B w w') {b o : Nat} {v : Value} (hb : b < B) (hv : w.cell? ⟨b, o, none⟩ = some v) : w'.cell? ⟨b, o, none⟩ = some v := by
  rw [h.cell (p := ⟨b, o, none⟩) hb]; exact hv

theorem cell_setOther {w : World} {a b : Addr} {v x : Value} (hb : w.cell? b = some x) (h : b.block ≠ a.block) : (w.setCell a v).cell? b = some x := by
  rw [← hb]
  exact World.cell?_of_block (w := w) (Below.heap_setCell w a v b.block h)

theorem frozen_setOther {w : World} {a b : Addr} {v : Value} {x : Bool} (hb : w.frozen? b = x) (h : b.block ≠ a.block) : (w.setCell a v).frozen? b = x := by
  rw [← hb]
  exact World.frozen?_of_block (w := w) (Below.heap_setCell w a v b.block h)

theorem _root_.Go.RowKit.Below.drewN {B : Nat} {a w : World} (h : Below B a w) (n : Nat) : Below B a (w.drewN n) := ⟨h.os, h.tape, h.output, h.size, h.block⟩

theorem grown_below {w w' : World} {r : Option Nat} {B : Nat} (h : w.grownBy w' r) (hB : B ≤ w.heap.size) (hr : ∀ k, r = some k → B ≤ k) : Below B w w' :=
  (Below.refl B w).grown h hB hr

theorem beq_no {a b : Int} (h : a ≠ b) : (a == b) = false := beq_eq_false_iff_ne.2 h
theorem beq_yes {a b : Int} (h : a = b) : (a == b) = true := beq_iff_eq.2 h

theorem ret_int {k : IntKind} {a b : Int} (h : a = b) : Ending.returned (.int k a) = .returned (.int k b) := by rw [h]
theorem ret_str {a b : ByteArray} (h : a = b) : Ending.returned (.string a) = .returned (.string b) := by rw [h]

def u8s (l : List Nat) : List Value := l.map fun d => .int .u8 (d : Nat)
def u32s (l : List Nat) : List Value := l.map fun d => .int .u32 (d : Nat)
def ints (l : List Int) : List Value := l.map fun d => .int .i64 d

theorem u8s_get (l : List Nat) (i d : Nat) (h : l[i]? = some d) : (u8s l)[i]? = some (.int .u8 (d : Nat)) := by simp [u8s, h]
theorem u8s_set (l : List Nat) (i d : Nat) : (u8s l).set i (.int .u8 (d : Nat)) = u8s (l.set i d) := by simp [u8s, List.map_set]
theorem u32s_get (l : List Nat) (i d : Nat) (h : l[i]? = some d) : (u32s l)[i]? = some (.int .u32 (d : Nat)) := by simp [u32s, h]
theorem u32s_set (l : List Nat) (i d : Nat) : (u32s l).set i (.int .u32 (d : Nat)) = u32s (l.set i d) := by simp [u32s, List.map_set]
theorem ints_get (l : List Int) (i : Nat) (d : Int) (h : l[i]? = some d) : (ints l)[i]? = some (.int .i64 d) := by simp [ints, h]
theorem ints_set (l : List Int) (i : Nat) (d : Int) : (ints l).set i (.int .i64 d) = ints (l.set i d) := by simp [ints, List.map_set]
theorem made_one (z : Value) (n : Nat) : (madeCells #[z] n).toList = List.replicate n z := by
  apply List.ext_getElem
  · simp [madeCells]
  · intro i h1 h2; simp [madeCells, Nat.mod_one]
theorem u32s_zeros (n : Nat) : (madeCells #[Value.int .u32 0] n).toList = u32s (List.replicate n 0) := by
  rw [made_one]; simp [u32s, List.map_replicate]
theorem u8s_zeros (n : Nat) : (madeCells #[Value.int .u8 0] n).toList = u8s (List.replicate n 0) := by
  rw [made_one]; simp [u8s, List.map_replicate]
theorem ints_zeros (n : Nat) : (madeCells #[Value.int .i64 0] n).toList = ints (List.replicate n 0) := by
  rw [made_one]; simp [ints, List.map_replicate]

def mkStr (l : List Nat) : ByteArray := ⟨(l.map UInt8.ofNat).toArray⟩

theorem mkStr_size (l : List Nat) : (mkStr l).size = l.length := by simp [mkStr, ByteArray.size]

theorem run_string_of_row {P : Program} {w : World} {g : Nat} {E : TypeId} {xs : List Nat} (hR : Row w g E (u8s xs)) (src e dst n cap : Nat) (hn : n ≤ xs.length)
    (hs : P.underlying src = some (.slice e)) (he : P.underlying e = some (.int .u8)) (hd : P.underlying dst = some .string) :
    (convert src dst (.slice (some ⟨g, 0, none⟩) n cap)).run P w = .ok (.string (mkStr (xs.take n))) w := by
  have h := run_convert_bytes_arg (P := P) w src e hs he g 0 n cap ((xs.take n).map Int.ofNat) (by simp; omega) (fun i hi => by
    rw [Nat.zero_add]
    have he : ((xs.take n).map Int.ofNat).getD i 0 = ((xs[i]'(by omega) : Nat) : Int) := by
      simp [List.getD_eq_getElem?_getD, hi, show i < xs.length by omega]
    rw [he]
    exact hR.cell (u8s_get xs i _ (List.getElem?_eq_getElem (by omega)))) dst hd
  rw [h]
  congr 2
  simp [strOfNums, mkStr, Function.comp_def]

/-! ### Regions that draw their order -/

theorem still_of_quiet {P : Program} {ops : Array Oper} {w : World} {Q : Act → Prop} : ∀ (l : List Oper) (a : Act),
    wpQuiet P ops (fun w' => w' = w) Q l a → wpStill P ops w Q l a
  | [], _, h => h
  | o :: rest, a, h => by
    unfold wpQuiet at h
    unfold wpStill
    by_cases hw : Region.wanted o (yielded ops a.tmps) = true
    · simp only [hw, if_true] at h ⊢
      obtain ⟨v, h1, h2⟩ := h
      have h3 := h1 w rfl
      have h4 := still_of_quiet rest _ h2
      unfold Oper.quietAt at h3
      unfold Oper.still
      generalize (execOp a.eval o).run P w = r at *
      cases r with
      | ok n w' =>
        cases n <;> simp only [Oper.quietUpon] at h3 <;> simp only [Oper.stillUpon]
        case value u => obtain ⟨e1, e2⟩ := h3; subst e1; subst e2; exact ⟨rfl, h4⟩
        case skip => obtain ⟨e1, e2⟩ := h3; subst e1; subst e2; exact ⟨rfl, h4⟩
        case enter f args => obtain ⟨e1, hc⟩ := h3; subst e1; exact ⟨rfl, v, hc, h4⟩
      | halt x w' => simp only [Oper.quietUpon] at h3
    · simp only [Bool.not_eq_true] at hw
      simp only [hw, Bool.false_eq_true, if_false] at h ⊢
      exact still_of_quiet rest _ h

theorem wp_region_tail {P : Program} {id : Nat} {Q : Exit → Act → World → Prop} {a : Act} {w : World} {l : List Oper} (n : Nat) (hm : P.follows .mixedOrders = true) (hB : Region.lexTailB .any l.toArray n = true)
    (h : wpQuiet P l.toArray (fun w' => w' = w.drew) (fun a' => wpList P l.toArray Q (l.drop n) a' w.drew) (l.take n) a) : (Code.region id l.toArray true).wp P Q a w :=
  wp_region_still_tail n hm hB (still_of_quiet _ _ h)

end Go.Proofs.YtajjgfiojlagmaaGreatDoor

/- The words of a number, and a number from words: plain laws. -/
namespace Go.Proofs.YtajjgfiojlagmaaGreatDoor
namespace Num

abbrev W : Nat := 4294967296

def bts (s : ByteArray) : List Nat := s.data.toList.map UInt8.toNat

theorem bts_length (s : ByteArray) : (bts s).length = s.size := by simp [bts]
theorem bts_lt (s : ByteArray) : AllLt 256 (bts s) := by
  intro d hd
  obtain ⟨x, _, rfl⟩ := List.mem_map.1 hd
  exact x.toNat_lt
theorem bts_get (s : ByteArray) (k : Nat) (h : k < s.size) : (bts s)[k]'(by rw [bts_length]; exact h) = (s[k]).toNat := by
  simp [bts]; rfl
theorem bts_getD (s : ByteArray) (k : Nat) (h : k < s.size) : (bts s).getD k 0 = (s[k]).toNat := by
  rw [List.getD_eq_getElem?_getD, List.getElem?_eq_getElem (by rw [bts_length]; exact h), bts_get s k h]; rfl

def wdAt (l : List Nat) (j : Nat) : Nat := l.getD (4 * j) 0 + 256 * l.getD (4 * j + 1) 0 + 65536 * l.getD (4 * j + 2) 0 + 16777216 * l.getD (4 * j + 3) 0
def wds (l : List Nat) (n : Nat) : List Nat := (List.range n).map (wdAt l)

theorem wdAt_lt {l : List Nat} (hl : AllLt 256 l) (j : Nat) : wdAt l j < W := by
  have h0 := hl.getD (by omega) (4 * j)
  have h1 := hl.getD (by omega) (4 * j + 1)
  have h2 := hl.getD (by omega) (4 * j + 2)
  have h3 := hl.getD (by omega) (4 * j + 3)
  unfold wdAt W; omega

theorem getD_take (l : List Nat) (k i : Nat) : (l.take k).getD i 0 = if i < k then l.getD i 0 else 0 := by
  simp only [List.getD_eq_getElem?_getD, List.getElem?_take]
  split <;> rfl

theorem getD_drop (l : List Nat) (k i : Nat) : (l.drop k).getD i 0 = l.getD (k + i) 0 := by
  simp [List.getD_eq_getElem?_getD]

theorem wdAt_drop (l : List Nat) (j : Nat) : wdAt (l.drop 4) j = wdAt l (j + 1) := by
  unfold wdAt
  simp only [getD_drop, show 4 * (j + 1) = 4 + 4 * j by omega, Nat.add_assoc]

theorem wds_succ (l : List Nat) (n : Nat) : wds l (n + 1) = wdAt l 0 :: wds (l.drop 4) n := by
  unfold wds
  rw [List.range_succ_eq_map, List.map_cons, List.map_map]
  congr 1
  apply List.map_congr_left
  intro j _
  simp only [Function.comp]
  rw [wdAt_drop]

theorem digs_wds : ∀ (n : Nat) (l : List Nat), l.length ≤ 4 * n → digs W (wds l n) = digs 256 l
  | 0, l, h => by
    obtain rfl : l = [] := List.eq_nil_of_length_eq_zero (by omega)
    rfl
  | n + 1, l, h => by
    rw [wds_succ, digs, digs_wds n (l.drop 4) (by simp; omega)]
    match l with
    | [] => simp [wdAt, digs]
    | [a] => simp [wdAt, digs]
    | [a, b] => simp [wdAt, digs]
    | [a, b, c] => simp [wdAt, digs]; omega
    | a :: b :: c :: d :: l => simp [wdAt, digs, W]; omega

theorem wds_length (l : List Nat) (n : Nat) : (wds l n).length = n := by simp [wds]
theorem wds_get (l : List Nat) (n j : Nat) (h : j < n) : (wds l n)[j]? = some (wdAt l j) := by
  simp [wds, h]
theorem wds_lt {l : List Nat} (hl : AllLt 256 l) (n : Nat) : AllLt W (wds l n) := by
  intro d hd
  obtain ⟨j, _, rfl⟩ := List.mem_map.1 hd
  exact wdAt_lt hl j

theorem wds_canon {l : List Nat} (hc : Canon l) (hl : AllLt 256 l) : Canon (wds l ((l.length + 3) / 4)) := by
  rcases Nat.eq_zero_or_pos l.length with h0 | h0
  · obtain rfl : l = [] := List.eq_nil_of_length_eq_zero h0
    simp [wds, Canon]
  · unfold Canon at *
    rw [List.getLast?_eq_getElem?, wds_length, wds_get _ _ _ (by omega)]
    rw [List.getLast?_eq_getElem?] at hc
    intro h
    apply hc
    simp only [Option.some.injEq] at h
    have hz : l.getD (l.length - 1) 0 = 0 := by
      unfold wdAt at h
      have hk : l.length - 1 = 4 * ((l.length + 3) / 4 - 1) ∨ l.length - 1 = 4 * ((l.length + 3) / 4 - 1) + 1 ∨ l.length - 1 = 4 * ((l.length + 3) / 4 - 1) + 2 ∨ l.length - 1 = 4 * ((l.length + 3) / 4 - 1) + 3 := by omega
      rcases hk with hk | hk | hk | hk <;> rw [hk] <;> omega
    rw [List.getElem?_eq_getElem (by omega)]
    rw [List.getD_eq_getElem?_getD, List.getElem?_eq_getElem (by omega)] at hz
    simpa using hz

theorem wds_digits (n : Nat) : wds (digitsOf 256 n) (((digitsOf 256 n).length + 3) / 4) = digitsOf W n := by
  have h1 := wds_lt (digitsOf_lt (B := 256) (by omega) n) (((digitsOf 256 n).length + 3) / 4)
  have h2 := wds_canon (digitsOf_canon (B := 256) (by omega) n) (digitsOf_lt (by omega) n)
  rw [← digitsOf_digs (by decide) h1 h2, digs_wds _ _ (by omega), digs_digitsOf (by omega)]

theorem or_high (r x b : Nat) (hx : x < 2 ^ r) : x ||| b * 2 ^ r = x + b * 2 ^ r := by
  rw [Nat.mul_comm, Nat.or_comm, ← Nat.two_pow_add_eq_or_of_lt hx, Nat.add_comm]

theorem wdAt_step (l : List Nat) (hl : AllLt 256 l) (k j : Nat) (_hk : k < l.length) :
    wdAt (l.take (k + 1)) j = if j = k / 4 then (wdAt (l.take k) j ||| l.getD k 0 * 2 ^ (8 * (k % 4))) else wdAt (l.take k) j := by
  have hb := hl.getD (by omega) k
  split
  · rename_i h
    subst h
    have h0 := hl.getD (by omega) (4 * (k / 4))
    have h1 := hl.getD (by omega) (4 * (k / 4) + 1)
    have h2 := hl.getD (by omega) (4 * (k / 4) + 2)
    have hr : k % 4 = 0 ∨ k % 4 = 1 ∨ k % 4 = 2 ∨ k % 4 = 3 := by omega
    rcases hr with hr | hr | hr | hr
    · have hx : wdAt (l.take k) (k / 4) < 2 ^ (8 * 0) := by
        unfold wdAt; simp only [getD_take]; rw [if_neg (by omega), if_neg (by omega), if_neg (by omega), if_neg (by omega)]; decide
      rw [hr, or_high _ _ _ hx]
      unfold wdAt; simp only [getD_take]
      rw [if_pos (by omega), if_neg (by omega), if_neg (by omega), if_neg (by omega), if_neg (by omega), if_neg (by omega), if_neg (by omega), if_neg (by omega)]
      rw [show 4 * (k / 4) = k by omega]; omega
    · have hx : wdAt (l.take k) (k / 4) < 2 ^ (8 * 1) := by
        unfold wdAt; simp only [getD_take]; rw [if_pos (by omega), if_neg (by omega), if_neg (by omega), if_neg (by omega)]; omega
      rw [hr, or_high _ _ _ hx]
      unfold wdAt; simp only [getD_take]
      rw [if_pos (by omega), if_pos (by omega), if_neg (by omega), if_neg (by omega), if_pos (by omega), if_neg (by omega), if_neg (by omega), if_neg (by omega)]
      rw [show 4 * (k / 4) + 1 = k by omega]; omega
    · have hx : wdAt (l.take k) (k / 4) < 2 ^ (8 * 2) := by
        unfold wdAt; simp only [getD_take]; rw [if_pos (by omega), if_pos (by omega), if_neg (by omega), if_neg (by omega)]; omega
      rw [hr, or_high _ _ _ hx]
      unfold wdAt; simp only [getD_take]
      rw [if_pos (by omega), if_pos (by omega), if_pos (by omega), if_neg (by omega), if_pos (by omega), if_pos (by omega), if_neg (by omega), if_neg (by omega)]
      rw [show 4 * (k / 4) + 2 = k by omega]; omega
    · have hx : wdAt (l.take k) (k / 4) < 2 ^ (8 * 3) := by
        unfold wdAt; simp only [getD_take]; rw [if_pos (by omega), if_pos (by omega), if_pos (by omega), if_neg (by omega)]; omega
      rw [hr, or_high _ _ _ hx]
      unfold wdAt; simp only [getD_take]
      rw [if_pos (by omega), if_pos (by omega), if_pos (by omega), if_pos (by omega), if_pos (by omega), if_pos (by omega), if_pos (by omega), if_neg (by omega)]
      rw [show 4 * (k / 4) + 3 = k by omega]; omega
  · rename_i h
    unfold wdAt; simp only [getD_take]
    simp only [show (4 * j < k + 1) ↔ (4 * j < k) by omega, show (4 * j + 1 < k + 1) ↔ (4 * j + 1 < k) by omega, show (4 * j + 2 < k + 1) ↔ (4 * j + 2 < k) by omega, show (4 * j + 3 < k + 1) ↔ (4 * j + 3 < k) by omega]

theorem wds_step (l : List Nat) (hl : AllLt 256 l) (k n : Nat) (hk : k < l.length) :
    wds (l.take (k + 1)) n = (wds (l.take k) n).set (k / 4) (wdAt (l.take k) (k / 4) ||| l.getD k 0 * 2 ^ (8 * (k % 4))) := by
  apply List.ext_getElem?
  intro j
  rw [List.getElem?_set]
  by_cases hj : j < n
  · rw [wds_get _ _ _ hj, wdAt_step l hl k j hk, wds_length]
    by_cases h : j = k / 4
    · subst h; simp [hj]
    · rw [if_neg h, if_neg (by omega), wds_get _ _ _ hj]
  · rw [List.getElem?_eq_none (by rw [wds_length]; omega), wds_length]
    by_cases h : k / 4 = j
    · rw [if_pos h, if_neg (by omega)]
    · rw [if_neg h, List.getElem?_eq_none (by rw [wds_length]; omega)]

theorem word_or (l : List Nat) (hl : AllLt 256 l) (k b : Nat) (hb : l.getD k 0 = b) :
    bits BinOp.or IntKind.u32 (wdAt (l.take k) (k / 4) : Nat) ((b : Int) % 4294967296 * 2 ^ (8 * (k % 4)) % 4294967296) =
      ((wdAt (l.take k) (k / 4) ||| l.getD k 0 * 2 ^ (8 * (k % 4)) : Nat) : Int) := by
  have h1 := hl.getD (by omega) k
  have h2 := wdAt_lt (hl.take k) (k / 4)
  rw [hb] at h1 ⊢
  have hr : k % 4 = 0 ∨ k % 4 = 1 ∨ k % 4 = 2 ∨ k % 4 = 3 := by omega
  have e : (b : Int) % 4294967296 * 2 ^ (8 * (k % 4)) % 4294967296 = ((b * 2 ^ (8 * (k % 4)) : Nat) : Int) := by
    rcases hr with hr | hr | hr | hr <;> rw [hr] <;> simp <;> omega
  rw [e, u32_or_nat _ _ h2]
  rcases hr with hr | hr | hr | hr <;> rw [hr] <;> simp <;> omega

/-! ### Back: bytes out of words -/

def byAt (xs : List Nat) (i : Nat) : Nat := xs.getD (i / 4) 0 / 2 ^ (8 * (i % 4)) % 256
def bys (xs : List Nat) (k : Nat) : List Nat := (List.range (4 * xs.length)).map fun i => if i < k then byAt xs i else 0

theorem map_range_set {α : Type} (m k : Nat) (f g : Nat → α) (v : α) (hk : g k = v) (h : ∀ i, i ≠ k → i < m → g i = f i) :
    ((List.range m).map f).set k v = (List.range m).map g := by
  apply List.ext_getElem?
  intro i
  rw [List.getElem?_set]
  by_cases hi : i < m
  · by_cases hik : k = i
    · subst hik; simp [hi, hk]
    · rw [if_neg hik]; simp [hi, h i (Ne.symm hik) hi]
  · simp [hi]
    intro h1; omega

theorem bys_set (xs : List Nat) (k : Nat) : (bys xs k).set k (byAt xs k) = bys xs (k + 1) := by
  unfold bys
  apply map_range_set
  · simp
  · intro i h1 h2
    simp only [show i < k + 1 ↔ i < k by omega]

theorem bys_zero (xs : List Nat) : bys xs 0 = List.replicate (4 * xs.length) 0 := by
  apply List.ext_getElem
  · simp [bys]
  · intro i h1 h2; simp [bys]

theorem bys_length (xs : List Nat) (k : Nat) : (bys xs k).length = 4 * xs.length := by simp [bys]

theorem bys_get (xs : List Nat) (i : Nat) (h : i < 4 * xs.length) : (bys xs (4 * xs.length))[i]? = some (byAt xs i) := by
  simp [bys, h]

theorem bys_lt (xs : List Nat) (k : Nat) : AllLt 256 (bys xs k) := by
  intro d hd
  obtain ⟨i, _, rfl⟩ := List.mem_map.1 hd
  split
  · exact Nat.mod_lt _ (by omega)
  · omega

theorem wds_bys (xs : List Nat) (hx : AllLt W xs) : wds (bys xs (4 * xs.length)) xs.length = xs := by
  apply List.ext_getElem?
  intro j
  by_cases hj : j < xs.length
  · rw [wds_get _ _ _ hj, List.getElem?_eq_getElem hj]
    congr 1
    have e : ∀ i, i < 4 * xs.length → (bys xs (4 * xs.length)).getD i 0 = byAt xs i := fun i hi => by
      rw [List.getD_eq_getElem?_getD, bys_get xs i hi]; rfl
    unfold wdAt
    rw [e _ (by omega), e _ (by omega), e _ (by omega), e _ (by omega)]
    unfold byAt
    rw [show 4 * j / 4 = j by omega, show (4 * j + 1) / 4 = j by omega, show (4 * j + 2) / 4 = j by omega, show (4 * j + 3) / 4 = j by omega,
      show 4 * j % 4 = 0 by omega, show (4 * j + 1) % 4 = 1 by omega, show (4 * j + 2) % 4 = 2 by omega, show (4 * j + 3) % 4 = 3 by omega]
    have hg : xs.getD j 0 = xs[j] := by simp [List.getD_eq_getElem?_getD, hj]
    have hl : xs[j] < W := hx _ (List.getElem_mem hj)
    rw [hg]
    unfold W at hl
    omega
  · rw [List.getElem?_eq_none (by rw [wds_length]; omega), List.getElem?_eq_none (by omega)]

theorem digs_bys (xs : List Nat) (hx : AllLt W xs) : digs 256 (bys xs (4 * xs.length)) = digs W xs := by
  rw [← digs_wds xs.length _ (by rw [bys_length]; omega), wds_bys xs hx]

def nb (n : Nat) : ByteArray := mkStr (digitsOf 256 n)
def nl (n : Nat) : Nat := (digitsOf 256 n).length
def natV (n : Nat) : Value := .agg #[.string (nb n)]

theorem bts_mkStr {l : List Nat} (h : AllLt 256 l) : bts (mkStr l) = l := by
  unfold bts mkStr
  simp only [List.map_map]
  conv => rhs; rw [← List.map_id l]
  apply List.map_congr_left
  intro d hd
  have := h d hd
  simp 
  omega

theorem from_take (xs : List Nat) (hx : AllLt W xs) (k : Nat) (hk : k ≤ 4 * xs.length) (hz : ∀ i, k ≤ i → i < 4 * xs.length → byAt xs i = 0)
    (h1 : k = 0 ∨ byAt xs (k - 1) ≠ 0) : (bys xs (4 * xs.length)).take k = digitsOf 256 (digs W xs) := by
  have e : ∀ i, i < 4 * xs.length → (bys xs (4 * xs.length)).getD i 0 = byAt xs i := fun i hi => by
    rw [List.getD_eq_getElem?_getD, bys_get xs i hi]; rfl
  rw [← digs_bys xs hx]
  refine digitsOf_take (by omega) (bys_lt xs _) (fun i hi => ?_) ?_
  · by_cases h : i < 4 * xs.length
    · rw [e i h]; exact hz i hi h
    · rw [List.getD_eq_getElem?_getD, List.getElem?_eq_none (by rw [bys_length]; omega)]; rfl
  · rcases h1 with h1 | h1
    · exact .inl h1
    · by_cases h0 : k = 0
      · exact .inl h0
      · right; rw [e _ (by omega)]; exact h1

theorem byte_of (xs : List Nat) (i d : Nat) (h : xs[i / 4]? = some d) : byAt xs i = d / 2 ^ (8 * (i % 4)) % 256 := by
  simp [byAt, List.getD_eq_getElem?_getD, h]

end Num
end Go.Proofs.YtajjgfiojlagmaaGreatDoor

/- Regions that draw their order, whose operations read and whose callees lay blocks of their own: one walk serves every order. -/
namespace Go.Proofs.YtajjgfiojlagmaaGreatDoor
open Go.RowKit

section
variable {P : Program} {ops : Array Oper} {md : Region.Mode} {C : World → Prop}

def HeadQ (P : Program) (md : Region.Mode) (ops : Array Oper) (C : World → Prop) (n : Nat) (L : Array Bool → Act → Prop) : Nat → Array Bool → Act → Prop
  | 0, s, a => L s a
  | f + 1, s, a => Region.ready md ops s ≠ [] ∧ ∀ i ∈ Region.ready md ops s, i < n ∧ qOp P ops C i (HeadQ P md ops C n L f (s.setIfInBounds i true)) a

theorem HeadQ.any {n g : Nat} {L : Array Bool → Act → Prop} {Q' : Exit → Act → World → Prop} (hL : ∀ s a w, C w → L s a → wpAny P md ops Q' g s a w) :
    ∀ (f : Nat) (s : Array Bool) (a : Act) (w : World), C w → HeadQ P md ops C n L f s a → wpAny P md ops Q' (f + g) s a w
  | 0, s, a, w, hw, h => by rw [Nat.zero_add]; exact hL _ _ _ hw h
  | f + 1, s, a, w, hw, h => by
    rw [show f + 1 + g = (f + g) + 1 by omega]
    exact ⟨fun h0 => absurd h0 h.1, fun i hi => wpOp_of_qOp hw (fun a' w' hw' h' => HeadQ.any hL f _ a' w' hw' h') (h.2 i hi).2⟩

theorem HeadQ.first {n i : Nat} {oi : Oper} {v : Value} {L : Array Bool → Act → Prop} (hi : ops[i]? = some oi) (hsel : ∀ (j : Nat) (o : Oper) cs b, ops[j]? = some o → o.op ≠ .select cs b)
    (hs : Region.sinkB md ops n = true) (hc : Region.chainB md ops n = true) (hn : n < ops.size) (hin : i < n) (hdone : ∀ s a, L s a → ∀ j ∈ Region.ready md ops s, n ≤ j) (f : Nat) :
    ∀ (s : Array Bool) (a : Act), HeadInv md ops n s →
      (∀ j oj, ops[j]? = some oj → j ≠ i → s.getD j true = false → (∀ e ∈ oj.after, Region.binds md e = true → e.on ≠ i) → oi.apart ops oj = true) →
      i ∈ Region.ready md ops s → YieldsIn P ops C oi v a → HeadQ P md ops C n L f (s.setIfInBounds i true) (a.put oi.dst v) → HeadQ P md ops C n L (f + 1) s a := by
  induction f with
  | zero =>
    intro s a inv _ hr hy H
    refine ⟨List.ne_nil_of_mem hr, fun j hj => ?_⟩
    have hjn : j < n := Nat.lt_of_not_le fun h => tail_waits hs hc hn inv _ i rfl hin (mem_ready.1 hr).1 j h hj
    refine ⟨hjn, ?_⟩
    rcases Decidable.em (j = i) with rfl | hji
    · exact hy.qOp hi H
    · exact absurd (hdone _ _ H j (ready_mono hj hji)) (by omega)
  | succ f ih =>
    intro s a inv hfree hr hy H
    have hun := (mem_ready.1 hr).1
    refine ⟨List.ne_nil_of_mem hr, fun j hj => ?_⟩
    have hjn : j < n := Nat.lt_of_not_le fun h => tail_waits hs hc hn inv _ i rfl hin hun j h hj
    refine ⟨hjn, ?_⟩
    rcases Decidable.em (j = i) with rfl | hji
    · exact hy.qOp hi H
    · obtain ⟨hjun, oj, hoj, hall⟩ := mem_ready.1 hj
      have hnot : ∀ e ∈ oj.after, Region.binds md e = true → e.on ≠ i := fun e he hb heq => by
        have := hall e he hb
        rw [heq, getD_both hun] at this
        cases this
      have h2 := qOp_put hoj (hfree j oj hoj hji hjun hnot) (fun cs b => hsel i oi cs b hi) (fun cs b => hsel j oj cs b hoj) hy (H.2 j (ready_mono hj hji)).2
      refine qOp_mono (fun a' h3 => ih (s.setIfInBounds j true) a' (inv.set hj hjn) (fun k ok hk hki hu hno => hfree k ok hk hki ?_ hno) (ready_mono hr (Ne.symm hji)) h3.1 ?_) h2
      · rcases Decidable.em (j = k) with rfl | hjk
        · exact hjun
        · rwa [getD_set_ne true hjk] at hu
      · rw [Array.setIfInBounds_comm _ _ hji]; exact h3.2

theorem HeadQ.lex {n g : Nat} {Lq : Act → Prop} (hsel : Region.noSelect ops = true) (hs : Region.sinkB md ops n = true) (hc : Region.chainB md ops n = true) (hn : n < ops.size) :
    ∀ (l : List Oper) (k : Nat) (s : Array Bool) (a : Act), (∀ j, j < l.length → l[j]? = ops[k + j]?) → k + l.length = n → HeadInv md ops n s → Region.lexHead md ops g l.length k s = true →
    wpQuiet P ops C Lq l a → HeadQ P md ops C n (fun s' a' => Region.seqB md ops g n s' = true ∧ Lq a') l.length s a
  | [], k, s, a, _, hk, _, hB, h => by
    obtain rfl : k = n := by simpa using hk
    exact ⟨by simpa [Region.lexHead] using hB, h⟩
  | o :: l, k, s, a, hl, hk, inv, hB, h => by
    have h0 : ops[k]? = some o := by simpa using (hl 0 (by simp)).symm
    simp only [List.length_cons, Region.lexHead, Bool.and_eq_true] at hB
    have hkn : k < n := by simp only [List.length_cons] at hk; omega
    have hr' : k ∈ Region.ready md ops s := by simpa using hB.1.1
    obtain ⟨v, hy, hK⟩ := yieldsIn_of_qOp h0 (show qOp P ops C k (wpQuiet P ops C Lq l) a by unfold qOp; simp only [h0]; exact h)
    exact HeadQ.first h0 (Region.noSelect_spec hsel) hs hc hn hkn (fun _ _ hL => seqB_ready hL.1) l.length s a inv (Region.free_spec h0 hB.1.2) hr' hy
      (HeadQ.lex hsel hs hc hn l (k + 1) _ _ (fun j hj => by have := hl (j + 1) (by simp; omega); simpa [Nat.add_assoc, Nat.add_comm 1 j] using this) (by simp only [List.length_cons] at hk; omega) (inv.set hr' hkn) hB.2 hK)

end

structure Extra where
  blocks : Array Obj
  drawn : Nat
  deriving Inhabited

def plus (w : World) (p : Extra) : World := { w with heap := w.heap ++ p.blocks, drawn := p.drawn }

theorem plus_of_below {w w' : World} (h : Below w.heap.size w w') : ∃ p, w' = plus w p := by
  refine ⟨⟨w'.heap.extract w.heap.size, w'.drawn⟩, ?_⟩
  obtain ⟨h1, h2, h3, h4, h5⟩ := h
  cases w' with
  | mk heap tape drawn os output =>
    simp only at h1 h2 h3 h4 h5
    subst h1 h2 h3
    unfold plus
    congr
    apply Array.ext_getElem?
    intro i
    rcases Nat.lt_or_ge i w.heap.size with hi | hi
    · rw [Array.getElem?_append_left hi]; exact h5 i hi
    · rw [Array.getElem?_append_right hi, Array.getElem?_extract]
      rcases Nat.lt_or_ge i heap.size with hj | hj
      · rw [if_pos (by simp; omega)]; congr 1; omega
      · rw [if_neg (by simp; omega)]; exact Array.getElem?_eq_none hj

theorem below_plus (w : World) (p : Extra) : Below w.heap.size w (plus w p) :=
  ⟨rfl, rfl, rfl, by simp [plus], fun k hk => by simp only [plus]; exact Array.getElem?_append_left hk⟩

theorem plus_size (w : World) (p : Extra) : w.heap.size ≤ (plus w p).heap.size := (below_plus w p).size

theorem plus_cell {w : World} {b o : Nat} {v : Value} (h : w.cell? ⟨b, o, none⟩ = some v) (hb : b < w.heap.size) (p : Extra) : (plus w p).cell? ⟨b, o, none⟩ = some v := below_cell (below_plus w p) hb h

theorem calls_plus {P : Program} {f : FuncId} {args : Array Value} {w : World} {p : Extra} {v : Value} (h : Calls P f args (plus w p) fun e w' => e = .returned v ∧ Below (plus w p).heap.size (plus w p) w') :
    Calls P f args (plus w p) fun e w'' => e = .returned v ∧ ∃ q, w'' = plus w q :=
  h.mono fun _ _ ⟨he, hb⟩ => ⟨he, plus_of_below ((below_plus w p).trans (hb.mono (plus_size w p)))⟩

end Go.Proofs.YtajjgfiojlagmaaGreatDoor
