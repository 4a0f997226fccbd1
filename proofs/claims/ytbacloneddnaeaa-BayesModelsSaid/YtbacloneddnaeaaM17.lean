/- Texts of this claim, joined: BNet. -/
import Derived.Test.YtbacloneddnaeaaM10
import Derived.Test.YtbacloneddnaeaaM16

/- Networks in memory. -/
namespace Go.Proofs.Ytbacloneddnaeaa
open Go.RowKit Num

def AtN (N : Nat) (w : World) (a : Option Addr) (xs : List Value) : Prop := ∀ i v, xs[i]? = some v → ∃ b o, b < N ∧ a = some ⟨b, o, none⟩ ∧ w.cell? ⟨b, o + i, none⟩ = some v

theorem AtN.below {N M : Nat} {w w' : World} {a : Option Addr} {xs : List Value} (h : AtN N w a xs) (hb : Below M w w') (hM : N ≤ M) : AtN N w' a xs := fun i v hi => by
  obtain ⟨b, o, h1, ha, hc⟩ := h i v hi
  exact ⟨b, o, h1, ha, below_cell hb (by omega) hc⟩
theorem AtN.mono {N M : Nat} {w : World} {a : Option Addr} {xs : List Value} (h : AtN N w a xs) (hM : N ≤ M) : AtN M w a xs := fun i v hi => by
  obtain ⟨b, o, h1, ha, hc⟩ := h i v hi
  exact ⟨b, o, by omega, ha, hc⟩

theorem AtN.base {N : Nat} {w : World} {a : Option Addr} {xs : List Value} (h : AtN N w a xs) (h0 : 0 < xs.length) : ∃ b o, b < N ∧ a = some ⟨b, o, none⟩ ∧ ∀ i v, xs[i]? = some v → w.cell? ⟨b, o + i, none⟩ = some v := by
  obtain ⟨b, o, h1, ha, _⟩ := h 0 xs[0] (List.getElem?_eq_getElem h0)
  refine ⟨b, o, h1, ha, fun i v hi => ?_⟩
  obtain ⟨b', o', _, ha', hc⟩ := h i v hi
  rw [ha] at ha'
  cases ha'
  exact hc

structure BV where
  k : Int
  ps : List Int
  tab : List (Nat × Nat)

def rats (l : List (Nat × Nat)) : List Value := l.flatMap fun p => [.string (nb p.1), .string (nb p.2)]
theorem rats_length : ∀ l : List (Nat × Nat), (rats l).length = 2 * l.length
  | [] => rfl
  | p :: l => by
    have := rats_length l
    unfold rats at *
    simp only [List.flatMap_cons, List.length_append, List.length_cons, List.length_nil, this]; omega
theorem rats_cons (p : Nat × Nat) (l : List (Nat × Nat)) : rats (p :: l) = .string (nb p.1) :: .string (nb p.2) :: rats l := rfl
theorem rats_get : ∀ {l : List (Nat × Nat)} {i : Nat} {p : Nat × Nat}, l[i]? = some p → (rats l)[i * 2]? = some (.string (nb p.1)) ∧ (rats l)[i * 2 + 1]? = some (.string (nb p.2))
  | [], _, _, h => by simp at h
  | q :: l, 0, p, h => by
    simp at h; subst h
    rw [rats_cons]; exact ⟨rfl, rfl⟩
  | q :: l, i + 1, p, h => by
    have h' : l[i]? = some p := by simpa using h
    obtain ⟨h1, h2⟩ := rats_get h'
    rw [rats_cons, show (i + 1) * 2 = i * 2 + 2 by omega, show i * 2 + 2 + 1 = i * 2 + 1 + 2 by omega]
    exact ⟨by simpa using h1, by simpa using h2⟩

def NetAt (N : Nat) (w : World) (a : Option Addr) (l : List BV) : Prop := ∀ i x, l[i]? = some x → ∃ b o pa pc ta tc, b < N ∧ a = some ⟨b, o, none⟩ ∧
  w.cell? ⟨b, o + i * 3, none⟩ = some (.int .i64 x.k) ∧ w.cell? ⟨b, o + i * 3 + 1, none⟩ = some (.slice pa x.ps.length pc) ∧ w.cell? ⟨b, o + i * 3 + 2, none⟩ = some (.slice ta x.tab.length tc) ∧
  AtN N w pa (ints x.ps) ∧ AtN N w ta (rats x.tab) ∧ x.tab.length ≤ tc ∧ tc ≤ 9223372036854775807

theorem NetAt.below {N M : Nat} {w w' : World} {a : Option Addr} {l : List BV} (h : NetAt N w a l) (hb : Below M w w') (hM : N ≤ M) : NetAt N w' a l := fun i x hi => by
  obtain ⟨b, o, pa, pc, ta, tc, h1, ha, h2, h3, h4, h5, h6⟩ := h i x hi
  exact ⟨b, o, pa, pc, ta, tc, h1, ha, below_cell hb (by omega) h2, below_cell hb (by omega) h3, below_cell hb (by omega) h4, h5.below hb hM, h6.1.below hb hM, h6.2⟩
theorem NetAt.mono {N M : Nat} {w : World} {a : Option Addr} {l : List BV} (h : NetAt N w a l) (hM : N ≤ M) : NetAt M w a l := fun i x hi => by
  obtain ⟨b, o, pa, pc, ta, tc, h1, ha, h2, h3, h4, h5, h6⟩ := h i x hi
  exact ⟨b, o, pa, pc, ta, tc, by omega, ha, h2, h3, h4, h5.mono hM, h6.1.mono hM, h6.2⟩

theorem NetAt.base {N : Nat} {w : World} {a : Option Addr} {l : List BV} (h : NetAt N w a l) (h0 : 0 < l.length) : ∃ b o, b < N ∧ a = some ⟨b, o, none⟩ ∧ ∀ i x, l[i]? = some x → ∃ pa pc ta tc,
  w.cell? ⟨b, o + i * 3, none⟩ = some (.int .i64 x.k) ∧ w.cell? ⟨b, o + i * 3 + 1, none⟩ = some (.slice pa x.ps.length pc) ∧ w.cell? ⟨b, o + i * 3 + 2, none⟩ = some (.slice ta x.tab.length tc) ∧
  AtN N w pa (ints x.ps) ∧ AtN N w ta (rats x.tab) ∧ x.tab.length ≤ tc ∧ tc ≤ 9223372036854775807 := by
  obtain ⟨b, o, _, _, _, _, h1, ha, _⟩ := h 0 l[0] (List.getElem?_eq_getElem h0)
  refine ⟨b, o, h1, ha, fun i x hi => ?_⟩
  obtain ⟨b', o', pa, pc, ta, tc, _, ha', h2⟩ := h i x hi
  rw [ha] at ha'
  cases ha'
  exact ⟨pa, pc, ta, tc, h2⟩

theorem below_cellp {B : Nat} {w x : World} (h : Below B w x) {b o : Nat} {v : Value} (hc : w.cell? ⟨b, o, none⟩ = some v) (hb : b < B) (p : Extra) : (plus x p).cell? ⟨b, o, none⟩ = some v :=
  plus_cell (below_cell h hb hc) (block_lt_of_cell (below_cell h hb hc)) p

end Go.Proofs.Ytbacloneddnaeaa
