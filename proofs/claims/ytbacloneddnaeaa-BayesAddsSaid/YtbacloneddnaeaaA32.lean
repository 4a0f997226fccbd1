/- Texts of this claim, joined: BPlain. -/
import Derived.Test.YtbacloneddnaeaaA10

/- Sums of products of quotients: the sum over a tree of choices is the sum over all assignments. -/
namespace Go.Proofs.Ytbacloneddnaeaa
open Num

namespace Q
theorem low01 : Low (0, 1) := ⟨by decide, by decide⟩
theorem low11 : Low (1, 1) := ⟨by decide, by decide⟩
theorem mul0 {a : Nat × Nat} (la : Low a) : mul a (0, 1) = (0, 1) := by
  have h : red (a.1 * 0) (a.2 * 1) = red 0 1 := red_eq (by have := la.1; omega) (by decide) (by simp)
  exact h.trans (red_of_low low01)
theorem zmul {a : Nat × Nat} (la : Low a) : mul (0, 1) a = (0, 1) := by rw [mul_comm]; exact mul0 la
theorem zadd {a : Nat × Nat} (la : Low a) : add (0, 1) a = a := by
  unfold add; simp only [Nat.mul_one, Nat.zero_mul, Nat.zero_add, Nat.one_mul]; exact red_of_low la
theorem addz {a : Nat × Nat} (la : Low a) : add a (0, 1) = a := by rw [add_comm]; exact zadd la
theorem mul1 {a : Nat × Nat} (la : Low a) : mul a (1, 1) = a := by rw [mul_comm]; exact one_mul la

def sumL (l : List (Nat × Nat)) : Nat × Nat := l.foldl add (0, 1)

def AllLow (l : List (Nat × Nat)) : Prop := ∀ x ∈ l, Low x

theorem foldl_low : ∀ {l : List (Nat × Nat)} {s : Nat × Nat}, Low s → AllLow l → Low (l.foldl add s)
  | [], _, hs, _ => hs
  | x :: l, s, hs, h => by
    rw [List.foldl_cons]
    exact foldl_low (add_low hs (h x (by simp))) fun y hy => h y (by simp [hy])
theorem sumL_low {l : List (Nat × Nat)} (h : AllLow l) : Low (sumL l) := foldl_low low01 h

theorem foldl_add : ∀ {l : List (Nat × Nat)} {s : Nat × Nat}, Low s → AllLow l → l.foldl add s = add s (sumL l)
  | [], s, hs, _ => (addz hs).symm
  | x :: l, s, hs, h => by
    have lx := h x (by simp)
    have hl : AllLow l := fun y hy => h y (by simp [hy])
    rw [List.foldl_cons, foldl_add (add_low hs lx) hl]
    unfold sumL
    rw [List.foldl_cons, zadd lx, foldl_add lx hl]
    exact add_assoc hs.1 lx.1 (sumL_low hl).1

theorem sumL_cons {x : Nat × Nat} {l : List (Nat × Nat)} (lx : Low x) (h : AllLow l) : sumL (x :: l) = add x (sumL l) := by
  unfold sumL
  rw [List.foldl_cons, zadd lx]
  exact foldl_add lx h

theorem sumL_append {a b : List (Nat × Nat)} (ha : AllLow a) (hb : AllLow b) : sumL (a ++ b) = add (sumL a) (sumL b) := by
  unfold sumL
  rw [List.foldl_append]
  exact foldl_add (sumL_low ha) hb

theorem mul_sumL {c : Nat × Nat} (lc : Low c) : ∀ {l : List (Nat × Nat)}, AllLow l → mul c (sumL l) = sumL (l.map (mul c))
  | [], _ => mul0 lc
  | x :: l, h => by
    have lx := h x (by simp)
    have hl : AllLow l := fun y hy => h y (by simp [hy])
    have hm : AllLow (l.map (mul c)) := fun y hy => by
      obtain ⟨z, hz, rfl⟩ := List.mem_map.mp hy
      exact mul_low lc (hl z hz)
    rw [List.map_cons, sumL_cons lx hl, sumL_cons (mul_low lc lx) hm, mul_add lc.1 lx.1 (sumL_low hl).1, mul_sumL lc hl]

theorem sumL_flatMap {α : Type} (f : α → List (Nat × Nat)) : ∀ (l : List α), (∀ x ∈ l, AllLow (f x)) → sumL (l.flatMap f) = sumL (l.map fun x => sumL (f x))
  | [], _ => rfl
  | x :: l, h => by
    have hx := h x (by simp)
    have hl : ∀ y ∈ l, AllLow (f y) := fun y hy => h y (by simp [hy])
    have h1 : AllLow (l.flatMap f) := fun z hz => by
      obtain ⟨y, hy, hz⟩ := List.mem_flatMap.mp hz
      exact hl y hy z hz
    have h2 : AllLow (l.map fun x => sumL (f x)) := fun z hz => by
      obtain ⟨y, hy, rfl⟩ := List.mem_map.mp hz
      exact sumL_low (hl y hy)
    rw [List.flatMap_cons, List.map_cons, sumL_append hx h1, sumL_cons (sumL_low hx) h2, sumL_flatMap f l hl]

/-- A fold that leaves out what is 0. -/
theorem foldl_skip {α : Type} (f : α → Nat × Nat) : ∀ (l : List α) (s : Nat × Nat), Low s → (∀ x ∈ l, Low (f x)) →
    l.foldl (fun s x => if f x = (0, 1) then s else add s (f x)) s = (l.map f).foldl add s
  | [], _, _, _ => rfl
  | x :: l, s, hs, h => by
    have lx := h x (by simp)
    rw [List.foldl_cons, List.map_cons, List.foldl_cons]
    by_cases h0 : f x = (0, 1)
    · rw [if_pos h0, h0, addz hs]
      exact foldl_skip f l s hs fun y hy => h y (by simp [hy])
    · rw [if_neg h0]
      exact foldl_skip f l _ (add_low hs lx) fun y hy => h y (by simp [hy])
end Q

/-- The sum over a tree of choices: p says how probable the last value of a list is, given those before it. -/
def treeQ (p : List Nat → Nat × Nat) : List (List Nat) → List Nat → Nat × Nat
  | [], _ => (1, 1)
  | c :: cs, pre => Q.sumL (c.map fun x => Q.mul (p (pre ++ [x])) (treeQ p cs (pre ++ [x])))

/-- All assignments, the last value changing fastest. -/
def extsQ : List (List Nat) → List (List Nat)
  | [] => [[]]
  | c :: cs => c.flatMap fun x => (extsQ cs).map (x :: ·)

theorem extsQ_cons (c : List Nat) (cs : List (List Nat)) : extsQ (c :: cs) = c.flatMap fun x => (extsQ cs).map (x :: ·) := rfl

def prodQ (p : List Nat → Nat × Nat) : Nat × Nat → List Nat → List Nat → Nat × Nat
  | acc, _, [] => acc
  | acc, pre, x :: xs => prodQ p (Q.mul acc (p (pre ++ [x]))) (pre ++ [x]) xs

section
variable {p : List Nat → Nat × Nat} (hp : ∀ l, Q.Low (p l))
include hp

theorem treeQ_low : ∀ (cs : List (List Nat)) (pre : List Nat), Q.Low (treeQ p cs pre)
  | [], _ => Q.low11
  | c :: cs, pre => Q.sumL_low fun y hy => by
    obtain ⟨x, _, rfl⟩ := List.mem_map.mp hy
    exact Q.mul_low (hp _) (treeQ_low cs _)

theorem prodQ_low : ∀ (l pre : List Nat) (acc : Nat × Nat), Q.Low acc → Q.Low (prodQ p acc pre l)
  | [], _, _, h => h
  | _ :: l, _, _, h => prodQ_low l _ _ (Q.mul_low h (hp _))

/-- THE LAW: the sum of the products over all assignments is the product so far times the sum over the tree. -/
theorem treeQ_sum : ∀ (cs : List (List Nat)) (pre : List Nat) (acc : Nat × Nat), Q.Low acc →
    Q.sumL ((extsQ cs).map (prodQ p acc pre)) = Q.mul acc (treeQ p cs pre)
  | [], pre, acc, h => by
    show Q.sumL [acc] = Q.mul acc (1, 1)
    rw [Q.mul1 h]; exact Q.zadd h
  | c :: cs, pre, acc, h => by
    have lt : Q.AllLow (c.map fun x => Q.mul (p (pre ++ [x])) (treeQ p cs (pre ++ [x]))) := fun y hy => by
      obtain ⟨x, _, rfl⟩ := List.mem_map.mp hy
      exact Q.mul_low (hp _) (treeQ_low hp cs _)
    have e : (extsQ (c :: cs)).map (prodQ p acc pre) = c.flatMap fun x => (extsQ cs).map (prodQ p (Q.mul acc (p (pre ++ [x]))) (pre ++ [x])) := by
      rw [extsQ_cons, List.map_flatMap]
      congr 1
      funext x
      rw [List.map_map]; rfl
    have e2 : treeQ p (c :: cs) pre = Q.sumL (c.map fun x => Q.mul (p (pre ++ [x])) (treeQ p cs (pre ++ [x]))) := rfl
    rw [e, e2, Q.mul_sumL h lt, Q.sumL_flatMap, List.map_map]
    · congr 1
      refine List.map_congr_left fun x _ => ?_
      show Q.sumL _ = Q.mul acc (Q.mul _ _)
      rw [treeQ_sum cs _ _ (Q.mul_low h (hp _)), Q.mul_assoc h.1 (hp _).1 (treeQ_low hp cs _).1]
    · intro x _ y hy
      obtain ⟨z, _, rfl⟩ := List.mem_map.mp hy
      exact prodQ_low hp z _ _ (Q.mul_low h (hp _))
end

/-- All assignments that agree with a test value by value are those of the choices that agree. -/
theorem extsQ_filter (f : Nat → Nat → Bool) : ∀ (cs : List (List Nat)) (i : Nat),
    (extsQ cs).filter (fun l => (l.zipIdx i).all fun q => f q.2 q.1) = extsQ ((cs.zipIdx i).map fun q => q.1.filter (f q.2))
  | [], _ => rfl
  | c :: cs, i => by
    have e : extsQ (((c :: cs).zipIdx i).map fun q => q.1.filter (f q.2)) = (c.filter (f i)).flatMap fun x => (extsQ ((cs.zipIdx (i + 1)).map fun q => q.1.filter (f q.2))).map (x :: ·) := rfl
    rw [e, ← extsQ_filter f cs (i + 1), extsQ_cons]
    clear e
    generalize extsQ cs = L
    induction c with
    | nil => rfl
    | cons x c ih =>
      rw [List.flatMap_cons, List.filter_append, ih]
      rw [List.filter_cons]
      by_cases hx : f i x = true
      · rw [if_pos hx, List.flatMap_cons]
        congr 1
        rw [List.filter_map]
        congr 1
        refine List.filter_congr fun l _ => ?_
        simp [hx]
      · rw [if_neg hx]
        have : (L.map (x :: ·)).filter (fun l => (l.zipIdx i).all fun q => f q.2 q.1) = [] := by
          rw [List.filter_eq_nil_iff]
          intro l hl
          obtain ⟨m, _, rfl⟩ := List.mem_map.mp hl
          simp [hx]
        rw [this]; rfl

end Go.Proofs.Ytbacloneddnaeaa
