/- Terms: sorted literals, each once; opposite ones stand side by side. Plain. -/
import Derived.Test.YtchamkbnapjidaaDoorSP
import Derived.Sort.Statements
import Derived.Lib.SlicesCompact
namespace Go.Proofs.YtchamkbnapjidaaDoor
open Go

def litLt (x y : Int) : Bool := decide (absI x < absI y) || (decide (absI x = absI y) && decide (x < y))
theorem litLt_iff {x y : Int} : litLt x y = true ↔ absI x < absI y ∨ (absI x = absI y ∧ x < y) := by simp [litLt]
theorem litLt_no {x y : Int} : litLt x y = false ↔ ¬ (absI x < absI y ∨ (absI x = absI y ∧ x < y)) := by rw [← litLt_iff]; simp
theorem litLt_trans {x y z : Int} (h1 : litLt x y = true) (h2 : litLt y z = true) : litLt x z = true := by rw [litLt_iff] at *; omega
theorem absI_or (x : Int) : (absI x = x ∧ 0 ≤ x) ∨ (absI x = -x ∧ x < 0) := by unfold absI; split <;> omega
theorem litLt_total {x y : Int} (h : litLt y x = false) (hne : y ≠ x) : litLt x y = true := by
  rw [litLt_no] at h; rw [litLt_iff]
  have := absI_or x
  have := absI_or y
  omega

theorem compact_inv (d : Array Int) (hS : ∀ i j, i < j → j < d.size → litLt d[j]! d[i]! = false) : ∀ m, 0 < m → m ≤ d.size →
    (Lib.compactUpTo d m).Pairwise (fun x y => litLt x y = true) ∧ (∀ x ∈ Lib.compactUpTo d m, x = d[m - 1]! ∨ litLt x d[m - 1]! = true) ∧ ∀ x, x ∈ Lib.compactUpTo d m ↔ ∃ j, j < m ∧ x = d[j]! := by
  intro m
  induction m with
  | zero => intro h; omega
  | succ m ih =>
    intro _ hm
    rw [Lib.compactUpTo_succ]
    by_cases hz : m = 0
    · subst hz
      have hk : Lib.keeps d 0 = true := Lib.keeps_lt_one d 0 (by omega)
      have he : Lib.compactUpTo d 0 = [] := rfl
      rw [hk, he]
      refine ⟨by simp, by simp, fun x => ?_⟩
      simp only [if_true, List.nil_append, List.mem_singleton]
      constructor
      · rintro rfl; exact ⟨0, by omega, rfl⟩
      · rintro ⟨j, hj, rfl⟩
        obtain rfl : j = 0 := by omega
        rfl
    · obtain ⟨p1, p2, p3⟩ := ih (by omega) (by omega)
      have e1 : m + 1 - 1 = m := by omega
      rw [e1]
      by_cases heq : d[m]! = d[m - 1]!
      · rw [Lib.keeps_neg (by omega) heq]
        simp only [Bool.false_eq_true, if_false, List.append_nil]
        refine ⟨p1, fun x hx => by rw [heq]; exact p2 x hx, fun x => ?_⟩
        rw [p3]
        constructor
        · rintro ⟨j, hj, rfl⟩; exact ⟨j, by omega, rfl⟩
        · rintro ⟨j, hj, rfl⟩
          by_cases hjm : j = m
          · subst hjm; exact ⟨j - 1, by omega, heq⟩
          · exact ⟨j, by omega, rfl⟩
      · rw [Lib.keeps_pos heq]
        simp only [if_true]
        have hlt : litLt d[m - 1]! d[m]! = true := litLt_total (hS (m - 1) m (by omega) (by omega)) heq
        have hall : ∀ x ∈ Lib.compactUpTo d m, litLt x d[m]! = true := fun x hx => by
          rcases p2 x hx with h | h
          · rw [h]; exact hlt
          · exact litLt_trans h hlt
        refine ⟨?_, fun x hx => ?_, fun x => ?_⟩
        · rw [List.pairwise_append]
          refine ⟨p1, by simp, fun a ha b hb => ?_⟩
          obtain rfl := List.mem_singleton.1 hb
          exact hall a ha
        · rcases List.mem_append.1 hx with h | h
          · exact .inr (hall x h)
          · exact .inl (List.mem_singleton.1 h)
        · rw [List.mem_append, List.mem_singleton, p3]
          constructor
          · rintro (⟨j, hj, rfl⟩ | rfl)
            · exact ⟨j, by omega, rfl⟩
            · exact ⟨m, by omega, rfl⟩
          · rintro ⟨j, hj, rfl⟩
            by_cases hjm : j = m
            · subst hjm; exact .inr rfl
            · exact .inl ⟨j, by omega, rfl⟩

/-- Two neighbours are opposite. -/
def oppL (c : List Int) : Bool := (List.range c.length).any fun i => decide (0 < i) && decide (c.getD i 0 = -(c.getD (i - 1) 0))
theorem oppL_iff {c : List Int} : oppL c = true ↔ ∃ i, 0 < i ∧ i < c.length ∧ c.getD i 0 = -(c.getD (i - 1) 0) := by
  unfold oppL
  rw [List.any_eq_true]
  constructor
  · rintro ⟨i, hi, h⟩
    rw [Bool.and_eq_true, decide_eq_true_eq, decide_eq_true_eq] at h
    exact ⟨i, h.1, List.mem_range.1 hi, h.2⟩
  · rintro ⟨i, h1, h2, h3⟩
    exact ⟨i, List.mem_range.2 h2, by rw [Bool.and_eq_true, decide_eq_true_eq, decide_eq_true_eq]; exact ⟨h1, h3⟩⟩
theorem getD_lt {c : List Int} {i : Nat} (h : i < c.length) : c.getD i 0 = c[i] := by simp [List.getD, h]
theorem opp_iff {c : List Int} (hp : c.Pairwise (fun x y => litLt x y = true)) (h0 : ∀ x ∈ c, x ≠ 0) : oppL c = true ↔ ∃ x, x ∈ c ∧ -x ∈ c := by
  rw [oppL_iff]
  have hpp := List.pairwise_iff_getElem.1 hp
  constructor
  · rintro ⟨i, h1, h2, h3⟩
    rw [getD_lt h2, getD_lt (show i - 1 < c.length by omega)] at h3
    exact ⟨c[i - 1], List.getElem_mem _, by rw [← h3]; exact List.getElem_mem _⟩
  · rintro ⟨x, hx, hx'⟩
    have key : ∀ y : Int, y < 0 → y ∈ c → -y ∈ c → ∃ i, 0 < i ∧ i < c.length ∧ c.getD i 0 = -(c.getD (i - 1) 0) := by
      intro y hy hm hm'
      obtain ⟨i, hi, e1⟩ := List.mem_iff_getElem.1 hm
      obtain ⟨j, hj, e2⟩ := List.mem_iff_getElem.1 hm'
      have hij : i < j := by
        rcases Nat.lt_trichotomy i j with h | h | h
        · exact h
        · subst h; omega
        · have := hpp j i hj hi h
          rw [e1, e2, litLt_iff] at this
          have := absI_or y
          have := absI_or (-y)
          omega
      have hnext : j = i + 1 := by
        rcases Nat.lt_or_ge (i + 1) j with h | h
        · have a1 := hpp i (i + 1) hi (by omega) (by omega)
          have a2 := hpp (i + 1) j (by omega) hj h
          rw [e1, litLt_iff] at a1
          rw [e2, litLt_iff] at a2
          have hz := h0 c[i + 1] (List.getElem_mem _)
          have := absI_or y
          have := absI_or (-y)
          have := absI_or c[i + 1]
          omega
        · omega
      subst hnext
      refine ⟨i + 1, by omega, hj, ?_⟩
      rw [getD_lt hj, show i + 1 - 1 = i by omega, getD_lt hi, e1, e2]
    have hz := h0 x hx
    by_cases hn : x < 0
    · exact key x hn hx hx'
    · exact key (-x) (by omega) hx' (by rw [show - -x = x by omega]; exact hx)

/-- What sorts t and strikes the doubles has opposite neighbours just where t has opposite literals. -/
theorem term_opp {t d : List Int} (hp : d.Perm t) (hS : ∀ i j, i < j → j < d.length → litLt (d.getD j 0) (d.getD i 0) = false) (h0 : ∀ x ∈ t, x ≠ 0) : oppL (Lib.compact d) = !(t.all fun l => !t.contains (-l)) := by
  have hmem : ∀ x, x ∈ d ↔ x ∈ t := fun x => hp.mem_iff
  have hall : (t.all fun l => !t.contains (-l)) = true ↔ ¬ ∃ x, x ∈ t ∧ -x ∈ t := by
    rw [List.all_eq_true]
    constructor
    · rintro h ⟨x, h1, h2⟩
      have := h x h1
      simp [h2] at this
    · intro h x hx
      simp only [Bool.not_eq_true', List.contains_eq_mem, decide_eq_false_iff_not]
      exact fun h2 => h ⟨x, hx, h2⟩
  have hc : oppL (Lib.compact d) = true ↔ ∃ x, x ∈ t ∧ -x ∈ t := by
    by_cases hz : d.length = 0
    · have : d = [] := List.length_eq_zero_iff.1 hz
      subst this
      have ht : t = [] := hp.nil_eq.symm
      subst ht
      constructor
      · intro h; cases h
      · rintro ⟨x, h, _⟩; cases h
    · have hgd : ∀ j, d.toArray[j]! = d.getD j 0 := fun j => by
        by_cases hj : j < d.length
        · rw [getElem!_pos d.toArray j (by simpa using hj)]; simp [List.getD, hj]
        · rw [getElem!_neg d.toArray j (by simpa using hj)]; simp [List.getD, List.getElem?_eq_none (Nat.le_of_not_lt hj)]
      obtain ⟨p1, _, p3⟩ := compact_inv d.toArray (fun i j h1 h2 => by rw [hgd, hgd]; exact hS i j h1 (by simpa using h2)) d.length (by omega) (by simp)
      have hm : ∀ x, x ∈ Lib.compact d ↔ x ∈ t := fun x => by
        rw [← hmem]
        unfold Lib.compact
        rw [p3, List.mem_iff_getElem]
        constructor
        · rintro ⟨j, hj, rfl⟩; exact ⟨j, hj, by rw [hgd, getD_lt hj]⟩
        · rintro ⟨j, hj, rfl⟩; exact ⟨j, hj, by rw [hgd, getD_lt hj]⟩
      rw [show oppL (Lib.compact d) = true ↔ ∃ x, x ∈ Lib.compact d ∧ -x ∈ Lib.compact d from opp_iff p1 (fun x hx => h0 x ((hm x).1 hx))]
      constructor
      · rintro ⟨x, h1, h2⟩; exact ⟨x, (hm x).1 h1, (hm _).1 h2⟩
      · rintro ⟨x, h1, h2⟩; exact ⟨x, (hm x).2 h1, (hm _).2 h2⟩
  rw [Bool.eq_iff_iff, hc, Bool.not_eq_true', Bool.eq_false_iff, Ne, hall]
  exact Decidable.not_not.symm
end Go.Proofs.YtchamkbnapjidaaDoor
