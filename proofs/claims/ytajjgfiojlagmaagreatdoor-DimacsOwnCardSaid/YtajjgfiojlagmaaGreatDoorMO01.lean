/- Texts of this claim, joined: Num. -/
import Derived.WalkKit

/- Plain numbers: digits to a base, the lowest one first. Nothing here knows the program. -/
namespace Go.Proofs.YtajjgfiojlagmaaGreatDoor
namespace Num

def digs (B : Nat) : List Nat → Nat
  | [] => 0
  | d :: ds => d + B * digs B ds

def digitsF (B : Nat) : Nat → Nat → List Nat
  | 0, _ => []
  | f + 1, n => if n = 0 then [] else n % B :: digitsF B f (n / B)

def digitsOf (B n : Nat) : List Nat := digitsF B n n

theorem digitsF_fuel {B : Nat} (hB : 2 ≤ B) : ∀ (f g n : Nat), n ≤ f → n ≤ g → digitsF B f n = digitsF B g n
  | 0, 0, _, _, _ => rfl
  | 0, g + 1, n, h, _ => by obtain rfl : n = 0 := by omega
                            simp [digitsF]
  | f + 1, 0, n, _, h => by obtain rfl : n = 0 := by omega
                            simp [digitsF]
  | f + 1, g + 1, n, hf, hg => by
    simp only [digitsF]
    split
    · rfl
    · rename_i hn
      have : n / B < n := Nat.div_lt_self (by omega) (by omega)
      rw [digitsF_fuel hB f g (n / B) (by omega) (by omega)]

theorem digitsOf_zero (B : Nat) : digitsOf B 0 = [] := rfl

theorem digitsOf_pos {B n : Nat} (hB : 2 ≤ B) (hn : 0 < n) : digitsOf B n = n % B :: digitsOf B (n / B) := by
  unfold digitsOf
  obtain ⟨m, rfl⟩ : ∃ m, n = m + 1 := ⟨n - 1, by omega⟩
  have h1 : (m + 1) / B < m + 1 := Nat.div_lt_self (by omega) (by omega)
  conv => lhs; unfold digitsF
  rw [if_neg (by omega), digitsF_fuel hB m ((m + 1) / B) _ (by omega) (Nat.le_refl _)]

theorem digs_nil (B : Nat) : digs B [] = 0 := rfl
theorem digs_cons (B d : Nat) (l : List Nat) : digs B (d :: l) = d + B * digs B l := rfl

theorem digs_append (B : Nat) : ∀ (xs ys : List Nat), digs B (xs ++ ys) = digs B xs + B ^ xs.length * digs B ys
  | [], ys => by simp [digs]
  | x :: xs, ys => by
    simp only [List.cons_append, digs, digs_append B xs ys, List.length_cons, Nat.pow_succ]
    rw [Nat.mul_add, Nat.mul_comm (B ^ xs.length) B, Nat.mul_assoc, Nat.add_assoc]

theorem digs_snoc (B : Nat) (xs : List Nat) (d : Nat) : digs B (xs ++ [d]) = digs B xs + B ^ xs.length * d := by
  rw [digs_append]; simp [digs]

theorem digs_zeros (B : Nat) : ∀ k, digs B (List.replicate k 0) = 0
  | 0 => rfl
  | k + 1 => by simp [List.replicate_succ, digs, digs_zeros B k]

def AllLt (B : Nat) (l : List Nat) : Prop := ∀ d ∈ l, d < B

theorem AllLt.nil (B : Nat) : AllLt B [] := by intro d h; cases h
theorem AllLt.cons {B d : Nat} {l : List Nat} (h : d < B) (hl : AllLt B l) : AllLt B (d :: l) := by
  intro x hx; rcases List.mem_cons.1 hx with rfl | h'
  · exact h
  · exact hl x h'
theorem AllLt.append {B : Nat} {l m : List Nat} (hl : AllLt B l) (hm : AllLt B m) : AllLt B (l ++ m) := by
  intro x hx; rcases List.mem_append.1 hx with h | h
  · exact hl x h
  · exact hm x h
theorem AllLt.take {B : Nat} {l : List Nat} (hl : AllLt B l) (k : Nat) : AllLt B (l.take k) := fun x hx => hl x (List.mem_of_mem_take hx)
theorem AllLt.drop {B : Nat} {l : List Nat} (hl : AllLt B l) (k : Nat) : AllLt B (l.drop k) := fun x hx => hl x (List.mem_of_mem_drop hx)
theorem AllLt.get {B : Nat} {l : List Nat} (hl : AllLt B l) {i d : Nat} (h : l[i]? = some d) : d < B := hl d (List.mem_of_getElem? h)
theorem AllLt.getD {B : Nat} (hB : 0 < B) {l : List Nat} (hl : AllLt B l) (i : Nat) : l.getD i 0 < B := by
  cases h : l[i]? with
  | none => simp [List.getD, h, hB]
  | some d => simp only [List.getD, h, Option.getD_some]; exact hl.get h
theorem AllLt.set {B : Nat} {l : List Nat} (hl : AllLt B l) (i d : Nat) (hd : d < B) : AllLt B (l.set i d) := by
  intro x hx
  rcases List.mem_or_eq_of_mem_set hx with h | rfl
  · exact hl x h
  · exact hd
theorem AllLt.zeros {B : Nat} (hB : 0 < B) (k : Nat) : AllLt B (List.replicate k 0) := by
  intro x hx; rw [List.eq_of_mem_replicate hx]; exact hB

theorem digs_lt {B : Nat} (hB : 0 < B) : ∀ {l : List Nat}, AllLt B l → digs B l < B ^ l.length
  | [], _ => by simp [digs]
  | d :: l, h => by
    have h1 : d < B := h d (by simp)
    have h2 := digs_lt hB (l := l) (fun x hx => h x (by simp [hx]))
    simp only [digs, List.length_cons, Nat.pow_succ]
    calc d + B * digs B l < B + B * digs B l := by omega
      _ = B * (digs B l + 1) := by rw [Nat.mul_add]; omega
      _ ≤ B * B ^ l.length := Nat.mul_le_mul_left _ h2
      _ = B ^ l.length * B := Nat.mul_comm _ _

theorem digs_digitsOf {B : Nat} (hB : 2 ≤ B) (n : Nat) : digs B (digitsOf B n) = n := by
  induction n using Nat.strongRecOn with
  | _ n ih =>
    by_cases h : n = 0
    · subst h; rfl
    · have h1 : n / B < n := Nat.div_lt_self (by omega) (by omega)
      rw [digitsOf_pos hB (by omega), digs, ih _ h1]
      exact Nat.mod_add_div n B

theorem digitsOf_lt {B : Nat} (hB : 2 ≤ B) (n : Nat) : AllLt B (digitsOf B n) := by
  induction n using Nat.strongRecOn with
  | _ n ih =>
    by_cases h : n = 0
    · subst h; exact AllLt.nil B
    · have h1 : n / B < n := Nat.div_lt_self (by omega) (by omega)
      rw [digitsOf_pos hB (by omega)]
      exact AllLt.cons (Nat.mod_lt _ (by omega)) (ih _ h1)

def Canon (l : List Nat) : Prop := l.getLast? ≠ some 0

theorem Canon.nil : Canon [] := by simp [Canon]
theorem Canon.tail {d : Nat} {l : List Nat} (h : Canon (d :: l)) : Canon l := by
  cases l with
  | nil => exact Canon.nil
  | cons x l => simpa [Canon, List.getLast?_cons_cons] using h

theorem digs_pos_of_canon {B : Nat} (hB : 0 < B) : ∀ {l : List Nat}, Canon l → l ≠ [] → 0 < digs B l
  | [], _, h => absurd rfl h
  | [d], h, _ => by simp only [Canon, List.getLast?_singleton, ne_eq, Option.some.injEq] at h; simp [digs]; omega
  | d :: e :: l, h, _ => by
    have := digs_pos_of_canon hB (l := e :: l) h.tail (by simp)
    rw [digs]
    have := Nat.mul_pos hB this
    omega

theorem digitsOf_digs {B : Nat} (hB : 2 ≤ B) : ∀ {l : List Nat}, AllLt B l → Canon l → digitsOf B (digs B l) = l
  | [], _, _ => rfl
  | d :: l, hl, hc => by
    have hd : d < B := hl d (by simp)
    have hp := digs_pos_of_canon (B := B) (by omega) hc (by simp)
    rw [digitsOf_pos hB hp]
    have e1 : digs B (d :: l) % B = d := by rw [digs, Nat.add_mul_mod_self_left, Nat.mod_eq_of_lt hd]
    have e2 : digs B (d :: l) / B = digs B l := by rw [digs, Nat.add_mul_div_left _ _ (by omega), Nat.div_eq_of_lt hd, Nat.zero_add]
    rw [e1, e2, digitsOf_digs hB (fun x hx => hl x (by simp [hx])) hc.tail]

theorem digitsOf_canon {B : Nat} (hB : 2 ≤ B) (n : Nat) : Canon (digitsOf B n) := by
  induction n using Nat.strongRecOn with
  | _ n ih =>
    by_cases h : n = 0
    · subst h; exact Canon.nil
    · have h1 : n / B < n := Nat.div_lt_self (by omega) (by omega)
      rw [digitsOf_pos hB (by omega)]
      by_cases h2 : n / B = 0
      · rw [h2, digitsOf_zero]
        have : n % B = n := Nat.mod_eq_of_lt (by rcases Nat.div_eq_zero_iff.1 h2 with h | h <;> omega)
        simp [Canon, this, h]
      · have := ih _ h1
        rw [digitsOf_pos hB (n := n / B) (Nat.pos_of_ne_zero h2)] at this ⊢
        simpa [Canon, List.getLast?_cons_cons] using this

theorem digitsOf_eq_nil {B n : Nat} (hB : 2 ≤ B) : digitsOf B n = [] ↔ n = 0 := by
  constructor
  · intro h
    by_cases h0 : n = 0
    · exact h0
    · rw [digitsOf_pos hB (by omega)] at h; cases h
  · rintro rfl; rfl

theorem digitsOf_inj {B a b : Nat} (hB : 2 ≤ B) (h : digitsOf B a = digitsOf B b) : a = b := by
  have := congrArg (digs B) h
  rwa [digs_digitsOf hB, digs_digitsOf hB] at this

theorem lt_pow_length {B : Nat} (hB : 2 ≤ B) (n : Nat) : n < B ^ (digitsOf B n).length := by
  have := digs_lt (B := B) (by omega) (digitsOf_lt hB n)
  rwa [digs_digitsOf hB] at this

theorem length_le_of_lt_pow {B : Nat} (hB : 2 ≤ B) : ∀ (k n : Nat), n < B ^ k → (digitsOf B n).length ≤ k
  | 0, n, h => by obtain rfl : n = 0 := by simpa using h
                  simp [digitsOf_zero]
  | k + 1, n, h => by
    by_cases h0 : n = 0
    · subst h0; simp [digitsOf_zero]
    · rw [digitsOf_pos hB (by omega)]
      have : n / B < B ^ k := by rw [Nat.div_lt_iff_lt_mul (by omega), ← Nat.pow_succ]; exact h
      have := length_le_of_lt_pow hB k _ this
      simpa using this

theorem pow_le_of_length {B : Nat} (hB : 2 ≤ B) (n k : Nat) (h : k < (digitsOf B n).length) : B ^ k ≤ n := by
  rcases Nat.lt_or_ge n (B ^ k) with h1 | h1
  · have := length_le_of_lt_pow hB k n h1; omega
  · exact h1

theorem digitsOf_take {B : Nat} (hB : 2 ≤ B) {l : List Nat} (hl : AllLt B l) {k : Nat} (hz : ∀ i, k ≤ i → l.getD i 0 = 0) (hk : k = 0 ∨ l.getD (k - 1) 0 ≠ 0) :
    l.take k = digitsOf B (digs B l) := by
  have hs : digs B l = digs B (l.take k) := by
    have hd : l.drop k = List.replicate (l.length - k) 0 := by
      apply List.ext_getElem
      · simp
      · intro i h1 h2
        have := hz (k + i) (by omega)
        simp only [List.length_drop] at h1
        rw [List.getD_eq_getElem?_getD, List.getElem?_eq_getElem (by omega)] at this
        simpa using this
    conv => lhs; rw [← List.take_append_drop k l, digs_append, hd, digs_zeros]
    simp
  rw [hs, digitsOf_digs hB (hl.take k)]
  unfold Canon
  rcases hk with rfl | hk
  · simp
  · by_cases h0 : k = 0
    · subst h0; simp
    · have hkl : k - 1 < l.length := by
        rcases Nat.lt_or_ge (k - 1) l.length with h | h
        · exact h
        · rw [List.getD_eq_getElem?_getD, List.getElem?_eq_none h] at hk; exact absurd rfl hk
      rw [List.getLast?_take, if_neg h0, List.getElem?_eq_getElem hkl]
      rw [List.getD_eq_getElem?_getD, List.getElem?_eq_getElem hkl] at hk
      simpa using hk

end Num
end Go.Proofs.YtajjgfiojlagmaaGreatDoor
