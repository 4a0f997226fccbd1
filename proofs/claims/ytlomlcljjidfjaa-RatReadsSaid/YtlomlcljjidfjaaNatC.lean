/- Carries and borrows along digits: plain laws. -/
import Derived.Test.YtlomlcljjidfjaaNatB
namespace Go.Proofs.Ytlomlcljjidfjaa
namespace Num

/-! ### Division by one word, from the highest digit down -/
def shr (B by_ : Nat) : List Nat → List Nat × Nat
  | [] => ([], 0)
  | d :: ds => let r := shr B by_ ds; ((r.2 * B + d) / by_ :: r.1, (r.2 * B + d) % by_)

theorem shr_length (B b : Nat) : ∀ l, (shr B b l).1.length = l.length
  | [] => rfl
  | d :: ds => by simp [shr, shr_length B b ds]

theorem shr_spec (B b : Nat) (hb : 0 < b) : ∀ l, digs B l = digs B (shr B b l).1 * b + (shr B b l).2 ∧ (shr B b l).2 < b
  | [] => by simp [shr, digs, hb]
  | d :: ds => by
    obtain ⟨h1, h2⟩ := shr_spec B b hb ds
    simp only [shr, digs]
    refine ⟨?_, Nat.mod_lt _ hb⟩
    have h3 := Nat.div_add_mod ((shr B b ds).2 * B + d) b
    generalize ((shr B b ds).2 * B + d) / b = q at *
    generalize ((shr B b ds).2 * B + d) % b = r at *
    rw [h1]
    grind

theorem shr_lt (B b : Nat) (hb : 0 < b) : ∀ l, AllLt B l → AllLt B (shr B b l).1
  | [], _ => AllLt.nil B
  | d :: ds, h => by
    have h2 := (shr_spec B b hb ds).2
    have hd : d < B := h d (by simp)
    refine AllLt.cons ?_ (shr_lt B b hb ds (fun x hx => h x (by simp [hx])))
    rw [Nat.div_lt_iff_lt_mul hb]
    calc (shr B b ds).2 * B + d < (shr B b ds).2 * B + B := by omega
      _ = ((shr B b ds).2 + 1) * B := by rw [Nat.add_mul, Nat.one_mul]
      _ ≤ b * B := Nat.mul_le_mul_right _ h2
      _ = B * b := Nat.mul_comm _ _

theorem shr_digs (B b : Nat) (hb : 0 < b) (l : List Nat) : digs B (shr B b l).1 = digs B l / b ∧ (shr B b l).2 = digs B l % b := by
  obtain ⟨h1, h2⟩ := shr_spec B b hb l
  rw [h1]
  constructor
  · rw [Nat.mul_comm, Nat.mul_add_div hb, Nat.div_eq_of_lt h2, Nat.add_zero]
  · rw [Nat.mul_comm, Nat.mul_add_mod, Nat.mod_eq_of_lt h2]

/-! ### A carry, from the lowest digit up -/
def cl (B : Nat) (c : Nat) : List Nat → List Nat × Nat
  | [] => ([], c)
  | t :: ts => let r := cl B ((c + t) / B) ts; ((c + t) % B :: r.1, r.2)

theorem cl_length (B : Nat) : ∀ (l : List Nat) (c : Nat), (cl B c l).1.length = l.length
  | [], _ => rfl
  | t :: ts, c => by simp [cl, cl_length B ts]

theorem cl_digs (B : Nat) : ∀ (l : List Nat) (c : Nat), digs B (cl B c l).1 + B ^ l.length * (cl B c l).2 = c + digs B l
  | [], c => by simp [cl, digs]
  | t :: ts, c => by
    have h := cl_digs B ts ((c + t) / B)
    have h3 := Nat.div_add_mod (c + t) B
    simp only [cl, digs, List.length_cons, Nat.pow_succ]
    generalize (cl B ((c + t) / B) ts).2 = z at *
    generalize digs B (cl B ((c + t) / B) ts).1 = y at *
    generalize (c + t) / B = q at *
    generalize (c + t) % B = r at *
    generalize B ^ ts.length = p at *
    grind

theorem cl_lt (B : Nat) (hB : 0 < B) : ∀ (l : List Nat) (c : Nat), AllLt B (cl B c l).1
  | [], _ => AllLt.nil B
  | _ :: ts, c => AllLt.cons (Nat.mod_lt _ hB) (cl_lt B hB ts _)

theorem cl_snoc (B : Nat) : ∀ (l : List Nat) (c t : Nat), cl B c (l ++ [t]) = ((cl B c l).1 ++ [((cl B c l).2 + t) % B], ((cl B c l).2 + t) / B)
  | [], c, t => rfl
  | x :: xs, c, t => by simp [cl, cl_snoc B xs]

/-- The carry stays below the base. -/
theorem cl_carry (B : Nat) (hB : 0 < B) : ∀ (l : List Nat) (c : Nat), c < B → (∀ t ∈ l, t ≤ B * (B - 1)) → (cl B c l).2 < B
  | [], c, hc, _ => hc
  | t :: ts, c, hc, h => by
    refine cl_carry B hB ts _ ?_ (fun x hx => h x (by simp [hx]))
    have ht := h t (by simp)
    rw [Nat.div_lt_iff_lt_mul hB]
    have : B * (B - 1) + B = B * B := by
      obtain ⟨b, rfl⟩ : ∃ b, B = b + 1 := ⟨B - 1, by omega⟩
      simp [Nat.mul_add]
    omega

theorem cl_take_succ (B c : Nat) (l : List Nat) (k : Nat) (h : k < l.length) :
    cl B c (l.take (k + 1)) = ((cl B c (l.take k)).1 ++ [((cl B c (l.take k)).2 + l.getD k 0) % B], ((cl B c (l.take k)).2 + l.getD k 0) / B) := by
  rw [List.take_succ_eq_append_getElem h, cl_snoc]
  simp [List.getD_eq_getElem?_getD, h]

/-- A list whose head part has been done. -/
theorem set_done {done : List Nat} {xs : List Nat} {k v : Nat} (hd : done.length = k) (hk : k < xs.length) :
    (done ++ xs.drop k).set k v = done ++ [v] ++ xs.drop (k + 1) := by
  rw [List.set_append_right _ _ (by omega), hd, Nat.sub_self, List.drop_eq_getElem_cons hk, List.set_cons_zero, List.append_assoc]
  rfl

theorem get_done {done xs : List Nat} {k i : Nat} (hd : done.length = k) (hi : k ≤ i) : (done ++ xs.drop k)[i]? = xs[i]? := by
  rw [List.getElem?_append_right (by omega), List.getElem?_drop, hd]
  congr 1; omega

theorem digs_map_mul (B f : Nat) : ∀ l, digs B (l.map (· * f)) = digs B l * f
  | [] => by simp [digs]
  | d :: l => by simp only [List.map_cons, digs, digs_map_mul B f l]; grind

/-- Two lists added digit by digit. -/
def addL (xs ys : List Nat) : List Nat := List.zipWith (· + ·) xs ys
theorem digs_addL (B : Nat) : ∀ (xs ys : List Nat), xs.length = ys.length → digs B (addL xs ys) = digs B xs + digs B ys
  | [], [], _ => rfl
  | x :: xs, y :: ys, h => by
    simp only [addL, List.zipWith_cons_cons, digs]
    have := digs_addL B xs ys (by simpa using h)
    unfold addL at this
    rw [this]; grind
theorem addL_length (xs ys : List Nat) (h : xs.length = ys.length) : (addL xs ys).length = xs.length := by simp [addL, h]
theorem addL_getD (xs ys : List Nat) (h : xs.length = ys.length) (k : Nat) : (addL xs ys).getD k 0 = xs.getD k 0 + ys.getD k 0 := by
  simp only [addL, List.getD_eq_getElem?_getD, List.getElem?_zipWith]
  by_cases hk : k < xs.length
  · simp [hk, show k < ys.length by omega]
  · simp [List.getElem?_eq_none (show xs.length ≤ k by omega), List.getElem?_eq_none (show ys.length ≤ k by omega)]
theorem addL_le {B : Nat} {xs ys : List Nat} (hB : 2 ≤ B) (hx : AllLt B xs) (hy : AllLt B ys) : ∀ t ∈ addL xs ys, t ≤ B * (B - 1) := by
  intro t ht
  unfold addL at ht
  rw [List.mem_iff_getElem?] at ht
  obtain ⟨i, hi⟩ := ht
  rw [List.getElem?_zipWith] at hi
  have hb : 2 * (B - 1) ≤ B * (B - 1) := Nat.mul_le_mul_right _ hB
  split at hi
  · rename_i a b h1 h2
    have := hx.get h1
    have := hy.get h2
    simp at hi
    omega
  · cases hi

end Num
end Go.Proofs.Ytlomlcljjidfjaa
